/- For every argument hoardlaw13.LirsLoads returns true, and each argument reads behind the call as it read before. No condition. -/
import Derived.Test.YtgmhoenmhnlojaaRows
import Derived.Test.YtgmhoenmhnlojaaLirsLaws4
import Derived.Test.YtgmhoenmhnlojaaOpen
set_option linter.unusedVariables false
set_option linter.unusedSimpArgs false
set_option linter.unnecessarySimpa false
set_option linter.unusedSectionVars false
namespace Go.Proofs.Ytgmhoenmhnlojaa
open Go.ChangeShapes Go.WideShapes Go.RowKit Go.ChangeMaps Go.Hb

set_option maxRecDepth 100000 in
theorem lirsLoads_lifted (os : Os) (started : os.Started) (H : Type) (enc : TypeId × Value → H) :
    ReturnsInHanded {} Try.checked os 9 .any (Rows.lirsLoadsSpec.pre6 enc Try.prog Try.f9 Rows.lirsLoadsRow.domain false) (Rows.lirsLoadsSpec.post enc Try.prog Try.f9 false true false false) := by
  refine law_lifted (C := Try.checked) (by kernel_rfl) started (by kernel_rfl) Try.func9
    (ChangeSpec.witness6 (enc := enc) (C := Try.checked) (s := Rows.lirsLoadsSpec) false ⟨#[], #[.int .i64 0, .slice none 0 0, .slice none 0 0], []⟩ 8 (by kernel_rfl) (by kernel_rfl) (by kernel_rfl) (by kernel_rfl)) rfl rfl (by kernel_rfl) (by kernel_rfl) ?_
  intro W base args ds p hval hA hwt
  obtain ⟨v0, vs0, d0, ds0, p0, q0, hargs, rfl, rfl, h0, r0⟩ := trodAll_cons (ts := [_, _]) hA
  obtain ⟨v1, vs1, d1, ds1, p1, q1, rfl, rfl, rfl, h1, r1⟩ := trodAll_cons r0
  obtain ⟨v2, vs2, d2, ds2, p2, q2, rfl, rfl, rfl, h2, r2⟩ := trodAll_cons r1
  obtain ⟨rfl, rfl, rfl⟩ := trodAll_nil r2
  obtain rfl : args = #[v0, v1, v2] := by cases args; simp_all
  obtain ⟨a0, rfl, rfl, rfl, w0⟩ := open_int (k := .i64) (by kernel_rfl) (hval 0 _ v0 rfl rfl) h0
  obtain ⟨s1, rows1, rfl, hn1, hm1, hr1, ho1⟩ := open_slc (e := 43) (ks := [.int .i64, .str]) (by kernel_rfl) (by kernel_rfl) (by kernel_rfl) (by decide) (hval 1 _ v1 rfl rfl) h1 (light_each hwt (j := 1) rfl rfl)
  obtain ⟨l1, hr1, hl1, hw1⟩ := arg_rec act13R act13ok of_act13 (by decide) (by decide) hr1 ho1
  have hc1 : l1.length * 24 ≤ reachBytes := by rw [hl1, ← hn1]; have e : Try.checked.prog.bytesOf 43 = 24 := (by kernel_rfl); rw [e] at hm1; exact hm1
  obtain ⟨s2, rows2, rfl, hn2, hm2, hr2, ho2⟩ := open_slc (e := 9) (ks := [.str]) (by kernel_rfl) (by kernel_rfl) (by kernel_rfl) (by decide) (hval 2 _ v2 rfl rfl) h2 (light_each hwt (j := 2) rfl rfl)
  obtain ⟨l2, hr2, hl2, hw2⟩ := arg_rec Rec.str okStr of_str (by decide) (by decide) hr2 ho2
  have hc2 : l2.length * 16 ≤ reachBytes := by rw [hl2, ← hn2]; have e : Try.checked.prog.bytesOf 9 = 16 := (by kernel_rfl); rw [e] at hm2; exact hm2
  exact ⟨⟨rfl, rfl, rfl⟩, lloads_walk (acts := l1) (ks := l2)⟩

/-- what is claimed -/
theorem lirsLoads : Rows.LirsLoadsSaid :=
  OpenClaim.holds_of_wide 9 Try.f9 rfl rfl rfl rfl rfl rfl rfl ⟨rfl, rfl, rfl, rfl, rfl⟩ rfl rfl rfl rfl rfl (by kernel_rfl) Try.func9 (by kernel_rfl)
    (of_decide_eq_true (by kernel_rfl)) (by unfold Func.isWrapper; first | (rw [if_pos (by decide +kernel)]; kernel_rfl) | (rw [if_neg (by decide +kernel)]; exact ⟨rfl, rfl⟩))
    (fun os started H enc _ => lirsLoads_lifted os started H enc)
end Go.Proofs.Ytgmhoenmhnlojaa
