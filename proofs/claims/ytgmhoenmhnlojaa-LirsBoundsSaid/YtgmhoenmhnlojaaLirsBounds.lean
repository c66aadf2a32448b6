/- For every argument hoardlaw13.LirsBounds returns true, and each argument reads behind the call as it read before. No condition. -/
import Derived.Test.YtgmhoenmhnlojaaRows
import Derived.Test.YtgmhoenmhnlojaaLirsLaws6
import Derived.Test.YtgmhoenmhnlojaaOpen
set_option linter.unusedVariables false
set_option linter.unusedSimpArgs false
set_option linter.unnecessarySimpa false
set_option linter.unusedSectionVars false
namespace Go.Proofs.Ytgmhoenmhnlojaa
open Go.ChangeShapes Go.WideShapes Go.RowKit Go.ChangeMaps Go.Hb

set_option maxRecDepth 100000 in
theorem lirsBounds_lifted (os : Os) (started : os.Started) (H : Type) (enc : TypeId × Value → H) :
    ReturnsInHanded {} Try.checked os 13 .any (Rows.lirsBoundsSpec.pre6 enc Try.prog Try.f13 Rows.lirsBoundsRow.domain false) (Rows.lirsBoundsSpec.post enc Try.prog Try.f13 false true false false) := by
  refine law_lifted (C := Try.checked) (by kernel_rfl) started (by kernel_rfl) Try.func13
    (ChangeSpec.witness6 (enc := enc) (C := Try.checked) (s := Rows.lirsBoundsSpec) false ⟨#[], #[.int .i64 0, .slice none 0 0], []⟩ 8 (by kernel_rfl) (by kernel_rfl) (by kernel_rfl) (by kernel_rfl)) rfl rfl (by kernel_rfl) (by kernel_rfl) ?_
  intro W base args ds p hval hA hwt
  obtain ⟨v0, vs0, d0, ds0, p0, q0, hargs, rfl, rfl, h0, r0⟩ := trodAll_cons (ts := [_]) hA
  obtain ⟨v1, vs1, d1, ds1, p1, q1, rfl, rfl, rfl, h1, r1⟩ := trodAll_cons r0
  obtain ⟨rfl, rfl, rfl⟩ := trodAll_nil r1
  obtain rfl : args = #[v0, v1] := by cases args; simp_all
  obtain ⟨a0, rfl, rfl, rfl, w0⟩ := open_int (k := .i64) (by kernel_rfl) (hval 0 _ v0 rfl rfl) h0
  obtain ⟨s1, rows1, rfl, hn1, hm1, hr1, ho1⟩ := open_slc (e := 43) (ks := [.int .i64, .str]) (by kernel_rfl) (by kernel_rfl) (by kernel_rfl) (by decide) (hval 1 _ v1 rfl rfl) h1 (light_each hwt (j := 1) rfl rfl)
  obtain ⟨l1, hr1, hl1, hw1⟩ := arg_rec act13R act13ok of_act13 (by decide) (by decide) hr1 ho1
  have hc1 : l1.length * 24 ≤ reachBytes := by rw [hl1, ← hn1]; have e : Try.checked.prog.bytesOf 43 = 24 := (by kernel_rfl); rw [e] at hm1; exact hm1
  exact ⟨⟨rfl, rfl, rfl⟩, lbounds_walk (acts := l1)⟩

/-- what is claimed -/
theorem lirsBounds : Rows.LirsBoundsSaid :=
  OpenClaim.holds_of_wide 13 Try.f13 rfl rfl rfl rfl rfl rfl rfl ⟨rfl, rfl, rfl, rfl, rfl⟩ rfl rfl rfl rfl rfl (by kernel_rfl) Try.func13 (by kernel_rfl)
    (of_decide_eq_true (by kernel_rfl)) (by unfold Func.isWrapper; first | (rw [if_pos (by decide +kernel)]; kernel_rfl) | (rw [if_neg (by decide +kernel)]; exact ⟨rfl, rfl⟩))
    (fun os started H enc _ => lirsBounds_lifted os started H enc)
end Go.Proofs.Ytgmhoenmhnlojaa
