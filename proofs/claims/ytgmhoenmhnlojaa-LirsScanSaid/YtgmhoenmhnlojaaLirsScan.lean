/- For every argument hoardlaw13.LirsScan returns true, and each argument reads behind the call as it read before. No condition. -/
import Derived.Test.YtgmhoenmhnlojaaRows
import Derived.Test.YtgmhoenmhnlojaaLirsLaws7
import Derived.Test.YtgmhoenmhnlojaaOpen
import Derived.Test.YtgmhoenmhnlojaaOpen2
set_option linter.unusedVariables false
set_option linter.unusedSimpArgs false
set_option linter.unnecessarySimpa false
set_option linter.unusedSectionVars false
namespace Go.Proofs.Ytgmhoenmhnlojaa
open Go.ChangeShapes Go.WideShapes Go.RowKit Go.ChangeMaps Go.Hb

set_option maxRecDepth 100000 in
theorem lirsScan_lifted (os : Os) (started : os.Started) (H : Type) (enc : TypeId × Value → H) :
    ReturnsInHanded {} Try.checked os 6 .any (Rows.lirsScanSpec.pre6 enc Try.prog Try.f6 Rows.lirsScanRow.domain false) (Rows.lirsScanSpec.post enc Try.prog Try.f6 false true false false) := by
  refine law_lifted (C := Try.checked) (by kernel_rfl) started (by kernel_rfl) Try.func6
    (ChangeSpec.witness6 (enc := enc) (C := Try.checked) (s := Rows.lirsScanSpec) false ⟨#[], #[.int .i64 0, .slice none 0 0], []⟩ 8 (by kernel_rfl) (by kernel_rfl) (by kernel_rfl) (by kernel_rfl)) rfl rfl (by kernel_rfl) (by kernel_rfl) ?_
  intro W base args ds p hval hA hwt
  obtain ⟨v0, vs0, d0, ds0, p0, q0, hargs, rfl, rfl, h0, r0⟩ := trodAll_cons (ts := [_]) hA
  obtain ⟨v1, vs1, d1, ds1, p1, q1, rfl, rfl, rfl, h1, r1⟩ := trodAll_cons r0
  obtain ⟨rfl, rfl, rfl⟩ := trodAll_nil r1
  obtain rfl : args = #[v0, v1] := by cases args; simp_all
  obtain ⟨a0, rfl, rfl, rfl, w0⟩ := open_int (k := .i64) (by kernel_rfl) (hval 0 _ v0 rfl rfl) h0
  obtain ⟨s1, rows1, rfl, hn1, hm1, hr1, ho1⟩ := open_slc (e := 9) (ks := [.str]) (by kernel_rfl) (by kernel_rfl) (by kernel_rfl) (by decide) (hval 1 _ v1 rfl rfl) h1 (light_each hwt (j := 1) rfl rfl)
  obtain ⟨l1, hr1, hl1, hw1⟩ := arg_rec Rec.str okStr of_str (by decide) (by decide) hr1 ho1
  have hc1 : l1.length * 16 ≤ reachBytes := by rw [hl1, ← hn1]; have e : Try.checked.prog.bytesOf 9 = 16 := (by kernel_rfl); rw [e] at hm1; exact hm1
  exact ⟨⟨rfl, rfl, rfl⟩, lscan_walk (ks := l1) (slc_cap (e := 9) (by kernel_rfl) h1)⟩

/-- what is claimed -/
theorem lirsScan : Rows.LirsScanSaid :=
  OpenClaim.holds_of_wide 6 Try.f6 rfl rfl rfl rfl rfl rfl rfl ⟨rfl, rfl, rfl, rfl, rfl⟩ rfl rfl rfl rfl rfl (by kernel_rfl) Try.func6 (by kernel_rfl)
    (of_decide_eq_true (by kernel_rfl)) (by unfold Func.isWrapper; first | (rw [if_pos (by decide +kernel)]; kernel_rfl) | (rw [if_neg (by decide +kernel)]; exact ⟨rfl, rfl⟩))
    (fun os started H enc _ => lirsScan_lifted os started H enc)
end Go.Proofs.Ytgmhoenmhnlojaa
