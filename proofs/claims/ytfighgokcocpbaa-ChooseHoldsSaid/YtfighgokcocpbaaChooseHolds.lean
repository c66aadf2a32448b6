/- For every argument hoardlaw20.ChooseHolds returns true, and each argument reads behind the call as it read before. No condition. -/
import Derived.Test.YtfighgokcocpbaaRows
import Derived.Test.YtfighgokcocpbaaChooseLaws
import Derived.Test.YtfighgokcocpbaaOpen
set_option linter.unusedVariables false
set_option linter.unusedSimpArgs false
set_option linter.unnecessarySimpa false
set_option linter.unusedSectionVars false
namespace Go.Proofs.Ytfighgokcocpbaa
open Go.ChangeShapes Go.WideShapes Go.RowKit Go.ChangeMaps Go.Hb

set_option maxRecDepth 100000 in
theorem chooseHolds_lifted (os : Os) (started : os.Started) (H : Type) (enc : TypeId × Value → H) :
    ReturnsInHanded {} Try.checked os 3 .any (Rows.chooseHoldsSpec.pre6 enc Try.prog Try.f3 Rows.chooseHoldsRow.domain false) (Rows.chooseHoldsSpec.post enc Try.prog Try.f3 false true false false) := by
  refine law_lifted (C := Try.checked) (by kernel_rfl) started (by kernel_rfl) Try.func3
    (ChangeSpec.witness6 (enc := enc) (C := Try.checked) (s := Rows.chooseHoldsSpec) false ⟨#[], #[.int .i64 0, .int .i64 0, .slice none 0 0], []⟩ 8 (by kernel_rfl) (by kernel_rfl) (by kernel_rfl) (by kernel_rfl)) rfl rfl (by kernel_rfl) (by kernel_rfl) ?_
  intro W base args ds p hval hA hwt
  obtain ⟨v0, vs0, d0, ds0, p0, q0, hargs, rfl, rfl, h0, r0⟩ := trodAll_cons (ts := [_, _]) hA
  obtain ⟨v1, vs1, d1, ds1, p1, q1, rfl, rfl, rfl, h1, r1⟩ := trodAll_cons r0
  obtain ⟨v2, vs2, d2, ds2, p2, q2, rfl, rfl, rfl, h2, r2⟩ := trodAll_cons r1
  obtain ⟨rfl, rfl, rfl⟩ := trodAll_nil r2
  obtain rfl : args = #[v0, v1, v2] := by cases args; simp_all
  obtain ⟨a0, rfl, rfl, rfl, w0⟩ := open_int (k := .i64) (by kernel_rfl) (hval 0 _ v0 rfl rfl) h0
  obtain ⟨a1, rfl, rfl, rfl, w1⟩ := open_int (k := .i64) (by kernel_rfl) (hval 1 _ v1 rfl rfl) h1
  obtain ⟨s2, rows2, rfl, hn2, hm2, hr2, ho2⟩ := open_slc (e := 35) (ks := [.int .u32]) (by kernel_rfl) (by kernel_rfl) (by kernel_rfl) (by decide) (hval 2 _ v2 rfl rfl) h2 (light_each hwt (j := 2) rfl rfl)
  obtain ⟨l2, hr2, hl2, hw2⟩ := arg_rec (Rec.int .u32) (okK .u32) of_ik (by decide) (by decide) hr2 ho2
  have hc2 : l2.length * 4 ≤ reachBytes := by rw [hl2, ← hn2]; have e : Try.checked.prog.bytesOf 35 = 4 := (by kernel_rfl); rw [e] at hm2; exact hm2
  exact ⟨⟨rfl, rfl, rfl⟩, cholds_walk (ds := l2) hw2⟩

/-- what is claimed -/
theorem chooseHolds : Rows.ChooseHoldsSaid :=
  OpenClaim.holds_of_wide 3 Try.f3 rfl rfl rfl rfl rfl rfl rfl ⟨rfl, rfl, rfl, rfl, rfl⟩ rfl rfl rfl rfl rfl (by kernel_rfl) Try.func3 (by kernel_rfl)
    (of_decide_eq_true (by kernel_rfl)) (by unfold Func.isWrapper; first | (rw [if_pos (by decide +kernel)]; kernel_rfl) | (rw [if_neg (by decide +kernel)]; exact ⟨rfl, rfl⟩))
    (fun os started H enc _ => chooseHolds_lifted os started H enc)
end Go.Proofs.Ytfighgokcocpbaa
