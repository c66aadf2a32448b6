/- For every int: hoardlaw3.TapeOfNothing returns true, and its argument reads behind the call as it read before. -/
import Derived.Test.YtclmefcfmdefjaaRows
import Derived.Test.YtclmefcfmdefjaaTapeLaws
import Derived.Test.YtclmefcfmdefjaaOpen
namespace Go.Proofs.Ytclmefcfmdefjaa
open Go.ChangeShapes Go.WideShapes Go.RowKit Go.Hb
set_option linter.unusedVariables false

set_option maxRecDepth 100000 in
theorem tapeOfNothing_lifted (os : Os) (started : os.Started) (H : Type) (enc : TypeId × Value → H) :
    ReturnsInHanded {} Try.checked os 4 .any (Rows.tapeOfNothingSpec.pre6 enc Try.prog Try.f4 Rows.tapeOfNothingRow.domain false) (Rows.tapeOfNothingSpec.post enc Try.prog Try.f4 false true false false) := by
  refine law_lifted (C := Try.checked) (by kernel_rfl) started (by kernel_rfl) Try.func4
    (ChangeSpec.witness6 (enc := enc) (C := Try.checked) (s := Rows.tapeOfNothingSpec) false ⟨#[], #[.int .i64 0], []⟩ 8 (by kernel_rfl) (by kernel_rfl) (by kernel_rfl) (by kernel_rfl)) rfl rfl (by kernel_rfl) (by kernel_rfl) ?_
  intro W base args ds p hval hA
  obtain ⟨v0, vs0, d0, ds0, p0, q0, hargs, rfl, rfl, h0, r0⟩ := trodAll_cons (ts := []) hA
  obtain ⟨rfl, rfl, rfl⟩ := trodAll_nil r0
  obtain rfl : args = #[v0] := by cases args; simp_all
  obtain ⟨a0, rfl, rfl, rfl, w0⟩ := open_int (k := .i64) (by kernel_rfl) (hval 0 _ v0 rfl rfl) h0
  exact ⟨⟨rfl, rfl, rfl⟩, tapeOfNothing_walk a0 W⟩

theorem tapeOfNothing : Rows.TapeOfNothingSaid :=
  OpenClaim.holds_of_wide 4 Try.f4 rfl rfl rfl rfl rfl rfl rfl ⟨rfl, rfl, rfl, rfl, rfl⟩ rfl rfl rfl rfl rfl (by kernel_rfl) Try.func4 (by kernel_rfl)
    (of_decide_eq_true (by kernel_rfl)) (by unfold Func.isWrapper; first | (rw [if_pos (by decide +kernel)]; kernel_rfl) | (rw [if_neg (by decide +kernel)]; exact ⟨rfl, rfl⟩))
    (fun os started H enc _ => tapeOfNothing_lifted os started H enc)
end Go.Proofs.Ytclmefcfmdefjaa
