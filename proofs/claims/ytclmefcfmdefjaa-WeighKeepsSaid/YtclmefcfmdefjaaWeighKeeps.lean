/- For every argument hoardlaw19.WeighKeeps returns true, and each argument reads behind the call as it read before. No condition. -/
import Derived.Test.YtclmefcfmdefjaaRows
import Derived.Test.YtclmefcfmdefjaaWeighLaws1
import Derived.Test.YtclmefcfmdefjaaOpen
namespace Go.Proofs.Ytclmefcfmdefjaa
open Go.ChangeShapes Go.WideShapes Go.RowKit Go.Hb
set_option linter.unusedVariables false

set_option maxRecDepth 100000 in
theorem weighKeeps_lifted (os : Os) (started : os.Started) (H : Type) (enc : TypeId × Value → H) :
    ReturnsInHanded {} Try.checked os 5 .any (Rows.weighKeepsSpec.pre6 enc Try.prog Try.f5 Rows.weighKeepsRow.domain false) (Rows.weighKeepsSpec.post enc Try.prog Try.f5 false true false false) := by
  refine law_lifted (C := Try.checked) (by kernel_rfl) started (by kernel_rfl) Try.func5
    (ChangeSpec.witness6 (enc := enc) (C := Try.checked) (s := Rows.weighKeepsSpec) false ⟨#[], #[.int .i64 0], []⟩ 8 (by kernel_rfl) (by kernel_rfl) (by kernel_rfl) (by kernel_rfl)) rfl rfl (by kernel_rfl) (by kernel_rfl) ?_
  intro W base args ds p hval hA
  obtain ⟨v0, vs0, d0, ds0, p0, q0, hargs, rfl, rfl, h0, r0⟩ := trodAll_cons (ts := []) hA
  obtain ⟨rfl, rfl, rfl⟩ := trodAll_nil r0
  obtain rfl : args = #[v0] := by cases args; simp_all
  obtain ⟨a0, rfl, rfl, rfl, w0⟩ := open_int (k := .i64) (by kernel_rfl) (hval 0 _ v0 rfl rfl) h0
  exact ⟨⟨rfl, rfl, rfl⟩, weighKeeps_walk w0⟩

/-- what is claimed -/
theorem weighKeeps : Rows.WeighKeepsSaid :=
  OpenClaim.holds_of_wide 5 Try.f5 rfl rfl rfl rfl rfl rfl rfl ⟨rfl, rfl, rfl, rfl, rfl⟩ rfl rfl rfl rfl rfl (by kernel_rfl) Try.func5 (by kernel_rfl)
    (of_decide_eq_true (by kernel_rfl)) (by unfold Func.isWrapper; first | (rw [if_pos (by decide +kernel)]; kernel_rfl) | (rw [if_neg (by decide +kernel)]; exact ⟨rfl, rfl⟩))
    (fun os started H enc _ => weighKeeps_lifted os started H enc)
end Go.Proofs.Ytclmefcfmdefjaa
