/- For every argument hoardlaw13.LirsOfNothing returns true, and each argument reads behind the call as it read before. No condition. -/
import Derived.Test.YtgmhoenmhnlojaaRows
import Derived.Test.YtgmhoenmhnlojaaLirsLaws2
import Derived.Test.YtgmhoenmhnlojaaOpen
set_option linter.unusedVariables false
set_option linter.unusedSimpArgs false
set_option linter.unnecessarySimpa false
set_option linter.unusedSectionVars false
namespace Go.Proofs.Ytgmhoenmhnlojaa
open Go.ChangeShapes Go.WideShapes Go.RowKit Go.ChangeMaps Go.Hb

set_option maxRecDepth 100000 in
theorem lirsOfNothing_lifted (os : Os) (started : os.Started) (H : Type) (enc : TypeId × Value → H) :
    ReturnsInHanded {} Try.checked os 14 .any (Rows.lirsOfNothingSpec.pre6 enc Try.prog Try.f14 Rows.lirsOfNothingRow.domain false) (Rows.lirsOfNothingSpec.post enc Try.prog Try.f14 false true false false) := by
  refine law_lifted (C := Try.checked) (by kernel_rfl) started (by kernel_rfl) Try.func14
    (ChangeSpec.witness6 (enc := enc) (C := Try.checked) (s := Rows.lirsOfNothingSpec) false ⟨#[], #[.string ⟨#[]⟩], []⟩ 8 (by kernel_rfl) (by kernel_rfl) (by kernel_rfl) (by kernel_rfl)) rfl rfl (by kernel_rfl) (by kernel_rfl) ?_
  intro W base args ds p hval hA hwt
  obtain ⟨v0, vs0, d0, ds0, p0, q0, hargs, rfl, rfl, h0, r0⟩ := trodAll_cons (ts := []) hA
  obtain ⟨rfl, rfl, rfl⟩ := trodAll_nil r0
  obtain rfl : args = #[v0] := by cases args; simp_all
  obtain ⟨a0, rfl, rfl, rfl, w0⟩ := open_string (by kernel_rfl) (hval 0 _ v0 rfl rfl) h0
  have z0 : a0.size ≤ reachBytes := by simpa using light_each hwt (j := 0) rfl rfl a0.data.toList.length (by simp [DataW.weights])
  exact ⟨⟨rfl, rfl, rfl⟩, lnothing_walk⟩

/-- what is claimed -/
theorem lirsOfNothing : Rows.LirsOfNothingSaid :=
  OpenClaim.holds_of_wide 14 Try.f14 rfl rfl rfl rfl rfl rfl rfl ⟨rfl, rfl, rfl, rfl, rfl⟩ rfl rfl rfl rfl rfl (by kernel_rfl) Try.func14 (by kernel_rfl)
    (of_decide_eq_true (by kernel_rfl)) (by unfold Func.isWrapper; first | (rw [if_pos (by decide +kernel)]; kernel_rfl) | (rw [if_neg (by decide +kernel)]; exact ⟨rfl, rfl⟩))
    (fun os started H enc _ => lirsOfNothing_lifted os started H enc)
end Go.Proofs.Ytgmhoenmhnlojaa
