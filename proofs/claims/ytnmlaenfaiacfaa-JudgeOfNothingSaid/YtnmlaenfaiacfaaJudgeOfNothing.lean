/- For every argument hoardlaw27.JudgeOfNothing returns true, and each argument reads behind the call as it read before. No condition. -/
import Derived.Test.YtnmlaenfaiacfaaRows
import Derived.Test.YtnmlaenfaiacfaaJudgeLNothing
import Derived.Test.YtnmlaenfaiacfaaOpen
set_option linter.unusedVariables false
set_option linter.unusedSimpArgs false
set_option linter.unnecessarySimpa false
set_option linter.unusedSectionVars false
namespace Go.Proofs.Ytnmlaenfaiacfaa
open Go.ChangeShapes Go.WideShapes Go.RowKit Go.ChangeMaps Go.Hb

set_option maxRecDepth 100000 in
theorem judgeOfNothing_lifted (os : Os) (started : os.Started) (H : Type) (enc : TypeId × Value → H) :
    ReturnsInHanded {} Try.checked os 5 .any (Rows.judgeOfNothingSpec.pre6 enc Try.prog Try.f5 Rows.judgeOfNothingRow.domain false) (Rows.judgeOfNothingSpec.post enc Try.prog Try.f5 false true false false) := by
  refine law_lifted (C := Try.checked) (by kernel_rfl) started (by kernel_rfl) Try.func5
    (ChangeSpec.witness6 (enc := enc) (C := Try.checked) (s := Rows.judgeOfNothingSpec) false ⟨#[], #[.agg #[.int .i64 0, .string ⟨#[]⟩, .string ⟨#[]⟩, .int .i64 0]], []⟩ 8 (by kernel_rfl) (by kernel_rfl) (by kernel_rfl) (by kernel_rfl)) rfl rfl (by kernel_rfl) (by kernel_rfl) ?_
  intro W base args ds p hval hA hwt
  obtain ⟨v0, vs0, d0, ds0, p0, q0, hargs, rfl, rfl, h0, r0⟩ := trodAll_cons (ts := []) hA
  obtain ⟨rfl, rfl, rfl⟩ := trodAll_nil r0
  obtain rfl : args = #[v0] := by cases args; simp_all
  obtain ⟨c0, rfl, ho0⟩ := open_st (ks := [.int .i64, .str, .str, .int .i64]) (by kernel_rfl) (by kernel_rfl) (hval 0 _ v0 rfl rfl) h0 (light_each hwt (j := 0) rfl rfl)
  obtain ⟨a0, rfl, hw0⟩ := of_op c0 ho0
  exact ⟨⟨rfl, rfl, rfl⟩, jnothing_walk (o := a0)⟩

/-- what is claimed -/
theorem judgeOfNothing : Rows.JudgeOfNothingSaid :=
  OpenClaim.holds_of_wide 5 Try.f5 rfl rfl rfl rfl rfl rfl rfl ⟨rfl, rfl, rfl, rfl, rfl⟩ rfl rfl rfl rfl rfl (by kernel_rfl) Try.func5 (by kernel_rfl)
    (of_decide_eq_true (by kernel_rfl)) (by unfold Func.isWrapper; first | (rw [if_pos (by decide +kernel)]; kernel_rfl) | (rw [if_neg (by decide +kernel)]; exact ⟨rfl, rfl⟩))
    (fun os started H enc _ => judgeOfNothing_lifted os started H enc)
end Go.Proofs.Ytnmlaenfaiacfaa
