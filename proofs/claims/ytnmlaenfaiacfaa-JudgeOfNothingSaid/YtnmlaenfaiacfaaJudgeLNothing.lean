/- hoardlaw27.JudgeOfNothing: its walk. -/
import Derived.Test.YtnmlaenfaiacfaaJudgeLaws
import Derived.Test.YtnmlaenfaiacfaaShalJudgeOfNothing
set_option linter.unusedVariables false
set_option linter.unusedSimpArgs false
set_option linter.unnecessarySimpa false
set_option linter.unusedSectionVars false
namespace Go.Proofs.Ytnmlaenfaiacfaa
open Go.Hb Go.IntWalk
theorem nilOps {W : World} : ReadsR W ⟨none, 0, 0⟩ opR [] := ⟨rfl, .inl ⟨rfl, rfl⟩⟩
theorem nilAns {W : World} : ReadsR W ⟨none, 0, 0⟩ ansR [] := ⟨rfl, .inl ⟨rfl, rfl⟩⟩
section
variable {W w : World} {L : List HP} {o : OpV} {k : ByteArray}
theorem jg_Put0 (hs : Sat W w L) : Calls Try.prog id_judge_Judge_Put #[.pointer none, .string k] w fun e w' => e = .returned (.tuple #[.string str_empty, .bool false]) ∧ Sat W w' L := by
  refine c1 (judge_Judge_Put_calls ?_)
  rw [judge_Judge_Put_def, judge_Judge_Put_raw]
  exact ite_true rfl ⟨rfl, hs⟩
theorem jg_Now0 (hs : Sat W w L) : Calls Try.prog id_judge_Judge_Now #[.pointer none] w fun e w' => e = .returned (.int .i64 0) ∧ Sat W w' L := by
  refine c1 (judge_Judge_Now_calls ?_)
  rw [judge_Judge_Now_def, judge_Judge_Now_raw]
  exact ite_true rfl ⟨rfl, hs⟩
theorem jg_See0 {err : Int} {hit : Bool} {val : ByteArray} {sl : Sl} (hs : Sat W w L) : Calls Try.prog id_judge_Judge_See #[.pointer none, .agg #[.int .i64 o.kind, .string o.key, .string o.val, .int .i64 o.n], .agg #[.int .i64 err, .bool hit, .string val, .slice sl.a sl.n sl.c]] w fun e w' => e = .returned (.bool false) ∧ Sat W w' L := by
  refine c1 (judge_Judge_See_calls ?_)
  rw [judge_Judge_See_def, judge_Judge_See_raw]
  refine newB_at hs fun b1 w hs => ?_
  refine newB_at hs fun b2 w hs => ?_
  exact ite_true rfl ⟨rfl, by exact Sat.fin hs⟩
set_option maxRecDepth 100000 in
theorem jnothing_walk : Calls Try.prog id_hoardlaw27_JudgeOfNothing #[.agg #[.int .i64 o.kind, .string o.key, .string o.val, .int .i64 o.n]] W fun e w' => e = .returned (.bool true) ∧ KeptH W w' := by
  have hs := Sat.begin W
  refine law_of (hoardlaw27_JudgeOfNothing_calls ?_)
  rw [hoardlaw27_JudgeOfNothing_def, hoardlaw27_JudgeOfNothing_raw]
  refine newB_at hs fun ob w hs => ?_
  refine ld_b hs ?_
  refine ld_b hs ?_
  refine ld_b hs ?_
  refine ld_b hs ?_
  refine newB_at hs fun lb w hs => ?_
  have hs : Sat W w (recs opR ⟨some ⟨lb, 0, none⟩, 1, 1⟩ [o] :: [blk ob [.int .i64 o.kind, .string o.key, .string o.val, .int .i64 o.n], old W]) := Sat.blkS (b := lb) opR [o] hs rfl rfl |> fun h => by have hs := h; exact Sat.fin hs
  refine call1_of (heavy27 (s0 := ⟨some ⟨lb, 0, none⟩, 1, 1⟩) hs) fun e w ⟨hv, he, hsz, hs⟩ => ⟨_, he, ?_⟩
  refine ite_cases (fun h1 => ⟨rfl, by exact Sat.fin hs⟩) (fun h1 => ?_)
  repeat (first | with_reducible refine nilck_some ?_ | ((with_reducible refine atLd ?_); first | refine ld_b hs ?_ | refine ld_b (x := ⟨_, _, _⟩) hs ?_ | refine ld_r0 hs ?_ | refine ld_r1 hs ?_ | refine ld_r2 hs ?_ | refine ld_r3 hs ?_ | refine ld_r4 hs ?_ | refine ld_rd0 ha_ hs ?_ | refine ld_rd1 ha_ hs ?_ | refine ld_rd2 ha_ hs ?_ | refine ld_rd3 ha_ hs ?_ | refine ld_rd4 ha_ hs ?_ | refine ld_rd5 ha_ hs ?_ | fail) | ((with_reducible refine isSt ?_); first | refine st_b hs fun w hs => ?_ | refine st_rec5 hs fun w hs => ?_ | refine st_rec4 hs fun w hs => ?_ | refine st_rec3 hs fun w hs => ?_ | refine st_rec2 hs fun w hs => ?_ | refine st_r0 hs fun w hs => ?_ | refine st_r1 hs fun w hs => ?_ | fail) | ((with_reducible refine isIdx ?_); first | refine idx_s hs fun b_ o_ hs => ?_ | refine idx_a hs ?_ | refine idx_rd hs fun b_ o_ ha_ => ?_ | fail) | ((with_reducible refine isNew ?_); first | refine newB_at hs fun b_ w hs => ?_ | fail) | ((with_reducible refine isLdS ?_); first | refine ldS_b ?_ | refine ldS_b (x := ⟨_, _, _⟩) ?_ | refine ldS_r0 ?_ | refine ldS_r1 ?_ | refine ldS_r2 ?_ | refine ldS_r3 ?_ | refine ldS_rs0 hs ?_ | refine ldS_rs1 hs ?_ | refine ldS_rs2 hs ?_ | refine ldS_rs3 hs ?_ | refine ldS_rd0 ha_ ?_ | refine ldS_rd1 ha_ ?_ | refine ldS_rd2 ha_ ?_ | refine ldS_rd3 ha_ ?_ | refine ldS_rd4 ha_ ?_ | refine ldS_rd5 ha_ ?_ | fail) | ((with_reducible refine isKeep ?_); first | refine keep_of hs ?_ | refine keep_imp hs ?_ | fail) | ((with_reducible refine isWhen ?_); first | refine when_om ?_ | fail) | ((with_reducible refine isDraw ?_); first | refine drawW_sat hs fun w hs => ?_ | fail))
  refine call2_of (jg_Put0 hs) fun e w ⟨he, hs⟩ => ⟨_, _, he, ?_⟩
  repeat (first | with_reducible refine nilck_some ?_ | ((with_reducible refine atLd ?_); first | refine ld_b hs ?_ | refine ld_b (x := ⟨_, _, _⟩) hs ?_ | refine ld_r0 hs ?_ | refine ld_r1 hs ?_ | refine ld_r2 hs ?_ | refine ld_r3 hs ?_ | refine ld_r4 hs ?_ | refine ld_rd0 ha_ hs ?_ | refine ld_rd1 ha_ hs ?_ | refine ld_rd2 ha_ hs ?_ | refine ld_rd3 ha_ hs ?_ | refine ld_rd4 ha_ hs ?_ | refine ld_rd5 ha_ hs ?_ | fail) | ((with_reducible refine isSt ?_); first | refine st_b hs fun w hs => ?_ | refine st_rec5 hs fun w hs => ?_ | refine st_rec4 hs fun w hs => ?_ | refine st_rec3 hs fun w hs => ?_ | refine st_rec2 hs fun w hs => ?_ | refine st_r0 hs fun w hs => ?_ | refine st_r1 hs fun w hs => ?_ | fail) | ((with_reducible refine isIdx ?_); first | refine idx_s hs fun b_ o_ hs => ?_ | refine idx_a hs ?_ | refine idx_rd hs fun b_ o_ ha_ => ?_ | fail) | ((with_reducible refine isNew ?_); first | refine newB_at hs fun b_ w hs => ?_ | fail) | ((with_reducible refine isLdS ?_); first | refine ldS_b ?_ | refine ldS_b (x := ⟨_, _, _⟩) ?_ | refine ldS_r0 ?_ | refine ldS_r1 ?_ | refine ldS_r2 ?_ | refine ldS_r3 ?_ | refine ldS_rs0 hs ?_ | refine ldS_rs1 hs ?_ | refine ldS_rs2 hs ?_ | refine ldS_rs3 hs ?_ | refine ldS_rd0 ha_ ?_ | refine ldS_rd1 ha_ ?_ | refine ldS_rd2 ha_ ?_ | refine ldS_rd3 ha_ ?_ | refine ldS_rd4 ha_ ?_ | refine ldS_rd5 ha_ ?_ | fail) | ((with_reducible refine isKeep ?_); first | refine keep_of hs ?_ | refine keep_imp hs ?_ | fail) | ((with_reducible refine isWhen ?_); first | refine when_om ?_ | fail) | ((with_reducible refine isDraw ?_); first | refine drawW_sat hs fun w hs => ?_ | fail))
  refine call1_of (jg_See0 (o := o) (sl := ⟨none, 0, 0⟩) hs) fun e w ⟨he, hs⟩ => ⟨_, he, ?_⟩
  refine ite_true rfl ?_
  refine call1_of (jg_Now0 hs) fun e w ⟨he, hs⟩ => ⟨_, he, ?_⟩
  refine ite_true rfl ?_
  refine ite_true (by rw [sEq_eq]; simp) ?_
  refine ite_true rfl ?_
  refine call1_of (jg_Wrong (hr0 := nilOps) (hr1 := nilAns) (s0 := ⟨none, 0, 0⟩) (s1 := ⟨none, 0, 0⟩) (ops := []) (rs := []) hs ⟨fun i h => by simp at h, fun i h => by simp at h, fun i h => by simp at h, fun i h => by simp at h, fun i h => by simp at h⟩ (by simp) (by simp) rfl) fun e w ⟨he, hs⟩ => ⟨_, he, ?_⟩
  refine ite_true (by unfold jWrong; rfl) ?_
  refine call1_of (known27 hs) fun e w ⟨he, hs⟩ => ⟨_, he, ?_⟩
  exact ⟨rfl, by exact Sat.fin hs⟩
end
end Go.Proofs.Ytnmlaenfaiacfaa
