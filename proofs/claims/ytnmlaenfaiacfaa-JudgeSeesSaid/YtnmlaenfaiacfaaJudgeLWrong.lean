/- hoardlaw27.JudgeWrong: its walk. -/
import Derived.Test.YtnmlaenfaiacfaaJudgeLaws
import Derived.Test.YtnmlaenfaiacfaaShalJudgeWrong
set_option linter.unusedVariables false
set_option linter.unusedSimpArgs false
set_option linter.unnecessarySimpa false
set_option linter.unusedSectionVars false
namespace Go.Hb
theorem InOk.of {W : World} {ops : List OpV} {rs : List Ans} (h1 : ∀ o ∈ ops, OpOk o) (h2 : ∀ a ∈ rs, AnsOk W a) (h3 : ∀ i, i < ops.length → i < 120 → (ops.getD i default).key.size ≤ 40)
    (h4 : ∀ i, i < rs.length → i < 120 → (rs.getD i default).gone.length ≤ 30 ∧ ∀ g ∈ (rs.getD i default).gone, g.size ≤ 40) : InOk W ops rs :=
  ⟨h3, fun i hi => (h1 _ (getD_mem hi)).n, fun i hi h => (h4 i hi h).1, fun i hi h => (h4 i hi h).2, fun i hi => (h2 _ (getD_mem hi)).rd⟩
end Go.Hb
namespace Go.Proofs.Ytnmlaenfaiacfaa
open Go.Hb Go.IntWalk
section
variable {W w : World} {L : List HP} {s0 s1 : Sl} {ops : List OpV} {rs : List Ans} {sh room : Int}
set_option maxRecDepth 100000 in
theorem jwrong_walk [hr0 : ReadsR W s0 opR ops] [hr1 : ReadsR W s1 ansR rs] (h1 : ∀ o ∈ ops, OpOk o) (h2 : ∀ a ∈ rs, AnsOk W a) (hroom : okK .i64 room) :
    Calls Try.prog id_hoardlaw27_JudgeWrong #[.int .i64 sh, .int .i64 room, .slice s0.a s0.n s0.c, .slice s1.a s1.n s1.c] W fun e w' => e = .returned (.bool true) ∧ KeptH W w' := by
  have hs := Sat.begin W
  refine law_of (hoardlaw27_JudgeWrong_calls ?_)
  rw [hoardlaw27_JudgeWrong_def, hoardlaw27_JudgeWrong_raw]
  have e0 := hr0.len
  have e1 := hr1.len
  refine call1_of (heavy27 (s0 := s0) hs) fun e w ⟨hv, he, hsz, hs⟩ => ⟨_, he, ?_⟩
  refine ite_cases (fun h3 => ⟨rfl, hs⟩) (fun h3 => ?_)
  refine call1_of (long27 (s1 := s1) h2 hs) fun e w ⟨hv2, he, hgo, hs⟩ => ⟨_, he, ?_⟩
  refine ite_cases (fun h4 => ⟨rfl, hs⟩) (fun h4 => ?_)
  have hin := InOk.of h1 h2 (hsz h3) (hgo h4)
  (first | with_reducible refine ite_ltI (fun h5 => ?_) (fun h5 => ?_) | with_reducible refine ite_leI (fun h5 => ?_) (fun h5 => ?_) | with_reducible refine ite_gtI (fun h5 => ?_) (fun h5 => ?_) | with_reducible refine ite_geI (fun h5 => ?_) (fun h5 => ?_) | with_reducible refine ite_eqI (fun h5 => ?_) (fun h5 => ?_) | with_reducible refine ite_neI (fun h5 => ?_) (fun h5 => ?_) | with_reducible refine ite_eqS (fun h5 => ?_) (fun h5 => ?_) | with_reducible refine ite_neS (fun h5 => ?_) (fun h5 => ?_) | with_reducible refine ite_dec (fun h5 => ?_) (fun h5 => ?_) | with_reducible refine ite_ndec (fun h5 => ?_) (fun h5 => ?_) | with_reducible refine ite_some (fun i_ h5 => ?_) (fun h5 => ?_) | with_reducible refine ite_nsome (fun h5 => ?_) (fun i_ h5 => ?_) | with_reducible refine ite_cases (fun h5 => ?_) (fun h5 => ?_))
  · exact ⟨rfl, hs⟩
  (first | with_reducible refine ite_ltI (fun h6 => ?_) (fun h6 => ?_) | with_reducible refine ite_leI (fun h6 => ?_) (fun h6 => ?_) | with_reducible refine ite_gtI (fun h6 => ?_) (fun h6 => ?_) | with_reducible refine ite_geI (fun h6 => ?_) (fun h6 => ?_) | with_reducible refine ite_eqI (fun h6 => ?_) (fun h6 => ?_) | with_reducible refine ite_neI (fun h6 => ?_) (fun h6 => ?_) | with_reducible refine ite_eqS (fun h6 => ?_) (fun h6 => ?_) | with_reducible refine ite_neS (fun h6 => ?_) (fun h6 => ?_) | with_reducible refine ite_dec (fun h6 => ?_) (fun h6 => ?_) | with_reducible refine ite_ndec (fun h6 => ?_) (fun h6 => ?_) | with_reducible refine ite_some (fun i_ h6 => ?_) (fun h6 => ?_) | with_reducible refine ite_nsome (fun h6 => ?_) (fun i_ h6 => ?_) | with_reducible refine ite_cases (fun h6 => ?_) (fun h6 => ?_))
  · exact ⟨rfl, hs⟩
  rw [hoardlaw27_JudgeWrong_j1_def, hoardlaw27_JudgeWrong_j1_raw]
  refine call1_of (jg_Wrong (s0 := s0) (s1 := s1) hs hin (by omega) (by omega) hroom) fun e w ⟨he, hs⟩ => ⟨_, he, ?_⟩
  refine call1_of (jr_Wrong (s0 := s0) (s1 := s1) hs hin (by omega) (by omega) hroom) fun e w ⟨he, hs⟩ => ⟨_, he, ?_⟩
  refine ite_true (by simp) ?_
  refine call1_of (known27 hs) fun e w ⟨he, hs⟩ => ⟨_, he, ?_⟩
  exact ⟨rfl, hs⟩
end
end Go.Proofs.Ytnmlaenfaiacfaa
