/- hoardlaw27.JudgeSees: its walk. -/
import Derived.Test.YtnmlaenfaiacfaaJudgeLWrong
import Derived.Test.YtnmlaenfaiacfaaShalJudgeSees
set_option linter.unusedVariables false
set_option linter.unusedSimpArgs false
set_option linter.unnecessarySimpa false
set_option linter.unusedSectionVars false
namespace Go.Proofs.Ytnmlaenfaiacfaa
open Go.Hb Go.IntWalk
theorem allW_two {p q : WP} {w : World} (h : p w) (h2 : q w) : allW [p, q] w := ⟨h, h2⟩
section
variable {W w : World} {L : List HP} {s0 s1 : Sl} {ops : List OpV} {rs : List Ans} {sh room : Int}
set_option maxHeartbeats 1000000 in
set_option maxRecDepth 100000 in
theorem jsees_walk [hr0 : ReadsR W s0 opR ops] [hr1 : ReadsR W s1 ansR rs] (h1 : ∀ o ∈ ops, OpOk o) (h2 : ∀ a ∈ rs, AnsOk W a) (hroom : okK .i64 room) :
    Calls Try.prog id_hoardlaw27_JudgeSees #[.int .i64 sh, .int .i64 room, .slice s0.a s0.n s0.c, .slice s1.a s1.n s1.c] W fun e w' => e = .returned (.bool true) ∧ KeptH W w' := by
  have hs := Sat.begin W
  refine law_of (hoardlaw27_JudgeSees_calls ?_)
  rw [hoardlaw27_JudgeSees_def, hoardlaw27_JudgeSees_raw]
  have e0 := hr0.len
  have e1 := hr1.len
  refine call1_of (heavy27 (s0 := s0) hs) fun e w ⟨hv, he, hsz, hs⟩ => ⟨_, he, ?_⟩
  refine ite_cases (fun h3 => ⟨rfl, hs⟩) (fun h3 => ?_)
  refine call1_of (long27 (s1 := s1) h2 hs) fun e w ⟨hv2, he, hgo, hs⟩ => ⟨_, he, ?_⟩
  refine ite_cases (fun h4 => ⟨rfl, hs⟩) (fun h4 => ?_)
  have hin := InOk.of h1 h2 (hsz h3) (hgo h4)
  rw [hoardlaw27_JudgeSees_j1_def, hoardlaw27_JudgeSees_j1_raw]
  refine call1_of (jg_New hs) fun e w ⟨b, he, hs⟩ => ⟨_, he, ?_⟩
  refine call1_of (jr_New hs) fun e w ⟨b2, he, hs⟩ => ⟨_, he, ?_⟩
  refine ite_false rfl ?_
  obtain ⟨Q, hQ⟩ : ∃ Q : Value → WP, Q = (fun v w' => v = .bool true ∧ Sat W w' [old W]) := ⟨_, rfl⟩
  rw [← hQ]
  have fin : ∀ w, Sat W w [old W] → hoardlaw27_JudgeSees_j5 idJ Q w := by
    intro w hs
    rw [hoardlaw27_JudgeSees_j5_def, hoardlaw27_JudgeSees_j5_raw, hQ]
    refine call1_of (known27 hs) fun e w ⟨he, hs⟩ => ⟨_, he, ?_⟩
    exact ⟨rfl, hs⟩
  obtain ⟨N, hN⟩ : ∃ N : Nat, N = 121 := ⟨_, rfl⟩
  have loop : ∀ (f i : Nat) (s : JS) (w : World), i + f = N → JOk s → s.T.length ≤ i → Sat W w [jrR b2 sh s, jgR b sh s, old W] →
      hoardlaw27_JudgeSees_l2 idJ Q (f + 1) s0 s1 (some ⟨b, 0, none⟩) (some ⟨b2, 0, none⟩) (i : Int) w := by
    intro f
    induction f with
    | zero =>
      intro i s w hi hj hl hs
      rw [hoardlaw27_JudgeSees_l2_raw]
      (first | with_reducible refine ite_ltI (fun h5 => ?_) (fun h5 => ?_) | with_reducible refine ite_leI (fun h5 => ?_) (fun h5 => ?_) | with_reducible refine ite_gtI (fun h5 => ?_) (fun h5 => ?_) | with_reducible refine ite_geI (fun h5 => ?_) (fun h5 => ?_) | with_reducible refine ite_eqI (fun h5 => ?_) (fun h5 => ?_) | with_reducible refine ite_neI (fun h5 => ?_) (fun h5 => ?_) | with_reducible refine ite_eqS (fun h5 => ?_) (fun h5 => ?_) | with_reducible refine ite_neS (fun h5 => ?_) (fun h5 => ?_) | with_reducible refine ite_dec (fun h5 => ?_) (fun h5 => ?_) | with_reducible refine ite_ndec (fun h5 => ?_) (fun h5 => ?_) | with_reducible refine ite_some (fun i_ h5 => ?_) (fun h5 => ?_) | with_reducible refine ite_nsome (fun h5 => ?_) (fun i_ h5 => ?_) | with_reducible refine ite_cases (fun h5 => ?_) (fun h5 => ?_))
      rotate_left
      · exact fin w (by exact Sat.fin hs)
      (first | with_reducible refine ite_ltI (fun h6 => ?_) (fun h6 => ?_) | with_reducible refine ite_leI (fun h6 => ?_) (fun h6 => ?_) | with_reducible refine ite_gtI (fun h6 => ?_) (fun h6 => ?_) | with_reducible refine ite_geI (fun h6 => ?_) (fun h6 => ?_) | with_reducible refine ite_eqI (fun h6 => ?_) (fun h6 => ?_) | with_reducible refine ite_neI (fun h6 => ?_) (fun h6 => ?_) | with_reducible refine ite_eqS (fun h6 => ?_) (fun h6 => ?_) | with_reducible refine ite_neS (fun h6 => ?_) (fun h6 => ?_) | with_reducible refine ite_dec (fun h6 => ?_) (fun h6 => ?_) | with_reducible refine ite_ndec (fun h6 => ?_) (fun h6 => ?_) | with_reducible refine ite_some (fun i_ h6 => ?_) (fun h6 => ?_) | with_reducible refine ite_nsome (fun h6 => ?_) (fun i_ h6 => ?_) | with_reducible refine ite_cases (fun h6 => ?_) (fun h6 => ?_))
      rotate_left
      · exact fin w (by exact Sat.fin hs)
      with_reducible refine ite_ltI (fun h7 => absurd h7 (by omega)) (fun h7 => ?_)
      exact fin w (by exact Sat.fin hs)
    | succ f ih =>
      intro i s w hi hj hl hs
      rw [hoardlaw27_JudgeSees_l2_raw]
      (first | with_reducible refine ite_ltI (fun h5 => ?_) (fun h5 => ?_) | with_reducible refine ite_leI (fun h5 => ?_) (fun h5 => ?_) | with_reducible refine ite_gtI (fun h5 => ?_) (fun h5 => ?_) | with_reducible refine ite_geI (fun h5 => ?_) (fun h5 => ?_) | with_reducible refine ite_eqI (fun h5 => ?_) (fun h5 => ?_) | with_reducible refine ite_neI (fun h5 => ?_) (fun h5 => ?_) | with_reducible refine ite_eqS (fun h5 => ?_) (fun h5 => ?_) | with_reducible refine ite_neS (fun h5 => ?_) (fun h5 => ?_) | with_reducible refine ite_dec (fun h5 => ?_) (fun h5 => ?_) | with_reducible refine ite_ndec (fun h5 => ?_) (fun h5 => ?_) | with_reducible refine ite_some (fun i_ h5 => ?_) (fun h5 => ?_) | with_reducible refine ite_nsome (fun h5 => ?_) (fun i_ h5 => ?_) | with_reducible refine ite_cases (fun h5 => ?_) (fun h5 => ?_))
      rotate_left
      · exact fin w (by exact Sat.fin hs)
      (first | with_reducible refine ite_ltI (fun h6 => ?_) (fun h6 => ?_) | with_reducible refine ite_leI (fun h6 => ?_) (fun h6 => ?_) | with_reducible refine ite_gtI (fun h6 => ?_) (fun h6 => ?_) | with_reducible refine ite_geI (fun h6 => ?_) (fun h6 => ?_) | with_reducible refine ite_eqI (fun h6 => ?_) (fun h6 => ?_) | with_reducible refine ite_neI (fun h6 => ?_) (fun h6 => ?_) | with_reducible refine ite_eqS (fun h6 => ?_) (fun h6 => ?_) | with_reducible refine ite_neS (fun h6 => ?_) (fun h6 => ?_) | with_reducible refine ite_dec (fun h6 => ?_) (fun h6 => ?_) | with_reducible refine ite_ndec (fun h6 => ?_) (fun h6 => ?_) | with_reducible refine ite_some (fun i_ h6 => ?_) (fun h6 => ?_) | with_reducible refine ite_nsome (fun h6 => ?_) (fun i_ h6 => ?_) | with_reducible refine ite_cases (fun h6 => ?_) (fun h6 => ?_))
      rotate_left
      · exact fin w (by exact Sat.fin hs)
      (first | with_reducible refine ite_ltI (fun h7 => ?_) (fun h7 => ?_) | with_reducible refine ite_leI (fun h7 => ?_) (fun h7 => ?_) | with_reducible refine ite_gtI (fun h7 => ?_) (fun h7 => ?_) | with_reducible refine ite_geI (fun h7 => ?_) (fun h7 => ?_) | with_reducible refine ite_eqI (fun h7 => ?_) (fun h7 => ?_) | with_reducible refine ite_neI (fun h7 => ?_) (fun h7 => ?_) | with_reducible refine ite_eqS (fun h7 => ?_) (fun h7 => ?_) | with_reducible refine ite_neS (fun h7 => ?_) (fun h7 => ?_) | with_reducible refine ite_dec (fun h7 => ?_) (fun h7 => ?_) | with_reducible refine ite_ndec (fun h7 => ?_) (fun h7 => ?_) | with_reducible refine ite_some (fun i_ h7 => ?_) (fun h7 => ?_) | with_reducible refine ite_nsome (fun h7 => ?_) (fun i_ h7 => ?_) | with_reducible refine ite_cases (fun h7 => ?_) (fun h7 => ?_))
      rotate_left
      · exact fin w (by exact Sat.fin hs)
      have h0 : i < ops.length := by omega
      have h1 : i < rs.length := by omega
      rw [hoardlaw27_JudgeSees_j3_def, hoardlaw27_JudgeSees_j3_raw]
      obtain ⟨hj2, hl2⟩ := hj.next (hin.opn i h0) (rs.getD i default).err (rs.getD i default).gone
      have hz := hin.key i h0 (by omega)
      generalize hs2 : jNext s (ops.getD i default) (rs.getD i default).err (rs.getD i default).gone = s2 at *
      have j4 : ∀ w, Sat W w [jrR b2 sh s2, jgR b sh s2, old W] → hoardlaw27_JudgeSees_j4 idJ Q (f + 1) s0 s1 (some ⟨b, 0, none⟩) (some ⟨b2, 0, none⟩) (i : Int) w := by
        intro w hs
        rw [hoardlaw27_JudgeSees_j4_def, hoardlaw27_JudgeSees_j4_raw]
        refine idx_rd hs fun b1 o1 ha1 => ?_
        refine ld_rd1 ha1 hs ?_
        simp only [Int.toNat_natCast]
        refine call2_of (jg_Put hs (by omega)) fun e w ⟨he, hs⟩ => ⟨_, _, he, ?_⟩
        obtain ⟨tb, hs⟩ := jr_open hs
        repeat (first | with_reducible refine nilck_some ?_ | ((with_reducible refine atLd ?_); first | refine ld_b hs ?_ | refine ld_b (x := ⟨_, _, _⟩) hs ?_ | refine ld_r0 hs ?_ | refine ld_r1 hs ?_ | refine ld_r2 hs ?_ | refine ld_r3 hs ?_ | refine ld_r4 hs ?_ | refine ld_rd0 ha_ hs ?_ | refine ld_rd1 ha_ hs ?_ | refine ld_rd2 ha_ hs ?_ | refine ld_rd3 ha_ hs ?_ | refine ld_rd4 ha_ hs ?_ | refine ld_rd5 ha_ hs ?_ | fail) | ((with_reducible refine isSt ?_); first | refine st_b hs fun w hs => ?_ | refine st_rec5 hs fun w hs => ?_ | refine st_rec4 hs fun w hs => ?_ | refine st_rec3 hs fun w hs => ?_ | refine st_rec2 hs fun w hs => ?_ | refine st_r0 hs fun w hs => ?_ | refine st_r1 hs fun w hs => ?_ | fail) | ((with_reducible refine isIdx ?_); first | refine idx_s hs fun b_ o_ hs => ?_ | refine idx_a hs ?_ | refine idx_rd hs fun b_ o_ ha_ => ?_ | fail) | ((with_reducible refine isNew ?_); first | refine newB_at hs fun b_ w hs => ?_ | fail) | ((with_reducible refine isLdS ?_); first | refine ldS_b ?_ | refine ldS_b (x := ⟨_, _, _⟩) ?_ | refine ldS_r0 ?_ | refine ldS_r1 ?_ | refine ldS_r2 ?_ | refine ldS_r3 ?_ | refine ldS_rs0 hs ?_ | refine ldS_rs1 hs ?_ | refine ldS_rs2 hs ?_ | refine ldS_rs3 hs ?_ | refine ldS_rd0 ha_ ?_ | refine ldS_rd1 ha_ ?_ | refine ldS_rd2 ha_ ?_ | refine ldS_rd3 ha_ ?_ | refine ldS_rd4 ha_ ?_ | refine ldS_rd5 ha_ ?_ | fail) | ((with_reducible refine isKeep ?_); first | refine keep_of hs ?_ | refine keep_imp hs ?_ | fail) | ((with_reducible refine isWhen ?_); first | refine when_om ?_ | fail) | ((with_reducible refine isDraw ?_); first | refine drawW_sat hs fun w hs => ?_ | fail))
        try simp only [Int.toNat_natCast]
        refine call2_of (r21_Get hs hj2.tok (by omega)) fun e w ⟨he, hs⟩ => ⟨_, _, he, ?_⟩
        refine ite_false (by rw [sEq_eq]; simp) ?_
        refine ite_false (by simp) ?_
        rw [i64_in _ (by omega)]
        have hs := jr_shut tb hs
        exact ih (i + 1) s2 w (by omega) hj2 (by omega) (by exact Sat.fin hs)
      refine drawW_only [old W] hs fun w hs => ?_
      refine idx_rd hs fun b3 o3 ha1 => ?_
      refine ldS_rd0 ha1 ?_
      refine ldS_rd1 ha1 ?_
      refine ldS_rd2 ha1 ?_
      refine ldS_rd3 ha1 ?_
      refine idx_rd hs fun b4 o4 ha2 => ?_
      refine ldS_rd0 ha2 ?_
      refine ldS_rd1 ha2 ?_
      refine ldS_rd2 ha2 ?_
      refine ldS_rd3 ha2 ?_
      refine idx_rd hs fun b5 o5 ha3 => ?_
      refine ldS_rd0 ha3 ?_
      refine ldS_rd1 ha3 ?_
      refine ldS_rd2 ha3 ?_
      refine ldS_rd3 ha3 ?_
      refine idx_rd hs fun b6 o6 ha4 => ?_
      refine ldS_rd0 ha4 ?_
      refine ldS_rd1 ha4 ?_
      refine ldS_rd2 ha4 ?_
      refine ldS_rd3 ha4 ?_
      simp only [Int.toNat_natCast]
      have hs : Sat W w (jgR b sh s :: [jrR b2 sh s, old W]) := by exact Sat.fin hs
      refine call1_of (jg_See (o := ops.getD i default) (err := (rs.getD i default).err) (hit := (rs.getD i default).hit) (val := (rs.getD i default).val) (sl := (rs.getD i default).sl) hs hj (by omega) (hin.opn i h0) (hin.rd i h1) (hin.gone i h1 (by omega)) (hin.len i h1 (by omega)) hz) fun e w ⟨he, hs⟩ => ⟨_, he, ?_⟩
      refine keep_imp hs ?_
      rw [hs2] at hs
      have hs : Sat W w (jrR b2 sh s :: [jgR b sh s2, old W]) := by exact Sat.fin hs
      refine call1_of (jr_See (o := ops.getD i default) (err := (rs.getD i default).err) (hit := (rs.getD i default).hit) (val := (rs.getD i default).val) (sl := (rs.getD i default).sl) hs hj (by omega) (hin.opn i h0) (hin.rd i h1) (hin.len i h1 (by omega))) fun e w ⟨he, hs⟩ => ⟨_, he, ?_⟩
      rw [hs2] at hs
      refine ite_false (by simp) ?_
      obtain ⟨tb, hs⟩ := jr_open hs
      refine nilck_some ?_
      refine allW_two ?_ ?_
      · refine call1_of (jg_Now hs) fun e w ⟨he, hs⟩ => ⟨_, he, ?_⟩
        repeat (first | with_reducible refine nilck_some ?_ | ((with_reducible refine atLd ?_); first | refine ld_b hs ?_ | refine ld_b (x := ⟨_, _, _⟩) hs ?_ | refine ld_r0 hs ?_ | refine ld_r1 hs ?_ | refine ld_r2 hs ?_ | refine ld_r3 hs ?_ | refine ld_r4 hs ?_ | refine ld_rd0 ha_ hs ?_ | refine ld_rd1 ha_ hs ?_ | refine ld_rd2 ha_ hs ?_ | refine ld_rd3 ha_ hs ?_ | refine ld_rd4 ha_ hs ?_ | refine ld_rd5 ha_ hs ?_ | fail) | ((with_reducible refine isSt ?_); first | refine st_b hs fun w hs => ?_ | refine st_rec5 hs fun w hs => ?_ | refine st_rec4 hs fun w hs => ?_ | refine st_rec3 hs fun w hs => ?_ | refine st_rec2 hs fun w hs => ?_ | refine st_r0 hs fun w hs => ?_ | refine st_r1 hs fun w hs => ?_ | fail) | ((with_reducible refine isIdx ?_); first | refine idx_s hs fun b_ o_ hs => ?_ | refine idx_a hs ?_ | refine idx_rd hs fun b_ o_ ha_ => ?_ | fail) | ((with_reducible refine isNew ?_); first | refine newB_at hs fun b_ w hs => ?_ | fail) | ((with_reducible refine isLdS ?_); first | refine ldS_b ?_ | refine ldS_b (x := ⟨_, _, _⟩) ?_ | refine ldS_r0 ?_ | refine ldS_r1 ?_ | refine ldS_r2 ?_ | refine ldS_r3 ?_ | refine ldS_rs0 hs ?_ | refine ldS_rs1 hs ?_ | refine ldS_rs2 hs ?_ | refine ldS_rs3 hs ?_ | refine ldS_rd0 ha_ ?_ | refine ldS_rd1 ha_ ?_ | refine ldS_rd2 ha_ ?_ | refine ldS_rd3 ha_ ?_ | refine ldS_rd4 ha_ ?_ | refine ldS_rd5 ha_ ?_ | fail) | ((with_reducible refine isKeep ?_); first | refine keep_of hs ?_ | refine keep_imp hs ?_ | fail) | ((with_reducible refine isWhen ?_); first | refine when_om ?_ | fail) | ((with_reducible refine isDraw ?_); first | refine drawW_sat hs fun w hs => ?_ | fail))
        refine ite_false (by simp) ?_
        have hs := jr_shut tb hs
        exact j4 w hs
      · repeat (first | with_reducible refine nilck_some ?_ | ((with_reducible refine atLd ?_); first | refine ld_b hs ?_ | refine ld_b (x := ⟨_, _, _⟩) hs ?_ | refine ld_r0 hs ?_ | refine ld_r1 hs ?_ | refine ld_r2 hs ?_ | refine ld_r3 hs ?_ | refine ld_r4 hs ?_ | refine ld_rd0 ha_ hs ?_ | refine ld_rd1 ha_ hs ?_ | refine ld_rd2 ha_ hs ?_ | refine ld_rd3 ha_ hs ?_ | refine ld_rd4 ha_ hs ?_ | refine ld_rd5 ha_ hs ?_ | fail) | ((with_reducible refine isSt ?_); first | refine st_b hs fun w hs => ?_ | refine st_rec5 hs fun w hs => ?_ | refine st_rec4 hs fun w hs => ?_ | refine st_rec3 hs fun w hs => ?_ | refine st_rec2 hs fun w hs => ?_ | refine st_r0 hs fun w hs => ?_ | refine st_r1 hs fun w hs => ?_ | fail) | ((with_reducible refine isIdx ?_); first | refine idx_s hs fun b_ o_ hs => ?_ | refine idx_a hs ?_ | refine idx_rd hs fun b_ o_ ha_ => ?_ | fail) | ((with_reducible refine isNew ?_); first | refine newB_at hs fun b_ w hs => ?_ | fail) | ((with_reducible refine isLdS ?_); first | refine ldS_b ?_ | refine ldS_b (x := ⟨_, _, _⟩) ?_ | refine ldS_r0 ?_ | refine ldS_r1 ?_ | refine ldS_r2 ?_ | refine ldS_r3 ?_ | refine ldS_rs0 hs ?_ | refine ldS_rs1 hs ?_ | refine ldS_rs2 hs ?_ | refine ldS_rs3 hs ?_ | refine ldS_rd0 ha_ ?_ | refine ldS_rd1 ha_ ?_ | refine ldS_rd2 ha_ ?_ | refine ldS_rd3 ha_ ?_ | refine ldS_rd4 ha_ ?_ | refine ldS_rd5 ha_ ?_ | fail) | ((with_reducible refine isKeep ?_); first | refine keep_of hs ?_ | refine keep_imp hs ?_ | fail) | ((with_reducible refine isWhen ?_); first | refine when_om ?_ | fail) | ((with_reducible refine isDraw ?_); first | refine drawW_sat hs fun w hs => ?_ | fail))
        refine call1_of (jg_Now hs) fun e w ⟨he, hs⟩ => ⟨_, he, ?_⟩
        refine ite_false (by simp) ?_
        have hs := jr_shut tb hs
        exact j4 w hs
  refine ⟨N + 1, ?_⟩
  exact loop N 0 ⟨[], 0, room⟩ w (by omega) (JOk.new hroom) (by simp) hs
end
end Go.Proofs.Ytnmlaenfaiacfaa
