/- arc.Engine: the walk (State stands apart). -/
import Derived.Test.YtchlicgjdlkidaaDoorArcRows
import Derived.Test.YtchlicgjdlkidaaDoorArcHp
set_option linter.unusedVariables false
set_option linter.unusedSimpArgs false
set_option linter.unnecessarySimpa false
set_option linter.unusedSectionVars false
namespace Go.Hb
section
variable {x : ArcS}
theorem rs0 : rSum x.rows [0] = x.t1.length := by simp [rSum, ArcS.rows]
theorem rs1 : rSum x.rows [1] = x.t2.length := by simp [rSum, ArcS.rows]
theorem rs2 : rSum x.rows [2] = x.b1.length := by simp [rSum, ArcS.rows]
theorem rs3 : rSum x.rows [3] = x.b2.length := by simp [rSum, ArcS.rows]
theorem rs01 : rSum x.rows [0, 1] = x.t1.length + x.t2.length := by simp [rSum, ArcS.rows]
theorem rs02 : rSum x.rows [0, 2] = x.t1.length + x.b1.length := by simp [rSum, ArcS.rows]
theorem rs4 : rSum x.rows [0, 1, 2, 3] = x.t1.length + x.t2.length + x.b1.length + x.b2.length := by simp [rSum, ArcS.rows]; omega
end
end Go.Hb
namespace Go.Proofs.YtchlicgjdlkidaaDoor
open Go.Hb Go.IntWalk
section
variable {W w : World} {L M : List HP} {F : HP → List HP} {b N : Nat} {c : Int} {x : ArcS} {key : ByteArray}
theorem rows_new (hs : Sat W w L) : Calls Tryd.prog id_arc_newRows #[.int .i64 (4 : Int)] w fun e w' => ∃ (s : Sl) (xb : Nat), e = .returned (.agg #[.slice s.a s.n s.c, .pointer (some ⟨xb, 0, none⟩)]) ∧ Sat W w' (rowsC s xb 0 [[], [], [], []] :: L) := by
  refine (arc_newRows_calls (Q := fun v w' => ∃ (s : Sl) (xb : Nat), v = .agg #[.slice s.a s.n s.c, .pointer (some ⟨xb, 0, none⟩)] ∧ Sat W w' (rowsC s xb 0 [[], [], [], []] :: L)) ?_).mono fun e w' ⟨v, he, s, xb, hv, hs⟩ => ⟨s, xb, by rw [he, hv], hs⟩
  rw [arc_newRows_def, arc_newRows_raw]
  refine newB_at hs fun b1 w hs => ?_
  refine call1_of (place_New hs) fun e w ⟨xb, he, hs⟩ => ⟨_, he, ?_⟩
  refine newB_at hs fun b3 w hs => ?_
  refine st_b hs fun w hs => ?_
  refine st_b hs fun w hs => ?_
  have hs := Sat.nilR Rec.ptr hs
  have hs := Sat.shutL (Ps := []) hs
  have loop : ∀ (f j : Nat) (w : World) (acc : Sl) (bs : List Nat), j + f = 4 → bs.length = j → Sat W w (allH (bs.map fun b => lst .string b [] []) :: recs Rec.ptr acc bs :: blk b3 [.slice acc.a acc.n acc.c, .pointer (some ⟨xb, 0, none⟩)] :: ixr Rec.ii xb 0 [] :: blk b1 [.slice none 0 0, .pointer none] :: L) →
      arc_newRows_l1 idJ (fun v w' => ∃ (s : Sl) (xb : Nat), v = .agg #[.slice s.a s.n s.c, .pointer (some ⟨xb, 0, none⟩)] ∧ Sat W w' (rowsC s xb 0 [[], [], [], []] :: L)) (f + 1) b1 0 b3 0 (4 : Int) (j : Int) w := by
    clear hs
    intro f
    induction f with
    | zero =>
      intro j w acc bs hif hj hs
      rw [arc_newRows_l1_raw]
      refine ite_false (decide_eq_false (by omega)) ?_
      rw [arc_newRows_j2_def, arc_newRows_j2_raw]
      refine ld_b (x := acc) hs ?_
      refine ld_b hs ?_
      refine st_b hs fun w hs => ?_
      refine st_b hs fun w hs => ?_
      refine ld_b (x := acc) hs ?_
      refine ld_b hs ?_
      refine ⟨acc, xb, rfl, ?_⟩
      obtain ⟨i1, i2, i3, i4, rfl⟩ : ∃ i1 i2 i3 i4, bs = [i1, i2, i3, i4] := by
        match bs, (show bs.length = 4 by omega) with
        | [i1, i2, i3, i4], _ => exact ⟨_, _, _, _, rfl⟩
      exact rows_sh (xs := [(i1, [], []), (i2, [], []), (i3, [], []), (i4, [], [])]) (m := []) ⟨rfl, by simp, by simp [rowsM, rowJ], by simp⟩ (by simp) (by exact Sat.fin hs)
    | succ f ih =>
      intro j w acc bs hif hj hs
      rw [arc_newRows_l1_raw]
      refine ite_true (decide_eq_true (by omega)) ?_
      refine drawW_only [blk b3 [.slice acc.a acc.n acc.c, .pointer (some ⟨xb, 0, none⟩)]] hs fun w hs => ?_
      refine ldS_b (x := acc) ?_
      refine call1_of (string_New hs) fun e w ⟨lb, he, hs⟩ => ⟨_, he, ?_⟩
      refine keep_imp hs ?_
      refine newB_at hs fun nb w hs => ?_
      refine keep_imp hs ?_
      refine app_one (s := acc) (a := lb) hs rfl rfl rfl rfl (by decide) (by omega) fun s2 w hs2 hs => ?_
      refine st_b hs fun w hs => ?_
      rw [show IntKind.wrap .i64 ((j : Int) + 1) = ((j + 1 : Nat) : Int) by rw [i64_in _ (by omega)]; omega]
      refine ih (j + 1) w s2 (bs ++ [lb]) (by omega) (by simp; omega) ?_
      have hs : Sat W w (allH (bs.map fun b => lst .string b [] []) :: lst .string lb [] [] :: recs Rec.ptr s2 (bs ++ [lb]) :: blk b3 [.slice s2.a s2.n s2.c, .pointer (some ⟨xb, 0, none⟩)] :: ixr Rec.ii xb 0 [] :: blk b1 [.slice none 0 0, .pointer none] :: L) := by exact Sat.fin hs
      rw [List.map_append]
      refine Sat.shutL ?_
      have h2 := hs.openL
      rw [List.append_assoc]
      exact h2
  refine exM_of 5 ?_
  exact loop 4 0 w ⟨none, 0, 0⟩ [] (by omega) rfl (by exact Sat.fin hs)
theorem arc_New_at (hs : Sat W w L) {r : Int} : Calls Tryd.prog id_arc_New #[.int .i64 r] w fun e w' => ∃ b, e = .returned (.pointer (some ⟨b, 0, none⟩)) ∧ Sat W w' (arcR b (roomR r) 0 arc0 :: L) := by
  refine (arc_New_calls (Q := fun v w' => ∃ b, v = .pointer (some ⟨b, 0, none⟩) ∧ Sat W w' (arcR b (roomR r) 0 arc0 :: L)) ?_).mono fun e w' ⟨v, he, b, hv, hs⟩ => ⟨b, by rw [he, hv], hs⟩
  rw [arc_New_def, arc_New_raw]
  refine (rows_new hs).mono fun e w ⟨s, xb, he, hs⟩ => ⟨s, _, he, ?_⟩
  refine newB_at hs fun b w hs => ?_
  refine ⟨b, rfl, ?_⟩
  have e0 : (if (if (1024 : Int) < r then (1024 : Int) else r) > (1 : Int) then (if (1024 : Int) < r then (1024 : Int) else r) else (1 : Int)) = roomR r := by unfold roomR; split <;> split <;> omega
  rw [e0] at hs
  exact arc_shut (x := arc0) hs rfl
theorem arc_ousts (hs : Sat W w (arcR b c N x :: M)) {first : Bool} (hf : first = true → 0 < x.t1.length) (hf2 : first = false → 0 < x.t2.length) (hN : N < 100000000) : Calls Tryd.prog id_arc_Engine_ousts #[.pointer (some ⟨b, 0, none⟩), .bool first] w fun e w' => ∃ l : Sl, e = .returned (.slice l.a l.n l.c) ∧
    Sat W w' (recs Rec.str l [(aGoes x first).1] :: arcR b c (N + 1) (aGoes x first).2 :: M) := by
  refine (arc_Engine_ousts_calls (Q := fun v w' => ∃ l : Sl, v = .slice l.a l.n l.c ∧ Sat W w' (recs Rec.str l [(aGoes x first).1] :: arcR b c (N + 1) (aGoes x first).2 :: M)) ?_).mono fun e w' ⟨v, he, l, hv, hs⟩ => ⟨l, by rw [he, hv], hs⟩
  rw [arc_Engine_ousts_def, arc_Engine_ousts_raw]
  have hw := (arc_w hs).1
  obtain ⟨s, xb, hs⟩ := arc_open hs
  cases first with
  | true =>
    have h0 := hf rfl
    refine ite_true rfl ?_
    rw [arc_Engine_ousts_j1_def, arc_Engine_ousts_j1_raw]
    repeat (first | with_reducible refine nilck_some ?_ | ((with_reducible refine atLd ?_); first | refine ld_b hs ?_ | refine ld_b (x := ⟨_, _, _⟩) hs ?_ | refine ld_r0 hs ?_ | refine ld_r1 hs ?_ | refine ld_rd0 ha_ hs ?_ | refine ld_rd1 ha_ hs ?_) | ((with_reducible refine isSt ?_); first | refine st_b hs fun w hs => ?_ | refine st_r0 hs fun w hs => ?_ | refine st_r1 hs fun w hs => ?_) | ((with_reducible refine isIdx ?_); first | refine idx_s hs fun b_ o_ hs => ?_ | refine idx_rd hs fun b_ o_ ha_ => ?_) | with_reducible refine newB_at hs fun b_ w hs => ?_ | ((with_reducible refine isLdS ?_); first | refine ldS_b ?_ | refine ldS_b (x := ⟨_, _, _⟩) ?_ | refine ldS_rs0 hs ?_ | refine ldS_rd0 ha_ ?_) | ((with_reducible refine isKeep ?_); first | refine keep_of hs ?_ | refine keep_imp hs ?_) | with_reducible refine when_om ?_ | with_reducible refine drawW_sat hs fun w hs => ?_)
    refine call1_of (rows_oldest hs (j := 0) (by decide) rfl) fun e w ⟨he, hs⟩ => ⟨_, he, ?_⟩
    have e0 : x.rows.getD 0 [] = x.t1 := rfl
    rw [e0]
    repeat (first | with_reducible refine nilck_some ?_ | ((with_reducible refine atLd ?_); first | refine ld_b hs ?_ | refine ld_b (x := ⟨_, _, _⟩) hs ?_ | refine ld_r0 hs ?_ | refine ld_r1 hs ?_ | refine ld_rd0 ha_ hs ?_ | refine ld_rd1 ha_ hs ?_) | ((with_reducible refine isSt ?_); first | refine st_b hs fun w hs => ?_ | refine st_r0 hs fun w hs => ?_ | refine st_r1 hs fun w hs => ?_) | ((with_reducible refine isIdx ?_); first | refine idx_s hs fun b_ o_ hs => ?_ | refine idx_rd hs fun b_ o_ ha_ => ?_) | with_reducible refine newB_at hs fun b_ w hs => ?_ | ((with_reducible refine isLdS ?_); first | refine ldS_b ?_ | refine ldS_b (x := ⟨_, _, _⟩) ?_ | refine ldS_rs0 hs ?_ | refine ldS_rd0 ha_ ?_) | ((with_reducible refine isKeep ?_); first | refine keep_of hs ?_ | refine keep_imp hs ?_) | with_reducible refine when_om ?_ | with_reducible refine drawW_sat hs fun w hs => ?_)
    refine call0_of (rows_push (j := 2) hs (by decide) (hw.s1 h0) hN rfl) fun e w ⟨he, hs⟩ => ⟨he, ?_⟩
    rw [goes_t1 hw h0] at hs
    refine newB_at hs fun nb w hs => ?_
    have hs := Sat.blkS (b := nb) (cs := [.string (hd0 x.t1)]) (n := 1) Rec.str [hd0 x.t1] hs rfl rfl
    have hs : Sat W w (aB b s xb c x.p :: rowsC s xb (N + 1) (aGoes x true).2.rows :: recs Rec.str ⟨some ⟨nb, 0, none⟩, 1, 1⟩ [hd0 x.t1] :: M) := by exact Sat.fin hs
    have hs := arc_shut (x := (aGoes x true).2) hs rfl
    exact ⟨⟨some ⟨nb, 0, none⟩, 1, 1⟩, rfl, by exact Sat.fin hs⟩
  | false =>
    have h0 := hf2 rfl
    refine ite_false rfl ?_
    rw [arc_Engine_ousts_j1_def, arc_Engine_ousts_j1_raw]
    repeat (first | with_reducible refine nilck_some ?_ | ((with_reducible refine atLd ?_); first | refine ld_b hs ?_ | refine ld_b (x := ⟨_, _, _⟩) hs ?_ | refine ld_r0 hs ?_ | refine ld_r1 hs ?_ | refine ld_rd0 ha_ hs ?_ | refine ld_rd1 ha_ hs ?_) | ((with_reducible refine isSt ?_); first | refine st_b hs fun w hs => ?_ | refine st_r0 hs fun w hs => ?_ | refine st_r1 hs fun w hs => ?_) | ((with_reducible refine isIdx ?_); first | refine idx_s hs fun b_ o_ hs => ?_ | refine idx_rd hs fun b_ o_ ha_ => ?_) | with_reducible refine newB_at hs fun b_ w hs => ?_ | ((with_reducible refine isLdS ?_); first | refine ldS_b ?_ | refine ldS_b (x := ⟨_, _, _⟩) ?_ | refine ldS_rs0 hs ?_ | refine ldS_rd0 ha_ ?_) | ((with_reducible refine isKeep ?_); first | refine keep_of hs ?_ | refine keep_imp hs ?_) | with_reducible refine when_om ?_ | with_reducible refine drawW_sat hs fun w hs => ?_)
    refine call1_of (rows_oldest hs (j := 1) (by decide) rfl) fun e w ⟨he, hs⟩ => ⟨_, he, ?_⟩
    have e0 : x.rows.getD 1 [] = x.t2 := rfl
    rw [e0]
    repeat (first | with_reducible refine nilck_some ?_ | ((with_reducible refine atLd ?_); first | refine ld_b hs ?_ | refine ld_b (x := ⟨_, _, _⟩) hs ?_ | refine ld_r0 hs ?_ | refine ld_r1 hs ?_ | refine ld_rd0 ha_ hs ?_ | refine ld_rd1 ha_ hs ?_) | ((with_reducible refine isSt ?_); first | refine st_b hs fun w hs => ?_ | refine st_r0 hs fun w hs => ?_ | refine st_r1 hs fun w hs => ?_) | ((with_reducible refine isIdx ?_); first | refine idx_s hs fun b_ o_ hs => ?_ | refine idx_rd hs fun b_ o_ ha_ => ?_) | with_reducible refine newB_at hs fun b_ w hs => ?_ | ((with_reducible refine isLdS ?_); first | refine ldS_b ?_ | refine ldS_b (x := ⟨_, _, _⟩) ?_ | refine ldS_rs0 hs ?_ | refine ldS_rd0 ha_ ?_) | ((with_reducible refine isKeep ?_); first | refine keep_of hs ?_ | refine keep_imp hs ?_) | with_reducible refine when_om ?_ | with_reducible refine drawW_sat hs fun w hs => ?_)
    refine call0_of (rows_push (j := 3) hs (by decide) (hw.s2 h0) hN rfl) fun e w ⟨he, hs⟩ => ⟨he, ?_⟩
    rw [goes_t2 hw h0] at hs
    refine newB_at hs fun nb w hs => ?_
    have hs := Sat.blkS (b := nb) (cs := [.string (hd0 x.t2)]) (n := 1) Rec.str [hd0 x.t2] hs rfl rfl
    have hs : Sat W w (aB b s xb c x.p :: rowsC s xb (N + 1) (aGoes x false).2.rows :: recs Rec.str ⟨some ⟨nb, 0, none⟩, 1, 1⟩ [hd0 x.t2] :: M) := by exact Sat.fin hs
    have hs := arc_shut (x := (aGoes x false).2) hs rfl
    exact ⟨⟨some ⟨nb, 0, none⟩, 1, 1⟩, rfl, by exact Sat.fin hs⟩
theorem arc_replaces (hs : Sat W w (arcR b c N x :: M)) {again : Bool} (hc : 1 ≤ c) (hN : N < 100000000) : Calls Tryd.prog id_arc_Engine_replaces #[.pointer (some ⟨b, 0, none⟩), .bool again] w fun e w' => ∃ l : Sl, e = .returned (.slice l.a l.n l.c) ∧
    Sat W w' (recs Rec.str l (aRep c x again).1 :: arcR b c (N + 1) (aRep c x again).2 :: M) := by
  refine (arc_Engine_replaces_calls (Q := fun v w' => ∃ l : Sl, v = .slice l.a l.n l.c ∧ Sat W w' (recs Rec.str l (aRep c x again).1 :: arcR b c (N + 1) (aRep c x again).2 :: M)) ?_).mono fun e w' ⟨v, he, l, hv, hs⟩ => ⟨l, by rw [he, hv], hs⟩
  rw [arc_Engine_replaces_def, arc_Engine_replaces_raw]
  obtain ⟨s, xb, hs⟩ := arc_open hs
  refine drawW_only [aB b s xb c x.p] hs fun w hs => ?_
  repeat (first | with_reducible refine nilck_some ?_ | ((with_reducible refine atLd ?_); first | refine ld_b hs ?_ | refine ld_b (x := ⟨_, _, _⟩) hs ?_ | refine ld_r0 hs ?_ | refine ld_r1 hs ?_ | refine ld_rd0 ha_ hs ?_ | refine ld_rd1 ha_ hs ?_) | ((with_reducible refine isSt ?_); first | refine st_b hs fun w hs => ?_ | refine st_r0 hs fun w hs => ?_ | refine st_r1 hs fun w hs => ?_) | ((with_reducible refine isIdx ?_); first | refine idx_s hs fun b_ o_ hs => ?_ | refine idx_rd hs fun b_ o_ ha_ => ?_) | with_reducible refine newB_at hs fun b_ w hs => ?_ | ((with_reducible refine isLdS ?_); first | refine ldS_b ?_ | refine ldS_b (x := ⟨_, _, _⟩) ?_ | refine ldS_rs0 hs ?_ | refine ldS_rd0 ha_ ?_) | ((with_reducible refine isKeep ?_); first | refine keep_of hs ?_ | refine keep_imp hs ?_) | with_reducible refine when_om ?_ | with_reducible refine drawW_sat hs fun w hs => ?_)
  refine many_of [0, 1] (M := aB b s xb c x.p :: M) (by exact Sat.fin hs) hN rfl fun w hs => ?_
  refine keep_imp hs ?_
  rw [rs01]
  have hs : Sat W w (aB b s xb c x.p :: rowsC s xb N x.rows :: M) := by exact Sat.fin hs
  with_reducible refine ite_by (fun h1 => ?_) (fun h1 => ?_)
  · have e1 : aRep c x again = ([], x) := if_pos (by omega)
    rw [e1]
    have hs := arc_more (arc_shut (x := x) hs rfl) (Nat.le_succ N)
    have hs := Sat.nilR Rec.str hs
    exact ⟨⟨none, 0, 0⟩, rfl, hs⟩
  · have e1 : aRep c x again = ([(aGoes x (aFirst x again)).1], (aGoes x (aFirst x again)).2) := if_neg (by omega)
    rw [e1]
    have fin : ∀ (w : World) (f : Bool), f = aFirst x again → Sat W w (aB b s xb c x.p :: rowsC s xb N x.rows :: M) → call1 .slc Tryd.prog id_arc_Engine_ousts [.pointer (some ⟨b, 0, none⟩), .bool f] (fun y w' => ∃ l : Sl, Value.slice y.a y.n y.c = .slice l.a l.n l.c ∧ Sat W w' (recs Rec.str l [(aGoes x (aFirst x again)).1] :: arcR b c (N + 1) (aGoes x (aFirst x again)).2 :: M)) w := by
      intro w f hf hs
      subst hf
      exact call1_of (arc_ousts (arc_shut (x := x) hs rfl) aFirst_t1 (fun h => aFirst_t2 h (by omega)) hN) fun e w ⟨l, he, hs⟩ => ⟨l, he, l, rfl, hs⟩
    clear e1
    repeat (first | with_reducible refine nilck_some ?_ | ((with_reducible refine atLd ?_); first | refine ld_b hs ?_ | refine ld_b (x := ⟨_, _, _⟩) hs ?_ | refine ld_r0 hs ?_ | refine ld_r1 hs ?_ | refine ld_rd0 ha_ hs ?_ | refine ld_rd1 ha_ hs ?_) | ((with_reducible refine isSt ?_); first | refine st_b hs fun w hs => ?_ | refine st_r0 hs fun w hs => ?_ | refine st_r1 hs fun w hs => ?_) | ((with_reducible refine isIdx ?_); first | refine idx_s hs fun b_ o_ hs => ?_ | refine idx_rd hs fun b_ o_ ha_ => ?_) | with_reducible refine newB_at hs fun b_ w hs => ?_ | ((with_reducible refine isLdS ?_); first | refine ldS_b ?_ | refine ldS_b (x := ⟨_, _, _⟩) ?_ | refine ldS_rs0 hs ?_ | refine ldS_rd0 ha_ ?_) | ((with_reducible refine isKeep ?_); first | refine keep_of hs ?_ | refine keep_imp hs ?_) | with_reducible refine when_om ?_ | with_reducible refine drawW_sat hs fun w hs => ?_)
    refine many_of [0] (M := aB b s xb c x.p :: M) (by exact Sat.fin hs) hN rfl fun w hs => ?_
    rw [rs0]
    have hs : Sat W w (aB b s xb c x.p :: rowsC s xb N x.rows :: M) := by exact Sat.fin hs
    with_reducible refine ite_by (fun h2 => ?_) (fun h2 => ?_)
    · repeat (first | with_reducible refine nilck_some ?_ | ((with_reducible refine atLd ?_); first | refine ld_b hs ?_ | refine ld_b (x := ⟨_, _, _⟩) hs ?_ | refine ld_r0 hs ?_ | refine ld_r1 hs ?_ | refine ld_rd0 ha_ hs ?_ | refine ld_rd1 ha_ hs ?_) | ((with_reducible refine isSt ?_); first | refine st_b hs fun w hs => ?_ | refine st_r0 hs fun w hs => ?_ | refine st_r1 hs fun w hs => ?_) | ((with_reducible refine isIdx ?_); first | refine idx_s hs fun b_ o_ hs => ?_ | refine idx_rd hs fun b_ o_ ha_ => ?_) | with_reducible refine newB_at hs fun b_ w hs => ?_ | ((with_reducible refine isLdS ?_); first | refine ldS_b ?_ | refine ldS_b (x := ⟨_, _, _⟩) ?_ | refine ldS_rs0 hs ?_ | refine ldS_rd0 ha_ ?_) | ((with_reducible refine isKeep ?_); first | refine keep_of hs ?_ | refine keep_imp hs ?_) | with_reducible refine when_om ?_ | with_reducible refine drawW_sat hs fun w hs => ?_)
      with_reducible refine ite_by (fun h3 => ?_) (fun h3 => ?_)
      · refine fin w true ?_ hs
        unfold aFirst
        simp only [decide_eq_true (show 0 < x.t1.length by omega), decide_eq_true (show x.p < (x.t1.length : Int) by omega), Bool.true_or, Bool.and_true]
      · repeat (first | with_reducible refine nilck_some ?_ | ((with_reducible refine atLd ?_); first | refine ld_b hs ?_ | refine ld_b (x := ⟨_, _, _⟩) hs ?_ | refine ld_r0 hs ?_ | refine ld_r1 hs ?_ | refine ld_rd0 ha_ hs ?_ | refine ld_rd1 ha_ hs ?_) | ((with_reducible refine isSt ?_); first | refine st_b hs fun w hs => ?_ | refine st_r0 hs fun w hs => ?_ | refine st_r1 hs fun w hs => ?_) | ((with_reducible refine isIdx ?_); first | refine idx_s hs fun b_ o_ hs => ?_ | refine idx_rd hs fun b_ o_ ha_ => ?_) | with_reducible refine newB_at hs fun b_ w hs => ?_ | ((with_reducible refine isLdS ?_); first | refine ldS_b ?_ | refine ldS_b (x := ⟨_, _, _⟩) ?_ | refine ldS_rs0 hs ?_ | refine ldS_rd0 ha_ ?_) | ((with_reducible refine isKeep ?_); first | refine keep_of hs ?_ | refine keep_imp hs ?_) | with_reducible refine when_om ?_ | with_reducible refine drawW_sat hs fun w hs => ?_)
        with_reducible refine ite_by (fun h4 => ?_) (fun h4 => ?_)
        · refine ite_cases (fun h5 => ?_) (fun h5 => ?_)
          · refine fin w true ?_ hs
            unfold aFirst
            simp only [decide_eq_true (show 0 < x.t1.length by omega), decide_eq_true (show (x.t1.length : Int) = x.p by omega), h5, Bool.true_or, Bool.and_true, Bool.or_true]
          · repeat (first | with_reducible refine nilck_some ?_ | ((with_reducible refine atLd ?_); first | refine ld_b hs ?_ | refine ld_b (x := ⟨_, _, _⟩) hs ?_ | refine ld_r0 hs ?_ | refine ld_r1 hs ?_ | refine ld_rd0 ha_ hs ?_ | refine ld_rd1 ha_ hs ?_) | ((with_reducible refine isSt ?_); first | refine st_b hs fun w hs => ?_ | refine st_r0 hs fun w hs => ?_ | refine st_r1 hs fun w hs => ?_) | ((with_reducible refine isIdx ?_); first | refine idx_s hs fun b_ o_ hs => ?_ | refine idx_rd hs fun b_ o_ ha_ => ?_) | with_reducible refine newB_at hs fun b_ w hs => ?_ | ((with_reducible refine isLdS ?_); first | refine ldS_b ?_ | refine ldS_b (x := ⟨_, _, _⟩) ?_ | refine ldS_rs0 hs ?_ | refine ldS_rd0 ha_ ?_) | ((with_reducible refine isKeep ?_); first | refine keep_of hs ?_ | refine keep_imp hs ?_) | with_reducible refine when_om ?_ | with_reducible refine drawW_sat hs fun w hs => ?_)
            refine many_of [1] (M := aB b s xb c x.p :: M) (by exact Sat.fin hs) hN rfl fun w hs => ?_
            rw [rs1]
            refine fin w _ ?_ (by exact Sat.fin hs)
            unfold aFirst
            rw [h5, decide_eq_true (show 0 < x.t1.length by omega), decide_eq_false (show ¬ x.p < (x.t1.length : Int) by omega), Bool.and_false, Bool.false_or, Bool.false_or, Bool.true_and, Bool.eq_iff_iff, beq_iff_eq, decide_eq_true_eq]
            omega
        · repeat (first | with_reducible refine nilck_some ?_ | ((with_reducible refine atLd ?_); first | refine ld_b hs ?_ | refine ld_b (x := ⟨_, _, _⟩) hs ?_ | refine ld_r0 hs ?_ | refine ld_r1 hs ?_ | refine ld_rd0 ha_ hs ?_ | refine ld_rd1 ha_ hs ?_) | ((with_reducible refine isSt ?_); first | refine st_b hs fun w hs => ?_ | refine st_r0 hs fun w hs => ?_ | refine st_r1 hs fun w hs => ?_) | ((with_reducible refine isIdx ?_); first | refine idx_s hs fun b_ o_ hs => ?_ | refine idx_rd hs fun b_ o_ ha_ => ?_) | with_reducible refine newB_at hs fun b_ w hs => ?_ | ((with_reducible refine isLdS ?_); first | refine ldS_b ?_ | refine ldS_b (x := ⟨_, _, _⟩) ?_ | refine ldS_rs0 hs ?_ | refine ldS_rd0 ha_ ?_) | ((with_reducible refine isKeep ?_); first | refine keep_of hs ?_ | refine keep_imp hs ?_) | with_reducible refine when_om ?_ | with_reducible refine drawW_sat hs fun w hs => ?_)
          refine many_of [1] (M := aB b s xb c x.p :: M) (by exact Sat.fin hs) hN rfl fun w hs => ?_
          rw [rs1]
          refine fin w _ ?_ (by exact Sat.fin hs)
          unfold aFirst
          rw [decide_eq_true (show 0 < x.t1.length by omega), decide_eq_false (show ¬ x.p < (x.t1.length : Int) by omega), decide_eq_false (show ¬ (x.t1.length : Int) = x.p by omega), Bool.false_and, Bool.false_or, Bool.false_or, Bool.true_and, Bool.eq_iff_iff, beq_iff_eq, decide_eq_true_eq]
          omega
    · refine fin w false ?_ hs
      unfold aFirst
      rw [decide_eq_false (show ¬ 0 < x.t1.length by omega), Bool.false_and]
end
end Go.Proofs.YtchlicgjdlkidaaDoor
namespace Go.Proofs.YtchlicgjdlkidaaDoor
open Go.Hb Go.IntWalk
section
variable {W w : World} {L M : List HP} {F : HP → List HP} {b N : Nat} {c : Int} {x : ArcS} {key : ByteArray}
theorem arc_Room (hs : Sat W w L) [hA : At L b (arcR b c N x) F] : Calls Tryd.prog id_arc_Engine_Room #[.pointer (some ⟨b, 0, none⟩)] w fun e w' => e = .returned (.int .i64 c) ∧ Sat W w' (F (arcR b c N x)) := by
  refine At.call1 (hA := hA) hs fun M hs => ?_
  clear hA
  refine c1 (arc_Engine_Room_calls ?_)
  rw [arc_Engine_Room_def, arc_Engine_Room_raw]
  obtain ⟨s, xb, hs⟩ := arc_open hs
  refine ite_false rfl ?_
  repeat (first | with_reducible refine nilck_some ?_ | ((with_reducible refine atLd ?_); first | refine ld_b hs ?_ | refine ld_b (x := ⟨_, _, _⟩) hs ?_ | refine ld_r0 hs ?_ | refine ld_r1 hs ?_ | refine ld_rd0 ha_ hs ?_ | refine ld_rd1 ha_ hs ?_) | ((with_reducible refine isSt ?_); first | refine st_b hs fun w hs => ?_ | refine st_r0 hs fun w hs => ?_ | refine st_r1 hs fun w hs => ?_) | ((with_reducible refine isIdx ?_); first | refine idx_s hs fun b_ o_ hs => ?_ | refine idx_rd hs fun b_ o_ ha_ => ?_) | with_reducible refine newB_at hs fun b_ w hs => ?_ | ((with_reducible refine isLdS ?_); first | refine ldS_b ?_ | refine ldS_b (x := ⟨_, _, _⟩) ?_ | refine ldS_rs0 hs ?_ | refine ldS_rd0 ha_ ?_) | ((with_reducible refine isKeep ?_); first | refine keep_of hs ?_ | refine keep_imp hs ?_) | with_reducible refine when_om ?_ | with_reducible refine drawW_sat hs fun w hs => ?_)
  exact ⟨rfl, arc_shut hs rfl⟩
theorem arc_Len (hs : Sat W w L) [hA : At L b (arcR b c N x) F] (hN : N < 100000000) : Calls Tryd.prog id_arc_Engine_Len #[.pointer (some ⟨b, 0, none⟩)] w fun e w' => e = .returned (.int .i64 (aLen x : Int)) ∧ Sat W w' (F (arcR b c N x)) := by
  refine At.call1 (hA := hA) hs fun M hs => ?_
  clear hA
  refine c1 (arc_Engine_Len_calls ?_)
  rw [arc_Engine_Len_def, arc_Engine_Len_raw]
  obtain ⟨s, xb, hs⟩ := arc_open hs
  refine ite_false rfl ?_
  repeat (first | with_reducible refine nilck_some ?_ | ((with_reducible refine atLd ?_); first | refine ld_b hs ?_ | refine ld_b (x := ⟨_, _, _⟩) hs ?_ | refine ld_r0 hs ?_ | refine ld_r1 hs ?_ | refine ld_rd0 ha_ hs ?_ | refine ld_rd1 ha_ hs ?_) | ((with_reducible refine isSt ?_); first | refine st_b hs fun w hs => ?_ | refine st_r0 hs fun w hs => ?_ | refine st_r1 hs fun w hs => ?_) | ((with_reducible refine isIdx ?_); first | refine idx_s hs fun b_ o_ hs => ?_ | refine idx_rd hs fun b_ o_ ha_ => ?_) | with_reducible refine newB_at hs fun b_ w hs => ?_ | ((with_reducible refine isLdS ?_); first | refine ldS_b ?_ | refine ldS_b (x := ⟨_, _, _⟩) ?_ | refine ldS_rs0 hs ?_ | refine ldS_rd0 ha_ ?_) | ((with_reducible refine isKeep ?_); first | refine keep_of hs ?_ | refine keep_imp hs ?_) | with_reducible refine when_om ?_ | with_reducible refine drawW_sat hs fun w hs => ?_)
  refine many_of [0, 1] (M := aB b s xb c x.p :: M) (by exact Sat.fin hs) hN rfl fun w hs => ?_
  rw [rs01]
  exact ⟨rfl, arc_shut (by exact Sat.fin hs) rfl⟩
theorem arc_Has (hs : Sat W w L) [hA : At L b (arcR b c N x) F] (hz : key.size < 64) : Calls Tryd.prog id_arc_Engine_Has #[.pointer (some ⟨b, 0, none⟩), .string key] w fun e w' => e = .returned (.bool (decide (key ∈ aRes x))) ∧ Sat W w' (F (arcR b c N x)) := by
  refine At.call1 (hA := hA) hs fun M hs => ?_
  clear hA
  refine c1 (arc_Engine_Has_calls ?_)
  rw [arc_Engine_Has_def, arc_Engine_Has_raw]
  obtain ⟨s, xb, hs⟩ := arc_open hs
  refine ite_false rfl ?_
  repeat (first | with_reducible refine nilck_some ?_ | ((with_reducible refine atLd ?_); first | refine ld_b hs ?_ | refine ld_b (x := ⟨_, _, _⟩) hs ?_ | refine ld_r0 hs ?_ | refine ld_r1 hs ?_ | refine ld_rd0 ha_ hs ?_ | refine ld_rd1 ha_ hs ?_) | ((with_reducible refine isSt ?_); first | refine st_b hs fun w hs => ?_ | refine st_r0 hs fun w hs => ?_ | refine st_r1 hs fun w hs => ?_) | ((with_reducible refine isIdx ?_); first | refine idx_s hs fun b_ o_ hs => ?_ | refine idx_rd hs fun b_ o_ ha_ => ?_) | with_reducible refine newB_at hs fun b_ w hs => ?_ | ((with_reducible refine isLdS ?_); first | refine ldS_b ?_ | refine ldS_b (x := ⟨_, _, _⟩) ?_ | refine ldS_rs0 hs ?_ | refine ldS_rd0 ha_ ?_) | ((with_reducible refine isKeep ?_); first | refine keep_of hs ?_ | refine keep_imp hs ?_) | with_reducible refine when_om ?_ | with_reducible refine drawW_sat hs fun w hs => ?_)
  refine call1_of (rows_where hs hz) fun e w ⟨he, hs⟩ => ⟨_, he, ?_⟩
  rw [where_rows]
  by_cases h1 : key ∈ x.t1
  · rw [if_pos h1, decide_eq_true (mem_aRes.2 (.inl h1))]
    exact ite_true rfl ⟨rfl, arc_shut hs rfl⟩
  · rw [if_neg h1]
    by_cases h2 : key ∈ x.t2
    · rw [if_pos h2, decide_eq_true (mem_aRes.2 (.inr h2))]
      exact ite_false rfl ⟨rfl, arc_shut hs rfl⟩
    · rw [if_neg h2, decide_eq_false (fun h => (mem_aRes.1 h).elim h1 h2)]
      split
      · exact ite_false rfl ⟨rfl, arc_shut hs rfl⟩
      · split
        · exact ite_false rfl ⟨rfl, arc_shut hs rfl⟩
        · exact ite_false rfl ⟨rfl, arc_shut hs rfl⟩
theorem arc_Keys (h : Sat W w L) [hA : At L b (arcR b c N x) F] (hN : N < 100000000) : Calls Tryd.prog id_arc_Engine_Keys #[.pointer (some ⟨b, 0, none⟩)] w fun e w' => ∃ l : Sl, e = .returned (.slice l.a l.n l.c) ∧ Sat W w' (recs Rec.str l (aRes x) :: F (arcR b c N x)) := by
  refine At.oneX (hA := hA) h fun M hs hb => ?_
  refine (arc_Engine_Keys_calls (Q := fun v w' => ∃ l : Sl, v = .slice l.a l.n l.c ∧ Sat W w' (arcR b c N x :: recs Rec.str l (aRes x) :: M)) ?_).mono fun e w' ⟨v, he, l, hv, hs⟩ => ⟨l, by rw [he, hv], hb _ _ [recs Rec.str l (aRes x)] hs⟩
  clear hb hA
  rw [arc_Engine_Keys_def, arc_Engine_Keys_raw]
  obtain ⟨s, xb, hs⟩ := arc_open hs
  refine ite_false rfl ?_
  repeat (first | with_reducible refine nilck_some ?_ | ((with_reducible refine atLd ?_); first | refine ld_b hs ?_ | refine ld_b (x := ⟨_, _, _⟩) hs ?_ | refine ld_r0 hs ?_ | refine ld_r1 hs ?_ | refine ld_rd0 ha_ hs ?_ | refine ld_rd1 ha_ hs ?_) | ((with_reducible refine isSt ?_); first | refine st_b hs fun w hs => ?_ | refine st_r0 hs fun w hs => ?_ | refine st_r1 hs fun w hs => ?_) | ((with_reducible refine isIdx ?_); first | refine idx_s hs fun b_ o_ hs => ?_ | refine idx_rd hs fun b_ o_ ha_ => ?_) | with_reducible refine newB_at hs fun b_ w hs => ?_ | ((with_reducible refine isLdS ?_); first | refine ldS_b ?_ | refine ldS_b (x := ⟨_, _, _⟩) ?_ | refine ldS_rs0 hs ?_ | refine ldS_rd0 ha_ ?_) | ((with_reducible refine isKeep ?_); first | refine keep_of hs ?_ | refine keep_imp hs ?_) | with_reducible refine when_om ?_ | with_reducible refine drawW_sat hs fun w hs => ?_)
  refine keys_of [0, 1] (M := aB b s xb c x.p :: M) (by exact Sat.fin hs) hN rfl fun l w hs => ?_
  have e1 : rKeys x.rows [0, 1] = aRes x := by simp [rKeys, ArcS.rows, aRes]
  rw [e1] at hs
  exact ⟨l, rfl, arc_shut (by exact Sat.fin hs) rfl⟩
theorem arc_Ghosts (h : Sat W w L) [hA : At L b (arcR b c N x) F] (hN : N < 100000000) : Calls Tryd.prog id_arc_Engine_Ghosts #[.pointer (some ⟨b, 0, none⟩)] w fun e w' => ∃ l : Sl, e = .returned (.slice l.a l.n l.c) ∧ Sat W w' (recs Rec.str l (aGhs x) :: F (arcR b c N x)) := by
  refine At.oneX (hA := hA) h fun M hs hb => ?_
  refine (arc_Engine_Ghosts_calls (Q := fun v w' => ∃ l : Sl, v = .slice l.a l.n l.c ∧ Sat W w' (arcR b c N x :: recs Rec.str l (aGhs x) :: M)) ?_).mono fun e w' ⟨v, he, l, hv, hs⟩ => ⟨l, by rw [he, hv], hb _ _ [recs Rec.str l (aGhs x)] hs⟩
  clear hb hA
  rw [arc_Engine_Ghosts_def, arc_Engine_Ghosts_raw]
  obtain ⟨s, xb, hs⟩ := arc_open hs
  refine ite_false rfl ?_
  repeat (first | with_reducible refine nilck_some ?_ | ((with_reducible refine atLd ?_); first | refine ld_b hs ?_ | refine ld_b (x := ⟨_, _, _⟩) hs ?_ | refine ld_r0 hs ?_ | refine ld_r1 hs ?_ | refine ld_rd0 ha_ hs ?_ | refine ld_rd1 ha_ hs ?_) | ((with_reducible refine isSt ?_); first | refine st_b hs fun w hs => ?_ | refine st_r0 hs fun w hs => ?_ | refine st_r1 hs fun w hs => ?_) | ((with_reducible refine isIdx ?_); first | refine idx_s hs fun b_ o_ hs => ?_ | refine idx_rd hs fun b_ o_ ha_ => ?_) | with_reducible refine newB_at hs fun b_ w hs => ?_ | ((with_reducible refine isLdS ?_); first | refine ldS_b ?_ | refine ldS_b (x := ⟨_, _, _⟩) ?_ | refine ldS_rs0 hs ?_ | refine ldS_rd0 ha_ ?_) | ((with_reducible refine isKeep ?_); first | refine keep_of hs ?_ | refine keep_imp hs ?_) | with_reducible refine when_om ?_ | with_reducible refine drawW_sat hs fun w hs => ?_)
  refine keys_of [2, 3] (M := aB b s xb c x.p :: M) (by exact Sat.fin hs) hN rfl fun l w hs => ?_
  have e1 : rKeys x.rows [2, 3] = aGhs x := by simp [rKeys, ArcS.rows, aGhs]
  rw [e1] at hs
  exact ⟨l, rfl, arc_shut (by exact Sat.fin hs) rfl⟩
theorem arc_Remove (hs : Sat W w L) [hA : At L b (arcR b c N x) F] (hz : key.size < 64) (hN : N < 100000000) : Calls Tryd.prog id_arc_Engine_Remove #[.pointer (some ⟨b, 0, none⟩), .string key] w fun e w' => e = .returned (.bool (aRem x key).1) ∧ Sat W w' (F (arcR b c N (aRem x key).2)) := by
  refine At.call1 (hA := hA) hs fun M hs => ?_
  clear hA
  refine c1 (arc_Engine_Remove_calls ?_)
  rw [arc_Engine_Remove_def, arc_Engine_Remove_raw]
  refine call1_of (arc_Has hs hz) fun e w ⟨he, hs⟩ => ⟨_, he, ?_⟩
  by_cases hk : key ∈ aRes x
  · rw [decide_eq_true hk]
    have e1 : aRem x key = (true, aCut x key) := if_pos (mem_aRes.1 hk)
    rw [e1]
    refine ite_false rfl ?_
    obtain ⟨s, xb, hs⟩ := arc_open hs
    repeat (first | with_reducible refine nilck_some ?_ | ((with_reducible refine atLd ?_); first | refine ld_b hs ?_ | refine ld_b (x := ⟨_, _, _⟩) hs ?_ | refine ld_r0 hs ?_ | refine ld_r1 hs ?_ | refine ld_rd0 ha_ hs ?_ | refine ld_rd1 ha_ hs ?_) | ((with_reducible refine isSt ?_); first | refine st_b hs fun w hs => ?_ | refine st_r0 hs fun w hs => ?_ | refine st_r1 hs fun w hs => ?_) | ((with_reducible refine isIdx ?_); first | refine idx_s hs fun b_ o_ hs => ?_ | refine idx_rd hs fun b_ o_ ha_ => ?_) | with_reducible refine newB_at hs fun b_ w hs => ?_ | ((with_reducible refine isLdS ?_); first | refine ldS_b ?_ | refine ldS_b (x := ⟨_, _, _⟩) ?_ | refine ldS_rs0 hs ?_ | refine ldS_rd0 ha_ ?_) | ((with_reducible refine isKeep ?_); first | refine keep_of hs ?_ | refine keep_imp hs ?_) | with_reducible refine when_om ?_ | with_reducible refine drawW_sat hs fun w hs => ?_)
    refine call0_of (rows_drop hs hz hN rfl) fun e w ⟨he, hs⟩ => ⟨he, ?_⟩
    rw [rTake_rows] at hs
    exact ⟨rfl, arc_shut (x := aCut x key) hs rfl⟩
  · rw [decide_eq_false hk]
    have e1 : aRem x key = (false, x) := if_neg (fun h => hk (mem_aRes.2 h))
    rw [e1]
    refine ite_true rfl ?_
    exact ⟨rfl, hs⟩
theorem arc_Evict (hs : Sat W w L) [hA : At L b (arcR b c N x) F] (hN : N < 100000000) : Calls Tryd.prog id_arc_Engine_Evict #[.pointer (some ⟨b, 0, none⟩)] w fun e w' => e = .returned (.tuple #[.string (aEvict x).1.1, .bool (aEvict x).1.2]) ∧ Sat W w' (F (arcR b c (N + 1) (aEvict x).2)) := by
  refine At.call1 (hA := hA) hs fun M hs => ?_
  clear hA
  refine c1 (arc_Engine_Evict_calls ?_)
  rw [arc_Engine_Evict_def, arc_Engine_Evict_raw]
  refine call1_of (arc_Len hs hN) fun e w ⟨he, hs⟩ => ⟨_, he, ?_⟩
  with_reducible refine ite_by (fun h0 => ?_) (fun h0 => ?_)
  · have e1 : aEvict x = ((⟨#[]⟩, false), x) := if_pos (by unfold aLen at h0; omega)
    rw [e1]
    exact ⟨rfl, arc_more hs (Nat.le_succ N)⟩
  · have h00 : ¬ (x.t1.length + x.t2.length = 0) := by unfold aLen at h0; omega
    obtain ⟨g, hg⟩ : ∃ g, g = (decide (0 < x.t1.length) && (decide (x.p < (x.t1.length : Int)) || decide (x.t2.length = 0))) := ⟨_, rfl⟩
    have e1 : aEvict x = (((aGoes x g).1, true), (aGoes x g).2) := by rw [hg]; exact if_neg h00
    rw [e1]
    obtain ⟨s, xb, hs⟩ := arc_open hs
    have g1 : g = true → 0 < x.t1.length := fun h => by rw [hg, Bool.and_eq_true, decide_eq_true_eq] at h; exact h.1
    have g2 : g = false → 0 < x.t2.length := fun h => aEv_t2 (by rw [← hg]; exact h) (by omega)
    have fin : ∀ (w : World) (f : Bool), f = g → Sat W w (aB b s xb c x.p :: rowsC s xb N x.rows :: M) → call1 .slc Tryd.prog id_arc_Engine_ousts [.pointer (some ⟨b, 0, none⟩), .bool f] (fun y =>
        idx y.a y.n (0 : Int) fun b_12 o_13 => ld .str b_12 (o_13 + ((0 : Int)).toNat * 1) fun (x_14 : ByteArray) w' => Value.tuple #[.string x_14, .bool true] = Value.tuple #[.string (aGoes x g).1, .bool true] ∧ Sat W w' (arcR b c (N + 1) (aGoes x g).2 :: M)) w := by
      intro w f hf hs
      subst hf
      refine call1_of (arc_ousts (arc_shut (x := x) hs rfl) g1 g2 hN) fun e w ⟨l, he, hs⟩ => ⟨l, he, ?_⟩
      have hl := (recs_len (s := l) hs (by decide)).1
      have hl1 : l.n = 1 := hl
      refine idx_s hs fun b_ o_ hs => ?_
      refine ld_r0 hs ?_
      exact ⟨rfl, by exact Sat.fin hs⟩
    clear e1
    repeat (first | with_reducible refine nilck_some ?_ | ((with_reducible refine atLd ?_); first | refine ld_b hs ?_ | refine ld_b (x := ⟨_, _, _⟩) hs ?_ | refine ld_r0 hs ?_ | refine ld_r1 hs ?_ | refine ld_rd0 ha_ hs ?_ | refine ld_rd1 ha_ hs ?_) | ((with_reducible refine isSt ?_); first | refine st_b hs fun w hs => ?_ | refine st_r0 hs fun w hs => ?_ | refine st_r1 hs fun w hs => ?_) | ((with_reducible refine isIdx ?_); first | refine idx_s hs fun b_ o_ hs => ?_ | refine idx_rd hs fun b_ o_ ha_ => ?_) | with_reducible refine newB_at hs fun b_ w hs => ?_ | ((with_reducible refine isLdS ?_); first | refine ldS_b ?_ | refine ldS_b (x := ⟨_, _, _⟩) ?_ | refine ldS_rs0 hs ?_ | refine ldS_rd0 ha_ ?_) | ((with_reducible refine isKeep ?_); first | refine keep_of hs ?_ | refine keep_imp hs ?_) | with_reducible refine when_om ?_ | with_reducible refine drawW_sat hs fun w hs => ?_)
    refine many_of [0] (M := aB b s xb c x.p :: M) (by exact Sat.fin hs) hN rfl fun w hs => ?_
    rw [rs0]
    have hs : Sat W w (aB b s xb c x.p :: rowsC s xb N x.rows :: M) := by exact Sat.fin hs
    with_reducible refine ite_by (fun h2 => ?_) (fun h2 => ?_)
    · repeat (first | with_reducible refine nilck_some ?_ | ((with_reducible refine atLd ?_); first | refine ld_b hs ?_ | refine ld_b (x := ⟨_, _, _⟩) hs ?_ | refine ld_r0 hs ?_ | refine ld_r1 hs ?_ | refine ld_rd0 ha_ hs ?_ | refine ld_rd1 ha_ hs ?_) | ((with_reducible refine isSt ?_); first | refine st_b hs fun w hs => ?_ | refine st_r0 hs fun w hs => ?_ | refine st_r1 hs fun w hs => ?_) | ((with_reducible refine isIdx ?_); first | refine idx_s hs fun b_ o_ hs => ?_ | refine idx_rd hs fun b_ o_ ha_ => ?_) | with_reducible refine newB_at hs fun b_ w hs => ?_ | ((with_reducible refine isLdS ?_); first | refine ldS_b ?_ | refine ldS_b (x := ⟨_, _, _⟩) ?_ | refine ldS_rs0 hs ?_ | refine ldS_rd0 ha_ ?_) | ((with_reducible refine isKeep ?_); first | refine keep_of hs ?_ | refine keep_imp hs ?_) | with_reducible refine when_om ?_ | with_reducible refine drawW_sat hs fun w hs => ?_)
      with_reducible refine ite_by (fun h3 => ?_) (fun h3 => ?_)
      · refine fin w true ?_ hs
        rw [hg]
        simp only [decide_eq_true (show 0 < x.t1.length by omega), decide_eq_true (show x.p < (x.t1.length : Int) by omega), Bool.true_or, Bool.and_true]
      · repeat (first | with_reducible refine nilck_some ?_ | ((with_reducible refine atLd ?_); first | refine ld_b hs ?_ | refine ld_b (x := ⟨_, _, _⟩) hs ?_ | refine ld_r0 hs ?_ | refine ld_r1 hs ?_ | refine ld_rd0 ha_ hs ?_ | refine ld_rd1 ha_ hs ?_) | ((with_reducible refine isSt ?_); first | refine st_b hs fun w hs => ?_ | refine st_r0 hs fun w hs => ?_ | refine st_r1 hs fun w hs => ?_) | ((with_reducible refine isIdx ?_); first | refine idx_s hs fun b_ o_ hs => ?_ | refine idx_rd hs fun b_ o_ ha_ => ?_) | with_reducible refine newB_at hs fun b_ w hs => ?_ | ((with_reducible refine isLdS ?_); first | refine ldS_b ?_ | refine ldS_b (x := ⟨_, _, _⟩) ?_ | refine ldS_rs0 hs ?_ | refine ldS_rd0 ha_ ?_) | ((with_reducible refine isKeep ?_); first | refine keep_of hs ?_ | refine keep_imp hs ?_) | with_reducible refine when_om ?_ | with_reducible refine drawW_sat hs fun w hs => ?_)
        refine many_of [1] (M := aB b s xb c x.p :: M) (by exact Sat.fin hs) hN rfl fun w hs => ?_
        rw [rs1]
        refine fin w _ ?_ (by exact Sat.fin hs)
        rw [hg, decide_eq_true (show 0 < x.t1.length by omega), decide_eq_false (show ¬ x.p < (x.t1.length : Int) by omega), Bool.false_or, Bool.true_and, Bool.eq_iff_iff, beq_iff_eq, decide_eq_true_eq]
        omega
    · refine fin w false ?_ hs
      rw [hg, decide_eq_false (show ¬ 0 < x.t1.length by omega), Bool.false_and]
theorem arc_comes (hs : Sat W w (arcR b c N x :: M)) (hx : ArcOk c x) (hN : N < 100000000) : Calls Tryd.prog id_arc_Engine_comes #[.pointer (some ⟨b, 0, none⟩)] w fun e w' => ∃ l : Sl, e = .returned (.slice l.a l.n l.c) ∧
    Sat W w' (recs Rec.str l (aComes c x).1 :: arcR b c (N + 1) (aComes c x).2 :: M) := by
  refine (arc_Engine_comes_calls (Q := fun v w' => ∃ l : Sl, v = .slice l.a l.n l.c ∧ Sat W w' (recs Rec.str l (aComes c x).1 :: arcR b c (N + 1) (aComes c x).2 :: M)) ?_).mono fun e w' ⟨v, he, l, hv, hs⟩ => ⟨l, by rw [he, hv], hs⟩
  rw [arc_Engine_comes_def, arc_Engine_comes_raw]
  have hw := hx.w
  have c1_ := hx.c1; have c2_ := hx.c2; have l_ := hx.len; have l1_ := hx.l1; have tot_ := hx.tot
  obtain ⟨s, xb, hs⟩ := arc_open hs
  have j1 : ∀ (w : World) (t : Bool), t = decide (c ≤ (x.t1.length : Int) + x.b1.length ∧ (x.t1.length : Int) < c) → Sat W w (aB b s xb c x.p :: rowsC s xb N x.rows :: M) →
      arc_Engine_comes_j1 idJ (fun v w' => ∃ l : Sl, v = .slice l.a l.n l.c ∧ Sat W w' (recs Rec.str l (aComes c x).1 :: arcR b c (N + 1) (aComes c x).2 :: M)) (some ⟨b, 0, none⟩) t w := by
    clear hs
    intro w t ht hs
    subst ht
    rw [arc_Engine_comes_j1_def, arc_Engine_comes_j1_raw]
    with_reducible refine ite_by (fun h1 => ?_) (fun h1 => ?_)
    · have e1 : aComes c x = aRep c { x with b1 := x.b1.drop 1 } false := by unfold aComes; rw [if_pos h1]
      rw [e1]
      have h0 : 0 < x.b1.length := by omega
      refine drawW_only [aB b s xb c x.p] hs fun w hs => ?_
      repeat (first | with_reducible refine nilck_some ?_ | ((with_reducible refine atLd ?_); first | refine ld_b hs ?_ | refine ld_b (x := ⟨_, _, _⟩) hs ?_ | refine ld_r0 hs ?_ | refine ld_r1 hs ?_ | refine ld_rd0 ha_ hs ?_ | refine ld_rd1 ha_ hs ?_) | ((with_reducible refine isSt ?_); first | refine st_b hs fun w hs => ?_ | refine st_r0 hs fun w hs => ?_ | refine st_r1 hs fun w hs => ?_) | ((with_reducible refine isIdx ?_); first | refine idx_s hs fun b_ o_ hs => ?_ | refine idx_rd hs fun b_ o_ ha_ => ?_) | with_reducible refine newB_at hs fun b_ w hs => ?_ | ((with_reducible refine isLdS ?_); first | refine ldS_b ?_ | refine ldS_b (x := ⟨_, _, _⟩) ?_ | refine ldS_rs0 hs ?_ | refine ldS_rd0 ha_ ?_) | ((with_reducible refine isKeep ?_); first | refine keep_of hs ?_ | refine keep_imp hs ?_) | with_reducible refine when_om ?_ | with_reducible refine drawW_sat hs fun w hs => ?_)
      refine call1_of (rows_oldest hs (j := 2) (by decide) rfl) fun e w ⟨he, hs⟩ => ⟨_, he, ?_⟩
      refine keep_imp hs ?_
      have e0 : x.rows.getD 2 [] = x.b1 := rfl
      rw [e0]
      refine call0_of (rows_drop hs (hw.s3 h0) hN rfl) fun e w ⟨he, hs⟩ => ⟨he, ?_⟩
      rw [rTake_rows, cut_b1 hw h0] at hs
      have hs := arc_shut (x := { x with b1 := x.b1.drop 1 }) hs rfl
      exact call1_of (arc_replaces hs c1_ hN) fun e w ⟨l, he, hs⟩ => ⟨l, he, l, rfl, hs⟩
    · refine drawW_only [aB b s xb c x.p] hs fun w hs => ?_
      repeat (first | with_reducible refine nilck_some ?_ | ((with_reducible refine atLd ?_); first | refine ld_b hs ?_ | refine ld_b (x := ⟨_, _, _⟩) hs ?_ | refine ld_r0 hs ?_ | refine ld_r1 hs ?_ | refine ld_rd0 ha_ hs ?_ | refine ld_rd1 ha_ hs ?_) | ((with_reducible refine isSt ?_); first | refine st_b hs fun w hs => ?_ | refine st_r0 hs fun w hs => ?_ | refine st_r1 hs fun w hs => ?_) | ((with_reducible refine isIdx ?_); first | refine idx_s hs fun b_ o_ hs => ?_ | refine idx_rd hs fun b_ o_ ha_ => ?_) | with_reducible refine newB_at hs fun b_ w hs => ?_ | ((with_reducible refine isLdS ?_); first | refine ldS_b ?_ | refine ldS_b (x := ⟨_, _, _⟩) ?_ | refine ldS_rs0 hs ?_ | refine ldS_rd0 ha_ ?_) | ((with_reducible refine isKeep ?_); first | refine keep_of hs ?_ | refine keep_imp hs ?_) | with_reducible refine when_om ?_ | with_reducible refine drawW_sat hs fun w hs => ?_)
      refine many_of [0, 2] (M := aB b s xb c x.p :: M) (by exact Sat.fin hs) hN rfl fun w hs => ?_
      refine keep_imp hs ?_
      rw [rs02]
      have hs : Sat W w (aB b s xb c x.p :: rowsC s xb N x.rows :: M) := by exact Sat.fin hs
      with_reducible refine ite_by (fun h2 => ?_) (fun h2 => ?_)
      · have e1 : aComes c x = ([hd0 x.t1], { x with t1 := x.t1.drop 1 }) := by unfold aComes; rw [if_neg h1, if_pos (by omega)]
        rw [e1]
        have h0 : 0 < x.t1.length := by omega
        repeat (first | with_reducible refine nilck_some ?_ | ((with_reducible refine atLd ?_); first | refine ld_b hs ?_ | refine ld_b (x := ⟨_, _, _⟩) hs ?_ | refine ld_r0 hs ?_ | refine ld_r1 hs ?_ | refine ld_rd0 ha_ hs ?_ | refine ld_rd1 ha_ hs ?_) | ((with_reducible refine isSt ?_); first | refine st_b hs fun w hs => ?_ | refine st_r0 hs fun w hs => ?_ | refine st_r1 hs fun w hs => ?_) | ((with_reducible refine isIdx ?_); first | refine idx_s hs fun b_ o_ hs => ?_ | refine idx_rd hs fun b_ o_ ha_ => ?_) | with_reducible refine newB_at hs fun b_ w hs => ?_ | ((with_reducible refine isLdS ?_); first | refine ldS_b ?_ | refine ldS_b (x := ⟨_, _, _⟩) ?_ | refine ldS_rs0 hs ?_ | refine ldS_rd0 ha_ ?_) | ((with_reducible refine isKeep ?_); first | refine keep_of hs ?_ | refine keep_imp hs ?_) | with_reducible refine when_om ?_ | with_reducible refine drawW_sat hs fun w hs => ?_)
        refine call1_of (rows_oldest hs (j := 0) (by decide) rfl) fun e w ⟨he, hs⟩ => ⟨_, he, ?_⟩
        have e0 : x.rows.getD 0 [] = x.t1 := rfl
        rw [e0]
        repeat (first | with_reducible refine nilck_some ?_ | ((with_reducible refine atLd ?_); first | refine ld_b hs ?_ | refine ld_b (x := ⟨_, _, _⟩) hs ?_ | refine ld_r0 hs ?_ | refine ld_r1 hs ?_ | refine ld_rd0 ha_ hs ?_ | refine ld_rd1 ha_ hs ?_) | ((with_reducible refine isSt ?_); first | refine st_b hs fun w hs => ?_ | refine st_r0 hs fun w hs => ?_ | refine st_r1 hs fun w hs => ?_) | ((with_reducible refine isIdx ?_); first | refine idx_s hs fun b_ o_ hs => ?_ | refine idx_rd hs fun b_ o_ ha_ => ?_) | with_reducible refine newB_at hs fun b_ w hs => ?_ | ((with_reducible refine isLdS ?_); first | refine ldS_b ?_ | refine ldS_b (x := ⟨_, _, _⟩) ?_ | refine ldS_rs0 hs ?_ | refine ldS_rd0 ha_ ?_) | ((with_reducible refine isKeep ?_); first | refine keep_of hs ?_ | refine keep_imp hs ?_) | with_reducible refine when_om ?_ | with_reducible refine drawW_sat hs fun w hs => ?_)
        refine call0_of (rows_drop hs (hw.s1 h0) hN rfl) fun e w ⟨he, hs⟩ => ⟨he, ?_⟩
        rw [rTake_rows, cut_t1 hw h0] at hs
        refine newB_at hs fun nb w hs => ?_
        have hs := Sat.blkS (b := nb) (cs := [.string (hd0 x.t1)]) (n := 1) Rec.str [hd0 x.t1] hs rfl rfl
        have hs : Sat W w (aB b s xb c x.p :: rowsC s xb N ({ x with t1 := x.t1.drop 1 } : ArcS).rows :: recs Rec.str ⟨some ⟨nb, 0, none⟩, 1, 1⟩ [hd0 x.t1] :: M) := by exact Sat.fin hs
        have hs := arc_more (arc_shut (x := { x with t1 := x.t1.drop 1 }) hs rfl) (Nat.le_succ N)
        exact ⟨⟨some ⟨nb, 0, none⟩, 1, 1⟩, rfl, by exact Sat.fin hs⟩
      · refine drawW_only [aB b s xb c x.p] hs fun w hs => ?_
        repeat (first | with_reducible refine nilck_some ?_ | ((with_reducible refine atLd ?_); first | refine ld_b hs ?_ | refine ld_b (x := ⟨_, _, _⟩) hs ?_ | refine ld_r0 hs ?_ | refine ld_r1 hs ?_ | refine ld_rd0 ha_ hs ?_ | refine ld_rd1 ha_ hs ?_) | ((with_reducible refine isSt ?_); first | refine st_b hs fun w hs => ?_ | refine st_r0 hs fun w hs => ?_ | refine st_r1 hs fun w hs => ?_) | ((with_reducible refine isIdx ?_); first | refine idx_s hs fun b_ o_ hs => ?_ | refine idx_rd hs fun b_ o_ ha_ => ?_) | with_reducible refine newB_at hs fun b_ w hs => ?_ | ((with_reducible refine isLdS ?_); first | refine ldS_b ?_ | refine ldS_b (x := ⟨_, _, _⟩) ?_ | refine ldS_rs0 hs ?_ | refine ldS_rd0 ha_ ?_) | ((with_reducible refine isKeep ?_); first | refine keep_of hs ?_ | refine keep_imp hs ?_) | with_reducible refine when_om ?_ | with_reducible refine drawW_sat hs fun w hs => ?_)
        refine many_of [0, 1, 2, 3] (M := aB b s xb c x.p :: M) (by exact Sat.fin hs) hN rfl fun w hs => ?_
        refine keep_imp hs ?_
        rw [rs4]
        have hs : Sat W w (aB b s xb c x.p :: rowsC s xb N x.rows :: M) := by exact Sat.fin hs
        with_reducible refine ite_by (fun h3 => ?_) (fun h3 => ?_)
        · have e1 : aComes c x = ([], x) := by unfold aComes; rw [if_neg h1, if_neg (by omega), if_pos (by omega)]
          rw [e1]
          have hs := arc_more (arc_shut (x := x) hs rfl) (Nat.le_succ N)
          have hs := Sat.nilR Rec.str hs
          exact ⟨⟨none, 0, 0⟩, rfl, hs⟩
        · refine drawW_only [aB b s xb c x.p] hs fun w hs => ?_
          repeat (first | with_reducible refine nilck_some ?_ | ((with_reducible refine atLd ?_); first | refine ld_b hs ?_ | refine ld_b (x := ⟨_, _, _⟩) hs ?_ | refine ld_r0 hs ?_ | refine ld_r1 hs ?_ | refine ld_rd0 ha_ hs ?_ | refine ld_rd1 ha_ hs ?_) | ((with_reducible refine isSt ?_); first | refine st_b hs fun w hs => ?_ | refine st_r0 hs fun w hs => ?_ | refine st_r1 hs fun w hs => ?_) | ((with_reducible refine isIdx ?_); first | refine idx_s hs fun b_ o_ hs => ?_ | refine idx_rd hs fun b_ o_ ha_ => ?_) | with_reducible refine newB_at hs fun b_ w hs => ?_ | ((with_reducible refine isLdS ?_); first | refine ldS_b ?_ | refine ldS_b (x := ⟨_, _, _⟩) ?_ | refine ldS_rs0 hs ?_ | refine ldS_rd0 ha_ ?_) | ((with_reducible refine isKeep ?_); first | refine keep_of hs ?_ | refine keep_imp hs ?_) | with_reducible refine when_om ?_ | with_reducible refine drawW_sat hs fun w hs => ?_)
          refine many_of [0, 1, 2, 3] (M := aB b s xb c x.p :: M) (by exact Sat.fin hs) hN rfl fun w hs => ?_
          refine keep_imp hs ?_
          rw [rs4, i64_in (2 * c) (by omega)]
          have hs : Sat W w (aB b s xb c x.p :: rowsC s xb N x.rows :: M) := by exact Sat.fin hs
          with_reducible refine ite_by (fun h4 => ?_) (fun h4 => ?_)
          · have e1 : aComes c x = aRep c { x with b2 := x.b2.drop 1 } false := by unfold aComes; rw [if_neg h1, if_neg (by omega), if_neg (by omega), if_pos (by omega)]
            rw [e1]
            have h0 : 0 < x.b2.length := by omega
            refine drawW_only [aB b s xb c x.p] hs fun w hs => ?_
            repeat (first | with_reducible refine nilck_some ?_ | ((with_reducible refine atLd ?_); first | refine ld_b hs ?_ | refine ld_b (x := ⟨_, _, _⟩) hs ?_ | refine ld_r0 hs ?_ | refine ld_r1 hs ?_ | refine ld_rd0 ha_ hs ?_ | refine ld_rd1 ha_ hs ?_) | ((with_reducible refine isSt ?_); first | refine st_b hs fun w hs => ?_ | refine st_r0 hs fun w hs => ?_ | refine st_r1 hs fun w hs => ?_) | ((with_reducible refine isIdx ?_); first | refine idx_s hs fun b_ o_ hs => ?_ | refine idx_rd hs fun b_ o_ ha_ => ?_) | with_reducible refine newB_at hs fun b_ w hs => ?_ | ((with_reducible refine isLdS ?_); first | refine ldS_b ?_ | refine ldS_b (x := ⟨_, _, _⟩) ?_ | refine ldS_rs0 hs ?_ | refine ldS_rd0 ha_ ?_) | ((with_reducible refine isKeep ?_); first | refine keep_of hs ?_ | refine keep_imp hs ?_) | with_reducible refine when_om ?_ | with_reducible refine drawW_sat hs fun w hs => ?_)
            refine call1_of (rows_oldest hs (j := 3) (by decide) rfl) fun e w ⟨he, hs⟩ => ⟨_, he, ?_⟩
            refine keep_imp hs ?_
            have e0 : x.rows.getD 3 [] = x.b2 := rfl
            rw [e0]
            refine call0_of (rows_drop hs (hw.s4 h0) hN rfl) fun e w ⟨he, hs⟩ => ⟨he, ?_⟩
            rw [rTake_rows, cut_b2 hw h0] at hs
            have hs := arc_shut (x := { x with b2 := x.b2.drop 1 }) hs rfl
            exact call1_of (arc_replaces hs c1_ hN) fun e w ⟨l, he, hs⟩ => ⟨l, he, l, rfl, hs⟩
          · have e1 : aComes c x = aRep c x false := by unfold aComes; rw [if_neg h1, if_neg (by omega), if_neg (by omega), if_neg (by omega)]
            rw [e1]
            exact call1_of (arc_replaces (arc_shut (x := x) hs rfl) c1_ hN) fun e w ⟨l, he, hs⟩ => ⟨l, he, l, rfl, hs⟩
  refine drawW_only [aB b s xb c x.p] hs fun w hs => ?_
  repeat (first | with_reducible refine nilck_some ?_ | ((with_reducible refine atLd ?_); first | refine ld_b hs ?_ | refine ld_b (x := ⟨_, _, _⟩) hs ?_ | refine ld_r0 hs ?_ | refine ld_r1 hs ?_ | refine ld_rd0 ha_ hs ?_ | refine ld_rd1 ha_ hs ?_) | ((with_reducible refine isSt ?_); first | refine st_b hs fun w hs => ?_ | refine st_r0 hs fun w hs => ?_ | refine st_r1 hs fun w hs => ?_) | ((with_reducible refine isIdx ?_); first | refine idx_s hs fun b_ o_ hs => ?_ | refine idx_rd hs fun b_ o_ ha_ => ?_) | with_reducible refine newB_at hs fun b_ w hs => ?_ | ((with_reducible refine isLdS ?_); first | refine ldS_b ?_ | refine ldS_b (x := ⟨_, _, _⟩) ?_ | refine ldS_rs0 hs ?_ | refine ldS_rd0 ha_ ?_) | ((with_reducible refine isKeep ?_); first | refine keep_of hs ?_ | refine keep_imp hs ?_) | with_reducible refine when_om ?_ | with_reducible refine drawW_sat hs fun w hs => ?_)
  refine many_of [0, 2] (M := aB b s xb c x.p :: M) (by exact Sat.fin hs) hN rfl fun w hs => ?_
  refine keep_imp hs ?_
  rw [rs02]
  have hs : Sat W w (aB b s xb c x.p :: rowsC s xb N x.rows :: M) := by exact Sat.fin hs
  with_reducible refine ite_by (fun h1 => ?_) (fun h1 => ?_)
  · repeat (first | with_reducible refine nilck_some ?_ | ((with_reducible refine atLd ?_); first | refine ld_b hs ?_ | refine ld_b (x := ⟨_, _, _⟩) hs ?_ | refine ld_r0 hs ?_ | refine ld_r1 hs ?_ | refine ld_rd0 ha_ hs ?_ | refine ld_rd1 ha_ hs ?_) | ((with_reducible refine isSt ?_); first | refine st_b hs fun w hs => ?_ | refine st_r0 hs fun w hs => ?_ | refine st_r1 hs fun w hs => ?_) | ((with_reducible refine isIdx ?_); first | refine idx_s hs fun b_ o_ hs => ?_ | refine idx_rd hs fun b_ o_ ha_ => ?_) | with_reducible refine newB_at hs fun b_ w hs => ?_ | ((with_reducible refine isLdS ?_); first | refine ldS_b ?_ | refine ldS_b (x := ⟨_, _, _⟩) ?_ | refine ldS_rs0 hs ?_ | refine ldS_rd0 ha_ ?_) | ((with_reducible refine isKeep ?_); first | refine keep_of hs ?_ | refine keep_imp hs ?_) | with_reducible refine when_om ?_ | with_reducible refine drawW_sat hs fun w hs => ?_)
    refine many_of [0] (M := aB b s xb c x.p :: M) (by exact Sat.fin hs) hN rfl fun w hs => ?_
    refine keep_imp hs ?_
    rw [rs0]
    refine j1 w _ ?_ (by exact Sat.fin hs)
    rw [Bool.eq_iff_iff, decide_eq_true_eq, decide_eq_true_eq]
    omega
  · refine keep_imp hs ?_
    refine keep_imp hs ?_
    refine j1 w _ ?_ hs
    symm
    rw [decide_eq_false_iff_not]
    omega
end
end Go.Proofs.YtchlicgjdlkidaaDoor
namespace Go.Proofs.YtchlicgjdlkidaaDoor
open Go.Hb Go.IntWalk
section
variable {W w : World} {L M : List HP} {F : HP → List HP} {b N : Nat} {c : Int} {x : ArcS} {key : ByteArray}
theorem arc_push2 {l : Sl} {g : List ByteArray} {hit : Bool} (hs : Sat W w (recs Rec.str l g :: arcR b c N x :: M)) (hz : key.size < 64) (hN : N < 100000000) :
    arc_Engine_Access_j2 idJ (fun v w' => ∃ l : Sl, v = .tuple #[.bool false, .slice l.a l.n l.c] ∧ Sat W w' (recs Rec.str l g :: arcR b c (N + 1) (aPush2 x key) :: M)) (some ⟨b, 0, none⟩) key l w := by
  rw [arc_Engine_Access_j2_def, arc_Engine_Access_j2_raw]
  have hs : Sat W w (arcR b c N x :: recs Rec.str l g :: M) := by exact Sat.fin hs
  obtain ⟨s, xb, hs⟩ := arc_open hs
  repeat (first | with_reducible refine nilck_some ?_ | ((with_reducible refine atLd ?_); first | refine ld_b hs ?_ | refine ld_b (x := ⟨_, _, _⟩) hs ?_ | refine ld_r0 hs ?_ | refine ld_r1 hs ?_ | refine ld_rd0 ha_ hs ?_ | refine ld_rd1 ha_ hs ?_) | ((with_reducible refine isSt ?_); first | refine st_b hs fun w hs => ?_ | refine st_r0 hs fun w hs => ?_ | refine st_r1 hs fun w hs => ?_) | ((with_reducible refine isIdx ?_); first | refine idx_s hs fun b_ o_ hs => ?_ | refine idx_rd hs fun b_ o_ ha_ => ?_) | with_reducible refine newB_at hs fun b_ w hs => ?_ | ((with_reducible refine isLdS ?_); first | refine ldS_b ?_ | refine ldS_b (x := ⟨_, _, _⟩) ?_ | refine ldS_rs0 hs ?_ | refine ldS_rd0 ha_ ?_) | ((with_reducible refine isKeep ?_); first | refine keep_of hs ?_ | refine keep_imp hs ?_) | with_reducible refine when_om ?_ | with_reducible refine drawW_sat hs fun w hs => ?_)
  refine call0_of (rows_push (j := 1) hs (by decide) hz hN rfl) fun e w ⟨he, hs⟩ => ⟨he, ?_⟩
  rw [rPush_rows1] at hs
  have hs := arc_shut (x := aPush2 x key) hs rfl
  exact ⟨l, rfl, by exact Sat.fin hs⟩
theorem arc_Access_in (hs : Sat W w (arcR b c N x :: M)) (hx : ArcOk c x) (hz : key.size < 64) (hN : N < 90000000) : Calls Tryd.prog id_arc_Engine_Access #[.pointer (some ⟨b, 0, none⟩), .string key] w fun e w' => ∃ l : Sl, e = .returned (.tuple #[.bool (aAcc c x key).1.1, .slice l.a l.n l.c]) ∧
    Sat W w' (recs Rec.str l (aAcc c x key).1.2 :: arcR b c (N + 2) (aAcc c x key).2 :: M) := by
  refine (arc_Engine_Access_calls (Q := fun v w' => ∃ l : Sl, v = .tuple #[.bool (aAcc c x key).1.1, .slice l.a l.n l.c] ∧ Sat W w' (recs Rec.str l (aAcc c x key).1.2 :: arcR b c (N + 2) (aAcc c x key).2 :: M)) ?_).mono fun e w' ⟨v, he, l, hv, hs⟩ => ⟨l, by rw [he, hv], hs⟩
  rw [arc_Engine_Access_def, arc_Engine_Access_raw]
  have hp0 := hx.p0
  have hp1 := hx.p1
  have hc1 := hx.c1
  have hc2 := hx.c2
  have hlens := (arc_w hs).2
  obtain ⟨s, xb, hs⟩ := arc_open hs
  refine ite_false rfl ?_
  repeat (first | with_reducible refine nilck_some ?_ | ((with_reducible refine atLd ?_); first | refine ld_b hs ?_ | refine ld_b (x := ⟨_, _, _⟩) hs ?_ | refine ld_r0 hs ?_ | refine ld_r1 hs ?_ | refine ld_rd0 ha_ hs ?_ | refine ld_rd1 ha_ hs ?_) | ((with_reducible refine isSt ?_); first | refine st_b hs fun w hs => ?_ | refine st_r0 hs fun w hs => ?_ | refine st_r1 hs fun w hs => ?_) | ((with_reducible refine isIdx ?_); first | refine idx_s hs fun b_ o_ hs => ?_ | refine idx_rd hs fun b_ o_ ha_ => ?_) | with_reducible refine newB_at hs fun b_ w hs => ?_ | ((with_reducible refine isLdS ?_); first | refine ldS_b ?_ | refine ldS_b (x := ⟨_, _, _⟩) ?_ | refine ldS_rs0 hs ?_ | refine ldS_rd0 ha_ ?_) | ((with_reducible refine isKeep ?_); first | refine keep_of hs ?_ | refine keep_imp hs ?_) | with_reducible refine when_om ?_ | with_reducible refine drawW_sat hs fun w hs => ?_)
  refine call1_of (rows_where hs hz) fun e w ⟨he, hs⟩ => ⟨_, he, ?_⟩
  have j1 : ∀ (w : World) (t : Bool) (i : Int), i = rWhere x.rows key → t = decide (key ∈ x.t1 ∨ key ∈ x.t2) → Sat W w (aB b s xb c x.p :: rowsC s xb N x.rows :: M) →
      arc_Engine_Access_j1 idJ (fun v w' => ∃ l : Sl, v = .tuple #[.bool (aAcc c x key).1.1, .slice l.a l.n l.c] ∧ Sat W w' (recs Rec.str l (aAcc c x key).1.2 :: arcR b c (N + 2) (aAcc c x key).2 :: M)) (some ⟨b, 0, none⟩) key i t w := by
    clear hs
    intro w t i hi ht hs
    rw [where_rows] at hi
    subst ht
    rw [arc_Engine_Access_j1_def, arc_Engine_Access_j1_raw]
    with_reducible refine ite_by (fun h1 => ?_) (fun h1 => ?_)
    · have e1 : aAcc c x key = ((true, []), aPush2 x key) := if_pos h1
      rw [e1]
      repeat (first | with_reducible refine nilck_some ?_ | ((with_reducible refine atLd ?_); first | refine ld_b hs ?_ | refine ld_b (x := ⟨_, _, _⟩) hs ?_ | refine ld_r0 hs ?_ | refine ld_r1 hs ?_ | refine ld_rd0 ha_ hs ?_ | refine ld_rd1 ha_ hs ?_) | ((with_reducible refine isSt ?_); first | refine st_b hs fun w hs => ?_ | refine st_r0 hs fun w hs => ?_ | refine st_r1 hs fun w hs => ?_) | ((with_reducible refine isIdx ?_); first | refine idx_s hs fun b_ o_ hs => ?_ | refine idx_rd hs fun b_ o_ ha_ => ?_) | with_reducible refine newB_at hs fun b_ w hs => ?_ | ((with_reducible refine isLdS ?_); first | refine ldS_b ?_ | refine ldS_b (x := ⟨_, _, _⟩) ?_ | refine ldS_rs0 hs ?_ | refine ldS_rd0 ha_ ?_) | ((with_reducible refine isKeep ?_); first | refine keep_of hs ?_ | refine keep_imp hs ?_) | with_reducible refine when_om ?_ | with_reducible refine drawW_sat hs fun w hs => ?_)
      refine call0_of (rows_push (j := 1) hs (by decide) hz (by omega) rfl) fun e w ⟨he, hs⟩ => ⟨he, ?_⟩
      rw [rPush_rows1] at hs
      have hs := arc_more (arc_shut (x := aPush2 x key) hs rfl) (show N + 1 ≤ N + 2 by omega)
      have hs := Sat.nilR Rec.str hs
      exact ⟨⟨none, 0, 0⟩, rfl, hs⟩
    · have n1 : key ∉ x.t1 := fun h => h1 (.inl h)
      have n2 : key ∉ x.t2 := fun h => h1 (.inr h)
      rw [if_neg n1, if_neg n2] at hi
      by_cases h2 : key ∈ x.b1
      · rw [if_pos h2] at hi
        subst hi
        have e1 : aAcc c x key = ((false, (aRep c (aUp c x) false).1), aPush2 (aRep c (aUp c x) false).2 key) := by unfold aAcc; rw [if_neg h1, if_pos h2]
        rw [e1]
        have h0 : 0 < x.b1.length := by
          cases hb : x.b1 with
          | nil => rw [hb] at h2; simp at h2
          | cons a l => simp
        refine ite_true rfl ?_
        have cont : ∀ w, Sat W w (aB b s xb c x.p :: rowsC s xb N x.rows :: M) → (when (((x.b1.length : Nat) : Int) ≠ 0) <| nilck (some ⟨b, 0, none⟩) fun b_28 o_29 =>
            st b_28 (o_29 + 3) (.int .i64 (if (IntKind.wrap .i64 (x.p + (if (IntKind.wrap .i64 (Int.tdiv (x.b2.length : Int) (x.b1.length : Int))) > (1 : Int) then (IntKind.wrap .i64 (Int.tdiv (x.b2.length : Int) (x.b1.length : Int))) else (1 : Int)))) < c then (IntKind.wrap .i64 (x.p + (if (IntKind.wrap .i64 (Int.tdiv (x.b2.length : Int) (x.b1.length : Int))) > (1 : Int) then (IntKind.wrap .i64 (Int.tdiv (x.b2.length : Int) (x.b1.length : Int))) else (1 : Int)))) else c)) <|
            call1 .slc Tryd.prog id_arc_Engine_replaces [.pointer (some ⟨b, 0, none⟩), .bool false] fun (x_30 : Sl) =>
            arc_Engine_Access_j2 idJ (fun v w' => ∃ l : Sl, v = .tuple #[.bool false, .slice l.a l.n l.c] ∧ Sat W w' (recs Rec.str l (aRep c (aUp c x) false).1 :: arcR b c (N + 2) (aPush2 (aRep c (aUp c x) false).2 key) :: M)) (some ⟨b, 0, none⟩) key x_30) w := by
          clear hs
          intro w hs
          refine when_of (by omega) ?_
          refine nilck_some ?_
          refine st_b hs fun w hs => ?_
          rw [up_eq (N := N) (by omega) (by omega) (by omega)] at hs
          have hs := arc_shut (x := aUp c x) hs rfl
          refine call1_of (arc_replaces hs hc1 (by omega)) fun e w ⟨l, he, hs⟩ => ⟨l, he, ?_⟩
          exact arc_push2 (hit := false) hs hz (by omega)
        refine drawW_only [aB b s xb c x.p] hs fun w hs => ?_
        refine nilck_some (ldS_b (nilck_some (ldS_b (nilck_some (ldS_b (x := s) (ldS_b (nilck_some (ldS_b (x := s) (ldS_b ?_)))))))))
        refine ⟨?_, ?_⟩
        · refine newB_at hs fun b3 w hs => keep_imp hs ⟨?_, ?_⟩
          · refine many_of [3] (M := aB b s xb c x.p :: M) (by exact Sat.fin hs) (by omega) rfl fun w hs => keep_imp hs ?_
            refine newB_at hs fun b2 w hs => keep_imp hs ?_
            refine many_of [2] (M := aB b s xb c x.p :: M) (by exact Sat.fin hs) (by omega) rfl fun w hs => keep_imp hs ?_
            rw [rs2, rs3]
            exact cont w (by exact Sat.fin hs)
          · refine newB_at hs fun b2 w hs => keep_imp hs ?_
            refine many_of [3] (M := blk b2 [.int .i64 (2 : Int)] :: aB b s xb c x.p :: M) (by exact Sat.fin hs) (by omega) rfl fun w hs => keep_imp hs ?_
            refine many_of [2] (M := aB b s xb c x.p :: M) (by exact Sat.fin hs) (by omega) rfl fun w hs => keep_imp hs ?_
            rw [rs2, rs3]
            exact cont w (by exact Sat.fin hs)
        · refine newB_at hs fun b2 w hs => keep_imp hs ?_
          refine newB_at hs fun b3 w hs => keep_imp hs ?_
          refine many_of [3] (M := blk b2 [.int .i64 (2 : Int)] :: aB b s xb c x.p :: M) (by exact Sat.fin hs) (by omega) rfl fun w hs => keep_imp hs ?_
          refine many_of [2] (M := aB b s xb c x.p :: M) (by exact Sat.fin hs) (by omega) rfl fun w hs => keep_imp hs ?_
          rw [rs2, rs3]
          exact cont w (by exact Sat.fin hs)
      · rw [if_neg h2] at hi
        by_cases h3 : key ∈ x.b2
        · rw [if_pos h3] at hi
          subst hi
          have e1 : aAcc c x key = ((false, (aRep c (aDown x) true).1), aPush2 (aRep c (aDown x) true).2 key) := by unfold aAcc; rw [if_neg h1, if_neg h2, if_pos h3]
          rw [e1]
          have h0 : 0 < x.b2.length := by
            cases hb : x.b2 with
            | nil => rw [hb] at h3; simp at h3
            | cons a l => simp
          refine ite_false rfl ?_
          refine ite_true rfl ?_
          have cont : ∀ w, Sat W w (aB b s xb c x.p :: rowsC s xb N x.rows :: M) → (when (((x.b2.length : Nat) : Int) ≠ 0) <| nilck (some ⟨b, 0, none⟩) fun b_28 o_29 =>
              st b_28 (o_29 + 3) (.int .i64 (if (IntKind.wrap .i64 (x.p - (if (IntKind.wrap .i64 (Int.tdiv (x.b1.length : Int) (x.b2.length : Int))) > (1 : Int) then (IntKind.wrap .i64 (Int.tdiv (x.b1.length : Int) (x.b2.length : Int))) else (1 : Int)))) > (0 : Int) then (IntKind.wrap .i64 (x.p - (if (IntKind.wrap .i64 (Int.tdiv (x.b1.length : Int) (x.b2.length : Int))) > (1 : Int) then (IntKind.wrap .i64 (Int.tdiv (x.b1.length : Int) (x.b2.length : Int))) else (1 : Int)))) else (0 : Int))) <|
              call1 .slc Tryd.prog id_arc_Engine_replaces [.pointer (some ⟨b, 0, none⟩), .bool true] fun (x_30 : Sl) =>
              arc_Engine_Access_j2 idJ (fun v w' => ∃ l : Sl, v = .tuple #[.bool false, .slice l.a l.n l.c] ∧ Sat W w' (recs Rec.str l (aRep c (aDown x) true).1 :: arcR b c (N + 2) (aPush2 (aRep c (aDown x) true).2 key) :: M)) (some ⟨b, 0, none⟩) key x_30) w := by
            clear hs
            intro w hs
            refine when_of (by omega) ?_
            refine nilck_some ?_
            refine st_b hs fun w hs => ?_
            rw [down_eq (N := N) (by omega) (by omega) (by omega)] at hs
            have hs := arc_shut (x := aDown x) hs rfl
            refine call1_of (arc_replaces hs hc1 (by omega)) fun e w ⟨l, he, hs⟩ => ⟨l, he, ?_⟩
            exact arc_push2 (hit := false) hs hz (by omega)
          refine drawW_only [aB b s xb c x.p] hs fun w hs => ?_
          refine nilck_some (ldS_b (nilck_some (ldS_b (x := s) (ldS_b (nilck_some (ldS_b (x := s) (ldS_b ?_)))))))
          refine ⟨?_, ?_⟩
          · refine newB_at hs fun b3 w hs => keep_imp hs ⟨?_, ?_⟩
            · refine many_of [2] (M := aB b s xb c x.p :: M) (by exact Sat.fin hs) (by omega) rfl fun w hs => keep_imp hs ?_
              refine newB_at hs fun b2 w hs => keep_imp hs ?_
              refine many_of [3] (M := aB b s xb c x.p :: M) (by exact Sat.fin hs) (by omega) rfl fun w hs => keep_imp hs ?_
              rw [rs2, rs3]
              exact cont w (by exact Sat.fin hs)
            · refine newB_at hs fun b2 w hs => keep_imp hs ?_
              refine many_of [2] (M := blk b2 [.int .i64 (3 : Int)] :: aB b s xb c x.p :: M) (by exact Sat.fin hs) (by omega) rfl fun w hs => keep_imp hs ?_
              refine many_of [3] (M := aB b s xb c x.p :: M) (by exact Sat.fin hs) (by omega) rfl fun w hs => keep_imp hs ?_
              rw [rs2, rs3]
              exact cont w (by exact Sat.fin hs)
          · refine newB_at hs fun b2 w hs => keep_imp hs ?_
            refine newB_at hs fun b3 w hs => keep_imp hs ?_
            refine many_of [2] (M := blk b2 [.int .i64 (3 : Int)] :: aB b s xb c x.p :: M) (by exact Sat.fin hs) (by omega) rfl fun w hs => keep_imp hs ?_
            refine many_of [3] (M := aB b s xb c x.p :: M) (by exact Sat.fin hs) (by omega) rfl fun w hs => keep_imp hs ?_
            rw [rs2, rs3]
            exact cont w (by exact Sat.fin hs)
        · rw [if_neg h3] at hi
          subst hi
          have e1 : aAcc c x key = ((false, (aComes c x).1), aPush1 (aComes c x).2 key) := by unfold aAcc; rw [if_neg h1, if_neg h2, if_neg h3]
          rw [e1]
          refine ite_false rfl ?_
          refine ite_false rfl ?_
          refine call1_of (arc_comes (arc_shut (x := x) hs rfl) hx (by omega)) fun e w ⟨l, he, hs⟩ => ⟨l, he, ?_⟩
          have hs : Sat W w (arcR b c (N + 1) (aComes c x).2 :: recs Rec.str l (aComes c x).1 :: M) := by exact Sat.fin hs
          obtain ⟨s, xb, hs⟩ := arc_open hs
          repeat (first | with_reducible refine nilck_some ?_ | ((with_reducible refine atLd ?_); first | refine ld_b hs ?_ | refine ld_b (x := ⟨_, _, _⟩) hs ?_ | refine ld_r0 hs ?_ | refine ld_r1 hs ?_ | refine ld_rd0 ha_ hs ?_ | refine ld_rd1 ha_ hs ?_) | ((with_reducible refine isSt ?_); first | refine st_b hs fun w hs => ?_ | refine st_r0 hs fun w hs => ?_ | refine st_r1 hs fun w hs => ?_) | ((with_reducible refine isIdx ?_); first | refine idx_s hs fun b_ o_ hs => ?_ | refine idx_rd hs fun b_ o_ ha_ => ?_) | with_reducible refine newB_at hs fun b_ w hs => ?_ | ((with_reducible refine isLdS ?_); first | refine ldS_b ?_ | refine ldS_b (x := ⟨_, _, _⟩) ?_ | refine ldS_rs0 hs ?_ | refine ldS_rd0 ha_ ?_) | ((with_reducible refine isKeep ?_); first | refine keep_of hs ?_ | refine keep_imp hs ?_) | with_reducible refine when_om ?_ | with_reducible refine drawW_sat hs fun w hs => ?_)
          refine call0_of (rows_push (j := 0) hs (by decide) hz (by omega) rfl) fun e w ⟨he, hs⟩ => ⟨he, ?_⟩
          rw [rPush_rows0] at hs
          have hs := arc_shut (x := aPush1 (aComes c x).2 key) hs rfl
          exact ⟨l, rfl, by exact Sat.fin hs⟩
  have hwr := where_rows x key
  with_reducible refine ite_by (fun h1 => ?_) (fun h1 => ?_)
  · refine j1 w _ _ rfl ?_ hs
    rw [h1]
    by_cases a1 : key ∈ x.t1
    · rw [decide_eq_true (.inl a1)]; rfl
    · exfalso
      rw [hwr, if_neg a1] at h1
      split at h1
      · omega
      · split at h1
        · omega
        · split at h1 <;> omega
  · refine j1 w _ _ rfl ?_ hs
    have a1 : key ∉ x.t1 := fun a1 => h1 (by rw [hwr, if_pos a1])
    rw [hwr, if_neg a1]
    by_cases a2 : key ∈ x.t2
    · rw [if_pos a2, decide_eq_true (.inr a2)]; rfl
    · rw [if_neg a2, decide_eq_false (fun h => h.elim a1 a2)]
      split
      · rfl
      · split <;> rfl
theorem arc_Access (hs : Sat W w L) [hA : At L b (arcR b c N x) F] (hx : ArcOk c x) (hz : key.size < 64) (hN : N < 90000000) : Calls Tryd.prog id_arc_Engine_Access #[.pointer (some ⟨b, 0, none⟩), .string key] w fun e w' => ∃ l : Sl, e = .returned (.tuple #[.bool (aAcc c x key).1.1, .slice l.a l.n l.c]) ∧
    Sat W w' (recs Rec.str l (aAcc c x key).1.2 :: F (arcR b c (N + 3) (aAcc c x key).2)) := by
  refine At.oneX (hA := hA) hs fun M hs hb => ?_
  refine (arc_Access_in hs hx hz hN).mono fun e w' ⟨l, he, hs⟩ => ⟨l, he, ?_⟩
  have hs : Sat W w' (arcR b c (N + 2) (aAcc c x key).2 :: recs Rec.str l (aAcc c x key).1.2 :: M) := by exact Sat.fin hs
  exact hb _ _ [recs Rec.str l (aAcc c x key).1.2] (arc_more hs (by omega))
theorem trim1_le {y : ArcS} (h : (y.t1.length : Int) + y.b1.length ≤ c) : aLoad.aTrim1 c y = y := by
  unfold aLoad.aTrim1
  rw [show ((y.t1.length : Int) + y.b1.length - c).toNat = 0 by omega]; rfl
theorem trim2_le {y : ArcS} (h : (y.t1.length : Int) + y.t2.length + y.b1.length + y.b2.length ≤ 2 * c) : aLoad.aTrim2 c y = y := by
  unfold aLoad.aTrim2
  rw [show ((y.t1.length : Int) + y.t2.length + y.b1.length + y.b2.length - 2 * c).toNat = 0 by omega]; rfl
theorem trim1_step {y : ArcS} (h : c < (y.t1.length : Int) + y.b1.length) (h0 : 0 < y.b1.length) : aLoad.aTrim1 c { y with b1 := y.b1.drop 1 } = aLoad.aTrim1 c y := by
  unfold aLoad.aTrim1
  simp only [List.length_drop, List.drop_drop]
  congr 2
  omega
theorem trim2_step {y : ArcS} (h : 2 * c < (y.t1.length : Int) + y.t2.length + y.b1.length + y.b2.length) (h0 : 0 < y.b2.length) : aLoad.aTrim2 c { y with b2 := y.b2.drop 1 } = aLoad.aTrim2 c y := by
  unfold aLoad.aTrim2
  simp only [List.length_drop, List.drop_drop]
  congr 2
  omega
theorem arc_Load_in (hs : Sat W w (arcR b c N x :: M)) (hx : ArcOk c x) (hz : key.size < 64) (hN : N < 90000000) : Calls Tryd.prog id_arc_Engine_Load #[.pointer (some ⟨b, 0, none⟩), .string key] w fun e w' => e = .returned (.bool (aLoad c x key).1) ∧
    Sat W w' (arcR b c (N + 1) (aLoad c x key).2 :: M) := by
  refine c1 (arc_Engine_Load_calls ?_)
  rw [arc_Engine_Load_def, arc_Engine_Load_raw]
  have hc1 := hx.c1
  have hc2 := hx.c2
  have hlen := hx.len
  obtain ⟨s, xb, hs⟩ := arc_open hs
  refine drawW_only [aB b s xb c x.p] hs fun w hs => ?_
  refine ite_false rfl ?_
  have hs : Sat W w (aB b s xb c x.p :: rowsC s xb N x.rows :: M) := hs
  have hHas : Calls Tryd.prog id_arc_Engine_Has #[.pointer (some ⟨b, 0, none⟩), .string key] w fun e w' => e = .returned (.bool (decide (key ∈ aRes x))) ∧ Sat W w' (aB b s xb c x.p :: rowsC s xb N x.rows :: M) := by
    refine c1 (arc_Engine_Has_calls ?_)
    rw [arc_Engine_Has_def, arc_Engine_Has_raw]
    refine ite_false rfl ?_
    repeat (first | with_reducible refine nilck_some ?_ | ((with_reducible refine atLd ?_); first | refine ld_b hs ?_ | refine ld_b (x := ⟨_, _, _⟩) hs ?_ | refine ld_r0 hs ?_ | refine ld_r1 hs ?_ | refine ld_rd0 ha_ hs ?_ | refine ld_rd1 ha_ hs ?_) | ((with_reducible refine isSt ?_); first | refine st_b hs fun w hs => ?_ | refine st_r0 hs fun w hs => ?_ | refine st_r1 hs fun w hs => ?_) | ((with_reducible refine isIdx ?_); first | refine idx_s hs fun b_ o_ hs => ?_ | refine idx_rd hs fun b_ o_ ha_ => ?_) | with_reducible refine newB_at hs fun b_ w hs => ?_ | ((with_reducible refine isLdS ?_); first | refine ldS_b ?_ | refine ldS_b (x := ⟨_, _, _⟩) ?_ | refine ldS_rs0 hs ?_ | refine ldS_rd0 ha_ ?_) | ((with_reducible refine isKeep ?_); first | refine keep_of hs ?_ | refine keep_imp hs ?_) | with_reducible refine when_om ?_ | with_reducible refine drawW_sat hs fun w hs => ?_)
    refine call1_of (rows_where hs hz) fun e w ⟨he, hs⟩ => ⟨_, he, ?_⟩
    rw [where_rows]
    by_cases h1 : key ∈ x.t1
    · rw [if_pos h1, decide_eq_true (mem_aRes.2 (.inl h1))]
      exact ite_true rfl ⟨rfl, hs⟩
    · rw [if_neg h1]
      by_cases h2 : key ∈ x.t2
      · rw [if_pos h2, decide_eq_true (mem_aRes.2 (.inr h2))]
        exact ite_false rfl ⟨rfl, hs⟩
      · rw [if_neg h2, decide_eq_false (fun h => (mem_aRes.1 h).elim h1 h2)]
        split
        · exact ite_false rfl ⟨rfl, hs⟩
        · split
          · exact ite_false rfl ⟨rfl, hs⟩
          · exact ite_false rfl ⟨rfl, hs⟩
  refine call1_of hHas fun e w ⟨he, hs⟩ => ⟨_, he, ?_⟩
  refine keep_imp hs ?_
  by_cases hk : key ∈ aRes x
  · rw [decide_eq_true hk]
    have e1 : aLoad c x key = (false, x) := if_pos ((mem_aRes.1 hk).elim .inl fun h => .inr (.inl h))
    rw [e1]
    refine ite_true rfl ?_
    refine keep_imp hs ?_
    exact ⟨rfl, arc_more (arc_shut (x := x) hs rfl) (Nat.le_succ N)⟩
  rw [decide_eq_false hk]
  refine ite_false rfl ?_
  refine nilck_some ?_
  refine ldS_b ?_
  have hLen : Calls Tryd.prog id_arc_Engine_Len #[.pointer (some ⟨b, 0, none⟩)] w fun e w' => e = .returned (.int .i64 (aLen x : Int)) ∧ Sat W w' (aB b s xb c x.p :: rowsC s xb N x.rows :: M) := by
    refine c1 (arc_Engine_Len_calls ?_)
    rw [arc_Engine_Len_def, arc_Engine_Len_raw]
    refine ite_false rfl ?_
    repeat (first | with_reducible refine nilck_some ?_ | ((with_reducible refine atLd ?_); first | refine ld_b hs ?_ | refine ld_b (x := ⟨_, _, _⟩) hs ?_ | refine ld_r0 hs ?_ | refine ld_r1 hs ?_ | refine ld_rd0 ha_ hs ?_ | refine ld_rd1 ha_ hs ?_) | ((with_reducible refine isSt ?_); first | refine st_b hs fun w hs => ?_ | refine st_r0 hs fun w hs => ?_ | refine st_r1 hs fun w hs => ?_) | ((with_reducible refine isIdx ?_); first | refine idx_s hs fun b_ o_ hs => ?_ | refine idx_rd hs fun b_ o_ ha_ => ?_) | with_reducible refine newB_at hs fun b_ w hs => ?_ | ((with_reducible refine isLdS ?_); first | refine ldS_b ?_ | refine ldS_b (x := ⟨_, _, _⟩) ?_ | refine ldS_rs0 hs ?_ | refine ldS_rd0 ha_ ?_) | ((with_reducible refine isKeep ?_); first | refine keep_of hs ?_ | refine keep_imp hs ?_) | with_reducible refine when_om ?_ | with_reducible refine drawW_sat hs fun w hs => ?_)
    refine many_of [0, 1] (M := aB b s xb c x.p :: M) (by exact Sat.fin hs) (by omega) rfl fun w hs => ?_
    rw [rs01]
    exact ⟨rfl, by exact Sat.fin hs⟩
  refine call1_of hLen fun e w ⟨he, hs⟩ => ⟨_, he, ?_⟩
  refine keep_imp hs ?_
  have hal : (aLen x : Int) = x.t1.length + x.t2.length := by unfold aLen; omega
  with_reducible refine ite_by (fun h2 => ?_) (fun h2 => ?_)
  · have e1 : aLoad c x key = (false, x) := if_pos (.inr (.inr (by omega)))
    rw [e1]
    exact ⟨rfl, arc_more (arc_shut (x := x) hs rfl) (Nat.le_succ N)⟩
  have e1 : aLoad c x key = (true, aLoad.aTrim2 c (aLoad.aTrim1 c (aPush1 x key))) := if_neg fun h => h.elim (fun h => hk (mem_aRes.2 (.inl h))) fun h => h.elim (fun h => hk (mem_aRes.2 (.inr h))) fun h => h2 (by omega)
  rw [e1, arc_Engine_Load_j1_def, arc_Engine_Load_j1_raw]
  repeat (first | with_reducible refine nilck_some ?_ | ((with_reducible refine atLd ?_); first | refine ld_b hs ?_ | refine ld_b (x := ⟨_, _, _⟩) hs ?_ | refine ld_r0 hs ?_ | refine ld_r1 hs ?_ | refine ld_rd0 ha_ hs ?_ | refine ld_rd1 ha_ hs ?_) | ((with_reducible refine isSt ?_); first | refine st_b hs fun w hs => ?_ | refine st_r0 hs fun w hs => ?_ | refine st_r1 hs fun w hs => ?_) | ((with_reducible refine isIdx ?_); first | refine idx_s hs fun b_ o_ hs => ?_ | refine idx_rd hs fun b_ o_ ha_ => ?_) | with_reducible refine newB_at hs fun b_ w hs => ?_ | ((with_reducible refine isLdS ?_); first | refine ldS_b ?_ | refine ldS_b (x := ⟨_, _, _⟩) ?_ | refine ldS_rs0 hs ?_ | refine ldS_rd0 ha_ ?_) | ((with_reducible refine isKeep ?_); first | refine keep_of hs ?_ | refine keep_imp hs ?_) | with_reducible refine when_om ?_ | with_reducible refine drawW_sat hs fun w hs => ?_)
  refine call0_of (rows_push (j := 0) hs (by decide) hz (by omega) rfl) fun e w ⟨he, hs⟩ => ⟨he, ?_⟩
  rw [rPush_rows0] at hs
  have hlt : ((aPush1 x key).t1.length : Int) + (aPush1 x key).t2.length ≤ c := by
    have a1 := gTake_len x.t1 key
    have a2 := gTake_len x.t2 key
    simp only [aPush1, aCut, List.length_append, List.length_cons, List.length_nil]
    omega
  have hp : (aPush1 x key).p = x.p := rfl
  rw [← hp] at hs
  generalize aPush1 x key = y at *
  have loop2 : ∀ (f : Nat) (w : World) (y : ArcS), ((y.t1.length : Int) + y.t2.length + y.b1.length + y.b2.length - 2 * c).toNat = f → ((y.t1.length : Int) + y.t2.length ≤ c) → ((y.t1.length : Int) + y.b1.length ≤ c) → Sat W w (arcR b c (N + 1) y :: M) →
      arc_Engine_Load_l4 idJ (fun v w' => v = .bool true ∧ Sat W w' (arcR b c (N + 1) (aLoad.aTrim2 c y) :: M)) (f + 1) (some ⟨b, 0, none⟩) w := by
    clear hs
    intro f
    induction f with
    | zero =>
      intro w y hf hl hl1 hs
      rw [arc_Engine_Load_l4_raw]
      have hlens := (arc_w hs).2
      obtain ⟨s, xb, hs⟩ := arc_open hs
      refine drawW_only [aB b s xb c y.p] hs fun w hs => ?_
      repeat (first | with_reducible refine nilck_some ?_ | ((with_reducible refine atLd ?_); first | refine ld_b hs ?_ | refine ld_b (x := ⟨_, _, _⟩) hs ?_ | refine ld_r0 hs ?_ | refine ld_r1 hs ?_ | refine ld_rd0 ha_ hs ?_ | refine ld_rd1 ha_ hs ?_) | ((with_reducible refine isSt ?_); first | refine st_b hs fun w hs => ?_ | refine st_r0 hs fun w hs => ?_ | refine st_r1 hs fun w hs => ?_) | ((with_reducible refine isIdx ?_); first | refine idx_s hs fun b_ o_ hs => ?_ | refine idx_rd hs fun b_ o_ ha_ => ?_) | with_reducible refine newB_at hs fun b_ w hs => ?_ | ((with_reducible refine isLdS ?_); first | refine ldS_b ?_ | refine ldS_b (x := ⟨_, _, _⟩) ?_ | refine ldS_rs0 hs ?_ | refine ldS_rd0 ha_ ?_) | ((with_reducible refine isKeep ?_); first | refine keep_of hs ?_ | refine keep_imp hs ?_) | with_reducible refine when_om ?_ | with_reducible refine drawW_sat hs fun w hs => ?_)
      refine many_of [0, 1, 2, 3] (M := aB b s xb c y.p :: M) (by exact Sat.fin hs) (by omega) rfl fun w hs => keep_imp hs ?_
      rw [rs4, i64_in (2 * c) (by omega)]
      refine ite_false (decide_eq_false (by omega)) ?_
      rw [arc_Engine_Load_j5_def, arc_Engine_Load_j5_raw, trim2_le (by omega)]
      exact ⟨rfl, arc_shut (x := y) (by exact Sat.fin hs) rfl⟩
    | succ f ih =>
      intro w y hf hl hl1 hs
      rw [arc_Engine_Load_l4_raw]
      have hw := (arc_w hs).1
      obtain ⟨s, xb, hs⟩ := arc_open hs
      have h0 : 0 < y.b2.length := by omega
      refine drawW_only [aB b s xb c y.p] hs fun w hs => ?_
      repeat (first | with_reducible refine nilck_some ?_ | ((with_reducible refine atLd ?_); first | refine ld_b hs ?_ | refine ld_b (x := ⟨_, _, _⟩) hs ?_ | refine ld_r0 hs ?_ | refine ld_r1 hs ?_ | refine ld_rd0 ha_ hs ?_ | refine ld_rd1 ha_ hs ?_) | ((with_reducible refine isSt ?_); first | refine st_b hs fun w hs => ?_ | refine st_r0 hs fun w hs => ?_ | refine st_r1 hs fun w hs => ?_) | ((with_reducible refine isIdx ?_); first | refine idx_s hs fun b_ o_ hs => ?_ | refine idx_rd hs fun b_ o_ ha_ => ?_) | with_reducible refine newB_at hs fun b_ w hs => ?_ | ((with_reducible refine isLdS ?_); first | refine ldS_b ?_ | refine ldS_b (x := ⟨_, _, _⟩) ?_ | refine ldS_rs0 hs ?_ | refine ldS_rd0 ha_ ?_) | ((with_reducible refine isKeep ?_); first | refine keep_of hs ?_ | refine keep_imp hs ?_) | with_reducible refine when_om ?_ | with_reducible refine drawW_sat hs fun w hs => ?_)
      refine many_of [0, 1, 2, 3] (M := aB b s xb c y.p :: M) (by exact Sat.fin hs) (by omega) rfl fun w hs => keep_imp hs ?_
      rw [rs4, i64_in (2 * c) (by omega)]
      refine ite_true (decide_eq_true (by omega)) ?_
      have hs : Sat W w (aB b s xb c y.p :: rowsC s xb (N + 1) y.rows :: M) := by exact Sat.fin hs
      refine drawW_only [aB b s xb c y.p] hs fun w hs => ?_
      repeat (first | with_reducible refine nilck_some ?_ | ((with_reducible refine atLd ?_); first | refine ld_b hs ?_ | refine ld_b (x := ⟨_, _, _⟩) hs ?_ | refine ld_r0 hs ?_ | refine ld_r1 hs ?_ | refine ld_rd0 ha_ hs ?_ | refine ld_rd1 ha_ hs ?_) | ((with_reducible refine isSt ?_); first | refine st_b hs fun w hs => ?_ | refine st_r0 hs fun w hs => ?_ | refine st_r1 hs fun w hs => ?_) | ((with_reducible refine isIdx ?_); first | refine idx_s hs fun b_ o_ hs => ?_ | refine idx_rd hs fun b_ o_ ha_ => ?_) | with_reducible refine newB_at hs fun b_ w hs => ?_ | ((with_reducible refine isLdS ?_); first | refine ldS_b ?_ | refine ldS_b (x := ⟨_, _, _⟩) ?_ | refine ldS_rs0 hs ?_ | refine ldS_rd0 ha_ ?_) | ((with_reducible refine isKeep ?_); first | refine keep_of hs ?_ | refine keep_imp hs ?_) | with_reducible refine when_om ?_ | with_reducible refine drawW_sat hs fun w hs => ?_)
      refine call1_of (rows_oldest hs (j := 3) (by decide) rfl) fun e w ⟨he, hs⟩ => ⟨_, he, ?_⟩
      refine keep_imp hs ?_
      have e0 : y.rows.getD 3 [] = y.b2 := rfl
      rw [e0]
      refine call0_of (rows_drop hs (hw.s4 h0) (by omega) rfl) fun e w ⟨he, hs⟩ => ⟨he, ?_⟩
      rw [rTake_rows, cut_b2 hw h0] at hs
      have hs := arc_shut (x := { y with b2 := y.b2.drop 1 }) hs rfl
      rw [← trim2_step (c := c) (y := y) (by omega) h0]
      exact ih w _ (by simp only [List.length_drop]; omega) hl hl1 hs
  have loop1 : ∀ (f : Nat) (w : World) (y : ArcS), ((y.t1.length : Int) + y.b1.length - c).toNat = f → ((y.t1.length : Int) + y.t2.length ≤ c) → Sat W w (arcR b c (N + 1) y :: M) →
      arc_Engine_Load_l2 idJ (fun v w' => v = .bool true ∧ Sat W w' (arcR b c (N + 1) (aLoad.aTrim2 c (aLoad.aTrim1 c y)) :: M)) (f + 1) (some ⟨b, 0, none⟩) w := by
    clear hs
    intro f
    induction f with
    | zero =>
      intro w y hf hl hs
      rw [arc_Engine_Load_l2_raw]
      obtain ⟨s, xb, hs⟩ := arc_open hs
      refine drawW_only [aB b s xb c y.p] hs fun w hs => ?_
      repeat (first | with_reducible refine nilck_some ?_ | ((with_reducible refine atLd ?_); first | refine ld_b hs ?_ | refine ld_b (x := ⟨_, _, _⟩) hs ?_ | refine ld_r0 hs ?_ | refine ld_r1 hs ?_ | refine ld_rd0 ha_ hs ?_ | refine ld_rd1 ha_ hs ?_) | ((with_reducible refine isSt ?_); first | refine st_b hs fun w hs => ?_ | refine st_r0 hs fun w hs => ?_ | refine st_r1 hs fun w hs => ?_) | ((with_reducible refine isIdx ?_); first | refine idx_s hs fun b_ o_ hs => ?_ | refine idx_rd hs fun b_ o_ ha_ => ?_) | with_reducible refine newB_at hs fun b_ w hs => ?_ | ((with_reducible refine isLdS ?_); first | refine ldS_b ?_ | refine ldS_b (x := ⟨_, _, _⟩) ?_ | refine ldS_rs0 hs ?_ | refine ldS_rd0 ha_ ?_) | ((with_reducible refine isKeep ?_); first | refine keep_of hs ?_ | refine keep_imp hs ?_) | with_reducible refine when_om ?_ | with_reducible refine drawW_sat hs fun w hs => ?_)
      refine many_of [0, 2] (M := aB b s xb c y.p :: M) (by exact Sat.fin hs) (by omega) rfl fun w hs => keep_imp hs ?_
      rw [rs02]
      refine ite_false (decide_eq_false (by omega)) ?_
      rw [arc_Engine_Load_j3_def, arc_Engine_Load_j3_raw, trim1_le (by omega)]
      exact exM_of _ (loop2 _ w y rfl hl (by omega) (arc_shut (x := y) (by exact Sat.fin hs) rfl))
    | succ f ih =>
      intro w y hf hl hs
      rw [arc_Engine_Load_l2_raw]
      have hw := (arc_w hs).1
      obtain ⟨s, xb, hs⟩ := arc_open hs
      have h0 : 0 < y.b1.length := by omega
      refine drawW_only [aB b s xb c y.p] hs fun w hs => ?_
      repeat (first | with_reducible refine nilck_some ?_ | ((with_reducible refine atLd ?_); first | refine ld_b hs ?_ | refine ld_b (x := ⟨_, _, _⟩) hs ?_ | refine ld_r0 hs ?_ | refine ld_r1 hs ?_ | refine ld_rd0 ha_ hs ?_ | refine ld_rd1 ha_ hs ?_) | ((with_reducible refine isSt ?_); first | refine st_b hs fun w hs => ?_ | refine st_r0 hs fun w hs => ?_ | refine st_r1 hs fun w hs => ?_) | ((with_reducible refine isIdx ?_); first | refine idx_s hs fun b_ o_ hs => ?_ | refine idx_rd hs fun b_ o_ ha_ => ?_) | with_reducible refine newB_at hs fun b_ w hs => ?_ | ((with_reducible refine isLdS ?_); first | refine ldS_b ?_ | refine ldS_b (x := ⟨_, _, _⟩) ?_ | refine ldS_rs0 hs ?_ | refine ldS_rd0 ha_ ?_) | ((with_reducible refine isKeep ?_); first | refine keep_of hs ?_ | refine keep_imp hs ?_) | with_reducible refine when_om ?_ | with_reducible refine drawW_sat hs fun w hs => ?_)
      refine many_of [0, 2] (M := aB b s xb c y.p :: M) (by exact Sat.fin hs) (by omega) rfl fun w hs => keep_imp hs ?_
      rw [rs02]
      refine ite_true (decide_eq_true (by omega)) ?_
      have hs : Sat W w (aB b s xb c y.p :: rowsC s xb (N + 1) y.rows :: M) := by exact Sat.fin hs
      refine drawW_only [aB b s xb c y.p] hs fun w hs => ?_
      repeat (first | with_reducible refine nilck_some ?_ | ((with_reducible refine atLd ?_); first | refine ld_b hs ?_ | refine ld_b (x := ⟨_, _, _⟩) hs ?_ | refine ld_r0 hs ?_ | refine ld_r1 hs ?_ | refine ld_rd0 ha_ hs ?_ | refine ld_rd1 ha_ hs ?_) | ((with_reducible refine isSt ?_); first | refine st_b hs fun w hs => ?_ | refine st_r0 hs fun w hs => ?_ | refine st_r1 hs fun w hs => ?_) | ((with_reducible refine isIdx ?_); first | refine idx_s hs fun b_ o_ hs => ?_ | refine idx_rd hs fun b_ o_ ha_ => ?_) | with_reducible refine newB_at hs fun b_ w hs => ?_ | ((with_reducible refine isLdS ?_); first | refine ldS_b ?_ | refine ldS_b (x := ⟨_, _, _⟩) ?_ | refine ldS_rs0 hs ?_ | refine ldS_rd0 ha_ ?_) | ((with_reducible refine isKeep ?_); first | refine keep_of hs ?_ | refine keep_imp hs ?_) | with_reducible refine when_om ?_ | with_reducible refine drawW_sat hs fun w hs => ?_)
      refine call1_of (rows_oldest hs (j := 2) (by decide) rfl) fun e w ⟨he, hs⟩ => ⟨_, he, ?_⟩
      refine keep_imp hs ?_
      have e0 : y.rows.getD 2 [] = y.b1 := rfl
      rw [e0]
      refine call0_of (rows_drop hs (hw.s3 h0) (by omega) rfl) fun e w ⟨he, hs⟩ => ⟨he, ?_⟩
      rw [rTake_rows, cut_b1 hw h0] at hs
      have hs := arc_shut (x := { y with b1 := y.b1.drop 1 }) hs rfl
      rw [← trim1_step (c := c) (y := y) (by omega) h0]
      exact ih w _ (by simp only [List.length_drop]; omega) hl hs
  exact exM_of _ (loop1 _ w y rfl hlt (arc_shut (x := y) hs rfl))
theorem arc_Load (hs : Sat W w L) [hA : At L b (arcR b c N x) F] (hx : ArcOk c x) (hz : key.size < 64) (hN : N < 90000000) : Calls Tryd.prog id_arc_Engine_Load #[.pointer (some ⟨b, 0, none⟩), .string key] w fun e w' => e = .returned (.bool (aLoad c x key).1) ∧ Sat W w' (F (arcR b c (N + 2) (aLoad c x key).2)) := by
  refine At.call1 (hA := hA) hs fun M hs => ?_
  exact (arc_Load_in hs hx hz hN).mono fun e w' ⟨he, hs⟩ => ⟨he, arc_more hs (by omega)⟩
end
end Go.Proofs.YtchlicgjdlkidaaDoor
