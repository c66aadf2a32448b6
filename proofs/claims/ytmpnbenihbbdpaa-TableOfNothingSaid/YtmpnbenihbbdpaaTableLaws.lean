/- TablePlays, TableLives, TableLast, TableDue, TableErrors, TableOfNothing: walks. -/
import Derived.Test.YtmpnbenihbbdpaaTable
set_option linter.unusedVariables false
set_option linter.unusedSimpArgs false
set_option linter.unnecessarySimpa false
set_option linter.unusedSectionVars false
namespace Go.Hb
structure Act21 where
  kind : Int
  now : Int
  life : Int
  key : ByteArray
  val : ByteArray
instance : Inhabited Act21 := ⟨⟨0, 0, 0, ⟨#[]⟩, ⟨#[]⟩⟩⟩
def act21R : Rec Act21 := ⟨5, fun a => [.int .i64 a.kind, .int .i64 a.now, .int .i64 a.life, .string a.key, .string a.val], fun _ => rfl⟩
instance : PosR act21R := ⟨by decide⟩
def act21ok (a : Act21) : Prop := okStr a.key ∧ okStr a.val
theorem of_act21 (x : List Value) (h : okRow [.int .i64, .int .i64, .int .i64, .str, .str] x) : ∃ a, x = act21R.cells a ∧ act21ok a := by
  obtain ⟨v0, v1, v2, v3, v4, rfl⟩ : ∃ v0 v1 v2 v3 v4, x = [v0, v1, v2, v3, v4] := by
    have hl := okRow_len h
    match x, hl with
    | [v0, v1, v2, v3, v4], _ => exact ⟨v0, v1, v2, v3, v4, rfl⟩
  obtain ⟨h0, h1, h2, h3, h4, _⟩ := h
  obtain ⟨k0, rfl, _⟩ := h0
  obtain ⟨k1, rfl, _⟩ := h1
  obtain ⟨k2, rfl, _⟩ := h2
  obtain ⟨k3, rfl, g3⟩ := h3
  obtain ⟨k4, rfl, g4⟩ := h4
  exact ⟨⟨k0, k1, k2, k3, k4⟩, rfl, g3, g4⟩
def tPuts (acts : List Act21) (r : TT) : TT := acts.foldl (fun r a => tPut r a.key a.val a.now a.life) r
end Go.Hb
namespace Go.Proofs.Ytmpnbenihbbdpaa
open Go.Hb Go.IntWalk
section
variable {W w : World} {L M : List HP} {F : HP → List HP}
theorem allW_one {p : WP} {w : World} (h : p w) : allW [p] w := h
theorem known21 (hs : Sat W w L) : Calls Try.prog id_hoardlaw21_known #[] w fun e w' => e = .returned (.bool true) ∧ Sat W w' L := by
  refine c1 (hoardlaw21_known_calls ?_)
  rw [hoardlaw21_known_def, hoardlaw21_known_raw]
  refine (tab_New hs).mono fun e w ⟨b, he, hs⟩ => ⟨_, he, ite_false rfl ?_⟩
  have e1 : tErr str_a str_x 5 3 = 0 := by decide
  have e2 : tPut [] str_a str_x 5 3 = [(str_a, (str_x, 8))] := by unfold tPut; rw [if_pos e1]; rfl
  have e3 : tFresh [] str_a str_x 5 3 = true := by unfold tFresh; rw [e1]; rfl
  have e4 : tGet [(str_a, (str_x, 8))] str_a 7 = (str_x, true) := by decide
  have e5 : tGet [(str_a, (str_x, 8))] str_a 8 = (str_empty, false) := by decide
  have e6 : tDue [(str_a, (str_x, 8))] 8 = [str_a] := by decide
  have z1 : str_a.size < 4611686018427387904 := by decide
  refine call2_of (tab_Put hs (by simp)) fun e w ⟨he, hs⟩ => ⟨_, _, he, ?_⟩
  rw [e2] at hs
  rw [e1, e3]
  refine call2_of (tab_Get hs z1) fun e w ⟨he, hs⟩ => ⟨_, _, he, ?_⟩
  rw [e4]
  refine call2_of (tab_Get hs z1) fun e w ⟨he, hs⟩ => ⟨_, _, he, ?_⟩
  rw [e5]
  refine ite_true rfl (ite_true rfl (ite_true rfl (ite_true (by rw [sEq_eq]; simp) (ite_true rfl ?_))))
  refine (tab_Due hs (by simp)).mono fun e w ⟨k1, he, hs⟩ => ⟨_, he, ?_⟩
  rw [e6] at hs
  repeat (first | with_reducible refine nilck_some ?_ | ((with_reducible refine atLd ?_); first | refine ld_b hs ?_ | refine ld_b (x := ⟨_, _, _⟩) hs ?_ | refine ld_r0 hs ?_ | refine ld_r1 hs ?_ | refine ld_r2 hs ?_ | refine ld_r3 hs ?_ | refine ld_r4 hs ?_ | refine ld_rd0 ha_ hs ?_ | refine ld_rd1 ha_ hs ?_ | refine ld_rd2 ha_ hs ?_ | refine ld_rd3 ha_ hs ?_ | refine ld_rd4 ha_ hs ?_ | refine ld_rd5 ha_ hs ?_ | fail) | ((with_reducible refine isSt ?_); first | refine st_b hs fun w hs => ?_ | refine st_rec5 hs fun w hs => ?_ | refine st_rec4 hs fun w hs => ?_ | refine st_rec3 hs fun w hs => ?_ | refine st_rec2 hs fun w hs => ?_ | refine st_r0 hs fun w hs => ?_ | refine st_r1 hs fun w hs => ?_ | fail) | ((with_reducible refine isIdx ?_); first | refine idx_s hs fun b_ o_ hs => ?_ | refine idx_a hs ?_ | refine idx_rd hs fun b_ o_ ha_ => ?_ | fail) | ((with_reducible refine isNew ?_); first | refine newB_at hs fun b_ w hs => ?_ | fail) | ((with_reducible refine isLdS ?_); first | refine ldS_b ?_ | refine ldS_b (x := ⟨_, _, _⟩) ?_ | refine ldS_r0 ?_ | refine ldS_r1 ?_ | refine ldS_r2 ?_ | refine ldS_r3 ?_ | refine ldS_rs0 hs ?_ | refine ldS_rs1 hs ?_ | refine ldS_rs2 hs ?_ | refine ldS_rs3 hs ?_ | refine ldS_rd0 ha_ ?_ | refine ldS_rd1 ha_ ?_ | refine ldS_rd2 ha_ ?_ | refine ldS_rd3 ha_ ?_ | refine ldS_rd4 ha_ ?_ | refine ldS_rd5 ha_ ?_ | fail) | ((with_reducible refine isKeep ?_); first | refine keep_of hs ?_ | refine keep_imp hs ?_ | fail) | ((with_reducible refine isWhen ?_); first | refine when_om ?_ | fail) | ((with_reducible refine isDraw ?_); first | refine drawW_sat hs fun w hs => ?_ | fail))
  have hs2 : Sat W w (recs Rec.str ⟨some ⟨b_, 0, none⟩, 1, 1⟩ [str_a] :: recs Rec.str k1 [str_a] :: tabR b [(str_a, (str_x, 8))] :: L) := Sat.blkS (b := b_) Rec.str [str_a] hs rfl rfl
  refine call1_of (hoardlaw21_texts_at (a := k1) (b := ⟨some ⟨b_, 0, none⟩, 1, 1⟩) hs2 (by decide)) fun e w ⟨he, hs⟩ => ⟨_, he, ?_⟩
  exact ⟨by simp, by exact Sat.fin hs⟩
set_option maxRecDepth 100000 in
theorem heavy21 {s0 : Sl} {acts : List Act21} [hr : Rdb W L s0 act21R acts] (hs : Sat W w L) : Calls Try.prog id_hoardlaw21_heavy #[.slice s0.a s0.n s0.c] w fun e w' => ∃ b : Bool, e = .returned (.bool b) ∧ (b = false → ∀ i, i < acts.length → i < 150 → (acts.getD i default).key.size ≤ 60) ∧ Sat W w' L := by
  refine (hoardlaw21_heavy_calls (Q := fun v w' => ∃ b : Bool, v = .bool b ∧ (b = false → ∀ i, i < acts.length → i < 150 → (acts.getD i default).key.size ≤ 60) ∧ Sat W w' L) ?_).mono fun e w' ⟨v, he, b, hv, hs⟩ => ⟨b, by rw [he, hv], hs⟩
  rw [hoardlaw21_heavy_def, hoardlaw21_heavy_raw]
  obtain ⟨N, hN⟩ : ∃ N : Nat, N = 151 := ⟨_, rfl⟩
  have loop : ∀ (m i : Nat) (w : World), i + m = N → (∀ j, j < i → j < acts.length → (acts.getD j default).key.size ≤ 60) → Sat W w L → hoardlaw21_heavy_l1 idJ (fun v w' => ∃ b : Bool, v = .bool b ∧ (b = false → ∀ i, i < acts.length → i < 150 → (acts.getD i default).key.size ≤ 60) ∧ Sat W w' L) (m + 1) s0 (i : Int) w := by
    intro m
    induction m with
    | zero =>
      intro i w hi hp hs
      have hn := rdb_len (s := s0) hs
      rw [hoardlaw21_heavy_l1_raw]
      (first | with_reducible refine ite_ltI (fun h1 => ?_) (fun h1 => ?_) | with_reducible refine ite_leI (fun h1 => ?_) (fun h1 => ?_) | with_reducible refine ite_gtI (fun h1 => ?_) (fun h1 => ?_) | with_reducible refine ite_geI (fun h1 => ?_) (fun h1 => ?_) | with_reducible refine ite_eqI (fun h1 => ?_) (fun h1 => ?_) | with_reducible refine ite_neI (fun h1 => ?_) (fun h1 => ?_) | with_reducible refine ite_eqS (fun h1 => ?_) (fun h1 => ?_) | with_reducible refine ite_neS (fun h1 => ?_) (fun h1 => ?_) | with_reducible refine ite_dec (fun h1 => ?_) (fun h1 => ?_) | with_reducible refine ite_ndec (fun h1 => ?_) (fun h1 => ?_) | with_reducible refine ite_some (fun i_ h1 => ?_) (fun h1 => ?_) | with_reducible refine ite_nsome (fun h1 => ?_) (fun i_ h1 => ?_) | with_reducible refine ite_cases (fun h1 => ?_) (fun h1 => ?_))
      · with_reducible refine ite_ltI (fun h2 => absurd h2 (by omega)) (fun h2 => ?_)
        rw [hoardlaw21_heavy_j3_def, hoardlaw21_heavy_j3_raw]
        exact ⟨_, rfl, fun _ j hj hj2 => hp j (by omega) hj, hs⟩
      · rw [hoardlaw21_heavy_j3_def, hoardlaw21_heavy_j3_raw]
        exact ⟨_, rfl, fun _ j hj hj2 => hp j (by omega) hj, hs⟩
    | succ m ih =>
      intro i w hi hp hs
      have hn := rdb_len (s := s0) hs
      rw [hoardlaw21_heavy_l1_raw]
      (first | with_reducible refine ite_ltI (fun h1 => ?_) (fun h1 => ?_) | with_reducible refine ite_leI (fun h1 => ?_) (fun h1 => ?_) | with_reducible refine ite_gtI (fun h1 => ?_) (fun h1 => ?_) | with_reducible refine ite_geI (fun h1 => ?_) (fun h1 => ?_) | with_reducible refine ite_eqI (fun h1 => ?_) (fun h1 => ?_) | with_reducible refine ite_neI (fun h1 => ?_) (fun h1 => ?_) | with_reducible refine ite_eqS (fun h1 => ?_) (fun h1 => ?_) | with_reducible refine ite_neS (fun h1 => ?_) (fun h1 => ?_) | with_reducible refine ite_dec (fun h1 => ?_) (fun h1 => ?_) | with_reducible refine ite_ndec (fun h1 => ?_) (fun h1 => ?_) | with_reducible refine ite_some (fun i_ h1 => ?_) (fun h1 => ?_) | with_reducible refine ite_nsome (fun h1 => ?_) (fun i_ h1 => ?_) | with_reducible refine ite_cases (fun h1 => ?_) (fun h1 => ?_))
      · (first | with_reducible refine ite_ltI (fun h2 => ?_) (fun h2 => ?_) | with_reducible refine ite_leI (fun h2 => ?_) (fun h2 => ?_) | with_reducible refine ite_gtI (fun h2 => ?_) (fun h2 => ?_) | with_reducible refine ite_geI (fun h2 => ?_) (fun h2 => ?_) | with_reducible refine ite_eqI (fun h2 => ?_) (fun h2 => ?_) | with_reducible refine ite_neI (fun h2 => ?_) (fun h2 => ?_) | with_reducible refine ite_eqS (fun h2 => ?_) (fun h2 => ?_) | with_reducible refine ite_neS (fun h2 => ?_) (fun h2 => ?_) | with_reducible refine ite_dec (fun h2 => ?_) (fun h2 => ?_) | with_reducible refine ite_ndec (fun h2 => ?_) (fun h2 => ?_) | with_reducible refine ite_some (fun i_ h2 => ?_) (fun h2 => ?_) | with_reducible refine ite_nsome (fun h2 => ?_) (fun i_ h2 => ?_) | with_reducible refine ite_cases (fun h2 => ?_) (fun h2 => ?_))
        · rw [hoardlaw21_heavy_j2_def, hoardlaw21_heavy_j2_raw]
          repeat (first | with_reducible refine nilck_some ?_ | ((with_reducible refine atLd ?_); first | refine ld_b hs ?_ | refine ld_b (x := ⟨_, _, _⟩) hs ?_ | refine ld_r0 hs ?_ | refine ld_r1 hs ?_ | refine ld_r2 hs ?_ | refine ld_r3 hs ?_ | refine ld_r4 hs ?_ | refine ld_rd0 ha_ hs ?_ | refine ld_rd1 ha_ hs ?_ | refine ld_rd2 ha_ hs ?_ | refine ld_rd3 ha_ hs ?_ | refine ld_rd4 ha_ hs ?_ | refine ld_rd5 ha_ hs ?_ | fail) | ((with_reducible refine isSt ?_); first | refine st_b hs fun w hs => ?_ | refine st_rec5 hs fun w hs => ?_ | refine st_rec4 hs fun w hs => ?_ | refine st_rec3 hs fun w hs => ?_ | refine st_rec2 hs fun w hs => ?_ | refine st_r0 hs fun w hs => ?_ | refine st_r1 hs fun w hs => ?_ | fail) | ((with_reducible refine isIdx ?_); first | refine idx_s hs fun b_ o_ hs => ?_ | refine idx_a hs ?_ | refine idx_rd hs fun b_ o_ ha_ => ?_ | fail) | ((with_reducible refine isNew ?_); first | refine newB_at hs fun b_ w hs => ?_ | fail) | ((with_reducible refine isLdS ?_); first | refine ldS_b ?_ | refine ldS_b (x := ⟨_, _, _⟩) ?_ | refine ldS_r0 ?_ | refine ldS_r1 ?_ | refine ldS_r2 ?_ | refine ldS_r3 ?_ | refine ldS_rs0 hs ?_ | refine ldS_rs1 hs ?_ | refine ldS_rs2 hs ?_ | refine ldS_rs3 hs ?_ | refine ldS_rd0 ha_ ?_ | refine ldS_rd1 ha_ ?_ | refine ldS_rd2 ha_ ?_ | refine ldS_rd3 ha_ ?_ | refine ldS_rd4 ha_ ?_ | refine ldS_rd5 ha_ ?_ | fail) | ((with_reducible refine isKeep ?_); first | refine keep_of hs ?_ | refine keep_imp hs ?_ | fail) | ((with_reducible refine isWhen ?_); first | refine when_om ?_ | fail) | ((with_reducible refine isDraw ?_); first | refine drawW_sat hs fun w hs => ?_ | fail))
          rw [Int.toNat_natCast]
          (first | with_reducible refine ite_ltI (fun h3 => ?_) (fun h3 => ?_) | with_reducible refine ite_leI (fun h3 => ?_) (fun h3 => ?_) | with_reducible refine ite_gtI (fun h3 => ?_) (fun h3 => ?_) | with_reducible refine ite_geI (fun h3 => ?_) (fun h3 => ?_) | with_reducible refine ite_eqI (fun h3 => ?_) (fun h3 => ?_) | with_reducible refine ite_neI (fun h3 => ?_) (fun h3 => ?_) | with_reducible refine ite_eqS (fun h3 => ?_) (fun h3 => ?_) | with_reducible refine ite_neS (fun h3 => ?_) (fun h3 => ?_) | with_reducible refine ite_dec (fun h3 => ?_) (fun h3 => ?_) | with_reducible refine ite_ndec (fun h3 => ?_) (fun h3 => ?_) | with_reducible refine ite_some (fun i_ h3 => ?_) (fun h3 => ?_) | with_reducible refine ite_nsome (fun h3 => ?_) (fun i_ h3 => ?_) | with_reducible refine ite_cases (fun h3 => ?_) (fun h3 => ?_))
          · exact ⟨_, rfl, (fun h => by cases h), hs⟩
          · repeat (first | with_reducible refine nilck_some ?_ | ((with_reducible refine atLd ?_); first | refine ld_b hs ?_ | refine ld_b (x := ⟨_, _, _⟩) hs ?_ | refine ld_r0 hs ?_ | refine ld_r1 hs ?_ | refine ld_r2 hs ?_ | refine ld_r3 hs ?_ | refine ld_r4 hs ?_ | refine ld_rd0 ha_ hs ?_ | refine ld_rd1 ha_ hs ?_ | refine ld_rd2 ha_ hs ?_ | refine ld_rd3 ha_ hs ?_ | refine ld_rd4 ha_ hs ?_ | refine ld_rd5 ha_ hs ?_ | fail) | ((with_reducible refine isSt ?_); first | refine st_b hs fun w hs => ?_ | refine st_rec5 hs fun w hs => ?_ | refine st_rec4 hs fun w hs => ?_ | refine st_rec3 hs fun w hs => ?_ | refine st_rec2 hs fun w hs => ?_ | refine st_r0 hs fun w hs => ?_ | refine st_r1 hs fun w hs => ?_ | fail) | ((with_reducible refine isIdx ?_); first | refine idx_s hs fun b_ o_ hs => ?_ | refine idx_a hs ?_ | refine idx_rd hs fun b_ o_ ha_ => ?_ | fail) | ((with_reducible refine isNew ?_); first | refine newB_at hs fun b_ w hs => ?_ | fail) | ((with_reducible refine isLdS ?_); first | refine ldS_b ?_ | refine ldS_b (x := ⟨_, _, _⟩) ?_ | refine ldS_r0 ?_ | refine ldS_r1 ?_ | refine ldS_r2 ?_ | refine ldS_r3 ?_ | refine ldS_rs0 hs ?_ | refine ldS_rs1 hs ?_ | refine ldS_rs2 hs ?_ | refine ldS_rs3 hs ?_ | refine ldS_rd0 ha_ ?_ | refine ldS_rd1 ha_ ?_ | refine ldS_rd2 ha_ ?_ | refine ldS_rd3 ha_ ?_ | refine ldS_rd4 ha_ ?_ | refine ldS_rd5 ha_ ?_ | fail) | ((with_reducible refine isKeep ?_); first | refine keep_of hs ?_ | refine keep_imp hs ?_ | fail) | ((with_reducible refine isWhen ?_); first | refine when_om ?_ | fail) | ((with_reducible refine isDraw ?_); first | refine drawW_sat hs fun w hs => ?_ | fail))
            (first | with_reducible refine ite_ltI (fun h4 => ?_) (fun h4 => ?_) | with_reducible refine ite_leI (fun h4 => ?_) (fun h4 => ?_) | with_reducible refine ite_gtI (fun h4 => ?_) (fun h4 => ?_) | with_reducible refine ite_geI (fun h4 => ?_) (fun h4 => ?_) | with_reducible refine ite_eqI (fun h4 => ?_) (fun h4 => ?_) | with_reducible refine ite_neI (fun h4 => ?_) (fun h4 => ?_) | with_reducible refine ite_eqS (fun h4 => ?_) (fun h4 => ?_) | with_reducible refine ite_neS (fun h4 => ?_) (fun h4 => ?_) | with_reducible refine ite_dec (fun h4 => ?_) (fun h4 => ?_) | with_reducible refine ite_ndec (fun h4 => ?_) (fun h4 => ?_) | with_reducible refine ite_some (fun i_ h4 => ?_) (fun h4 => ?_) | with_reducible refine ite_nsome (fun h4 => ?_) (fun i_ h4 => ?_) | with_reducible refine ite_cases (fun h4 => ?_) (fun h4 => ?_))
            · exact ⟨_, rfl, (fun h => by cases h), hs⟩
            rw [i64_in _ (by omega)]
            refine ih (i + 1) w (by omega) (fun j hj hj2 => ?_) hs
            by_cases hji : j = i
            · subst hji; omega
            · exact hp j (by omega) hj2
        · rw [hoardlaw21_heavy_j3_def, hoardlaw21_heavy_j3_raw]
          exact ⟨_, rfl, fun _ j hj hj2 => hp j (by omega) hj, hs⟩
      · rw [hoardlaw21_heavy_j3_def, hoardlaw21_heavy_j3_raw]
        exact ⟨_, rfl, fun _ j hj hj2 => hp j (by omega) hj, hs⟩
  refine ⟨N + 1, ?_⟩
  exact loop N 0 w (by omega) (fun j hj => by omega) hs

/-! a nil Table -/
theorem tnothing_walk {k : ByteArray} {now : Int} : Calls Try.prog id_hoardlaw21_TableOfNothing #[.string k, .int .i64 now] W fun e w' => e = .returned (.bool true) ∧ KeptH W w' := by
  have hs := Sat.begin W
  refine law_of (hoardlaw21_TableOfNothing_calls ?_)
  rw [hoardlaw21_TableOfNothing_def, hoardlaw21_TableOfNothing_raw]
  have hP : ∀ w, Sat W w [old W] → Calls Try.prog id_table_Table_Put #[.pointer none, .string k, .string str_x, .int .i64 now, .int .i64 0] w fun e w' => e = .returned (.tuple #[.bool false, .int .i64 1]) ∧ Sat W w' [old W] := by
    intro w hs
    refine c1 (table_Table_Put_calls ?_)
    rw [table_Table_Put_def, table_Table_Put_raw]
    exact ite_true rfl ⟨rfl, hs⟩
  have hG : ∀ w, Sat W w [old W] → Calls Try.prog id_table_Table_Get #[.pointer none, .string k, .int .i64 now] w fun e w' => e = .returned (.tuple #[.string str_empty, .bool false]) ∧ Sat W w' [old W] := by
    intro w hs
    refine c1 (table_Table_Get_calls ?_)
    rw [table_Table_Get_def, table_Table_Get_raw]
    exact ite_true rfl ⟨rfl, hs⟩
  have hH : ∀ w, Sat W w [old W] → Calls Try.prog id_table_Table_Has #[.pointer none, .string k] w fun e w' => e = .returned (.bool false) ∧ Sat W w' [old W] := by
    intro w hs
    refine c1 (table_Table_Has_calls ?_)
    rw [table_Table_Has_def, table_Table_Has_raw]
    exact ite_true rfl ⟨rfl, hs⟩
  have hD : ∀ w, Sat W w [old W] → Calls Try.prog id_table_Table_Delete #[.pointer none, .string k] w fun e w' => e = .returned (.bool false) ∧ Sat W w' [old W] := by
    intro w hs
    refine c1 (table_Table_Delete_calls ?_)
    rw [table_Table_Delete_def, table_Table_Delete_raw]
    exact ite_true rfl ⟨rfl, hs⟩
  have hE : ∀ w, Sat W w [old W] → Calls Try.prog id_table_Table_End #[.pointer none, .string k] w fun e w' => e = .returned (.int .i64 0) ∧ Sat W w' [old W] := by
    intro w hs
    refine c1 (table_Table_End_calls ?_)
    rw [table_Table_End_def, table_Table_End_raw]
    exact ite_true rfl ⟨rfl, hs⟩
  have hK : ∀ w, Sat W w [old W] → Calls Try.prog id_table_Table_Keys #[.pointer none] w fun e w' => e = .returned (.slice none 0 0) ∧ Sat W w' [old W] := by
    intro w hs
    refine c1 (table_Table_Keys_calls ?_)
    rw [table_Table_Keys_def, table_Table_Keys_raw]
    exact ite_true rfl ⟨rfl, hs⟩
  have hL : ∀ w, Sat W w [old W] → Calls Try.prog id_table_Table_Len #[.pointer none] w fun e w' => e = .returned (.int .i64 0) ∧ Sat W w' [old W] := by
    intro w hs
    refine c1 (table_Table_Len_calls ?_)
    rw [table_Table_Len_def, table_Table_Len_raw]
    exact ite_true rfl ⟨rfl, hs⟩
  have hU : ∀ w, Sat W w [old W] → Calls Try.prog id_table_Table_Due #[.pointer none, .int .i64 now] w fun e w' => e = .returned (.slice none 0 0) ∧ Sat W w' [old W] := by
    intro w hs
    refine c1 (table_Table_Due_calls ?_)
    rw [table_Table_Due_def, table_Table_Due_raw]
    refine (hK w hs).mono fun e w ⟨he, hs⟩ => ⟨⟨none, 0, 0⟩, he, 1, ?_⟩
    show table_Table_Due_l1 idJ _ (0 + 1) none now ⟨none, 0, 0⟩ ⟨none, 0, 0⟩ ((0 : Nat) : Int) 0 w
    rw [table_Table_Due_l1_raw]
    refine ite_false rfl ?_
    rw [table_Table_Due_j2_def, table_Table_Due_j2_raw]
    exact ⟨rfl, hs⟩
  (first | with_reducible refine ite_ltI (fun h1 => ?_) (fun h1 => ?_) | with_reducible refine ite_leI (fun h1 => ?_) (fun h1 => ?_) | with_reducible refine ite_gtI (fun h1 => ?_) (fun h1 => ?_) | with_reducible refine ite_geI (fun h1 => ?_) (fun h1 => ?_) | with_reducible refine ite_eqI (fun h1 => ?_) (fun h1 => ?_) | with_reducible refine ite_neI (fun h1 => ?_) (fun h1 => ?_) | with_reducible refine ite_eqS (fun h1 => ?_) (fun h1 => ?_) | with_reducible refine ite_neS (fun h1 => ?_) (fun h1 => ?_) | with_reducible refine ite_dec (fun h1 => ?_) (fun h1 => ?_) | with_reducible refine ite_ndec (fun h1 => ?_) (fun h1 => ?_) | with_reducible refine ite_some (fun i_ h1 => ?_) (fun h1 => ?_) | with_reducible refine ite_nsome (fun h1 => ?_) (fun i_ h1 => ?_) | with_reducible refine ite_cases (fun h1 => ?_) (fun h1 => ?_))
  · exact ⟨rfl, hs⟩
  refine call2_of (hP _ hs) fun e w ⟨he, hs⟩ => ⟨_, _, he, ?_⟩
  refine call2_of (hG _ hs) fun e w ⟨he, hs⟩ => ⟨_, _, he, ite_true rfl (ite_true rfl (ite_true (by rw [sEq_eq]; simp) (ite_true rfl ?_)))⟩
  refine call1_of (hH _ hs) fun e w ⟨he, hs⟩ => ⟨_, he, ite_true rfl ?_⟩
  refine call1_of (hD _ hs) fun e w ⟨he, hs⟩ => ⟨_, he, ite_true rfl ?_⟩
  refine (hU _ hs).mono fun e w ⟨he, hs⟩ => ⟨⟨none, 0, 0⟩, he, ite_true rfl ?_⟩
  refine call1_of (hE _ hs) fun e w ⟨he, hs⟩ => ⟨_, he, ite_true rfl ?_⟩
  refine (hK _ hs).mono fun e w ⟨he, hs⟩ => ⟨⟨none, 0, 0⟩, he, ite_true rfl ?_⟩
  refine call1_of (hL _ hs) fun e w ⟨he, hs⟩ => ⟨_, he, ite_true rfl ?_⟩
  exact call1_of (known21 hs) fun e w ⟨he, hs⟩ => ⟨_, he, rfl, hs⟩

/-! one value -/
theorem sLt_irrefl' {k : ByteArray} : sLt k k = false := by
  rw [sLt_eq, decide_eq_false_iff_not]
  exact List.lt_irrefl _
theorem rPut_one (k : ByteArray) (v u : ByteArray × Int) : rPut [(k, v)] k u = [(k, u)] := by
  have h1 : sLt k k = false := sLt_irrefl'
  unfold rPut
  have : atR [(k, v)] k = (0, true) := by rw [atR_cons, h1]; simp
  rw [this]; rfl
set_option maxHeartbeats 1000000 in
set_option maxRecDepth 100000 in
theorem tlives_walk {k v : ByteArray} {now life later : Int} (wl : okK .i64 later) : Calls Try.prog id_hoardlaw21_TableLives #[.string k, .string v, .int .i64 now, .int .i64 life, .int .i64 later] W fun e w' => e = .returned (.bool true) ∧ KeptH W w' := by
  have hs := Sat.begin W
  refine law_of (hoardlaw21_TableLives_calls ?_)
  rw [hoardlaw21_TableLives_def, hoardlaw21_TableLives_raw]
  have out : ∀ w, Sat W w [old W] → call1 .bool Try.prog id_hoardlaw21_known [] (fun (x : Bool) => fun w' => Value.bool x = Value.bool true ∧ Sat W w' [old W]) w := fun w hs => call1_of (known21 hs) fun e w ⟨he, hs⟩ => ⟨_, he, rfl, hs⟩
  refine call1_of (rkey_at hs) fun e w ⟨he, hs⟩ => ⟨_, he, ?_⟩
  refine ite_cases (fun h1 => out w hs) (fun h1 => ?_)
  have h1 : isKey k = true := by simpa using h1
  (first | with_reducible refine ite_ltI (fun h2 => ?_) (fun h2 => ?_) | with_reducible refine ite_leI (fun h2 => ?_) (fun h2 => ?_) | with_reducible refine ite_gtI (fun h2 => ?_) (fun h2 => ?_) | with_reducible refine ite_geI (fun h2 => ?_) (fun h2 => ?_) | with_reducible refine ite_eqI (fun h2 => ?_) (fun h2 => ?_) | with_reducible refine ite_neI (fun h2 => ?_) (fun h2 => ?_) | with_reducible refine ite_eqS (fun h2 => ?_) (fun h2 => ?_) | with_reducible refine ite_neS (fun h2 => ?_) (fun h2 => ?_) | with_reducible refine ite_dec (fun h2 => ?_) (fun h2 => ?_) | with_reducible refine ite_ndec (fun h2 => ?_) (fun h2 => ?_) | with_reducible refine ite_some (fun i_ h2 => ?_) (fun h2 => ?_) | with_reducible refine ite_nsome (fun h2 => ?_) (fun i_ h2 => ?_) | with_reducible refine ite_cases (fun h2 => ?_) (fun h2 => ?_))
  · exact out w hs
  (first | with_reducible refine ite_ltI (fun h3 => ?_) (fun h3 => ?_) | with_reducible refine ite_leI (fun h3 => ?_) (fun h3 => ?_) | with_reducible refine ite_gtI (fun h3 => ?_) (fun h3 => ?_) | with_reducible refine ite_geI (fun h3 => ?_) (fun h3 => ?_) | with_reducible refine ite_eqI (fun h3 => ?_) (fun h3 => ?_) | with_reducible refine ite_neI (fun h3 => ?_) (fun h3 => ?_) | with_reducible refine ite_eqS (fun h3 => ?_) (fun h3 => ?_) | with_reducible refine ite_neS (fun h3 => ?_) (fun h3 => ?_) | with_reducible refine ite_dec (fun h3 => ?_) (fun h3 => ?_) | with_reducible refine ite_ndec (fun h3 => ?_) (fun h3 => ?_) | with_reducible refine ite_some (fun i_ h3 => ?_) (fun h3 => ?_) | with_reducible refine ite_nsome (fun h3 => ?_) (fun i_ h3 => ?_) | with_reducible refine ite_cases (fun h3 => ?_) (fun h3 => ?_))
  · exact out w hs
  (first | with_reducible refine ite_ltI (fun h4 => ?_) (fun h4 => ?_) | with_reducible refine ite_leI (fun h4 => ?_) (fun h4 => ?_) | with_reducible refine ite_gtI (fun h4 => ?_) (fun h4 => ?_) | with_reducible refine ite_geI (fun h4 => ?_) (fun h4 => ?_) | with_reducible refine ite_eqI (fun h4 => ?_) (fun h4 => ?_) | with_reducible refine ite_neI (fun h4 => ?_) (fun h4 => ?_) | with_reducible refine ite_eqS (fun h4 => ?_) (fun h4 => ?_) | with_reducible refine ite_neS (fun h4 => ?_) (fun h4 => ?_) | with_reducible refine ite_dec (fun h4 => ?_) (fun h4 => ?_) | with_reducible refine ite_ndec (fun h4 => ?_) (fun h4 => ?_) | with_reducible refine ite_some (fun i_ h4 => ?_) (fun h4 => ?_) | with_reducible refine ite_nsome (fun h4 => ?_) (fun i_ h4 => ?_) | with_reducible refine ite_cases (fun h4 => ?_) (fun h4 => ?_))
  · exact out w hs
  (first | with_reducible refine ite_ltI (fun h5 => ?_) (fun h5 => ?_) | with_reducible refine ite_leI (fun h5 => ?_) (fun h5 => ?_) | with_reducible refine ite_gtI (fun h5 => ?_) (fun h5 => ?_) | with_reducible refine ite_geI (fun h5 => ?_) (fun h5 => ?_) | with_reducible refine ite_eqI (fun h5 => ?_) (fun h5 => ?_) | with_reducible refine ite_neI (fun h5 => ?_) (fun h5 => ?_) | with_reducible refine ite_eqS (fun h5 => ?_) (fun h5 => ?_) | with_reducible refine ite_neS (fun h5 => ?_) (fun h5 => ?_) | with_reducible refine ite_dec (fun h5 => ?_) (fun h5 => ?_) | with_reducible refine ite_ndec (fun h5 => ?_) (fun h5 => ?_) | with_reducible refine ite_some (fun i_ h5 => ?_) (fun h5 => ?_) | with_reducible refine ite_nsome (fun h5 => ?_) (fun i_ h5 => ?_) | with_reducible refine ite_cases (fun h5 => ?_) (fun h5 => ?_))
  · exact out w hs
  (first | with_reducible refine ite_ltI (fun h6 => ?_) (fun h6 => ?_) | with_reducible refine ite_leI (fun h6 => ?_) (fun h6 => ?_) | with_reducible refine ite_gtI (fun h6 => ?_) (fun h6 => ?_) | with_reducible refine ite_geI (fun h6 => ?_) (fun h6 => ?_) | with_reducible refine ite_eqI (fun h6 => ?_) (fun h6 => ?_) | with_reducible refine ite_neI (fun h6 => ?_) (fun h6 => ?_) | with_reducible refine ite_eqS (fun h6 => ?_) (fun h6 => ?_) | with_reducible refine ite_neS (fun h6 => ?_) (fun h6 => ?_) | with_reducible refine ite_dec (fun h6 => ?_) (fun h6 => ?_) | with_reducible refine ite_ndec (fun h6 => ?_) (fun h6 => ?_) | with_reducible refine ite_some (fun i_ h6 => ?_) (fun h6 => ?_) | with_reducible refine ite_nsome (fun h6 => ?_) (fun i_ h6 => ?_) | with_reducible refine ite_cases (fun h6 => ?_) (fun h6 => ?_))
  · exact out w hs
  (first | with_reducible refine ite_ltI (fun h7 => ?_) (fun h7 => ?_) | with_reducible refine ite_leI (fun h7 => ?_) (fun h7 => ?_) | with_reducible refine ite_gtI (fun h7 => ?_) (fun h7 => ?_) | with_reducible refine ite_geI (fun h7 => ?_) (fun h7 => ?_) | with_reducible refine ite_eqI (fun h7 => ?_) (fun h7 => ?_) | with_reducible refine ite_neI (fun h7 => ?_) (fun h7 => ?_) | with_reducible refine ite_eqS (fun h7 => ?_) (fun h7 => ?_) | with_reducible refine ite_neS (fun h7 => ?_) (fun h7 => ?_) | with_reducible refine ite_dec (fun h7 => ?_) (fun h7 => ?_) | with_reducible refine ite_ndec (fun h7 => ?_) (fun h7 => ?_) | with_reducible refine ite_some (fun i_ h7 => ?_) (fun h7 => ?_) | with_reducible refine ite_nsome (fun h7 => ?_) (fun i_ h7 => ?_) | with_reducible refine ite_cases (fun h7 => ?_) (fun h7 => ?_))
  · exact out w hs
  (first | with_reducible refine ite_ltI (fun h8 => ?_) (fun h8 => ?_) | with_reducible refine ite_leI (fun h8 => ?_) (fun h8 => ?_) | with_reducible refine ite_gtI (fun h8 => ?_) (fun h8 => ?_) | with_reducible refine ite_geI (fun h8 => ?_) (fun h8 => ?_) | with_reducible refine ite_eqI (fun h8 => ?_) (fun h8 => ?_) | with_reducible refine ite_neI (fun h8 => ?_) (fun h8 => ?_) | with_reducible refine ite_eqS (fun h8 => ?_) (fun h8 => ?_) | with_reducible refine ite_neS (fun h8 => ?_) (fun h8 => ?_) | with_reducible refine ite_dec (fun h8 => ?_) (fun h8 => ?_) | with_reducible refine ite_ndec (fun h8 => ?_) (fun h8 => ?_) | with_reducible refine ite_some (fun i_ h8 => ?_) (fun h8 => ?_) | with_reducible refine ite_nsome (fun h8 => ?_) (fun i_ h8 => ?_) | with_reducible refine ite_cases (fun h8 => ?_) (fun h8 => ?_))
  · exact out w hs
  have hkz := isKey_size h1
  have e1 : tErr k v now life = 0 := by
    unfold tErr
    rw [if_neg (by rw [h1]; simp), if_neg (by omega), if_neg (by omega)]
  have e2 : tPut [] k v now life = [(k, (v, tEnd now life))] := by unfold tPut; rw [if_pos e1]; rfl
  have e3 : tFresh [] k v now life = true := by unfold tFresh; rw [e1]; rfl
  rw [hoardlaw21_TableLives_j1_def, hoardlaw21_TableLives_j1_raw]
  refine (tab_New hs).mono fun e w ⟨b, he, hs⟩ => ⟨_, he, ite_false rfl ?_⟩
  refine call2_of (tab_Put hs (by simp)) fun e w ⟨he, hs⟩ => ⟨_, _, he, ?_⟩
  rw [e2] at hs
  rw [e1, e3, i64_in _ (by omega)]
  refine call2_of (tab_Get hs (by omega)) fun e w ⟨he, hs⟩ => ⟨_, _, he, ?_⟩
  have hg : ∀ n : Int, mGet [(k, (v, n))] k = some (v, n) := fun n => by simp [mGet]
  have hov : tOver (tEnd now life) (now + later) = !(decide (life = 0) || decide (later < life)) := by
    unfold tOver tEnd
    rw [Bool.eq_iff_iff]
    simp only [decide_eq_true_eq, Bool.not_eq_true', Bool.or_eq_false_iff, decide_eq_false_iff_not]
    split <;> omega
  have e5 : tGet [(k, (v, tEnd now life))] k (now + later) = if (decide (life = 0) || decide (later < life)) then (v, true) else (⟨#[]⟩, false) := by
    unfold tGet
    rw [hg]
    simp only [hov]
    cases (decide (life = 0) || decide (later < life)) <;> rfl
  have e6 : tDue [(k, (v, tEnd now life))] (now + later) = if (decide (life = 0) || decide (later < life)) then [] else [k] := by
    unfold tDue
    rw [List.filter_cons, hov]
    cases (decide (life = 0) || decide (later < life)) <;> rfl
  rw [e5]
  have j2 : ∀ (want : Bool) w, want = (decide (life = 0) || decide (later < life)) → Sat W w [tabR b [(k, (v, tEnd now life))], old W] → hoardlaw21_TableLives_j2 idJ (fun v w' => v = .bool true ∧ Sat W w' [old W]) k v now later (some ⟨b, 0, none⟩) true 0
      (if (decide (life = 0) || decide (later < life)) then (v, true) else ((⟨#[]⟩ : ByteArray), false)).1 (if (decide (life = 0) || decide (later < life)) then (v, true) else ((⟨#[]⟩ : ByteArray), false)).2 want w := by
    intro want w hw hs
    rw [hoardlaw21_TableLives_j2_def, hoardlaw21_TableLives_j2_raw]
    rw [i64_in _ (by omega)]
    refine (tab_Due hs (by simp)).mono fun e w ⟨l, he, hs⟩ => ⟨_, he, ?_⟩
    have hn := rdb_len (s := l) hs
    rw [e6] at hn
    have has : ∀ (w : World), Sat W w [tabR b [(k, (v, tEnd now life))], old W] → call1 .bool Try.prog id_table_Table_Has [.pointer (some ⟨b, 0, none⟩), .string k] (fun (x_16 : Bool) => ite2 x_16 (call1 .bool Try.prog id_hoardlaw21_known [] fun (x_17 : Bool) => (fun w' => Value.bool x_17 = Value.bool true ∧ Sat W w' [old W])) (fun w' => Value.bool false = Value.bool true ∧ Sat W w' [old W])) w := by
      intro w hs
      refine call1_of (tab_Has hs (by omega)) fun e w ⟨he, hs⟩ => ⟨_, he, ite_true (by rw [hg]; rfl) ?_⟩
      exact out w (by exact Sat.fin hs)
    rw [← hw] at hn ⊢
    refine ite_true rfl (ite_true rfl ?_)
    cases want with
    | true =>
      simp only [if_true] at hn ⊢
      refine ite_true rfl (ite_false rfl (ite_true (by rw [sEq_eq]; simp) (ite_true rfl (ite_true (by rw [hn]; rfl) ?_))))
      exact has w (by exact Sat.fin hs)
    | false =>
      simp only [Bool.false_eq_true, if_false] at hn ⊢
      refine ite_true rfl (ite_true rfl (ite_false rfl (ite_true (by rw [sEq_eq]; exact decide_eq_true rfl) (ite_true (by rw [hn]; rfl) ?_))))
      exact has w (by exact Sat.fin hs)
  (first | with_reducible refine ite_ltI (fun h9 => ?_) (fun h9 => ?_) | with_reducible refine ite_leI (fun h9 => ?_) (fun h9 => ?_) | with_reducible refine ite_gtI (fun h9 => ?_) (fun h9 => ?_) | with_reducible refine ite_geI (fun h9 => ?_) (fun h9 => ?_) | with_reducible refine ite_eqI (fun h9 => ?_) (fun h9 => ?_) | with_reducible refine ite_neI (fun h9 => ?_) (fun h9 => ?_) | with_reducible refine ite_eqS (fun h9 => ?_) (fun h9 => ?_) | with_reducible refine ite_neS (fun h9 => ?_) (fun h9 => ?_) | with_reducible refine ite_dec (fun h9 => ?_) (fun h9 => ?_) | with_reducible refine ite_ndec (fun h9 => ?_) (fun h9 => ?_) | with_reducible refine ite_some (fun i_ h9 => ?_) (fun h9 => ?_) | with_reducible refine ite_nsome (fun h9 => ?_) (fun i_ h9 => ?_) | with_reducible refine ite_cases (fun h9 => ?_) (fun h9 => ?_))
  · exact j2 true w (by rw [h9]; rfl) hs
  · exact j2 _ w (by rw [decide_eq_false h9]; rfl) hs
set_option maxHeartbeats 1000000 in
set_option maxRecDepth 100000 in
theorem tlast_walk {k : ByteArray} {now : Int} {s0 : Sl} {l : List ByteArray} [hr : ReadsR W s0 Rec.str l] : Calls Try.prog id_hoardlaw21_TableLast #[.string k, .slice s0.a s0.n s0.c, .int .i64 now] W fun e w' => e = .returned (.bool true) ∧ KeptH W w' := by
  have hs := Sat.begin W
  refine law_of (hoardlaw21_TableLast_calls ?_)
  rw [hoardlaw21_TableLast_def, hoardlaw21_TableLast_raw]
  have hn := rdb_len (s := s0) hs
  have out : ∀ w, Sat W w [old W] → call1 .bool Try.prog id_hoardlaw21_known [] (fun (x : Bool) => fun w' => Value.bool x = Value.bool true ∧ Sat W w' [old W]) w := fun w hs => call1_of (known21 hs) fun e w ⟨he, hs⟩ => ⟨_, he, rfl, hs⟩
  refine call1_of (rkey_at hs) fun e w ⟨he, hs⟩ => ⟨_, he, ?_⟩
  refine ite_cases (fun h1 => out w hs) (fun h1 => ?_)
  have h1 : isKey k = true := by simpa using h1
  (first | with_reducible refine ite_ltI (fun h2 => ?_) (fun h2 => ?_) | with_reducible refine ite_leI (fun h2 => ?_) (fun h2 => ?_) | with_reducible refine ite_gtI (fun h2 => ?_) (fun h2 => ?_) | with_reducible refine ite_geI (fun h2 => ?_) (fun h2 => ?_) | with_reducible refine ite_eqI (fun h2 => ?_) (fun h2 => ?_) | with_reducible refine ite_neI (fun h2 => ?_) (fun h2 => ?_) | with_reducible refine ite_eqS (fun h2 => ?_) (fun h2 => ?_) | with_reducible refine ite_neS (fun h2 => ?_) (fun h2 => ?_) | with_reducible refine ite_dec (fun h2 => ?_) (fun h2 => ?_) | with_reducible refine ite_ndec (fun h2 => ?_) (fun h2 => ?_) | with_reducible refine ite_some (fun i_ h2 => ?_) (fun h2 => ?_) | with_reducible refine ite_nsome (fun h2 => ?_) (fun i_ h2 => ?_) | with_reducible refine ite_cases (fun h2 => ?_) (fun h2 => ?_))
  · exact out w hs
  (first | with_reducible refine ite_ltI (fun h3 => ?_) (fun h3 => ?_) | with_reducible refine ite_leI (fun h3 => ?_) (fun h3 => ?_) | with_reducible refine ite_gtI (fun h3 => ?_) (fun h3 => ?_) | with_reducible refine ite_geI (fun h3 => ?_) (fun h3 => ?_) | with_reducible refine ite_eqI (fun h3 => ?_) (fun h3 => ?_) | with_reducible refine ite_neI (fun h3 => ?_) (fun h3 => ?_) | with_reducible refine ite_eqS (fun h3 => ?_) (fun h3 => ?_) | with_reducible refine ite_neS (fun h3 => ?_) (fun h3 => ?_) | with_reducible refine ite_dec (fun h3 => ?_) (fun h3 => ?_) | with_reducible refine ite_ndec (fun h3 => ?_) (fun h3 => ?_) | with_reducible refine ite_some (fun i_ h3 => ?_) (fun h3 => ?_) | with_reducible refine ite_nsome (fun h3 => ?_) (fun i_ h3 => ?_) | with_reducible refine ite_cases (fun h3 => ?_) (fun h3 => ?_))
  · exact out w hs
  (first | with_reducible refine ite_ltI (fun h4 => ?_) (fun h4 => ?_) | with_reducible refine ite_leI (fun h4 => ?_) (fun h4 => ?_) | with_reducible refine ite_gtI (fun h4 => ?_) (fun h4 => ?_) | with_reducible refine ite_geI (fun h4 => ?_) (fun h4 => ?_) | with_reducible refine ite_eqI (fun h4 => ?_) (fun h4 => ?_) | with_reducible refine ite_neI (fun h4 => ?_) (fun h4 => ?_) | with_reducible refine ite_eqS (fun h4 => ?_) (fun h4 => ?_) | with_reducible refine ite_neS (fun h4 => ?_) (fun h4 => ?_) | with_reducible refine ite_dec (fun h4 => ?_) (fun h4 => ?_) | with_reducible refine ite_ndec (fun h4 => ?_) (fun h4 => ?_) | with_reducible refine ite_some (fun i_ h4 => ?_) (fun h4 => ?_) | with_reducible refine ite_nsome (fun h4 => ?_) (fun i_ h4 => ?_) | with_reducible refine ite_cases (fun h4 => ?_) (fun h4 => ?_))
  · exact out w hs
  (first | with_reducible refine ite_ltI (fun h5 => ?_) (fun h5 => ?_) | with_reducible refine ite_leI (fun h5 => ?_) (fun h5 => ?_) | with_reducible refine ite_gtI (fun h5 => ?_) (fun h5 => ?_) | with_reducible refine ite_geI (fun h5 => ?_) (fun h5 => ?_) | with_reducible refine ite_eqI (fun h5 => ?_) (fun h5 => ?_) | with_reducible refine ite_neI (fun h5 => ?_) (fun h5 => ?_) | with_reducible refine ite_eqS (fun h5 => ?_) (fun h5 => ?_) | with_reducible refine ite_neS (fun h5 => ?_) (fun h5 => ?_) | with_reducible refine ite_dec (fun h5 => ?_) (fun h5 => ?_) | with_reducible refine ite_ndec (fun h5 => ?_) (fun h5 => ?_) | with_reducible refine ite_some (fun i_ h5 => ?_) (fun h5 => ?_) | with_reducible refine ite_nsome (fun h5 => ?_) (fun i_ h5 => ?_) | with_reducible refine ite_cases (fun h5 => ?_) (fun h5 => ?_))
  · exact out w hs
  have hkz := isKey_size h1
  rw [hoardlaw21_TableLast_j1_def, hoardlaw21_TableLast_j1_raw]
  refine (tab_New hs).mono fun e w ⟨b, he, hs⟩ => ⟨_, he, ite_false rfl ?_⟩
  have hg : ∀ u : ByteArray × Int, mGet [(k, u)] k = some u := fun u => by simp [mGet]
  have loop : ∀ (f i : Nat) (w : World) (r : TT), i + f = l.length → (i = 0 → r = []) → (0 < i → r = [(k, (l.getD (i - 1) default, now + i))]) → Sat W w [tabR b r, old W] →
      hoardlaw21_TableLast_l2 idJ (fun v w' => v = .bool true ∧ Sat W w' [old W]) (f + 1) k s0 now (some ⟨b, 0, none⟩) (i : Int) w := by
    intro f
    induction f with
    | zero =>
      intro i w r hi hr0 hr1 hs
      rw [hoardlaw21_TableLast_l2_raw]
      refine ite_false (decide_eq_false (by omega)) ?_
      rw [hoardlaw21_TableLast_j3_def, hoardlaw21_TableLast_j3_raw]
      have hrr := hr1 (by omega)
      subst hrr
      have e5 : tGet [(k, (l.getD (i - 1) default, now + i))] k now = (l.getD (i - 1) default, true) := by
        unfold tGet
        rw [hg]
        have : tOver (now + i) now = false := by unfold tOver; rw [decide_eq_false_iff_not]; omega
        simp [this]
      refine call2_of (tab_Get hs (by omega)) fun e w ⟨he, hs⟩ => ⟨_, _, he, ?_⟩
      rw [e5]
      refine ite_true rfl ?_
      have hi1 : IntKind.wrap .i64 ((s0.n : Int) - 1) = ((i - 1 : Nat) : Int) := by rw [i64_in _ (by omega)]; omega
      rw [hi1]
      repeat (first | with_reducible refine nilck_some ?_ | ((with_reducible refine atLd ?_); first | refine ld_b hs ?_ | refine ld_b (x := ⟨_, _, _⟩) hs ?_ | refine ld_r0 hs ?_ | refine ld_r1 hs ?_ | refine ld_r2 hs ?_ | refine ld_r3 hs ?_ | refine ld_r4 hs ?_ | refine ld_rd0 ha_ hs ?_ | refine ld_rd1 ha_ hs ?_ | refine ld_rd2 ha_ hs ?_ | refine ld_rd3 ha_ hs ?_ | refine ld_rd4 ha_ hs ?_ | refine ld_rd5 ha_ hs ?_ | fail) | ((with_reducible refine isSt ?_); first | refine st_b hs fun w hs => ?_ | refine st_rec5 hs fun w hs => ?_ | refine st_rec4 hs fun w hs => ?_ | refine st_rec3 hs fun w hs => ?_ | refine st_rec2 hs fun w hs => ?_ | refine st_r0 hs fun w hs => ?_ | refine st_r1 hs fun w hs => ?_ | fail) | ((with_reducible refine isIdx ?_); first | refine idx_s hs fun b_ o_ hs => ?_ | refine idx_a hs ?_ | refine idx_rd hs fun b_ o_ ha_ => ?_ | fail) | ((with_reducible refine isNew ?_); first | refine newB_at hs fun b_ w hs => ?_ | fail) | ((with_reducible refine isLdS ?_); first | refine ldS_b ?_ | refine ldS_b (x := ⟨_, _, _⟩) ?_ | refine ldS_r0 ?_ | refine ldS_r1 ?_ | refine ldS_r2 ?_ | refine ldS_r3 ?_ | refine ldS_rs0 hs ?_ | refine ldS_rs1 hs ?_ | refine ldS_rs2 hs ?_ | refine ldS_rs3 hs ?_ | refine ldS_rd0 ha_ ?_ | refine ldS_rd1 ha_ ?_ | refine ldS_rd2 ha_ ?_ | refine ldS_rd3 ha_ ?_ | refine ldS_rd4 ha_ ?_ | refine ldS_rd5 ha_ ?_ | fail) | ((with_reducible refine isKeep ?_); first | refine keep_of hs ?_ | refine keep_imp hs ?_ | fail) | ((with_reducible refine isWhen ?_); first | refine when_om ?_ | fail) | ((with_reducible refine isDraw ?_); first | refine drawW_sat hs fun w hs => ?_ | fail))
      rw [Int.toNat_natCast]
      refine ite_true (by rw [sEq_eq]; simp) ?_
      refine call1_of (tab_End hs (by omega)) fun e w ⟨he, hs⟩ => ⟨_, he, ?_⟩
      refine ite_true ?_ ?_
      · unfold tEndOf
        rw [hg, i64_in _ (by omega), hn, show l.length = i by omega]; simp
      refine call1_of (tab_Len hs) fun e w ⟨he, hs⟩ => ⟨_, he, ite_true rfl ?_⟩
      exact out w (by exact Sat.fin hs)
    | succ f ih =>
      intro i w r hi hr0 hr1 hs
      rw [hoardlaw21_TableLast_l2_raw]
      refine ite_true (decide_eq_true (by omega)) ?_
      repeat (first | with_reducible refine nilck_some ?_ | ((with_reducible refine atLd ?_); first | refine ld_b hs ?_ | refine ld_b (x := ⟨_, _, _⟩) hs ?_ | refine ld_r0 hs ?_ | refine ld_r1 hs ?_ | refine ld_r2 hs ?_ | refine ld_r3 hs ?_ | refine ld_r4 hs ?_ | refine ld_rd0 ha_ hs ?_ | refine ld_rd1 ha_ hs ?_ | refine ld_rd2 ha_ hs ?_ | refine ld_rd3 ha_ hs ?_ | refine ld_rd4 ha_ hs ?_ | refine ld_rd5 ha_ hs ?_ | fail) | ((with_reducible refine isSt ?_); first | refine st_b hs fun w hs => ?_ | refine st_rec5 hs fun w hs => ?_ | refine st_rec4 hs fun w hs => ?_ | refine st_rec3 hs fun w hs => ?_ | refine st_rec2 hs fun w hs => ?_ | refine st_r0 hs fun w hs => ?_ | refine st_r1 hs fun w hs => ?_ | fail) | ((with_reducible refine isIdx ?_); first | refine idx_s hs fun b_ o_ hs => ?_ | refine idx_a hs ?_ | refine idx_rd hs fun b_ o_ ha_ => ?_ | fail) | ((with_reducible refine isNew ?_); first | refine newB_at hs fun b_ w hs => ?_ | fail) | ((with_reducible refine isLdS ?_); first | refine ldS_b ?_ | refine ldS_b (x := ⟨_, _, _⟩) ?_ | refine ldS_r0 ?_ | refine ldS_r1 ?_ | refine ldS_r2 ?_ | refine ldS_r3 ?_ | refine ldS_rs0 hs ?_ | refine ldS_rs1 hs ?_ | refine ldS_rs2 hs ?_ | refine ldS_rs3 hs ?_ | refine ldS_rd0 ha_ ?_ | refine ldS_rd1 ha_ ?_ | refine ldS_rd2 ha_ ?_ | refine ldS_rd3 ha_ ?_ | refine ldS_rd4 ha_ ?_ | refine ldS_rd5 ha_ ?_ | fail) | ((with_reducible refine isKeep ?_); first | refine keep_of hs ?_ | refine keep_imp hs ?_ | fail) | ((with_reducible refine isWhen ?_); first | refine when_om ?_ | fail) | ((with_reducible refine isDraw ?_); first | refine drawW_sat hs fun w hs => ?_ | fail))
      rw [Int.toNat_natCast]
      (first | with_reducible refine ite_ltI (fun h6 => ?_) (fun h6 => ?_) | with_reducible refine ite_leI (fun h6 => ?_) (fun h6 => ?_) | with_reducible refine ite_gtI (fun h6 => ?_) (fun h6 => ?_) | with_reducible refine ite_geI (fun h6 => ?_) (fun h6 => ?_) | with_reducible refine ite_eqI (fun h6 => ?_) (fun h6 => ?_) | with_reducible refine ite_neI (fun h6 => ?_) (fun h6 => ?_) | with_reducible refine ite_eqS (fun h6 => ?_) (fun h6 => ?_) | with_reducible refine ite_neS (fun h6 => ?_) (fun h6 => ?_) | with_reducible refine ite_dec (fun h6 => ?_) (fun h6 => ?_) | with_reducible refine ite_ndec (fun h6 => ?_) (fun h6 => ?_) | with_reducible refine ite_some (fun i_ h6 => ?_) (fun h6 => ?_) | with_reducible refine ite_nsome (fun h6 => ?_) (fun i_ h6 => ?_) | with_reducible refine ite_cases (fun h6 => ?_) (fun h6 => ?_))
      · exact out w (by exact Sat.fin hs)
      repeat (first | with_reducible refine nilck_some ?_ | ((with_reducible refine atLd ?_); first | refine ld_b hs ?_ | refine ld_b (x := ⟨_, _, _⟩) hs ?_ | refine ld_r0 hs ?_ | refine ld_r1 hs ?_ | refine ld_r2 hs ?_ | refine ld_r3 hs ?_ | refine ld_r4 hs ?_ | refine ld_rd0 ha_ hs ?_ | refine ld_rd1 ha_ hs ?_ | refine ld_rd2 ha_ hs ?_ | refine ld_rd3 ha_ hs ?_ | refine ld_rd4 ha_ hs ?_ | refine ld_rd5 ha_ hs ?_ | fail) | ((with_reducible refine isSt ?_); first | refine st_b hs fun w hs => ?_ | refine st_rec5 hs fun w hs => ?_ | refine st_rec4 hs fun w hs => ?_ | refine st_rec3 hs fun w hs => ?_ | refine st_rec2 hs fun w hs => ?_ | refine st_r0 hs fun w hs => ?_ | refine st_r1 hs fun w hs => ?_ | fail) | ((with_reducible refine isIdx ?_); first | refine idx_s hs fun b_ o_ hs => ?_ | refine idx_a hs ?_ | refine idx_rd hs fun b_ o_ ha_ => ?_ | fail) | ((with_reducible refine isNew ?_); first | refine newB_at hs fun b_ w hs => ?_ | fail) | ((with_reducible refine isLdS ?_); first | refine ldS_b ?_ | refine ldS_b (x := ⟨_, _, _⟩) ?_ | refine ldS_r0 ?_ | refine ldS_r1 ?_ | refine ldS_r2 ?_ | refine ldS_r3 ?_ | refine ldS_rs0 hs ?_ | refine ldS_rs1 hs ?_ | refine ldS_rs2 hs ?_ | refine ldS_rs3 hs ?_ | refine ldS_rd0 ha_ ?_ | refine ldS_rd1 ha_ ?_ | refine ldS_rd2 ha_ ?_ | refine ldS_rd3 ha_ ?_ | refine ldS_rd4 ha_ ?_ | refine ldS_rd5 ha_ ?_ | fail) | ((with_reducible refine isKeep ?_); first | refine keep_of hs ?_ | refine keep_imp hs ?_ | fail) | ((with_reducible refine isWhen ?_); first | refine when_om ?_ | fail) | ((with_reducible refine isDraw ?_); first | refine drawW_sat hs fun w hs => ?_ | fail))
      rw [i64_in ((i : Int) + 1) (by omega)]
      have e1 : tErr k (l.getD i default) now ((i : Int) + 1) = 0 := by
        unfold tErr
        rw [if_neg (by rw [h1]; simp), if_neg (by omega), if_neg (by omega)]
      have hend : tEnd now ((i : Int) + 1) = now + ((i + 1 : Nat) : Int) := by unfold tEnd; rw [if_pos (by omega)]; omega
      have hrl : r.length ≤ 1 := by
        by_cases h0 : i = 0
        · rw [hr0 h0]; simp
        · rw [hr1 (by omega)]; simp
      refine call2_of (tab_Put hs (by omega)) fun e w ⟨he, hs⟩ => ⟨_, _, he, ?_⟩
      have e2 : tPut r k (l.getD i default) now ((i : Int) + 1) = [(k, (l.getD i default, now + ((i + 1 : Nat) : Int)))] := by
        unfold tPut
        rw [if_pos e1, hend]
        by_cases h0 : i = 0
        · rw [hr0 h0]; rfl
        · rw [hr1 (by omega)]; exact rPut_one _ _ _
      have e3 : tFresh r k (l.getD i default) now ((i : Int) + 1) = ((i : Int) == 0) := by
        unfold tFresh
        rw [e1]
        by_cases h0 : i = 0
        · rw [hr0 h0, h0]; rfl
        · rw [hr1 (by omega), hg]
          symm
          simp [h0]
      rw [e1, e3]
      refine ite_false rfl (ite_false (by simp) ?_)
      rw [e2] at hs
      exact ih (i + 1) w _ (by omega) (fun h => by omega) (fun _ => by simp) hs
  exact ⟨l.length + 1, loop l.length 0 w [] (by omega) (fun _ => rfl) (fun h => by omega) hs⟩

/-! scripts -/
set_option maxRecDepth 100000 in
theorem act21_at {b b2 : Nat} {r : TT} {a : Act21} (hi : TOk r) (hrl : r.length < 700000000) (hz : a.key.size < 4611686018427387904) (hs : Sat W w [tabR b r, rtR b2 r, old W]) :
    Calls Try.prog id_hoardlaw21_act #[.pointer (some ⟨b, 0, none⟩), .pointer (some ⟨b2, 0, none⟩), .agg #[.int .i64 a.kind, .int .i64 a.now, .int .i64 a.life, .string a.key, .string a.val]] w fun e w' =>
      e = .returned (.bool true) ∧ ∃ r', TOk r' ∧ r'.length ≤ r.length + 1 ∧ Sat W w' [tabR b r', rtR b2 r', old W] := by
  refine c1 (hoardlaw21_act_calls ?_)
  rw [hoardlaw21_act_def, hoardlaw21_act_raw]
  repeat (first | with_reducible refine nilck_some ?_ | ((with_reducible refine atLd ?_); first | refine ld_b hs ?_ | refine ld_b (x := ⟨_, _, _⟩) hs ?_ | refine ld_r0 hs ?_ | refine ld_r1 hs ?_ | refine ld_r2 hs ?_ | refine ld_r3 hs ?_ | refine ld_r4 hs ?_ | refine ld_rd0 ha_ hs ?_ | refine ld_rd1 ha_ hs ?_ | refine ld_rd2 ha_ hs ?_ | refine ld_rd3 ha_ hs ?_ | refine ld_rd4 ha_ hs ?_ | refine ld_rd5 ha_ hs ?_ | fail) | ((with_reducible refine isSt ?_); first | refine st_b hs fun w hs => ?_ | refine st_rec5 hs fun w hs => ?_ | refine st_rec4 hs fun w hs => ?_ | refine st_rec3 hs fun w hs => ?_ | refine st_rec2 hs fun w hs => ?_ | refine st_r0 hs fun w hs => ?_ | refine st_r1 hs fun w hs => ?_ | fail) | ((with_reducible refine isIdx ?_); first | refine idx_s hs fun b_ o_ hs => ?_ | refine idx_a hs ?_ | refine idx_rd hs fun b_ o_ ha_ => ?_ | fail) | ((with_reducible refine isNew ?_); first | refine newB_at hs fun b_ w hs => ?_ | fail) | ((with_reducible refine isLdS ?_); first | refine ldS_b ?_ | refine ldS_b (x := ⟨_, _, _⟩) ?_ | refine ldS_r0 ?_ | refine ldS_r1 ?_ | refine ldS_r2 ?_ | refine ldS_r3 ?_ | refine ldS_rs0 hs ?_ | refine ldS_rs1 hs ?_ | refine ldS_rs2 hs ?_ | refine ldS_rs3 hs ?_ | refine ldS_rd0 ha_ ?_ | refine ldS_rd1 ha_ ?_ | refine ldS_rd2 ha_ ?_ | refine ldS_rd3 ha_ ?_ | refine ldS_rd4 ha_ ?_ | refine ldS_rd5 ha_ ?_ | fail) | ((with_reducible refine isKeep ?_); first | refine keep_of hs ?_ | refine keep_imp hs ?_ | fail) | ((with_reducible refine isWhen ?_); first | refine when_om ?_ | fail) | ((with_reducible refine isDraw ?_); first | refine drawW_sat hs fun w hs => ?_ | fail))
  (first | with_reducible refine ite_ltI (fun h1 => ?_) (fun h1 => ?_) | with_reducible refine ite_leI (fun h1 => ?_) (fun h1 => ?_) | with_reducible refine ite_gtI (fun h1 => ?_) (fun h1 => ?_) | with_reducible refine ite_geI (fun h1 => ?_) (fun h1 => ?_) | with_reducible refine ite_eqI (fun h1 => ?_) (fun h1 => ?_) | with_reducible refine ite_neI (fun h1 => ?_) (fun h1 => ?_) | with_reducible refine ite_eqS (fun h1 => ?_) (fun h1 => ?_) | with_reducible refine ite_neS (fun h1 => ?_) (fun h1 => ?_) | with_reducible refine ite_dec (fun h1 => ?_) (fun h1 => ?_) | with_reducible refine ite_ndec (fun h1 => ?_) (fun h1 => ?_) | with_reducible refine ite_some (fun i_ h1 => ?_) (fun h1 => ?_) | with_reducible refine ite_nsome (fun h1 => ?_) (fun i_ h1 => ?_) | with_reducible refine ite_cases (fun h1 => ?_) (fun h1 => ?_))
  · repeat (first | with_reducible refine nilck_some ?_ | ((with_reducible refine atLd ?_); first | refine ld_b hs ?_ | refine ld_b (x := ⟨_, _, _⟩) hs ?_ | refine ld_r0 hs ?_ | refine ld_r1 hs ?_ | refine ld_r2 hs ?_ | refine ld_r3 hs ?_ | refine ld_r4 hs ?_ | refine ld_rd0 ha_ hs ?_ | refine ld_rd1 ha_ hs ?_ | refine ld_rd2 ha_ hs ?_ | refine ld_rd3 ha_ hs ?_ | refine ld_rd4 ha_ hs ?_ | refine ld_rd5 ha_ hs ?_ | fail) | ((with_reducible refine isSt ?_); first | refine st_b hs fun w hs => ?_ | refine st_rec5 hs fun w hs => ?_ | refine st_rec4 hs fun w hs => ?_ | refine st_rec3 hs fun w hs => ?_ | refine st_rec2 hs fun w hs => ?_ | refine st_r0 hs fun w hs => ?_ | refine st_r1 hs fun w hs => ?_ | fail) | ((with_reducible refine isIdx ?_); first | refine idx_s hs fun b_ o_ hs => ?_ | refine idx_a hs ?_ | refine idx_rd hs fun b_ o_ ha_ => ?_ | fail) | ((with_reducible refine isNew ?_); first | refine newB_at hs fun b_ w hs => ?_ | fail) | ((with_reducible refine isLdS ?_); first | refine ldS_b ?_ | refine ldS_b (x := ⟨_, _, _⟩) ?_ | refine ldS_r0 ?_ | refine ldS_r1 ?_ | refine ldS_r2 ?_ | refine ldS_r3 ?_ | refine ldS_rs0 hs ?_ | refine ldS_rs1 hs ?_ | refine ldS_rs2 hs ?_ | refine ldS_rs3 hs ?_ | refine ldS_rd0 ha_ ?_ | refine ldS_rd1 ha_ ?_ | refine ldS_rd2 ha_ ?_ | refine ldS_rd3 ha_ ?_ | refine ldS_rd4 ha_ ?_ | refine ldS_rd5 ha_ ?_ | fail) | ((with_reducible refine isKeep ?_); first | refine keep_of hs ?_ | refine keep_imp hs ?_ | fail) | ((with_reducible refine isWhen ?_); first | refine when_om ?_ | fail) | ((with_reducible refine isDraw ?_); first | refine drawW_sat hs fun w hs => ?_ | fail))
    refine call2_of (tab_Put hs (by omega)) fun e w ⟨he, hs⟩ => ⟨_, _, he, ?_⟩
    repeat (first | with_reducible refine nilck_some ?_ | ((with_reducible refine atLd ?_); first | refine ld_b hs ?_ | refine ld_b (x := ⟨_, _, _⟩) hs ?_ | refine ld_r0 hs ?_ | refine ld_r1 hs ?_ | refine ld_r2 hs ?_ | refine ld_r3 hs ?_ | refine ld_r4 hs ?_ | refine ld_rd0 ha_ hs ?_ | refine ld_rd1 ha_ hs ?_ | refine ld_rd2 ha_ hs ?_ | refine ld_rd3 ha_ hs ?_ | refine ld_rd4 ha_ hs ?_ | refine ld_rd5 ha_ hs ?_ | fail) | ((with_reducible refine isSt ?_); first | refine st_b hs fun w hs => ?_ | refine st_rec5 hs fun w hs => ?_ | refine st_rec4 hs fun w hs => ?_ | refine st_rec3 hs fun w hs => ?_ | refine st_rec2 hs fun w hs => ?_ | refine st_r0 hs fun w hs => ?_ | refine st_r1 hs fun w hs => ?_ | fail) | ((with_reducible refine isIdx ?_); first | refine idx_s hs fun b_ o_ hs => ?_ | refine idx_a hs ?_ | refine idx_rd hs fun b_ o_ ha_ => ?_ | fail) | ((with_reducible refine isNew ?_); first | refine newB_at hs fun b_ w hs => ?_ | fail) | ((with_reducible refine isLdS ?_); first | refine ldS_b ?_ | refine ldS_b (x := ⟨_, _, _⟩) ?_ | refine ldS_r0 ?_ | refine ldS_r1 ?_ | refine ldS_r2 ?_ | refine ldS_r3 ?_ | refine ldS_rs0 hs ?_ | refine ldS_rs1 hs ?_ | refine ldS_rs2 hs ?_ | refine ldS_rs3 hs ?_ | refine ldS_rd0 ha_ ?_ | refine ldS_rd1 ha_ ?_ | refine ldS_rd2 ha_ ?_ | refine ldS_rd3 ha_ ?_ | refine ldS_rd4 ha_ ?_ | refine ldS_rd5 ha_ ?_ | fail) | ((with_reducible refine isKeep ?_); first | refine keep_of hs ?_ | refine keep_imp hs ?_ | fail) | ((with_reducible refine isWhen ?_); first | refine when_om ?_ | fail) | ((with_reducible refine isDraw ?_); first | refine drawW_sat hs fun w hs => ?_ | fail))
    refine call2_of (r21_Put hs hi.rise (by omega)) fun e w ⟨he, hs⟩ => ⟨_, _, he, ?_⟩
    refine ite_true (by simp) ?_
    exact ⟨by simp, _, hi.put _ _ _ _, tPut_len hi _ _ _ _, by exact Sat.fin hs⟩
  (first | with_reducible refine ite_ltI (fun h2 => ?_) (fun h2 => ?_) | with_reducible refine ite_leI (fun h2 => ?_) (fun h2 => ?_) | with_reducible refine ite_gtI (fun h2 => ?_) (fun h2 => ?_) | with_reducible refine ite_geI (fun h2 => ?_) (fun h2 => ?_) | with_reducible refine ite_eqI (fun h2 => ?_) (fun h2 => ?_) | with_reducible refine ite_neI (fun h2 => ?_) (fun h2 => ?_) | with_reducible refine ite_eqS (fun h2 => ?_) (fun h2 => ?_) | with_reducible refine ite_neS (fun h2 => ?_) (fun h2 => ?_) | with_reducible refine ite_dec (fun h2 => ?_) (fun h2 => ?_) | with_reducible refine ite_ndec (fun h2 => ?_) (fun h2 => ?_) | with_reducible refine ite_some (fun i_ h2 => ?_) (fun h2 => ?_) | with_reducible refine ite_nsome (fun h2 => ?_) (fun i_ h2 => ?_) | with_reducible refine ite_cases (fun h2 => ?_) (fun h2 => ?_))
  · repeat (first | with_reducible refine nilck_some ?_ | ((with_reducible refine atLd ?_); first | refine ld_b hs ?_ | refine ld_b (x := ⟨_, _, _⟩) hs ?_ | refine ld_r0 hs ?_ | refine ld_r1 hs ?_ | refine ld_r2 hs ?_ | refine ld_r3 hs ?_ | refine ld_r4 hs ?_ | refine ld_rd0 ha_ hs ?_ | refine ld_rd1 ha_ hs ?_ | refine ld_rd2 ha_ hs ?_ | refine ld_rd3 ha_ hs ?_ | refine ld_rd4 ha_ hs ?_ | refine ld_rd5 ha_ hs ?_ | fail) | ((with_reducible refine isSt ?_); first | refine st_b hs fun w hs => ?_ | refine st_rec5 hs fun w hs => ?_ | refine st_rec4 hs fun w hs => ?_ | refine st_rec3 hs fun w hs => ?_ | refine st_rec2 hs fun w hs => ?_ | refine st_r0 hs fun w hs => ?_ | refine st_r1 hs fun w hs => ?_ | fail) | ((with_reducible refine isIdx ?_); first | refine idx_s hs fun b_ o_ hs => ?_ | refine idx_a hs ?_ | refine idx_rd hs fun b_ o_ ha_ => ?_ | fail) | ((with_reducible refine isNew ?_); first | refine newB_at hs fun b_ w hs => ?_ | fail) | ((with_reducible refine isLdS ?_); first | refine ldS_b ?_ | refine ldS_b (x := ⟨_, _, _⟩) ?_ | refine ldS_r0 ?_ | refine ldS_r1 ?_ | refine ldS_r2 ?_ | refine ldS_r3 ?_ | refine ldS_rs0 hs ?_ | refine ldS_rs1 hs ?_ | refine ldS_rs2 hs ?_ | refine ldS_rs3 hs ?_ | refine ldS_rd0 ha_ ?_ | refine ldS_rd1 ha_ ?_ | refine ldS_rd2 ha_ ?_ | refine ldS_rd3 ha_ ?_ | refine ldS_rd4 ha_ ?_ | refine ldS_rd5 ha_ ?_ | fail) | ((with_reducible refine isKeep ?_); first | refine keep_of hs ?_ | refine keep_imp hs ?_ | fail) | ((with_reducible refine isWhen ?_); first | refine when_om ?_ | fail) | ((with_reducible refine isDraw ?_); first | refine drawW_sat hs fun w hs => ?_ | fail))
    refine call2_of (tab_Get hs hz) fun e w ⟨he, hs⟩ => ⟨_, _, he, ?_⟩
    repeat (first | with_reducible refine nilck_some ?_ | ((with_reducible refine atLd ?_); first | refine ld_b hs ?_ | refine ld_b (x := ⟨_, _, _⟩) hs ?_ | refine ld_r0 hs ?_ | refine ld_r1 hs ?_ | refine ld_r2 hs ?_ | refine ld_r3 hs ?_ | refine ld_r4 hs ?_ | refine ld_rd0 ha_ hs ?_ | refine ld_rd1 ha_ hs ?_ | refine ld_rd2 ha_ hs ?_ | refine ld_rd3 ha_ hs ?_ | refine ld_rd4 ha_ hs ?_ | refine ld_rd5 ha_ hs ?_ | fail) | ((with_reducible refine isSt ?_); first | refine st_b hs fun w hs => ?_ | refine st_rec5 hs fun w hs => ?_ | refine st_rec4 hs fun w hs => ?_ | refine st_rec3 hs fun w hs => ?_ | refine st_rec2 hs fun w hs => ?_ | refine st_r0 hs fun w hs => ?_ | refine st_r1 hs fun w hs => ?_ | fail) | ((with_reducible refine isIdx ?_); first | refine idx_s hs fun b_ o_ hs => ?_ | refine idx_a hs ?_ | refine idx_rd hs fun b_ o_ ha_ => ?_ | fail) | ((with_reducible refine isNew ?_); first | refine newB_at hs fun b_ w hs => ?_ | fail) | ((with_reducible refine isLdS ?_); first | refine ldS_b ?_ | refine ldS_b (x := ⟨_, _, _⟩) ?_ | refine ldS_r0 ?_ | refine ldS_r1 ?_ | refine ldS_r2 ?_ | refine ldS_r3 ?_ | refine ldS_rs0 hs ?_ | refine ldS_rs1 hs ?_ | refine ldS_rs2 hs ?_ | refine ldS_rs3 hs ?_ | refine ldS_rd0 ha_ ?_ | refine ldS_rd1 ha_ ?_ | refine ldS_rd2 ha_ ?_ | refine ldS_rd3 ha_ ?_ | refine ldS_rd4 ha_ ?_ | refine ldS_rd5 ha_ ?_ | fail) | ((with_reducible refine isKeep ?_); first | refine keep_of hs ?_ | refine keep_imp hs ?_ | fail) | ((with_reducible refine isWhen ?_); first | refine when_om ?_ | fail) | ((with_reducible refine isDraw ?_); first | refine drawW_sat hs fun w hs => ?_ | fail))
    refine call2_of (r21_Get hs hi (by omega)) fun e w ⟨he, hs⟩ => ⟨_, _, he, ?_⟩
    refine ite_true (by rw [sEq_eq]; simp) ?_
    exact ⟨by simp, _, hi, by omega, by exact Sat.fin hs⟩
  (first | with_reducible refine ite_ltI (fun h3 => ?_) (fun h3 => ?_) | with_reducible refine ite_leI (fun h3 => ?_) (fun h3 => ?_) | with_reducible refine ite_gtI (fun h3 => ?_) (fun h3 => ?_) | with_reducible refine ite_geI (fun h3 => ?_) (fun h3 => ?_) | with_reducible refine ite_eqI (fun h3 => ?_) (fun h3 => ?_) | with_reducible refine ite_neI (fun h3 => ?_) (fun h3 => ?_) | with_reducible refine ite_eqS (fun h3 => ?_) (fun h3 => ?_) | with_reducible refine ite_neS (fun h3 => ?_) (fun h3 => ?_) | with_reducible refine ite_dec (fun h3 => ?_) (fun h3 => ?_) | with_reducible refine ite_ndec (fun h3 => ?_) (fun h3 => ?_) | with_reducible refine ite_some (fun i_ h3 => ?_) (fun h3 => ?_) | with_reducible refine ite_nsome (fun h3 => ?_) (fun i_ h3 => ?_) | with_reducible refine ite_cases (fun h3 => ?_) (fun h3 => ?_))
  · refine drawW_only [blk b_ [.int .i64 a.kind, .int .i64 a.now, .int .i64 a.life, .string a.key, .string a.val]] hs fun w hs => ?_
    repeat (first | with_reducible refine nilck_some ?_ | ((with_reducible refine atLd ?_); first | refine ld_b hs ?_ | refine ld_b (x := ⟨_, _, _⟩) hs ?_ | refine ld_r0 hs ?_ | refine ld_r1 hs ?_ | refine ld_r2 hs ?_ | refine ld_r3 hs ?_ | refine ld_r4 hs ?_ | refine ld_rd0 ha_ hs ?_ | refine ld_rd1 ha_ hs ?_ | refine ld_rd2 ha_ hs ?_ | refine ld_rd3 ha_ hs ?_ | refine ld_rd4 ha_ hs ?_ | refine ld_rd5 ha_ hs ?_ | fail) | ((with_reducible refine isSt ?_); first | refine st_b hs fun w hs => ?_ | refine st_rec5 hs fun w hs => ?_ | refine st_rec4 hs fun w hs => ?_ | refine st_rec3 hs fun w hs => ?_ | refine st_rec2 hs fun w hs => ?_ | refine st_r0 hs fun w hs => ?_ | refine st_r1 hs fun w hs => ?_ | fail) | ((with_reducible refine isIdx ?_); first | refine idx_s hs fun b_ o_ hs => ?_ | refine idx_a hs ?_ | refine idx_rd hs fun b_ o_ ha_ => ?_ | fail) | ((with_reducible refine isNew ?_); first | refine newB_at hs fun b_ w hs => ?_ | fail) | ((with_reducible refine isLdS ?_); first | refine ldS_b ?_ | refine ldS_b (x := ⟨_, _, _⟩) ?_ | refine ldS_r0 ?_ | refine ldS_r1 ?_ | refine ldS_r2 ?_ | refine ldS_r3 ?_ | refine ldS_rs0 hs ?_ | refine ldS_rs1 hs ?_ | refine ldS_rs2 hs ?_ | refine ldS_rs3 hs ?_ | refine ldS_rd0 ha_ ?_ | refine ldS_rd1 ha_ ?_ | refine ldS_rd2 ha_ ?_ | refine ldS_rd3 ha_ ?_ | refine ldS_rd4 ha_ ?_ | refine ldS_rd5 ha_ ?_ | fail) | ((with_reducible refine isKeep ?_); first | refine keep_of hs ?_ | refine keep_imp hs ?_ | fail) | ((with_reducible refine isWhen ?_); first | refine when_om ?_ | fail) | ((with_reducible refine isDraw ?_); first | refine drawW_sat hs fun w hs => ?_ | fail))
    refine call1_of (tab_Delete hs hz (by omega)) fun e w ⟨he, hs⟩ => ⟨_, he, ?_⟩
    repeat (first | with_reducible refine nilck_some ?_ | ((with_reducible refine atLd ?_); first | refine ld_b hs ?_ | refine ld_b (x := ⟨_, _, _⟩) hs ?_ | refine ld_r0 hs ?_ | refine ld_r1 hs ?_ | refine ld_r2 hs ?_ | refine ld_r3 hs ?_ | refine ld_r4 hs ?_ | refine ld_rd0 ha_ hs ?_ | refine ld_rd1 ha_ hs ?_ | refine ld_rd2 ha_ hs ?_ | refine ld_rd3 ha_ hs ?_ | refine ld_rd4 ha_ hs ?_ | refine ld_rd5 ha_ hs ?_ | fail) | ((with_reducible refine isSt ?_); first | refine st_b hs fun w hs => ?_ | refine st_rec5 hs fun w hs => ?_ | refine st_rec4 hs fun w hs => ?_ | refine st_rec3 hs fun w hs => ?_ | refine st_rec2 hs fun w hs => ?_ | refine st_r0 hs fun w hs => ?_ | refine st_r1 hs fun w hs => ?_ | fail) | ((with_reducible refine isIdx ?_); first | refine idx_s hs fun b_ o_ hs => ?_ | refine idx_a hs ?_ | refine idx_rd hs fun b_ o_ ha_ => ?_ | fail) | ((with_reducible refine isNew ?_); first | refine newB_at hs fun b_ w hs => ?_ | fail) | ((with_reducible refine isLdS ?_); first | refine ldS_b ?_ | refine ldS_b (x := ⟨_, _, _⟩) ?_ | refine ldS_r0 ?_ | refine ldS_r1 ?_ | refine ldS_r2 ?_ | refine ldS_r3 ?_ | refine ldS_rs0 hs ?_ | refine ldS_rs1 hs ?_ | refine ldS_rs2 hs ?_ | refine ldS_rs3 hs ?_ | refine ldS_rd0 ha_ ?_ | refine ldS_rd1 ha_ ?_ | refine ldS_rd2 ha_ ?_ | refine ldS_rd3 ha_ ?_ | refine ldS_rd4 ha_ ?_ | refine ldS_rd5 ha_ ?_ | fail) | ((with_reducible refine isKeep ?_); first | refine keep_of hs ?_ | refine keep_imp hs ?_ | fail) | ((with_reducible refine isWhen ?_); first | refine when_om ?_ | fail) | ((with_reducible refine isDraw ?_); first | refine drawW_sat hs fun w hs => ?_ | fail))
    refine call1_of (r21_Delete hs hi.rise (by omega)) fun e w ⟨he, hs⟩ => ⟨_, he, ?_⟩
    exact ⟨by simp, rDel r a.key, hi.del _, by have := rDel_len hi a.key; omega, by exact Sat.fin hs⟩
  · refine drawW_only [blk b_ [.int .i64 a.kind, .int .i64 a.now, .int .i64 a.life, .string a.key, .string a.val]] hs fun w hs => ?_
    repeat (first | with_reducible refine nilck_some ?_ | ((with_reducible refine atLd ?_); first | refine ld_b hs ?_ | refine ld_b (x := ⟨_, _, _⟩) hs ?_ | refine ld_r0 hs ?_ | refine ld_r1 hs ?_ | refine ld_r2 hs ?_ | refine ld_r3 hs ?_ | refine ld_r4 hs ?_ | refine ld_rd0 ha_ hs ?_ | refine ld_rd1 ha_ hs ?_ | refine ld_rd2 ha_ hs ?_ | refine ld_rd3 ha_ hs ?_ | refine ld_rd4 ha_ hs ?_ | refine ld_rd5 ha_ hs ?_ | fail) | ((with_reducible refine isSt ?_); first | refine st_b hs fun w hs => ?_ | refine st_rec5 hs fun w hs => ?_ | refine st_rec4 hs fun w hs => ?_ | refine st_rec3 hs fun w hs => ?_ | refine st_rec2 hs fun w hs => ?_ | refine st_r0 hs fun w hs => ?_ | refine st_r1 hs fun w hs => ?_ | fail) | ((with_reducible refine isIdx ?_); first | refine idx_s hs fun b_ o_ hs => ?_ | refine idx_a hs ?_ | refine idx_rd hs fun b_ o_ ha_ => ?_ | fail) | ((with_reducible refine isNew ?_); first | refine newB_at hs fun b_ w hs => ?_ | fail) | ((with_reducible refine isLdS ?_); first | refine ldS_b ?_ | refine ldS_b (x := ⟨_, _, _⟩) ?_ | refine ldS_r0 ?_ | refine ldS_r1 ?_ | refine ldS_r2 ?_ | refine ldS_r3 ?_ | refine ldS_rs0 hs ?_ | refine ldS_rs1 hs ?_ | refine ldS_rs2 hs ?_ | refine ldS_rs3 hs ?_ | refine ldS_rd0 ha_ ?_ | refine ldS_rd1 ha_ ?_ | refine ldS_rd2 ha_ ?_ | refine ldS_rd3 ha_ ?_ | refine ldS_rd4 ha_ ?_ | refine ldS_rd5 ha_ ?_ | fail) | ((with_reducible refine isKeep ?_); first | refine keep_of hs ?_ | refine keep_imp hs ?_ | fail) | ((with_reducible refine isWhen ?_); first | refine when_om ?_ | fail) | ((with_reducible refine isDraw ?_); first | refine drawW_sat hs fun w hs => ?_ | fail))
    refine (tab_Due hs (by omega)).mono fun e w ⟨l1, he, hs⟩ => ⟨_, he, ?_⟩
    repeat (first | with_reducible refine nilck_some ?_ | ((with_reducible refine atLd ?_); first | refine ld_b hs ?_ | refine ld_b (x := ⟨_, _, _⟩) hs ?_ | refine ld_r0 hs ?_ | refine ld_r1 hs ?_ | refine ld_r2 hs ?_ | refine ld_r3 hs ?_ | refine ld_r4 hs ?_ | refine ld_rd0 ha_ hs ?_ | refine ld_rd1 ha_ hs ?_ | refine ld_rd2 ha_ hs ?_ | refine ld_rd3 ha_ hs ?_ | refine ld_rd4 ha_ hs ?_ | refine ld_rd5 ha_ hs ?_ | fail) | ((with_reducible refine isSt ?_); first | refine st_b hs fun w hs => ?_ | refine st_rec5 hs fun w hs => ?_ | refine st_rec4 hs fun w hs => ?_ | refine st_rec3 hs fun w hs => ?_ | refine st_rec2 hs fun w hs => ?_ | refine st_r0 hs fun w hs => ?_ | refine st_r1 hs fun w hs => ?_ | fail) | ((with_reducible refine isIdx ?_); first | refine idx_s hs fun b_ o_ hs => ?_ | refine idx_a hs ?_ | refine idx_rd hs fun b_ o_ ha_ => ?_ | fail) | ((with_reducible refine isNew ?_); first | refine newB_at hs fun b_ w hs => ?_ | fail) | ((with_reducible refine isLdS ?_); first | refine ldS_b ?_ | refine ldS_b (x := ⟨_, _, _⟩) ?_ | refine ldS_r0 ?_ | refine ldS_r1 ?_ | refine ldS_r2 ?_ | refine ldS_r3 ?_ | refine ldS_rs0 hs ?_ | refine ldS_rs1 hs ?_ | refine ldS_rs2 hs ?_ | refine ldS_rs3 hs ?_ | refine ldS_rd0 ha_ ?_ | refine ldS_rd1 ha_ ?_ | refine ldS_rd2 ha_ ?_ | refine ldS_rd3 ha_ ?_ | refine ldS_rd4 ha_ ?_ | refine ldS_rd5 ha_ ?_ | fail) | ((with_reducible refine isKeep ?_); first | refine keep_of hs ?_ | refine keep_imp hs ?_ | fail) | ((with_reducible refine isWhen ?_); first | refine when_om ?_ | fail) | ((with_reducible refine isDraw ?_); first | refine drawW_sat hs fun w hs => ?_ | fail))
    refine (r21_Due hs hi (by omega)).mono fun e w ⟨l2, he, hs⟩ => ⟨_, he, ?_⟩
    have hdl := tDue_len (now := a.now) r r.length
    rw [List.take_length] at hdl
    refine call1_of (hoardlaw21_texts_at (a := l1) (b := l2) hs (by omega)) fun e w ⟨he, hs⟩ => ⟨_, he, ?_⟩
    exact ⟨by simp, _, hi, by omega, by exact Sat.fin hs⟩
set_option maxHeartbeats 2000000 in
set_option maxRecDepth 100000 in
theorem tplays_walk {s0 : Sl} {acts : List Act21} [hr : ReadsR W s0 act21R acts] : Calls Try.prog id_hoardlaw21_TablePlays #[.slice s0.a s0.n s0.c] W fun e w' => e = .returned (.bool true) ∧ KeptH W w' := by
  have hs := Sat.begin W
  refine law_of (hoardlaw21_TablePlays_calls ?_)
  rw [hoardlaw21_TablePlays_def, hoardlaw21_TablePlays_raw]
  refine (heavy21 (s0 := s0) hs).mono fun e w ⟨hv, he, hsz, hs⟩ => ⟨_, he, ?_⟩
  refine ite_cases (fun h1 => ⟨rfl, hs⟩) (fun h1 => ?_)
  have hsz := hsz h1
  refine (tab_New hs).mono fun e w ⟨b, he, hs⟩ => ⟨_, he, ?_⟩
  refine newB_at hs fun b2 w hs => ite_false rfl ?_
  have hs : Sat W w [tabR b [], rtR b2 [], old W] := by
    have hs : Sat W w (blk b2 [.slice none 0 0] :: [tabR b [], old W]) := hs
    have hs := Sat.nilR entR hs
    have hs : Sat W w (rtR b2 [] :: [tabR b [], old W]) := rt_shut ⟨none, 0, 0⟩ (by exact Sat.fin hs)
    exact Sat.fin hs
  have fin : ∀ w (r : TT), TOk r → r.length ≤ 300 → Sat W w [tabR b r, rtR b2 r, old W] → hoardlaw21_TablePlays_j3 idJ (fun v w' => v = .bool true ∧ Sat W w' [old W]) (some ⟨b, 0, none⟩) b2 0 w := by
    intro w r hi hrl hs
    rw [hoardlaw21_TablePlays_j3_def, hoardlaw21_TablePlays_j3_raw]
    refine (tab_Keys hs (by omega)).mono fun e w ⟨k1, he, hs⟩ => ⟨_, he, ?_⟩
    refine (r21_Keys hs (by omega)).mono fun e w ⟨k2, he, hs⟩ => ⟨_, he, ?_⟩
    refine call1_of (hoardlaw21_texts_at (a := k1) (b := k2) hs (by simp; omega)) fun e w ⟨he, hs⟩ => ⟨_, he, ite_true (by simp) ?_⟩
    exact call1_of (known21 hs) fun e w ⟨he, hs⟩ => ⟨_, he, rfl, by exact Sat.fin hs⟩
  obtain ⟨N, hN⟩ : ∃ N : Nat, N = 151 := ⟨_, rfl⟩
  have loop : ∀ (f i : Nat) (w : World) (r : TT), i + f = N → TOk r → r.length ≤ i → Sat W w [tabR b r, rtR b2 r, old W] → hoardlaw21_TablePlays_l1 idJ (fun v w' => v = .bool true ∧ Sat W w' [old W]) (f + 1) s0 (some ⟨b, 0, none⟩) b2 0 (i : Int) w := by
    intro f
    induction f with
    | zero =>
      intro i w r hi hok hrl hs
      rw [hoardlaw21_TablePlays_l1_raw]
      (first | with_reducible refine ite_ltI (fun h1 => ?_) (fun h1 => ?_) | with_reducible refine ite_leI (fun h1 => ?_) (fun h1 => ?_) | with_reducible refine ite_gtI (fun h1 => ?_) (fun h1 => ?_) | with_reducible refine ite_geI (fun h1 => ?_) (fun h1 => ?_) | with_reducible refine ite_eqI (fun h1 => ?_) (fun h1 => ?_) | with_reducible refine ite_neI (fun h1 => ?_) (fun h1 => ?_) | with_reducible refine ite_eqS (fun h1 => ?_) (fun h1 => ?_) | with_reducible refine ite_neS (fun h1 => ?_) (fun h1 => ?_) | with_reducible refine ite_dec (fun h1 => ?_) (fun h1 => ?_) | with_reducible refine ite_ndec (fun h1 => ?_) (fun h1 => ?_) | with_reducible refine ite_some (fun i_ h1 => ?_) (fun h1 => ?_) | with_reducible refine ite_nsome (fun h1 => ?_) (fun i_ h1 => ?_) | with_reducible refine ite_cases (fun h1 => ?_) (fun h1 => ?_))
      · with_reducible refine ite_ltI (fun h2 => absurd h2 (by omega)) (fun h2 => ?_)
        exact fin w r hok (by omega) hs
      · exact fin w r hok (by omega) hs
    | succ f ih =>
      intro i w r hi hok hrl hs
      have hn := rdb_len (s := s0) hs
      rw [hoardlaw21_TablePlays_l1_raw]
      (first | with_reducible refine ite_ltI (fun h1 => ?_) (fun h1 => ?_) | with_reducible refine ite_leI (fun h1 => ?_) (fun h1 => ?_) | with_reducible refine ite_gtI (fun h1 => ?_) (fun h1 => ?_) | with_reducible refine ite_geI (fun h1 => ?_) (fun h1 => ?_) | with_reducible refine ite_eqI (fun h1 => ?_) (fun h1 => ?_) | with_reducible refine ite_neI (fun h1 => ?_) (fun h1 => ?_) | with_reducible refine ite_eqS (fun h1 => ?_) (fun h1 => ?_) | with_reducible refine ite_neS (fun h1 => ?_) (fun h1 => ?_) | with_reducible refine ite_dec (fun h1 => ?_) (fun h1 => ?_) | with_reducible refine ite_ndec (fun h1 => ?_) (fun h1 => ?_) | with_reducible refine ite_some (fun i_ h1 => ?_) (fun h1 => ?_) | with_reducible refine ite_nsome (fun h1 => ?_) (fun i_ h1 => ?_) | with_reducible refine ite_cases (fun h1 => ?_) (fun h1 => ?_))
      · (first | with_reducible refine ite_ltI (fun h2 => ?_) (fun h2 => ?_) | with_reducible refine ite_leI (fun h2 => ?_) (fun h2 => ?_) | with_reducible refine ite_gtI (fun h2 => ?_) (fun h2 => ?_) | with_reducible refine ite_geI (fun h2 => ?_) (fun h2 => ?_) | with_reducible refine ite_eqI (fun h2 => ?_) (fun h2 => ?_) | with_reducible refine ite_neI (fun h2 => ?_) (fun h2 => ?_) | with_reducible refine ite_eqS (fun h2 => ?_) (fun h2 => ?_) | with_reducible refine ite_neS (fun h2 => ?_) (fun h2 => ?_) | with_reducible refine ite_dec (fun h2 => ?_) (fun h2 => ?_) | with_reducible refine ite_ndec (fun h2 => ?_) (fun h2 => ?_) | with_reducible refine ite_some (fun i_ h2 => ?_) (fun h2 => ?_) | with_reducible refine ite_nsome (fun h2 => ?_) (fun i_ h2 => ?_) | with_reducible refine ite_cases (fun h2 => ?_) (fun h2 => ?_))
        · have hkey := hsz i (by omega) (by omega)
          rw [hoardlaw21_TablePlays_j2_def, hoardlaw21_TablePlays_j2_raw]
          refine drawW_only [old W] hs fun w hs => ?_
          repeat (first | with_reducible refine nilck_some ?_ | ((with_reducible refine atLd ?_); first | refine ld_b hs ?_ | refine ld_b (x := ⟨_, _, _⟩) hs ?_ | refine ld_r0 hs ?_ | refine ld_r1 hs ?_ | refine ld_r2 hs ?_ | refine ld_r3 hs ?_ | refine ld_r4 hs ?_ | refine ld_rd0 ha_ hs ?_ | refine ld_rd1 ha_ hs ?_ | refine ld_rd2 ha_ hs ?_ | refine ld_rd3 ha_ hs ?_ | refine ld_rd4 ha_ hs ?_ | refine ld_rd5 ha_ hs ?_ | fail) | ((with_reducible refine isSt ?_); first | refine st_b hs fun w hs => ?_ | refine st_rec5 hs fun w hs => ?_ | refine st_rec4 hs fun w hs => ?_ | refine st_rec3 hs fun w hs => ?_ | refine st_rec2 hs fun w hs => ?_ | refine st_r0 hs fun w hs => ?_ | refine st_r1 hs fun w hs => ?_ | fail) | ((with_reducible refine isIdx ?_); first | refine idx_s hs fun b_ o_ hs => ?_ | refine idx_a hs ?_ | refine idx_rd hs fun b_ o_ ha_ => ?_ | fail) | ((with_reducible refine isNew ?_); first | refine newB_at hs fun b_ w hs => ?_ | fail) | ((with_reducible refine isLdS ?_); first | refine ldS_b ?_ | refine ldS_b (x := ⟨_, _, _⟩) ?_ | refine ldS_r0 ?_ | refine ldS_r1 ?_ | refine ldS_r2 ?_ | refine ldS_r3 ?_ | refine ldS_rs0 hs ?_ | refine ldS_rs1 hs ?_ | refine ldS_rs2 hs ?_ | refine ldS_rs3 hs ?_ | refine ldS_rd0 ha_ ?_ | refine ldS_rd1 ha_ ?_ | refine ldS_rd2 ha_ ?_ | refine ldS_rd3 ha_ ?_ | refine ldS_rd4 ha_ ?_ | refine ldS_rd5 ha_ ?_ | fail) | ((with_reducible refine isKeep ?_); first | refine keep_of hs ?_ | refine keep_imp hs ?_ | fail) | ((with_reducible refine isWhen ?_); first | refine when_om ?_ | fail) | ((with_reducible refine isDraw ?_); first | refine drawW_sat hs fun w hs => ?_ | fail))
          try simp only [Int.toNat_natCast]
          refine call1_of (act21_at (a := acts.getD i default) hok (by omega) (by omega) hs) fun e w ⟨he, r', hok', hrl', hs⟩ => ⟨_, he, ?_⟩
          repeat (first | with_reducible refine nilck_some ?_ | ((with_reducible refine atLd ?_); first | refine ld_b hs ?_ | refine ld_b (x := ⟨_, _, _⟩) hs ?_ | refine ld_r0 hs ?_ | refine ld_r1 hs ?_ | refine ld_r2 hs ?_ | refine ld_r3 hs ?_ | refine ld_r4 hs ?_ | refine ld_rd0 ha_ hs ?_ | refine ld_rd1 ha_ hs ?_ | refine ld_rd2 ha_ hs ?_ | refine ld_rd3 ha_ hs ?_ | refine ld_rd4 ha_ hs ?_ | refine ld_rd5 ha_ hs ?_ | fail) | ((with_reducible refine isSt ?_); first | refine st_b hs fun w hs => ?_ | refine st_rec5 hs fun w hs => ?_ | refine st_rec4 hs fun w hs => ?_ | refine st_rec3 hs fun w hs => ?_ | refine st_rec2 hs fun w hs => ?_ | refine st_r0 hs fun w hs => ?_ | refine st_r1 hs fun w hs => ?_ | fail) | ((with_reducible refine isIdx ?_); first | refine idx_s hs fun b_ o_ hs => ?_ | refine idx_a hs ?_ | refine idx_rd hs fun b_ o_ ha_ => ?_ | fail) | ((with_reducible refine isNew ?_); first | refine newB_at hs fun b_ w hs => ?_ | fail) | ((with_reducible refine isLdS ?_); first | refine ldS_b ?_ | refine ldS_b (x := ⟨_, _, _⟩) ?_ | refine ldS_r0 ?_ | refine ldS_r1 ?_ | refine ldS_r2 ?_ | refine ldS_r3 ?_ | refine ldS_rs0 hs ?_ | refine ldS_rs1 hs ?_ | refine ldS_rs2 hs ?_ | refine ldS_rs3 hs ?_ | refine ldS_rd0 ha_ ?_ | refine ldS_rd1 ha_ ?_ | refine ldS_rd2 ha_ ?_ | refine ldS_rd3 ha_ ?_ | refine ldS_rd4 ha_ ?_ | refine ldS_rd5 ha_ ?_ | fail) | ((with_reducible refine isKeep ?_); first | refine keep_of hs ?_ | refine keep_imp hs ?_ | fail) | ((with_reducible refine isWhen ?_); first | refine when_om ?_ | fail) | ((with_reducible refine isDraw ?_); first | refine drawW_sat hs fun w hs => ?_ | fail))
          refine ite_false rfl ?_
          repeat (first | with_reducible refine nilck_some ?_ | ((with_reducible refine atLd ?_); first | refine ld_b hs ?_ | refine ld_b (x := ⟨_, _, _⟩) hs ?_ | refine ld_r0 hs ?_ | refine ld_r1 hs ?_ | refine ld_r2 hs ?_ | refine ld_r3 hs ?_ | refine ld_r4 hs ?_ | refine ld_rd0 ha_ hs ?_ | refine ld_rd1 ha_ hs ?_ | refine ld_rd2 ha_ hs ?_ | refine ld_rd3 ha_ hs ?_ | refine ld_rd4 ha_ hs ?_ | refine ld_rd5 ha_ hs ?_ | fail) | ((with_reducible refine isSt ?_); first | refine st_b hs fun w hs => ?_ | refine st_rec5 hs fun w hs => ?_ | refine st_rec4 hs fun w hs => ?_ | refine st_rec3 hs fun w hs => ?_ | refine st_rec2 hs fun w hs => ?_ | refine st_r0 hs fun w hs => ?_ | refine st_r1 hs fun w hs => ?_ | fail) | ((with_reducible refine isIdx ?_); first | refine idx_s hs fun b_ o_ hs => ?_ | refine idx_a hs ?_ | refine idx_rd hs fun b_ o_ ha_ => ?_ | fail) | ((with_reducible refine isNew ?_); first | refine newB_at hs fun b_ w hs => ?_ | fail) | ((with_reducible refine isLdS ?_); first | refine ldS_b ?_ | refine ldS_b (x := ⟨_, _, _⟩) ?_ | refine ldS_r0 ?_ | refine ldS_r1 ?_ | refine ldS_r2 ?_ | refine ldS_r3 ?_ | refine ldS_rs0 hs ?_ | refine ldS_rs1 hs ?_ | refine ldS_rs2 hs ?_ | refine ldS_rs3 hs ?_ | refine ldS_rd0 ha_ ?_ | refine ldS_rd1 ha_ ?_ | refine ldS_rd2 ha_ ?_ | refine ldS_rd3 ha_ ?_ | refine ldS_rd4 ha_ ?_ | refine ldS_rd5 ha_ ?_ | fail) | ((with_reducible refine isKeep ?_); first | refine keep_of hs ?_ | refine keep_imp hs ?_ | fail) | ((with_reducible refine isWhen ?_); first | refine when_om ?_ | fail) | ((with_reducible refine isDraw ?_); first | refine drawW_sat hs fun w hs => ?_ | fail))
          try simp only [Int.toNat_natCast]
          refine call1_of (tab_Has hs (by omega)) fun e w ⟨he, hs⟩ => ⟨_, he, ?_⟩
          repeat (first | with_reducible refine nilck_some ?_ | ((with_reducible refine atLd ?_); first | refine ld_b hs ?_ | refine ld_b (x := ⟨_, _, _⟩) hs ?_ | refine ld_r0 hs ?_ | refine ld_r1 hs ?_ | refine ld_r2 hs ?_ | refine ld_r3 hs ?_ | refine ld_r4 hs ?_ | refine ld_rd0 ha_ hs ?_ | refine ld_rd1 ha_ hs ?_ | refine ld_rd2 ha_ hs ?_ | refine ld_rd3 ha_ hs ?_ | refine ld_rd4 ha_ hs ?_ | refine ld_rd5 ha_ hs ?_ | fail) | ((with_reducible refine isSt ?_); first | refine st_b hs fun w hs => ?_ | refine st_rec5 hs fun w hs => ?_ | refine st_rec4 hs fun w hs => ?_ | refine st_rec3 hs fun w hs => ?_ | refine st_rec2 hs fun w hs => ?_ | refine st_r0 hs fun w hs => ?_ | refine st_r1 hs fun w hs => ?_ | fail) | ((with_reducible refine isIdx ?_); first | refine idx_s hs fun b_ o_ hs => ?_ | refine idx_a hs ?_ | refine idx_rd hs fun b_ o_ ha_ => ?_ | fail) | ((with_reducible refine isNew ?_); first | refine newB_at hs fun b_ w hs => ?_ | fail) | ((with_reducible refine isLdS ?_); first | refine ldS_b ?_ | refine ldS_b (x := ⟨_, _, _⟩) ?_ | refine ldS_r0 ?_ | refine ldS_r1 ?_ | refine ldS_r2 ?_ | refine ldS_r3 ?_ | refine ldS_rs0 hs ?_ | refine ldS_rs1 hs ?_ | refine ldS_rs2 hs ?_ | refine ldS_rs3 hs ?_ | refine ldS_rd0 ha_ ?_ | refine ldS_rd1 ha_ ?_ | refine ldS_rd2 ha_ ?_ | refine ldS_rd3 ha_ ?_ | refine ldS_rd4 ha_ ?_ | refine ldS_rd5 ha_ ?_ | fail) | ((with_reducible refine isKeep ?_); first | refine keep_of hs ?_ | refine keep_imp hs ?_ | fail) | ((with_reducible refine isWhen ?_); first | refine when_om ?_ | fail) | ((with_reducible refine isDraw ?_); first | refine drawW_sat hs fun w hs => ?_ | fail))
          refine call1_of (r21_Has hs hok'.rise (by omega)) fun e w ⟨he, hs⟩ => ⟨_, he, ?_⟩
          repeat (first | with_reducible refine nilck_some ?_ | ((with_reducible refine atLd ?_); first | refine ld_b hs ?_ | refine ld_b (x := ⟨_, _, _⟩) hs ?_ | refine ld_r0 hs ?_ | refine ld_r1 hs ?_ | refine ld_r2 hs ?_ | refine ld_r3 hs ?_ | refine ld_r4 hs ?_ | refine ld_rd0 ha_ hs ?_ | refine ld_rd1 ha_ hs ?_ | refine ld_rd2 ha_ hs ?_ | refine ld_rd3 ha_ hs ?_ | refine ld_rd4 ha_ hs ?_ | refine ld_rd5 ha_ hs ?_ | fail) | ((with_reducible refine isSt ?_); first | refine st_b hs fun w hs => ?_ | refine st_rec5 hs fun w hs => ?_ | refine st_rec4 hs fun w hs => ?_ | refine st_rec3 hs fun w hs => ?_ | refine st_rec2 hs fun w hs => ?_ | refine st_r0 hs fun w hs => ?_ | refine st_r1 hs fun w hs => ?_ | fail) | ((with_reducible refine isIdx ?_); first | refine idx_s hs fun b_ o_ hs => ?_ | refine idx_a hs ?_ | refine idx_rd hs fun b_ o_ ha_ => ?_ | fail) | ((with_reducible refine isNew ?_); first | refine newB_at hs fun b_ w hs => ?_ | fail) | ((with_reducible refine isLdS ?_); first | refine ldS_b ?_ | refine ldS_b (x := ⟨_, _, _⟩) ?_ | refine ldS_r0 ?_ | refine ldS_r1 ?_ | refine ldS_r2 ?_ | refine ldS_r3 ?_ | refine ldS_rs0 hs ?_ | refine ldS_rs1 hs ?_ | refine ldS_rs2 hs ?_ | refine ldS_rs3 hs ?_ | refine ldS_rd0 ha_ ?_ | refine ldS_rd1 ha_ ?_ | refine ldS_rd2 ha_ ?_ | refine ldS_rd3 ha_ ?_ | refine ldS_rd4 ha_ ?_ | refine ldS_rd5 ha_ ?_ | fail) | ((with_reducible refine isKeep ?_); first | refine keep_of hs ?_ | refine keep_imp hs ?_ | fail) | ((with_reducible refine isWhen ?_); first | refine when_om ?_ | fail) | ((with_reducible refine isDraw ?_); first | refine drawW_sat hs fun w hs => ?_ | fail))
          refine ite_false (by simp) ?_
          repeat (first | with_reducible refine nilck_some ?_ | ((with_reducible refine atLd ?_); first | refine ld_b hs ?_ | refine ld_b (x := ⟨_, _, _⟩) hs ?_ | refine ld_r0 hs ?_ | refine ld_r1 hs ?_ | refine ld_r2 hs ?_ | refine ld_r3 hs ?_ | refine ld_r4 hs ?_ | refine ld_rd0 ha_ hs ?_ | refine ld_rd1 ha_ hs ?_ | refine ld_rd2 ha_ hs ?_ | refine ld_rd3 ha_ hs ?_ | refine ld_rd4 ha_ hs ?_ | refine ld_rd5 ha_ hs ?_ | fail) | ((with_reducible refine isSt ?_); first | refine st_b hs fun w hs => ?_ | refine st_rec5 hs fun w hs => ?_ | refine st_rec4 hs fun w hs => ?_ | refine st_rec3 hs fun w hs => ?_ | refine st_rec2 hs fun w hs => ?_ | refine st_r0 hs fun w hs => ?_ | refine st_r1 hs fun w hs => ?_ | fail) | ((with_reducible refine isIdx ?_); first | refine idx_s hs fun b_ o_ hs => ?_ | refine idx_a hs ?_ | refine idx_rd hs fun b_ o_ ha_ => ?_ | fail) | ((with_reducible refine isNew ?_); first | refine newB_at hs fun b_ w hs => ?_ | fail) | ((with_reducible refine isLdS ?_); first | refine ldS_b ?_ | refine ldS_b (x := ⟨_, _, _⟩) ?_ | refine ldS_r0 ?_ | refine ldS_r1 ?_ | refine ldS_r2 ?_ | refine ldS_r3 ?_ | refine ldS_rs0 hs ?_ | refine ldS_rs1 hs ?_ | refine ldS_rs2 hs ?_ | refine ldS_rs3 hs ?_ | refine ldS_rd0 ha_ ?_ | refine ldS_rd1 ha_ ?_ | refine ldS_rd2 ha_ ?_ | refine ldS_rd3 ha_ ?_ | refine ldS_rd4 ha_ ?_ | refine ldS_rd5 ha_ ?_ | fail) | ((with_reducible refine isKeep ?_); first | refine keep_of hs ?_ | refine keep_imp hs ?_ | fail) | ((with_reducible refine isWhen ?_); first | refine when_om ?_ | fail) | ((with_reducible refine isDraw ?_); first | refine drawW_sat hs fun w hs => ?_ | fail))
          try simp only [Int.toNat_natCast]
          refine call1_of (tab_End hs (by omega)) fun e w ⟨he, hs⟩ => ⟨_, he, ?_⟩
          repeat (first | with_reducible refine nilck_some ?_ | ((with_reducible refine atLd ?_); first | refine ld_b hs ?_ | refine ld_b (x := ⟨_, _, _⟩) hs ?_ | refine ld_r0 hs ?_ | refine ld_r1 hs ?_ | refine ld_r2 hs ?_ | refine ld_r3 hs ?_ | refine ld_r4 hs ?_ | refine ld_rd0 ha_ hs ?_ | refine ld_rd1 ha_ hs ?_ | refine ld_rd2 ha_ hs ?_ | refine ld_rd3 ha_ hs ?_ | refine ld_rd4 ha_ hs ?_ | refine ld_rd5 ha_ hs ?_ | fail) | ((with_reducible refine isSt ?_); first | refine st_b hs fun w hs => ?_ | refine st_rec5 hs fun w hs => ?_ | refine st_rec4 hs fun w hs => ?_ | refine st_rec3 hs fun w hs => ?_ | refine st_rec2 hs fun w hs => ?_ | refine st_r0 hs fun w hs => ?_ | refine st_r1 hs fun w hs => ?_ | fail) | ((with_reducible refine isIdx ?_); first | refine idx_s hs fun b_ o_ hs => ?_ | refine idx_a hs ?_ | refine idx_rd hs fun b_ o_ ha_ => ?_ | fail) | ((with_reducible refine isNew ?_); first | refine newB_at hs fun b_ w hs => ?_ | fail) | ((with_reducible refine isLdS ?_); first | refine ldS_b ?_ | refine ldS_b (x := ⟨_, _, _⟩) ?_ | refine ldS_r0 ?_ | refine ldS_r1 ?_ | refine ldS_r2 ?_ | refine ldS_r3 ?_ | refine ldS_rs0 hs ?_ | refine ldS_rs1 hs ?_ | refine ldS_rs2 hs ?_ | refine ldS_rs3 hs ?_ | refine ldS_rd0 ha_ ?_ | refine ldS_rd1 ha_ ?_ | refine ldS_rd2 ha_ ?_ | refine ldS_rd3 ha_ ?_ | refine ldS_rd4 ha_ ?_ | refine ldS_rd5 ha_ ?_ | fail) | ((with_reducible refine isKeep ?_); first | refine keep_of hs ?_ | refine keep_imp hs ?_ | fail) | ((with_reducible refine isWhen ?_); first | refine when_om ?_ | fail) | ((with_reducible refine isDraw ?_); first | refine drawW_sat hs fun w hs => ?_ | fail))
          refine call1_of (r21_End hs hok'.rise (by omega)) fun e w ⟨he, hs⟩ => ⟨_, he, ?_⟩
          refine ite_false (by simp) ?_
          refine nilck_some ?_
          have hs : Sat W w (rtR b2 r' :: [tabR b r', old W]) := by exact Sat.fin hs
          refine ⟨?_, allW_one ?_⟩
          · refine call1_of (tab_Len hs) fun e w ⟨he, hs⟩ => ⟨_, he, ?_⟩
            obtain ⟨s, ⟨hn2, hc⟩, hs⟩ := rt_open hs
            repeat (first | with_reducible refine nilck_some ?_ | ((with_reducible refine atLd ?_); first | refine ld_b hs ?_ | refine ld_b (x := ⟨_, _, _⟩) hs ?_ | refine ld_r0 hs ?_ | refine ld_r1 hs ?_ | refine ld_r2 hs ?_ | refine ld_r3 hs ?_ | refine ld_r4 hs ?_ | refine ld_rd0 ha_ hs ?_ | refine ld_rd1 ha_ hs ?_ | refine ld_rd2 ha_ hs ?_ | refine ld_rd3 ha_ hs ?_ | refine ld_rd4 ha_ hs ?_ | refine ld_rd5 ha_ hs ?_ | fail) | ((with_reducible refine isSt ?_); first | refine st_b hs fun w hs => ?_ | refine st_rec5 hs fun w hs => ?_ | refine st_rec4 hs fun w hs => ?_ | refine st_rec3 hs fun w hs => ?_ | refine st_rec2 hs fun w hs => ?_ | refine st_r0 hs fun w hs => ?_ | refine st_r1 hs fun w hs => ?_ | fail) | ((with_reducible refine isIdx ?_); first | refine idx_s hs fun b_ o_ hs => ?_ | refine idx_a hs ?_ | refine idx_rd hs fun b_ o_ ha_ => ?_ | fail) | ((with_reducible refine isNew ?_); first | refine newB_at hs fun b_ w hs => ?_ | fail) | ((with_reducible refine isLdS ?_); first | refine ldS_b ?_ | refine ldS_b (x := ⟨_, _, _⟩) ?_ | refine ldS_r0 ?_ | refine ldS_r1 ?_ | refine ldS_r2 ?_ | refine ldS_r3 ?_ | refine ldS_rs0 hs ?_ | refine ldS_rs1 hs ?_ | refine ldS_rs2 hs ?_ | refine ldS_rs3 hs ?_ | refine ldS_rd0 ha_ ?_ | refine ldS_rd1 ha_ ?_ | refine ldS_rd2 ha_ ?_ | refine ldS_rd3 ha_ ?_ | refine ldS_rd4 ha_ ?_ | refine ldS_rd5 ha_ ?_ | fail) | ((with_reducible refine isKeep ?_); first | refine keep_of hs ?_ | refine keep_imp hs ?_ | fail) | ((with_reducible refine isWhen ?_); first | refine when_om ?_ | fail) | ((with_reducible refine isDraw ?_); first | refine drawW_sat hs fun w hs => ?_ | fail))
            refine ite_false (by rw [hn2]; simp) ?_
            rw [i64_in _ (by omega)]
            have hs := rt_shut s hs
            exact ih (i + 1) w r' (by omega) hok' (by omega) (by exact Sat.fin hs)
          · obtain ⟨s, ⟨hn2, hc⟩, hs⟩ := rt_open hs
            repeat (first | with_reducible refine nilck_some ?_ | ((with_reducible refine atLd ?_); first | refine ld_b hs ?_ | refine ld_b (x := ⟨_, _, _⟩) hs ?_ | refine ld_r0 hs ?_ | refine ld_r1 hs ?_ | refine ld_r2 hs ?_ | refine ld_r3 hs ?_ | refine ld_r4 hs ?_ | refine ld_rd0 ha_ hs ?_ | refine ld_rd1 ha_ hs ?_ | refine ld_rd2 ha_ hs ?_ | refine ld_rd3 ha_ hs ?_ | refine ld_rd4 ha_ hs ?_ | refine ld_rd5 ha_ hs ?_ | fail) | ((with_reducible refine isSt ?_); first | refine st_b hs fun w hs => ?_ | refine st_rec5 hs fun w hs => ?_ | refine st_rec4 hs fun w hs => ?_ | refine st_rec3 hs fun w hs => ?_ | refine st_rec2 hs fun w hs => ?_ | refine st_r0 hs fun w hs => ?_ | refine st_r1 hs fun w hs => ?_ | fail) | ((with_reducible refine isIdx ?_); first | refine idx_s hs fun b_ o_ hs => ?_ | refine idx_a hs ?_ | refine idx_rd hs fun b_ o_ ha_ => ?_ | fail) | ((with_reducible refine isNew ?_); first | refine newB_at hs fun b_ w hs => ?_ | fail) | ((with_reducible refine isLdS ?_); first | refine ldS_b ?_ | refine ldS_b (x := ⟨_, _, _⟩) ?_ | refine ldS_r0 ?_ | refine ldS_r1 ?_ | refine ldS_r2 ?_ | refine ldS_r3 ?_ | refine ldS_rs0 hs ?_ | refine ldS_rs1 hs ?_ | refine ldS_rs2 hs ?_ | refine ldS_rs3 hs ?_ | refine ldS_rd0 ha_ ?_ | refine ldS_rd1 ha_ ?_ | refine ldS_rd2 ha_ ?_ | refine ldS_rd3 ha_ ?_ | refine ldS_rd4 ha_ ?_ | refine ldS_rd5 ha_ ?_ | fail) | ((with_reducible refine isKeep ?_); first | refine keep_of hs ?_ | refine keep_imp hs ?_ | fail) | ((with_reducible refine isWhen ?_); first | refine when_om ?_ | fail) | ((with_reducible refine isDraw ?_); first | refine drawW_sat hs fun w hs => ?_ | fail))
            have hs := rt_shut s hs
            refine call1_of (tab_Len hs) fun e w ⟨he, hs⟩ => ⟨_, he, ?_⟩
            refine ite_false (by rw [hn2]; simp) ?_
            rw [i64_in _ (by omega)]
            exact ih (i + 1) w r' (by omega) hok' (by omega) (by exact Sat.fin hs)
        · exact fin w r hok (by omega) hs
      · exact fin w r hok (by omega) hs
  refine ⟨N + 1, ?_⟩
  exact loop N 0 w [] (by omega) ⟨by simp [RiseM, Rising], by simp, by simp⟩ (by simp) hs
set_option maxHeartbeats 1000000 in
set_option maxRecDepth 100000 in
theorem terrors_walk {s0 : Sl} {acts : List Act21} {k0 n0 l0 : Int} {kk vv : ByteArray} [hr : ReadsR W s0 act21R acts] : Calls Try.prog id_hoardlaw21_TableErrors #[.slice s0.a s0.n s0.c, .agg #[.int .i64 k0, .int .i64 n0, .int .i64 l0, .string kk, .string vv]] W fun e w' => e = .returned (.bool true) ∧ KeptH W w' := by
  have hs := Sat.begin W
  refine law_of (hoardlaw21_TableErrors_calls ?_)
  rw [hoardlaw21_TableErrors_def, hoardlaw21_TableErrors_raw]
  refine newB_at hs fun ab w hs => ?_
  refine (heavy21 (s0 := s0) hs).mono fun e w ⟨hv, he, hsz, hs⟩ => ⟨_, he, ?_⟩
  refine ite_cases (fun h1 => ⟨rfl, by exact Sat.fin hs⟩) (fun h1 => ?_)
  have hsz := hsz h1
  repeat (first | with_reducible refine nilck_some ?_ | ((with_reducible refine atLd ?_); first | refine ld_b hs ?_ | refine ld_b (x := ⟨_, _, _⟩) hs ?_ | refine ld_r0 hs ?_ | refine ld_r1 hs ?_ | refine ld_r2 hs ?_ | refine ld_r3 hs ?_ | refine ld_r4 hs ?_ | refine ld_rd0 ha_ hs ?_ | refine ld_rd1 ha_ hs ?_ | refine ld_rd2 ha_ hs ?_ | refine ld_rd3 ha_ hs ?_ | refine ld_rd4 ha_ hs ?_ | refine ld_rd5 ha_ hs ?_ | fail) | ((with_reducible refine isSt ?_); first | refine st_b hs fun w hs => ?_ | refine st_rec5 hs fun w hs => ?_ | refine st_rec4 hs fun w hs => ?_ | refine st_rec3 hs fun w hs => ?_ | refine st_rec2 hs fun w hs => ?_ | refine st_r0 hs fun w hs => ?_ | refine st_r1 hs fun w hs => ?_ | fail) | ((with_reducible refine isIdx ?_); first | refine idx_s hs fun b_ o_ hs => ?_ | refine idx_a hs ?_ | refine idx_rd hs fun b_ o_ ha_ => ?_ | fail) | ((with_reducible refine isNew ?_); first | refine newB_at hs fun b_ w hs => ?_ | fail) | ((with_reducible refine isLdS ?_); first | refine ldS_b ?_ | refine ldS_b (x := ⟨_, _, _⟩) ?_ | refine ldS_r0 ?_ | refine ldS_r1 ?_ | refine ldS_r2 ?_ | refine ldS_r3 ?_ | refine ldS_rs0 hs ?_ | refine ldS_rs1 hs ?_ | refine ldS_rs2 hs ?_ | refine ldS_rs3 hs ?_ | refine ldS_rd0 ha_ ?_ | refine ldS_rd1 ha_ ?_ | refine ldS_rd2 ha_ ?_ | refine ldS_rd3 ha_ ?_ | refine ldS_rd4 ha_ ?_ | refine ldS_rd5 ha_ ?_ | fail) | ((with_reducible refine isKeep ?_); first | refine keep_of hs ?_ | refine keep_imp hs ?_ | fail) | ((with_reducible refine isWhen ?_); first | refine when_om ?_ | fail) | ((with_reducible refine isDraw ?_); first | refine drawW_sat hs fun w hs => ?_ | fail))
  have hs : Sat W w (recs act21R ⟨some ⟨b_, 0, none⟩, 1, 1⟩ [⟨k0, n0, l0, kk, vv⟩] :: [blk ab [.int .i64 k0, .int .i64 n0, .int .i64 l0, .string kk, .string vv], old W]) := Sat.blkS (b := b_) act21R [⟨k0, n0, l0, kk, vv⟩] hs rfl rfl
  refine (heavy21 (s0 := ⟨some ⟨b_, 0, none⟩, 1, 1⟩) hs).mono fun e w ⟨hv2, he, hsz2, hs⟩ => ⟨_, he, ?_⟩
  refine ite_cases (fun h2 => ⟨rfl, by exact Sat.fin hs⟩) (fun h2 => ?_)
  have hkz := hsz2 h2 0 (by simp) (by omega)
  have hkz : kk.size ≤ 60 := hkz
  rw [hoardlaw21_TableErrors_j1_def, hoardlaw21_TableErrors_j1_raw]
  refine (tab_New hs).mono fun e w ⟨b, he, hs⟩ => ⟨_, he, ite_false rfl ?_⟩
  have fin : ∀ w (r : TT), TOk r → r.length ≤ 300 → Sat W w [tabR b r, blk ab [.int .i64 k0, .int .i64 n0, .int .i64 l0, .string kk, .string vv], old W] → hoardlaw21_TableErrors_j4 idJ (fun v w' => v = .bool true ∧ Sat W w' [old W]) ab 0 (some ⟨b, 0, none⟩) w := by
    intro w r hi hrl hs
    rw [hoardlaw21_TableErrors_j4_def, hoardlaw21_TableErrors_j4_raw]
    repeat (first | with_reducible refine nilck_some ?_ | ((with_reducible refine atLd ?_); first | refine ld_b hs ?_ | refine ld_b (x := ⟨_, _, _⟩) hs ?_ | refine ld_r0 hs ?_ | refine ld_r1 hs ?_ | refine ld_r2 hs ?_ | refine ld_r3 hs ?_ | refine ld_r4 hs ?_ | refine ld_rd0 ha_ hs ?_ | refine ld_rd1 ha_ hs ?_ | refine ld_rd2 ha_ hs ?_ | refine ld_rd3 ha_ hs ?_ | refine ld_rd4 ha_ hs ?_ | refine ld_rd5 ha_ hs ?_ | fail) | ((with_reducible refine isSt ?_); first | refine st_b hs fun w hs => ?_ | refine st_rec5 hs fun w hs => ?_ | refine st_rec4 hs fun w hs => ?_ | refine st_rec3 hs fun w hs => ?_ | refine st_rec2 hs fun w hs => ?_ | refine st_r0 hs fun w hs => ?_ | refine st_r1 hs fun w hs => ?_ | fail) | ((with_reducible refine isIdx ?_); first | refine idx_s hs fun b_ o_ hs => ?_ | refine idx_a hs ?_ | refine idx_rd hs fun b_ o_ ha_ => ?_ | fail) | ((with_reducible refine isNew ?_); first | refine newB_at hs fun b_ w hs => ?_ | fail) | ((with_reducible refine isLdS ?_); first | refine ldS_b ?_ | refine ldS_b (x := ⟨_, _, _⟩) ?_ | refine ldS_r0 ?_ | refine ldS_r1 ?_ | refine ldS_r2 ?_ | refine ldS_r3 ?_ | refine ldS_rs0 hs ?_ | refine ldS_rs1 hs ?_ | refine ldS_rs2 hs ?_ | refine ldS_rs3 hs ?_ | refine ldS_rd0 ha_ ?_ | refine ldS_rd1 ha_ ?_ | refine ldS_rd2 ha_ ?_ | refine ldS_rd3 ha_ ?_ | refine ldS_rd4 ha_ ?_ | refine ldS_rd5 ha_ ?_ | fail) | ((with_reducible refine isKeep ?_); first | refine keep_of hs ?_ | refine keep_imp hs ?_ | fail) | ((with_reducible refine isWhen ?_); first | refine when_om ?_ | fail) | ((with_reducible refine isDraw ?_); first | refine drawW_sat hs fun w hs => ?_ | fail))
    refine (tab_Keys hs (by omega)).mono fun e w ⟨k1, he, hs⟩ => ⟨_, he, ?_⟩
    repeat (first | with_reducible refine nilck_some ?_ | ((with_reducible refine atLd ?_); first | refine ld_b hs ?_ | refine ld_b (x := ⟨_, _, _⟩) hs ?_ | refine ld_r0 hs ?_ | refine ld_r1 hs ?_ | refine ld_r2 hs ?_ | refine ld_r3 hs ?_ | refine ld_r4 hs ?_ | refine ld_rd0 ha_ hs ?_ | refine ld_rd1 ha_ hs ?_ | refine ld_rd2 ha_ hs ?_ | refine ld_rd3 ha_ hs ?_ | refine ld_rd4 ha_ hs ?_ | refine ld_rd5 ha_ hs ?_ | fail) | ((with_reducible refine isSt ?_); first | refine st_b hs fun w hs => ?_ | refine st_rec5 hs fun w hs => ?_ | refine st_rec4 hs fun w hs => ?_ | refine st_rec3 hs fun w hs => ?_ | refine st_rec2 hs fun w hs => ?_ | refine st_r0 hs fun w hs => ?_ | refine st_r1 hs fun w hs => ?_ | fail) | ((with_reducible refine isIdx ?_); first | refine idx_s hs fun b_ o_ hs => ?_ | refine idx_a hs ?_ | refine idx_rd hs fun b_ o_ ha_ => ?_ | fail) | ((with_reducible refine isNew ?_); first | refine newB_at hs fun b_ w hs => ?_ | fail) | ((with_reducible refine isLdS ?_); first | refine ldS_b ?_ | refine ldS_b (x := ⟨_, _, _⟩) ?_ | refine ldS_r0 ?_ | refine ldS_r1 ?_ | refine ldS_r2 ?_ | refine ldS_r3 ?_ | refine ldS_rs0 hs ?_ | refine ldS_rs1 hs ?_ | refine ldS_rs2 hs ?_ | refine ldS_rs3 hs ?_ | refine ldS_rd0 ha_ ?_ | refine ldS_rd1 ha_ ?_ | refine ldS_rd2 ha_ ?_ | refine ldS_rd3 ha_ ?_ | refine ldS_rd4 ha_ ?_ | refine ldS_rd5 ha_ ?_ | fail) | ((with_reducible refine isKeep ?_); first | refine keep_of hs ?_ | refine keep_imp hs ?_ | fail) | ((with_reducible refine isWhen ?_); first | refine when_om ?_ | fail) | ((with_reducible refine isDraw ?_); first | refine drawW_sat hs fun w hs => ?_ | fail))
    refine call1_of (tab_End hs (by omega)) fun e w ⟨he, hs⟩ => ⟨_, he, ?_⟩
    repeat (first | with_reducible refine nilck_some ?_ | ((with_reducible refine atLd ?_); first | refine ld_b hs ?_ | refine ld_b (x := ⟨_, _, _⟩) hs ?_ | refine ld_r0 hs ?_ | refine ld_r1 hs ?_ | refine ld_r2 hs ?_ | refine ld_r3 hs ?_ | refine ld_r4 hs ?_ | refine ld_rd0 ha_ hs ?_ | refine ld_rd1 ha_ hs ?_ | refine ld_rd2 ha_ hs ?_ | refine ld_rd3 ha_ hs ?_ | refine ld_rd4 ha_ hs ?_ | refine ld_rd5 ha_ hs ?_ | fail) | ((with_reducible refine isSt ?_); first | refine st_b hs fun w hs => ?_ | refine st_rec5 hs fun w hs => ?_ | refine st_rec4 hs fun w hs => ?_ | refine st_rec3 hs fun w hs => ?_ | refine st_rec2 hs fun w hs => ?_ | refine st_r0 hs fun w hs => ?_ | refine st_r1 hs fun w hs => ?_ | fail) | ((with_reducible refine isIdx ?_); first | refine idx_s hs fun b_ o_ hs => ?_ | refine idx_a hs ?_ | refine idx_rd hs fun b_ o_ ha_ => ?_ | fail) | ((with_reducible refine isNew ?_); first | refine newB_at hs fun b_ w hs => ?_ | fail) | ((with_reducible refine isLdS ?_); first | refine ldS_b ?_ | refine ldS_b (x := ⟨_, _, _⟩) ?_ | refine ldS_r0 ?_ | refine ldS_r1 ?_ | refine ldS_r2 ?_ | refine ldS_r3 ?_ | refine ldS_rs0 hs ?_ | refine ldS_rs1 hs ?_ | refine ldS_rs2 hs ?_ | refine ldS_rs3 hs ?_ | refine ldS_rd0 ha_ ?_ | refine ldS_rd1 ha_ ?_ | refine ldS_rd2 ha_ ?_ | refine ldS_rd3 ha_ ?_ | refine ldS_rd4 ha_ ?_ | refine ldS_rd5 ha_ ?_ | fail) | ((with_reducible refine isKeep ?_); first | refine keep_of hs ?_ | refine keep_imp hs ?_ | fail) | ((with_reducible refine isWhen ?_); first | refine when_om ?_ | fail) | ((with_reducible refine isDraw ?_); first | refine drawW_sat hs fun w hs => ?_ | fail))
    refine call2_of (tab_Put hs (by omega)) fun e w ⟨he, hs⟩ => ⟨_, _, he, ?_⟩
    have hput : tErr kk vv n0 l0 = 0 → (mGet (tPut r kk vv n0 l0) kk).isSome = true := by
      intro h
      unfold tPut
      rw [if_pos h]
      have hp := rPut_perm (k := kk) (v := (vv, tEnd n0 l0)) hi.rise
      have : mGet (rPut r kk (vv, tEnd n0 l0)) kk = some (vv, tEnd n0 l0) := by
        rw [mGet_some (rPut_rise hi.rise).nodup, hp.mem_iff]
        unfold mPut
        split
        · rename_i u hu
          unfold mSet
          refine List.mem_map.2 ⟨(kk, u), (mGet_some hi.rise.nodup).1 hu, by simp⟩
        · exact .head _
      rw [this]; rfl
    (first | with_reducible refine ite_ltI (fun h3 => ?_) (fun h3 => ?_) | with_reducible refine ite_leI (fun h3 => ?_) (fun h3 => ?_) | with_reducible refine ite_gtI (fun h3 => ?_) (fun h3 => ?_) | with_reducible refine ite_geI (fun h3 => ?_) (fun h3 => ?_) | with_reducible refine ite_eqI (fun h3 => ?_) (fun h3 => ?_) | with_reducible refine ite_neI (fun h3 => ?_) (fun h3 => ?_) | with_reducible refine ite_eqS (fun h3 => ?_) (fun h3 => ?_) | with_reducible refine ite_neS (fun h3 => ?_) (fun h3 => ?_) | with_reducible refine ite_dec (fun h3 => ?_) (fun h3 => ?_) | with_reducible refine ite_ndec (fun h3 => ?_) (fun h3 => ?_) | with_reducible refine ite_some (fun i_ h3 => ?_) (fun h3 => ?_) | with_reducible refine ite_nsome (fun h3 => ?_) (fun i_ h3 => ?_) | with_reducible refine ite_cases (fun h3 => ?_) (fun h3 => ?_))
    · repeat (first | with_reducible refine nilck_some ?_ | ((with_reducible refine atLd ?_); first | refine ld_b hs ?_ | refine ld_b (x := ⟨_, _, _⟩) hs ?_ | refine ld_r0 hs ?_ | refine ld_r1 hs ?_ | refine ld_r2 hs ?_ | refine ld_r3 hs ?_ | refine ld_r4 hs ?_ | refine ld_rd0 ha_ hs ?_ | refine ld_rd1 ha_ hs ?_ | refine ld_rd2 ha_ hs ?_ | refine ld_rd3 ha_ hs ?_ | refine ld_rd4 ha_ hs ?_ | refine ld_rd5 ha_ hs ?_ | fail) | ((with_reducible refine isSt ?_); first | refine st_b hs fun w hs => ?_ | refine st_rec5 hs fun w hs => ?_ | refine st_rec4 hs fun w hs => ?_ | refine st_rec3 hs fun w hs => ?_ | refine st_rec2 hs fun w hs => ?_ | refine st_r0 hs fun w hs => ?_ | refine st_r1 hs fun w hs => ?_ | fail) | ((with_reducible refine isIdx ?_); first | refine idx_s hs fun b_ o_ hs => ?_ | refine idx_a hs ?_ | refine idx_rd hs fun b_ o_ ha_ => ?_ | fail) | ((with_reducible refine isNew ?_); first | refine newB_at hs fun b_ w hs => ?_ | fail) | ((with_reducible refine isLdS ?_); first | refine ldS_b ?_ | refine ldS_b (x := ⟨_, _, _⟩) ?_ | refine ldS_r0 ?_ | refine ldS_r1 ?_ | refine ldS_r2 ?_ | refine ldS_r3 ?_ | refine ldS_rs0 hs ?_ | refine ldS_rs1 hs ?_ | refine ldS_rs2 hs ?_ | refine ldS_rs3 hs ?_ | refine ldS_rd0 ha_ ?_ | refine ldS_rd1 ha_ ?_ | refine ldS_rd2 ha_ ?_ | refine ldS_rd3 ha_ ?_ | refine ldS_rd4 ha_ ?_ | refine ldS_rd5 ha_ ?_ | fail) | ((with_reducible refine isKeep ?_); first | refine keep_of hs ?_ | refine keep_imp hs ?_ | fail) | ((with_reducible refine isWhen ?_); first | refine when_om ?_ | fail) | ((with_reducible refine isDraw ?_); first | refine drawW_sat hs fun w hs => ?_ | fail))
      refine call1_of (tab_Has hs (by omega)) fun e w ⟨he, hs⟩ => ⟨_, he, ite_true (hput h3) ?_⟩
      exact call1_of (known21 hs) fun e w ⟨he, hs⟩ => ⟨_, he, rfl, by exact Sat.fin hs⟩
    · have hsame : tPut r kk vv n0 l0 = r := if_neg h3
      rw [hsame] at hs
      refine (tab_Keys hs (by omega)).mono fun e w ⟨k2, he, hs⟩ => ⟨_, he, ?_⟩
      refine call1_of (hoardlaw21_texts_at (a := k2) (b := k1) hs (by simp; omega)) fun e w ⟨he, hs⟩ => ⟨_, he, ite_true (by simp) ?_⟩
      repeat (first | with_reducible refine nilck_some ?_ | ((with_reducible refine atLd ?_); first | refine ld_b hs ?_ | refine ld_b (x := ⟨_, _, _⟩) hs ?_ | refine ld_r0 hs ?_ | refine ld_r1 hs ?_ | refine ld_r2 hs ?_ | refine ld_r3 hs ?_ | refine ld_r4 hs ?_ | refine ld_rd0 ha_ hs ?_ | refine ld_rd1 ha_ hs ?_ | refine ld_rd2 ha_ hs ?_ | refine ld_rd3 ha_ hs ?_ | refine ld_rd4 ha_ hs ?_ | refine ld_rd5 ha_ hs ?_ | fail) | ((with_reducible refine isSt ?_); first | refine st_b hs fun w hs => ?_ | refine st_rec5 hs fun w hs => ?_ | refine st_rec4 hs fun w hs => ?_ | refine st_rec3 hs fun w hs => ?_ | refine st_rec2 hs fun w hs => ?_ | refine st_r0 hs fun w hs => ?_ | refine st_r1 hs fun w hs => ?_ | fail) | ((with_reducible refine isIdx ?_); first | refine idx_s hs fun b_ o_ hs => ?_ | refine idx_a hs ?_ | refine idx_rd hs fun b_ o_ ha_ => ?_ | fail) | ((with_reducible refine isNew ?_); first | refine newB_at hs fun b_ w hs => ?_ | fail) | ((with_reducible refine isLdS ?_); first | refine ldS_b ?_ | refine ldS_b (x := ⟨_, _, _⟩) ?_ | refine ldS_r0 ?_ | refine ldS_r1 ?_ | refine ldS_r2 ?_ | refine ldS_r3 ?_ | refine ldS_rs0 hs ?_ | refine ldS_rs1 hs ?_ | refine ldS_rs2 hs ?_ | refine ldS_rs3 hs ?_ | refine ldS_rd0 ha_ ?_ | refine ldS_rd1 ha_ ?_ | refine ldS_rd2 ha_ ?_ | refine ldS_rd3 ha_ ?_ | refine ldS_rd4 ha_ ?_ | refine ldS_rd5 ha_ ?_ | fail) | ((with_reducible refine isKeep ?_); first | refine keep_of hs ?_ | refine keep_imp hs ?_ | fail) | ((with_reducible refine isWhen ?_); first | refine when_om ?_ | fail) | ((with_reducible refine isDraw ?_); first | refine drawW_sat hs fun w hs => ?_ | fail))
      refine call1_of (tab_End hs (by omega)) fun e w ⟨he, hs⟩ => ⟨_, he, ite_true (by simp) ?_⟩
      exact call1_of (known21 hs) fun e w ⟨he, hs⟩ => ⟨_, he, rfl, by exact Sat.fin hs⟩
  obtain ⟨N, hN⟩ : ∃ N : Nat, N = 151 := ⟨_, rfl⟩
  have loop : ∀ (f i : Nat) (w : World) (r : TT), i + f = N → TOk r → r.length ≤ i → Sat W w [tabR b r, blk ab [.int .i64 k0, .int .i64 n0, .int .i64 l0, .string kk, .string vv], old W] → hoardlaw21_TableErrors_l2 idJ (fun v w' => v = .bool true ∧ Sat W w' [old W]) (f + 1) s0 ab 0 (some ⟨b, 0, none⟩) (i : Int) w := by
    intro f
    induction f with
    | zero =>
      intro i w r hi hok hrl hs
      rw [hoardlaw21_TableErrors_l2_raw]
      (first | with_reducible refine ite_ltI (fun h1 => ?_) (fun h1 => ?_) | with_reducible refine ite_leI (fun h1 => ?_) (fun h1 => ?_) | with_reducible refine ite_gtI (fun h1 => ?_) (fun h1 => ?_) | with_reducible refine ite_geI (fun h1 => ?_) (fun h1 => ?_) | with_reducible refine ite_eqI (fun h1 => ?_) (fun h1 => ?_) | with_reducible refine ite_neI (fun h1 => ?_) (fun h1 => ?_) | with_reducible refine ite_eqS (fun h1 => ?_) (fun h1 => ?_) | with_reducible refine ite_neS (fun h1 => ?_) (fun h1 => ?_) | with_reducible refine ite_dec (fun h1 => ?_) (fun h1 => ?_) | with_reducible refine ite_ndec (fun h1 => ?_) (fun h1 => ?_) | with_reducible refine ite_some (fun i_ h1 => ?_) (fun h1 => ?_) | with_reducible refine ite_nsome (fun h1 => ?_) (fun i_ h1 => ?_) | with_reducible refine ite_cases (fun h1 => ?_) (fun h1 => ?_))
      · with_reducible refine ite_ltI (fun h2 => absurd h2 (by omega)) (fun h2 => ?_)
        exact fin w r hok (by omega) hs
      · exact fin w r hok (by omega) hs
    | succ f ih =>
      intro i w r hi hok hrl hs
      have hn := rdb_len (s := s0) hs
      rw [hoardlaw21_TableErrors_l2_raw]
      (first | with_reducible refine ite_ltI (fun h1 => ?_) (fun h1 => ?_) | with_reducible refine ite_leI (fun h1 => ?_) (fun h1 => ?_) | with_reducible refine ite_gtI (fun h1 => ?_) (fun h1 => ?_) | with_reducible refine ite_geI (fun h1 => ?_) (fun h1 => ?_) | with_reducible refine ite_eqI (fun h1 => ?_) (fun h1 => ?_) | with_reducible refine ite_neI (fun h1 => ?_) (fun h1 => ?_) | with_reducible refine ite_eqS (fun h1 => ?_) (fun h1 => ?_) | with_reducible refine ite_neS (fun h1 => ?_) (fun h1 => ?_) | with_reducible refine ite_dec (fun h1 => ?_) (fun h1 => ?_) | with_reducible refine ite_ndec (fun h1 => ?_) (fun h1 => ?_) | with_reducible refine ite_some (fun i_ h1 => ?_) (fun h1 => ?_) | with_reducible refine ite_nsome (fun h1 => ?_) (fun i_ h1 => ?_) | with_reducible refine ite_cases (fun h1 => ?_) (fun h1 => ?_))
      · (first | with_reducible refine ite_ltI (fun h2 => ?_) (fun h2 => ?_) | with_reducible refine ite_leI (fun h2 => ?_) (fun h2 => ?_) | with_reducible refine ite_gtI (fun h2 => ?_) (fun h2 => ?_) | with_reducible refine ite_geI (fun h2 => ?_) (fun h2 => ?_) | with_reducible refine ite_eqI (fun h2 => ?_) (fun h2 => ?_) | with_reducible refine ite_neI (fun h2 => ?_) (fun h2 => ?_) | with_reducible refine ite_eqS (fun h2 => ?_) (fun h2 => ?_) | with_reducible refine ite_neS (fun h2 => ?_) (fun h2 => ?_) | with_reducible refine ite_dec (fun h2 => ?_) (fun h2 => ?_) | with_reducible refine ite_ndec (fun h2 => ?_) (fun h2 => ?_) | with_reducible refine ite_some (fun i_ h2 => ?_) (fun h2 => ?_) | with_reducible refine ite_nsome (fun h2 => ?_) (fun i_ h2 => ?_) | with_reducible refine ite_cases (fun h2 => ?_) (fun h2 => ?_))
        · rw [hoardlaw21_TableErrors_j3_def, hoardlaw21_TableErrors_j3_raw]
          refine drawW_only [old W] hs fun w hs => ?_
          repeat (first | with_reducible refine nilck_some ?_ | ((with_reducible refine atLd ?_); first | refine ld_b hs ?_ | refine ld_b (x := ⟨_, _, _⟩) hs ?_ | refine ld_r0 hs ?_ | refine ld_r1 hs ?_ | refine ld_r2 hs ?_ | refine ld_r3 hs ?_ | refine ld_r4 hs ?_ | refine ld_rd0 ha_ hs ?_ | refine ld_rd1 ha_ hs ?_ | refine ld_rd2 ha_ hs ?_ | refine ld_rd3 ha_ hs ?_ | refine ld_rd4 ha_ hs ?_ | refine ld_rd5 ha_ hs ?_ | fail) | ((with_reducible refine isSt ?_); first | refine st_b hs fun w hs => ?_ | refine st_rec5 hs fun w hs => ?_ | refine st_rec4 hs fun w hs => ?_ | refine st_rec3 hs fun w hs => ?_ | refine st_rec2 hs fun w hs => ?_ | refine st_r0 hs fun w hs => ?_ | refine st_r1 hs fun w hs => ?_ | fail) | ((with_reducible refine isIdx ?_); first | refine idx_s hs fun b_ o_ hs => ?_ | refine idx_a hs ?_ | refine idx_rd hs fun b_ o_ ha_ => ?_ | fail) | ((with_reducible refine isNew ?_); first | refine newB_at hs fun b_ w hs => ?_ | fail) | ((with_reducible refine isLdS ?_); first | refine ldS_b ?_ | refine ldS_b (x := ⟨_, _, _⟩) ?_ | refine ldS_r0 ?_ | refine ldS_r1 ?_ | refine ldS_r2 ?_ | refine ldS_r3 ?_ | refine ldS_rs0 hs ?_ | refine ldS_rs1 hs ?_ | refine ldS_rs2 hs ?_ | refine ldS_rs3 hs ?_ | refine ldS_rd0 ha_ ?_ | refine ldS_rd1 ha_ ?_ | refine ldS_rd2 ha_ ?_ | refine ldS_rd3 ha_ ?_ | refine ldS_rd4 ha_ ?_ | refine ldS_rd5 ha_ ?_ | fail) | ((with_reducible refine isKeep ?_); first | refine keep_of hs ?_ | refine keep_imp hs ?_ | fail) | ((with_reducible refine isWhen ?_); first | refine when_om ?_ | fail) | ((with_reducible refine isDraw ?_); first | refine drawW_sat hs fun w hs => ?_ | fail))
          try simp only [Int.toNat_natCast]
          refine call2_of (tab_Put hs (by omega)) fun e w ⟨he, hs⟩ => ⟨_, _, he, ?_⟩
          rw [i64_in _ (by omega)]
          have hl := tPut_len hok (acts.getD i default).key (acts.getD i default).val (acts.getD i default).now (acts.getD i default).life
          exact ih (i + 1) w _ (by omega) (hok.put _ _ _ _) (by omega) hs
        · exact fin w r hok (by omega) hs
      · exact fin w r hok (by omega) hs
  refine ⟨N + 1, ?_⟩
  exact loop N 0 w [] (by omega) ⟨by simp [RiseM, Rising], by simp, by simp⟩ (by simp) (by exact Sat.fin hs)
set_option maxHeartbeats 1000000 in
set_option maxRecDepth 100000 in
theorem tdue_walk {s0 : Sl} {acts : List Act21} {now : Int} [hr : ReadsR W s0 act21R acts] : Calls Try.prog id_hoardlaw21_TableDue #[.slice s0.a s0.n s0.c, .int .i64 now] W fun e w' => e = .returned (.bool true) ∧ KeptH W w' := by
  have hs := Sat.begin W
  refine law_of (hoardlaw21_TableDue_calls ?_)
  rw [hoardlaw21_TableDue_def, hoardlaw21_TableDue_raw]
  refine (heavy21 (s0 := s0) hs).mono fun e w ⟨hv, he, hsz, hs⟩ => ⟨_, he, ?_⟩
  refine ite_cases (fun h1 => ⟨rfl, by exact Sat.fin hs⟩) (fun h1 => ?_)
  have hsz := hsz h1
  refine (tab_New hs).mono fun e w ⟨b, he, hs⟩ => ⟨_, he, ite_false rfl ?_⟩
  have fin : ∀ w (r : TT), TOk r → r.length ≤ 300 → Sat W w [tabR b r, old W] → hoardlaw21_TableDue_j3 idJ (fun v w' => v = .bool true ∧ Sat W w' [old W]) now (some ⟨b, 0, none⟩) w := by
    intro w r hi hrl hs
    rw [hoardlaw21_TableDue_j3_def, hoardlaw21_TableDue_j3_raw]
    refine (tab_Keys hs (by omega)).mono fun e w ⟨k1, he, hs⟩ => ⟨_, he, ?_⟩
    refine (tab_Due hs (by omega)).mono fun e w ⟨d1, he, hs⟩ => ⟨_, he, ?_⟩
    have hkn := rdb_len (s := k1) hs
    rw [List.length_map] at hkn
    have hdn := rdb_len (s := d1) hs
    have hdl := tDue_len (now := now) r r.length
    rw [List.take_length] at hdl
    have loop : ∀ (f i : Nat) (w : World), i + f = r.length → Sat W w [recs Rec.str d1 (tDue r now), recs Rec.str k1 (r.map (·.1)), tabR b r, old W] →
        hoardlaw21_TableDue_l4 idJ (fun v w' => v = .bool true ∧ Sat W w' [old W]) (f + 1) now (some ⟨b, 0, none⟩) k1 d1 ((tDue (r.take i) now).length : Int) (i : Int) w := by
      intro f
      induction f with
      | zero =>
        intro i w hif hs
        rw [hoardlaw21_TableDue_l4_raw]
        refine ite_false (decide_eq_false (by omega)) ?_
        rw [hoardlaw21_TableDue_j5_def, hoardlaw21_TableDue_j5_raw]
        rw [List.take_of_length_le (by omega)]
        refine ite_true (by rw [hdn]; simp) ?_
        refine call1_of (tab_Len hs) fun e w ⟨he, hs⟩ => ⟨_, he, ite_true (by rw [hkn]; simp) ?_⟩
        exact call1_of (known21 hs) fun e w ⟨he, hs⟩ => ⟨_, he, rfl, by exact Sat.fin hs⟩
      | succ f ih =>
        intro i w hif hs
        rw [hoardlaw21_TableDue_l4_raw]
        refine ite_true (decide_eq_true (by omega)) ?_
        have hlk : (r.map (·.1)).length = r.length := by simp
        have hk : (r.map (·.1)).getD i default = (r.getD i default).1 := by
          rw [List.getD_eq_getElem?_getD, List.getD_eq_getElem?_getD, List.getElem?_map, List.getElem?_eq_getElem (by omega)]; rfl
        have hmem : r.getD i default ∈ r := by rw [List.getD_eq_getElem?_getD, List.getElem?_eq_getElem (by omega)]; exact List.getElem_mem _
        have hz := hi.small _ hmem
        have hend := hi.ends _ hmem
        have hg := mGet_row hi (i := i) (by omega)
        have hds := tDue_snoc (now := now) (r := r) (i := i) (by omega)
        have hwhole : tDue r now = tDue (r.take (i + 1)) now ++ tDue (r.drop (i + 1)) now := by
          unfold tDue
          rw [← List.map_append, ← List.filter_append, List.take_append_drop]
        have hdi := tDue_len (now := now) r i
        repeat (first | with_reducible refine nilck_some ?_ | ((with_reducible refine atLd ?_); first | refine ld_b hs ?_ | refine ld_b (x := ⟨_, _, _⟩) hs ?_ | refine ld_r0 hs ?_ | refine ld_r1 hs ?_ | refine ld_r2 hs ?_ | refine ld_r3 hs ?_ | refine ld_r4 hs ?_ | refine ld_rd0 ha_ hs ?_ | refine ld_rd1 ha_ hs ?_ | refine ld_rd2 ha_ hs ?_ | refine ld_rd3 ha_ hs ?_ | refine ld_rd4 ha_ hs ?_ | refine ld_rd5 ha_ hs ?_ | fail) | ((with_reducible refine isSt ?_); first | refine st_b hs fun w hs => ?_ | refine st_rec5 hs fun w hs => ?_ | refine st_rec4 hs fun w hs => ?_ | refine st_rec3 hs fun w hs => ?_ | refine st_rec2 hs fun w hs => ?_ | refine st_r0 hs fun w hs => ?_ | refine st_r1 hs fun w hs => ?_ | fail) | ((with_reducible refine isIdx ?_); first | refine idx_s hs fun b_ o_ hs => ?_ | refine idx_a hs ?_ | refine idx_rd hs fun b_ o_ ha_ => ?_ | fail) | ((with_reducible refine isNew ?_); first | refine newB_at hs fun b_ w hs => ?_ | fail) | ((with_reducible refine isLdS ?_); first | refine ldS_b ?_ | refine ldS_b (x := ⟨_, _, _⟩) ?_ | refine ldS_r0 ?_ | refine ldS_r1 ?_ | refine ldS_r2 ?_ | refine ldS_r3 ?_ | refine ldS_rs0 hs ?_ | refine ldS_rs1 hs ?_ | refine ldS_rs2 hs ?_ | refine ldS_rs3 hs ?_ | refine ldS_rd0 ha_ ?_ | refine ldS_rd1 ha_ ?_ | refine ldS_rd2 ha_ ?_ | refine ldS_rd3 ha_ ?_ | refine ldS_rd4 ha_ ?_ | refine ldS_rd5 ha_ ?_ | fail) | ((with_reducible refine isKeep ?_); first | refine keep_of hs ?_ | refine keep_imp hs ?_ | fail) | ((with_reducible refine isWhen ?_); first | refine when_om ?_ | fail) | ((with_reducible refine isDraw ?_); first | refine drawW_sat hs fun w hs => ?_ | fail))
        rw [Int.toNat_natCast, hk]
        refine call2_of (tab_Get hs hz) fun e w ⟨he, hs⟩ => ⟨_, _, he, ?_⟩
        have hgt : tGet r (r.getD i default).1 now = if tOver (r.getD i default).2.2 now then (⟨#[]⟩, false) else ((r.getD i default).2.1, true) := by unfold tGet; rw [hg]
        rw [hgt]
        cases hov : tOver (r.getD i default).2.2 now with
        | false =>
          rw [hov] at hds
          simp only [Bool.false_eq_true, if_false, List.append_nil] at hds ⊢
          refine ite_true rfl ?_
          rw [i64_in _ (by omega)]
          have := ih (i + 1) w (by omega) (by exact Sat.fin hs)
          rw [hds] at this
          exact this
        | true =>
          rw [hov] at hds
          simp only [if_true] at hds ⊢
          refine ite_false rfl ?_
          have hover := of_decide_eq_true hov
          have hlt : (tDue (r.take i) now).length < (tDue r now).length := by rw [hwhole, hds]; simp
          have hdk : (tDue r now).getD (tDue (r.take i) now).length default = (r.getD i default).1 := by
            rw [hwhole, hds, List.getD_eq_getElem?_getD, List.append_assoc, List.getElem?_append_right (Nat.le_refl _)]
            simp
          refine drawW_sat hs fun w hs => ?_
          refine ite_false (decide_eq_false (by omega)) ?_
          repeat (first | with_reducible refine nilck_some ?_ | ((with_reducible refine atLd ?_); first | refine ld_b hs ?_ | refine ld_b (x := ⟨_, _, _⟩) hs ?_ | refine ld_r0 hs ?_ | refine ld_r1 hs ?_ | refine ld_r2 hs ?_ | refine ld_r3 hs ?_ | refine ld_r4 hs ?_ | refine ld_rd0 ha_ hs ?_ | refine ld_rd1 ha_ hs ?_ | refine ld_rd2 ha_ hs ?_ | refine ld_rd3 ha_ hs ?_ | refine ld_rd4 ha_ hs ?_ | refine ld_rd5 ha_ hs ?_ | fail) | ((with_reducible refine isSt ?_); first | refine st_b hs fun w hs => ?_ | refine st_rec5 hs fun w hs => ?_ | refine st_rec4 hs fun w hs => ?_ | refine st_rec3 hs fun w hs => ?_ | refine st_rec2 hs fun w hs => ?_ | refine st_r0 hs fun w hs => ?_ | refine st_r1 hs fun w hs => ?_ | fail) | ((with_reducible refine isIdx ?_); first | refine idx_s hs fun b_ o_ hs => ?_ | refine idx_a hs ?_ | refine idx_rd hs fun b_ o_ ha_ => ?_ | fail) | ((with_reducible refine isNew ?_); first | refine newB_at hs fun b_ w hs => ?_ | fail) | ((with_reducible refine isLdS ?_); first | refine ldS_b ?_ | refine ldS_b (x := ⟨_, _, _⟩) ?_ | refine ldS_r0 ?_ | refine ldS_r1 ?_ | refine ldS_r2 ?_ | refine ldS_r3 ?_ | refine ldS_rs0 hs ?_ | refine ldS_rs1 hs ?_ | refine ldS_rs2 hs ?_ | refine ldS_rs3 hs ?_ | refine ldS_rd0 ha_ ?_ | refine ldS_rd1 ha_ ?_ | refine ldS_rd2 ha_ ?_ | refine ldS_rd3 ha_ ?_ | refine ldS_rd4 ha_ ?_ | refine ldS_rd5 ha_ ?_ | fail) | ((with_reducible refine isKeep ?_); first | refine keep_of hs ?_ | refine keep_imp hs ?_ | fail) | ((with_reducible refine isWhen ?_); first | refine when_om ?_ | fail) | ((with_reducible refine isDraw ?_); first | refine drawW_sat hs fun w hs => ?_ | fail))
          simp only [Int.toNat_natCast, hk, hdk]
          refine ite_false (by rw [sEq_eq]; simp) ?_
          repeat (first | with_reducible refine nilck_some ?_ | ((with_reducible refine atLd ?_); first | refine ld_b hs ?_ | refine ld_b (x := ⟨_, _, _⟩) hs ?_ | refine ld_r0 hs ?_ | refine ld_r1 hs ?_ | refine ld_r2 hs ?_ | refine ld_r3 hs ?_ | refine ld_r4 hs ?_ | refine ld_rd0 ha_ hs ?_ | refine ld_rd1 ha_ hs ?_ | refine ld_rd2 ha_ hs ?_ | refine ld_rd3 ha_ hs ?_ | refine ld_rd4 ha_ hs ?_ | refine ld_rd5 ha_ hs ?_ | fail) | ((with_reducible refine isSt ?_); first | refine st_b hs fun w hs => ?_ | refine st_rec5 hs fun w hs => ?_ | refine st_rec4 hs fun w hs => ?_ | refine st_rec3 hs fun w hs => ?_ | refine st_rec2 hs fun w hs => ?_ | refine st_r0 hs fun w hs => ?_ | refine st_r1 hs fun w hs => ?_ | fail) | ((with_reducible refine isIdx ?_); first | refine idx_s hs fun b_ o_ hs => ?_ | refine idx_a hs ?_ | refine idx_rd hs fun b_ o_ ha_ => ?_ | fail) | ((with_reducible refine isNew ?_); first | refine newB_at hs fun b_ w hs => ?_ | fail) | ((with_reducible refine isLdS ?_); first | refine ldS_b ?_ | refine ldS_b (x := ⟨_, _, _⟩) ?_ | refine ldS_r0 ?_ | refine ldS_r1 ?_ | refine ldS_r2 ?_ | refine ldS_r3 ?_ | refine ldS_rs0 hs ?_ | refine ldS_rs1 hs ?_ | refine ldS_rs2 hs ?_ | refine ldS_rs3 hs ?_ | refine ldS_rd0 ha_ ?_ | refine ldS_rd1 ha_ ?_ | refine ldS_rd2 ha_ ?_ | refine ldS_rd3 ha_ ?_ | refine ldS_rd4 ha_ ?_ | refine ldS_rd5 ha_ ?_ | fail) | ((with_reducible refine isKeep ?_); first | refine keep_of hs ?_ | refine keep_imp hs ?_ | fail) | ((with_reducible refine isWhen ?_); first | refine when_om ?_ | fail) | ((with_reducible refine isDraw ?_); first | refine drawW_sat hs fun w hs => ?_ | fail))
          simp only [Int.toNat_natCast, hk]
          have he0 : tEndOf r (r.getD i default).1 = (r.getD i default).2.2 := by unfold tEndOf; rw [hg]; rfl
          refine call1_of (tab_End hs hz) fun e w ⟨he, hs⟩ => ⟨_, he, ?_⟩
          rw [he0]
          refine ite_false (decide_eq_false (by omega)) ?_
          repeat (first | with_reducible refine nilck_some ?_ | ((with_reducible refine atLd ?_); first | refine ld_b hs ?_ | refine ld_b (x := ⟨_, _, _⟩) hs ?_ | refine ld_r0 hs ?_ | refine ld_r1 hs ?_ | refine ld_r2 hs ?_ | refine ld_r3 hs ?_ | refine ld_r4 hs ?_ | refine ld_rd0 ha_ hs ?_ | refine ld_rd1 ha_ hs ?_ | refine ld_rd2 ha_ hs ?_ | refine ld_rd3 ha_ hs ?_ | refine ld_rd4 ha_ hs ?_ | refine ld_rd5 ha_ hs ?_ | fail) | ((with_reducible refine isSt ?_); first | refine st_b hs fun w hs => ?_ | refine st_rec5 hs fun w hs => ?_ | refine st_rec4 hs fun w hs => ?_ | refine st_rec3 hs fun w hs => ?_ | refine st_rec2 hs fun w hs => ?_ | refine st_r0 hs fun w hs => ?_ | refine st_r1 hs fun w hs => ?_ | fail) | ((with_reducible refine isIdx ?_); first | refine idx_s hs fun b_ o_ hs => ?_ | refine idx_a hs ?_ | refine idx_rd hs fun b_ o_ ha_ => ?_ | fail) | ((with_reducible refine isNew ?_); first | refine newB_at hs fun b_ w hs => ?_ | fail) | ((with_reducible refine isLdS ?_); first | refine ldS_b ?_ | refine ldS_b (x := ⟨_, _, _⟩) ?_ | refine ldS_r0 ?_ | refine ldS_r1 ?_ | refine ldS_r2 ?_ | refine ldS_r3 ?_ | refine ldS_rs0 hs ?_ | refine ldS_rs1 hs ?_ | refine ldS_rs2 hs ?_ | refine ldS_rs3 hs ?_ | refine ldS_rd0 ha_ ?_ | refine ldS_rd1 ha_ ?_ | refine ldS_rd2 ha_ ?_ | refine ldS_rd3 ha_ ?_ | refine ldS_rd4 ha_ ?_ | refine ldS_rd5 ha_ ?_ | fail) | ((with_reducible refine isKeep ?_); first | refine keep_of hs ?_ | refine keep_imp hs ?_ | fail) | ((with_reducible refine isWhen ?_); first | refine when_om ?_ | fail) | ((with_reducible refine isDraw ?_); first | refine drawW_sat hs fun w hs => ?_ | fail))
          try simp only [Int.toNat_natCast, hk]
          refine call1_of (tab_End hs hz) fun e w ⟨he, hs⟩ => ⟨_, he, ?_⟩
          rw [he0]
          refine ite_false (by simpa using hover.1) ?_
          rw [i64_in _ (by omega), i64_in _ (by omega)]
          have := ih (i + 1) w (by omega) (by exact Sat.fin hs)
          rw [hds, List.length_append] at this
          exact this
    exact ⟨r.length + 1, loop r.length 0 w (by omega) (by exact Sat.fin hs)⟩
  obtain ⟨N, hN⟩ : ∃ N : Nat, N = 151 := ⟨_, rfl⟩
  have loop : ∀ (f i : Nat) (w : World) (r : TT), i + f = N → TOk r → r.length ≤ i → Sat W w [tabR b r, old W] → hoardlaw21_TableDue_l1 idJ (fun v w' => v = .bool true ∧ Sat W w' [old W]) (f + 1) s0 now (some ⟨b, 0, none⟩) (i : Int) w := by
    intro f
    induction f with
    | zero =>
      intro i w r hi hok hrl hs
      rw [hoardlaw21_TableDue_l1_raw]
      (first | with_reducible refine ite_ltI (fun h1 => ?_) (fun h1 => ?_) | with_reducible refine ite_leI (fun h1 => ?_) (fun h1 => ?_) | with_reducible refine ite_gtI (fun h1 => ?_) (fun h1 => ?_) | with_reducible refine ite_geI (fun h1 => ?_) (fun h1 => ?_) | with_reducible refine ite_eqI (fun h1 => ?_) (fun h1 => ?_) | with_reducible refine ite_neI (fun h1 => ?_) (fun h1 => ?_) | with_reducible refine ite_eqS (fun h1 => ?_) (fun h1 => ?_) | with_reducible refine ite_neS (fun h1 => ?_) (fun h1 => ?_) | with_reducible refine ite_dec (fun h1 => ?_) (fun h1 => ?_) | with_reducible refine ite_ndec (fun h1 => ?_) (fun h1 => ?_) | with_reducible refine ite_some (fun i_ h1 => ?_) (fun h1 => ?_) | with_reducible refine ite_nsome (fun h1 => ?_) (fun i_ h1 => ?_) | with_reducible refine ite_cases (fun h1 => ?_) (fun h1 => ?_))
      · with_reducible refine ite_ltI (fun h2 => absurd h2 (by omega)) (fun h2 => ?_)
        exact fin w r hok (by omega) hs
      · exact fin w r hok (by omega) hs
    | succ f ih =>
      intro i w r hi hok hrl hs
      have hn := rdb_len (s := s0) hs
      rw [hoardlaw21_TableDue_l1_raw]
      (first | with_reducible refine ite_ltI (fun h1 => ?_) (fun h1 => ?_) | with_reducible refine ite_leI (fun h1 => ?_) (fun h1 => ?_) | with_reducible refine ite_gtI (fun h1 => ?_) (fun h1 => ?_) | with_reducible refine ite_geI (fun h1 => ?_) (fun h1 => ?_) | with_reducible refine ite_eqI (fun h1 => ?_) (fun h1 => ?_) | with_reducible refine ite_neI (fun h1 => ?_) (fun h1 => ?_) | with_reducible refine ite_eqS (fun h1 => ?_) (fun h1 => ?_) | with_reducible refine ite_neS (fun h1 => ?_) (fun h1 => ?_) | with_reducible refine ite_dec (fun h1 => ?_) (fun h1 => ?_) | with_reducible refine ite_ndec (fun h1 => ?_) (fun h1 => ?_) | with_reducible refine ite_some (fun i_ h1 => ?_) (fun h1 => ?_) | with_reducible refine ite_nsome (fun h1 => ?_) (fun i_ h1 => ?_) | with_reducible refine ite_cases (fun h1 => ?_) (fun h1 => ?_))
      · (first | with_reducible refine ite_ltI (fun h2 => ?_) (fun h2 => ?_) | with_reducible refine ite_leI (fun h2 => ?_) (fun h2 => ?_) | with_reducible refine ite_gtI (fun h2 => ?_) (fun h2 => ?_) | with_reducible refine ite_geI (fun h2 => ?_) (fun h2 => ?_) | with_reducible refine ite_eqI (fun h2 => ?_) (fun h2 => ?_) | with_reducible refine ite_neI (fun h2 => ?_) (fun h2 => ?_) | with_reducible refine ite_eqS (fun h2 => ?_) (fun h2 => ?_) | with_reducible refine ite_neS (fun h2 => ?_) (fun h2 => ?_) | with_reducible refine ite_dec (fun h2 => ?_) (fun h2 => ?_) | with_reducible refine ite_ndec (fun h2 => ?_) (fun h2 => ?_) | with_reducible refine ite_some (fun i_ h2 => ?_) (fun h2 => ?_) | with_reducible refine ite_nsome (fun h2 => ?_) (fun i_ h2 => ?_) | with_reducible refine ite_cases (fun h2 => ?_) (fun h2 => ?_))
        · rw [hoardlaw21_TableDue_j2_def, hoardlaw21_TableDue_j2_raw]
          refine drawW_only [old W] hs fun w hs => ?_
          repeat (first | with_reducible refine nilck_some ?_ | ((with_reducible refine atLd ?_); first | refine ld_b hs ?_ | refine ld_b (x := ⟨_, _, _⟩) hs ?_ | refine ld_r0 hs ?_ | refine ld_r1 hs ?_ | refine ld_r2 hs ?_ | refine ld_r3 hs ?_ | refine ld_r4 hs ?_ | refine ld_rd0 ha_ hs ?_ | refine ld_rd1 ha_ hs ?_ | refine ld_rd2 ha_ hs ?_ | refine ld_rd3 ha_ hs ?_ | refine ld_rd4 ha_ hs ?_ | refine ld_rd5 ha_ hs ?_ | fail) | ((with_reducible refine isSt ?_); first | refine st_b hs fun w hs => ?_ | refine st_rec5 hs fun w hs => ?_ | refine st_rec4 hs fun w hs => ?_ | refine st_rec3 hs fun w hs => ?_ | refine st_rec2 hs fun w hs => ?_ | refine st_r0 hs fun w hs => ?_ | refine st_r1 hs fun w hs => ?_ | fail) | ((with_reducible refine isIdx ?_); first | refine idx_s hs fun b_ o_ hs => ?_ | refine idx_a hs ?_ | refine idx_rd hs fun b_ o_ ha_ => ?_ | fail) | ((with_reducible refine isNew ?_); first | refine newB_at hs fun b_ w hs => ?_ | fail) | ((with_reducible refine isLdS ?_); first | refine ldS_b ?_ | refine ldS_b (x := ⟨_, _, _⟩) ?_ | refine ldS_r0 ?_ | refine ldS_r1 ?_ | refine ldS_r2 ?_ | refine ldS_r3 ?_ | refine ldS_rs0 hs ?_ | refine ldS_rs1 hs ?_ | refine ldS_rs2 hs ?_ | refine ldS_rs3 hs ?_ | refine ldS_rd0 ha_ ?_ | refine ldS_rd1 ha_ ?_ | refine ldS_rd2 ha_ ?_ | refine ldS_rd3 ha_ ?_ | refine ldS_rd4 ha_ ?_ | refine ldS_rd5 ha_ ?_ | fail) | ((with_reducible refine isKeep ?_); first | refine keep_of hs ?_ | refine keep_imp hs ?_ | fail) | ((with_reducible refine isWhen ?_); first | refine when_om ?_ | fail) | ((with_reducible refine isDraw ?_); first | refine drawW_sat hs fun w hs => ?_ | fail))
          try simp only [Int.toNat_natCast]
          refine call2_of (tab_Put hs (by omega)) fun e w ⟨he, hs⟩ => ⟨_, _, he, ?_⟩
          rw [i64_in _ (by omega)]
          have hl := tPut_len hok (acts.getD i default).key (acts.getD i default).val (acts.getD i default).now (acts.getD i default).life
          exact ih (i + 1) w _ (by omega) (hok.put _ _ _ _) (by omega) hs
        · exact fin w r hok (by omega) hs
      · exact fin w r hok (by omega) hs
  refine ⟨N + 1, ?_⟩
  exact loop N 0 w [] (by omega) ⟨by simp [RiseM, Rising], by simp, by simp⟩ (by simp) hs
end
end Go.Proofs.Ytmpnbenihbbdpaa
