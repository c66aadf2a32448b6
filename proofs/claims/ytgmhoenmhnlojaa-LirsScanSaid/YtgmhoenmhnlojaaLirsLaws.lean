/- LirsPlays, LirsOfNothing, LirsCounts, LirsTold: walks. -/
import Derived.Test.YtgmhoenmhnlojaaLirs13
set_option linter.unusedVariables false
set_option linter.unusedSimpArgs false
set_option linter.unnecessarySimpa false
set_option linter.unusedSectionVars false
namespace Go.Hb
theorem LW.res_nodup {x : LirsS} (h : LW x) : (lRes x).Nodup := h.res_nd
end Go.Hb
namespace Go.Proofs.Ytgmhoenmhnlojaa
open Go.Hb Go.IntWalk
section
variable {W w : World} {L M : List HP} {F : HP → List HP}
set_option maxHeartbeats 1000000 in
set_option maxRecDepth 100000 in
theorem lplays_walk {room : Int} {s0 : Sl} {acts : List Act13} [hr : ReadsR W s0 act13R acts] : Calls Try.prog id_hoardlaw13_LirsPlays #[.int .i64 room, .slice s0.a s0.n s0.c] W fun e w' => e = .returned (.bool true) ∧ KeptH W w' := by
  have hs := Sat.begin W
  refine law_of (hoardlaw13_LirsPlays_calls ?_)
  rw [hoardlaw13_LirsPlays_def, hoardlaw13_LirsPlays_raw]
  refine (heavy13 (s0 := s0) hs).mono fun e w ⟨hv, he, hsz, hs⟩ => ⟨_, he, ?_⟩
  refine ite_cases (fun h1 => ⟨rfl, hs⟩) (fun h1 => ?_)
  have hsz := hsz h1
  refine (lirs_New_at hs).mono fun e w ⟨b, he, hs⟩ => ⟨_, he, ?_⟩
  refine (r13_New hs).mono fun e w ⟨b2, he, hs⟩ => ⟨_, he, ite_false rfl ?_⟩
  have hR := roomR_range room
  have hx0 := lOk0 hR.1 hR.2
  generalize roomR room = c at hs hR hx0
  have fin : ∀ w (x : LirsS) (n : Nat), n ≤ 300 → LOk c x → Sat W w [rrR b2 c x, lirR b c (3 * n) x, old W] → hoardlaw13_LirsPlays_j3 idJ (fun v w' => v = .bool true ∧ Sat W w' [old W]) (some ⟨b, 0, none⟩) (some ⟨b2, 0, none⟩) w := by
    intro w x n hn hx hs
    have hsm := hx.small
    have hrl := lRes_len x
    have hlen := hx.len
    have hc2 := hR.2
    rw [hoardlaw13_LirsPlays_j3_def, hoardlaw13_LirsPlays_j3_raw]
    refine (lirs_Keys hs (by omega)).mono fun e w ⟨k1, he, hs⟩ => ⟨_, he, ?_⟩
    refine (r13_Keys hs (by omega) (by omega)).mono fun e w ⟨k2, he, hs⟩ => ⟨_, he, ?_⟩
    refine call1_of (hoardlaw13_texts_at (a := k1) (b := k2) hs (by omega)) fun e w ⟨he, hs⟩ => ⟨_, he, ite_true (by simp) ?_⟩
    refine (lirs_Ghosts hs (by omega)).mono fun e w ⟨g1, he, hs⟩ => ⟨_, he, ?_⟩
    refine (r13_Ghosts hs (by omega)).mono fun e w ⟨g2, he, hs⟩ => ⟨_, he, ?_⟩
    have h3 := lThose_le x.s 3
    refine call1_of (hoardlaw13_texts_at (a := g1) (b := g2) hs (by omega)) fun e w ⟨he, hs⟩ => ⟨_, he, ite_true (by simp) ?_⟩
    refine call1_of (lirs_Room hs) fun e w ⟨he, hs⟩ => ⟨_, he, ?_⟩
    refine call1_of (r13_Room hs) fun e w ⟨he, hs⟩ => ⟨_, he, ite_true (by simp) ?_⟩
    exact call1_of (known13 hs) fun e w ⟨he, hs⟩ => ⟨_, he, rfl, by exact Sat.fin hs⟩
  obtain ⟨N, hN⟩ : ∃ N : Nat, N = 201 := ⟨_, rfl⟩
  have loop : ∀ (f i : Nat) (w : World) (x : LirsS), i + f = N → LOk c x → Sat W w [rrR b2 c x, lirR b c (3 * i) x, old W] → hoardlaw13_LirsPlays_l1 idJ (fun v w' => v = .bool true ∧ Sat W w' [old W]) (f + 1) s0 (some ⟨b, 0, none⟩) (some ⟨b2, 0, none⟩) (i : Int) w := by
    clear hs
    intro f
    induction f with
    | zero =>
      intro i w x hi hx hs
      rw [hoardlaw13_LirsPlays_l1_raw]
      with_reducible refine ite_by (fun h1 => ?_) (fun h1 => ?_)
      · with_reducible refine ite_ltI (fun h2 => absurd h2 (by omega)) (fun h2 => ?_)
        exact fin w x i (by omega) hx hs
      · exact fin w x i (by omega) hx hs
    | succ f ih =>
      intro i w x hi hx hs
      have hn := rdb_len (s := s0) hs
      rw [hoardlaw13_LirsPlays_l1_raw]
      with_reducible refine ite_by (fun h1 => ?_) (fun h1 => ?_)
      · with_reducible refine ite_by (fun h2 => ?_) (fun h2 => ?_)
        · have hkey := hsz i (by omega) (by omega)
          rw [hoardlaw13_LirsPlays_j2_def, hoardlaw13_LirsPlays_j2_raw]
          repeat (first | with_reducible refine nilck_some ?_ | ((with_reducible refine atLd ?_); first | refine ld_b hs ?_ | refine ld_b (x := ⟨_, _, _⟩) hs ?_ | refine ld_r0 hs ?_ | refine ld_r1 hs ?_ | refine ld_rd0 ha_ hs ?_ | refine ld_rd1 ha_ hs ?_) | ((with_reducible refine isSt ?_); first | refine st_b hs fun w hs => ?_ | refine st_r0 hs fun w hs => ?_ | refine st_r1 hs fun w hs => ?_) | ((with_reducible refine isIdx ?_); first | refine idx_s hs fun b_ o_ hs => ?_ | refine idx_rd hs fun b_ o_ ha_ => ?_) | with_reducible refine newB_at hs fun b_ w hs => ?_ | ((with_reducible refine isLdS ?_); first | refine ldS_b ?_ | refine ldS_b (x := ⟨_, _, _⟩) ?_ | refine ldS_rs0 hs ?_ | refine ldS_rd0 ha_ ?_) | ((with_reducible refine isKeep ?_); first | refine keep_of hs ?_ | refine keep_imp hs ?_) | with_reducible refine when_om ?_ | with_reducible refine drawW_sat hs fun w hs => ?_)
          rw [Int.toNat_natCast]
          refine call1_of (act13 (W := W) (M := [old W]) (b := b) (b2 := b2) (N := 3 * i) (a := acts.getD i default) (by exact Sat.fin hs) hx (by omega) hkey) fun e w ⟨he, hs⟩ => ⟨_, he, ite_false rfl ?_⟩
          have hx2 := lAct_ok (a := acts.getD i default) hx (by omega)
          have hsm := hx2.small
          refine call1_of (lirs_State hs (by omega)) fun e w ⟨he, hs⟩ => ⟨_, he, ?_⟩
          refine call1_of (r13_State hs hx2.w (by omega) (by omega)) fun e w ⟨he, hs⟩ => ⟨_, he, ite_false (by rw [sEq_eq]; simp) ?_⟩
          refine call1_of (lirs_Len hs (by omega)) fun e w ⟨he, hs⟩ => ⟨_, he, ?_⟩
          refine call1_of (r13_Len hs (by omega) (by omega)) fun e w ⟨he, hs⟩ => ⟨_, he, ite_false (by simp) ?_⟩
          rw [i64_in _ (by omega)]
          exact ih (i + 1) w _ (by omega) hx2 (by exact Sat.fin hs)
        · exact fin w x i (by omega) hx hs
      · exact fin w x i (by omega) hx hs
  refine exM_of (N + 1) ?_
  exact loop N 0 w lirs0 (by omega) hx0 hs

/-! a nil engine -/
theorem lnil_Access (hs : Sat W w L) {k : ByteArray} : Calls Try.prog id_lirs_Engine_Access #[.pointer none, .string k] w fun e w' => e = .returned (.tuple #[.bool false, .slice none 0 0]) ∧ Sat W w' L := by
  refine c1 (lirs_Engine_Access_calls ?_)
  rw [lirs_Engine_Access_def, lirs_Engine_Access_raw]
  exact ite_true rfl ⟨rfl, hs⟩
theorem lnil_Len (hs : Sat W w L) : Calls Try.prog id_lirs_Engine_Len #[.pointer none] w fun e w' => e = .returned (.int .i64 0) ∧ Sat W w' L := by
  refine c1 (lirs_Engine_Len_calls ?_)
  rw [lirs_Engine_Len_def, lirs_Engine_Len_raw]
  exact ite_true rfl ⟨rfl, hs⟩
theorem lnil_Has (hs : Sat W w L) {k : ByteArray} : Calls Try.prog id_lirs_Engine_Has #[.pointer none, .string k] w fun e w' => e = .returned (.bool false) ∧ Sat W w' L := by
  refine c1 (lirs_Engine_Has_calls ?_)
  rw [lirs_Engine_Has_def, lirs_Engine_Has_raw]
  exact ite_true rfl ⟨rfl, hs⟩
theorem lnil_Evict (hs : Sat W w L) : Calls Try.prog id_lirs_Engine_Evict #[.pointer none] w fun e w' => e = .returned (.tuple #[.string str_empty, .bool false]) ∧ Sat W w' L := by
  refine c1 (lirs_Engine_Evict_calls ?_)
  rw [lirs_Engine_Evict_def, lirs_Engine_Evict_raw]
  exact call1_of (lnil_Len hs) fun e w ⟨he, hs⟩ => ⟨_, he, ite_true rfl ⟨rfl, hs⟩⟩
theorem lnil_Remove (hs : Sat W w L) {k : ByteArray} : Calls Try.prog id_lirs_Engine_Remove #[.pointer none, .string k] w fun e w' => e = .returned (.bool false) ∧ Sat W w' L := by
  refine c1 (lirs_Engine_Remove_calls ?_)
  rw [lirs_Engine_Remove_def, lirs_Engine_Remove_raw]
  exact call1_of (lnil_Has hs) fun e w ⟨he, hs⟩ => ⟨_, he, ite_true rfl ⟨rfl, hs⟩⟩
theorem lnil_Load (hs : Sat W w L) {k : ByteArray} : Calls Try.prog id_lirs_Engine_Load #[.pointer none, .string k] w fun e w' => e = .returned (.bool false) ∧ Sat W w' L := by
  refine c1 (lirs_Engine_Load_calls ?_)
  rw [lirs_Engine_Load_def, lirs_Engine_Load_raw]
  refine drawW_only L hs fun w hs => ?_
  refine ite_true rfl (keep_imp hs (keep_imp hs ⟨rfl, hs⟩))
theorem lnil_Keys (hs : Sat W w L) : Calls Try.prog id_lirs_Engine_Keys #[.pointer none] w fun e w' => e = .returned (.slice none 0 0) ∧ Sat W w' L := by
  refine c1 (lirs_Engine_Keys_calls ?_)
  rw [lirs_Engine_Keys_def, lirs_Engine_Keys_raw]
  exact ite_true rfl ⟨rfl, hs⟩
theorem lnil_Ghosts (hs : Sat W w L) : Calls Try.prog id_lirs_Engine_Ghosts #[.pointer none] w fun e w' => e = .returned (.slice none 0 0) ∧ Sat W w' L := by
  refine c1 (lirs_Engine_Ghosts_calls ?_)
  rw [lirs_Engine_Ghosts_def, lirs_Engine_Ghosts_raw]
  exact ite_true rfl ⟨rfl, hs⟩
theorem lnil_State (hs : Sat W w L) : Calls Try.prog id_lirs_Engine_State #[.pointer none] w fun e w' => e = .returned (.string str_empty) ∧ Sat W w' L := by
  refine c1 (lirs_Engine_State_calls ?_)
  rw [lirs_Engine_State_def, lirs_Engine_State_raw]
  exact ite_true rfl ⟨rfl, hs⟩
theorem lnil_Room (hs : Sat W w L) : Calls Try.prog id_lirs_Engine_Room #[.pointer none] w fun e w' => e = .returned (.int .i64 0) ∧ Sat W w' L := by
  refine c1 (lirs_Engine_Room_calls ?_)
  rw [lirs_Engine_Room_def, lirs_Engine_Room_raw]
  exact ite_true rfl ⟨rfl, hs⟩

set_option maxHeartbeats 1000000 in
set_option maxRecDepth 100000 in
theorem lcounts_walk {room : Int} {s0 : Sl} {ks : List ByteArray} [hr : ReadsR W s0 Rec.str ks] : Calls Try.prog id_hoardlaw13_LirsCounts #[.int .i64 room, .slice s0.a s0.n s0.c] W fun e w' => e = .returned (.bool true) ∧ KeptH W w' := by
  have hs := Sat.begin W
  refine law_of (hoardlaw13_LirsCounts_calls ?_)
  rw [hoardlaw13_LirsCounts_def, hoardlaw13_LirsCounts_raw]
  refine (long13 (s0 := s0) hs).mono fun e w ⟨hv, he, hsz, hs⟩ => ⟨_, he, ?_⟩
  refine ite_cases (fun h1 => ⟨rfl, hs⟩) (fun h1 => ?_)
  obtain ⟨hlen, hsz⟩ := hsz h1
  refine (lirs_New_at hs).mono fun e w ⟨b, he, hs⟩ => ⟨_, he, ite_false rfl ?_⟩
  have hR := roomR_range room
  have hx0 := lOk0 hR.1 hR.2
  generalize roomR room = c at hs hR hx0
  have loop : ∀ (f i : Nat) (w : World) (x : LirsS) (came went : Nat), i + f = ks.length → LOk c x → came ≤ i → went + (lRes x).length = came → Sat W w [lirR b c (3 * i) x, old W] → hoardlaw13_LirsCounts_l1 idJ (fun v w' => v = .bool true ∧ Sat W w' [old W]) (f + 1) s0 (some ⟨b, 0, none⟩) (came : Int) (went : Int) (i : Int) w := by
    clear hs
    intro f
    induction f with
    | zero =>
      intro i w x came went hi hx hci hcw hs
      have hn := rdb_len (s := s0) hs
      rw [hoardlaw13_LirsCounts_l1_raw]
      refine ite_false (decide_eq_false (by omega)) ?_
      rw [hoardlaw13_LirsCounts_j3_def, hoardlaw13_LirsCounts_j3_raw]
      exact call1_of (known13 hs) fun e w ⟨he, hs⟩ => ⟨_, he, rfl, by exact Sat.fin hs⟩
    | succ f ih =>
      intro i w x came went hi hx hci hcw hs
      have hn := rdb_len (s := s0) hs
      rw [hoardlaw13_LirsCounts_l1_raw]
      refine ite_true (decide_eq_true (by omega)) ?_
      repeat (first | with_reducible refine nilck_some ?_ | ((with_reducible refine atLd ?_); first | refine ld_b hs ?_ | refine ld_b (x := ⟨_, _, _⟩) hs ?_ | refine ld_r0 hs ?_ | refine ld_r1 hs ?_ | refine ld_rd0 ha_ hs ?_ | refine ld_rd1 ha_ hs ?_) | ((with_reducible refine isSt ?_); first | refine st_b hs fun w hs => ?_ | refine st_r0 hs fun w hs => ?_ | refine st_r1 hs fun w hs => ?_) | ((with_reducible refine isIdx ?_); first | refine idx_s hs fun b_ o_ hs => ?_ | refine idx_rd hs fun b_ o_ ha_ => ?_) | with_reducible refine newB_at hs fun b_ w hs => ?_ | ((with_reducible refine isLdS ?_); first | refine ldS_b ?_ | refine ldS_b (x := ⟨_, _, _⟩) ?_ | refine ldS_rs0 hs ?_ | refine ldS_rd0 ha_ ?_) | ((with_reducible refine isKeep ?_); first | refine keep_of hs ?_ | refine keep_imp hs ?_) | with_reducible refine when_om ?_ | with_reducible refine drawW_sat hs fun w hs => ?_)
      rw [Int.toNat_natCast]
      have hkey := hsz _ (getD_mem (d := default) (show i < ks.length by omega))
      generalize ks.getD i default = key at *
      have hm := (lMost_pos hx.c1).1
      have hc : 0 ≤ c := by have := hx.c1; omega
      refine call2_of (lirs_Access hs (by omega) hm hc (by omega)) fun e w ⟨l, he, hs⟩ => ⟨_, l, he, ?_⟩
      obtain ⟨hx2, hacc⟩ := lAcc_law hx (k := key) (by omega)
      have hl := hacc.len hx.w.res_nd hx2.w.res_nd
      have hle := hacc.le1
      have hcalm := hacc.calm
      have hln := rdb_len (s := l) hs
      generalize (lAcc c x key) = A at *
      obtain ⟨⟨hit, g⟩, y⟩ := A
      simp only at *
      have j2 : ∀ (came : Nat) (w : World), came ≤ i + 1 → went + g.length + (lRes y).length = came → Sat W w (recs Rec.str l g :: [lirR b c (3 * i + 3) y, old W]) → hoardlaw13_LirsCounts_j2 idJ (fun v w' => v = .bool true ∧ Sat W w' [old W]) (f + 1) s0 (some ⟨b, 0, none⟩) (came : Int) (went : Int) (i : Int) hit l w := by
        intro came w hci hcw hs
        rw [hoardlaw13_LirsCounts_j2_def, hoardlaw13_LirsCounts_j2_raw]
        refine call1_of (lirs_Len2 hs hx2 (by omega)) fun e w ⟨he, hs⟩ => ⟨_, he, ?_⟩
        rw [show IntKind.wrap .i64 ((went : Int) + (l.n : Int)) = ((went + g.length : Nat) : Int) by rw [i64_in _ (by omega)]; omega]
        rw [show IntKind.wrap .i64 ((came : Int) - ((went + g.length : Nat) : Int)) = (((lRes y).length : Nat) : Int) by rw [i64_in _ (by omega)]; omega]
        refine ite_false (by simp) ?_
        rw [show IntKind.wrap .i64 ((i : Int) + 1) = ((i + 1 : Nat) : Int) by rw [i64_in _ (by omega)]; omega]
        refine ite_cases (fun h2 => ?_) (fun h2 => ?_)
        · have hg0 := hcalm h2
          refine ite_false (decide_eq_false (by rw [hln, hg0]; simp)) ?_
          exact ih (i + 1) w y came (went + g.length) (by omega) hx2 hci (by omega) (by exact Sat.fin hs)
        · exact ih (i + 1) w y came (went + g.length) (by omega) hx2 hci (by omega) (by exact Sat.fin hs)
      refine ite_cases (fun h2 => ?_) (fun h2 => ?_)
      · have h2 : hit = false := by simpa using h2
        rw [show IntKind.wrap .i64 ((came : Int) + 1) = ((came + 1 : Nat) : Int) by rw [i64_in _ (by omega)]; omega]
        rw [h2] at hl
        simp only [Bool.false_eq_true, if_false] at hl
        exact j2 (came + 1) w (by omega) (by omega) (by exact Sat.fin hs)
      · have h2 : hit = true := by simpa using h2
        rw [h2] at hl
        simp only [if_true] at hl
        exact j2 came w (by omega) (by omega) (by exact Sat.fin hs)
  refine exM_of (ks.length + 1) ?_
  exact loop ks.length 0 w lirs0 0 0 (by omega) hx0 (Nat.le_refl _) rfl hs
end
end Go.Proofs.Ytgmhoenmhnlojaa
