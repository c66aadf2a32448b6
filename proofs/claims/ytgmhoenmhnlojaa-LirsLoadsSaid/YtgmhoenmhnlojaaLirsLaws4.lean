/- LirsOwn, LirsLoads: walks. -/
import Derived.Test.YtgmhoenmhnlojaaLirsLaws3
set_option linter.unusedVariables false
set_option linter.unusedSimpArgs false
set_option linter.unnecessarySimpa false
set_option linter.unusedSectionVars false
namespace Go.Proofs.Ytgmhoenmhnlojaa
open Go.Hb Go.IntWalk
section
variable {W w : World} {L M : List HP} {F : HP → List HP}
set_option maxHeartbeats 1000000 in
set_option maxRecDepth 100000 in
theorem lown_walk {room : Int} {s0 : Sl} {acts : List Act13} [hr : ReadsR W s0 act13R acts] : Calls Try.prog id_hoardlaw13_LirsOwn #[.int .i64 room, .slice s0.a s0.n s0.c] W fun e w' => e = .returned (.bool true) ∧ KeptH W w' := by
  have hs := Sat.begin W
  refine law_of (hoardlaw13_LirsOwn_calls ?_)
  rw [hoardlaw13_LirsOwn_def, hoardlaw13_LirsOwn_raw]
  refine (heavy13 (s0 := s0) hs).mono fun e w ⟨hv, he, hsz, hs⟩ => ⟨_, he, ?_⟩
  refine ite_cases (fun h1 => ⟨rfl, hs⟩) (fun h1 => ?_)
  have hsz := hsz h1
  refine (lirs_New_at hs).mono fun e w ⟨b, he, hs⟩ => ⟨_, he, ?_⟩
  refine (r13_New hs).mono fun e w ⟨b2, he, hs⟩ => ⟨_, he, ite_false rfl ?_⟩
  have hR := roomR_range room
  have hx0 := lOk0 hR.1 hR.2
  generalize roomR room = c at hs hR hx0
  have fin : ∀ w (x : LirsS) (n : Nat), n ≤ 300 → LOk c x → Sat W w [rrR b2 c x, lirR b c (3 * n) x, old W] → hoardlaw13_LirsOwn_j7 idJ (fun v w' => v = .bool true ∧ Sat W w' [old W]) (some ⟨b, 0, none⟩) (some ⟨b2, 0, none⟩) w := by
    intro w x n hn hx hs
    have hsm := hx.small
    have hrl := lRes_len x
    have hlen := hx.len
    have hc2 := hR.2
    rw [hoardlaw13_LirsOwn_j7_def, hoardlaw13_LirsOwn_j7_raw]
    refine call1_of (lirs_State hs (by omega)) fun e w ⟨he, hs⟩ => ⟨_, he, ?_⟩
    refine call1_of (r13_State hs hx.w (by omega) (by omega)) fun e w ⟨he, hs⟩ => ⟨_, he, ite_true (by rw [sEq_eq]; simp) ?_⟩
    refine (lirs_Keys hs (by omega)).mono fun e w ⟨k1, he, hs⟩ => ⟨_, he, ?_⟩
    refine (r13_Keys hs (by omega) (by omega)).mono fun e w ⟨k2, he, hs⟩ => ⟨_, he, ?_⟩
    refine call1_of (hoardlaw13_texts_at (a := k1) (b := k2) hs (by omega)) fun e w ⟨he, hs⟩ => ⟨_, he, ite_true (by simp) ?_⟩
    exact call1_of (known13 hs) fun e w ⟨he, hs⟩ => ⟨_, he, rfl, by exact Sat.fin hs⟩
  obtain ⟨N, hN⟩ : ∃ N : Nat, N = 201 := ⟨_, rfl⟩
  have loop : ∀ (f i : Nat) (w : World) (x : LirsS), i + f = N → LOk c x → Sat W w [rrR b2 c x, lirR b c (3 * i) x, old W] → hoardlaw13_LirsOwn_l1 idJ (fun v w' => v = .bool true ∧ Sat W w' [old W]) (f + 1) s0 (some ⟨b, 0, none⟩) (some ⟨b2, 0, none⟩) (i : Int) w := by
    clear hs
    intro f
    induction f with
    | zero =>
      intro i w x hi hx hs
      rw [hoardlaw13_LirsOwn_l1_raw]
      with_reducible refine ite_by (fun h1 => ?_) (fun h1 => ?_)
      · with_reducible refine ite_ltI (fun h2 => absurd h2 (by omega)) (fun h2 => ?_)
        exact fin w x i (by omega) hx hs
      · exact fin w x i (by omega) hx hs
    | succ f ih =>
      intro i w x hi hx hs
      have hn := rdb_len (s := s0) hs
      rw [hoardlaw13_LirsOwn_l1_raw]
      with_reducible refine ite_by (fun h1 => ?_) (fun h1 => ?_)
      · with_reducible refine ite_by (fun h2 => ?_) (fun h2 => ?_)
        · have hkey := hsz i (by omega) (by omega)
          rw [hoardlaw13_LirsOwn_j2_def, hoardlaw13_LirsOwn_j2_raw]
          repeat (first | with_reducible refine nilck_some ?_ | ((with_reducible refine atLd ?_); first | refine ld_b hs ?_ | refine ld_b (x := ⟨_, _, _⟩) hs ?_ | refine ld_r0 hs ?_ | refine ld_r1 hs ?_ | refine ld_rd0 ha_ hs ?_ | refine ld_rd1 ha_ hs ?_) | ((with_reducible refine isSt ?_); first | refine st_b hs fun w hs => ?_ | refine st_r0 hs fun w hs => ?_ | refine st_r1 hs fun w hs => ?_) | ((with_reducible refine isIdx ?_); first | refine idx_s hs fun b_ o_ hs => ?_ | refine idx_rd hs fun b_ o_ ha_ => ?_) | with_reducible refine newB_at hs fun b_ w hs => ?_ | ((with_reducible refine isLdS ?_); first | refine ldS_b ?_ | refine ldS_b (x := ⟨_, _, _⟩) ?_ | refine ldS_rs0 hs ?_ | refine ldS_rd0 ha_ ?_) | ((with_reducible refine isKeep ?_); first | refine keep_of hs ?_ | refine keep_imp hs ?_) | with_reducible refine when_om ?_ | with_reducible refine drawW_sat hs fun w hs => ?_)
          rw [Int.toNat_natCast]
          refine call1_of (act13 (W := W) (M := [old W]) (b := b) (b2 := b2) (N := 3 * i) (a := acts.getD i default) (by exact Sat.fin hs) hx (by omega) hkey) fun e w ⟨he, hs⟩ => ⟨_, he, ite_false rfl ?_⟩
          have hx2 := lAct_ok (a := acts.getD i default) hx (by omega)
          generalize lAct c x (acts.getD i default) = y at *
          have hsm := hx2.small
          have hrl := lRes_len y
          have hlen := hx2.len
          have hc2 := hR.2
          have hgl := lThose_le y.s 3
          refine (lirs_Keys hs (by omega)).mono fun e w ⟨k1, he, hs⟩ => ⟨_, he, ?_⟩
          refine (lirs_Ghosts hs (by omega)).mono fun e w ⟨g1, he, hs⟩ => ⟨_, he, ?_⟩
          have hwr : ∀ j : Nat, j < 100000 → IntKind.wrap .i64 ((j : Int) + 1) = ((j + 1 : Nat) : Int) := fun j hj => by rw [i64_in _ (by omega)]; omega
          -- the ghosts' row
          have spoil5 : ∀ (h j : Nat) (w : World) (gs : List ByteArray), gs.length ≤ 5000 → j + h = gs.length → Sat W w [recs Rec.str g1 gs, rrR b2 c y, lirR b c (3 * i + 3) y, old W] →
              hoardlaw13_LirsOwn_l5 idJ (fun v w' => v = .bool true ∧ Sat W w' [old W]) (f + 1) (h + 1) s0 (some ⟨b, 0, none⟩) (some ⟨b2, 0, none⟩) (i : Int) g1 (j : Int) w := by
            intro h
            induction h with
            | zero =>
              intro j w gs hgs hj hs
              have hln := rdb_len (s := g1) hs
              rw [hoardlaw13_LirsOwn_l5_raw]
              refine ite_false (decide_eq_false (by omega)) ?_
              rw [hoardlaw13_LirsOwn_j6_def, hoardlaw13_LirsOwn_j6_raw, hwr i (by omega)]
              exact ih (i + 1) w y (by omega) hx2 (by exact Sat.fin hs)
            | succ h ih2 =>
              intro j w gs hgs hj hs
              have hln := rdb_len (s := g1) hs
              rw [hoardlaw13_LirsOwn_l5_raw]
              refine ite_true (decide_eq_true (by omega)) ?_
              repeat (first | with_reducible refine nilck_some ?_ | ((with_reducible refine atLd ?_); first | refine ld_b hs ?_ | refine ld_b (x := ⟨_, _, _⟩) hs ?_ | refine ld_r0 hs ?_ | refine ld_r1 hs ?_ | refine ld_rd0 ha_ hs ?_ | refine ld_rd1 ha_ hs ?_) | ((with_reducible refine isSt ?_); first | refine st_b hs fun w hs => ?_ | refine st_r0 hs fun w hs => ?_ | refine st_r1 hs fun w hs => ?_) | ((with_reducible refine isIdx ?_); first | refine idx_s hs fun b_ o_ hs => ?_ | refine idx_rd hs fun b_ o_ ha_ => ?_) | with_reducible refine newB_at hs fun b_ w hs => ?_ | ((with_reducible refine isLdS ?_); first | refine ldS_b ?_ | refine ldS_b (x := ⟨_, _, _⟩) ?_ | refine ldS_rs0 hs ?_ | refine ldS_rd0 ha_ ?_) | ((with_reducible refine isKeep ?_); first | refine keep_of hs ?_ | refine keep_imp hs ?_) | with_reducible refine when_om ?_ | with_reducible refine drawW_sat hs fun w hs => ?_)
              rw [hwr j (by omega)]
              refine ih2 (j + 1) w _ ?_ ?_ (by exact Sat.fin hs)
              · simp; omega
              · simp; omega
          have j4 : ∀ (w : World), Sat W w [recs Rec.str g1 (lThose y.s 3), rrR b2 c y, lirR b c (3 * i + 3) y, old W] → hoardlaw13_LirsOwn_j4 idJ (fun v w' => v = .bool true ∧ Sat W w' [old W]) (f + 1) s0 (some ⟨b, 0, none⟩) (some ⟨b2, 0, none⟩) (i : Int) g1 w := by
            intro w hs
            rw [hoardlaw13_LirsOwn_j4_def, hoardlaw13_LirsOwn_j4_raw]
            refine exM_of ((lThose y.s 3).length + 1) ?_
            exact spoil5 _ 0 w _ (by omega) (by omega) hs
          have spoil3 : ∀ (h j : Nat) (w : World) (ks : List ByteArray), ks.length ≤ 5000 → j + h = ks.length → Sat W w [recs Rec.str k1 ks, recs Rec.str g1 (lThose y.s 3), rrR b2 c y, lirR b c (3 * i + 3) y, old W] →
              hoardlaw13_LirsOwn_l3 idJ (fun v w' => v = .bool true ∧ Sat W w' [old W]) (f + 1) (h + 1) s0 (some ⟨b, 0, none⟩) (some ⟨b2, 0, none⟩) (i : Int) k1 g1 (j : Int) w := by
            intro h
            induction h with
            | zero =>
              intro j w ks hks hj hs
              have hln := rdb_len (s := k1) hs
              rw [hoardlaw13_LirsOwn_l3_raw]
              refine ite_false (decide_eq_false (by omega)) ?_
              exact j4 w (by exact Sat.fin hs)
            | succ h ih2 =>
              intro j w ks hks hj hs
              have hln := rdb_len (s := k1) hs
              rw [hoardlaw13_LirsOwn_l3_raw]
              refine ite_true (decide_eq_true (by omega)) ?_
              repeat (first | with_reducible refine nilck_some ?_ | ((with_reducible refine atLd ?_); first | refine ld_b hs ?_ | refine ld_b (x := ⟨_, _, _⟩) hs ?_ | refine ld_r0 hs ?_ | refine ld_r1 hs ?_ | refine ld_rd0 ha_ hs ?_ | refine ld_rd1 ha_ hs ?_) | ((with_reducible refine isSt ?_); first | refine st_b hs fun w hs => ?_ | refine st_r0 hs fun w hs => ?_ | refine st_r1 hs fun w hs => ?_) | ((with_reducible refine isIdx ?_); first | refine idx_s hs fun b_ o_ hs => ?_ | refine idx_rd hs fun b_ o_ ha_ => ?_) | with_reducible refine newB_at hs fun b_ w hs => ?_ | ((with_reducible refine isLdS ?_); first | refine ldS_b ?_ | refine ldS_b (x := ⟨_, _, _⟩) ?_ | refine ldS_rs0 hs ?_ | refine ldS_rd0 ha_ ?_) | ((with_reducible refine isKeep ?_); first | refine keep_of hs ?_ | refine keep_imp hs ?_) | with_reducible refine when_om ?_ | with_reducible refine drawW_sat hs fun w hs => ?_)
              rw [hwr j (by omega)]
              refine ih2 (j + 1) w _ ?_ ?_ (by exact Sat.fin hs)
              · simp; omega
              · simp; omega
          refine exM_of ((lRes y).length + 1) ?_
          exact spoil3 _ 0 w (lRes y) (by omega) (by omega) (by exact Sat.fin hs)
        · exact fin w x i (by omega) hx hs
      · exact fin w x i (by omega) hx hs
  refine exM_of (N + 1) ?_
  exact loop N 0 w lirs0 (by omega) hx0 hs

set_option maxHeartbeats 2000000 in
set_option maxRecDepth 100000 in
theorem lloads_walk {room : Int} {s0 s1 : Sl} {acts : List Act13} {ks : List ByteArray} [hr : ReadsR W s0 act13R acts] [hr2 : ReadsR W s1 Rec.str ks] : Calls Try.prog id_hoardlaw13_LirsLoads #[.int .i64 room, .slice s0.a s0.n s0.c, .slice s1.a s1.n s1.c] W fun e w' => e = .returned (.bool true) ∧ KeptH W w' := by
  have hs := Sat.begin W
  refine law_of (hoardlaw13_LirsLoads_calls ?_)
  rw [hoardlaw13_LirsLoads_def, hoardlaw13_LirsLoads_raw]
  refine (heavy13 (s0 := s0) hs).mono fun e w ⟨hv, he, hsz, hs⟩ => ⟨_, he, ?_⟩
  refine ite_cases (fun h1 => ⟨rfl, hs⟩) (fun h1 => ?_)
  have hsz := hsz h1
  refine (long13 (s0 := s1) hs).mono fun e w ⟨hv2, he, hsz2, hs⟩ => ⟨_, he, ?_⟩
  refine ite_cases (fun h1 => ⟨rfl, hs⟩) (fun h1 => ?_)
  obtain ⟨hkl, hsz2⟩ := hsz2 h1
  rw [hoardlaw13_LirsLoads_j1_def, hoardlaw13_LirsLoads_j1_raw]
  refine (lirs_New_at hs).mono fun e w ⟨b, he, hs⟩ => ⟨_, he, ?_⟩
  refine (r13_New hs).mono fun e w ⟨b2, he, hs⟩ => ⟨_, he, ite_false rfl ?_⟩
  have hR := roomR_range room
  have hx0 := lOk0 hR.1 hR.2
  generalize roomR room = c at hs hR hx0
  have hc2 := hR.2
  have hm := (lMost_pos hR.1).1
  have hwr : ∀ j : Nat, j < 100000 → IntKind.wrap .i64 ((j : Int) + 1) = ((j + 1 : Nat) : Int) := fun j hj => by rw [i64_in _ (by omega)]; omega
  have fin : ∀ w (x : LirsS) (n : Nat), n ≤ 300 → LOk c x → Sat W w [lirR b c (3 * n) x, old W] → hoardlaw13_LirsLoads_j4 idJ (fun v w' => v = .bool true ∧ Sat W w' [old W]) s1 (some ⟨b, 0, none⟩) w := by
    intro w x n hn hx hs
    rw [hoardlaw13_LirsLoads_j4_def, hoardlaw13_LirsLoads_j4_raw]
    have loop : ∀ (f i : Nat) (w : World) (x : LirsS), i + f = ks.length → LOk c x → Sat W w [lirR b c (3 * n + 2 * i) x, old W] → hoardlaw13_LirsLoads_l5 idJ (fun v w' => v = .bool true ∧ Sat W w' [old W]) (f + 1) s1 (some ⟨b, 0, none⟩) (i : Int) w := by
      clear hs hx
      intro f
      induction f with
      | zero =>
        intro i w x hi hx hs
        have hn1 := rdb_len (s := s1) hs
        rw [hoardlaw13_LirsLoads_l5_raw]
        refine ite_false (decide_eq_false (by omega)) ?_
        rw [hoardlaw13_LirsLoads_j9_def, hoardlaw13_LirsLoads_j9_raw]
        exact call1_of (known13 hs) fun e w ⟨he, hs⟩ => ⟨_, he, rfl, by exact Sat.fin hs⟩
      | succ f ih =>
        intro i w x hi hx hs
        have hn1 := rdb_len (s := s1) hs
        have hsm := hx.small
        have hrl := lRes_len x
        have hlen := hx.len
        have hxw := hx.w
        rw [hoardlaw13_LirsLoads_l5_raw]
        refine ite_true (decide_eq_true (by omega)) ?_
        repeat (first | with_reducible refine nilck_some ?_ | ((with_reducible refine atLd ?_); first | refine ld_b hs ?_ | refine ld_b (x := ⟨_, _, _⟩) hs ?_ | refine ld_r0 hs ?_ | refine ld_r1 hs ?_ | refine ld_rd0 ha_ hs ?_ | refine ld_rd1 ha_ hs ?_) | ((with_reducible refine isSt ?_); first | refine st_b hs fun w hs => ?_ | refine st_r0 hs fun w hs => ?_ | refine st_r1 hs fun w hs => ?_) | ((with_reducible refine isIdx ?_); first | refine idx_s hs fun b_ o_ hs => ?_ | refine idx_rd hs fun b_ o_ ha_ => ?_) | with_reducible refine newB_at hs fun b_ w hs => ?_ | ((with_reducible refine isLdS ?_); first | refine ldS_b ?_ | refine ldS_b (x := ⟨_, _, _⟩) ?_ | refine ldS_rs0 hs ?_ | refine ldS_rd0 ha_ ?_) | ((with_reducible refine isKeep ?_); first | refine keep_of hs ?_ | refine keep_imp hs ?_) | with_reducible refine when_om ?_ | with_reducible refine drawW_sat hs fun w hs => ?_)
        rw [Int.toNat_natCast]
        have hkey := hsz2 _ (getD_mem (d := default) (show i < ks.length by omega))
        have hkz : (ks.getD i default).size < 64 := by omega
        refine call1_of (lirs_Has hs hkz) fun e w ⟨he, hs⟩ => ⟨_, he, ?_⟩
        refine call1_of (lirs_Len2 hs hx (by omega)) fun e w ⟨he, hs⟩ => ⟨_, he, ?_⟩
        refine (lirs_Keys hs (by omega)).mono fun e w ⟨k1, he, hs⟩ => ⟨_, he, ?_⟩
        have hk1 := rdb_len (s := k1) hs
        repeat (first | with_reducible refine nilck_some ?_ | ((with_reducible refine atLd ?_); first | refine ld_b hs ?_ | refine ld_b (x := ⟨_, _, _⟩) hs ?_ | refine ld_r0 hs ?_ | refine ld_r1 hs ?_ | refine ld_rd0 ha_ hs ?_ | refine ld_rd1 ha_ hs ?_) | ((with_reducible refine isSt ?_); first | refine st_b hs fun w hs => ?_ | refine st_r0 hs fun w hs => ?_ | refine st_r1 hs fun w hs => ?_) | ((with_reducible refine isIdx ?_); first | refine idx_s hs fun b_ o_ hs => ?_ | refine idx_rd hs fun b_ o_ ha_ => ?_) | with_reducible refine newB_at hs fun b_ w hs => ?_ | ((with_reducible refine isLdS ?_); first | refine ldS_b ?_ | refine ldS_b (x := ⟨_, _, _⟩) ?_ | refine ldS_rs0 hs ?_ | refine ldS_rd0 ha_ ?_) | ((with_reducible refine isKeep ?_); first | refine keep_of hs ?_ | refine keep_imp hs ?_) | with_reducible refine when_om ?_ | with_reducible refine drawW_sat hs fun w hs => ?_)
        refine call1_of (lirs_Load hs hkz hm (by omega)) fun e w ⟨he, hs⟩ => ⟨_, he, ?_⟩
        obtain ⟨hy, ho, h3, h4⟩ := lLoad_law hx (k := ks.getD i default) hkz
        have hyl := lLoad_len hx (k := ks.getD i default) hkz
        have hstay : ∀ z ∈ lRes x, z ∈ lRes (lLoad c x (ks.getD i default)).2 := by
          intro z hz
          cases hb : (lLoad c x (ks.getD i default)).1 with
          | true => exact (h3 hb z).2 (.inl hz)
          | false => rw [h4 hb]; exact hz
        have hkin : (lLoad c x (ks.getD i default)).1 = true → ks.getD i default ∈ lRes (lLoad c x (ks.getD i default)).2 := fun hb => (h3 hb _).2 (.inr rfl)
        generalize hA : lLoad c x (ks.getD i default) = A at *
        obtain ⟨ok, y⟩ := A
        simp only at *
        have j6 : ∀ w, Sat W w [recs Rec.str k1 (lRes x), lirR b c (3 * n + 2 * i + 2) y, old W] → hoardlaw13_LirsLoads_j6 idJ (fun v w' => v = .bool true ∧ Sat W w' [old W]) (f + 1) s1 (some ⟨b, 0, none⟩) (i : Int) k1 w := by
          clear hs
          intro w hs
          rw [hoardlaw13_LirsLoads_j6_def, hoardlaw13_LirsLoads_j6_raw]
          have loop7 : ∀ (h j : Nat) (w : World), j + h = (lRes x).length → Sat W w [recs Rec.str k1 (lRes x), lirR b c (3 * n + 2 * i + 2) y, old W] → hoardlaw13_LirsLoads_l7 idJ (fun v w' => v = .bool true ∧ Sat W w' [old W]) (f + 1) (h + 1) s1 (some ⟨b, 0, none⟩) (i : Int) k1 (j : Int) w := by
            intro h
            induction h with
            | zero =>
              intro j w hj hs
              rw [hoardlaw13_LirsLoads_l7_raw]
              refine ite_false (decide_eq_false (by omega)) ?_
              rw [hoardlaw13_LirsLoads_j8_def, hoardlaw13_LirsLoads_j8_raw, hwr i (by omega)]
              exact ih (i + 1) w y (by omega) hy (by exact Sat.fin hs)
            | succ h ih2 =>
              intro j w hj hs
              rw [hoardlaw13_LirsLoads_l7_raw]
              refine ite_true (decide_eq_true (by omega)) ?_
              repeat (first | with_reducible refine nilck_some ?_ | ((with_reducible refine atLd ?_); first | refine ld_b hs ?_ | refine ld_b (x := ⟨_, _, _⟩) hs ?_ | refine ld_r0 hs ?_ | refine ld_r1 hs ?_ | refine ld_rd0 ha_ hs ?_ | refine ld_rd1 ha_ hs ?_) | ((with_reducible refine isSt ?_); first | refine st_b hs fun w hs => ?_ | refine st_r0 hs fun w hs => ?_ | refine st_r1 hs fun w hs => ?_) | ((with_reducible refine isIdx ?_); first | refine idx_s hs fun b_ o_ hs => ?_ | refine idx_rd hs fun b_ o_ ha_ => ?_) | with_reducible refine newB_at hs fun b_ w hs => ?_ | ((with_reducible refine isLdS ?_); first | refine ldS_b ?_ | refine ldS_b (x := ⟨_, _, _⟩) ?_ | refine ldS_rs0 hs ?_ | refine ldS_rd0 ha_ ?_) | ((with_reducible refine isKeep ?_); first | refine keep_of hs ?_ | refine keep_imp hs ?_) | with_reducible refine when_om ?_ | with_reducible refine drawW_sat hs fun w hs => ?_)
              rw [Int.toNat_natCast]
              have hmem : (lRes x).getD j default ∈ lRes x := getD_mem (by omega)
              refine call1_of (lirs_Has hs (lRes_small hxw hmem)) fun e w ⟨he, hs⟩ => ⟨_, he, ?_⟩
              rw [decide_eq_true (hstay _ hmem)]
              refine ite_false rfl ?_
              rw [hwr j (by omega)]
              exact ih2 (j + 1) w (by omega) (by exact Sat.fin hs)
          refine exM_of ((lRes x).length + 1) ?_
          exact loop7 _ 0 w (by omega) hs
        have same : ∀ w, ok = false → Sat W w [recs Rec.str k1 (lRes x), lirR b c (3 * n + 2 * i + 2) y, old W] → ∀ K : WP, (∀ w, Sat W w [recs Rec.str k1 (lRes x), lirR b c (3 * n + 2 * i + 2) y, old W] → K w) → call1 (.int .i64) Try.prog id_lirs_Engine_Len [.pointer (some ⟨b, 0, none⟩)] (fun x_31 => ite2 (x_31 != ((lRes x).length : Int)) (fun w' => Value.bool false = Value.bool true ∧ Sat W w' [old W]) K) w := by
          intro w hb hs K hK
          refine call1_of (lirs_Len2 hs hy (by omega)) fun e w ⟨he, hs⟩ => ⟨_, he, ?_⟩
          rw [hb] at hyl
          refine ite_false (by rw [hyl]; simp) (hK w (by exact Sat.fin hs))
        by_cases hk : ks.getD i default ∈ lRes x
        · have hb : ok = false := by rw [ho]; exact decide_eq_false fun h => h.1 hk
          rw [decide_eq_true hk, hb]
          refine ite_false rfl (ite_false rfl (ite_false rfl (ite_true rfl ?_)))
          exact same w hb (by exact Sat.fin hs) _ fun w hs => j6 w hs
        · rw [decide_eq_false hk]
          refine ite_true rfl ?_
          refine call1_of (lirs_Room hs) fun e w ⟨he, hs⟩ => ⟨_, he, ?_⟩
          have hb : ok = decide (((lRes x).length : Int) < c) := by
            rw [ho]; congr 1; exact propext ⟨fun h => h.2, fun h => ⟨hk, h⟩⟩
          rw [← hb]
          refine ite_false (by simp) ?_
          refine ite_cases (fun h5 => ?_) (fun h5 => ?_)
          · repeat (first | with_reducible refine nilck_some ?_ | ((with_reducible refine atLd ?_); first | refine ld_b hs ?_ | refine ld_b (x := ⟨_, _, _⟩) hs ?_ | refine ld_r0 hs ?_ | refine ld_r1 hs ?_ | refine ld_rd0 ha_ hs ?_ | refine ld_rd1 ha_ hs ?_) | ((with_reducible refine isSt ?_); first | refine st_b hs fun w hs => ?_ | refine st_r0 hs fun w hs => ?_ | refine st_r1 hs fun w hs => ?_) | ((with_reducible refine isIdx ?_); first | refine idx_s hs fun b_ o_ hs => ?_ | refine idx_rd hs fun b_ o_ ha_ => ?_) | with_reducible refine newB_at hs fun b_ w hs => ?_ | ((with_reducible refine isLdS ?_); first | refine ldS_b ?_ | refine ldS_b (x := ⟨_, _, _⟩) ?_ | refine ldS_rs0 hs ?_ | refine ldS_rd0 ha_ ?_) | ((with_reducible refine isKeep ?_); first | refine keep_of hs ?_ | refine keep_imp hs ?_) | with_reducible refine when_om ?_ | with_reducible refine drawW_sat hs fun w hs => ?_)
            refine call1_of (lirs_Has hs hkz) fun e w ⟨he, hs⟩ => ⟨_, he, ?_⟩
            rw [decide_eq_true (hkin h5)]
            refine ite_false rfl ?_
            refine call1_of (lirs_Len2 hs hy (by omega)) fun e w ⟨he, hs⟩ => ⟨_, he, ?_⟩
            rw [h5, if_pos rfl] at hyl
            rw [hwr _ (by omega), hyl]
            refine ite_false (by simp) ?_
            rw [h5]
            refine ite_false rfl ?_
            exact j6 w (by exact Sat.fin hs)
          · rw [h5]
            refine ite_true rfl ?_
            exact same w h5 (by exact Sat.fin hs) _ fun w hs => j6 w hs
    refine exM_of (ks.length + 1) ?_
    exact loop ks.length 0 w x (by omega) hx hs
  obtain ⟨N, hN⟩ : ∃ N : Nat, N = 201 := ⟨_, rfl⟩
  have loop : ∀ (f i : Nat) (w : World) (x : LirsS), i + f = N → LOk c x → Sat W w [rrR b2 c x, lirR b c (3 * i) x, old W] → hoardlaw13_LirsLoads_l2 idJ (fun v w' => v = .bool true ∧ Sat W w' [old W]) (f + 1) s0 s1 (some ⟨b, 0, none⟩) (some ⟨b2, 0, none⟩) (i : Int) w := by
    clear hs
    intro f
    induction f with
    | zero =>
      intro i w x hi hx hs
      rw [hoardlaw13_LirsLoads_l2_raw]
      with_reducible refine ite_by (fun h1 => ?_) (fun h1 => ?_)
      · with_reducible refine ite_ltI (fun h2 => absurd h2 (by omega)) (fun h2 => ?_)
        exact fin w x i (by omega) hx (by exact Sat.fin hs)
      · exact fin w x i (by omega) hx (by exact Sat.fin hs)
    | succ f ih =>
      intro i w x hi hx hs
      have hn := rdb_len (s := s0) hs
      rw [hoardlaw13_LirsLoads_l2_raw]
      with_reducible refine ite_by (fun h1 => ?_) (fun h1 => ?_)
      · with_reducible refine ite_by (fun h2 => ?_) (fun h2 => ?_)
        · have hkey := hsz i (by omega) (by omega)
          rw [hoardlaw13_LirsLoads_j3_def, hoardlaw13_LirsLoads_j3_raw]
          repeat (first | with_reducible refine nilck_some ?_ | ((with_reducible refine atLd ?_); first | refine ld_b hs ?_ | refine ld_b (x := ⟨_, _, _⟩) hs ?_ | refine ld_r0 hs ?_ | refine ld_r1 hs ?_ | refine ld_rd0 ha_ hs ?_ | refine ld_rd1 ha_ hs ?_) | ((with_reducible refine isSt ?_); first | refine st_b hs fun w hs => ?_ | refine st_r0 hs fun w hs => ?_ | refine st_r1 hs fun w hs => ?_) | ((with_reducible refine isIdx ?_); first | refine idx_s hs fun b_ o_ hs => ?_ | refine idx_rd hs fun b_ o_ ha_ => ?_) | with_reducible refine newB_at hs fun b_ w hs => ?_ | ((with_reducible refine isLdS ?_); first | refine ldS_b ?_ | refine ldS_b (x := ⟨_, _, _⟩) ?_ | refine ldS_rs0 hs ?_ | refine ldS_rd0 ha_ ?_) | ((with_reducible refine isKeep ?_); first | refine keep_of hs ?_ | refine keep_imp hs ?_) | with_reducible refine when_om ?_ | with_reducible refine drawW_sat hs fun w hs => ?_)
          rw [Int.toNat_natCast]
          refine call1_of (act13 (W := W) (M := [old W]) (b := b) (b2 := b2) (N := 3 * i) (a := acts.getD i default) (by exact Sat.fin hs) hx (by omega) hkey) fun e w ⟨he, hs⟩ => ⟨_, he, ?_⟩
          have hx2 := lAct_ok (a := acts.getD i default) hx (by omega)
          rw [i64_in _ (by omega)]
          exact ih (i + 1) w _ (by omega) hx2 (by exact Sat.fin hs)
        · exact fin w x i (by omega) hx (by exact Sat.fin hs)
      · exact fin w x i (by omega) hx (by exact Sat.fin hs)
  refine exM_of (N + 1) ?_
  exact loop N 0 w lirs0 (by omega) hx0 hs
end
end Go.Proofs.Ytgmhoenmhnlojaa
