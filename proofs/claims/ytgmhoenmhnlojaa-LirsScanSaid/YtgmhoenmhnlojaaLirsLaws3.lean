/- LirsOwn, LirsRemoves, LirsEmpties, LirsLoads: walks. -/
import Derived.Test.YtgmhoenmhnlojaaLirsLaws
set_option linter.unusedVariables false
set_option linter.unusedSimpArgs false
set_option linter.unnecessarySimpa false
set_option linter.unusedSectionVars false
namespace Go.Hb
theorem lRes_small {x : LirsS} (h : LW x) {k : ByteArray} (hk : k ∈ lRes x) : k.size < 64 := by
  rcases mem_lRes.1 hk with h1 | h1
  · exact h.qsm k h1
  · exact h.ssm _ h1
theorem mem_those {S : SL} {i : Int} {k : ByteArray} : k ∈ lThose S i ↔ (k, i) ∈ S := by
  unfold lThose
  rw [List.mem_map]
  constructor
  · rintro ⟨e, he, rfl⟩
    obtain ⟨h1, h2⟩ := List.mem_filter.1 he
    have : e.2 = i := by simpa using h2
    rw [← this]; exact h1
  · intro h
    exact ⟨_, List.mem_filter.2 ⟨h, by simp⟩, rfl⟩
theorem lRem_len {c : Int} {x : LirsS} {k : ByteArray} (h : LOk c x) : (lRes (lRem x k).2).length + (if k ∈ lRes x then 1 else 0) = (lRes x).length := by
  obtain ⟨h1, h2, h3, h4⟩ := lRem_law h (k := k)
  by_cases hk : k ∈ lRes x
  · rw [if_pos hk]
    rw [decide_eq_true hk] at h2
    have hm := (h3 h2).1
    have hp : (lRes (lRem x k).2).Perm (gTake (lRes x) k) := perm_of_mem h1.w.res_nd (gTake_nodup h.w.res_nd) fun z => by rw [hm, gTake_mem]
    have := (gTake_perm1 h.w.res_nd hk).length_eq
    rw [hp.length_eq]
    simp only [List.length_cons] at this
    omega
  · rw [if_neg hk]
    rw [decide_eq_false hk] at h2
    rw [h4 h2]; rfl
theorem lLoad_len {c : Int} {x : LirsS} {k : ByteArray} (h : LOk c x) (hz : k.size < 64) : (lRes (lLoad c x k).2).length = (lRes x).length + (if (lLoad c x k).1 then 1 else 0) := by
  obtain ⟨h1, h2, h3, h4⟩ := lLoad_law h (k := k) hz
  cases ho : (lLoad c x k).1 with
  | true =>
    have hm := h3 ho
    rw [ho] at h2
    have hk := (of_decide_eq_true h2.symm).1
    have hp : (lRes (lLoad c x k).2).Perm (k :: lRes x) := perm_of_mem h1.w.res_nd (List.nodup_cons.2 ⟨hk, h.w.res_nd⟩) fun z => by
      rw [hm, List.mem_cons]
      exact ⟨fun h => h.symm, fun h => h.symm⟩
    rw [hp.length_eq]; rfl
  | false => rw [h4 ho]; rfl
end Go.Hb
namespace Go.Proofs.Ytgmhoenmhnlojaa
open Go.Hb Go.IntWalk
section
variable {W w : World} {L M : List HP} {F : HP → List HP}
set_option maxHeartbeats 1000000 in
set_option maxRecDepth 100000 in
theorem lremoves_walk {room : Int} {s0 : Sl} {acts : List Act13} {key : ByteArray} [hr : ReadsR W s0 act13R acts] : Calls Try.prog id_hoardlaw13_LirsRemoves #[.int .i64 room, .slice s0.a s0.n s0.c, .string key] W fun e w' => e = .returned (.bool true) ∧ KeptH W w' := by
  have hs := Sat.begin W
  refine law_of (hoardlaw13_LirsRemoves_calls ?_)
  rw [hoardlaw13_LirsRemoves_def, hoardlaw13_LirsRemoves_raw]
  refine (heavy13 (s0 := s0) hs).mono fun e w ⟨hv, he, hsz, hs⟩ => ⟨_, he, ?_⟩
  refine ite_cases (fun h1 => ⟨rfl, hs⟩) (fun h1 => ?_)
  have hsz := hsz h1
  with_reducible refine ite_by (fun hk40 => ?_) (fun hk40 => ?_)
  · exact ⟨rfl, hs⟩
  have hkz : key.size < 64 := by omega
  rw [hoardlaw13_LirsRemoves_j1_def, hoardlaw13_LirsRemoves_j1_raw]
  refine (lirs_New_at hs).mono fun e w ⟨b, he, hs⟩ => ⟨_, he, ?_⟩
  refine (r13_New hs).mono fun e w ⟨b2, he, hs⟩ => ⟨_, he, ite_false rfl ?_⟩
  have hR := roomR_range room
  have hx0 := lOk0 hR.1 hR.2
  generalize roomR room = c at hs hR hx0
  have fin : ∀ w (x : LirsS) (n : Nat), n ≤ 300 → LOk c x → Sat W w [rrR b2 c x, lirR b c (3 * n) x, old W] → hoardlaw13_LirsRemoves_j4 idJ (fun v w' => v = .bool true ∧ Sat W w' [old W]) key (some ⟨b, 0, none⟩) w := by
    intro w x n hn hx hs
    have hsm := hx.small
    have hrl := lRes_len x
    have hlen := hx.len
    have hc2 := hR.2
    obtain ⟨hy, h2, h3, h4⟩ := lRem_law hx (k := key)
    have hyl := lRem_len hx (k := key)
    have hlt : (lRes x).length ≤ 1024 := by omega
    rw [hoardlaw13_LirsRemoves_j4_def, hoardlaw13_LirsRemoves_j4_raw]
    refine (lirs_Keys hs (by omega)).mono fun e w ⟨k1, he, hs⟩ => ⟨_, he, ?_⟩
    refine call1_of (lirs_Has hs hkz) fun e w ⟨he, hs⟩ => ⟨_, he, ?_⟩
    refine call1_of (lirs_Remove hs hkz (by omega)) fun e w ⟨he, hs⟩ => ⟨_, he, ?_⟩
    rw [h2]
    refine ite_false (by simp) ?_
    refine call1_of (lirs_Has hs hkz) fun e w ⟨he, hs⟩ => ⟨_, he, ?_⟩
    have hno : key ∉ lRes (lRem x key).2 := by
      by_cases hk : key ∈ lRes x
      · rw [decide_eq_true hk] at h2
        rw [(h3 h2).1]
        exact fun h => h.2 rfl
      · rw [decide_eq_false hk] at h2
        rw [h4 h2]; exact hk
    rw [decide_eq_false hno]
    refine ite_false rfl ?_
    have hstay : ∀ z ∈ lRes x, z ≠ key → z ∈ lRes (lRem x key).2 := by
      intro z hz hne
      by_cases hk : key ∈ lRes x
      · rw [decide_eq_true hk] at h2
        exact ((h3 h2).1 z).2 ⟨hz, hne⟩
      · rw [decide_eq_false hk] at h2
        rw [h4 h2]; exact hz
    have hng : key ∈ lRes x → key ∉ lThose (lRem x key).2.s 3 := by
      intro hk
      rw [decide_eq_true hk] at h2
      rw [mem_those]; exact (h3 h2).2
    have hghl := lThose_le (lRem x key).2.s 3
    have hysm := hy.small
    have hk1 := rdb_len (s := k1) hs
    have hxw := hx.w
    generalize (lRem x key).2 = y at *
    have j5 : ∀ w, Sat W w [recs Rec.str k1 (lRes x), lirR b c (3 * n) y, old W] → hoardlaw13_LirsRemoves_j5 idJ (fun v w' => v = .bool true ∧ Sat W w' [old W]) key (some ⟨b, 0, none⟩) k1 (decide (key ∈ lRes x)) w := by
      clear hs
      intro w hs
      rw [hoardlaw13_LirsRemoves_j5_def, hoardlaw13_LirsRemoves_j5_raw]
      have j8 : ∀ (m : Int) w, m = ((lRes y).length : Int) → Sat W w [recs Rec.str k1 (lRes x), lirR b c (3 * n) y, old W] → hoardlaw13_LirsRemoves_j8 idJ (fun v w' => v = .bool true ∧ Sat W w' [old W]) (some ⟨b, 0, none⟩) m w := by
        intro m w hm hs
        rw [hoardlaw13_LirsRemoves_j8_def, hoardlaw13_LirsRemoves_j8_raw]
        refine call1_of (lirs_Len2 hs hy (by omega)) fun e w ⟨he, hs⟩ => ⟨_, he, ?_⟩
        refine ite_true (by rw [hm]; simp) ?_
        exact call1_of (known13 hs) fun e w ⟨he, hs⟩ => ⟨_, he, rfl, by exact Sat.fin hs⟩
      have loop : ∀ (f i : Nat) (w : World), i + f = (lRes x).length → Sat W w [recs Rec.str k1 (lRes x), lirR b c (3 * n) y, old W] → hoardlaw13_LirsRemoves_l6 idJ (fun v w' => v = .bool true ∧ Sat W w' [old W]) (f + 1) key (some ⟨b, 0, none⟩) k1 (decide (key ∈ lRes x)) (i : Int) w := by
        intro f
        induction f with
        | zero =>
          intro i w hi hs
          rw [hoardlaw13_LirsRemoves_l6_raw]
          refine ite_false (decide_eq_false (by omega)) ?_
          rw [hoardlaw13_LirsRemoves_j7_def, hoardlaw13_LirsRemoves_j7_raw]
          refine ite_cases (fun h5 => ?_) (fun h5 => ?_)
          · have h5 := of_decide_eq_true h5
            rw [if_pos h5] at hyl
            exact j8 _ w (by rw [i64_in _ (by omega)]; omega) hs
          · have h5 := of_decide_eq_false h5
            rw [if_neg h5] at hyl
            exact j8 _ w (by omega) hs
        | succ f ih =>
          intro i w hi hs
          rw [hoardlaw13_LirsRemoves_l6_raw]
          refine ite_true (decide_eq_true (by omega)) ?_
          repeat (first | with_reducible refine nilck_some ?_ | ((with_reducible refine atLd ?_); first | refine ld_b hs ?_ | refine ld_b (x := ⟨_, _, _⟩) hs ?_ | refine ld_r0 hs ?_ | refine ld_r1 hs ?_ | refine ld_rd0 ha_ hs ?_ | refine ld_rd1 ha_ hs ?_) | ((with_reducible refine isSt ?_); first | refine st_b hs fun w hs => ?_ | refine st_r0 hs fun w hs => ?_ | refine st_r1 hs fun w hs => ?_) | ((with_reducible refine isIdx ?_); first | refine idx_s hs fun b_ o_ hs => ?_ | refine idx_rd hs fun b_ o_ ha_ => ?_) | with_reducible refine newB_at hs fun b_ w hs => ?_ | ((with_reducible refine isLdS ?_); first | refine ldS_b ?_ | refine ldS_b (x := ⟨_, _, _⟩) ?_ | refine ldS_rs0 hs ?_ | refine ldS_rd0 ha_ ?_) | ((with_reducible refine isKeep ?_); first | refine keep_of hs ?_ | refine keep_imp hs ?_) | with_reducible refine when_om ?_ | with_reducible refine drawW_sat hs fun w hs => ?_)
          rw [Int.toNat_natCast]
          have hmem : (lRes x).getD i default ∈ lRes x := getD_mem (by omega)
          have hw : IntKind.wrap .i64 ((i : Int) + 1) = ((i + 1 : Nat) : Int) := by rw [i64_in _ (by omega)]; omega
          with_reducible refine ite_by (fun h6 => ?_) (fun h6 => ?_)
          · repeat (first | with_reducible refine nilck_some ?_ | ((with_reducible refine atLd ?_); first | refine ld_b hs ?_ | refine ld_b (x := ⟨_, _, _⟩) hs ?_ | refine ld_r0 hs ?_ | refine ld_r1 hs ?_ | refine ld_rd0 ha_ hs ?_ | refine ld_rd1 ha_ hs ?_) | ((with_reducible refine isSt ?_); first | refine st_b hs fun w hs => ?_ | refine st_r0 hs fun w hs => ?_ | refine st_r1 hs fun w hs => ?_) | ((with_reducible refine isIdx ?_); first | refine idx_s hs fun b_ o_ hs => ?_ | refine idx_rd hs fun b_ o_ ha_ => ?_) | with_reducible refine newB_at hs fun b_ w hs => ?_ | ((with_reducible refine isLdS ?_); first | refine ldS_b ?_ | refine ldS_b (x := ⟨_, _, _⟩) ?_ | refine ldS_rs0 hs ?_ | refine ldS_rd0 ha_ ?_) | ((with_reducible refine isKeep ?_); first | refine keep_of hs ?_ | refine keep_imp hs ?_) | with_reducible refine when_om ?_ | with_reducible refine drawW_sat hs fun w hs => ?_)
            refine call1_of (lirs_Has hs (lRes_small hxw hmem)) fun e w ⟨he, hs⟩ => ⟨_, he, ?_⟩
            rw [decide_eq_true (hstay _ hmem h6)]
            refine ite_false rfl ?_
            rw [hw]
            exact ih (i + 1) w (by omega) (by exact Sat.fin hs)
          · rw [hw]
            exact ih (i + 1) w (by omega) (by exact Sat.fin hs)
      refine exM_of ((lRes x).length + 1) ?_
      exact loop (lRes x).length 0 w (by omega) hs
    refine ite_cases (fun h5 => ?_) (fun h5 => ?_)
    · have h5' := of_decide_eq_true h5
      refine (lirs_Ghosts hs (by omega)).mono fun e w ⟨g1, he, hs⟩ => ⟨_, he, ?_⟩
      refine call1_of (has13 (s0 := g1) (xs := lThose y.s 3) hs (by omega)) fun e w ⟨he, hs⟩ => ⟨_, he, ?_⟩
      rw [decide_eq_false (hng h5')]
      refine ite_false rfl ?_
      exact j5 w (by exact Sat.fin hs)
    · exact j5 w (by exact Sat.fin hs)
  obtain ⟨N, hN⟩ : ∃ N : Nat, N = 201 := ⟨_, rfl⟩
  have loop : ∀ (f i : Nat) (w : World) (x : LirsS), i + f = N → LOk c x → Sat W w [rrR b2 c x, lirR b c (3 * i) x, old W] → hoardlaw13_LirsRemoves_l2 idJ (fun v w' => v = .bool true ∧ Sat W w' [old W]) (f + 1) s0 key (some ⟨b, 0, none⟩) (some ⟨b2, 0, none⟩) (i : Int) w := by
    clear hs
    intro f
    induction f with
    | zero =>
      intro i w x hi hx hs
      rw [hoardlaw13_LirsRemoves_l2_raw]
      with_reducible refine ite_by (fun h1 => ?_) (fun h1 => ?_)
      · with_reducible refine ite_ltI (fun h2 => absurd h2 (by omega)) (fun h2 => ?_)
        exact fin w x i (by omega) hx hs
      · exact fin w x i (by omega) hx hs
    | succ f ih =>
      intro i w x hi hx hs
      have hn := rdb_len (s := s0) hs
      rw [hoardlaw13_LirsRemoves_l2_raw]
      with_reducible refine ite_by (fun h1 => ?_) (fun h1 => ?_)
      · with_reducible refine ite_by (fun h2 => ?_) (fun h2 => ?_)
        · have hkey := hsz i (by omega) (by omega)
          rw [hoardlaw13_LirsRemoves_j3_def, hoardlaw13_LirsRemoves_j3_raw]
          repeat (first | with_reducible refine nilck_some ?_ | ((with_reducible refine atLd ?_); first | refine ld_b hs ?_ | refine ld_b (x := ⟨_, _, _⟩) hs ?_ | refine ld_r0 hs ?_ | refine ld_r1 hs ?_ | refine ld_rd0 ha_ hs ?_ | refine ld_rd1 ha_ hs ?_) | ((with_reducible refine isSt ?_); first | refine st_b hs fun w hs => ?_ | refine st_r0 hs fun w hs => ?_ | refine st_r1 hs fun w hs => ?_) | ((with_reducible refine isIdx ?_); first | refine idx_s hs fun b_ o_ hs => ?_ | refine idx_rd hs fun b_ o_ ha_ => ?_) | with_reducible refine newB_at hs fun b_ w hs => ?_ | ((with_reducible refine isLdS ?_); first | refine ldS_b ?_ | refine ldS_b (x := ⟨_, _, _⟩) ?_ | refine ldS_rs0 hs ?_ | refine ldS_rd0 ha_ ?_) | ((with_reducible refine isKeep ?_); first | refine keep_of hs ?_ | refine keep_imp hs ?_) | with_reducible refine when_om ?_ | with_reducible refine drawW_sat hs fun w hs => ?_)
          rw [Int.toNat_natCast]
          refine call1_of (act13 (W := W) (M := [old W]) (b := b) (b2 := b2) (N := 3 * i) (a := acts.getD i default) (by exact Sat.fin hs) hx (by omega) hkey) fun e w ⟨he, hs⟩ => ⟨_, he, ?_⟩
          have hx2 := lAct_ok (a := acts.getD i default) hx (by omega)
          rw [i64_in _ (by omega)]
          exact ih (i + 1) w _ (by omega) hx2 (by exact Sat.fin hs)
        · exact fin w x i (by omega) hx hs
      · exact fin w x i (by omega) hx hs
  refine exM_of (N + 1) ?_
  exact loop N 0 w lirs0 (by omega) hx0 hs

set_option maxHeartbeats 1000000 in
set_option maxRecDepth 100000 in
theorem lempties_walk {room : Int} {s0 : Sl} {acts : List Act13} [hr : ReadsR W s0 act13R acts] : Calls Try.prog id_hoardlaw13_LirsEmpties #[.int .i64 room, .slice s0.a s0.n s0.c] W fun e w' => e = .returned (.bool true) ∧ KeptH W w' := by
  have hs := Sat.begin W
  refine law_of (hoardlaw13_LirsEmpties_calls ?_)
  rw [hoardlaw13_LirsEmpties_def, hoardlaw13_LirsEmpties_raw]
  refine (heavy13 (s0 := s0) hs).mono fun e w ⟨hv, he, hsz, hs⟩ => ⟨_, he, ?_⟩
  refine ite_cases (fun h1 => ⟨rfl, hs⟩) (fun h1 => ?_)
  have hsz := hsz h1
  refine (lirs_New_at hs).mono fun e w ⟨b, he, hs⟩ => ⟨_, he, ?_⟩
  refine (r13_New hs).mono fun e w ⟨b2, he, hs⟩ => ⟨_, he, ite_false rfl ?_⟩
  have hR := roomR_range room
  have hx0 := lOk0 hR.1 hR.2
  generalize roomR room = c at hs hR hx0
  have hc : 0 ≤ c := by omega
  have fin : ∀ w (x : LirsS) (n : Nat), n ≤ 300 → LOk c x → Sat W w [rrR b2 c x, lirR b c (3 * n) x, old W] → hoardlaw13_LirsEmpties_j3 idJ (fun v w' => v = .bool true ∧ Sat W w' [old W]) (some ⟨b, 0, none⟩) w := by
    intro w x n hn hx hs
    have hrl := lRes_len x
    have hlen := hx.len
    have hc2 := hR.2
    rw [hoardlaw13_LirsEmpties_j3_def, hoardlaw13_LirsEmpties_j3_raw]
    refine (lirs_Keys hs (by omega)).mono fun e w ⟨k1, he, hs⟩ => ⟨_, he, ?_⟩
    have hk1 := rdb_len (s := k1) hs
    have loop : ∀ (f j : Nat) (w : World) (y : LirsS) (I : List ByteArray) (sI : Sl), j + f ≤ 1024 → I.length = f → I.Nodup → LOk c y → (∀ k, k ∈ I ↔ k ∈ lRes y) → Sat W w [recs Rec.str sI I, lirR b c (3 * n + j) y, old W] → hoardlaw13_LirsEmpties_l4 idJ (fun v w' => v = .bool true ∧ Sat W w' [old W]) (f + 1) (some ⟨b, 0, none⟩) sI (f : Int) w := by
      clear hs
      intro f
      induction f with
      | zero =>
        intro j w y I sI hj hI hnd hy hm hs
        have hln := rdb_len (s := sI) hs
        have hI0 : I = [] := List.length_eq_zero_iff.1 hI
        have hyl := (perm_of_mem hnd hy.w.res_nd hm).length_eq
        have hyrl := lRes_len y
        have h0 : lLen y = 0 := by rw [← hyrl, ← hyl]; exact hI
        rw [hoardlaw13_LirsEmpties_l4_raw]
        refine ite_false (decide_eq_false (by omega)) ?_
        rw [hoardlaw13_LirsEmpties_j5_def, hoardlaw13_LirsEmpties_j5_raw]
        refine call2_of (lirs_Evict hs hc (by omega)) fun e w ⟨he, hs⟩ => ⟨_, _, he, ?_⟩
        have e1 : lEvict c y = ((⟨#[]⟩, false), y) := if_pos h0
        rw [e1] at hs ⊢
        refine ite_true (by rw [hln, hI]; rfl) (ite_true rfl ?_)
        refine call1_of (lirs_Len hs (by omega)) fun e w ⟨he, hs⟩ => ⟨_, he, ?_⟩
        refine ite_true (by rw [h0]; rfl) ?_
        exact call1_of (known13 hs) fun e w ⟨he, hs⟩ => ⟨_, he, rfl, by exact Sat.fin hs⟩
      | succ f ih =>
        intro j w y I sI hj hI hnd hy hm hs
        have hyl := (perm_of_mem hnd hy.w.res_nd hm).length_eq
        have hyrl := lRes_len y
        have h0 : lLen y ≠ 0 := by omega
        obtain ⟨ho, hev⟩ := lEvict_ok hy h0
        have hevm := hev.mem
        have hevs := hev.sub
        have hevl := hev.len
        have hevo := hev.ok
        have hyw := hy.w
        rw [hoardlaw13_LirsEmpties_l4_raw]
        refine ite_true (decide_eq_true (by omega)) ?_
        refine call2_of (lirs_Evict hs hc (by omega)) fun e w ⟨he, hs⟩ => ⟨_, _, he, ?_⟩
        rw [ho]
        refine ite_false rfl ?_
        generalize (lEvict c y).1.1 = k at *
        generalize (lEvict c y).2 = z at *
        have hzrl := lRes_len z
        refine call1_of (has13 (s0 := sI) (xs := I) hs (by omega)) fun e w ⟨he, hs⟩ => ⟨_, he, ?_⟩
        rw [decide_eq_true ((hm k).2 hevs)]
        refine ite_false rfl ?_
        refine call1_of (lirs_Has hs (lRes_small hyw hevs)) fun e w ⟨he, hs⟩ => ⟨_, he, ?_⟩
        rw [decide_eq_false (fun h => ((hevm k).1 h).2 rfl)]
        refine ite_false rfl ?_
        refine call1_of (lirs_Len hs (by omega)) fun e w ⟨he, hs⟩ => ⟨_, he, ?_⟩
        have hwr : IntKind.wrap .i64 (((f + 1 : Nat) : Int) - 1) = (f : Int) := by rw [i64_in _ (by omega)]; omega
        rw [hwr]
        refine ite_false (by rw [show (lLen z : Int) = (f : Int) by omega]; simp) ?_
        refine (cut13 (s0 := sI) (xs := I) hs (by omega)).mono fun e w ⟨s3, he, hs⟩ => ⟨_, he, ?_⟩
        have hgl := (gTake_perm1 hnd ((hm k).2 hevs)).length_eq
        simp only [List.length_cons] at hgl
        exact ih (j + 1) w z (gTake I k) s3 (by omega) (by omega) (gTake_nodup hnd) hevo (fun q => by rw [gTake_mem, hm, hevm]) (by exact Sat.fin hs)
    refine exM_of ((lRes x).length + 1) ?_
    rw [hk1]
    exact loop (lRes x).length 0 w x (lRes x) k1 (by omega) rfl hx.w.res_nd hx (fun k => Iff.rfl) (by exact Sat.fin hs)
  obtain ⟨N, hN⟩ : ∃ N : Nat, N = 201 := ⟨_, rfl⟩
  have loop : ∀ (f i : Nat) (w : World) (x : LirsS), i + f = N → LOk c x → Sat W w [rrR b2 c x, lirR b c (3 * i) x, old W] → hoardlaw13_LirsEmpties_l1 idJ (fun v w' => v = .bool true ∧ Sat W w' [old W]) (f + 1) s0 (some ⟨b, 0, none⟩) (some ⟨b2, 0, none⟩) (i : Int) w := by
    clear hs
    intro f
    induction f with
    | zero =>
      intro i w x hi hx hs
      rw [hoardlaw13_LirsEmpties_l1_raw]
      with_reducible refine ite_by (fun h1 => ?_) (fun h1 => ?_)
      · with_reducible refine ite_ltI (fun h2 => absurd h2 (by omega)) (fun h2 => ?_)
        exact fin w x i (by omega) hx hs
      · exact fin w x i (by omega) hx hs
    | succ f ih =>
      intro i w x hi hx hs
      have hn := rdb_len (s := s0) hs
      rw [hoardlaw13_LirsEmpties_l1_raw]
      with_reducible refine ite_by (fun h1 => ?_) (fun h1 => ?_)
      · with_reducible refine ite_by (fun h2 => ?_) (fun h2 => ?_)
        · have hkey := hsz i (by omega) (by omega)
          rw [hoardlaw13_LirsEmpties_j2_def, hoardlaw13_LirsEmpties_j2_raw]
          repeat (first | with_reducible refine nilck_some ?_ | ((with_reducible refine atLd ?_); first | refine ld_b hs ?_ | refine ld_b (x := ⟨_, _, _⟩) hs ?_ | refine ld_r0 hs ?_ | refine ld_r1 hs ?_ | refine ld_rd0 ha_ hs ?_ | refine ld_rd1 ha_ hs ?_) | ((with_reducible refine isSt ?_); first | refine st_b hs fun w hs => ?_ | refine st_r0 hs fun w hs => ?_ | refine st_r1 hs fun w hs => ?_) | ((with_reducible refine isIdx ?_); first | refine idx_s hs fun b_ o_ hs => ?_ | refine idx_rd hs fun b_ o_ ha_ => ?_) | with_reducible refine newB_at hs fun b_ w hs => ?_ | ((with_reducible refine isLdS ?_); first | refine ldS_b ?_ | refine ldS_b (x := ⟨_, _, _⟩) ?_ | refine ldS_rs0 hs ?_ | refine ldS_rd0 ha_ ?_) | ((with_reducible refine isKeep ?_); first | refine keep_of hs ?_ | refine keep_imp hs ?_) | with_reducible refine when_om ?_ | with_reducible refine drawW_sat hs fun w hs => ?_)
          rw [Int.toNat_natCast]
          refine call1_of (act13 (W := W) (M := [old W]) (b := b) (b2 := b2) (N := 3 * i) (a := acts.getD i default) (by exact Sat.fin hs) hx (by omega) hkey) fun e w ⟨he, hs⟩ => ⟨_, he, ?_⟩
          have hx2 := lAct_ok (a := acts.getD i default) hx (by omega)
          rw [i64_in _ (by omega)]
          exact ih (i + 1) w _ (by omega) hx2 (by exact Sat.fin hs)
        · exact fin w x i (by omega) hx hs
      · exact fin w x i (by omega) hx hs
  refine exM_of (N + 1) ?_
  exact loop N 0 w lirs0 (by omega) hx0 hs
end
end Go.Proofs.Ytgmhoenmhnlojaa
