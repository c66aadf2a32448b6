/- LirsBounds: the walk. -/
import Derived.Test.YtgmhoenmhnlojaaLirsLaws3
import Derived.Test.YtgmhoenmhnlojaaLirsBnd
set_option linter.unusedVariables false
set_option linter.unusedSimpArgs false
set_option linter.unnecessarySimpa false
set_option linter.unusedSectionVars false
namespace Go.Hb
theorem getD_opt {l : List UInt8} {j : Nat} (h : j < l.length) : (l[j]?).getD 0 = l.getD j default := by
  rw [List.getD_eq_getElem?_getD, List.getElem?_eq_getElem h]; rfl
theorem byteAt_eq {s : ByteArray} {i : Nat} {c : UInt8} : byteAt s i = (c.toNat : Int) ↔ (s.data.toList[i]?).getD 0 = c := by
  unfold byteAt
  constructor
  · intro h; exact UInt8.toNat_inj.1 (by omega)
  · intro h; rw [h]
end Go.Hb
namespace Go.Proofs.Ytgmhoenmhnlojaa
open Go.Hb Go.IntWalk
section
variable {W w : World} {L M : List HP} {F : HP → List HP} {xs : List ByteArray}
set_option maxHeartbeats 400000 in
set_option maxRecDepth 100000 in
theorem plain13 {s0 : Sl} [hr : Rdb W L s0 Rec.str xs] (hs : Sat W w L) (hz : xs.length < 1000000) (hkz : ∀ k ∈ xs, k.size < 64) : Calls Try.prog id_hoardlaw13_plain #[.slice s0.a s0.n s0.c] w fun e w' => ∃ b : Bool, e = .returned (.bool b) ∧ (b = true → ∀ k ∈ xs, plainL k) ∧ Sat W w' L := by
  refine (hoardlaw13_plain_calls (Q := fun v w' => ∃ b : Bool, v = .bool b ∧ (b = true → ∀ k ∈ xs, plainL k) ∧ Sat W w' L) ?_).mono fun e w' ⟨v, he, b, hv, hs⟩ => ⟨b, by rw [he, hv], hs⟩
  rw [hoardlaw13_plain_def, hoardlaw13_plain_raw]
  have hn := rdb_len (s := s0) hs
  have loop : ∀ (m i : Nat) (w : World), i + m = xs.length → (∀ k ∈ xs.take i, plainL k) → Sat W w L → hoardlaw13_plain_l1 idJ (fun v w' => ∃ b : Bool, v = .bool b ∧ (b = true → ∀ k ∈ xs, plainL k) ∧ Sat W w' L) (m + 1) s0 (i : Int) w := by
    clear hs
    intro m
    induction m with
    | zero =>
      intro i w hi hp hs
      rw [hoardlaw13_plain_l1_raw]
      refine ite_false (decide_eq_false (by omega)) ?_
      rw [hoardlaw13_plain_j4_def, hoardlaw13_plain_j4_raw]
      rw [List.take_of_length_le (by omega)] at hp
      exact ⟨true, rfl, fun _ => hp, hs⟩
    | succ m ih =>
      intro i w hi hp hs
      rw [hoardlaw13_plain_l1_raw]
      refine ite_true (decide_eq_true (by omega)) ?_
      have hsz := hkz _ (getD_mem (d := default) (show i < xs.length by omega))
      have hbl : (xs.getD i default).data.toList.length = (xs.getD i default).size := by simp
      refine exM_of ((xs.getD i default).size + 1) ?_
      have inner : ∀ (h j : Nat) (w : World), j + h = (xs.getD i default).size → (∀ b ∈ (xs.getD i default).data.toList.take j, b ≠ 47 ∧ b ≠ 59) → Sat W w L → hoardlaw13_plain_l2 idJ (fun v w' => ∃ b : Bool, v = .bool b ∧ (b = true → ∀ k ∈ xs, plainL k) ∧ Sat W w' L) (m + 1) (h + 1) s0 (i : Int) (j : Int) w := by
        clear hs
        intro h
        induction h with
        | zero =>
          intro j w hj hq hs
          rw [hoardlaw13_plain_l2_raw]
          repeat (first | with_reducible refine nilck_some ?_ | ((with_reducible refine atLd ?_); first | refine ld_b hs ?_ | refine ld_b (x := ⟨_, _, _⟩) hs ?_ | refine ld_r0 hs ?_ | refine ld_r1 hs ?_ | refine ld_rd0 ha_ hs ?_ | refine ld_rd1 ha_ hs ?_) | ((with_reducible refine isSt ?_); first | refine st_b hs fun w hs => ?_ | refine st_r0 hs fun w hs => ?_ | refine st_r1 hs fun w hs => ?_) | ((with_reducible refine isIdx ?_); first | refine idx_s hs fun b_ o_ hs => ?_ | refine idx_rd hs fun b_ o_ ha_ => ?_) | with_reducible refine newB_at hs fun b_ w hs => ?_ | ((with_reducible refine isLdS ?_); first | refine ldS_b ?_ | refine ldS_b (x := ⟨_, _, _⟩) ?_ | refine ldS_rs0 hs ?_ | refine ldS_rd0 ha_ ?_) | ((with_reducible refine isKeep ?_); first | refine keep_of hs ?_ | refine keep_imp hs ?_) | with_reducible refine when_om ?_ | with_reducible refine drawW_sat hs fun w hs => ?_)
          rw [Int.toNat_natCast]
          refine ite_false (decide_eq_false (by omega)) ?_
          rw [hoardlaw13_plain_j3_def, hoardlaw13_plain_j3_raw]
          rw [show IntKind.wrap .i64 ((i : Int) + 1) = ((i + 1 : Nat) : Int) by rw [i64_in _ (by omega)]; omega]
          refine ih (i + 1) w (by omega) (fun k hk => ?_) hs
          rw [take_snoc (by omega), List.mem_append, List.mem_singleton] at hk
          rcases hk with hk | rfl
          · exact hp k hk
          · rw [List.take_of_length_le (by omega)] at hq
            exact hq
        | succ h ih2 =>
          intro j w hj hq hs
          rw [hoardlaw13_plain_l2_raw]
          repeat (first | with_reducible refine nilck_some ?_ | ((with_reducible refine atLd ?_); first | refine ld_b hs ?_ | refine ld_b (x := ⟨_, _, _⟩) hs ?_ | refine ld_r0 hs ?_ | refine ld_r1 hs ?_ | refine ld_rd0 ha_ hs ?_ | refine ld_rd1 ha_ hs ?_) | ((with_reducible refine isSt ?_); first | refine st_b hs fun w hs => ?_ | refine st_r0 hs fun w hs => ?_ | refine st_r1 hs fun w hs => ?_) | ((with_reducible refine isIdx ?_); first | refine idx_s hs fun b_ o_ hs => ?_ | refine idx_rd hs fun b_ o_ ha_ => ?_) | with_reducible refine newB_at hs fun b_ w hs => ?_ | ((with_reducible refine isLdS ?_); first | refine ldS_b ?_ | refine ldS_b (x := ⟨_, _, _⟩) ?_ | refine ldS_rs0 hs ?_ | refine ldS_rd0 ha_ ?_) | ((with_reducible refine isKeep ?_); first | refine keep_of hs ?_ | refine keep_imp hs ?_) | with_reducible refine when_om ?_ | with_reducible refine drawW_sat hs fun w hs => ?_)
          simp only [Int.toNat_natCast]
          refine ite_true (decide_eq_true (by omega)) ?_
          repeat (first | with_reducible refine nilck_some ?_ | ((with_reducible refine atLd ?_); first | refine ld_b hs ?_ | refine ld_b (x := ⟨_, _, _⟩) hs ?_ | refine ld_r0 hs ?_ | refine ld_r1 hs ?_ | refine ld_rd0 ha_ hs ?_ | refine ld_rd1 ha_ hs ?_) | ((with_reducible refine isSt ?_); first | refine st_b hs fun w hs => ?_ | refine st_r0 hs fun w hs => ?_ | refine st_r1 hs fun w hs => ?_) | ((with_reducible refine isIdx ?_); first | refine idx_s hs fun b_ o_ hs => ?_ | refine idx_rd hs fun b_ o_ ha_ => ?_) | with_reducible refine newB_at hs fun b_ w hs => ?_ | ((with_reducible refine isLdS ?_); first | refine ldS_b ?_ | refine ldS_b (x := ⟨_, _, _⟩) ?_ | refine ldS_rs0 hs ?_ | refine ldS_rd0 ha_ ?_) | ((with_reducible refine isKeep ?_); first | refine keep_of hs ?_ | refine keep_imp hs ?_) | with_reducible refine when_om ?_ | with_reducible refine drawW_sat hs fun w hs => ?_)
          with_reducible refine ite_by (fun h5 => ?_) (fun h5 => ?_)
          · exact ⟨false, rfl, (fun h => by cases h), hs⟩
          · repeat (first | with_reducible refine nilck_some ?_ | ((with_reducible refine atLd ?_); first | refine ld_b hs ?_ | refine ld_b (x := ⟨_, _, _⟩) hs ?_ | refine ld_r0 hs ?_ | refine ld_r1 hs ?_ | refine ld_rd0 ha_ hs ?_ | refine ld_rd1 ha_ hs ?_) | ((with_reducible refine isSt ?_); first | refine st_b hs fun w hs => ?_ | refine st_r0 hs fun w hs => ?_ | refine st_r1 hs fun w hs => ?_) | ((with_reducible refine isIdx ?_); first | refine idx_s hs fun b_ o_ hs => ?_ | refine idx_rd hs fun b_ o_ ha_ => ?_) | with_reducible refine newB_at hs fun b_ w hs => ?_ | ((with_reducible refine isLdS ?_); first | refine ldS_b ?_ | refine ldS_b (x := ⟨_, _, _⟩) ?_ | refine ldS_rs0 hs ?_ | refine ldS_rd0 ha_ ?_) | ((with_reducible refine isKeep ?_); first | refine keep_of hs ?_ | refine keep_imp hs ?_) | with_reducible refine when_om ?_ | with_reducible refine drawW_sat hs fun w hs => ?_)
            with_reducible refine ite_by (fun h6 => ?_) (fun h6 => ?_)
            · exact ⟨false, rfl, (fun h => by cases h), hs⟩
            · rw [show IntKind.wrap .i64 ((j : Int) + 1) = ((j + 1 : Nat) : Int) by rw [i64_in _ (by omega)]; omega]
              refine ih2 (j + 1) w (by omega) (fun b hb => ?_) hs
              have hjl : j < (xs.getD i default).data.toList.length := by omega
              rw [take_snoc hjl, List.mem_append, List.mem_singleton] at hb
              rcases hb with hb | rfl
              · exact hq b hb
              · rw [← getD_opt hjl]
                exact ⟨fun h => h5 (byteAt_eq.2 h), fun h => h6 (byteAt_eq.2 h)⟩
      exact inner (xs.getD i default).size 0 w (by omega) (by simp) hs
  refine exM_of (xs.length + 1) ?_
  exact loop xs.length 0 w (by omega) (by simp) hs
set_option maxHeartbeats 400000 in
set_option maxRecDepth 100000 in
theorem bounded13 {b : Nat} {c : Int} {N : Nat} {x : LirsS} (hs : Sat W w (lirR b c N x :: M)) (hx : LOk c x) (hN : N < 1000000) : Calls Try.prog id_hoardlaw13_bounded #[.pointer (some ⟨b, 0, none⟩)] w fun e w' => e = .returned (.bool true) ∧ Sat W w' (lirR b c N x :: M) := by
  refine c1 (hoardlaw13_bounded_calls ?_)
  rw [hoardlaw13_bounded_def, hoardlaw13_bounded_raw]
  have hsm := hx.small
  have hrl := lRes_len x
  have hlen := hx.len
  have hc1 := hx.c1
  have hc2 := hx.c2
  have hw := hx.w
  have hgl := lThose_le x.s 3
  have hg3 : (lThose x.s 3).length = lCnt x.s 3 := lThose_len x.s 3
  have hgs := hx.ghs
  have hhots := hx.hots
  refine (lirs_Keys hs (by omega)).mono fun e w ⟨k1, he, hs⟩ => ⟨_, he, ?_⟩
  refine (lirs_Ghosts hs (by omega)).mono fun e w ⟨g1, he, hs⟩ => ⟨_, he, ?_⟩
  have hln := rdb_len (s := g1) hs
  have hwr : ∀ j : Nat, j < 100000000 → IntKind.wrap .i64 ((j : Int) + 1) = ((j + 1 : Nat) : Int) := fun j hj => by rw [i64_in _ (by omega)]; omega
  have htz := lTxt_size hw
  -- behind the count
  have j5 : ∀ (hot : Nat) (w : World), hot = hcL (lTxt x).data.toList → Sat W w (recs Rec.str k1 (lRes x) :: recs Rec.str g1 (lThose x.s 3) :: lirR b c N x :: M) →
      hoardlaw13_bounded_j5 idJ (fun v w' => v = .bool true ∧ Sat W w' (lirR b c N x :: M)) (some ⟨b, 0, none⟩) k1 g1 (hot : Int) w := by
    clear hs
    intro hot w hh hs
    rw [hoardlaw13_bounded_j5_def, hoardlaw13_bounded_j5_raw]
    refine call1_of (lirs_Room hs) fun e w ⟨he, hs⟩ => ⟨_, he, ?_⟩
    refine ite_true (decide_eq_true (by omega)) ?_
    refine (plain13 (s0 := k1) (xs := lRes x) hs (by omega) fun k hk => lRes_small hw hk).mono fun e w ⟨p1, he, hp1, hs⟩ => ⟨_, he, ?_⟩
    refine ite_cases (fun h1 => ?_) (fun h1 => ⟨rfl, by exact Sat.fin hs⟩)
    refine (plain13 (s0 := g1) (xs := lThose x.s 3) hs (by omega) fun k hk => hw.ssm _ (mem_those.1 hk)).mono fun e w ⟨p2, he, hp2, hs⟩ => ⟨_, he, ?_⟩
    refine ite_cases (fun h2 => ?_) (fun h2 => ⟨rfl, by exact Sat.fin hs⟩)
    refine call1_of (lirs_Room hs) fun e w ⟨he, hs⟩ => ⟨_, he, ?_⟩
    refine call1_of (lirs_Room hs) fun e w ⟨he, hs⟩ => ⟨_, he, ?_⟩
    refine when_of (by decide) ?_
    have hp1 := hp1 h1
    have hp2 := hp2 h2
    have hall : ∀ e ∈ x.s, plainL e.1 := by
      intro e he
      rcases hw.kinds e he with h | h | h
      · exact hp1 _ (mem_lRes.2 (.inr (by rw [← h]; exact he)))
      · exact hp1 _ (mem_lRes.2 (.inl (hw.coldq e he h)))
      · exact hp2 _ (mem_those.2 (by rw [← h]; exact he))
    have hcnt := lTxt_hot hw hall
    have e1 : Int.tdiv c 10 = c / 10 := by rw [Int.tdiv_eq_ediv_of_nonneg (by omega)]
    have e2 : IntKind.wrap .i64 (c - (if (IntKind.wrap .i64 (Int.tdiv c (10 : Int))) > (1 : Int) then (IntKind.wrap .i64 (Int.tdiv c (10 : Int))) else (1 : Int))) = lMost c := by
      rw [e1, i64_in (c / 10) (by omega), i64_in _ (by split <;> omega)]
      unfold lMost; split <;> omega
    rw [e2]
    refine ⟨?_, by exact Sat.fin hs⟩
    rw [decide_eq_false (by omega)]; rfl
  have j2 : ∀ (w : World), Sat W w (recs Rec.str k1 (lRes x) :: recs Rec.str g1 (lThose x.s 3) :: lirR b c N x :: M) →
      hoardlaw13_bounded_j2 idJ (fun v w' => v = .bool true ∧ Sat W w' (lirR b c N x :: M)) (some ⟨b, 0, none⟩) k1 g1 w := by
    clear hs
    intro w hs
    rw [hoardlaw13_bounded_j2_def, hoardlaw13_bounded_j2_raw]
    refine call1_of (lirs_State hs (by omega)) fun e w ⟨he, hs⟩ => ⟨_, he, ?_⟩
    have hs : Sat W w (recs Rec.str k1 (lRes x) :: recs Rec.str g1 (lThose x.s 3) :: lirR b c N x :: M) := by exact Sat.fin hs
    have hBl : (lTxt x).data.toList.length = (lTxt x).size := by simp
    generalize hT : lTxt x = T at *
    have loop : ∀ (f i hot : Nat) (w : World), i + f = T.size → hot ≤ i → hot + hcL (T.data.toList.drop i) = hcL T.data.toList → Sat W w (recs Rec.str k1 (lRes x) :: recs Rec.str g1 (lThose x.s 3) :: lirR b c N x :: M) →
        hoardlaw13_bounded_l3 idJ (fun v w' => v = .bool true ∧ Sat W w' (lirR b c N x :: M)) (f + 1) (some ⟨b, 0, none⟩) k1 g1 T (hot : Int) (i : Int) w := by
      clear hs
      intro f
      induction f with
      | zero =>
        intro i hot w hif hhi hh hs
        rw [hoardlaw13_bounded_l3_raw, hwr i (by omega)]
        refine ite_false (decide_eq_false (by omega)) ?_
        rw [hcL_end (by omega)] at hh
        exact j5 hot w (by omega) hs
      | succ f ih =>
        intro i hot w hif hhi hh hs
        rw [hoardlaw13_bounded_l3_raw, hwr i (by omega)]
        with_reducible refine ite_by (fun h1 => ?_) (fun h1 => ?_)
        · have hst := hcL_step (B := T.data.toList) (i := i) (by omega)
          refine when_of (by omega) ?_
          rw [Int.toNat_natCast]
          with_reducible refine ite_by (fun h2 => ?_) (fun h2 => ?_)
          · rw [if_neg (fun h => h2 (byteAt_eq.2 h))] at hst
            rw [hoardlaw13_bounded_j4_def, hoardlaw13_bounded_j4_raw, hwr i (by omega)]
            refine when_of (by omega) ?_
            simp only [Int.toNat_natCast]
            with_reducible refine ite_by (fun h3 => ?_) (fun h3 => ?_)
            · have h3' := byteAt_eq (c := 47).1 h3
              refine when_of (by omega) ?_
              with_reducible refine ite_by (fun h4 => ?_) (fun h4 => ?_)
              · have h4' := byteAt_eq (c := 104).1 h4
                rw [if_pos ⟨h3', h4'⟩] at hst
                rw [show IntKind.wrap .i64 ((hot : Int) + 1) = ((hot + 1 : Nat) : Int) from hwr hot (by omega)]
                exact ih (i + 1) (hot + 1) w (by omega) (by omega) (by omega) hs
              · rw [if_neg (fun h => h4 (byteAt_eq.2 h.2))] at hst
                exact ih (i + 1) hot w (by omega) (by omega) (by omega) hs
            · rw [if_neg (fun h => h3 (byteAt_eq.2 h.1))] at hst
              exact ih (i + 1) hot w (by omega) (by omega) (by omega) hs
          · rw [if_pos (byteAt_eq (c := 59).1 h2)] at hst
            exact j5 hot w (by omega) hs
        · rw [hcL_end (by omega)] at hh
          exact j5 hot w (by omega) hs
    refine exM_of (T.size + 1) ?_
    exact loop T.size 0 0 w (by omega) (Nat.le_refl _) (by simp) hs
  have loop : ∀ (f i : Nat) (w : World), i + f = (lThose x.s 3).length → Sat W w (recs Rec.str k1 (lRes x) :: recs Rec.str g1 (lThose x.s 3) :: lirR b c N x :: M) →
      hoardlaw13_bounded_l1 idJ (fun v w' => v = .bool true ∧ Sat W w' (lirR b c N x :: M)) (f + 1) (some ⟨b, 0, none⟩) k1 g1 (i : Int) w := by
    clear hs
    intro f
    induction f with
    | zero =>
      intro i w hi hs
      rw [hoardlaw13_bounded_l1_raw]
      refine ite_false (decide_eq_false (by omega)) ?_
      exact j2 w hs
    | succ f ih =>
      intro i w hi hs
      rw [hoardlaw13_bounded_l1_raw]
      refine ite_true (decide_eq_true (by omega)) ?_
      repeat (first | with_reducible refine nilck_some ?_ | ((with_reducible refine atLd ?_); first | refine ld_b hs ?_ | refine ld_b (x := ⟨_, _, _⟩) hs ?_ | refine ld_r0 hs ?_ | refine ld_r1 hs ?_ | refine ld_rd0 ha_ hs ?_ | refine ld_rd1 ha_ hs ?_) | ((with_reducible refine isSt ?_); first | refine st_b hs fun w hs => ?_ | refine st_r0 hs fun w hs => ?_ | refine st_r1 hs fun w hs => ?_) | ((with_reducible refine isIdx ?_); first | refine idx_s hs fun b_ o_ hs => ?_ | refine idx_rd hs fun b_ o_ ha_ => ?_) | with_reducible refine newB_at hs fun b_ w hs => ?_ | ((with_reducible refine isLdS ?_); first | refine ldS_b ?_ | refine ldS_b (x := ⟨_, _, _⟩) ?_ | refine ldS_rs0 hs ?_ | refine ldS_rd0 ha_ ?_) | ((with_reducible refine isKeep ?_); first | refine keep_of hs ?_ | refine keep_imp hs ?_) | with_reducible refine when_om ?_ | with_reducible refine drawW_sat hs fun w hs => ?_)
      rw [Int.toNat_natCast]
      have hmem : (lThose x.s 3).getD i default ∈ lThose x.s 3 := getD_mem (by omega)
      have hno : (lThose x.s 3).getD i default ∉ lRes x := by
        intro h
        have h3 := mem_those.1 hmem
        rcases mem_lRes.1 h with h | h
        · exact hw.ghq _ h3 rfl h
        · have := nodup_val hw.sn h h3
          omega
      refine call1_of (has13 (s0 := k1) (xs := lRes x) hs (by omega)) fun e w ⟨he, hs⟩ => ⟨_, he, ?_⟩
      rw [decide_eq_false hno]
      refine ite_false rfl ?_
      rw [hwr i (by omega)]
      exact ih (i + 1) w (by omega) (by exact Sat.fin hs)
  refine exM_of ((lThose x.s 3).length + 1) ?_
  exact loop _ 0 w (by omega) (by exact Sat.fin hs)
set_option maxHeartbeats 400000 in
set_option maxRecDepth 100000 in
theorem lbounds_walk {room : Int} {s0 : Sl} {acts : List Act13} [hr : ReadsR W s0 act13R acts] : Calls Try.prog id_hoardlaw13_LirsBounds #[.int .i64 room, .slice s0.a s0.n s0.c] W fun e w' => e = .returned (.bool true) ∧ KeptH W w' := by
  have hs := Sat.begin W
  refine law_of (hoardlaw13_LirsBounds_calls ?_)
  rw [hoardlaw13_LirsBounds_def, hoardlaw13_LirsBounds_raw]
  refine (heavy13 (s0 := s0) hs).mono fun e w ⟨hv, he, hsz, hs⟩ => ⟨_, he, ?_⟩
  refine ite_cases (fun h1 => ⟨rfl, hs⟩) (fun h1 => ?_)
  have hsz := hsz h1
  refine (lirs_New_at hs).mono fun e w ⟨b, he, hs⟩ => ⟨_, he, ?_⟩
  refine (r13_New hs).mono fun e w ⟨b2, he, hs⟩ => ⟨_, he, ite_false rfl ?_⟩
  have hR := roomR_range room
  have hx0 := lOk0 hR.1 hR.2
  generalize roomR room = c at hs hR hx0
  have fin : ∀ w (x : LirsS) (n : Nat), Sat W w [rrR b2 c x, lirR b c (3 * n) x, old W] → hoardlaw13_LirsBounds_j3 idJ (fun v w' => v = .bool true ∧ Sat W w' [old W]) w := by
    intro w x n hs
    rw [hoardlaw13_LirsBounds_j3_def, hoardlaw13_LirsBounds_j3_raw]
    exact call1_of (known13 hs) fun e w ⟨he, hs⟩ => ⟨_, he, rfl, by exact Sat.fin hs⟩
  obtain ⟨N, hN⟩ : ∃ N : Nat, N = 201 := ⟨_, rfl⟩
  have loop : ∀ (f i : Nat) (w : World) (x : LirsS), i + f = N → LOk c x → Sat W w [rrR b2 c x, lirR b c (3 * i) x, old W] → hoardlaw13_LirsBounds_l1 idJ (fun v w' => v = .bool true ∧ Sat W w' [old W]) (f + 1) s0 (some ⟨b, 0, none⟩) (some ⟨b2, 0, none⟩) (i : Int) w := by
    clear hs
    intro f
    induction f with
    | zero =>
      intro i w x hi hx hs
      rw [hoardlaw13_LirsBounds_l1_raw]
      with_reducible refine ite_by (fun h1 => ?_) (fun h1 => ?_)
      · with_reducible refine ite_ltI (fun h2 => absurd h2 (by omega)) (fun h2 => ?_)
        exact fin w x i hs
      · exact fin w x i hs
    | succ f ih =>
      intro i w x hi hx hs
      have hn := rdb_len (s := s0) hs
      rw [hoardlaw13_LirsBounds_l1_raw]
      with_reducible refine ite_by (fun h1 => ?_) (fun h1 => ?_)
      · with_reducible refine ite_by (fun h2 => ?_) (fun h2 => ?_)
        · have hkey := hsz i (by omega) (by omega)
          rw [hoardlaw13_LirsBounds_j2_def, hoardlaw13_LirsBounds_j2_raw]
          repeat (first | with_reducible refine nilck_some ?_ | ((with_reducible refine atLd ?_); first | refine ld_b hs ?_ | refine ld_b (x := ⟨_, _, _⟩) hs ?_ | refine ld_r0 hs ?_ | refine ld_r1 hs ?_ | refine ld_rd0 ha_ hs ?_ | refine ld_rd1 ha_ hs ?_) | ((with_reducible refine isSt ?_); first | refine st_b hs fun w hs => ?_ | refine st_r0 hs fun w hs => ?_ | refine st_r1 hs fun w hs => ?_) | ((with_reducible refine isIdx ?_); first | refine idx_s hs fun b_ o_ hs => ?_ | refine idx_rd hs fun b_ o_ ha_ => ?_) | with_reducible refine newB_at hs fun b_ w hs => ?_ | ((with_reducible refine isLdS ?_); first | refine ldS_b ?_ | refine ldS_b (x := ⟨_, _, _⟩) ?_ | refine ldS_rs0 hs ?_ | refine ldS_rd0 ha_ ?_) | ((with_reducible refine isKeep ?_); first | refine keep_of hs ?_ | refine keep_imp hs ?_) | with_reducible refine when_om ?_ | with_reducible refine drawW_sat hs fun w hs => ?_)
          rw [Int.toNat_natCast]
          refine call1_of (act13 (W := W) (M := [old W]) (b := b) (b2 := b2) (N := 3 * i) (a := acts.getD i default) (by exact Sat.fin hs) hx (by omega) hkey) fun e w ⟨he, hs⟩ => ⟨_, he, ?_⟩
          have hx2 := lAct_ok (a := acts.getD i default) hx (by omega)
          generalize lAct c x (acts.getD i default) = y at *
          have hrl := lRes_len y
          have hlen := hx2.len
          refine call1_of (lirs_Len2 hs hx2 (by omega)) fun e w ⟨he, hs⟩ => ⟨_, he, ?_⟩
          refine call1_of (lirs_Room hs) fun e w ⟨he, hs⟩ => ⟨_, he, ?_⟩
          refine ite_false (decide_eq_false (by omega)) ?_
          refine (lirs_Keys hs (by omega)).mono fun e w ⟨k1, he, hs⟩ => ⟨_, he, ?_⟩
          have hk1 := rdb_len (s := k1) hs
          refine call1_of (lirs_Len2 hs hx2 (by omega)) fun e w ⟨he, hs⟩ => ⟨_, he, ?_⟩
          refine ite_false (by rw [hk1]; simp) ?_
          refine call1_of (bounded13 (W := W) (M := [rrR b2 c y, old W]) (b := b) (c := c) (N := 3 * i + 3) (x := y) (by exact Sat.fin hs) hx2 (by omega)) fun e w ⟨he, hs⟩ => ⟨_, he, ?_⟩
          refine ite_false rfl ?_
          rw [i64_in _ (by omega)]
          exact ih (i + 1) w _ (by omega) hx2 (by exact Sat.fin hs)
        · exact fin w x i hs
      · exact fin w x i hs
  refine exM_of (N + 1) ?_
  exact loop N 0 w lirs0 (by omega) hx0 hs
end
end Go.Proofs.Ytgmhoenmhnlojaa
