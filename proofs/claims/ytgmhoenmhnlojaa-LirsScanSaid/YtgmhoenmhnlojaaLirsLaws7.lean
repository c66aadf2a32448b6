/- LirsScan: the walk. -/
import Derived.Test.YtgmhoenmhnlojaaLirsLaws3
import Derived.Test.YtgmhoenmhnlojaaLirsScn
set_option linter.unusedVariables false
set_option linter.unusedSimpArgs false
set_option linter.unnecessarySimpa false
set_option linter.unusedSectionVars false
namespace Go.Hb
/-- a row's first ones -/
theorem ReadsR.pre {W : World} {s : Sl} {xs : List ByteArray} (h : ReadsR W s Rec.str xs) {i c c' : Nat} (hi : i ≤ xs.length) : ReadsR W ⟨subA s.a 0 c 1, i - 0, c'⟩ Rec.str (xs.take i) := by
  refine ⟨by simp; omega, ?_⟩
  rcases h.at_ with ⟨ha, hn⟩ | ⟨b, o, ha, hc⟩
  · have := h.len
    refine .inl ⟨by simp only [ha, subA]; split <;> rfl, by simp only; omega⟩
  · refine .inr ⟨b, o, ?_, fun k j a hk hj => hc k j a ?_ hj⟩
    · simp only [ha, subA]
      split
      · rfl
      · simp [Addr.add_lit]
    · rw [List.getElem?_take] at hk
      split at hk
      · exact hk
      · cases hk
def kS (i : Nat) : ByteArray := ⟨#[35, UInt8.ofNat (48 + i)]⟩
theorem kS_size (i : Nat) : (kS i).size = 2 := rfl
theorem kS_cells {i : Nat} (h : i < 200) : bytesL (kS i) = [.int .u8 35, .int .u8 ((48 + i : Nat) : Int)] := by
  have h1 : (UInt8.ofNat (48 + i)).toNat = 48 + i := by simp [UInt8.toNat_ofNat']; omega
  simp only [bytesL, kS, List.map_cons, List.map_nil]
  rw [h1]; rfl
theorem kS_inj {i j : Nat} (hi : i < 200) (hj : j < 200) (h : kS i = kS j) : i = j := by
  have h1 := congrArg bytesL h
  rw [kS_cells hi, kS_cells hj] at h1
  simp only [List.cons.injEq, Value.int.injEq, true_and, and_true] at h1
  omega
def kSs (n : Nat) : List ByteArray := (List.range n).map kS
theorem kSs_snoc (n : Nat) : kSs (n + 1) = kSs n ++ [kS n] := by simp [kSs, List.range_succ]
theorem kSs_mem {n : Nat} {k : ByteArray} (h : k ∈ kSs n) : ∃ i, i < n ∧ k = kS i := by
  obtain ⟨i, hi, rfl⟩ := List.mem_map.1 h
  exact ⟨i, by simpa using hi, rfl⟩
theorem LHot.mono {c : Int} {x : LirsS} {n : Nat} {H : List ByteArray} {K K' : ByteArray → Prop} (h : LHot c x n H K) (hK : ∀ k, K k → K' k) : LHot c x n H K' := ⟨h.ok, h.cnt, h.hot, fun k hk => hK k (h.known k hk)⟩
end Go.Hb
namespace Go.Proofs.Ytgmhoenmhnlojaa
open Go.Hb Go.IntWalk
section
variable {W w : World} {L M : List HP} {F : HP → List HP}
set_option maxHeartbeats 400000 in
set_option maxRecDepth 100000 in
theorem lscan_walk {room : Int} {s0 : Sl} {ks : List ByteArray} [hr : ReadsR W s0 Rec.str ks] (hcap : s0.n ≤ s0.c) : Calls Try.prog id_hoardlaw13_LirsScan #[.int .i64 room, .slice s0.a s0.n s0.c] W fun e w' => e = .returned (.bool true) ∧ KeptH W w' := by
  have hs := Sat.begin W
  refine law_of (hoardlaw13_LirsScan_calls ?_)
  rw [hoardlaw13_LirsScan_def, hoardlaw13_LirsScan_raw]
  obtain ⟨n60, hn60⟩ : ∃ n : Int, n = 60 := ⟨_, rfl⟩
  rw [← hn60]
  with_reducible refine ite_by (fun h0 => ?_) (fun h0 => ?_)
  · exact ⟨rfl, hs⟩
  with_reducible refine ite_by (fun h00 => ?_) (fun h00 => ?_)
  · exact ⟨rfl, hs⟩
  refine (long13 (s0 := s0) hs).mono fun e w ⟨hv, he, hsz, hs⟩ => ⟨_, he, ?_⟩
  refine ite_cases (fun h1 => ⟨rfl, hs⟩) (fun h1 => ?_)
  obtain ⟨hlen, hsz⟩ := hsz h1
  rw [hoardlaw13_LirsScan_j1_def, hoardlaw13_LirsScan_j1_raw]
  refine (lirs_New_at hs).mono fun e w ⟨b, he, hs⟩ => ⟨_, he, ite_false rfl ?_⟩
  have hrr : roomR room = room := by unfold roomR; omega
  rw [hrr] at hs
  have hx0 := lHot0 (c := room) (by omega) (by omega)
  obtain ⟨n, hn⟩ : ∃ n : Nat, (n : Int) = lMost room := ⟨(lMost room).toNat, by have := (lMost_pos (c := room) (by omega)).1; omega⟩
  have hnr := (lMost_pos (c := room) (by omega)).2
  have hmc : 0 ≤ lMost room := by omega
  have hn59 : n < 60 := by omega
  have known : ∀ (w : World) (sH : Sl) (x : LirsS) (N : Nat), Sat W w [recs Rec.str sH (kSs n), lirR b room N x, old W] → call1 .bool Try.prog id_hoardlaw13_known [] (fun (x_13 : Bool) => fun w' => Value.bool x_13 = Value.bool true ∧ Sat W w' [old W]) w := by
    intro w sH x N hs
    exact call1_of (known13 hs) fun e w ⟨he, hs⟩ => ⟨_, he, rfl, by exact Sat.fin hs⟩
  have hwr : ∀ j : Nat, j < 100000 → IntKind.wrap .i64 ((j : Int) + 1) = ((j + 1 : Nat) : Int) := fun j hj => by rw [i64_in _ (by omega)]; omega
  -- at the end all hot ones are there
  have fin : ∀ (w : World) (sH : Sl) (x : LirsS) (N : Nat) (K : ByteArray → Prop), N < 100000 → LHot room x n (kSs n) K → Sat W w [recs Rec.str sH (kSs n), lirR b room N x, old W] → hoardlaw13_LirsScan_j6 idJ (fun v w' => v = .bool true ∧ Sat W w' [old W]) (some ⟨b, 0, none⟩) sH w := by
    intro w sH x N K hN hx hs
    have hln := rdb_len (s := sH) hs
    have hHl : (kSs n).length = n := by simp [kSs]
    rw [hoardlaw13_LirsScan_j6_def, hoardlaw13_LirsScan_j6_raw]
    have loop : ∀ (f i : Nat) (w : World), i + f = n → Sat W w [recs Rec.str sH (kSs n), lirR b room N x, old W] → hoardlaw13_LirsScan_l7 idJ (fun v w' => v = .bool true ∧ Sat W w' [old W]) (f + 1) (some ⟨b, 0, none⟩) sH (i : Int) w := by
      clear hs
      intro f
      induction f with
      | zero =>
        intro i w hi hs
        rw [hoardlaw13_LirsScan_l7_raw]
        refine ite_false (decide_eq_false (by omega)) ?_
        rw [hoardlaw13_LirsScan_j8_def, hoardlaw13_LirsScan_j8_raw]
        exact known w sH x N hs
      | succ f ih =>
        intro i w hi hs
        rw [hoardlaw13_LirsScan_l7_raw]
        refine ite_true (decide_eq_true (by omega)) ?_
        repeat (first | with_reducible refine nilck_some ?_ | ((with_reducible refine atLd ?_); first | refine ld_b hs ?_ | refine ld_b (x := ⟨_, _, _⟩) hs ?_ | refine ld_r0 hs ?_ | refine ld_r1 hs ?_ | refine ld_rd0 ha_ hs ?_ | refine ld_rd1 ha_ hs ?_) | ((with_reducible refine isSt ?_); first | refine st_b hs fun w hs => ?_ | refine st_r0 hs fun w hs => ?_ | refine st_r1 hs fun w hs => ?_) | ((with_reducible refine isIdx ?_); first | refine idx_s hs fun b_ o_ hs => ?_ | refine idx_rd hs fun b_ o_ ha_ => ?_) | with_reducible refine newB_at hs fun b_ w hs => ?_ | ((with_reducible refine isLdS ?_); first | refine ldS_b ?_ | refine ldS_b (x := ⟨_, _, _⟩) ?_ | refine ldS_rs0 hs ?_ | refine ldS_rd0 ha_ ?_) | ((with_reducible refine isKeep ?_); first | refine keep_of hs ?_ | refine keep_imp hs ?_) | with_reducible refine when_om ?_ | with_reducible refine drawW_sat hs fun w hs => ?_)
        rw [Int.toNat_natCast]
        have hmem : (kSs n).getD i default ∈ kSs n := getD_mem (by omega)
        have hin := hx.hot _ hmem
        refine call1_of (lirs_Has hs (hx.ok.w.ssm _ hin)) fun e w ⟨he, hs⟩ => ⟨_, he, ?_⟩
        rw [decide_eq_true (mem_lRes.2 (.inr hin))]
        refine ite_false rfl ?_
        rw [hwr i (by omega)]
        exact ih (i + 1) w (by omega) (by exact Sat.fin hs)
    refine exM_of (n + 1) ?_
    exact loop n 0 w (by omega) hs
  have scan : ∀ (sH : Sl) (f i : Nat) (w : World) (x : LirsS), i + f = ks.length → LHot room x n (kSs n) (fun k => k ∈ kSs n ∨ k ∈ ks.take i) → Sat W w [recs Rec.str sH (kSs n), lirR b room (3 * n + 3 * i) x, old W] →
      hoardlaw13_LirsScan_l4 idJ (fun v w' => v = .bool true ∧ Sat W w' [old W]) (f + 1) s0 (some ⟨b, 0, none⟩) sH (i : Int) w := by
    intro sH f
    induction f with
    | zero =>
      intro i w x hi hx hs
      have hln := rdb_len (s := s0) hs
      rw [hoardlaw13_LirsScan_l4_raw]
      refine ite_false (decide_eq_false (by omega)) ?_
      exact fin w sH x (3 * n + 3 * i) _ (by omega) hx hs
    | succ f ih =>
      intro i w x hi hx hs
      have hln := rdb_len (s := s0) hs
      have hHl : (kSs n).length = n := by simp [kSs]
      rw [hoardlaw13_LirsScan_l4_raw]
      refine ite_true (decide_eq_true (by omega)) ?_
      refine drawW_only [old W] hs fun w hs => ?_
      repeat (first | with_reducible refine nilck_some ?_ | ((with_reducible refine atLd ?_); first | refine ld_b hs ?_ | refine ld_b (x := ⟨_, _, _⟩) hs ?_ | refine ld_r0 hs ?_ | refine ld_r1 hs ?_ | refine ld_rd0 ha_ hs ?_ | refine ld_rd1 ha_ hs ?_) | ((with_reducible refine isSt ?_); first | refine st_b hs fun w hs => ?_ | refine st_r0 hs fun w hs => ?_ | refine st_r1 hs fun w hs => ?_) | ((with_reducible refine isIdx ?_); first | refine idx_s hs fun b_ o_ hs => ?_ | refine idx_rd hs fun b_ o_ ha_ => ?_) | with_reducible refine newB_at hs fun b_ w hs => ?_ | ((with_reducible refine isLdS ?_); first | refine ldS_b ?_ | refine ldS_b (x := ⟨_, _, _⟩) ?_ | refine ldS_rs0 hs ?_ | refine ldS_rd0 ha_ ?_) | ((with_reducible refine isKeep ?_); first | refine keep_of hs ?_ | refine keep_imp hs ?_) | with_reducible refine when_om ?_ | with_reducible refine drawW_sat hs fun w hs => ?_)
      simp only [Int.toNat_natCast]
      have hkey := hsz _ (getD_mem (d := default) (show i < ks.length by omega))
      refine call1_of (has13 (s0 := sH) (xs := kSs n) hs (by omega)) fun e w ⟨he, hs⟩ => ⟨_, he, ?_⟩
      refine ite_cases (fun h1 => call1_of (known13 hs) fun e w ⟨he, hs⟩ => ⟨_, he, rfl, by exact Sat.fin hs⟩) (fun h1 => ?_)
      have h1 := of_decide_eq_false h1
      refine when_of ⟨by omega, by omega⟩ ?_
      repeat (first | with_reducible refine nilck_some ?_ | ((with_reducible refine atLd ?_); first | refine ld_b hs ?_ | refine ld_b (x := ⟨_, _, _⟩) hs ?_ | refine ld_r0 hs ?_ | refine ld_r1 hs ?_ | refine ld_rd0 ha_ hs ?_ | refine ld_rd1 ha_ hs ?_) | ((with_reducible refine isSt ?_); first | refine st_b hs fun w hs => ?_ | refine st_r0 hs fun w hs => ?_ | refine st_r1 hs fun w hs => ?_) | ((with_reducible refine isIdx ?_); first | refine idx_s hs fun b_ o_ hs => ?_ | refine idx_rd hs fun b_ o_ ha_ => ?_) | with_reducible refine newB_at hs fun b_ w hs => ?_ | ((with_reducible refine isLdS ?_); first | refine ldS_b ?_ | refine ldS_b (x := ⟨_, _, _⟩) ?_ | refine ldS_rs0 hs ?_ | refine ldS_rd0 ha_ ?_) | ((with_reducible refine isKeep ?_); first | refine keep_of hs ?_ | refine keep_imp hs ?_) | with_reducible refine when_om ?_ | with_reducible refine drawW_sat hs fun w hs => ?_)
      have hpre : ReadsR W ⟨subA s0.a 0 s0.c 1, i - 0, s0.c - 0⟩ Rec.str (ks.take i) := hr.pre (by omega)
      refine call1_of (has13 (s0 := ⟨subA s0.a 0 s0.c 1, i - 0, s0.c - 0⟩) (xs := ks.take i) hs (by rw [List.length_take]; omega)) fun e w ⟨he, hs⟩ => ⟨_, he, ?_⟩
      refine ite_cases (fun h2 => call1_of (known13 hs) fun e w ⟨he, hs⟩ => ⟨_, he, rfl, by exact Sat.fin hs⟩) (fun h2 => ?_)
      have h2 := of_decide_eq_false h2
      rw [hoardlaw13_LirsScan_j5_def, hoardlaw13_LirsScan_j5_raw]
      repeat (first | with_reducible refine nilck_some ?_ | ((with_reducible refine atLd ?_); first | refine ld_b hs ?_ | refine ld_b (x := ⟨_, _, _⟩) hs ?_ | refine ld_r0 hs ?_ | refine ld_r1 hs ?_ | refine ld_rd0 ha_ hs ?_ | refine ld_rd1 ha_ hs ?_) | ((with_reducible refine isSt ?_); first | refine st_b hs fun w hs => ?_ | refine st_r0 hs fun w hs => ?_ | refine st_r1 hs fun w hs => ?_) | ((with_reducible refine isIdx ?_); first | refine idx_s hs fun b_ o_ hs => ?_ | refine idx_rd hs fun b_ o_ ha_ => ?_) | with_reducible refine newB_at hs fun b_ w hs => ?_ | ((with_reducible refine isLdS ?_); first | refine ldS_b ?_ | refine ldS_b (x := ⟨_, _, _⟩) ?_ | refine ldS_rs0 hs ?_ | refine ldS_rd0 ha_ ?_) | ((with_reducible refine isKeep ?_); first | refine keep_of hs ?_ | refine keep_imp hs ?_) | with_reducible refine when_om ?_ | with_reducible refine drawW_sat hs fun w hs => ?_)
      simp only [Int.toNat_natCast]
      refine call2_of (lirs_Access hs (by omega) hmc (by omega) (by omega)) fun e w ⟨l, he, hs⟩ => ⟨_, l, he, ?_⟩
      rw [hwr i (by omega)]
      refine ih (i + 1) w _ (by omega) ((hx.scan (fun h => h.elim h1 h2) (by omega) hn).mono fun k hk => ?_) (by exact Sat.fin hs)
      rw [take_snoc (by omega), List.mem_append, List.mem_singleton]
      rcases hk with (hk | hk) | hk
      · exact .inl hk
      · exact .inr (.inl hk)
      · exact .inr (.inr hk)
  have warm : ∀ (f i : Nat) (w : World) (x : LirsS) (sH : Sl), i + f = n → LHot room x i (kSs i) (fun k => k ∈ kSs i) → Sat W w [recs Rec.str sH (kSs i), lirR b room (3 * i) x, old W] →
      hoardlaw13_LirsScan_l2 idJ (fun v w' => v = .bool true ∧ Sat W w' [old W]) (f + 1) room s0 (some ⟨b, 0, none⟩) sH (i : Int) w := by
    clear hs
    have e2 : IntKind.wrap .i64 (room - (if (IntKind.wrap .i64 (Int.tdiv room (10 : Int))) > (1 : Int) then (IntKind.wrap .i64 (Int.tdiv room (10 : Int))) else (1 : Int))) = lMost room := by
      have e1 : Int.tdiv room 10 = room / 10 := by rw [Int.tdiv_eq_ediv_of_nonneg (by omega)]
      rw [e1, i64_in (room / 10) (by omega), i64_in _ (by split <;> omega)]
      unfold lMost; split <;> omega
    intro f
    induction f with
    | zero =>
      intro i w x sH hi hx hs
      have hin : i = n := by omega
      subst hin
      rw [hoardlaw13_LirsScan_l2_raw]
      refine when_of (by decide) ?_
      rw [e2]
      refine ite_false (decide_eq_false (by omega)) ?_
      rw [hoardlaw13_LirsScan_j3_def, hoardlaw13_LirsScan_j3_raw]
      refine exM_of (ks.length + 1) ?_
      exact scan sH ks.length 0 w x (by omega) (hx.mono fun k hk => .inl hk) (by exact Sat.fin hs)
    | succ f ih =>
      intro i w x sH hi hx hs
      have hHl : (kSs i).length = i := by simp [kSs]
      rw [hoardlaw13_LirsScan_l2_raw]
      refine when_of (by decide) ?_
      rw [e2]
      refine ite_true (decide_eq_true (by omega)) ?_
      have hch : IntKind.wrap .u8 (IntKind.wrap .i64 ((48 : Int) + (i : Int))) = ((48 + i : Nat) : Int) := by rw [i64_in _ (by omega), IntKind.wrap_u8]; omega
      refine newB_at hs fun b3 w hs => ?_
      rw [hch] at hs
      refine ⟨kS i, by rw [kS_cells (by omega)]; exact rd_blk 0 hs rfl rfl, ?_⟩
      refine call2_of (lirs_Access hs (by rw [kS_size]; omega) hmc (by omega) (by omega)) fun e w ⟨l, he, hs⟩ => ⟨_, l, he, ?_⟩
      refine newB_at hs fun b4 w hs => ?_
      refine app_one (s := sH) (a := kS i) hs rfl rfl rfl rfl (by decide) (by omega) fun s2 w hs2 hs => ?_
      rw [← kSs_snoc] at hs
      rw [hwr i (by omega)]
      have hkn : kS i ∉ kSs i := fun h => by
        obtain ⟨j, hj, he⟩ := kSs_mem h
        have := kS_inj (i := i) (j := j) (by omega) (by omega) he
        omega
      have hlr : (lRes x).length ≤ i := by
        have := nodup_sub_len hx.ok.w.res_nd (b := kSs i) fun k hk => by
          rcases mem_lRes.1 hk with h | h
          · exact hx.known k (.inr h)
          · exact hx.known k (.inl (List.mem_map.2 ⟨_, h, rfl⟩))
        omega
      have hll := lRes_len x
      have hw := hx.warm (k := kS i) hkn (by rw [kS_size]; omega) (by omega) (by omega)
      rw [← kSs_snoc] at hw
      exact ih (i + 1) w _ s2 (by omega) (hw.mono fun k hk => by rw [kSs_snoc, List.mem_append, List.mem_singleton]; exact hk) (by exact Sat.fin hs)
  refine exM_of (n + 1) ?_
  exact warm n 0 w lirs0 ⟨none, 0, 0⟩ (by omega) (hx0.mono fun k h => h.elim) (by have hs := Sat.nilR Rec.str hs; exact Sat.fin hs)
end
end Go.Proofs.Ytgmhoenmhnlojaa
