/- ArcOften: the walk. -/
import Derived.Test.YtchlicgjdlkidaaDoorArc10
import Derived.Test.YtchlicgjdlkidaaDoorShalArcOften
set_option linter.unusedVariables false
set_option linter.unusedSimpArgs false
set_option linter.unnecessarySimpa false
set_option linter.unusedSectionVars false
namespace Go.Hb
theorem nodup_sub_len : ∀ {a b : List ByteArray}, a.Nodup → (∀ k ∈ a, k ∈ b) → a.length ≤ b.length
  | [], _, _, _ => by simp
  | k :: a, b, hn, hs => by
    rw [List.nodup_cons] at hn
    have h1 : ∀ j ∈ a, j ∈ gTake b k := fun j hj => gTake_mem.2 ⟨hs j (.tail _ hj), fun h => hn.1 (by rw [← h]; exact hj)⟩
    have h2 := nodup_sub_len hn.2 h1
    have h3 : (gTake b k).length < b.length := List.length_filter_lt_length_iff_exists.2 ⟨k, hs k (.head _), by simp⟩
    simp only [List.length_cons]
    omega
theorem ReadsR.pre {W : World} {s : Sl} {xs : List ByteArray} (h : ReadsR W s Rec.str xs) {i c c' : Nat} (hi : i ≤ xs.length) : ReadsR W ⟨subA s.a 0 c 1, i - 0, c'⟩ Rec.str (xs.take i) := by
  refine ⟨by simp; omega, ?_⟩
  rcases h.at_ with ⟨ha, hn⟩ | ⟨b, o, ha, hc⟩
  · have := h.len
    refine .inl ⟨by simp only [ha, subA]; split <;> rfl, by simp only; omega⟩
  · refine .inr ⟨b, o, ?_, fun k j a hk hj => hc k j a ?_ hj⟩
    · simp only [ha, subA]
      split
      · rfl
      · simp [Addr.add_lit]
    · rw [List.getElem?_take] at hk
      split at hk
      · exact hk
      · cases hk
/-- keys that came twice: they are T2; who else is or was there has been seen -/
structure Oft (c : Int) (s : ArcS) (seen : List ByteArray) : Prop where
  ok : ArcOk c s
  b2 : s.b2 = []
  p : s.p = 0
  seen : ∀ k ∈ s.t1 ++ s.b1, k ∈ seen
  t2 : (s.t2.length : Int) < c
theorem oft0 {c : Int} (h1 : 1 ≤ c) (h2 : c ≤ 1024) : Oft c arc0 [] := ⟨aOk0 h1 h2, rfl, rfl, fun k hk => by simp [arc0] at hk, by simp [arc0]; omega⟩
theorem Oft.more {c : Int} {s : ArcS} {l l' : List ByteArray} (h : Oft c s l) (hl : ∀ k ∈ l, k ∈ l') : Oft c s l' := ⟨h.ok, h.b2, h.p, fun k hk => hl k (h.seen k hk), h.t2⟩
/-- who makes room, makes it in T1 -/
theorem Oft.rep {c : Int} {s : ArcS} {seen : List ByteArray} (h : Oft c s seen) : Oft c (aRep c s false).2 seen ∧ (aRep c s false).2.t2 = s.t2 := by
  obtain ⟨h1, _⟩ := aRep_ok h.ok false
  have ht := h.t2
  have hp := h.p
  unfold aRep at h1 ⊢
  split
  · exact ⟨h, rfl⟩
  · rename_i hl
    have h0 : 0 < s.t1.length := by omega
    have hf : aFirst s false = true := by
      unfold aFirst
      rw [decide_eq_true h0, decide_eq_true (show s.p < (s.t1.length : Int) by omega)]; rfl
    rw [if_neg hl] at h1
    rw [hf] at h1 ⊢
    refine ⟨⟨h1, h.b2, h.p, fun k hk => ?_, h.t2⟩, rfl⟩
    have hk : k ∈ s.t1.drop 1 ++ (s.b1 ++ [hd0 s.t1]) := hk
    refine h.seen k ?_
    simp only [List.mem_append, List.mem_singleton] at hk ⊢
    rcases hk with hk | hk | hk
    · exact .inl (List.mem_of_mem_drop hk)
    · exact .inr hk
    · exact .inl (hk ▸ hd0_mem h0)
theorem Oft.comes {c : Int} {s : ArcS} {seen : List ByteArray} (h : Oft c s seen) : Oft c (aComes c s).2 seen ∧ (aComes c s).2.t2 = s.t2 := by
  have hb1 : Oft c { s with b1 := s.b1.drop 1 } seen := ⟨aDropB1 h.ok 1, h.b2, h.p, fun k hk => h.seen k (by
    have hk : k ∈ s.t1 ++ s.b1.drop 1 := hk
    rw [List.mem_append] at hk ⊢
    exact hk.elim .inl fun h => .inr (List.mem_of_mem_drop h)), h.t2⟩
  have hb2 : Oft c { s with b2 := s.b2.drop 1 } seen := ⟨aDropB2 h.ok 1, by show s.b2.drop 1 = []; rw [h.b2]; rfl, h.p, h.seen, h.t2⟩
  obtain ⟨hok, _⟩ := aComes_ok h.ok
  unfold aComes at hok ⊢
  split
  · exact hb1.rep
  · rename_i n1
    rw [if_neg n1] at hok
    split
    · rename_i n2
      rw [if_pos n2] at hok
      refine ⟨⟨hok, h.b2, h.p, fun k hk => h.seen k ?_, h.t2⟩, rfl⟩
      have hk : k ∈ s.t1.drop 1 ++ s.b1 := hk
      rw [List.mem_append] at hk ⊢
      exact hk.elim (fun h => .inl (List.mem_of_mem_drop h)) .inr
    · split
      · exact ⟨h, rfl⟩
      · split
        · exact hb2.rep
        · exact h.rep
/-- a new key: T2 stays -/
theorem Oft.fresh {c : Int} {s : ArcS} {seen : List ByteArray} {k : ByteArray} (h : Oft c s seen) (hz : k.size < 64) (h1 : k ∉ s.t2) (h2 : k ∉ seen) : Oft c (aAcc c s k).2 (seen ++ [k]) ∧ (aAcc c s k).2.t2 = s.t2 := by
  have n1 : k ∉ s.t1 := fun hk => h2 (h.seen k (List.mem_append_left _ hk))
  have n3 : k ∉ s.b1 := fun hk => h2 (h.seen k (List.mem_append_right _ hk))
  have n4 : k ∉ s.b2 := by rw [h.b2]; simp
  have e1 : aAcc c s k = ((false, (aComes c s).1), aPush1 (aComes c s).2 k) := by unfold aAcc; rw [if_neg (fun h => h.elim n1 h1), if_neg n3, if_neg n4]
  have hok := (aAcc_law2 h.ok (k := k) hz).1
  obtain ⟨hc, ht⟩ := h.comes
  rw [e1] at hok ⊢
  have g1 : gTake (aComes c s).2.t2 k = s.t2 := by rw [ht, gTake_not h1]
  refine ⟨⟨hok, ?_, hc.p, fun j hj => ?_, ?_⟩, g1⟩
  · show gTake (aComes c s).2.b2 k = []
    rw [hc.b2]; rfl
  · have hj : j ∈ (gTake (aComes c s).2.t1 k ++ [k]) ++ gTake (aComes c s).2.b1 k := hj
    simp only [List.mem_append, List.mem_singleton, gTake_mem] at hj ⊢
    rcases hj with (hj | hj) | hj
    · exact .inl (hc.seen j (List.mem_append_left _ hj.1))
    · exact .inr hj
    · exact .inl (hc.seen j (List.mem_append_right _ hj.1))
  · show ((gTake (aComes c s).2.t2 k).length : Int) < c
    rw [g1]; exact h.t2
/-- a key that comes twice, where nothing but such ones is there -/
structure Twi (c : Int) (s : ArcS) (l : List ByteArray) : Prop where
  ok : ArcOk c s
  t1 : s.t1 = []
  b1 : s.b1 = []
  b2 : s.b2 = []
  p : s.p = 0
  mem : ∀ k, k ∈ s.t2 ↔ k ∈ l
theorem twi0 {c : Int} (h1 : 1 ≤ c) (h2 : c ≤ 1024) : Twi c arc0 [] := ⟨aOk0 h1 h2, rfl, rfl, rfl, rfl, fun k => by simp [arc0]⟩
theorem Twi.hit {c : Int} {s : ArcS} {l : List ByteArray} {k : ByteArray} (h : Twi c s l) (hz : k.size < 64) (hk : k ∈ s.t2) : Twi c (aAcc c s k).2 l := by
  have e1 : aAcc c s k = ((true, []), aPush2 s k) := if_pos (.inr hk)
  have hok := (aAcc_law2 h.ok (k := k) hz).1
  rw [e1] at hok ⊢
  refine ⟨hok, ?_, ?_, ?_, h.p, fun j => ?_⟩
  · show gTake s.t1 k = []; rw [h.t1]; rfl
  · show gTake s.b1 k = []; rw [h.b1]; rfl
  · show gTake s.b2 k = []; rw [h.b2]; rfl
  · show j ∈ gTake s.t2 k ++ [k] ↔ j ∈ l
    rw [List.mem_append, List.mem_singleton, gTake_mem, ← h.mem]
    constructor
    · rintro (hj | rfl)
      · exact hj.1
      · exact hk
    · intro hj
      by_cases hjk : j = k
      · exact .inr hjk
      · exact .inl ⟨hj, hjk⟩
theorem Twi.twice {c : Int} {s : ArcS} {l : List ByteArray} {k : ByteArray} (h : Twi c s l) (hz : k.size < 64) (hl : (s.t2.length : Int) < c) : Twi c (aAcc c (aAcc c s k).2 k).2 (l ++ [k]) := by
  have hlk : ∀ {y : ArcS}, Twi c y l → k ∈ l → Twi c y (l ++ [k]) := fun hy hk => ⟨hy.ok, hy.t1, hy.b1, hy.b2, hy.p, fun j => by
    rw [hy.mem, List.mem_append, List.mem_singleton]
    exact ⟨.inl, fun h => h.elim id fun h => h ▸ hk⟩⟩
  by_cases hk : k ∈ s.t2
  · have h1 := h.hit hz hk
    have hk1 : k ∈ (aAcc c s k).2.t2 := (h1.mem k).2 ((h.mem k).1 hk)
    exact hlk (h1.hit hz hk1) ((h.mem k).1 hk)
  · have n1 : k ∉ s.t1 := by rw [h.t1]; simp
    have n3 : k ∉ s.b1 := by rw [h.b1]; simp
    have n4 : k ∉ s.b2 := by rw [h.b2]; simp
    have hc1 := h.ok.c1
    have q1 : s.t1.length = 0 := by rw [h.t1]; rfl
    have q3 : s.b1.length = 0 := by rw [h.b1]; rfl
    have q4 : s.b2.length = 0 := by rw [h.b2]; rfl
    have ec : aComes c s = ([], s) := by unfold aComes; rw [if_neg (by omega), if_neg (by omega), if_pos (by omega)]
    have e1 : aAcc c s k = ((false, []), aPush1 s k) := by unfold aAcc; rw [if_neg (fun h => h.elim n1 hk), if_neg n3, if_neg n4, ec]
    have hok1 := (aAcc_law2 h.ok (k := k) hz).1
    have hok2 := (aAcc_law2 hok1 (k := k) hz).1
    rw [e1] at hok1 hok2 ⊢
    have t1 : (aPush1 s k).t1 = [k] := by show gTake s.t1 k ++ [k] = [k]; rw [h.t1]; rfl
    have t2 : (aPush1 s k).t2 = s.t2 := by show gTake s.t2 k = s.t2; exact gTake_not hk
    have t3 : (aPush1 s k).b1 = [] := by show gTake s.b1 k = []; rw [h.b1]; rfl
    have t4 : (aPush1 s k).b2 = [] := by show gTake s.b2 k = []; rw [h.b2]; rfl
    have hp : (aPush1 s k).p = 0 := h.p
    generalize aPush1 s k = y at *
    have e2 : aAcc c y k = ((true, []), aPush2 y k) := if_pos (.inl (by rw [t1]; simp))
    have e3 : ((false, ([] : List ByteArray)), y).2 = y := rfl
    rw [e3, e2] at hok2 ⊢
    refine ⟨hok2, ?_, ?_, ?_, hp, fun j => ?_⟩
    · show gTake y.t1 k = []; rw [t1]; simp [gTake]
    · show gTake y.b1 k = []; rw [t3]; rfl
    · show gTake y.b2 k = []; rw [t4]; rfl
    · show j ∈ gTake y.t2 k ++ [k] ↔ j ∈ l ++ [k]
      rw [t2, gTake_not hk, List.mem_append, List.mem_append, h.mem]
end Go.Hb
namespace Go.Proofs.YtchlicgjdlkidaaDoor
open Go.Hb Go.IntWalk
section
variable {W w : World} {L M : List HP} {F : HP → List HP}
set_option maxHeartbeats 1000000 in
set_option maxRecDepth 100000 in
theorem aoften_walk {room : Int} {s0 s1 : Sl} {os ks : List ByteArray} [hr0 : ReadsR W s0 Rec.str os] [hr : ReadsR W s1 Rec.str ks] (hcap : s1.n ≤ s1.c) (hT : TabW W) : Calls Tryd.prog id_hoardlaw10_ArcOften #[.int .i64 room, .slice s0.a s0.n s0.c, .slice s1.a s1.n s1.c] W fun e w' => e = .returned (.bool true) ∧ KeptH W w' := by
  have hs := Sat.begin W
  refine law_of (hoardlaw10_ArcOften_calls ?_)
  rw [hoardlaw10_ArcOften_def, hoardlaw10_ArcOften_raw]
  obtain ⟨n50, hn50⟩ : ∃ n : Int, n = 50 := ⟨_, rfl⟩
  rw [← hn50]
  with_reducible refine ite_by (fun h0 => ?_) (fun h0 => ?_)
  · exact ⟨rfl, hs⟩
  with_reducible refine ite_by (fun h00 => ?_) (fun h00 => ?_)
  · exact ⟨rfl, hs⟩
  rw [i64_in (room - 1) (by omega)]
  with_reducible refine ite_by (fun h000 => ?_) (fun h000 => ?_)
  · exact ⟨rfl, hs⟩
  have hn0 := rdb_len (s := s0) hs
  have hn1 := rdb_len (s := s1) hs
  refine (long10 (s0 := s0) hs).mono fun e w ⟨hv, he, hsz0, hs⟩ => ⟨_, he, ?_⟩
  refine ite_cases (fun h1 => ⟨rfl, hs⟩) (fun h1 => ?_)
  obtain ⟨hlen0, hsz0⟩ := hsz0 h1
  refine (long10 (s0 := s1) hs).mono fun e w ⟨hv, he, hsz, hs⟩ => ⟨_, he, ?_⟩
  refine ite_cases (fun h1 => ⟨rfl, hs⟩) (fun h1 => ?_)
  obtain ⟨hlen, hsz⟩ := hsz h1
  rw [hoardlaw10_ArcOften_j1_def, hoardlaw10_ArcOften_j1_raw]
  refine call1_of (arc_New_at hs) fun e w ⟨b, he, hs⟩ => ⟨_, he, ite_false rfl ?_⟩
  have hrr : roomR room = room := by unfold roomR; omega
  rw [hrr] at hs
  have hwr : ∀ j : Nat, j < 100000 → IntKind.wrap .i64 ((j : Int) + 1) = ((j + 1 : Nat) : Int) := fun j hj => by rw [i64_in _ (by omega)]; omega
  -- at the end they are all there
  have fin : ∀ (w : World) (x : ArcS) (N : Nat), N < 100000 → (∀ k ∈ os, k ∈ x.t2) → Sat W w [arcR b room N x, old W] → hoardlaw10_ArcOften_j6 idJ (fun v w' => v = .bool true ∧ Sat W w' [old W]) s0 (some ⟨b, 0, none⟩) w := by
    clear hs
    intro w x N hN hin hs
    rw [hoardlaw10_ArcOften_j6_def, hoardlaw10_ArcOften_j6_raw]
    have loop : ∀ (f i : Nat) (w : World), i + f = os.length → Sat W w [arcR b room N x, old W] → hoardlaw10_ArcOften_l7 idJ (fun v w' => v = .bool true ∧ Sat W w' [old W]) (f + 1) s0 (some ⟨b, 0, none⟩) (i : Int) w := by
      clear hs
      intro f
      induction f with
      | zero =>
        intro i w hi hs
        rw [hoardlaw10_ArcOften_l7_raw]
        refine ite_false (decide_eq_false (by omega)) ?_
        rw [hoardlaw10_ArcOften_j8_def, hoardlaw10_ArcOften_j8_raw]
        exact call1_of (known10 hs hT) fun e w ⟨he, hs⟩ => ⟨_, he, rfl, by exact Sat.fin hs⟩
      | succ f ih =>
        intro i w hi hs
        rw [hoardlaw10_ArcOften_l7_raw]
        refine ite_true (decide_eq_true (by omega)) ?_
        repeat (first | with_reducible refine nilck_some ?_ | ((with_reducible refine atLd ?_); first | refine ld_b hs ?_ | refine ld_b (x := ⟨_, _, _⟩) hs ?_ | refine ld_r0 hs ?_ | refine ld_r1 hs ?_ | refine ld_rd0 ha_ hs ?_ | refine ld_rd1 ha_ hs ?_) | ((with_reducible refine isSt ?_); first | refine st_b hs fun w hs => ?_ | refine st_r0 hs fun w hs => ?_ | refine st_r1 hs fun w hs => ?_) | ((with_reducible refine isIdx ?_); first | refine idx_s hs fun b_ o_ hs => ?_ | refine idx_rd hs fun b_ o_ ha_ => ?_) | with_reducible refine newB_at hs fun b_ w hs => ?_ | ((with_reducible refine isLdS ?_); first | refine ldS_b ?_ | refine ldS_b (x := ⟨_, _, _⟩) ?_ | refine ldS_rs0 hs ?_ | refine ldS_rd0 ha_ ?_) | ((with_reducible refine isKeep ?_); first | refine keep_of hs ?_ | refine keep_imp hs ?_) | with_reducible refine when_om ?_ | with_reducible refine drawW_sat hs fun w hs => ?_)
        rw [Int.toNat_natCast]
        have hmem : os.getD i default ∈ os := getD_mem (by omega)
        have hkey := hsz0 _ hmem
        refine call1_of (arc_Has hs (by omega)) fun e w ⟨he, hs⟩ => ⟨_, he, ?_⟩
        rw [decide_eq_true (mem_aRes.2 (.inr (hin _ hmem)))]
        refine ite_false rfl ?_
        rw [hwr i (by omega)]
        exact ih (i + 1) w (by omega) (by exact Sat.fin hs)
    refine exM_of (os.length + 1) ?_
    exact loop os.length 0 w (by omega) hs
  have scan : ∀ (f i : Nat) (w : World) (x : ArcS) (N : Nat), i + f = ks.length → N + 3 * f < 90000 → Oft room x (ks.take i) → (∀ k, k ∈ x.t2 ↔ k ∈ os) → Sat W w [arcR b room N x, old W] →
      hoardlaw10_ArcOften_l4 idJ (fun v w' => v = .bool true ∧ Sat W w' [old W]) (f + 1) s0 s1 (some ⟨b, 0, none⟩) (i : Int) w := by
    clear hs
    intro f
    induction f with
    | zero =>
      intro i w x N hi hN hx hin hs
      rw [hoardlaw10_ArcOften_l4_raw]
      refine ite_false (decide_eq_false (by omega)) ?_
      exact fin w x N (by omega) (fun k hk => (hin k).2 hk) hs
    | succ f ih =>
      intro i w x N hi hN hx hin hs
      rw [hoardlaw10_ArcOften_l4_raw]
      refine ite_true (decide_eq_true (by omega)) ?_
      refine drawW_only [old W] hs fun w hs => ?_
      repeat (first | with_reducible refine nilck_some ?_ | ((with_reducible refine atLd ?_); first | refine ld_b hs ?_ | refine ld_b (x := ⟨_, _, _⟩) hs ?_ | refine ld_r0 hs ?_ | refine ld_r1 hs ?_ | refine ld_rd0 ha_ hs ?_ | refine ld_rd1 ha_ hs ?_) | ((with_reducible refine isSt ?_); first | refine st_b hs fun w hs => ?_ | refine st_r0 hs fun w hs => ?_ | refine st_r1 hs fun w hs => ?_) | ((with_reducible refine isIdx ?_); first | refine idx_s hs fun b_ o_ hs => ?_ | refine idx_rd hs fun b_ o_ ha_ => ?_) | with_reducible refine newB_at hs fun b_ w hs => ?_ | ((with_reducible refine isLdS ?_); first | refine ldS_b ?_ | refine ldS_b (x := ⟨_, _, _⟩) ?_ | refine ldS_rs0 hs ?_ | refine ldS_rd0 ha_ ?_) | ((with_reducible refine isKeep ?_); first | refine keep_of hs ?_ | refine keep_imp hs ?_) | with_reducible refine when_om ?_ | with_reducible refine drawW_sat hs fun w hs => ?_)
      try simp only [Int.toNat_natCast]
      have hkey := hsz _ (getD_mem (d := default) (show i < ks.length by omega))
      refine call1_of (has10 (s0 := s0) (xs := os) hs (by omega)) fun e w ⟨he, hs⟩ => ⟨_, he, ?_⟩
      refine ite_cases (fun h1 => call1_of (known10 hs hT) fun e w ⟨he, hs⟩ => ⟨_, he, rfl, by exact Sat.fin hs⟩) (fun h1 => ?_)
      have h1 := of_decide_eq_false h1
      refine when_of ⟨by omega, by omega⟩ ?_
      repeat (first | with_reducible refine nilck_some ?_ | ((with_reducible refine atLd ?_); first | refine ld_b hs ?_ | refine ld_b (x := ⟨_, _, _⟩) hs ?_ | refine ld_r0 hs ?_ | refine ld_r1 hs ?_ | refine ld_rd0 ha_ hs ?_ | refine ld_rd1 ha_ hs ?_) | ((with_reducible refine isSt ?_); first | refine st_b hs fun w hs => ?_ | refine st_r0 hs fun w hs => ?_ | refine st_r1 hs fun w hs => ?_) | ((with_reducible refine isIdx ?_); first | refine idx_s hs fun b_ o_ hs => ?_ | refine idx_rd hs fun b_ o_ ha_ => ?_) | with_reducible refine newB_at hs fun b_ w hs => ?_ | ((with_reducible refine isLdS ?_); first | refine ldS_b ?_ | refine ldS_b (x := ⟨_, _, _⟩) ?_ | refine ldS_rs0 hs ?_ | refine ldS_rd0 ha_ ?_) | ((with_reducible refine isKeep ?_); first | refine keep_of hs ?_ | refine keep_imp hs ?_) | with_reducible refine when_om ?_ | with_reducible refine drawW_sat hs fun w hs => ?_)
      have hpre : ReadsR W ⟨subA s1.a 0 s1.c 1, i - 0, s1.c - 0⟩ Rec.str (ks.take i) := hr.pre (by omega)
      refine call1_of (has10 (s0 := ⟨subA s1.a 0 s1.c 1, i - 0, s1.c - 0⟩) (xs := ks.take i) hs (by rw [List.length_take]; omega)) fun e w ⟨he, hs⟩ => ⟨_, he, ?_⟩
      refine ite_cases (fun h2 => call1_of (known10 hs hT) fun e w ⟨he, hs⟩ => ⟨_, he, rfl, by exact Sat.fin hs⟩) (fun h2 => ?_)
      have h2 := of_decide_eq_false h2
      rw [hoardlaw10_ArcOften_j5_def, hoardlaw10_ArcOften_j5_raw]
      repeat (first | with_reducible refine nilck_some ?_ | ((with_reducible refine atLd ?_); first | refine ld_b hs ?_ | refine ld_b (x := ⟨_, _, _⟩) hs ?_ | refine ld_r0 hs ?_ | refine ld_r1 hs ?_ | refine ld_rd0 ha_ hs ?_ | refine ld_rd1 ha_ hs ?_) | ((with_reducible refine isSt ?_); first | refine st_b hs fun w hs => ?_ | refine st_r0 hs fun w hs => ?_ | refine st_r1 hs fun w hs => ?_) | ((with_reducible refine isIdx ?_); first | refine idx_s hs fun b_ o_ hs => ?_ | refine idx_rd hs fun b_ o_ ha_ => ?_) | with_reducible refine newB_at hs fun b_ w hs => ?_ | ((with_reducible refine isLdS ?_); first | refine ldS_b ?_ | refine ldS_b (x := ⟨_, _, _⟩) ?_ | refine ldS_rs0 hs ?_ | refine ldS_rd0 ha_ ?_) | ((with_reducible refine isKeep ?_); first | refine keep_of hs ?_ | refine keep_imp hs ?_) | with_reducible refine when_om ?_ | with_reducible refine drawW_sat hs fun w hs => ?_)
      try simp only [Int.toNat_natCast]
      refine call2_of (arc_Access hs hx.ok (by omega) (by omega)) fun e w ⟨l, he, hs⟩ => ⟨_, l, he, ?_⟩
      obtain ⟨hx2, ht2⟩ := hx.fresh (k := ks.getD i default) (by omega) (fun h => h1 ((hin _).1 h)) h2
      rw [← take_snoc (by omega)] at hx2
      rw [hwr i (by omega)]
      exact ih (i + 1) w _ (N + 3) (by omega) (by omega) hx2 (fun k => by rw [ht2]; exact hin k) (by exact Sat.fin hs)
  have warm : ∀ (f i : Nat) (w : World) (x : ArcS), i + f = os.length → Twi room x (os.take i) → Sat W w [arcR b room (6 * i) x, old W] →
      hoardlaw10_ArcOften_l2 idJ (fun v w' => v = .bool true ∧ Sat W w' [old W]) (f + 1) s0 s1 (some ⟨b, 0, none⟩) (i : Int) w := by
    clear hs
    intro f
    have hlt : ∀ (i : Nat) (x : ArcS), Twi room x (os.take i) → x.t2.length ≤ (os.take i).length := fun i x hx => nodup_sub_len hx.ok.w.four.1.2.1 fun k hk => (hx.mem k).1 hk
    induction f with
    | zero =>
      intro i w x hi hx hs
      rw [hoardlaw10_ArcOften_l2_raw]
      refine ite_false (decide_eq_false (by omega)) ?_
      rw [hoardlaw10_ArcOften_j3_def, hoardlaw10_ArcOften_j3_raw]
      have hl := hlt i x hx
      have hm := hx.mem
      rw [List.take_of_length_le (by omega)] at hl hm
      refine exM_of (ks.length + 1) ?_
      exact scan ks.length 0 w x (6 * i) (by omega) (by omega) ⟨hx.ok, hx.b2, hx.p, fun k hk => by rw [hx.t1, hx.b1] at hk; simp at hk, by omega⟩ hm hs
    | succ f ih =>
      intro i w x hi hx hs
      rw [hoardlaw10_ArcOften_l2_raw]
      refine ite_true (decide_eq_true (by omega)) ?_
      repeat (first | with_reducible refine nilck_some ?_ | ((with_reducible refine atLd ?_); first | refine ld_b hs ?_ | refine ld_b (x := ⟨_, _, _⟩) hs ?_ | refine ld_r0 hs ?_ | refine ld_r1 hs ?_ | refine ld_rd0 ha_ hs ?_ | refine ld_rd1 ha_ hs ?_) | ((with_reducible refine isSt ?_); first | refine st_b hs fun w hs => ?_ | refine st_r0 hs fun w hs => ?_ | refine st_r1 hs fun w hs => ?_) | ((with_reducible refine isIdx ?_); first | refine idx_s hs fun b_ o_ hs => ?_ | refine idx_rd hs fun b_ o_ ha_ => ?_) | with_reducible refine newB_at hs fun b_ w hs => ?_ | ((with_reducible refine isLdS ?_); first | refine ldS_b ?_ | refine ldS_b (x := ⟨_, _, _⟩) ?_ | refine ldS_rs0 hs ?_ | refine ldS_rd0 ha_ ?_) | ((with_reducible refine isKeep ?_); first | refine keep_of hs ?_ | refine keep_imp hs ?_) | with_reducible refine when_om ?_ | with_reducible refine drawW_sat hs fun w hs => ?_)
      try simp only [Int.toNat_natCast]
      have hkey := hsz0 _ (getD_mem (d := default) (show i < os.length by omega))
      have hl := hlt i x hx
      rw [List.length_take] at hl
      refine call2_of (arc_Access hs hx.ok (by omega) (by omega)) fun e w ⟨l, he, hs⟩ => ⟨_, l, he, ?_⟩
      repeat (first | with_reducible refine nilck_some ?_ | ((with_reducible refine atLd ?_); first | refine ld_b hs ?_ | refine ld_b (x := ⟨_, _, _⟩) hs ?_ | refine ld_r0 hs ?_ | refine ld_r1 hs ?_ | refine ld_rd0 ha_ hs ?_ | refine ld_rd1 ha_ hs ?_) | ((with_reducible refine isSt ?_); first | refine st_b hs fun w hs => ?_ | refine st_r0 hs fun w hs => ?_ | refine st_r1 hs fun w hs => ?_) | ((with_reducible refine isIdx ?_); first | refine idx_s hs fun b_ o_ hs => ?_ | refine idx_rd hs fun b_ o_ ha_ => ?_) | with_reducible refine newB_at hs fun b_ w hs => ?_ | ((with_reducible refine isLdS ?_); first | refine ldS_b ?_ | refine ldS_b (x := ⟨_, _, _⟩) ?_ | refine ldS_rs0 hs ?_ | refine ldS_rd0 ha_ ?_) | ((with_reducible refine isKeep ?_); first | refine keep_of hs ?_ | refine keep_imp hs ?_) | with_reducible refine when_om ?_ | with_reducible refine drawW_sat hs fun w hs => ?_)
      try simp only [Int.toNat_natCast]
      refine call2_of (arc_Access hs (aAcc_law2 hx.ok (by omega)).1 (by omega) (by omega)) fun e w ⟨l2, he, hs⟩ => ⟨_, l2, he, ?_⟩
      have hx2 := hx.twice (k := os.getD i default) (by omega) (by omega)
      rw [← take_snoc (by omega)] at hx2
      rw [hwr i (by omega)]
      have h6 : 6 * i + 3 + 3 = 6 * (i + 1) := by omega
      rw [h6] at hs
      exact ih (i + 1) w _ (by omega) hx2 (by exact Sat.fin hs)
  refine exM_of (os.length + 1) ?_
  exact warm os.length 0 w arc0 (by omega) (twi0 (by omega) (by omega)) (by exact Sat.fin hs)
end
end Go.Proofs.YtchlicgjdlkidaaDoor
