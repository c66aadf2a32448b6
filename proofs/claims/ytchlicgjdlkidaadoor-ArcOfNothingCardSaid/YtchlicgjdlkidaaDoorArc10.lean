/- hoardlaw10: what the laws have in common. -/
import Derived.Test.YtchlicgjdlkidaaDoorArcRef
set_option linter.unusedVariables false
set_option linter.unusedSimpArgs false
set_option linter.unnecessarySimpa false
set_option linter.unusedSectionVars false
namespace Go.Hb
structure Act10 where
  kind : Int
  key : ByteArray
instance : Inhabited Act10 := ⟨⟨0, ⟨#[]⟩⟩⟩
def act10R : Rec Act10 := ⟨2, fun a => [.int .i64 a.kind, .string a.key], fun _ => rfl⟩
instance : PosR act10R := ⟨by decide⟩
def act10ok (a : Act10) : Prop := okStr a.key
theorem of_act10 (x : List Value) (h : okRow [.int .i64, .str] x) : ∃ a, x = act10R.cells a ∧ act10ok a := by
  obtain ⟨v0, v1, rfl⟩ : ∃ v0 v1, x = [v0, v1] := by
    have hl := okRow_len h
    match x, hl with
    | [v0, v1], _ => exact ⟨v0, v1, rfl⟩
  obtain ⟨h0, h1, _⟩ := h
  obtain ⟨k, rfl, _⟩ := h0
  obtain ⟨s, rfl, hs⟩ := h1
  exact ⟨⟨k, s⟩, rfl, hs⟩
theorem aOk0 {c : Int} (h1 : 1 ≤ c) (h2 : c ≤ 1024) : ArcOk c arc0 := ArcOk.ok0 h1 h2
section
variable {c : Int} {x : ArcS} {k : ByteArray}
theorem aAcc_law2 (h : ArcOk c x) (hz : k.size < 64) : ArcOk c (aAcc c x k).2 ∧ EAcc (aRes x) (aRes (aAcc c x k).2) k (aAcc c x k).1.1 (aAcc c x k).1.2 := ⟨(aAcc_law h hz).ok, aAcc_eacc h hz⟩
theorem aLoad_law2 (h : ArcOk c x) (hz : k.size < 64) : ArcOk c (aLoad c x k).2 ∧ (aLoad c x k).1 = decide (k ∉ aRes x ∧ ((aRes x).length : Int) < c) ∧ ((aLoad c x k).1 = true → ∀ z, z ∈ aRes (aLoad c x k).2 ↔ z ∈ aRes x ∨ z = k) ∧ ((aLoad c x k).1 = false → (aLoad c x k).2 = x) := by
  have hl := aLoad_law h hz
  refine ⟨hl.inv, hl.oks, fun ho z => ?_, hl.res.2⟩
  have hp := hl.res.1 ho
  have : z ∈ aRes (aLoad c x k).2 ↔ z ∈ k :: aRes x := hp.mem_iff
  rw [this, List.mem_cons]
  exact or_comm
theorem aRem_law2 (h : ArcOk c x) : ArcOk c (aRem x k).2 ∧ (aRem x k).1 = decide (k ∈ aRes x) ∧ ((aRem x k).1 = true → (∀ z, z ∈ aRes (aRem x k).2 ↔ z ∈ aRes x ∧ z ≠ k) ∧ k ∉ aGhs (aRem x k).2) ∧ ((aRem x k).1 = false → (aRem x k).2 = x) := by
  obtain ⟨h1, h2, h3, h4⟩ := aRem_law h (k := k)
  refine ⟨h1, h2, fun ho => ?_, h4⟩
  obtain ⟨p1, p2, p3⟩ := h3 ho
  refine ⟨fun z => ?_, p3⟩
  have hm : z ∈ aRes x ↔ z ∈ k :: aRes (aRem x k).2 := p1.mem_iff
  rw [hm, List.mem_cons]
  constructor
  · intro hz; exact ⟨.inr hz, fun he => p2 (he ▸ hz)⟩
  · rintro ⟨hz | hz, hne⟩
    · exact absurd hz hne
    · exact hz
structure AEv (c : Int) (x y : ArcS) (k : ByteArray) : Prop where
  ok : ArcOk c y
  sub : k ∈ aRes x
  mem : ∀ z, z ∈ aRes y ↔ z ∈ aRes x ∧ z ≠ k
  len : aLen y + 1 = aLen x
theorem aEvict_ok (h : ArcOk c x) (hp : aLen x ≠ 0) : (aEvict x).1.2 = true ∧ AEv c x (aEvict x).2 (aEvict x).1.1 := by
  obtain ⟨h1, h2, h3, h4⟩ := aEvict_law h
  have ho : (aEvict x).1.2 = true := by rw [h2, decide_eq_true_eq]; show (aRes x).length ≠ 0; rw [aRes_len]; exact hp
  have hperm : (aRes x).Perm ((aEvict x).1.1 :: aRes (aEvict x).2) := h3 ho
  have hnd := hperm.nodup_iff.1 h.w.res_nd
  rw [List.nodup_cons] at hnd
  refine ⟨ho, h1, hperm.mem_iff.2 (.head _), fun z => ?_, ?_⟩
  · rw [hperm.mem_iff, List.mem_cons]
    constructor
    · intro hz; exact ⟨.inr hz, fun he => hnd.1 (he ▸ hz)⟩
    · rintro ⟨hz | hz, hne⟩
      · exact absurd hz hne
      · exact hz
  · have := hperm.length_eq
    rw [List.length_cons, aRes_len, aRes_len] at this
    exact this.symm
end
def aAct (c : Int) (x : ArcS) (a : Act10) : ArcS := if a.kind = 1 then (aAcc c x a.key).2 else if a.kind = 2 then (aLoad c x a.key).2 else if a.kind = 3 then (aRem x a.key).2 else if a.kind = 4 then (aEvict x).2 else x
theorem aEvict_ok2 {c : Int} {x : ArcS} (h : ArcOk c x) : ArcOk c (aEvict x).2 := by
  by_cases h0 : aLen x = 0
  · have e1 : aEvict x = ((⟨#[]⟩, false), x) := if_pos h0
    rw [e1]; exact h
  · exact (aEvict_ok h h0).2.ok
theorem aAct_ok {c : Int} {x : ArcS} {a : Act10} (h : ArcOk c x) (hz : a.key.size < 64) : ArcOk c (aAct c x a) := by
  unfold aAct
  split
  · exact (aAcc_law2 h hz).1
  · split
    · exact (aLoad_law2 h hz).1
    · split
      · exact (aRem_law2 h).1
      · split
        · exact aEvict_ok2 h
        · exact h
end Go.Hb
namespace Go.Proofs.YtchlicgjdlkidaaDoor
open Go.Hb Go.IntWalk
section
variable {W w : World} {L M : List HP} {F : HP → List HP} {b b2 : Nat} {c : Int} {N : Nat} {x : ArcS} {key : ByteArray} {xs : List ByteArray}
set_option maxRecDepth 100000 in
/-- are acts more than is looked at? if not, the first keys are short -/
theorem heavy10 {s0 : Sl} {acts : List Act10} [hr : Rdb W L s0 act10R acts] (hs : Sat W w L) : Calls Tryd.prog id_hoardlaw10_heavy #[.slice s0.a s0.n s0.c] w fun e w' => ∃ b : Bool, e = .returned (.bool b) ∧ (b = false → ∀ i, i < acts.length → i < 200 → (acts.getD i default).key.size ≤ 40) ∧ Sat W w' L := by
  refine (hoardlaw10_heavy_calls (Q := fun v w' => ∃ b : Bool, v = .bool b ∧ (b = false → ∀ i, i < acts.length → i < 200 → (acts.getD i default).key.size ≤ 40) ∧ Sat W w' L) ?_).mono fun e w' ⟨v, he, b, hv, hs⟩ => ⟨b, by rw [he, hv], hs⟩
  rw [hoardlaw10_heavy_def, hoardlaw10_heavy_raw]
  obtain ⟨N, hN⟩ : ∃ N : Nat, N = 201 := ⟨_, rfl⟩
  have loop : ∀ (m i : Nat) (w : World), i + m = N → (∀ j, j < i → j < acts.length → (acts.getD j default).key.size ≤ 40) → Sat W w L → hoardlaw10_heavy_l1 idJ (fun v w' => ∃ b : Bool, v = .bool b ∧ (b = false → ∀ i, i < acts.length → i < 200 → (acts.getD i default).key.size ≤ 40) ∧ Sat W w' L) (m + 1) s0 (i : Int) w := by
    intro m
    induction m with
    | zero =>
      intro i w hi hp hs
      have hn := rdb_len (s := s0) hs
      rw [hoardlaw10_heavy_l1_raw]
      with_reducible refine ite_by (fun h1 => ?_) (fun h1 => ?_)
      · with_reducible refine ite_ltI (fun h2 => absurd h2 (by omega)) (fun h2 => ?_)
        rw [hoardlaw10_heavy_j3_def, hoardlaw10_heavy_j3_raw]
        exact ⟨_, rfl, fun _ j hj hj2 => hp j (by omega) hj, hs⟩
      · rw [hoardlaw10_heavy_j3_def, hoardlaw10_heavy_j3_raw]
        exact ⟨_, rfl, fun _ j hj hj2 => hp j (by omega) hj, hs⟩
    | succ m ih =>
      intro i w hi hp hs
      have hn := rdb_len (s := s0) hs
      rw [hoardlaw10_heavy_l1_raw]
      with_reducible refine ite_by (fun h1 => ?_) (fun h1 => ?_)
      · with_reducible refine ite_by (fun h2 => ?_) (fun h2 => ?_)
        · rw [hoardlaw10_heavy_j2_def, hoardlaw10_heavy_j2_raw]
          repeat (first | with_reducible refine nilck_some ?_ | ((with_reducible refine atLd ?_); first | refine ld_b hs ?_ | refine ld_b (x := ⟨_, _, _⟩) hs ?_ | refine ld_r0 hs ?_ | refine ld_r1 hs ?_ | refine ld_rd0 ha_ hs ?_ | refine ld_rd1 ha_ hs ?_) | ((with_reducible refine isSt ?_); first | refine st_b hs fun w hs => ?_ | refine st_r0 hs fun w hs => ?_ | refine st_r1 hs fun w hs => ?_) | ((with_reducible refine isIdx ?_); first | refine idx_s hs fun b_ o_ hs => ?_ | refine idx_rd hs fun b_ o_ ha_ => ?_) | with_reducible refine newB_at hs fun b_ w hs => ?_ | ((with_reducible refine isLdS ?_); first | refine ldS_b ?_ | refine ldS_b (x := ⟨_, _, _⟩) ?_ | refine ldS_rs0 hs ?_ | refine ldS_rd0 ha_ ?_) | ((with_reducible refine isKeep ?_); first | refine keep_of hs ?_ | refine keep_imp hs ?_) | with_reducible refine when_om ?_ | with_reducible refine drawW_sat hs fun w hs => ?_)
          rw [Int.toNat_natCast]
          with_reducible refine ite_by (fun h3 => ?_) (fun h3 => ?_)
          · exact ⟨_, rfl, (fun h => by cases h), hs⟩
          · rw [i64_in _ (by omega)]
            refine ih (i + 1) w (by omega) (fun j hj hj2 => ?_) hs
            by_cases hji : j = i
            · subst hji; omega
            · exact hp j (by omega) hj2
        · rw [hoardlaw10_heavy_j3_def, hoardlaw10_heavy_j3_raw]
          exact ⟨_, rfl, fun _ j hj hj2 => hp j (by omega) hj, hs⟩
      · rw [hoardlaw10_heavy_j3_def, hoardlaw10_heavy_j3_raw]
        exact ⟨_, rfl, fun _ j hj hj2 => hp j (by omega) hj, hs⟩
  refine ⟨N + 1, ?_⟩
  exact loop N 0 w (by omega) (fun j hj => by omega) hs

set_option maxRecDepth 100000 in
theorem long10 {s0 : Sl} [hr : Rdb W L s0 Rec.str xs] (hs : Sat W w L) : Calls Tryd.prog id_hoardlaw10_long #[.slice s0.a s0.n s0.c] w fun e w' => ∃ b : Bool, e = .returned (.bool b) ∧ (b = false → xs.length ≤ 200 ∧ ∀ k ∈ xs, k.size ≤ 40) ∧ Sat W w' L := by
  refine (hoardlaw10_long_calls (Q := fun v w' => ∃ b : Bool, v = .bool b ∧ (b = false → xs.length ≤ 200 ∧ ∀ k ∈ xs, k.size ≤ 40) ∧ Sat W w' L) ?_).mono fun e w' ⟨v, he, b, hv, hs⟩ => ⟨b, by rw [he, hv], hs⟩
  rw [hoardlaw10_long_def, hoardlaw10_long_raw]
  have hn := rdb_len (s := s0) hs
  obtain ⟨N, hN⟩ : ∃ N : Int, N = 200 := ⟨_, rfl⟩
  rw [← hN]
  with_reducible refine ite_by (fun h0 => ?_) (fun h0 => ?_)
  · exact ⟨_, rfl, (fun h => by cases h), hs⟩
  have loop : ∀ (m i : Nat) (w : World), i + m = xs.length → (∀ k ∈ xs.take i, k.size ≤ 40) → Sat W w L → hoardlaw10_long_l1 idJ (fun v w' => ∃ b : Bool, v = .bool b ∧ (b = false → xs.length ≤ 200 ∧ ∀ k ∈ xs, k.size ≤ 40) ∧ Sat W w' L) (m + 1) s0 (i : Int) w := by
    intro m
    induction m with
    | zero =>
      intro i w hi hp hs
      rw [hoardlaw10_long_l1_raw]
      refine ite_false (decide_eq_false (by omega)) ?_
      rw [hoardlaw10_long_j2_def, hoardlaw10_long_j2_raw]
      rw [List.take_of_length_le (by omega)] at hp
      exact ⟨_, rfl, fun _ => ⟨by omega, hp⟩, hs⟩
    | succ m ih =>
      intro i w hi hp hs
      rw [hoardlaw10_long_l1_raw]
      refine ite_true (decide_eq_true (by omega)) ?_
      repeat (first | with_reducible refine nilck_some ?_ | ((with_reducible refine atLd ?_); first | refine ld_b hs ?_ | refine ld_b (x := ⟨_, _, _⟩) hs ?_ | refine ld_r0 hs ?_ | refine ld_r1 hs ?_ | refine ld_rd0 ha_ hs ?_ | refine ld_rd1 ha_ hs ?_) | ((with_reducible refine isSt ?_); first | refine st_b hs fun w hs => ?_ | refine st_r0 hs fun w hs => ?_ | refine st_r1 hs fun w hs => ?_) | ((with_reducible refine isIdx ?_); first | refine idx_s hs fun b_ o_ hs => ?_ | refine idx_rd hs fun b_ o_ ha_ => ?_) | with_reducible refine newB_at hs fun b_ w hs => ?_ | ((with_reducible refine isLdS ?_); first | refine ldS_b ?_ | refine ldS_b (x := ⟨_, _, _⟩) ?_ | refine ldS_rs0 hs ?_ | refine ldS_rd0 ha_ ?_) | ((with_reducible refine isKeep ?_); first | refine keep_of hs ?_ | refine keep_imp hs ?_) | with_reducible refine when_om ?_ | with_reducible refine drawW_sat hs fun w hs => ?_)
      rw [Int.toNat_natCast]
      with_reducible refine ite_by (fun h3 => ?_) (fun h3 => ?_)
      · exact ⟨_, rfl, (fun h => by cases h), hs⟩
      · rw [show IntKind.wrap .i64 ((i : Int) + 1) = ((i + 1 : Nat) : Int) by rw [i64_in _ (by omega)]; omega]
        refine ih (i + 1) w (by omega) (fun k hk => ?_) hs
        rw [take_snoc (by omega), List.mem_append, List.mem_singleton] at hk
        rcases hk with hk | rfl
        · exact hp k hk
        · omega
  refine exM_of (xs.length + 1) ?_
  exact loop xs.length 0 w (by omega) (by simp) hs
set_option maxRecDepth 100000 in
theorem has10 {s0 : Sl} [hr : Rdb W L s0 Rec.str xs] (hs : Sat W w L) (hz : xs.length < 1000000) : Calls Tryd.prog id_hoardlaw10_has #[.slice s0.a s0.n s0.c, .string key] w fun e w' => e = .returned (.bool (decide (key ∈ xs))) ∧ Sat W w' L := by
  refine c1 (hoardlaw10_has_calls ?_)
  rw [hoardlaw10_has_def, hoardlaw10_has_raw]
  have hn := rdb_len (s := s0) hs
  have loop : ∀ (m i : Nat) (w : World), i + m = xs.length → key ∉ xs.take i → Sat W w L → hoardlaw10_has_l1 idJ (fun v w' => v = .bool (decide (key ∈ xs)) ∧ Sat W w' L) (m + 1) s0 key (i : Int) w := by
    intro m
    induction m with
    | zero =>
      intro i w hi hp hs
      rw [hoardlaw10_has_l1_raw]
      refine ite_false (decide_eq_false (by omega)) ?_
      rw [hoardlaw10_has_j2_def, hoardlaw10_has_j2_raw]
      rw [List.take_of_length_le (by omega)] at hp
      exact ⟨by rw [decide_eq_false hp], hs⟩
    | succ m ih =>
      intro i w hi hp hs
      rw [hoardlaw10_has_l1_raw]
      refine ite_true (decide_eq_true (by omega)) ?_
      repeat (first | with_reducible refine nilck_some ?_ | ((with_reducible refine atLd ?_); first | refine ld_b hs ?_ | refine ld_b (x := ⟨_, _, _⟩) hs ?_ | refine ld_r0 hs ?_ | refine ld_r1 hs ?_ | refine ld_rd0 ha_ hs ?_ | refine ld_rd1 ha_ hs ?_) | ((with_reducible refine isSt ?_); first | refine st_b hs fun w hs => ?_ | refine st_r0 hs fun w hs => ?_ | refine st_r1 hs fun w hs => ?_) | ((with_reducible refine isIdx ?_); first | refine idx_s hs fun b_ o_ hs => ?_ | refine idx_rd hs fun b_ o_ ha_ => ?_) | with_reducible refine newB_at hs fun b_ w hs => ?_ | ((with_reducible refine isLdS ?_); first | refine ldS_b ?_ | refine ldS_b (x := ⟨_, _, _⟩) ?_ | refine ldS_rs0 hs ?_ | refine ldS_rd0 ha_ ?_) | ((with_reducible refine isKeep ?_); first | refine keep_of hs ?_ | refine keep_imp hs ?_) | with_reducible refine when_om ?_ | with_reducible refine drawW_sat hs fun w hs => ?_)
      rw [Int.toNat_natCast]
      with_reducible refine ite_by (fun h3 => ?_) (fun h3 => ?_)
      · have : key ∈ xs := h3 ▸ getD_mem (by omega)
        exact ⟨by rw [decide_eq_true this], hs⟩
      · rw [show IntKind.wrap .i64 ((i : Int) + 1) = ((i + 1 : Nat) : Int) by rw [i64_in _ (by omega)]; omega]
        refine ih (i + 1) w (by omega) ?_ hs
        rw [take_snoc (by omega), List.mem_append, List.mem_singleton]
        rintro (hk | hk)
        · exact hp hk
        · exact h3 hk.symm
  refine exM_of (xs.length + 1) ?_
  exact loop xs.length 0 w (by omega) (by simp) hs
set_option maxRecDepth 100000 in
theorem cut10 {s0 : Sl} [hr : Rdb W L s0 Rec.str xs] (hs : Sat W w L) (hz : xs.length < 1000000) : Calls Tryd.prog id_hoardlaw10_cut #[.slice s0.a s0.n s0.c, .string key] w fun e w' => ∃ l : Sl, e = .returned (.slice l.a l.n l.c) ∧ Sat W w' (recs Rec.str l (gTake xs key) :: L) := by
  refine (hoardlaw10_cut_calls (Q := fun v w' => ∃ l : Sl, v = .slice l.a l.n l.c ∧ Sat W w' (recs Rec.str l (gTake xs key) :: L)) ?_).mono fun e w' ⟨v, he, l, hv, hs⟩ => ⟨l, by rw [he, hv], hs⟩
  rw [hoardlaw10_cut_def, hoardlaw10_cut_raw]
  have hn := rdb_len (s := s0) hs
  have hs := Sat.nilR Rec.str hs
  have loop : ∀ (m i : Nat) (w : World) (acc : Sl), i + m = xs.length → Sat W w (recs Rec.str acc (gTake (xs.take i) key) :: L) → hoardlaw10_cut_l1 idJ (fun v w' => ∃ l : Sl, v = .slice l.a l.n l.c ∧ Sat W w' (recs Rec.str l (gTake xs key) :: L)) (m + 1) s0 key acc (i : Int) w := by
    clear hs
    intro m
    induction m with
    | zero =>
      intro i w acc hi hs
      rw [hoardlaw10_cut_l1_raw]
      refine ite_false (decide_eq_false (by omega)) ?_
      rw [hoardlaw10_cut_j2_def, hoardlaw10_cut_j2_raw]
      rw [List.take_of_length_le (by omega)] at hs
      exact ⟨acc, rfl, hs⟩
    | succ m ih =>
      intro i w acc hi hs
      rw [hoardlaw10_cut_l1_raw]
      refine ite_true (decide_eq_true (by omega)) ?_
      repeat (first | with_reducible refine nilck_some ?_ | ((with_reducible refine atLd ?_); first | refine ld_b hs ?_ | refine ld_b (x := ⟨_, _, _⟩) hs ?_ | refine ld_r0 hs ?_ | refine ld_r1 hs ?_ | refine ld_rd0 ha_ hs ?_ | refine ld_rd1 ha_ hs ?_) | ((with_reducible refine isSt ?_); first | refine st_b hs fun w hs => ?_ | refine st_r0 hs fun w hs => ?_ | refine st_r1 hs fun w hs => ?_) | ((with_reducible refine isIdx ?_); first | refine idx_s hs fun b_ o_ hs => ?_ | refine idx_rd hs fun b_ o_ ha_ => ?_) | with_reducible refine newB_at hs fun b_ w hs => ?_ | ((with_reducible refine isLdS ?_); first | refine ldS_b ?_ | refine ldS_b (x := ⟨_, _, _⟩) ?_ | refine ldS_rs0 hs ?_ | refine ldS_rd0 ha_ ?_) | ((with_reducible refine isKeep ?_); first | refine keep_of hs ?_ | refine keep_imp hs ?_) | with_reducible refine when_om ?_ | with_reducible refine drawW_sat hs fun w hs => ?_)
      rw [Int.toNat_natCast]
      have hsn := gTake_snoc (q := xs) (k := key) (j := i) (by omega)
      have hln := gTake_len (xs.take i) key
      rw [List.length_take] at hln
      with_reducible refine ite_by (fun h3 => ?_) (fun h3 => ?_)
      · rw [if_neg h3] at hsn
        repeat (first | with_reducible refine nilck_some ?_ | ((with_reducible refine atLd ?_); first | refine ld_b hs ?_ | refine ld_b (x := ⟨_, _, _⟩) hs ?_ | refine ld_r0 hs ?_ | refine ld_r1 hs ?_ | refine ld_rd0 ha_ hs ?_ | refine ld_rd1 ha_ hs ?_) | ((with_reducible refine isSt ?_); first | refine st_b hs fun w hs => ?_ | refine st_r0 hs fun w hs => ?_ | refine st_r1 hs fun w hs => ?_) | ((with_reducible refine isIdx ?_); first | refine idx_s hs fun b_ o_ hs => ?_ | refine idx_rd hs fun b_ o_ ha_ => ?_) | with_reducible refine newB_at hs fun b_ w hs => ?_ | ((with_reducible refine isLdS ?_); first | refine ldS_b ?_ | refine ldS_b (x := ⟨_, _, _⟩) ?_ | refine ldS_rs0 hs ?_ | refine ldS_rd0 ha_ ?_) | ((with_reducible refine isKeep ?_); first | refine keep_of hs ?_ | refine keep_imp hs ?_) | with_reducible refine when_om ?_ | with_reducible refine drawW_sat hs fun w hs => ?_)
        refine app_one (s := acc) (a := xs.getD i default) hs rfl rfl rfl rfl (by decide) (by omega) fun s2 w hs2 hs => ?_
        rw [← hsn] at hs
        rw [show IntKind.wrap .i64 ((i : Int) + 1) = ((i + 1 : Nat) : Int) by rw [i64_in _ (by omega)]; omega]
        exact ih (i + 1) w s2 (by omega) (by exact Sat.fin hs)
      · rw [if_pos h3, List.append_nil] at hsn
        rw [← hsn] at hs
        rw [show IntKind.wrap .i64 ((i : Int) + 1) = ((i + 1 : Nat) : Int) by rw [i64_in _ (by omega)]; omega]
        exact ih (i + 1) w acc (by omega) hs
  refine exM_of (xs.length + 1) ?_
  exact loop xs.length 0 w ⟨none, 0, 0⟩ (by omega) hs
set_option maxRecDepth 100000 in
theorem known10 (hs : Sat W w L) [hO : AtO L W] (hT : TabW W) : Calls Tryd.prog id_hoardlaw10_known #[] w fun e w' => e = .returned (.bool true) ∧ Sat W w' L := by
  refine c1 (hoardlaw10_known_calls ?_)
  rw [hoardlaw10_known_def, hoardlaw10_known_raw]
  refine call1_of (arc_New_at hs) fun e w ⟨b, he, hs⟩ => ⟨_, he, ite_false rfl ?_⟩
  have e0 : roomR 2 = 2 := by decide
  rw [e0] at hs
  refine newB_at hs fun b3 w hs => ?_
  have hs : Sat W w (recs Rec.str ⟨some ⟨b3, 0, none⟩, 4, 4⟩ [str_a, str_a, str_b, str_c] :: arcR b 2 0 arc0 :: L) := Sat.blkS (b := b3) Rec.str [str_a, str_a, str_b, str_c] hs rfl rfl |> fun h => by have hs := h; exact Sat.fin hs
  have z1 : str_a.size < 64 := by decide
  have z2 : str_b.size < 64 := by decide
  have z3 : str_c.size < 64 := by decide
  have x0 : ArcOk 2 arc0 := aOk0 (by decide) (by decide)
  have x1 := (aAcc_law2 x0 z1).1
  have x2 := (aAcc_law2 x1 z1).1
  have x3 := (aAcc_law2 x2 z2).1
  have x4 := (aAcc_law2 x3 z3).1
  have e4 : (aAcc 2 (aAcc 2 (aAcc 2 (aAcc 2 arc0 str_a).2 str_a).2 str_b).2 str_c).2.t1 = [str_c] ∧ (aAcc 2 (aAcc 2 (aAcc 2 (aAcc 2 arc0 str_a).2 str_a).2 str_b).2 str_c).2.t2 = [str_a] ∧ (aAcc 2 (aAcc 2 (aAcc 2 (aAcc 2 arc0 str_a).2 str_a).2 str_b).2 str_c).2.b1 = [str_b] ∧ (aAcc 2 (aAcc 2 (aAcc 2 (aAcc 2 arc0 str_a).2 str_a).2 str_b).2 str_c).2.b2 = [] ∧ (aAcc 2 (aAcc 2 (aAcc 2 (aAcc 2 arc0 str_a).2 str_a).2 str_b).2 str_c).2.p = 0 := by decide +kernel
  refine exM_of 5 ?_
  rw [hoardlaw10_known_l1_raw]
  refine ite_true rfl ?_
  repeat (first | with_reducible refine nilck_some ?_ | ((with_reducible refine atLd ?_); first | refine ld_b hs ?_ | refine ld_b (x := ⟨_, _, _⟩) hs ?_ | refine ld_r0 hs ?_ | refine ld_r1 hs ?_ | refine ld_rd0 ha_ hs ?_ | refine ld_rd1 ha_ hs ?_) | ((with_reducible refine isSt ?_); first | refine st_b hs fun w hs => ?_ | refine st_r0 hs fun w hs => ?_ | refine st_r1 hs fun w hs => ?_) | ((with_reducible refine isIdx ?_); first | refine idx_s hs fun b_ o_ hs => ?_ | refine idx_rd hs fun b_ o_ ha_ => ?_) | with_reducible refine newB_at hs fun b_ w hs => ?_ | ((with_reducible refine isLdS ?_); first | refine ldS_b ?_ | refine ldS_b (x := ⟨_, _, _⟩) ?_ | refine ldS_rs0 hs ?_ | refine ldS_rd0 ha_ ?_) | ((with_reducible refine isKeep ?_); first | refine keep_of hs ?_ | refine keep_imp hs ?_) | with_reducible refine when_om ?_ | with_reducible refine drawW_sat hs fun w hs => ?_)
  refine call2_of (arc_Access (key := str_a) hs x0 z1 (by decide)) fun e w ⟨l, he, hs⟩ => ⟨_, l, he, ?_⟩
  rw [show IntKind.wrap .i64 ((0 : Int) + 1) = 1 by decide, hoardlaw10_known_l1_raw]
  refine ite_true rfl ?_
  repeat (first | with_reducible refine nilck_some ?_ | ((with_reducible refine atLd ?_); first | refine ld_b hs ?_ | refine ld_b (x := ⟨_, _, _⟩) hs ?_ | refine ld_r0 hs ?_ | refine ld_r1 hs ?_ | refine ld_rd0 ha_ hs ?_ | refine ld_rd1 ha_ hs ?_) | ((with_reducible refine isSt ?_); first | refine st_b hs fun w hs => ?_ | refine st_r0 hs fun w hs => ?_ | refine st_r1 hs fun w hs => ?_) | ((with_reducible refine isIdx ?_); first | refine idx_s hs fun b_ o_ hs => ?_ | refine idx_rd hs fun b_ o_ ha_ => ?_) | with_reducible refine newB_at hs fun b_ w hs => ?_ | ((with_reducible refine isLdS ?_); first | refine ldS_b ?_ | refine ldS_b (x := ⟨_, _, _⟩) ?_ | refine ldS_rs0 hs ?_ | refine ldS_rd0 ha_ ?_) | ((with_reducible refine isKeep ?_); first | refine keep_of hs ?_ | refine keep_imp hs ?_) | with_reducible refine when_om ?_ | with_reducible refine drawW_sat hs fun w hs => ?_)
  refine call2_of (arc_Access (key := str_a) hs x1 z1 (by decide)) fun e w ⟨l, he, hs⟩ => ⟨_, l, he, ?_⟩
  rw [show IntKind.wrap .i64 ((1 : Int) + 1) = 2 by decide, hoardlaw10_known_l1_raw]
  refine ite_true rfl ?_
  repeat (first | with_reducible refine nilck_some ?_ | ((with_reducible refine atLd ?_); first | refine ld_b hs ?_ | refine ld_b (x := ⟨_, _, _⟩) hs ?_ | refine ld_r0 hs ?_ | refine ld_r1 hs ?_ | refine ld_rd0 ha_ hs ?_ | refine ld_rd1 ha_ hs ?_) | ((with_reducible refine isSt ?_); first | refine st_b hs fun w hs => ?_ | refine st_r0 hs fun w hs => ?_ | refine st_r1 hs fun w hs => ?_) | ((with_reducible refine isIdx ?_); first | refine idx_s hs fun b_ o_ hs => ?_ | refine idx_rd hs fun b_ o_ ha_ => ?_) | with_reducible refine newB_at hs fun b_ w hs => ?_ | ((with_reducible refine isLdS ?_); first | refine ldS_b ?_ | refine ldS_b (x := ⟨_, _, _⟩) ?_ | refine ldS_rs0 hs ?_ | refine ldS_rd0 ha_ ?_) | ((with_reducible refine isKeep ?_); first | refine keep_of hs ?_ | refine keep_imp hs ?_) | with_reducible refine when_om ?_ | with_reducible refine drawW_sat hs fun w hs => ?_)
  refine call2_of (arc_Access (key := str_b) hs x2 z2 (by decide)) fun e w ⟨l, he, hs⟩ => ⟨_, l, he, ?_⟩
  rw [show IntKind.wrap .i64 ((2 : Int) + 1) = 3 by decide, hoardlaw10_known_l1_raw]
  refine ite_true rfl ?_
  repeat (first | with_reducible refine nilck_some ?_ | ((with_reducible refine atLd ?_); first | refine ld_b hs ?_ | refine ld_b (x := ⟨_, _, _⟩) hs ?_ | refine ld_r0 hs ?_ | refine ld_r1 hs ?_ | refine ld_rd0 ha_ hs ?_ | refine ld_rd1 ha_ hs ?_) | ((with_reducible refine isSt ?_); first | refine st_b hs fun w hs => ?_ | refine st_r0 hs fun w hs => ?_ | refine st_r1 hs fun w hs => ?_) | ((with_reducible refine isIdx ?_); first | refine idx_s hs fun b_ o_ hs => ?_ | refine idx_rd hs fun b_ o_ ha_ => ?_) | with_reducible refine newB_at hs fun b_ w hs => ?_ | ((with_reducible refine isLdS ?_); first | refine ldS_b ?_ | refine ldS_b (x := ⟨_, _, _⟩) ?_ | refine ldS_rs0 hs ?_ | refine ldS_rd0 ha_ ?_) | ((with_reducible refine isKeep ?_); first | refine keep_of hs ?_ | refine keep_imp hs ?_) | with_reducible refine when_om ?_ | with_reducible refine drawW_sat hs fun w hs => ?_)
  refine call2_of (arc_Access (key := str_c) hs x3 z3 (by decide)) fun e w ⟨l, he, hs⟩ => ⟨_, l, he, ?_⟩
  rw [show IntKind.wrap .i64 ((3 : Int) + 1) = 4 by decide, hoardlaw10_known_l1_raw]
  refine ite_false rfl ?_
  rw [hoardlaw10_known_j2_def, hoardlaw10_known_j2_raw]
  generalize (aAcc 2 (aAcc 2 (aAcc 2 (aAcc 2 arc0 str_a).2 str_a).2 str_b).2 str_c).2 = y at *
  have e3 : aTxt y = str_T1__c_T2__a_B1__b_B2 := by
    unfold aTxt
    rw [e4.1, e4.2.1, e4.2.2.1, e4.2.2.2.1, e4.2.2.2.2, show (0 : Int).toNat = 0 from rfl, digT_small (by decide)]
    decide +kernel
  have hs : Sat W w (arcR b 2 (0 + 3 + 3 + 3 + 3) y :: L) := by exact Sat.fin hs
  refine call1_of (arc_State_in hs hT x4 (by decide)) fun e w ⟨he, hs⟩ => ⟨_, he, ?_⟩
  refine ⟨?_, by exact Sat.fin hs⟩
  rw [sEq_eq]
  exact congrArg Value.bool (decide_eq_true e3)
theorem arc_Len2 (hs : Sat W w L) [hA : At L b (arcR b c N x) F] (hx : ArcOk c x) (hN : N < 100000000) : Calls Tryd.prog id_arc_Engine_Len #[.pointer (some ⟨b, 0, none⟩)] w fun e w' => e = .returned (.int .i64 ((aRes x).length : Int)) ∧ Sat W w' (F (arcR b c N x)) := by
  refine (arc_Len hs hN).mono fun e w ⟨he, hs⟩ => ⟨?_, hs⟩
  rw [he, aRes_len]
theorem act10 {a : Act10} (hs : Sat W w (arcR b c N x :: rrR b2 c x :: M)) (hx : ArcOk c x) (hN : N < 80000000) (hk : a.key.size ≤ 40) :
    Calls Tryd.prog id_hoardlaw10_act #[.pointer (some ⟨b, 0, none⟩), .pointer (some ⟨b2, 0, none⟩), .agg #[.int .i64 a.kind, .string a.key]] w fun e w' => e = .returned (.bool true) ∧ Sat W w' (arcR b c (N + 3) (aAct c x a) :: rrR b2 c (aAct c x a) :: M) := by
  refine c1 (hoardlaw10_act_calls ?_)
  rw [hoardlaw10_act_def, hoardlaw10_act_raw]
  have hc : 0 ≤ c := by have := hx.c1; omega
  have hsm := hx.lens
  have hw := hx.w
  refine newB_at hs fun nb w hs => ?_
  repeat (first | with_reducible refine nilck_some ?_ | ((with_reducible refine atLd ?_); first | refine ld_b hs ?_ | refine ld_b (x := ⟨_, _, _⟩) hs ?_ | refine ld_r0 hs ?_ | refine ld_r1 hs ?_ | refine ld_rd0 ha_ hs ?_ | refine ld_rd1 ha_ hs ?_) | ((with_reducible refine isSt ?_); first | refine st_b hs fun w hs => ?_ | refine st_r0 hs fun w hs => ?_ | refine st_r1 hs fun w hs => ?_) | ((with_reducible refine isIdx ?_); first | refine idx_s hs fun b_ o_ hs => ?_ | refine idx_rd hs fun b_ o_ ha_ => ?_) | with_reducible refine newB_at hs fun b_ w hs => ?_ | ((with_reducible refine isLdS ?_); first | refine ldS_b ?_ | refine ldS_b (x := ⟨_, _, _⟩) ?_ | refine ldS_rs0 hs ?_ | refine ldS_rd0 ha_ ?_) | ((with_reducible refine isKeep ?_); first | refine keep_of hs ?_ | refine keep_imp hs ?_) | with_reducible refine when_om ?_ | with_reducible refine drawW_sat hs fun w hs => ?_)
  with_reducible refine ite_by (fun h1 => ?_) (fun h1 => ?_)
  · have e1 : aAct c x a = (aAcc c x a.key).2 := if_pos h1
    rw [e1]
    repeat (first | with_reducible refine nilck_some ?_ | ((with_reducible refine atLd ?_); first | refine ld_b hs ?_ | refine ld_b (x := ⟨_, _, _⟩) hs ?_ | refine ld_r0 hs ?_ | refine ld_r1 hs ?_ | refine ld_rd0 ha_ hs ?_ | refine ld_rd1 ha_ hs ?_) | ((with_reducible refine isSt ?_); first | refine st_b hs fun w hs => ?_ | refine st_r0 hs fun w hs => ?_ | refine st_r1 hs fun w hs => ?_) | ((with_reducible refine isIdx ?_); first | refine idx_s hs fun b_ o_ hs => ?_ | refine idx_rd hs fun b_ o_ ha_ => ?_) | with_reducible refine newB_at hs fun b_ w hs => ?_ | ((with_reducible refine isLdS ?_); first | refine ldS_b ?_ | refine ldS_b (x := ⟨_, _, _⟩) ?_ | refine ldS_rs0 hs ?_ | refine ldS_rd0 ha_ ?_) | ((with_reducible refine isKeep ?_); first | refine keep_of hs ?_ | refine keep_imp hs ?_) | with_reducible refine when_om ?_ | with_reducible refine drawW_sat hs fun w hs => ?_)
    refine call2_of (arc_Access hs hx (by omega) (by omega)) fun e w ⟨l, he, hs⟩ => ⟨_, l, he, ?_⟩
    repeat (first | with_reducible refine nilck_some ?_ | ((with_reducible refine atLd ?_); first | refine ld_b hs ?_ | refine ld_b (x := ⟨_, _, _⟩) hs ?_ | refine ld_r0 hs ?_ | refine ld_r1 hs ?_ | refine ld_rd0 ha_ hs ?_ | refine ld_rd1 ha_ hs ?_) | ((with_reducible refine isSt ?_); first | refine st_b hs fun w hs => ?_ | refine st_r0 hs fun w hs => ?_ | refine st_r1 hs fun w hs => ?_) | ((with_reducible refine isIdx ?_); first | refine idx_s hs fun b_ o_ hs => ?_ | refine idx_rd hs fun b_ o_ ha_ => ?_) | with_reducible refine newB_at hs fun b_ w hs => ?_ | ((with_reducible refine isLdS ?_); first | refine ldS_b ?_ | refine ldS_b (x := ⟨_, _, _⟩) ?_ | refine ldS_rs0 hs ?_ | refine ldS_rd0 ha_ ?_) | ((with_reducible refine isKeep ?_); first | refine keep_of hs ?_ | refine keep_imp hs ?_) | with_reducible refine when_om ?_ | with_reducible refine drawW_sat hs fun w hs => ?_)
    refine call2_of (r10_Access hs hx) fun e w ⟨l2, he, hs⟩ => ⟨_, l2, he, ?_⟩
    refine ite_true (by simp) ?_
    have hg : (aAcc c x a.key).1.2.length ≤ 1 := (aAcc_law2 hx (k := a.key) (by omega)).2.le1
    refine call1_of (hoardlaw10_texts_at (a := l) (b := l2) hs (by omega)) fun e w ⟨he, hs⟩ => ⟨_, he, ?_⟩
    exact ⟨by simp, by exact Sat.fin hs⟩
  with_reducible refine ite_by (fun h2 => ?_) (fun h2 => ?_)
  · have e1 : aAct c x a = (aLoad c x a.key).2 := by unfold aAct; rw [if_neg h1, if_pos h2]
    rw [e1]
    refine drawW_only [blk nb [.int .i64 a.kind, .string a.key]] hs fun w hs => ?_
    repeat (first | with_reducible refine nilck_some ?_ | ((with_reducible refine atLd ?_); first | refine ld_b hs ?_ | refine ld_b (x := ⟨_, _, _⟩) hs ?_ | refine ld_r0 hs ?_ | refine ld_r1 hs ?_ | refine ld_rd0 ha_ hs ?_ | refine ld_rd1 ha_ hs ?_) | ((with_reducible refine isSt ?_); first | refine st_b hs fun w hs => ?_ | refine st_r0 hs fun w hs => ?_ | refine st_r1 hs fun w hs => ?_) | ((with_reducible refine isIdx ?_); first | refine idx_s hs fun b_ o_ hs => ?_ | refine idx_rd hs fun b_ o_ ha_ => ?_) | with_reducible refine newB_at hs fun b_ w hs => ?_ | ((with_reducible refine isLdS ?_); first | refine ldS_b ?_ | refine ldS_b (x := ⟨_, _, _⟩) ?_ | refine ldS_rs0 hs ?_ | refine ldS_rd0 ha_ ?_) | ((with_reducible refine isKeep ?_); first | refine keep_of hs ?_ | refine keep_imp hs ?_) | with_reducible refine when_om ?_ | with_reducible refine drawW_sat hs fun w hs => ?_)
    refine call1_of (arc_Load hs hx (by omega) (by omega)) fun e w ⟨he, hs⟩ => ⟨_, he, ?_⟩
    repeat (first | with_reducible refine nilck_some ?_ | ((with_reducible refine atLd ?_); first | refine ld_b hs ?_ | refine ld_b (x := ⟨_, _, _⟩) hs ?_ | refine ld_r0 hs ?_ | refine ld_r1 hs ?_ | refine ld_rd0 ha_ hs ?_ | refine ld_rd1 ha_ hs ?_) | ((with_reducible refine isSt ?_); first | refine st_b hs fun w hs => ?_ | refine st_r0 hs fun w hs => ?_ | refine st_r1 hs fun w hs => ?_) | ((with_reducible refine isIdx ?_); first | refine idx_s hs fun b_ o_ hs => ?_ | refine idx_rd hs fun b_ o_ ha_ => ?_) | with_reducible refine newB_at hs fun b_ w hs => ?_ | ((with_reducible refine isLdS ?_); first | refine ldS_b ?_ | refine ldS_b (x := ⟨_, _, _⟩) ?_ | refine ldS_rs0 hs ?_ | refine ldS_rd0 ha_ ?_) | ((with_reducible refine isKeep ?_); first | refine keep_of hs ?_ | refine keep_imp hs ?_) | with_reducible refine when_om ?_ | with_reducible refine drawW_sat hs fun w hs => ?_)
    refine call1_of (r10_Load hs hx) fun e w ⟨he, hs⟩ => ⟨_, he, ?_⟩
    have hs : Sat W w (arcR b c (N + 2) (aLoad c x a.key).2 :: rrR b2 c (aLoad c x a.key).2 :: M) := by exact Sat.fin hs
    exact ⟨by simp, arc_more hs (by omega)⟩
  with_reducible refine ite_by (fun h3 => ?_) (fun h3 => ?_)
  · have e1 : aAct c x a = (aRem x a.key).2 := by unfold aAct; rw [if_neg h1, if_neg h2, if_pos h3]
    rw [e1]
    refine drawW_only [blk nb [.int .i64 a.kind, .string a.key]] hs fun w hs => ?_
    repeat (first | with_reducible refine nilck_some ?_ | ((with_reducible refine atLd ?_); first | refine ld_b hs ?_ | refine ld_b (x := ⟨_, _, _⟩) hs ?_ | refine ld_r0 hs ?_ | refine ld_r1 hs ?_ | refine ld_rd0 ha_ hs ?_ | refine ld_rd1 ha_ hs ?_) | ((with_reducible refine isSt ?_); first | refine st_b hs fun w hs => ?_ | refine st_r0 hs fun w hs => ?_ | refine st_r1 hs fun w hs => ?_) | ((with_reducible refine isIdx ?_); first | refine idx_s hs fun b_ o_ hs => ?_ | refine idx_rd hs fun b_ o_ ha_ => ?_) | with_reducible refine newB_at hs fun b_ w hs => ?_ | ((with_reducible refine isLdS ?_); first | refine ldS_b ?_ | refine ldS_b (x := ⟨_, _, _⟩) ?_ | refine ldS_rs0 hs ?_ | refine ldS_rd0 ha_ ?_) | ((with_reducible refine isKeep ?_); first | refine keep_of hs ?_ | refine keep_imp hs ?_) | with_reducible refine when_om ?_ | with_reducible refine drawW_sat hs fun w hs => ?_)
    refine call1_of (arc_Remove hs (by omega) (by omega)) fun e w ⟨he, hs⟩ => ⟨_, he, ?_⟩
    repeat (first | with_reducible refine nilck_some ?_ | ((with_reducible refine atLd ?_); first | refine ld_b hs ?_ | refine ld_b (x := ⟨_, _, _⟩) hs ?_ | refine ld_r0 hs ?_ | refine ld_r1 hs ?_ | refine ld_rd0 ha_ hs ?_ | refine ld_rd1 ha_ hs ?_) | ((with_reducible refine isSt ?_); first | refine st_b hs fun w hs => ?_ | refine st_r0 hs fun w hs => ?_ | refine st_r1 hs fun w hs => ?_) | ((with_reducible refine isIdx ?_); first | refine idx_s hs fun b_ o_ hs => ?_ | refine idx_rd hs fun b_ o_ ha_ => ?_) | with_reducible refine newB_at hs fun b_ w hs => ?_ | ((with_reducible refine isLdS ?_); first | refine ldS_b ?_ | refine ldS_b (x := ⟨_, _, _⟩) ?_ | refine ldS_rs0 hs ?_ | refine ldS_rd0 ha_ ?_) | ((with_reducible refine isKeep ?_); first | refine keep_of hs ?_ | refine keep_imp hs ?_) | with_reducible refine when_om ?_ | with_reducible refine drawW_sat hs fun w hs => ?_)
    refine call1_of (r10_Remove hs hx) fun e w ⟨he, hs⟩ => ⟨_, he, ?_⟩
    have hs : Sat W w (arcR b c N (aRem x a.key).2 :: rrR b2 c (aRem x a.key).2 :: M) := by exact Sat.fin hs
    exact ⟨by simp, arc_more hs (by omega)⟩
  with_reducible refine ite_by (fun h4 => ?_) (fun h4 => ?_)
  · have e1 : aAct c x a = (aEvict x).2 := by unfold aAct; rw [if_neg h1, if_neg h2, if_neg h3, if_pos h4]
    rw [e1]
    refine call2_of (arc_Evict hs (by omega)) fun e w ⟨he, hs⟩ => ⟨_, _, he, ?_⟩
    refine call2_of (r10_Evict hs hx) fun e w ⟨he, hs⟩ => ⟨_, _, he, ?_⟩
    refine ite_true (by rw [sEq_eq]; simp) ?_
    have hs : Sat W w (arcR b c (N + 1) (aEvict x).2 :: rrR b2 c (aEvict x).2 :: M) := by exact Sat.fin hs
    exact ⟨by simp, arc_more hs (by omega)⟩
  · have e1 : aAct c x a = x := by unfold aAct; rw [if_neg h1, if_neg h2, if_neg h3, if_neg h4]
    rw [e1]
    refine drawW_only [blk nb [.int .i64 a.kind, .string a.key]] hs fun w hs => ?_
    repeat (first | with_reducible refine nilck_some ?_ | ((with_reducible refine atLd ?_); first | refine ld_b hs ?_ | refine ld_b (x := ⟨_, _, _⟩) hs ?_ | refine ld_r0 hs ?_ | refine ld_r1 hs ?_ | refine ld_rd0 ha_ hs ?_ | refine ld_rd1 ha_ hs ?_) | ((with_reducible refine isSt ?_); first | refine st_b hs fun w hs => ?_ | refine st_r0 hs fun w hs => ?_ | refine st_r1 hs fun w hs => ?_) | ((with_reducible refine isIdx ?_); first | refine idx_s hs fun b_ o_ hs => ?_ | refine idx_rd hs fun b_ o_ ha_ => ?_) | with_reducible refine newB_at hs fun b_ w hs => ?_ | ((with_reducible refine isLdS ?_); first | refine ldS_b ?_ | refine ldS_b (x := ⟨_, _, _⟩) ?_ | refine ldS_rs0 hs ?_ | refine ldS_rd0 ha_ ?_) | ((with_reducible refine isKeep ?_); first | refine keep_of hs ?_ | refine keep_imp hs ?_) | with_reducible refine when_om ?_ | with_reducible refine drawW_sat hs fun w hs => ?_)
    refine call1_of (arc_Has hs (by omega)) fun e w ⟨he, hs⟩ => ⟨_, he, ?_⟩
    repeat (first | with_reducible refine nilck_some ?_ | ((with_reducible refine atLd ?_); first | refine ld_b hs ?_ | refine ld_b (x := ⟨_, _, _⟩) hs ?_ | refine ld_r0 hs ?_ | refine ld_r1 hs ?_ | refine ld_rd0 ha_ hs ?_ | refine ld_rd1 ha_ hs ?_) | ((with_reducible refine isSt ?_); first | refine st_b hs fun w hs => ?_ | refine st_r0 hs fun w hs => ?_ | refine st_r1 hs fun w hs => ?_) | ((with_reducible refine isIdx ?_); first | refine idx_s hs fun b_ o_ hs => ?_ | refine idx_rd hs fun b_ o_ ha_ => ?_) | with_reducible refine newB_at hs fun b_ w hs => ?_ | ((with_reducible refine isLdS ?_); first | refine ldS_b ?_ | refine ldS_b (x := ⟨_, _, _⟩) ?_ | refine ldS_rs0 hs ?_ | refine ldS_rd0 ha_ ?_) | ((with_reducible refine isKeep ?_); first | refine keep_of hs ?_ | refine keep_imp hs ?_) | with_reducible refine when_om ?_ | with_reducible refine drawW_sat hs fun w hs => ?_)
    refine call1_of (r10_Has hs hx) fun e w ⟨he, hs⟩ => ⟨_, he, ?_⟩
    have hs : Sat W w (arcR b c N x :: rrR b2 c x :: M) := by exact Sat.fin hs
    exact ⟨by simp, arc_more hs (by omega)⟩
end
end Go.Proofs.YtchlicgjdlkidaaDoor
