/- hoardlaw13: what the laws have in common. -/
import Derived.Test.YtgmhoenmhnlojaaLirsState
import Derived.Test.YtgmhoenmhnlojaaLirsRef3
set_option linter.unusedVariables false
set_option linter.unusedSimpArgs false
set_option linter.unnecessarySimpa false
set_option linter.unusedSectionVars false
namespace Go.Hb
structure Act13 where
  kind : Int
  key : ByteArray
instance : Inhabited Act13 := ⟨⟨0, ⟨#[]⟩⟩⟩
def act13R : Rec Act13 := ⟨2, fun a => [.int .i64 a.kind, .string a.key], fun _ => rfl⟩
instance : PosR act13R := ⟨by decide⟩
def act13ok (a : Act13) : Prop := okStr a.key
theorem of_act13 (x : List Value) (h : okRow [.int .i64, .str] x) : ∃ a, x = act13R.cells a ∧ act13ok a := by
  obtain ⟨v0, v1, rfl⟩ : ∃ v0 v1, x = [v0, v1] := by
    have hl := okRow_len h
    match x, hl with
    | [v0, v1], _ => exact ⟨v0, v1, rfl⟩
  obtain ⟨h0, h1, _⟩ := h
  obtain ⟨k, rfl, _⟩ := h0
  obtain ⟨s, rfl, hs⟩ := h1
  exact ⟨⟨k, s⟩, rfl, hs⟩
def lAct (c : Int) (x : LirsS) (a : Act13) : LirsS := if a.kind = 1 then (lAcc c x a.key).2 else if a.kind = 2 then (lLoad c x a.key).2 else if a.kind = 3 then (lRem x a.key).2 else if a.kind = 4 then (lEvict c x).2 else x
theorem lEvict_ok2 {c : Int} {x : LirsS} (h : LOk c x) : LOk c (lEvict c x).2 := by
  by_cases h0 : lLen x = 0
  · unfold lEvict; rw [if_pos h0]; exact h
  · exact (lEvict_ok h h0).2.ok
theorem lAct_ok {c : Int} {x : LirsS} {a : Act13} (h : LOk c x) (hz : a.key.size < 64) : LOk c (lAct c x a) := by
  unfold lAct
  split
  · exact (lAcc_law h hz).1
  · split
    · exact (lLoad_law h hz).1
    · split
      · exact (lRem_law h).1
      · split
        · exact lEvict_ok2 h
        · exact h
instance (priority := low) Rdb.cons {W0 : World} {L : List HP} {p : HP} {s : Sl} {α : Type} {E : Rec α} {rows : List α} [h : Rdb W0 L s E rows] : Rdb W0 (p :: L) s E rows := ⟨fun w hs => h.rd w hs.drop⟩
theorem roomR_range (r : Int) : 1 ≤ roomR r ∧ roomR r ≤ 1024 := by unfold roomR; omega
end Go.Hb
namespace Go.Proofs.Ytgmhoenmhnlojaa
open Go.Hb Go.IntWalk
section
variable {W w : World} {L M : List HP} {F : HP → List HP} {b b2 : Nat} {c : Int} {N : Nat} {x : LirsS} {key : ByteArray} {xs : List ByteArray}
set_option maxRecDepth 100000 in
/-- are acts more than is looked at? if not, the first keys are short -/
theorem heavy13 {s0 : Sl} {acts : List Act13} [hr : Rdb W L s0 act13R acts] (hs : Sat W w L) : Calls Try.prog id_hoardlaw13_heavy #[.slice s0.a s0.n s0.c] w fun e w' => ∃ b : Bool, e = .returned (.bool b) ∧ (b = false → ∀ i, i < acts.length → i < 200 → (acts.getD i default).key.size ≤ 40) ∧ Sat W w' L := by
  refine (hoardlaw13_heavy_calls (Q := fun v w' => ∃ b : Bool, v = .bool b ∧ (b = false → ∀ i, i < acts.length → i < 200 → (acts.getD i default).key.size ≤ 40) ∧ Sat W w' L) ?_).mono fun e w' ⟨v, he, b, hv, hs⟩ => ⟨b, by rw [he, hv], hs⟩
  rw [hoardlaw13_heavy_def, hoardlaw13_heavy_raw]
  obtain ⟨N, hN⟩ : ∃ N : Nat, N = 201 := ⟨_, rfl⟩
  have loop : ∀ (m i : Nat) (w : World), i + m = N → (∀ j, j < i → j < acts.length → (acts.getD j default).key.size ≤ 40) → Sat W w L → hoardlaw13_heavy_l1 idJ (fun v w' => ∃ b : Bool, v = .bool b ∧ (b = false → ∀ i, i < acts.length → i < 200 → (acts.getD i default).key.size ≤ 40) ∧ Sat W w' L) (m + 1) s0 (i : Int) w := by
    intro m
    induction m with
    | zero =>
      intro i w hi hp hs
      have hn := rdb_len (s := s0) hs
      rw [hoardlaw13_heavy_l1_raw]
      with_reducible refine ite_by (fun h1 => ?_) (fun h1 => ?_)
      · with_reducible refine ite_ltI (fun h2 => absurd h2 (by omega)) (fun h2 => ?_)
        rw [hoardlaw13_heavy_j3_def, hoardlaw13_heavy_j3_raw]
        exact ⟨_, rfl, fun _ j hj hj2 => hp j (by omega) hj, hs⟩
      · rw [hoardlaw13_heavy_j3_def, hoardlaw13_heavy_j3_raw]
        exact ⟨_, rfl, fun _ j hj hj2 => hp j (by omega) hj, hs⟩
    | succ m ih =>
      intro i w hi hp hs
      have hn := rdb_len (s := s0) hs
      rw [hoardlaw13_heavy_l1_raw]
      with_reducible refine ite_by (fun h1 => ?_) (fun h1 => ?_)
      · with_reducible refine ite_by (fun h2 => ?_) (fun h2 => ?_)
        · rw [hoardlaw13_heavy_j2_def, hoardlaw13_heavy_j2_raw]
          repeat (first | with_reducible refine nilck_some ?_ | ((with_reducible refine atLd ?_); first | refine ld_b hs ?_ | refine ld_b (x := ⟨_, _, _⟩) hs ?_ | refine ld_r0 hs ?_ | refine ld_r1 hs ?_ | refine ld_rd0 ha_ hs ?_ | refine ld_rd1 ha_ hs ?_) | ((with_reducible refine isSt ?_); first | refine st_b hs fun w hs => ?_ | refine st_r0 hs fun w hs => ?_ | refine st_r1 hs fun w hs => ?_) | ((with_reducible refine isIdx ?_); first | refine idx_s hs fun b_ o_ hs => ?_ | refine idx_rd hs fun b_ o_ ha_ => ?_) | with_reducible refine newB_at hs fun b_ w hs => ?_ | ((with_reducible refine isLdS ?_); first | refine ldS_b ?_ | refine ldS_b (x := ⟨_, _, _⟩) ?_ | refine ldS_rs0 hs ?_ | refine ldS_rd0 ha_ ?_) | ((with_reducible refine isKeep ?_); first | refine keep_of hs ?_ | refine keep_imp hs ?_) | with_reducible refine when_om ?_ | with_reducible refine drawW_sat hs fun w hs => ?_)
          rw [Int.toNat_natCast]
          with_reducible refine ite_by (fun h3 => ?_) (fun h3 => ?_)
          · exact ⟨_, rfl, (fun h => by cases h), hs⟩
          · rw [i64_in _ (by omega)]
            refine ih (i + 1) w (by omega) (fun j hj hj2 => ?_) hs
            by_cases hji : j = i
            · subst hji; omega
            · exact hp j (by omega) hj2
        · rw [hoardlaw13_heavy_j3_def, hoardlaw13_heavy_j3_raw]
          exact ⟨_, rfl, fun _ j hj hj2 => hp j (by omega) hj, hs⟩
      · rw [hoardlaw13_heavy_j3_def, hoardlaw13_heavy_j3_raw]
        exact ⟨_, rfl, fun _ j hj hj2 => hp j (by omega) hj, hs⟩
  refine ⟨N + 1, ?_⟩
  exact loop N 0 w (by omega) (fun j hj => by omega) hs

set_option maxRecDepth 100000 in
theorem long13 {s0 : Sl} [hr : Rdb W L s0 Rec.str xs] (hs : Sat W w L) : Calls Try.prog id_hoardlaw13_long #[.slice s0.a s0.n s0.c] w fun e w' => ∃ b : Bool, e = .returned (.bool b) ∧ (b = false → xs.length ≤ 200 ∧ ∀ k ∈ xs, k.size ≤ 40) ∧ Sat W w' L := by
  refine (hoardlaw13_long_calls (Q := fun v w' => ∃ b : Bool, v = .bool b ∧ (b = false → xs.length ≤ 200 ∧ ∀ k ∈ xs, k.size ≤ 40) ∧ Sat W w' L) ?_).mono fun e w' ⟨v, he, b, hv, hs⟩ => ⟨b, by rw [he, hv], hs⟩
  rw [hoardlaw13_long_def, hoardlaw13_long_raw]
  have hn := rdb_len (s := s0) hs
  obtain ⟨N, hN⟩ : ∃ N : Int, N = 200 := ⟨_, rfl⟩
  rw [← hN]
  with_reducible refine ite_by (fun h0 => ?_) (fun h0 => ?_)
  · exact ⟨_, rfl, (fun h => by cases h), hs⟩
  have loop : ∀ (m i : Nat) (w : World), i + m = xs.length → (∀ k ∈ xs.take i, k.size ≤ 40) → Sat W w L → hoardlaw13_long_l1 idJ (fun v w' => ∃ b : Bool, v = .bool b ∧ (b = false → xs.length ≤ 200 ∧ ∀ k ∈ xs, k.size ≤ 40) ∧ Sat W w' L) (m + 1) s0 (i : Int) w := by
    intro m
    induction m with
    | zero =>
      intro i w hi hp hs
      rw [hoardlaw13_long_l1_raw]
      refine ite_false (decide_eq_false (by omega)) ?_
      rw [hoardlaw13_long_j2_def, hoardlaw13_long_j2_raw]
      rw [List.take_of_length_le (by omega)] at hp
      exact ⟨_, rfl, fun _ => ⟨by omega, hp⟩, hs⟩
    | succ m ih =>
      intro i w hi hp hs
      rw [hoardlaw13_long_l1_raw]
      refine ite_true (decide_eq_true (by omega)) ?_
      repeat (first | with_reducible refine nilck_some ?_ | ((with_reducible refine atLd ?_); first | refine ld_b hs ?_ | refine ld_b (x := ⟨_, _, _⟩) hs ?_ | refine ld_r0 hs ?_ | refine ld_r1 hs ?_ | refine ld_rd0 ha_ hs ?_ | refine ld_rd1 ha_ hs ?_) | ((with_reducible refine isSt ?_); first | refine st_b hs fun w hs => ?_ | refine st_r0 hs fun w hs => ?_ | refine st_r1 hs fun w hs => ?_) | ((with_reducible refine isIdx ?_); first | refine idx_s hs fun b_ o_ hs => ?_ | refine idx_rd hs fun b_ o_ ha_ => ?_) | with_reducible refine newB_at hs fun b_ w hs => ?_ | ((with_reducible refine isLdS ?_); first | refine ldS_b ?_ | refine ldS_b (x := ⟨_, _, _⟩) ?_ | refine ldS_rs0 hs ?_ | refine ldS_rd0 ha_ ?_) | ((with_reducible refine isKeep ?_); first | refine keep_of hs ?_ | refine keep_imp hs ?_) | with_reducible refine when_om ?_ | with_reducible refine drawW_sat hs fun w hs => ?_)
      rw [Int.toNat_natCast]
      with_reducible refine ite_by (fun h3 => ?_) (fun h3 => ?_)
      · exact ⟨_, rfl, (fun h => by cases h), hs⟩
      · rw [show IntKind.wrap .i64 ((i : Int) + 1) = ((i + 1 : Nat) : Int) by rw [i64_in _ (by omega)]; omega]
        refine ih (i + 1) w (by omega) (fun k hk => ?_) hs
        rw [take_snoc (by omega), List.mem_append, List.mem_singleton] at hk
        rcases hk with hk | rfl
        · exact hp k hk
        · omega
  refine exM_of (xs.length + 1) ?_
  exact loop xs.length 0 w (by omega) (by simp) hs
set_option maxRecDepth 100000 in
theorem has13 {s0 : Sl} [hr : Rdb W L s0 Rec.str xs] (hs : Sat W w L) (hz : xs.length < 1000000) : Calls Try.prog id_hoardlaw13_has #[.slice s0.a s0.n s0.c, .string key] w fun e w' => e = .returned (.bool (decide (key ∈ xs))) ∧ Sat W w' L := by
  refine c1 (hoardlaw13_has_calls ?_)
  rw [hoardlaw13_has_def, hoardlaw13_has_raw]
  have hn := rdb_len (s := s0) hs
  have loop : ∀ (m i : Nat) (w : World), i + m = xs.length → key ∉ xs.take i → Sat W w L → hoardlaw13_has_l1 idJ (fun v w' => v = .bool (decide (key ∈ xs)) ∧ Sat W w' L) (m + 1) s0 key (i : Int) w := by
    intro m
    induction m with
    | zero =>
      intro i w hi hp hs
      rw [hoardlaw13_has_l1_raw]
      refine ite_false (decide_eq_false (by omega)) ?_
      rw [hoardlaw13_has_j2_def, hoardlaw13_has_j2_raw]
      rw [List.take_of_length_le (by omega)] at hp
      exact ⟨by rw [decide_eq_false hp], hs⟩
    | succ m ih =>
      intro i w hi hp hs
      rw [hoardlaw13_has_l1_raw]
      refine ite_true (decide_eq_true (by omega)) ?_
      repeat (first | with_reducible refine nilck_some ?_ | ((with_reducible refine atLd ?_); first | refine ld_b hs ?_ | refine ld_b (x := ⟨_, _, _⟩) hs ?_ | refine ld_r0 hs ?_ | refine ld_r1 hs ?_ | refine ld_rd0 ha_ hs ?_ | refine ld_rd1 ha_ hs ?_) | ((with_reducible refine isSt ?_); first | refine st_b hs fun w hs => ?_ | refine st_r0 hs fun w hs => ?_ | refine st_r1 hs fun w hs => ?_) | ((with_reducible refine isIdx ?_); first | refine idx_s hs fun b_ o_ hs => ?_ | refine idx_rd hs fun b_ o_ ha_ => ?_) | with_reducible refine newB_at hs fun b_ w hs => ?_ | ((with_reducible refine isLdS ?_); first | refine ldS_b ?_ | refine ldS_b (x := ⟨_, _, _⟩) ?_ | refine ldS_rs0 hs ?_ | refine ldS_rd0 ha_ ?_) | ((with_reducible refine isKeep ?_); first | refine keep_of hs ?_ | refine keep_imp hs ?_) | with_reducible refine when_om ?_ | with_reducible refine drawW_sat hs fun w hs => ?_)
      rw [Int.toNat_natCast]
      with_reducible refine ite_by (fun h3 => ?_) (fun h3 => ?_)
      · have : key ∈ xs := h3 ▸ getD_mem (by omega)
        exact ⟨by rw [decide_eq_true this], hs⟩
      · rw [show IntKind.wrap .i64 ((i : Int) + 1) = ((i + 1 : Nat) : Int) by rw [i64_in _ (by omega)]; omega]
        refine ih (i + 1) w (by omega) ?_ hs
        rw [take_snoc (by omega), List.mem_append, List.mem_singleton]
        rintro (hk | hk)
        · exact hp hk
        · exact h3 hk.symm
  refine exM_of (xs.length + 1) ?_
  exact loop xs.length 0 w (by omega) (by simp) hs
set_option maxRecDepth 100000 in
theorem cut13 {s0 : Sl} [hr : Rdb W L s0 Rec.str xs] (hs : Sat W w L) (hz : xs.length < 1000000) : Calls Try.prog id_hoardlaw13_cut #[.slice s0.a s0.n s0.c, .string key] w fun e w' => ∃ l : Sl, e = .returned (.slice l.a l.n l.c) ∧ Sat W w' (recs Rec.str l (gTake xs key) :: L) := by
  refine (hoardlaw13_cut_calls (Q := fun v w' => ∃ l : Sl, v = .slice l.a l.n l.c ∧ Sat W w' (recs Rec.str l (gTake xs key) :: L)) ?_).mono fun e w' ⟨v, he, l, hv, hs⟩ => ⟨l, by rw [he, hv], hs⟩
  rw [hoardlaw13_cut_def, hoardlaw13_cut_raw]
  have hn := rdb_len (s := s0) hs
  have hs := Sat.nilR Rec.str hs
  have loop : ∀ (m i : Nat) (w : World) (acc : Sl), i + m = xs.length → Sat W w (recs Rec.str acc (gTake (xs.take i) key) :: L) → hoardlaw13_cut_l1 idJ (fun v w' => ∃ l : Sl, v = .slice l.a l.n l.c ∧ Sat W w' (recs Rec.str l (gTake xs key) :: L)) (m + 1) s0 key acc (i : Int) w := by
    clear hs
    intro m
    induction m with
    | zero =>
      intro i w acc hi hs
      rw [hoardlaw13_cut_l1_raw]
      refine ite_false (decide_eq_false (by omega)) ?_
      rw [hoardlaw13_cut_j2_def, hoardlaw13_cut_j2_raw]
      rw [List.take_of_length_le (by omega)] at hs
      exact ⟨acc, rfl, hs⟩
    | succ m ih =>
      intro i w acc hi hs
      rw [hoardlaw13_cut_l1_raw]
      refine ite_true (decide_eq_true (by omega)) ?_
      repeat (first | with_reducible refine nilck_some ?_ | ((with_reducible refine atLd ?_); first | refine ld_b hs ?_ | refine ld_b (x := ⟨_, _, _⟩) hs ?_ | refine ld_r0 hs ?_ | refine ld_r1 hs ?_ | refine ld_rd0 ha_ hs ?_ | refine ld_rd1 ha_ hs ?_) | ((with_reducible refine isSt ?_); first | refine st_b hs fun w hs => ?_ | refine st_r0 hs fun w hs => ?_ | refine st_r1 hs fun w hs => ?_) | ((with_reducible refine isIdx ?_); first | refine idx_s hs fun b_ o_ hs => ?_ | refine idx_rd hs fun b_ o_ ha_ => ?_) | with_reducible refine newB_at hs fun b_ w hs => ?_ | ((with_reducible refine isLdS ?_); first | refine ldS_b ?_ | refine ldS_b (x := ⟨_, _, _⟩) ?_ | refine ldS_rs0 hs ?_ | refine ldS_rd0 ha_ ?_) | ((with_reducible refine isKeep ?_); first | refine keep_of hs ?_ | refine keep_imp hs ?_) | with_reducible refine when_om ?_ | with_reducible refine drawW_sat hs fun w hs => ?_)
      rw [Int.toNat_natCast]
      have hsn := gTake_snoc (q := xs) (k := key) (j := i) (by omega)
      have hln := gTake_len (xs.take i) key
      rw [List.length_take] at hln
      with_reducible refine ite_by (fun h3 => ?_) (fun h3 => ?_)
      · rw [if_neg h3] at hsn
        repeat (first | with_reducible refine nilck_some ?_ | ((with_reducible refine atLd ?_); first | refine ld_b hs ?_ | refine ld_b (x := ⟨_, _, _⟩) hs ?_ | refine ld_r0 hs ?_ | refine ld_r1 hs ?_ | refine ld_rd0 ha_ hs ?_ | refine ld_rd1 ha_ hs ?_) | ((with_reducible refine isSt ?_); first | refine st_b hs fun w hs => ?_ | refine st_r0 hs fun w hs => ?_ | refine st_r1 hs fun w hs => ?_) | ((with_reducible refine isIdx ?_); first | refine idx_s hs fun b_ o_ hs => ?_ | refine idx_rd hs fun b_ o_ ha_ => ?_) | with_reducible refine newB_at hs fun b_ w hs => ?_ | ((with_reducible refine isLdS ?_); first | refine ldS_b ?_ | refine ldS_b (x := ⟨_, _, _⟩) ?_ | refine ldS_rs0 hs ?_ | refine ldS_rd0 ha_ ?_) | ((with_reducible refine isKeep ?_); first | refine keep_of hs ?_ | refine keep_imp hs ?_) | with_reducible refine when_om ?_ | with_reducible refine drawW_sat hs fun w hs => ?_)
        refine app_one (s := acc) (a := xs.getD i default) hs rfl rfl rfl rfl (by decide) (by omega) fun s2 w hs2 hs => ?_
        rw [← hsn] at hs
        rw [show IntKind.wrap .i64 ((i : Int) + 1) = ((i + 1 : Nat) : Int) by rw [i64_in _ (by omega)]; omega]
        exact ih (i + 1) w s2 (by omega) (by exact Sat.fin hs)
      · rw [if_pos h3, List.append_nil] at hsn
        rw [← hsn] at hs
        rw [show IntKind.wrap .i64 ((i : Int) + 1) = ((i + 1 : Nat) : Int) by rw [i64_in _ (by omega)]; omega]
        exact ih (i + 1) w acc (by omega) hs
  refine exM_of (xs.length + 1) ?_
  exact loop xs.length 0 w ⟨none, 0, 0⟩ (by omega) hs
set_option maxRecDepth 100000 in
theorem known13 (hs : Sat W w L) : Calls Try.prog id_hoardlaw13_known #[] w fun e w' => e = .returned (.bool true) ∧ Sat W w' L := by
  refine c1 (hoardlaw13_known_calls ?_)
  rw [hoardlaw13_known_def, hoardlaw13_known_raw]
  refine (lirs_New_at hs).mono fun e w ⟨b, he, hs⟩ => ⟨_, he, ite_false rfl ?_⟩
  have e0 : roomR 2 = 2 := by decide
  rw [e0] at hs
  have hm : 0 ≤ lMost 2 := by decide
  refine newB_at hs fun b3 w hs => ?_
  have hs : Sat W w (recs Rec.str ⟨some ⟨b3, 0, none⟩, 3, 3⟩ [str_a, str_b, str_c] :: lirR b 2 0 lirs0 :: L) := Sat.blkS (b := b3) Rec.str [str_a, str_b, str_c] hs rfl rfl |> fun h => by have hs := h; exact Sat.fin hs
  have e3 : lTxt (lAcc 2 (lAcc 2 (lAcc 2 lirs0 str_a).2 str_b).2 str_c).2 = str_S__a_h_b_g_c_c_Q__c := by decide +kernel
  have z1 : str_a.size < 64 := by decide
  have z2 : str_b.size < 64 := by decide
  have z3 : str_c.size < 64 := by decide
  refine exM_of 4 ?_
  rw [hoardlaw13_known_l1_raw]
  refine ite_true rfl ?_
  repeat (first | with_reducible refine nilck_some ?_ | ((with_reducible refine atLd ?_); first | refine ld_b hs ?_ | refine ld_b (x := ⟨_, _, _⟩) hs ?_ | refine ld_r0 hs ?_ | refine ld_r1 hs ?_ | refine ld_rd0 ha_ hs ?_ | refine ld_rd1 ha_ hs ?_) | ((with_reducible refine isSt ?_); first | refine st_b hs fun w hs => ?_ | refine st_r0 hs fun w hs => ?_ | refine st_r1 hs fun w hs => ?_) | ((with_reducible refine isIdx ?_); first | refine idx_s hs fun b_ o_ hs => ?_ | refine idx_rd hs fun b_ o_ ha_ => ?_) | with_reducible refine newB_at hs fun b_ w hs => ?_ | ((with_reducible refine isLdS ?_); first | refine ldS_b ?_ | refine ldS_b (x := ⟨_, _, _⟩) ?_ | refine ldS_rs0 hs ?_ | refine ldS_rd0 ha_ ?_) | ((with_reducible refine isKeep ?_); first | refine keep_of hs ?_ | refine keep_imp hs ?_) | with_reducible refine when_om ?_ | with_reducible refine drawW_sat hs fun w hs => ?_)
  refine call2_of (lirs_Access hs z1 hm (by decide) (by decide)) fun e w ⟨l, he, hs⟩ => ⟨_, l, he, ?_⟩
  rw [show IntKind.wrap .i64 ((0 : Int) + 1) = 1 by decide, hoardlaw13_known_l1_raw]
  refine ite_true rfl ?_
  repeat (first | with_reducible refine nilck_some ?_ | ((with_reducible refine atLd ?_); first | refine ld_b hs ?_ | refine ld_b (x := ⟨_, _, _⟩) hs ?_ | refine ld_r0 hs ?_ | refine ld_r1 hs ?_ | refine ld_rd0 ha_ hs ?_ | refine ld_rd1 ha_ hs ?_) | ((with_reducible refine isSt ?_); first | refine st_b hs fun w hs => ?_ | refine st_r0 hs fun w hs => ?_ | refine st_r1 hs fun w hs => ?_) | ((with_reducible refine isIdx ?_); first | refine idx_s hs fun b_ o_ hs => ?_ | refine idx_rd hs fun b_ o_ ha_ => ?_) | with_reducible refine newB_at hs fun b_ w hs => ?_ | ((with_reducible refine isLdS ?_); first | refine ldS_b ?_ | refine ldS_b (x := ⟨_, _, _⟩) ?_ | refine ldS_rs0 hs ?_ | refine ldS_rd0 ha_ ?_) | ((with_reducible refine isKeep ?_); first | refine keep_of hs ?_ | refine keep_imp hs ?_) | with_reducible refine when_om ?_ | with_reducible refine drawW_sat hs fun w hs => ?_)
  refine call2_of (lirs_Access hs z2 hm (by decide) (by decide)) fun e w ⟨l, he, hs⟩ => ⟨_, l, he, ?_⟩
  rw [show IntKind.wrap .i64 ((1 : Int) + 1) = 2 by decide, hoardlaw13_known_l1_raw]
  refine ite_true rfl ?_
  repeat (first | with_reducible refine nilck_some ?_ | ((with_reducible refine atLd ?_); first | refine ld_b hs ?_ | refine ld_b (x := ⟨_, _, _⟩) hs ?_ | refine ld_r0 hs ?_ | refine ld_r1 hs ?_ | refine ld_rd0 ha_ hs ?_ | refine ld_rd1 ha_ hs ?_) | ((with_reducible refine isSt ?_); first | refine st_b hs fun w hs => ?_ | refine st_r0 hs fun w hs => ?_ | refine st_r1 hs fun w hs => ?_) | ((with_reducible refine isIdx ?_); first | refine idx_s hs fun b_ o_ hs => ?_ | refine idx_rd hs fun b_ o_ ha_ => ?_) | with_reducible refine newB_at hs fun b_ w hs => ?_ | ((with_reducible refine isLdS ?_); first | refine ldS_b ?_ | refine ldS_b (x := ⟨_, _, _⟩) ?_ | refine ldS_rs0 hs ?_ | refine ldS_rd0 ha_ ?_) | ((with_reducible refine isKeep ?_); first | refine keep_of hs ?_ | refine keep_imp hs ?_) | with_reducible refine when_om ?_ | with_reducible refine drawW_sat hs fun w hs => ?_)
  refine call2_of (lirs_Access hs z3 hm (by decide) (by decide)) fun e w ⟨l, he, hs⟩ => ⟨_, l, he, ?_⟩
  rw [show IntKind.wrap .i64 ((2 : Int) + 1) = 3 by decide, hoardlaw13_known_l1_raw]
  refine ite_false rfl ?_
  rw [hoardlaw13_known_j2_def, hoardlaw13_known_j2_raw]
  refine call1_of (lirs_State hs (by decide)) fun e w ⟨he, hs⟩ => ⟨_, he, ?_⟩
  refine ⟨?_, by exact Sat.fin hs⟩
  rw [sEq_eq]
  exact congrArg Value.bool (decide_eq_true e3)
theorem lirs_Len2 (hs : Sat W w L) [hA : At L b (lirR b c N x) F] (hx : LOk c x) (hN : N < 400000000) : Calls Try.prog id_lirs_Engine_Len #[.pointer (some ⟨b, 0, none⟩)] w fun e w' => e = .returned (.int .i64 ((lRes x).length : Int)) ∧ Sat W w' (F (lirR b c N x)) := by
  refine (lirs_Len hs hN).mono fun e w ⟨he, hs⟩ => ⟨?_, hs⟩
  rw [he, lRes_len]
theorem act13 {a : Act13} (hs : Sat W w (lirR b c N x :: rrR b2 c x :: M)) (hx : LOk c x) (hN : N < 100000000) (hk : a.key.size ≤ 40) :
    Calls Try.prog id_hoardlaw13_act #[.pointer (some ⟨b, 0, none⟩), .pointer (some ⟨b2, 0, none⟩), .agg #[.int .i64 a.kind, .string a.key]] w fun e w' => e = .returned (.bool true) ∧ Sat W w' (lirR b c (N + 3) (lAct c x a) :: rrR b2 c (lAct c x a) :: M) := by
  refine c1 (hoardlaw13_act_calls ?_)
  rw [hoardlaw13_act_def, hoardlaw13_act_raw]
  have hm := (lMost_pos hx.c1).1
  have hc : 0 ≤ c := by have := hx.c1; omega
  have hsm := hx.small
  have hw := hx.w
  refine newB_at hs fun nb w hs => ?_
  repeat (first | with_reducible refine nilck_some ?_ | ((with_reducible refine atLd ?_); first | refine ld_b hs ?_ | refine ld_b (x := ⟨_, _, _⟩) hs ?_ | refine ld_r0 hs ?_ | refine ld_r1 hs ?_ | refine ld_rd0 ha_ hs ?_ | refine ld_rd1 ha_ hs ?_) | ((with_reducible refine isSt ?_); first | refine st_b hs fun w hs => ?_ | refine st_r0 hs fun w hs => ?_ | refine st_r1 hs fun w hs => ?_) | ((with_reducible refine isIdx ?_); first | refine idx_s hs fun b_ o_ hs => ?_ | refine idx_rd hs fun b_ o_ ha_ => ?_) | with_reducible refine newB_at hs fun b_ w hs => ?_ | ((with_reducible refine isLdS ?_); first | refine ldS_b ?_ | refine ldS_b (x := ⟨_, _, _⟩) ?_ | refine ldS_rs0 hs ?_ | refine ldS_rd0 ha_ ?_) | ((with_reducible refine isKeep ?_); first | refine keep_of hs ?_ | refine keep_imp hs ?_) | with_reducible refine when_om ?_ | with_reducible refine drawW_sat hs fun w hs => ?_)
  with_reducible refine ite_by (fun h1 => ?_) (fun h1 => ?_)
  · have e1 : lAct c x a = (lAcc c x a.key).2 := if_pos h1
    rw [e1]
    repeat (first | with_reducible refine nilck_some ?_ | ((with_reducible refine atLd ?_); first | refine ld_b hs ?_ | refine ld_b (x := ⟨_, _, _⟩) hs ?_ | refine ld_r0 hs ?_ | refine ld_r1 hs ?_ | refine ld_rd0 ha_ hs ?_ | refine ld_rd1 ha_ hs ?_) | ((with_reducible refine isSt ?_); first | refine st_b hs fun w hs => ?_ | refine st_r0 hs fun w hs => ?_ | refine st_r1 hs fun w hs => ?_) | ((with_reducible refine isIdx ?_); first | refine idx_s hs fun b_ o_ hs => ?_ | refine idx_rd hs fun b_ o_ ha_ => ?_) | with_reducible refine newB_at hs fun b_ w hs => ?_ | ((with_reducible refine isLdS ?_); first | refine ldS_b ?_ | refine ldS_b (x := ⟨_, _, _⟩) ?_ | refine ldS_rs0 hs ?_ | refine ldS_rd0 ha_ ?_) | ((with_reducible refine isKeep ?_); first | refine keep_of hs ?_ | refine keep_imp hs ?_) | with_reducible refine when_om ?_ | with_reducible refine drawW_sat hs fun w hs => ?_)
    refine call2_of (lirs_Access hs (by omega) hm hc (by omega)) fun e w ⟨l, he, hs⟩ => ⟨_, l, he, ?_⟩
    repeat (first | with_reducible refine nilck_some ?_ | ((with_reducible refine atLd ?_); first | refine ld_b hs ?_ | refine ld_b (x := ⟨_, _, _⟩) hs ?_ | refine ld_r0 hs ?_ | refine ld_r1 hs ?_ | refine ld_rd0 ha_ hs ?_ | refine ld_rd1 ha_ hs ?_) | ((with_reducible refine isSt ?_); first | refine st_b hs fun w hs => ?_ | refine st_r0 hs fun w hs => ?_ | refine st_r1 hs fun w hs => ?_) | ((with_reducible refine isIdx ?_); first | refine idx_s hs fun b_ o_ hs => ?_ | refine idx_rd hs fun b_ o_ ha_ => ?_) | with_reducible refine newB_at hs fun b_ w hs => ?_ | ((with_reducible refine isLdS ?_); first | refine ldS_b ?_ | refine ldS_b (x := ⟨_, _, _⟩) ?_ | refine ldS_rs0 hs ?_ | refine ldS_rd0 ha_ ?_) | ((with_reducible refine isKeep ?_); first | refine keep_of hs ?_ | refine keep_imp hs ?_) | with_reducible refine when_om ?_ | with_reducible refine drawW_sat hs fun w hs => ?_)
    refine call2_of (r13_Access hs hx (by omega)) fun e w ⟨l2, he, hs⟩ => ⟨_, l2, he, ?_⟩
    refine ite_true (by simp) ?_
    have hg : (lAcc c x a.key).1.2.length ≤ 1 := (lAcc_law hx (k := a.key) (by omega)).2.le1
    refine call1_of (hoardlaw13_texts_at (a := l) (b := l2) hs (by omega)) fun e w ⟨he, hs⟩ => ⟨_, he, ?_⟩
    exact ⟨by simp, by exact Sat.fin hs⟩
  with_reducible refine ite_by (fun h2 => ?_) (fun h2 => ?_)
  · have e1 : lAct c x a = (lLoad c x a.key).2 := by unfold lAct; rw [if_neg h1, if_pos h2]
    rw [e1]
    refine drawW_only [blk nb [.int .i64 a.kind, .string a.key]] hs fun w hs => ?_
    repeat (first | with_reducible refine nilck_some ?_ | ((with_reducible refine atLd ?_); first | refine ld_b hs ?_ | refine ld_b (x := ⟨_, _, _⟩) hs ?_ | refine ld_r0 hs ?_ | refine ld_r1 hs ?_ | refine ld_rd0 ha_ hs ?_ | refine ld_rd1 ha_ hs ?_) | ((with_reducible refine isSt ?_); first | refine st_b hs fun w hs => ?_ | refine st_r0 hs fun w hs => ?_ | refine st_r1 hs fun w hs => ?_) | ((with_reducible refine isIdx ?_); first | refine idx_s hs fun b_ o_ hs => ?_ | refine idx_rd hs fun b_ o_ ha_ => ?_) | with_reducible refine newB_at hs fun b_ w hs => ?_ | ((with_reducible refine isLdS ?_); first | refine ldS_b ?_ | refine ldS_b (x := ⟨_, _, _⟩) ?_ | refine ldS_rs0 hs ?_ | refine ldS_rd0 ha_ ?_) | ((with_reducible refine isKeep ?_); first | refine keep_of hs ?_ | refine keep_imp hs ?_) | with_reducible refine when_om ?_ | with_reducible refine drawW_sat hs fun w hs => ?_)
    refine call1_of (lirs_Load hs (by omega) hm (by omega)) fun e w ⟨he, hs⟩ => ⟨_, he, ?_⟩
    repeat (first | with_reducible refine nilck_some ?_ | ((with_reducible refine atLd ?_); first | refine ld_b hs ?_ | refine ld_b (x := ⟨_, _, _⟩) hs ?_ | refine ld_r0 hs ?_ | refine ld_r1 hs ?_ | refine ld_rd0 ha_ hs ?_ | refine ld_rd1 ha_ hs ?_) | ((with_reducible refine isSt ?_); first | refine st_b hs fun w hs => ?_ | refine st_r0 hs fun w hs => ?_ | refine st_r1 hs fun w hs => ?_) | ((with_reducible refine isIdx ?_); first | refine idx_s hs fun b_ o_ hs => ?_ | refine idx_rd hs fun b_ o_ ha_ => ?_) | with_reducible refine newB_at hs fun b_ w hs => ?_ | ((with_reducible refine isLdS ?_); first | refine ldS_b ?_ | refine ldS_b (x := ⟨_, _, _⟩) ?_ | refine ldS_rs0 hs ?_ | refine ldS_rd0 ha_ ?_) | ((with_reducible refine isKeep ?_); first | refine keep_of hs ?_ | refine keep_imp hs ?_) | with_reducible refine when_om ?_ | with_reducible refine drawW_sat hs fun w hs => ?_)
    refine call1_of (r13_Load hs hx) fun e w ⟨he, hs⟩ => ⟨_, he, ?_⟩
    have hs : Sat W w (lirR b c (N + 2) (lLoad c x a.key).2 :: rrR b2 c (lLoad c x a.key).2 :: M) := by exact Sat.fin hs
    exact ⟨by simp, lir_more hs (by omega)⟩
  with_reducible refine ite_by (fun h3 => ?_) (fun h3 => ?_)
  · have e1 : lAct c x a = (lRem x a.key).2 := by unfold lAct; rw [if_neg h1, if_neg h2, if_pos h3]
    rw [e1]
    refine drawW_only [blk nb [.int .i64 a.kind, .string a.key]] hs fun w hs => ?_
    repeat (first | with_reducible refine nilck_some ?_ | ((with_reducible refine atLd ?_); first | refine ld_b hs ?_ | refine ld_b (x := ⟨_, _, _⟩) hs ?_ | refine ld_r0 hs ?_ | refine ld_r1 hs ?_ | refine ld_rd0 ha_ hs ?_ | refine ld_rd1 ha_ hs ?_) | ((with_reducible refine isSt ?_); first | refine st_b hs fun w hs => ?_ | refine st_r0 hs fun w hs => ?_ | refine st_r1 hs fun w hs => ?_) | ((with_reducible refine isIdx ?_); first | refine idx_s hs fun b_ o_ hs => ?_ | refine idx_rd hs fun b_ o_ ha_ => ?_) | with_reducible refine newB_at hs fun b_ w hs => ?_ | ((with_reducible refine isLdS ?_); first | refine ldS_b ?_ | refine ldS_b (x := ⟨_, _, _⟩) ?_ | refine ldS_rs0 hs ?_ | refine ldS_rd0 ha_ ?_) | ((with_reducible refine isKeep ?_); first | refine keep_of hs ?_ | refine keep_imp hs ?_) | with_reducible refine when_om ?_ | with_reducible refine drawW_sat hs fun w hs => ?_)
    refine call1_of (lirs_Remove hs (by omega) (by omega)) fun e w ⟨he, hs⟩ => ⟨_, he, ?_⟩
    repeat (first | with_reducible refine nilck_some ?_ | ((with_reducible refine atLd ?_); first | refine ld_b hs ?_ | refine ld_b (x := ⟨_, _, _⟩) hs ?_ | refine ld_r0 hs ?_ | refine ld_r1 hs ?_ | refine ld_rd0 ha_ hs ?_ | refine ld_rd1 ha_ hs ?_) | ((with_reducible refine isSt ?_); first | refine st_b hs fun w hs => ?_ | refine st_r0 hs fun w hs => ?_ | refine st_r1 hs fun w hs => ?_) | ((with_reducible refine isIdx ?_); first | refine idx_s hs fun b_ o_ hs => ?_ | refine idx_rd hs fun b_ o_ ha_ => ?_) | with_reducible refine newB_at hs fun b_ w hs => ?_ | ((with_reducible refine isLdS ?_); first | refine ldS_b ?_ | refine ldS_b (x := ⟨_, _, _⟩) ?_ | refine ldS_rs0 hs ?_ | refine ldS_rd0 ha_ ?_) | ((with_reducible refine isKeep ?_); first | refine keep_of hs ?_ | refine keep_imp hs ?_) | with_reducible refine when_om ?_ | with_reducible refine drawW_sat hs fun w hs => ?_)
    refine call1_of (r13_Remove hs hx) fun e w ⟨he, hs⟩ => ⟨_, he, ?_⟩
    have hs : Sat W w (lirR b c N (lRem x a.key).2 :: rrR b2 c (lRem x a.key).2 :: M) := by exact Sat.fin hs
    exact ⟨by simp, lir_more hs (by omega)⟩
  with_reducible refine ite_by (fun h4 => ?_) (fun h4 => ?_)
  · have e1 : lAct c x a = (lEvict c x).2 := by unfold lAct; rw [if_neg h1, if_neg h2, if_neg h3, if_pos h4]
    rw [e1]
    refine call2_of (lirs_Evict hs hc (by omega)) fun e w ⟨he, hs⟩ => ⟨_, _, he, ?_⟩
    refine call2_of (r13_Evict hs hx) fun e w ⟨he, hs⟩ => ⟨_, _, he, ?_⟩
    refine ite_true (by rw [sEq_eq]; simp) ?_
    have hs : Sat W w (lirR b c (N + 1) (lEvict c x).2 :: rrR b2 c (lEvict c x).2 :: M) := by exact Sat.fin hs
    exact ⟨by simp, lir_more hs (by omega)⟩
  · have e1 : lAct c x a = x := by unfold lAct; rw [if_neg h1, if_neg h2, if_neg h3, if_neg h4]
    rw [e1]
    refine drawW_only [blk nb [.int .i64 a.kind, .string a.key]] hs fun w hs => ?_
    repeat (first | with_reducible refine nilck_some ?_ | ((with_reducible refine atLd ?_); first | refine ld_b hs ?_ | refine ld_b (x := ⟨_, _, _⟩) hs ?_ | refine ld_r0 hs ?_ | refine ld_r1 hs ?_ | refine ld_rd0 ha_ hs ?_ | refine ld_rd1 ha_ hs ?_) | ((with_reducible refine isSt ?_); first | refine st_b hs fun w hs => ?_ | refine st_r0 hs fun w hs => ?_ | refine st_r1 hs fun w hs => ?_) | ((with_reducible refine isIdx ?_); first | refine idx_s hs fun b_ o_ hs => ?_ | refine idx_rd hs fun b_ o_ ha_ => ?_) | with_reducible refine newB_at hs fun b_ w hs => ?_ | ((with_reducible refine isLdS ?_); first | refine ldS_b ?_ | refine ldS_b (x := ⟨_, _, _⟩) ?_ | refine ldS_rs0 hs ?_ | refine ldS_rd0 ha_ ?_) | ((with_reducible refine isKeep ?_); first | refine keep_of hs ?_ | refine keep_imp hs ?_) | with_reducible refine when_om ?_ | with_reducible refine drawW_sat hs fun w hs => ?_)
    refine call1_of (lirs_Has hs (by omega)) fun e w ⟨he, hs⟩ => ⟨_, he, ?_⟩
    repeat (first | with_reducible refine nilck_some ?_ | ((with_reducible refine atLd ?_); first | refine ld_b hs ?_ | refine ld_b (x := ⟨_, _, _⟩) hs ?_ | refine ld_r0 hs ?_ | refine ld_r1 hs ?_ | refine ld_rd0 ha_ hs ?_ | refine ld_rd1 ha_ hs ?_) | ((with_reducible refine isSt ?_); first | refine st_b hs fun w hs => ?_ | refine st_r0 hs fun w hs => ?_ | refine st_r1 hs fun w hs => ?_) | ((with_reducible refine isIdx ?_); first | refine idx_s hs fun b_ o_ hs => ?_ | refine idx_rd hs fun b_ o_ ha_ => ?_) | with_reducible refine newB_at hs fun b_ w hs => ?_ | ((with_reducible refine isLdS ?_); first | refine ldS_b ?_ | refine ldS_b (x := ⟨_, _, _⟩) ?_ | refine ldS_rs0 hs ?_ | refine ldS_rd0 ha_ ?_) | ((with_reducible refine isKeep ?_); first | refine keep_of hs ?_ | refine keep_imp hs ?_) | with_reducible refine when_om ?_ | with_reducible refine drawW_sat hs fun w hs => ?_)
    refine call1_of (r13_Has hs hw (by omega) (by omega)) fun e w ⟨he, hs⟩ => ⟨_, he, ?_⟩
    have hs : Sat W w (lirR b c N x :: rrR b2 c x :: M) := by exact Sat.fin hs
    exact ⟨by simp, lir_more hs (by omega)⟩
end
end Go.Proofs.Ytgmhoenmhnlojaa
