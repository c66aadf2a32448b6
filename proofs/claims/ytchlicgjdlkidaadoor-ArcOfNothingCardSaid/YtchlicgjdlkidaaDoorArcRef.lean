/- hoardref10: contracts. -/
import Derived.Test.YtchlicgjdlkidaaDoorArcState
import Derived.Test.YtchlicgjdlkidaaDoorLaw2
set_option linter.unusedVariables false
set_option linter.unusedSimpArgs false
set_option linter.unnecessarySimpa false
set_option linter.unusedSectionVars false
namespace Go.Hb
abbrev cR (b : Nat) (s1 s2 s3 s4 : Sl) (p c : Int) : HP := blk b [.slice s1.a s1.n s1.c, .slice s2.a s2.n s2.c, .slice s3.a s3.n s3.c, .slice s4.a s4.n s4.c, .int .i64 p, .int .i64 c]
def rrR (b : Nat) (c : Int) (x : ArcS) : HP := exH fun (z : Sl × Sl × Sl × Sl) => allH [cR b z.1 z.2.1 z.2.2.1 z.2.2.2 x.p c, recs Rec.str z.1 x.t1, recs Rec.str z.2.1 x.t2, recs Rec.str z.2.2.1 x.b1, recs Rec.str z.2.2.2 x.b2]
theorem getD_mem {α : Type} {d : α} {S : List α} {j : Nat} (hj : j < S.length) : S.getD j d ∈ S := by
  rw [List.getD_eq_getElem?_getD, List.getElem?_eq_getElem hj]; exact List.getElem_mem _
theorem gTake_snoc {q : List ByteArray} {k : ByteArray} {j : Nat} (hj : j < q.length) : gTake (q.take (j + 1)) k = gTake (q.take j) k ++ (if q.getD j default = k then [] else [q.getD j default]) := by
  unfold gTake
  rw [take_snoc hj, List.filter_append]
  congr 1
  rw [List.filter_cons]
  split <;> split <;> simp_all
instance (priority := low) Rdb.cons {W0 : World} {L : List HP} {p : HP} {s : Sl} {α : Type} {E : Rec α} {rows : List α} [h : Rdb W0 L s E rows] : Rdb W0 (p :: L) s E rows := ⟨fun w hs => h.rd w hs.drop⟩
theorem hd_getD {l : List ByteArray} (h : 0 < l.length) : l.getD (Int.toNat 0) default = hd0 l := by
  cases l with
  | nil => simp at h
  | cons a l => rfl
section
variable {W w : World} {M L : List HP} {b : Nat} {c : Int} {x : ArcS}
instance At.rrR : At (rrR b c x :: L) b (rrR b c x) (fun x => x :: L) := ⟨here_pos⟩
theorem rr_open (h : Sat W w (rrR b c x :: M)) : ∃ s1 s2 s3 s4 : Sl, ((s1.n = x.t1.length ∧ s1.n ≤ s1.c) ∧ (s2.n = x.t2.length ∧ s2.n ≤ s2.c) ∧ (s3.n = x.b1.length ∧ s3.n ≤ s3.c) ∧ (s4.n = x.b2.length ∧ s4.n ≤ s4.c)) ∧
    Sat W w (cR b s1 s2 s3 s4 x.p c :: recs Rec.str s1 x.t1 :: recs Rec.str s2 x.t2 :: recs Rec.str s3 x.b1 :: recs Rec.str s4 x.b2 :: M) := by
  obtain ⟨⟨s1, s2, s3, s4⟩, h⟩ := h.openE
  have h := h.openL
  have h : Sat W w (cR b s1 s2 s3 s4 x.p c :: recs Rec.str s1 x.t1 :: recs Rec.str s2 x.t2 :: recs Rec.str s3 x.b1 :: recs Rec.str s4 x.b2 :: M) := h
  exact ⟨s1, s2, s3, s4, ⟨recs_len (s := s1) h, recs_len (s := s2) h, recs_len (s := s3) h, recs_len (s := s4) h⟩, h⟩
theorem rr_shut (s1 s2 s3 s4 : Sl) {p : Int} {l1 l2 l3 l4 : List ByteArray} (h : Sat W w (cR b s1 s2 s3 s4 p c :: recs Rec.str s1 l1 :: recs Rec.str s2 l2 :: recs Rec.str s3 l3 :: recs Rec.str s4 l4 :: M)) (h1 : l1 = x.t1) (h2 : l2 = x.t2) (h3 : l3 = x.b1) (h4 : l4 = x.b2) (hp : p = x.p) : Sat W w (rrR b c x :: M) := by
  subst h1 h2 h3 h4 hp
  exact Sat.shutE (s1, s2, s3, s4) (Sat.shutL (Ps := [_, _, _, _, _]) h)
theorem rr_cap (h : Sat W w (rrR b c x :: M)) : w.cell? ⟨b, 5, none⟩ = some (.int .i64 c) := by
  obtain ⟨s1, s2, s3, s4, _, h⟩ := rr_open h
  exact h.cell (q := 0) rfl
end
section
variable {c : Int} {x y : ArcS} {k : ByteArray}
theorem ArcOk.lens (h : ArcOk c x) : x.t1.length ≤ 2048 ∧ x.t2.length ≤ 2048 ∧ x.b1.length ≤ 2048 ∧ x.b2.length ≤ 2048 := by
  have h1 := h.c2; have h2 := h.tot
  omega
theorem aRep_b1 {again : Bool} (h : k ∈ x.b1) : k ∈ (aRep c x again).2.b1 := by
  unfold aRep
  split
  · exact h
  · unfold aGoes
    split
    · exact List.mem_append_left _ h
    · exact h
theorem aRep_b2 {again : Bool} (h : k ∈ x.b2) : k ∈ (aRep c x again).2.b2 := by
  unfold aRep
  split
  · exact h
  · unfold aGoes
    split
    · exact h
    · exact List.mem_append_left _ h
theorem push2_b1 (h : AW y) (hk : k ∈ y.b1) : aPush2 y k = ⟨y.t1, y.t2 ++ [k], gTake y.b1 k, y.b2, y.p⟩ := by
  obtain ⟨_, a, b, d⟩ := h.four
  unfold aPush2 aCut
  rw [gTake_not fun h => (a _ h).2.1 hk, gTake_not fun h => (b _ h).1 hk, gTake_not (d _ hk)]
theorem push2_b2 (h : AW y) (hk : k ∈ y.b2) : aPush2 y k = ⟨y.t1, y.t2 ++ [k], y.b1, gTake y.b2 k, y.p⟩ := by
  obtain ⟨_, a, b, d⟩ := h.four
  unfold aPush2 aCut
  rw [gTake_not fun h => (a _ h).2.2 hk, gTake_not fun h => (b _ h).2 hk, gTake_not fun h => d _ h hk]
theorem push2_res (h : AW y) (hk : k ∈ aRes y) : aPush2 y k = ⟨gTake y.t1 k, gTake y.t2 k ++ [k], y.b1, y.b2, y.p⟩ := by
  obtain ⟨_, a, b, d⟩ := h.four
  have h1 : k ∉ y.b1 := by
    rcases mem_aRes.1 hk with h | h
    · exact (a _ h).2.1
    · exact (b _ h).1
  have h2 : k ∉ y.b2 := by
    rcases mem_aRes.1 hk with h | h
    · exact (a _ h).2.2
    · exact (b _ h).2
  unfold aPush2 aCut
  rw [gTake_not h1, gTake_not h2]
theorem cut_res (h : AW y) (hk : k ∈ aRes y) : aCut y k = ⟨gTake y.t1 k, gTake y.t2 k, y.b1, y.b2, y.p⟩ := by
  obtain ⟨_, a, b, d⟩ := h.four
  have h1 : k ∉ y.b1 := by
    rcases mem_aRes.1 hk with h | h
    · exact (a _ h).2.1
    · exact (b _ h).1
  have h2 : k ∉ y.b2 := by
    rcases mem_aRes.1 hk with h | h
    · exact (a _ h).2.2
    · exact (b _ h).2
  unfold aCut
  rw [gTake_not h1, gTake_not h2]
theorem push1_not (hk : k ∉ y.t1 ++ (y.t2 ++ (y.b1 ++ y.b2))) : aPush1 y k = ⟨y.t1 ++ [k], y.t2, y.b1, y.b2, y.p⟩ := by
  simp only [List.mem_append, not_or] at hk
  unfold aPush1 aCut
  rw [gTake_not hk.1, gTake_not hk.2.1, gTake_not hk.2.2.1, gTake_not hk.2.2.2]
theorem push1_res (hk : k ∉ aRes y) : aPush1 y k = ⟨y.t1 ++ [k], y.t2, gTake y.b1 k, gTake y.b2 k, y.p⟩ := by
  rw [mem_aRes, not_or] at hk
  unfold aPush1 aCut
  rw [gTake_not hk.1, gTake_not hk.2]
end
end Go.Hb
namespace Go.Proofs.YtchlicgjdlkidaaDoor
open Go.Hb Go.IntWalk
section
variable {W w : World} {L M : List HP} {F : HP → List HP} {b : Nat} {c : Int} {x y : ArcS} {key : ByteArray} {xs : List ByteArray}
set_option maxRecDepth 100000 in
theorem r10_has {s0 : Sl} [hr : Rdb W L s0 Rec.str xs] (hs : Sat W w L) (hz : xs.length < 1000000) : Calls Tryd.prog id_hoardref10_has #[.slice s0.a s0.n s0.c, .string key] w fun e w' => ∃ i : Int, e = .returned (.int .i64 i) ∧ (decide (i ≥ 0) = decide (key ∈ xs)) ∧ Sat W w' L := by
  refine (hoardref10_has_calls (Q := fun v w' => ∃ i : Int, v = .int .i64 i ∧ (decide (i ≥ 0) = decide (key ∈ xs)) ∧ Sat W w' L) ?_).mono fun e w' ⟨v, he, i, hv, hs⟩ => ⟨i, by rw [he, hv], hs⟩
  rw [hoardref10_has_def, hoardref10_has_raw]
  have hn := rdb_len (s := s0) hs
  have loop : ∀ (m i : Nat) (w : World), i + m = xs.length → key ∉ xs.take i → Sat W w L → hoardref10_has_l1 idJ (fun v w' => ∃ i : Int, v = .int .i64 i ∧ (decide (i ≥ 0) = decide (key ∈ xs)) ∧ Sat W w' L) (m + 1) s0 key (i : Int) w := by
    intro m
    induction m with
    | zero =>
      intro i w hi hp hs
      rw [hoardref10_has_l1_raw]
      refine ite_false (decide_eq_false (by omega)) ?_
      rw [hoardref10_has_j2_def, hoardref10_has_j2_raw]
      rw [List.take_of_length_le (by omega)] at hp
      exact ⟨-1, rfl, by rw [decide_eq_false hp]; rfl, hs⟩
    | succ m ih =>
      intro i w hi hp hs
      rw [hoardref10_has_l1_raw]
      refine ite_true (decide_eq_true (by omega)) ?_
      repeat (first | with_reducible refine nilck_some ?_ | ((with_reducible refine atLd ?_); first | refine ld_b hs ?_ | refine ld_b (x := ⟨_, _, _⟩) hs ?_ | refine ld_r0 hs ?_ | refine ld_r1 hs ?_ | refine ld_rd0 ha_ hs ?_ | refine ld_rd1 ha_ hs ?_) | ((with_reducible refine isSt ?_); first | refine st_b hs fun w hs => ?_ | refine st_r0 hs fun w hs => ?_ | refine st_r1 hs fun w hs => ?_) | ((with_reducible refine isIdx ?_); first | refine idx_s hs fun b_ o_ hs => ?_ | refine idx_rd hs fun b_ o_ ha_ => ?_) | with_reducible refine newB_at hs fun b_ w hs => ?_ | ((with_reducible refine isLdS ?_); first | refine ldS_b ?_ | refine ldS_b (x := ⟨_, _, _⟩) ?_ | refine ldS_rs0 hs ?_ | refine ldS_rd0 ha_ ?_) | ((with_reducible refine isKeep ?_); first | refine keep_of hs ?_ | refine keep_imp hs ?_) | with_reducible refine when_om ?_ | with_reducible refine drawW_sat hs fun w hs => ?_)
      rw [Int.toNat_natCast]
      with_reducible refine ite_by (fun h3 => ?_) (fun h3 => ?_)
      · have : key ∈ xs := h3 ▸ getD_mem (by omega)
        exact ⟨i, rfl, by rw [decide_eq_true this, decide_eq_true (by omega)], hs⟩
      · rw [show IntKind.wrap .i64 ((i : Int) + 1) = ((i + 1 : Nat) : Int) by rw [i64_in _ (by omega)]; omega]
        refine ih (i + 1) w (by omega) ?_ hs
        rw [take_snoc (by omega), List.mem_append, List.mem_singleton]
        rintro (hk | hk)
        · exact hp hk
        · exact h3 hk.symm
  refine exM_of (xs.length + 1) ?_
  exact loop xs.length 0 w (by omega) (by simp) hs
set_option maxRecDepth 100000 in
theorem r10_cut {s0 : Sl} [hr : Rdb W L s0 Rec.str xs] (hs : Sat W w L) (hz : xs.length < 1000000) : Calls Tryd.prog id_hoardref10_cut #[.slice s0.a s0.n s0.c, .string key] w fun e w' => ∃ l : Sl, e = .returned (.slice l.a l.n l.c) ∧ Sat W w' (recs Rec.str l (gTake xs key) :: L) := by
  refine (hoardref10_cut_calls (Q := fun v w' => ∃ l : Sl, v = .slice l.a l.n l.c ∧ Sat W w' (recs Rec.str l (gTake xs key) :: L)) ?_).mono fun e w' ⟨v, he, l, hv, hs⟩ => ⟨l, by rw [he, hv], hs⟩
  rw [hoardref10_cut_def, hoardref10_cut_raw]
  have hn := rdb_len (s := s0) hs
  have hs := Sat.nilR Rec.str hs
  have loop : ∀ (m i : Nat) (w : World) (acc : Sl), i + m = xs.length → Sat W w (recs Rec.str acc (gTake (xs.take i) key) :: L) → hoardref10_cut_l1 idJ (fun v w' => ∃ l : Sl, v = .slice l.a l.n l.c ∧ Sat W w' (recs Rec.str l (gTake xs key) :: L)) (m + 1) s0 key acc (i : Int) w := by
    clear hs
    intro m
    induction m with
    | zero =>
      intro i w acc hi hs
      rw [hoardref10_cut_l1_raw]
      refine ite_false (decide_eq_false (by omega)) ?_
      rw [hoardref10_cut_j2_def, hoardref10_cut_j2_raw]
      rw [List.take_of_length_le (by omega)] at hs
      exact ⟨acc, rfl, hs⟩
    | succ m ih =>
      intro i w acc hi hs
      rw [hoardref10_cut_l1_raw]
      refine ite_true (decide_eq_true (by omega)) ?_
      repeat (first | with_reducible refine nilck_some ?_ | ((with_reducible refine atLd ?_); first | refine ld_b hs ?_ | refine ld_b (x := ⟨_, _, _⟩) hs ?_ | refine ld_r0 hs ?_ | refine ld_r1 hs ?_ | refine ld_rd0 ha_ hs ?_ | refine ld_rd1 ha_ hs ?_) | ((with_reducible refine isSt ?_); first | refine st_b hs fun w hs => ?_ | refine st_r0 hs fun w hs => ?_ | refine st_r1 hs fun w hs => ?_) | ((with_reducible refine isIdx ?_); first | refine idx_s hs fun b_ o_ hs => ?_ | refine idx_rd hs fun b_ o_ ha_ => ?_) | with_reducible refine newB_at hs fun b_ w hs => ?_ | ((with_reducible refine isLdS ?_); first | refine ldS_b ?_ | refine ldS_b (x := ⟨_, _, _⟩) ?_ | refine ldS_rs0 hs ?_ | refine ldS_rd0 ha_ ?_) | ((with_reducible refine isKeep ?_); first | refine keep_of hs ?_ | refine keep_imp hs ?_) | with_reducible refine when_om ?_ | with_reducible refine drawW_sat hs fun w hs => ?_)
      rw [Int.toNat_natCast]
      have hsn := gTake_snoc (q := xs) (k := key) (j := i) (by omega)
      have hln := gTake_len (xs.take i) key
      rw [List.length_take] at hln
      with_reducible refine ite_by (fun h3 => ?_) (fun h3 => ?_)
      · rw [if_neg h3] at hsn
        repeat (first | with_reducible refine nilck_some ?_ | ((with_reducible refine atLd ?_); first | refine ld_b hs ?_ | refine ld_b (x := ⟨_, _, _⟩) hs ?_ | refine ld_r0 hs ?_ | refine ld_r1 hs ?_ | refine ld_rd0 ha_ hs ?_ | refine ld_rd1 ha_ hs ?_) | ((with_reducible refine isSt ?_); first | refine st_b hs fun w hs => ?_ | refine st_r0 hs fun w hs => ?_ | refine st_r1 hs fun w hs => ?_) | ((with_reducible refine isIdx ?_); first | refine idx_s hs fun b_ o_ hs => ?_ | refine idx_rd hs fun b_ o_ ha_ => ?_) | with_reducible refine newB_at hs fun b_ w hs => ?_ | ((with_reducible refine isLdS ?_); first | refine ldS_b ?_ | refine ldS_b (x := ⟨_, _, _⟩) ?_ | refine ldS_rs0 hs ?_ | refine ldS_rd0 ha_ ?_) | ((with_reducible refine isKeep ?_); first | refine keep_of hs ?_ | refine keep_imp hs ?_) | with_reducible refine when_om ?_ | with_reducible refine drawW_sat hs fun w hs => ?_)
        refine app_one (s := acc) (a := xs.getD i default) hs rfl rfl rfl rfl (by decide) (by omega) fun s2 w hs2 hs => ?_
        rw [← hsn] at hs
        rw [show IntKind.wrap .i64 ((i : Int) + 1) = ((i + 1 : Nat) : Int) by rw [i64_in _ (by omega)]; omega]
        exact ih (i + 1) w s2 (by omega) (by exact Sat.fin hs)
      · rw [if_pos h3, List.append_nil] at hsn
        rw [← hsn] at hs
        rw [show IntKind.wrap .i64 ((i : Int) + 1) = ((i + 1 : Nat) : Int) by rw [i64_in _ (by omega)]; omega]
        exact ih (i + 1) w acc (by omega) hs
  refine exM_of (xs.length + 1) ?_
  exact loop xs.length 0 w ⟨none, 0, 0⟩ (by omega) hs
theorem r10_New (hs : Sat W w L) {r : Int} : Calls Tryd.prog id_hoardref10_New #[.int .i64 r] w fun e w' => ∃ b, e = .returned (.pointer (some ⟨b, 0, none⟩)) ∧ Sat W w' (rrR b (roomR r) arc0 :: L) := by
  refine (hoardref10_New_calls (Q := fun v w' => ∃ b, v = .pointer (some ⟨b, 0, none⟩) ∧ Sat W w' (rrR b (roomR r) arc0 :: L)) ?_).mono fun e w' ⟨v, he, b, hv, hs⟩ => ⟨b, by rw [he, hv], hs⟩
  rw [hoardref10_New_def, hoardref10_New_raw]
  refine newB_at hs fun b w hs => ⟨b, rfl, ?_⟩
  have e0 : (if (1024 : Int) < (if (1 : Int) > r then (1 : Int) else r) then (1024 : Int) else (if (1 : Int) > r then (1 : Int) else r)) = roomR r := by unfold roomR; split <;> split <;> omega
  rw [e0] at hs
  have hs := Sat.nilR Rec.str hs
  have hs := Sat.nilR Rec.str hs
  have hs := Sat.nilR Rec.str hs
  have hs := Sat.nilR Rec.str hs
  exact rr_shut (x := arc0) ⟨none, 0, 0⟩ ⟨none, 0, 0⟩ ⟨none, 0, 0⟩ ⟨none, 0, 0⟩ (p := 0) (l1 := []) (l2 := []) (l3 := []) (l4 := []) (by exact Sat.fin hs) rfl rfl rfl rfl rfl
theorem r10_Room (hs : Sat W w L) [hA : At L b (rrR b c x) F] : Calls Tryd.prog id_hoardref10_Engine_Room #[.pointer (some ⟨b, 0, none⟩)] w fun e w' => e = .returned (.int .i64 c) ∧ Sat W w' (F (rrR b c x)) := by
  refine At.call1 (hA := hA) hs fun M hs => ?_
  clear hA
  refine c1 (hoardref10_Engine_Room_calls ?_)
  rw [hoardref10_Engine_Room_def, hoardref10_Engine_Room_raw]
  obtain ⟨s1, s2, s3, s4, hl, hs⟩ := rr_open hs
  repeat (first | with_reducible refine nilck_some ?_ | ((with_reducible refine atLd ?_); first | refine ld_b hs ?_ | refine ld_b (x := ⟨_, _, _⟩) hs ?_ | refine ld_r0 hs ?_ | refine ld_r1 hs ?_ | refine ld_rd0 ha_ hs ?_ | refine ld_rd1 ha_ hs ?_) | ((with_reducible refine isSt ?_); first | refine st_b hs fun w hs => ?_ | refine st_r0 hs fun w hs => ?_ | refine st_r1 hs fun w hs => ?_) | ((with_reducible refine isIdx ?_); first | refine idx_s hs fun b_ o_ hs => ?_ | refine idx_rd hs fun b_ o_ ha_ => ?_) | with_reducible refine newB_at hs fun b_ w hs => ?_ | ((with_reducible refine isLdS ?_); first | refine ldS_b ?_ | refine ldS_b (x := ⟨_, _, _⟩) ?_ | refine ldS_rs0 hs ?_ | refine ldS_rd0 ha_ ?_) | ((with_reducible refine isKeep ?_); first | refine keep_of hs ?_ | refine keep_imp hs ?_) | with_reducible refine when_om ?_ | with_reducible refine drawW_sat hs fun w hs => ?_)
  exact ⟨rfl, rr_shut s1 s2 s3 s4 (by exact Sat.fin hs) rfl rfl rfl rfl rfl⟩
theorem r10_Len (hs : Sat W w L) [hA : At L b (rrR b c x) F] (hx : ArcOk c x) : Calls Tryd.prog id_hoardref10_Engine_Len #[.pointer (some ⟨b, 0, none⟩)] w fun e w' => e = .returned (.int .i64 (aLen x : Int)) ∧ Sat W w' (F (rrR b c x)) := by
  refine At.call1 (hA := hA) hs fun M hs => ?_
  clear hA
  refine c1 (hoardref10_Engine_Len_calls ?_)
  rw [hoardref10_Engine_Len_def, hoardref10_Engine_Len_raw]
  obtain ⟨s1, s2, s3, s4, hl, hs⟩ := rr_open hs
  have hll := hx.lens
  refine drawW_only [cR b s1 s2 s3 s4 x.p c] hs fun w hs => ?_
  refine nilck_some (ldS_b (x := s1) (nilck_some (ld_b (x := s2) hs ?_)))
  refine keep_imp hs ?_
  rw [i64_in _ (by omega)]
  exact ⟨by unfold aLen; rw [hl.1.1, hl.2.1.1]; rfl, rr_shut s1 s2 s3 s4 (by exact Sat.fin hs) rfl rfl rfl rfl rfl⟩
theorem r10_Has (hs : Sat W w L) [hA : At L b (rrR b c x) F] (hx : ArcOk c x) : Calls Tryd.prog id_hoardref10_Engine_Has #[.pointer (some ⟨b, 0, none⟩), .string key] w fun e w' => e = .returned (.bool (decide (key ∈ aRes x))) ∧ Sat W w' (F (rrR b c x)) := by
  refine At.call1 (hA := hA) hs fun M hs => ?_
  clear hA
  refine c1 (hoardref10_Engine_Has_calls ?_)
  rw [hoardref10_Engine_Has_def, hoardref10_Engine_Has_raw]
  obtain ⟨s1, s2, s3, s4, hl, hs⟩ := rr_open hs
  have hll := hx.lens
  refine nilck_some (ld_b (x := s1) hs ?_)
  refine call1_of (r10_has (s0 := s1) (xs := x.t1) hs (by omega)) fun e w ⟨i, he, hi, hs⟩ => ⟨_, he, ?_⟩
  rw [hi]
  with_reducible refine ite_by (fun h1 => ?_) (fun h1 => ?_)
  · rw [decide_eq_true (mem_aRes.2 (.inl h1))]
    exact ⟨rfl, rr_shut s1 s2 s3 s4 (by exact Sat.fin hs) rfl rfl rfl rfl rfl⟩
  · refine nilck_some (ld_b (x := s2) hs ?_)
    refine call1_of (r10_has (s0 := s2) (xs := x.t2) hs (by omega)) fun e w ⟨i, he, hi, hs⟩ => ⟨_, he, ?_⟩
    rw [hi]
    have : decide (key ∈ x.t2) = decide (key ∈ aRes x) := by
      rw [decide_eq_decide, mem_aRes]
      exact ⟨.inr, fun h => h.elim (fun h => absurd h h1) id⟩
    rw [this]
    exact ⟨rfl, rr_shut s1 s2 s3 s4 (by exact Sat.fin hs) rfl rfl rfl rfl rfl⟩
theorem r10_goes (hs : Sat W w (rrR b c x :: M)) {first : Bool} (hx : ArcOk c x) (hf : first = true → 0 < x.t1.length) (hf2 : first = false → 0 < x.t2.length) : Calls Tryd.prog id_hoardref10_Engine_goes #[.pointer (some ⟨b, 0, none⟩), .bool first] w fun e w' => e = .returned (.string (aGoes x first).1) ∧
    Sat W w' (rrR b c (aGoes x first).2 :: M) := by
  refine c1 (hoardref10_Engine_goes_calls ?_)
  rw [hoardref10_Engine_goes_def, hoardref10_Engine_goes_raw]
  have hll := hx.lens
  obtain ⟨⟨n1, n2, n3, n4⟩, _⟩ := hx.w.four
  obtain ⟨s1, s2, s3, s4, hl, hs⟩ := rr_open hs
  cases first with
  | true =>
    have h0 := hf rfl
    refine ite_true rfl ?_
    refine nilck_some (ld_b (x := s1) hs ?_)
    refine idx_s hs fun b_ o_ hs => ?_
    refine ld_r0 hs ?_
    rw [hd_getD h0]
    refine nilck_some (ld_b (x := s1) hs ?_)
    refine call1_of (r10_cut (s0 := s1) (xs := x.t1) hs (by omega)) fun e w ⟨l, he, hs⟩ => ⟨_, he, ?_⟩
    rw [gTake_hd n1 h0] at hs
    refine nilck_some (st_b hs fun w hs => ?_)
    refine nilck_some (ld_b (x := s3) hs ?_)
    refine newB_at hs fun nb w hs => ?_
    refine app_one (s := s3) (a := hd0 x.t1) hs rfl rfl rfl rfl (by decide) (by omega) fun s5 w hs5 hs => ?_
    refine nilck_some (st_b hs fun w hs => ?_)
    exact ⟨rfl, rr_shut (x := (aGoes x true).2) l s2 s5 s4 (p := x.p) (l1 := x.t1.drop 1) (l2 := x.t2) (l3 := x.b1 ++ [hd0 x.t1]) (l4 := x.b2) (by exact Sat.fin hs) rfl rfl rfl rfl rfl⟩
  | false =>
    have h0 := hf2 rfl
    refine ite_false rfl ?_
    refine nilck_some (ld_b (x := s2) hs ?_)
    refine idx_s hs fun b_ o_ hs => ?_
    refine ld_r0 hs ?_
    rw [hd_getD h0]
    refine nilck_some (ld_b (x := s2) hs ?_)
    refine call1_of (r10_cut (s0 := s2) (xs := x.t2) hs (by omega)) fun e w ⟨l, he, hs⟩ => ⟨_, he, ?_⟩
    rw [gTake_hd n2 h0] at hs
    refine nilck_some (st_b hs fun w hs => ?_)
    refine nilck_some (ld_b (x := s4) hs ?_)
    refine newB_at hs fun nb w hs => ?_
    refine app_one (s := s4) (a := hd0 x.t2) hs rfl rfl rfl rfl (by decide) (by omega) fun s5 w hs5 hs => ?_
    refine nilck_some (st_b hs fun w hs => ?_)
    exact ⟨rfl, rr_shut (x := (aGoes x false).2) s1 l s3 s5 (p := x.p) (l1 := x.t1) (l2 := x.t2.drop 1) (l3 := x.b1) (l4 := x.b2 ++ [hd0 x.t2]) (by exact Sat.fin hs) rfl rfl rfl rfl rfl⟩
theorem r10_replace (hs : Sat W w (rrR b c x :: M)) (hx : ArcOk c x) {again : Bool} (ha : again = decide (key ∈ x.b2)) : Calls Tryd.prog id_hoardref10_Engine_replace #[.pointer (some ⟨b, 0, none⟩), .string key] w fun e w' => ∃ l : Sl, e = .returned (.slice l.a l.n l.c) ∧
    Sat W w' (recs Rec.str l (aRep c x again).1 :: rrR b c (aRep c x again).2 :: M) := by
  refine (hoardref10_Engine_replace_calls (Q := fun v w' => ∃ l : Sl, v = .slice l.a l.n l.c ∧ Sat W w' (recs Rec.str l (aRep c x again).1 :: rrR b c (aRep c x again).2 :: M)) ?_).mono fun e w' ⟨v, he, l, hv, hs⟩ => ⟨l, by rw [he, hv], hs⟩
  rw [hoardref10_Engine_replace_def, hoardref10_Engine_replace_raw]
  have hll := hx.lens
  have hc1 := hx.c1
  have hal : (aLen x : Int) = x.t1.length + x.t2.length := by unfold aLen; omega
  refine drawW_only [rrR b c x] hs fun w hs => ?_
  refine nilck_some ?_
  refine ldS_by (k := .int .i64) c (fun w' h => rr_cap h) ?_
  refine call1_of (r10_Len hs hx) fun e w ⟨he, hs⟩ => ⟨_, he, ?_⟩
  refine keep_imp hs ?_
  with_reducible refine ite_by (fun h1 => ?_) (fun h1 => ?_)
  · have e1 : aRep c x again = ([], x) := if_pos (by omega)
    rw [e1]
    have hs := Sat.nilR Rec.str hs
    exact ⟨⟨none, 0, 0⟩, rfl, hs⟩
  · have e1 : aRep c x again = ([(aGoes x (aFirst x again)).1], (aGoes x (aFirst x again)).2) := if_neg (by omega)
    rw [e1]
    have fin : ∀ (w : World) (f : Bool), f = aFirst x again → Sat W w (rrR b c x :: M) → call1 .str Tryd.prog id_hoardref10_Engine_goes [.pointer (some ⟨b, 0, none⟩), .bool f] (fun y => newB [.string y] ty_string fun b_12 w' => ∃ l : Sl, Value.slice (some ⟨b_12, 0, none⟩) 1 1 = .slice l.a l.n l.c ∧ Sat W w' (recs Rec.str l [(aGoes x (aFirst x again)).1] :: rrR b c (aGoes x (aFirst x again)).2 :: M)) w := by
      intro w f hf hs
      subst hf
      refine call1_of (r10_goes hs hx aFirst_t1 (fun h => aFirst_t2 h (by omega))) fun e w ⟨he, hs⟩ => ⟨_, he, ?_⟩
      refine newB_at hs fun nb w hs => ?_
      have hs := Sat.blkS (b := nb) (cs := [.string (aGoes x (aFirst x again)).1]) (n := 1) Rec.str [(aGoes x (aFirst x again)).1] hs rfl rfl
      exact ⟨⟨some ⟨nb, 0, none⟩, 1, 1⟩, rfl, hs⟩
    clear e1
    obtain ⟨s1, s2, s3, s4, hl, hs⟩ := rr_open hs
    refine nilck_some (ld_b (x := s1) hs ?_)
    with_reducible refine ite_by (fun h2 => ?_) (fun h2 => ?_)
    · refine nilck_some (ld_b hs ?_)
      with_reducible refine ite_by (fun h3 => ?_) (fun h3 => ?_)
      · refine fin w true ?_ (rr_shut s1 s2 s3 s4 hs rfl rfl rfl rfl rfl)
        unfold aFirst
        simp only [decide_eq_true (show 0 < x.t1.length by omega), decide_eq_true (show x.p < (x.t1.length : Int) by omega), Bool.true_or, Bool.and_true]
      · refine nilck_some (ld_b hs ?_)
        with_reducible refine ite_by (fun h4 => ?_) (fun h4 => ?_)
        · refine nilck_some (ld_b (x := s4) hs ?_)
          refine call1_of (r10_has (s0 := s4) (xs := x.b2) hs (by omega)) fun e w ⟨i, he, hi, hs⟩ => ⟨_, he, ?_⟩
          rw [hi, ← ha]
          refine ite_cases (fun h5 => ?_) (fun h5 => ?_)
          · refine fin w true ?_ (rr_shut s1 s2 s3 s4 hs rfl rfl rfl rfl rfl)
            unfold aFirst
            simp only [decide_eq_true (show 0 < x.t1.length by omega), decide_eq_true (show (x.t1.length : Int) = x.p by omega), h5, Bool.true_or, Bool.and_true, Bool.or_true]
          · refine nilck_some (ld_b (x := s2) hs ?_)
            refine fin w _ ?_ (rr_shut s1 s2 s3 s4 hs rfl rfl rfl rfl rfl)
            unfold aFirst
            rw [h5, decide_eq_true (show 0 < x.t1.length by omega), decide_eq_false (show ¬ x.p < (x.t1.length : Int) by omega), Bool.and_false, Bool.false_or, Bool.false_or, Bool.true_and, Bool.eq_iff_iff, beq_iff_eq, decide_eq_true_eq]
            omega
        · refine nilck_some (ld_b (x := s2) hs ?_)
          refine fin w _ ?_ (rr_shut s1 s2 s3 s4 hs rfl rfl rfl rfl rfl)
          unfold aFirst
          rw [decide_eq_true (show 0 < x.t1.length by omega), decide_eq_false (show ¬ x.p < (x.t1.length : Int) by omega), decide_eq_false (show ¬ (x.t1.length : Int) = x.p by omega), Bool.false_and, Bool.false_or, Bool.false_or, Bool.true_and, Bool.eq_iff_iff, beq_iff_eq, decide_eq_true_eq]
          omega
    · refine fin w false ?_ (rr_shut s1 s2 s3 s4 hs rfl rfl rfl rfl rfl)
      unfold aFirst
      rw [decide_eq_false (show ¬ 0 < x.t1.length by omega), Bool.false_and]
end
end Go.Proofs.YtchlicgjdlkidaaDoor
namespace Go.Hb
theorem drop1_take {l : List ByteArray} : ((l.drop 1).take (l.length - 1)) = l.drop 1 := List.take_of_length_le (by simp)
end Go.Hb
namespace Go.Proofs.YtchlicgjdlkidaaDoor
open Go.Hb Go.IntWalk
section
variable {W w : World} {L M : List HP} {F : HP → List HP} {b : Nat} {c : Int} {x y : ArcS} {key : ByteArray} {xs : List ByteArray}
/-- a slice without its first -/
theorem cut1 {s : Sl} (hs : Sat W w L) [hA : AtS L s (recs Rec.str s xs) F] (h0 : 0 < xs.length) : Sat W w (F (recs Rec.str ⟨subA s.a (((1 : Int)).toNat) s.c 1, s.n - ((1 : Int)).toNat, s.c - ((1 : Int)).toNat⟩ (xs.drop 1))) := by
  have hn := (recs_len (s := s) hs (by decide)).1
  have h1 := cut_s (hA := hA) (lo := 1) (hi := xs.length) (c := s.c) hs rfl (by omega) (by omega) rfl (by decide)
  rw [drop1_take] at h1
  rw [hn]
  exact h1
theorem known_tail {g : List ByteArray} {l : Sl} (hy : ArcOk c y) (hs : Sat W w (recs Rec.str l g :: rrR b c y :: M)) (hk : key ∈ y.b1) :
    (nilck (some ⟨b, 0, none⟩) fun b_20 o_21 =>
  ld .slc b_20 (o_21 + 2) fun (x_22 : Sl) =>
  call1 .slc Tryd.prog id_hoardref10_cut [.slice x_22.a x_22.n x_22.c, .string key] fun (x_23 : Sl) =>
  nilck (some ⟨b, 0, none⟩) fun b_24 o_25 =>
  st b_24 (o_25 + 2) (.slice x_23.a x_23.n x_23.c) <|
  nilck (some ⟨b, 0, none⟩) fun b_26 o_27 =>
  ld .slc b_26 (o_27 + 1) fun (x_28 : Sl) =>
  newB [.string key] ty_string fun b_29 =>
  appendC ty_string 1 16 [.string str_empty] ⟨x_28.a, x_28.n, x_28.c⟩ 1 (fun w => rdA w (some ⟨b_29, 0, none⟩) (1 * 1)) fun s_30 =>
  nilck (some ⟨b, 0, none⟩) fun b_31 o_32 =>
  st b_31 (o_32 + 1) (.slice s_30.a s_30.n s_30.c) fun w' => ∃ l' : Sl, Value.slice l.a l.n l.c = .slice l'.a l'.n l'.c ∧ Sat W w' (recs Rec.str l' g :: rrR b c (aPush2 y key) :: M)) w := by
  have hll := hy.lens
  have hs : Sat W w (rrR b c y :: recs Rec.str l g :: M) := by exact Sat.fin hs
  obtain ⟨s1, s2, s3, s4, hl, hs⟩ := rr_open hs
  refine nilck_some (ld_b (x := s3) hs ?_)
  refine call1_of (r10_cut (s0 := s3) (xs := y.b1) hs (by omega)) fun e w ⟨k2, he, hs⟩ => ⟨_, he, ?_⟩
  refine nilck_some (st_b hs fun w hs => ?_)
  refine nilck_some (ld_b (x := s2) hs ?_)
  refine newB_at hs fun nb w hs => ?_
  refine app_one (s := s2) (a := key) hs rfl rfl rfl rfl (by decide) (by omega) fun s5 w hs5 hs => ?_
  refine nilck_some (st_b hs fun w hs => ?_)
  rw [push2_b1 hy.w hk]
  have hs : Sat W w (cR b s1 s5 k2 s4 y.p c :: recs Rec.str s1 y.t1 :: recs Rec.str s5 (y.t2 ++ [key]) :: recs Rec.str k2 (gTake y.b1 key) :: recs Rec.str s4 y.b2 :: recs Rec.str l g :: M) := by exact Sat.fin hs
  have hs := rr_shut (x := ⟨y.t1, y.t2 ++ [key], gTake y.b1 key, y.b2, y.p⟩) s1 s5 k2 s4 hs rfl rfl rfl rfl rfl
  exact ⟨l, rfl, by exact Sat.fin hs⟩
theorem known_tail2 {g : List ByteArray} {l : Sl} (hy : ArcOk c y) (hs : Sat W w (recs Rec.str l g :: rrR b c y :: M)) (hk : key ∈ y.b2) :
    (nilck (some ⟨b, 0, none⟩) fun b_20 o_21 =>
  ld .slc b_20 (o_21 + 3) fun (x_22 : Sl) =>
  call1 .slc Tryd.prog id_hoardref10_cut [.slice x_22.a x_22.n x_22.c, .string key] fun (x_23 : Sl) =>
  nilck (some ⟨b, 0, none⟩) fun b_24 o_25 =>
  st b_24 (o_25 + 3) (.slice x_23.a x_23.n x_23.c) <|
  nilck (some ⟨b, 0, none⟩) fun b_26 o_27 =>
  ld .slc b_26 (o_27 + 1) fun (x_28 : Sl) =>
  newB [.string key] ty_string fun b_29 =>
  appendC ty_string 1 16 [.string str_empty] ⟨x_28.a, x_28.n, x_28.c⟩ 1 (fun w => rdA w (some ⟨b_29, 0, none⟩) (1 * 1)) fun s_30 =>
  nilck (some ⟨b, 0, none⟩) fun b_31 o_32 =>
  st b_31 (o_32 + 1) (.slice s_30.a s_30.n s_30.c) fun w' => ∃ l' : Sl, Value.slice l.a l.n l.c = .slice l'.a l'.n l'.c ∧ Sat W w' (recs Rec.str l' g :: rrR b c (aPush2 y key) :: M)) w := by
  have hll := hy.lens
  have hs : Sat W w (rrR b c y :: recs Rec.str l g :: M) := by exact Sat.fin hs
  obtain ⟨s1, s2, s3, s4, hl, hs⟩ := rr_open hs
  refine nilck_some (ld_b (x := s4) hs ?_)
  refine call1_of (r10_cut (s0 := s4) (xs := y.b2) hs (by omega)) fun e w ⟨k2, he, hs⟩ => ⟨_, he, ?_⟩
  refine nilck_some (st_b hs fun w hs => ?_)
  refine nilck_some (ld_b (x := s2) hs ?_)
  refine newB_at hs fun nb w hs => ?_
  refine app_one (s := s2) (a := key) hs rfl rfl rfl rfl (by decide) (by omega) fun s5 w hs5 hs => ?_
  refine nilck_some (st_b hs fun w hs => ?_)
  rw [push2_b2 hy.w hk]
  have hs : Sat W w (cR b s1 s5 s3 k2 y.p c :: recs Rec.str s1 y.t1 :: recs Rec.str s5 (y.t2 ++ [key]) :: recs Rec.str s3 y.b1 :: recs Rec.str k2 (gTake y.b2 key) :: recs Rec.str l g :: M) := by exact Sat.fin hs
  have hs := rr_shut (x := ⟨y.t1, y.t2 ++ [key], y.b1, gTake y.b2 key, y.p⟩) s1 s5 s3 k2 hs rfl rfl rfl rfl rfl
  exact ⟨l, rfl, by exact Sat.fin hs⟩
theorem r10_known (hs : Sat W w (rrR b c x :: M)) (hx : ArcOk c x) (hk : key ∈ x.b1 ∨ key ∈ x.b2) : Calls Tryd.prog id_hoardref10_Engine_known #[.pointer (some ⟨b, 0, none⟩), .string key] w fun e w' => ∃ l : Sl, e = .returned (.slice l.a l.n l.c) ∧
    Sat W w' (recs Rec.str l (aAcc c x key).1.2 :: rrR b c (aAcc c x key).2 :: M) := by
  refine (hoardref10_Engine_known_calls (Q := fun v w' => ∃ l : Sl, v = .slice l.a l.n l.c ∧ Sat W w' (recs Rec.str l (aAcc c x key).1.2 :: rrR b c (aAcc c x key).2 :: M)) ?_).mono fun e w' ⟨v, he, l, hv, hs⟩ => ⟨l, by rw [he, hv], hs⟩
  rw [hoardref10_Engine_known_def, hoardref10_Engine_known_raw]
  have hll := hx.lens
  have hp0 := hx.p0
  have hp1 := hx.p1
  have hc2 := hx.c2
  obtain ⟨_, a1, a2, a3⟩ := hx.w.four
  have h1 : ¬ (key ∈ x.t1 ∨ key ∈ x.t2) := by
    rintro (h | h) <;> rcases hk with hk | hk
    · exact (a1 _ h).2.1 hk
    · exact (a1 _ h).2.2 hk
    · exact (a2 _ h).1 hk
    · exact (a2 _ h).2 hk
  obtain ⟨s1, s2, s3, s4, hl, hs⟩ := rr_open hs
  refine nilck_some (ld_b (x := s3) hs ?_)
  refine call1_of (r10_has (s0 := s3) (xs := x.b1) hs (by omega)) fun e w ⟨i, he, hi, hs⟩ => ⟨_, he, ?_⟩
  rw [hi]
  with_reducible refine ite_by (fun h2 => ?_) (fun h2 => ?_)
  · have e1 : aAcc c x key = ((false, (aRep c (aUp c x) false).1), aPush2 (aRep c (aUp c x) false).2 key) := by unfold aAcc; rw [if_neg h1, if_pos h2]
    rw [e1]
    have h0 : 0 < x.b1.length := by
      cases hb : x.b1 with
      | nil => rw [hb] at h2; simp at h2
      | cons a l => simp
    refine drawW_only [cR b s1 s2 s3 s4 x.p c] hs fun w hs => ?_
    refine nilck_some (ldS_b (nilck_some (ldS_b (nilck_some (ldS_b (x := s4) (nilck_some (ld_b (x := s3) hs ?_)))))))
    refine keep_imp hs ?_
    refine when_of (by omega) ?_
    rw [hl.2.2.2.1, hl.2.2.1.1, up_eq (N := 2048) (by omega) (by omega) (by omega)]
    refine nilck_some (st_b hs fun w hs => ?_)
    have hs := rr_shut (x := aUp c x) s1 s2 s3 s4 hs rfl rfl rfl rfl rfl
    have hu : ArcOk c (aUp c x) := hx.upd_p (by omega) (by omega)
    have hag : false = decide (key ∈ (aUp c x).b2) := by symm; rw [decide_eq_false_iff_not]; exact a3 _ h2
    obtain ⟨hy, _⟩ := aRep_ok hu false
    refine call1_of (r10_replace hs hu hag) fun e w ⟨l, he, hs⟩ => ⟨l, he, ?_⟩
    exact known_tail hy hs (aRep_b1 h2)
  · have h3 : key ∈ x.b2 := hk.elim (fun h => absurd h h2) id
    have e1 : aAcc c x key = ((false, (aRep c (aDown x) true).1), aPush2 (aRep c (aDown x) true).2 key) := by unfold aAcc; rw [if_neg h1, if_neg h2, if_pos h3]
    rw [e1]
    have h0 : 0 < x.b2.length := by
      cases hb : x.b2 with
      | nil => rw [hb] at h3; simp at h3
      | cons a l => simp
    refine drawW_only [cR b s1 s2 s3 s4 x.p c] hs fun w hs => ?_
    refine nilck_some (ldS_b (nilck_some (ldS_b (x := s3) (nilck_some (ld_b (x := s4) hs ?_)))))
    refine keep_imp hs ?_
    refine when_of (by omega) ?_
    rw [hl.2.2.2.1, hl.2.2.1.1, down_eq (N := 2048) (by omega) (by omega) (by omega)]
    refine nilck_some (st_b hs fun w hs => ?_)
    have hs := rr_shut (x := aDown x) s1 s2 s3 s4 hs rfl rfl rfl rfl rfl
    have hu : ArcOk c (aDown x) := hx.upd_p (by omega) (by omega)
    have hag : true = decide (key ∈ (aDown x).b2) := by symm; rw [decide_eq_true_eq]; exact h3
    obtain ⟨hy, _⟩ := aRep_ok hu true
    refine call1_of (r10_replace hs hu hag) fun e w ⟨l, he, hs⟩ => ⟨l, he, ?_⟩
    exact known_tail2 hy hs (aRep_b2 h3)
theorem fresh_tail {g : List ByteArray} {l : Sl} (hy : ArcOk c y) (hs : Sat W w (recs Rec.str l g :: rrR b c y :: M)) (hk : key ∉ y.t1 ++ (y.t2 ++ (y.b1 ++ y.b2))) :
    hoardref10_Engine_fresh_j2 idJ (fun v w' => ∃ l : Sl, v = .slice l.a l.n l.c ∧ Sat W w' (recs Rec.str l g :: rrR b c (aPush1 y key) :: M)) (some ⟨b, 0, none⟩) key l w := by
  rw [hoardref10_Engine_fresh_j2_def, hoardref10_Engine_fresh_j2_raw]
  have hll := hy.lens
  have hs : Sat W w (rrR b c y :: recs Rec.str l g :: M) := by exact Sat.fin hs
  obtain ⟨s1, s2, s3, s4, hl, hs⟩ := rr_open hs
  refine newB_at hs fun nb w hs => ?_
  refine nilck_some (ld_b (x := s1) hs ?_)
  refine app_own (b := nb) (cs := []) (rows := []) (new := y.t1) hs Rec.str rfl rfl (rd_rdb (s := s1) hs) hl.1.1 (okC_flat _) rfl (by decide) (by simp; omega) fun s5 w h5 hs => ?_
  have hs : Sat W w (recs Rec.str s5 y.t1 :: cR b s1 s2 s3 s4 y.p c :: recs Rec.str s1 y.t1 :: recs Rec.str s2 y.t2 :: recs Rec.str s3 y.b1 :: recs Rec.str s4 y.b2 :: recs Rec.str l g :: M) := hs
  refine newB_at hs fun nb2 w hs => ?_
  refine app_one (s := s5) (a := key) hs rfl rfl rfl rfl (by decide) (by omega) fun s6 w hs6 hs => ?_
  refine nilck_some (st_b hs fun w hs => ?_)
  rw [push1_not hk]
  have hs : Sat W w (cR b s6 s2 s3 s4 y.p c :: recs Rec.str s6 (y.t1 ++ [key]) :: recs Rec.str s2 y.t2 :: recs Rec.str s3 y.b1 :: recs Rec.str s4 y.b2 :: recs Rec.str l g :: M) := by exact Sat.fin hs
  have hs := rr_shut (x := ⟨y.t1 ++ [key], y.t2, y.b1, y.b2, y.p⟩) s6 s2 s3 s4 hs rfl rfl rfl rfl rfl
  exact ⟨l, rfl, by exact Sat.fin hs⟩
theorem r10_fresh (hs : Sat W w (rrR b c x :: M)) (hx : ArcOk c x) (hk : key ∉ x.t1 ++ (x.t2 ++ (x.b1 ++ x.b2))) : Calls Tryd.prog id_hoardref10_Engine_fresh #[.pointer (some ⟨b, 0, none⟩), .string key] w fun e w' => ∃ l : Sl, e = .returned (.slice l.a l.n l.c) ∧
    Sat W w' (recs Rec.str l (aComes c x).1 :: rrR b c (aPush1 (aComes c x).2 key) :: M) := by
  refine (hoardref10_Engine_fresh_calls (Q := fun v w' => ∃ l : Sl, v = .slice l.a l.n l.c ∧ Sat W w' (recs Rec.str l (aComes c x).1 :: rrR b c (aPush1 (aComes c x).2 key) :: M)) ?_).mono fun e w' ⟨v, he, l, hv, hs⟩ => ⟨l, by rw [he, hv], hs⟩
  rw [hoardref10_Engine_fresh_def, hoardref10_Engine_fresh_raw]
  have hll := hx.lens
  have c1_ := hx.c1; have c2_ := hx.c2; have l_ := hx.len; have l1_ := hx.l1; have tot_ := hx.tot
  have hw := hx.w
  obtain ⟨hy, hwent, _⟩ := aComes_ok hx
  obtain ⟨A, hA⟩ : ∃ A, A = aComes c x := ⟨_, rfl⟩
  rw [← hA] at hy hwent ⊢
  have hky : key ∉ A.2.t1 ++ (A.2.t2 ++ (A.2.b1 ++ A.2.b2)) := fun h => hk (hwent.all _ h)
  have hkb2 : key ∉ x.b2 := fun h => hk (List.mem_append_right _ (List.mem_append_right _ (List.mem_append_right _ h)))
  have fin : ∀ (w : World) (l : Sl), Sat W w (recs Rec.str l A.1 :: rrR b c A.2 :: M) → hoardref10_Engine_fresh_j2 idJ (fun v w' => ∃ l : Sl, v = .slice l.a l.n l.c ∧ Sat W w' (recs Rec.str l A.1 :: rrR b c (aPush1 A.2 key) :: M)) (some ⟨b, 0, none⟩) key l w := by
    intro w l hs
    with_reducible refine fresh_tail (y := A.2) (g := A.1) hy ?_ hky
    exact hs
  have hag : ∀ l : List ByteArray, l = x.b2 ∨ l = x.b2.drop 1 → false = decide (key ∈ l) := by
    intro l h
    symm; rw [decide_eq_false_iff_not]
    rcases h with rfl | rfl
    · exact hkb2
    · exact fun h => hkb2 (List.mem_of_mem_drop h)
  have hal : (aLen x : Int) = x.t1.length + x.t2.length := by unfold aLen; omega
  have j1 : ∀ (w : World) (all : Int) (t : Bool), all = (x.t1.length : Int) + x.t2.length + x.b1.length + x.b2.length → t = decide (c ≤ (x.t1.length : Int) + x.b1.length ∧ (x.t1.length : Int) < c) → Sat W w (rrR b c x :: M) →
      hoardref10_Engine_fresh_j1 idJ (fun v w' => ∃ l : Sl, v = .slice l.a l.n l.c ∧ Sat W w' (recs Rec.str l A.1 :: rrR b c (aPush1 A.2 key) :: M)) (some ⟨b, 0, none⟩) key ⟨none, 0, 0⟩ all t w := by
    clear hs
    intro w all t hall ht hs
    subst ht hall
    rw [hoardref10_Engine_fresh_j1_def, hoardref10_Engine_fresh_j1_raw]
    obtain ⟨s1, s2, s3, s4, hl, hs⟩ := rr_open hs
    with_reducible refine ite_by (fun h1 => ?_) (fun h1 => ?_)
    · have e1 : A = aRep c { x with b1 := x.b1.drop 1 } false := by rw [hA]; unfold aComes; rw [if_pos h1]
      clear hy hky
      have h0 : 0 < x.b1.length := by omega
      refine nilck_some (ld_b (x := s3) hs ?_)
      refine when_of (by omega) ?_
      refine nilck_some (st_b hs fun w hs => ?_)
      have hs := cut1 (s := s3) hs h0
      have hs := rr_shut (x := { x with b1 := x.b1.drop 1 }) s1 s2 ⟨subA s3.a (((1 : Int)).toNat) s3.c 1, s3.n - ((1 : Int)).toNat, s3.c - ((1 : Int)).toNat⟩ s4 hs rfl rfl rfl rfl rfl
      exact call1_of (r10_replace hs (aDropB1 hx 1) (hag _ (.inl rfl))) fun e w ⟨l, he, hs⟩ => ⟨l, he, by rw [← e1] at hs; with_reducible exact fin w l hs⟩
    · refine drawW_only [cR b s1 s2 s3 s4 x.p c] hs fun w hs => ?_
      refine nilck_some (ldS_b (x := s1) (nilck_some (ldS_b (x := s3) (nilck_some (ld_b hs ?_)))))
      refine keep_imp hs ?_
      rw [i64_in _ (by omega)]
      with_reducible refine ite_by (fun h2 => ?_) (fun h2 => ?_)
      · have e1 : A = ([hd0 x.t1], { x with t1 := x.t1.drop 1 }) := by rw [hA]; unfold aComes; rw [if_neg h1, if_pos (by omega)]
        clear hy hky
        have h0 : 0 < x.t1.length := by omega
        refine nilck_some (ld_b (x := s1) hs ?_)
        refine idx_s hs fun b_ o_ hs => ?_
        refine ld_r0 hs ?_
        rw [hd_getD h0]
        refine newB_at hs fun nb w hs => ?_
        have hs := Sat.blkS (b := nb) (cs := [.string (hd0 x.t1)]) (n := 1) Rec.str [hd0 x.t1] hs rfl rfl
        have hs : Sat W w (cR b s1 s2 s3 s4 x.p c :: recs Rec.str s1 x.t1 :: recs Rec.str s2 x.t2 :: recs Rec.str s3 x.b1 :: recs Rec.str s4 x.b2 :: recs Rec.str ⟨some ⟨nb, 0, none⟩, 1, 1⟩ [hd0 x.t1] :: M) := by exact Sat.fin hs
        refine nilck_some (ld_b (x := s1) hs ?_)
        refine when_of (by omega) ?_
        refine nilck_some (st_b hs fun w hs => ?_)
        have hs := cut1 (s := s1) hs h0
        have hs := rr_shut (x := { x with t1 := x.t1.drop 1 }) ⟨subA s1.a (((1 : Int)).toNat) s1.c 1, s1.n - ((1 : Int)).toNat, s1.c - ((1 : Int)).toNat⟩ s2 s3 s4 hs rfl rfl rfl rfl rfl
        have hs : Sat W w (recs Rec.str ⟨some ⟨nb, 0, none⟩, 1, 1⟩ ([hd0 x.t1], ({ x with t1 := x.t1.drop 1 } : ArcS)).1 :: rrR b c ([hd0 x.t1], ({ x with t1 := x.t1.drop 1 } : ArcS)).2 :: M) := by exact Sat.fin hs
        rw [← e1] at hs
        with_reducible exact fin w _ hs
      · refine nilck_some (ld_b hs ?_)
        with_reducible refine ite_by (fun h3 => ?_) (fun h3 => ?_)
        · refine nilck_some (ld_b hs ?_)
          rw [i64_in (2 * c) (by omega)]
          with_reducible refine ite_by (fun h4 => ?_) (fun h4 => ?_)
          · have e1 : A = aRep c { x with b2 := x.b2.drop 1 } false := by rw [hA]; unfold aComes; rw [if_neg h1, if_neg (by omega), if_neg (by omega), if_pos (by omega)]
            clear hy hky
            have h0 : 0 < x.b2.length := by omega
            refine nilck_some (ld_b (x := s4) hs ?_)
            refine when_of (by omega) ?_
            refine nilck_some (st_b hs fun w hs => ?_)
            have hs := cut1 (s := s4) hs h0
            have hs := rr_shut (x := { x with b2 := x.b2.drop 1 }) s1 s2 s3 ⟨subA s4.a (((1 : Int)).toNat) s4.c 1, s4.n - ((1 : Int)).toNat, s4.c - ((1 : Int)).toNat⟩ hs rfl rfl rfl rfl rfl
            exact call1_of (r10_replace hs (aDropB2 hx 1) (hag _ (.inr rfl))) fun e w ⟨l, he, hs⟩ => ⟨l, he, by rw [← e1] at hs; with_reducible exact fin w l hs⟩
          · have e1 : A = aRep c x false := by rw [hA]; unfold aComes; rw [if_neg h1, if_neg (by omega), if_neg (by omega), if_neg (by omega)]
            clear hy hky
            exact call1_of (r10_replace (rr_shut s1 s2 s3 s4 hs rfl rfl rfl rfl rfl) hx (hag _ (.inl rfl))) fun e w ⟨l, he, hs⟩ => ⟨l, he, by rw [← e1] at hs; with_reducible exact fin w l hs⟩
        · have e1 : A = ([], x) := by rw [hA]; unfold aComes; rw [if_neg h1, if_neg (by omega), if_pos (by omega)]
          clear hy hky
          have hs := rr_shut (x := x) s1 s2 s3 s4 hs rfl rfl rfl rfl rfl
          have hs := Sat.nilR Rec.str hs
          have hs : Sat W w (recs Rec.str ⟨none, 0, 0⟩ (([], x) : List ByteArray × ArcS).1 :: rrR b c (([], x) : List ByteArray × ArcS).2 :: M) := hs
          rw [← e1] at hs
          with_reducible exact fin w _ hs
  obtain ⟨s1, s2, s3, s4, hl, hs⟩ := rr_open hs
  have hLen : ∀ w, Sat W w (cR b s1 s2 s3 s4 x.p c :: recs Rec.str s1 x.t1 :: recs Rec.str s2 x.t2 :: recs Rec.str s3 x.b1 :: recs Rec.str s4 x.b2 :: M) → Calls Tryd.prog id_hoardref10_Engine_Len #[.pointer (some ⟨b, 0, none⟩)] w fun e w' => e = .returned (.int .i64 (aLen x : Int)) ∧ Sat W w' (cR b s1 s2 s3 s4 x.p c :: recs Rec.str s1 x.t1 :: recs Rec.str s2 x.t2 :: recs Rec.str s3 x.b1 :: recs Rec.str s4 x.b2 :: M) := by
    intro w hs
    refine c1 (hoardref10_Engine_Len_calls ?_)
    rw [hoardref10_Engine_Len_def, hoardref10_Engine_Len_raw]
    refine drawW_only [cR b s1 s2 s3 s4 x.p c] hs fun w hs => ?_
    refine nilck_some (ldS_b (x := s1) (nilck_some (ld_b (x := s2) hs ?_)))
    refine keep_imp hs ?_
    rw [i64_in _ (by omega)]
    exact ⟨by unfold aLen; rw [hl.1.1, hl.2.1.1]; rfl, by exact Sat.fin hs⟩
  refine drawW_only [cR b s1 s2 s3 s4 x.p c] hs fun w hs => ?_
  refine nilck_some (ldS_b (x := s3) (nilck_some (ldS_b (x := s4) ?_)))
  refine call1_of (hLen w hs) fun e w ⟨he, hs⟩ => ⟨_, he, ?_⟩
  refine keep_imp hs ?_
  have hall : IntKind.wrap .i64 ((IntKind.wrap .i64 ((aLen x : Int) + (s3.n : Int))) + (s4.n : Int)) = (x.t1.length : Int) + x.t2.length + x.b1.length + x.b2.length := by
    rw [i64_in ((aLen x : Int) + (s3.n : Int)) (by omega), i64_in _ (by omega)]; omega
  rw [hall]
  refine drawW_only [cR b s1 s2 s3 s4 x.p c] hs fun w hs => ?_
  refine nilck_some (ldS_b (x := s1) (nilck_some (ldS_b (x := s3) (nilck_some (ld_b hs ?_)))))
  refine keep_imp hs ?_
  rw [i64_in _ (by omega)]
  with_reducible refine ite_by (fun h1 => ?_) (fun h1 => ?_)
  · refine nilck_some (ldS_b (x := s1) (nilck_some (ld_b hs ?_)))
    refine keep_imp hs ?_
    have hs := rr_shut (x := x) s1 s2 s3 s4 hs rfl rfl rfl rfl rfl
    with_reducible refine j1 w _ _ rfl ?_ hs
    rw [Bool.eq_iff_iff, decide_eq_true_eq, decide_eq_true_eq]
    omega
  · refine keep_imp hs ?_
    have hs := rr_shut (x := x) s1 s2 s3 s4 hs rfl rfl rfl rfl rfl
    with_reducible refine j1 w _ _ rfl ?_ hs
    symm
    rw [decide_eq_false_iff_not]
    omega
end
end Go.Proofs.YtchlicgjdlkidaaDoor
namespace Go.Proofs.YtchlicgjdlkidaaDoor
open Go.Hb Go.IntWalk
section
variable {W w : World} {L M : List HP} {F : HP → List HP} {b : Nat} {c : Int} {x y : ArcS} {key : ByteArray} {xs : List ByteArray}
theorem r10_Access_in (hs : Sat W w (rrR b c x :: M)) (hx : ArcOk c x) : Calls Tryd.prog id_hoardref10_Engine_Access #[.pointer (some ⟨b, 0, none⟩), .string key] w fun e w' => ∃ l : Sl, e = .returned (.tuple #[.bool (aAcc c x key).1.1, .slice l.a l.n l.c]) ∧
    Sat W w' (recs Rec.str l (aAcc c x key).1.2 :: rrR b c (aAcc c x key).2 :: M) := by
  refine (hoardref10_Engine_Access_calls (Q := fun v w' => ∃ l : Sl, v = .tuple #[.bool (aAcc c x key).1.1, .slice l.a l.n l.c] ∧ Sat W w' (recs Rec.str l (aAcc c x key).1.2 :: rrR b c (aAcc c x key).2 :: M)) ?_).mono fun e w' ⟨v, he, l, hv, hs⟩ => ⟨l, by rw [he, hv], hs⟩
  rw [hoardref10_Engine_Access_def, hoardref10_Engine_Access_raw]
  have hll := hx.lens
  have hw := hx.w
  refine call1_of (r10_Has hs hx) fun e w ⟨he, hs⟩ => ⟨_, he, ?_⟩
  with_reducible refine ite_by (fun h1 => ?_) (fun h1 => ?_)
  · have e1 : aAcc c x key = ((true, []), aPush2 x key) := if_pos (mem_aRes.1 h1)
    rw [e1, push2_res hw h1]
    have g1 := gTake_len x.t1 key
    have g2 := gTake_len x.t2 key
    obtain ⟨s1, s2, s3, s4, hl, hs⟩ := rr_open hs
    have fin : ∀ (w : World) (k1 k2 : Sl), Sat W w (cR b k1 k2 s3 s4 x.p c :: recs Rec.str k1 (gTake x.t1 key) :: recs Rec.str k2 (gTake x.t2 key ++ [key]) :: recs Rec.str s3 x.b1 :: recs Rec.str s4 x.b2 :: M) →
        ∃ l : Sl, Value.tuple #[.bool true, .slice none 0 0] = Value.tuple #[.bool true, .slice l.a l.n l.c] ∧ Sat W w (recs Rec.str l [] :: rrR b c ⟨gTake x.t1 key, gTake x.t2 key ++ [key], x.b1, x.b2, x.p⟩ :: M) := by
      intro w k1 k2 hs
      have hs := rr_shut (x := ⟨gTake x.t1 key, gTake x.t2 key ++ [key], x.b1, x.b2, x.p⟩) k1 k2 s3 s4 hs rfl rfl rfl rfl rfl
      have hs := Sat.nilR Rec.str hs
      exact ⟨⟨none, 0, 0⟩, rfl, hs⟩
    refine drawW_only [cR b s1 s2 s3 s4 x.p c] hs fun w hs => ?_
    refine nilck_some (ldS_b (x := s1) (nilck_some (ldS_b (x := s2) ?_)))
    refine ⟨?_, ?_⟩
    · refine call1_of (r10_cut (s0 := s1) (xs := x.t1) hs (by omega)) fun e w ⟨k1, he, hs⟩ => ⟨_, he, keep_imp hs ?_⟩
      refine ⟨?_, ?_⟩
      · refine call1_of (r10_cut (s0 := s2) (xs := x.t2) hs (by omega)) fun e w ⟨k2, he, hs⟩ => ⟨_, he, ?_⟩
        refine newB_at hs fun nb w hs => keep_imp hs ?_
        refine app_one (s := k2) (a := key) hs rfl rfl rfl rfl (by decide) (by omega) fun k3 w hs5 hs => ?_
        refine nilck_some (st_b hs fun w hs => ?_)
        refine nilck_some (st_b hs fun w hs => ?_)
        exact fin w k1 k3 (by exact Sat.fin hs)
      · refine newB_at hs fun nb w hs => keep_imp hs ?_
        refine call1_of (r10_cut (s0 := s2) (xs := x.t2) hs (by omega)) fun e w ⟨k2, he, hs⟩ => ⟨_, he, ?_⟩
        refine app_one (s := k2) (a := key) hs rfl rfl rfl rfl (by decide) (by omega) fun k3 w hs5 hs => ?_
        refine nilck_some (st_b hs fun w hs => ?_)
        refine nilck_some (st_b hs fun w hs => ?_)
        exact fin w k1 k3 (by exact Sat.fin hs)
    · refine newB_at hs fun nb w hs => keep_imp hs ?_
      refine call1_of (r10_cut (s0 := s1) (xs := x.t1) hs (by omega)) fun e w ⟨k1, he, hs⟩ => ⟨_, he, keep_imp hs ?_⟩
      refine call1_of (r10_cut (s0 := s2) (xs := x.t2) hs (by omega)) fun e w ⟨k2, he, hs⟩ => ⟨_, he, ?_⟩
      refine app_one (s := k2) (a := key) hs rfl rfl rfl rfl (by decide) (by omega) fun k3 w hs5 hs => ?_
      refine nilck_some (st_b hs fun w hs => ?_)
      refine nilck_some (st_b hs fun w hs => ?_)
      exact fin w k1 k3 (by exact Sat.fin hs)
  · have h1' : ¬ (key ∈ x.t1 ∨ key ∈ x.t2) := fun h => h1 (mem_aRes.2 h)
    obtain ⟨s1, s2, s3, s4, hl, hs⟩ := rr_open hs
    refine nilck_some (ld_b (x := s3) hs ?_)
    refine call1_of (r10_has (s0 := s3) (xs := x.b1) hs (by omega)) fun e w ⟨i, he, hi, hs⟩ => ⟨_, he, ?_⟩
    rw [hi]
    with_reducible refine ite_by (fun h2 => ?_) (fun h2 => ?_)
    · have e1 : (aAcc c x key).1.1 = false := by unfold aAcc; rw [if_neg h1', if_pos h2]
      rw [e1]
      have hs := rr_shut (x := x) s1 s2 s3 s4 hs rfl rfl rfl rfl rfl
      exact call1_of (r10_known hs hx (.inl h2)) fun e w ⟨l, he, hs⟩ => ⟨l, he, l, rfl, hs⟩
    · refine nilck_some (ld_b (x := s4) hs ?_)
      refine call1_of (r10_has (s0 := s4) (xs := x.b2) hs (by omega)) fun e w ⟨i, he, hi, hs⟩ => ⟨_, he, ?_⟩
      rw [hi]
      have hs := rr_shut (x := x) s1 s2 s3 s4 hs rfl rfl rfl rfl rfl
      with_reducible refine ite_by (fun h3 => ?_) (fun h3 => ?_)
      · have e1 : (aAcc c x key).1.1 = false := by unfold aAcc; rw [if_neg h1', if_neg h2, if_pos h3]
        rw [e1]
        exact call1_of (r10_known hs hx (.inr h3)) fun e w ⟨l, he, hs⟩ => ⟨l, he, l, rfl, hs⟩
      · have e1 : aAcc c x key = ((false, (aComes c x).1), aPush1 (aComes c x).2 key) := by unfold aAcc; rw [if_neg h1', if_neg h2, if_neg h3]
        have hk : key ∉ x.t1 ++ (x.t2 ++ (x.b1 ++ x.b2)) := by
          simp only [List.mem_append, not_or]
          exact ⟨fun h => h1' (.inl h), fun h => h1' (.inr h), h2, h3⟩
        rw [e1]
        exact call1_of (r10_fresh hs hx hk) fun e w ⟨l, he, hs⟩ => ⟨l, he, l, rfl, hs⟩
theorem r10_Access (hs : Sat W w L) [hA : At L b (rrR b c x) F] (hx : ArcOk c x) : Calls Tryd.prog id_hoardref10_Engine_Access #[.pointer (some ⟨b, 0, none⟩), .string key] w fun e w' => ∃ l : Sl, e = .returned (.tuple #[.bool (aAcc c x key).1.1, .slice l.a l.n l.c]) ∧
    Sat W w' (recs Rec.str l (aAcc c x key).1.2 :: F (rrR b c (aAcc c x key).2)) := by
  refine At.oneX (hA := hA) hs fun M hs hb => ?_
  refine (r10_Access_in hs hx).mono fun e w' ⟨l, he, hs⟩ => ⟨l, he, ?_⟩
  have hs : Sat W w' (rrR b c (aAcc c x key).2 :: recs Rec.str l (aAcc c x key).1.2 :: M) := by exact Sat.fin hs
  exact hb _ _ [recs Rec.str l (aAcc c x key).1.2] hs
theorem r10_Remove (hs : Sat W w L) [hA : At L b (rrR b c x) F] (hx : ArcOk c x) : Calls Tryd.prog id_hoardref10_Engine_Remove #[.pointer (some ⟨b, 0, none⟩), .string key] w fun e w' => e = .returned (.bool (aRem x key).1) ∧ Sat W w' (F (rrR b c (aRem x key).2)) := by
  refine At.call1 (hA := hA) hs fun M hs => ?_
  clear hA
  refine c1 (hoardref10_Engine_Remove_calls ?_)
  rw [hoardref10_Engine_Remove_def, hoardref10_Engine_Remove_raw]
  have hll := hx.lens
  refine call1_of (r10_Has hs hx) fun e w ⟨he, hs⟩ => ⟨_, he, ?_⟩
  by_cases hk : key ∈ aRes x
  · rw [decide_eq_true hk]
    have e1 : aRem x key = (true, aCut x key) := if_pos (mem_aRes.1 hk)
    rw [e1, cut_res hx.w hk]
    refine ite_false rfl ?_
    obtain ⟨s1, s2, s3, s4, hl, hs⟩ := rr_open hs
    refine drawW_only [cR b s1 s2 s3 s4 x.p c] hs fun w hs => ?_
    refine nilck_some (ldS_b (x := s1) (nilck_some (ldS_b (x := s2) ?_)))
    refine call1_of (r10_cut (s0 := s1) (xs := x.t1) hs (by omega)) fun e w ⟨k1, he, hs⟩ => ⟨_, he, keep_imp hs ?_⟩
    refine call1_of (r10_cut (s0 := s2) (xs := x.t2) hs (by omega)) fun e w ⟨k2, he, hs⟩ => ⟨_, he, ?_⟩
    refine nilck_some (st_b hs fun w hs => ?_)
    refine nilck_some (st_b hs fun w hs => ?_)
    exact ⟨rfl, rr_shut (x := ⟨gTake x.t1 key, gTake x.t2 key, x.b1, x.b2, x.p⟩) k1 k2 s3 s4 (p := x.p) (l1 := gTake x.t1 key) (l2 := gTake x.t2 key) (l3 := x.b1) (l4 := x.b2) (by exact Sat.fin hs) rfl rfl rfl rfl rfl⟩
  · rw [decide_eq_false hk]
    have e1 : aRem x key = (false, x) := if_neg (fun h => hk (mem_aRes.2 h))
    rw [e1]
    exact ite_true rfl ⟨rfl, hs⟩
theorem r10_Evict (hs : Sat W w L) [hA : At L b (rrR b c x) F] (hx : ArcOk c x) : Calls Tryd.prog id_hoardref10_Engine_Evict #[.pointer (some ⟨b, 0, none⟩)] w fun e w' => e = .returned (.tuple #[.string (aEvict x).1.1, .bool (aEvict x).1.2]) ∧ Sat W w' (F (rrR b c (aEvict x).2)) := by
  refine At.call1 (hA := hA) hs fun M hs => ?_
  clear hA
  refine c1 (hoardref10_Engine_Evict_calls ?_)
  rw [hoardref10_Engine_Evict_def, hoardref10_Engine_Evict_raw]
  have hll := hx.lens
  refine call1_of (r10_Len hs hx) fun e w ⟨he, hs⟩ => ⟨_, he, ?_⟩
  with_reducible refine ite_by (fun h0 => ?_) (fun h0 => ?_)
  · have e1 : aEvict x = ((⟨#[]⟩, false), x) := if_pos (by unfold aLen at h0; omega)
    rw [e1]
    exact ⟨rfl, hs⟩
  · have h00 : ¬ (x.t1.length + x.t2.length = 0) := by unfold aLen at h0; omega
    obtain ⟨g, hg⟩ : ∃ g, g = (decide (0 < x.t1.length) && (decide (x.p < (x.t1.length : Int)) || decide (x.t2.length = 0))) := ⟨_, rfl⟩
    have e1 : aEvict x = (((aGoes x g).1, true), (aGoes x g).2) := by rw [hg]; exact if_neg h00
    rw [e1]
    have g1 : g = true → 0 < x.t1.length := fun h => by rw [hg, Bool.and_eq_true, decide_eq_true_eq] at h; exact h.1
    have g2 : g = false → 0 < x.t2.length := fun h => aEv_t2 (by rw [← hg]; exact h) (by omega)
    have fin : ∀ (w : World) (f : Bool), f = g → Sat W w (rrR b c x :: M) → call1 .str Tryd.prog id_hoardref10_Engine_goes [.pointer (some ⟨b, 0, none⟩), .bool f] (fun y w' => Value.tuple #[.string y, .bool true] = Value.tuple #[.string (aGoes x g).1, .bool true] ∧ Sat W w' (rrR b c (aGoes x g).2 :: M)) w := by
      intro w f hf hs
      subst hf
      exact call1_of (r10_goes hs hx g1 g2) fun e w ⟨he, hs⟩ => ⟨_, he, rfl, hs⟩
    clear e1
    obtain ⟨s1, s2, s3, s4, hl, hs⟩ := rr_open hs
    refine drawW_only [cR b s1 s2 s3 s4 x.p c] hs fun w hs => ?_
    refine nilck_some (ld_b (x := s1) hs ?_)
    refine keep_imp hs ?_
    with_reducible refine ite_by (fun h2 => ?_) (fun h2 => ?_)
    · refine nilck_some (ldS_b (x := s1) (nilck_some (ld_b hs ?_)))
      refine keep_imp hs ?_
      with_reducible refine ite_by (fun h3 => ?_) (fun h3 => ?_)
      · refine fin w true ?_ (rr_shut s1 s2 s3 s4 hs rfl rfl rfl rfl rfl)
        rw [hg]
        simp only [decide_eq_true (show 0 < x.t1.length by omega), decide_eq_true (show x.p < (x.t1.length : Int) by omega), Bool.true_or, Bool.and_true]
      · refine nilck_some (ld_b (x := s2) hs ?_)
        refine fin w _ ?_ (rr_shut s1 s2 s3 s4 hs rfl rfl rfl rfl rfl)
        rw [hg, decide_eq_true (show 0 < x.t1.length by omega), decide_eq_false (show ¬ x.p < (x.t1.length : Int) by omega), Bool.false_or, Bool.true_and, Bool.eq_iff_iff, beq_iff_eq, decide_eq_true_eq]
        omega
    · refine keep_imp hs ?_
      refine fin w false ?_ (rr_shut s1 s2 s3 s4 hs rfl rfl rfl rfl rfl)
      rw [hg, decide_eq_false (show ¬ 0 < x.t1.length by omega), Bool.false_and]
theorem r10_Keys (h : Sat W w L) [hA : At L b (rrR b c x) F] (hx : ArcOk c x) : Calls Tryd.prog id_hoardref10_Engine_Keys #[.pointer (some ⟨b, 0, none⟩)] w fun e w' => ∃ l : Sl, e = .returned (.slice l.a l.n l.c) ∧ Sat W w' (recs Rec.str l (aRes x) :: F (rrR b c x)) := by
  refine At.oneX (hA := hA) h fun M hs hb => ?_
  refine (hoardref10_Engine_Keys_calls (Q := fun v w' => ∃ l : Sl, v = .slice l.a l.n l.c ∧ Sat W w' (rrR b c x :: recs Rec.str l (aRes x) :: M)) ?_).mono fun e w' ⟨v, he, l, hv, hs⟩ => ⟨l, by rw [he, hv], hb _ _ [recs Rec.str l (aRes x)] hs⟩
  clear hb hA
  rw [hoardref10_Engine_Keys_def, hoardref10_Engine_Keys_raw]
  have hll := hx.lens
  obtain ⟨s1, s2, s3, s4, hl, hs⟩ := rr_open hs
  refine drawW_only [cR b s1 s2 s3 s4 x.p c] hs fun w hs => ?_
  refine nilck_some (ldS_b (x := s1) (nilck_some (ldS_b (x := s2) ?_)))
  refine newB_at hs fun nb w hs => keep_imp hs ?_
  refine app_own (b := nb) (cs := []) (rows := []) (new := x.t1) hs Rec.str rfl rfl (rd_rdb (s := s1) hs) hl.1.1 (okC_flat _) rfl (by decide) (by simp; omega) fun s5 w h5 hs => ?_
  have hs : Sat W w (recs Rec.str s5 x.t1 :: cR b s1 s2 s3 s4 x.p c :: recs Rec.str s1 x.t1 :: recs Rec.str s2 x.t2 :: recs Rec.str s3 x.b1 :: recs Rec.str s4 x.b2 :: M) := hs
  refine keep_imp hs ?_
  refine app_by (s := s5) (new := x.t2) hs (rd_rdb (s := s2) hs) hl.2.1.1 (okC_flat _) rfl (by decide) (by omega) fun s6 w hs6 hs => ?_
  have hs : Sat W w (cR b s1 s2 s3 s4 x.p c :: recs Rec.str s1 x.t1 :: recs Rec.str s2 x.t2 :: recs Rec.str s3 x.b1 :: recs Rec.str s4 x.b2 :: recs Rec.str s6 (aRes x) :: M) := by
    have hs : Sat W w (recs Rec.str s6 (aRes x) :: cR b s1 s2 s3 s4 x.p c :: recs Rec.str s1 x.t1 :: recs Rec.str s2 x.t2 :: recs Rec.str s3 x.b1 :: recs Rec.str s4 x.b2 :: M) := hs
    exact Sat.fin hs
  exact ⟨s6, rfl, rr_shut s1 s2 s3 s4 hs rfl rfl rfl rfl rfl⟩
theorem r10_Ghosts (h : Sat W w L) [hA : At L b (rrR b c x) F] (hx : ArcOk c x) : Calls Tryd.prog id_hoardref10_Engine_Ghosts #[.pointer (some ⟨b, 0, none⟩)] w fun e w' => ∃ l : Sl, e = .returned (.slice l.a l.n l.c) ∧ Sat W w' (recs Rec.str l (aGhs x) :: F (rrR b c x)) := by
  refine At.oneX (hA := hA) h fun M hs hb => ?_
  refine (hoardref10_Engine_Ghosts_calls (Q := fun v w' => ∃ l : Sl, v = .slice l.a l.n l.c ∧ Sat W w' (rrR b c x :: recs Rec.str l (aGhs x) :: M)) ?_).mono fun e w' ⟨v, he, l, hv, hs⟩ => ⟨l, by rw [he, hv], hb _ _ [recs Rec.str l (aGhs x)] hs⟩
  clear hb hA
  rw [hoardref10_Engine_Ghosts_def, hoardref10_Engine_Ghosts_raw]
  have hll := hx.lens
  obtain ⟨s1, s2, s3, s4, hl, hs⟩ := rr_open hs
  refine drawW_only [cR b s1 s2 s3 s4 x.p c] hs fun w hs => ?_
  refine nilck_some (ldS_b (x := s3) (nilck_some (ldS_b (x := s4) ?_)))
  refine newB_at hs fun nb w hs => keep_imp hs ?_
  refine app_own (b := nb) (cs := []) (rows := []) (new := x.b1) hs Rec.str rfl rfl (rd_rdb (s := s3) hs) hl.2.2.1.1 (okC_flat _) rfl (by decide) (by simp; omega) fun s5 w h5 hs => ?_
  have hs : Sat W w (recs Rec.str s5 x.b1 :: cR b s1 s2 s3 s4 x.p c :: recs Rec.str s1 x.t1 :: recs Rec.str s2 x.t2 :: recs Rec.str s3 x.b1 :: recs Rec.str s4 x.b2 :: M) := hs
  refine keep_imp hs ?_
  refine app_by (s := s5) (new := x.b2) hs (rd_rdb (s := s4) hs) hl.2.2.2.1 (okC_flat _) rfl (by decide) (by omega) fun s6 w hs6 hs => ?_
  have hs : Sat W w (cR b s1 s2 s3 s4 x.p c :: recs Rec.str s1 x.t1 :: recs Rec.str s2 x.t2 :: recs Rec.str s3 x.b1 :: recs Rec.str s4 x.b2 :: recs Rec.str s6 (aGhs x) :: M) := by
    have hs : Sat W w (recs Rec.str s6 (aGhs x) :: cR b s1 s2 s3 s4 x.p c :: recs Rec.str s1 x.t1 :: recs Rec.str s2 x.t2 :: recs Rec.str s3 x.b1 :: recs Rec.str s4 x.b2 :: M) := hs
    exact Sat.fin hs
  exact ⟨s6, rfl, rr_shut s1 s2 s3 s4 hs rfl rfl rfl rfl rfl⟩
theorem r10_Load_in (hs : Sat W w (rrR b c x :: M)) (hx : ArcOk c x) : Calls Tryd.prog id_hoardref10_Engine_Load #[.pointer (some ⟨b, 0, none⟩), .string key] w fun e w' => e = .returned (.bool (aLoad c x key).1) ∧
    Sat W w' (rrR b c (aLoad c x key).2 :: M) := by
  refine c1 (hoardref10_Engine_Load_calls ?_)
  rw [hoardref10_Engine_Load_def, hoardref10_Engine_Load_raw]
  have hll := hx.lens
  have hc1 := hx.c1
  have hc2 := hx.c2
  have hlen := hx.len
  have hal : (aLen x : Int) = x.t1.length + x.t2.length := by unfold aLen; omega
  refine drawW_only [rrR b c x] hs fun w hs => ?_
  refine call1_of (r10_Has hs hx) fun e w ⟨he, hs⟩ => ⟨_, he, ?_⟩
  refine keep_imp hs ?_
  with_reducible refine ite_by (fun hk => ?_) (fun hk => ?_)
  · have e1 : aLoad c x key = (false, x) := if_pos ((mem_aRes.1 hk).elim .inl fun h => .inr (.inl h))
    rw [e1]
    refine keep_imp hs ?_
    exact ⟨rfl, hs⟩
  refine nilck_some ?_
  refine ldS_by (k := .int .i64) c (fun w' h => rr_cap h) ?_
  refine call1_of (r10_Len hs hx) fun e w ⟨he, hs⟩ => ⟨_, he, ?_⟩
  refine keep_imp hs ?_
  with_reducible refine ite_by (fun h2 => ?_) (fun h2 => ?_)
  · have e1 : aLoad c x key = (false, x) := if_pos (.inr (.inr (by omega)))
    rw [e1]
    exact ⟨rfl, hs⟩
  have e1 : aLoad c x key = (true, aLoad.aTrim2 c (aLoad.aTrim1 c (aPush1 x key))) := if_neg fun h => h.elim (fun h => hk (mem_aRes.2 (.inl h))) fun h => h.elim (fun h => hk (mem_aRes.2 (.inr h))) fun h => h2 (by omega)
  rw [e1, push1_res hk, hoardref10_Engine_Load_j1_def, hoardref10_Engine_Load_j1_raw]
  obtain ⟨s1, s2, s3, s4, hl, hs⟩ := rr_open hs
  have g1 := gTake_len x.b1 key
  have g2 := gTake_len x.b2 key
  refine drawW_only [cR b s1 s2 s3 s4 x.p c] hs fun w hs => ?_
  refine nilck_some (ldS_b (x := s3) (nilck_some (ldS_b (x := s4) ?_)))
  refine call1_of (r10_cut (s0 := s3) (xs := x.b1) hs (by omega)) fun e w ⟨k3, he, hs⟩ => ⟨_, he, keep_imp hs ?_⟩
  refine call1_of (r10_cut (s0 := s4) (xs := x.b2) hs (by omega)) fun e w ⟨k4, he, hs⟩ => ⟨_, he, ?_⟩
  refine nilck_some (st_b hs fun w hs => ?_)
  refine nilck_some (st_b hs fun w hs => ?_)
  refine newB_at hs fun nb w hs => ?_
  refine nilck_some (ld_b (x := s1) hs ?_)
  refine app_own (b := nb) (cs := []) (rows := []) (new := x.t1) hs Rec.str rfl rfl (rd_rdb (s := s1) hs) hl.1.1 (okC_flat _) rfl (by decide) (by simp; omega) fun s5 w h5 hs => ?_
  have hs : Sat W w (recs Rec.str s5 x.t1 :: cR b s1 s2 k3 k4 x.p c :: recs Rec.str s2 x.t2 :: recs Rec.str k3 (gTake x.b1 key) :: recs Rec.str k4 (gTake x.b2 key) :: M) := by
    have hs : Sat W w (recs Rec.str s5 x.t1 :: _) := hs
    exact Sat.fin hs
  refine newB_at hs fun nb2 w hs => ?_
  refine app_one (s := s5) (a := key) hs rfl rfl rfl rfl (by decide) (by omega) fun s6 w hs6 hs => ?_
  refine nilck_some (st_b hs fun w hs => ?_)
  have hs : Sat W w (cR b s6 s2 k3 k4 x.p c :: recs Rec.str s6 (x.t1 ++ [key]) :: recs Rec.str s2 x.t2 :: recs Rec.str k3 (gTake x.b1 key) :: recs Rec.str k4 (gTake x.b2 key) :: M) := by exact Sat.fin hs
  have hs := rr_shut (x := ⟨x.t1 ++ [key], x.t2, gTake x.b1 key, gTake x.b2 key, x.p⟩) s6 s2 k3 k4 hs rfl rfl rfl rfl rfl
  have hlt : (((x.t1 ++ [key]).length : Nat) : Int) + x.t2.length ≤ c := by simp only [List.length_append, List.length_cons, List.length_nil]; omega
  have hbd : (gTake x.b1 key).length ≤ 2048 ∧ (gTake x.b2 key).length ≤ 2048 := ⟨by omega, by omega⟩
  have loop2 : ∀ (f : Nat) (w : World) (y : ArcS), ((y.t1.length : Int) + y.t2.length + y.b1.length + y.b2.length - 2 * c).toNat = f → ((y.t1.length : Int) + y.t2.length ≤ c) → ((y.t1.length : Int) + y.b1.length ≤ c) → (y.b1.length ≤ 2048 ∧ y.b2.length ≤ 2048) → Sat W w (rrR b c y :: M) →
      hoardref10_Engine_Load_l4 idJ (fun v w' => v = .bool true ∧ Sat W w' (rrR b c (aLoad.aTrim2 c y) :: M)) (f + 1) (some ⟨b, 0, none⟩) w := by
    clear hs
    intro f
    have hLen : ∀ w (y : ArcS) (s1 s2 s3 s4 : Sl), s1.n = y.t1.length → s2.n = y.t2.length → ((y.t1.length : Int) + y.t2.length ≤ c) → Sat W w (cR b s1 s2 s3 s4 y.p c :: recs Rec.str s1 y.t1 :: recs Rec.str s2 y.t2 :: recs Rec.str s3 y.b1 :: recs Rec.str s4 y.b2 :: M) → Calls Tryd.prog id_hoardref10_Engine_Len #[.pointer (some ⟨b, 0, none⟩)] w fun e w' => e = .returned (.int .i64 ((y.t1.length : Int) + y.t2.length)) ∧ Sat W w' (cR b s1 s2 s3 s4 y.p c :: recs Rec.str s1 y.t1 :: recs Rec.str s2 y.t2 :: recs Rec.str s3 y.b1 :: recs Rec.str s4 y.b2 :: M) := by
      intro w y s1 s2 s3 s4 h1 h2 h3 hs
      refine c1 (hoardref10_Engine_Len_calls ?_)
      rw [hoardref10_Engine_Len_def, hoardref10_Engine_Len_raw]
      refine drawW_only [cR b s1 s2 s3 s4 y.p c] hs fun w hs => ?_
      refine nilck_some (ldS_b (x := s1) (nilck_some (ld_b (x := s2) hs ?_)))
      refine keep_imp hs ?_
      rw [i64_in _ (by omega), h1, h2]
      exact ⟨rfl, by exact Sat.fin hs⟩
    induction f with
    | zero =>
      intro w y hf hl hl1 hb hs
      rw [hoardref10_Engine_Load_l4_raw]
      obtain ⟨s1, s2, s3, s4, hsl, hs⟩ := rr_open hs
      refine drawW_only [cR b s1 s2 s3 s4 y.p c] hs fun w hs => ?_
      refine nilck_some (ldS_b (x := s3) (nilck_some (ldS_b (x := s4) (nilck_some (ldS_b ?_)))))
      refine call1_of (hLen w y s1 s2 s3 s4 hsl.1.1 hsl.2.1.1 hl hs) fun e w ⟨he, hs⟩ => ⟨_, he, ?_⟩
      refine keep_imp hs ?_
      rw [i64_in (_ + (s3.n : Int)) (by omega), i64_in _ (by omega), i64_in (2 * c) (by omega)]
      refine ite_false (decide_eq_false (by omega)) ?_
      rw [hoardref10_Engine_Load_j5_def, hoardref10_Engine_Load_j5_raw, trim2_le (by omega)]
      exact ⟨rfl, rr_shut s1 s2 s3 s4 hs rfl rfl rfl rfl rfl⟩
    | succ f ih =>
      intro w y hf hl hl1 hb hs
      rw [hoardref10_Engine_Load_l4_raw]
      have h0 : 0 < y.b2.length := by omega
      obtain ⟨s1, s2, s3, s4, hsl, hs⟩ := rr_open hs
      refine drawW_only [cR b s1 s2 s3 s4 y.p c] hs fun w hs => ?_
      refine nilck_some (ldS_b (x := s3) (nilck_some (ldS_b (x := s4) (nilck_some (ldS_b ?_)))))
      refine call1_of (hLen w y s1 s2 s3 s4 hsl.1.1 hsl.2.1.1 hl hs) fun e w ⟨he, hs⟩ => ⟨_, he, ?_⟩
      refine keep_imp hs ?_
      rw [i64_in (_ + (s3.n : Int)) (by omega), i64_in _ (by omega), i64_in (2 * c) (by omega)]
      refine ite_true (decide_eq_true (by omega)) ?_
      refine nilck_some (ld_b (x := s4) hs ?_)
      refine when_of (by omega) ?_
      refine nilck_some (st_b hs fun w hs => ?_)
      have hs := cut1 (s := s4) hs h0
      have hs := rr_shut (x := { y with b2 := y.b2.drop 1 }) s1 s2 s3 ⟨subA s4.a (((1 : Int)).toNat) s4.c 1, s4.n - ((1 : Int)).toNat, s4.c - ((1 : Int)).toNat⟩ hs rfl rfl rfl rfl rfl
      rw [← trim2_step (c := c) (y := y) (by omega) h0]
      exact ih w _ (by simp only [List.length_drop]; omega) hl hl1 (by simp only [List.length_drop]; omega) hs
  have loop1 : ∀ (f : Nat) (w : World) (y : ArcS), ((y.t1.length : Int) + y.b1.length - c).toNat = f → ((y.t1.length : Int) + y.t2.length ≤ c) → (y.b1.length ≤ 2048 ∧ y.b2.length ≤ 2048) → Sat W w (rrR b c y :: M) →
      hoardref10_Engine_Load_l2 idJ (fun v w' => v = .bool true ∧ Sat W w' (rrR b c (aLoad.aTrim2 c (aLoad.aTrim1 c y)) :: M)) (f + 1) (some ⟨b, 0, none⟩) w := by
    clear hs
    intro f
    induction f with
    | zero =>
      intro w y hf hl hb hs
      rw [hoardref10_Engine_Load_l2_raw]
      obtain ⟨s1, s2, s3, s4, hsl, hs⟩ := rr_open hs
      refine drawW_only [cR b s1 s2 s3 s4 y.p c] hs fun w hs => ?_
      refine nilck_some (ldS_b (x := s1) (nilck_some (ldS_b (x := s3) (nilck_some (ld_b hs ?_)))))
      refine keep_imp hs ?_
      rw [i64_in _ (by omega)]
      refine ite_false (decide_eq_false (by omega)) ?_
      rw [hoardref10_Engine_Load_j3_def, hoardref10_Engine_Load_j3_raw, trim1_le (by omega)]
      exact exM_of _ (loop2 _ w y rfl hl (by omega) hb (rr_shut s1 s2 s3 s4 hs rfl rfl rfl rfl rfl))
    | succ f ih =>
      intro w y hf hl hb hs
      rw [hoardref10_Engine_Load_l2_raw]
      have h0 : 0 < y.b1.length := by omega
      obtain ⟨s1, s2, s3, s4, hsl, hs⟩ := rr_open hs
      refine drawW_only [cR b s1 s2 s3 s4 y.p c] hs fun w hs => ?_
      refine nilck_some (ldS_b (x := s1) (nilck_some (ldS_b (x := s3) (nilck_some (ld_b hs ?_)))))
      refine keep_imp hs ?_
      rw [i64_in _ (by omega)]
      refine ite_true (decide_eq_true (by omega)) ?_
      refine nilck_some (ld_b (x := s3) hs ?_)
      refine when_of (by omega) ?_
      refine nilck_some (st_b hs fun w hs => ?_)
      have hs := cut1 (s := s3) hs h0
      have hs := rr_shut (x := { y with b1 := y.b1.drop 1 }) s1 s2 ⟨subA s3.a (((1 : Int)).toNat) s3.c 1, s3.n - ((1 : Int)).toNat, s3.c - ((1 : Int)).toNat⟩ s4 hs rfl rfl rfl rfl rfl
      rw [← trim1_step (c := c) (y := y) (by omega) h0]
      exact ih w _ (by simp only [List.length_drop]; omega) hl (by simp only [List.length_drop]; omega) hs
  exact exM_of _ (loop1 _ w _ rfl hlt hbd hs)
theorem r10_Load (hs : Sat W w L) [hA : At L b (rrR b c x) F] (hx : ArcOk c x) : Calls Tryd.prog id_hoardref10_Engine_Load #[.pointer (some ⟨b, 0, none⟩), .string key] w fun e w' => e = .returned (.bool (aLoad c x key).1) ∧ Sat W w' (F (rrR b c (aLoad c x key).2)) := by
  refine At.call1 (hA := hA) hs fun M hs => ?_
  exact r10_Load_in hs hx
end
end Go.Proofs.YtchlicgjdlkidaaDoor
namespace Go.Hb
theorem rowT_snoc {nm : ByteArray} {ks : List ByteArray} {j : Nat} (hj : j < ks.length) : rowT nm (ks.take (j + 1)) = (rowT nm (ks.take j) ++ tSp) ++ ks.getD j default := by
  unfold rowT
  rw [take_snoc hj, List.foldl_append, ByteArray.append_assoc]; rfl
theorem baL_append (a b : List UInt8) : baL (a ++ b) = baL a ++ baL b := ba_ext (by rw [baL_toL, ba_toL, baL_toL, baL_toL])
def dig1 (n : Nat) : ByteArray := baL [UInt8.ofNat (48 + n)]
theorem digT_small {n : Nat} (h : n < 10) : digT n = dig1 n := by unfold digT dig1; rw [Lib.decDigits, dif_pos h]
theorem digT_big {n : Nat} (h : ¬ n < 10) : digT n = digT (n / 10) ++ dig1 (n % 10) := by
  unfold digT dig1
  rw [← baL_append, Lib.decDigits, dif_neg h]
theorem dig1_cells {n : Nat} (h : n < 10) : ([.int .u8 (IntKind.wrap .u8 (IntKind.wrap .i64 ((48 : Int) + (n : Int))))] : List Value) = bytesL (dig1 n) := by
  match n, h with
  | 0, _ => rfl
  | 1, _ => rfl
  | 2, _ => rfl
  | 3, _ => rfl
  | 4, _ => rfl
  | 5, _ => rfl
  | 6, _ => rfl
  | 7, _ => rfl
  | 8, _ => rfl
  | 9, _ => rfl
theorem dig1_size (n : Nat) : (dig1 n).size = 1 := by unfold dig1; rw [baL_size]; rfl
end Go.Hb
namespace Go.Proofs.YtchlicgjdlkidaaDoor
open Go.Hb Go.IntWalk
section
variable {W w : World} {L M : List HP} {F : HP → List HP} {b : Nat} {c : Int} {x y : ArcS} {nm : ByteArray} {ks : List ByteArray}
set_option maxRecDepth 100000 in
theorem r10_text {s0 : Sl} [hr : Rdb W L s0 Rec.str ks] (hs : Sat W w L) (hz : ∀ k ∈ ks, k.size < 64) (hl : ks.length ≤ 100000) (hn : nm.size ≤ 2) : Calls Tryd.prog id_hoardref10_text #[.string nm, .slice s0.a s0.n s0.c] w fun e w' => e = .returned (.string (rowT nm ks)) ∧ Sat W w' L := by
  refine c1 (hoardref10_text_calls ?_)
  rw [hoardref10_text_def, hoardref10_text_raw]
  have hn0 := rdb_len (s := s0) hs
  have e1 : str__x = tCo := rfl
  have e2 : str__xx = tSp := rfl
  have z1 : tCo.size = 1 := rfl
  have z2 : tSp.size = 1 := rfl
  rw [e1]
  refine when_of (by omega) ?_
  have loop : ∀ (m i : Nat) (w : World), i + m = ks.length → Sat W w L → hoardref10_text_l1 idJ (fun v w' => v = .string (rowT nm ks) ∧ Sat W w' L) (m + 1) s0 (rowT nm (ks.take i)) (i : Int) w := by
    intro m
    induction m with
    | zero =>
      intro i w hi hs
      rw [hoardref10_text_l1_raw]
      refine ite_false (decide_eq_false (by omega)) ?_
      rw [hoardref10_text_j2_def, hoardref10_text_j2_raw]
      rw [List.take_of_length_le (by omega)]
      exact ⟨rfl, hs⟩
    | succ m ih =>
      intro i w hi hs
      rw [hoardref10_text_l1_raw, e2]
      refine ite_true (decide_eq_true (by omega)) ?_
      have hk := hz _ (getD_mem (d := default) (show i < ks.length by omega))
      have hsz := rowT_size (nm := nm) (ks := ks.take i) fun k hk => hz k (List.mem_of_mem_take hk)
      have htl : (ks.take i).length ≤ 100000 := by rw [List.length_take]; omega
      have hsn := rowT_snoc (nm := nm) (ks := ks) (j := i) (by omega)
      refine when_of (by omega) ?_
      repeat (first | with_reducible refine nilck_some ?_ | ((with_reducible refine atLd ?_); first | refine ld_b hs ?_ | refine ld_b (x := ⟨_, _, _⟩) hs ?_ | refine ld_r0 hs ?_ | refine ld_r1 hs ?_ | refine ld_rd0 ha_ hs ?_ | refine ld_rd1 ha_ hs ?_) | ((with_reducible refine isSt ?_); first | refine st_b hs fun w hs => ?_ | refine st_r0 hs fun w hs => ?_ | refine st_r1 hs fun w hs => ?_) | ((with_reducible refine isIdx ?_); first | refine idx_s hs fun b_ o_ hs => ?_ | refine idx_rd hs fun b_ o_ ha_ => ?_) | with_reducible refine newB_at hs fun b_ w hs => ?_ | ((with_reducible refine isLdS ?_); first | refine ldS_b ?_ | refine ldS_b (x := ⟨_, _, _⟩) ?_ | refine ldS_rs0 hs ?_ | refine ldS_rd0 ha_ ?_) | ((with_reducible refine isKeep ?_); first | refine keep_of hs ?_ | refine keep_imp hs ?_) | with_reducible refine when_om ?_ | with_reducible refine drawW_sat hs fun w hs => ?_)
      rw [Int.toNat_natCast]
      refine when_of (by rw [ba_size_append]; omega) ?_
      rw [← hsn, show IntKind.wrap .i64 ((i : Int) + 1) = ((i + 1 : Nat) : Int) by rw [i64_in _ (by omega)]; omega]
      exact ih (i + 1) w (by omega) hs
  refine exM_of (ks.length + 1) ?_
  exact loop ks.length 0 w (by omega) hs
theorem b2s_at {nb : Nat} {n : Nat} {K : ByteArray → WP} (hs : Sat W w L) [hA : At L nb (blk nb [.int .u8 (IntKind.wrap .u8 (IntKind.wrap .i64 ((48 : Int) + (n : Int))))]) F] (h : n < 10) (hK : K (dig1 n) w) : b2s (some ⟨nb, 0, none⟩) 1 K w := by
  refine At.one (hA := hA) hs fun M hs _ => ?_
  refine ⟨dig1 n, ?_, hK⟩
  rw [← dig1_cells h]
  exact rd_blk 0 hs rfl rfl
set_option maxRecDepth 100000 in
theorem r10_digits : ∀ (f n : Nat) {w : World} {L : List HP}, n < f → n ≤ 1024 → Sat W w L → Calls Tryd.prog id_hoardref10_digits #[.int .i64 (n : Int)] w fun e w' => e = .returned (.string (digT n)) ∧ Sat W w' L := by
  intro f
  induction f with
  | zero => intro n w L hn; omega
  | succ f ih =>
    intro n w L hn hb hs
    refine c1 (hoardref10_digits_calls ?_)
    rw [hoardref10_digits_def, hoardref10_digits_raw]
    with_reducible refine ite_by (fun h1 => ?_) (fun h1 => ?_)
    · have h1 : n < 10 := by omega
      rw [digT_small h1]
      refine newB_at hs fun nb w hs => ?_
      refine b2s_at hs h1 ?_
      exact ⟨rfl, by exact Sat.fin hs⟩
    · have h1 : ¬ n < 10 := by omega
      have hm : n % 10 < 10 := Nat.mod_lt n (by decide)
      have e1 : Int.tmod (n : Int) (10 : Int) = ((n % 10 : Nat) : Int) := by rw [Int.tmod_eq_emod_of_nonneg (by omega)]; rfl
      have e2 : IntKind.wrap .i64 (Int.tdiv (n : Int) (10 : Int)) = ((n / 10 : Nat) : Int) := by
        have : Int.tdiv (n : Int) (10 : Int) = ((n / 10 : Nat) : Int) := tdiv_nat n 10
        rw [this, i64_in _ (by omega)]
      rw [e1, e2, digT_big h1]
      have hz := digT_size (n / 10) (by omega)
      have hz1 := dig1_size (n % 10)
      refine drawW_only [] hs fun w hs => ?_
      refine when_of (by decide) (when_of (by decide) ⟨?_, ?_⟩)
      · refine call1_of (ih (n / 10) (by omega) (by omega) hs) fun e w ⟨he, hs⟩ => ⟨_, he, ?_⟩
        refine newB_at hs fun nb w hs => ?_
        refine b2s_at hs hm ?_
        refine when_of (by omega) ?_
        exact ⟨rfl, by exact Sat.fin hs⟩
      · refine newB_at hs fun nb w hs => ⟨?_, ?_⟩
        · refine call1_of (ih (n / 10) (by omega) (by omega) hs) fun e w ⟨he, hs⟩ => ⟨_, he, ?_⟩
          refine b2s_at hs hm ?_
          refine when_of (by omega) ?_
          exact ⟨rfl, by exact Sat.fin hs⟩
        · refine b2s_at hs hm ?_
          have hs : Sat W w L := by exact Sat.fin hs
          refine call1_of (ih (n / 10) (by omega) (by omega) hs) fun e w ⟨he, hs⟩ => ⟨_, he, ?_⟩
          refine when_of (by omega) ?_
          exact ⟨rfl, by exact Sat.fin hs⟩
theorem r10_State (h : Sat W w L) [hA : At L b (rrR b c x) F] (hx : ArcOk c x) : Calls Tryd.prog id_hoardref10_Engine_State #[.pointer (some ⟨b, 0, none⟩)] w fun e w' => e = .returned (.string (aTxt x)) ∧ Sat W w' (F (rrR b c x)) := by
  refine At.call1 (hA := hA) h fun M hs => ?_
  clear h hA
  refine c1 (hoardref10_Engine_State_calls ?_)
  rw [hoardref10_Engine_State_def, hoardref10_Engine_State_raw]
  have hll := hx.lens
  have hw := hx.w
  have hp0 := hx.p0
  have hp1 := hx.p1
  have hc2 := hx.c2
  have q1 : ∀ k ∈ x.t1, k.size < 64 := fun k hk => hw.small k (List.mem_append_left _ hk)
  have q2 : ∀ k ∈ x.t2, k.size < 64 := fun k hk => hw.small k (List.mem_append_right _ (List.mem_append_left _ hk))
  have q3 : ∀ k ∈ x.b1, k.size < 64 := fun k hk => hw.small k (List.mem_append_right _ (List.mem_append_right _ (List.mem_append_left _ hk)))
  have q4 : ∀ k ∈ x.b2, k.size < 64 := fun k hk => hw.small k (List.mem_append_right _ (List.mem_append_right _ (List.mem_append_right _ hk)))
  have y1 : sT1.size = 2 := rfl
  have y2 : sT2.size = 2 := rfl
  have y3 : sB1.size = 2 := rfl
  have y4 : sB2.size = 2 := rfl
  have y5 : str__.size = 1 := rfl
  have y6 : str__p__.size = 4 := rfl
  have z1 := rowT_size (nm := sT1) q1
  have z2 := rowT_size (nm := sT2) q2
  have z3 := rowT_size (nm := sB1) q3
  have z4 := rowT_size (nm := sB2) q4
  have z5 := digT_size x.p.toNat (by omega)
  have hpn : x.p = (x.p.toNat : Int) := by omega
  obtain ⟨s1, s2, s3, s4, hl, hs⟩ := rr_open hs
  refine drawW_only [cR b s1 s2 s3 s4 x.p c] hs fun w hs => ?_
  refine nilck_some (ldS_b (x := s1) (nilck_some (ldS_b (x := s2) (nilck_some (ldS_b (x := s3) (nilck_some (ldS_b (x := s4) (nilck_some (ldS_b ?_)))))))))
  refine call1_of (r10_text (nm := sT1) (s0 := s1) (ks := x.t1) hs q1 (by omega) (by omega)) fun e w ⟨he, hs⟩ => ⟨_, he, keep_imp hs ?_⟩
  refine when_of (by omega) ?_
  refine call1_of (r10_text (nm := sT2) (s0 := s2) (ks := x.t2) hs q2 (by omega) (by omega)) fun e w ⟨he, hs⟩ => ⟨_, he, keep_imp hs ?_⟩
  refine when_of (by simp only [ba_size_append]; omega) (when_of (by simp only [ba_size_append]; omega) ?_)
  refine call1_of (r10_text (nm := sB1) (s0 := s3) (ks := x.b1) hs q3 (by omega) (by omega)) fun e w ⟨he, hs⟩ => ⟨_, he, keep_imp hs ?_⟩
  refine when_of (by simp only [ba_size_append]; omega) (when_of (by simp only [ba_size_append]; omega) ?_)
  refine call1_of (r10_text (nm := sB2) (s0 := s4) (ks := x.b2) hs q4 (by omega) (by omega)) fun e w ⟨he, hs⟩ => ⟨_, he, keep_imp hs ?_⟩
  refine when_of (by simp only [ba_size_append]; omega) (when_of (by simp only [ba_size_append]; omega) ?_)
  rw [hpn]
  refine call1_of (r10_digits (x.p.toNat + 1) x.p.toNat (by omega) (by omega) hs) fun e w ⟨he, hs⟩ => ⟨_, he, ?_⟩
  refine when_of (by simp only [ba_size_append]; omega) ?_
  exact ⟨rfl, rr_shut s1 s2 s3 s4 hs rfl rfl rfl rfl (by omega)⟩
end
end Go.Proofs.YtchlicgjdlkidaaDoor
