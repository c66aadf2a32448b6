/- arc's rows: the walk. -/
import Derived.Test.YtchlicgjdlkidaaDoorArcPure
import Derived.Test.YtchlicgjdlkidaaDoorIndexPlace
import Derived.Test.YtchlicgjdlkidaaDoorList2S
import Derived.Test.YtchlicgjdlkidaaDoorTexts
set_option linter.unusedVariables false
set_option linter.unusedSimpArgs false
set_option linter.unnecessarySimpa false
set_option linter.unusedSectionVars false
namespace Go.Hb
theorem exM_of {L : Nat → WP} {w : World} (m : Nat) (h : L m w) : exM L w := ⟨m, h⟩
def rSum (K : List (List ByteArray)) (js : List Nat) : Nat := (js.map fun j => (K.getD j []).length).sum
def rKeys (K : List (List ByteArray)) (js : List Nat) : List ByteArray := (js.map fun j => K.getD j []).flatten
theorem rSum_snoc {K : List (List ByteArray)} {js : List Nat} {j : Nat} (h : j < js.length) : rSum K (js.take (j + 1)) = rSum K (js.take j) + (K.getD (js.getD j default) []).length := by
  unfold rSum; rw [take_snoc h]; simp
theorem rKeys_snoc {K : List (List ByteArray)} {js : List Nat} {j : Nat} (h : j < js.length) : rKeys K (js.take (j + 1)) = rKeys K (js.take j) ++ K.getD (js.getD j default) [] := by
  unfold rKeys; rw [take_snoc h]; simp
theorem rKeys_len (K : List (List ByteArray)) (js : List Nat) : (rKeys K js).length = rSum K js := by
  unfold rKeys rSum; induction js with
  | nil => rfl
  | cons a l ih => rw [List.map_cons, List.flatten_cons, List.length_append, ih, List.map_cons, List.sum_cons]
end Go.Hb
namespace Go.Proofs.YtchlicgjdlkidaaDoor
open Go.Hb Go.IntWalk
section
variable {W w : World} {L M : List HP} {F : HP → List HP} {xb N : Nat} {s : Sl} {K : List (List ByteArray)} {key : ByteArray}
theorem rows_where (h : Sat W w L) [hA : At L xb (rowsC s xb N K) F] (hz : key.size < 64) : Calls Tryd.prog id_arc_rows_where #[.agg #[.slice s.a s.n s.c, .pointer (some ⟨xb, 0, none⟩)], .string key] w fun e w' => e = .returned (.int .i64 (rWhere K key)) ∧ Sat W w' (F (rowsC s xb N K)) := by
  refine At.call1 (hA := hA) h fun M hs => ?_
  clear h hA
  refine c1 (arc_rows_where_calls ?_)
  rw [arc_rows_where_def, arc_rows_where_raw]
  obtain ⟨xs, m, hi, hN, hn, hs⟩ := rows_op hs
  repeat (first | with_reducible refine nilck_some ?_ | ((with_reducible refine atLd ?_); first | refine ld_b hs ?_ | refine ld_b (x := ⟨_, _, _⟩) hs ?_ | refine ld_r0 hs ?_ | refine ld_r1 hs ?_ | refine ld_rd0 ha_ hs ?_ | refine ld_rd1 ha_ hs ?_) | ((with_reducible refine isSt ?_); first | refine st_b hs fun w hs => ?_ | refine st_r0 hs fun w hs => ?_ | refine st_r1 hs fun w hs => ?_) | ((with_reducible refine isIdx ?_); first | refine idx_s hs fun b_ o_ hs => ?_ | refine idx_rd hs fun b_ o_ ha_ => ?_) | with_reducible refine newB_at hs fun b_ w hs => ?_ | ((with_reducible refine isLdS ?_); first | refine ldS_b ?_ | refine ldS_b (x := ⟨_, _, _⟩) ?_ | refine ldS_rs0 hs ?_ | refine ldS_rd0 ha_ ?_) | ((with_reducible refine isKeep ?_); first | refine keep_of hs ?_ | refine keep_imp hs ?_) | with_reducible refine when_om ?_ | with_reducible refine drawW_sat hs fun w hs => ?_)
  refine (place_Get hs (by omega)).mono fun e w ⟨he, hs⟩ => ⟨_, _, _, he, ?_⟩
  cases hg : mGet m key with
  | none =>
    repeat (first | with_reducible refine nilck_some ?_ | ((with_reducible refine atLd ?_); first | refine ld_b hs ?_ | refine ld_b (x := ⟨_, _, _⟩) hs ?_ | refine ld_r0 hs ?_ | refine ld_r1 hs ?_ | refine ld_rd0 ha_ hs ?_ | refine ld_rd1 ha_ hs ?_) | ((with_reducible refine isSt ?_); first | refine st_b hs fun w hs => ?_ | refine st_r0 hs fun w hs => ?_ | refine st_r1 hs fun w hs => ?_) | ((with_reducible refine isIdx ?_); first | refine idx_s hs fun b_ o_ hs => ?_ | refine idx_rd hs fun b_ o_ ha_ => ?_) | with_reducible refine newB_at hs fun b_ w hs => ?_ | ((with_reducible refine isLdS ?_); first | refine ldS_b ?_ | refine ldS_b (x := ⟨_, _, _⟩) ?_ | refine ldS_rs0 hs ?_ | refine ldS_rd0 ha_ ?_) | ((with_reducible refine isKeep ?_); first | refine keep_of hs ?_ | refine keep_imp hs ?_) | with_reducible refine when_om ?_ | with_reducible refine drawW_sat hs fun w hs => ?_)
    refine ite_true rfl ?_
    rw [(hi.miss hg).2.2.1]
    exact ⟨rfl, rows_sh hi hN (by exact Sat.fin hs)⟩
  | some p =>
    repeat (first | with_reducible refine nilck_some ?_ | ((with_reducible refine atLd ?_); first | refine ld_b hs ?_ | refine ld_b (x := ⟨_, _, _⟩) hs ?_ | refine ld_r0 hs ?_ | refine ld_r1 hs ?_ | refine ld_rd0 ha_ hs ?_ | refine ld_rd1 ha_ hs ?_) | ((with_reducible refine isSt ?_); first | refine st_b hs fun w hs => ?_ | refine st_r0 hs fun w hs => ?_ | refine st_r1 hs fun w hs => ?_) | ((with_reducible refine isIdx ?_); first | refine idx_s hs fun b_ o_ hs => ?_ | refine idx_rd hs fun b_ o_ ha_ => ?_) | with_reducible refine newB_at hs fun b_ w hs => ?_ | ((with_reducible refine isLdS ?_); first | refine ldS_b ?_ | refine ldS_b (x := ⟨_, _, _⟩) ?_ | refine ldS_rs0 hs ?_ | refine ldS_rd0 ha_ ?_) | ((with_reducible refine isKeep ?_); first | refine keep_of hs ?_ | refine keep_imp hs ?_) | with_reducible refine when_om ?_ | with_reducible refine drawW_sat hs fun w hs => ?_)
    refine ite_false rfl ?_
    repeat (first | with_reducible refine nilck_some ?_ | ((with_reducible refine atLd ?_); first | refine ld_b hs ?_ | refine ld_b (x := ⟨_, _, _⟩) hs ?_ | refine ld_r0 hs ?_ | refine ld_r1 hs ?_ | refine ld_rd0 ha_ hs ?_ | refine ld_rd1 ha_ hs ?_) | ((with_reducible refine isSt ?_); first | refine st_b hs fun w hs => ?_ | refine st_r0 hs fun w hs => ?_ | refine st_r1 hs fun w hs => ?_) | ((with_reducible refine isIdx ?_); first | refine idx_s hs fun b_ o_ hs => ?_ | refine idx_rd hs fun b_ o_ ha_ => ?_) | with_reducible refine newB_at hs fun b_ w hs => ?_ | ((with_reducible refine isLdS ?_); first | refine ldS_b ?_ | refine ldS_b (x := ⟨_, _, _⟩) ?_ | refine ldS_rs0 hs ?_ | refine ldS_rd0 ha_ ?_) | ((with_reducible refine isKeep ?_); first | refine keep_of hs ?_ | refine keep_imp hs ?_) | with_reducible refine when_om ?_ | with_reducible refine drawW_sat hs fun w hs => ?_)
    have := hi.where_eq hg
    exact ⟨by rw [← this]; rfl, rows_sh hi hN (by exact Sat.fin hs)⟩
theorem rows_drop (h : Sat W w L) [hA : At L xb (rowsC s xb N K) F] (hz : key.size < 64) (hN : N < 100000000) (hK : K.length = 4) : Calls Tryd.prog id_arc_rows_drop #[.agg #[.slice s.a s.n s.c, .pointer (some ⟨xb, 0, none⟩)], .string key] w fun e w' => e = .returned (.tuple #[]) ∧ Sat W w' (F (rowsC s xb N (rTake K key))) := by
  refine At.call1 (hA := hA) h fun M hs => ?_
  clear h hA
  refine c1 (arc_rows_drop_calls ?_)
  rw [arc_rows_drop_def, arc_rows_drop_raw]
  obtain ⟨xs, m, hi, hNN, hn, hs⟩ := rows_op hs
  obtain ⟨hm, hxl⟩ := hi.mlen4 hNN hK
  repeat (first | with_reducible refine nilck_some ?_ | ((with_reducible refine atLd ?_); first | refine ld_b hs ?_ | refine ld_b (x := ⟨_, _, _⟩) hs ?_ | refine ld_r0 hs ?_ | refine ld_r1 hs ?_ | refine ld_rd0 ha_ hs ?_ | refine ld_rd1 ha_ hs ?_) | ((with_reducible refine isSt ?_); first | refine st_b hs fun w hs => ?_ | refine st_r0 hs fun w hs => ?_ | refine st_r1 hs fun w hs => ?_) | ((with_reducible refine isIdx ?_); first | refine idx_s hs fun b_ o_ hs => ?_ | refine idx_rd hs fun b_ o_ ha_ => ?_) | with_reducible refine newB_at hs fun b_ w hs => ?_ | ((with_reducible refine isLdS ?_); first | refine ldS_b ?_ | refine ldS_b (x := ⟨_, _, _⟩) ?_ | refine ldS_rs0 hs ?_ | refine ldS_rd0 ha_ ?_) | ((with_reducible refine isKeep ?_); first | refine keep_of hs ?_ | refine keep_imp hs ?_) | with_reducible refine when_om ?_ | with_reducible refine drawW_sat hs fun w hs => ?_)
  refine (place_Delete hs (by omega) (by omega)).mono fun e w ⟨he, hs⟩ => ⟨_, _, _, he, ?_⟩
  cases hg : mGet m key with
  | none =>
    repeat (first | with_reducible refine nilck_some ?_ | ((with_reducible refine atLd ?_); first | refine ld_b hs ?_ | refine ld_b (x := ⟨_, _, _⟩) hs ?_ | refine ld_r0 hs ?_ | refine ld_r1 hs ?_ | refine ld_rd0 ha_ hs ?_ | refine ld_rd1 ha_ hs ?_) | ((with_reducible refine isSt ?_); first | refine st_b hs fun w hs => ?_ | refine st_r0 hs fun w hs => ?_ | refine st_r1 hs fun w hs => ?_) | ((with_reducible refine isIdx ?_); first | refine idx_s hs fun b_ o_ hs => ?_ | refine idx_rd hs fun b_ o_ ha_ => ?_) | with_reducible refine newB_at hs fun b_ w hs => ?_ | ((with_reducible refine isLdS ?_); first | refine ldS_b ?_ | refine ldS_b (x := ⟨_, _, _⟩) ?_ | refine ldS_rs0 hs ?_ | refine ldS_rd0 ha_ ?_) | ((with_reducible refine isKeep ?_); first | refine keep_of hs ?_ | refine keep_imp hs ?_) | with_reducible refine when_om ?_ | with_reducible refine drawW_sat hs fun w hs => ?_)
    refine ite_false rfl ?_
    obtain ⟨_, h2, _, h4⟩ := hi.miss hg
    rw [h2]
    exact ⟨rfl, rows_sh h4 hNN (by exact Sat.fin hs)⟩
  | some p =>
    repeat (first | with_reducible refine nilck_some ?_ | ((with_reducible refine atLd ?_); first | refine ld_b hs ?_ | refine ld_b (x := ⟨_, _, _⟩) hs ?_ | refine ld_r0 hs ?_ | refine ld_r1 hs ?_ | refine ld_rd0 ha_ hs ?_ | refine ld_rd1 ha_ hs ?_) | ((with_reducible refine isSt ?_); first | refine st_b hs fun w hs => ?_ | refine st_r0 hs fun w hs => ?_ | refine st_r1 hs fun w hs => ?_) | ((with_reducible refine isIdx ?_); first | refine idx_s hs fun b_ o_ hs => ?_ | refine idx_rd hs fun b_ o_ ha_ => ?_) | with_reducible refine newB_at hs fun b_ w hs => ?_ | ((with_reducible refine isLdS ?_); first | refine ldS_b ?_ | refine ldS_b (x := ⟨_, _, _⟩) ?_ | refine ldS_rs0 hs ?_ | refine ldS_rd0 ha_ ?_) | ((with_reducible refine isKeep ?_); first | refine keep_of hs ?_ | refine keep_imp hs ?_) | with_reducible refine when_om ?_ | with_reducible refine drawW_sat hs fun w hs => ?_)
    refine ite_true rfl ?_
    have hnd : ∀ row ∈ xs.map (·.2.1), (row.map (·.1)).Nodup := by
      intro row hr
      obtain ⟨x, hx, rfl⟩ := List.mem_map.1 hr
      obtain ⟨j, hj⟩ := List.mem_iff_getElem?.1 hx
      have h1 : Sat W w (allH (xs.map lstOf) :: M) := by exact Sat.fin hs
      exact lst_nodup (all_pick hj h1)
    obtain ⟨j, row, i, h1, h2, h3, h4, h5⟩ := hi.hit hg hnd
    obtain ⟨x, hx, hxr⟩ : ∃ x, xs[j]? = some x ∧ x.2.1 = row := by
      rw [List.getElem?_map] at h2
      cases hx : xs[j]? with
      | none => rw [hx] at h2; cases h2
      | some x => rw [hx] at h2; exact ⟨x, rfl, by simpa using h2⟩
    have hjl : j < xs.length := (List.getElem?_eq_some_iff.1 hx).1
    have hp1 : ((some p).getD ((0, 0) : Int × Int)).1 = (j : Int) := h1
    have hp2 : ((some p).getD ((0, 0) : Int × Int)).2 = p.2 := rfl
    rw [hp1, hp2] at hs
    refine drawW_sat hs fun w hs => ?_
    refine ldS_b (x := s) ?_
    refine ldS_b ?_
    refine idx_s hs fun b_ o_ hs => ?_
    refine ldS_rs0 hs ?_
    refine ld_b hs ?_
    refine keep_imp hs ?_
    rw [Int.toNat_natCast, fst_getD hx]
    have hl := hNN x (List.mem_of_getElem? hx)
    have hs := all_pick (M := ixr Rec.ii xb 0 (mDel m key) :: recs Rec.ptr s (xs.map (·.1)) :: M) hx (by exact Sat.fin hs)
    refine call2_of (string_Remove hs (by omega) (x := p.2)) fun e w ⟨he, hs⟩ => ⟨_, _, he, ?_⟩
    subst hxr
    rw [h3] at hs
    simp only at hs
    have hs := all_back hx hs
    have hset : (xs.set j (x.1, x.2.1.eraseIdx i, x.2.2 ++ [(p.2).toNat])).map (·.1) = xs.map (·.1) := by
      rw [List.map_set]; refine set_same ?_; rw [List.getElem?_map, hx]; rfl
    refine ⟨rfl, rows_sh (xs := xs.set j (x.1, x.2.1.eraseIdx i, x.2.2 ++ [(p.2).toNat])) (m := mDel m key) ?_ ?_ ?_⟩
    · rw [List.map_set]; exact h5
    · intro y hy
      rcases List.mem_or_eq_of_mem_set hy with hy | rfl
      · exact hNN y hy
      · simp only [List.length_eraseIdx, List.length_append, List.length_cons, List.length_nil]; split <;> omega
    · rw [hset]; exact Sat.fin hs
theorem rows_at {xs : List RowX} {j : Nat} (hj : j < xs.length) : ∃ x, xs[j]? = some x := ⟨_, List.getElem?_eq_getElem hj⟩
theorem rows_more {N' : Nat} (h : Sat W w (rowsC s xb N K :: M)) (hN : N ≤ N') : Sat W w (rowsC s xb N' K :: M) := by
  obtain ⟨xs, m, hi, hNN, hn, h⟩ := rows_op h
  exact rows_sh hi (fun y hy => Nat.le_trans (hNN y hy) hN) h
theorem rows_len (h : Sat W w (rowsC s xb N K :: M)) : ∀ j, (K.getD j []).length ≤ N := by
  obtain ⟨xs, m, hi, hNN, hn, h⟩ := rows_op h
  intro j
  rw [List.getD_eq_getElem?_getD]
  cases hx : xs[j]? with
  | none =>
    have : K[j]? = none := by rw [List.getElem?_eq_none_iff] at hx ⊢; have := hi.klen; simp at this; omega
    rw [this]; simp
  | some x =>
    have : K[j]? = some (x.2.1.map (·.2)) := hi.row (by rw [List.getElem?_map, hx]; rfl)
    rw [this]
    have := hNN x (List.mem_of_getElem? hx)
    simp; omega
theorem rows_push (h : Sat W w L) [hA : At L xb (rowsC s xb N K) F] {j : Nat} (hj : j < 4) (hz : key.size < 64) (hN : N < 100000000) (hK : K.length = 4) : Calls Tryd.prog id_arc_rows_push #[.agg #[.slice s.a s.n s.c, .pointer (some ⟨xb, 0, none⟩)], .int .i64 (j : Int), .string key] w fun e w' => e = .returned (.tuple #[]) ∧ Sat W w' (F (rowsC s xb (N + 1) (rPush K j key))) := by
  refine At.call1 (hA := hA) h fun M hs => ?_
  clear h hA
  refine c1 (arc_rows_push_calls ?_)
  rw [arc_rows_push_def, arc_rows_push_raw]
  refine newB_at hs fun b1 w hs => ?_
  repeat (first | with_reducible refine nilck_some ?_ | ((with_reducible refine atLd ?_); first | refine ld_b hs ?_ | refine ld_b (x := ⟨_, _, _⟩) hs ?_ | refine ld_r0 hs ?_ | refine ld_r1 hs ?_ | refine ld_rd0 ha_ hs ?_ | refine ld_rd1 ha_ hs ?_) | ((with_reducible refine isSt ?_); first | refine st_b hs fun w hs => ?_ | refine st_r0 hs fun w hs => ?_ | refine st_r1 hs fun w hs => ?_) | ((with_reducible refine isIdx ?_); first | refine idx_s hs fun b_ o_ hs => ?_ | refine idx_rd hs fun b_ o_ ha_ => ?_) | with_reducible refine newB_at hs fun b_ w hs => ?_ | ((with_reducible refine isLdS ?_); first | refine ldS_b ?_ | refine ldS_b (x := ⟨_, _, _⟩) ?_ | refine ldS_rs0 hs ?_ | refine ldS_rd0 ha_ ?_) | ((with_reducible refine isKeep ?_); first | refine keep_of hs ?_ | refine keep_imp hs ?_) | with_reducible refine when_om ?_ | with_reducible refine drawW_sat hs fun w hs => ?_)
  refine call0_of (rows_drop hs hz hN hK) fun e w ⟨he, hs⟩ => ⟨he, ?_⟩
  have hs : Sat W w (rowsC s xb N (rTake K key) :: blk b1 [.slice s.a s.n s.c, .pointer (some ⟨xb, 0, none⟩)] :: M) := by exact Sat.fin hs
  have hKT : (rTake K key).length = 4 := by unfold rTake; simpa using hK
  obtain ⟨xs, m, hi, hNN, hn, hs⟩ := rows_op hs
  obtain ⟨hm, hxl⟩ := hi.mlen4 hNN hKT
  obtain ⟨x, hx⟩ := rows_at (xs := xs) (j := j) (by omega)
  have hl := hNN x (List.mem_of_getElem? hx)
  refine drawW_only [blk b1 [.slice s.a s.n s.c, .pointer (some ⟨xb, 0, none⟩)]] hs fun w hs => ?_
  refine ldS_b ?_
  refine ld_b (x := s) hs ?_
  refine keep_imp hs ?_
  refine idx_s hs fun b_ o_ hs => ?_
  refine ld_r0 hs ?_
  refine keep_imp hs ?_
  rw [Int.toNat_natCast, fst_getD hx]
  have hs := all_pick (M := recs Rec.ptr s (xs.map (·.1)) :: ixr Rec.ii xb 0 m :: blk b1 [.slice s.a s.n s.c, .pointer (some ⟨xb, 0, none⟩)] :: M) hx (by exact Sat.fin hs)
  refine call1_of (string_PushBack hs (by omega) (v := key)) fun e w ⟨he, hs⟩ => ⟨_, he, ?_⟩
  have hs := all_back hx hs
  refine keep_imp hs ?_
  refine call1_of (place_Put hs (v := ((j : Int), (hdl x.2.1 x.2.2 : Int))) (by omega) hi.small_m (by omega)) fun e w ⟨he, hs⟩ => ⟨_, he, ?_⟩
  have hset : (xs.set j (x.1, x.2.1 ++ [(hdl x.2.1 x.2.2, key)], x.2.2.dropLast)).map (·.1) = xs.map (·.1) := by
    rw [List.map_set]; refine set_same ?_; rw [List.getElem?_map, hx]; rfl
  refine ⟨rfl, rows_sh (xs := xs.set j (x.1, x.2.1 ++ [(hdl x.2.1 x.2.2, key)], x.2.2.dropLast)) (m := mPut m key ((j : Int), (hdl x.2.1 x.2.2 : Int))) ?_ ?_ ?_⟩
  · rw [List.map_set]; exact hi.push (rTake_not K key) hz (by rw [List.getElem?_map, hx]; rfl) _
  · intro y hy
    rcases List.mem_or_eq_of_mem_set hy with hy | rfl
    · exact Nat.le_trans (hNN y hy) (Nat.le_succ N)
    · simp only [List.length_append, List.length_dropLast, List.length_cons, List.length_nil]; omega
  · rw [hset]; exact Sat.fin hs
theorem rows_oldest (h : Sat W w L) [hA : At L xb (rowsC s xb N K) F] {j : Nat} (hj : j < 4) (hK : K.length = 4) : Calls Tryd.prog id_arc_rows_oldest #[.agg #[.slice s.a s.n s.c, .pointer (some ⟨xb, 0, none⟩)], .int .i64 (j : Int)] w fun e w' => e = .returned (.string (hd0 (K.getD j []))) ∧ Sat W w' (F (rowsC s xb N K)) := by
  refine At.call1 (hA := hA) h fun M hs => ?_
  clear h hA
  refine c1 (arc_rows_oldest_calls ?_)
  rw [arc_rows_oldest_def, arc_rows_oldest_raw]
  refine newB_at hs fun b1 w hs => ?_
  have hs : Sat W w (rowsC s xb N K :: blk b1 [.slice s.a s.n s.c, .pointer (some ⟨xb, 0, none⟩)] :: M) := by exact Sat.fin hs
  obtain ⟨xs, m, hi, hNN, hn, hs⟩ := rows_op hs
  have hxl : xs.length = 4 := (hi.mlen4 hNN hK).2
  obtain ⟨x, hx⟩ := rows_at (xs := xs) (j := j) (by omega)
  refine drawW_only [blk b1 [.slice s.a s.n s.c, .pointer (some ⟨xb, 0, none⟩)], recs Rec.ptr s (xs.map (·.1))] hs fun w hs => ?_
  refine ldS_b (x := s) ?_
  refine idx_s hs fun b_ o_ hs => ?_
  refine ldS_rs0 hs ?_
  refine ld_b (x := s) hs ?_
  refine keep_imp hs ?_
  refine idx_a hs ?_
  refine ld_r0 hs ?_
  refine keep_imp hs ?_
  rw [Int.toNat_natCast, fst_getD hx]
  have hs := all_pick (M := recs Rec.ptr s (xs.map (·.1)) :: ixr Rec.ii xb 0 m :: blk b1 [.slice s.a s.n s.c, .pointer (some ⟨xb, 0, none⟩)] :: M) hx (by exact Sat.fin hs)
  refine call1_of (string_Front hs) fun e w ⟨he, hs⟩ => ⟨_, he, ?_⟩
  refine keep_imp hs ?_
  have hnd := lst_nodup hs
  refine call2_of (string_Get hs) fun e w ⟨he, hs⟩ => ⟨_, _, he, ?_⟩
  have hs := all_back0 hx hs
  have hKj : K.getD j [] = x.2.1.map (·.2) := by
    rw [List.getD_eq_getElem?_getD, hi.row (j := j) (row := x.2.1) (by rw [List.getElem?_map, hx]; rfl)]; rfl
  have e1 : (rowVal x.2.1 ((rowPlace x.2.1 0 : Nat) : Int)).getD str_empty = hd0 (K.getD j []) := by
    rw [hKj]
    cases hr : x.2.1 with
    | nil => rfl
    | cons a l =>
      rw [hr] at hnd
      have : rAt (a :: l) ((rowPlace (a :: l) 0 : Nat) : Int) = some 0 := rAt_of hnd rfl
      unfold rowVal; rw [this]; rfl
  exact ⟨by rw [e1], rows_sh hi hNN (by exact Sat.fin hs)⟩
theorem rows_many {o : Sl} {js : List Nat} (hs : Sat W w (rowsC s xb N K :: recs Rec.nat o js :: M)) (hj : ∀ i, i < js.length → js.getD i default < 4) (hN : N < 100000000) (hK : K.length = 4) (hl : js.length ≤ 4) :
    Calls Tryd.prog id_arc_rows_many #[.agg #[.slice s.a s.n s.c, .pointer (some ⟨xb, 0, none⟩)], .slice o.a o.n o.c] w fun e w' => e = .returned (.int .i64 (rSum K js : Int)) ∧ Sat W w' (rowsC s xb N K :: recs Rec.nat o js :: M) := by
  refine c1 (arc_rows_many_calls ?_)
  rw [arc_rows_many_def, arc_rows_many_raw]
  refine newB_at hs fun b1 w hs => ?_
  have hrl := rows_len (w := w) (W := W) (M := recs Rec.nat o js :: M) (s := s) (xb := xb) (N := N) (K := K) (by exact Sat.fin hs)
  have hlen := rdb_len (s := o) (rows := js) hs
  have loop : ∀ (f j : Nat) (w : World) (acc : Int), j + f = js.length → acc = (rSum K (js.take j) : Int) ∧ acc ≤ j * N → Sat W w (blk b1 [.slice s.a s.n s.c, .pointer (some ⟨xb, 0, none⟩)] :: rowsC s xb N K :: recs Rec.nat o js :: M) →
      arc_rows_many_l1 idJ (fun v w' => v = .int .i64 (rSum K js : Int) ∧ Sat W w' (rowsC s xb N K :: recs Rec.nat o js :: M)) (f + 1) b1 0 acc o (o.n : Int) (j : Int) w := by
    clear hs
    intro f
    induction f with
    | zero =>
      intro j w acc hif hacc hs
      rw [arc_rows_many_l1_raw]
      refine ite_false (decide_eq_false (by omega)) ?_
      rw [arc_rows_many_j2_def, arc_rows_many_j2_raw]
      rw [List.take_of_length_le (by omega)] at hacc
      exact ⟨by rw [hacc.1], by exact Sat.fin hs⟩
    | succ f ih =>
      intro j w acc hif hacc hs
      rw [arc_rows_many_l1_raw]
      refine ite_true (decide_eq_true (by omega)) ?_
      refine idx_rd (rows := js) hs fun b_ o_ ha_ => ?_
      refine ld_rd0 (rows := js) ha_ hs ?_
      refine ld_b (x := s) hs ?_
      rw [Int.toNat_natCast]
      have hjj := hj j (by omega)
      have hs : Sat W w (rowsC s xb N K :: blk b1 [.slice s.a s.n s.c, .pointer (some ⟨xb, 0, none⟩)] :: recs Rec.nat o js :: M) := by exact Sat.fin hs
      obtain ⟨xs, m, hi, hNN, hn, hs⟩ := rows_op hs
      have hxl : xs.length = 4 := (hi.mlen4 hNN hK).2
      obtain ⟨x, hx⟩ := rows_at (xs := xs) (j := js.getD j default) (by omega)
      refine idx_s hs fun b_ o_ hs => ?_
      refine ld_r0 hs ?_
      rw [Int.toNat_natCast, fst_getD hx]
      have hs := all_pick (M := recs Rec.ptr s (xs.map (·.1)) :: ixr Rec.ii xb 0 m :: blk b1 [.slice s.a s.n s.c, .pointer (some ⟨xb, 0, none⟩)] :: recs Rec.nat o js :: M) hx (by exact Sat.fin hs)
      refine call1_of (string_Len hs) fun e w ⟨he, hs⟩ => ⟨_, he, ?_⟩
      have hs := all_back0 hx hs
      have hKj : K.getD (js.getD j default) [] = x.2.1.map (·.2) := by
        rw [List.getD_eq_getElem?_getD, hi.row (j := js.getD j default) (row := x.2.1) (by rw [List.getElem?_map, hx]; rfl)]; rfl
      have hsn := rSum_snoc (K := K) (js := js) (j := j) (by omega)
      have hb := hrl (js.getD j default)
      rw [hKj, List.length_map] at hsn hb
      have hs : Sat W w (rowsC s xb N K :: blk b1 [.slice s.a s.n s.c, .pointer (some ⟨xb, 0, none⟩)] :: recs Rec.nat o js :: M) := rows_sh hi hNN (by exact Sat.fin hs)
      have hmul : (j : Int) * N ≤ 4 * N := by exact_mod_cast Nat.mul_le_mul_right N (show j ≤ 4 by omega)
      have hmul2 : ((j + 1 : Nat) : Int) * N = (j : Int) * N + N := by rw [Int.natCast_add, Int.add_mul]; omega
      rw [show IntKind.wrap .i64 ((j : Int) + 1) = ((j + 1 : Nat) : Int) by rw [i64_in _ (by omega)]; omega, i64_in (acc + _) (by omega)]
      exact ih (j + 1) w _ (by omega) ⟨by omega, by omega⟩ (by exact Sat.fin hs)
  refine exM_of (js.length + 1) ?_
  exact loop js.length 0 w 0 (by omega) ⟨rfl, by omega⟩ (by exact Sat.fin hs)
theorem rows_keys {o : Sl} {js : List Nat} (hs : Sat W w (rowsC s xb N K :: recs Rec.nat o js :: M)) (hj : ∀ i, i < js.length → js.getD i default < 4) (hN : N < 100000000) (hK : K.length = 4) (hl : js.length ≤ 4) :
    Calls Tryd.prog id_arc_rows_keys #[.agg #[.slice s.a s.n s.c, .pointer (some ⟨xb, 0, none⟩)], .slice o.a o.n o.c] w fun e w' => ∃ l : Sl, e = .returned (.slice l.a l.n l.c) ∧ Sat W w' (recs Rec.str l (rKeys K js) :: rowsC s xb N K :: recs Rec.nat o js :: M) := by
  refine (arc_rows_keys_calls (Q := fun v w' => ∃ l : Sl, v = .slice l.a l.n l.c ∧ Sat W w' (recs Rec.str l (rKeys K js) :: rowsC s xb N K :: recs Rec.nat o js :: M)) ?_).mono fun e w' ⟨v, he, l, hv, hs⟩ => ⟨l, by rw [he, hv], hs⟩
  rw [arc_rows_keys_def, arc_rows_keys_raw]
  refine newB_at hs fun b1 w hs => ?_
  have hrl := rows_len (w := w) (W := W) (M := recs Rec.nat o js :: M) (s := s) (xb := xb) (N := N) (K := K) (by exact Sat.fin hs)
  have hlen := rdb_len (s := o) (rows := js) hs
  have hs := Sat.nilR Rec.str hs
  have loop : ∀ (f j : Nat) (w : World) (acc : Sl), j + f = js.length → rSum K (js.take j) ≤ j * N → Sat W w (recs Rec.str acc (rKeys K (js.take j)) :: blk b1 [.slice s.a s.n s.c, .pointer (some ⟨xb, 0, none⟩)] :: rowsC s xb N K :: recs Rec.nat o js :: M) →
      arc_rows_keys_l1 idJ (fun v w' => ∃ l : Sl, v = .slice l.a l.n l.c ∧ Sat W w' (recs Rec.str l (rKeys K js) :: rowsC s xb N K :: recs Rec.nat o js :: M)) (f + 1) b1 0 acc o (o.n : Int) (j : Int) w := by
    clear hs
    intro f
    induction f with
    | zero =>
      intro j w acc hif hacc hs
      rw [arc_rows_keys_l1_raw]
      refine ite_false (decide_eq_false (by omega)) ?_
      rw [arc_rows_keys_j2_def, arc_rows_keys_j2_raw]
      rw [List.take_of_length_le (by omega)] at hs
      exact ⟨acc, rfl, by exact Sat.fin hs⟩
    | succ f ih =>
      intro j w acc hif hacc hs
      rw [arc_rows_keys_l1_raw]
      refine ite_true (decide_eq_true (by omega)) ?_
      refine idx_rd (rows := js) hs fun b_ o_ ha_ => ?_
      refine ld_rd0 (rows := js) ha_ hs ?_
      refine ld_b (x := s) hs ?_
      rw [Int.toNat_natCast]
      have hjj := hj j (by omega)
      have hs : Sat W w (rowsC s xb N K :: recs Rec.str acc (rKeys K (js.take j)) :: blk b1 [.slice s.a s.n s.c, .pointer (some ⟨xb, 0, none⟩)] :: recs Rec.nat o js :: M) := by exact Sat.fin hs
      obtain ⟨xs, m, hi, hNN, hn, hs⟩ := rows_op hs
      have hxl : xs.length = 4 := (hi.mlen4 hNN hK).2
      obtain ⟨x, hx⟩ := rows_at (xs := xs) (j := js.getD j default) (by omega)
      have hnx := hNN x (List.mem_of_getElem? hx)
      refine idx_s hs fun b_ o_ hs => ?_
      refine ld_r0 hs ?_
      rw [Int.toNat_natCast, fst_getD hx]
      have hs := all_pick (M := recs Rec.ptr s (xs.map (·.1)) :: ixr Rec.ii xb 0 m :: recs Rec.str acc (rKeys K (js.take j)) :: blk b1 [.slice s.a s.n s.c, .pointer (some ⟨xb, 0, none⟩)] :: recs Rec.nat o js :: M) hx (by exact Sat.fin hs)
      refine call1_of (string_All hs (by omega)) fun e w ⟨ks, he, hs⟩ => ⟨_, he, ?_⟩
      have hs := all_back0 (M := recs Rec.str ks (x.2.1.map (·.2)) :: recs Rec.ptr s (xs.map (·.1)) :: ixr Rec.ii xb 0 m :: recs Rec.str acc (rKeys K (js.take j)) :: blk b1 [.slice s.a s.n s.c, .pointer (some ⟨xb, 0, none⟩)] :: recs Rec.nat o js :: M) hx (by exact Sat.fin hs)
      have hKj : K.getD (js.getD j default) [] = x.2.1.map (·.2) := by
        rw [List.getD_eq_getElem?_getD, hi.row (j := js.getD j default) (row := x.2.1) (by rw [List.getElem?_map, hx]; rfl)]; rfl
      have hsn := rSum_snoc (K := K) (js := js) (j := j) (by omega)
      have hkn := rKeys_snoc (K := K) (js := js) (j := j) (by omega)
      have hkl := rKeys_len K (js.take j)
      have hb := hrl (js.getD j default)
      rw [hKj, List.length_map] at hsn hb
      rw [hKj] at hkn
      have hmul : j * N ≤ 4 * N := Nat.mul_le_mul_right N (show j ≤ 4 by omega)
      have hmul2 : (j + 1) * N = j * N + N := Nat.succ_mul j N
      have hn2 := rdb_len (s := ks) hs
      have hs : Sat W w (rowsC s xb N K :: recs Rec.str acc (rKeys K (js.take j)) :: recs Rec.str ks (x.2.1.map (·.2)) :: blk b1 [.slice s.a s.n s.c, .pointer (some ⟨xb, 0, none⟩)] :: recs Rec.nat o js :: M) := rows_sh hi hNN (by exact Sat.fin hs)
      refine app_by (s := acc) (new := x.2.1.map (fun e : Nat × ByteArray => e.2)) hs (rd_rdb (s := ks) hs) hn2 (okC_flat _) rfl (by decide) (by rw [List.length_map]; omega) fun s2 w hs2 hs => ?_
      rw [← hkn] at hs
      rw [show IntKind.wrap .i64 ((j : Int) + 1) = ((j + 1 : Nat) : Int) by rw [i64_in _ (by omega)]; omega]
      exact ih (j + 1) w s2 (by omega) (by omega) (by exact Sat.fin hs)
  refine exM_of (js.length + 1) ?_
  exact loop js.length 0 w ⟨none, 0, 0⟩ (by omega) (by simp [rSum]) (by exact Sat.fin hs)
/-- with its own slice of rows -/
theorem many_of {o n : Nat} {cs : List Value} (js : List Nat) {Q : Int → WP} (hs : Sat W w (blk o cs :: rowsC s xb N K :: M)) (hN : N < 100000000) (hK : K.length = 4) (hQ : ∀ w, Sat W w (rowsC s xb N K :: M) → Q (rSum K js : Int) w)
    (hc : Rec.nat.flat js = cs := by exact rfl) (hn : js.length = n := by exact rfl) (hj : ∀ i, i < js.length → js.getD i default < 4 := by decide) (hl : js.length ≤ 4 := by decide) :
    call1 (.int .i64) Tryd.prog id_arc_rows_many [.agg #[.slice s.a s.n s.c, .pointer (some ⟨xb, 0, none⟩)], .slice (some ⟨o, 0, none⟩) n n] Q w := by
  have hs := Sat.blkS (b := o) (cs := cs) Rec.nat js hs hc hn
  have hs : Sat W w (rowsC s xb N K :: recs Rec.nat ⟨some ⟨o, 0, none⟩, n, n⟩ js :: M) := by exact Sat.fin hs
  exact call1_of (rows_many (o := ⟨some ⟨o, 0, none⟩, n, n⟩) (js := js) hs hj hN hK hl) fun e w ⟨he, hs⟩ => ⟨_, he, hQ w (by exact Sat.fin hs)⟩
theorem keys_of {o n : Nat} {cs : List Value} (js : List Nat) {Q : Sl → WP} (hs : Sat W w (blk o cs :: rowsC s xb N K :: M)) (hN : N < 100000000) (hK : K.length = 4) (hQ : ∀ l w, Sat W w (recs Rec.str l (rKeys K js) :: rowsC s xb N K :: M) → Q l w)
    (hc : Rec.nat.flat js = cs := by exact rfl) (hn : js.length = n := by exact rfl) (hj : ∀ i, i < js.length → js.getD i default < 4 := by decide) (hl : js.length ≤ 4 := by decide) :
    call1 .slc Tryd.prog id_arc_rows_keys [.agg #[.slice s.a s.n s.c, .pointer (some ⟨xb, 0, none⟩)], .slice (some ⟨o, 0, none⟩) n n] Q w := by
  have hs := Sat.blkS (b := o) (cs := cs) Rec.nat js hs hc hn
  have hs : Sat W w (rowsC s xb N K :: recs Rec.nat ⟨some ⟨o, 0, none⟩, n, n⟩ js :: M) := by exact Sat.fin hs
  exact call1_of (rows_keys (o := ⟨some ⟨o, 0, none⟩, n, n⟩) (js := js) hs hj hN hK hl) fun e w ⟨l, he, hs⟩ => ⟨l, he, hQ l w (by exact Sat.fin hs)⟩
end
end Go.Proofs.YtchlicgjdlkidaaDoor
