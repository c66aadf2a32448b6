/- ListMoves, ListNumbers, ListHandles: walks. -/
import Derived.Test.YtadljdjlemfdjaaListLaws
set_option linter.unusedVariables false
set_option linter.unusedSimpArgs false
set_option linter.unnecessarySimpa false
set_option linter.unusedSectionVars false
namespace Go.Hb
theorem lst_facts {T : Type} {mk : T → Value} {b : Nat} {row : List (Nat × T)} {free : List Nat} {W w : World} {M : List HP} (h : Sat W w (lst mk b row free :: M)) :
    (row.map (·.1)).Nodup ∧ ∀ e ∈ row, 0 < e.1 ∧ e.1 ≤ row.length + free.length := by
  obtain ⟨s, f, ls, hi, ⟨_, _, hl⟩, _⟩ := lst_open h
  have hn := (List.nodup_append.1 hi.nodup).1
  rw [rowV_fst] at hn
  refine ⟨hn, fun e he => ?_⟩
  have := (hi.all e.1).1 (.inl (by rw [rowV_fst]; exact List.mem_map_of_mem he))
  omega
theorem rowPlace_of {T : Type} {row : List (Nat × T)} {i : Nat} (h : i < row.length) : rowPlace row i = row[i].1 := by
  unfold rowPlace; rw [List.getD_eq_getElem?_getD, List.getElem?_map, List.getElem?_eq_getElem h]; rfl
theorem rAt_place {T : Type} {row : List (Nat × T)} (hn : (row.map (·.1)).Nodup) {i : Nat} (h : i < row.length) : rAt row (rowPlace row i : Int) = some i := by
  rw [rowPlace_of h]; exact rAt_of hn (List.getElem?_eq_getElem h)
theorem rowNext_place {T : Type} {row : List (Nat × T)} (hn : (row.map (·.1)).Nodup) {i : Nat} (h : i < row.length) : rowNext row (rowPlace row i : Int) = rowPlace row (i + 1) := by
  unfold rowNext; rw [rAt_place hn h]
theorem rowPlace_none {T : Type} {row : List (Nat × T)} {i : Nat} (h : row.length ≤ i) : rowPlace row i = 0 := by
  unfold rowPlace; rw [List.getD_eq_getElem?_getD, List.getElem?_eq_none (by simpa using h)]; rfl
theorem map_erase {α β : Type} (f : α → β) (l : List α) (i : Nat) : (l.eraseIdx i).map f = (l.map f).eraseIdx i := by
  simp only [List.eraseIdx_eq_take_drop_succ, List.map_append, List.map_take, List.map_drop]
end Go.Hb
namespace Go.Proofs.Ytadljdjlemfdjaa
open Go.Hb Go.IntWalk
section
variable {W w : World} {L M : List HP} {F : HP → List HP}
/-! ListMoves -/
theorem moves_j7 {b : Nat} {row : List (Nat × ByteArray)} {want : Sl} {Q : Value → WP} (hQ : ∀ w, Sat W w [old W] → Q (.bool true) w) (hl : row.length < 1000) (hs : Sat W w [recs Rec.str want (row.map (·.2)), lst .string b row [], old W]) :
    hoardlaw4_ListMoves_j7 idJ Q (some ⟨b, 0, none⟩) want true w := by
  rw [hoardlaw4_ListMoves_j7_def, hoardlaw4_ListMoves_j7_raw]
  refine ite_true rfl ?_
  refine (string_All hs (by simp; omega)).mono fun e w ⟨m, he, hs⟩ => ⟨_, he, ?_⟩
  refine call1_of (hoardlaw4_texts_at (a := m) (b := want) hs (by simp; omega)) fun e w ⟨he, hs⟩ => ⟨_, he, ite_true (by simp) ?_⟩
  exact call1_of (known4 hs) fun e w ⟨he, hs⟩ => ⟨_, he, hQ _ (by exact Sat.fin hs)⟩
theorem moves_walk {s0 : Sl} {xs : List ByteArray} [hr : ReadsR W s0 Rec.str xs] {h : Int} {front : Bool} : Calls Try.prog id_hoardlaw4_ListMoves #[.slice s0.a s0.n s0.c, .int .i64 h, .bool front] W fun e w' => e = .returned (.bool true) ∧ KeptH W w' := by
  have hs := Sat.begin W
  refine law_of (hoardlaw4_ListMoves_calls ?_)
  rw [hoardlaw4_ListMoves_def, hoardlaw4_ListMoves_raw]
  have hn := rdb_len (s := s0) hs
  (first | with_reducible refine ite_ltI (fun h1 => ?_) (fun h1 => ?_) | with_reducible refine ite_leI (fun h1 => ?_) (fun h1 => ?_) | with_reducible refine ite_gtI (fun h1 => ?_) (fun h1 => ?_) | with_reducible refine ite_geI (fun h1 => ?_) (fun h1 => ?_) | with_reducible refine ite_eqI (fun h1 => ?_) (fun h1 => ?_) | with_reducible refine ite_neI (fun h1 => ?_) (fun h1 => ?_) | with_reducible refine ite_eqS (fun h1 => ?_) (fun h1 => ?_) | with_reducible refine ite_neS (fun h1 => ?_) (fun h1 => ?_) | with_reducible refine ite_dec (fun h1 => ?_) (fun h1 => ?_) | with_reducible refine ite_ndec (fun h1 => ?_) (fun h1 => ?_) | with_reducible refine ite_some (fun i_ h1 => ?_) (fun h1 => ?_) | with_reducible refine ite_nsome (fun h1 => ?_) (fun i_ h1 => ?_) | with_reducible refine ite_cases (fun h1 => ?_) (fun h1 => ?_))
  · exact ⟨rfl, hs⟩
  (first | with_reducible refine ite_ltI (fun h2 => ?_) (fun h2 => ?_) | with_reducible refine ite_leI (fun h2 => ?_) (fun h2 => ?_) | with_reducible refine ite_gtI (fun h2 => ?_) (fun h2 => ?_) | with_reducible refine ite_geI (fun h2 => ?_) (fun h2 => ?_) | with_reducible refine ite_eqI (fun h2 => ?_) (fun h2 => ?_) | with_reducible refine ite_neI (fun h2 => ?_) (fun h2 => ?_) | with_reducible refine ite_eqS (fun h2 => ?_) (fun h2 => ?_) | with_reducible refine ite_neS (fun h2 => ?_) (fun h2 => ?_) | with_reducible refine ite_dec (fun h2 => ?_) (fun h2 => ?_) | with_reducible refine ite_ndec (fun h2 => ?_) (fun h2 => ?_) | with_reducible refine ite_some (fun i_ h2 => ?_) (fun h2 => ?_) | with_reducible refine ite_nsome (fun h2 => ?_) (fun i_ h2 => ?_) | with_reducible refine ite_cases (fun h2 => ?_) (fun h2 => ?_))
  · exact ⟨rfl, hs⟩
  (first | with_reducible refine ite_ltI (fun h3 => ?_) (fun h3 => ?_) | with_reducible refine ite_leI (fun h3 => ?_) (fun h3 => ?_) | with_reducible refine ite_gtI (fun h3 => ?_) (fun h3 => ?_) | with_reducible refine ite_geI (fun h3 => ?_) (fun h3 => ?_) | with_reducible refine ite_eqI (fun h3 => ?_) (fun h3 => ?_) | with_reducible refine ite_neI (fun h3 => ?_) (fun h3 => ?_) | with_reducible refine ite_eqS (fun h3 => ?_) (fun h3 => ?_) | with_reducible refine ite_neS (fun h3 => ?_) (fun h3 => ?_) | with_reducible refine ite_dec (fun h3 => ?_) (fun h3 => ?_) | with_reducible refine ite_ndec (fun h3 => ?_) (fun h3 => ?_) | with_reducible refine ite_some (fun i_ h3 => ?_) (fun h3 => ?_) | with_reducible refine ite_nsome (fun h3 => ?_) (fun i_ h3 => ?_) | with_reducible refine ite_cases (fun h3 => ?_) (fun h3 => ?_))
  · exact ⟨rfl, hs⟩
  rw [hoardlaw4_ListMoves_j1_def, hoardlaw4_ListMoves_j1_raw]
  refine (string_New hs).mono fun e w ⟨b, he, hs⟩ => ⟨_, he, ?_⟩
  have hw : IntKind.wrap .i64 (h - 1) = ((h.toNat - 1 : Nat) : Int) := by rw [i64_in _ (by omega)]; omega
  have hlt : h.toNat - 1 < xs.length := by omega
  have hlN : (rowN xs).length = xs.length := rowN_len xs
  have hat : rAt (rowN xs) h = some (h.toNat - 1) := rowN_at (by omega) (by omega)
  generalize hk : h.toNat - 1 = k at hw hlt hat
  have hitem : rowItem (rowN xs) k = [(k + 1, xs.getD k default)] := by
    unfold rowItem
    rw [List.getElem?_eq_getElem (by omega)]
    simp [rowN, List.getElem?_eq_getElem hlt]
  have herase : ((rowN xs).eraseIdx k).map (·.2) = xs.eraseIdx k := by
    conv => rhs; rw [← rowN_snd xs]
    exact map_erase _ _ _
  have helen : ((rowN xs).eraseIdx k).length = xs.length - 1 := by rw [List.length_eraseIdx, if_pos (by omega), hlN]
  -- behind the row of what is wanted
  have tail : ∀ (w : World) (want : Sl), Sat W w [recs Rec.str want (xs.eraseIdx k), lst .string b (rowN xs) [], old W] → hoardlaw4_ListMoves_j5 idJ (fun v w' => v = .bool true ∧ Sat W w' [old W]) s0 h front (some ⟨b, 0, none⟩) want w := by
    intro w want hs
    have hwl := (recs_len (s := want) hs).1
    have hel : (xs.eraseIdx k).length = xs.length - 1 := by rw [List.length_eraseIdx, if_pos hlt]
    rw [hoardlaw4_ListMoves_j5_def, hoardlaw4_ListMoves_j5_raw]
    refine ite_cases (fun hf => ?_) (fun hf => ?_)
    · refine call1_of (string_ToFront hs) fun e w ⟨he, hs⟩ => ⟨_, he, ?_⟩
      rw [hat] at hs ⊢
      simp only [hitem] at hs
      refine ite_true rfl ?_
      refine call1_of (string_Front hs) fun e w ⟨he, hs⟩ => ⟨_, he, ?_⟩
      have e1 : ((rowPlace ([(k + 1, xs.getD k default)] ++ (rowN xs).eraseIdx k) 0 : Nat) : Int) = h := by
        show ((k + 1 : Nat) : Int) = h
        omega
      rw [e1]
      have e2 : (h == h) = true := by simp
      rw [e2, hoardlaw4_ListMoves_j6_def, hoardlaw4_ListMoves_j6_raw, hw]
      repeat (first | with_reducible refine nilck_some ?_ | ((with_reducible refine atLd ?_); first | refine ld_b hs ?_ | refine ld_b (x := ⟨_, _, _⟩) hs ?_ | refine ld_r0 hs ?_ | refine ld_r1 hs ?_ | refine ld_r2 hs ?_ | refine ld_r3 hs ?_ | refine ld_r4 hs ?_ | refine ld_rd0 ha_ hs ?_ | refine ld_rd1 ha_ hs ?_ | refine ld_rd2 ha_ hs ?_ | refine ld_rd3 ha_ hs ?_ | refine ld_rd4 ha_ hs ?_ | fail) | ((with_reducible refine isSt ?_); first | refine st_b hs fun w hs => ?_ | refine st_rec5 hs fun w hs => ?_ | refine st_rec4 hs fun w hs => ?_ | refine st_rec3 hs fun w hs => ?_ | refine st_rec2 hs fun w hs => ?_ | refine st_r0 hs fun w hs => ?_ | refine st_r1 hs fun w hs => ?_ | fail) | ((with_reducible refine isIdx ?_); first | refine idx_s hs fun b_ o_ hs => ?_ | refine idx_a hs ?_ | refine idx_rd hs fun b_ o_ ha_ => ?_ | fail) | ((with_reducible refine isNew ?_); first | refine newB_at hs fun b_ w hs => ?_ | fail) | ((with_reducible refine isLdS ?_); first | refine ldS_b ?_ | refine ldS_b (x := ⟨_, _, _⟩) ?_ | refine ldS_r0 ?_ | refine ldS_r1 ?_ | refine ldS_r2 ?_ | refine ldS_r3 ?_ | refine ldS_rs0 hs ?_ | refine ldS_rs1 hs ?_ | refine ldS_rs2 hs ?_ | refine ldS_rs3 hs ?_ | refine ldS_rd0 ha_ ?_ | refine ldS_rd1 ha_ ?_ | refine ldS_rd2 ha_ ?_ | refine ldS_rd3 ha_ ?_ | fail) | ((with_reducible refine isKeep ?_); first | refine keep_of hs ?_ | refine keep_imp hs ?_ | fail) | ((with_reducible refine isWhen ?_); first | refine when_om ?_ | fail) | ((with_reducible refine isDraw ?_); first | refine drawW_sat hs fun w hs => ?_ | fail))
      refine app_own hs Rec.str (rows := [xs.getD k default]) rfl rfl (rd_rdb (s := want) hs) hwl (okC_flat _) rfl (by decide) (by simp; omega) fun s2 w hs2 hs => ?_
      refine moves_j7 (row := [(k + 1, xs.getD k default)] ++ (rowN xs).eraseIdx k) (fun w hs => ⟨rfl, hs⟩) (by simp; omega) ?_
      rw [List.map_append, herase]
      exact Sat.fin hs
    · refine call1_of (string_ToBack hs) fun e w ⟨he, hs⟩ => ⟨_, he, ?_⟩
      rw [hat] at hs ⊢
      simp only [hitem] at hs
      refine ite_true rfl ?_
      refine call1_of (string_Back hs) fun e w ⟨he, hs⟩ => ⟨_, he, ?_⟩
      have e1 : ((rowLast ((rowN xs).eraseIdx k ++ [(k + 1, xs.getD k default)]) : Nat) : Int) = h := by
        unfold rowLast
        rw [if_neg (by simp), rowPlace_of (by simp)]
        simp; omega
      rw [e1]
      have e2 : (h == h) = true := by simp
      rw [e2, hoardlaw4_ListMoves_j8_def, hoardlaw4_ListMoves_j8_raw, hw]
      repeat (first | with_reducible refine nilck_some ?_ | ((with_reducible refine atLd ?_); first | refine ld_b hs ?_ | refine ld_b (x := ⟨_, _, _⟩) hs ?_ | refine ld_r0 hs ?_ | refine ld_r1 hs ?_ | refine ld_r2 hs ?_ | refine ld_r3 hs ?_ | refine ld_r4 hs ?_ | refine ld_rd0 ha_ hs ?_ | refine ld_rd1 ha_ hs ?_ | refine ld_rd2 ha_ hs ?_ | refine ld_rd3 ha_ hs ?_ | refine ld_rd4 ha_ hs ?_ | fail) | ((with_reducible refine isSt ?_); first | refine st_b hs fun w hs => ?_ | refine st_rec5 hs fun w hs => ?_ | refine st_rec4 hs fun w hs => ?_ | refine st_rec3 hs fun w hs => ?_ | refine st_rec2 hs fun w hs => ?_ | refine st_r0 hs fun w hs => ?_ | refine st_r1 hs fun w hs => ?_ | fail) | ((with_reducible refine isIdx ?_); first | refine idx_s hs fun b_ o_ hs => ?_ | refine idx_a hs ?_ | refine idx_rd hs fun b_ o_ ha_ => ?_ | fail) | ((with_reducible refine isNew ?_); first | refine newB_at hs fun b_ w hs => ?_ | fail) | ((with_reducible refine isLdS ?_); first | refine ldS_b ?_ | refine ldS_b (x := ⟨_, _, _⟩) ?_ | refine ldS_r0 ?_ | refine ldS_r1 ?_ | refine ldS_r2 ?_ | refine ldS_r3 ?_ | refine ldS_rs0 hs ?_ | refine ldS_rs1 hs ?_ | refine ldS_rs2 hs ?_ | refine ldS_rs3 hs ?_ | refine ldS_rd0 ha_ ?_ | refine ldS_rd1 ha_ ?_ | refine ldS_rd2 ha_ ?_ | refine ldS_rd3 ha_ ?_ | fail) | ((with_reducible refine isKeep ?_); first | refine keep_of hs ?_ | refine keep_imp hs ?_ | fail) | ((with_reducible refine isWhen ?_); first | refine when_om ?_ | fail) | ((with_reducible refine isDraw ?_); first | refine drawW_sat hs fun w hs => ?_ | fail))
      refine app_one (s := want) (a := xs.getD k default) hs rfl rfl rfl rfl (by decide) (by rw [hel]; omega) fun s2 w hs2 hs => ?_
      refine moves_j7 (row := (rowN xs).eraseIdx k ++ [(k + 1, xs.getD k default)]) (fun w hs => ⟨rfl, hs⟩) (by simp; omega) ?_
      rw [List.map_append, herase]
      exact Sat.fin hs
  -- the wanted row
  have loop4 : ∀ (m i : Nat) (w : World) (want : Sl), i + m = xs.length → Sat W w [recs Rec.str want ((xs.take i).eraseIdx k), lst .string b (rowN xs) [], old W] → hoardlaw4_ListMoves_l4 idJ (fun v w' => v = .bool true ∧ Sat W w' [old W]) (m + 1) s0 h front (some ⟨b, 0, none⟩) want (i : Int) w := by
    intro m
    induction m with
    | zero =>
      intro i w want hi hs
      rw [hoardlaw4_ListMoves_l4_raw]
      refine ite_false (decide_eq_false (by omega)) ?_
      rw [List.take_of_length_le (by omega)] at hs
      exact tail w want hs
    | succ m ih =>
      intro i w want hi hs
      rw [hoardlaw4_ListMoves_l4_raw, hw]
      refine ite_true (decide_eq_true (by omega)) ?_
      (first | with_reducible refine ite_ltI (fun h4 => ?_) (fun h4 => ?_) | with_reducible refine ite_leI (fun h4 => ?_) (fun h4 => ?_) | with_reducible refine ite_gtI (fun h4 => ?_) (fun h4 => ?_) | with_reducible refine ite_geI (fun h4 => ?_) (fun h4 => ?_) | with_reducible refine ite_eqI (fun h4 => ?_) (fun h4 => ?_) | with_reducible refine ite_neI (fun h4 => ?_) (fun h4 => ?_) | with_reducible refine ite_eqS (fun h4 => ?_) (fun h4 => ?_) | with_reducible refine ite_neS (fun h4 => ?_) (fun h4 => ?_) | with_reducible refine ite_dec (fun h4 => ?_) (fun h4 => ?_) | with_reducible refine ite_ndec (fun h4 => ?_) (fun h4 => ?_) | with_reducible refine ite_some (fun i_ h4 => ?_) (fun h4 => ?_) | with_reducible refine ite_nsome (fun h4 => ?_) (fun i_ h4 => ?_) | with_reducible refine ite_cases (fun h4 => ?_) (fun h4 => ?_))
      · repeat (first | with_reducible refine nilck_some ?_ | ((with_reducible refine atLd ?_); first | refine ld_b hs ?_ | refine ld_b (x := ⟨_, _, _⟩) hs ?_ | refine ld_r0 hs ?_ | refine ld_r1 hs ?_ | refine ld_r2 hs ?_ | refine ld_r3 hs ?_ | refine ld_r4 hs ?_ | refine ld_rd0 ha_ hs ?_ | refine ld_rd1 ha_ hs ?_ | refine ld_rd2 ha_ hs ?_ | refine ld_rd3 ha_ hs ?_ | refine ld_rd4 ha_ hs ?_ | fail) | ((with_reducible refine isSt ?_); first | refine st_b hs fun w hs => ?_ | refine st_rec5 hs fun w hs => ?_ | refine st_rec4 hs fun w hs => ?_ | refine st_rec3 hs fun w hs => ?_ | refine st_rec2 hs fun w hs => ?_ | refine st_r0 hs fun w hs => ?_ | refine st_r1 hs fun w hs => ?_ | fail) | ((with_reducible refine isIdx ?_); first | refine idx_s hs fun b_ o_ hs => ?_ | refine idx_a hs ?_ | refine idx_rd hs fun b_ o_ ha_ => ?_ | fail) | ((with_reducible refine isNew ?_); first | refine newB_at hs fun b_ w hs => ?_ | fail) | ((with_reducible refine isLdS ?_); first | refine ldS_b ?_ | refine ldS_b (x := ⟨_, _, _⟩) ?_ | refine ldS_r0 ?_ | refine ldS_r1 ?_ | refine ldS_r2 ?_ | refine ldS_r3 ?_ | refine ldS_rs0 hs ?_ | refine ldS_rs1 hs ?_ | refine ldS_rs2 hs ?_ | refine ldS_rs3 hs ?_ | refine ldS_rd0 ha_ ?_ | refine ldS_rd1 ha_ ?_ | refine ldS_rd2 ha_ ?_ | refine ldS_rd3 ha_ ?_ | fail) | ((with_reducible refine isKeep ?_); first | refine keep_of hs ?_ | refine keep_imp hs ?_ | fail) | ((with_reducible refine isWhen ?_); first | refine when_om ?_ | fail) | ((with_reducible refine isDraw ?_); first | refine drawW_sat hs fun w hs => ?_ | fail))
        refine app_one (s := want) (a := xs.getD i default) hs rfl rfl rfl rfl (by decide) (by rw [List.length_eraseIdx]; simp; split <;> omega) fun s2 w hs2 hs => ?_
        have e1 : (xs.take i).eraseIdx k ++ [xs.getD i default] = (xs.take (i + 1)).eraseIdx k := by
          rw [take_snoc (by omega)]
          by_cases hik : k < i
          · rw [List.eraseIdx_append_of_lt_length (by simp; omega)]
          · rw [List.eraseIdx_of_length_le (by simp; omega), List.eraseIdx_of_length_le (by simp; omega)]
        rw [e1] at hs
        rw [i64_in _ (by omega)]
        exact ih (i + 1) w s2 (by omega) (by exact Sat.fin hs)
      · rw [i64_in _ (by omega)]
        refine ih (i + 1) w want (by omega) ?_
        have hik : i = k := by omega
        have e1 : (xs.take (i + 1)).eraseIdx k = (xs.take i).eraseIdx k := by
          rw [take_snoc (by omega), List.eraseIdx_append_of_length_le (by simp; omega), List.eraseIdx_of_length_le (l := xs.take i) (by simp; omega)]
          simp [hik, Nat.min_eq_left (Nat.le_of_lt hlt)]
        rw [e1]; exact hs
  have loop2 : ∀ (m i : Nat) (w : World), i + m = xs.length → Sat W w [lst .string b (rowN (xs.take i)) [], old W] → hoardlaw4_ListMoves_l2 idJ (fun v w' => v = .bool true ∧ Sat W w' [old W]) (m + 1) s0 h front (some ⟨b, 0, none⟩) (i : Int) w := by
    intro m
    induction m with
    | zero =>
      intro i w hi hs
      rw [hoardlaw4_ListMoves_l2_raw]
      refine ite_false (decide_eq_false (by omega)) ?_
      rw [hoardlaw4_ListMoves_j3_def, hoardlaw4_ListMoves_j3_raw]
      rw [List.take_of_length_le (by omega)] at hs
      refine ⟨xs.length + 1, ?_⟩
      exact loop4 xs.length 0 w ⟨none, 0, 0⟩ (by omega) (by rw [List.take_zero, List.eraseIdx_nil]; exact Sat.nilR Rec.str hs)
    | succ m ih =>
      intro i w hi hs
      rw [hoardlaw4_ListMoves_l2_raw]
      refine ite_true (decide_eq_true (by omega)) ?_
      repeat (first | with_reducible refine nilck_some ?_ | ((with_reducible refine atLd ?_); first | refine ld_b hs ?_ | refine ld_b (x := ⟨_, _, _⟩) hs ?_ | refine ld_r0 hs ?_ | refine ld_r1 hs ?_ | refine ld_r2 hs ?_ | refine ld_r3 hs ?_ | refine ld_r4 hs ?_ | refine ld_rd0 ha_ hs ?_ | refine ld_rd1 ha_ hs ?_ | refine ld_rd2 ha_ hs ?_ | refine ld_rd3 ha_ hs ?_ | refine ld_rd4 ha_ hs ?_ | fail) | ((with_reducible refine isSt ?_); first | refine st_b hs fun w hs => ?_ | refine st_rec5 hs fun w hs => ?_ | refine st_rec4 hs fun w hs => ?_ | refine st_rec3 hs fun w hs => ?_ | refine st_rec2 hs fun w hs => ?_ | refine st_r0 hs fun w hs => ?_ | refine st_r1 hs fun w hs => ?_ | fail) | ((with_reducible refine isIdx ?_); first | refine idx_s hs fun b_ o_ hs => ?_ | refine idx_a hs ?_ | refine idx_rd hs fun b_ o_ ha_ => ?_ | fail) | ((with_reducible refine isNew ?_); first | refine newB_at hs fun b_ w hs => ?_ | fail) | ((with_reducible refine isLdS ?_); first | refine ldS_b ?_ | refine ldS_b (x := ⟨_, _, _⟩) ?_ | refine ldS_r0 ?_ | refine ldS_r1 ?_ | refine ldS_r2 ?_ | refine ldS_r3 ?_ | refine ldS_rs0 hs ?_ | refine ldS_rs1 hs ?_ | refine ldS_rs2 hs ?_ | refine ldS_rs3 hs ?_ | refine ldS_rd0 ha_ ?_ | refine ldS_rd1 ha_ ?_ | refine ldS_rd2 ha_ ?_ | refine ldS_rd3 ha_ ?_ | fail) | ((with_reducible refine isKeep ?_); first | refine keep_of hs ?_ | refine keep_imp hs ?_ | fail) | ((with_reducible refine isWhen ?_); first | refine when_om ?_ | fail) | ((with_reducible refine isDraw ?_); first | refine drawW_sat hs fun w hs => ?_ | fail))
      refine call1_of (string_PushBack hs (by rw [rowN_len]; simp; omega)) fun e w ⟨he, hs⟩ => ⟨_, he, ?_⟩
      rw [rowN_push, Int.toNat_natCast, ← take_snoc (by omega)] at hs
      rw [i64_in _ (by omega)]
      exact ih (i + 1) w (by omega) hs
  refine ⟨xs.length + 1, ?_⟩
  exact loop2 xs.length 0 w (by omega) hs

/-! ListNumbers -/
theorem numbers_walk {s0 s1 : Sl} {xs : List Int} {fs : List Bool} [hr : ReadsR W s0 (Rec.int .i64) xs] [hr1 : ReadsR W s1 Rec.bool fs] (hf : fs.length < 4611686018427387904) : Calls Try.prog id_hoardlaw4_ListNumbers #[.slice s0.a s0.n s0.c, .slice s1.a s1.n s1.c] W fun e w' => e = .returned (.bool true) ∧ KeptH W w' := by
  have hs := Sat.begin W
  refine law_of (hoardlaw4_ListNumbers_calls ?_)
  rw [hoardlaw4_ListNumbers_def, hoardlaw4_ListNumbers_raw]
  have hn := rdb_len (s := s0) hs
  have hn1 := rdb_len (s := s1) hs
  (first | with_reducible refine ite_ltI (fun h1 => ?_) (fun h1 => ?_) | with_reducible refine ite_leI (fun h1 => ?_) (fun h1 => ?_) | with_reducible refine ite_gtI (fun h1 => ?_) (fun h1 => ?_) | with_reducible refine ite_geI (fun h1 => ?_) (fun h1 => ?_) | with_reducible refine ite_eqI (fun h1 => ?_) (fun h1 => ?_) | with_reducible refine ite_neI (fun h1 => ?_) (fun h1 => ?_) | with_reducible refine ite_eqS (fun h1 => ?_) (fun h1 => ?_) | with_reducible refine ite_neS (fun h1 => ?_) (fun h1 => ?_) | with_reducible refine ite_dec (fun h1 => ?_) (fun h1 => ?_) | with_reducible refine ite_ndec (fun h1 => ?_) (fun h1 => ?_) | with_reducible refine ite_some (fun i_ h1 => ?_) (fun h1 => ?_) | with_reducible refine ite_nsome (fun h1 => ?_) (fun i_ h1 => ?_) | with_reducible refine ite_cases (fun h1 => ?_) (fun h1 => ?_))
  · exact ⟨rfl, hs⟩
  refine (int_New hs).mono fun e w ⟨b, he, hs⟩ => ⟨_, he, ?_⟩
  have tail : ∀ (w : World) (row : List (Nat × Int)) (all : Sl), row.length = xs.length → Sat W w [recs (Rec.int .i64) all (row.map (·.2)), lst (Value.int .i64) b row [], old W] → hoardlaw4_ListNumbers_j4 idJ (fun v w' => v = .bool true ∧ Sat W w' [old W]) s0 (some ⟨b, 0, none⟩) all w := by
    intro w row all hl hs
    rw [hoardlaw4_ListNumbers_j4_def, hoardlaw4_ListNumbers_j4_raw]
    refine call1_of (int_Front hs) fun e w ⟨he, hs⟩ => ⟨_, he, ?_⟩
    refine call1_of (int_Back hs) fun e w ⟨he, hs⟩ => ⟨_, he, ?_⟩
    have hal := (recs_len (s := all) hs).1
    simp only [List.length_map] at hal
    have hnd := (lst_facts (hs.perm (List.Perm.swap _ _ _))).1
    have loop : ∀ (m i : Nat) (w : World), i + m = row.length → Sat W w [recs (Rec.int .i64) all (row.map (·.2)), lst (Value.int .i64) b row [], old W] →
        hoardlaw4_ListNumbers_l5 idJ (fun v w' => v = .bool true ∧ Sat W w' [old W]) (m + 1) s0 (some ⟨b, 0, none⟩) all (rowPlace row i : Int) ((if i < row.length then rowPlace row (row.length - 1 - i) else 0 : Nat) : Int) (i : Int) w := by
      intro m
      induction m with
      | zero =>
        intro i w hi hs
        rw [hoardlaw4_ListNumbers_l5_raw]
        refine ite_false (decide_eq_false (by omega)) ?_
        rw [hoardlaw4_ListNumbers_j6_def, hoardlaw4_ListNumbers_j6_raw]
        rw [rowPlace_none (by omega), if_neg (by omega)]
        refine ite_true rfl (ite_true rfl ?_)
        exact call1_of (known4 hs) fun e w ⟨he, hs⟩ => ⟨_, he, rfl, by exact Sat.fin hs⟩
      | succ m ih =>
        intro i w hi hs
        rw [hoardlaw4_ListNumbers_l5_raw, if_pos (by omega)]
        refine ite_true (decide_eq_true (by omega)) ?_
        have r1 := rAt_place hnd (i := i) (by omega)
        have r2 := rAt_place hnd (i := row.length - 1 - i) (by omega)
        have v1 : (rowVal row (rowPlace row i : Int)) = some (row.getD i default).2 := by unfold rowVal; rw [r1]; simp only []; rw [getD_some (by omega)]; rfl
        have v2 : (rowVal row (rowPlace row (row.length - 1 - i) : Int)) = some (row.getD (row.length - 1 - i) default).2 := by unfold rowVal; rw [r2]; simp only []; rw [getD_some (by omega)]; rfl
        refine call2_of (int_Get hs) fun e w ⟨he, hs⟩ => ⟨_, _, he, ?_⟩
        refine call2_of (int_Get hs) fun e w ⟨he, hs⟩ => ⟨_, _, he, ?_⟩
        refine ite_false (by rw [r1]; rfl) (ite_false (by rw [r2]; rfl) ?_)
        have hg : ∀ j, j < row.length → (row.map (·.2)).getD j default = (row.getD j default).2 := by
          intro j hj
          rw [List.getD_eq_getElem?_getD, List.getD_eq_getElem?_getD, List.getElem?_map, List.getElem?_eq_getElem hj]; rfl
        repeat (first | with_reducible refine nilck_some ?_ | ((with_reducible refine atLd ?_); first | refine ld_b hs ?_ | refine ld_b (x := ⟨_, _, _⟩) hs ?_ | refine ld_r0 hs ?_ | refine ld_r1 hs ?_ | refine ld_r2 hs ?_ | refine ld_r3 hs ?_ | refine ld_r4 hs ?_ | refine ld_rd0 ha_ hs ?_ | refine ld_rd1 ha_ hs ?_ | refine ld_rd2 ha_ hs ?_ | refine ld_rd3 ha_ hs ?_ | refine ld_rd4 ha_ hs ?_ | fail) | ((with_reducible refine isSt ?_); first | refine st_b hs fun w hs => ?_ | refine st_rec5 hs fun w hs => ?_ | refine st_rec4 hs fun w hs => ?_ | refine st_rec3 hs fun w hs => ?_ | refine st_rec2 hs fun w hs => ?_ | refine st_r0 hs fun w hs => ?_ | refine st_r1 hs fun w hs => ?_ | fail) | ((with_reducible refine isIdx ?_); first | refine idx_s hs fun b_ o_ hs => ?_ | refine idx_a hs ?_ | refine idx_rd hs fun b_ o_ ha_ => ?_ | fail) | ((with_reducible refine isNew ?_); first | refine newB_at hs fun b_ w hs => ?_ | fail) | ((with_reducible refine isLdS ?_); first | refine ldS_b ?_ | refine ldS_b (x := ⟨_, _, _⟩) ?_ | refine ldS_r0 ?_ | refine ldS_r1 ?_ | refine ldS_r2 ?_ | refine ldS_r3 ?_ | refine ldS_rs0 hs ?_ | refine ldS_rs1 hs ?_ | refine ldS_rs2 hs ?_ | refine ldS_rs3 hs ?_ | refine ldS_rd0 ha_ ?_ | refine ldS_rd1 ha_ ?_ | refine ldS_rd2 ha_ ?_ | refine ldS_rd3 ha_ ?_ | fail) | ((with_reducible refine isKeep ?_); first | refine keep_of hs ?_ | refine keep_imp hs ?_ | fail) | ((with_reducible refine isWhen ?_); first | refine when_om ?_ | fail) | ((with_reducible refine isDraw ?_); first | refine drawW_sat hs fun w hs => ?_ | fail))
        rw [Int.toNat_natCast, v1, v2, hg i (by omega)]
        refine ite_false (by simp) ?_
        have hw2 : IntKind.wrap .i64 (IntKind.wrap .i64 ((s0.n : Int) - 1) - (i : Int)) = ((row.length - 1 - i : Nat) : Int) := by
          rw [i64_in ((s0.n : Int) - 1) (by omega), i64_in _ (by omega)]; omega
        rw [hw2]
        repeat (first | with_reducible refine nilck_some ?_ | ((with_reducible refine atLd ?_); first | refine ld_b hs ?_ | refine ld_b (x := ⟨_, _, _⟩) hs ?_ | refine ld_r0 hs ?_ | refine ld_r1 hs ?_ | refine ld_r2 hs ?_ | refine ld_r3 hs ?_ | refine ld_r4 hs ?_ | refine ld_rd0 ha_ hs ?_ | refine ld_rd1 ha_ hs ?_ | refine ld_rd2 ha_ hs ?_ | refine ld_rd3 ha_ hs ?_ | refine ld_rd4 ha_ hs ?_ | fail) | ((with_reducible refine isSt ?_); first | refine st_b hs fun w hs => ?_ | refine st_rec5 hs fun w hs => ?_ | refine st_rec4 hs fun w hs => ?_ | refine st_rec3 hs fun w hs => ?_ | refine st_rec2 hs fun w hs => ?_ | refine st_r0 hs fun w hs => ?_ | refine st_r1 hs fun w hs => ?_ | fail) | ((with_reducible refine isIdx ?_); first | refine idx_s hs fun b_ o_ hs => ?_ | refine idx_a hs ?_ | refine idx_rd hs fun b_ o_ ha_ => ?_ | fail) | ((with_reducible refine isNew ?_); first | refine newB_at hs fun b_ w hs => ?_ | fail) | ((with_reducible refine isLdS ?_); first | refine ldS_b ?_ | refine ldS_b (x := ⟨_, _, _⟩) ?_ | refine ldS_r0 ?_ | refine ldS_r1 ?_ | refine ldS_r2 ?_ | refine ldS_r3 ?_ | refine ldS_rs0 hs ?_ | refine ldS_rs1 hs ?_ | refine ldS_rs2 hs ?_ | refine ldS_rs3 hs ?_ | refine ldS_rd0 ha_ ?_ | refine ldS_rd1 ha_ ?_ | refine ldS_rd2 ha_ ?_ | refine ldS_rd3 ha_ ?_ | fail) | ((with_reducible refine isKeep ?_); first | refine keep_of hs ?_ | refine keep_imp hs ?_ | fail) | ((with_reducible refine isWhen ?_); first | refine when_om ?_ | fail) | ((with_reducible refine isDraw ?_); first | refine drawW_sat hs fun w hs => ?_ | fail))
        rw [Int.toNat_natCast, hg _ (by omega)]
        refine ite_false (by simp) ?_
        refine call1_of (int_Next hs) fun e w ⟨he, hs⟩ => ⟨_, he, ?_⟩
        refine call1_of (int_Prev hs) fun e w ⟨he, hs⟩ => ⟨_, he, ?_⟩
        rw [rowNext_place hnd (by omega), i64_in _ (by omega)]
        have e3 : rowPrev row (rowPlace row (row.length - 1 - i) : Int) = (if i + 1 < row.length then rowPlace row (row.length - 1 - (i + 1)) else 0) := by
          unfold rowPrev
          rw [r2]
          by_cases h9 : i + 1 < row.length
          · rw [if_pos h9]
            obtain ⟨q, hq⟩ : ∃ q, row.length - 1 - i = q + 1 := ⟨row.length - 1 - i - 1, by omega⟩
            rw [hq]
            simp only []
            congr 1; omega
          · rw [if_neg h9]
            have : row.length - 1 - i = 0 := by omega
            rw [this]
        rw [e3]
        exact ih (i + 1) w (by omega) (by exact Sat.fin hs)
    refine ⟨row.length + 1, ?_⟩
    have hl0 := loop row.length 0 w (by omega) hs
    have e4 : rowLast row = (if 0 < row.length then rowPlace row (row.length - 1 - 0) else 0) := by
      unfold rowLast
      by_cases h9 : row.length = 0
      · rw [if_pos h9, if_neg (by omega)]
      · rw [if_neg h9, if_pos (by omega)]; rfl
    rw [e4]
    exact hl0
  have loop1 : ∀ (m i : Nat) (w : World) (row : List (Nat × Int)), i + m = xs.length → row.length = i → Sat W w [lst (Value.int .i64) b row [], old W] → hoardlaw4_ListNumbers_l1 idJ (fun v w' => v = .bool true ∧ Sat W w' [old W]) (m + 1) s0 s1 (some ⟨b, 0, none⟩) (i : Int) w := by
    intro m
    induction m with
    | zero =>
      intro i w row hi hl hs
      rw [hoardlaw4_ListNumbers_l1_raw]
      refine ite_false (decide_eq_false (by omega)) ?_
      rw [hoardlaw4_ListNumbers_j3_def, hoardlaw4_ListNumbers_j3_raw]
      refine (int_All hs (by simp; omega)).mono fun e w ⟨all, he, hs⟩ => ⟨_, he, ?_⟩
      have hal := (recs_len (s := all) hs).1
      simp only [List.length_map] at hal
      (first | with_reducible refine ite_ltI (fun h9 => ?_) (fun h9 => ?_) | with_reducible refine ite_leI (fun h9 => ?_) (fun h9 => ?_) | with_reducible refine ite_gtI (fun h9 => ?_) (fun h9 => ?_) | with_reducible refine ite_geI (fun h9 => ?_) (fun h9 => ?_) | with_reducible refine ite_eqI (fun h9 => ?_) (fun h9 => ?_) | with_reducible refine ite_neI (fun h9 => ?_) (fun h9 => ?_) | with_reducible refine ite_eqS (fun h9 => ?_) (fun h9 => ?_) | with_reducible refine ite_neS (fun h9 => ?_) (fun h9 => ?_) | with_reducible refine ite_dec (fun h9 => ?_) (fun h9 => ?_) | with_reducible refine ite_ndec (fun h9 => ?_) (fun h9 => ?_) | with_reducible refine ite_some (fun i_ h9 => ?_) (fun h9 => ?_) | with_reducible refine ite_nsome (fun h9 => ?_) (fun i_ h9 => ?_) | with_reducible refine ite_cases (fun h9 => ?_) (fun h9 => ?_))
      · exact absurd h9 (by omega)
      refine call1_of (int_Len hs) fun e w ⟨he, hs⟩ => ⟨_, he, ?_⟩
      (first | with_reducible refine ite_ltI (fun h9 => ?_) (fun h9 => ?_) | with_reducible refine ite_leI (fun h9 => ?_) (fun h9 => ?_) | with_reducible refine ite_gtI (fun h9 => ?_) (fun h9 => ?_) | with_reducible refine ite_geI (fun h9 => ?_) (fun h9 => ?_) | with_reducible refine ite_eqI (fun h9 => ?_) (fun h9 => ?_) | with_reducible refine ite_neI (fun h9 => ?_) (fun h9 => ?_) | with_reducible refine ite_eqS (fun h9 => ?_) (fun h9 => ?_) | with_reducible refine ite_neS (fun h9 => ?_) (fun h9 => ?_) | with_reducible refine ite_dec (fun h9 => ?_) (fun h9 => ?_) | with_reducible refine ite_ndec (fun h9 => ?_) (fun h9 => ?_) | with_reducible refine ite_some (fun i_ h9 => ?_) (fun h9 => ?_) | with_reducible refine ite_nsome (fun h9 => ?_) (fun i_ h9 => ?_) | with_reducible refine ite_cases (fun h9 => ?_) (fun h9 => ?_))
      · exact absurd h9 (by omega)
      exact tail w row all (by omega) hs
    | succ m ih =>
      intro i w row hi hl hs
      have step : ∀ (t : Bool) (w : World), Sat W w [lst (Value.int .i64) b row [], old W] → hoardlaw4_ListNumbers_j2 idJ (fun v w' => v = .bool true ∧ Sat W w' [old W]) (m + 1) s0 s1 (some ⟨b, 0, none⟩) (i : Int) t w := by
        intro t w hs
        rw [hoardlaw4_ListNumbers_j2_def, hoardlaw4_ListNumbers_j2_raw]
        refine ite_cases (fun _ => ?_) (fun _ => ?_)
        · repeat (first | with_reducible refine nilck_some ?_ | ((with_reducible refine atLd ?_); first | refine ld_b hs ?_ | refine ld_b (x := ⟨_, _, _⟩) hs ?_ | refine ld_r0 hs ?_ | refine ld_r1 hs ?_ | refine ld_r2 hs ?_ | refine ld_r3 hs ?_ | refine ld_r4 hs ?_ | refine ld_rd0 ha_ hs ?_ | refine ld_rd1 ha_ hs ?_ | refine ld_rd2 ha_ hs ?_ | refine ld_rd3 ha_ hs ?_ | refine ld_rd4 ha_ hs ?_ | fail) | ((with_reducible refine isSt ?_); first | refine st_b hs fun w hs => ?_ | refine st_rec5 hs fun w hs => ?_ | refine st_rec4 hs fun w hs => ?_ | refine st_rec3 hs fun w hs => ?_ | refine st_rec2 hs fun w hs => ?_ | refine st_r0 hs fun w hs => ?_ | refine st_r1 hs fun w hs => ?_ | fail) | ((with_reducible refine isIdx ?_); first | refine idx_s hs fun b_ o_ hs => ?_ | refine idx_a hs ?_ | refine idx_rd hs fun b_ o_ ha_ => ?_ | fail) | ((with_reducible refine isNew ?_); first | refine newB_at hs fun b_ w hs => ?_ | fail) | ((with_reducible refine isLdS ?_); first | refine ldS_b ?_ | refine ldS_b (x := ⟨_, _, _⟩) ?_ | refine ldS_r0 ?_ | refine ldS_r1 ?_ | refine ldS_r2 ?_ | refine ldS_r3 ?_ | refine ldS_rs0 hs ?_ | refine ldS_rs1 hs ?_ | refine ldS_rs2 hs ?_ | refine ldS_rs3 hs ?_ | refine ldS_rd0 ha_ ?_ | refine ldS_rd1 ha_ ?_ | refine ldS_rd2 ha_ ?_ | refine ldS_rd3 ha_ ?_ | fail) | ((with_reducible refine isKeep ?_); first | refine keep_of hs ?_ | refine keep_imp hs ?_ | fail) | ((with_reducible refine isWhen ?_); first | refine when_om ?_ | fail) | ((with_reducible refine isDraw ?_); first | refine drawW_sat hs fun w hs => ?_ | fail))
          refine call1_of (int_PushFront hs (by simp; omega)) fun e w ⟨he, hs⟩ => ⟨_, he, ?_⟩
          rw [i64_in _ (by omega)]
          exact ih (i + 1) w _ (by omega) (by simp; omega) hs
        · repeat (first | with_reducible refine nilck_some ?_ | ((with_reducible refine atLd ?_); first | refine ld_b hs ?_ | refine ld_b (x := ⟨_, _, _⟩) hs ?_ | refine ld_r0 hs ?_ | refine ld_r1 hs ?_ | refine ld_r2 hs ?_ | refine ld_r3 hs ?_ | refine ld_r4 hs ?_ | refine ld_rd0 ha_ hs ?_ | refine ld_rd1 ha_ hs ?_ | refine ld_rd2 ha_ hs ?_ | refine ld_rd3 ha_ hs ?_ | refine ld_rd4 ha_ hs ?_ | fail) | ((with_reducible refine isSt ?_); first | refine st_b hs fun w hs => ?_ | refine st_rec5 hs fun w hs => ?_ | refine st_rec4 hs fun w hs => ?_ | refine st_rec3 hs fun w hs => ?_ | refine st_rec2 hs fun w hs => ?_ | refine st_r0 hs fun w hs => ?_ | refine st_r1 hs fun w hs => ?_ | fail) | ((with_reducible refine isIdx ?_); first | refine idx_s hs fun b_ o_ hs => ?_ | refine idx_a hs ?_ | refine idx_rd hs fun b_ o_ ha_ => ?_ | fail) | ((with_reducible refine isNew ?_); first | refine newB_at hs fun b_ w hs => ?_ | fail) | ((with_reducible refine isLdS ?_); first | refine ldS_b ?_ | refine ldS_b (x := ⟨_, _, _⟩) ?_ | refine ldS_r0 ?_ | refine ldS_r1 ?_ | refine ldS_r2 ?_ | refine ldS_r3 ?_ | refine ldS_rs0 hs ?_ | refine ldS_rs1 hs ?_ | refine ldS_rs2 hs ?_ | refine ldS_rs3 hs ?_ | refine ldS_rd0 ha_ ?_ | refine ldS_rd1 ha_ ?_ | refine ldS_rd2 ha_ ?_ | refine ldS_rd3 ha_ ?_ | fail) | ((with_reducible refine isKeep ?_); first | refine keep_of hs ?_ | refine keep_imp hs ?_ | fail) | ((with_reducible refine isWhen ?_); first | refine when_om ?_ | fail) | ((with_reducible refine isDraw ?_); first | refine drawW_sat hs fun w hs => ?_ | fail))
          refine call1_of (int_PushBack hs (by simp; omega)) fun e w ⟨he, hs⟩ => ⟨_, he, ?_⟩
          rw [i64_in _ (by omega)]
          exact ih (i + 1) w _ (by omega) (by simp; omega) hs
      rw [hoardlaw4_ListNumbers_l1_raw]
      refine ite_true (decide_eq_true (by omega)) ?_
      (first | with_reducible refine ite_ltI (fun h3 => ?_) (fun h3 => ?_) | with_reducible refine ite_leI (fun h3 => ?_) (fun h3 => ?_) | with_reducible refine ite_gtI (fun h3 => ?_) (fun h3 => ?_) | with_reducible refine ite_geI (fun h3 => ?_) (fun h3 => ?_) | with_reducible refine ite_eqI (fun h3 => ?_) (fun h3 => ?_) | with_reducible refine ite_neI (fun h3 => ?_) (fun h3 => ?_) | with_reducible refine ite_eqS (fun h3 => ?_) (fun h3 => ?_) | with_reducible refine ite_neS (fun h3 => ?_) (fun h3 => ?_) | with_reducible refine ite_dec (fun h3 => ?_) (fun h3 => ?_) | with_reducible refine ite_ndec (fun h3 => ?_) (fun h3 => ?_) | with_reducible refine ite_some (fun i_ h3 => ?_) (fun h3 => ?_) | with_reducible refine ite_nsome (fun h3 => ?_) (fun i_ h3 => ?_) | with_reducible refine ite_cases (fun h3 => ?_) (fun h3 => ?_))
      · repeat (first | with_reducible refine nilck_some ?_ | ((with_reducible refine atLd ?_); first | refine ld_b hs ?_ | refine ld_b (x := ⟨_, _, _⟩) hs ?_ | refine ld_r0 hs ?_ | refine ld_r1 hs ?_ | refine ld_r2 hs ?_ | refine ld_r3 hs ?_ | refine ld_r4 hs ?_ | refine ld_rd0 ha_ hs ?_ | refine ld_rd1 ha_ hs ?_ | refine ld_rd2 ha_ hs ?_ | refine ld_rd3 ha_ hs ?_ | refine ld_rd4 ha_ hs ?_ | fail) | ((with_reducible refine isSt ?_); first | refine st_b hs fun w hs => ?_ | refine st_rec5 hs fun w hs => ?_ | refine st_rec4 hs fun w hs => ?_ | refine st_rec3 hs fun w hs => ?_ | refine st_rec2 hs fun w hs => ?_ | refine st_r0 hs fun w hs => ?_ | refine st_r1 hs fun w hs => ?_ | fail) | ((with_reducible refine isIdx ?_); first | refine idx_s hs fun b_ o_ hs => ?_ | refine idx_a hs ?_ | refine idx_rd hs fun b_ o_ ha_ => ?_ | fail) | ((with_reducible refine isNew ?_); first | refine newB_at hs fun b_ w hs => ?_ | fail) | ((with_reducible refine isLdS ?_); first | refine ldS_b ?_ | refine ldS_b (x := ⟨_, _, _⟩) ?_ | refine ldS_r0 ?_ | refine ldS_r1 ?_ | refine ldS_r2 ?_ | refine ldS_r3 ?_ | refine ldS_rs0 hs ?_ | refine ldS_rs1 hs ?_ | refine ldS_rs2 hs ?_ | refine ldS_rs3 hs ?_ | refine ldS_rd0 ha_ ?_ | refine ldS_rd1 ha_ ?_ | refine ldS_rd2 ha_ ?_ | refine ldS_rd3 ha_ ?_ | fail) | ((with_reducible refine isKeep ?_); first | refine keep_of hs ?_ | refine keep_imp hs ?_ | fail) | ((with_reducible refine isWhen ?_); first | refine when_om ?_ | fail) | ((with_reducible refine isDraw ?_); first | refine drawW_sat hs fun w hs => ?_ | fail))
        exact step _ w hs
      · exact step _ w hs
  refine ⟨xs.length + 1, ?_⟩
  exact loop1 xs.length 0 w [] (by omega) rfl hs

/-! ListHandles -/
theorem handles_walk {s0 : Sl} {acts : List Act4} [hr : ReadsR W s0 act4R acts] : Calls Try.prog id_hoardlaw4_ListHandles #[.slice s0.a s0.n s0.c] W fun e w' => e = .returned (.bool true) ∧ KeptH W w' := by
  have hs := Sat.begin W
  refine law_of (hoardlaw4_ListHandles_calls ?_)
  rw [hoardlaw4_ListHandles_def, hoardlaw4_ListHandles_raw]
  refine (heavy4 (s0 := s0) hs).mono fun e w ⟨hv, he, hs⟩ => ⟨_, he, ?_⟩
  (first | with_reducible refine ite_ltI (fun h1 => ?_) (fun h1 => ?_) | with_reducible refine ite_leI (fun h1 => ?_) (fun h1 => ?_) | with_reducible refine ite_gtI (fun h1 => ?_) (fun h1 => ?_) | with_reducible refine ite_geI (fun h1 => ?_) (fun h1 => ?_) | with_reducible refine ite_eqI (fun h1 => ?_) (fun h1 => ?_) | with_reducible refine ite_neI (fun h1 => ?_) (fun h1 => ?_) | with_reducible refine ite_eqS (fun h1 => ?_) (fun h1 => ?_) | with_reducible refine ite_neS (fun h1 => ?_) (fun h1 => ?_) | with_reducible refine ite_dec (fun h1 => ?_) (fun h1 => ?_) | with_reducible refine ite_ndec (fun h1 => ?_) (fun h1 => ?_) | with_reducible refine ite_some (fun i_ h1 => ?_) (fun h1 => ?_) | with_reducible refine ite_nsome (fun h1 => ?_) (fun i_ h1 => ?_) | with_reducible refine ite_cases (fun h1 => ?_) (fun h1 => ?_))
  · exact ⟨rfl, hs⟩
  refine (string_New hs).mono fun e w ⟨b, he, hs⟩ => ⟨_, he, ?_⟩
  refine newB_at hs fun b2 w hs => ?_
  have hs : Sat W w [lst .string b [] [], rlst b2 [] [], old W] := (rlst_new hs).perm (List.Perm.swap _ _ _)
  have fin : ∀ w row free, Sat W w [lst .string b row free, rlst b2 row free, old W] → hoardlaw4_ListHandles_j7 idJ (fun v w' => v = .bool true ∧ Sat W w' [old W]) w := by
    intro w row free hs
    rw [hoardlaw4_ListHandles_j7_def, hoardlaw4_ListHandles_j7_raw]
    exact call1_of (known4 hs) fun e w ⟨he, hs⟩ => ⟨_, he, rfl, by exact Sat.fin hs⟩
  obtain ⟨N, hN⟩ : ∃ N : Nat, N = 151 := ⟨_, rfl⟩
  have loop : ∀ (m i : Nat) (w : World) (row : List (Nat × ByteArray)) (free : List Nat) (most : Nat), i + m = N → row.length + free.length ≤ i → row.length + free.length ≤ most → most ≤ i → Sat W w [lst .string b row free, rlst b2 row free, old W] → hoardlaw4_ListHandles_l1 idJ (fun v w' => v = .bool true ∧ Sat W w' [old W]) (m + 1) s0 (some ⟨b, 0, none⟩) b2 0 (most : Int) (i : Int) w := by
    intro m
    induction m with
    | zero =>
      intro i w row free most hi hl hm hmi hs
      rw [hoardlaw4_ListHandles_l1_raw]
      (first | with_reducible refine ite_ltI (fun h1 => ?_) (fun h1 => ?_) | with_reducible refine ite_leI (fun h1 => ?_) (fun h1 => ?_) | with_reducible refine ite_gtI (fun h1 => ?_) (fun h1 => ?_) | with_reducible refine ite_geI (fun h1 => ?_) (fun h1 => ?_) | with_reducible refine ite_eqI (fun h1 => ?_) (fun h1 => ?_) | with_reducible refine ite_neI (fun h1 => ?_) (fun h1 => ?_) | with_reducible refine ite_eqS (fun h1 => ?_) (fun h1 => ?_) | with_reducible refine ite_neS (fun h1 => ?_) (fun h1 => ?_) | with_reducible refine ite_dec (fun h1 => ?_) (fun h1 => ?_) | with_reducible refine ite_ndec (fun h1 => ?_) (fun h1 => ?_) | with_reducible refine ite_some (fun i_ h1 => ?_) (fun h1 => ?_) | with_reducible refine ite_nsome (fun h1 => ?_) (fun i_ h1 => ?_) | with_reducible refine ite_cases (fun h1 => ?_) (fun h1 => ?_))
      · with_reducible refine ite_ltI (fun h2 => absurd h2 (by omega)) (fun h2 => fin w row free hs)
      · exact fin w row free hs
    | succ m ih =>
      intro i w row free most hi hl hm hmi hs
      have hn := rdb_len (s := s0) hs
      rw [hoardlaw4_ListHandles_l1_raw]
      (first | with_reducible refine ite_ltI (fun h1 => ?_) (fun h1 => ?_) | with_reducible refine ite_leI (fun h1 => ?_) (fun h1 => ?_) | with_reducible refine ite_gtI (fun h1 => ?_) (fun h1 => ?_) | with_reducible refine ite_geI (fun h1 => ?_) (fun h1 => ?_) | with_reducible refine ite_eqI (fun h1 => ?_) (fun h1 => ?_) | with_reducible refine ite_neI (fun h1 => ?_) (fun h1 => ?_) | with_reducible refine ite_eqS (fun h1 => ?_) (fun h1 => ?_) | with_reducible refine ite_neS (fun h1 => ?_) (fun h1 => ?_) | with_reducible refine ite_dec (fun h1 => ?_) (fun h1 => ?_) | with_reducible refine ite_ndec (fun h1 => ?_) (fun h1 => ?_) | with_reducible refine ite_some (fun i_ h1 => ?_) (fun h1 => ?_) | with_reducible refine ite_nsome (fun h1 => ?_) (fun i_ h1 => ?_) | with_reducible refine ite_cases (fun h1 => ?_) (fun h1 => ?_))
      · (first | with_reducible refine ite_ltI (fun h2 => ?_) (fun h2 => ?_) | with_reducible refine ite_leI (fun h2 => ?_) (fun h2 => ?_) | with_reducible refine ite_gtI (fun h2 => ?_) (fun h2 => ?_) | with_reducible refine ite_geI (fun h2 => ?_) (fun h2 => ?_) | with_reducible refine ite_eqI (fun h2 => ?_) (fun h2 => ?_) | with_reducible refine ite_neI (fun h2 => ?_) (fun h2 => ?_) | with_reducible refine ite_eqS (fun h2 => ?_) (fun h2 => ?_) | with_reducible refine ite_neS (fun h2 => ?_) (fun h2 => ?_) | with_reducible refine ite_dec (fun h2 => ?_) (fun h2 => ?_) | with_reducible refine ite_ndec (fun h2 => ?_) (fun h2 => ?_) | with_reducible refine ite_some (fun i_ h2 => ?_) (fun h2 => ?_) | with_reducible refine ite_nsome (fun h2 => ?_) (fun i_ h2 => ?_) | with_reducible refine ite_cases (fun h2 => ?_) (fun h2 => ?_))
        · rw [hoardlaw4_ListHandles_j2_def, hoardlaw4_ListHandles_j2_raw]
          repeat (first | with_reducible refine nilck_some ?_ | ((with_reducible refine atLd ?_); first | refine ld_b hs ?_ | refine ld_b (x := ⟨_, _, _⟩) hs ?_ | refine ld_r0 hs ?_ | refine ld_r1 hs ?_ | refine ld_r2 hs ?_ | refine ld_r3 hs ?_ | refine ld_r4 hs ?_ | refine ld_rd0 ha_ hs ?_ | refine ld_rd1 ha_ hs ?_ | refine ld_rd2 ha_ hs ?_ | refine ld_rd3 ha_ hs ?_ | refine ld_rd4 ha_ hs ?_ | fail) | ((with_reducible refine isSt ?_); first | refine st_b hs fun w hs => ?_ | refine st_rec5 hs fun w hs => ?_ | refine st_rec4 hs fun w hs => ?_ | refine st_rec3 hs fun w hs => ?_ | refine st_rec2 hs fun w hs => ?_ | refine st_r0 hs fun w hs => ?_ | refine st_r1 hs fun w hs => ?_ | fail) | ((with_reducible refine isIdx ?_); first | refine idx_s hs fun b_ o_ hs => ?_ | refine idx_a hs ?_ | refine idx_rd hs fun b_ o_ ha_ => ?_ | fail) | ((with_reducible refine isNew ?_); first | refine newB_at hs fun b_ w hs => ?_ | fail) | ((with_reducible refine isLdS ?_); first | refine ldS_b ?_ | refine ldS_b (x := ⟨_, _, _⟩) ?_ | refine ldS_r0 ?_ | refine ldS_r1 ?_ | refine ldS_r2 ?_ | refine ldS_r3 ?_ | refine ldS_rs0 hs ?_ | refine ldS_rs1 hs ?_ | refine ldS_rs2 hs ?_ | refine ldS_rs3 hs ?_ | refine ldS_rd0 ha_ ?_ | refine ldS_rd1 ha_ ?_ | refine ldS_rd2 ha_ ?_ | refine ldS_rd3 ha_ ?_ | fail) | ((with_reducible refine isKeep ?_); first | refine keep_of hs ?_ | refine keep_imp hs ?_ | fail) | ((with_reducible refine isWhen ?_); first | refine when_om ?_ | fail) | ((with_reducible refine isDraw ?_); first | refine drawW_sat hs fun w hs => ?_ | fail))
          refine call1_of (act4_at (by omega) hs) fun e w ⟨he, row', free', hl2, hl3, hs⟩ => ⟨_, he, ?_⟩
          refine call1_of (string_Len hs) fun e w ⟨he, hs⟩ => ⟨_, he, ?_⟩
          refine call1_of (string_Front hs) fun e w ⟨he, hs⟩ => ⟨_, he, ?_⟩
          have em : (if (row'.length : Int) > (most : Int) then (row'.length : Int) else (most : Int)) = ((max most row'.length : Nat) : Int) := by
            split <;> omega
          rw [em]
          have hmm : row'.length + free'.length ≤ max most row'.length := by omega
          have hmi2 : max most row'.length ≤ i + 1 := by omega
          generalize max most row'.length = most' at hmm hmi2
          have hf := lst_facts hs
          have inner : ∀ (m3 j : Nat) (w : World), j + m3 = row'.length → Sat W w [lst .string b row' free', rlst b2 row' free', old W] → hoardlaw4_ListHandles_l3 idJ (fun v w' => v = .bool true ∧ Sat W w' [old W]) (m + 1) (m3 + 1) s0 (some ⟨b, 0, none⟩) b2 0 (most' : Int) (i : Int) (j : Int) (rowPlace row' j : Int) w := by
            intro m3
            induction m3 with
            | zero =>
              intro j w hj hs
              rw [hoardlaw4_ListHandles_l3_raw, rowPlace_none (by omega)]
              refine ite_false rfl ?_
              rw [hoardlaw4_ListHandles_j5_def, hoardlaw4_ListHandles_j5_raw]
              refine call1_of (string_Len hs) fun e w ⟨he, hs⟩ => ⟨_, he, ?_⟩
              (first | with_reducible refine ite_ltI (fun h9 => ?_) (fun h9 => ?_) | with_reducible refine ite_leI (fun h9 => ?_) (fun h9 => ?_) | with_reducible refine ite_gtI (fun h9 => ?_) (fun h9 => ?_) | with_reducible refine ite_geI (fun h9 => ?_) (fun h9 => ?_) | with_reducible refine ite_eqI (fun h9 => ?_) (fun h9 => ?_) | with_reducible refine ite_neI (fun h9 => ?_) (fun h9 => ?_) | with_reducible refine ite_eqS (fun h9 => ?_) (fun h9 => ?_) | with_reducible refine ite_neS (fun h9 => ?_) (fun h9 => ?_) | with_reducible refine ite_dec (fun h9 => ?_) (fun h9 => ?_) | with_reducible refine ite_ndec (fun h9 => ?_) (fun h9 => ?_) | with_reducible refine ite_some (fun i_ h9 => ?_) (fun h9 => ?_) | with_reducible refine ite_nsome (fun h9 => ?_) (fun i_ h9 => ?_) | with_reducible refine ite_cases (fun h9 => ?_) (fun h9 => ?_))
              · exact absurd h9 (by omega)
              rw [hoardlaw4_ListHandles_j6_def, hoardlaw4_ListHandles_j6_raw, i64_in _ (by omega)]
              exact ih (i + 1) w row' free' most' (by omega) (by omega) hmm hmi2 hs
            | succ m3 ih3 =>
              intro j w hj hs
              have hp := hf.2 row'[j] (List.getElem_mem (by omega))
              have hpl := rowPlace_of (row := row') (i := j) (by omega)
              rw [hoardlaw4_ListHandles_l3_raw]
              refine ite_true (by rw [hpl]; simp; omega) ?_
              refine call1_of (string_Len hs) fun e w ⟨he, hs⟩ => ⟨_, he, ?_⟩
              refine ite_true (decide_eq_true (by omega)) ?_
              rw [hoardlaw4_ListHandles_j4_def, hoardlaw4_ListHandles_j4_raw]
              refine ite_false (decide_eq_false (by omega)) (ite_false (decide_eq_false (by omega)) ?_)
              refine call1_of (string_Next hs) fun e w ⟨he, hs⟩ => ⟨_, he, ?_⟩
              rw [rowNext_place hf.1 (by omega), i64_in _ (by omega)]
              exact ih3 (j + 1) w (by omega) hs
          refine ⟨row'.length + 1, ?_⟩
          exact inner row'.length 0 w (by omega) hs
        · exact fin w row free hs
      · exact fin w row free hs
  refine ⟨N + 1, ?_⟩
  exact loop N 0 w [] [] 0 (by omega) (by simp) (by simp) (by omega) hs
end
end Go.Proofs.Ytadljdjlemfdjaa
