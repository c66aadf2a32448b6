/- lirs.Engine: its rows, what it notes. -/
import Derived.Test.YtgmhoenmhnlojaaLirsHp
import Derived.Test.YtgmhoenmhnlojaaIndexEntry
import Derived.Test.YtgmhoenmhnlojaaList2S
import Derived.Test.YtgmhoenmhnlojaaTexts
set_option linter.unusedVariables false
set_option linter.unusedSimpArgs false
set_option linter.unnecessarySimpa false
set_option linter.unusedSectionVars false
namespace Go.Proofs.Ytgmhoenmhnlojaa
open Go.Hb Go.IntWalk
section
variable {W w : World} {L M : List HP} {F : HP → List HP} {b nb : Nat} {c : Int} {N N' : Nat} {x y : LirsS} {sb qb xb : Nat} {row sr sr' qr qr' : LRow} {free sf sf' qf qf' : List Nat} {m : LM} {key : ByteArray} {h g i : Int}
theorem row_Remove (h : Sat W w L) [hA : At L b (lst .string b row free) F] {x : Int} (hr : row.length + free.length < 1099511627776) (hn : (row.map (·.2)).Nodup) (hx : x = rowHd row key) :
    Calls Try.prog id_list_List_string_Remove #[.pointer (some ⟨b, 0, none⟩), .int .i64 x] w fun e w' => (∃ v o, e = .returned (.tuple #[.string v, .bool o])) ∧ ∃ f', RowCut row free key (rowDel row key) f' ∧ Sat W w' (F (lst .string b (rowDel row key) f')) := by
  refine At.one (hA := hA) h fun M hs hb => ?_
  obtain ⟨hh, hp⟩ := lst_pos hs
  have hR := (rem_hd (k := key) hn hh hp).1
  refine (string_Remove hs hr (x := x)).mono fun e w' ⟨he, hs⟩ => ⟨⟨_, _, he⟩, ?_⟩
  subst hx
  cases hq : rAt row (rowHd row key) with
  | none =>
    simp only [hq] at hs hR
    rw [hR] at hs
    exact ⟨_, ⟨rowDel_keys row key, fun k hk => rowHd_del_ne hk, rowHd_del, by rw [← hR]; omega⟩, hb _ _ hs⟩
  | some i =>
    simp only [hq] at hs hR
    rw [hR] at hs
    obtain ⟨_, _, _, _, hlt⟩ := rAt_some hq
    refine ⟨_, ⟨rowDel_keys row key, fun k hk => rowHd_del_ne hk, rowHd_del, ?_⟩, hb _ _ hs⟩
    rw [← hR, List.length_eraseIdx, if_pos hlt]; simp; omega
theorem row_PushBack (h : Sat W w L) [hA : At L b (lst .string b row free) F] (hr : row.length + free.length < 1099511627776) (hk : key ∉ row.map (·.2)) :
    Calls Try.prog id_list_List_string_PushBack #[.pointer (some ⟨b, 0, none⟩), .string key] w fun e w' => ∃ row' f', e = .returned (.int .i64 (rowHd row' key)) ∧ RowPut row free key row' f' ∧ Sat W w' (F (lst .string b row' f')) := by
  refine (string_PushBack h hr).mono fun e w' ⟨he, hs⟩ => ⟨_, _, ?_, ⟨?_, fun k h => rowHd_snoc_ne h, ?_⟩, hs⟩
  · rw [he, rowHd_snoc hk]
  · rw [gTake_not hk]; simp
  · simp; omega
/-- off and on again -/
theorem rowPut_of {row1 : LRow} {free1 : List Nat} (h1 : RowCut row free key row1 free1) (h2 : RowPut row1 free1 key sr' sf') : RowPut row free key sr' sf' := by
  refine ⟨?_, fun k hk => by rw [h2.ne k hk, h1.ne k hk], by have := h1.len; have := h2.len; omega⟩
  rw [h2.keys, h1.keys, gTake_not (fun h => (gTake_mem.1 h).2 rfl)]
theorem lirs_top_at {s q : Int} (hs : Sat W w (blk nb [.int .i64 i, .int .i64 s, .int .i64 q] :: eB b c sb qb xb h g :: lst .string sb sr sf :: M)) (hr : sr.length + sf.length < 1000000000) (hn : (sr.map (·.2)).Nodup) (hx : s = rowHd sr key) :
    Calls Try.prog id_lirs_Engine_top #[.pointer (some ⟨b, 0, none⟩), .pointer (some ⟨nb, 0, none⟩), .string key] w fun e w' => e = .returned (.tuple #[]) ∧ ∃ sr' sf', RowPut sr sf key sr' sf' ∧ Sat W w' (blk nb [.int .i64 i, .int .i64 (rowHd sr' key), .int .i64 q] :: eB b c sb qb xb h g :: lst .string sb sr' sf' :: M) := by
  refine c1 (lirs_Engine_top_calls ?_)
  rw [lirs_Engine_top_def, lirs_Engine_top_raw]
  repeat (first | with_reducible refine nilck_some ?_ | ((with_reducible refine atLd ?_); first | refine ld_b hs ?_ | refine ld_b (x := ⟨_, _, _⟩) hs ?_ | refine ld_r0 hs ?_ | refine ld_r1 hs ?_ | refine ld_rd0 ha_ hs ?_ | refine ld_rd1 ha_ hs ?_) | ((with_reducible refine isSt ?_); first | refine st_b hs fun w hs => ?_ | refine st_r0 hs fun w hs => ?_ | refine st_r1 hs fun w hs => ?_) | ((with_reducible refine isIdx ?_); first | refine idx_s hs fun b_ o_ hs => ?_ | refine idx_rd hs fun b_ o_ ha_ => ?_) | with_reducible refine newB_at hs fun b_ w hs => ?_ | ((with_reducible refine isLdS ?_); first | refine ldS_b ?_ | refine ldS_b (x := ⟨_, _, _⟩) ?_ | refine ldS_rs0 hs ?_ | refine ldS_rd0 ha_ ?_) | ((with_reducible refine isKeep ?_); first | refine keep_of hs ?_ | refine keep_imp hs ?_) | with_reducible refine when_om ?_ | with_reducible refine drawW_sat hs fun w hs => ?_)
  refine call2_of (row_Remove hs (by omega) hn hx) fun e w ⟨⟨_, _, he⟩, f', hc, hs⟩ => ⟨_, _, he, ?_⟩
  have hl := hc.len
  repeat (first | with_reducible refine nilck_some ?_ | ((with_reducible refine atLd ?_); first | refine ld_b hs ?_ | refine ld_b (x := ⟨_, _, _⟩) hs ?_ | refine ld_r0 hs ?_ | refine ld_r1 hs ?_ | refine ld_rd0 ha_ hs ?_ | refine ld_rd1 ha_ hs ?_) | ((with_reducible refine isSt ?_); first | refine st_b hs fun w hs => ?_ | refine st_r0 hs fun w hs => ?_ | refine st_r1 hs fun w hs => ?_) | ((with_reducible refine isIdx ?_); first | refine idx_s hs fun b_ o_ hs => ?_ | refine idx_rd hs fun b_ o_ ha_ => ?_) | with_reducible refine newB_at hs fun b_ w hs => ?_ | ((with_reducible refine isLdS ?_); first | refine ldS_b ?_ | refine ldS_b (x := ⟨_, _, _⟩) ?_ | refine ldS_rs0 hs ?_ | refine ldS_rd0 ha_ ?_) | ((with_reducible refine isKeep ?_); first | refine keep_of hs ?_ | refine keep_imp hs ?_) | with_reducible refine when_om ?_ | with_reducible refine drawW_sat hs fun w hs => ?_)
  refine call1_of (row_PushBack (key := key) hs (by omega) (del_not _ _)) fun e w ⟨sr', sf', he, hp, hs⟩ => ⟨_, he, ?_⟩
  repeat (first | with_reducible refine nilck_some ?_ | ((with_reducible refine atLd ?_); first | refine ld_b hs ?_ | refine ld_b (x := ⟨_, _, _⟩) hs ?_ | refine ld_r0 hs ?_ | refine ld_r1 hs ?_ | refine ld_rd0 ha_ hs ?_ | refine ld_rd1 ha_ hs ?_) | ((with_reducible refine isSt ?_); first | refine st_b hs fun w hs => ?_ | refine st_r0 hs fun w hs => ?_ | refine st_r1 hs fun w hs => ?_) | ((with_reducible refine isIdx ?_); first | refine idx_s hs fun b_ o_ hs => ?_ | refine idx_rd hs fun b_ o_ ha_ => ?_) | with_reducible refine newB_at hs fun b_ w hs => ?_ | ((with_reducible refine isLdS ?_); first | refine ldS_b ?_ | refine ldS_b (x := ⟨_, _, _⟩) ?_ | refine ldS_rs0 hs ?_ | refine ldS_rd0 ha_ ?_) | ((with_reducible refine isKeep ?_); first | refine keep_of hs ?_ | refine keep_imp hs ?_) | with_reducible refine when_om ?_ | with_reducible refine drawW_sat hs fun w hs => ?_)
  exact ⟨rfl, sr', sf', rowPut_of hc hp, by exact Sat.fin hs⟩
theorem lirs_end_at {s q : Int} (hs : Sat W w (blk nb [.int .i64 i, .int .i64 s, .int .i64 q] :: eB b c sb qb xb h g :: lst .string qb qr qf :: M)) (hr : qr.length + qf.length < 1000000000) (hn : (qr.map (·.2)).Nodup) (hx : q = rowHd qr key) :
    Calls Try.prog id_lirs_Engine_end #[.pointer (some ⟨b, 0, none⟩), .pointer (some ⟨nb, 0, none⟩), .string key] w fun e w' => e = .returned (.tuple #[]) ∧ ∃ qr' qf', RowPut qr qf key qr' qf' ∧ Sat W w' (blk nb [.int .i64 i, .int .i64 s, .int .i64 (rowHd qr' key)] :: eB b c sb qb xb h g :: lst .string qb qr' qf' :: M) := by
  refine c1 (lirs_Engine_end_calls ?_)
  rw [lirs_Engine_end_def, lirs_Engine_end_raw]
  repeat (first | with_reducible refine nilck_some ?_ | ((with_reducible refine atLd ?_); first | refine ld_b hs ?_ | refine ld_b (x := ⟨_, _, _⟩) hs ?_ | refine ld_r0 hs ?_ | refine ld_r1 hs ?_ | refine ld_rd0 ha_ hs ?_ | refine ld_rd1 ha_ hs ?_) | ((with_reducible refine isSt ?_); first | refine st_b hs fun w hs => ?_ | refine st_r0 hs fun w hs => ?_ | refine st_r1 hs fun w hs => ?_) | ((with_reducible refine isIdx ?_); first | refine idx_s hs fun b_ o_ hs => ?_ | refine idx_rd hs fun b_ o_ ha_ => ?_) | with_reducible refine newB_at hs fun b_ w hs => ?_ | ((with_reducible refine isLdS ?_); first | refine ldS_b ?_ | refine ldS_b (x := ⟨_, _, _⟩) ?_ | refine ldS_rs0 hs ?_ | refine ldS_rd0 ha_ ?_) | ((with_reducible refine isKeep ?_); first | refine keep_of hs ?_ | refine keep_imp hs ?_) | with_reducible refine when_om ?_ | with_reducible refine drawW_sat hs fun w hs => ?_)
  refine call2_of (row_Remove hs (by omega) hn hx) fun e w ⟨⟨_, _, he⟩, f', hc, hs⟩ => ⟨_, _, he, ?_⟩
  have hl := hc.len
  repeat (first | with_reducible refine nilck_some ?_ | ((with_reducible refine atLd ?_); first | refine ld_b hs ?_ | refine ld_b (x := ⟨_, _, _⟩) hs ?_ | refine ld_r0 hs ?_ | refine ld_r1 hs ?_ | refine ld_rd0 ha_ hs ?_ | refine ld_rd1 ha_ hs ?_) | ((with_reducible refine isSt ?_); first | refine st_b hs fun w hs => ?_ | refine st_r0 hs fun w hs => ?_ | refine st_r1 hs fun w hs => ?_) | ((with_reducible refine isIdx ?_); first | refine idx_s hs fun b_ o_ hs => ?_ | refine idx_rd hs fun b_ o_ ha_ => ?_) | with_reducible refine newB_at hs fun b_ w hs => ?_ | ((with_reducible refine isLdS ?_); first | refine ldS_b ?_ | refine ldS_b (x := ⟨_, _, _⟩) ?_ | refine ldS_rs0 hs ?_ | refine ldS_rd0 ha_ ?_) | ((with_reducible refine isKeep ?_); first | refine keep_of hs ?_ | refine keep_imp hs ?_) | with_reducible refine when_om ?_ | with_reducible refine drawW_sat hs fun w hs => ?_)
  refine call1_of (row_PushBack (key := key) hs (by omega) (del_not _ _)) fun e w ⟨qr', qf', he, hp, hs⟩ => ⟨_, he, ?_⟩
  repeat (first | with_reducible refine nilck_some ?_ | ((with_reducible refine atLd ?_); first | refine ld_b hs ?_ | refine ld_b (x := ⟨_, _, _⟩) hs ?_ | refine ld_r0 hs ?_ | refine ld_r1 hs ?_ | refine ld_rd0 ha_ hs ?_ | refine ld_rd1 ha_ hs ?_) | ((with_reducible refine isSt ?_); first | refine st_b hs fun w hs => ?_ | refine st_r0 hs fun w hs => ?_ | refine st_r1 hs fun w hs => ?_) | ((with_reducible refine isIdx ?_); first | refine idx_s hs fun b_ o_ hs => ?_ | refine idx_rd hs fun b_ o_ ha_ => ?_) | with_reducible refine newB_at hs fun b_ w hs => ?_ | ((with_reducible refine isLdS ?_); first | refine ldS_b ?_ | refine ldS_b (x := ⟨_, _, _⟩) ?_ | refine ldS_rs0 hs ?_ | refine ldS_rd0 ha_ ?_) | ((with_reducible refine isKeep ?_); first | refine keep_of hs ?_ | refine keep_imp hs ?_) | with_reducible refine when_om ?_ | with_reducible refine drawW_sat hs fun w hs => ?_)
  exact ⟨rfl, qr', qf', rowPut_of hc hp, by exact Sat.fin hs⟩
theorem lirs_leaves_at {s q : Int} (hs : Sat W w (blk nb [.int .i64 i, .int .i64 s, .int .i64 q] :: eB b c sb qb xb h g :: lst .string qb qr qf :: M)) (hr : qr.length + qf.length < 1000000000) (hn : (qr.map (·.2)).Nodup) (hx : q = rowHd qr key) :
    Calls Try.prog id_lirs_Engine_leaves #[.pointer (some ⟨b, 0, none⟩), .pointer (some ⟨nb, 0, none⟩)] w fun e w' => e = .returned (.tuple #[]) ∧ ∃ qf', RowCut qr qf key (rowDel qr key) qf' ∧ Sat W w' (blk nb [.int .i64 i, .int .i64 s, .int .i64 0] :: eB b c sb qb xb h g :: lst .string qb (rowDel qr key) qf' :: M) := by
  refine c1 (lirs_Engine_leaves_calls ?_)
  rw [lirs_Engine_leaves_def, lirs_Engine_leaves_raw]
  repeat (first | with_reducible refine nilck_some ?_ | ((with_reducible refine atLd ?_); first | refine ld_b hs ?_ | refine ld_b (x := ⟨_, _, _⟩) hs ?_ | refine ld_r0 hs ?_ | refine ld_r1 hs ?_ | refine ld_rd0 ha_ hs ?_ | refine ld_rd1 ha_ hs ?_) | ((with_reducible refine isSt ?_); first | refine st_b hs fun w hs => ?_ | refine st_r0 hs fun w hs => ?_ | refine st_r1 hs fun w hs => ?_) | ((with_reducible refine isIdx ?_); first | refine idx_s hs fun b_ o_ hs => ?_ | refine idx_rd hs fun b_ o_ ha_ => ?_) | with_reducible refine newB_at hs fun b_ w hs => ?_ | ((with_reducible refine isLdS ?_); first | refine ldS_b ?_ | refine ldS_b (x := ⟨_, _, _⟩) ?_ | refine ldS_rs0 hs ?_ | refine ldS_rd0 ha_ ?_) | ((with_reducible refine isKeep ?_); first | refine keep_of hs ?_ | refine keep_imp hs ?_) | with_reducible refine when_om ?_ | with_reducible refine drawW_sat hs fun w hs => ?_)
  refine call2_of (row_Remove hs (by omega) hn hx) fun e w ⟨⟨_, _, he⟩, f', hc, hs⟩ => ⟨_, _, he, ?_⟩
  repeat (first | with_reducible refine nilck_some ?_ | ((with_reducible refine atLd ?_); first | refine ld_b hs ?_ | refine ld_b (x := ⟨_, _, _⟩) hs ?_ | refine ld_r0 hs ?_ | refine ld_r1 hs ?_ | refine ld_rd0 ha_ hs ?_ | refine ld_rd1 ha_ hs ?_) | ((with_reducible refine isSt ?_); first | refine st_b hs fun w hs => ?_ | refine st_r0 hs fun w hs => ?_ | refine st_r1 hs fun w hs => ?_) | ((with_reducible refine isIdx ?_); first | refine idx_s hs fun b_ o_ hs => ?_ | refine idx_rd hs fun b_ o_ ha_ => ?_) | with_reducible refine newB_at hs fun b_ w hs => ?_ | ((with_reducible refine isLdS ?_); first | refine ldS_b ?_ | refine ldS_b (x := ⟨_, _, _⟩) ?_ | refine ldS_rs0 hs ?_ | refine ldS_rd0 ha_ ?_) | ((with_reducible refine isKeep ?_); first | refine keep_of hs ?_ | refine keep_imp hs ?_) | with_reducible refine when_om ?_ | with_reducible refine drawW_sat hs fun w hs => ?_)
  exact ⟨rfl, f', hc, by exact Sat.fin hs⟩
theorem lirs_counts_at {is by_ : Int} (hs : Sat W w (eB b c sb qb xb h g :: M)) (h1 : -1099511627776 < h ∧ h < 1099511627776) (h2 : -1099511627776 < g ∧ g < 1099511627776) (hb : -1 ≤ by_ ∧ by_ ≤ 1) :
    Calls Try.prog id_lirs_Engine_counts #[.pointer (some ⟨b, 0, none⟩), .int .i64 is, .int .i64 by_] w fun e w' => e = .returned (.tuple #[]) ∧ Sat W w' (eB b c sb qb xb (h + (if is = 1 then by_ else 0)) (g + (if is = 3 then by_ else 0)) :: M) := by
  refine c1 (lirs_Engine_counts_calls ?_)
  rw [lirs_Engine_counts_def, lirs_Engine_counts_raw]
  with_reducible refine ite_by (fun h3 => ?_) (fun h3 => ?_)
  · subst h3
    repeat (first | with_reducible refine nilck_some ?_ | ((with_reducible refine atLd ?_); first | refine ld_b hs ?_ | refine ld_b (x := ⟨_, _, _⟩) hs ?_ | refine ld_r0 hs ?_ | refine ld_r1 hs ?_ | refine ld_rd0 ha_ hs ?_ | refine ld_rd1 ha_ hs ?_) | ((with_reducible refine isSt ?_); first | refine st_b hs fun w hs => ?_ | refine st_r0 hs fun w hs => ?_ | refine st_r1 hs fun w hs => ?_) | ((with_reducible refine isIdx ?_); first | refine idx_s hs fun b_ o_ hs => ?_ | refine idx_rd hs fun b_ o_ ha_ => ?_) | with_reducible refine newB_at hs fun b_ w hs => ?_ | ((with_reducible refine isLdS ?_); first | refine ldS_b ?_ | refine ldS_b (x := ⟨_, _, _⟩) ?_ | refine ldS_rs0 hs ?_ | refine ldS_rd0 ha_ ?_) | ((with_reducible refine isKeep ?_); first | refine keep_of hs ?_ | refine keep_imp hs ?_) | with_reducible refine when_om ?_ | with_reducible refine drawW_sat hs fun w hs => ?_)
    rw [i64_in _ (by omega)] at hs
    simp only [if_true, show ¬ ((1 : Int) = 3) by decide, if_false, Int.add_zero, true_and]
    exact Sat.fin hs
  · with_reducible refine ite_by (fun h4 => ?_) (fun h4 => ?_)
    · subst h4
      repeat (first | with_reducible refine nilck_some ?_ | ((with_reducible refine atLd ?_); first | refine ld_b hs ?_ | refine ld_b (x := ⟨_, _, _⟩) hs ?_ | refine ld_r0 hs ?_ | refine ld_r1 hs ?_ | refine ld_rd0 ha_ hs ?_ | refine ld_rd1 ha_ hs ?_) | ((with_reducible refine isSt ?_); first | refine st_b hs fun w hs => ?_ | refine st_r0 hs fun w hs => ?_ | refine st_r1 hs fun w hs => ?_) | ((with_reducible refine isIdx ?_); first | refine idx_s hs fun b_ o_ hs => ?_ | refine idx_rd hs fun b_ o_ ha_ => ?_) | with_reducible refine newB_at hs fun b_ w hs => ?_ | ((with_reducible refine isLdS ?_); first | refine ldS_b ?_ | refine ldS_b (x := ⟨_, _, _⟩) ?_ | refine ldS_rs0 hs ?_ | refine ldS_rd0 ha_ ?_) | ((with_reducible refine isKeep ?_); first | refine keep_of hs ?_ | refine keep_imp hs ?_) | with_reducible refine when_om ?_ | with_reducible refine drawW_sat hs fun w hs => ?_)
      rw [i64_in _ (by omega)] at hs
      simp only [if_true, show ¬ ((3 : Int) = 1) by decide, if_false, Int.add_zero, true_and]
      exact Sat.fin hs
    · rw [if_neg h3, if_neg h4, Int.add_zero, Int.add_zero]
      exact ⟨rfl, hs⟩
theorem lirs_set_at {n : LE} (hi : LX N x sr sf qr qf m) (hu : LX N' y sr' sf' qr' qf' (lSet m key n)) (hz : key.size < 64) (hc : lOut y.s key = lOut x.s key) (hk : n.1 = lK y.s y.q key) (hN : N < 400000000)
    (hs : Sat W w (eB b c sb qb xb ((lCnt x.s 1 : Int)) ((lCnt x.s 3 : Int)) :: lst .string sb sr' sf' :: lst .string qb qr' qf' :: ixr Rec.iii xb 0 m :: M)) :
    Calls Try.prog id_lirs_Engine_set #[.pointer (some ⟨b, 0, none⟩), .string key, .agg #[.int .i64 n.1, .int .i64 n.2.1, .int .i64 n.2.2]] w fun e w' => e = .returned (.tuple #[]) ∧ Sat W w' (lirR b c N' y :: M) := by
  refine c1 (lirs_Engine_set_calls ?_)
  rw [lirs_Engine_set_def, lirs_Engine_set_raw]
  have hw : ((mGet m key).getD ((0, 0, 0) : Int × Int × Int)).1 = lK x.s x.q key := by have := hi.ent key; unfold lG at this; rw [this]
  have hnm := hi.nm
  have hc1 : lCnt x.s 1 ≤ N ∧ lCnt x.s 3 ≤ N := by
    have h1 := congrArg List.length hi.sk
    have := hi.ns
    simp only [List.length_map, lKeys] at h1
    have a := List.countP_le_length (p := fun e : ByteArray × Int => decide (e.2 = 1)) (l := x.s)
    have d := List.countP_le_length (p := fun e : ByteArray × Int => decide (e.2 = 3)) (l := x.s)
    unfold lCnt
    omega
  obtain ⟨e1, e3⟩ := cnt_by hi.w hu.w hc
  refine newB_at hs fun nb w hs => ?_
  repeat (first | with_reducible refine nilck_some ?_ | ((with_reducible refine atLd ?_); first | refine ld_b hs ?_ | refine ld_b (x := ⟨_, _, _⟩) hs ?_ | refine ld_r0 hs ?_ | refine ld_r1 hs ?_ | refine ld_rd0 ha_ hs ?_ | refine ld_rd1 ha_ hs ?_) | ((with_reducible refine isSt ?_); first | refine st_b hs fun w hs => ?_ | refine st_r0 hs fun w hs => ?_ | refine st_r1 hs fun w hs => ?_) | ((with_reducible refine isIdx ?_); first | refine idx_s hs fun b_ o_ hs => ?_ | refine idx_rd hs fun b_ o_ ha_ => ?_) | with_reducible refine newB_at hs fun b_ w hs => ?_ | ((with_reducible refine isLdS ?_); first | refine ldS_b ?_ | refine ldS_b (x := ⟨_, _, _⟩) ?_ | refine ldS_rs0 hs ?_ | refine ldS_rd0 ha_ ?_) | ((with_reducible refine isKeep ?_); first | refine keep_of hs ?_ | refine keep_imp hs ?_) | with_reducible refine when_om ?_ | with_reducible refine drawW_sat hs fun w hs => ?_)
  refine (entry_Get hs (by omega)).mono fun e w ⟨he, hs⟩ => ⟨_, _, _, _, he, ?_⟩
  rw [hw]
  repeat (first | with_reducible refine nilck_some ?_ | ((with_reducible refine atLd ?_); first | refine ld_b hs ?_ | refine ld_b (x := ⟨_, _, _⟩) hs ?_ | refine ld_r0 hs ?_ | refine ld_r1 hs ?_ | refine ld_rd0 ha_ hs ?_ | refine ld_rd1 ha_ hs ?_) | ((with_reducible refine isSt ?_); first | refine st_b hs fun w hs => ?_ | refine st_r0 hs fun w hs => ?_ | refine st_r1 hs fun w hs => ?_) | ((with_reducible refine isIdx ?_); first | refine idx_s hs fun b_ o_ hs => ?_ | refine idx_rd hs fun b_ o_ ha_ => ?_) | with_reducible refine newB_at hs fun b_ w hs => ?_ | ((with_reducible refine isLdS ?_); first | refine ldS_b ?_ | refine ldS_b (x := ⟨_, _, _⟩) ?_ | refine ldS_rs0 hs ?_ | refine ldS_rd0 ha_ ?_) | ((with_reducible refine isKeep ?_); first | refine keep_of hs ?_ | refine keep_imp hs ?_) | with_reducible refine when_om ?_ | with_reducible refine drawW_sat hs fun w hs => ?_)
  refine call0_of (lirs_counts_at (W := W) (c := c) (sb := sb) (qb := qb) (xb := xb) (h := (lCnt x.s 1 : Int)) (g := (lCnt x.s 3 : Int)) (by exact Sat.fin hs) (by omega) (by omega) (by decide) (M := blk nb [.int .i64 n.1, .int .i64 n.2.1, .int .i64 n.2.2] :: lst .string sb sr' sf' :: lst .string qb qr' qf' :: ixr Rec.iii xb 0 m :: M)) fun e w ⟨he, hs⟩ => ⟨he, ?_⟩
  repeat (first | with_reducible refine nilck_some ?_ | ((with_reducible refine atLd ?_); first | refine ld_b hs ?_ | refine ld_b (x := ⟨_, _, _⟩) hs ?_ | refine ld_r0 hs ?_ | refine ld_r1 hs ?_ | refine ld_rd0 ha_ hs ?_ | refine ld_rd1 ha_ hs ?_) | ((with_reducible refine isSt ?_); first | refine st_b hs fun w hs => ?_ | refine st_r0 hs fun w hs => ?_ | refine st_r1 hs fun w hs => ?_) | ((with_reducible refine isIdx ?_); first | refine idx_s hs fun b_ o_ hs => ?_ | refine idx_rd hs fun b_ o_ ha_ => ?_) | with_reducible refine newB_at hs fun b_ w hs => ?_ | ((with_reducible refine isLdS ?_); first | refine ldS_b ?_ | refine ldS_b (x := ⟨_, _, _⟩) ?_ | refine ldS_rs0 hs ?_ | refine ldS_rd0 ha_ ?_) | ((with_reducible refine isKeep ?_); first | refine keep_of hs ?_ | refine keep_imp hs ?_) | with_reducible refine when_om ?_ | with_reducible refine drawW_sat hs fun w hs => ?_)
  refine call0_of (lirs_counts_at hs (by split <;> omega) (by split <;> omega) (by decide)) fun e w ⟨he, hs⟩ => ⟨he, ?_⟩
  rw [← hk] at e1 e3
  rw [e1, e3] at hs
  repeat (first | with_reducible refine nilck_some ?_ | ((with_reducible refine atLd ?_); first | refine ld_b hs ?_ | refine ld_b (x := ⟨_, _, _⟩) hs ?_ | refine ld_r0 hs ?_ | refine ld_r1 hs ?_ | refine ld_rd0 ha_ hs ?_ | refine ld_rd1 ha_ hs ?_) | ((with_reducible refine isSt ?_); first | refine st_b hs fun w hs => ?_ | refine st_r0 hs fun w hs => ?_ | refine st_r1 hs fun w hs => ?_) | ((with_reducible refine isIdx ?_); first | refine idx_s hs fun b_ o_ hs => ?_ | refine idx_rd hs fun b_ o_ ha_ => ?_) | with_reducible refine newB_at hs fun b_ w hs => ?_ | ((with_reducible refine isLdS ?_); first | refine ldS_b ?_ | refine ldS_b (x := ⟨_, _, _⟩) ?_ | refine ldS_rs0 hs ?_ | refine ldS_rd0 ha_ ?_) | ((with_reducible refine isKeep ?_); first | refine keep_of hs ?_ | refine keep_imp hs ?_) | with_reducible refine when_om ?_ | with_reducible refine drawW_sat hs fun w hs => ?_)
  with_reducible refine ite_by (fun h0 => ?_) (fun h0 => ?_)
  · repeat (first | with_reducible refine nilck_some ?_ | ((with_reducible refine atLd ?_); first | refine ld_b hs ?_ | refine ld_b (x := ⟨_, _, _⟩) hs ?_ | refine ld_r0 hs ?_ | refine ld_r1 hs ?_ | refine ld_rd0 ha_ hs ?_ | refine ld_rd1 ha_ hs ?_) | ((with_reducible refine isSt ?_); first | refine st_b hs fun w hs => ?_ | refine st_r0 hs fun w hs => ?_ | refine st_r1 hs fun w hs => ?_) | ((with_reducible refine isIdx ?_); first | refine idx_s hs fun b_ o_ hs => ?_ | refine idx_rd hs fun b_ o_ ha_ => ?_) | with_reducible refine newB_at hs fun b_ w hs => ?_ | ((with_reducible refine isLdS ?_); first | refine ldS_b ?_ | refine ldS_b (x := ⟨_, _, _⟩) ?_ | refine ldS_rs0 hs ?_ | refine ldS_rd0 ha_ ?_) | ((with_reducible refine isKeep ?_); first | refine keep_of hs ?_ | refine keep_imp hs ?_) | with_reducible refine when_om ?_ | with_reducible refine drawW_sat hs fun w hs => ?_)
    refine (entry_Delete hs (by omega) (by omega)).mono fun e w ⟨he, hs⟩ => ⟨_, _, _, _, he, ?_⟩
    have : lSet m key n = mDel m key := if_pos h0
    rw [this] at hu
    exact ⟨rfl, lir_shut hu rfl rfl (by exact Sat.fin hs)⟩
  · repeat (first | with_reducible refine nilck_some ?_ | ((with_reducible refine atLd ?_); first | refine ld_b hs ?_ | refine ld_b (x := ⟨_, _, _⟩) hs ?_ | refine ld_r0 hs ?_ | refine ld_r1 hs ?_ | refine ld_rd0 ha_ hs ?_ | refine ld_rd1 ha_ hs ?_) | ((with_reducible refine isSt ?_); first | refine st_b hs fun w hs => ?_ | refine st_r0 hs fun w hs => ?_ | refine st_r1 hs fun w hs => ?_) | ((with_reducible refine isIdx ?_); first | refine idx_s hs fun b_ o_ hs => ?_ | refine idx_rd hs fun b_ o_ ha_ => ?_) | with_reducible refine newB_at hs fun b_ w hs => ?_ | ((with_reducible refine isLdS ?_); first | refine ldS_b ?_ | refine ldS_b (x := ⟨_, _, _⟩) ?_ | refine ldS_rs0 hs ?_ | refine ldS_rd0 ha_ ?_) | ((with_reducible refine isKeep ?_); first | refine keep_of hs ?_ | refine keep_imp hs ?_) | with_reducible refine when_om ?_ | with_reducible refine drawW_sat hs fun w hs => ?_)
    refine call1_of (entry_Put (v := n) hs (by omega) hi.msm (by omega)) fun e w ⟨he, hs⟩ => ⟨_, he, ?_⟩
    have : lSet m key n = mPut m key n := if_neg h0
    rw [this] at hu
    exact ⟨rfl, lir_shut hu rfl rfl (by exact Sat.fin hs)⟩
end
end Go.Proofs.Ytgmhoenmhnlojaa
