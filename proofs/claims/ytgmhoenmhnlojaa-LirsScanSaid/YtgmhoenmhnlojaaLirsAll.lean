/- lirs.Engine: the rows that are told; New. -/
import Derived.Test.YtgmhoenmhnlojaaLirs
set_option linter.unusedVariables false
set_option linter.unusedSimpArgs false
set_option linter.unnecessarySimpa false
set_option linter.unusedSectionVars false
namespace Go.Hb
theorem lThose_snoc {S : SL} {i : Int} {j : Nat} (hj : j < S.length) : lThose (S.take (j + 1)) i = lThose (S.take j) i ++ (if (S.getD j default).2 = i then [(S.getD j default).1] else []) := by
  unfold lThose
  rw [take_snoc hj, List.filter_append, List.map_append]
  congr 1
  rw [List.filter_cons]
  split <;> split <;> simp_all
theorem lThose_tk (S : SL) (i : Int) (j : Nat) : (lThose (S.take j) i).length ≤ j := by
  unfold lThose
  rw [List.length_map]
  exact Nat.le_trans (List.length_filter_le _ _) (by simp; omega)
theorem lThose_le (S : SL) (i : Int) : (lThose S i).length ≤ S.length := by unfold lThose; rw [List.length_map]; exact List.length_filter_le _ _
theorem lKeys_getD {S : SL} {j : Nat} (hj : j < S.length) : (lKeys S).getD j default = (S.getD j default).1 := by
  unfold lKeys
  rw [List.getD_eq_getElem?_getD, List.getD_eq_getElem?_getD, List.getElem?_map, List.getElem?_eq_getElem hj]; rfl
theorem getD_mem {α : Type} {d : α} {S : List α} {j : Nat} (hj : j < S.length) : S.getD j d ∈ S := by
  rw [List.getD_eq_getElem?_getD, List.getElem?_eq_getElem hj]; exact List.getElem_mem _
def roomR (r : Int) : Int := max 1 (min r 1024)
end Go.Hb
namespace Go.Proofs.Ytgmhoenmhnlojaa
open Go.Hb Go.IntWalk
section
variable {W w : World} {L M : List HP} {F : HP → List HP} {b nb tb : Nat} {c : Int} {N N' : Nat} {x y : LirsS} {sb qb xb : Nat} {m : LM} {key : ByteArray} {h g i : Int}
theorem lirs_those (h : Sat W w L) [hA : At L b (lirR b c N x) F] (hN : N < 400000000) : Calls Try.prog id_lirs_Engine_those #[.pointer (some ⟨b, 0, none⟩), .int .i64 i] w fun e w' => ∃ l : Sl, e = .returned (.slice l.a l.n l.c) ∧ Sat W w' (recs Rec.str l (lThose x.s i) :: F (lirR b c N x)) := by
  refine At.oneX (hA := hA) h fun M hs hb => ?_
  refine (lirs_Engine_those_calls (Q := fun v w' => ∃ l : Sl, v = .slice l.a l.n l.c ∧ Sat W w' (lirR b c N x :: recs Rec.str l (lThose x.s i) :: M)) ?_).mono fun e w' ⟨v, he, l, hv, hs⟩ => ⟨l, by rw [he, hv], hb _ _ [recs Rec.str l (lThose x.s i)] hs⟩
  clear hb hA
  rw [lirs_Engine_those_def, lirs_Engine_those_raw]
  have hw := lir_w hs
  obtain ⟨sb, qb, xb, sr, sf, qr, qf, m, hi, hs⟩ := lir_open hs
  have hns := hi.ns
  have hnq := hi.nq
  repeat (first | with_reducible refine nilck_some ?_ | ((with_reducible refine atLd ?_); first | refine ld_b hs ?_ | refine ld_b (x := ⟨_, _, _⟩) hs ?_ | refine ld_r0 hs ?_ | refine ld_r1 hs ?_ | refine ld_rd0 ha_ hs ?_ | refine ld_rd1 ha_ hs ?_) | ((with_reducible refine isSt ?_); first | refine st_b hs fun w hs => ?_ | refine st_r0 hs fun w hs => ?_ | refine st_r1 hs fun w hs => ?_) | ((with_reducible refine isIdx ?_); first | refine idx_s hs fun b_ o_ hs => ?_ | refine idx_rd hs fun b_ o_ ha_ => ?_) | with_reducible refine newB_at hs fun b_ w hs => ?_ | ((with_reducible refine isLdS ?_); first | refine ldS_b ?_ | refine ldS_b (x := ⟨_, _, _⟩) ?_ | refine ldS_rs0 hs ?_ | refine ldS_rd0 ha_ ?_) | ((with_reducible refine isKeep ?_); first | refine keep_of hs ?_ | refine keep_imp hs ?_) | with_reducible refine when_om ?_ | with_reducible refine drawW_sat hs fun w hs => ?_)
  refine (string_All hs (by omega)).mono fun e w ⟨ks, he, hs⟩ => ⟨_, he, ?_⟩
  rw [hi.sk] at hs
  have hn := rdb_len (s := ks) hs
  have hlk : (lKeys x.s).length = x.s.length := by simp [lKeys]
  have hs := Sat.nilR Rec.str hs
  have loop : ∀ (f j : Nat) (w : World) (acc : Sl), j + f = x.s.length → Sat W w (recs Rec.str acc (lThose (x.s.take j) i) :: recs Rec.str ks (lKeys x.s) :: eB b c sb qb xb ((lCnt x.s 1 : Int)) ((lCnt x.s 3 : Int)) :: lst .string sb sr sf :: lst .string qb qr qf :: ixr Rec.iii xb 0 m :: M) →
      lirs_Engine_those_l1 idJ (fun v w' => ∃ l : Sl, v = .slice l.a l.n l.c ∧ Sat W w' (lirR b c N x :: recs Rec.str l (lThose x.s i) :: M)) (f + 1) (some ⟨b, 0, none⟩) i acc ks (ks.n : Int) (j : Int) w := by
    clear hs
    intro f
    induction f with
    | zero =>
      intro j w acc hif hs
      rw [lirs_Engine_those_l1_raw]
      refine ite_false (decide_eq_false (by omega)) ?_
      rw [lirs_Engine_those_j2_def, lirs_Engine_those_j2_raw]
      rw [List.take_of_length_le (by omega)] at hs
      exact ⟨acc, rfl, lir_shut hi rfl rfl (by exact Sat.fin hs)⟩
    | succ f ih =>
      intro j w acc hif hs
      rw [lirs_Engine_those_l1_raw]
      refine ite_true (decide_eq_true (by omega)) ?_
      repeat (first | with_reducible refine nilck_some ?_ | ((with_reducible refine atLd ?_); first | refine ld_b hs ?_ | refine ld_b (x := ⟨_, _, _⟩) hs ?_ | refine ld_r0 hs ?_ | refine ld_r1 hs ?_ | refine ld_rd0 ha_ hs ?_ | refine ld_rd1 ha_ hs ?_) | ((with_reducible refine isSt ?_); first | refine st_b hs fun w hs => ?_ | refine st_r0 hs fun w hs => ?_ | refine st_r1 hs fun w hs => ?_) | ((with_reducible refine isIdx ?_); first | refine idx_s hs fun b_ o_ hs => ?_ | refine idx_rd hs fun b_ o_ ha_ => ?_) | with_reducible refine newB_at hs fun b_ w hs => ?_ | ((with_reducible refine isLdS ?_); first | refine ldS_b ?_ | refine ldS_b (x := ⟨_, _, _⟩) ?_ | refine ldS_rs0 hs ?_ | refine ldS_rd0 ha_ ?_) | ((with_reducible refine isKeep ?_); first | refine keep_of hs ?_ | refine keep_imp hs ?_) | with_reducible refine when_om ?_ | with_reducible refine drawW_sat hs fun w hs => ?_)
      rw [Int.toNat_natCast, lKeys_getD (by omega)]
      have hmem : x.s.getD j default ∈ x.s := getD_mem (by omega)
      have hsz := hi.w.ssm _ hmem
      have hdl := lThose_tk x.s i j
      have hds := lThose_snoc (i := i) (S := x.s) (j := j) (by omega)
      repeat (first | with_reducible refine nilck_some ?_ | ((with_reducible refine atLd ?_); first | refine ld_b hs ?_ | refine ld_b (x := ⟨_, _, _⟩) hs ?_ | refine ld_r0 hs ?_ | refine ld_r1 hs ?_ | refine ld_rd0 ha_ hs ?_ | refine ld_rd1 ha_ hs ?_) | ((with_reducible refine isSt ?_); first | refine st_b hs fun w hs => ?_ | refine st_r0 hs fun w hs => ?_ | refine st_r1 hs fun w hs => ?_) | ((with_reducible refine isIdx ?_); first | refine idx_s hs fun b_ o_ hs => ?_ | refine idx_rd hs fun b_ o_ ha_ => ?_) | with_reducible refine newB_at hs fun b_ w hs => ?_ | ((with_reducible refine isLdS ?_); first | refine ldS_b ?_ | refine ldS_b (x := ⟨_, _, _⟩) ?_ | refine ldS_rs0 hs ?_ | refine ldS_rd0 ha_ ?_) | ((with_reducible refine isKeep ?_); first | refine keep_of hs ?_ | refine keep_imp hs ?_) | with_reducible refine when_om ?_ | with_reducible refine drawW_sat hs fun w hs => ?_)
      refine (entry_Get hs (by omega)).mono fun e w ⟨he, hs⟩ => ⟨_, _, _, _, he, ?_⟩
      have hG : (mGet m (x.s.getD j default).1).getD ((0, 0, 0) : Int × Int × Int) = lG m (x.s.getD j default).1 := rfl
      rw [hG, hi.ent, lK_at hi.w hmem]
      repeat (first | with_reducible refine nilck_some ?_ | ((with_reducible refine atLd ?_); first | refine ld_b hs ?_ | refine ld_b (x := ⟨_, _, _⟩) hs ?_ | refine ld_r0 hs ?_ | refine ld_r1 hs ?_ | refine ld_rd0 ha_ hs ?_ | refine ld_rd1 ha_ hs ?_) | ((with_reducible refine isSt ?_); first | refine st_b hs fun w hs => ?_ | refine st_r0 hs fun w hs => ?_ | refine st_r1 hs fun w hs => ?_) | ((with_reducible refine isIdx ?_); first | refine idx_s hs fun b_ o_ hs => ?_ | refine idx_rd hs fun b_ o_ ha_ => ?_) | with_reducible refine newB_at hs fun b_ w hs => ?_ | ((with_reducible refine isLdS ?_); first | refine ldS_b ?_ | refine ldS_b (x := ⟨_, _, _⟩) ?_ | refine ldS_rs0 hs ?_ | refine ldS_rd0 ha_ ?_) | ((with_reducible refine isKeep ?_); first | refine keep_of hs ?_ | refine keep_imp hs ?_) | with_reducible refine when_om ?_ | with_reducible refine drawW_sat hs fun w hs => ?_)
      with_reducible refine ite_by (fun h1 => ?_) (fun h1 => ?_)
      · rw [if_pos h1] at hds
        repeat (first | with_reducible refine nilck_some ?_ | ((with_reducible refine atLd ?_); first | refine ld_b hs ?_ | refine ld_b (x := ⟨_, _, _⟩) hs ?_ | refine ld_r0 hs ?_ | refine ld_r1 hs ?_ | refine ld_rd0 ha_ hs ?_ | refine ld_rd1 ha_ hs ?_) | ((with_reducible refine isSt ?_); first | refine st_b hs fun w hs => ?_ | refine st_r0 hs fun w hs => ?_ | refine st_r1 hs fun w hs => ?_) | ((with_reducible refine isIdx ?_); first | refine idx_s hs fun b_ o_ hs => ?_ | refine idx_rd hs fun b_ o_ ha_ => ?_) | with_reducible refine newB_at hs fun b_ w hs => ?_ | ((with_reducible refine isLdS ?_); first | refine ldS_b ?_ | refine ldS_b (x := ⟨_, _, _⟩) ?_ | refine ldS_rs0 hs ?_ | refine ldS_rd0 ha_ ?_) | ((with_reducible refine isKeep ?_); first | refine keep_of hs ?_ | refine keep_imp hs ?_) | with_reducible refine when_om ?_ | with_reducible refine drawW_sat hs fun w hs => ?_)
        refine app_one (s := acc) (a := (x.s.getD j default).1) hs rfl rfl rfl rfl (by decide) (by omega) fun s2 w hs2 hs => ?_
        rw [← hds] at hs
        rw [show IntKind.wrap .i64 ((j : Int) + 1) = ((j + 1 : Nat) : Int) by rw [i64_in _ (by omega)]; omega]
        exact ih (j + 1) w s2 (by omega) (by exact Sat.fin hs)
      · rw [if_neg h1, List.append_nil] at hds
        rw [← hds] at hs
        rw [show IntKind.wrap .i64 ((j : Int) + 1) = ((j + 1 : Nat) : Int) by rw [i64_in _ (by omega)]; omega]
        exact ih (j + 1) w acc (by omega) (by exact Sat.fin hs)
  refine exM_of (x.s.length + 1) ?_
  exact loop x.s.length 0 w ⟨none, 0, 0⟩ (by omega) (by exact Sat.fin hs)
theorem lirs_Ghosts (h : Sat W w L) [hA : At L b (lirR b c N x) F] (hN : N < 400000000) : Calls Try.prog id_lirs_Engine_Ghosts #[.pointer (some ⟨b, 0, none⟩)] w fun e w' => ∃ l : Sl, e = .returned (.slice l.a l.n l.c) ∧ Sat W w' (recs Rec.str l (lThose x.s 3) :: F (lirR b c N x)) := by
  refine (lirs_Engine_Ghosts_calls (Q := fun v w' => ∃ l : Sl, v = .slice l.a l.n l.c ∧ Sat W w' (recs Rec.str l (lThose x.s 3) :: F (lirR b c N x))) ?_).mono fun e w' ⟨v, he, l, hv, hs⟩ => ⟨l, by rw [he, hv], hs⟩
  rw [lirs_Engine_Ghosts_def, lirs_Engine_Ghosts_raw]
  refine ite_false rfl ?_
  exact (lirs_those h hN).mono fun e w ⟨l, he, hs⟩ => ⟨_, he, l, rfl, hs⟩
theorem lirs_Keys (h : Sat W w L) [hA : At L b (lirR b c N x) F] (hN : N < 400000000) : Calls Try.prog id_lirs_Engine_Keys #[.pointer (some ⟨b, 0, none⟩)] w fun e w' => ∃ l : Sl, e = .returned (.slice l.a l.n l.c) ∧ Sat W w' (recs Rec.str l (lRes x) :: F (lirR b c N x)) := by
  refine At.oneX (hA := hA) h fun M hs hb => ?_
  refine (lirs_Engine_Keys_calls (Q := fun v w' => ∃ l : Sl, v = .slice l.a l.n l.c ∧ Sat W w' (lirR b c N x :: recs Rec.str l (lRes x) :: M)) ?_).mono fun e w' ⟨v, he, l, hv, hs⟩ => ⟨l, by rw [he, hv], hb _ _ [recs Rec.str l (lRes x)] hs⟩
  clear hb hA
  rw [lirs_Engine_Keys_def, lirs_Engine_Keys_raw]
  refine ite_false rfl ?_
  have hw := lir_w hs
  have h1 := lThose_le x.s 1
  obtain ⟨sb, qb, xb, sr, sf, qr, qf, m, hi, hs⟩ := lir_open hs
  have hnq := hi.nq
  repeat (first | with_reducible refine nilck_some ?_ | ((with_reducible refine atLd ?_); first | refine ld_b hs ?_ | refine ld_b (x := ⟨_, _, _⟩) hs ?_ | refine ld_r0 hs ?_ | refine ld_r1 hs ?_ | refine ld_rd0 ha_ hs ?_ | refine ld_rd1 ha_ hs ?_) | ((with_reducible refine isSt ?_); first | refine st_b hs fun w hs => ?_ | refine st_r0 hs fun w hs => ?_ | refine st_r1 hs fun w hs => ?_) | ((with_reducible refine isIdx ?_); first | refine idx_s hs fun b_ o_ hs => ?_ | refine idx_rd hs fun b_ o_ ha_ => ?_) | with_reducible refine newB_at hs fun b_ w hs => ?_ | ((with_reducible refine isLdS ?_); first | refine ldS_b ?_ | refine ldS_b (x := ⟨_, _, _⟩) ?_ | refine ldS_rs0 hs ?_ | refine ldS_rd0 ha_ ?_) | ((with_reducible refine isKeep ?_); first | refine keep_of hs ?_ | refine keep_imp hs ?_) | with_reducible refine when_om ?_ | with_reducible refine drawW_sat hs fun w hs => ?_)
  refine (string_All hs (by omega)).mono fun e w ⟨ks, he, hs⟩ => ⟨_, he, ?_⟩
  rw [hi.qk] at hs
  have hs : Sat W w (lirR b c N x :: recs Rec.str ks x.q :: M) := lir_shut hi rfl rfl (by exact Sat.fin hs)
  refine (lirs_those hs hN).mono fun e w ⟨l2, he, hs⟩ => ⟨_, he, ?_⟩
  have hn2 := rdb_len (s := l2) hs
  refine app_by (s := ks) (new := lThose x.s 1) hs (rd_rdb (s := l2) hs) hn2 (okC_flat _) rfl (by decide) (by omega) fun s2 w hs2 hs => ?_
  exact ⟨s2, rfl, by exact Sat.fin hs⟩
theorem lirs_New_at (hs : Sat W w L) {r : Int} : Calls Try.prog id_lirs_New #[.int .i64 r] w fun e w' => ∃ b, e = .returned (.pointer (some ⟨b, 0, none⟩)) ∧ Sat W w' (lirR b (roomR r) 0 lirs0 :: L) := by
  refine (lirs_New_calls (Q := fun v w' => ∃ b, v = .pointer (some ⟨b, 0, none⟩) ∧ Sat W w' (lirR b (roomR r) 0 lirs0 :: L)) ?_).mono fun e w' ⟨v, he, b, hv, hs⟩ => ⟨b, by rw [he, hv], hs⟩
  rw [lirs_New_def, lirs_New_raw]
  refine when_of (by decide) ?_
  refine (string_New hs).mono fun e w ⟨sb, he, hs⟩ => ⟨_, he, ?_⟩
  refine (string_New hs).mono fun e w ⟨qb, he, hs⟩ => ⟨_, he, ?_⟩
  refine (entry_New hs).mono fun e w ⟨xb, he, hs⟩ => ⟨_, he, ?_⟩
  refine newB_at hs fun b w hs => ?_
  refine ⟨b, rfl, ?_⟩
  have e0 : (if (if (1024 : Int) < r then (1024 : Int) else r) > (1 : Int) then (if (1024 : Int) < r then (1024 : Int) else r) else (1 : Int)) = roomR r := by unfold roomR; split <;> split <;> omega
  rw [e0] at hs
  have hr : 1 ≤ roomR r ∧ roomR r ≤ 1024 := by unfold roomR; omega
  have e1 : Int.tdiv (roomR r) 10 = roomR r / 10 := by rw [Int.tdiv_eq_ediv_of_nonneg (by omega)]
  have e2 : IntKind.wrap .i64 (roomR r - (if (IntKind.wrap .i64 (Int.tdiv (roomR r) (10 : Int))) > (1 : Int) then (IntKind.wrap .i64 (Int.tdiv (roomR r) (10 : Int))) else (1 : Int))) = lMost (roomR r) := by
    rw [e1, i64_in (roomR r / 10) (by omega), i64_in _ (by split <;> omega)]
    unfold lMost; split <;> omega
  rw [e2] at hs
  have hi : LX 0 lirs0 [] [] [] [] ([] : LM) := ⟨(lOk0 (c := 1) (by decide) (by decide)).w, rfl, rfl, fun k => by simp [lG, mGet, lK, lirs0, lKeys, rowHd], by simp, by simp, by simp, by simp, by simp⟩
  exact lir_shut hi rfl rfl (by exact Sat.fin hs)
end
end Go.Proofs.Ytgmhoenmhnlojaa
