/- lirs.Engine.State: the walk. -/
import Derived.Test.YtgmhoenmhnlojaaLirsTxt
import Derived.Test.YtgmhoenmhnlojaaBldr
set_option linter.unusedVariables false
set_option linter.unusedSimpArgs false
set_option linter.unnecessarySimpa false
set_option linter.unusedSectionVars false
namespace Go.Proofs.Ytgmhoenmhnlojaa
open Go.Hb Go.IntWalk
section
variable {W w : World} {L M : List HP} {F : HP → List HP} {b nb tb : Nat} {c : Int} {N N' : Nat} {x y : LirsS} {sb qb xb : Nat} {m : LM} {key : ByteArray} {h g i : Int}
theorem lirs_State (h : Sat W w L) [hA : At L b (lirR b c N x) F] (hN : N < 100000000) : Calls Try.prog id_lirs_Engine_State #[.pointer (some ⟨b, 0, none⟩)] w fun e w' => e = .returned (.string (lTxt x)) ∧ Sat W w' (F (lirR b c N x)) := by
  refine At.call1 (hA := hA) h fun M hs => ?_
  clear h hA
  refine c1 (lirs_Engine_State_calls ?_)
  rw [lirs_Engine_State_def, lirs_Engine_State_raw]
  have hw := lir_w hs
  have htz := lTxt_size hw.1
  refine ite_false rfl ?_
  refine newB_T hs fun bb w hs => ?_
  have hs := bld_new (e := ty_uint8) hs
  refine call2_of (bl_write hs (by decide)) fun e w ⟨he, hs⟩ => ⟨_, _, he, ?_⟩
  have hs : Sat W w (lirR b c N x :: bldR ty_strings_Builder ty_uint8 bb (bytesL str_S_) :: M) := by exact Sat.fin hs
  obtain ⟨sb, qb, xb, sr, sf, qr, qf, m, hi, hs⟩ := lir_open hs
  have hns := hi.ns
  have hnq := hi.nq
  repeat (first | with_reducible refine nilck_some ?_ | ((with_reducible refine atLd ?_); first | refine ld_b hs ?_ | refine ld_b (x := ⟨_, _, _⟩) hs ?_ | refine ld_r0 hs ?_ | refine ld_r1 hs ?_ | refine ld_rd0 ha_ hs ?_ | refine ld_rd1 ha_ hs ?_) | ((with_reducible refine isSt ?_); first | refine st_b hs fun w hs => ?_ | refine st_r0 hs fun w hs => ?_ | refine st_r1 hs fun w hs => ?_) | ((with_reducible refine isIdx ?_); first | refine idx_s hs fun b_ o_ hs => ?_ | refine idx_rd hs fun b_ o_ ha_ => ?_) | with_reducible refine newB_at hs fun b_ w hs => ?_ | ((with_reducible refine isLdS ?_); first | refine ldS_b ?_ | refine ldS_b (x := ⟨_, _, _⟩) ?_ | refine ldS_rs0 hs ?_ | refine ldS_rd0 ha_ ?_) | ((with_reducible refine isKeep ?_); first | refine keep_of hs ?_ | refine keep_imp hs ?_) | with_reducible refine when_om ?_ | with_reducible refine drawW_sat hs fun w hs => ?_)
  refine (string_All hs (by omega)).mono fun e w ⟨ks, he, hs⟩ => ⟨_, he, ?_⟩
  rw [hi.sk] at hs
  have hn := rdb_len (s := ks) hs
  have hlk : (lKeys x.s).length = x.s.length := by simp [lKeys]
  have hrest : ∀ w, Sat W w (bldR ty_strings_Builder ty_uint8 bb (bytesL (lTxtS x.s)) :: recs Rec.str ks (lKeys x.s) :: eB b c sb qb xb ((lCnt x.s 1 : Int)) ((lCnt x.s 3 : Int)) :: lst .string sb sr sf :: lst .string qb qr qf :: ixr Rec.iii xb 0 m :: M) →
      lirs_Engine_State_j2 idJ (fun v w' => v = .string (lTxt x) ∧ Sat W w' (lirR b c N x :: M)) (some ⟨b, 0, none⟩) bb 0 w := by
    clear hs
    intro w hs
    have hz1 := lTxtS_size hw.1.ssm x.s.length (Nat.le_refl _)
    rw [List.take_length] at hz1
    rw [lirs_Engine_State_j2_def, lirs_Engine_State_j2_raw]
    refine call2_of (bl_write hs (by rw [bytesL_len]; have : str__Q_.size = 3 := rfl; omega)) fun e w ⟨he, hs⟩ => ⟨_, _, he, ?_⟩
    rw [← bytesL_append] at hs
    repeat (first | with_reducible refine nilck_some ?_ | ((with_reducible refine atLd ?_); first | refine ld_b hs ?_ | refine ld_b (x := ⟨_, _, _⟩) hs ?_ | refine ld_r0 hs ?_ | refine ld_r1 hs ?_ | refine ld_rd0 ha_ hs ?_ | refine ld_rd1 ha_ hs ?_) | ((with_reducible refine isSt ?_); first | refine st_b hs fun w hs => ?_ | refine st_r0 hs fun w hs => ?_ | refine st_r1 hs fun w hs => ?_) | ((with_reducible refine isIdx ?_); first | refine idx_s hs fun b_ o_ hs => ?_ | refine idx_rd hs fun b_ o_ ha_ => ?_) | with_reducible refine newB_at hs fun b_ w hs => ?_ | ((with_reducible refine isLdS ?_); first | refine ldS_b ?_ | refine ldS_b (x := ⟨_, _, _⟩) ?_ | refine ldS_rs0 hs ?_ | refine ldS_rd0 ha_ ?_) | ((with_reducible refine isKeep ?_); first | refine keep_of hs ?_ | refine keep_imp hs ?_) | with_reducible refine when_om ?_ | with_reducible refine drawW_sat hs fun w hs => ?_)
    refine (string_All hs (by omega)).mono fun e w ⟨qs, he, hs⟩ => ⟨_, he, ?_⟩
    rw [hi.qk] at hs
    have hn := rdb_len (s := qs) hs
    have loop : ∀ (f j : Nat) (w : World), j + f = x.q.length → Sat W w (bldR ty_strings_Builder ty_uint8 bb (bytesL (lTxtQ (lTxtS x.s) (x.q.take j))) :: recs Rec.str qs x.q :: eB b c sb qb xb ((lCnt x.s 1 : Int)) ((lCnt x.s 3 : Int)) :: lst .string sb sr sf :: lst .string qb qr qf :: ixr Rec.iii xb 0 m :: M) →
        lirs_Engine_State_l3 idJ (fun v w' => v = .string (lTxt x) ∧ Sat W w' (lirR b c N x :: M)) (f + 1) bb 0 qs (qs.n : Int) (j : Int) w := by
      clear hs
      intro f
      induction f with
      | zero =>
        intro j w hif hs
        rw [lirs_Engine_State_l3_raw]
        refine ite_false (decide_eq_false (by omega)) ?_
        rw [lirs_Engine_State_j4_def, lirs_Engine_State_j4_raw]
        rw [List.take_of_length_le (by omega)] at hs
        refine call1_of (bl_text hs lTxtQ_pos (by have : lTxtQ (lTxtS x.s) x.q = lTxt x := rfl; rw [this]; omega)) fun e w ⟨he, hs⟩ => ⟨_, he, ?_⟩
        exact ⟨rfl, lir_shut hi rfl rfl (by exact Sat.fin hs)⟩
      | succ f ih =>
        intro j w hif hs
        rw [lirs_Engine_State_l3_raw]
        refine ite_true (decide_eq_true (by omega)) ?_
        have hmem : x.q.getD j default ∈ x.q := getD_mem (by omega)
        have hsz := hw.1.qsm _ hmem
        have h1 : str__.size = 1 := rfl
        have hq := lTxtQ_size (a := lTxtS x.s) hw.1.qsm j (by omega)
        have hsn := lTxtQ_snoc (a := lTxtS x.s) (q := x.q) (j := j) (by omega)
        repeat (first | with_reducible refine nilck_some ?_ | ((with_reducible refine atLd ?_); first | refine ld_b hs ?_ | refine ld_b (x := ⟨_, _, _⟩) hs ?_ | refine ld_r0 hs ?_ | refine ld_r1 hs ?_ | refine ld_rd0 ha_ hs ?_ | refine ld_rd1 ha_ hs ?_) | ((with_reducible refine isSt ?_); first | refine st_b hs fun w hs => ?_ | refine st_r0 hs fun w hs => ?_ | refine st_r1 hs fun w hs => ?_) | ((with_reducible refine isIdx ?_); first | refine idx_s hs fun b_ o_ hs => ?_ | refine idx_rd hs fun b_ o_ ha_ => ?_) | with_reducible refine newB_at hs fun b_ w hs => ?_ | ((with_reducible refine isLdS ?_); first | refine ldS_b ?_ | refine ldS_b (x := ⟨_, _, _⟩) ?_ | refine ldS_rs0 hs ?_ | refine ldS_rd0 ha_ ?_) | ((with_reducible refine isKeep ?_); first | refine keep_of hs ?_ | refine keep_imp hs ?_) | with_reducible refine when_om ?_ | with_reducible refine drawW_sat hs fun w hs => ?_)
        rw [Int.toNat_natCast]
        refine call2_of (bl_write hs (by rw [bytesL_len, ba_size_append]; omega)) fun e w ⟨he, hs⟩ => ⟨_, _, he, ?_⟩
        rw [← bytesL_append, show str__ = tSp from rfl, ← hsn] at hs
        rw [show IntKind.wrap .i64 ((j : Int) + 1) = ((j + 1 : Nat) : Int) by rw [i64_in _ (by omega)]; omega]
        exact ih (j + 1) w (by omega) (by exact Sat.fin hs)
    refine exM_of (x.q.length + 1) ?_
    exact loop x.q.length 0 w (by omega) (by exact Sat.fin hs)
  have loop : ∀ (f j : Nat) (w : World), j + f = x.s.length → Sat W w (bldR ty_strings_Builder ty_uint8 bb (bytesL (lTxtS (x.s.take j))) :: recs Rec.str ks (lKeys x.s) :: eB b c sb qb xb ((lCnt x.s 1 : Int)) ((lCnt x.s 3 : Int)) :: lst .string sb sr sf :: lst .string qb qr qf :: ixr Rec.iii xb 0 m :: M) →
      lirs_Engine_State_l1 idJ (fun v w' => v = .string (lTxt x) ∧ Sat W w' (lirR b c N x :: M)) (f + 1) (some ⟨b, 0, none⟩) bb 0 ks (ks.n : Int) (j : Int) w := by
    clear hs
    intro f
    induction f with
    | zero =>
      intro j w hif hs
      rw [lirs_Engine_State_l1_raw]
      refine ite_false (decide_eq_false (by omega)) ?_
      rw [List.take_of_length_le (by omega)] at hs
      exact hrest w hs
    | succ f ih =>
      intro j w hif hs
      rw [lirs_Engine_State_l1_raw]
      refine ite_true (decide_eq_true (by omega)) ?_
      repeat (first | with_reducible refine nilck_some ?_ | ((with_reducible refine atLd ?_); first | refine ld_b hs ?_ | refine ld_b (x := ⟨_, _, _⟩) hs ?_ | refine ld_r0 hs ?_ | refine ld_r1 hs ?_ | refine ld_rd0 ha_ hs ?_ | refine ld_rd1 ha_ hs ?_) | ((with_reducible refine isSt ?_); first | refine st_b hs fun w hs => ?_ | refine st_r0 hs fun w hs => ?_ | refine st_r1 hs fun w hs => ?_) | ((with_reducible refine isIdx ?_); first | refine idx_s hs fun b_ o_ hs => ?_ | refine idx_rd hs fun b_ o_ ha_ => ?_) | with_reducible refine newB_at hs fun b_ w hs => ?_ | ((with_reducible refine isLdS ?_); first | refine ldS_b ?_ | refine ldS_b (x := ⟨_, _, _⟩) ?_ | refine ldS_rs0 hs ?_ | refine ldS_rd0 ha_ ?_) | ((with_reducible refine isKeep ?_); first | refine keep_of hs ?_ | refine keep_imp hs ?_) | with_reducible refine when_om ?_ | with_reducible refine drawW_sat hs fun w hs => ?_)
      rw [Int.toNat_natCast, lKeys_getD (by omega)]
      have hmem : x.s.getD j default ∈ x.s := getD_mem (by omega)
      have hsz := hw.1.ssm _ hmem
      have hkd := hw.1.kinds _ hmem
      have h1 : str__.size = 1 := rfl
      have hq := lTxtS_size hw.1.ssm j (by omega)
      have hsn := lTxtS_snoc (S := x.s) (j := j) (by omega)
      generalize x.s.getD j default = E at *
      repeat (first | with_reducible refine nilck_some ?_ | ((with_reducible refine atLd ?_); first | refine ld_b hs ?_ | refine ld_b (x := ⟨_, _, _⟩) hs ?_ | refine ld_r0 hs ?_ | refine ld_r1 hs ?_ | refine ld_rd0 ha_ hs ?_ | refine ld_rd1 ha_ hs ?_) | ((with_reducible refine isSt ?_); first | refine st_b hs fun w hs => ?_ | refine st_r0 hs fun w hs => ?_ | refine st_r1 hs fun w hs => ?_) | ((with_reducible refine isIdx ?_); first | refine idx_s hs fun b_ o_ hs => ?_ | refine idx_rd hs fun b_ o_ ha_ => ?_) | with_reducible refine newB_at hs fun b_ w hs => ?_ | ((with_reducible refine isLdS ?_); first | refine ldS_b ?_ | refine ldS_b (x := ⟨_, _, _⟩) ?_ | refine ldS_rs0 hs ?_ | refine ldS_rd0 ha_ ?_) | ((with_reducible refine isKeep ?_); first | refine keep_of hs ?_ | refine keep_imp hs ?_) | with_reducible refine when_om ?_ | with_reducible refine drawW_sat hs fun w hs => ?_)
      refine (entry_Get hs (by omega)).mono fun e w ⟨he, hs⟩ => ⟨_, _, _, _, he, ?_⟩
      have hG : (mGet m E.1).getD ((0, 0, 0) : Int × Int × Int) = lG m E.1 := rfl
      rw [hG, hi.ent, lK_at hi.w hmem]
      repeat (first | with_reducible refine nilck_some ?_ | ((with_reducible refine atLd ?_); first | refine ld_b hs ?_ | refine ld_b (x := ⟨_, _, _⟩) hs ?_ | refine ld_r0 hs ?_ | refine ld_r1 hs ?_ | refine ld_rd0 ha_ hs ?_ | refine ld_rd1 ha_ hs ?_) | ((with_reducible refine isSt ?_); first | refine st_b hs fun w hs => ?_ | refine st_r0 hs fun w hs => ?_ | refine st_r1 hs fun w hs => ?_) | ((with_reducible refine isIdx ?_); first | refine idx_s hs fun b_ o_ hs => ?_ | refine idx_rd hs fun b_ o_ ha_ => ?_) | with_reducible refine newB_at hs fun b_ w hs => ?_ | ((with_reducible refine isLdS ?_); first | refine ldS_b ?_ | refine ldS_b (x := ⟨_, _, _⟩) ?_ | refine ldS_rs0 hs ?_ | refine ldS_rd0 ha_ ?_) | ((with_reducible refine isKeep ?_); first | refine keep_of hs ?_ | refine keep_imp hs ?_) | with_reducible refine when_om ?_ | with_reducible refine drawW_sat hs fun w hs => ?_)
      have hT : ([.string str_empty, .string str__h, .string str__c, .string str__g] : List Value)[E.2.toNat]? = some (.string (kindT E.2)) := by
        rcases hkd with h | h | h <;> rw [h] <;> rfl
      refine ⟨kindT E.2, hT, rfl, ?_⟩
      have hkz := kindT_size E.2
      refine when_of (by rw [ba_size_append]; omega) ?_
      refine call2_of (bl_write hs (by rw [bytesL_len, ba_size_append, ba_size_append]; omega)) fun e w ⟨he, hs⟩ => ⟨_, _, he, ?_⟩
      rw [← bytesL_append, show str__ = tSp from rfl, ← hsn] at hs
      rw [show IntKind.wrap .i64 ((j : Int) + 1) = ((j + 1 : Nat) : Int) by rw [i64_in _ (by omega)]; omega]
      exact ih (j + 1) w (by omega) (by exact Sat.fin hs)
  refine exM_of (x.s.length + 1) ?_
  exact loop x.s.length 0 w (by omega) (by exact Sat.fin hs)
end
end Go.Proofs.Ytgmhoenmhnlojaa
