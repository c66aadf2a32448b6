/- lirs.Engine: the walk of what is exported (State stands apart). -/
import Derived.Test.YtgmhoenmhnlojaaLirsEng
set_option linter.unusedVariables false
set_option linter.unusedSimpArgs false
set_option linter.unnecessarySimpa false
set_option linter.unusedSectionVars false
namespace Go.Hb
theorem lFp_eq (c : Int) (x : LirsS) : lFp c x = lPr ⟨lForget c x.s, x.q⟩ := rfl
theorem lIs_one {x : LirsS} (h : LW x) (k : ByteArray) : lIs x.s k = 1 ↔ lK x.s x.q k = 1 := by rw [lK_one h, lIs_iff h.sn (by decide)]
theorem lIs_three {x : LirsS} (h : LW x) (k : ByteArray) : lIs x.s k = 3 ↔ lK x.s x.q k = 3 := by rw [lK_three h, lIs_iff h.sn (by decide)]
theorem lIs_two {x : LirsS} (h : LW x) {k : ByteArray} (hq : k ∈ x.q) : lIs x.s k = 2 ↔ k ∈ lKeys x.s := by
  rw [lIs_iff h.sn (by decide)]
  constructor
  · intro hm; exact List.mem_map.2 ⟨_, hm, rfl⟩
  · intro hm
    obtain ⟨e, he, rfl⟩ := List.mem_map.1 hm
    rcases h.kinds e he with h1 | h1 | h1
    · exact absurd hq (h.hotq e he h1)
    · rw [← h1]; exact he
    · exact absurd hq (h.ghq e he h1)
theorem lCnt_le (S : SL) (i : Int) : lCnt S i ≤ S.length := List.countP_le_length
end Go.Hb
namespace Go.Proofs.Ytgmhoenmhnlojaa
open Go.Hb Go.IntWalk
section
variable {W w : World} {L M : List HP} {F : HP → List HP} {b nb tb : Nat} {c : Int} {N N' : Nat} {x y : LirsS} {sb qb xb : Nat} {row sr sr' qr qr' : LRow} {free sf sf' qf qf' : List Nat} {m : LM} {key : ByteArray} {h g i : Int}
theorem lir_cap (h : Sat W w (lirR b c N x :: M)) : w.cell? ⟨b, 0, none⟩ = some (.int .i64 c) := by
  obtain ⟨sb, qb, xb, sr, sf, qr, qf, m, hi, h⟩ := lir_open h
  exact h.cell (q := 0) rfl
theorem lirs_Room (hs : Sat W w L) [hA : At L b (lirR b c N x) F] : Calls Try.prog id_lirs_Engine_Room #[.pointer (some ⟨b, 0, none⟩)] w fun e w' => e = .returned (.int .i64 c) ∧ Sat W w' (F (lirR b c N x)) := by
  refine At.call1 (hA := hA) hs fun M hs => ?_
  clear hA
  refine c1 (lirs_Engine_Room_calls ?_)
  rw [lirs_Engine_Room_def, lirs_Engine_Room_raw]
  obtain ⟨sb, qb, xb, sr, sf, qr, qf, m, hi, hs⟩ := lir_open hs
  refine ite_false rfl ?_
  repeat (first | with_reducible refine nilck_some ?_ | ((with_reducible refine atLd ?_); first | refine ld_b hs ?_ | refine ld_b (x := ⟨_, _, _⟩) hs ?_ | refine ld_r0 hs ?_ | refine ld_r1 hs ?_ | refine ld_rd0 ha_ hs ?_ | refine ld_rd1 ha_ hs ?_) | ((with_reducible refine isSt ?_); first | refine st_b hs fun w hs => ?_ | refine st_r0 hs fun w hs => ?_ | refine st_r1 hs fun w hs => ?_) | ((with_reducible refine isIdx ?_); first | refine idx_s hs fun b_ o_ hs => ?_ | refine idx_rd hs fun b_ o_ ha_ => ?_) | with_reducible refine newB_at hs fun b_ w hs => ?_ | ((with_reducible refine isLdS ?_); first | refine ldS_b ?_ | refine ldS_b (x := ⟨_, _, _⟩) ?_ | refine ldS_rs0 hs ?_ | refine ldS_rd0 ha_ ?_) | ((with_reducible refine isKeep ?_); first | refine keep_of hs ?_ | refine keep_imp hs ?_) | with_reducible refine when_om ?_ | with_reducible refine drawW_sat hs fun w hs => ?_)
  exact ⟨rfl, lir_shut hi rfl rfl (by exact Sat.fin hs)⟩
theorem lirs_Len_at (hi : LX N x sr sf qr qf m) (hN : N < 400000000) (hs : Sat W w (eB b c sb qb xb ((lCnt x.s 1 : Int)) ((lCnt x.s 3 : Int)) :: lst .string sb sr sf :: lst .string qb qr qf :: ixr Rec.iii xb 0 m :: M)) :
    Calls Try.prog id_lirs_Engine_Len #[.pointer (some ⟨b, 0, none⟩)] w fun e w' => e = .returned (.int .i64 (lLen x : Int)) ∧ Sat W w' (eB b c sb qb xb ((lCnt x.s 1 : Int)) ((lCnt x.s 3 : Int)) :: lst .string sb sr sf :: lst .string qb qr qf :: ixr Rec.iii xb 0 m :: M) := by
  refine c1 (lirs_Engine_Len_calls ?_)
  rw [lirs_Engine_Len_def, lirs_Engine_Len_raw]
  have h1 := lCnt_le x.s 1
  have hns := hi.ns
  have hnq := hi.nq
  have hq : qr.length = x.q.length := by have := congrArg List.length hi.qk; simpa using this
  have hq2 : sr.length = x.s.length := by have := congrArg List.length hi.sk; simpa [lKeys] using this
  refine ite_false rfl ?_
  refine drawW_only [eB b c sb qb xb ((lCnt x.s 1 : Int)) ((lCnt x.s 3 : Int))] hs fun w hs => ?_
  repeat (first | with_reducible refine nilck_some ?_ | ((with_reducible refine atLd ?_); first | refine ld_b hs ?_ | refine ld_b (x := ⟨_, _, _⟩) hs ?_ | refine ld_r0 hs ?_ | refine ld_r1 hs ?_ | refine ld_rd0 ha_ hs ?_ | refine ld_rd1 ha_ hs ?_) | ((with_reducible refine isSt ?_); first | refine st_b hs fun w hs => ?_ | refine st_r0 hs fun w hs => ?_ | refine st_r1 hs fun w hs => ?_) | ((with_reducible refine isIdx ?_); first | refine idx_s hs fun b_ o_ hs => ?_ | refine idx_rd hs fun b_ o_ ha_ => ?_) | with_reducible refine newB_at hs fun b_ w hs => ?_ | ((with_reducible refine isLdS ?_); first | refine ldS_b ?_ | refine ldS_b (x := ⟨_, _, _⟩) ?_ | refine ldS_rs0 hs ?_ | refine ldS_rd0 ha_ ?_) | ((with_reducible refine isKeep ?_); first | refine keep_of hs ?_ | refine keep_imp hs ?_) | with_reducible refine when_om ?_ | with_reducible refine drawW_sat hs fun w hs => ?_)
  refine call1_of (string_Len hs) fun e w ⟨he, hs⟩ => ⟨_, he, ?_⟩
  repeat (first | with_reducible refine nilck_some ?_ | ((with_reducible refine atLd ?_); first | refine ld_b hs ?_ | refine ld_b (x := ⟨_, _, _⟩) hs ?_ | refine ld_r0 hs ?_ | refine ld_r1 hs ?_ | refine ld_rd0 ha_ hs ?_ | refine ld_rd1 ha_ hs ?_) | ((with_reducible refine isSt ?_); first | refine st_b hs fun w hs => ?_ | refine st_r0 hs fun w hs => ?_ | refine st_r1 hs fun w hs => ?_) | ((with_reducible refine isIdx ?_); first | refine idx_s hs fun b_ o_ hs => ?_ | refine idx_rd hs fun b_ o_ ha_ => ?_) | with_reducible refine newB_at hs fun b_ w hs => ?_ | ((with_reducible refine isLdS ?_); first | refine ldS_b ?_ | refine ldS_b (x := ⟨_, _, _⟩) ?_ | refine ldS_rs0 hs ?_ | refine ldS_rd0 ha_ ?_) | ((with_reducible refine isKeep ?_); first | refine keep_of hs ?_ | refine keep_imp hs ?_) | with_reducible refine when_om ?_ | with_reducible refine drawW_sat hs fun w hs => ?_)
  rw [i64_in _ (by omega), hq]
  exact ⟨rfl, by exact Sat.fin hs⟩
theorem lirs_Len (hs : Sat W w L) [hA : At L b (lirR b c N x) F] (hN : N < 400000000) : Calls Try.prog id_lirs_Engine_Len #[.pointer (some ⟨b, 0, none⟩)] w fun e w' => e = .returned (.int .i64 (lLen x : Int)) ∧ Sat W w' (F (lirR b c N x)) := by
  refine At.call1 (hA := hA) hs fun M hs => ?_
  obtain ⟨sb, qb, xb, sr, sf, qr, qf, m, hi, hs⟩ := lir_open hs
  exact (lirs_Len_at hi hN hs).mono fun e w ⟨he, hs⟩ => ⟨he, lir_shut hi rfl rfl hs⟩
theorem lirs_Has (hs : Sat W w L) [hA : At L b (lirR b c N x) F] (hz : key.size < 64) : Calls Try.prog id_lirs_Engine_Has #[.pointer (some ⟨b, 0, none⟩), .string key] w fun e w' => e = .returned (.bool (decide (key ∈ lRes x))) ∧ Sat W w' (F (lirR b c N x)) := by
  refine At.call1 (hA := hA) hs fun M hs => ?_
  clear hA
  refine c1 (lirs_Engine_Has_calls ?_)
  rw [lirs_Engine_Has_def, lirs_Engine_Has_raw]
  obtain ⟨sb, qb, xb, sr, sf, qr, qf, m, hi, hs⟩ := lir_open hs
  refine ite_false rfl ?_
  repeat (first | with_reducible refine nilck_some ?_ | ((with_reducible refine atLd ?_); first | refine ld_b hs ?_ | refine ld_b (x := ⟨_, _, _⟩) hs ?_ | refine ld_r0 hs ?_ | refine ld_r1 hs ?_ | refine ld_rd0 ha_ hs ?_ | refine ld_rd1 ha_ hs ?_) | ((with_reducible refine isSt ?_); first | refine st_b hs fun w hs => ?_ | refine st_r0 hs fun w hs => ?_ | refine st_r1 hs fun w hs => ?_) | ((with_reducible refine isIdx ?_); first | refine idx_s hs fun b_ o_ hs => ?_ | refine idx_rd hs fun b_ o_ ha_ => ?_) | with_reducible refine newB_at hs fun b_ w hs => ?_ | ((with_reducible refine isLdS ?_); first | refine ldS_b ?_ | refine ldS_b (x := ⟨_, _, _⟩) ?_ | refine ldS_rs0 hs ?_ | refine ldS_rd0 ha_ ?_) | ((with_reducible refine isKeep ?_); first | refine keep_of hs ?_ | refine keep_imp hs ?_) | with_reducible refine when_om ?_ | with_reducible refine drawW_sat hs fun w hs => ?_)
  refine (entry_Get hs (by omega)).mono fun e w ⟨he, hs⟩ => ⟨_, _, _, _, he, ?_⟩
  have hG : (mGet m key).getD ((0, 0, 0) : Int × Int × Int) = lG m key := rfl
  rw [hG, hi.ent]
  repeat (first | with_reducible refine nilck_some ?_ | ((with_reducible refine atLd ?_); first | refine ld_b hs ?_ | refine ld_b (x := ⟨_, _, _⟩) hs ?_ | refine ld_r0 hs ?_ | refine ld_r1 hs ?_ | refine ld_rd0 ha_ hs ?_ | refine ld_rd1 ha_ hs ?_) | ((with_reducible refine isSt ?_); first | refine st_b hs fun w hs => ?_ | refine st_r0 hs fun w hs => ?_ | refine st_r1 hs fun w hs => ?_) | ((with_reducible refine isIdx ?_); first | refine idx_s hs fun b_ o_ hs => ?_ | refine idx_rd hs fun b_ o_ ha_ => ?_) | with_reducible refine newB_at hs fun b_ w hs => ?_ | ((with_reducible refine isLdS ?_); first | refine ldS_b ?_ | refine ldS_b (x := ⟨_, _, _⟩) ?_ | refine ldS_rs0 hs ?_ | refine ldS_rd0 ha_ ?_) | ((with_reducible refine isKeep ?_); first | refine keep_of hs ?_ | refine keep_imp hs ?_) | with_reducible refine when_om ?_ | with_reducible refine drawW_sat hs fun w hs => ?_)
  with_reducible refine ite_by (fun h1 => ?_) (fun h1 => ?_)
  · have : key ∈ lRes x := mem_lRes.2 (.inr ((lK_one hi.w key).1 h1))
    rw [decide_eq_true this]
    exact ⟨rfl, lir_shut hi rfl rfl (by exact Sat.fin hs)⟩
  · repeat (first | with_reducible refine nilck_some ?_ | ((with_reducible refine atLd ?_); first | refine ld_b hs ?_ | refine ld_b (x := ⟨_, _, _⟩) hs ?_ | refine ld_r0 hs ?_ | refine ld_r1 hs ?_ | refine ld_rd0 ha_ hs ?_ | refine ld_rd1 ha_ hs ?_) | ((with_reducible refine isSt ?_); first | refine st_b hs fun w hs => ?_ | refine st_r0 hs fun w hs => ?_ | refine st_r1 hs fun w hs => ?_) | ((with_reducible refine isIdx ?_); first | refine idx_s hs fun b_ o_ hs => ?_ | refine idx_rd hs fun b_ o_ ha_ => ?_) | with_reducible refine newB_at hs fun b_ w hs => ?_ | ((with_reducible refine isLdS ?_); first | refine ldS_b ?_ | refine ldS_b (x := ⟨_, _, _⟩) ?_ | refine ldS_rs0 hs ?_ | refine ldS_rd0 ha_ ?_) | ((with_reducible refine isKeep ?_); first | refine keep_of hs ?_ | refine keep_imp hs ?_) | with_reducible refine when_om ?_ | with_reducible refine drawW_sat hs fun w hs => ?_)
    have : (lK x.s x.q key == 2) = decide (key ∈ lRes x) := by
      rw [Bool.eq_iff_iff, beq_iff_eq, decide_eq_true_eq, lK_two hi.w, mem_lRes]
      exact ⟨.inl, fun h => h.elim id fun h => absurd ((lK_one hi.w key).2 h) h1⟩
    rw [this]
    exact ⟨rfl, lir_shut hi rfl rfl (by exact Sat.fin hs)⟩
theorem lirs_Remove (hs : Sat W w L) [hA : At L b (lirR b c N x) F] (hz : key.size < 64) (hN : N < 200000000) : Calls Try.prog id_lirs_Engine_Remove #[.pointer (some ⟨b, 0, none⟩), .string key] w fun e w' => e = .returned (.bool (lRem x key).1) ∧ Sat W w' (F (lirR b c N (lRem x key).2)) := by
  refine At.call1 (hA := hA) hs fun M hs => ?_
  clear hA
  refine c1 (lirs_Engine_Remove_calls ?_)
  rw [lirs_Engine_Remove_def, lirs_Engine_Remove_raw]
  refine call1_of (lirs_Has hs hz) fun e w ⟨he, hs⟩ => ⟨_, he, ?_⟩
  have hHas := lHas (lir_w hs).1 (k := key)
  by_cases hk : key ∈ lRes x
  · rw [decide_eq_true hk] at hHas ⊢
    have hcond : lIs x.s key = 1 ∨ key ∈ x.q := by simpa using hHas
    refine ite_false rfl ?_
    obtain ⟨sb, qb, xb, sr, sf, qr, qf, m, hi, hs⟩ := lir_open hs
    have hns := hi.ns
    have hnq := hi.nq
    repeat (first | with_reducible refine nilck_some ?_ | ((with_reducible refine atLd ?_); first | refine ld_b hs ?_ | refine ld_b (x := ⟨_, _, _⟩) hs ?_ | refine ld_r0 hs ?_ | refine ld_r1 hs ?_ | refine ld_rd0 ha_ hs ?_ | refine ld_rd1 ha_ hs ?_) | ((with_reducible refine isSt ?_); first | refine st_b hs fun w hs => ?_ | refine st_r0 hs fun w hs => ?_ | refine st_r1 hs fun w hs => ?_) | ((with_reducible refine isIdx ?_); first | refine idx_s hs fun b_ o_ hs => ?_ | refine idx_rd hs fun b_ o_ ha_ => ?_) | with_reducible refine newB_at hs fun b_ w hs => ?_ | ((with_reducible refine isLdS ?_); first | refine ldS_b ?_ | refine ldS_b (x := ⟨_, _, _⟩) ?_ | refine ldS_rs0 hs ?_ | refine ldS_rd0 ha_ ?_) | ((with_reducible refine isKeep ?_); first | refine keep_of hs ?_ | refine keep_imp hs ?_) | with_reducible refine when_om ?_ | with_reducible refine drawW_sat hs fun w hs => ?_)
    refine (entry_Get hs (by omega)).mono fun e w ⟨he, hs⟩ => ⟨_, _, _, _, he, ?_⟩
    have hG : (mGet m key).getD ((0, 0, 0) : Int × Int × Int) = lG m key := rfl
    rw [hG, hi.ent]
    refine newB_at hs fun nb w hs => ?_
    repeat (first | with_reducible refine nilck_some ?_ | ((with_reducible refine atLd ?_); first | refine ld_b hs ?_ | refine ld_b (x := ⟨_, _, _⟩) hs ?_ | refine ld_r0 hs ?_ | refine ld_r1 hs ?_ | refine ld_rd0 ha_ hs ?_ | refine ld_rd1 ha_ hs ?_) | ((with_reducible refine isSt ?_); first | refine st_b hs fun w hs => ?_ | refine st_r0 hs fun w hs => ?_ | refine st_r1 hs fun w hs => ?_) | ((with_reducible refine isIdx ?_); first | refine idx_s hs fun b_ o_ hs => ?_ | refine idx_rd hs fun b_ o_ ha_ => ?_) | with_reducible refine newB_at hs fun b_ w hs => ?_ | ((with_reducible refine isLdS ?_); first | refine ldS_b ?_ | refine ldS_b (x := ⟨_, _, _⟩) ?_ | refine ldS_rs0 hs ?_ | refine ldS_rd0 ha_ ?_) | ((with_reducible refine isKeep ?_); first | refine keep_of hs ?_ | refine keep_imp hs ?_) | with_reducible refine when_om ?_ | with_reducible refine drawW_sat hs fun w hs => ?_)
    refine call2_of (row_Remove (key := key) hs (by omega) hi.snd.1 rfl) fun e w ⟨⟨_, _, he⟩, f', hc, hs⟩ => ⟨_, _, he, ?_⟩
    refine call0_of (lirs_leaves_at (W := W) (M := lst .string sb (rowDel sr key) f' :: ixr Rec.iii xb 0 m :: M) (c := c) (b := b) (nb := nb) (sb := sb) (qb := qb) (xb := xb) (h := (lCnt x.s 1 : Int)) (g := (lCnt x.s 3 : Int)) (i := lK x.s x.q key) (s := rowHd sr key) (q := rowHd qr key) (key := key) (qr := qr) (qf := qf) (by exact Sat.fin hs) (by omega) hi.snd.2 rfl) fun e w ⟨he, qf', hc2, hs⟩ => ⟨he, ?_⟩
    have hu := hi.rem hz hc hc2
    have hk0 : (0 : Int) = lK (lOut x.s key) (gTake x.q key) key := by rw [lK_out, if_neg (fun h => (gTake_mem.1 h).2 rfl)]
    refine call0_of (lirs_set_at (W := W) (M := M) (c := c) (b := b) (n := (0, 0, 0)) hi hu hz (lOut_lOut _ _) hk0 (by omega) (by exact Sat.fin hs)) fun e w ⟨he, hs⟩ => ⟨he, ?_⟩
    refine call0_of (lirs_prunes_at (by omega) hs) fun e w ⟨he, hs⟩ => ⟨he, ?_⟩
    unfold lRem
    rw [if_pos hcond]
    exact ⟨rfl, hs⟩
  · rw [decide_eq_false hk] at hHas ⊢
    have hcond : ¬ (lIs x.s key = 1 ∨ key ∈ x.q) := by simpa using hHas
    refine ite_true rfl ?_
    unfold lRem
    rw [if_neg hcond]
    exact ⟨rfl, hs⟩
theorem lirs_Load (hs : Sat W w L) [hA : At L b (lirR b c N x) F] (hz : key.size < 64) (hm : 0 ≤ lMost c) (hN : N < 200000000) : Calls Try.prog id_lirs_Engine_Load #[.pointer (some ⟨b, 0, none⟩), .string key] w fun e w' => e = .returned (.bool (lLoad c x key).1) ∧ Sat W w' (F (lirR b c (N + 2) (lLoad c x key).2)) := by
  refine At.call1 (hA := hA) hs fun M hs => ?_
  clear hA
  refine c1 (lirs_Engine_Load_calls ?_)
  rw [lirs_Engine_Load_def, lirs_Engine_Load_raw]
  have hHas := lHas (lir_w hs).1 (k := key)
  have hlen : (lLen x : Int) ≤ 2 * N := by
    have hw := lir_w hs
    have h1 := lCnt_le x.s 1
    unfold lLen; omega
  refine drawW_only [lirR b c N x] hs fun w hs => ?_
  refine ite_false rfl ?_
  refine call1_of (lirs_Has hs hz) fun e w ⟨he, hs⟩ => ⟨_, he, ?_⟩
  refine keep_imp hs ?_
  by_cases hk : key ∈ lRes x
  · rw [decide_eq_true hk] at hHas ⊢
    have hcond : lIs x.s key = 1 ∨ key ∈ x.q := by simpa using hHas
    refine ite_true rfl ?_
    refine keep_imp hs ?_
    have e1 : lLoad c x key = (false, x) := by unfold lLoad; rw [if_pos (hcond.elim .inl fun h => .inr (.inl h))]
    rw [e1]
    exact ⟨rfl, lir_more hs (by omega)⟩
  · rw [decide_eq_false hk] at hHas ⊢
    have hcond : ¬ (lIs x.s key = 1 ∨ key ∈ x.q) := by simpa using hHas
    refine ite_false rfl ?_
    refine nilck_some ?_
    refine ldS_by (k := .int .i64) c (fun w' h => lir_cap h) ?_
    refine call1_of (lirs_Len hs (by omega)) fun e w ⟨he, hs⟩ => ⟨_, he, ?_⟩
    refine keep_imp hs ?_
    with_reducible refine ite_by (fun hl => ?_) (fun hl => ?_)
    · have e1 : lLoad c x key = (false, x) := by unfold lLoad; rw [if_pos (.inr (.inr hl))]
      rw [e1]
      exact ⟨rfl, lir_more hs (by omega)⟩
    · have e1 : lLoad c x key = (true, lPr (if (lCnt x.s 1 : Int) < lMost c then lHeats c x key else lChills x key)) := by unfold lLoad; rw [if_neg (fun h => h.elim (fun h => hcond (.inl h)) fun h => h.elim (fun h => hcond (.inr h)) hl)]
      rw [e1, lirs_Engine_Load_j1_def, lirs_Engine_Load_j1_raw]
      obtain ⟨sb, qb, xb, sr, sf, qr, qf, m, hi, hs⟩ := lir_open hs
      repeat (first | with_reducible refine nilck_some ?_ | ((with_reducible refine atLd ?_); first | refine ld_b hs ?_ | refine ld_b (x := ⟨_, _, _⟩) hs ?_ | refine ld_r0 hs ?_ | refine ld_r1 hs ?_ | refine ld_rd0 ha_ hs ?_ | refine ld_rd1 ha_ hs ?_) | ((with_reducible refine isSt ?_); first | refine st_b hs fun w hs => ?_ | refine st_r0 hs fun w hs => ?_ | refine st_r1 hs fun w hs => ?_) | ((with_reducible refine isIdx ?_); first | refine idx_s hs fun b_ o_ hs => ?_ | refine idx_rd hs fun b_ o_ ha_ => ?_) | with_reducible refine newB_at hs fun b_ w hs => ?_ | ((with_reducible refine isLdS ?_); first | refine ldS_b ?_ | refine ldS_b (x := ⟨_, _, _⟩) ?_ | refine ldS_rs0 hs ?_ | refine ldS_rd0 ha_ ?_) | ((with_reducible refine isKeep ?_); first | refine keep_of hs ?_ | refine keep_imp hs ?_) | with_reducible refine when_om ?_ | with_reducible refine drawW_sat hs fun w hs => ?_)
      refine (entry_Get hs (by omega)).mono fun e w ⟨he, hs⟩ => ⟨_, _, _, _, he, ?_⟩
      have hG : (mGet m key).getD ((0, 0, 0) : Int × Int × Int) = lG m key := rfl
      rw [hG]
      repeat (first | with_reducible refine nilck_some ?_ | ((with_reducible refine atLd ?_); first | refine ld_b hs ?_ | refine ld_b (x := ⟨_, _, _⟩) hs ?_ | refine ld_r0 hs ?_ | refine ld_r1 hs ?_ | refine ld_rd0 ha_ hs ?_ | refine ld_rd1 ha_ hs ?_) | ((with_reducible refine isSt ?_); first | refine st_b hs fun w hs => ?_ | refine st_r0 hs fun w hs => ?_ | refine st_r1 hs fun w hs => ?_) | ((with_reducible refine isIdx ?_); first | refine idx_s hs fun b_ o_ hs => ?_ | refine idx_rd hs fun b_ o_ ha_ => ?_) | with_reducible refine newB_at hs fun b_ w hs => ?_ | ((with_reducible refine isLdS ?_); first | refine ldS_b ?_ | refine ldS_b (x := ⟨_, _, _⟩) ?_ | refine ldS_rs0 hs ?_ | refine ldS_rd0 ha_ ?_) | ((with_reducible refine isKeep ?_); first | refine keep_of hs ?_ | refine keep_imp hs ?_) | with_reducible refine when_om ?_ | with_reducible refine drawW_sat hs fun w hs => ?_)
      with_reducible refine ite_by (fun hh => ?_) (fun hh => ?_)
      · rw [if_pos hh]
        repeat (first | with_reducible refine nilck_some ?_ | ((with_reducible refine atLd ?_); first | refine ld_b hs ?_ | refine ld_b (x := ⟨_, _, _⟩) hs ?_ | refine ld_r0 hs ?_ | refine ld_r1 hs ?_ | refine ld_rd0 ha_ hs ?_ | refine ld_rd1 ha_ hs ?_) | ((with_reducible refine isSt ?_); first | refine st_b hs fun w hs => ?_ | refine st_r0 hs fun w hs => ?_ | refine st_r1 hs fun w hs => ?_) | ((with_reducible refine isIdx ?_); first | refine idx_s hs fun b_ o_ hs => ?_ | refine idx_rd hs fun b_ o_ ha_ => ?_) | with_reducible refine newB_at hs fun b_ w hs => ?_ | ((with_reducible refine isLdS ?_); first | refine ldS_b ?_ | refine ldS_b (x := ⟨_, _, _⟩) ?_ | refine ldS_rs0 hs ?_ | refine ldS_rd0 ha_ ?_) | ((with_reducible refine isKeep ?_); first | refine keep_of hs ?_ | refine keep_imp hs ?_) | with_reducible refine when_om ?_ | with_reducible refine drawW_sat hs fun w hs => ?_)
        refine call0_of (lirs_heats_at (W := W) (M := M) (c := c) (b := b) hi hz hm (by omega) (n := lG m key) (by rw [hi.ent]) (by exact Sat.fin hs)) fun e w ⟨he, hs⟩ => ⟨he, ?_⟩
        refine call0_of (lirs_prunes_at (by omega) hs) fun e w ⟨he, hs⟩ => ⟨he, ?_⟩
        exact ⟨rfl, hs⟩
      · rw [if_neg hh]
        repeat (first | with_reducible refine nilck_some ?_ | ((with_reducible refine atLd ?_); first | refine ld_b hs ?_ | refine ld_b (x := ⟨_, _, _⟩) hs ?_ | refine ld_r0 hs ?_ | refine ld_r1 hs ?_ | refine ld_rd0 ha_ hs ?_ | refine ld_rd1 ha_ hs ?_) | ((with_reducible refine isSt ?_); first | refine st_b hs fun w hs => ?_ | refine st_r0 hs fun w hs => ?_ | refine st_r1 hs fun w hs => ?_) | ((with_reducible refine isIdx ?_); first | refine idx_s hs fun b_ o_ hs => ?_ | refine idx_rd hs fun b_ o_ ha_ => ?_) | with_reducible refine newB_at hs fun b_ w hs => ?_ | ((with_reducible refine isLdS ?_); first | refine ldS_b ?_ | refine ldS_b (x := ⟨_, _, _⟩) ?_ | refine ldS_rs0 hs ?_ | refine ldS_rd0 ha_ ?_) | ((with_reducible refine isKeep ?_); first | refine keep_of hs ?_ | refine keep_imp hs ?_) | with_reducible refine when_om ?_ | with_reducible refine drawW_sat hs fun w hs => ?_)
        refine call0_of (lirs_chills_at (W := W) (M := M) (c := c) (b := b) hi hz (by omega) (n := lG m key) (by rw [hi.ent]) (by exact Sat.fin hs)) fun e w ⟨he, hs⟩ => ⟨he, ?_⟩
        refine call0_of (lirs_prunes_at (by omega) hs) fun e w ⟨he, hs⟩ => ⟨he, ?_⟩
        exact ⟨rfl, hs⟩
theorem lirs_Evict_j1 {q1 : ByteArray} {t : List ByteArray} (hq : x.q = q1 :: t) (hc : 0 ≤ c) (hN : N < 200000000) (hs : Sat W w (lirR b c N x :: M)) :
    lirs_Engine_Evict_j1 idJ (fun v w' => v = .tuple #[.string q1, .bool true] ∧ Sat W w' (lirR b c N (lFp c ⟨lGhost x.s q1, t⟩) :: M)) (some ⟨b, 0, none⟩) w := by
  rw [lirs_Engine_Evict_j1_def, lirs_Engine_Evict_j1_raw]
  obtain ⟨sb, qb, xb, sr, sf, qr, qf, m, hi, hs⟩ := lir_open hs
  have hnq := hi.nq
  obtain ⟨hnS, hpS⟩ := lst_pos (b := sb) (row := sr) (free := sf) (M := eB b c sb qb xb ((lCnt x.s 1 : Int)) ((lCnt x.s 3 : Int)) :: lst .string qb qr qf :: ixr Rec.iii xb 0 m :: M) (by exact Sat.fin hs)
  obtain ⟨hn, hp⟩ := lst_pos (b := qb) (row := qr) (free := qf) (M := eB b c sb qb xb ((lCnt x.s 1 : Int)) ((lCnt x.s 3 : Int)) :: lst .string sb sr sf :: ixr Rec.iii xb 0 m :: M) (by exact Sat.fin hs)
  have hlen : qr.length = x.q.length := by have := congrArg List.length hi.qk; simpa using this
  have hlt : 0 < qr.length := by rw [hlen, hq]; simp
  have hkey : qr[0].2 = q1 := by
    have := congrArg (fun l : List ByteArray => l[0]?) hi.qk
    rw [hq] at this
    simp only [List.getElem?_map, List.getElem?_eq_getElem hlt, List.getElem?_cons_zero, Option.map_some, Option.some.injEq] at this
    exact this
  have hz : q1.size < 64 := hi.w.qsm _ (by rw [hq]; exact .head _)
  refine drawW_only [eB b c sb qb xb ((lCnt x.s 1 : Int)) ((lCnt x.s 3 : Int))] hs fun w hs => ?_
  repeat (first | with_reducible refine nilck_some ?_ | ((with_reducible refine atLd ?_); first | refine ld_b hs ?_ | refine ld_b (x := ⟨_, _, _⟩) hs ?_ | refine ld_r0 hs ?_ | refine ld_r1 hs ?_ | refine ld_rd0 ha_ hs ?_ | refine ld_rd1 ha_ hs ?_) | ((with_reducible refine isSt ?_); first | refine st_b hs fun w hs => ?_ | refine st_r0 hs fun w hs => ?_ | refine st_r1 hs fun w hs => ?_) | ((with_reducible refine isIdx ?_); first | refine idx_s hs fun b_ o_ hs => ?_ | refine idx_rd hs fun b_ o_ ha_ => ?_) | with_reducible refine newB_at hs fun b_ w hs => ?_ | ((with_reducible refine isLdS ?_); first | refine ldS_b ?_ | refine ldS_b (x := ⟨_, _, _⟩) ?_ | refine ldS_rs0 hs ?_ | refine ldS_rd0 ha_ ?_) | ((with_reducible refine isKeep ?_); first | refine keep_of hs ?_ | refine keep_imp hs ?_) | with_reducible refine when_om ?_ | with_reducible refine drawW_sat hs fun w hs => ?_)
  refine call1_of (string_Front hs) fun e w ⟨he, hs⟩ => ⟨_, he, ?_⟩
  repeat (first | with_reducible refine nilck_some ?_ | ((with_reducible refine atLd ?_); first | refine ld_b hs ?_ | refine ld_b (x := ⟨_, _, _⟩) hs ?_ | refine ld_r0 hs ?_ | refine ld_r1 hs ?_ | refine ld_rd0 ha_ hs ?_ | refine ld_rd1 ha_ hs ?_) | ((with_reducible refine isSt ?_); first | refine st_b hs fun w hs => ?_ | refine st_r0 hs fun w hs => ?_ | refine st_r1 hs fun w hs => ?_) | ((with_reducible refine isIdx ?_); first | refine idx_s hs fun b_ o_ hs => ?_ | refine idx_rd hs fun b_ o_ ha_ => ?_) | with_reducible refine newB_at hs fun b_ w hs => ?_ | ((with_reducible refine isLdS ?_); first | refine ldS_b ?_ | refine ldS_b (x := ⟨_, _, _⟩) ?_ | refine ldS_rs0 hs ?_ | refine ldS_rd0 ha_ ?_) | ((with_reducible refine isKeep ?_); first | refine keep_of hs ?_ | refine keep_imp hs ?_) | with_reducible refine when_om ?_ | with_reducible refine drawW_sat hs fun w hs => ?_)
  refine call2_of (string_Get hs) fun e w ⟨he, hs⟩ => ⟨_, _, he, ?_⟩
  rw [rowVal_place hn hlt]
  rw [Option.getD_some, hkey]
  repeat (first | with_reducible refine nilck_some ?_ | ((with_reducible refine atLd ?_); first | refine ld_b hs ?_ | refine ld_b (x := ⟨_, _, _⟩) hs ?_ | refine ld_r0 hs ?_ | refine ld_r1 hs ?_ | refine ld_rd0 ha_ hs ?_ | refine ld_rd1 ha_ hs ?_) | ((with_reducible refine isSt ?_); first | refine st_b hs fun w hs => ?_ | refine st_r0 hs fun w hs => ?_ | refine st_r1 hs fun w hs => ?_) | ((with_reducible refine isIdx ?_); first | refine idx_s hs fun b_ o_ hs => ?_ | refine idx_rd hs fun b_ o_ ha_ => ?_) | with_reducible refine newB_at hs fun b_ w hs => ?_ | ((with_reducible refine isLdS ?_); first | refine ldS_b ?_ | refine ldS_b (x := ⟨_, _, _⟩) ?_ | refine ldS_rs0 hs ?_ | refine ldS_rd0 ha_ ?_) | ((with_reducible refine isKeep ?_); first | refine keep_of hs ?_ | refine keep_imp hs ?_) | with_reducible refine when_om ?_ | with_reducible refine drawW_sat hs fun w hs => ?_)
  refine (entry_Get hs (by omega)).mono fun e w ⟨he, hs⟩ => ⟨_, _, _, _, he, ?_⟩
  have hG : (mGet m q1).getD ((0, 0, 0) : Int × Int × Int) = lG m q1 := rfl
  rw [hG, hi.ent]
  refine newB_at hs fun nb w hs => ?_
  repeat (first | with_reducible refine nilck_some ?_ | ((with_reducible refine atLd ?_); first | refine ld_b hs ?_ | refine ld_b (x := ⟨_, _, _⟩) hs ?_ | refine ld_r0 hs ?_ | refine ld_r1 hs ?_ | refine ld_rd0 ha_ hs ?_ | refine ld_rd1 ha_ hs ?_) | ((with_reducible refine isSt ?_); first | refine st_b hs fun w hs => ?_ | refine st_r0 hs fun w hs => ?_ | refine st_r1 hs fun w hs => ?_) | ((with_reducible refine isIdx ?_); first | refine idx_s hs fun b_ o_ hs => ?_ | refine idx_rd hs fun b_ o_ ha_ => ?_) | with_reducible refine newB_at hs fun b_ w hs => ?_ | ((with_reducible refine isLdS ?_); first | refine ldS_b ?_ | refine ldS_b (x := ⟨_, _, _⟩) ?_ | refine ldS_rs0 hs ?_ | refine ldS_rd0 ha_ ?_) | ((with_reducible refine isKeep ?_); first | refine keep_of hs ?_ | refine keep_imp hs ?_) | with_reducible refine when_om ?_ | with_reducible refine drawW_sat hs fun w hs => ?_)
  refine call0_of (lirs_leaves_at (W := W) (M := lst .string sb sr sf :: ixr Rec.iii xb 0 m :: M) (c := c) (b := b) (nb := nb) (sb := sb) (qb := qb) (xb := xb) (h := (lCnt x.s 1 : Int)) (g := (lCnt x.s 3 : Int)) (i := lK x.s x.q q1) (s := rowHd sr q1) (q := rowHd qr q1) (key := q1) (qr := qr) (qf := qf) (by exact Sat.fin hs) (by omega) hi.snd.2 rfl) fun e w ⟨he, qf', hc2, hs⟩ => ⟨he, ?_⟩
  obtain ⟨hu, hk⟩ := hi.ghost hq hpS hc2
  repeat (first | with_reducible refine nilck_some ?_ | ((with_reducible refine atLd ?_); first | refine ld_b hs ?_ | refine ld_b (x := ⟨_, _, _⟩) hs ?_ | refine ld_r0 hs ?_ | refine ld_r1 hs ?_ | refine ld_rd0 ha_ hs ?_ | refine ld_rd1 ha_ hs ?_) | ((with_reducible refine isSt ?_); first | refine st_b hs fun w hs => ?_ | refine st_r0 hs fun w hs => ?_ | refine st_r1 hs fun w hs => ?_) | ((with_reducible refine isIdx ?_); first | refine idx_s hs fun b_ o_ hs => ?_ | refine idx_rd hs fun b_ o_ ha_ => ?_) | with_reducible refine newB_at hs fun b_ w hs => ?_ | ((with_reducible refine isLdS ?_); first | refine ldS_b ?_ | refine ldS_b (x := ⟨_, _, _⟩) ?_ | refine ldS_rs0 hs ?_ | refine ldS_rd0 ha_ ?_) | ((with_reducible refine isKeep ?_); first | refine keep_of hs ?_ | refine keep_imp hs ?_) | with_reducible refine when_om ?_ | with_reducible refine drawW_sat hs fun w hs => ?_)
  with_reducible refine ite_by (fun h0 => ?_) (fun h0 => ?_)
  · rw [if_pos h0] at hu hk
    repeat (first | with_reducible refine nilck_some ?_ | ((with_reducible refine atLd ?_); first | refine ld_b hs ?_ | refine ld_b (x := ⟨_, _, _⟩) hs ?_ | refine ld_r0 hs ?_ | refine ld_r1 hs ?_ | refine ld_rd0 ha_ hs ?_ | refine ld_rd1 ha_ hs ?_) | ((with_reducible refine isSt ?_); first | refine st_b hs fun w hs => ?_ | refine st_r0 hs fun w hs => ?_ | refine st_r1 hs fun w hs => ?_) | ((with_reducible refine isIdx ?_); first | refine idx_s hs fun b_ o_ hs => ?_ | refine idx_rd hs fun b_ o_ ha_ => ?_) | with_reducible refine newB_at hs fun b_ w hs => ?_ | ((with_reducible refine isLdS ?_); first | refine ldS_b ?_ | refine ldS_b (x := ⟨_, _, _⟩) ?_ | refine ldS_rs0 hs ?_ | refine ldS_rd0 ha_ ?_) | ((with_reducible refine isKeep ?_); first | refine keep_of hs ?_ | refine keep_imp hs ?_) | with_reducible refine when_om ?_ | with_reducible refine drawW_sat hs fun w hs => ?_)
    rw [lirs_Engine_Evict_j2_def, lirs_Engine_Evict_j2_raw]
    repeat (first | with_reducible refine nilck_some ?_ | ((with_reducible refine atLd ?_); first | refine ld_b hs ?_ | refine ld_b (x := ⟨_, _, _⟩) hs ?_ | refine ld_r0 hs ?_ | refine ld_r1 hs ?_ | refine ld_rd0 ha_ hs ?_ | refine ld_rd1 ha_ hs ?_) | ((with_reducible refine isSt ?_); first | refine st_b hs fun w hs => ?_ | refine st_r0 hs fun w hs => ?_ | refine st_r1 hs fun w hs => ?_) | ((with_reducible refine isIdx ?_); first | refine idx_s hs fun b_ o_ hs => ?_ | refine idx_rd hs fun b_ o_ ha_ => ?_) | with_reducible refine newB_at hs fun b_ w hs => ?_ | ((with_reducible refine isLdS ?_); first | refine ldS_b ?_ | refine ldS_b (x := ⟨_, _, _⟩) ?_ | refine ldS_rs0 hs ?_ | refine ldS_rd0 ha_ ?_) | ((with_reducible refine isKeep ?_); first | refine keep_of hs ?_ | refine keep_imp hs ?_) | with_reducible refine when_om ?_ | with_reducible refine drawW_sat hs fun w hs => ?_)
    refine call0_of (lirs_set_at (W := W) (M := M) (c := c) (b := b) (n := (0, rowHd sr q1, 0)) hi hu hz (lOut_ghost _ _) hk (by omega) (by exact Sat.fin hs)) fun e w ⟨he, hs⟩ => ⟨he, ?_⟩
    refine call0_of (lirs_forgets_at (by omega) hc hs) fun e w ⟨he, hs⟩ => ⟨he, ?_⟩
    refine call0_of (lirs_prunes_at (by omega) hs) fun e w ⟨he, hs⟩ => ⟨he, ?_⟩
    exact ⟨rfl, hs⟩
  · rw [if_neg h0] at hu hk
    rw [lirs_Engine_Evict_j2_def, lirs_Engine_Evict_j2_raw]
    repeat (first | with_reducible refine nilck_some ?_ | ((with_reducible refine atLd ?_); first | refine ld_b hs ?_ | refine ld_b (x := ⟨_, _, _⟩) hs ?_ | refine ld_r0 hs ?_ | refine ld_r1 hs ?_ | refine ld_rd0 ha_ hs ?_ | refine ld_rd1 ha_ hs ?_) | ((with_reducible refine isSt ?_); first | refine st_b hs fun w hs => ?_ | refine st_r0 hs fun w hs => ?_ | refine st_r1 hs fun w hs => ?_) | ((with_reducible refine isIdx ?_); first | refine idx_s hs fun b_ o_ hs => ?_ | refine idx_rd hs fun b_ o_ ha_ => ?_) | with_reducible refine newB_at hs fun b_ w hs => ?_ | ((with_reducible refine isLdS ?_); first | refine ldS_b ?_ | refine ldS_b (x := ⟨_, _, _⟩) ?_ | refine ldS_rs0 hs ?_ | refine ldS_rd0 ha_ ?_) | ((with_reducible refine isKeep ?_); first | refine keep_of hs ?_ | refine keep_imp hs ?_) | with_reducible refine when_om ?_ | with_reducible refine drawW_sat hs fun w hs => ?_)
    refine call0_of (lirs_set_at (W := W) (M := M) (c := c) (b := b) (n := (3, rowHd sr q1, 0)) hi hu hz (lOut_ghost _ _) hk (by omega) (by exact Sat.fin hs)) fun e w ⟨he, hs⟩ => ⟨he, ?_⟩
    refine call0_of (lirs_forgets_at (by omega) hc hs) fun e w ⟨he, hs⟩ => ⟨he, ?_⟩
    refine call0_of (lirs_prunes_at (by omega) hs) fun e w ⟨he, hs⟩ => ⟨he, ?_⟩
    exact ⟨rfl, hs⟩
theorem lirs_Evict (hs : Sat W w L) [hA : At L b (lirR b c N x) F] (hc : 0 ≤ c) (hN : N < 190000000) : Calls Try.prog id_lirs_Engine_Evict #[.pointer (some ⟨b, 0, none⟩)] w fun e w' => e = .returned (.tuple #[.string (lEvict c x).1.1, .bool (lEvict c x).1.2]) ∧ Sat W w' (F (lirR b c (N + 1) (lEvict c x).2)) := by
  refine At.call1 (hA := hA) hs fun M hs => ?_
  clear hA
  refine c1 (lirs_Engine_Evict_calls ?_)
  rw [lirs_Engine_Evict_def, lirs_Engine_Evict_raw]
  have hw := (lir_w hs).1
  refine call1_of (lirs_Len hs (by omega)) fun e w ⟨he, hs⟩ => ⟨_, he, ?_⟩
  with_reducible refine ite_by (fun h0 => ?_) (fun h0 => ?_)
  · have e1 : lEvict c x = ((⟨#[]⟩, false), x) := by unfold lEvict; rw [if_pos (by omega)]
    rw [e1]
    exact ⟨rfl, lir_more hs (by omega)⟩
  · have e1 : lEvict c x = (((lEv0 x).q.headD ⟨#[]⟩, true), lFp c ⟨lGhost (lEv0 x).s ((lEv0 x).q.headD ⟨#[]⟩), (lEv0 x).q.drop 1⟩) := by unfold lEvict; rw [if_neg (by omega)]
    obtain ⟨sb, qb, xb, sr, sf, qr, qf, m, hi, hs⟩ := lir_open hs
    have hq : qr.length = x.q.length := by have := congrArg List.length hi.qk; simpa using this
    repeat (first | with_reducible refine nilck_some ?_ | ((with_reducible refine atLd ?_); first | refine ld_b hs ?_ | refine ld_b (x := ⟨_, _, _⟩) hs ?_ | refine ld_r0 hs ?_ | refine ld_r1 hs ?_ | refine ld_rd0 ha_ hs ?_ | refine ld_rd1 ha_ hs ?_) | ((with_reducible refine isSt ?_); first | refine st_b hs fun w hs => ?_ | refine st_r0 hs fun w hs => ?_ | refine st_r1 hs fun w hs => ?_) | ((with_reducible refine isIdx ?_); first | refine idx_s hs fun b_ o_ hs => ?_ | refine idx_rd hs fun b_ o_ ha_ => ?_) | with_reducible refine newB_at hs fun b_ w hs => ?_ | ((with_reducible refine isLdS ?_); first | refine ldS_b ?_ | refine ldS_b (x := ⟨_, _, _⟩) ?_ | refine ldS_rs0 hs ?_ | refine ldS_rd0 ha_ ?_) | ((with_reducible refine isKeep ?_); first | refine keep_of hs ?_ | refine keep_imp hs ?_) | with_reducible refine when_om ?_ | with_reducible refine drawW_sat hs fun w hs => ?_)
    refine call1_of (string_Len hs) fun e w ⟨he, hs⟩ => ⟨_, he, ?_⟩
    rw [e1]
    with_reducible refine ite_by (fun hq0 => ?_) (fun hq0 => ?_)
    · have hqn : x.q = [] := List.length_eq_zero_iff.1 (by omega)
      have hp : 0 < lCnt x.s 1 := by unfold lLen at h0; rw [hqn] at h0; simp at h0; omega
      refine call0_of (lirs_cools_at (W := W) (M := M) (b := b) (c := c) (N := N) (x := x) (by omega) hp (lir_shut hi rfl rfl (by exact Sat.fin hs))) fun e w ⟨he, hs⟩ => ⟨he, ?_⟩
      have e2 : lEv0 x = lCools x := if_pos hqn
      obtain ⟨k, hk, e3, _⟩ := lCools_ok hw hp
      have e4 : (lCools x).q = k :: [] := by unfold lCools; rw [e3, hqn]; rfl
      have := lirs_Evict_j1 e4 hc (by omega) hs
      rw [e2, e4]
      exact this
    · have hqn : x.q ≠ [] := fun h => hq0 (by rw [hq, h]; rfl)
      obtain ⟨k, t, hk⟩ : ∃ k t, x.q = k :: t := by
        cases hh : x.q with
        | nil => exact absurd hh hqn
        | cons k t => exact ⟨k, t, rfl⟩
      have e2 : lEv0 x = x := if_neg hqn
      have := lirs_Evict_j1 (W := W) (M := M) (b := b) (N := N + 1) hk hc (by omega) (lir_more (lir_shut hi rfl rfl (by exact Sat.fin hs)) (by omega))
      rw [e2, hk]
      exact this
theorem lirs_Access_j3 {sl : Sl} {Q : Value → WP} (hQ : ∀ w', Sat W w' (lirR b c (N + 2) (lFp c (lNew c y key)) :: M) → Q (.tuple #[.bool false, .slice sl.a sl.n sl.c]) w') (hi : LX N y sr sf qr qf m) (hz : key.size < 64) (hm : 0 ≤ lMost c) (hc : 0 ≤ c) (hN : N < 200000000)
    (hs : Sat W w (blk nb [.int .i64 (lG m key).1, .int .i64 (lG m key).2.1, .int .i64 (lG m key).2.2] :: eB b c sb qb xb ((lCnt y.s 1 : Int)) ((lCnt y.s 3 : Int)) :: lst .string sb sr sf :: lst .string qb qr qf :: ixr Rec.iii xb 0 m :: M)) :
    lirs_Engine_Access_j3 idJ Q (some ⟨b, 0, none⟩) key nb 0 sl w := by
  have hj4 : ∀ (t : Bool) (w : World), t = decide ((lCnt y.s 1 : Int) < lMost c ∨ lIs y.s key = 3) → Sat W w (blk nb [.int .i64 (lG m key).1, .int .i64 (lG m key).2.1, .int .i64 (lG m key).2.2] :: eB b c sb qb xb ((lCnt y.s 1 : Int)) ((lCnt y.s 3 : Int)) :: lst .string sb sr sf :: lst .string qb qr qf :: ixr Rec.iii xb 0 m :: M) →
      lirs_Engine_Access_j4 idJ Q (some ⟨b, 0, none⟩) key nb 0 sl t w := by
    intro t w ht hs
    rw [lirs_Engine_Access_j4_def, lirs_Engine_Access_j4_raw]
    refine ite_cases (fun h1 => ?_) (fun h1 => ?_)
    · rw [h1] at ht
      have e1 : lNew c y key = lHeats c y key := if_pos (of_decide_eq_true ht.symm)
      rw [e1] at hQ
      repeat (first | with_reducible refine nilck_some ?_ | ((with_reducible refine atLd ?_); first | refine ld_b hs ?_ | refine ld_b (x := ⟨_, _, _⟩) hs ?_ | refine ld_r0 hs ?_ | refine ld_r1 hs ?_ | refine ld_rd0 ha_ hs ?_ | refine ld_rd1 ha_ hs ?_) | ((with_reducible refine isSt ?_); first | refine st_b hs fun w hs => ?_ | refine st_r0 hs fun w hs => ?_ | refine st_r1 hs fun w hs => ?_) | ((with_reducible refine isIdx ?_); first | refine idx_s hs fun b_ o_ hs => ?_ | refine idx_rd hs fun b_ o_ ha_ => ?_) | with_reducible refine newB_at hs fun b_ w hs => ?_ | ((with_reducible refine isLdS ?_); first | refine ldS_b ?_ | refine ldS_b (x := ⟨_, _, _⟩) ?_ | refine ldS_rs0 hs ?_ | refine ldS_rd0 ha_ ?_) | ((with_reducible refine isKeep ?_); first | refine keep_of hs ?_ | refine keep_imp hs ?_) | with_reducible refine when_om ?_ | with_reducible refine drawW_sat hs fun w hs => ?_)
      refine call0_of (lirs_heats_at (W := W) (M := M) (c := c) (b := b) hi hz hm (by omega) (n := lG m key) (by rw [hi.ent]) (by exact Sat.fin hs)) fun e w ⟨he, hs⟩ => ⟨he, ?_⟩
      refine call0_of (lirs_forgets_at (by omega) hc hs) fun e w ⟨he, hs⟩ => ⟨he, ?_⟩
      refine call0_of (lirs_prunes_at (by omega) hs) fun e w ⟨he, hs⟩ => ⟨he, ?_⟩
      exact hQ _ hs
    · rw [h1] at ht
      have e1 : lNew c y key = lChills y key := if_neg (of_decide_eq_false ht.symm)
      rw [e1] at hQ
      repeat (first | with_reducible refine nilck_some ?_ | ((with_reducible refine atLd ?_); first | refine ld_b hs ?_ | refine ld_b (x := ⟨_, _, _⟩) hs ?_ | refine ld_r0 hs ?_ | refine ld_r1 hs ?_ | refine ld_rd0 ha_ hs ?_ | refine ld_rd1 ha_ hs ?_) | ((with_reducible refine isSt ?_); first | refine st_b hs fun w hs => ?_ | refine st_r0 hs fun w hs => ?_ | refine st_r1 hs fun w hs => ?_) | ((with_reducible refine isIdx ?_); first | refine idx_s hs fun b_ o_ hs => ?_ | refine idx_rd hs fun b_ o_ ha_ => ?_) | with_reducible refine newB_at hs fun b_ w hs => ?_ | ((with_reducible refine isLdS ?_); first | refine ldS_b ?_ | refine ldS_b (x := ⟨_, _, _⟩) ?_ | refine ldS_rs0 hs ?_ | refine ldS_rd0 ha_ ?_) | ((with_reducible refine isKeep ?_); first | refine keep_of hs ?_ | refine keep_imp hs ?_) | with_reducible refine when_om ?_ | with_reducible refine drawW_sat hs fun w hs => ?_)
      refine call0_of (lirs_chills_at (W := W) (M := M) (c := c) (b := b) hi hz (by omega) (n := lG m key) (by rw [hi.ent]) (by exact Sat.fin hs)) fun e w ⟨he, hs⟩ => ⟨he, ?_⟩
      refine call0_of (lirs_forgets_at (by omega) hc hs) fun e w ⟨he, hs⟩ => ⟨he, ?_⟩
      refine call0_of (lirs_prunes_at (by omega) hs) fun e w ⟨he, hs⟩ => ⟨he, ?_⟩
      exact hQ _ hs
  rw [lirs_Engine_Access_j3_def, lirs_Engine_Access_j3_raw]
  repeat (first | with_reducible refine nilck_some ?_ | ((with_reducible refine atLd ?_); first | refine ld_b hs ?_ | refine ld_b (x := ⟨_, _, _⟩) hs ?_ | refine ld_r0 hs ?_ | refine ld_r1 hs ?_ | refine ld_rd0 ha_ hs ?_ | refine ld_rd1 ha_ hs ?_) | ((with_reducible refine isSt ?_); first | refine st_b hs fun w hs => ?_ | refine st_r0 hs fun w hs => ?_ | refine st_r1 hs fun w hs => ?_) | ((with_reducible refine isIdx ?_); first | refine idx_s hs fun b_ o_ hs => ?_ | refine idx_rd hs fun b_ o_ ha_ => ?_) | with_reducible refine newB_at hs fun b_ w hs => ?_ | ((with_reducible refine isLdS ?_); first | refine ldS_b ?_ | refine ldS_b (x := ⟨_, _, _⟩) ?_ | refine ldS_rs0 hs ?_ | refine ldS_rd0 ha_ ?_) | ((with_reducible refine isKeep ?_); first | refine keep_of hs ?_ | refine keep_imp hs ?_) | with_reducible refine when_om ?_ | with_reducible refine drawW_sat hs fun w hs => ?_)
  with_reducible refine ite_by (fun h1 => ?_) (fun h1 => ?_)
  · have ht : true = decide ((lCnt y.s 1 : Int) < lMost c ∨ lIs y.s key = 3) := by rw [decide_eq_true (Or.inl h1)]
    with_reducible refine hj4 true w ht ?_
    exact Sat.fin hs
  · repeat (first | with_reducible refine nilck_some ?_ | ((with_reducible refine atLd ?_); first | refine ld_b hs ?_ | refine ld_b (x := ⟨_, _, _⟩) hs ?_ | refine ld_r0 hs ?_ | refine ld_r1 hs ?_ | refine ld_rd0 ha_ hs ?_ | refine ld_rd1 ha_ hs ?_) | ((with_reducible refine isSt ?_); first | refine st_b hs fun w hs => ?_ | refine st_r0 hs fun w hs => ?_ | refine st_r1 hs fun w hs => ?_) | ((with_reducible refine isIdx ?_); first | refine idx_s hs fun b_ o_ hs => ?_ | refine idx_rd hs fun b_ o_ ha_ => ?_) | with_reducible refine newB_at hs fun b_ w hs => ?_ | ((with_reducible refine isLdS ?_); first | refine ldS_b ?_ | refine ldS_b (x := ⟨_, _, _⟩) ?_ | refine ldS_rs0 hs ?_ | refine ldS_rd0 ha_ ?_) | ((with_reducible refine isKeep ?_); first | refine keep_of hs ?_ | refine keep_imp hs ?_) | with_reducible refine when_om ?_ | with_reducible refine drawW_sat hs fun w hs => ?_)
    refine hj4 _ w ?_ (by exact Sat.fin hs)
    rw [Bool.eq_iff_iff, beq_iff_eq, decide_eq_true_eq, hi.ent, lIs_three hi.w]
    exact ⟨.inr, fun h => h.elim (fun h => absurd h h1) id⟩
theorem lirs_Access (hs : Sat W w L) [hA : At L b (lirR b c N x) F] (hz : key.size < 64) (hm : 0 ≤ lMost c) (hc : 0 ≤ c) (hN : N < 180000000) :
    Calls Try.prog id_lirs_Engine_Access #[.pointer (some ⟨b, 0, none⟩), .string key] w fun e w' => ∃ l : Sl, e = .returned (.tuple #[.bool (lAcc c x key).1.1, .slice l.a l.n l.c]) ∧ Sat W w' (recs Rec.str l (lAcc c x key).1.2 :: F (lirR b c (N + 3) (lAcc c x key).2)) := by
  refine At.oneX (hA := hA) hs fun M hs hb2 => ?_
  refine (lirs_Engine_Access_calls (Q := fun v w' => ∃ l : Sl, v = .tuple #[.bool (lAcc c x key).1.1, .slice l.a l.n l.c] ∧ Sat W w' (lirR b c (N + 3) (lAcc c x key).2 :: recs Rec.str l (lAcc c x key).1.2 :: M)) ?_).mono fun e w' ⟨v, he, l, hv, hs⟩ => ⟨l, by rw [he, hv], hb2 _ _ [recs Rec.str l (lAcc c x key).1.2] hs⟩
  clear hb2 hA
  rw [lirs_Engine_Access_def, lirs_Engine_Access_raw]
  have hw := (lir_w hs).1
  obtain ⟨sb, qb, xb, sr, sf, qr, qf, m, hi, hs⟩ := lir_open hs
  obtain ⟨hnS, hpS⟩ := lst_pos (b := sb) (row := sr) (free := sf) (M := eB b c sb qb xb ((lCnt x.s 1 : Int)) ((lCnt x.s 3 : Int)) :: lst .string qb qr qf :: ixr Rec.iii xb 0 m :: M) (by exact Sat.fin hs)
  have hE := hi.ent key
  refine ite_false rfl ?_
  repeat (first | with_reducible refine nilck_some ?_ | ((with_reducible refine atLd ?_); first | refine ld_b hs ?_ | refine ld_b (x := ⟨_, _, _⟩) hs ?_ | refine ld_r0 hs ?_ | refine ld_r1 hs ?_ | refine ld_rd0 ha_ hs ?_ | refine ld_rd1 ha_ hs ?_) | ((with_reducible refine isSt ?_); first | refine st_b hs fun w hs => ?_ | refine st_r0 hs fun w hs => ?_ | refine st_r1 hs fun w hs => ?_) | ((with_reducible refine isIdx ?_); first | refine idx_s hs fun b_ o_ hs => ?_ | refine idx_rd hs fun b_ o_ ha_ => ?_) | with_reducible refine newB_at hs fun b_ w hs => ?_ | ((with_reducible refine isLdS ?_); first | refine ldS_b ?_ | refine ldS_b (x := ⟨_, _, _⟩) ?_ | refine ldS_rs0 hs ?_ | refine ldS_rd0 ha_ ?_) | ((with_reducible refine isKeep ?_); first | refine keep_of hs ?_ | refine keep_imp hs ?_) | with_reducible refine when_om ?_ | with_reducible refine drawW_sat hs fun w hs => ?_)
  refine (entry_Get hs (by omega)).mono fun e w ⟨he, hs⟩ => ⟨_, _, _, _, he, ?_⟩
  have hG : (mGet m key).getD ((0, 0, 0) : Int × Int × Int) = lG m key := rfl
  rw [hG]
  refine newB_at hs fun nb w hs => ?_
  have hj1 : ∀ (t : Bool) (w : World), t = decide (lIs x.s key = 1 ∨ (key ∈ x.q ∧ lIs x.s key = 2)) → Sat W w (blk nb [.int .i64 (lG m key).1, .int .i64 (lG m key).2.1, .int .i64 (lG m key).2.2] :: eB b c sb qb xb ((lCnt x.s 1 : Int)) ((lCnt x.s 3 : Int)) :: lst .string sb sr sf :: lst .string qb qr qf :: ixr Rec.iii xb 0 m :: M) →
      lirs_Engine_Access_j1 idJ (fun v w' => ∃ l : Sl, v = .tuple #[.bool (lAcc c x key).1.1, .slice l.a l.n l.c] ∧ Sat W w' (lirR b c (N + 3) (lAcc c x key).2 :: recs Rec.str l (lAcc c x key).1.2 :: M)) (some ⟨b, 0, none⟩) key nb 0 t w := by
    clear hs
    intro t w ht hs
    rw [lirs_Engine_Access_j1_def, lirs_Engine_Access_j1_raw]
    refine ite_cases (fun h1 => ?_) (fun h1 => ?_)
    · rw [h1] at ht
      have e1 : lAcc c x key = ((true, []), lPr (lHeats c x key)) := if_pos (of_decide_eq_true ht.symm)
      rw [e1]
      repeat (first | with_reducible refine nilck_some ?_ | ((with_reducible refine atLd ?_); first | refine ld_b hs ?_ | refine ld_b (x := ⟨_, _, _⟩) hs ?_ | refine ld_r0 hs ?_ | refine ld_r1 hs ?_ | refine ld_rd0 ha_ hs ?_ | refine ld_rd1 ha_ hs ?_) | ((with_reducible refine isSt ?_); first | refine st_b hs fun w hs => ?_ | refine st_r0 hs fun w hs => ?_ | refine st_r1 hs fun w hs => ?_) | ((with_reducible refine isIdx ?_); first | refine idx_s hs fun b_ o_ hs => ?_ | refine idx_rd hs fun b_ o_ ha_ => ?_) | with_reducible refine newB_at hs fun b_ w hs => ?_ | ((with_reducible refine isLdS ?_); first | refine ldS_b ?_ | refine ldS_b (x := ⟨_, _, _⟩) ?_ | refine ldS_rs0 hs ?_ | refine ldS_rd0 ha_ ?_) | ((with_reducible refine isKeep ?_); first | refine keep_of hs ?_ | refine keep_imp hs ?_) | with_reducible refine when_om ?_ | with_reducible refine drawW_sat hs fun w hs => ?_)
      refine call0_of (lirs_heats_at (W := W) (M := M) (c := c) (b := b) hi hz hm (by omega) (n := lG m key) (by rw [hi.ent]) (by exact Sat.fin hs)) fun e w ⟨he, hs⟩ => ⟨he, ?_⟩
      refine call0_of (lirs_prunes_at (by omega) hs) fun e w ⟨he, hs⟩ => ⟨he, ?_⟩
      exact ⟨⟨none, 0, 0⟩, rfl, (Sat.nilR Rec.str (lir_more hs (by omega))).perm (List.Perm.swap _ _ _)⟩
    · rw [h1] at ht
      have ht := of_decide_eq_false ht.symm
      repeat (first | with_reducible refine nilck_some ?_ | ((with_reducible refine atLd ?_); first | refine ld_b hs ?_ | refine ld_b (x := ⟨_, _, _⟩) hs ?_ | refine ld_r0 hs ?_ | refine ld_r1 hs ?_ | refine ld_rd0 ha_ hs ?_ | refine ld_rd1 ha_ hs ?_) | ((with_reducible refine isSt ?_); first | refine st_b hs fun w hs => ?_ | refine st_r0 hs fun w hs => ?_ | refine st_r1 hs fun w hs => ?_) | ((with_reducible refine isIdx ?_); first | refine idx_s hs fun b_ o_ hs => ?_ | refine idx_rd hs fun b_ o_ ha_ => ?_) | with_reducible refine newB_at hs fun b_ w hs => ?_ | ((with_reducible refine isLdS ?_); first | refine ldS_b ?_ | refine ldS_b (x := ⟨_, _, _⟩) ?_ | refine ldS_rs0 hs ?_ | refine ldS_rd0 ha_ ?_) | ((with_reducible refine isKeep ?_); first | refine keep_of hs ?_ | refine keep_imp hs ?_) | with_reducible refine when_om ?_ | with_reducible refine drawW_sat hs fun w hs => ?_)
      with_reducible refine ite_by (fun h2 => ?_) (fun h2 => ?_)
      · rw [hE] at h2
        have hq := (lK_two hw key).1 h2
        have e1 : lAcc c x key = ((true, []), lPr (lChills x key)) := by unfold lAcc; rw [if_neg ht, if_pos hq]
        rw [e1]
        repeat (first | with_reducible refine nilck_some ?_ | ((with_reducible refine atLd ?_); first | refine ld_b hs ?_ | refine ld_b (x := ⟨_, _, _⟩) hs ?_ | refine ld_r0 hs ?_ | refine ld_r1 hs ?_ | refine ld_rd0 ha_ hs ?_ | refine ld_rd1 ha_ hs ?_) | ((with_reducible refine isSt ?_); first | refine st_b hs fun w hs => ?_ | refine st_r0 hs fun w hs => ?_ | refine st_r1 hs fun w hs => ?_) | ((with_reducible refine isIdx ?_); first | refine idx_s hs fun b_ o_ hs => ?_ | refine idx_rd hs fun b_ o_ ha_ => ?_) | with_reducible refine newB_at hs fun b_ w hs => ?_ | ((with_reducible refine isLdS ?_); first | refine ldS_b ?_ | refine ldS_b (x := ⟨_, _, _⟩) ?_ | refine ldS_rs0 hs ?_ | refine ldS_rd0 ha_ ?_) | ((with_reducible refine isKeep ?_); first | refine keep_of hs ?_ | refine keep_imp hs ?_) | with_reducible refine when_om ?_ | with_reducible refine drawW_sat hs fun w hs => ?_)
        refine call0_of (lirs_chills_at (W := W) (M := M) (c := c) (b := b) hi hz (by omega) (n := lG m key) (by rw [hi.ent]) (by exact Sat.fin hs)) fun e w ⟨he, hs⟩ => ⟨he, ?_⟩
        refine call0_of (lirs_prunes_at (by omega) hs) fun e w ⟨he, hs⟩ => ⟨he, ?_⟩
        exact ⟨⟨none, 0, 0⟩, rfl, (Sat.nilR Rec.str (lir_more hs (by omega))).perm (List.Perm.swap _ _ _)⟩
      · rw [hE] at h2
        have hq : key ∉ x.q := fun hq => h2 ((lK_two hw key).2 hq)
        have e1 : lAcc c x key = ((false, (lRoom c x).1), lFp c (lNew c (lRoom c x).2 key)) := by unfold lAcc; rw [if_neg ht, if_neg hq]
        rw [e1, lirs_Engine_Access_j2_def, lirs_Engine_Access_j2_raw]
        refine drawW_only [eB b c sb qb xb ((lCnt x.s 1 : Int)) ((lCnt x.s 3 : Int))] hs fun w hs => ?_
        repeat (first | with_reducible refine nilck_some ?_ | ((with_reducible refine atLd ?_); first | refine ld_b hs ?_ | refine ld_b (x := ⟨_, _, _⟩) hs ?_ | refine ld_r0 hs ?_ | refine ld_r1 hs ?_ | refine ld_rd0 ha_ hs ?_ | refine ld_rd1 ha_ hs ?_) | ((with_reducible refine isSt ?_); first | refine st_b hs fun w hs => ?_ | refine st_r0 hs fun w hs => ?_ | refine st_r1 hs fun w hs => ?_) | ((with_reducible refine isIdx ?_); first | refine idx_s hs fun b_ o_ hs => ?_ | refine idx_rd hs fun b_ o_ ha_ => ?_) | with_reducible refine newB_at hs fun b_ w hs => ?_ | ((with_reducible refine isLdS ?_); first | refine ldS_b ?_ | refine ldS_b (x := ⟨_, _, _⟩) ?_ | refine ldS_rs0 hs ?_ | refine ldS_rd0 ha_ ?_) | ((with_reducible refine isKeep ?_); first | refine keep_of hs ?_ | refine keep_imp hs ?_) | with_reducible refine when_om ?_ | with_reducible refine drawW_sat hs fun w hs => ?_)
        refine call1_of (lirs_Len_at (W := W) (M := blk nb [.int .i64 (lG m key).1, .int .i64 (lG m key).2.1, .int .i64 (lG m key).2.2] :: M) (b := b) (c := c) (sb := sb) (qb := qb) (xb := xb) hi (by omega) (by exact Sat.fin hs)) fun e w ⟨he, hs⟩ => ⟨_, he, ?_⟩
        repeat (first | with_reducible refine nilck_some ?_ | ((with_reducible refine atLd ?_); first | refine ld_b hs ?_ | refine ld_b (x := ⟨_, _, _⟩) hs ?_ | refine ld_r0 hs ?_ | refine ld_r1 hs ?_ | refine ld_rd0 ha_ hs ?_ | refine ld_rd1 ha_ hs ?_) | ((with_reducible refine isSt ?_); first | refine st_b hs fun w hs => ?_ | refine st_r0 hs fun w hs => ?_ | refine st_r1 hs fun w hs => ?_) | ((with_reducible refine isIdx ?_); first | refine idx_s hs fun b_ o_ hs => ?_ | refine idx_rd hs fun b_ o_ ha_ => ?_) | with_reducible refine newB_at hs fun b_ w hs => ?_ | ((with_reducible refine isLdS ?_); first | refine ldS_b ?_ | refine ldS_b (x := ⟨_, _, _⟩) ?_ | refine ldS_rs0 hs ?_ | refine ldS_rd0 ha_ ?_) | ((with_reducible refine isKeep ?_); first | refine keep_of hs ?_ | refine keep_imp hs ?_) | with_reducible refine when_om ?_ | with_reducible refine drawW_sat hs fun w hs => ?_)
        with_reducible refine ite_by (fun h3 => ?_) (fun h3 => ?_)
        · have e2 : lRoom c x = ([(lEvict c x).1.1], (lEvict c x).2) := if_pos (by omega)
          rw [e2]
          refine call2_of (lirs_Evict (lir_shut hi rfl rfl hs) hc (by omega)) fun e w ⟨he, hs⟩ => ⟨_, _, he, ?_⟩
          repeat (first | with_reducible refine nilck_some ?_ | ((with_reducible refine atLd ?_); first | refine ld_b hs ?_ | refine ld_b (x := ⟨_, _, _⟩) hs ?_ | refine ld_r0 hs ?_ | refine ld_r1 hs ?_ | refine ld_rd0 ha_ hs ?_ | refine ld_rd1 ha_ hs ?_) | ((with_reducible refine isSt ?_); first | refine st_b hs fun w hs => ?_ | refine st_r0 hs fun w hs => ?_ | refine st_r1 hs fun w hs => ?_) | ((with_reducible refine isIdx ?_); first | refine idx_s hs fun b_ o_ hs => ?_ | refine idx_rd hs fun b_ o_ ha_ => ?_) | with_reducible refine newB_at hs fun b_ w hs => ?_ | ((with_reducible refine isLdS ?_); first | refine ldS_b ?_ | refine ldS_b (x := ⟨_, _, _⟩) ?_ | refine ldS_rs0 hs ?_ | refine ldS_rd0 ha_ ?_) | ((with_reducible refine isKeep ?_); first | refine keep_of hs ?_ | refine keep_imp hs ?_) | with_reducible refine when_om ?_ | with_reducible refine drawW_sat hs fun w hs => ?_)
          have hs := Sat.nilR Rec.str hs
          refine app_one (s := ⟨none, 0, 0⟩) (a := (lEvict c x).1.1) hs rfl rfl rfl rfl (by decide) (by simp) fun s4 w hs4 hs => ?_
          have hs : Sat W w (lirR b c (N + 1) (lEvict c x).2 :: recs Rec.str s4 [(lEvict c x).1.1] :: blk nb [.int .i64 (lG m key).1, .int .i64 (lG m key).2.1, .int .i64 (lG m key).2.2] :: M) := by exact Sat.fin hs
          obtain ⟨sb, qb, xb, sr, sf, qr, qf, m2, hi2, hs⟩ := lir_open hs
          repeat (first | with_reducible refine nilck_some ?_ | ((with_reducible refine atLd ?_); first | refine ld_b hs ?_ | refine ld_b (x := ⟨_, _, _⟩) hs ?_ | refine ld_r0 hs ?_ | refine ld_r1 hs ?_ | refine ld_rd0 ha_ hs ?_ | refine ld_rd1 ha_ hs ?_) | ((with_reducible refine isSt ?_); first | refine st_b hs fun w hs => ?_ | refine st_r0 hs fun w hs => ?_ | refine st_r1 hs fun w hs => ?_) | ((with_reducible refine isIdx ?_); first | refine idx_s hs fun b_ o_ hs => ?_ | refine idx_rd hs fun b_ o_ ha_ => ?_) | with_reducible refine newB_at hs fun b_ w hs => ?_ | ((with_reducible refine isLdS ?_); first | refine ldS_b ?_ | refine ldS_b (x := ⟨_, _, _⟩) ?_ | refine ldS_rs0 hs ?_ | refine ldS_rd0 ha_ ?_) | ((with_reducible refine isKeep ?_); first | refine keep_of hs ?_ | refine keep_imp hs ?_) | with_reducible refine when_om ?_ | with_reducible refine drawW_sat hs fun w hs => ?_)
          refine (entry_Get hs (by omega)).mono fun e w ⟨he, hs⟩ => ⟨_, _, _, _, he, ?_⟩
          have hG : (mGet m2 key).getD ((0, 0, 0) : Int × Int × Int) = lG m2 key := rfl
          rw [hG]
          repeat (first | with_reducible refine nilck_some ?_ | ((with_reducible refine atLd ?_); first | refine ld_b hs ?_ | refine ld_b (x := ⟨_, _, _⟩) hs ?_ | refine ld_r0 hs ?_ | refine ld_r1 hs ?_ | refine ld_rd0 ha_ hs ?_ | refine ld_rd1 ha_ hs ?_) | ((with_reducible refine isSt ?_); first | refine st_b hs fun w hs => ?_ | refine st_r0 hs fun w hs => ?_ | refine st_r1 hs fun w hs => ?_) | ((with_reducible refine isIdx ?_); first | refine idx_s hs fun b_ o_ hs => ?_ | refine idx_rd hs fun b_ o_ ha_ => ?_) | with_reducible refine newB_at hs fun b_ w hs => ?_ | ((with_reducible refine isLdS ?_); first | refine ldS_b ?_ | refine ldS_b (x := ⟨_, _, _⟩) ?_ | refine ldS_rs0 hs ?_ | refine ldS_rd0 ha_ ?_) | ((with_reducible refine isKeep ?_); first | refine keep_of hs ?_ | refine keep_imp hs ?_) | with_reducible refine when_om ?_ | with_reducible refine drawW_sat hs fun w hs => ?_)
          refine lirs_Access_j3 (W := W) (M := recs Rec.str s4 [(lEvict c x).1.1] :: M) (sl := s4) (b := b) (nb := nb) (w := w) (c := c) (sb := sb) (qb := qb) (xb := xb) (fun w hs => ⟨s4, rfl, by exact Sat.fin hs⟩) hi2 hz hm hc (by omega) ?_
          exact Sat.fin hs
        · have e2 : lRoom c x = ([], x) := if_neg (by omega)
          rw [e2]
          have hs := Sat.nilR Rec.str hs
          refine lirs_Access_j3 (W := W) (M := recs Rec.str ⟨none, 0, 0⟩ [] :: M) (sl := ⟨none, 0, 0⟩) (b := b) (nb := nb) (w := w) (c := c) (sb := sb) (qb := qb) (xb := xb) (fun w hs => ⟨⟨none, 0, 0⟩, rfl, (lir_more hs (by omega)).perm (.refl _)⟩) hi hz hm hc (by omega) ?_
          exact Sat.fin hs
  repeat (first | with_reducible refine nilck_some ?_ | ((with_reducible refine atLd ?_); first | refine ld_b hs ?_ | refine ld_b (x := ⟨_, _, _⟩) hs ?_ | refine ld_r0 hs ?_ | refine ld_r1 hs ?_ | refine ld_rd0 ha_ hs ?_ | refine ld_rd1 ha_ hs ?_) | ((with_reducible refine isSt ?_); first | refine st_b hs fun w hs => ?_ | refine st_r0 hs fun w hs => ?_ | refine st_r1 hs fun w hs => ?_) | ((with_reducible refine isIdx ?_); first | refine idx_s hs fun b_ o_ hs => ?_ | refine idx_rd hs fun b_ o_ ha_ => ?_) | with_reducible refine newB_at hs fun b_ w hs => ?_ | ((with_reducible refine isLdS ?_); first | refine ldS_b ?_ | refine ldS_b (x := ⟨_, _, _⟩) ?_ | refine ldS_rs0 hs ?_ | refine ldS_rd0 ha_ ?_) | ((with_reducible refine isKeep ?_); first | refine keep_of hs ?_ | refine keep_imp hs ?_) | with_reducible refine when_om ?_ | with_reducible refine drawW_sat hs fun w hs => ?_)
  rw [hE]
  with_reducible refine ite_by (fun h1 => ?_) (fun h1 => ?_)
  · refine hj1 _ w ?_ (by exact Sat.fin hs)
    rw [h1, decide_eq_true (.inl ((lIs_one hw key).2 h1))]; rfl
  · repeat (first | with_reducible refine nilck_some ?_ | ((with_reducible refine atLd ?_); first | refine ld_b hs ?_ | refine ld_b (x := ⟨_, _, _⟩) hs ?_ | refine ld_r0 hs ?_ | refine ld_r1 hs ?_ | refine ld_rd0 ha_ hs ?_ | refine ld_rd1 ha_ hs ?_) | ((with_reducible refine isSt ?_); first | refine st_b hs fun w hs => ?_ | refine st_r0 hs fun w hs => ?_ | refine st_r1 hs fun w hs => ?_) | ((with_reducible refine isIdx ?_); first | refine idx_s hs fun b_ o_ hs => ?_ | refine idx_rd hs fun b_ o_ ha_ => ?_) | with_reducible refine newB_at hs fun b_ w hs => ?_ | ((with_reducible refine isLdS ?_); first | refine ldS_b ?_ | refine ldS_b (x := ⟨_, _, _⟩) ?_ | refine ldS_rs0 hs ?_ | refine ldS_rd0 ha_ ?_) | ((with_reducible refine isKeep ?_); first | refine keep_of hs ?_ | refine keep_imp hs ?_) | with_reducible refine when_om ?_ | with_reducible refine drawW_sat hs fun w hs => ?_)
    rw [hE]
    with_reducible refine ite_by (fun h2 => ?_) (fun h2 => ?_)
    · have hq := (lK_two hw key).1 h2
      repeat (first | with_reducible refine nilck_some ?_ | ((with_reducible refine atLd ?_); first | refine ld_b hs ?_ | refine ld_b (x := ⟨_, _, _⟩) hs ?_ | refine ld_r0 hs ?_ | refine ld_r1 hs ?_ | refine ld_rd0 ha_ hs ?_ | refine ld_rd1 ha_ hs ?_) | ((with_reducible refine isSt ?_); first | refine st_b hs fun w hs => ?_ | refine st_r0 hs fun w hs => ?_ | refine st_r1 hs fun w hs => ?_) | ((with_reducible refine isIdx ?_); first | refine idx_s hs fun b_ o_ hs => ?_ | refine idx_rd hs fun b_ o_ ha_ => ?_) | with_reducible refine newB_at hs fun b_ w hs => ?_ | ((with_reducible refine isLdS ?_); first | refine ldS_b ?_ | refine ldS_b (x := ⟨_, _, _⟩) ?_ | refine ldS_rs0 hs ?_ | refine ldS_rd0 ha_ ?_) | ((with_reducible refine isKeep ?_); first | refine keep_of hs ?_ | refine keep_imp hs ?_) | with_reducible refine when_om ?_ | with_reducible refine drawW_sat hs fun w hs => ?_)
      refine hj1 _ w ?_ (by exact Sat.fin hs)
      rw [hE, Bool.eq_iff_iff, bne_iff_ne, decide_eq_true_eq]
      constructor
      · intro h
        exact .inr ⟨hq, (lIs_two hw hq).2 (Classical.byContradiction fun hk => h (hi.s0 hk))⟩
      · rintro (h | h)
        · exact absurd ((lIs_one hw key).1 h) h1
        · exact rowHd_pos hpS (by rw [hi.sk]; exact (lIs_two hw hq).1 h.2)
    · with_reducible refine hj1 false w ?_ ?_
      rotate_left
      · exact Sat.fin hs
      symm
      rw [decide_eq_false_iff_not]
      rintro (h | h)
      · exact h1 ((lIs_one hw key).1 h)
      · exact h2 ((lK_two hw key).2 h.1)
end
end Go.Proofs.Ytgmhoenmhnlojaa
