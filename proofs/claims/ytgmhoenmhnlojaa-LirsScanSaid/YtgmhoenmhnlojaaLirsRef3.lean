/- hoardref13: contracts, the rest. -/
import Derived.Test.YtgmhoenmhnlojaaLirsRef2
set_option linter.unusedVariables false
set_option linter.unusedSimpArgs false
set_option linter.unnecessarySimpa false
set_option linter.unusedSectionVars false
namespace Go.Proofs.Ytgmhoenmhnlojaa
open Go.Hb Go.IntWalk
section
variable {W w : World} {L M : List HP} {F : HP → List HP} {b : Nat} {c : Int} {x y : LirsS} {key : ByteArray} {s q : Sl}
theorem r13_Load (h : Sat W w L) [hA : At L b (rrR b c x) F] (hx : LOk c x) : Calls Try.prog id_hoardref13_Engine_Load #[.pointer (some ⟨b, 0, none⟩), .string key] w fun e w' => e = .returned (.bool (lLoad c x key).1) ∧ Sat W w' (F (rrR b c (lLoad c x key).2)) := by
  refine At.call1 (hA := hA) h fun M hs => ?_
  clear h hA
  refine c1 (hoardref13_Engine_Load_calls ?_)
  rw [hoardref13_Engine_Load_def, hoardref13_Engine_Load_raw]
  have hsm := hx.small
  have hc1 := hx.c1
  have hc2 := hx.c2
  have hw := hx.w
  have hlen := hx.len
  refine drawW_only [rrR b c x] hs fun w hs => ?_
  refine call1_of (r13_Has hs hw (by omega) (by omega)) fun e w ⟨he, hs⟩ => ⟨_, he, ?_⟩
  refine keep_imp hs ?_
  by_cases hk : key ∈ lRes x
  · rw [decide_eq_true hk]
    refine ite_true rfl ?_
    refine keep_imp hs ?_
    have hcond : lIs x.s key = 1 ∨ key ∈ x.q ∨ (lLen x : Int) = c := by
      rcases mem_lRes.1 hk with h | h
      · exact .inr (.inl h)
      · exact .inl ((lIs_iff hw.sn (by decide)).2 h)
    have e1 : lLoad c x key = (false, x) := if_pos hcond
    rw [e1]
    exact ⟨rfl, hs⟩
  · rw [decide_eq_false hk]
    have hno : (key, (1 : Int)) ∉ x.s := fun h => hk (mem_lRes.2 (.inr h))
    have hq : key ∉ x.q := fun h => hk (mem_lRes.2 (.inl h))
    with_reducible refine ite_false rfl ?_
    refine nilck_some ?_
    refine ldS_by (k := .int .i64) c (fun w' h => by rw [Nat.zero_add]; exact rr_cap h) ?_
    refine call1_of (r13_Len hs (by omega) (by omega)) fun e w ⟨he, hs⟩ => ⟨_, he, ?_⟩
    refine keep_imp hs ?_
    with_reducible refine ite_by (fun h3 => ?_) (fun h3 => ?_)
    · have e1 : lLoad c x key = (false, x) := if_pos (.inr (.inr (by omega)))
      rw [e1]
      exact ⟨rfl, hs⟩
    · have e1 : lLoad c x key = (true, lPr (if (lCnt x.s 1 : Int) < lMost c then lHeats c x key else lChills x key)) := if_neg (fun h => h.elim (fun h => hno ((lIs_iff hw.sn (by decide)).1 h)) fun h => h.elim hq (by omega))
      rw [e1, hoardref13_Engine_Load_j1_def, hoardref13_Engine_Load_j1_raw]
      refine call1_of (r13_count hs (fun _ => kB_hot) (by omega)) fun e w ⟨he, hs⟩ => ⟨_, he, ?_⟩
      refine call1_of (r13_most hs hc1 hc2) fun e w ⟨he, hs⟩ => ⟨_, he, ?_⟩
      have hl1 := lTop_len x.s key 1
      have hl2 := lTop_len x.s key 2
      with_reducible refine ite_by (fun h2 => ?_) (fun h2 => ?_)
      · rw [if_pos h2, heats_new hw hq hno h2]
        refine call0_of (r13_top (i := 1) hs rfl (by omega)) fun e w ⟨he, hs⟩ => ⟨he, ?_⟩
        refine call0_of (r13_prune hs (by simp only; omega)) fun e w ⟨he, hs⟩ => ⟨he, ?_⟩
        exact ⟨rfl, hs⟩
      · rw [if_neg h2, chills_new hq]
        refine call0_of (r13_top (i := 2) hs rfl (by omega)) fun e w ⟨he, hs⟩ => ⟨he, ?_⟩
        obtain ⟨s, q, hs1, hq1, hs⟩ := rr_open hs
        simp only at hq1
        repeat (first | with_reducible refine nilck_some ?_ | ((with_reducible refine atLd ?_); first | refine ld_b hs ?_ | refine ld_b (x := ⟨_, _, _⟩) hs ?_ | refine ld_r0 hs ?_ | refine ld_r1 hs ?_ | refine ld_rd0 ha_ hs ?_ | refine ld_rd1 ha_ hs ?_) | ((with_reducible refine isSt ?_); first | refine st_b hs fun w hs => ?_ | refine st_r0 hs fun w hs => ?_ | refine st_r1 hs fun w hs => ?_) | ((with_reducible refine isIdx ?_); first | refine idx_s hs fun b_ o_ hs => ?_ | refine idx_rd hs fun b_ o_ ha_ => ?_) | with_reducible refine newB_at hs fun b_ w hs => ?_ | ((with_reducible refine isLdS ?_); first | refine ldS_b ?_ | refine ldS_b (x := ⟨_, _, _⟩) ?_ | refine ldS_rs0 hs ?_ | refine ldS_rd0 ha_ ?_) | ((with_reducible refine isKeep ?_); first | refine keep_of hs ?_ | refine keep_imp hs ?_) | with_reducible refine when_om ?_ | with_reducible refine drawW_sat hs fun w hs => ?_)
        refine app_one (s := q) (a := key) hs rfl rfl rfl rfl (by decide) (by simp only; omega) fun s2 w hs2 hs => ?_
        repeat (first | with_reducible refine nilck_some ?_ | ((with_reducible refine atLd ?_); first | refine ld_b hs ?_ | refine ld_b (x := ⟨_, _, _⟩) hs ?_ | refine ld_r0 hs ?_ | refine ld_r1 hs ?_ | refine ld_rd0 ha_ hs ?_ | refine ld_rd1 ha_ hs ?_) | ((with_reducible refine isSt ?_); first | refine st_b hs fun w hs => ?_ | refine st_r0 hs fun w hs => ?_ | refine st_r1 hs fun w hs => ?_) | ((with_reducible refine isIdx ?_); first | refine idx_s hs fun b_ o_ hs => ?_ | refine idx_rd hs fun b_ o_ ha_ => ?_) | with_reducible refine newB_at hs fun b_ w hs => ?_ | ((with_reducible refine isLdS ?_); first | refine ldS_b ?_ | refine ldS_b (x := ⟨_, _, _⟩) ?_ | refine ldS_rs0 hs ?_ | refine ldS_rd0 ha_ ?_) | ((with_reducible refine isKeep ?_); first | refine keep_of hs ?_ | refine keep_imp hs ?_) | with_reducible refine when_om ?_ | with_reducible refine drawW_sat hs fun w hs => ?_)
        have hs : Sat W w (rrR b c ⟨lTop x.s key 2, x.q ++ [key]⟩ :: M) := rr_shut s s2 (by exact Sat.fin hs)
        refine call0_of (r13_prune hs (by simp only; omega)) fun e w ⟨he, hs⟩ => ⟨he, ?_⟩
        exact ⟨rfl, hs⟩
theorem r13_Remove (h : Sat W w L) [hA : At L b (rrR b c x) F] (hx : LOk c x) : Calls Try.prog id_hoardref13_Engine_Remove #[.pointer (some ⟨b, 0, none⟩), .string key] w fun e w' => e = .returned (.bool (lRem x key).1) ∧ Sat W w' (F (rrR b c (lRem x key).2)) := by
  refine At.call1 (hA := hA) h fun M hs => ?_
  clear h hA
  refine c1 (hoardref13_Engine_Remove_calls ?_)
  rw [hoardref13_Engine_Remove_def, hoardref13_Engine_Remove_raw]
  have hsm := hx.small
  have hw := hx.w
  have hHas := lHas hw (k := key)
  refine call1_of (r13_Has hs hw (by omega) (by omega)) fun e w ⟨he, hs⟩ => ⟨_, he, ?_⟩
  by_cases hk : key ∈ lRes x
  · rw [decide_eq_true hk] at hHas ⊢
    have hcond : lIs x.s key = 1 ∨ key ∈ x.q := by simpa using hHas
    have e1 : lRem x key = (true, lPr ⟨lOut x.s key, gTake x.q key⟩) := if_pos hcond
    rw [e1]
    with_reducible refine ite_false rfl ?_
    have hl := lOut_len x.s key
    refine call0_of (r13_out hs (by omega)) fun e w ⟨he, hs⟩ => ⟨he, ?_⟩
    refine call0_of (r13_leave hs (by simp only; omega)) fun e w ⟨he, hs⟩ => ⟨he, ?_⟩
    refine call0_of (r13_prune hs (by simp only; omega)) fun e w ⟨he, hs⟩ => ⟨he, ?_⟩
    exact ⟨rfl, hs⟩
  · rw [decide_eq_false hk] at hHas ⊢
    have hcond : ¬ (lIs x.s key = 1 ∨ key ∈ x.q) := by simpa using hHas
    have e1 : lRem x key = (false, x) := if_neg hcond
    rw [e1]
    with_reducible refine ite_true rfl ?_
    exact ⟨rfl, hs⟩
theorem r13_Ghosts (h : Sat W w L) [hA : At L b (rrR b c x) F] (hz : x.s.length < 1000000) : Calls Try.prog id_hoardref13_Engine_Ghosts #[.pointer (some ⟨b, 0, none⟩)] w fun e w' => ∃ l : Sl, e = .returned (.slice l.a l.n l.c) ∧ Sat W w' (recs Rec.str l (lThose x.s 3) :: F (rrR b c x)) := by
  refine At.oneX (hA := hA) h fun M hs hb => ?_
  refine (hoardref13_Engine_Ghosts_calls (Q := fun v w' => ∃ l : Sl, v = .slice l.a l.n l.c ∧ Sat W w' (rrR b c x :: recs Rec.str l (lThose x.s 3) :: M)) ?_).mono fun e w' ⟨v, he, l, hv, hs⟩ => ⟨l, by rw [he, hv], hb _ _ [recs Rec.str l (lThose x.s 3)] hs⟩
  clear hb hA h
  rw [hoardref13_Engine_Ghosts_def, hoardref13_Engine_Ghosts_raw]
  obtain ⟨s, q, hs1, hq1, hs⟩ := rr_open hs
  have hs := Sat.nilR Rec.str hs
  have loop : ∀ (f j : Nat) (w : World) (acc : Sl), j + f = x.s.length → Sat W w (recs Rec.str acc (lThose (x.s.take j) 3) :: rB b c s q :: recs lcR s x.s :: recs Rec.str q x.q :: M) →
      hoardref13_Engine_Ghosts_l1 idJ (fun v w' => ∃ l : Sl, v = .slice l.a l.n l.c ∧ Sat W w' (rrR b c x :: recs Rec.str l (lThose x.s 3) :: M)) (f + 1) (some ⟨b, 0, none⟩) acc (j : Int) w := by
    clear hs
    intro f
    induction f with
    | zero =>
      intro j w acc hif hs
      rw [hoardref13_Engine_Ghosts_l1_raw]
      repeat (first | with_reducible refine nilck_some ?_ | ((with_reducible refine atLd ?_); first | refine ld_b hs ?_ | refine ld_b (x := ⟨_, _, _⟩) hs ?_ | refine ld_r0 hs ?_ | refine ld_r1 hs ?_ | refine ld_rd0 ha_ hs ?_ | refine ld_rd1 ha_ hs ?_) | ((with_reducible refine isSt ?_); first | refine st_b hs fun w hs => ?_ | refine st_r0 hs fun w hs => ?_ | refine st_r1 hs fun w hs => ?_) | ((with_reducible refine isIdx ?_); first | refine idx_s hs fun b_ o_ hs => ?_ | refine idx_rd hs fun b_ o_ ha_ => ?_) | with_reducible refine newB_at hs fun b_ w hs => ?_ | ((with_reducible refine isLdS ?_); first | refine ldS_b ?_ | refine ldS_b (x := ⟨_, _, _⟩) ?_ | refine ldS_rs0 hs ?_ | refine ldS_rd0 ha_ ?_) | ((with_reducible refine isKeep ?_); first | refine keep_of hs ?_ | refine keep_imp hs ?_) | with_reducible refine when_om ?_ | with_reducible refine drawW_sat hs fun w hs => ?_)
      refine ite_false (decide_eq_false (by omega)) ?_
      rw [hoardref13_Engine_Ghosts_j2_def, hoardref13_Engine_Ghosts_j2_raw]
      rw [List.take_of_length_le (by omega)] at hs
      exact ⟨acc, rfl, rr_shut s q (by exact Sat.fin hs)⟩
    | succ f ih =>
      intro j w acc hif hs
      rw [hoardref13_Engine_Ghosts_l1_raw]
      repeat (first | with_reducible refine nilck_some ?_ | ((with_reducible refine atLd ?_); first | refine ld_b hs ?_ | refine ld_b (x := ⟨_, _, _⟩) hs ?_ | refine ld_r0 hs ?_ | refine ld_r1 hs ?_ | refine ld_rd0 ha_ hs ?_ | refine ld_rd1 ha_ hs ?_) | ((with_reducible refine isSt ?_); first | refine st_b hs fun w hs => ?_ | refine st_r0 hs fun w hs => ?_ | refine st_r1 hs fun w hs => ?_) | ((with_reducible refine isIdx ?_); first | refine idx_s hs fun b_ o_ hs => ?_ | refine idx_rd hs fun b_ o_ ha_ => ?_) | with_reducible refine newB_at hs fun b_ w hs => ?_ | ((with_reducible refine isLdS ?_); first | refine ldS_b ?_ | refine ldS_b (x := ⟨_, _, _⟩) ?_ | refine ldS_rs0 hs ?_ | refine ldS_rd0 ha_ ?_) | ((with_reducible refine isKeep ?_); first | refine keep_of hs ?_ | refine keep_imp hs ?_) | with_reducible refine when_om ?_ | with_reducible refine drawW_sat hs fun w hs => ?_)
      refine ite_true (decide_eq_true (by omega)) ?_
      repeat (first | with_reducible refine nilck_some ?_ | ((with_reducible refine atLd ?_); first | refine ld_b hs ?_ | refine ld_b (x := ⟨_, _, _⟩) hs ?_ | refine ld_r0 hs ?_ | refine ld_r1 hs ?_ | refine ld_rd0 ha_ hs ?_ | refine ld_rd1 ha_ hs ?_) | ((with_reducible refine isSt ?_); first | refine st_b hs fun w hs => ?_ | refine st_r0 hs fun w hs => ?_ | refine st_r1 hs fun w hs => ?_) | ((with_reducible refine isIdx ?_); first | refine idx_s hs fun b_ o_ hs => ?_ | refine idx_rd hs fun b_ o_ ha_ => ?_) | with_reducible refine newB_at hs fun b_ w hs => ?_ | ((with_reducible refine isLdS ?_); first | refine ldS_b ?_ | refine ldS_b (x := ⟨_, _, _⟩) ?_ | refine ldS_rs0 hs ?_ | refine ldS_rd0 ha_ ?_) | ((with_reducible refine isKeep ?_); first | refine keep_of hs ?_ | refine keep_imp hs ?_) | with_reducible refine when_om ?_ | with_reducible refine drawW_sat hs fun w hs => ?_)
      rw [Int.toNat_natCast]
      have hdl := lThose_tk x.s 3 j
      have hds := lThose_snoc (i := 3) (S := x.s) (j := j) (by omega)
      have hw : IntKind.wrap .i64 ((j : Int) + 1) = ((j + 1 : Nat) : Int) := by rw [i64_in _ (by omega)]; omega
      with_reducible refine ite_by (fun h1 => ?_) (fun h1 => ?_)
      · rw [if_pos (kB_gh.1 h1)] at hds
        repeat (first | with_reducible refine nilck_some ?_ | ((with_reducible refine atLd ?_); first | refine ld_b hs ?_ | refine ld_b (x := ⟨_, _, _⟩) hs ?_ | refine ld_r0 hs ?_ | refine ld_r1 hs ?_ | refine ld_rd0 ha_ hs ?_ | refine ld_rd1 ha_ hs ?_) | ((with_reducible refine isSt ?_); first | refine st_b hs fun w hs => ?_ | refine st_r0 hs fun w hs => ?_ | refine st_r1 hs fun w hs => ?_) | ((with_reducible refine isIdx ?_); first | refine idx_s hs fun b_ o_ hs => ?_ | refine idx_rd hs fun b_ o_ ha_ => ?_) | with_reducible refine newB_at hs fun b_ w hs => ?_ | ((with_reducible refine isLdS ?_); first | refine ldS_b ?_ | refine ldS_b (x := ⟨_, _, _⟩) ?_ | refine ldS_rs0 hs ?_ | refine ldS_rd0 ha_ ?_) | ((with_reducible refine isKeep ?_); first | refine keep_of hs ?_ | refine keep_imp hs ?_) | with_reducible refine when_om ?_ | with_reducible refine drawW_sat hs fun w hs => ?_)
        refine app_one (s := acc) (a := (x.s.getD j default).1) hs rfl rfl rfl rfl (by decide) (by omega) fun s2 w hs2 hs => ?_
        rw [← hds] at hs
        rw [hw]
        exact ih (j + 1) w s2 (by omega) (by exact Sat.fin hs)
      · rw [if_neg (fun h => h1 (kB_gh.2 h)), List.append_nil] at hds
        rw [← hds] at hs
        rw [hw]
        exact ih (j + 1) w acc (by omega) (by exact Sat.fin hs)
  refine exM_of (x.s.length + 1) ?_
  exact loop x.s.length 0 w ⟨none, 0, 0⟩ (by omega) (by exact Sat.fin hs)
theorem r13_Keys (h : Sat W w L) [hA : At L b (rrR b c x) F] (hz : x.s.length < 1000000) (hzq : x.q.length < 1000000) : Calls Try.prog id_hoardref13_Engine_Keys #[.pointer (some ⟨b, 0, none⟩)] w fun e w' => ∃ l : Sl, e = .returned (.slice l.a l.n l.c) ∧ Sat W w' (recs Rec.str l (lRes x) :: F (rrR b c x)) := by
  refine At.oneX (hA := hA) h fun M hs hb => ?_
  refine (hoardref13_Engine_Keys_calls (Q := fun v w' => ∃ l : Sl, v = .slice l.a l.n l.c ∧ Sat W w' (rrR b c x :: recs Rec.str l (lRes x) :: M)) ?_).mono fun e w' ⟨v, he, l, hv, hs⟩ => ⟨l, by rw [he, hv], hb _ _ [recs Rec.str l (lRes x)] hs⟩
  clear hb hA h
  rw [hoardref13_Engine_Keys_def, hoardref13_Engine_Keys_raw]
  obtain ⟨s, q, hs1, hq1, hs⟩ := rr_open hs
  refine newB_at hs fun b0 w hs => ?_
  repeat (first | with_reducible refine nilck_some ?_ | ((with_reducible refine atLd ?_); first | refine ld_b hs ?_ | refine ld_b (x := ⟨_, _, _⟩) hs ?_ | refine ld_r0 hs ?_ | refine ld_r1 hs ?_ | refine ld_rd0 ha_ hs ?_ | refine ld_rd1 ha_ hs ?_) | ((with_reducible refine isSt ?_); first | refine st_b hs fun w hs => ?_ | refine st_r0 hs fun w hs => ?_ | refine st_r1 hs fun w hs => ?_) | ((with_reducible refine isIdx ?_); first | refine idx_s hs fun b_ o_ hs => ?_ | refine idx_rd hs fun b_ o_ ha_ => ?_) | with_reducible refine newB_at hs fun b_ w hs => ?_ | ((with_reducible refine isLdS ?_); first | refine ldS_b ?_ | refine ldS_b (x := ⟨_, _, _⟩) ?_ | refine ldS_rs0 hs ?_ | refine ldS_rd0 ha_ ?_) | ((with_reducible refine isKeep ?_); first | refine keep_of hs ?_ | refine keep_imp hs ?_) | with_reducible refine when_om ?_ | with_reducible refine drawW_sat hs fun w hs => ?_)
  refine app_own hs Rec.str (rows := []) rfl rfl (rd_rdb (s := q) hs) hq1.1 (okC_flat _) rfl (by decide) (by simp; omega) fun s0 w hs0 hs => ?_
  rw [List.nil_append] at hs
  have loop : ∀ (f j : Nat) (w : World) (acc : Sl), j + f = x.s.length → Sat W w (recs Rec.str acc (x.q ++ lThose (x.s.take j) 1) :: rB b c s q :: recs lcR s x.s :: recs Rec.str q x.q :: M) →
      hoardref13_Engine_Keys_l1 idJ (fun v w' => ∃ l : Sl, v = .slice l.a l.n l.c ∧ Sat W w' (rrR b c x :: recs Rec.str l (lRes x) :: M)) (f + 1) (some ⟨b, 0, none⟩) acc (j : Int) w := by
    clear hs
    intro f
    induction f with
    | zero =>
      intro j w acc hif hs
      rw [hoardref13_Engine_Keys_l1_raw]
      repeat (first | with_reducible refine nilck_some ?_ | ((with_reducible refine atLd ?_); first | refine ld_b hs ?_ | refine ld_b (x := ⟨_, _, _⟩) hs ?_ | refine ld_r0 hs ?_ | refine ld_r1 hs ?_ | refine ld_rd0 ha_ hs ?_ | refine ld_rd1 ha_ hs ?_) | ((with_reducible refine isSt ?_); first | refine st_b hs fun w hs => ?_ | refine st_r0 hs fun w hs => ?_ | refine st_r1 hs fun w hs => ?_) | ((with_reducible refine isIdx ?_); first | refine idx_s hs fun b_ o_ hs => ?_ | refine idx_rd hs fun b_ o_ ha_ => ?_) | with_reducible refine newB_at hs fun b_ w hs => ?_ | ((with_reducible refine isLdS ?_); first | refine ldS_b ?_ | refine ldS_b (x := ⟨_, _, _⟩) ?_ | refine ldS_rs0 hs ?_ | refine ldS_rd0 ha_ ?_) | ((with_reducible refine isKeep ?_); first | refine keep_of hs ?_ | refine keep_imp hs ?_) | with_reducible refine when_om ?_ | with_reducible refine drawW_sat hs fun w hs => ?_)
      refine ite_false (decide_eq_false (by omega)) ?_
      rw [hoardref13_Engine_Keys_j2_def, hoardref13_Engine_Keys_j2_raw]
      rw [List.take_of_length_le (by omega)] at hs
      exact ⟨acc, rfl, rr_shut s q (by exact Sat.fin hs)⟩
    | succ f ih =>
      intro j w acc hif hs
      rw [hoardref13_Engine_Keys_l1_raw]
      repeat (first | with_reducible refine nilck_some ?_ | ((with_reducible refine atLd ?_); first | refine ld_b hs ?_ | refine ld_b (x := ⟨_, _, _⟩) hs ?_ | refine ld_r0 hs ?_ | refine ld_r1 hs ?_ | refine ld_rd0 ha_ hs ?_ | refine ld_rd1 ha_ hs ?_) | ((with_reducible refine isSt ?_); first | refine st_b hs fun w hs => ?_ | refine st_r0 hs fun w hs => ?_ | refine st_r1 hs fun w hs => ?_) | ((with_reducible refine isIdx ?_); first | refine idx_s hs fun b_ o_ hs => ?_ | refine idx_rd hs fun b_ o_ ha_ => ?_) | with_reducible refine newB_at hs fun b_ w hs => ?_ | ((with_reducible refine isLdS ?_); first | refine ldS_b ?_ | refine ldS_b (x := ⟨_, _, _⟩) ?_ | refine ldS_rs0 hs ?_ | refine ldS_rd0 ha_ ?_) | ((with_reducible refine isKeep ?_); first | refine keep_of hs ?_ | refine keep_imp hs ?_) | with_reducible refine when_om ?_ | with_reducible refine drawW_sat hs fun w hs => ?_)
      refine ite_true (decide_eq_true (by omega)) ?_
      repeat (first | with_reducible refine nilck_some ?_ | ((with_reducible refine atLd ?_); first | refine ld_b hs ?_ | refine ld_b (x := ⟨_, _, _⟩) hs ?_ | refine ld_r0 hs ?_ | refine ld_r1 hs ?_ | refine ld_rd0 ha_ hs ?_ | refine ld_rd1 ha_ hs ?_) | ((with_reducible refine isSt ?_); first | refine st_b hs fun w hs => ?_ | refine st_r0 hs fun w hs => ?_ | refine st_r1 hs fun w hs => ?_) | ((with_reducible refine isIdx ?_); first | refine idx_s hs fun b_ o_ hs => ?_ | refine idx_rd hs fun b_ o_ ha_ => ?_) | with_reducible refine newB_at hs fun b_ w hs => ?_ | ((with_reducible refine isLdS ?_); first | refine ldS_b ?_ | refine ldS_b (x := ⟨_, _, _⟩) ?_ | refine ldS_rs0 hs ?_ | refine ldS_rd0 ha_ ?_) | ((with_reducible refine isKeep ?_); first | refine keep_of hs ?_ | refine keep_imp hs ?_) | with_reducible refine when_om ?_ | with_reducible refine drawW_sat hs fun w hs => ?_)
      rw [Int.toNat_natCast]
      have hdl := lThose_tk x.s 1 j
      have hds := lThose_snoc (i := 1) (S := x.s) (j := j) (by omega)
      have hw : IntKind.wrap .i64 ((j : Int) + 1) = ((j + 1 : Nat) : Int) := by rw [i64_in _ (by omega)]; omega
      with_reducible refine ite_by (fun h1 => ?_) (fun h1 => ?_)
      · rw [if_pos (kB_hot.1 h1)] at hds
        repeat (first | with_reducible refine nilck_some ?_ | ((with_reducible refine atLd ?_); first | refine ld_b hs ?_ | refine ld_b (x := ⟨_, _, _⟩) hs ?_ | refine ld_r0 hs ?_ | refine ld_r1 hs ?_ | refine ld_rd0 ha_ hs ?_ | refine ld_rd1 ha_ hs ?_) | ((with_reducible refine isSt ?_); first | refine st_b hs fun w hs => ?_ | refine st_r0 hs fun w hs => ?_ | refine st_r1 hs fun w hs => ?_) | ((with_reducible refine isIdx ?_); first | refine idx_s hs fun b_ o_ hs => ?_ | refine idx_rd hs fun b_ o_ ha_ => ?_) | with_reducible refine newB_at hs fun b_ w hs => ?_ | ((with_reducible refine isLdS ?_); first | refine ldS_b ?_ | refine ldS_b (x := ⟨_, _, _⟩) ?_ | refine ldS_rs0 hs ?_ | refine ldS_rd0 ha_ ?_) | ((with_reducible refine isKeep ?_); first | refine keep_of hs ?_ | refine keep_imp hs ?_) | with_reducible refine when_om ?_ | with_reducible refine drawW_sat hs fun w hs => ?_)
        refine app_one (s := acc) (a := (x.s.getD j default).1) hs rfl rfl rfl rfl (by decide) (by simp; omega) fun s2 w hs2 hs => ?_
        rw [List.append_assoc, ← hds] at hs
        rw [hw]
        exact ih (j + 1) w s2 (by omega) (by exact Sat.fin hs)
      · rw [if_neg (fun h => h1 (kB_hot.2 h)), List.append_nil] at hds
        rw [← hds] at hs
        rw [hw]
        exact ih (j + 1) w acc (by omega) (by exact Sat.fin hs)
  refine exM_of (x.s.length + 1) ?_
  refine loop x.s.length 0 w s0 (by omega) ?_
  have : x.q ++ lThose (x.s.take 0) 1 = x.q := by simp [lThose]
  rw [this]
  exact Sat.fin hs
theorem r13_New (hs : Sat W w L) {r : Int} : Calls Try.prog id_hoardref13_New #[.int .i64 r] w fun e w' => ∃ b, e = .returned (.pointer (some ⟨b, 0, none⟩)) ∧ Sat W w' (rrR b (roomR r) lirs0 :: L) := by
  refine (hoardref13_New_calls (Q := fun v w' => ∃ b, v = .pointer (some ⟨b, 0, none⟩) ∧ Sat W w' (rrR b (roomR r) lirs0 :: L)) ?_).mono fun e w' ⟨v, he, b, hv, hs⟩ => ⟨b, by rw [he, hv], hs⟩
  rw [hoardref13_New_def, hoardref13_New_raw]
  have e0 : (if (1024 : Int) < (if (1 : Int) > r then (1 : Int) else r) then (1024 : Int) else (if (1 : Int) > r then (1 : Int) else r)) = roomR r := by unfold roomR; split <;> split <;> omega
  rw [e0]
  refine newB_at hs fun b w hs => ?_
  have hs := Sat.nilR lcR hs
  have hs := Sat.nilR Rec.str hs
  exact ⟨b, rfl, rr_shut ⟨none, 0, 0⟩ ⟨none, 0, 0⟩ (by exact Sat.fin hs)⟩
def kindB (i : Int) : ByteArray := if i = 1 then ⟨#[104]⟩ else if i = 3 then ⟨#[103]⟩ else ⟨#[99]⟩
theorem kindB_cells (i : Int) : [Value.int .u8 (kB i)] = bytesL (kindB i) := by
  unfold kB kindB
  split
  · rfl
  · split <;> rfl
theorem kindB_text {i : Int} (h : i = 1 ∨ i = 2 ∨ i = 3) : str__x ++ kindB i = kindT i := by rcases h with h | h | h <;> rw [h] <;> decide +kernel
theorem kindB_size (i : Int) : (kindB i).size = 1 := by
  unfold kindB
  split
  · rfl
  · split <;> rfl
theorem ba_assoc3 (a b c d : ByteArray) : ((a ++ b) ++ c) ++ d = a ++ ((b ++ c) ++ d) := by rw [ByteArray.append_assoc, ByteArray.append_assoc, ByteArray.append_assoc]
theorem r13_State (h : Sat W w L) [hA : At L b (rrR b c x) F] (hw : LW x) (hz : x.s.length < 1000000) (hzq : x.q.length < 1000000) : Calls Try.prog id_hoardref13_Engine_State #[.pointer (some ⟨b, 0, none⟩)] w fun e w' => e = .returned (.string (lTxt x)) ∧ Sat W w' (F (rrR b c x)) := by
  refine At.call1 (hA := hA) h fun M hs => ?_
  clear h hA
  refine c1 (hoardref13_Engine_State_calls ?_)
  rw [hoardref13_Engine_State_def, hoardref13_Engine_State_raw]
  obtain ⟨s, q, hs1, hq1, hs⟩ := rr_open hs
  have hrest : ∀ w, Sat W w (rB b c s q :: recs lcR s x.s :: recs Rec.str q x.q :: M) → hoardref13_Engine_State_j2 idJ (fun v w' => v = .string (lTxt x) ∧ Sat W w' (rrR b c x :: M)) (some ⟨b, 0, none⟩) (lTxtS x.s) w := by
    clear hs
    intro w hs
    have hz1 := lTxtS_size hw.ssm x.s.length (Nat.le_refl _)
    rw [List.take_length] at hz1
    have hq3 : str__Q_.size = 3 := rfl
    rw [hoardref13_Engine_State_j2_def, hoardref13_Engine_State_j2_raw]
    have loop : ∀ (f j : Nat) (w : World), j + f = x.q.length → Sat W w (rB b c s q :: recs lcR s x.s :: recs Rec.str q x.q :: M) →
        hoardref13_Engine_State_l3 idJ (fun v w' => v = .string (lTxt x) ∧ Sat W w' (rrR b c x :: M)) (f + 1) (some ⟨b, 0, none⟩) (lTxtQ (lTxtS x.s) (x.q.take j)) (j : Int) w := by
      clear hs
      intro f
      induction f with
      | zero =>
        intro j w hif hs
        rw [hoardref13_Engine_State_l3_raw]
        repeat (first | with_reducible refine nilck_some ?_ | ((with_reducible refine atLd ?_); first | refine ld_b hs ?_ | refine ld_b (x := ⟨_, _, _⟩) hs ?_ | refine ld_r0 hs ?_ | refine ld_r1 hs ?_ | refine ld_rd0 ha_ hs ?_ | refine ld_rd1 ha_ hs ?_) | ((with_reducible refine isSt ?_); first | refine st_b hs fun w hs => ?_ | refine st_r0 hs fun w hs => ?_ | refine st_r1 hs fun w hs => ?_) | ((with_reducible refine isIdx ?_); first | refine idx_s hs fun b_ o_ hs => ?_ | refine idx_rd hs fun b_ o_ ha_ => ?_) | with_reducible refine newB_at hs fun b_ w hs => ?_ | ((with_reducible refine isLdS ?_); first | refine ldS_b ?_ | refine ldS_b (x := ⟨_, _, _⟩) ?_ | refine ldS_rs0 hs ?_ | refine ldS_rd0 ha_ ?_) | ((with_reducible refine isKeep ?_); first | refine keep_of hs ?_ | refine keep_imp hs ?_) | with_reducible refine when_om ?_ | with_reducible refine drawW_sat hs fun w hs => ?_)
        refine ite_false (decide_eq_false (by omega)) ?_
        rw [hoardref13_Engine_State_j4_def, hoardref13_Engine_State_j4_raw]
        rw [List.take_of_length_le (by omega)]
        exact ⟨rfl, rr_shut s q (by exact Sat.fin hs)⟩
      | succ f ih =>
        intro j w hif hs
        rw [hoardref13_Engine_State_l3_raw]
        have hmem : x.q.getD j default ∈ x.q := getD_mem (by omega)
        have hsz := hw.qsm _ hmem
        have h1 : str__.size = 1 := rfl
        have hq := lTxtQ_size (a := lTxtS x.s) hw.qsm j (by omega)
        have hsn := lTxtQ_snoc (a := lTxtS x.s) (q := x.q) (j := j) (by omega)
        have hwr : IntKind.wrap .i64 ((j : Int) + 1) = ((j + 1 : Nat) : Int) := by rw [i64_in _ (by omega)]; omega
        iterate 1 (first | with_reducible refine nilck_some ?_ | ((with_reducible refine atLd ?_); first | refine ld_b hs ?_ | refine ld_b (x := ⟨_, _, _⟩) hs ?_ | refine ld_r0 hs ?_ | refine ld_r1 hs ?_ | refine ld_rd0 ha_ hs ?_ | refine ld_rd1 ha_ hs ?_) | ((with_reducible refine isSt ?_); first | refine st_b hs fun w hs => ?_ | refine st_r0 hs fun w hs => ?_ | refine st_r1 hs fun w hs => ?_) | ((with_reducible refine isIdx ?_); first | refine idx_s hs fun b_ o_ hs => ?_ | refine idx_rd hs fun b_ o_ ha_ => ?_) | with_reducible refine newB_at hs fun b_ w hs => ?_ | ((with_reducible refine isLdS ?_); first | refine ldS_b ?_ | refine ldS_b (x := ⟨_, _, _⟩) ?_ | refine ldS_rs0 hs ?_ | refine ldS_rd0 ha_ ?_) | ((with_reducible refine isKeep ?_); first | refine keep_of hs ?_ | refine keep_imp hs ?_) | with_reducible refine when_om ?_ | with_reducible refine drawW_sat hs fun w hs => ?_)
        iterate 1 (first | with_reducible refine nilck_some ?_ | ((with_reducible refine atLd ?_); first | refine ld_b hs ?_ | refine ld_b (x := ⟨_, _, _⟩) hs ?_ | refine ld_r0 hs ?_ | refine ld_r1 hs ?_ | refine ld_rd0 ha_ hs ?_ | refine ld_rd1 ha_ hs ?_) | ((with_reducible refine isSt ?_); first | refine st_b hs fun w hs => ?_ | refine st_r0 hs fun w hs => ?_ | refine st_r1 hs fun w hs => ?_) | ((with_reducible refine isIdx ?_); first | refine idx_s hs fun b_ o_ hs => ?_ | refine idx_rd hs fun b_ o_ ha_ => ?_) | with_reducible refine newB_at hs fun b_ w hs => ?_ | ((with_reducible refine isLdS ?_); first | refine ldS_b ?_ | refine ldS_b (x := ⟨_, _, _⟩) ?_ | refine ldS_rs0 hs ?_ | refine ldS_rd0 ha_ ?_) | ((with_reducible refine isKeep ?_); first | refine keep_of hs ?_ | refine keep_imp hs ?_) | with_reducible refine when_om ?_ | with_reducible refine drawW_sat hs fun w hs => ?_)
        refine ite_true (decide_eq_true (by omega)) ?_
        refine when_of (by omega) ?_
        repeat (first | with_reducible refine nilck_some ?_ | ((with_reducible refine atLd ?_); first | refine ld_b hs ?_ | refine ld_b (x := ⟨_, _, _⟩) hs ?_ | refine ld_r0 hs ?_ | refine ld_r1 hs ?_ | refine ld_rd0 ha_ hs ?_ | refine ld_rd1 ha_ hs ?_) | ((with_reducible refine isSt ?_); first | refine st_b hs fun w hs => ?_ | refine st_r0 hs fun w hs => ?_ | refine st_r1 hs fun w hs => ?_) | ((with_reducible refine isIdx ?_); first | refine idx_s hs fun b_ o_ hs => ?_ | refine idx_rd hs fun b_ o_ ha_ => ?_) | with_reducible refine newB_at hs fun b_ w hs => ?_ | ((with_reducible refine isLdS ?_); first | refine ldS_b ?_ | refine ldS_b (x := ⟨_, _, _⟩) ?_ | refine ldS_rs0 hs ?_ | refine ldS_rd0 ha_ ?_) | ((with_reducible refine isKeep ?_); first | refine keep_of hs ?_ | refine keep_imp hs ?_) | with_reducible refine when_om ?_ | with_reducible refine drawW_sat hs fun w hs => ?_)
        rw [Int.toNat_natCast]
        refine when_of (by rw [ba_size_append]; omega) ?_
        rw [hwr, show (lTxtQ (lTxtS x.s) (x.q.take j) ++ str__) ++ x.q.getD j default = lTxtQ (lTxtS x.s) (x.q.take (j + 1)) by rw [hsn, ByteArray.append_assoc]; rfl]
        exact ih (j + 1) w (by omega) (by exact Sat.fin hs)
    refine when_of (by omega) ?_
    refine exM_of (x.q.length + 1) ?_
    exact loop x.q.length 0 w (by omega) hs
  have loop : ∀ (f j : Nat) (w : World), j + f = x.s.length → Sat W w (rB b c s q :: recs lcR s x.s :: recs Rec.str q x.q :: M) →
      hoardref13_Engine_State_l1 idJ (fun v w' => v = .string (lTxt x) ∧ Sat W w' (rrR b c x :: M)) (f + 1) (some ⟨b, 0, none⟩) (lTxtS (x.s.take j)) (j : Int) w := by
    clear hs
    intro f
    induction f with
    | zero =>
      intro j w hif hs
      rw [hoardref13_Engine_State_l1_raw]
      repeat (first | with_reducible refine nilck_some ?_ | ((with_reducible refine atLd ?_); first | refine ld_b hs ?_ | refine ld_b (x := ⟨_, _, _⟩) hs ?_ | refine ld_r0 hs ?_ | refine ld_r1 hs ?_ | refine ld_rd0 ha_ hs ?_ | refine ld_rd1 ha_ hs ?_) | ((with_reducible refine isSt ?_); first | refine st_b hs fun w hs => ?_ | refine st_r0 hs fun w hs => ?_ | refine st_r1 hs fun w hs => ?_) | ((with_reducible refine isIdx ?_); first | refine idx_s hs fun b_ o_ hs => ?_ | refine idx_rd hs fun b_ o_ ha_ => ?_) | with_reducible refine newB_at hs fun b_ w hs => ?_ | ((with_reducible refine isLdS ?_); first | refine ldS_b ?_ | refine ldS_b (x := ⟨_, _, _⟩) ?_ | refine ldS_rs0 hs ?_ | refine ldS_rd0 ha_ ?_) | ((with_reducible refine isKeep ?_); first | refine keep_of hs ?_ | refine keep_imp hs ?_) | with_reducible refine when_om ?_ | with_reducible refine drawW_sat hs fun w hs => ?_)
      refine ite_false (decide_eq_false (by omega)) ?_
      rw [List.take_of_length_le (by omega)]
      exact hrest w (by exact Sat.fin hs)
    | succ f ih =>
      intro j w hif hs
      rw [hoardref13_Engine_State_l1_raw]
      have hmem : x.s.getD j default ∈ x.s := getD_mem (by omega)
      have hsz := hw.ssm _ hmem
      have hkd := hw.kinds _ hmem
      have h1 : str__.size = 1 := rfl
      have h2 : str__x.size = 1 := rfl
      have hq := lTxtS_size hw.ssm j (by omega)
      have hsn := lTxtS_snoc (S := x.s) (j := j) (by omega)
      have hwr : IntKind.wrap .i64 ((j : Int) + 1) = ((j + 1 : Nat) : Int) := by rw [i64_in _ (by omega)]; omega
      iterate 1 (first | with_reducible refine nilck_some ?_ | ((with_reducible refine atLd ?_); first | refine ld_b hs ?_ | refine ld_b (x := ⟨_, _, _⟩) hs ?_ | refine ld_r0 hs ?_ | refine ld_r1 hs ?_ | refine ld_rd0 ha_ hs ?_ | refine ld_rd1 ha_ hs ?_) | ((with_reducible refine isSt ?_); first | refine st_b hs fun w hs => ?_ | refine st_r0 hs fun w hs => ?_ | refine st_r1 hs fun w hs => ?_) | ((with_reducible refine isIdx ?_); first | refine idx_s hs fun b_ o_ hs => ?_ | refine idx_rd hs fun b_ o_ ha_ => ?_) | with_reducible refine newB_at hs fun b_ w hs => ?_ | ((with_reducible refine isLdS ?_); first | refine ldS_b ?_ | refine ldS_b (x := ⟨_, _, _⟩) ?_ | refine ldS_rs0 hs ?_ | refine ldS_rd0 ha_ ?_) | ((with_reducible refine isKeep ?_); first | refine keep_of hs ?_ | refine keep_imp hs ?_) | with_reducible refine when_om ?_ | with_reducible refine drawW_sat hs fun w hs => ?_)
      iterate 1 (first | with_reducible refine nilck_some ?_ | ((with_reducible refine atLd ?_); first | refine ld_b hs ?_ | refine ld_b (x := ⟨_, _, _⟩) hs ?_ | refine ld_r0 hs ?_ | refine ld_r1 hs ?_ | refine ld_rd0 ha_ hs ?_ | refine ld_rd1 ha_ hs ?_) | ((with_reducible refine isSt ?_); first | refine st_b hs fun w hs => ?_ | refine st_r0 hs fun w hs => ?_ | refine st_r1 hs fun w hs => ?_) | ((with_reducible refine isIdx ?_); first | refine idx_s hs fun b_ o_ hs => ?_ | refine idx_rd hs fun b_ o_ ha_ => ?_) | with_reducible refine newB_at hs fun b_ w hs => ?_ | ((with_reducible refine isLdS ?_); first | refine ldS_b ?_ | refine ldS_b (x := ⟨_, _, _⟩) ?_ | refine ldS_rs0 hs ?_ | refine ldS_rd0 ha_ ?_) | ((with_reducible refine isKeep ?_); first | refine keep_of hs ?_ | refine keep_imp hs ?_) | with_reducible refine when_om ?_ | with_reducible refine drawW_sat hs fun w hs => ?_)
      refine ite_true (decide_eq_true (by omega)) ?_
      refine drawW_sat hs fun w hs => ?_
      refine when_of (by omega) ?_
      repeat (first | with_reducible refine nilck_some ?_ | ((with_reducible refine atLd ?_); first | refine ld_b hs ?_ | refine ld_b (x := ⟨_, _, _⟩) hs ?_ | refine ld_r0 hs ?_ | refine ld_r1 hs ?_ | refine ld_rd0 ha_ hs ?_ | refine ld_rd1 ha_ hs ?_) | ((with_reducible refine isSt ?_); first | refine st_b hs fun w hs => ?_ | refine st_r0 hs fun w hs => ?_ | refine st_r1 hs fun w hs => ?_) | ((with_reducible refine isIdx ?_); first | refine idx_s hs fun b_ o_ hs => ?_ | refine idx_rd hs fun b_ o_ ha_ => ?_) | with_reducible refine newB_at hs fun b_ w hs => ?_ | ((with_reducible refine isLdS ?_); first | refine ldS_b ?_ | refine ldS_b (x := ⟨_, _, _⟩) ?_ | refine ldS_rs0 hs ?_ | refine ldS_rd0 ha_ ?_) | ((with_reducible refine isKeep ?_); first | refine keep_of hs ?_ | refine keep_imp hs ?_) | with_reducible refine when_om ?_ | with_reducible refine drawW_sat hs fun w hs => ?_)
      rw [Int.toNat_natCast]
      refine when_of (by rw [ba_size_append]; omega) ?_
      refine when_of (by rw [ba_size_append, ba_size_append]; omega) ?_
      repeat (first | with_reducible refine nilck_some ?_ | ((with_reducible refine atLd ?_); first | refine ld_b hs ?_ | refine ld_b (x := ⟨_, _, _⟩) hs ?_ | refine ld_r0 hs ?_ | refine ld_r1 hs ?_ | refine ld_rd0 ha_ hs ?_ | refine ld_rd1 ha_ hs ?_) | ((with_reducible refine isSt ?_); first | refine st_b hs fun w hs => ?_ | refine st_r0 hs fun w hs => ?_ | refine st_r1 hs fun w hs => ?_) | ((with_reducible refine isIdx ?_); first | refine idx_s hs fun b_ o_ hs => ?_ | refine idx_rd hs fun b_ o_ ha_ => ?_) | with_reducible refine newB_at hs fun b_ w hs => ?_ | ((with_reducible refine isLdS ?_); first | refine ldS_b ?_ | refine ldS_b (x := ⟨_, _, _⟩) ?_ | refine ldS_rs0 hs ?_ | refine ldS_rd0 ha_ ?_) | ((with_reducible refine isKeep ?_); first | refine keep_of hs ?_ | refine keep_imp hs ?_) | with_reducible refine when_om ?_ | with_reducible refine drawW_sat hs fun w hs => ?_)
      have hkz := kindB_size (x.s.getD j default).2
      refine ⟨kindB (x.s.getD j default).2, ?_, ?_⟩
      · rw [← kindB_cells]
        exact rd_blk 0 hs rfl rfl
      refine keep_imp hs ?_
      refine when_of (by rw [ba_size_append, ba_size_append, ba_size_append]; omega) ?_
      rw [hwr, show (((lTxtS (x.s.take j) ++ str__) ++ (x.s.getD j default).1) ++ str__x) ++ kindB (x.s.getD j default).2 = lTxtS (x.s.take (j + 1)) by
        rw [hsn, ← kindB_text hkd]
        simp only [ByteArray.append_assoc]; rfl]
      exact ih (j + 1) w (by omega) (by exact Sat.fin hs)
  refine exM_of (x.s.length + 1) ?_
  exact loop x.s.length 0 w (by omega) hs
end
end Go.Proofs.Ytgmhoenmhnlojaa
