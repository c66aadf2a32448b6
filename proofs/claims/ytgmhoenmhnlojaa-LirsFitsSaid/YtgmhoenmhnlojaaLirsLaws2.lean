/- LirsOfNothing, LirsTold, LirsFits, LirsOwn, LirsRemoves, LirsEmpties, LirsLoads: walks. -/
import Derived.Test.YtgmhoenmhnlojaaLirsLaws
set_option linter.unusedVariables false
set_option linter.unusedSimpArgs false
set_option linter.unnecessarySimpa false
set_option linter.unusedSectionVars false
namespace Go.Hb
theorem inNext_len {I : List ByteArray} {k : ByteArray} {was : Bool} {g : List ByteArray} : (inNext I k was g).length ≤ I.length + 1 := by
  have h : ∀ (g l : List ByteArray), (gCuts l g).length ≤ l.length := by
    intro g
    induction g with
    | nil => intro l; exact Nat.le_refl _
    | cons y g ih =>
      intro l
      have h1 := ih (gTake l y)
      have h2 := gTake_len l y
      show (gCuts (gTake l y) g).length ≤ _
      omega
  have := h g I
  unfold inNext
  split
  · omega
  · simp; omega
end Go.Hb
namespace Go.Proofs.Ytgmhoenmhnlojaa
open Go.Hb Go.IntWalk
section
variable {W w : World} {L M : List HP} {F : HP → List HP}
theorem lnothing_walk {s : ByteArray} : Calls Try.prog id_hoardlaw13_LirsOfNothing #[.string s] W fun e w' => e = .returned (.bool true) ∧ KeptH W w' := by
  have hs := Sat.begin W
  refine law_of (hoardlaw13_LirsOfNothing_calls ?_)
  rw [hoardlaw13_LirsOfNothing_def, hoardlaw13_LirsOfNothing_raw]
  with_reducible refine ite_by (fun h1 => ?_) (fun h1 => ?_)
  · exact ⟨rfl, hs⟩
  refine call2_of (lnil_Access hs) fun e w ⟨he, hs⟩ => ⟨_, ⟨none, 0, 0⟩, he, ?_⟩
  refine call2_of (lnil_Evict hs) fun e w ⟨he, hs⟩ => ⟨_, _, he, ite_true rfl (ite_true rfl ?_)⟩
  refine call1_of (lnil_Load hs) fun e w ⟨he, hs⟩ => ⟨_, he, ite_true rfl ?_⟩
  refine call1_of (lnil_Remove hs) fun e w ⟨he, hs⟩ => ⟨_, he, ite_true rfl (ite_true (by rw [sEq_eq]; simp) (ite_true rfl ?_))⟩
  refine call1_of (lnil_Has hs) fun e w ⟨he, hs⟩ => ⟨_, he, ite_true rfl ?_⟩
  refine (lnil_Keys hs).mono fun e w ⟨he, hs⟩ => ⟨⟨none, 0, 0⟩, he, ite_true rfl ?_⟩
  refine (lnil_Ghosts hs).mono fun e w ⟨he, hs⟩ => ⟨⟨none, 0, 0⟩, he, ite_true rfl ?_⟩
  refine call1_of (lnil_State hs) fun e w ⟨he, hs⟩ => ⟨_, he, ite_true (by rw [sEq_eq]; simp) ?_⟩
  refine call1_of (lnil_Len hs) fun e w ⟨he, hs⟩ => ⟨_, he, ite_true rfl ?_⟩
  refine call1_of (lnil_Room hs) fun e w ⟨he, hs⟩ => ⟨_, he, ite_true rfl ?_⟩
  exact call1_of (known13 hs) fun e w ⟨he, hs⟩ => ⟨_, he, rfl, hs⟩

set_option maxHeartbeats 1000000 in
set_option maxRecDepth 100000 in
theorem ltold_walk {room : Int} {s0 : Sl} {ks : List ByteArray} [hr : ReadsR W s0 Rec.str ks] : Calls Try.prog id_hoardlaw13_LirsTold #[.int .i64 room, .slice s0.a s0.n s0.c] W fun e w' => e = .returned (.bool true) ∧ KeptH W w' := by
  have hs := Sat.begin W
  refine law_of (hoardlaw13_LirsTold_calls ?_)
  rw [hoardlaw13_LirsTold_def, hoardlaw13_LirsTold_raw]
  refine (long13 (s0 := s0) hs).mono fun e w ⟨hv, he, hsz, hs⟩ => ⟨_, he, ?_⟩
  refine ite_cases (fun h1 => ⟨rfl, hs⟩) (fun h1 => ?_)
  obtain ⟨hlen, hsz⟩ := hsz h1
  refine (lirs_New_at hs).mono fun e w ⟨b, he, hs⟩ => ⟨_, he, ite_false rfl ?_⟩
  have hR := roomR_range room
  have hx0 := lOk0 hR.1 hR.2
  generalize roomR room = c at hs hR hx0
  have fin : ∀ (w : World) (x : LirsS) (I : List ByteArray) (sI : Sl) (n : Nat), n ≤ 300 → LOk c x → I.length ≤ n → (∀ k ∈ I, k ∈ lRes x ∧ k.size < 64) → Sat W w [recs Rec.str sI I, lirR b c (3 * n) x, old W] →
      hoardlaw13_LirsTold_j7 idJ (fun v w' => v = .bool true ∧ Sat W w' [old W]) (some ⟨b, 0, none⟩) sI w := by
    intro w x I sI n hn hx hI hm hs
    rw [hoardlaw13_LirsTold_j7_def, hoardlaw13_LirsTold_j7_raw]
    have hln := rdb_len (s := sI) hs
    have loop : ∀ (f i : Nat) (w : World), i + f = I.length → Sat W w [recs Rec.str sI I, lirR b c (3 * n) x, old W] → hoardlaw13_LirsTold_l8 idJ (fun v w' => v = .bool true ∧ Sat W w' [old W]) (f + 1) (some ⟨b, 0, none⟩) sI (i : Int) w := by
      clear hs
      intro f
      induction f with
      | zero =>
        intro i w hi hs
        rw [hoardlaw13_LirsTold_l8_raw]
        refine ite_false (decide_eq_false (by omega)) ?_
        rw [hoardlaw13_LirsTold_j9_def, hoardlaw13_LirsTold_j9_raw]
        exact call1_of (known13 hs) fun e w ⟨he, hs⟩ => ⟨_, he, rfl, by exact Sat.fin hs⟩
      | succ f ih =>
        intro i w hi hs
        rw [hoardlaw13_LirsTold_l8_raw]
        refine ite_true (decide_eq_true (by omega)) ?_
        repeat (first | with_reducible refine nilck_some ?_ | ((with_reducible refine atLd ?_); first | refine ld_b hs ?_ | refine ld_b (x := ⟨_, _, _⟩) hs ?_ | refine ld_r0 hs ?_ | refine ld_r1 hs ?_ | refine ld_rd0 ha_ hs ?_ | refine ld_rd1 ha_ hs ?_) | ((with_reducible refine isSt ?_); first | refine st_b hs fun w hs => ?_ | refine st_r0 hs fun w hs => ?_ | refine st_r1 hs fun w hs => ?_) | ((with_reducible refine isIdx ?_); first | refine idx_s hs fun b_ o_ hs => ?_ | refine idx_rd hs fun b_ o_ ha_ => ?_) | with_reducible refine newB_at hs fun b_ w hs => ?_ | ((with_reducible refine isLdS ?_); first | refine ldS_b ?_ | refine ldS_b (x := ⟨_, _, _⟩) ?_ | refine ldS_rs0 hs ?_ | refine ldS_rd0 ha_ ?_) | ((with_reducible refine isKeep ?_); first | refine keep_of hs ?_ | refine keep_imp hs ?_) | with_reducible refine when_om ?_ | with_reducible refine drawW_sat hs fun w hs => ?_)
        rw [Int.toNat_natCast]
        obtain ⟨h1, h2⟩ := hm _ (getD_mem (d := default) (show i < I.length by omega))
        refine call1_of (lirs_Has hs h2) fun e w ⟨he, hs⟩ => ⟨_, he, ?_⟩
        rw [decide_eq_true h1]
        refine ite_false rfl ?_
        rw [show IntKind.wrap .i64 ((i : Int) + 1) = ((i + 1 : Nat) : Int) by rw [i64_in _ (by omega)]; omega]
        exact ih (i + 1) w (by omega) (by exact Sat.fin hs)
    refine exM_of (I.length + 1) ?_
    exact loop I.length 0 w (by omega) hs
  have loop : ∀ (f i : Nat) (w : World) (x : LirsS) (I : List ByteArray) (sI : Sl), i + f = ks.length → LOk c x → I.Nodup → (∀ k, k ∈ I ↔ k ∈ lRes x) → I.length ≤ i → (∀ k ∈ I, k.size < 64) → Sat W w [recs Rec.str sI I, lirR b c (3 * i) x, old W] →
      hoardlaw13_LirsTold_l1 idJ (fun v w' => v = .bool true ∧ Sat W w' [old W]) (f + 1) s0 (some ⟨b, 0, none⟩) sI (i : Int) w := by
    clear hs
    intro f
    induction f with
    | zero =>
      intro i w x I sI hi hx hnd hm hI hz hs
      have hn := rdb_len (s := s0) hs
      rw [hoardlaw13_LirsTold_l1_raw]
      refine ite_false (decide_eq_false (by omega)) ?_
      exact fin w x I sI i (by omega) hx hI (fun k hk => ⟨(hm k).1 hk, hz k hk⟩) hs
    | succ f ih =>
      intro i w x I sI hi hx hnd hm hI hz hs
      have hn := rdb_len (s := s0) hs
      rw [hoardlaw13_LirsTold_l1_raw]
      refine ite_true (decide_eq_true (by omega)) ?_
      repeat (first | with_reducible refine nilck_some ?_ | ((with_reducible refine atLd ?_); first | refine ld_b hs ?_ | refine ld_b (x := ⟨_, _, _⟩) hs ?_ | refine ld_r0 hs ?_ | refine ld_r1 hs ?_ | refine ld_rd0 ha_ hs ?_ | refine ld_rd1 ha_ hs ?_) | ((with_reducible refine isSt ?_); first | refine st_b hs fun w hs => ?_ | refine st_r0 hs fun w hs => ?_ | refine st_r1 hs fun w hs => ?_) | ((with_reducible refine isIdx ?_); first | refine idx_s hs fun b_ o_ hs => ?_ | refine idx_rd hs fun b_ o_ ha_ => ?_) | with_reducible refine newB_at hs fun b_ w hs => ?_ | ((with_reducible refine isLdS ?_); first | refine ldS_b ?_ | refine ldS_b (x := ⟨_, _, _⟩) ?_ | refine ldS_rs0 hs ?_ | refine ldS_rd0 ha_ ?_) | ((with_reducible refine isKeep ?_); first | refine keep_of hs ?_ | refine keep_imp hs ?_) | with_reducible refine when_om ?_ | with_reducible refine drawW_sat hs fun w hs => ?_)
      rw [Int.toNat_natCast]
      have hkey := hsz _ (getD_mem (d := default) (show i < ks.length by omega))
      refine call1_of (has13 (s0 := sI) (xs := I) hs (by omega)) fun e w ⟨he, hs⟩ => ⟨_, he, ?_⟩
      repeat (first | with_reducible refine nilck_some ?_ | ((with_reducible refine atLd ?_); first | refine ld_b hs ?_ | refine ld_b (x := ⟨_, _, _⟩) hs ?_ | refine ld_r0 hs ?_ | refine ld_r1 hs ?_ | refine ld_rd0 ha_ hs ?_ | refine ld_rd1 ha_ hs ?_) | ((with_reducible refine isSt ?_); first | refine st_b hs fun w hs => ?_ | refine st_r0 hs fun w hs => ?_ | refine st_r1 hs fun w hs => ?_) | ((with_reducible refine isIdx ?_); first | refine idx_s hs fun b_ o_ hs => ?_ | refine idx_rd hs fun b_ o_ ha_ => ?_) | with_reducible refine newB_at hs fun b_ w hs => ?_ | ((with_reducible refine isLdS ?_); first | refine ldS_b ?_ | refine ldS_b (x := ⟨_, _, _⟩) ?_ | refine ldS_rs0 hs ?_ | refine ldS_rd0 ha_ ?_) | ((with_reducible refine isKeep ?_); first | refine keep_of hs ?_ | refine keep_imp hs ?_) | with_reducible refine when_om ?_ | with_reducible refine drawW_sat hs fun w hs => ?_)
      have hmc := (lMost_pos hx.c1).1
      have hc : 0 ≤ c := by have := hx.c1; omega
      refine call2_of (lirs_Access hs (by omega) hmc hc (by omega)) fun e w ⟨l, he, hs⟩ => ⟨_, l, he, ?_⟩
      obtain ⟨hx2, hacc⟩ := lAcc_law hx (k := ks.getD i default) (by omega)
      have hl := hacc.len hx.w.res_nd hx2.w.res_nd
      have hle := hacc.le1
      have hcalm := hacc.calm
      have hno := hacc.no
      have hsub := hacc.sub
      have hhit := hacc.hits
      obtain ⟨hnd2, hm2⟩ := hacc.told hnd hx2.w.res_nd hm
      have hln := rdb_len (s := l) hs
      have hIl := (perm_of_mem hnd hx.w.res_nd hm).length_eq
      have hIl2 := (perm_of_mem hnd2 hx2.w.res_nd hm2).length_eq
      have hin : decide (ks.getD i default ∈ I) = (lAcc c x (ks.getD i default)).1.1 := by rw [hhit]; congr 1; exact propext (hm _)
      have hz2 : ∀ k ∈ inNext I (ks.getD i default) (lAcc c x (ks.getD i default)).1.1 (lAcc c x (ks.getD i default)).1.2, k.size < 64 := by
        intro k hk
        rcases (hacc.mem k).1 ((hm2 k).1 hk) with h | h
        · exact hz k ((hm k).2 h.1)
        · rw [h]; omega
      rw [hin]
      generalize hkk : ks.getD i default = key at *
      generalize hA : lAcc c x key = A at *
      obtain ⟨⟨hit, g⟩, y⟩ := A
      simp only at *
      have hnl := inNext_len (I := I) (k := key) (was := hit) (g := g)
      refine ite_false (by simp) ?_
      have j5 : ∀ (w : World) (sI : Sl), Sat W w [recs Rec.str sI (inNext I key hit g), lirR b c (3 * i + 3) y, old W] → hoardlaw13_LirsTold_j5 idJ (fun v w' => v = .bool true ∧ Sat W w' [old W]) (f + 1) s0 (some ⟨b, 0, none⟩) sI (i : Int) w := by
        intro w sI hs
        have hlI := rdb_len (s := sI) hs
        rw [hoardlaw13_LirsTold_j5_def, hoardlaw13_LirsTold_j5_raw]
        refine call1_of (lirs_Len2 hs hx2 (by omega)) fun e w ⟨he, hs⟩ => ⟨_, he, ?_⟩
        refine ite_false (by rw [hlI, hIl2]; simp) ?_
        rw [hoardlaw13_LirsTold_j6_def, hoardlaw13_LirsTold_j6_raw]
        rw [show IntKind.wrap .i64 ((i : Int) + 1) = ((i + 1 : Nat) : Int) by rw [i64_in _ (by omega)]; omega]
        exact ih (i + 1) w y _ sI (by omega) hx2 hnd2 hm2 (by omega) hz2 (by exact Sat.fin hs)
      have j4 : ∀ (w : World) (sI : Sl), Sat W w [recs Rec.str sI (gCuts I g), lirR b c (3 * i + 3) y, old W] → hoardlaw13_LirsTold_j4 idJ (fun v w' => v = .bool true ∧ Sat W w' [old W]) (f + 1) s0 (some ⟨b, 0, none⟩) sI (i : Int) hit w := by
        intro w sI hs
        rw [hoardlaw13_LirsTold_j4_def, hoardlaw13_LirsTold_j4_raw]
        refine ite_cases (fun h2 => ?_) (fun h2 => ?_)
        · have h2 : hit = false := by simpa using h2
          have e1 : inNext I key hit g = gCuts I g ++ [key] := by unfold inNext; rw [h2]; rfl
          repeat (first | with_reducible refine nilck_some ?_ | ((with_reducible refine atLd ?_); first | refine ld_b hs ?_ | refine ld_b (x := ⟨_, _, _⟩) hs ?_ | refine ld_r0 hs ?_ | refine ld_r1 hs ?_ | refine ld_rd0 ha_ hs ?_ | refine ld_rd1 ha_ hs ?_) | ((with_reducible refine isSt ?_); first | refine st_b hs fun w hs => ?_ | refine st_r0 hs fun w hs => ?_ | refine st_r1 hs fun w hs => ?_) | ((with_reducible refine isIdx ?_); first | refine idx_s hs fun b_ o_ hs => ?_ | refine idx_rd hs fun b_ o_ ha_ => ?_) | with_reducible refine newB_at hs fun b_ w hs => ?_ | ((with_reducible refine isLdS ?_); first | refine ldS_b ?_ | refine ldS_b (x := ⟨_, _, _⟩) ?_ | refine ldS_rs0 hs ?_ | refine ldS_rd0 ha_ ?_) | ((with_reducible refine isKeep ?_); first | refine keep_of hs ?_ | refine keep_imp hs ?_) | with_reducible refine when_om ?_ | with_reducible refine drawW_sat hs fun w hs => ?_)
          have hll : (gCuts I g).length ≤ I.length := by
            have := hnl
            rw [e1] at this
            simp only [List.length_append, List.length_cons, List.length_nil] at this
            omega
          refine app_one (s := sI) (a := ks.getD i default) hs rfl rfl rfl rfl (by decide) (by omega) fun s2 w hs2 hs => ?_
          rw [hkk, ← e1] at hs
          exact j5 w s2 (by exact Sat.fin hs)
        · have h2 : hit = true := by simpa using h2
          have e1 : inNext I key hit g = gCuts I g := by unfold inNext; rw [h2]; rfl
          rw [← e1] at hs
          exact j5 w sI hs
      have j2 : ∀ (w : World), Sat W w (recs Rec.str l g :: [recs Rec.str sI I, lirR b c (3 * i + 3) y, old W]) → hoardlaw13_LirsTold_j2 idJ (fun v w' => v = .bool true ∧ Sat W w' [old W]) (f + 1) s0 (some ⟨b, 0, none⟩) sI (i : Int) hit l w := by
        intro w hs
        rw [hoardlaw13_LirsTold_j2_def, hoardlaw13_LirsTold_j2_raw]
        rcases g_cases hle with hg | ⟨z, hg⟩
        · subst hg
          refine exM_of 1 ?_
          rw [hoardlaw13_LirsTold_l3_raw]
          refine ite_false (decide_eq_false (by rw [hln]; simp)) ?_
          exact j4 w sI (by exact Sat.fin hs)
        · subst hg
          refine exM_of 2 ?_
          rw [hoardlaw13_LirsTold_l3_raw]
          refine ite_true (decide_eq_true (by rw [hln]; simp)) ?_
          have hln1 : l.n = 1 := hln
          repeat (first | with_reducible refine nilck_some ?_ | ((with_reducible refine atLd ?_); first | refine ld_b hs ?_ | refine ld_b (x := ⟨_, _, _⟩) hs ?_ | refine ld_r0 hs ?_ | refine ld_r1 hs ?_ | refine ld_rd0 ha_ hs ?_ | refine ld_rd1 ha_ hs ?_) | ((with_reducible refine isSt ?_); first | refine st_b hs fun w hs => ?_ | refine st_r0 hs fun w hs => ?_ | refine st_r1 hs fun w hs => ?_) | ((with_reducible refine isIdx ?_); first | refine idx_s hs fun b_ o_ hs => ?_ | refine idx_rd hs fun b_ o_ ha_ => ?_) | with_reducible refine newB_at hs fun b_ w hs => ?_ | ((with_reducible refine isLdS ?_); first | refine ldS_b ?_ | refine ldS_b (x := ⟨_, _, _⟩) ?_ | refine ldS_rs0 hs ?_ | refine ldS_rd0 ha_ ?_) | ((with_reducible refine isKeep ?_); first | refine keep_of hs ?_ | refine keep_imp hs ?_) | with_reducible refine when_om ?_ | with_reducible refine drawW_sat hs fun w hs => ?_)
          have hg0 : [z].getD (Int.toNat 0) default = z := rfl
          rw [hg0]
          refine call1_of (has13 (s0 := sI) (xs := I) hs (by omega)) fun e w ⟨he, hs⟩ => ⟨_, he, ?_⟩
          have hzI : z ∈ I := (hm z).2 (hsub z (by simp))
          rw [decide_eq_true hzI]
          refine ite_false rfl ?_
          repeat (first | with_reducible refine nilck_some ?_ | ((with_reducible refine atLd ?_); first | refine ld_b hs ?_ | refine ld_b (x := ⟨_, _, _⟩) hs ?_ | refine ld_r0 hs ?_ | refine ld_r1 hs ?_ | refine ld_rd0 ha_ hs ?_ | refine ld_rd1 ha_ hs ?_) | ((with_reducible refine isSt ?_); first | refine st_b hs fun w hs => ?_ | refine st_r0 hs fun w hs => ?_ | refine st_r1 hs fun w hs => ?_) | ((with_reducible refine isIdx ?_); first | refine idx_s hs fun b_ o_ hs => ?_ | refine idx_rd hs fun b_ o_ ha_ => ?_) | with_reducible refine newB_at hs fun b_ w hs => ?_ | ((with_reducible refine isLdS ?_); first | refine ldS_b ?_ | refine ldS_b (x := ⟨_, _, _⟩) ?_ | refine ldS_rs0 hs ?_ | refine ldS_rd0 ha_ ?_) | ((with_reducible refine isKeep ?_); first | refine keep_of hs ?_ | refine keep_imp hs ?_) | with_reducible refine when_om ?_ | with_reducible refine drawW_sat hs fun w hs => ?_)
          rw [hg0]
          refine (cut13 (s0 := sI) (xs := I) hs (by omega)).mono fun e w ⟨s3, he, hs⟩ => ⟨s3, he, ?_⟩
          rw [show IntKind.wrap .i64 ((0 : Int) + 1) = 1 by decide]
          dsimp only
          rw [hoardlaw13_LirsTold_l3_raw]
          refine ite_false (decide_eq_false (by rw [hln]; simp)) ?_
          exact j4 w s3 (by exact Sat.fin hs)
      have hs2 : Sat W w (recs Rec.str l g :: [recs Rec.str sI I, lirR b c (3 * i + 3) y, old W]) := by exact Sat.fin hs
      refine ite_cases (fun h2 => ?_) (fun h2 => ?_)
      · have hg0 := hcalm h2
        refine ite_false (decide_eq_false (by rw [hln, hg0]; simp)) ?_
        repeat (first | with_reducible refine nilck_some ?_ | ((with_reducible refine atLd ?_); first | refine ld_b hs ?_ | refine ld_b (x := ⟨_, _, _⟩) hs ?_ | refine ld_r0 hs ?_ | refine ld_r1 hs ?_ | refine ld_rd0 ha_ hs ?_ | refine ld_rd1 ha_ hs ?_) | ((with_reducible refine isSt ?_); first | refine st_b hs fun w hs => ?_ | refine st_r0 hs fun w hs => ?_ | refine st_r1 hs fun w hs => ?_) | ((with_reducible refine isIdx ?_); first | refine idx_s hs fun b_ o_ hs => ?_ | refine idx_rd hs fun b_ o_ ha_ => ?_) | with_reducible refine newB_at hs fun b_ w hs => ?_ | ((with_reducible refine isLdS ?_); first | refine ldS_b ?_ | refine ldS_b (x := ⟨_, _, _⟩) ?_ | refine ldS_rs0 hs ?_ | refine ldS_rd0 ha_ ?_) | ((with_reducible refine isKeep ?_); first | refine keep_of hs ?_ | refine keep_imp hs ?_) | with_reducible refine when_om ?_ | with_reducible refine drawW_sat hs fun w hs => ?_)
        refine call1_of (has13 (s0 := l) (xs := g) hs (by omega)) fun e w ⟨he, hs⟩ => ⟨_, he, ?_⟩
        rw [hkk, decide_eq_false hno]
        refine ite_false rfl ?_
        exact j2 w (by exact Sat.fin hs)
      · repeat (first | with_reducible refine nilck_some ?_ | ((with_reducible refine atLd ?_); first | refine ld_b hs ?_ | refine ld_b (x := ⟨_, _, _⟩) hs ?_ | refine ld_r0 hs ?_ | refine ld_r1 hs ?_ | refine ld_rd0 ha_ hs ?_ | refine ld_rd1 ha_ hs ?_) | ((with_reducible refine isSt ?_); first | refine st_b hs fun w hs => ?_ | refine st_r0 hs fun w hs => ?_ | refine st_r1 hs fun w hs => ?_) | ((with_reducible refine isIdx ?_); first | refine idx_s hs fun b_ o_ hs => ?_ | refine idx_rd hs fun b_ o_ ha_ => ?_) | with_reducible refine newB_at hs fun b_ w hs => ?_ | ((with_reducible refine isLdS ?_); first | refine ldS_b ?_ | refine ldS_b (x := ⟨_, _, _⟩) ?_ | refine ldS_rs0 hs ?_ | refine ldS_rd0 ha_ ?_) | ((with_reducible refine isKeep ?_); first | refine keep_of hs ?_ | refine keep_imp hs ?_) | with_reducible refine when_om ?_ | with_reducible refine drawW_sat hs fun w hs => ?_)
        refine call1_of (has13 (s0 := l) (xs := g) hs (by omega)) fun e w ⟨he, hs⟩ => ⟨_, he, ?_⟩
        rw [hkk, decide_eq_false hno]
        refine ite_false rfl ?_
        exact j2 w (by exact Sat.fin hs)
  refine exM_of (ks.length + 1) ?_
  exact loop ks.length 0 w lirs0 [] ⟨none, 0, 0⟩ (by omega) hx0 (by simp) (fun k => by simp [lRes, lirs0, lThose]) (Nat.le_refl _) (by simp) (by have hs := Sat.nilR Rec.str hs; exact Sat.fin hs)

set_option maxHeartbeats 1000000 in
set_option maxRecDepth 100000 in
theorem lfits_walk {room : Int} {s0 : Sl} {ks : List ByteArray} [hr : ReadsR W s0 Rec.str ks] : Calls Try.prog id_hoardlaw13_LirsFits #[.int .i64 room, .slice s0.a s0.n s0.c] W fun e w' => e = .returned (.bool true) ∧ KeptH W w' := by
  have hs := Sat.begin W
  refine law_of (hoardlaw13_LirsFits_calls ?_)
  rw [hoardlaw13_LirsFits_def, hoardlaw13_LirsFits_raw]
  obtain ⟨n100, hn100⟩ : ∃ n : Int, n = 100 := ⟨_, rfl⟩
  rw [← hn100]
  with_reducible refine ite_by (fun h0 => ?_) (fun h0 => ?_)
  · exact ⟨rfl, hs⟩
  with_reducible refine ite_by (fun h00 => ?_) (fun h00 => ?_)
  · exact ⟨rfl, hs⟩
  refine (long13 (s0 := s0) hs).mono fun e w ⟨hv, he, hsz, hs⟩ => ⟨_, he, ?_⟩
  refine ite_cases (fun h1 => ⟨rfl, hs⟩) (fun h1 => ?_)
  obtain ⟨hlen, hsz⟩ := hsz h1
  rw [hoardlaw13_LirsFits_j1_def, hoardlaw13_LirsFits_j1_raw]
  refine (lirs_New_at hs).mono fun e w ⟨b, he, hs⟩ => ⟨_, he, ite_false rfl ?_⟩
  have hR := roomR_range room
  have hx0 := lOk0 hR.1 hR.2
  have hrr : roomR room = room := by unfold roomR; omega
  rw [hrr] at hs hR hx0
  have loop : ∀ (f i : Nat) (w : World) (x : LirsS) (I : List ByteArray) (sI : Sl), i + f = ks.length → LOk room x → I.Nodup → (∀ k, k ∈ I ↔ k ∈ lRes x) → I.length ≤ i → Sat W w [recs Rec.str sI I, lirR b room (3 * i) x, old W] →
      hoardlaw13_LirsFits_l2 idJ (fun v w' => v = .bool true ∧ Sat W w' [old W]) (f + 1) room s0 (some ⟨b, 0, none⟩) sI (i : Int) w := by
    clear hs
    intro f
    induction f with
    | zero =>
      intro i w x I sI hi hx hnd hm hI hs
      have hn := rdb_len (s := s0) hs
      rw [hoardlaw13_LirsFits_l2_raw]
      refine ite_false (decide_eq_false (by omega)) ?_
      rw [hoardlaw13_LirsFits_j5_def, hoardlaw13_LirsFits_j5_raw]
      exact call1_of (known13 hs) fun e w ⟨he, hs⟩ => ⟨_, he, rfl, by exact Sat.fin hs⟩
    | succ f ih =>
      intro i w x I sI hi hx hnd hm hI hs
      have hn := rdb_len (s := s0) hs
      have hln := rdb_len (s := sI) hs
      rw [hoardlaw13_LirsFits_l2_raw]
      refine ite_true (decide_eq_true (by omega)) ?_
      repeat (first | with_reducible refine nilck_some ?_ | ((with_reducible refine atLd ?_); first | refine ld_b hs ?_ | refine ld_b (x := ⟨_, _, _⟩) hs ?_ | refine ld_r0 hs ?_ | refine ld_r1 hs ?_ | refine ld_rd0 ha_ hs ?_ | refine ld_rd1 ha_ hs ?_) | ((with_reducible refine isSt ?_); first | refine st_b hs fun w hs => ?_ | refine st_r0 hs fun w hs => ?_ | refine st_r1 hs fun w hs => ?_) | ((with_reducible refine isIdx ?_); first | refine idx_s hs fun b_ o_ hs => ?_ | refine idx_rd hs fun b_ o_ ha_ => ?_) | with_reducible refine newB_at hs fun b_ w hs => ?_ | ((with_reducible refine isLdS ?_); first | refine ldS_b ?_ | refine ldS_b (x := ⟨_, _, _⟩) ?_ | refine ldS_rs0 hs ?_ | refine ldS_rd0 ha_ ?_) | ((with_reducible refine isKeep ?_); first | refine keep_of hs ?_ | refine keep_imp hs ?_) | with_reducible refine when_om ?_ | with_reducible refine drawW_sat hs fun w hs => ?_)
      rw [Int.toNat_natCast]
      have hkey := hsz _ (getD_mem (d := default) (show i < ks.length by omega))
      have hIl := (perm_of_mem hnd hx.w.res_nd hm).length_eq
      refine call1_of (has13 (s0 := sI) (xs := I) hs (by omega)) fun e w ⟨he, hs⟩ => ⟨_, he, ?_⟩
      have hrl := lRes_len x
      -- the access, once it is known that nobody goes
      have j4 : ∀ (was : Bool) (w : World) (I2 : List ByteArray) (s2 : Sl), I2.Nodup → I2.length ≤ i + 1 → (I2.length : Int) ≤ room → (∀ k, k ∈ I2 ↔ k ∈ I ∨ k = ks.getD i default) → was = decide (ks.getD i default ∈ I) → Sat W w [recs Rec.str s2 I2, lirR b room (3 * i) x, old W] →
          hoardlaw13_LirsFits_j4 idJ (fun v w' => v = .bool true ∧ Sat W w' [old W]) (f + 1) room s0 (some ⟨b, 0, none⟩) s2 (i : Int) was w := by
        intro was w I2 s2 hnd2 hI2 hI3 hm2 hwas hs
        rw [hwas]
        have hl2 := rdb_len (s := s2) hs
        rw [hoardlaw13_LirsFits_j4_def, hoardlaw13_LirsFits_j4_raw]
        repeat (first | with_reducible refine nilck_some ?_ | ((with_reducible refine atLd ?_); first | refine ld_b hs ?_ | refine ld_b (x := ⟨_, _, _⟩) hs ?_ | refine ld_r0 hs ?_ | refine ld_r1 hs ?_ | refine ld_rd0 ha_ hs ?_ | refine ld_rd1 ha_ hs ?_) | ((with_reducible refine isSt ?_); first | refine st_b hs fun w hs => ?_ | refine st_r0 hs fun w hs => ?_ | refine st_r1 hs fun w hs => ?_) | ((with_reducible refine isIdx ?_); first | refine idx_s hs fun b_ o_ hs => ?_ | refine idx_rd hs fun b_ o_ ha_ => ?_) | with_reducible refine newB_at hs fun b_ w hs => ?_ | ((with_reducible refine isLdS ?_); first | refine ldS_b ?_ | refine ldS_b (x := ⟨_, _, _⟩) ?_ | refine ldS_rs0 hs ?_ | refine ldS_rd0 ha_ ?_) | ((with_reducible refine isKeep ?_); first | refine keep_of hs ?_ | refine keep_imp hs ?_) | with_reducible refine when_om ?_ | with_reducible refine drawW_sat hs fun w hs => ?_)
        rw [Int.toNat_natCast]
        have hmc := (lMost_pos hx.c1).1
        have hc : 0 ≤ room := by omega
        refine call2_of (lirs_Access hs (by omega) hmc hc (by omega)) fun e w ⟨l, he, hs⟩ => ⟨_, l, he, ?_⟩
        obtain ⟨hx2, hacc⟩ := lAcc_law hx (k := ks.getD i default) (by omega)
        have hl := hacc.len hx.w.res_nd hx2.w.res_nd
        have hcalm := hacc.calm
        have hhit := hacc.hits
        have hmem := hacc.mem
        have hlg := rdb_len (s := l) hs
        have hg0 : (lAcc room x (ks.getD i default)).1.2 = [] := by
          unfold lAcc
          split
          · rfl
          · split
            · rfl
            · rename_i h1 h2
              have hno : ks.getD i default ∉ lRes x := fun h => by
                rcases mem_lRes.1 h with h | h
                · exact h2 h
                · exact h1 (.inl ((lIs_iff hx.w.sn (by decide)).2 h))
              have hlt : (lLen x : Int) < room := by
                have hp : (ks.getD i default :: I).length ≤ I2.length := nodup_sub_len (List.nodup_cons.2 ⟨fun h => hno ((hm _).1 h), hnd⟩) fun k hk => by
                  rw [hm2]
                  rcases List.mem_cons.1 hk with h | h
                  · exact .inr h
                  · exact .inl h
                simp only [List.length_cons] at hp
                omega
              show (lRoom room x).1 = []
              unfold lRoom
              rw [if_neg (by omega)]
        rw [hhit, show decide (ks.getD i default ∈ lRes x) = decide (ks.getD i default ∈ I) by congr 1; exact propext (hm _).symm]
        refine ite_false (by simp) ?_
        refine ite_false (decide_eq_false (by rw [hlg, hg0]; simp)) ?_
        refine call1_of (lirs_Len2 hs hx2 (by omega)) fun e w ⟨he, hs⟩ => ⟨_, he, ?_⟩
        have hm3 : ∀ k, k ∈ I2 ↔ k ∈ lRes (lAcc room x (ks.getD i default)).2 := fun k => by
          rw [hm2, hmem, hg0, hm]
          simp
        have hl3 := (perm_of_mem hnd2 hx2.w.res_nd hm3).length_eq
        refine ite_false (by rw [hl2, hl3]; simp) ?_
        rw [show IntKind.wrap .i64 ((i : Int) + 1) = ((i + 1 : Nat) : Int) by rw [i64_in _ (by omega)]; omega]
        exact ih (i + 1) w _ I2 s2 (by omega) hx2 hnd2 hm3 hI2 (by exact Sat.fin hs)
      have hxl := hx.len
      by_cases hk : ks.getD i default ∈ I
      · rw [decide_eq_true hk]
        refine ite_false rfl ?_
        rw [hoardlaw13_LirsFits_j3_def, hoardlaw13_LirsFits_j3_raw]
        refine ite_false rfl ?_
        have hI5 : (I.length : Int) ≤ room := by omega
        have hI6 : ∀ k, k ∈ I ↔ k ∈ I ∨ k = ks.getD i default := fun k => ⟨.inl, fun h => h.elim id fun h => by rw [h]; exact hk⟩
        with_reducible refine j4 true w I sI hnd (Nat.le_succ_of_le hI) hI5 hI6 (decide_eq_true hk).symm ?_
        exact Sat.fin hs
      · rw [decide_eq_false hk]
        refine ite_true rfl ?_
        with_reducible refine ite_by (fun h5 => ?_) (fun h5 => ?_)
        · exact call1_of (known13 hs) fun e w ⟨he, hs⟩ => ⟨_, he, rfl, by exact Sat.fin hs⟩
        · rw [hoardlaw13_LirsFits_j3_def, hoardlaw13_LirsFits_j3_raw]
          refine ite_true rfl ?_
          repeat (first | with_reducible refine nilck_some ?_ | ((with_reducible refine atLd ?_); first | refine ld_b hs ?_ | refine ld_b (x := ⟨_, _, _⟩) hs ?_ | refine ld_r0 hs ?_ | refine ld_r1 hs ?_ | refine ld_rd0 ha_ hs ?_ | refine ld_rd1 ha_ hs ?_) | ((with_reducible refine isSt ?_); first | refine st_b hs fun w hs => ?_ | refine st_r0 hs fun w hs => ?_ | refine st_r1 hs fun w hs => ?_) | ((with_reducible refine isIdx ?_); first | refine idx_s hs fun b_ o_ hs => ?_ | refine idx_rd hs fun b_ o_ ha_ => ?_) | with_reducible refine newB_at hs fun b_ w hs => ?_ | ((with_reducible refine isLdS ?_); first | refine ldS_b ?_ | refine ldS_b (x := ⟨_, _, _⟩) ?_ | refine ldS_rs0 hs ?_ | refine ldS_rd0 ha_ ?_) | ((with_reducible refine isKeep ?_); first | refine keep_of hs ?_ | refine keep_imp hs ?_) | with_reducible refine when_om ?_ | with_reducible refine drawW_sat hs fun w hs => ?_)
          try rw [Int.toNat_natCast]
          refine app_one (s := sI) (a := ks.getD i default) hs rfl rfl rfl rfl (by decide) (by omega) fun s2 w hs2 hs => ?_
          have hnd5 : (I ++ [ks.getD i default]).Nodup := by
            rw [List.nodup_append]
            exact ⟨hnd, by simp, fun a ha b hb hab => by rw [List.mem_singleton] at hb; subst hb; exact hk (hab ▸ ha)⟩
          have hI4 : (I ++ [ks.getD i default]).length ≤ i + 1 := by simp; omega
          have hI5 : ((I ++ [ks.getD i default]).length : Int) ≤ room := by simp; omega
          have hI6 : ∀ k, k ∈ I ++ [ks.getD i default] ↔ k ∈ I ∨ k = ks.getD i default := fun k => by rw [List.mem_append, List.mem_singleton]
          with_reducible refine j4 false w (I ++ [ks.getD i default]) s2 hnd5 hI4 hI5 hI6 (decide_eq_false hk).symm ?_
          exact Sat.fin hs
  refine exM_of (ks.length + 1) ?_
  exact loop ks.length 0 w lirs0 [] ⟨none, 0, 0⟩ (by omega) hx0 (by simp) (fun k => by simp [lRes, lirs0, lThose]) (Nat.le_refl _) (by have hs := Sat.nilR Rec.str hs; exact Sat.fin hs)
end
end Go.Proofs.Ytgmhoenmhnlojaa
