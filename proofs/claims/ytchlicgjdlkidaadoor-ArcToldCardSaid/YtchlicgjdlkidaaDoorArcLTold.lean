/- ArcTold: the walk. -/
import Derived.Test.YtchlicgjdlkidaaDoorArc10
import Derived.Test.YtchlicgjdlkidaaDoorShalArcTold
set_option linter.unusedVariables false
set_option linter.unusedSimpArgs false
set_option linter.unnecessarySimpa false
set_option linter.unusedSectionVars false
namespace Go.Hb
theorem inNext_len {I : List ByteArray} {k : ByteArray} {was : Bool} {g : List ByteArray} : (inNext I k was g).length ≤ I.length + 1 := by
  have h : ∀ (g l : List ByteArray), (gCuts l g).length ≤ l.length := by
    intro g
    induction g with
    | nil => intro l; exact Nat.le_refl _
    | cons y g ih =>
      intro l
      have h1 := ih (gTake l y)
      have h2 := gTake_len l y
      show (gCuts (gTake l y) g).length ≤ _
      omega
  have := h g I
  unfold inNext
  split
  · omega
  · simp; omega
end Go.Hb
namespace Go.Proofs.YtchlicgjdlkidaaDoor
open Go.Hb Go.IntWalk
section
variable {W w : World} {L M : List HP} {F : HP → List HP}
set_option maxHeartbeats 1000000 in
set_option maxRecDepth 100000 in
theorem atold_walk {room : Int} {s0 : Sl} {ks : List ByteArray} [hr : ReadsR W s0 Rec.str ks] (hT : TabW W) : Calls Tryd.prog id_hoardlaw10_ArcTold #[.int .i64 room, .slice s0.a s0.n s0.c] W fun e w' => e = .returned (.bool true) ∧ KeptH W w' := by
  have hs := Sat.begin W
  refine law_of (hoardlaw10_ArcTold_calls ?_)
  rw [hoardlaw10_ArcTold_def, hoardlaw10_ArcTold_raw]
  refine (long10 (s0 := s0) hs).mono fun e w ⟨hv, he, hsz, hs⟩ => ⟨_, he, ?_⟩
  refine ite_cases (fun h1 => ⟨rfl, hs⟩) (fun h1 => ?_)
  obtain ⟨hlen, hsz⟩ := hsz h1
  refine (arc_New_at hs).mono fun e w ⟨b, he, hs⟩ => ⟨_, he, ite_false rfl ?_⟩
  have hR := roomR_range room
  have hx0 := aOk0 hR.1 hR.2
  generalize roomR room = c at hs hR hx0
  have fin : ∀ (w : World) (x : ArcS) (I : List ByteArray) (sI : Sl) (n : Nat), n ≤ 300 → ArcOk c x → I.length ≤ n → (∀ k ∈ I, k ∈ aRes x ∧ k.size < 64) → Sat W w [recs Rec.str sI I, arcR b c (3 * n) x, old W] →
      hoardlaw10_ArcTold_j7 idJ (fun v w' => v = .bool true ∧ Sat W w' [old W]) (some ⟨b, 0, none⟩) sI w := by
    intro w x I sI n hn hx hI hm hs
    rw [hoardlaw10_ArcTold_j7_def, hoardlaw10_ArcTold_j7_raw]
    have hln := rdb_len (s := sI) hs
    have loop : ∀ (f i : Nat) (w : World), i + f = I.length → Sat W w [recs Rec.str sI I, arcR b c (3 * n) x, old W] → hoardlaw10_ArcTold_l8 idJ (fun v w' => v = .bool true ∧ Sat W w' [old W]) (f + 1) (some ⟨b, 0, none⟩) sI (i : Int) w := by
      clear hs
      intro f
      induction f with
      | zero =>
        intro i w hi hs
        rw [hoardlaw10_ArcTold_l8_raw]
        refine ite_false (decide_eq_false (by omega)) ?_
        rw [hoardlaw10_ArcTold_j9_def, hoardlaw10_ArcTold_j9_raw]
        exact call1_of (known10 hs hT) fun e w ⟨he, hs⟩ => ⟨_, he, rfl, by exact Sat.fin hs⟩
      | succ f ih =>
        intro i w hi hs
        rw [hoardlaw10_ArcTold_l8_raw]
        refine ite_true (decide_eq_true (by omega)) ?_
        repeat (first | with_reducible refine nilck_some ?_ | ((with_reducible refine atLd ?_); first | refine ld_b hs ?_ | refine ld_b (x := ⟨_, _, _⟩) hs ?_ | refine ld_r0 hs ?_ | refine ld_r1 hs ?_ | refine ld_rd0 ha_ hs ?_ | refine ld_rd1 ha_ hs ?_) | ((with_reducible refine isSt ?_); first | refine st_b hs fun w hs => ?_ | refine st_r0 hs fun w hs => ?_ | refine st_r1 hs fun w hs => ?_) | ((with_reducible refine isIdx ?_); first | refine idx_s hs fun b_ o_ hs => ?_ | refine idx_rd hs fun b_ o_ ha_ => ?_) | with_reducible refine newB_at hs fun b_ w hs => ?_ | ((with_reducible refine isLdS ?_); first | refine ldS_b ?_ | refine ldS_b (x := ⟨_, _, _⟩) ?_ | refine ldS_rs0 hs ?_ | refine ldS_rd0 ha_ ?_) | ((with_reducible refine isKeep ?_); first | refine keep_of hs ?_ | refine keep_imp hs ?_) | with_reducible refine when_om ?_ | with_reducible refine drawW_sat hs fun w hs => ?_)
        rw [Int.toNat_natCast]
        obtain ⟨h1, h2⟩ := hm _ (getD_mem (d := default) (show i < I.length by omega))
        refine call1_of (arc_Has hs h2) fun e w ⟨he, hs⟩ => ⟨_, he, ?_⟩
        rw [decide_eq_true h1]
        refine ite_false rfl ?_
        rw [show IntKind.wrap .i64 ((i : Int) + 1) = ((i + 1 : Nat) : Int) by rw [i64_in _ (by omega)]; omega]
        exact ih (i + 1) w (by omega) (by exact Sat.fin hs)
    refine exM_of (I.length + 1) ?_
    exact loop I.length 0 w (by omega) hs
  have loop : ∀ (f i : Nat) (w : World) (x : ArcS) (I : List ByteArray) (sI : Sl), i + f = ks.length → ArcOk c x → I.Nodup → (∀ k, k ∈ I ↔ k ∈ aRes x) → I.length ≤ i → (∀ k ∈ I, k.size < 64) → Sat W w [recs Rec.str sI I, arcR b c (3 * i) x, old W] →
      hoardlaw10_ArcTold_l1 idJ (fun v w' => v = .bool true ∧ Sat W w' [old W]) (f + 1) s0 (some ⟨b, 0, none⟩) sI (i : Int) w := by
    clear hs
    intro f
    induction f with
    | zero =>
      intro i w x I sI hi hx hnd hm hI hz hs
      have hn := rdb_len (s := s0) hs
      rw [hoardlaw10_ArcTold_l1_raw]
      refine ite_false (decide_eq_false (by omega)) ?_
      exact fin w x I sI i (by omega) hx hI (fun k hk => ⟨(hm k).1 hk, hz k hk⟩) hs
    | succ f ih =>
      intro i w x I sI hi hx hnd hm hI hz hs
      have hn := rdb_len (s := s0) hs
      rw [hoardlaw10_ArcTold_l1_raw]
      refine ite_true (decide_eq_true (by omega)) ?_
      repeat (first | with_reducible refine nilck_some ?_ | ((with_reducible refine atLd ?_); first | refine ld_b hs ?_ | refine ld_b (x := ⟨_, _, _⟩) hs ?_ | refine ld_r0 hs ?_ | refine ld_r1 hs ?_ | refine ld_rd0 ha_ hs ?_ | refine ld_rd1 ha_ hs ?_) | ((with_reducible refine isSt ?_); first | refine st_b hs fun w hs => ?_ | refine st_r0 hs fun w hs => ?_ | refine st_r1 hs fun w hs => ?_) | ((with_reducible refine isIdx ?_); first | refine idx_s hs fun b_ o_ hs => ?_ | refine idx_rd hs fun b_ o_ ha_ => ?_) | with_reducible refine newB_at hs fun b_ w hs => ?_ | ((with_reducible refine isLdS ?_); first | refine ldS_b ?_ | refine ldS_b (x := ⟨_, _, _⟩) ?_ | refine ldS_rs0 hs ?_ | refine ldS_rd0 ha_ ?_) | ((with_reducible refine isKeep ?_); first | refine keep_of hs ?_ | refine keep_imp hs ?_) | with_reducible refine when_om ?_ | with_reducible refine drawW_sat hs fun w hs => ?_)
      rw [Int.toNat_natCast]
      have hkey := hsz _ (getD_mem (d := default) (show i < ks.length by omega))
      refine call1_of (has10 (s0 := sI) (xs := I) hs (by omega)) fun e w ⟨he, hs⟩ => ⟨_, he, ?_⟩
      repeat (first | with_reducible refine nilck_some ?_ | ((with_reducible refine atLd ?_); first | refine ld_b hs ?_ | refine ld_b (x := ⟨_, _, _⟩) hs ?_ | refine ld_r0 hs ?_ | refine ld_r1 hs ?_ | refine ld_rd0 ha_ hs ?_ | refine ld_rd1 ha_ hs ?_) | ((with_reducible refine isSt ?_); first | refine st_b hs fun w hs => ?_ | refine st_r0 hs fun w hs => ?_ | refine st_r1 hs fun w hs => ?_) | ((with_reducible refine isIdx ?_); first | refine idx_s hs fun b_ o_ hs => ?_ | refine idx_rd hs fun b_ o_ ha_ => ?_) | with_reducible refine newB_at hs fun b_ w hs => ?_ | ((with_reducible refine isLdS ?_); first | refine ldS_b ?_ | refine ldS_b (x := ⟨_, _, _⟩) ?_ | refine ldS_rs0 hs ?_ | refine ldS_rd0 ha_ ?_) | ((with_reducible refine isKeep ?_); first | refine keep_of hs ?_ | refine keep_imp hs ?_) | with_reducible refine when_om ?_ | with_reducible refine drawW_sat hs fun w hs => ?_)
      have hc : 0 ≤ c := by have := hx.c1; omega
      refine call2_of (arc_Access hs hx (by omega) (by omega)) fun e w ⟨l, he, hs⟩ => ⟨_, l, he, ?_⟩
      obtain ⟨hx2, hacc⟩ := aAcc_law2 hx (k := ks.getD i default) (by omega)
      have hl := hacc.len hx.w.res_nd hx2.w.res_nd
      have hle := hacc.le1
      have hcalm := hacc.calm
      have hno := hacc.no
      have hsub := hacc.sub
      have hhit := hacc.hits
      obtain ⟨hnd2, hm2⟩ := hacc.told hnd hx2.w.res_nd hm
      have hln := rdb_len (s := l) hs
      have hIl := (perm_of_mem hnd hx.w.res_nd hm).length_eq
      have hIl2 := (perm_of_mem hnd2 hx2.w.res_nd hm2).length_eq
      have hin : decide (ks.getD i default ∈ I) = (aAcc c x (ks.getD i default)).1.1 := by rw [hhit]; congr 1; exact propext (hm _)
      have hz2 : ∀ k ∈ inNext I (ks.getD i default) (aAcc c x (ks.getD i default)).1.1 (aAcc c x (ks.getD i default)).1.2, k.size < 64 := by
        intro k hk
        rcases (hacc.mem k).1 ((hm2 k).1 hk) with h | h
        · exact hz k ((hm k).2 h.1)
        · rw [h]; omega
      rw [hin]
      generalize hkk : ks.getD i default = key at *
      generalize hA : aAcc c x key = A at *
      obtain ⟨⟨hit, g⟩, y⟩ := A
      simp only at *
      have hnl := inNext_len (I := I) (k := key) (was := hit) (g := g)
      refine ite_false (by simp) ?_
      have j5 : ∀ (w : World) (sI : Sl), Sat W w [recs Rec.str sI (inNext I key hit g), arcR b c (3 * i + 3) y, old W] → hoardlaw10_ArcTold_j5 idJ (fun v w' => v = .bool true ∧ Sat W w' [old W]) (f + 1) s0 (some ⟨b, 0, none⟩) sI (i : Int) w := by
        intro w sI hs
        have hlI := rdb_len (s := sI) hs
        rw [hoardlaw10_ArcTold_j5_def, hoardlaw10_ArcTold_j5_raw]
        refine call1_of (arc_Len2 hs hx2 (by omega)) fun e w ⟨he, hs⟩ => ⟨_, he, ?_⟩
        refine ite_false (by rw [hlI, hIl2]; simp) ?_
        rw [hoardlaw10_ArcTold_j6_def, hoardlaw10_ArcTold_j6_raw]
        rw [show IntKind.wrap .i64 ((i : Int) + 1) = ((i + 1 : Nat) : Int) by rw [i64_in _ (by omega)]; omega]
        exact ih (i + 1) w y _ sI (by omega) hx2 hnd2 hm2 (by omega) hz2 (by exact Sat.fin hs)
      have j4 : ∀ (w : World) (sI : Sl), Sat W w [recs Rec.str sI (gCuts I g), arcR b c (3 * i + 3) y, old W] → hoardlaw10_ArcTold_j4 idJ (fun v w' => v = .bool true ∧ Sat W w' [old W]) (f + 1) s0 (some ⟨b, 0, none⟩) sI (i : Int) hit w := by
        intro w sI hs
        rw [hoardlaw10_ArcTold_j4_def, hoardlaw10_ArcTold_j4_raw]
        refine ite_cases (fun h2 => ?_) (fun h2 => ?_)
        · have h2 : hit = false := by simpa using h2
          have e1 : inNext I key hit g = gCuts I g ++ [key] := by unfold inNext; rw [h2]; rfl
          repeat (first | with_reducible refine nilck_some ?_ | ((with_reducible refine atLd ?_); first | refine ld_b hs ?_ | refine ld_b (x := ⟨_, _, _⟩) hs ?_ | refine ld_r0 hs ?_ | refine ld_r1 hs ?_ | refine ld_rd0 ha_ hs ?_ | refine ld_rd1 ha_ hs ?_) | ((with_reducible refine isSt ?_); first | refine st_b hs fun w hs => ?_ | refine st_r0 hs fun w hs => ?_ | refine st_r1 hs fun w hs => ?_) | ((with_reducible refine isIdx ?_); first | refine idx_s hs fun b_ o_ hs => ?_ | refine idx_rd hs fun b_ o_ ha_ => ?_) | with_reducible refine newB_at hs fun b_ w hs => ?_ | ((with_reducible refine isLdS ?_); first | refine ldS_b ?_ | refine ldS_b (x := ⟨_, _, _⟩) ?_ | refine ldS_rs0 hs ?_ | refine ldS_rd0 ha_ ?_) | ((with_reducible refine isKeep ?_); first | refine keep_of hs ?_ | refine keep_imp hs ?_) | with_reducible refine when_om ?_ | with_reducible refine drawW_sat hs fun w hs => ?_)
          have hll : (gCuts I g).length ≤ I.length := by
            have := hnl
            rw [e1] at this
            simp only [List.length_append, List.length_cons, List.length_nil] at this
            omega
          refine app_one (s := sI) (a := ks.getD i default) hs rfl rfl rfl rfl (by decide) (by omega) fun s2 w hs2 hs => ?_
          rw [hkk, ← e1] at hs
          exact j5 w s2 (by exact Sat.fin hs)
        · have h2 : hit = true := by simpa using h2
          have e1 : inNext I key hit g = gCuts I g := by unfold inNext; rw [h2]; rfl
          rw [← e1] at hs
          exact j5 w sI hs
      have j2 : ∀ (w : World), Sat W w (recs Rec.str l g :: [recs Rec.str sI I, arcR b c (3 * i + 3) y, old W]) → hoardlaw10_ArcTold_j2 idJ (fun v w' => v = .bool true ∧ Sat W w' [old W]) (f + 1) s0 (some ⟨b, 0, none⟩) sI (i : Int) hit l w := by
        intro w hs
        rw [hoardlaw10_ArcTold_j2_def, hoardlaw10_ArcTold_j2_raw]
        rcases g_cases hle with hg | ⟨z, hg⟩
        · subst hg
          refine exM_of 1 ?_
          rw [hoardlaw10_ArcTold_l3_raw]
          refine ite_false (decide_eq_false (by rw [hln]; simp)) ?_
          exact j4 w sI (by exact Sat.fin hs)
        · subst hg
          refine exM_of 2 ?_
          rw [hoardlaw10_ArcTold_l3_raw]
          refine ite_true (decide_eq_true (by rw [hln]; simp)) ?_
          have hln1 : l.n = 1 := hln
          repeat (first | with_reducible refine nilck_some ?_ | ((with_reducible refine atLd ?_); first | refine ld_b hs ?_ | refine ld_b (x := ⟨_, _, _⟩) hs ?_ | refine ld_r0 hs ?_ | refine ld_r1 hs ?_ | refine ld_rd0 ha_ hs ?_ | refine ld_rd1 ha_ hs ?_) | ((with_reducible refine isSt ?_); first | refine st_b hs fun w hs => ?_ | refine st_r0 hs fun w hs => ?_ | refine st_r1 hs fun w hs => ?_) | ((with_reducible refine isIdx ?_); first | refine idx_s hs fun b_ o_ hs => ?_ | refine idx_rd hs fun b_ o_ ha_ => ?_) | with_reducible refine newB_at hs fun b_ w hs => ?_ | ((with_reducible refine isLdS ?_); first | refine ldS_b ?_ | refine ldS_b (x := ⟨_, _, _⟩) ?_ | refine ldS_rs0 hs ?_ | refine ldS_rd0 ha_ ?_) | ((with_reducible refine isKeep ?_); first | refine keep_of hs ?_ | refine keep_imp hs ?_) | with_reducible refine when_om ?_ | with_reducible refine drawW_sat hs fun w hs => ?_)
          have hg0 : [z].getD (Int.toNat 0) default = z := rfl
          rw [hg0]
          refine call1_of (has10 (s0 := sI) (xs := I) hs (by omega)) fun e w ⟨he, hs⟩ => ⟨_, he, ?_⟩
          have hzI : z ∈ I := (hm z).2 (hsub z (by simp))
          rw [decide_eq_true hzI]
          refine ite_false rfl ?_
          repeat (first | with_reducible refine nilck_some ?_ | ((with_reducible refine atLd ?_); first | refine ld_b hs ?_ | refine ld_b (x := ⟨_, _, _⟩) hs ?_ | refine ld_r0 hs ?_ | refine ld_r1 hs ?_ | refine ld_rd0 ha_ hs ?_ | refine ld_rd1 ha_ hs ?_) | ((with_reducible refine isSt ?_); first | refine st_b hs fun w hs => ?_ | refine st_r0 hs fun w hs => ?_ | refine st_r1 hs fun w hs => ?_) | ((with_reducible refine isIdx ?_); first | refine idx_s hs fun b_ o_ hs => ?_ | refine idx_rd hs fun b_ o_ ha_ => ?_) | with_reducible refine newB_at hs fun b_ w hs => ?_ | ((with_reducible refine isLdS ?_); first | refine ldS_b ?_ | refine ldS_b (x := ⟨_, _, _⟩) ?_ | refine ldS_rs0 hs ?_ | refine ldS_rd0 ha_ ?_) | ((with_reducible refine isKeep ?_); first | refine keep_of hs ?_ | refine keep_imp hs ?_) | with_reducible refine when_om ?_ | with_reducible refine drawW_sat hs fun w hs => ?_)
          rw [hg0]
          refine (cut10 (s0 := sI) (xs := I) hs (by omega)).mono fun e w ⟨s3, he, hs⟩ => ⟨s3, he, ?_⟩
          rw [show IntKind.wrap .i64 ((0 : Int) + 1) = 1 by decide]
          dsimp only
          rw [hoardlaw10_ArcTold_l3_raw]
          refine ite_false (decide_eq_false (by rw [hln]; simp)) ?_
          exact j4 w s3 (by exact Sat.fin hs)
      have hs2 : Sat W w (recs Rec.str l g :: [recs Rec.str sI I, arcR b c (3 * i + 3) y, old W]) := by exact Sat.fin hs
      refine ite_cases (fun h2 => ?_) (fun h2 => ?_)
      · have hg0 := hcalm h2
        refine ite_false (decide_eq_false (by rw [hln, hg0]; simp)) ?_
        repeat (first | with_reducible refine nilck_some ?_ | ((with_reducible refine atLd ?_); first | refine ld_b hs ?_ | refine ld_b (x := ⟨_, _, _⟩) hs ?_ | refine ld_r0 hs ?_ | refine ld_r1 hs ?_ | refine ld_rd0 ha_ hs ?_ | refine ld_rd1 ha_ hs ?_) | ((with_reducible refine isSt ?_); first | refine st_b hs fun w hs => ?_ | refine st_r0 hs fun w hs => ?_ | refine st_r1 hs fun w hs => ?_) | ((with_reducible refine isIdx ?_); first | refine idx_s hs fun b_ o_ hs => ?_ | refine idx_rd hs fun b_ o_ ha_ => ?_) | with_reducible refine newB_at hs fun b_ w hs => ?_ | ((with_reducible refine isLdS ?_); first | refine ldS_b ?_ | refine ldS_b (x := ⟨_, _, _⟩) ?_ | refine ldS_rs0 hs ?_ | refine ldS_rd0 ha_ ?_) | ((with_reducible refine isKeep ?_); first | refine keep_of hs ?_ | refine keep_imp hs ?_) | with_reducible refine when_om ?_ | with_reducible refine drawW_sat hs fun w hs => ?_)
        refine call1_of (has10 (s0 := l) (xs := g) hs (by omega)) fun e w ⟨he, hs⟩ => ⟨_, he, ?_⟩
        rw [hkk, decide_eq_false hno]
        refine ite_false rfl ?_
        exact j2 w (by exact Sat.fin hs)
      · repeat (first | with_reducible refine nilck_some ?_ | ((with_reducible refine atLd ?_); first | refine ld_b hs ?_ | refine ld_b (x := ⟨_, _, _⟩) hs ?_ | refine ld_r0 hs ?_ | refine ld_r1 hs ?_ | refine ld_rd0 ha_ hs ?_ | refine ld_rd1 ha_ hs ?_) | ((with_reducible refine isSt ?_); first | refine st_b hs fun w hs => ?_ | refine st_r0 hs fun w hs => ?_ | refine st_r1 hs fun w hs => ?_) | ((with_reducible refine isIdx ?_); first | refine idx_s hs fun b_ o_ hs => ?_ | refine idx_rd hs fun b_ o_ ha_ => ?_) | with_reducible refine newB_at hs fun b_ w hs => ?_ | ((with_reducible refine isLdS ?_); first | refine ldS_b ?_ | refine ldS_b (x := ⟨_, _, _⟩) ?_ | refine ldS_rs0 hs ?_ | refine ldS_rd0 ha_ ?_) | ((with_reducible refine isKeep ?_); first | refine keep_of hs ?_ | refine keep_imp hs ?_) | with_reducible refine when_om ?_ | with_reducible refine drawW_sat hs fun w hs => ?_)
        refine call1_of (has10 (s0 := l) (xs := g) hs (by omega)) fun e w ⟨he, hs⟩ => ⟨_, he, ?_⟩
        rw [hkk, decide_eq_false hno]
        refine ite_false rfl ?_
        exact j2 w (by exact Sat.fin hs)
  refine exM_of (ks.length + 1) ?_
  exact loop ks.length 0 w arc0 [] ⟨none, 0, 0⟩ (by omega) hx0 (by simp) (fun k => by simp [aRes, arc0]) (Nat.le_refl _) (by simp) (by have hs := Sat.nilR Rec.str hs; exact Sat.fin hs)

end
end Go.Proofs.YtchlicgjdlkidaaDoor
