/- ArcRemoves: the walk. -/
import Derived.Test.YtchlicgjdlkidaaDoorArc10
import Derived.Test.YtchlicgjdlkidaaDoorShalArcRemoves
set_option linter.unusedVariables false
set_option linter.unusedSimpArgs false
set_option linter.unnecessarySimpa false
set_option linter.unusedSectionVars false
namespace Go.Hb
theorem aRem_len {c : Int} {x : ArcS} {k : ByteArray} (h : ArcOk c x) : (aRes (aRem x k).2).length + (if k ∈ aRes x then 1 else 0) = (aRes x).length := by
  obtain ⟨h1, h2, h3, h4⟩ := aRem_law2 h (k := k)
  by_cases hk : k ∈ aRes x
  · rw [if_pos hk]
    rw [decide_eq_true hk] at h2
    have hm := (h3 h2).1
    have hp : (aRes (aRem x k).2).Perm (gTake (aRes x) k) := perm_of_mem h1.w.res_nd (gTake_nodup h.w.res_nd) fun z => by rw [hm, gTake_mem]
    have := (gTake_perm1 h.w.res_nd hk).length_eq
    rw [hp.length_eq]
    simp only [List.length_cons] at this
    omega
  · rw [if_neg hk]
    rw [decide_eq_false hk] at h2
    rw [h4 h2]; rfl
end Go.Hb
namespace Go.Proofs.YtchlicgjdlkidaaDoor
open Go.Hb Go.IntWalk
section
variable {W w : World} {L M : List HP} {F : HP → List HP}
set_option maxHeartbeats 1000000 in
set_option maxRecDepth 100000 in
theorem aremoves_walk {room : Int} {s0 : Sl} {acts : List Act10} {key : ByteArray} [hr : ReadsR W s0 act10R acts] (hT : TabW W) : Calls Tryd.prog id_hoardlaw10_ArcRemoves #[.int .i64 room, .slice s0.a s0.n s0.c, .string key] W fun e w' => e = .returned (.bool true) ∧ KeptH W w' := by
  have hs := Sat.begin W
  refine law_of (hoardlaw10_ArcRemoves_calls ?_)
  rw [hoardlaw10_ArcRemoves_def, hoardlaw10_ArcRemoves_raw]
  refine (heavy10 (s0 := s0) hs).mono fun e w ⟨hv, he, hsz, hs⟩ => ⟨_, he, ?_⟩
  refine ite_cases (fun h1 => ⟨rfl, hs⟩) (fun h1 => ?_)
  have hsz := hsz h1
  with_reducible refine ite_by (fun hk40 => ?_) (fun hk40 => ?_)
  · exact ⟨rfl, hs⟩
  have hkz : key.size < 64 := by omega
  rw [hoardlaw10_ArcRemoves_j1_def, hoardlaw10_ArcRemoves_j1_raw]
  refine (arc_New_at hs).mono fun e w ⟨b, he, hs⟩ => ⟨_, he, ?_⟩
  refine (r10_New hs).mono fun e w ⟨b2, he, hs⟩ => ⟨_, he, ite_false rfl ?_⟩
  have hR := roomR_range room
  have hx0 := aOk0 hR.1 hR.2
  generalize roomR room = c at hs hR hx0
  have fin : ∀ w (x : ArcS) (n : Nat), n ≤ 300 → ArcOk c x → Sat W w [rrR b2 c x, arcR b c (3 * n) x, old W] → hoardlaw10_ArcRemoves_j4 idJ (fun v w' => v = .bool true ∧ Sat W w' [old W]) key (some ⟨b, 0, none⟩) w := by
    intro w x n hn hx hs
    have hsm := hx.lens
    have hrl := aRes_len x; have hrl2 : aLen x = x.t1.length + x.t2.length := rfl
    have hlen := hx.len
    have hc2 := hR.2
    obtain ⟨hy, h2, h3, h4⟩ := aRem_law2 hx (k := key)
    have hyl := aRem_len hx (k := key)
    have hlt : (aRes x).length ≤ 1024 := by omega
    rw [hoardlaw10_ArcRemoves_j4_def, hoardlaw10_ArcRemoves_j4_raw]
    refine (arc_Keys hs (by omega)).mono fun e w ⟨k1, he, hs⟩ => ⟨_, he, ?_⟩
    refine call1_of (arc_Has hs hkz) fun e w ⟨he, hs⟩ => ⟨_, he, ?_⟩
    refine call1_of (arc_Remove hs hkz (by omega)) fun e w ⟨he, hs⟩ => ⟨_, he, ?_⟩
    rw [h2]
    refine ite_false (by simp) ?_
    refine call1_of (arc_Has hs hkz) fun e w ⟨he, hs⟩ => ⟨_, he, ?_⟩
    have hno : key ∉ aRes (aRem x key).2 := by
      by_cases hk : key ∈ aRes x
      · rw [decide_eq_true hk] at h2
        rw [(h3 h2).1]
        exact fun h => h.2 rfl
      · rw [decide_eq_false hk] at h2
        rw [h4 h2]; exact hk
    rw [decide_eq_false hno]
    refine ite_false rfl ?_
    have hstay : ∀ z ∈ aRes x, z ≠ key → z ∈ aRes (aRem x key).2 := by
      intro z hz hne
      by_cases hk : key ∈ aRes x
      · rw [decide_eq_true hk] at h2
        exact ((h3 h2).1 z).2 ⟨hz, hne⟩
      · rw [decide_eq_false hk] at h2
        rw [h4 h2]; exact hz
    have hng : key ∈ aRes x → key ∉ aGhs (aRem x key).2 := by
      intro hk
      rw [decide_eq_true hk] at h2
      exact (h3 h2).2
    have hghl : (aGhs (aRem x key).2).length ≤ 4096 := by have := hy.lens; unfold aGhs; rw [List.length_append]; omega
    have hysm := hy.lens
    have hk1 := rdb_len (s := k1) hs
    have hxw := hx.w
    generalize (aRem x key).2 = y at *
    have j5 : ∀ w, Sat W w [recs Rec.str k1 (aRes x), arcR b c (3 * n) y, old W] → hoardlaw10_ArcRemoves_j5 idJ (fun v w' => v = .bool true ∧ Sat W w' [old W]) key (some ⟨b, 0, none⟩) k1 (decide (key ∈ aRes x)) w := by
      clear hs
      intro w hs
      rw [hoardlaw10_ArcRemoves_j5_def, hoardlaw10_ArcRemoves_j5_raw]
      have j8 : ∀ (m : Int) w, m = ((aRes y).length : Int) → Sat W w [recs Rec.str k1 (aRes x), arcR b c (3 * n) y, old W] → hoardlaw10_ArcRemoves_j8 idJ (fun v w' => v = .bool true ∧ Sat W w' [old W]) (some ⟨b, 0, none⟩) m w := by
        intro m w hm hs
        rw [hoardlaw10_ArcRemoves_j8_def, hoardlaw10_ArcRemoves_j8_raw]
        refine call1_of (arc_Len2 hs hy (by omega)) fun e w ⟨he, hs⟩ => ⟨_, he, ?_⟩
        refine ite_true (by rw [hm]; simp) ?_
        exact call1_of (known10 hs hT) fun e w ⟨he, hs⟩ => ⟨_, he, rfl, by exact Sat.fin hs⟩
      have loop : ∀ (f i : Nat) (w : World), i + f = (aRes x).length → Sat W w [recs Rec.str k1 (aRes x), arcR b c (3 * n) y, old W] → hoardlaw10_ArcRemoves_l6 idJ (fun v w' => v = .bool true ∧ Sat W w' [old W]) (f + 1) key (some ⟨b, 0, none⟩) k1 (decide (key ∈ aRes x)) (i : Int) w := by
        intro f
        induction f with
        | zero =>
          intro i w hi hs
          rw [hoardlaw10_ArcRemoves_l6_raw]
          refine ite_false (decide_eq_false (by omega)) ?_
          rw [hoardlaw10_ArcRemoves_j7_def, hoardlaw10_ArcRemoves_j7_raw]
          refine ite_cases (fun h5 => ?_) (fun h5 => ?_)
          · have h5 := of_decide_eq_true h5
            rw [if_pos h5] at hyl
            exact j8 _ w (by rw [i64_in _ (by omega)]; omega) hs
          · have h5 := of_decide_eq_false h5
            rw [if_neg h5] at hyl
            exact j8 _ w (by omega) hs
        | succ f ih =>
          intro i w hi hs
          rw [hoardlaw10_ArcRemoves_l6_raw]
          refine ite_true (decide_eq_true (by omega)) ?_
          repeat (first | with_reducible refine nilck_some ?_ | ((with_reducible refine atLd ?_); first | refine ld_b hs ?_ | refine ld_b (x := ⟨_, _, _⟩) hs ?_ | refine ld_r0 hs ?_ | refine ld_r1 hs ?_ | refine ld_rd0 ha_ hs ?_ | refine ld_rd1 ha_ hs ?_) | ((with_reducible refine isSt ?_); first | refine st_b hs fun w hs => ?_ | refine st_r0 hs fun w hs => ?_ | refine st_r1 hs fun w hs => ?_) | ((with_reducible refine isIdx ?_); first | refine idx_s hs fun b_ o_ hs => ?_ | refine idx_rd hs fun b_ o_ ha_ => ?_) | with_reducible refine newB_at hs fun b_ w hs => ?_ | ((with_reducible refine isLdS ?_); first | refine ldS_b ?_ | refine ldS_b (x := ⟨_, _, _⟩) ?_ | refine ldS_rs0 hs ?_ | refine ldS_rd0 ha_ ?_) | ((with_reducible refine isKeep ?_); first | refine keep_of hs ?_ | refine keep_imp hs ?_) | with_reducible refine when_om ?_ | with_reducible refine drawW_sat hs fun w hs => ?_)
          rw [Int.toNat_natCast]
          have hmem : (aRes x).getD i default ∈ aRes x := getD_mem (by omega)
          have hw : IntKind.wrap .i64 ((i : Int) + 1) = ((i + 1 : Nat) : Int) := by rw [i64_in _ (by omega)]; omega
          with_reducible refine ite_by (fun h6 => ?_) (fun h6 => ?_)
          · repeat (first | with_reducible refine nilck_some ?_ | ((with_reducible refine atLd ?_); first | refine ld_b hs ?_ | refine ld_b (x := ⟨_, _, _⟩) hs ?_ | refine ld_r0 hs ?_ | refine ld_r1 hs ?_ | refine ld_rd0 ha_ hs ?_ | refine ld_rd1 ha_ hs ?_) | ((with_reducible refine isSt ?_); first | refine st_b hs fun w hs => ?_ | refine st_r0 hs fun w hs => ?_ | refine st_r1 hs fun w hs => ?_) | ((with_reducible refine isIdx ?_); first | refine idx_s hs fun b_ o_ hs => ?_ | refine idx_rd hs fun b_ o_ ha_ => ?_) | with_reducible refine newB_at hs fun b_ w hs => ?_ | ((with_reducible refine isLdS ?_); first | refine ldS_b ?_ | refine ldS_b (x := ⟨_, _, _⟩) ?_ | refine ldS_rs0 hs ?_ | refine ldS_rd0 ha_ ?_) | ((with_reducible refine isKeep ?_); first | refine keep_of hs ?_ | refine keep_imp hs ?_) | with_reducible refine when_om ?_ | with_reducible refine drawW_sat hs fun w hs => ?_)
            refine call1_of (arc_Has hs (aRes_small hxw hmem)) fun e w ⟨he, hs⟩ => ⟨_, he, ?_⟩
            rw [decide_eq_true (hstay _ hmem h6)]
            refine ite_false rfl ?_
            rw [hw]
            exact ih (i + 1) w (by omega) (by exact Sat.fin hs)
          · rw [hw]
            exact ih (i + 1) w (by omega) (by exact Sat.fin hs)
      refine exM_of ((aRes x).length + 1) ?_
      exact loop (aRes x).length 0 w (by omega) hs
    refine ite_cases (fun h5 => ?_) (fun h5 => ?_)
    · have h5' := of_decide_eq_true h5
      refine (arc_Ghosts hs (by omega)).mono fun e w ⟨g1, he, hs⟩ => ⟨_, he, ?_⟩
      refine call1_of (has10 (s0 := g1) (xs := aGhs y) hs (by omega)) fun e w ⟨he, hs⟩ => ⟨_, he, ?_⟩
      rw [decide_eq_false (hng h5')]
      refine ite_false rfl ?_
      exact j5 w (by exact Sat.fin hs)
    · exact j5 w (by exact Sat.fin hs)
  obtain ⟨N, hN⟩ : ∃ N : Nat, N = 201 := ⟨_, rfl⟩
  have loop : ∀ (f i : Nat) (w : World) (x : ArcS), i + f = N → ArcOk c x → Sat W w [rrR b2 c x, arcR b c (3 * i) x, old W] → hoardlaw10_ArcRemoves_l2 idJ (fun v w' => v = .bool true ∧ Sat W w' [old W]) (f + 1) s0 key (some ⟨b, 0, none⟩) (some ⟨b2, 0, none⟩) (i : Int) w := by
    clear hs
    intro f
    induction f with
    | zero =>
      intro i w x hi hx hs
      rw [hoardlaw10_ArcRemoves_l2_raw]
      with_reducible refine ite_by (fun h1 => ?_) (fun h1 => ?_)
      · with_reducible refine ite_ltI (fun h2 => absurd h2 (by omega)) (fun h2 => ?_)
        exact fin w x i (by omega) hx hs
      · exact fin w x i (by omega) hx hs
    | succ f ih =>
      intro i w x hi hx hs
      have hn := rdb_len (s := s0) hs
      rw [hoardlaw10_ArcRemoves_l2_raw]
      with_reducible refine ite_by (fun h1 => ?_) (fun h1 => ?_)
      · with_reducible refine ite_by (fun h2 => ?_) (fun h2 => ?_)
        · have hkey := hsz i (by omega) (by omega)
          rw [hoardlaw10_ArcRemoves_j3_def, hoardlaw10_ArcRemoves_j3_raw]
          repeat (first | with_reducible refine nilck_some ?_ | ((with_reducible refine atLd ?_); first | refine ld_b hs ?_ | refine ld_b (x := ⟨_, _, _⟩) hs ?_ | refine ld_r0 hs ?_ | refine ld_r1 hs ?_ | refine ld_rd0 ha_ hs ?_ | refine ld_rd1 ha_ hs ?_) | ((with_reducible refine isSt ?_); first | refine st_b hs fun w hs => ?_ | refine st_r0 hs fun w hs => ?_ | refine st_r1 hs fun w hs => ?_) | ((with_reducible refine isIdx ?_); first | refine idx_s hs fun b_ o_ hs => ?_ | refine idx_rd hs fun b_ o_ ha_ => ?_) | with_reducible refine newB_at hs fun b_ w hs => ?_ | ((with_reducible refine isLdS ?_); first | refine ldS_b ?_ | refine ldS_b (x := ⟨_, _, _⟩) ?_ | refine ldS_rs0 hs ?_ | refine ldS_rd0 ha_ ?_) | ((with_reducible refine isKeep ?_); first | refine keep_of hs ?_ | refine keep_imp hs ?_) | with_reducible refine when_om ?_ | with_reducible refine drawW_sat hs fun w hs => ?_)
          rw [Int.toNat_natCast]
          refine call1_of (act10 (W := W) (M := [old W]) (b := b) (b2 := b2) (N := 3 * i) (a := acts.getD i default) (by exact Sat.fin hs) hx (by omega) hkey) fun e w ⟨he, hs⟩ => ⟨_, he, ?_⟩
          have hx2 := aAct_ok (a := acts.getD i default) hx (by omega)
          rw [i64_in _ (by omega)]
          exact ih (i + 1) w _ (by omega) hx2 (by exact Sat.fin hs)
        · exact fin w x i (by omega) hx hs
      · exact fin w x i (by omega) hx hs
  refine exM_of (N + 1) ?_
  exact loop N 0 w arc0 (by omega) hx0 hs

end
end Go.Proofs.YtchlicgjdlkidaaDoor
