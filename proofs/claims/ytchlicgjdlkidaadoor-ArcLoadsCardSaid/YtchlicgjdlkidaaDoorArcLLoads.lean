/- ArcLoads: the walk. -/
import Derived.Test.YtchlicgjdlkidaaDoorArc10
import Derived.Test.YtchlicgjdlkidaaDoorShalArcLoads
set_option linter.unusedVariables false
set_option linter.unusedSimpArgs false
set_option linter.unnecessarySimpa false
set_option linter.unusedSectionVars false
namespace Go.Hb
theorem aLoad_len {c : Int} {x : ArcS} {k : ByteArray} (h : ArcOk c x) (hz : k.size < 64) : (aRes (aLoad c x k).2).length = (aRes x).length + (if (aLoad c x k).1 then 1 else 0) := by
  obtain ⟨h1, h2, h3, h4⟩ := aLoad_law2 h (k := k) hz
  cases ho : (aLoad c x k).1 with
  | true =>
    have hm := h3 ho
    rw [ho] at h2
    have hk := (of_decide_eq_true h2.symm).1
    have hp : (aRes (aLoad c x k).2).Perm (k :: aRes x) := perm_of_mem h1.w.res_nd (List.nodup_cons.2 ⟨hk, h.w.res_nd⟩) fun z => by
      rw [hm, List.mem_cons]
      exact ⟨fun h => h.symm, fun h => h.symm⟩
    rw [hp.length_eq]; rfl
  | false => rw [h4 ho]; rfl
end Go.Hb
namespace Go.Proofs.YtchlicgjdlkidaaDoor
open Go.Hb Go.IntWalk
section
variable {W w : World} {L M : List HP} {F : HP → List HP}
set_option maxHeartbeats 2000000 in
set_option maxRecDepth 100000 in
theorem aloads_walk {room : Int} {s0 s1 : Sl} {acts : List Act10} {ks : List ByteArray} [hr : ReadsR W s0 act10R acts] [hr2 : ReadsR W s1 Rec.str ks] (hT : TabW W) : Calls Tryd.prog id_hoardlaw10_ArcLoads #[.int .i64 room, .slice s0.a s0.n s0.c, .slice s1.a s1.n s1.c] W fun e w' => e = .returned (.bool true) ∧ KeptH W w' := by
  have hs := Sat.begin W
  refine law_of (hoardlaw10_ArcLoads_calls ?_)
  rw [hoardlaw10_ArcLoads_def, hoardlaw10_ArcLoads_raw]
  refine (heavy10 (s0 := s0) hs).mono fun e w ⟨hv, he, hsz, hs⟩ => ⟨_, he, ?_⟩
  refine ite_cases (fun h1 => ⟨rfl, hs⟩) (fun h1 => ?_)
  have hsz := hsz h1
  refine (long10 (s0 := s1) hs).mono fun e w ⟨hv2, he, hsz2, hs⟩ => ⟨_, he, ?_⟩
  refine ite_cases (fun h1 => ⟨rfl, hs⟩) (fun h1 => ?_)
  obtain ⟨hkl, hsz2⟩ := hsz2 h1
  rw [hoardlaw10_ArcLoads_j1_def, hoardlaw10_ArcLoads_j1_raw]
  refine (arc_New_at hs).mono fun e w ⟨b, he, hs⟩ => ⟨_, he, ?_⟩
  refine (r10_New hs).mono fun e w ⟨b2, he, hs⟩ => ⟨_, he, ite_false rfl ?_⟩
  have hR := roomR_range room
  have hx0 := aOk0 hR.1 hR.2
  generalize roomR room = c at hs hR hx0
  have hc2 := hR.2
  have hwr : ∀ j : Nat, j < 100000 → IntKind.wrap .i64 ((j : Int) + 1) = ((j + 1 : Nat) : Int) := fun j hj => by rw [i64_in _ (by omega)]; omega
  have fin : ∀ w (x : ArcS) (n : Nat), n ≤ 300 → ArcOk c x → Sat W w [arcR b c (3 * n) x, old W] → hoardlaw10_ArcLoads_j4 idJ (fun v w' => v = .bool true ∧ Sat W w' [old W]) s1 (some ⟨b, 0, none⟩) w := by
    intro w x n hn hx hs
    rw [hoardlaw10_ArcLoads_j4_def, hoardlaw10_ArcLoads_j4_raw]
    have loop : ∀ (f i : Nat) (w : World) (x : ArcS), i + f = ks.length → ArcOk c x → Sat W w [arcR b c (3 * n + 2 * i) x, old W] → hoardlaw10_ArcLoads_l5 idJ (fun v w' => v = .bool true ∧ Sat W w' [old W]) (f + 1) s1 (some ⟨b, 0, none⟩) (i : Int) w := by
      clear hs hx
      intro f
      induction f with
      | zero =>
        intro i w x hi hx hs
        have hn1 := rdb_len (s := s1) hs
        rw [hoardlaw10_ArcLoads_l5_raw]
        refine ite_false (decide_eq_false (by omega)) ?_
        rw [hoardlaw10_ArcLoads_j9_def, hoardlaw10_ArcLoads_j9_raw]
        exact call1_of (known10 hs hT) fun e w ⟨he, hs⟩ => ⟨_, he, rfl, by exact Sat.fin hs⟩
      | succ f ih =>
        intro i w x hi hx hs
        have hn1 := rdb_len (s := s1) hs
        have hsm := hx.lens
        have hrl := aRes_len x; have hrl2 : aLen x = x.t1.length + x.t2.length := rfl
        have hlen := hx.len
        have hxw := hx.w
        rw [hoardlaw10_ArcLoads_l5_raw]
        refine ite_true (decide_eq_true (by omega)) ?_
        repeat (first | with_reducible refine nilck_some ?_ | ((with_reducible refine atLd ?_); first | refine ld_b hs ?_ | refine ld_b (x := ⟨_, _, _⟩) hs ?_ | refine ld_r0 hs ?_ | refine ld_r1 hs ?_ | refine ld_rd0 ha_ hs ?_ | refine ld_rd1 ha_ hs ?_) | ((with_reducible refine isSt ?_); first | refine st_b hs fun w hs => ?_ | refine st_r0 hs fun w hs => ?_ | refine st_r1 hs fun w hs => ?_) | ((with_reducible refine isIdx ?_); first | refine idx_s hs fun b_ o_ hs => ?_ | refine idx_rd hs fun b_ o_ ha_ => ?_) | with_reducible refine newB_at hs fun b_ w hs => ?_ | ((with_reducible refine isLdS ?_); first | refine ldS_b ?_ | refine ldS_b (x := ⟨_, _, _⟩) ?_ | refine ldS_rs0 hs ?_ | refine ldS_rd0 ha_ ?_) | ((with_reducible refine isKeep ?_); first | refine keep_of hs ?_ | refine keep_imp hs ?_) | with_reducible refine when_om ?_ | with_reducible refine drawW_sat hs fun w hs => ?_)
        rw [Int.toNat_natCast]
        have hkey := hsz2 _ (getD_mem (d := default) (show i < ks.length by omega))
        have hkz : (ks.getD i default).size < 64 := by omega
        refine call1_of (arc_Has hs hkz) fun e w ⟨he, hs⟩ => ⟨_, he, ?_⟩
        refine call1_of (arc_Len2 hs hx (by omega)) fun e w ⟨he, hs⟩ => ⟨_, he, ?_⟩
        refine (arc_Keys hs (by omega)).mono fun e w ⟨k1, he, hs⟩ => ⟨_, he, ?_⟩
        have hk1 := rdb_len (s := k1) hs
        repeat (first | with_reducible refine nilck_some ?_ | ((with_reducible refine atLd ?_); first | refine ld_b hs ?_ | refine ld_b (x := ⟨_, _, _⟩) hs ?_ | refine ld_r0 hs ?_ | refine ld_r1 hs ?_ | refine ld_rd0 ha_ hs ?_ | refine ld_rd1 ha_ hs ?_) | ((with_reducible refine isSt ?_); first | refine st_b hs fun w hs => ?_ | refine st_r0 hs fun w hs => ?_ | refine st_r1 hs fun w hs => ?_) | ((with_reducible refine isIdx ?_); first | refine idx_s hs fun b_ o_ hs => ?_ | refine idx_rd hs fun b_ o_ ha_ => ?_) | with_reducible refine newB_at hs fun b_ w hs => ?_ | ((with_reducible refine isLdS ?_); first | refine ldS_b ?_ | refine ldS_b (x := ⟨_, _, _⟩) ?_ | refine ldS_rs0 hs ?_ | refine ldS_rd0 ha_ ?_) | ((with_reducible refine isKeep ?_); first | refine keep_of hs ?_ | refine keep_imp hs ?_) | with_reducible refine when_om ?_ | with_reducible refine drawW_sat hs fun w hs => ?_)
        refine call1_of (arc_Load hs hx hkz (by omega)) fun e w ⟨he, hs⟩ => ⟨_, he, ?_⟩
        obtain ⟨hy, ho, h3, h4⟩ := aLoad_law2 hx (k := ks.getD i default) hkz
        have hyl := aLoad_len hx (k := ks.getD i default) hkz
        have hstay : ∀ z ∈ aRes x, z ∈ aRes (aLoad c x (ks.getD i default)).2 := by
          intro z hz
          cases hb : (aLoad c x (ks.getD i default)).1 with
          | true => exact (h3 hb z).2 (.inl hz)
          | false => rw [h4 hb]; exact hz
        have hkin : (aLoad c x (ks.getD i default)).1 = true → ks.getD i default ∈ aRes (aLoad c x (ks.getD i default)).2 := fun hb => (h3 hb _).2 (.inr rfl)
        generalize hA : aLoad c x (ks.getD i default) = A at *
        obtain ⟨ok, y⟩ := A
        simp only at *
        have j6 : ∀ w, Sat W w [recs Rec.str k1 (aRes x), arcR b c (3 * n + 2 * i + 2) y, old W] → hoardlaw10_ArcLoads_j6 idJ (fun v w' => v = .bool true ∧ Sat W w' [old W]) (f + 1) s1 (some ⟨b, 0, none⟩) (i : Int) k1 w := by
          clear hs
          intro w hs
          rw [hoardlaw10_ArcLoads_j6_def, hoardlaw10_ArcLoads_j6_raw]
          have loop7 : ∀ (h j : Nat) (w : World), j + h = (aRes x).length → Sat W w [recs Rec.str k1 (aRes x), arcR b c (3 * n + 2 * i + 2) y, old W] → hoardlaw10_ArcLoads_l7 idJ (fun v w' => v = .bool true ∧ Sat W w' [old W]) (f + 1) (h + 1) s1 (some ⟨b, 0, none⟩) (i : Int) k1 (j : Int) w := by
            intro h
            induction h with
            | zero =>
              intro j w hj hs
              rw [hoardlaw10_ArcLoads_l7_raw]
              refine ite_false (decide_eq_false (by omega)) ?_
              rw [hoardlaw10_ArcLoads_j8_def, hoardlaw10_ArcLoads_j8_raw, hwr i (by omega)]
              exact ih (i + 1) w y (by omega) hy (by exact Sat.fin hs)
            | succ h ih2 =>
              intro j w hj hs
              rw [hoardlaw10_ArcLoads_l7_raw]
              refine ite_true (decide_eq_true (by omega)) ?_
              repeat (first | with_reducible refine nilck_some ?_ | ((with_reducible refine atLd ?_); first | refine ld_b hs ?_ | refine ld_b (x := ⟨_, _, _⟩) hs ?_ | refine ld_r0 hs ?_ | refine ld_r1 hs ?_ | refine ld_rd0 ha_ hs ?_ | refine ld_rd1 ha_ hs ?_) | ((with_reducible refine isSt ?_); first | refine st_b hs fun w hs => ?_ | refine st_r0 hs fun w hs => ?_ | refine st_r1 hs fun w hs => ?_) | ((with_reducible refine isIdx ?_); first | refine idx_s hs fun b_ o_ hs => ?_ | refine idx_rd hs fun b_ o_ ha_ => ?_) | with_reducible refine newB_at hs fun b_ w hs => ?_ | ((with_reducible refine isLdS ?_); first | refine ldS_b ?_ | refine ldS_b (x := ⟨_, _, _⟩) ?_ | refine ldS_rs0 hs ?_ | refine ldS_rd0 ha_ ?_) | ((with_reducible refine isKeep ?_); first | refine keep_of hs ?_ | refine keep_imp hs ?_) | with_reducible refine when_om ?_ | with_reducible refine drawW_sat hs fun w hs => ?_)
              rw [Int.toNat_natCast]
              have hmem : (aRes x).getD j default ∈ aRes x := getD_mem (by omega)
              refine call1_of (arc_Has hs (aRes_small hxw hmem)) fun e w ⟨he, hs⟩ => ⟨_, he, ?_⟩
              rw [decide_eq_true (hstay _ hmem)]
              refine ite_false rfl ?_
              rw [hwr j (by omega)]
              exact ih2 (j + 1) w (by omega) (by exact Sat.fin hs)
          refine exM_of ((aRes x).length + 1) ?_
          exact loop7 _ 0 w (by omega) hs
        have same : ∀ w, ok = false → Sat W w [recs Rec.str k1 (aRes x), arcR b c (3 * n + 2 * i + 2) y, old W] → ∀ K : WP, (∀ w, Sat W w [recs Rec.str k1 (aRes x), arcR b c (3 * n + 2 * i + 2) y, old W] → K w) → call1 (.int .i64) Tryd.prog id_arc_Engine_Len [.pointer (some ⟨b, 0, none⟩)] (fun x_31 => ite2 (x_31 != ((aRes x).length : Int)) (fun w' => Value.bool false = Value.bool true ∧ Sat W w' [old W]) K) w := by
          intro w hb hs K hK
          refine call1_of (arc_Len2 hs hy (by omega)) fun e w ⟨he, hs⟩ => ⟨_, he, ?_⟩
          rw [hb] at hyl
          refine ite_false (by rw [hyl]; simp) (hK w (by exact Sat.fin hs))
        by_cases hk : ks.getD i default ∈ aRes x
        · have hb : ok = false := by rw [ho]; exact decide_eq_false fun h => h.1 hk
          rw [decide_eq_true hk, hb]
          refine ite_false rfl (ite_false rfl (ite_false rfl (ite_true rfl ?_)))
          exact same w hb (by exact Sat.fin hs) _ fun w hs => j6 w hs
        · rw [decide_eq_false hk]
          refine ite_true rfl ?_
          refine call1_of (arc_Room hs) fun e w ⟨he, hs⟩ => ⟨_, he, ?_⟩
          have hb : ok = decide (((aRes x).length : Int) < c) := by
            rw [ho]; congr 1; exact propext ⟨fun h => h.2, fun h => ⟨hk, h⟩⟩
          rw [← hb]
          refine ite_false (by simp) ?_
          refine ite_cases (fun h5 => ?_) (fun h5 => ?_)
          · repeat (first | with_reducible refine nilck_some ?_ | ((with_reducible refine atLd ?_); first | refine ld_b hs ?_ | refine ld_b (x := ⟨_, _, _⟩) hs ?_ | refine ld_r0 hs ?_ | refine ld_r1 hs ?_ | refine ld_rd0 ha_ hs ?_ | refine ld_rd1 ha_ hs ?_) | ((with_reducible refine isSt ?_); first | refine st_b hs fun w hs => ?_ | refine st_r0 hs fun w hs => ?_ | refine st_r1 hs fun w hs => ?_) | ((with_reducible refine isIdx ?_); first | refine idx_s hs fun b_ o_ hs => ?_ | refine idx_rd hs fun b_ o_ ha_ => ?_) | with_reducible refine newB_at hs fun b_ w hs => ?_ | ((with_reducible refine isLdS ?_); first | refine ldS_b ?_ | refine ldS_b (x := ⟨_, _, _⟩) ?_ | refine ldS_rs0 hs ?_ | refine ldS_rd0 ha_ ?_) | ((with_reducible refine isKeep ?_); first | refine keep_of hs ?_ | refine keep_imp hs ?_) | with_reducible refine when_om ?_ | with_reducible refine drawW_sat hs fun w hs => ?_)
            refine call1_of (arc_Has hs hkz) fun e w ⟨he, hs⟩ => ⟨_, he, ?_⟩
            rw [decide_eq_true (hkin h5)]
            refine ite_false rfl ?_
            refine call1_of (arc_Len2 hs hy (by omega)) fun e w ⟨he, hs⟩ => ⟨_, he, ?_⟩
            rw [h5, if_pos rfl] at hyl
            rw [hwr _ (by omega), hyl]
            refine ite_false (by simp) ?_
            rw [h5]
            refine ite_false rfl ?_
            exact j6 w (by exact Sat.fin hs)
          · rw [h5]
            refine ite_true rfl ?_
            exact same w h5 (by exact Sat.fin hs) _ fun w hs => j6 w hs
    refine exM_of (ks.length + 1) ?_
    exact loop ks.length 0 w x (by omega) hx hs
  obtain ⟨N, hN⟩ : ∃ N : Nat, N = 201 := ⟨_, rfl⟩
  have loop : ∀ (f i : Nat) (w : World) (x : ArcS), i + f = N → ArcOk c x → Sat W w [rrR b2 c x, arcR b c (3 * i) x, old W] → hoardlaw10_ArcLoads_l2 idJ (fun v w' => v = .bool true ∧ Sat W w' [old W]) (f + 1) s0 s1 (some ⟨b, 0, none⟩) (some ⟨b2, 0, none⟩) (i : Int) w := by
    clear hs
    intro f
    induction f with
    | zero =>
      intro i w x hi hx hs
      rw [hoardlaw10_ArcLoads_l2_raw]
      with_reducible refine ite_by (fun h1 => ?_) (fun h1 => ?_)
      · with_reducible refine ite_ltI (fun h2 => absurd h2 (by omega)) (fun h2 => ?_)
        exact fin w x i (by omega) hx (by exact Sat.fin hs)
      · exact fin w x i (by omega) hx (by exact Sat.fin hs)
    | succ f ih =>
      intro i w x hi hx hs
      have hn := rdb_len (s := s0) hs
      rw [hoardlaw10_ArcLoads_l2_raw]
      with_reducible refine ite_by (fun h1 => ?_) (fun h1 => ?_)
      · with_reducible refine ite_by (fun h2 => ?_) (fun h2 => ?_)
        · have hkey := hsz i (by omega) (by omega)
          rw [hoardlaw10_ArcLoads_j3_def, hoardlaw10_ArcLoads_j3_raw]
          repeat (first | with_reducible refine nilck_some ?_ | ((with_reducible refine atLd ?_); first | refine ld_b hs ?_ | refine ld_b (x := ⟨_, _, _⟩) hs ?_ | refine ld_r0 hs ?_ | refine ld_r1 hs ?_ | refine ld_rd0 ha_ hs ?_ | refine ld_rd1 ha_ hs ?_) | ((with_reducible refine isSt ?_); first | refine st_b hs fun w hs => ?_ | refine st_r0 hs fun w hs => ?_ | refine st_r1 hs fun w hs => ?_) | ((with_reducible refine isIdx ?_); first | refine idx_s hs fun b_ o_ hs => ?_ | refine idx_rd hs fun b_ o_ ha_ => ?_) | with_reducible refine newB_at hs fun b_ w hs => ?_ | ((with_reducible refine isLdS ?_); first | refine ldS_b ?_ | refine ldS_b (x := ⟨_, _, _⟩) ?_ | refine ldS_rs0 hs ?_ | refine ldS_rd0 ha_ ?_) | ((with_reducible refine isKeep ?_); first | refine keep_of hs ?_ | refine keep_imp hs ?_) | with_reducible refine when_om ?_ | with_reducible refine drawW_sat hs fun w hs => ?_)
          rw [Int.toNat_natCast]
          refine call1_of (act10 (W := W) (M := [old W]) (b := b) (b2 := b2) (N := 3 * i) (a := acts.getD i default) (by exact Sat.fin hs) hx (by omega) hkey) fun e w ⟨he, hs⟩ => ⟨_, he, ?_⟩
          have hx2 := aAct_ok (a := acts.getD i default) hx (by omega)
          rw [i64_in _ (by omega)]
          exact ih (i + 1) w _ (by omega) hx2 (by exact Sat.fin hs)
        · exact fin w x i (by omega) hx (by exact Sat.fin hs)
      · exact fin w x i (by omega) hx (by exact Sat.fin hs)
  refine exM_of (N + 1) ?_
  exact loop N 0 w arc0 (by omega) hx0 hs
end
end Go.Proofs.YtchlicgjdlkidaaDoor
