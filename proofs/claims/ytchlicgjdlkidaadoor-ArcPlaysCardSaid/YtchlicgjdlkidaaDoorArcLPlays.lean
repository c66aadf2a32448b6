/- ArcPlays: the walk. -/
import Derived.Test.YtchlicgjdlkidaaDoorArc10
import Derived.Test.YtchlicgjdlkidaaDoorShalArcPlays
set_option linter.unusedVariables false
set_option linter.unusedSimpArgs false
set_option linter.unnecessarySimpa false
set_option linter.unusedSectionVars false
namespace Go.Proofs.YtchlicgjdlkidaaDoor
open Go.Hb Go.IntWalk
section
variable {W w : World} {L M : List HP} {F : HP → List HP}
set_option maxHeartbeats 1000000 in
set_option maxRecDepth 100000 in
theorem aplays_walk {room : Int} {s0 : Sl} {acts : List Act10} [hr : ReadsR W s0 act10R acts] (hT : TabW W) : Calls Tryd.prog id_hoardlaw10_ArcPlays #[.int .i64 room, .slice s0.a s0.n s0.c] W fun e w' => e = .returned (.bool true) ∧ KeptH W w' := by
  have hs := Sat.begin W
  refine law_of (hoardlaw10_ArcPlays_calls ?_)
  rw [hoardlaw10_ArcPlays_def, hoardlaw10_ArcPlays_raw]
  refine (heavy10 (s0 := s0) hs).mono fun e w ⟨hv, he, hsz, hs⟩ => ⟨_, he, ?_⟩
  refine ite_cases (fun h1 => ⟨rfl, hs⟩) (fun h1 => ?_)
  have hsz := hsz h1
  refine (arc_New_at hs).mono fun e w ⟨b, he, hs⟩ => ⟨_, he, ?_⟩
  refine (r10_New hs).mono fun e w ⟨b2, he, hs⟩ => ⟨_, he, ite_false rfl ?_⟩
  have hR := roomR_range room
  have hx0 := aOk0 hR.1 hR.2
  generalize roomR room = c at hs hR hx0
  have fin : ∀ w (x : ArcS) (n : Nat), n ≤ 300 → ArcOk c x → Sat W w [rrR b2 c x, arcR b c (3 * n) x, old W] → hoardlaw10_ArcPlays_j3 idJ (fun v w' => v = .bool true ∧ Sat W w' [old W]) (some ⟨b, 0, none⟩) (some ⟨b2, 0, none⟩) w := by
    intro w x n hn hx hs
    have hsm := hx.lens
    have hrl := aRes_len x
    have hrl2 : aLen x = x.t1.length + x.t2.length := rfl
    have hlen := hx.len
    have hc2 := hR.2
    rw [hoardlaw10_ArcPlays_j3_def, hoardlaw10_ArcPlays_j3_raw]
    refine (arc_Keys hs (by omega)).mono fun e w ⟨k1, he, hs⟩ => ⟨_, he, ?_⟩
    refine (r10_Keys hs hx).mono fun e w ⟨k2, he, hs⟩ => ⟨_, he, ?_⟩
    refine call1_of (hoardlaw10_texts_at (a := k1) (b := k2) hs (by omega)) fun e w ⟨he, hs⟩ => ⟨_, he, ite_true (by simp) ?_⟩
    refine (arc_Ghosts hs (by omega)).mono fun e w ⟨g1, he, hs⟩ => ⟨_, he, ?_⟩
    refine (r10_Ghosts hs hx).mono fun e w ⟨g2, he, hs⟩ => ⟨_, he, ?_⟩
    have h3 : (aGhs x).length ≤ 4096 := by unfold aGhs; rw [List.length_append]; omega
    refine call1_of (hoardlaw10_texts_at (a := g1) (b := g2) hs (by omega)) fun e w ⟨he, hs⟩ => ⟨_, he, ite_true (by simp) ?_⟩
    refine call1_of (arc_Room hs) fun e w ⟨he, hs⟩ => ⟨_, he, ?_⟩
    refine call1_of (r10_Room hs) fun e w ⟨he, hs⟩ => ⟨_, he, ite_true (by simp) ?_⟩
    exact call1_of (known10 hs hT) fun e w ⟨he, hs⟩ => ⟨_, he, rfl, by exact Sat.fin hs⟩
  obtain ⟨N, hN⟩ : ∃ N : Nat, N = 201 := ⟨_, rfl⟩
  have loop : ∀ (f i : Nat) (w : World) (x : ArcS), i + f = N → ArcOk c x → Sat W w [rrR b2 c x, arcR b c (3 * i) x, old W] → hoardlaw10_ArcPlays_l1 idJ (fun v w' => v = .bool true ∧ Sat W w' [old W]) (f + 1) s0 (some ⟨b, 0, none⟩) (some ⟨b2, 0, none⟩) (i : Int) w := by
    clear hs
    intro f
    induction f with
    | zero =>
      intro i w x hi hx hs
      rw [hoardlaw10_ArcPlays_l1_raw]
      with_reducible refine ite_by (fun h1 => ?_) (fun h1 => ?_)
      · with_reducible refine ite_ltI (fun h2 => absurd h2 (by omega)) (fun h2 => ?_)
        exact fin w x i (by omega) hx hs
      · exact fin w x i (by omega) hx hs
    | succ f ih =>
      intro i w x hi hx hs
      have hn := rdb_len (s := s0) hs
      rw [hoardlaw10_ArcPlays_l1_raw]
      with_reducible refine ite_by (fun h1 => ?_) (fun h1 => ?_)
      · with_reducible refine ite_by (fun h2 => ?_) (fun h2 => ?_)
        · have hkey := hsz i (by omega) (by omega)
          rw [hoardlaw10_ArcPlays_j2_def, hoardlaw10_ArcPlays_j2_raw]
          repeat (first | with_reducible refine nilck_some ?_ | ((with_reducible refine atLd ?_); first | refine ld_b hs ?_ | refine ld_b (x := ⟨_, _, _⟩) hs ?_ | refine ld_r0 hs ?_ | refine ld_r1 hs ?_ | refine ld_rd0 ha_ hs ?_ | refine ld_rd1 ha_ hs ?_) | ((with_reducible refine isSt ?_); first | refine st_b hs fun w hs => ?_ | refine st_r0 hs fun w hs => ?_ | refine st_r1 hs fun w hs => ?_) | ((with_reducible refine isIdx ?_); first | refine idx_s hs fun b_ o_ hs => ?_ | refine idx_rd hs fun b_ o_ ha_ => ?_) | with_reducible refine newB_at hs fun b_ w hs => ?_ | ((with_reducible refine isLdS ?_); first | refine ldS_b ?_ | refine ldS_b (x := ⟨_, _, _⟩) ?_ | refine ldS_rs0 hs ?_ | refine ldS_rd0 ha_ ?_) | ((with_reducible refine isKeep ?_); first | refine keep_of hs ?_ | refine keep_imp hs ?_) | with_reducible refine when_om ?_ | with_reducible refine drawW_sat hs fun w hs => ?_)
          rw [Int.toNat_natCast]
          refine call1_of (act10 (W := W) (M := [old W]) (b := b) (b2 := b2) (N := 3 * i) (a := acts.getD i default) (by exact Sat.fin hs) hx (by omega) hkey) fun e w ⟨he, hs⟩ => ⟨_, he, ite_false rfl ?_⟩
          have hx2 := aAct_ok (a := acts.getD i default) hx (by omega)
          have hsm := hx2.lens
          have hs : Sat W w (arcR b c (3 * i + 3) (aAct c x (acts.getD i default)) :: [rrR b2 c (aAct c x (acts.getD i default)), old W]) := by exact Sat.fin hs
          refine call1_of (arc_State_in hs hT hx2 (by omega)) fun e w ⟨he, hs⟩ => ⟨_, he, ?_⟩
          refine call1_of (r10_State hs hx2) fun e w ⟨he, hs⟩ => ⟨_, he, ite_false (by rw [sEq_eq]; simp) ?_⟩
          refine call1_of (arc_Len hs (by omega)) fun e w ⟨he, hs⟩ => ⟨_, he, ?_⟩
          refine call1_of (r10_Len hs hx2) fun e w ⟨he, hs⟩ => ⟨_, he, ite_false (by simp) ?_⟩
          rw [i64_in _ (by omega)]
          exact ih (i + 1) w _ (by omega) hx2 (by exact Sat.fin hs)
        · exact fin w x i (by omega) hx hs
      · exact fin w x i (by omega) hx hs
  refine exM_of (N + 1) ?_
  exact loop N 0 w arc0 (by omega) hx0 hs

end
end Go.Proofs.YtchlicgjdlkidaaDoor
