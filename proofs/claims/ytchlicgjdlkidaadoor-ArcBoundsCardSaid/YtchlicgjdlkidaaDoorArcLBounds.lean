/- ArcBounds: the walk. -/
import Derived.Test.YtchlicgjdlkidaaDoorArc10
import Derived.Test.YtchlicgjdlkidaaDoorShalArcBounds
set_option linter.unusedVariables false
set_option linter.unusedSimpArgs false
set_option linter.unnecessarySimpa false
set_option linter.unusedSectionVars false
namespace Go.Proofs.YtchlicgjdlkidaaDoor
open Go.Hb Go.IntWalk
section
variable {W w : World} {L M : List HP} {F : HP → List HP}
set_option maxRecDepth 100000 in
theorem bounded10 {b : Nat} {c : Int} {N : Nat} {x : ArcS} (hs : Sat W w (arcR b c N x :: M)) (hx : ArcOk c x) (hN : N < 1000000) : Calls Tryd.prog id_hoardlaw10_bounded #[.pointer (some ⟨b, 0, none⟩)] w fun e w' => e = .returned (.bool true) ∧ Sat W w' (arcR b c N x :: M) := by
  refine c1 (hoardlaw10_bounded_calls ?_)
  rw [hoardlaw10_bounded_def, hoardlaw10_bounded_raw]
  have hc2 := hx.c2
  have hc1 := hx.c1
  have htot := hx.tot
  have hrn : (aRes x).length = x.t1.length + x.t2.length := by simp [aRes]
  have hgn : (aGhs x).length = x.b1.length + x.b2.length := by simp [aGhs]
  have hdis : ∀ k ∈ aGhs x, k ∉ aRes x := hx.res_nd.2.2.1
  refine (arc_Keys hs (by omega)).mono fun e w ⟨k1, he, hs⟩ => ⟨_, he, ?_⟩
  refine (arc_Ghosts hs (by omega)).mono fun e w ⟨g1, he, hs⟩ => ⟨_, he, ?_⟩
  have hs : Sat W w (recs Rec.str k1 (aRes x) :: recs Rec.str g1 (aGhs x) :: arcR b c N x :: M) := by exact Sat.fin hs
  have hk1 := rdb_len (s := k1) hs
  have hln := rdb_len (s := g1) hs
  have loop : ∀ (f i : Nat) (w : World), i + f = (aGhs x).length → Sat W w (recs Rec.str k1 (aRes x) :: recs Rec.str g1 (aGhs x) :: arcR b c N x :: M) →
      hoardlaw10_bounded_l1 idJ (fun v w' => v = .bool true ∧ Sat W w' (arcR b c N x :: M)) (f + 1) (some ⟨b, 0, none⟩) k1 g1 (i : Int) w := by
    clear hs
    intro f
    induction f with
    | zero =>
      intro i w hi hs
      rw [hoardlaw10_bounded_l1_raw]
      refine ite_false (decide_eq_false (by omega)) ?_
      rw [hoardlaw10_bounded_j2_def, hoardlaw10_bounded_j2_raw]
      refine call1_of (arc_Room hs) fun e w ⟨he, hs⟩ => ⟨_, he, ?_⟩
      rw [i64_in ((k1.n : Int) + (g1.n : Int)) (by omega), i64_in (2 * c) (by omega), decide_eq_true (show (k1.n : Int) + (g1.n : Int) ≤ 2 * c by omega)]
      exact ⟨rfl, by exact Sat.fin hs⟩
    | succ f ih =>
      intro i w hi hs
      rw [hoardlaw10_bounded_l1_raw]
      refine ite_true (decide_eq_true (by omega)) ?_
      repeat (first | with_reducible refine nilck_some ?_ | ((with_reducible refine atLd ?_); first | refine ld_b hs ?_ | refine ld_b (x := ⟨_, _, _⟩) hs ?_ | refine ld_r0 hs ?_ | refine ld_r1 hs ?_ | refine ld_rd0 ha_ hs ?_ | refine ld_rd1 ha_ hs ?_) | ((with_reducible refine isSt ?_); first | refine st_b hs fun w hs => ?_ | refine st_r0 hs fun w hs => ?_ | refine st_r1 hs fun w hs => ?_) | ((with_reducible refine isIdx ?_); first | refine idx_s hs fun b_ o_ hs => ?_ | refine idx_rd hs fun b_ o_ ha_ => ?_) | with_reducible refine newB_at hs fun b_ w hs => ?_ | ((with_reducible refine isLdS ?_); first | refine ldS_b ?_ | refine ldS_b (x := ⟨_, _, _⟩) ?_ | refine ldS_rs0 hs ?_ | refine ldS_rd0 ha_ ?_) | ((with_reducible refine isKeep ?_); first | refine keep_of hs ?_ | refine keep_imp hs ?_) | with_reducible refine when_om ?_ | with_reducible refine drawW_sat hs fun w hs => ?_)
      rw [Int.toNat_natCast]
      have hmem : (aGhs x).getD i default ∈ aGhs x := getD_mem (by omega)
      refine call1_of (has10 (s0 := k1) (xs := aRes x) hs (by omega)) fun e w ⟨he, hs⟩ => ⟨_, he, ?_⟩
      rw [decide_eq_false (hdis _ hmem)]
      refine ite_false rfl ?_
      rw [show IntKind.wrap .i64 ((i : Int) + 1) = ((i + 1 : Nat) : Int) by rw [i64_in _ (by omega)]; omega]
      exact ih (i + 1) w (by omega) (by exact Sat.fin hs)
  refine exM_of ((aGhs x).length + 1) ?_
  exact loop _ 0 w (by omega) hs
set_option maxHeartbeats 400000 in
set_option maxRecDepth 100000 in
theorem abounds_walk {room : Int} {s0 : Sl} {acts : List Act10} [hr : ReadsR W s0 act10R acts] (hT : TabW W) : Calls Tryd.prog id_hoardlaw10_ArcBounds #[.int .i64 room, .slice s0.a s0.n s0.c] W fun e w' => e = .returned (.bool true) ∧ KeptH W w' := by
  have hs := Sat.begin W
  refine law_of (hoardlaw10_ArcBounds_calls ?_)
  rw [hoardlaw10_ArcBounds_def, hoardlaw10_ArcBounds_raw]
  refine (heavy10 (s0 := s0) hs).mono fun e w ⟨hv, he, hsz, hs⟩ => ⟨_, he, ?_⟩
  refine ite_cases (fun h1 => ⟨rfl, hs⟩) (fun h1 => ?_)
  have hsz := hsz h1
  refine (arc_New_at hs).mono fun e w ⟨b, he, hs⟩ => ⟨_, he, ?_⟩
  refine (r10_New hs).mono fun e w ⟨b2, he, hs⟩ => ⟨_, he, ite_false rfl ?_⟩
  have hR := roomR_range room
  have hx0 := aOk0 hR.1 hR.2
  generalize roomR room = c at hs hR hx0
  have fin : ∀ w (x : ArcS) (n : Nat), Sat W w [rrR b2 c x, arcR b c (3 * n) x, old W] → hoardlaw10_ArcBounds_j3 idJ (fun v w' => v = .bool true ∧ Sat W w' [old W]) w := by
    intro w x n hs
    rw [hoardlaw10_ArcBounds_j3_def, hoardlaw10_ArcBounds_j3_raw]
    exact call1_of (known10 hs hT) fun e w ⟨he, hs⟩ => ⟨_, he, rfl, by exact Sat.fin hs⟩
  obtain ⟨N, hN⟩ : ∃ N : Nat, N = 201 := ⟨_, rfl⟩
  have loop : ∀ (f i : Nat) (w : World) (x : ArcS), i + f = N → ArcOk c x → Sat W w [rrR b2 c x, arcR b c (3 * i) x, old W] → hoardlaw10_ArcBounds_l1 idJ (fun v w' => v = .bool true ∧ Sat W w' [old W]) (f + 1) s0 (some ⟨b, 0, none⟩) (some ⟨b2, 0, none⟩) (i : Int) w := by
    clear hs
    intro f
    induction f with
    | zero =>
      intro i w x hi hx hs
      rw [hoardlaw10_ArcBounds_l1_raw]
      with_reducible refine ite_by (fun h1 => ?_) (fun h1 => ?_)
      · with_reducible refine ite_ltI (fun h2 => absurd h2 (by omega)) (fun h2 => ?_)
        exact fin w x i hs
      · exact fin w x i hs
    | succ f ih =>
      intro i w x hi hx hs
      have hn := rdb_len (s := s0) hs
      rw [hoardlaw10_ArcBounds_l1_raw]
      with_reducible refine ite_by (fun h1 => ?_) (fun h1 => ?_)
      · with_reducible refine ite_by (fun h2 => ?_) (fun h2 => ?_)
        · have hkey := hsz i (by omega) (by omega)
          rw [hoardlaw10_ArcBounds_j2_def, hoardlaw10_ArcBounds_j2_raw]
          repeat (first | with_reducible refine nilck_some ?_ | ((with_reducible refine atLd ?_); first | refine ld_b hs ?_ | refine ld_b (x := ⟨_, _, _⟩) hs ?_ | refine ld_r0 hs ?_ | refine ld_r1 hs ?_ | refine ld_rd0 ha_ hs ?_ | refine ld_rd1 ha_ hs ?_) | ((with_reducible refine isSt ?_); first | refine st_b hs fun w hs => ?_ | refine st_r0 hs fun w hs => ?_ | refine st_r1 hs fun w hs => ?_) | ((with_reducible refine isIdx ?_); first | refine idx_s hs fun b_ o_ hs => ?_ | refine idx_rd hs fun b_ o_ ha_ => ?_) | with_reducible refine newB_at hs fun b_ w hs => ?_ | ((with_reducible refine isLdS ?_); first | refine ldS_b ?_ | refine ldS_b (x := ⟨_, _, _⟩) ?_ | refine ldS_rs0 hs ?_ | refine ldS_rd0 ha_ ?_) | ((with_reducible refine isKeep ?_); first | refine keep_of hs ?_ | refine keep_imp hs ?_) | with_reducible refine when_om ?_ | with_reducible refine drawW_sat hs fun w hs => ?_)
          rw [Int.toNat_natCast]
          refine call1_of (act10 (W := W) (M := [old W]) (b := b) (b2 := b2) (N := 3 * i) (a := acts.getD i default) (by exact Sat.fin hs) hx (by omega) hkey) fun e w ⟨he, hs⟩ => ⟨_, he, ?_⟩
          have hx2 := aAct_ok (a := acts.getD i default) hx (by omega)
          generalize aAct c x (acts.getD i default) = y at *
          have hrl := aRes_len y; have hrl2 : aLen y = y.t1.length + y.t2.length := rfl
          have hlen := hx2.len
          refine call1_of (arc_Len2 hs hx2 (by omega)) fun e w ⟨he, hs⟩ => ⟨_, he, ?_⟩
          refine call1_of (arc_Room hs) fun e w ⟨he, hs⟩ => ⟨_, he, ?_⟩
          refine ite_false (decide_eq_false (by omega)) ?_
          refine (arc_Keys hs (by omega)).mono fun e w ⟨k1, he, hs⟩ => ⟨_, he, ?_⟩
          have hk1 := rdb_len (s := k1) hs
          refine call1_of (arc_Len2 hs hx2 (by omega)) fun e w ⟨he, hs⟩ => ⟨_, he, ?_⟩
          refine ite_false (by rw [hk1]; simp) ?_
          refine call1_of (bounded10 (W := W) (M := [rrR b2 c y, old W]) (b := b) (c := c) (N := 3 * i + 3) (x := y) (by exact Sat.fin hs) hx2 (by omega)) fun e w ⟨he, hs⟩ => ⟨_, he, ?_⟩
          refine ite_false rfl ?_
          rw [i64_in _ (by omega)]
          exact ih (i + 1) w _ (by omega) hx2 (by exact Sat.fin hs)
        · exact fin w x i hs
      · exact fin w x i hs
  refine exM_of (N + 1) ?_
  exact loop N 0 w arc0 (by omega) hx0 hs
end
end Go.Proofs.YtchlicgjdlkidaaDoor
