/- ArcEmpties: the walk. -/
import Derived.Test.YtchlicgjdlkidaaDoorArc10
import Derived.Test.YtchlicgjdlkidaaDoorShalArcEmpties
set_option linter.unusedVariables false
set_option linter.unusedSimpArgs false
set_option linter.unnecessarySimpa false
set_option linter.unusedSectionVars false
namespace Go.Proofs.YtchlicgjdlkidaaDoor
open Go.Hb Go.IntWalk
section
variable {W w : World} {L M : List HP} {F : HP → List HP}
set_option maxHeartbeats 1000000 in
set_option maxRecDepth 100000 in
theorem aempties_walk {room : Int} {s0 : Sl} {acts : List Act10} [hr : ReadsR W s0 act10R acts] (hT : TabW W) : Calls Tryd.prog id_hoardlaw10_ArcEmpties #[.int .i64 room, .slice s0.a s0.n s0.c] W fun e w' => e = .returned (.bool true) ∧ KeptH W w' := by
  have hs := Sat.begin W
  refine law_of (hoardlaw10_ArcEmpties_calls ?_)
  rw [hoardlaw10_ArcEmpties_def, hoardlaw10_ArcEmpties_raw]
  refine (heavy10 (s0 := s0) hs).mono fun e w ⟨hv, he, hsz, hs⟩ => ⟨_, he, ?_⟩
  refine ite_cases (fun h1 => ⟨rfl, hs⟩) (fun h1 => ?_)
  have hsz := hsz h1
  refine (arc_New_at hs).mono fun e w ⟨b, he, hs⟩ => ⟨_, he, ?_⟩
  refine (r10_New hs).mono fun e w ⟨b2, he, hs⟩ => ⟨_, he, ite_false rfl ?_⟩
  have hR := roomR_range room
  have hx0 := aOk0 hR.1 hR.2
  generalize roomR room = c at hs hR hx0
  have hc : 0 ≤ c := by omega
  have fin : ∀ w (x : ArcS) (n : Nat), n ≤ 300 → ArcOk c x → Sat W w [rrR b2 c x, arcR b c (3 * n) x, old W] → hoardlaw10_ArcEmpties_j3 idJ (fun v w' => v = .bool true ∧ Sat W w' [old W]) (some ⟨b, 0, none⟩) w := by
    intro w x n hn hx hs
    have hrl := aRes_len x; have hrl2 : aLen x = x.t1.length + x.t2.length := rfl
    have hlen := hx.len
    have hc2 := hR.2
    rw [hoardlaw10_ArcEmpties_j3_def, hoardlaw10_ArcEmpties_j3_raw]
    refine (arc_Keys hs (by omega)).mono fun e w ⟨k1, he, hs⟩ => ⟨_, he, ?_⟩
    have hk1 := rdb_len (s := k1) hs
    have loop : ∀ (f j : Nat) (w : World) (y : ArcS) (I : List ByteArray) (sI : Sl), j + f ≤ 1024 → I.length = f → I.Nodup → ArcOk c y → (∀ k, k ∈ I ↔ k ∈ aRes y) → Sat W w [recs Rec.str sI I, arcR b c (3 * n + j) y, old W] → hoardlaw10_ArcEmpties_l4 idJ (fun v w' => v = .bool true ∧ Sat W w' [old W]) (f + 1) (some ⟨b, 0, none⟩) sI (f : Int) w := by
      clear hs
      intro f
      induction f with
      | zero =>
        intro j w y I sI hj hI hnd hy hm hs
        have hln := rdb_len (s := sI) hs
        have hI0 : I = [] := List.length_eq_zero_iff.1 hI
        have hyl := (perm_of_mem hnd hy.w.res_nd hm).length_eq
        have hyrl := aRes_len y
        have h0 : aLen y = 0 := by rw [← hyrl, ← hyl]; exact hI
        rw [hoardlaw10_ArcEmpties_l4_raw]
        refine ite_false (decide_eq_false (by omega)) ?_
        rw [hoardlaw10_ArcEmpties_j5_def, hoardlaw10_ArcEmpties_j5_raw]
        refine call2_of (arc_Evict hs (by omega)) fun e w ⟨he, hs⟩ => ⟨_, _, he, ?_⟩
        have e1 : aEvict y = ((⟨#[]⟩, false), y) := if_pos h0
        rw [e1] at hs ⊢
        refine ite_true (by rw [hln, hI]; rfl) (ite_true rfl ?_)
        refine call1_of (arc_Len hs (by omega)) fun e w ⟨he, hs⟩ => ⟨_, he, ?_⟩
        refine ite_true (by rw [h0]; rfl) ?_
        exact call1_of (known10 hs hT) fun e w ⟨he, hs⟩ => ⟨_, he, rfl, by exact Sat.fin hs⟩
      | succ f ih =>
        intro j w y I sI hj hI hnd hy hm hs
        have hyl := (perm_of_mem hnd hy.w.res_nd hm).length_eq
        have hyrl := aRes_len y
        have h0 : aLen y ≠ 0 := by omega
        obtain ⟨ho, hev⟩ := aEvict_ok hy h0
        have hevm := hev.mem
        have hevs := hev.sub
        have hevl := hev.len
        have hevo := hev.ok
        have hyw := hy.w
        rw [hoardlaw10_ArcEmpties_l4_raw]
        refine ite_true (decide_eq_true (by omega)) ?_
        refine call2_of (arc_Evict hs (by omega)) fun e w ⟨he, hs⟩ => ⟨_, _, he, ?_⟩
        rw [ho]
        refine ite_false rfl ?_
        generalize (aEvict y).1.1 = k at *
        generalize (aEvict y).2 = z at *
        have hzrl := aRes_len z
        refine call1_of (has10 (s0 := sI) (xs := I) hs (by omega)) fun e w ⟨he, hs⟩ => ⟨_, he, ?_⟩
        rw [decide_eq_true ((hm k).2 hevs)]
        refine ite_false rfl ?_
        refine call1_of (arc_Has hs (aRes_small hyw hevs)) fun e w ⟨he, hs⟩ => ⟨_, he, ?_⟩
        rw [decide_eq_false (fun h => ((hevm k).1 h).2 rfl)]
        refine ite_false rfl ?_
        refine call1_of (arc_Len hs (by omega)) fun e w ⟨he, hs⟩ => ⟨_, he, ?_⟩
        have hwr : IntKind.wrap .i64 (((f + 1 : Nat) : Int) - 1) = (f : Int) := by rw [i64_in _ (by omega)]; omega
        rw [hwr]
        refine ite_false (by rw [show (aLen z : Int) = (f : Int) by omega]; simp) ?_
        refine (cut10 (s0 := sI) (xs := I) hs (by omega)).mono fun e w ⟨s3, he, hs⟩ => ⟨_, he, ?_⟩
        have hgl := (gTake_perm1 hnd ((hm k).2 hevs)).length_eq
        simp only [List.length_cons] at hgl
        exact ih (j + 1) w z (gTake I k) s3 (by omega) (by omega) (gTake_nodup hnd) hevo (fun q => by rw [gTake_mem, hm, hevm]) (by exact Sat.fin hs)
    refine exM_of ((aRes x).length + 1) ?_
    rw [hk1]
    exact loop (aRes x).length 0 w x (aRes x) k1 (by omega) rfl hx.w.res_nd hx (fun k => Iff.rfl) (by exact Sat.fin hs)
  obtain ⟨N, hN⟩ : ∃ N : Nat, N = 201 := ⟨_, rfl⟩
  have loop : ∀ (f i : Nat) (w : World) (x : ArcS), i + f = N → ArcOk c x → Sat W w [rrR b2 c x, arcR b c (3 * i) x, old W] → hoardlaw10_ArcEmpties_l1 idJ (fun v w' => v = .bool true ∧ Sat W w' [old W]) (f + 1) s0 (some ⟨b, 0, none⟩) (some ⟨b2, 0, none⟩) (i : Int) w := by
    clear hs
    intro f
    induction f with
    | zero =>
      intro i w x hi hx hs
      rw [hoardlaw10_ArcEmpties_l1_raw]
      with_reducible refine ite_by (fun h1 => ?_) (fun h1 => ?_)
      · with_reducible refine ite_ltI (fun h2 => absurd h2 (by omega)) (fun h2 => ?_)
        exact fin w x i (by omega) hx hs
      · exact fin w x i (by omega) hx hs
    | succ f ih =>
      intro i w x hi hx hs
      have hn := rdb_len (s := s0) hs
      rw [hoardlaw10_ArcEmpties_l1_raw]
      with_reducible refine ite_by (fun h1 => ?_) (fun h1 => ?_)
      · with_reducible refine ite_by (fun h2 => ?_) (fun h2 => ?_)
        · have hkey := hsz i (by omega) (by omega)
          rw [hoardlaw10_ArcEmpties_j2_def, hoardlaw10_ArcEmpties_j2_raw]
          repeat (first | with_reducible refine nilck_some ?_ | ((with_reducible refine atLd ?_); first | refine ld_b hs ?_ | refine ld_b (x := ⟨_, _, _⟩) hs ?_ | refine ld_r0 hs ?_ | refine ld_r1 hs ?_ | refine ld_rd0 ha_ hs ?_ | refine ld_rd1 ha_ hs ?_) | ((with_reducible refine isSt ?_); first | refine st_b hs fun w hs => ?_ | refine st_r0 hs fun w hs => ?_ | refine st_r1 hs fun w hs => ?_) | ((with_reducible refine isIdx ?_); first | refine idx_s hs fun b_ o_ hs => ?_ | refine idx_rd hs fun b_ o_ ha_ => ?_) | with_reducible refine newB_at hs fun b_ w hs => ?_ | ((with_reducible refine isLdS ?_); first | refine ldS_b ?_ | refine ldS_b (x := ⟨_, _, _⟩) ?_ | refine ldS_rs0 hs ?_ | refine ldS_rd0 ha_ ?_) | ((with_reducible refine isKeep ?_); first | refine keep_of hs ?_ | refine keep_imp hs ?_) | with_reducible refine when_om ?_ | with_reducible refine drawW_sat hs fun w hs => ?_)
          rw [Int.toNat_natCast]
          refine call1_of (act10 (W := W) (M := [old W]) (b := b) (b2 := b2) (N := 3 * i) (a := acts.getD i default) (by exact Sat.fin hs) hx (by omega) hkey) fun e w ⟨he, hs⟩ => ⟨_, he, ?_⟩
          have hx2 := aAct_ok (a := acts.getD i default) hx (by omega)
          rw [i64_in _ (by omega)]
          exact ih (i + 1) w _ (by omega) hx2 (by exact Sat.fin hs)
        · exact fin w x i (by omega) hx hs
      · exact fin w x i (by omega) hx hs
  refine exM_of (N + 1) ?_
  exact loop N 0 w arc0 (by omega) hx0 hs
end
end Go.Proofs.YtchlicgjdlkidaaDoor
