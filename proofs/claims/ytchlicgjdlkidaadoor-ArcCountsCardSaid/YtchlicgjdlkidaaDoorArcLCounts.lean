/- ArcCounts: the walk. -/
import Derived.Test.YtchlicgjdlkidaaDoorArc10
import Derived.Test.YtchlicgjdlkidaaDoorShalArcCounts
set_option linter.unusedVariables false
set_option linter.unusedSimpArgs false
set_option linter.unnecessarySimpa false
set_option linter.unusedSectionVars false
namespace Go.Proofs.YtchlicgjdlkidaaDoor
open Go.Hb Go.IntWalk
section
variable {W w : World} {L M : List HP} {F : HP → List HP}
set_option maxHeartbeats 1000000 in
set_option maxRecDepth 100000 in
theorem acounts_walk {room : Int} {s0 : Sl} {ks : List ByteArray} [hr : ReadsR W s0 Rec.str ks] (hT : TabW W) : Calls Tryd.prog id_hoardlaw10_ArcCounts #[.int .i64 room, .slice s0.a s0.n s0.c] W fun e w' => e = .returned (.bool true) ∧ KeptH W w' := by
  have hs := Sat.begin W
  refine law_of (hoardlaw10_ArcCounts_calls ?_)
  rw [hoardlaw10_ArcCounts_def, hoardlaw10_ArcCounts_raw]
  refine (long10 (s0 := s0) hs).mono fun e w ⟨hv, he, hsz, hs⟩ => ⟨_, he, ?_⟩
  refine ite_cases (fun h1 => ⟨rfl, hs⟩) (fun h1 => ?_)
  obtain ⟨hlen, hsz⟩ := hsz h1
  refine (arc_New_at hs).mono fun e w ⟨b, he, hs⟩ => ⟨_, he, ite_false rfl ?_⟩
  have hR := roomR_range room
  have hx0 := aOk0 hR.1 hR.2
  generalize roomR room = c at hs hR hx0
  have loop : ∀ (f i : Nat) (w : World) (x : ArcS) (came went : Nat), i + f = ks.length → ArcOk c x → came ≤ i → went + (aRes x).length = came → Sat W w [arcR b c (3 * i) x, old W] → hoardlaw10_ArcCounts_l1 idJ (fun v w' => v = .bool true ∧ Sat W w' [old W]) (f + 1) s0 (some ⟨b, 0, none⟩) (came : Int) (went : Int) (i : Int) w := by
    clear hs
    intro f
    induction f with
    | zero =>
      intro i w x came went hi hx hci hcw hs
      have hn := rdb_len (s := s0) hs
      rw [hoardlaw10_ArcCounts_l1_raw]
      refine ite_false (decide_eq_false (by omega)) ?_
      rw [hoardlaw10_ArcCounts_j3_def, hoardlaw10_ArcCounts_j3_raw]
      exact call1_of (known10 hs hT) fun e w ⟨he, hs⟩ => ⟨_, he, rfl, by exact Sat.fin hs⟩
    | succ f ih =>
      intro i w x came went hi hx hci hcw hs
      have hn := rdb_len (s := s0) hs
      rw [hoardlaw10_ArcCounts_l1_raw]
      refine ite_true (decide_eq_true (by omega)) ?_
      repeat (first | with_reducible refine nilck_some ?_ | ((with_reducible refine atLd ?_); first | refine ld_b hs ?_ | refine ld_b (x := ⟨_, _, _⟩) hs ?_ | refine ld_r0 hs ?_ | refine ld_r1 hs ?_ | refine ld_rd0 ha_ hs ?_ | refine ld_rd1 ha_ hs ?_) | ((with_reducible refine isSt ?_); first | refine st_b hs fun w hs => ?_ | refine st_r0 hs fun w hs => ?_ | refine st_r1 hs fun w hs => ?_) | ((with_reducible refine isIdx ?_); first | refine idx_s hs fun b_ o_ hs => ?_ | refine idx_rd hs fun b_ o_ ha_ => ?_) | with_reducible refine newB_at hs fun b_ w hs => ?_ | ((with_reducible refine isLdS ?_); first | refine ldS_b ?_ | refine ldS_b (x := ⟨_, _, _⟩) ?_ | refine ldS_rs0 hs ?_ | refine ldS_rd0 ha_ ?_) | ((with_reducible refine isKeep ?_); first | refine keep_of hs ?_ | refine keep_imp hs ?_) | with_reducible refine when_om ?_ | with_reducible refine drawW_sat hs fun w hs => ?_)
      rw [Int.toNat_natCast]
      have hkey := hsz _ (getD_mem (d := default) (show i < ks.length by omega))
      generalize ks.getD i default = key at *
      have hc : 0 ≤ c := by have := hx.c1; omega
      refine call2_of (arc_Access hs hx (by omega) (by omega)) fun e w ⟨l, he, hs⟩ => ⟨_, l, he, ?_⟩
      obtain ⟨hx2, hacc⟩ := aAcc_law2 hx (k := key) (by omega)
      have hl := hacc.len hx.w.res_nd hx2.w.res_nd
      have hle := hacc.le1
      have hcalm := hacc.calm
      have hln := rdb_len (s := l) hs
      generalize (aAcc c x key) = A at *
      obtain ⟨⟨hit, g⟩, y⟩ := A
      simp only at *
      have j2 : ∀ (came : Nat) (w : World), came ≤ i + 1 → went + g.length + (aRes y).length = came → Sat W w (recs Rec.str l g :: [arcR b c (3 * i + 3) y, old W]) → hoardlaw10_ArcCounts_j2 idJ (fun v w' => v = .bool true ∧ Sat W w' [old W]) (f + 1) s0 (some ⟨b, 0, none⟩) (came : Int) (went : Int) (i : Int) hit l w := by
        intro came w hci hcw hs
        rw [hoardlaw10_ArcCounts_j2_def, hoardlaw10_ArcCounts_j2_raw]
        refine call1_of (arc_Len2 hs hx2 (by omega)) fun e w ⟨he, hs⟩ => ⟨_, he, ?_⟩
        rw [show IntKind.wrap .i64 ((went : Int) + (l.n : Int)) = ((went + g.length : Nat) : Int) by rw [i64_in _ (by omega)]; omega]
        rw [show IntKind.wrap .i64 ((came : Int) - ((went + g.length : Nat) : Int)) = (((aRes y).length : Nat) : Int) by rw [i64_in _ (by omega)]; omega]
        refine ite_false (by simp) ?_
        rw [show IntKind.wrap .i64 ((i : Int) + 1) = ((i + 1 : Nat) : Int) by rw [i64_in _ (by omega)]; omega]
        refine ite_cases (fun h2 => ?_) (fun h2 => ?_)
        · have hg0 := hcalm h2
          refine ite_false (decide_eq_false (by rw [hln, hg0]; simp)) ?_
          exact ih (i + 1) w y came (went + g.length) (by omega) hx2 hci (by omega) (by exact Sat.fin hs)
        · exact ih (i + 1) w y came (went + g.length) (by omega) hx2 hci (by omega) (by exact Sat.fin hs)
      refine ite_cases (fun h2 => ?_) (fun h2 => ?_)
      · have h2 : hit = false := by simpa using h2
        rw [show IntKind.wrap .i64 ((came : Int) + 1) = ((came + 1 : Nat) : Int) by rw [i64_in _ (by omega)]; omega]
        rw [h2] at hl
        simp only [Bool.false_eq_true, if_false] at hl
        exact j2 (came + 1) w (by omega) (by omega) (by exact Sat.fin hs)
      · have h2 : hit = true := by simpa using h2
        rw [h2] at hl
        simp only [if_true] at hl
        exact j2 came w (by omega) (by omega) (by exact Sat.fin hs)
  refine exM_of (ks.length + 1) ?_
  exact loop ks.length 0 w arc0 0 0 (by omega) hx0 (Nat.le_refl _) rfl hs
end
end Go.Proofs.YtchlicgjdlkidaaDoor
