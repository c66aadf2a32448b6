/- ArcFits: the walk. -/
import Derived.Test.YtchlicgjdlkidaaDoorArc10
import Derived.Test.YtchlicgjdlkidaaDoorShalArcFits
set_option linter.unusedVariables false
set_option linter.unusedSimpArgs false
set_option linter.unnecessarySimpa false
set_option linter.unusedSectionVars false
namespace Go.Hb
theorem nodup_sub_len : ∀ {a b : List ByteArray}, a.Nodup → (∀ k ∈ a, k ∈ b) → a.length ≤ b.length
  | [], _, _, _ => by simp
  | k :: a, b, hn, hs => by
    rw [List.nodup_cons] at hn
    have h1 : ∀ j ∈ a, j ∈ gTake b k := fun j hj => gTake_mem.2 ⟨hs j (.tail _ hj), fun h => hn.1 (by rw [← h]; exact hj)⟩
    have h2 := nodup_sub_len hn.2 h1
    have h3 : (gTake b k).length < b.length := List.length_filter_lt_length_iff_exists.2 ⟨k, hs k (.head _), by simp⟩
    simp only [List.length_cons]
    omega
theorem aAcc_calm {c : Int} {x : ArcS} {k : ByteArray} (h : k ∈ aRes x ∨ (aLen x : Int) < c) : (aAcc c x k).1.2 = [] := by
  have hl : (aLen x : Int) = x.t1.length + x.t2.length := by unfold aLen; omega
  have hr : ∀ (y : ArcS) (again : Bool), y.t1 = x.t1 → y.t2 = x.t2 → (aLen x : Int) < c → (aRep c y again).1 = [] := by
    intro y again h1 h2 h3
    unfold aRep
    rw [h1, h2, if_pos (by omega)]
  by_cases hk : k ∈ aRes x
  · have e1 : aAcc c x k = ((true, []), aPush2 x k) := if_pos (mem_aRes.1 hk)
    rw [e1]
  · have h := h.elim (fun h => absurd h hk) id
    unfold aAcc
    split
    · rfl
    · split
      · exact hr _ _ rfl rfl h
      · split
        · exact hr _ _ rfl rfl h
        · unfold aComes
          split
          · exact hr _ _ rfl rfl h
          · split
            · omega
            · split
              · rfl
              · split
                · exact hr _ _ rfl rfl h
                · exact hr _ _ rfl rfl h
end Go.Hb
namespace Go.Proofs.YtchlicgjdlkidaaDoor
open Go.Hb Go.IntWalk
section
variable {W w : World} {L M : List HP} {F : HP → List HP}
set_option maxHeartbeats 1000000 in
set_option maxRecDepth 100000 in
theorem afits_walk {room : Int} {s0 : Sl} {ks : List ByteArray} [hr : ReadsR W s0 Rec.str ks] (hT : TabW W) : Calls Tryd.prog id_hoardlaw10_ArcFits #[.int .i64 room, .slice s0.a s0.n s0.c] W fun e w' => e = .returned (.bool true) ∧ KeptH W w' := by
  have hs := Sat.begin W
  refine law_of (hoardlaw10_ArcFits_calls ?_)
  rw [hoardlaw10_ArcFits_def, hoardlaw10_ArcFits_raw]
  obtain ⟨n100, hn100⟩ : ∃ n : Int, n = 100 := ⟨_, rfl⟩
  rw [← hn100]
  with_reducible refine ite_by (fun h0 => ?_) (fun h0 => ?_)
  · exact ⟨rfl, hs⟩
  with_reducible refine ite_by (fun h00 => ?_) (fun h00 => ?_)
  · exact ⟨rfl, hs⟩
  refine (long10 (s0 := s0) hs).mono fun e w ⟨hv, he, hsz, hs⟩ => ⟨_, he, ?_⟩
  refine ite_cases (fun h1 => ⟨rfl, hs⟩) (fun h1 => ?_)
  obtain ⟨hlen, hsz⟩ := hsz h1
  rw [hoardlaw10_ArcFits_j1_def, hoardlaw10_ArcFits_j1_raw]
  refine (arc_New_at hs).mono fun e w ⟨b, he, hs⟩ => ⟨_, he, ite_false rfl ?_⟩
  have hR := roomR_range room
  have hx0 := aOk0 hR.1 hR.2
  have hrr : roomR room = room := by unfold roomR; omega
  rw [hrr] at hs hR hx0
  have loop : ∀ (f i : Nat) (w : World) (x : ArcS) (I : List ByteArray) (sI : Sl), i + f = ks.length → ArcOk room x → I.Nodup → (∀ k, k ∈ I ↔ k ∈ aRes x) → I.length ≤ i → Sat W w [recs Rec.str sI I, arcR b room (3 * i) x, old W] →
      hoardlaw10_ArcFits_l2 idJ (fun v w' => v = .bool true ∧ Sat W w' [old W]) (f + 1) room s0 (some ⟨b, 0, none⟩) sI (i : Int) w := by
    clear hs
    intro f
    induction f with
    | zero =>
      intro i w x I sI hi hx hnd hm hI hs
      have hn := rdb_len (s := s0) hs
      rw [hoardlaw10_ArcFits_l2_raw]
      refine ite_false (decide_eq_false (by omega)) ?_
      rw [hoardlaw10_ArcFits_j5_def, hoardlaw10_ArcFits_j5_raw]
      exact call1_of (known10 hs hT) fun e w ⟨he, hs⟩ => ⟨_, he, rfl, by exact Sat.fin hs⟩
    | succ f ih =>
      intro i w x I sI hi hx hnd hm hI hs
      have hn := rdb_len (s := s0) hs
      have hln := rdb_len (s := sI) hs
      rw [hoardlaw10_ArcFits_l2_raw]
      refine ite_true (decide_eq_true (by omega)) ?_
      repeat (first | with_reducible refine nilck_some ?_ | ((with_reducible refine atLd ?_); first | refine ld_b hs ?_ | refine ld_b (x := ⟨_, _, _⟩) hs ?_ | refine ld_r0 hs ?_ | refine ld_r1 hs ?_ | refine ld_rd0 ha_ hs ?_ | refine ld_rd1 ha_ hs ?_) | ((with_reducible refine isSt ?_); first | refine st_b hs fun w hs => ?_ | refine st_r0 hs fun w hs => ?_ | refine st_r1 hs fun w hs => ?_) | ((with_reducible refine isIdx ?_); first | refine idx_s hs fun b_ o_ hs => ?_ | refine idx_rd hs fun b_ o_ ha_ => ?_) | with_reducible refine newB_at hs fun b_ w hs => ?_ | ((with_reducible refine isLdS ?_); first | refine ldS_b ?_ | refine ldS_b (x := ⟨_, _, _⟩) ?_ | refine ldS_rs0 hs ?_ | refine ldS_rd0 ha_ ?_) | ((with_reducible refine isKeep ?_); first | refine keep_of hs ?_ | refine keep_imp hs ?_) | with_reducible refine when_om ?_ | with_reducible refine drawW_sat hs fun w hs => ?_)
      rw [Int.toNat_natCast]
      have hkey := hsz _ (getD_mem (d := default) (show i < ks.length by omega))
      have hIl := (perm_of_mem hnd hx.w.res_nd hm).length_eq
      refine call1_of (has10 (s0 := sI) (xs := I) hs (by omega)) fun e w ⟨he, hs⟩ => ⟨_, he, ?_⟩
      have hrl := aRes_len x; have hrl2 : aLen x = x.t1.length + x.t2.length := rfl
      -- the access, once it is known that nobody goes
      have j4 : ∀ (was : Bool) (w : World) (I2 : List ByteArray) (s2 : Sl), I2.Nodup → I2.length ≤ i + 1 → (I2.length : Int) ≤ room → (∀ k, k ∈ I2 ↔ k ∈ I ∨ k = ks.getD i default) → was = decide (ks.getD i default ∈ I) → Sat W w [recs Rec.str s2 I2, arcR b room (3 * i) x, old W] →
          hoardlaw10_ArcFits_j4 idJ (fun v w' => v = .bool true ∧ Sat W w' [old W]) (f + 1) room s0 (some ⟨b, 0, none⟩) s2 (i : Int) was w := by
        intro was w I2 s2 hnd2 hI2 hI3 hm2 hwas hs
        rw [hwas]
        have hl2 := rdb_len (s := s2) hs
        rw [hoardlaw10_ArcFits_j4_def, hoardlaw10_ArcFits_j4_raw]
        repeat (first | with_reducible refine nilck_some ?_ | ((with_reducible refine atLd ?_); first | refine ld_b hs ?_ | refine ld_b (x := ⟨_, _, _⟩) hs ?_ | refine ld_r0 hs ?_ | refine ld_r1 hs ?_ | refine ld_rd0 ha_ hs ?_ | refine ld_rd1 ha_ hs ?_) | ((with_reducible refine isSt ?_); first | refine st_b hs fun w hs => ?_ | refine st_r0 hs fun w hs => ?_ | refine st_r1 hs fun w hs => ?_) | ((with_reducible refine isIdx ?_); first | refine idx_s hs fun b_ o_ hs => ?_ | refine idx_rd hs fun b_ o_ ha_ => ?_) | with_reducible refine newB_at hs fun b_ w hs => ?_ | ((with_reducible refine isLdS ?_); first | refine ldS_b ?_ | refine ldS_b (x := ⟨_, _, _⟩) ?_ | refine ldS_rs0 hs ?_ | refine ldS_rd0 ha_ ?_) | ((with_reducible refine isKeep ?_); first | refine keep_of hs ?_ | refine keep_imp hs ?_) | with_reducible refine when_om ?_ | with_reducible refine drawW_sat hs fun w hs => ?_)
        rw [Int.toNat_natCast]
        have hc : 0 ≤ room := by omega
        refine call2_of (arc_Access hs hx (by omega) (by omega)) fun e w ⟨l, he, hs⟩ => ⟨_, l, he, ?_⟩
        obtain ⟨hx2, hacc⟩ := aAcc_law2 hx (k := ks.getD i default) (by omega)
        have hl := hacc.len hx.w.res_nd hx2.w.res_nd
        have hcalm := hacc.calm
        have hhit := hacc.hits
        have hmem := hacc.mem
        have hlg := rdb_len (s := l) hs
        have hg0 : (aAcc room x (ks.getD i default)).1.2 = [] := by
          refine aAcc_calm ?_
          by_cases hno : ks.getD i default ∈ aRes x
          · exact .inl hno
          · right
            have hp : (ks.getD i default :: I).length ≤ I2.length := nodup_sub_len (List.nodup_cons.2 ⟨fun h => hno ((hm _).1 h), hnd⟩) fun k hk => by
              rw [hm2]
              rcases List.mem_cons.1 hk with h | h
              · exact .inr h
              · exact .inl h
            simp only [List.length_cons] at hp
            omega
        rw [hhit, show decide (ks.getD i default ∈ aRes x) = decide (ks.getD i default ∈ I) by congr 1; exact propext (hm _).symm]
        refine ite_false (by simp) ?_
        refine ite_false (decide_eq_false (by rw [hlg, hg0]; simp)) ?_
        refine call1_of (arc_Len2 hs hx2 (by omega)) fun e w ⟨he, hs⟩ => ⟨_, he, ?_⟩
        have hm3 : ∀ k, k ∈ I2 ↔ k ∈ aRes (aAcc room x (ks.getD i default)).2 := fun k => by
          rw [hm2, hmem, hg0, hm]
          simp
        have hl3 := (perm_of_mem hnd2 hx2.w.res_nd hm3).length_eq
        refine ite_false (by rw [hl2, hl3]; simp) ?_
        rw [show IntKind.wrap .i64 ((i : Int) + 1) = ((i + 1 : Nat) : Int) by rw [i64_in _ (by omega)]; omega]
        exact ih (i + 1) w _ I2 s2 (by omega) hx2 hnd2 hm3 hI2 (by exact Sat.fin hs)
      have hxl := hx.len
      by_cases hk : ks.getD i default ∈ I
      · rw [decide_eq_true hk]
        refine ite_false rfl ?_
        rw [hoardlaw10_ArcFits_j3_def, hoardlaw10_ArcFits_j3_raw]
        refine ite_false rfl ?_
        have hI5 : (I.length : Int) ≤ room := by omega
        have hI6 : ∀ k, k ∈ I ↔ k ∈ I ∨ k = ks.getD i default := fun k => ⟨.inl, fun h => h.elim id fun h => by rw [h]; exact hk⟩
        with_reducible refine j4 true w I sI hnd (Nat.le_succ_of_le hI) hI5 hI6 (decide_eq_true hk).symm ?_
        exact Sat.fin hs
      · rw [decide_eq_false hk]
        refine ite_true rfl ?_
        with_reducible refine ite_by (fun h5 => ?_) (fun h5 => ?_)
        · exact call1_of (known10 hs hT) fun e w ⟨he, hs⟩ => ⟨_, he, rfl, by exact Sat.fin hs⟩
        · rw [hoardlaw10_ArcFits_j3_def, hoardlaw10_ArcFits_j3_raw]
          refine ite_true rfl ?_
          repeat (first | with_reducible refine nilck_some ?_ | ((with_reducible refine atLd ?_); first | refine ld_b hs ?_ | refine ld_b (x := ⟨_, _, _⟩) hs ?_ | refine ld_r0 hs ?_ | refine ld_r1 hs ?_ | refine ld_rd0 ha_ hs ?_ | refine ld_rd1 ha_ hs ?_) | ((with_reducible refine isSt ?_); first | refine st_b hs fun w hs => ?_ | refine st_r0 hs fun w hs => ?_ | refine st_r1 hs fun w hs => ?_) | ((with_reducible refine isIdx ?_); first | refine idx_s hs fun b_ o_ hs => ?_ | refine idx_rd hs fun b_ o_ ha_ => ?_) | with_reducible refine newB_at hs fun b_ w hs => ?_ | ((with_reducible refine isLdS ?_); first | refine ldS_b ?_ | refine ldS_b (x := ⟨_, _, _⟩) ?_ | refine ldS_rs0 hs ?_ | refine ldS_rd0 ha_ ?_) | ((with_reducible refine isKeep ?_); first | refine keep_of hs ?_ | refine keep_imp hs ?_) | with_reducible refine when_om ?_ | with_reducible refine drawW_sat hs fun w hs => ?_)
          try rw [Int.toNat_natCast]
          refine app_one (s := sI) (a := ks.getD i default) hs rfl rfl rfl rfl (by decide) (by omega) fun s2 w hs2 hs => ?_
          have hnd5 : (I ++ [ks.getD i default]).Nodup := by
            rw [List.nodup_append]
            exact ⟨hnd, by simp, fun a ha b hb hab => by rw [List.mem_singleton] at hb; subst hb; exact hk (hab ▸ ha)⟩
          have hI4 : (I ++ [ks.getD i default]).length ≤ i + 1 := by simp; omega
          have hI5 : ((I ++ [ks.getD i default]).length : Int) ≤ room := by simp; omega
          have hI6 : ∀ k, k ∈ I ++ [ks.getD i default] ↔ k ∈ I ∨ k = ks.getD i default := fun k => by rw [List.mem_append, List.mem_singleton]
          with_reducible refine j4 false w (I ++ [ks.getD i default]) s2 hnd5 hI4 hI5 hI6 (decide_eq_false hk).symm ?_
          exact Sat.fin hs
  refine exM_of (ks.length + 1) ?_
  exact loop ks.length 0 w arc0 [] ⟨none, 0, 0⟩ (by omega) hx0 (by simp) (fun k => by simp [aRes, arc0]) (Nat.le_refl _) (by have hs := Sat.nilR Rec.str hs; exact Sat.fin hs)
end
end Go.Proofs.YtchlicgjdlkidaaDoor
