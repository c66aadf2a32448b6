/- ArcOne: the walk. -/
import Derived.Test.YtchlicgjdlkidaaDoorArc10
import Derived.Test.YtchlicgjdlkidaaDoorShalArcOne
set_option linter.unusedVariables false
set_option linter.unusedSimpArgs false
set_option linter.unnecessarySimpa false
set_option linter.unusedSectionVars false
namespace Go.Hb
theorem one_of {x : ArcS} {k : ByteArray} (h : ArcOk 1 x) (hk : k ∈ aRes x) : aRes x = [k] := by
  have h1 := h.len
  have h2 := aRes_len x
  unfold aLen at h2
  match hr : aRes x with
  | [] => rw [hr] at hk; cases hk
  | [a] => rw [hr] at hk; rw [List.mem_singleton] at hk; rw [hk]
  | a :: b :: t => rw [hr] at h2; simp only [List.length_cons] at h2; omega
theorem len_one {g : List ByteArray} (h : g.length = 1) : ∃ z, g = [z] := by
  match g, h with
  | [z], _ => exact ⟨z, rfl⟩
theorem sub_nil {g : List ByteArray} (h : ∀ z ∈ g, z ∈ ([] : List ByteArray)) : g = [] := by
  match g, h with
  | [], _ => rfl
  | z :: t, h => exact absurd (h z (.head _)) (by simp)
end Go.Hb
namespace Go.Proofs.YtchlicgjdlkidaaDoor
open Go.Hb Go.IntWalk
section
variable {W w : World} {L M : List HP} {F : HP → List HP}
set_option maxHeartbeats 400000 in
set_option maxRecDepth 100000 in
theorem aone_walk {s0 : Sl} {ks : List ByteArray} [hr : ReadsR W s0 Rec.str ks] (hT : TabW W) : Calls Tryd.prog id_hoardlaw10_ArcOne #[.slice s0.a s0.n s0.c] W fun e w' => e = .returned (.bool true) ∧ KeptH W w' := by
  have hs := Sat.begin W
  refine law_of (hoardlaw10_ArcOne_calls ?_)
  rw [hoardlaw10_ArcOne_def, hoardlaw10_ArcOne_raw]
  refine (long10 (s0 := s0) hs).mono fun e w ⟨hv, he, hsz, hs⟩ => ⟨_, he, ?_⟩
  refine ite_cases (fun h1 => ⟨rfl, hs⟩) (fun h1 => ?_)
  obtain ⟨hlen, hsz⟩ := hsz h1
  refine (arc_New_at hs).mono fun e w ⟨b, he, hs⟩ => ⟨_, he, ite_false rfl ?_⟩
  have e0 : roomR 1 = 1 := by decide
  rw [e0] at hs
  have hx0 : ArcOk 1 arc0 := aOk0 (by decide) (by decide)
  have loop : ∀ (f i : Nat) (w : World) (x : ArcS), i + f = ks.length → ArcOk 1 x → aRes x = (if i = 0 then [] else [ks.getD (i - 1) default]) → Sat W w [arcR b 1 (3 * i) x, old W] →
      hoardlaw10_ArcOne_l1 idJ (fun v w' => v = .bool true ∧ Sat W w' [old W]) (f + 1) s0 (some ⟨b, 0, none⟩) (i : Int) w := by
    clear hs
    intro f
    induction f with
    | zero =>
      intro i w x hi hx hre hs
      have hn := rdb_len (s := s0) hs
      rw [hoardlaw10_ArcOne_l1_raw]
      refine ite_false (decide_eq_false (by omega)) ?_
      rw [hoardlaw10_ArcOne_j3_def, hoardlaw10_ArcOne_j3_raw]
      exact call1_of (known10 hs hT) fun e w ⟨he, hs⟩ => ⟨_, he, rfl, by exact Sat.fin hs⟩
    | succ f ih =>
      intro i w x hi hx hre hs
      have hn := rdb_len (s := s0) hs
      rw [hoardlaw10_ArcOne_l1_raw]
      refine ite_true (decide_eq_true (by omega)) ?_
      repeat (first | with_reducible refine nilck_some ?_ | ((with_reducible refine atLd ?_); first | refine ld_b hs ?_ | refine ld_b (x := ⟨_, _, _⟩) hs ?_ | refine ld_r0 hs ?_ | refine ld_r1 hs ?_ | refine ld_rd0 ha_ hs ?_ | refine ld_rd1 ha_ hs ?_) | ((with_reducible refine isSt ?_); first | refine st_b hs fun w hs => ?_ | refine st_r0 hs fun w hs => ?_ | refine st_r1 hs fun w hs => ?_) | ((with_reducible refine isIdx ?_); first | refine idx_s hs fun b_ o_ hs => ?_ | refine idx_rd hs fun b_ o_ ha_ => ?_) | with_reducible refine newB_at hs fun b_ w hs => ?_ | ((with_reducible refine isLdS ?_); first | refine ldS_b ?_ | refine ldS_b (x := ⟨_, _, _⟩) ?_ | refine ldS_rs0 hs ?_ | refine ldS_rd0 ha_ ?_) | ((with_reducible refine isKeep ?_); first | refine keep_of hs ?_ | refine keep_imp hs ?_) | with_reducible refine when_om ?_ | with_reducible refine drawW_sat hs fun w hs => ?_)
      rw [Int.toNat_natCast]
      have hkey := hsz _ (getD_mem (d := default) (show i < ks.length by omega))
      refine call2_of (arc_Access hs hx (by omega) (by omega)) fun e w ⟨l, he, hs⟩ => ⟨_, l, he, ?_⟩
      obtain ⟨hx2, hacc⟩ := aAcc_law2 hx (k := ks.getD i default) (by omega)
      have hl := hacc.len hx.w.res_nd hx2.w.res_nd
      have hcalm := hacc.calm
      have hsub := hacc.sub
      have hhit := hacc.hits
      have hln := rdb_len (s := l) hs
      have hre2 : aRes (aAcc 1 x (ks.getD i default)).2 = [ks.getD i default] := one_of hx2 ((hacc.mem _).2 (.inr rfl))
      have hwr : IntKind.wrap .i64 ((i : Int) + 1) = ((i + 1 : Nat) : Int) := by rw [i64_in _ (by omega)]; omega
      generalize hA : aAcc 1 x (ks.getD i default) = A at *
      obtain ⟨⟨hit, g⟩, y⟩ := A
      simp only at *
      have next : ∀ (w : World) (k1 s2 : Sl), Sat W w [recs Rec.str k1 [ks.getD i default], recs Rec.str s2 [ks.getD i default], arcR b 1 (3 * i + 3) y, old W] →
          call1 .bool Tryd.prog id_hoardlaw10_texts [.slice k1.a k1.n k1.c, .slice s2.a s2.n s2.c] (fun x_25 => ite2 (!x_25) (fun w' => Value.bool false = Value.bool true ∧ Sat W w' [old W]) (hoardlaw10_ArcOne_l1 idJ (fun v w' => v = .bool true ∧ Sat W w' [old W]) (f + 1) s0 (some ⟨b, 0, none⟩) (IntKind.wrap .i64 ((i : Int) + 1)))) w := by
        intro w k1 s2 hs
        refine call1_of (hoardlaw10_texts_at (a := k1) (b := s2) hs (by simp)) fun e w ⟨he, hs⟩ => ⟨_, he, ite_false (by simp) ?_⟩
        rw [hwr]
        exact ih (i + 1) w y (by omega) hx2 (by rw [hre2]; simp) (by exact Sat.fin hs)
      have tl : ∀ (w : World), Sat W w [recs Rec.str l g, arcR b 1 (3 * i + 3) y, old W] →
          idx s0.a s0.n (i : Int) (fun b_20 o_21 => ldS (fun w' => Sat W w' [recs Rec.str l g, old W]) .str b_20 (o_21 + (i : Int).toNat * 1) fun (x_22 : ByteArray) =>
            allW [
            (call1 .slc Tryd.prog id_arc_Engine_Keys [.pointer (some ⟨b, 0, none⟩)] fun (x_23 : Sl) =>
            keepS true (fun w' => Sat W w' [recs Rec.str l g, old W]) <|
            newB [.string x_22] ty_string fun b_24 =>
            call1 .bool Tryd.prog id_hoardlaw10_texts [.slice x_23.a x_23.n x_23.c, .slice (some ⟨b_24, 0, none⟩) 1 1] fun (x_25 : Bool) =>
            ite2 (!x_25) (fun w' => Value.bool false = Value.bool true ∧ Sat W w' [old W]) (hoardlaw10_ArcOne_l1 idJ (fun v w' => v = .bool true ∧ Sat W w' [old W]) (f + 1) s0 (some ⟨b, 0, none⟩) (IntKind.wrap .i64 ((i : Int) + 1)))),
            (newB [.string x_22] ty_string fun b_26 =>
            call1 .slc Tryd.prog id_arc_Engine_Keys [.pointer (some ⟨b, 0, none⟩)] fun (x_27 : Sl) =>
            keepS true (fun w' => Sat W w' [recs Rec.str l g, old W]) <|
            call1 .bool Tryd.prog id_hoardlaw10_texts [.slice x_27.a x_27.n x_27.c, .slice (some ⟨b_26, 0, none⟩) 1 1] fun (x_28 : Bool) =>
            ite2 (!x_28) (fun w' => Value.bool false = Value.bool true ∧ Sat W w' [old W]) (hoardlaw10_ArcOne_l1 idJ (fun v w' => v = .bool true ∧ Sat W w' [old W]) (f + 1) s0 (some ⟨b, 0, none⟩) (IntKind.wrap .i64 ((i : Int) + 1))))]) w := by
        intro w hs
        iterate 2 (first | with_reducible refine nilck_some ?_ | ((with_reducible refine atLd ?_); first | refine ld_b hs ?_ | refine ld_b (x := ⟨_, _, _⟩) hs ?_ | refine ld_r0 hs ?_ | refine ld_r1 hs ?_ | refine ld_rd0 ha_ hs ?_ | refine ld_rd1 ha_ hs ?_) | ((with_reducible refine isSt ?_); first | refine st_b hs fun w hs => ?_ | refine st_r0 hs fun w hs => ?_ | refine st_r1 hs fun w hs => ?_) | ((with_reducible refine isIdx ?_); first | refine idx_s hs fun b_ o_ hs => ?_ | refine idx_rd hs fun b_ o_ ha_ => ?_) | with_reducible refine newB_at hs fun b_ w hs => ?_ | ((with_reducible refine isLdS ?_); first | refine ldS_b ?_ | refine ldS_b (x := ⟨_, _, _⟩) ?_ | refine ldS_rs0 hs ?_ | refine ldS_rd0 ha_ ?_) | ((with_reducible refine isKeep ?_); first | refine keep_of hs ?_ | refine keep_imp hs ?_) | with_reducible refine when_om ?_ | with_reducible refine drawW_sat hs fun w hs => ?_)
        rw [Int.toNat_natCast]
        refine ⟨?_, ?_⟩
        · refine (arc_Keys hs (by omega)).mono fun e w ⟨k1, he, hs⟩ => ⟨_, he, ?_⟩
          rw [hre2] at hs
          refine keep_imp hs ?_
          refine newB_at hs fun b3 w hs => ?_
          have hs := Sat.blkS (b := b3) Rec.str [ks.getD i default] hs rfl rfl
          exact next w k1 ⟨some ⟨b3, 0, none⟩, 1, 1⟩ (by exact Sat.fin hs)
        · refine newB_at hs fun b3 w hs => ?_
          have hs := Sat.blkS (b := b3) Rec.str [ks.getD i default] hs rfl rfl
          refine (arc_Keys hs (by omega)).mono fun e w ⟨k1, he, hs⟩ => ⟨_, he, ?_⟩
          rw [hre2] at hs
          refine keep_imp hs ?_
          exact next w k1 ⟨some ⟨b3, 0, none⟩, 1, 1⟩ (by exact Sat.fin hs)
      have hag : hit = decide (0 < i ∧ ks.getD (i - 1) default = ks.getD i default) := by
        rw [hhit, hre]
        by_cases h0 : i = 0
        · rw [if_pos h0, decide_eq_false (by simp), decide_eq_false (by omega)]
        · rw [if_neg h0]
          congr 1
          rw [List.mem_singleton]
          exact propext ⟨fun h => ⟨by omega, h.symm⟩, fun h => h.2.symm⟩
      have j2 : ∀ (again : Bool) (w : World), again = hit → Sat W w [recs Rec.str l g, arcR b 1 (3 * i + 3) y, old W] → hoardlaw10_ArcOne_j2 idJ (fun v w' => v = .bool true ∧ Sat W w' [old W]) (f + 1) s0 (some ⟨b, 0, none⟩) (i : Int) hit l again w := by
        clear hs
        intro again w hah hs
        subst hah
        rw [hoardlaw10_ArcOne_j2_def, hoardlaw10_ArcOne_j2_raw]
        refine drawW_only [recs Rec.str l g, old W] hs fun w hs => ?_
        refine ite_false (by simp) ?_
        refine ite_cases (fun h2 => ?_) (fun h2 => ?_)
        · have h2 := of_decide_eq_true h2
          have hi0 : i ≠ 0 := by omega
          rw [if_neg hi0] at hre
          refine Or.elim (Bool.eq_false_or_eq_true again) (fun hb => ?_) (fun hb => ?_)
          · have hg0 := hcalm hb
            with_reducible refine ite_false (by simp [hln, hg0]) ?_
            refine keep_imp hs ?_
            with_reducible refine ite_false (by simp [hb]) ?_
            with_reducible exact tl w hs
          · rw [hre, hre2, hb] at hl
            simp only [List.length_cons, List.length_nil, Bool.false_eq_true, if_false] at hl
            have hgl : g.length = 1 := by omega
            obtain ⟨z, hz⟩ := len_one hgl
            have hzp : z = ks.getD (i - 1) default := by
              have := hsub z (by rw [hz]; simp)
              rw [hre, List.mem_singleton] at this
              exact this
            have hln1 : l.n = 1 := by rw [hln, hz]; rfl
            with_reducible refine ite_true (by simp [hln1]) ?_
            have hwp : IntKind.wrap .i64 ((i : Int) - 1) = ((i - 1 : Nat) : Int) := by rw [i64_in _ (by omega)]; omega
            have hix : (if IntKind.wrap .i64 ((i : Int) - 1) > 0 then IntKind.wrap .i64 ((i : Int) - 1) else 0) = ((i - 1 : Nat) : Int) := by rw [hwp]; split <;> omega
            rw [hix]
            have hgz : g.getD (Int.toNat 0) default = ks.getD (i - 1) default := by rw [hz, hzp]; rfl
            repeat (first | with_reducible refine nilck_some ?_ | ((with_reducible refine atLd ?_); first | refine ld_b hs ?_ | refine ld_b (x := ⟨_, _, _⟩) hs ?_ | refine ld_r0 hs ?_ | refine ld_r1 hs ?_ | refine ld_rd0 ha_ hs ?_ | refine ld_rd1 ha_ hs ?_) | ((with_reducible refine isSt ?_); first | refine st_b hs fun w hs => ?_ | refine st_r0 hs fun w hs => ?_ | refine st_r1 hs fun w hs => ?_) | ((with_reducible refine isIdx ?_); first | refine idx_s hs fun b_ o_ hs => ?_ | refine idx_rd hs fun b_ o_ ha_ => ?_) | with_reducible refine newB_at hs fun b_ w hs => ?_ | ((with_reducible refine isLdS ?_); first | refine ldS_b ?_ | refine ldS_b (x := ⟨_, _, _⟩) ?_ | refine ldS_rs0 hs ?_ | refine ldS_rd0 ha_ ?_) | ((with_reducible refine isKeep ?_); first | refine keep_of hs ?_ | refine keep_imp hs ?_) | with_reducible refine when_om ?_ | with_reducible refine drawW_sat hs fun w hs => ?_)
            rw [Int.toNat_natCast, hgz]
            with_reducible refine ite_false (by simp [hb, sEq_eq]) ?_
            with_reducible refine tl w ?_
            exact Sat.fin hs
        · have h2 := of_decide_eq_false h2
          have hi0 : i = 0 := by omega
          rw [if_pos hi0] at hre
          have hg0 : g = [] := sub_nil fun z hz => by have := hsub z hz; rw [hre] at this; exact this
          with_reducible refine ite_false (by simp [hln, hg0]) ?_
          refine keep_imp hs ?_
          with_reducible refine ite_false (by simp) ?_
          with_reducible exact tl w hs
      have hs : Sat W w [recs Rec.str l g, arcR b 1 (3 * i + 3) y, old W] := by exact Sat.fin hs
      refine drawW_only [old W] hs fun w hs => ?_
      refine ite_cases (fun h2 => ?_) (fun h2 => ?_)
      · have h2 := of_decide_eq_true h2
        have hwp : IntKind.wrap .i64 ((i : Int) - 1) = ((i - 1 : Nat) : Int) := by rw [i64_in _ (by omega)]; omega
        rw [hwp]
        repeat (first | with_reducible refine nilck_some ?_ | ((with_reducible refine atLd ?_); first | refine ld_b hs ?_ | refine ld_b (x := ⟨_, _, _⟩) hs ?_ | refine ld_r0 hs ?_ | refine ld_r1 hs ?_ | refine ld_rd0 ha_ hs ?_ | refine ld_rd1 ha_ hs ?_) | ((with_reducible refine isSt ?_); first | refine st_b hs fun w hs => ?_ | refine st_r0 hs fun w hs => ?_ | refine st_r1 hs fun w hs => ?_) | ((with_reducible refine isIdx ?_); first | refine idx_s hs fun b_ o_ hs => ?_ | refine idx_rd hs fun b_ o_ ha_ => ?_) | with_reducible refine newB_at hs fun b_ w hs => ?_ | ((with_reducible refine isLdS ?_); first | refine ldS_b ?_ | refine ldS_b (x := ⟨_, _, _⟩) ?_ | refine ldS_rs0 hs ?_ | refine ldS_rd0 ha_ ?_) | ((with_reducible refine isKeep ?_); first | refine keep_of hs ?_ | refine keep_imp hs ?_) | with_reducible refine when_om ?_ | with_reducible refine drawW_sat hs fun w hs => ?_)
        simp only [Int.toNat_natCast]
        with_reducible refine j2 _ w ?_ hs
        rw [hag, sEq_eq]
        congr 1
        exact propext ⟨fun h => ⟨by omega, h⟩, fun h => h.2⟩
      · refine keep_imp hs ?_
        have h2 := of_decide_eq_false h2
        with_reducible refine j2 false w ?_ hs
        rw [hag, decide_eq_false (by omega)]
  refine exM_of (ks.length + 1) ?_
  exact loop ks.length 0 w arc0 (by omega) hx0 (by simp [aRes, arc0]) hs
end
end Go.Proofs.YtchlicgjdlkidaaDoor
