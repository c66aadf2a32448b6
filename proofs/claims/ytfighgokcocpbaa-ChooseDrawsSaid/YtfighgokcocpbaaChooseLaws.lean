/- ChoosePlays, ChooseHolds, ChooseEven, ChooseOfNothing, ChooseDraws: walks. -/
import Derived.Test.YtfighgokcocpbaaChoose
import Derived.Test.YtfighgokcocpbaaWeighPure
set_option linter.unusedVariables false
set_option linter.unusedSimpArgs false
set_option linter.unnecessarySimpa false
set_option linter.unusedSectionVars false
namespace Go.Hb
structure Act20 where
  kind : Int
  n : Int
  all : Int
  g0 : Int
  g1 : Int
  g2 : Int
  g3 : Int
  g4 : Int
instance : Inhabited Act20 := ⟨⟨0, 0, 0, 0, 0, 0, 0, 0⟩⟩
def act20R : Rec Act20 := ⟨8, fun a => [.int .i64 a.kind, .int .i64 a.n, .int .i64 a.all, .int .i64 a.g0, .int .i64 a.g1, .int .i64 a.g2, .int .i64 a.g3, .int .i64 a.g4], fun _ => rfl⟩
instance : PosR act20R := ⟨by decide⟩
def act20ok (a : Act20) : Prop := True
theorem of_act20 (x : List Value) (h : okRow [.int .i64, .int .i64, .int .i64, .int .i64, .int .i64, .int .i64, .int .i64, .int .i64] x) : ∃ a, x = act20R.cells a ∧ act20ok a := by
  obtain ⟨v0, v1, v2, v3, v4, v5, v6, v7, rfl⟩ : ∃ v0 v1 v2 v3 v4 v5 v6 v7, x = [v0, v1, v2, v3, v4, v5, v6, v7] := by
    have hl := okRow_len h
    match x, hl with
    | [v0, v1, v2, v3, v4, v5, v6, v7], _ => exact ⟨v0, v1, v2, v3, v4, v5, v6, v7, rfl⟩
  obtain ⟨h0, h1, h2, h3, h4, h5, h6, h7, _⟩ := h
  obtain ⟨k0, rfl, _⟩ := h0
  obtain ⟨k1, rfl, _⟩ := h1
  obtain ⟨k2, rfl, _⟩ := h2
  obtain ⟨k3, rfl, _⟩ := h3
  obtain ⟨k4, rfl, _⟩ := h4
  obtain ⟨k5, rfl, _⟩ := h5
  obtain ⟨k6, rfl, _⟩ := h6
  obtain ⟨k7, rfl, _⟩ := h7
  exact ⟨⟨k0, k1, k2, k3, k4, k5, k6, k7⟩, rfl, trivial⟩
end Go.Hb
namespace Go.Proofs.Ytfighgokcocpbaa
open Go.Hb Go.IntWalk
theorem okD_of {ds : List Int} (h : ∀ d ∈ ds, okK .u32 d) : okD ds := by
  intro k
  by_cases hk : k < ds.length
  · have h1 := h _ (List.getElem_mem hk)
    rw [List.getD_eq_getElem?_getD, List.getElem?_eq_getElem hk]
    simpa [okK, Lit.wf, IntKind.min, IntKind.max, IntKind.signed, IntKind.bits] using h1
  · rw [List.getD_eq_getElem?_getD, List.getElem?_eq_none (by omega)]
    decide
theorem u32s_flat (ds : List Int) : (Rec.int .u32).flat ds = u32s ds := by
  induction ds with
  | nil => rfl
  | cons d ds ih =>
    show Value.int .u32 d :: (Rec.int .u32).flat ds = Value.int .u32 d :: u32s ds
    rw [ih]
theorem okD_nil : okD [] := fun k => by simp
theorem start_is5 : is5L startL = true := by decide +kernel
theorem calm_pick {ws : List Int} (hi : is5L ws = true) (all d : Int) : pick5L (nextW ws 0 0 0 0 0 all) d = pick5L ws d := by
  unfold pick5L
  rw [calm hi all 0 (by omega), calm hi all 1 (by omega), calm hi all 2 (by omega), calm hi all 3 (by omega), calm hi all 4 (by omega)]
theorem start_pick : pick5L startL 0 = 0 := by decide +kernel
theorem chForce_ws (x : ChS) (k : Int) : (chForce x k).2.ws = x.ws ∧ (chForce x k).2.k = x.k ∧ (0 ≤ x.n → 0 ≤ (chForce x k).2.n ∧ (chForce x k).2.n ≤ x.n) := by
  unfold chForce
  split
  · exact ⟨rfl, rfl, fun h => ⟨by simp, by simpa using h⟩⟩
  · exact ⟨rfl, rfl, fun h => by simp only; omega⟩
section
variable {W w : World} {L M : List HP} {F : HP → List HP}
theorem tnew_nil (hs : Sat W w L) : Calls Try.prog id_tape_New #[.slice none 0 0] w fun e w' => ∃ b, e = .returned (.pointer (some ⟨b, 0, none⟩)) ∧ Sat W w' (tapeR b [] 0 :: L) :=
  tnew_at (s0 := ⟨none, 0, 0⟩) (ds := []) hs (fun w h => rfl) rfl (by simp)
theorem known20 (hs : Sat W w L) : Calls Try.prog id_hoardlaw20_known #[] w fun e w' => e = .returned (.bool true) ∧ Sat W w' L := by
  refine c1 (hoardlaw20_known_calls ?_)
  rw [hoardlaw20_known_def, hoardlaw20_known_raw]
  refine (tnew_nil hs).mono fun e w ⟨tb, he, hs⟩ => ⟨_, he, ?_⟩
  refine (ch_New (kind := 1) (hold := 2) hs).mono fun e w h => ?_
  rcases h with ⟨h1, _, _⟩ | ⟨_, h1, _, _⟩ | ⟨_, _, b, he, hs⟩
  · omega
  · omega
  refine ⟨_, _, he, ite_false rfl (ite_false rfl ?_)⟩
  rw [hoardlaw20_known_j1_def, hoardlaw20_known_j1_raw]
  have hp1 : pick5L (nextW startL 0 0 0 0 0 0) (([] : List Int).getD 0 0) = 0 := by rw [calm_pick start_is5]; exact start_pick
  have his1 := nextW_is startL 0 0 0 0 0 0
  have hp2 : pick5L (nextW (nextW startL 0 0 0 0 0 0) 0 0 0 0 0 0) (([] : List Int).getD 1 0) = 0 := by rw [calm_pick his1]; exact hp1
  refine call2_of (ch_Epoch (x := ⟨1, startL, 1, 0, 0⟩) hs start_is5 (by simp) (by simp) okD_nil (by simp) 0 0 0 0 0 0) fun e w ⟨he, hs⟩ => ⟨_, _, he, ?_⟩
  rw [hp1] at hs ⊢
  generalize nextW startL 0 0 0 0 0 0 = ws1 at *
  have e1 : chStep 2 0 ws1 ⟨1, startL, 1, 0, 0⟩ = ((0, false), ⟨1, ws1, 0, 1, 1⟩) := rfl
  rw [e1] at hs ⊢
  refine call2_of (ch_Epoch (x := ⟨1, ws1, 0, 1, 1⟩) hs his1 (by simp) (by simp) okD_nil (by simp) 0 0 0 0 0 0) fun e w ⟨he, hs⟩ => ⟨_, _, he, ?_⟩
  rw [hp2] at hs ⊢
  generalize nextW ws1 0 0 0 0 0 0 = ws2 at *
  have e2 : chStep 2 0 ws2 ⟨1, ws1, 0, 1, 1⟩ = ((0, true), ⟨0, ws2, 0, 0, 2⟩) := rfl
  rw [e2] at hs ⊢
  refine ite_true rfl (ite_true rfl (ite_true rfl (ite_true rfl ?_)))
  refine call1_of (ch_Current hs) fun e w ⟨he, hs⟩ => ⟨_, he, ?_⟩
  exact ⟨rfl, by exact Sat.fin hs⟩

/-! a nil Chooser -/
theorem cnothing_walk {kind hold : Int} : Calls Try.prog id_hoardlaw20_ChooseOfNothing #[.int .i64 kind, .int .i64 hold] W fun e w' => e = .returned (.bool true) ∧ KeptH W w' := by
  have hs := Sat.begin W
  refine law_of (hoardlaw20_ChooseOfNothing_calls ?_)
  rw [hoardlaw20_ChooseOfNothing_def, hoardlaw20_ChooseOfNothing_raw]
  have hE : ∀ w, Sat W w [old W] → Calls Try.prog id_choose_Chooser_Epoch #[.pointer none, .agg #[.int .i64 0, .int .i64 0, .int .i64 0, .int .i64 0, .int .i64 0], .int .i64 0] w fun e w' => e = .returned (.tuple #[.int .i64 0, .bool false]) ∧ Sat W w' [old W] := by
    intro w hs
    refine c1 (choose_Chooser_Epoch_calls ?_)
    rw [choose_Chooser_Epoch_def, choose_Chooser_Epoch_raw]
    refine newB_at hs fun bg w hs => ?_
    exact ite_true rfl ⟨rfl, by exact Sat.fin hs⟩
  have hS : ∀ w, Sat W w [old W] → Calls Try.prog id_choose_Chooser_Streak #[.pointer none] w fun e w' => e = .returned (.tuple #[.int .i64 0, .int .i64 0]) ∧ Sat W w' [old W] := by
    intro w hs
    refine c1 (choose_Chooser_Streak_calls ?_)
    rw [choose_Chooser_Streak_def, choose_Chooser_Streak_raw]
    exact ite_true rfl ⟨rfl, hs⟩
  have hF : ∀ w, Sat W w [old W] → Calls Try.prog id_choose_Chooser_Force #[.pointer none, .int .i64 kind] w fun e w' => e = .returned (.int .i64 1) ∧ Sat W w' [old W] := by
    intro w hs
    refine c1 (choose_Chooser_Force_calls ?_)
    rw [choose_Chooser_Force_def, choose_Chooser_Force_raw]
    exact ite_true rfl ⟨rfl, hs⟩
  have hC : ∀ w, Sat W w [old W] → Calls Try.prog id_choose_Chooser_Current #[.pointer none] w fun e w' => e = .returned (.int .i64 0) ∧ Sat W w' [old W] := by
    intro w hs
    refine c1 (choose_Chooser_Current_calls ?_)
    rw [choose_Chooser_Current_def, choose_Chooser_Current_raw]
    exact ite_true rfl ⟨rfl, hs⟩
  refine call2_of (hE _ hs) fun e w ⟨he, hs⟩ => ⟨_, _, he, ?_⟩
  refine call2_of (hS w hs) fun e w ⟨he, hs⟩ => ⟨_, _, he, ?_⟩
  have j2 : ∀ (w : World) (x : Option Addr) (e want : Int), e = want → (x.isNone = (want != 0)) → Sat W w [old W] → hoardlaw20_ChooseOfNothing_j2 idJ (fun v w' => v = .bool true ∧ Sat W w' [old W]) kind none 0 false 0 0 x e want w := by
    intro w x e want h1 h2 hs
    rw [hoardlaw20_ChooseOfNothing_j2_def, hoardlaw20_ChooseOfNothing_j2_raw]
    refine ite_true rfl (ite_true rfl ?_)
    refine call1_of (hF w hs) fun e w ⟨he, hs⟩ => ⟨_, he, ite_true rfl ?_⟩
    refine call1_of (hC w hs) fun e w ⟨he, hs⟩ => ⟨_, he, ite_true rfl (ite_true rfl (ite_true rfl (ite_true (by rw [h1]; simp) (ite_true (by rw [h2]; simp) ?_))))⟩
    exact call1_of (known20 hs) fun e w ⟨he, hs⟩ => ⟨_, he, rfl, hs⟩
  refine (ch_New (kind := kind) (hold := hold) hs).mono fun e w h => ?_
  rcases h with ⟨h1, he, hs⟩ | ⟨h1, h2, he, hs⟩ | ⟨h1, h2, b, he, hs⟩
  · refine ⟨_, _, he, ?_⟩
    (first | with_reducible refine ite_ltI (fun h3 => ?_) (fun h3 => ?_) | with_reducible refine ite_leI (fun h3 => ?_) (fun h3 => ?_) | with_reducible refine ite_gtI (fun h3 => ?_) (fun h3 => ?_) | with_reducible refine ite_geI (fun h3 => ?_) (fun h3 => ?_) | with_reducible refine ite_eqI (fun h3 => ?_) (fun h3 => ?_) | with_reducible refine ite_neI (fun h3 => ?_) (fun h3 => ?_) | with_reducible refine ite_eqS (fun h3 => ?_) (fun h3 => ?_) | with_reducible refine ite_neS (fun h3 => ?_) (fun h3 => ?_) | with_reducible refine ite_dec (fun h3 => ?_) (fun h3 => ?_) | with_reducible refine ite_ndec (fun h3 => ?_) (fun h3 => ?_) | with_reducible refine ite_some (fun i_ h3 => ?_) (fun h3 => ?_) | with_reducible refine ite_nsome (fun h3 => ?_) (fun i_ h3 => ?_) | with_reducible refine ite_cases (fun h3 => ?_) (fun h3 => ?_))
    · rw [hoardlaw20_ChooseOfNothing_j1_def, hoardlaw20_ChooseOfNothing_j1_raw]
      with_reducible refine ite_true rfl ?_
      with_reducible exact j2 w none 4 4 rfl (by decide) hs
    · rw [hoardlaw20_ChooseOfNothing_j1_def, hoardlaw20_ChooseOfNothing_j1_raw]
      with_reducible refine ite_true (decide_eq_true (by omega)) ?_
      with_reducible exact j2 w none 4 4 rfl (by decide) hs
  · refine ⟨_, _, he, ite_false (decide_eq_false (by omega)) ?_⟩
    rw [hoardlaw20_ChooseOfNothing_j1_def, hoardlaw20_ChooseOfNothing_j1_raw]
    refine ite_false (decide_eq_false (by omega)) ?_
    (first | with_reducible refine ite_ltI (fun h3 => ?_) (fun h3 => ?_) | with_reducible refine ite_leI (fun h3 => ?_) (fun h3 => ?_) | with_reducible refine ite_gtI (fun h3 => ?_) (fun h3 => ?_) | with_reducible refine ite_geI (fun h3 => ?_) (fun h3 => ?_) | with_reducible refine ite_eqI (fun h3 => ?_) (fun h3 => ?_) | with_reducible refine ite_neI (fun h3 => ?_) (fun h3 => ?_) | with_reducible refine ite_eqS (fun h3 => ?_) (fun h3 => ?_) | with_reducible refine ite_neS (fun h3 => ?_) (fun h3 => ?_) | with_reducible refine ite_dec (fun h3 => ?_) (fun h3 => ?_) | with_reducible refine ite_ndec (fun h3 => ?_) (fun h3 => ?_) | with_reducible refine ite_some (fun i_ h3 => ?_) (fun h3 => ?_) | with_reducible refine ite_nsome (fun h3 => ?_) (fun i_ h3 => ?_) | with_reducible refine ite_cases (fun h3 => ?_) (fun h3 => ?_))
    · with_reducible exact j2 w none 1 1 rfl (by decide) hs
    · refine ite_true (decide_eq_true (by omega)) ?_
      with_reducible exact j2 w none 1 1 rfl (by decide) hs
  · refine ⟨_, _, he, ite_false (decide_eq_false (by omega)) ?_⟩
    rw [hoardlaw20_ChooseOfNothing_j1_def, hoardlaw20_ChooseOfNothing_j1_raw]
    refine ite_false (decide_eq_false (by omega)) (ite_false (decide_eq_false (by omega)) (ite_false (decide_eq_false (by omega)) ?_))
    with_reducible exact j2 w (some ⟨b, 0, none⟩) 0 0 rfl rfl (by exact Sat.fin hs)

/-! the draws, even -/
theorem ceven_walk {d : Int} (hd : okK .u32 d) : Calls Try.prog id_hoardlaw20_ChooseEven #[.int .u32 d] W fun e w' => e = .returned (.bool true) ∧ KeptH W w' := by
  have hs := Sat.begin W
  refine law_of (hoardlaw20_ChooseEven_calls ?_)
  rw [hoardlaw20_ChooseEven_def, hoardlaw20_ChooseEven_raw]
  refine newB_at hs fun b1 w hs => ?_
  have hok : okD [d] := okD_of fun x hx => by rw [List.mem_singleton] at hx; subst hx; exact hd
  have hdd := hok 0
  simp only [List.getD_cons_zero] at hdd
  refine (tnew_at (ds := [d]) (s0 := ⟨some ⟨b1, 0, none⟩, 1, 1⟩) hs (fun w h => rd_blk 0 h rfl rfl) rfl (by simp)).mono fun e w ⟨tb, he, hs⟩ => ⟨_, he, ?_⟩
  refine (ch_New (kind := 0) (hold := 256) hs).mono fun e w h => ?_
  rcases h with ⟨h1, _, _⟩ | ⟨_, h1, _, _⟩ | ⟨_, _, b, he, hs⟩
  · omega
  · omega
  refine ⟨_, _, he, ite_false rfl (ite_false rfl ?_)⟩
  rw [hoardlaw20_ChooseEven_j1_def, hoardlaw20_ChooseEven_j1_raw]
  refine call2_of (ch_Epoch (x := ⟨0, startL, 0, 0, 0⟩) hs start_is5 (by simp) (by simp) hok (by simp) 0 0 0 0 0 0) fun e w ⟨he, hs⟩ => ⟨_, _, he, ?_⟩
  have hp : pick5L (nextW startL 0 0 0 0 0 0) ([d].getD 0 0) = pick5L startL d := calm_pick start_is5 _ _
  rw [(chStep_ws _ _ _ _).2.2.1, hp]
  have hs : Sat W w [old W] := by exact Sat.fin hs
  clear hp
  obtain ⟨A1, hA1⟩ : ∃ a : Int, a = 858993460 := ⟨_, rfl⟩
  obtain ⟨A2, hA2⟩ : ∃ a : Int, a = 1717986919 := ⟨_, rfl⟩
  obtain ⟨A3, hA3⟩ : ∃ a : Int, a = 2576980378 := ⟨_, rfl⟩
  obtain ⟨A4, hA4⟩ : ∃ a : Int, a = 3435973837 := ⟨_, rfl⟩
  have hpk : pick5L startL d = if A4 ≤ d then 4 else if A3 ≤ d then 3 else if A2 ≤ d then 2 else if A1 ≤ d then 1 else 0 := by
    unfold pick5L pick5 startL
    simp only [List.getD_cons_zero, List.getD_cons_succ, IntKind.wrap_u64, cond_eq_ite, decide_eq_true_eq]
    repeat' split
    all_goals omega
  generalize pick5L startL d = k at hpk ⊢
  have hw : IntKind.wrap .u64 d = d := by rw [IntKind.wrap_u64]; omega
  have fin : ∀ w (k want : Int), k = want → Sat W w [old W] → hoardlaw20_ChooseEven_j3 idJ (fun v w' => v = .bool true ∧ Sat W w' [old W]) k want w := by
    intro w k want h hs
    rw [hoardlaw20_ChooseEven_j3_def, hoardlaw20_ChooseEven_j3_raw]
    refine ite_true (by rw [h]; simp) ?_
    exact call1_of (known20 hs) fun e w ⟨he, hs⟩ => ⟨_, he, rfl, hs⟩
  have w1 : IntKind.wrap .u64 ((IntKind.wrap .u64 ((1 : Int) * (858993459 : Int))) + (1 : Int)) = A1 := by rw [hA1]; decide
  have w2 : IntKind.wrap .u64 ((IntKind.wrap .u64 ((2 : Int) * (858993459 : Int))) + (1 : Int)) = A2 := by rw [hA2]; decide
  have w3 : IntKind.wrap .u64 ((IntKind.wrap .u64 ((3 : Int) * (858993459 : Int))) + (1 : Int)) = A3 := by rw [hA3]; decide
  have w4 : IntKind.wrap .u64 ((IntKind.wrap .u64 ((4 : Int) * (858993459 : Int))) + (1 : Int)) = A4 := by rw [hA4]; decide
  have v1 : IntKind.wrap .u64 ((1 : Int) + 1) = 2 := by decide
  have v2 : IntKind.wrap .u64 ((2 : Int) + 1) = 3 := by decide
  have v3 : IntKind.wrap .u64 ((3 : Int) + 1) = 4 := by decide
  have v4 : IntKind.wrap .u64 ((4 : Int) + 1) = 5 := by decide
  have u1 : IntKind.wrap .i64 (1 : Int) = 1 := by decide
  have u2 : IntKind.wrap .i64 (2 : Int) = 2 := by decide
  have u3 : IntKind.wrap .i64 (3 : Int) = 3 := by decide
  have u4 : IntKind.wrap .i64 (4 : Int) = 4 := by decide
  refine exM_of 5 ?_
  have l5 : ∀ (k want : Int), k = want → hoardlaw20_ChooseEven_l2 idJ (fun v w' => v = .bool true ∧ Sat W w' [old W]) 1 d k want 5 w := by
    intro k want h
    rw [hoardlaw20_ChooseEven_l2_raw]
    with_reducible refine ite_false (by decide) ?_
    with_reducible exact fin w k want h hs
  have l4 : ∀ (k want : Int), k = (if A4 ≤ d then 4 else want) → hoardlaw20_ChooseEven_l2 idJ (fun v w' => v = .bool true ∧ Sat W w' [old W]) 2 d k want 4 w := by
    intro k want h
    rw [hoardlaw20_ChooseEven_l2_raw, hw, w4, v4, u4]
    with_reducible refine ite_true (by decide) ?_
    with_reducible refine ite_geI (fun h1 => ?_) (fun h1 => ?_)
    · rw [if_pos h1] at h; with_reducible exact l5 k 4 h
    · rw [if_neg h1] at h; with_reducible exact l5 k want h
  have l3 : ∀ (k want : Int), k = (if A4 ≤ d then 4 else if A3 ≤ d then 3 else want) → hoardlaw20_ChooseEven_l2 idJ (fun v w' => v = .bool true ∧ Sat W w' [old W]) 3 d k want 3 w := by
    intro k want h
    rw [hoardlaw20_ChooseEven_l2_raw, hw, w3, v3, u3]
    with_reducible refine ite_true (by decide) ?_
    with_reducible refine ite_geI (fun h1 => ?_) (fun h1 => ?_)
    · rw [if_pos h1] at h; with_reducible exact l4 k 3 h
    · rw [if_neg h1] at h; with_reducible exact l4 k want h
  have l2 : ∀ (k want : Int), k = (if A4 ≤ d then 4 else if A3 ≤ d then 3 else if A2 ≤ d then 2 else want) → hoardlaw20_ChooseEven_l2 idJ (fun v w' => v = .bool true ∧ Sat W w' [old W]) 4 d k want 2 w := by
    intro k want h
    rw [hoardlaw20_ChooseEven_l2_raw, hw, w2, v2, u2]
    with_reducible refine ite_true (by decide) ?_
    with_reducible refine ite_geI (fun h1 => ?_) (fun h1 => ?_)
    · rw [if_pos h1] at h; with_reducible exact l3 k 2 h
    · rw [if_neg h1] at h; with_reducible exact l3 k want h
  rw [hoardlaw20_ChooseEven_l2_raw, hw, w1, v1, u1]
  with_reducible refine ite_true (by decide) ?_
  with_reducible refine ite_geI (fun h1 => ?_) (fun h1 => ?_)
  · rw [if_pos h1] at hpk; with_reducible exact l2 k 1 hpk
  · rw [if_neg h1] at hpk; with_reducible exact l2 k 0 hpk

/-! holds -/
set_option maxHeartbeats 1000000 in
theorem cholds_walk {kind hold : Int} {d0 : Sl} {ds : List Int} [hr : ReadsR W d0 (Rec.int .u32) ds] (hd : ∀ d ∈ ds, okK .u32 d) : Calls Try.prog id_hoardlaw20_ChooseHolds #[.int .i64 kind, .int .i64 hold, .slice d0.a d0.n d0.c] W fun e w' => e = .returned (.bool true) ∧ KeptH W w' := by
  have hs := Sat.begin W
  refine law_of (hoardlaw20_ChooseHolds_calls ?_)
  rw [hoardlaw20_ChooseHolds_def, hoardlaw20_ChooseHolds_raw]
  have hn := rdb_len (s := d0) hs
  have hok := okD_of hd
  (first | with_reducible refine ite_ltI (fun h1 => ?_) (fun h1 => ?_) | with_reducible refine ite_leI (fun h1 => ?_) (fun h1 => ?_) | with_reducible refine ite_gtI (fun h1 => ?_) (fun h1 => ?_) | with_reducible refine ite_geI (fun h1 => ?_) (fun h1 => ?_) | with_reducible refine ite_eqI (fun h1 => ?_) (fun h1 => ?_) | with_reducible refine ite_neI (fun h1 => ?_) (fun h1 => ?_) | with_reducible refine ite_eqS (fun h1 => ?_) (fun h1 => ?_) | with_reducible refine ite_neS (fun h1 => ?_) (fun h1 => ?_) | with_reducible refine ite_dec (fun h1 => ?_) (fun h1 => ?_) | with_reducible refine ite_ndec (fun h1 => ?_) (fun h1 => ?_) | with_reducible refine ite_some (fun i_ h1 => ?_) (fun h1 => ?_) | with_reducible refine ite_nsome (fun h1 => ?_) (fun i_ h1 => ?_) | with_reducible refine ite_cases (fun h1 => ?_) (fun h1 => ?_))
  · exact ⟨rfl, hs⟩
  (first | with_reducible refine ite_ltI (fun h2 => ?_) (fun h2 => ?_) | with_reducible refine ite_leI (fun h2 => ?_) (fun h2 => ?_) | with_reducible refine ite_gtI (fun h2 => ?_) (fun h2 => ?_) | with_reducible refine ite_geI (fun h2 => ?_) (fun h2 => ?_) | with_reducible refine ite_eqI (fun h2 => ?_) (fun h2 => ?_) | with_reducible refine ite_neI (fun h2 => ?_) (fun h2 => ?_) | with_reducible refine ite_eqS (fun h2 => ?_) (fun h2 => ?_) | with_reducible refine ite_neS (fun h2 => ?_) (fun h2 => ?_) | with_reducible refine ite_dec (fun h2 => ?_) (fun h2 => ?_) | with_reducible refine ite_ndec (fun h2 => ?_) (fun h2 => ?_) | with_reducible refine ite_some (fun i_ h2 => ?_) (fun h2 => ?_) | with_reducible refine ite_nsome (fun h2 => ?_) (fun i_ h2 => ?_) | with_reducible refine ite_cases (fun h2 => ?_) (fun h2 => ?_))
  · exact ⟨rfl, hs⟩
  (first | with_reducible refine ite_ltI (fun h3 => ?_) (fun h3 => ?_) | with_reducible refine ite_leI (fun h3 => ?_) (fun h3 => ?_) | with_reducible refine ite_gtI (fun h3 => ?_) (fun h3 => ?_) | with_reducible refine ite_geI (fun h3 => ?_) (fun h3 => ?_) | with_reducible refine ite_eqI (fun h3 => ?_) (fun h3 => ?_) | with_reducible refine ite_neI (fun h3 => ?_) (fun h3 => ?_) | with_reducible refine ite_eqS (fun h3 => ?_) (fun h3 => ?_) | with_reducible refine ite_neS (fun h3 => ?_) (fun h3 => ?_) | with_reducible refine ite_dec (fun h3 => ?_) (fun h3 => ?_) | with_reducible refine ite_ndec (fun h3 => ?_) (fun h3 => ?_) | with_reducible refine ite_some (fun i_ h3 => ?_) (fun h3 => ?_) | with_reducible refine ite_nsome (fun h3 => ?_) (fun i_ h3 => ?_) | with_reducible refine ite_cases (fun h3 => ?_) (fun h3 => ?_))
  · exact ⟨rfl, hs⟩
  (first | with_reducible refine ite_ltI (fun h4 => ?_) (fun h4 => ?_) | with_reducible refine ite_leI (fun h4 => ?_) (fun h4 => ?_) | with_reducible refine ite_gtI (fun h4 => ?_) (fun h4 => ?_) | with_reducible refine ite_geI (fun h4 => ?_) (fun h4 => ?_) | with_reducible refine ite_eqI (fun h4 => ?_) (fun h4 => ?_) | with_reducible refine ite_neI (fun h4 => ?_) (fun h4 => ?_) | with_reducible refine ite_eqS (fun h4 => ?_) (fun h4 => ?_) | with_reducible refine ite_neS (fun h4 => ?_) (fun h4 => ?_) | with_reducible refine ite_dec (fun h4 => ?_) (fun h4 => ?_) | with_reducible refine ite_ndec (fun h4 => ?_) (fun h4 => ?_) | with_reducible refine ite_some (fun i_ h4 => ?_) (fun h4 => ?_) | with_reducible refine ite_nsome (fun h4 => ?_) (fun i_ h4 => ?_) | with_reducible refine ite_cases (fun h4 => ?_) (fun h4 => ?_))
  · exact ⟨rfl, hs⟩
  (first | with_reducible refine ite_ltI (fun h5 => ?_) (fun h5 => ?_) | with_reducible refine ite_leI (fun h5 => ?_) (fun h5 => ?_) | with_reducible refine ite_gtI (fun h5 => ?_) (fun h5 => ?_) | with_reducible refine ite_geI (fun h5 => ?_) (fun h5 => ?_) | with_reducible refine ite_eqI (fun h5 => ?_) (fun h5 => ?_) | with_reducible refine ite_neI (fun h5 => ?_) (fun h5 => ?_) | with_reducible refine ite_eqS (fun h5 => ?_) (fun h5 => ?_) | with_reducible refine ite_neS (fun h5 => ?_) (fun h5 => ?_) | with_reducible refine ite_dec (fun h5 => ?_) (fun h5 => ?_) | with_reducible refine ite_ndec (fun h5 => ?_) (fun h5 => ?_) | with_reducible refine ite_some (fun i_ h5 => ?_) (fun h5 => ?_) | with_reducible refine ite_nsome (fun h5 => ?_) (fun i_ h5 => ?_) | with_reducible refine ite_cases (fun h5 => ?_) (fun h5 => ?_))
  · exact ⟨rfl, hs⟩
  rw [hoardlaw20_ChooseHolds_j1_def, hoardlaw20_ChooseHolds_j1_raw]
  refine (tnew_at (ds := ds) (s0 := d0) hs (fun w h => (rd_rdb (s := d0) h).trans (by rw [u32s_flat])) hn (by omega)).mono fun e w ⟨tb, he, hs⟩ => ⟨_, he, ?_⟩
  refine (ch_New (kind := kind) (hold := hold) hs).mono fun e w h => ?_
  rcases h with ⟨g1, _, _⟩ | ⟨_, g1, _, _⟩ | ⟨_, _, b, he, hs⟩
  · omega
  · omega
  refine ⟨_, _, he, ite_false rfl (ite_false rfl ?_)⟩
  rw [hoardlaw20_ChooseHolds_j2_def, hoardlaw20_ChooseHolds_j2_raw]
  have fin : ∀ w, Sat W w [old W] → hoardlaw20_ChooseHolds_j6 idJ (fun v w' => v = .bool true ∧ Sat W w' [old W]) w := by
    intro w hs
    rw [hoardlaw20_ChooseHolds_j6_def, hoardlaw20_ChooseHolds_j6_raw]
    exact call1_of (known20 hs) fun e w ⟨he, hs⟩ => ⟨_, he, rfl, hs⟩
  have loop : ∀ (f i : Nat) (w : World) (x : ChS) (row n : Int), i + f = ds.length → is5L x.ws = true → x.k = i → (0 ≤ x.n ∧ x.n ≤ i) → n = x.n → (0 < n → row = x.kind) → (n = 0 → row = -1 ∧ x.kind = x.cur) →
      Sat W w [blk b (chC hold (some ⟨tb, 0, none⟩) x), tapeR tb ds (x.k : Int), old W] → hoardlaw20_ChooseHolds_l3 idJ (fun v w' => v = .bool true ∧ Sat W w' [old W]) (f + 1) hold d0 (some ⟨b, 0, none⟩) x.cur row n (i : Int) w := by
    intro f
    induction f with
    | zero =>
      intro i w x row n hi his hk hxn hnx hrow hz hs
      rw [hoardlaw20_ChooseHolds_l3_raw]
      exact ite_false (decide_eq_false (by omega)) (fin w (by exact Sat.fin hs))
    | succ f ih =>
      intro i w x row n hi his hk hxn hnx hrow hz hs
      rw [hoardlaw20_ChooseHolds_l3_raw]
      refine ite_true (decide_eq_true (by omega)) ?_
      refine call2_of (ch_Epoch (x := x) hs his (by omega) (by omega) hok (by omega) 0 0 0 0 0 0) fun e w ⟨he, hs⟩ => ⟨_, _, he, ?_⟩
      have his2 := nextW_is x.ws 0 0 0 0 0 0
      have hpi := pick5_in (nextW x.ws 0 0 0 0 0 0) (ds.getD x.k 0)
      generalize pick5L (nextW x.ws 0 0 0 0 0 0) (ds.getD x.k 0) = p at *
      generalize nextW x.ws 0 0 0 0 0 0 = ws at *
      have j5 : ∀ (y : ChS) (row n : Int) w, is5L y.ws = true → y.k = i + 1 → (0 ≤ y.n ∧ y.n ≤ (i : Int) + 1) → n = y.n → (0 < n → row = y.kind) → (n = 0 → row = -1 ∧ y.kind = y.cur) →
          Sat W w [blk b (chC hold (some ⟨tb, 0, none⟩) y), tapeR tb ds ((x.k + 1 : Nat) : Int), old W] → hoardlaw20_ChooseHolds_j5 idJ (fun v w' => v = .bool true ∧ Sat W w' [old W]) (f + 1) hold d0 (some ⟨b, 0, none⟩) y.cur row n (i : Int) w := by
        intro y row n w q1 q2 q3 q4 q5 q6 hs
        rw [hoardlaw20_ChooseHolds_j5_def, hoardlaw20_ChooseHolds_j5_raw]
        refine call1_of (ch_Current (x := y) hs) fun e w ⟨he, hs⟩ => ⟨_, he, ite_false (by simp) ?_⟩
        rw [i64_in _ (by omega)]
        refine ih (i + 1) w y row n (by omega) q1 q2 (by omega) q4 q5 q6 ?_
        rw [q2, ← hk]; exact hs
      rw [(chStep_ws hold p ws x).2.2.1]
      (first | with_reducible refine ite_ltI (fun g1 => ?_) (fun g1 => ?_) | with_reducible refine ite_leI (fun g1 => ?_) (fun g1 => ?_) | with_reducible refine ite_gtI (fun g1 => ?_) (fun g1 => ?_) | with_reducible refine ite_geI (fun g1 => ?_) (fun g1 => ?_) | with_reducible refine ite_eqI (fun g1 => ?_) (fun g1 => ?_) | with_reducible refine ite_neI (fun g1 => ?_) (fun g1 => ?_) | with_reducible refine ite_eqS (fun g1 => ?_) (fun g1 => ?_) | with_reducible refine ite_neS (fun g1 => ?_) (fun g1 => ?_) | with_reducible refine ite_dec (fun g1 => ?_) (fun g1 => ?_) | with_reducible refine ite_ndec (fun g1 => ?_) (fun g1 => ?_) | with_reducible refine ite_some (fun i_ g1 => ?_) (fun g1 => ?_) | with_reducible refine ite_nsome (fun g1 => ?_) (fun i_ g1 => ?_) | with_reducible refine ite_cases (fun g1 => ?_) (fun g1 => ?_))
      · have e1 : chStep hold p ws x = ((p, false), ⟨x.cur, ws, p, 0, x.k + 1⟩) := by unfold chStep; rw [if_pos g1]
        rw [e1] at hs ⊢
        rw [hoardlaw20_ChooseHolds_j4_def, hoardlaw20_ChooseHolds_j4_raw]
        refine ite_false (by rw [decide_eq_false (by omega)]; rfl) (ite_false rfl ?_)
        exact j5 ⟨x.cur, ws, p, 0, x.k + 1⟩ (-1) 0 w his2 (by simp only; omega) (by simp only; omega) rfl (fun h => by omega) (fun _ => ⟨rfl, g1⟩) hs
      · have e1 : chStep hold p ws x = if (if p = x.kind then x.n + 1 else 1) < hold then ((p, false), (⟨x.cur, ws, p, (if p = x.kind then x.n + 1 else 1), x.k + 1⟩ : ChS)) else ((p, true), ⟨p, ws, p, 0, x.k + 1⟩) := by unfold chStep; rw [if_neg g1]
        rw [e1] at hs ⊢
        have key : ∀ (row' n' : Int), n' = (if p = x.kind then x.n + 1 else 1) → row' = p → hoardlaw20_ChooseHolds_j4 idJ (fun v w' => v = .bool true ∧ Sat W w' [old W]) (f + 1) hold d0 (some ⟨b, 0, none⟩) x.cur row' n' (i : Int)
            p (if (if p = x.kind then x.n + 1 else 1) < hold then ((p, false), (⟨x.cur, ws, p, (if p = x.kind then x.n + 1 else 1), x.k + 1⟩ : ChS)) else ((p, true), ⟨p, ws, p, 0, x.k + 1⟩)).1.2 w := by
          intro row' n' hn' hrow'
          have hb : 1 ≤ n' ∧ n' ≤ (i : Int) + 1 := by rw [hn']; split <;> omega
          rw [← hn'] at hs ⊢
          clear hn'
          rw [hoardlaw20_ChooseHolds_j4_def, hoardlaw20_ChooseHolds_j4_raw]
          by_cases g2 : n' < hold
          · simp only [if_pos g2] at hs ⊢
            refine ite_false (by rw [decide_eq_false (by omega)]; rfl) (ite_false rfl ?_)
            exact j5 ⟨x.cur, ws, p, n', x.k + 1⟩ row' n' w his2 (by simp only; omega) (by simp only; omega) rfl (fun h => hrow') (fun h => by omega) hs
          · simp only [if_neg g2] at hs ⊢
            refine ite_false (by rw [decide_eq_true (by omega)]; rfl) (ite_true rfl ?_)
            exact j5 ⟨p, ws, p, 0, x.k + 1⟩ (-1) 0 w his2 (by simp only; omega) (by simp only; omega) rfl (fun h => by omega) (fun _ => ⟨rfl, rfl⟩) hs
        (first | with_reducible refine ite_ltI (fun g2 => ?_) (fun g2 => ?_) | with_reducible refine ite_leI (fun g2 => ?_) (fun g2 => ?_) | with_reducible refine ite_gtI (fun g2 => ?_) (fun g2 => ?_) | with_reducible refine ite_geI (fun g2 => ?_) (fun g2 => ?_) | with_reducible refine ite_eqI (fun g2 => ?_) (fun g2 => ?_) | with_reducible refine ite_neI (fun g2 => ?_) (fun g2 => ?_) | with_reducible refine ite_eqS (fun g2 => ?_) (fun g2 => ?_) | with_reducible refine ite_neS (fun g2 => ?_) (fun g2 => ?_) | with_reducible refine ite_dec (fun g2 => ?_) (fun g2 => ?_) | with_reducible refine ite_ndec (fun g2 => ?_) (fun g2 => ?_) | with_reducible refine ite_some (fun i_ g2 => ?_) (fun g2 => ?_) | with_reducible refine ite_nsome (fun g2 => ?_) (fun i_ g2 => ?_) | with_reducible refine ite_cases (fun g2 => ?_) (fun g2 => ?_))
        · rw [i64_in _ (by omega)]
          refine key row (n + 1) ?_ g2.symm
          by_cases hn0 : n = 0
          · have := (hz hn0).1; omega
          · rw [if_pos (by rw [g2]; exact hrow (by omega)), hnx]
        · refine key p 1 ?_ rfl
          by_cases hn0 : n = 0
          · rw [if_neg (by have := (hz hn0).2; omega)]
          · rw [if_neg (by have := hrow (by omega); omega)]
  refine ⟨ds.length + 1, loop ds.length 0 w ⟨kind, startL, kind, 0, 0⟩ (-1) 0 (by omega) start_is5 rfl (by simp) rfl (fun h => by omega) (fun _ => ⟨rfl, rfl⟩) hs⟩

/-! scripts -/
set_option maxHeartbeats 2000000 in
set_option maxRecDepth 100000 in
theorem cplays_walk {kind hold : Int} {d0 s0 : Sl} {ds : List Int} {acts : List Act20} [hr : ReadsR W d0 (Rec.int .u32) ds] [hr2 : ReadsR W s0 act20R acts] (hd : ∀ d ∈ ds, okK .u32 d) :
    Calls Try.prog id_hoardlaw20_ChoosePlays #[.int .i64 kind, .int .i64 hold, .slice d0.a d0.n d0.c, .slice s0.a s0.n s0.c] W fun e w' => e = .returned (.bool true) ∧ KeptH W w' := by
  have hs := Sat.begin W
  refine law_of (hoardlaw20_ChoosePlays_calls ?_)
  rw [hoardlaw20_ChoosePlays_def, hoardlaw20_ChoosePlays_raw]
  have hn := rdb_len (s := d0) hs
  have hok := okD_of hd
  (first | with_reducible refine ite_ltI (fun h1 => ?_) (fun h1 => ?_) | with_reducible refine ite_leI (fun h1 => ?_) (fun h1 => ?_) | with_reducible refine ite_gtI (fun h1 => ?_) (fun h1 => ?_) | with_reducible refine ite_geI (fun h1 => ?_) (fun h1 => ?_) | with_reducible refine ite_eqI (fun h1 => ?_) (fun h1 => ?_) | with_reducible refine ite_neI (fun h1 => ?_) (fun h1 => ?_) | with_reducible refine ite_eqS (fun h1 => ?_) (fun h1 => ?_) | with_reducible refine ite_neS (fun h1 => ?_) (fun h1 => ?_) | with_reducible refine ite_dec (fun h1 => ?_) (fun h1 => ?_) | with_reducible refine ite_ndec (fun h1 => ?_) (fun h1 => ?_) | with_reducible refine ite_some (fun i_ h1 => ?_) (fun h1 => ?_) | with_reducible refine ite_nsome (fun h1 => ?_) (fun i_ h1 => ?_) | with_reducible refine ite_cases (fun h1 => ?_) (fun h1 => ?_))
  · exact ⟨rfl, hs⟩
  have fin : ∀ w, Sat W w [old W] → hoardlaw20_ChoosePlays_j5 idJ (fun v w' => v = .bool true ∧ Sat W w' [old W]) w := by
    intro w hs
    rw [hoardlaw20_ChoosePlays_j5_def, hoardlaw20_ChoosePlays_j5_raw]
    exact call1_of (known20 hs) fun e w ⟨he, hs⟩ => ⟨_, he, rfl, hs⟩
  have stop : ∀ (w : World) (c x : Option Addr) (f : Int), f ≠ 0 → Sat W w [old W] → hoardlaw20_ChoosePlays_j1 idJ (fun v w' => v = .bool true ∧ Sat W w' [old W]) s0 c x f w := by
    intro w c x f hf hs
    rw [hoardlaw20_ChoosePlays_j1_def, hoardlaw20_ChoosePlays_j1_raw]
    refine exM_of 1 ?_
    rw [hoardlaw20_ChoosePlays_l2_raw]
    (first | with_reducible refine ite_ltI (fun h1 => ?_) (fun h1 => ?_) | with_reducible refine ite_leI (fun h1 => ?_) (fun h1 => ?_) | with_reducible refine ite_gtI (fun h1 => ?_) (fun h1 => ?_) | with_reducible refine ite_geI (fun h1 => ?_) (fun h1 => ?_) | with_reducible refine ite_eqI (fun h1 => ?_) (fun h1 => ?_) | with_reducible refine ite_neI (fun h1 => ?_) (fun h1 => ?_) | with_reducible refine ite_eqS (fun h1 => ?_) (fun h1 => ?_) | with_reducible refine ite_neS (fun h1 => ?_) (fun h1 => ?_) | with_reducible refine ite_dec (fun h1 => ?_) (fun h1 => ?_) | with_reducible refine ite_ndec (fun h1 => ?_) (fun h1 => ?_) | with_reducible refine ite_some (fun i_ h1 => ?_) (fun h1 => ?_) | with_reducible refine ite_nsome (fun h1 => ?_) (fun i_ h1 => ?_) | with_reducible refine ite_cases (fun h1 => ?_) (fun h1 => ?_))
    · refine ite_true (by decide) (ite_false (by simpa using hf) (fin w hs))
    · exact fin w hs
  refine (tnew_at (ds := ds) (s0 := d0) hs (fun w h => (rd_rdb (s := d0) h).trans (by rw [u32s_flat])) hn (by omega)).mono fun e w ⟨tb, he, hs⟩ => ⟨_, he, ?_⟩
  refine (ch_New (kind := kind) (hold := hold) hs).mono fun e w h => ?_
  rcases h with ⟨g1, he, hs⟩ | ⟨g0, g1, he, hs⟩ | ⟨g0, g1, b, he, hs⟩
  · refine ⟨_, _, he, ?_⟩
    refine newB_at hs fun rt w hs => ?_
    refine (rch_New (kind := kind) (hold := hold) hs).mono fun e w h => ?_
    rcases h with ⟨k1, he, hs⟩ | ⟨k0, k1, he, hs⟩ | ⟨k0, k1, b, he, hs⟩
    · exact ⟨_, _, he, ite_false rfl (ite_false rfl (stop _ _ _ _ (by omega) (by exact Sat.fin hs)))⟩
    · omega
    · omega
  · refine ⟨_, _, he, ?_⟩
    refine newB_at hs fun rt w hs => ?_
    refine (rch_New (kind := kind) (hold := hold) hs).mono fun e w h => ?_
    rcases h with ⟨k1, he, hs⟩ | ⟨k0, k1, he, hs⟩ | ⟨k0, k1, b, he, hs⟩
    · omega
    · exact ⟨_, _, he, ite_false rfl (ite_false rfl (stop _ _ _ _ (by omega) (by exact Sat.fin hs)))⟩
    · omega
  refine ⟨_, _, he, ?_⟩
  refine newB_at hs fun rt w hs => ?_
  refine (rch_New (kind := kind) (hold := hold) hs).mono fun e w h => ?_
  rcases h with ⟨k1, he, hs⟩ | ⟨k0, k1, he, hs⟩ | ⟨k0, k1, b2, he, hs⟩
  · omega
  · omega
  refine ⟨_, _, he, ite_false rfl (ite_false rfl ?_)⟩
  rw [hoardlaw20_ChoosePlays_j1_def, hoardlaw20_ChoosePlays_j1_raw]
  obtain ⟨N, hN⟩ : ∃ N : Nat, N = 201 := ⟨_, rfl⟩
  have loop : ∀ (f i : Nat) (w : World) (x : ChS), i + f = N → is5L x.ws = true → x.k ≤ i → (0 ≤ x.n ∧ x.n ≤ i) → Sat W w [blk b (chC hold (some ⟨tb, 0, none⟩) x), tapeR tb ds (x.k : Int), blk b2 (rchC hold (some ⟨rt, 0, none⟩) x), blk rt [.slice d0.a d0.n d0.c, .int .i64 (x.k : Int)], old W] →
      hoardlaw20_ChoosePlays_l2 idJ (fun v w' => v = .bool true ∧ Sat W w' [old W]) (f + 1) s0 (some ⟨b, 0, none⟩) (some ⟨b2, 0, none⟩) 0 (i : Int) w := by
    intro f
    induction f with
    | zero =>
      intro i w x hi his hk hxn hs
      rw [hoardlaw20_ChoosePlays_l2_raw]
      (first | with_reducible refine ite_ltI (fun h1 => ?_) (fun h1 => ?_) | with_reducible refine ite_leI (fun h1 => ?_) (fun h1 => ?_) | with_reducible refine ite_gtI (fun h1 => ?_) (fun h1 => ?_) | with_reducible refine ite_geI (fun h1 => ?_) (fun h1 => ?_) | with_reducible refine ite_eqI (fun h1 => ?_) (fun h1 => ?_) | with_reducible refine ite_neI (fun h1 => ?_) (fun h1 => ?_) | with_reducible refine ite_eqS (fun h1 => ?_) (fun h1 => ?_) | with_reducible refine ite_neS (fun h1 => ?_) (fun h1 => ?_) | with_reducible refine ite_dec (fun h1 => ?_) (fun h1 => ?_) | with_reducible refine ite_ndec (fun h1 => ?_) (fun h1 => ?_) | with_reducible refine ite_some (fun i_ h1 => ?_) (fun h1 => ?_) | with_reducible refine ite_nsome (fun h1 => ?_) (fun i_ h1 => ?_) | with_reducible refine ite_cases (fun h1 => ?_) (fun h1 => ?_))
      · with_reducible refine ite_ltI (fun h2 => absurd h2 (by omega)) (fun h2 => ?_)
        exact fin w (by exact Sat.fin hs)
      · exact fin w (by exact Sat.fin hs)
    | succ f ih =>
      intro i w x hi his hk hxn hs
      have hn := rdb_len (s := s0) hs
      rw [hoardlaw20_ChoosePlays_l2_raw]
      (first | with_reducible refine ite_ltI (fun h1 => ?_) (fun h1 => ?_) | with_reducible refine ite_leI (fun h1 => ?_) (fun h1 => ?_) | with_reducible refine ite_gtI (fun h1 => ?_) (fun h1 => ?_) | with_reducible refine ite_geI (fun h1 => ?_) (fun h1 => ?_) | with_reducible refine ite_eqI (fun h1 => ?_) (fun h1 => ?_) | with_reducible refine ite_neI (fun h1 => ?_) (fun h1 => ?_) | with_reducible refine ite_eqS (fun h1 => ?_) (fun h1 => ?_) | with_reducible refine ite_neS (fun h1 => ?_) (fun h1 => ?_) | with_reducible refine ite_dec (fun h1 => ?_) (fun h1 => ?_) | with_reducible refine ite_ndec (fun h1 => ?_) (fun h1 => ?_) | with_reducible refine ite_some (fun i_ h1 => ?_) (fun h1 => ?_) | with_reducible refine ite_nsome (fun h1 => ?_) (fun i_ h1 => ?_) | with_reducible refine ite_cases (fun h1 => ?_) (fun h1 => ?_))
      · (first | with_reducible refine ite_ltI (fun h2 => ?_) (fun h2 => ?_) | with_reducible refine ite_leI (fun h2 => ?_) (fun h2 => ?_) | with_reducible refine ite_gtI (fun h2 => ?_) (fun h2 => ?_) | with_reducible refine ite_geI (fun h2 => ?_) (fun h2 => ?_) | with_reducible refine ite_eqI (fun h2 => ?_) (fun h2 => ?_) | with_reducible refine ite_neI (fun h2 => ?_) (fun h2 => ?_) | with_reducible refine ite_eqS (fun h2 => ?_) (fun h2 => ?_) | with_reducible refine ite_neS (fun h2 => ?_) (fun h2 => ?_) | with_reducible refine ite_dec (fun h2 => ?_) (fun h2 => ?_) | with_reducible refine ite_ndec (fun h2 => ?_) (fun h2 => ?_) | with_reducible refine ite_some (fun i_ h2 => ?_) (fun h2 => ?_) | with_reducible refine ite_nsome (fun h2 => ?_) (fun i_ h2 => ?_) | with_reducible refine ite_cases (fun h2 => ?_) (fun h2 => ?_))
        · refine ite_true rfl ?_
          have next : ∀ (w : World) (x : ChS), is5L x.ws = true → x.k ≤ i + 1 → (0 ≤ x.n ∧ x.n ≤ (i : Int) + 1) → Sat W w [blk b (chC hold (some ⟨tb, 0, none⟩) x), tapeR tb ds (x.k : Int), blk b2 (rchC hold (some ⟨rt, 0, none⟩) x), blk rt [.slice d0.a d0.n d0.c, .int .i64 (x.k : Int)], old W] →
              hoardlaw20_ChoosePlays_j4 idJ (fun v w' => v = .bool true ∧ Sat W w' [old W]) (f + 1) s0 (some ⟨b, 0, none⟩) (some ⟨b2, 0, none⟩) 0 (i : Int) w := by
            intro w x his hk hxn hs
            rw [hoardlaw20_ChoosePlays_j4_def, hoardlaw20_ChoosePlays_j4_raw]
            refine call2_of (ch_Streak (x := x) hs) fun e w ⟨he, hs⟩ => ⟨_, _, he, ?_⟩
            have hs : Sat W w [blk b (chC hold (some ⟨tb, 0, none⟩) x), tapeR tb ds (x.k : Int), blk b2 [.int .i64 x.cur, .int .u64 (x.ws.getD 0 0), .int .u64 (x.ws.getD 1 0), .int .u64 (x.ws.getD 2 0), .int .u64 (x.ws.getD 3 0), .int .u64 (x.ws.getD 4 0), .int .i64 x.kind, .int .i64 x.n, .int .i64 hold, .pointer (some ⟨rt, 0, none⟩)], blk rt [.slice d0.a d0.n d0.c, .int .i64 (x.k : Int)], old W] := hs
            repeat (first | with_reducible refine nilck_some ?_ | ((with_reducible refine atLd ?_); first | refine ld_b hs ?_ | refine ld_b (x := ⟨_, _, _⟩) hs ?_ | refine ld_r0 hs ?_ | refine ld_r1 hs ?_ | refine ld_r2 hs ?_ | refine ld_r3 hs ?_ | refine ld_r4 hs ?_ | refine ld_rd0 ha_ hs ?_ | refine ld_rd1 ha_ hs ?_ | refine ld_rd2 ha_ hs ?_ | refine ld_rd3 ha_ hs ?_ | refine ld_rd4 ha_ hs ?_ | refine ld_rd5 ha_ hs ?_ | fail) | ((with_reducible refine isSt ?_); first | refine st_b hs fun w hs => ?_ | refine st_rec5 hs fun w hs => ?_ | refine st_rec4 hs fun w hs => ?_ | refine st_rec3 hs fun w hs => ?_ | refine st_rec2 hs fun w hs => ?_ | refine st_r0 hs fun w hs => ?_ | refine st_r1 hs fun w hs => ?_ | fail) | ((with_reducible refine isIdx ?_); first | refine idx_s hs fun b_ o_ hs => ?_ | refine idx_a hs ?_ | refine idx_rd hs fun b_ o_ ha_ => ?_ | fail) | ((with_reducible refine isNew ?_); first | refine newB_at hs fun b_ w hs => ?_ | fail) | ((with_reducible refine isLdS ?_); first | refine ldS_b ?_ | refine ldS_b (x := ⟨_, _, _⟩) ?_ | refine ldS_r0 ?_ | refine ldS_r1 ?_ | refine ldS_r2 ?_ | refine ldS_r3 ?_ | refine ldS_rs0 hs ?_ | refine ldS_rs1 hs ?_ | refine ldS_rs2 hs ?_ | refine ldS_rs3 hs ?_ | refine ldS_rd0 ha_ ?_ | refine ldS_rd1 ha_ ?_ | refine ldS_rd2 ha_ ?_ | refine ldS_rd3 ha_ ?_ | refine ldS_rd4 ha_ ?_ | refine ldS_rd5 ha_ ?_ | fail) | ((with_reducible refine isKeep ?_); first | refine keep_of hs ?_ | refine keep_imp hs ?_ | fail) | ((with_reducible refine isWhen ?_); first | refine when_om ?_ | fail) | ((with_reducible refine isDraw ?_); first | refine drawW_sat hs fun w hs => ?_ | fail))
            refine call1_of (ch_Current (x := x) hs) fun e w ⟨he, hs⟩ => ⟨_, he, ?_⟩
            repeat (first | with_reducible refine nilck_some ?_ | ((with_reducible refine atLd ?_); first | refine ld_b hs ?_ | refine ld_b (x := ⟨_, _, _⟩) hs ?_ | refine ld_r0 hs ?_ | refine ld_r1 hs ?_ | refine ld_r2 hs ?_ | refine ld_r3 hs ?_ | refine ld_r4 hs ?_ | refine ld_rd0 ha_ hs ?_ | refine ld_rd1 ha_ hs ?_ | refine ld_rd2 ha_ hs ?_ | refine ld_rd3 ha_ hs ?_ | refine ld_rd4 ha_ hs ?_ | refine ld_rd5 ha_ hs ?_ | fail) | ((with_reducible refine isSt ?_); first | refine st_b hs fun w hs => ?_ | refine st_rec5 hs fun w hs => ?_ | refine st_rec4 hs fun w hs => ?_ | refine st_rec3 hs fun w hs => ?_ | refine st_rec2 hs fun w hs => ?_ | refine st_r0 hs fun w hs => ?_ | refine st_r1 hs fun w hs => ?_ | fail) | ((with_reducible refine isIdx ?_); first | refine idx_s hs fun b_ o_ hs => ?_ | refine idx_a hs ?_ | refine idx_rd hs fun b_ o_ ha_ => ?_ | fail) | ((with_reducible refine isNew ?_); first | refine newB_at hs fun b_ w hs => ?_ | fail) | ((with_reducible refine isLdS ?_); first | refine ldS_b ?_ | refine ldS_b (x := ⟨_, _, _⟩) ?_ | refine ldS_r0 ?_ | refine ldS_r1 ?_ | refine ldS_r2 ?_ | refine ldS_r3 ?_ | refine ldS_rs0 hs ?_ | refine ldS_rs1 hs ?_ | refine ldS_rs2 hs ?_ | refine ldS_rs3 hs ?_ | refine ldS_rd0 ha_ ?_ | refine ldS_rd1 ha_ ?_ | refine ldS_rd2 ha_ ?_ | refine ldS_rd3 ha_ ?_ | refine ldS_rd4 ha_ ?_ | refine ldS_rd5 ha_ ?_ | fail) | ((with_reducible refine isKeep ?_); first | refine keep_of hs ?_ | refine keep_imp hs ?_ | fail) | ((with_reducible refine isWhen ?_); first | refine when_om ?_ | fail) | ((with_reducible refine isDraw ?_); first | refine drawW_sat hs fun w hs => ?_ | fail))
            refine ite_false (by simp) ?_
            repeat (first | with_reducible refine nilck_some ?_ | ((with_reducible refine atLd ?_); first | refine ld_b hs ?_ | refine ld_b (x := ⟨_, _, _⟩) hs ?_ | refine ld_r0 hs ?_ | refine ld_r1 hs ?_ | refine ld_r2 hs ?_ | refine ld_r3 hs ?_ | refine ld_r4 hs ?_ | refine ld_rd0 ha_ hs ?_ | refine ld_rd1 ha_ hs ?_ | refine ld_rd2 ha_ hs ?_ | refine ld_rd3 ha_ hs ?_ | refine ld_rd4 ha_ hs ?_ | refine ld_rd5 ha_ hs ?_ | fail) | ((with_reducible refine isSt ?_); first | refine st_b hs fun w hs => ?_ | refine st_rec5 hs fun w hs => ?_ | refine st_rec4 hs fun w hs => ?_ | refine st_rec3 hs fun w hs => ?_ | refine st_rec2 hs fun w hs => ?_ | refine st_r0 hs fun w hs => ?_ | refine st_r1 hs fun w hs => ?_ | fail) | ((with_reducible refine isIdx ?_); first | refine idx_s hs fun b_ o_ hs => ?_ | refine idx_a hs ?_ | refine idx_rd hs fun b_ o_ ha_ => ?_ | fail) | ((with_reducible refine isNew ?_); first | refine newB_at hs fun b_ w hs => ?_ | fail) | ((with_reducible refine isLdS ?_); first | refine ldS_b ?_ | refine ldS_b (x := ⟨_, _, _⟩) ?_ | refine ldS_r0 ?_ | refine ldS_r1 ?_ | refine ldS_r2 ?_ | refine ldS_r3 ?_ | refine ldS_rs0 hs ?_ | refine ldS_rs1 hs ?_ | refine ldS_rs2 hs ?_ | refine ldS_rs3 hs ?_ | refine ldS_rd0 ha_ ?_ | refine ldS_rd1 ha_ ?_ | refine ldS_rd2 ha_ ?_ | refine ldS_rd3 ha_ ?_ | refine ldS_rd4 ha_ ?_ | refine ldS_rd5 ha_ ?_ | fail) | ((with_reducible refine isKeep ?_); first | refine keep_of hs ?_ | refine keep_imp hs ?_ | fail) | ((with_reducible refine isWhen ?_); first | refine when_om ?_ | fail) | ((with_reducible refine isDraw ?_); first | refine drawW_sat hs fun w hs => ?_ | fail))
            refine (ch_Weights (x := x) hs).mono fun e w ⟨he, hs⟩ => ⟨_, _, _, _, _, he, ?_⟩
            repeat (first | with_reducible refine nilck_some ?_ | ((with_reducible refine atLd ?_); first | refine ld_b hs ?_ | refine ld_b (x := ⟨_, _, _⟩) hs ?_ | refine ld_r0 hs ?_ | refine ld_r1 hs ?_ | refine ld_r2 hs ?_ | refine ld_r3 hs ?_ | refine ld_r4 hs ?_ | refine ld_rd0 ha_ hs ?_ | refine ld_rd1 ha_ hs ?_ | refine ld_rd2 ha_ hs ?_ | refine ld_rd3 ha_ hs ?_ | refine ld_rd4 ha_ hs ?_ | refine ld_rd5 ha_ hs ?_ | fail) | ((with_reducible refine isSt ?_); first | refine st_b hs fun w hs => ?_ | refine st_rec5 hs fun w hs => ?_ | refine st_rec4 hs fun w hs => ?_ | refine st_rec3 hs fun w hs => ?_ | refine st_rec2 hs fun w hs => ?_ | refine st_r0 hs fun w hs => ?_ | refine st_r1 hs fun w hs => ?_ | fail) | ((with_reducible refine isIdx ?_); first | refine idx_s hs fun b_ o_ hs => ?_ | refine idx_a hs ?_ | refine idx_rd hs fun b_ o_ ha_ => ?_ | fail) | ((with_reducible refine isNew ?_); first | refine newB_at hs fun b_ w hs => ?_ | fail) | ((with_reducible refine isLdS ?_); first | refine ldS_b ?_ | refine ldS_b (x := ⟨_, _, _⟩) ?_ | refine ldS_r0 ?_ | refine ldS_r1 ?_ | refine ldS_r2 ?_ | refine ldS_r3 ?_ | refine ldS_rs0 hs ?_ | refine ldS_rs1 hs ?_ | refine ldS_rs2 hs ?_ | refine ldS_rs3 hs ?_ | refine ldS_rd0 ha_ ?_ | refine ldS_rd1 ha_ ?_ | refine ldS_rd2 ha_ ?_ | refine ldS_rd3 ha_ ?_ | refine ldS_rd4 ha_ ?_ | refine ldS_rd5 ha_ ?_ | fail) | ((with_reducible refine isKeep ?_); first | refine keep_of hs ?_ | refine keep_imp hs ?_ | fail) | ((with_reducible refine isWhen ?_); first | refine when_om ?_ | fail) | ((with_reducible refine isDraw ?_); first | refine drawW_sat hs fun w hs => ?_ | fail))
            refine ite_false (by simp) ?_
            repeat (first | with_reducible refine nilck_some ?_ | ((with_reducible refine atLd ?_); first | refine ld_b hs ?_ | refine ld_b (x := ⟨_, _, _⟩) hs ?_ | refine ld_r0 hs ?_ | refine ld_r1 hs ?_ | refine ld_r2 hs ?_ | refine ld_r3 hs ?_ | refine ld_r4 hs ?_ | refine ld_rd0 ha_ hs ?_ | refine ld_rd1 ha_ hs ?_ | refine ld_rd2 ha_ hs ?_ | refine ld_rd3 ha_ hs ?_ | refine ld_rd4 ha_ hs ?_ | refine ld_rd5 ha_ hs ?_ | fail) | ((with_reducible refine isSt ?_); first | refine st_b hs fun w hs => ?_ | refine st_rec5 hs fun w hs => ?_ | refine st_rec4 hs fun w hs => ?_ | refine st_rec3 hs fun w hs => ?_ | refine st_rec2 hs fun w hs => ?_ | refine st_r0 hs fun w hs => ?_ | refine st_r1 hs fun w hs => ?_ | fail) | ((with_reducible refine isIdx ?_); first | refine idx_s hs fun b_ o_ hs => ?_ | refine idx_a hs ?_ | refine idx_rd hs fun b_ o_ ha_ => ?_ | fail) | ((with_reducible refine isNew ?_); first | refine newB_at hs fun b_ w hs => ?_ | fail) | ((with_reducible refine isLdS ?_); first | refine ldS_b ?_ | refine ldS_b (x := ⟨_, _, _⟩) ?_ | refine ldS_r0 ?_ | refine ldS_r1 ?_ | refine ldS_r2 ?_ | refine ldS_r3 ?_ | refine ldS_rs0 hs ?_ | refine ldS_rs1 hs ?_ | refine ldS_rs2 hs ?_ | refine ldS_rs3 hs ?_ | refine ldS_rd0 ha_ ?_ | refine ldS_rd1 ha_ ?_ | refine ldS_rd2 ha_ ?_ | refine ldS_rd3 ha_ ?_ | refine ldS_rd4 ha_ ?_ | refine ldS_rd5 ha_ ?_ | fail) | ((with_reducible refine isKeep ?_); first | refine keep_of hs ?_ | refine keep_imp hs ?_ | fail) | ((with_reducible refine isWhen ?_); first | refine when_om ?_ | fail) | ((with_reducible refine isDraw ?_); first | refine drawW_sat hs fun w hs => ?_ | fail))
            refine ite_false (by simp) ?_
            repeat (first | with_reducible refine nilck_some ?_ | ((with_reducible refine atLd ?_); first | refine ld_b hs ?_ | refine ld_b (x := ⟨_, _, _⟩) hs ?_ | refine ld_r0 hs ?_ | refine ld_r1 hs ?_ | refine ld_r2 hs ?_ | refine ld_r3 hs ?_ | refine ld_r4 hs ?_ | refine ld_rd0 ha_ hs ?_ | refine ld_rd1 ha_ hs ?_ | refine ld_rd2 ha_ hs ?_ | refine ld_rd3 ha_ hs ?_ | refine ld_rd4 ha_ hs ?_ | refine ld_rd5 ha_ hs ?_ | fail) | ((with_reducible refine isSt ?_); first | refine st_b hs fun w hs => ?_ | refine st_rec5 hs fun w hs => ?_ | refine st_rec4 hs fun w hs => ?_ | refine st_rec3 hs fun w hs => ?_ | refine st_rec2 hs fun w hs => ?_ | refine st_r0 hs fun w hs => ?_ | refine st_r1 hs fun w hs => ?_ | fail) | ((with_reducible refine isIdx ?_); first | refine idx_s hs fun b_ o_ hs => ?_ | refine idx_a hs ?_ | refine idx_rd hs fun b_ o_ ha_ => ?_ | fail) | ((with_reducible refine isNew ?_); first | refine newB_at hs fun b_ w hs => ?_ | fail) | ((with_reducible refine isLdS ?_); first | refine ldS_b ?_ | refine ldS_b (x := ⟨_, _, _⟩) ?_ | refine ldS_r0 ?_ | refine ldS_r1 ?_ | refine ldS_r2 ?_ | refine ldS_r3 ?_ | refine ldS_rs0 hs ?_ | refine ldS_rs1 hs ?_ | refine ldS_rs2 hs ?_ | refine ldS_rs3 hs ?_ | refine ldS_rd0 ha_ ?_ | refine ldS_rd1 ha_ ?_ | refine ldS_rd2 ha_ ?_ | refine ldS_rd3 ha_ ?_ | refine ldS_rd4 ha_ ?_ | refine ldS_rd5 ha_ ?_ | fail) | ((with_reducible refine isKeep ?_); first | refine keep_of hs ?_ | refine keep_imp hs ?_ | fail) | ((with_reducible refine isWhen ?_); first | refine when_om ?_ | fail) | ((with_reducible refine isDraw ?_); first | refine drawW_sat hs fun w hs => ?_ | fail))
            refine ite_false (by simp) ?_
            rw [i64_in _ (by omega)]
            exact ih (i + 1) w x (by omega) his (by omega) (by omega) hs
          rw [hoardlaw20_ChoosePlays_j3_def, hoardlaw20_ChoosePlays_j3_raw]
          repeat (first | with_reducible refine nilck_some ?_ | ((with_reducible refine atLd ?_); first | refine ld_b hs ?_ | refine ld_b (x := ⟨_, _, _⟩) hs ?_ | refine ld_r0 hs ?_ | refine ld_r1 hs ?_ | refine ld_r2 hs ?_ | refine ld_r3 hs ?_ | refine ld_r4 hs ?_ | refine ld_rd0 ha_ hs ?_ | refine ld_rd1 ha_ hs ?_ | refine ld_rd2 ha_ hs ?_ | refine ld_rd3 ha_ hs ?_ | refine ld_rd4 ha_ hs ?_ | refine ld_rd5 ha_ hs ?_ | fail) | ((with_reducible refine isSt ?_); first | refine st_b hs fun w hs => ?_ | refine st_rec5 hs fun w hs => ?_ | refine st_rec4 hs fun w hs => ?_ | refine st_rec3 hs fun w hs => ?_ | refine st_rec2 hs fun w hs => ?_ | refine st_r0 hs fun w hs => ?_ | refine st_r1 hs fun w hs => ?_ | fail) | ((with_reducible refine isIdx ?_); first | refine idx_s hs fun b_ o_ hs => ?_ | refine idx_a hs ?_ | refine idx_rd hs fun b_ o_ ha_ => ?_ | fail) | ((with_reducible refine isNew ?_); first | refine newB_at hs fun b_ w hs => ?_ | fail) | ((with_reducible refine isLdS ?_); first | refine ldS_b ?_ | refine ldS_b (x := ⟨_, _, _⟩) ?_ | refine ldS_r0 ?_ | refine ldS_r1 ?_ | refine ldS_r2 ?_ | refine ldS_r3 ?_ | refine ldS_rs0 hs ?_ | refine ldS_rs1 hs ?_ | refine ldS_rs2 hs ?_ | refine ldS_rs3 hs ?_ | refine ldS_rd0 ha_ ?_ | refine ldS_rd1 ha_ ?_ | refine ldS_rd2 ha_ ?_ | refine ldS_rd3 ha_ ?_ | refine ldS_rd4 ha_ ?_ | refine ldS_rd5 ha_ ?_ | fail) | ((with_reducible refine isKeep ?_); first | refine keep_of hs ?_ | refine keep_imp hs ?_ | fail) | ((with_reducible refine isWhen ?_); first | refine when_om ?_ | fail) | ((with_reducible refine isDraw ?_); first | refine drawW_sat hs fun w hs => ?_ | fail))
          rw [Int.toNat_natCast]
          (first | with_reducible refine ite_ltI (fun h3 => ?_) (fun h3 => ?_) | with_reducible refine ite_leI (fun h3 => ?_) (fun h3 => ?_) | with_reducible refine ite_gtI (fun h3 => ?_) (fun h3 => ?_) | with_reducible refine ite_geI (fun h3 => ?_) (fun h3 => ?_) | with_reducible refine ite_eqI (fun h3 => ?_) (fun h3 => ?_) | with_reducible refine ite_neI (fun h3 => ?_) (fun h3 => ?_) | with_reducible refine ite_eqS (fun h3 => ?_) (fun h3 => ?_) | with_reducible refine ite_neS (fun h3 => ?_) (fun h3 => ?_) | with_reducible refine ite_dec (fun h3 => ?_) (fun h3 => ?_) | with_reducible refine ite_ndec (fun h3 => ?_) (fun h3 => ?_) | with_reducible refine ite_some (fun i_ h3 => ?_) (fun h3 => ?_) | with_reducible refine ite_nsome (fun h3 => ?_) (fun i_ h3 => ?_) | with_reducible refine ite_cases (fun h3 => ?_) (fun h3 => ?_))
          · refine drawW_only [old W] hs fun w hs => ?_
            repeat (first | with_reducible refine nilck_some ?_ | ((with_reducible refine atLd ?_); first | refine ld_b hs ?_ | refine ld_b (x := ⟨_, _, _⟩) hs ?_ | refine ld_r0 hs ?_ | refine ld_r1 hs ?_ | refine ld_r2 hs ?_ | refine ld_r3 hs ?_ | refine ld_r4 hs ?_ | refine ld_rd0 ha_ hs ?_ | refine ld_rd1 ha_ hs ?_ | refine ld_rd2 ha_ hs ?_ | refine ld_rd3 ha_ hs ?_ | refine ld_rd4 ha_ hs ?_ | refine ld_rd5 ha_ hs ?_ | fail) | ((with_reducible refine isSt ?_); first | refine st_b hs fun w hs => ?_ | refine st_rec5 hs fun w hs => ?_ | refine st_rec4 hs fun w hs => ?_ | refine st_rec3 hs fun w hs => ?_ | refine st_rec2 hs fun w hs => ?_ | refine st_r0 hs fun w hs => ?_ | refine st_r1 hs fun w hs => ?_ | fail) | ((with_reducible refine isIdx ?_); first | refine idx_s hs fun b_ o_ hs => ?_ | refine idx_a hs ?_ | refine idx_rd hs fun b_ o_ ha_ => ?_ | fail) | ((with_reducible refine isNew ?_); first | refine newB_at hs fun b_ w hs => ?_ | fail) | ((with_reducible refine isLdS ?_); first | refine ldS_b ?_ | refine ldS_b (x := ⟨_, _, _⟩) ?_ | refine ldS_r0 ?_ | refine ldS_r1 ?_ | refine ldS_r2 ?_ | refine ldS_r3 ?_ | refine ldS_rs0 hs ?_ | refine ldS_rs1 hs ?_ | refine ldS_rs2 hs ?_ | refine ldS_rs3 hs ?_ | refine ldS_rd0 ha_ ?_ | refine ldS_rd1 ha_ ?_ | refine ldS_rd2 ha_ ?_ | refine ldS_rd3 ha_ ?_ | refine ldS_rd4 ha_ ?_ | refine ldS_rd5 ha_ ?_ | fail) | ((with_reducible refine isKeep ?_); first | refine keep_of hs ?_ | refine keep_imp hs ?_ | fail) | ((with_reducible refine isWhen ?_); first | refine when_om ?_ | fail) | ((with_reducible refine isDraw ?_); first | refine drawW_sat hs fun w hs => ?_ | fail))
            refine call1_of (ch_Force (x := x) hs) fun e w ⟨he, hs⟩ => ⟨_, he, ?_⟩
            repeat (first | with_reducible refine nilck_some ?_ | ((with_reducible refine atLd ?_); first | refine ld_b hs ?_ | refine ld_b (x := ⟨_, _, _⟩) hs ?_ | refine ld_r0 hs ?_ | refine ld_r1 hs ?_ | refine ld_r2 hs ?_ | refine ld_r3 hs ?_ | refine ld_r4 hs ?_ | refine ld_rd0 ha_ hs ?_ | refine ld_rd1 ha_ hs ?_ | refine ld_rd2 ha_ hs ?_ | refine ld_rd3 ha_ hs ?_ | refine ld_rd4 ha_ hs ?_ | refine ld_rd5 ha_ hs ?_ | fail) | ((with_reducible refine isSt ?_); first | refine st_b hs fun w hs => ?_ | refine st_rec5 hs fun w hs => ?_ | refine st_rec4 hs fun w hs => ?_ | refine st_rec3 hs fun w hs => ?_ | refine st_rec2 hs fun w hs => ?_ | refine st_r0 hs fun w hs => ?_ | refine st_r1 hs fun w hs => ?_ | fail) | ((with_reducible refine isIdx ?_); first | refine idx_s hs fun b_ o_ hs => ?_ | refine idx_a hs ?_ | refine idx_rd hs fun b_ o_ ha_ => ?_ | fail) | ((with_reducible refine isNew ?_); first | refine newB_at hs fun b_ w hs => ?_ | fail) | ((with_reducible refine isLdS ?_); first | refine ldS_b ?_ | refine ldS_b (x := ⟨_, _, _⟩) ?_ | refine ldS_r0 ?_ | refine ldS_r1 ?_ | refine ldS_r2 ?_ | refine ldS_r3 ?_ | refine ldS_rs0 hs ?_ | refine ldS_rs1 hs ?_ | refine ldS_rs2 hs ?_ | refine ldS_rs3 hs ?_ | refine ldS_rd0 ha_ ?_ | refine ldS_rd1 ha_ ?_ | refine ldS_rd2 ha_ ?_ | refine ldS_rd3 ha_ ?_ | refine ldS_rd4 ha_ ?_ | refine ldS_rd5 ha_ ?_ | fail) | ((with_reducible refine isKeep ?_); first | refine keep_of hs ?_ | refine keep_imp hs ?_ | fail) | ((with_reducible refine isWhen ?_); first | refine when_om ?_ | fail) | ((with_reducible refine isDraw ?_); first | refine drawW_sat hs fun w hs => ?_ | fail))
            refine call1_of (rch_Force (x := x) hs) fun e w ⟨he, hs⟩ => ⟨_, he, ?_⟩
            refine ite_false (by simp) ?_
            obtain ⟨f1, f2, f3⟩ := chForce_ws x (acts.getD i default).n
            have f3 := f3 hxn.1
            generalize (chForce x (acts.getD i default).n).2 = y at *
            refine next w y (by rw [f1]; exact his) (by omega) (by omega) ?_
            rw [f2]; exact hs
          · repeat (first | with_reducible refine nilck_some ?_ | ((with_reducible refine atLd ?_); first | refine ld_b hs ?_ | refine ld_b (x := ⟨_, _, _⟩) hs ?_ | refine ld_r0 hs ?_ | refine ld_r1 hs ?_ | refine ld_r2 hs ?_ | refine ld_r3 hs ?_ | refine ld_r4 hs ?_ | refine ld_rd0 ha_ hs ?_ | refine ld_rd1 ha_ hs ?_ | refine ld_rd2 ha_ hs ?_ | refine ld_rd3 ha_ hs ?_ | refine ld_rd4 ha_ hs ?_ | refine ld_rd5 ha_ hs ?_ | fail) | ((with_reducible refine isSt ?_); first | refine st_b hs fun w hs => ?_ | refine st_rec5 hs fun w hs => ?_ | refine st_rec4 hs fun w hs => ?_ | refine st_rec3 hs fun w hs => ?_ | refine st_rec2 hs fun w hs => ?_ | refine st_r0 hs fun w hs => ?_ | refine st_r1 hs fun w hs => ?_ | fail) | ((with_reducible refine isIdx ?_); first | refine idx_s hs fun b_ o_ hs => ?_ | refine idx_a hs ?_ | refine idx_rd hs fun b_ o_ ha_ => ?_ | fail) | ((with_reducible refine isNew ?_); first | refine newB_at hs fun b_ w hs => ?_ | fail) | ((with_reducible refine isLdS ?_); first | refine ldS_b ?_ | refine ldS_b (x := ⟨_, _, _⟩) ?_ | refine ldS_r0 ?_ | refine ldS_r1 ?_ | refine ldS_r2 ?_ | refine ldS_r3 ?_ | refine ldS_rs0 hs ?_ | refine ldS_rs1 hs ?_ | refine ldS_rs2 hs ?_ | refine ldS_rs3 hs ?_ | refine ldS_rd0 ha_ ?_ | refine ldS_rd1 ha_ ?_ | refine ldS_rd2 ha_ ?_ | refine ldS_rd3 ha_ ?_ | refine ldS_rd4 ha_ ?_ | refine ldS_rd5 ha_ ?_ | fail) | ((with_reducible refine isKeep ?_); first | refine keep_of hs ?_ | refine keep_imp hs ?_ | fail) | ((with_reducible refine isWhen ?_); first | refine when_om ?_ | fail) | ((with_reducible refine isDraw ?_); first | refine drawW_sat hs fun w hs => ?_ | fail))
            refine call2_of (ch_Epoch (x := x) hs his (by omega) (by omega) hok (by omega) _ _ _ _ _ _) fun e w ⟨he, hs⟩ => ⟨_, _, he, ?_⟩
            repeat (first | with_reducible refine nilck_some ?_ | ((with_reducible refine atLd ?_); first | refine ld_b hs ?_ | refine ld_b (x := ⟨_, _, _⟩) hs ?_ | refine ld_r0 hs ?_ | refine ld_r1 hs ?_ | refine ld_r2 hs ?_ | refine ld_r3 hs ?_ | refine ld_r4 hs ?_ | refine ld_rd0 ha_ hs ?_ | refine ld_rd1 ha_ hs ?_ | refine ld_rd2 ha_ hs ?_ | refine ld_rd3 ha_ hs ?_ | refine ld_rd4 ha_ hs ?_ | refine ld_rd5 ha_ hs ?_ | fail) | ((with_reducible refine isSt ?_); first | refine st_b hs fun w hs => ?_ | refine st_rec5 hs fun w hs => ?_ | refine st_rec4 hs fun w hs => ?_ | refine st_rec3 hs fun w hs => ?_ | refine st_rec2 hs fun w hs => ?_ | refine st_r0 hs fun w hs => ?_ | refine st_r1 hs fun w hs => ?_ | fail) | ((with_reducible refine isIdx ?_); first | refine idx_s hs fun b_ o_ hs => ?_ | refine idx_a hs ?_ | refine idx_rd hs fun b_ o_ ha_ => ?_ | fail) | ((with_reducible refine isNew ?_); first | refine newB_at hs fun b_ w hs => ?_ | fail) | ((with_reducible refine isLdS ?_); first | refine ldS_b ?_ | refine ldS_b (x := ⟨_, _, _⟩) ?_ | refine ldS_r0 ?_ | refine ldS_r1 ?_ | refine ldS_r2 ?_ | refine ldS_r3 ?_ | refine ldS_rs0 hs ?_ | refine ldS_rs1 hs ?_ | refine ldS_rs2 hs ?_ | refine ldS_rs3 hs ?_ | refine ldS_rd0 ha_ ?_ | refine ldS_rd1 ha_ ?_ | refine ldS_rd2 ha_ ?_ | refine ldS_rd3 ha_ ?_ | refine ldS_rd4 ha_ ?_ | refine ldS_rd5 ha_ ?_ | fail) | ((with_reducible refine isKeep ?_); first | refine keep_of hs ?_ | refine keep_imp hs ?_ | fail) | ((with_reducible refine isWhen ?_); first | refine when_om ?_ | fail) | ((with_reducible refine isDraw ?_); first | refine drawW_sat hs fun w hs => ?_ | fail))
            have his2 := nextW_is x.ws (acts.getD i default).g0 (acts.getD i default).g1 (acts.getD i default).g2 (acts.getD i default).g3 (acts.getD i default).g4 (acts.getD i default).all
            refine call2_of (rch_Epoch (W := W) (x := x) (hold := hold) (b := b2) (tb := rt) (s0 := d0) (ds := ds) (M := [blk b (chC hold (some ⟨tb, 0, none⟩) (chStep hold (pick5L (nextW x.ws (acts.getD i default).g0 (acts.getD i default).g1 (acts.getD i default).g2 (acts.getD i default).g3 (acts.getD i default).g4 (acts.getD i default).all) (ds.getD x.k 0)) (nextW x.ws (acts.getD i default).g0 (acts.getD i default).g1 (acts.getD i default).g2 (acts.getD i default).g3 (acts.getD i default).g4 (acts.getD i default).all) x).2), tapeR tb ds ((x.k + 1 : Nat) : Int)]) (by exact Sat.fin hs) his (by omega) (by omega) hok (by omega) _ _ _ _ _ _) fun e w ⟨he, hs⟩ => ⟨_, _, he, ?_⟩
            with_reducible refine ite_false (bne_self_eq_false _) ?_
            with_reducible refine ite_false (by rw [beq_self_eq_true, Bool.not_true]) ?_
            generalize hws : nextW x.ws (acts.getD i default).g0 (acts.getD i default).g1 (acts.getD i default).g2 (acts.getD i default).g3 (acts.getD i default).g4 (acts.getD i default).all = ws at *
            obtain ⟨f1, f2, _, f3⟩ := chStep_ws hold (pick5L ws (ds.getD x.k 0)) ws x
            have f3 := f3 hxn.1
            generalize (chStep hold (pick5L ws (ds.getD x.k 0)) ws x).2 = y at *
            refine next w y (by rw [f1]; exact his2) (by omega) (by omega) ?_
            rw [f2]; exact Sat.fin hs
        · exact fin w (by exact Sat.fin hs)
      · exact fin w (by exact Sat.fin hs)
  refine ⟨N + 1, ?_⟩
  exact loop N 0 w ⟨kind, startL, kind, 0, 0⟩ (by omega) start_is5 (by simp) (by simp) (by exact Sat.fin hs)

set_option maxHeartbeats 2000000 in
set_option maxRecDepth 100000 in
theorem cdraws_walk {kind epochs force : Int} {d0 : Sl} {ds : List Int} [hr : ReadsR W d0 (Rec.int .u32) ds] (hd : ∀ d ∈ ds, okK .u32 d) :
    Calls Try.prog id_hoardlaw20_ChooseDraws #[.int .i64 kind, .slice d0.a d0.n d0.c, .int .i64 epochs, .int .i64 force] W fun e w' => e = .returned (.bool true) ∧ KeptH W w' := by
  have hs := Sat.begin W
  refine law_of (hoardlaw20_ChooseDraws_calls ?_)
  rw [hoardlaw20_ChooseDraws_def, hoardlaw20_ChooseDraws_raw]
  have hn := rdb_len (s := d0) hs
  have hok := okD_of hd
  (first | with_reducible refine ite_ltI (fun h1 => ?_) (fun h1 => ?_) | with_reducible refine ite_leI (fun h1 => ?_) (fun h1 => ?_) | with_reducible refine ite_gtI (fun h1 => ?_) (fun h1 => ?_) | with_reducible refine ite_geI (fun h1 => ?_) (fun h1 => ?_) | with_reducible refine ite_eqI (fun h1 => ?_) (fun h1 => ?_) | with_reducible refine ite_neI (fun h1 => ?_) (fun h1 => ?_) | with_reducible refine ite_eqS (fun h1 => ?_) (fun h1 => ?_) | with_reducible refine ite_neS (fun h1 => ?_) (fun h1 => ?_) | with_reducible refine ite_dec (fun h1 => ?_) (fun h1 => ?_) | with_reducible refine ite_ndec (fun h1 => ?_) (fun h1 => ?_) | with_reducible refine ite_some (fun i_ h1 => ?_) (fun h1 => ?_) | with_reducible refine ite_nsome (fun h1 => ?_) (fun i_ h1 => ?_) | with_reducible refine ite_cases (fun h1 => ?_) (fun h1 => ?_))
  · exact call1_of (known20 hs) fun e w ⟨he, hs⟩ => ⟨_, he, rfl, hs⟩
  (first | with_reducible refine ite_ltI (fun h2 => ?_) (fun h2 => ?_) | with_reducible refine ite_leI (fun h2 => ?_) (fun h2 => ?_) | with_reducible refine ite_gtI (fun h2 => ?_) (fun h2 => ?_) | with_reducible refine ite_geI (fun h2 => ?_) (fun h2 => ?_) | with_reducible refine ite_eqI (fun h2 => ?_) (fun h2 => ?_) | with_reducible refine ite_neI (fun h2 => ?_) (fun h2 => ?_) | with_reducible refine ite_eqS (fun h2 => ?_) (fun h2 => ?_) | with_reducible refine ite_neS (fun h2 => ?_) (fun h2 => ?_) | with_reducible refine ite_dec (fun h2 => ?_) (fun h2 => ?_) | with_reducible refine ite_ndec (fun h2 => ?_) (fun h2 => ?_) | with_reducible refine ite_some (fun i_ h2 => ?_) (fun h2 => ?_) | with_reducible refine ite_nsome (fun h2 => ?_) (fun i_ h2 => ?_) | with_reducible refine ite_cases (fun h2 => ?_) (fun h2 => ?_))
  · exact call1_of (known20 hs) fun e w ⟨he, hs⟩ => ⟨_, he, rfl, hs⟩
  (first | with_reducible refine ite_ltI (fun h3 => ?_) (fun h3 => ?_) | with_reducible refine ite_leI (fun h3 => ?_) (fun h3 => ?_) | with_reducible refine ite_gtI (fun h3 => ?_) (fun h3 => ?_) | with_reducible refine ite_geI (fun h3 => ?_) (fun h3 => ?_) | with_reducible refine ite_eqI (fun h3 => ?_) (fun h3 => ?_) | with_reducible refine ite_neI (fun h3 => ?_) (fun h3 => ?_) | with_reducible refine ite_eqS (fun h3 => ?_) (fun h3 => ?_) | with_reducible refine ite_neS (fun h3 => ?_) (fun h3 => ?_) | with_reducible refine ite_dec (fun h3 => ?_) (fun h3 => ?_) | with_reducible refine ite_ndec (fun h3 => ?_) (fun h3 => ?_) | with_reducible refine ite_some (fun i_ h3 => ?_) (fun h3 => ?_) | with_reducible refine ite_nsome (fun h3 => ?_) (fun i_ h3 => ?_) | with_reducible refine ite_cases (fun h3 => ?_) (fun h3 => ?_))
  · exact call1_of (known20 hs) fun e w ⟨he, hs⟩ => ⟨_, he, rfl, hs⟩
  (first | with_reducible refine ite_ltI (fun h4 => ?_) (fun h4 => ?_) | with_reducible refine ite_leI (fun h4 => ?_) (fun h4 => ?_) | with_reducible refine ite_gtI (fun h4 => ?_) (fun h4 => ?_) | with_reducible refine ite_geI (fun h4 => ?_) (fun h4 => ?_) | with_reducible refine ite_eqI (fun h4 => ?_) (fun h4 => ?_) | with_reducible refine ite_neI (fun h4 => ?_) (fun h4 => ?_) | with_reducible refine ite_eqS (fun h4 => ?_) (fun h4 => ?_) | with_reducible refine ite_neS (fun h4 => ?_) (fun h4 => ?_) | with_reducible refine ite_dec (fun h4 => ?_) (fun h4 => ?_) | with_reducible refine ite_ndec (fun h4 => ?_) (fun h4 => ?_) | with_reducible refine ite_some (fun i_ h4 => ?_) (fun h4 => ?_) | with_reducible refine ite_nsome (fun h4 => ?_) (fun i_ h4 => ?_) | with_reducible refine ite_cases (fun h4 => ?_) (fun h4 => ?_))
  · exact call1_of (known20 hs) fun e w ⟨he, hs⟩ => ⟨_, he, rfl, hs⟩
  (first | with_reducible refine ite_ltI (fun h5 => ?_) (fun h5 => ?_) | with_reducible refine ite_leI (fun h5 => ?_) (fun h5 => ?_) | with_reducible refine ite_gtI (fun h5 => ?_) (fun h5 => ?_) | with_reducible refine ite_geI (fun h5 => ?_) (fun h5 => ?_) | with_reducible refine ite_eqI (fun h5 => ?_) (fun h5 => ?_) | with_reducible refine ite_neI (fun h5 => ?_) (fun h5 => ?_) | with_reducible refine ite_eqS (fun h5 => ?_) (fun h5 => ?_) | with_reducible refine ite_neS (fun h5 => ?_) (fun h5 => ?_) | with_reducible refine ite_dec (fun h5 => ?_) (fun h5 => ?_) | with_reducible refine ite_ndec (fun h5 => ?_) (fun h5 => ?_) | with_reducible refine ite_some (fun i_ h5 => ?_) (fun h5 => ?_) | with_reducible refine ite_nsome (fun h5 => ?_) (fun i_ h5 => ?_) | with_reducible refine ite_cases (fun h5 => ?_) (fun h5 => ?_))
  · exact call1_of (known20 hs) fun e w ⟨he, hs⟩ => ⟨_, he, rfl, hs⟩
  rw [hoardlaw20_ChooseDraws_j1_def, hoardlaw20_ChooseDraws_j1_raw]
  refine (tnew_at (ds := ds) (s0 := d0) hs (fun w h => (rd_rdb (s := d0) h).trans (by rw [u32s_flat])) hn (by omega)).mono fun e w ⟨tb, he, hs⟩ => ⟨_, he, ?_⟩
  refine (ch_New (kind := kind) (hold := 3) hs).mono fun e w h => ?_
  rcases h with ⟨g1, _, _⟩ | ⟨_, g1, _, _⟩ | ⟨_, _, b, he, hs⟩
  · omega
  · omega
  refine ⟨_, _, he, ite_false rfl (ite_false rfl ?_)⟩
  rw [hoardlaw20_ChooseDraws_j2_def, hoardlaw20_ChooseDraws_j2_raw]
  obtain ⟨N, hN⟩ : ∃ N : Nat, epochs = (N : Int) := ⟨epochs.toNat, by omega⟩
  subst hN
  have loop : ∀ (f i : Nat) (w : World) (x : ChS), i + f = N → is5L x.ws = true → x.k = i → (0 ≤ x.n ∧ x.n ≤ i) → Sat W w [blk b (chC 3 (some ⟨tb, 0, none⟩) x), tapeR tb ds (x.k : Int), old W] →
      hoardlaw20_ChooseDraws_l3 idJ (fun v w' => v = .bool true ∧ Sat W w' [old W]) (f + 1) (N : Int) force (some ⟨tb, 0, none⟩) (some ⟨b, 0, none⟩) (i : Int) w := by
    intro f
    induction f with
    | zero =>
      intro i w x hi his hk hxn hs
      rw [hoardlaw20_ChooseDraws_l3_raw]
      refine ite_false (decide_eq_false (by omega)) ?_
      rw [hoardlaw20_ChooseDraws_j5_def, hoardlaw20_ChooseDraws_j5_raw]
      refine call1_of (tp_Taken hs) fun e w ⟨he, hs⟩ => ⟨_, he, ?_⟩
      refine ite_true (by rw [hk, show i = N by omega]; simp) ?_
      exact call1_of (known20 hs) fun e w ⟨he, hs⟩ => ⟨_, he, rfl, by exact Sat.fin hs⟩
    | succ f ih =>
      intro i w x hi his hk hxn hs
      rw [hoardlaw20_ChooseDraws_l3_raw]
      refine ite_true (decide_eq_true (by omega)) ?_
      refine call1_of (tp_Taken hs) fun e w ⟨he, hs⟩ => ⟨_, he, ?_⟩
      refine ite_false (by rw [hk]; simp) ?_
      refine (ch_Weights (x := x) hs).mono fun e w ⟨he, hs⟩ => ⟨_, _, _, _, _, he, ?_⟩
      iterate 6 first | refine newB_at hs fun b15 w hs => ?_ | refine st_b hs fun w hs => ?_
      refine drawW_only [blk b15 [.int .u64 (x.ws.getD 0 0), .int .u64 (x.ws.getD 1 0), .int .u64 (x.ws.getD 2 0), .int .u64 (x.ws.getD 3 0), .int .u64 (x.ws.getD 4 0)]] hs fun w hs => ?_
      refine call1_of (ch_Force (kind := force) (x := x) hs) fun e w ⟨he, hs⟩ => ⟨_, he, ?_⟩
      have hF1 : (chForce x force).1 = if 0 ≤ force ∧ force < 5 then 0 else 4 := by unfold chForce; split <;> rfl
      obtain ⟨f1, f2, f3⟩ := chForce_ws x force
      have f3 := f3 hxn.1
      generalize (chForce x force).2 = y at *
      have j4 : ∀ w, Sat W w [blk b (chC 3 (some ⟨tb, 0, none⟩) y), tapeR tb ds (x.k : Int), old W] → hoardlaw20_ChooseDraws_j4 idJ (fun v w' => v = .bool true ∧ Sat W w' [old W]) (f + 1) (N : Int) force (some ⟨tb, 0, none⟩) (some ⟨b, 0, none⟩) (i : Int) w := by
        intro w hs
        rw [hoardlaw20_ChooseDraws_j4_def, hoardlaw20_ChooseDraws_j4_raw]
        have hs : Sat W w [blk b (chC 3 (some ⟨tb, 0, none⟩) y), tapeR tb ds (y.k : Int), old W] := by rw [f2]; exact hs
        refine call2_of (ch_Epoch (x := y) hs (by rw [f1]; exact his) (by omega) (by omega) hok (by omega) _ _ _ _ _ _) fun e w ⟨he, hs⟩ => ⟨_, _, he, ?_⟩
        have his2 := nextW_is y.ws (bits .and .i64 (i : Int) 3) 1 0 2 0 10
        generalize nextW y.ws (bits .and .i64 (i : Int) 3) 1 0 2 0 10 = ws at *
        obtain ⟨e1, e2, _, e3⟩ := chStep_ws 3 (pick5L ws (ds.getD y.k 0)) ws y
        have e3 := e3 (by omega)
        generalize (chStep 3 (pick5L ws (ds.getD y.k 0)) ws y).2 = z at *
        rw [i64_in _ (by omega)]
        refine ih (i + 1) w z (by omega) (by rw [e1]; exact his2) (by omega) (by omega) ?_
        rw [e2]; exact hs
      repeat (first | with_reducible refine nilck_some ?_ | ((with_reducible refine atLd ?_); first | refine ld_b hs ?_ | refine ld_b (x := ⟨_, _, _⟩) hs ?_ | refine ld_r0 hs ?_ | refine ld_r1 hs ?_ | refine ld_r2 hs ?_ | refine ld_r3 hs ?_ | refine ld_r4 hs ?_ | refine ld_rd0 ha_ hs ?_ | refine ld_rd1 ha_ hs ?_ | refine ld_rd2 ha_ hs ?_ | refine ld_rd3 ha_ hs ?_ | refine ld_rd4 ha_ hs ?_ | refine ld_rd5 ha_ hs ?_ | fail) | ((with_reducible refine isSt ?_); first | refine st_b hs fun w hs => ?_ | refine st_rec5 hs fun w hs => ?_ | refine st_rec4 hs fun w hs => ?_ | refine st_rec3 hs fun w hs => ?_ | refine st_rec2 hs fun w hs => ?_ | refine st_r0 hs fun w hs => ?_ | refine st_r1 hs fun w hs => ?_ | fail) | ((with_reducible refine isIdx ?_); first | refine idx_s hs fun b_ o_ hs => ?_ | refine idx_a hs ?_ | refine idx_rd hs fun b_ o_ ha_ => ?_ | fail) | ((with_reducible refine isNew ?_); first | refine newB_at hs fun b_ w hs => ?_ | fail) | ((with_reducible refine isLdS ?_); first | refine ldS_b ?_ | refine ldS_b (x := ⟨_, _, _⟩) ?_ | refine ldS_r0 ?_ | refine ldS_r1 ?_ | refine ldS_r2 ?_ | refine ldS_r3 ?_ | refine ldS_rs0 hs ?_ | refine ldS_rs1 hs ?_ | refine ldS_rs2 hs ?_ | refine ldS_rs3 hs ?_ | refine ldS_rd0 ha_ ?_ | refine ldS_rd1 ha_ ?_ | refine ldS_rd2 ha_ ?_ | refine ldS_rd3 ha_ ?_ | refine ldS_rd4 ha_ ?_ | refine ldS_rd5 ha_ ?_ | fail) | ((with_reducible refine isKeep ?_); first | refine keep_of hs ?_ | refine keep_imp hs ?_ | fail) | ((with_reducible refine isWhen ?_); first | refine when_om ?_ | fail) | ((with_reducible refine isDraw ?_); first | refine drawW_sat hs fun w hs => ?_ | fail))
      (first | with_reducible refine ite_ltI (fun g1 => ?_) (fun g1 => ?_) | with_reducible refine ite_leI (fun g1 => ?_) (fun g1 => ?_) | with_reducible refine ite_gtI (fun g1 => ?_) (fun g1 => ?_) | with_reducible refine ite_geI (fun g1 => ?_) (fun g1 => ?_) | with_reducible refine ite_eqI (fun g1 => ?_) (fun g1 => ?_) | with_reducible refine ite_neI (fun g1 => ?_) (fun g1 => ?_) | with_reducible refine ite_eqS (fun g1 => ?_) (fun g1 => ?_) | with_reducible refine ite_neS (fun g1 => ?_) (fun g1 => ?_) | with_reducible refine ite_dec (fun g1 => ?_) (fun g1 => ?_) | with_reducible refine ite_ndec (fun g1 => ?_) (fun g1 => ?_) | with_reducible refine ite_some (fun i_ g1 => ?_) (fun g1 => ?_) | with_reducible refine ite_nsome (fun g1 => ?_) (fun i_ g1 => ?_) | with_reducible refine ite_cases (fun g1 => ?_) (fun g1 => ?_))
      · refine ite_false ?_ ?_
        · rw [hF1]
          by_cases g2 : force < 5
          · rw [if_pos ⟨g1, g2⟩, decide_eq_true g2]; rfl
          · rw [if_neg (fun h => g2 h.2), decide_eq_false g2]; rfl
        repeat (first | with_reducible refine nilck_some ?_ | ((with_reducible refine atLd ?_); first | refine ld_b hs ?_ | refine ld_b (x := ⟨_, _, _⟩) hs ?_ | refine ld_r0 hs ?_ | refine ld_r1 hs ?_ | refine ld_r2 hs ?_ | refine ld_r3 hs ?_ | refine ld_r4 hs ?_ | refine ld_rd0 ha_ hs ?_ | refine ld_rd1 ha_ hs ?_ | refine ld_rd2 ha_ hs ?_ | refine ld_rd3 ha_ hs ?_ | refine ld_rd4 ha_ hs ?_ | refine ld_rd5 ha_ hs ?_ | fail) | ((with_reducible refine isSt ?_); first | refine st_b hs fun w hs => ?_ | refine st_rec5 hs fun w hs => ?_ | refine st_rec4 hs fun w hs => ?_ | refine st_rec3 hs fun w hs => ?_ | refine st_rec2 hs fun w hs => ?_ | refine st_r0 hs fun w hs => ?_ | refine st_r1 hs fun w hs => ?_ | fail) | ((with_reducible refine isIdx ?_); first | refine idx_s hs fun b_ o_ hs => ?_ | refine idx_a hs ?_ | refine idx_rd hs fun b_ o_ ha_ => ?_ | fail) | ((with_reducible refine isNew ?_); first | refine newB_at hs fun b_ w hs => ?_ | fail) | ((with_reducible refine isLdS ?_); first | refine ldS_b ?_ | refine ldS_b (x := ⟨_, _, _⟩) ?_ | refine ldS_r0 ?_ | refine ldS_r1 ?_ | refine ldS_r2 ?_ | refine ldS_r3 ?_ | refine ldS_rs0 hs ?_ | refine ldS_rs1 hs ?_ | refine ldS_rs2 hs ?_ | refine ldS_rs3 hs ?_ | refine ldS_rd0 ha_ ?_ | refine ldS_rd1 ha_ ?_ | refine ldS_rd2 ha_ ?_ | refine ldS_rd3 ha_ ?_ | refine ldS_rd4 ha_ ?_ | refine ldS_rd5 ha_ ?_ | fail) | ((with_reducible refine isKeep ?_); first | refine keep_of hs ?_ | refine keep_imp hs ?_ | fail) | ((with_reducible refine isWhen ?_); first | refine when_om ?_ | fail) | ((with_reducible refine isDraw ?_); first | refine drawW_sat hs fun w hs => ?_ | fail))
        refine (ch_Weights (x := y) hs).mono fun e w ⟨he, hs⟩ => ⟨_, _, _, _, _, he, ?_⟩
        repeat (first | with_reducible refine nilck_some ?_ | ((with_reducible refine atLd ?_); first | refine ld_b hs ?_ | refine ld_b (x := ⟨_, _, _⟩) hs ?_ | refine ld_r0 hs ?_ | refine ld_r1 hs ?_ | refine ld_r2 hs ?_ | refine ld_r3 hs ?_ | refine ld_r4 hs ?_ | refine ld_rd0 ha_ hs ?_ | refine ld_rd1 ha_ hs ?_ | refine ld_rd2 ha_ hs ?_ | refine ld_rd3 ha_ hs ?_ | refine ld_rd4 ha_ hs ?_ | refine ld_rd5 ha_ hs ?_ | fail) | ((with_reducible refine isSt ?_); first | refine st_b hs fun w hs => ?_ | refine st_rec5 hs fun w hs => ?_ | refine st_rec4 hs fun w hs => ?_ | refine st_rec3 hs fun w hs => ?_ | refine st_rec2 hs fun w hs => ?_ | refine st_r0 hs fun w hs => ?_ | refine st_r1 hs fun w hs => ?_ | fail) | ((with_reducible refine isIdx ?_); first | refine idx_s hs fun b_ o_ hs => ?_ | refine idx_a hs ?_ | refine idx_rd hs fun b_ o_ ha_ => ?_ | fail) | ((with_reducible refine isNew ?_); first | refine newB_at hs fun b_ w hs => ?_ | fail) | ((with_reducible refine isLdS ?_); first | refine ldS_b ?_ | refine ldS_b (x := ⟨_, _, _⟩) ?_ | refine ldS_r0 ?_ | refine ldS_r1 ?_ | refine ldS_r2 ?_ | refine ldS_r3 ?_ | refine ldS_rs0 hs ?_ | refine ldS_rs1 hs ?_ | refine ldS_rs2 hs ?_ | refine ldS_rs3 hs ?_ | refine ldS_rd0 ha_ ?_ | refine ldS_rd1 ha_ ?_ | refine ldS_rd2 ha_ ?_ | refine ldS_rd3 ha_ ?_ | refine ldS_rd4 ha_ ?_ | refine ldS_rd5 ha_ ?_ | fail) | ((with_reducible refine isKeep ?_); first | refine keep_of hs ?_ | refine keep_imp hs ?_ | fail) | ((with_reducible refine isWhen ?_); first | refine when_om ?_ | fail) | ((with_reducible refine isDraw ?_); first | refine drawW_sat hs fun w hs => ?_ | fail))
        refine ite_false (by rw [f1]; simp) ?_
        refine call1_of (tp_Taken hs) fun e w ⟨he, hs⟩ => ⟨_, he, ?_⟩
        refine ite_false (by rw [hk]; simp) ?_
        exact j4 w (by exact Sat.fin hs)
      · refine ite_false ?_ ?_
        · rw [hF1, if_neg (fun h => g1 h.1)]; rfl
        repeat (first | with_reducible refine nilck_some ?_ | ((with_reducible refine atLd ?_); first | refine ld_b hs ?_ | refine ld_b (x := ⟨_, _, _⟩) hs ?_ | refine ld_r0 hs ?_ | refine ld_r1 hs ?_ | refine ld_r2 hs ?_ | refine ld_r3 hs ?_ | refine ld_r4 hs ?_ | refine ld_rd0 ha_ hs ?_ | refine ld_rd1 ha_ hs ?_ | refine ld_rd2 ha_ hs ?_ | refine ld_rd3 ha_ hs ?_ | refine ld_rd4 ha_ hs ?_ | refine ld_rd5 ha_ hs ?_ | fail) | ((with_reducible refine isSt ?_); first | refine st_b hs fun w hs => ?_ | refine st_rec5 hs fun w hs => ?_ | refine st_rec4 hs fun w hs => ?_ | refine st_rec3 hs fun w hs => ?_ | refine st_rec2 hs fun w hs => ?_ | refine st_r0 hs fun w hs => ?_ | refine st_r1 hs fun w hs => ?_ | fail) | ((with_reducible refine isIdx ?_); first | refine idx_s hs fun b_ o_ hs => ?_ | refine idx_a hs ?_ | refine idx_rd hs fun b_ o_ ha_ => ?_ | fail) | ((with_reducible refine isNew ?_); first | refine newB_at hs fun b_ w hs => ?_ | fail) | ((with_reducible refine isLdS ?_); first | refine ldS_b ?_ | refine ldS_b (x := ⟨_, _, _⟩) ?_ | refine ldS_r0 ?_ | refine ldS_r1 ?_ | refine ldS_r2 ?_ | refine ldS_r3 ?_ | refine ldS_rs0 hs ?_ | refine ldS_rs1 hs ?_ | refine ldS_rs2 hs ?_ | refine ldS_rs3 hs ?_ | refine ldS_rd0 ha_ ?_ | refine ldS_rd1 ha_ ?_ | refine ldS_rd2 ha_ ?_ | refine ldS_rd3 ha_ ?_ | refine ldS_rd4 ha_ ?_ | refine ldS_rd5 ha_ ?_ | fail) | ((with_reducible refine isKeep ?_); first | refine keep_of hs ?_ | refine keep_imp hs ?_ | fail) | ((with_reducible refine isWhen ?_); first | refine when_om ?_ | fail) | ((with_reducible refine isDraw ?_); first | refine drawW_sat hs fun w hs => ?_ | fail))
        refine (ch_Weights (x := y) hs).mono fun e w ⟨he, hs⟩ => ⟨_, _, _, _, _, he, ?_⟩
        repeat (first | with_reducible refine nilck_some ?_ | ((with_reducible refine atLd ?_); first | refine ld_b hs ?_ | refine ld_b (x := ⟨_, _, _⟩) hs ?_ | refine ld_r0 hs ?_ | refine ld_r1 hs ?_ | refine ld_r2 hs ?_ | refine ld_r3 hs ?_ | refine ld_r4 hs ?_ | refine ld_rd0 ha_ hs ?_ | refine ld_rd1 ha_ hs ?_ | refine ld_rd2 ha_ hs ?_ | refine ld_rd3 ha_ hs ?_ | refine ld_rd4 ha_ hs ?_ | refine ld_rd5 ha_ hs ?_ | fail) | ((with_reducible refine isSt ?_); first | refine st_b hs fun w hs => ?_ | refine st_rec5 hs fun w hs => ?_ | refine st_rec4 hs fun w hs => ?_ | refine st_rec3 hs fun w hs => ?_ | refine st_rec2 hs fun w hs => ?_ | refine st_r0 hs fun w hs => ?_ | refine st_r1 hs fun w hs => ?_ | fail) | ((with_reducible refine isIdx ?_); first | refine idx_s hs fun b_ o_ hs => ?_ | refine idx_a hs ?_ | refine idx_rd hs fun b_ o_ ha_ => ?_ | fail) | ((with_reducible refine isNew ?_); first | refine newB_at hs fun b_ w hs => ?_ | fail) | ((with_reducible refine isLdS ?_); first | refine ldS_b ?_ | refine ldS_b (x := ⟨_, _, _⟩) ?_ | refine ldS_r0 ?_ | refine ldS_r1 ?_ | refine ldS_r2 ?_ | refine ldS_r3 ?_ | refine ldS_rs0 hs ?_ | refine ldS_rs1 hs ?_ | refine ldS_rs2 hs ?_ | refine ldS_rs3 hs ?_ | refine ldS_rd0 ha_ ?_ | refine ldS_rd1 ha_ ?_ | refine ldS_rd2 ha_ ?_ | refine ldS_rd3 ha_ ?_ | refine ldS_rd4 ha_ ?_ | refine ldS_rd5 ha_ ?_ | fail) | ((with_reducible refine isKeep ?_); first | refine keep_of hs ?_ | refine keep_imp hs ?_ | fail) | ((with_reducible refine isWhen ?_); first | refine when_om ?_ | fail) | ((with_reducible refine isDraw ?_); first | refine drawW_sat hs fun w hs => ?_ | fail))
        refine ite_false (by rw [f1]; simp) ?_
        refine call1_of (tp_Taken hs) fun e w ⟨he, hs⟩ => ⟨_, he, ?_⟩
        refine ite_false (by rw [hk]; simp) ?_
        exact j4 w (by exact Sat.fin hs)
  refine ⟨N + 1, loop N 0 w ⟨kind, startL, kind, 0, 0⟩ (by omega) start_is5 rfl (by simp) hs⟩
end
end Go.Proofs.Ytfighgokcocpbaa
