/- hoard/weigh and hoardref19: Is, Pick, even, Start. -/
import Derived.Test.YtfighgokcocpbaaWeigh
set_option linter.unusedVariables false
set_option linter.unusedSimpArgs false
set_option linter.unnecessarySimpa false
set_option linter.unusedSectionVars false
namespace Go.Proofs.Ytfighgokcocpbaa
open Go.Hb Go.IntWalk
section
variable {W w : World} {M : List HP}
theorem ris_at (h : Sat W w M) (a b c d e : Int) : Calls Try.prog id_hoardref19_Is #[.agg #[.int .u64 a, .int .u64 b, .int .u64 c, .int .u64 d, .int .u64 e]] w fun e' w' => e' = .returned (.bool (is5 a b c d e)) ∧ Sat W w' M := by
  refine c1 (hoardref19_Is_calls ?_)
  rw [hoardref19_Is_def, hoardref19_Is_raw]
  refine newB_at h fun b1 w h => ?_
  refine exM_of 6 ?_
  rw [hoardref19_Is_l1_raw]; refine ite_true (by decide) (when_of (by decide) (ld_at 0 (x := a) h rfl rfl ?_))
  refine ite_cases (fun h1 => ⟨by simp [is5, in1, h1], h.drop⟩) (fun h1 => when_of (by decide) (ld_at 0 (x := a) h rfl rfl ?_))
  refine ite_cases (fun h2 => ⟨by simp [is5, in1, h2], h.drop⟩) (fun h2 => ?_); rw [w1]
  have haa : in1 a = true := by simp only [in1, h1, h2]; rfl
  rw [hoardref19_Is_l1_raw]; refine ite_true (by decide) (when_of (by decide) (ld_at 0 (x := b) h rfl rfl ?_))
  refine ite_cases (fun h1 => ⟨by simp [is5, in1, h1], h.drop⟩) (fun h1 => when_of (by decide) (ld_at 0 (x := b) h rfl rfl ?_))
  refine ite_cases (fun h2 => ⟨by simp [is5, in1, h2], h.drop⟩) (fun h2 => ?_); rw [w2]
  have hbb : in1 b = true := by simp only [in1, h1, h2]; rfl
  rw [hoardref19_Is_l1_raw]; refine ite_true (by decide) (when_of (by decide) (ld_at 0 (x := c) h rfl rfl ?_))
  refine ite_cases (fun h1 => ⟨by simp [is5, in1, h1], h.drop⟩) (fun h1 => when_of (by decide) (ld_at 0 (x := c) h rfl rfl ?_))
  refine ite_cases (fun h2 => ⟨by simp [is5, in1, h2], h.drop⟩) (fun h2 => ?_); rw [w3]
  have hcc : in1 c = true := by simp only [in1, h1, h2]; rfl
  rw [hoardref19_Is_l1_raw]; refine ite_true (by decide) (when_of (by decide) (ld_at 0 (x := d) h rfl rfl ?_))
  refine ite_cases (fun h1 => ⟨by simp [is5, in1, h1], h.drop⟩) (fun h1 => when_of (by decide) (ld_at 0 (x := d) h rfl rfl ?_))
  refine ite_cases (fun h2 => ⟨by simp [is5, in1, h2], h.drop⟩) (fun h2 => ?_); rw [w4]
  have hdd : in1 d = true := by simp only [in1, h1, h2]; rfl
  rw [hoardref19_Is_l1_raw]; refine ite_true (by decide) (when_of (by decide) (ld_at 0 (x := e) h rfl rfl ?_))
  refine ite_cases (fun h1 => ⟨by simp [is5, in1, h1], h.drop⟩) (fun h1 => when_of (by decide) (ld_at 0 (x := e) h rfl rfl ?_))
  refine ite_cases (fun h2 => ⟨by simp [is5, in1, h2], h.drop⟩) (fun h2 => ?_); rw [w5]
  have hee : in1 e = true := by simp only [in1, h1, h2]; rfl
  rw [hoardref19_Is_l1_raw]; refine ite_false (by decide) ?_
  rw [hoardref19_Is_j2_def, hoardref19_Is_j2_raw]
  refine ld_at 0 (x := a) h rfl rfl (ld_at 0 (x := b) h rfl rfl (ld_at 0 (x := c) h rfl rfl (ld_at 0 (x := d) h rfl rfl (ld_at 0 (x := e) h rfl rfl ?_))))
  exact call1_of (rsum_at h a b c d e) fun e' w ⟨he', h⟩ => ⟨_, he', by simp [is5, haa, hbb, hcc, hdd, hee], h.drop⟩
theorem u32_64 {x : Int} (hx : 0 ≤ x ∧ x ≤ 4294967295) : IntKind.wrap .u64 x = x := by rw [IntKind.wrap_u64]; omega
theorem pick_at (h : Sat W w M) (a b c d e : Int) {x : Int} (hx : 0 ≤ x ∧ x ≤ 4294967295) : Calls Try.prog id_weigh_Pick #[.agg #[.int .u64 a, .int .u64 b, .int .u64 c, .int .u64 d, .int .u64 e], .int .u32 x] w fun e' w' => e' = .returned (.int .i64 (pick5 a b c d e x)) ∧ Sat W w' M := by
  refine c1 (weigh_Pick_calls ?_)
  rw [weigh_Pick_def, weigh_Pick_raw]
  refine newB_at h fun b1 w h => ?_
  refine ld_at 0 (x := a) h rfl rfl (ld_at 0 (x := b) h rfl rfl (ld_at 0 (x := c) h rfl rfl (ld_at 0 (x := d) h rfl rfl (ld_at 0 (x := e) h rfl rfl ?_))))
  refine exM_of 6 ?_
  rw [weigh_Pick_l1_raw, u32_64 hx]; refine ite_true (by decide) (when_of (by decide) ⟨a, rfl, rfl, ite_cases (fun h0 => ⟨by simp only [pick5, h0, cond_true, cond_false], h.drop⟩) fun h0 => ?_⟩); rw [w1]
  rw [weigh_Pick_l1_raw, u32_64 hx]; refine ite_true (by decide) (when_of (by decide) ⟨b, rfl, rfl, ite_cases (fun h1 => ⟨by simp only [pick5, h0, h1, cond_true, cond_false], h.drop⟩) fun h1 => ?_⟩); rw [w2]
  rw [weigh_Pick_l1_raw, u32_64 hx]; refine ite_true (by decide) (when_of (by decide) ⟨c, rfl, rfl, ite_cases (fun h2 => ⟨by simp only [pick5, h0, h1, h2, cond_true, cond_false], h.drop⟩) fun h2 => ?_⟩); rw [w3]
  rw [weigh_Pick_l1_raw, u32_64 hx]; refine ite_true (by decide) (when_of (by decide) ⟨d, rfl, rfl, ite_cases (fun h3 => ⟨by simp only [pick5, h0, h1, h2, h3, cond_true, cond_false], h.drop⟩) fun h3 => ?_⟩); rw [w4]
  rw [weigh_Pick_l1_raw, u32_64 hx]; refine ite_true (by decide) (when_of (by decide) ⟨e, rfl, rfl, ite_cases (fun h4 => ⟨by simp only [pick5, h0, h1, h2, h3, cond_true, cond_false], h.drop⟩) fun h4 => ?_⟩); rw [w5]
  rw [weigh_Pick_l1_raw]; refine ite_false (by decide) ?_
  rw [weigh_Pick_j2_def, weigh_Pick_j2_raw]
  exact ⟨by simp only [pick5, h0, h1, h2, h3, cond_false], h.drop⟩
theorem rpick_at (h : Sat W w M) (a b c d e : Int) {x : Int} (hx : 0 ≤ x ∧ x ≤ 4294967295) : Calls Try.prog id_hoardref19_Pick #[.agg #[.int .u64 a, .int .u64 b, .int .u64 c, .int .u64 d, .int .u64 e], .int .u32 x] w fun e' w' => e' = .returned (.int .i64 (pick5 a b c d e x)) ∧ Sat W w' M := by
  refine c1 (hoardref19_Pick_calls ?_)
  rw [hoardref19_Pick_def, hoardref19_Pick_raw]
  refine newB_at h fun b1 w h => ?_
  refine exM_of 6 ?_
  rw [hoardref19_Pick_l1_raw, u32_64 hx]; refine ite_true (by decide) (when_of (by decide) (ld_at 0 (x := a) h rfl rfl (ite_cases (fun h0 => ⟨by simp only [pick5, h0, cond_true, cond_false], h.drop⟩) fun h0 => ?_))); rw [w1]
  rw [hoardref19_Pick_l1_raw, u32_64 hx]; refine ite_true (by decide) (when_of (by decide) (ld_at 0 (x := b) h rfl rfl (ite_cases (fun h1 => ⟨by simp only [pick5, h0, h1, cond_true, cond_false], h.drop⟩) fun h1 => ?_))); rw [w2]
  rw [hoardref19_Pick_l1_raw, u32_64 hx]; refine ite_true (by decide) (when_of (by decide) (ld_at 0 (x := c) h rfl rfl (ite_cases (fun h2 => ⟨by simp only [pick5, h0, h1, h2, cond_true, cond_false], h.drop⟩) fun h2 => ?_))); rw [w3]
  rw [hoardref19_Pick_l1_raw, u32_64 hx]; refine ite_true (by decide) (when_of (by decide) (ld_at 0 (x := d) h rfl rfl (ite_cases (fun h3 => ⟨by simp only [pick5, h0, h1, h2, h3, cond_true, cond_false], h.drop⟩) fun h3 => ?_))); rw [w4]
  rw [hoardref19_Pick_l1_raw, u32_64 hx]; refine ite_true (by decide) (when_of (by decide) (ld_at 0 (x := e) h rfl rfl (ite_cases (fun h4 => ⟨by simp only [pick5, h0, h1, h2, h3, cond_true, cond_false], h.drop⟩) fun h4 => ?_))); rw [w5]
  rw [hoardref19_Pick_l1_raw]; refine ite_false (by decide) ?_
  rw [hoardref19_Pick_j2_def, hoardref19_Pick_j2_raw]
  exact ⟨by simp only [pick5, h0, h1, h2, h3, cond_false], h.drop⟩

theorem u64s_get {ws : List Int} {i : Nat} (h : i < ws.length) : (u64s ws)[i]? = some (.int .u64 (ws.getD i 0)) := by
  rw [u64s, List.getElem?_map, List.getD_eq_getElem?_getD, List.getElem?_eq_getElem h]; rfl
theorem even_loop {ws zs : List Int} (hl : ws.length = 5) {b1 b2 : Nat} {Q : Value → WP} (hQ : ∀ w, Sat W w (blk b2 (u64s zs) :: blk b1 (u64s ws) :: M) → weigh_even_j2 idJ Q b1 0 b2 0 ((bestF ws 5 0 0 : Nat) : Int) w) :
    ∀ (m i b : Nat) (w : World), i + m = 5 → b < 5 → bestF ws m i b = bestF ws 5 0 0 → Sat W w (blk b2 (u64s zs) :: blk b1 (u64s ws) :: M) → weigh_even_l1 idJ Q (m + 1) b1 0 b2 0 (b : Int) (i : Int) w := by
  intro m
  induction m with
  | zero =>
    intro i b w hi hb hf h
    rw [weigh_even_l1_raw]
    refine ite_false (by simp; omega) ?_
    have := hQ w h
    rwa [← hf] at this
  | succ m ih =>
    intro i b w hi hb hf h
    rw [weigh_even_l1_raw]
    refine ite_true (by simp; omega) ?_
    refine drawW_same ?_
    have h := h.drew
    refine when_of ⟨by omega, by omega⟩ ?_
    refine ldS_same (x := ws.getD i 0) ((h.cell (q := 1) rfl).trans (by rw [Int.toNat_natCast, Nat.mul_one, Nat.zero_add]; exact u64s_get (by omega))) ?_
    refine when_of ⟨by omega, by omega⟩ ?_
    refine ld_at 1 (x := ws.getD b 0) h rfl (by rw [Int.toNat_natCast, Nat.mul_one, Nat.zero_add]; exact u64s_get (by omega)) ?_
    refine keep_of rfl ?_
    rw [i64_in _ (by omega)]
    have hf' : bestF ws m (i + 1) (if ws.getD i 0 > ws.getD b 0 then i else b) = bestF ws 5 0 0 := hf
    refine ite_cases (fun hc => ?_) (fun hc => ?_) <;> simp only [decide_eq_true_eq, decide_eq_false_iff_not] at hc
    · rw [if_pos hc] at hf'
      exact ih (i + 1) i _ (by omega) (by omega) hf' h
    · rw [if_neg hc] at hf'
      exact ih (i + 1) b _ (by omega) hb hf' h
theorem even_at (h : Sat W w M) {ws : List Int} (hl : ws.length = 5) : Calls Try.prog id_weigh_even #[agg5 ws] w fun e' w' => e' = .returned (agg5 (evenL ws)) ∧ Sat W w' M := by
  obtain ⟨a, b, c, d, e, rfl⟩ : ∃ a b c d e, ws = [a, b, c, d, e] := by
    match ws, hl with
    | [a, b, c, d, e], _ => exact ⟨a, b, c, d, e, rfl⟩
  refine c1 (weigh_even_calls (w0_0 := a) (w0_1 := b) (w0_2 := c) (w0_3 := d) (w0_4 := e) ?_)
  rw [weigh_even_def, weigh_even_raw]
  refine newB_at h fun b1 w h => ?_
  refine newB_at h fun b2 w h => ?_
  refine exM_of 6 ?_
  refine even_loop (ws := [a, b, c, d, e]) (zs := [0, 0, 0, 0, 0]) rfl ?_ 5 0 0 w (by omega) (by omega) rfl h
  intro w h
  have hb5 : bestF [a, b, c, d, e] 5 0 0 < 5 := bestF_lt (by omega) (by omega)
  have hev : evenL [a, b, c, d, e] = [a, b, c, d, e].set (bestF [a, b, c, d, e] 5 0 0) (IntKind.wrap .u64 ([a, b, c, d, e].getD (bestF [a, b, c, d, e] 5 0 0) 0 + IntKind.wrap .u64 (4294967296 - sum5 a b c d e))) := rfl
  rw [hev]
  generalize bestF [a, b, c, d, e] 5 0 0 = t at *
  rw [weigh_even_j2_def, weigh_even_j2_raw]
  refine drawW_by (fun w' => Sat W w' (blk b2 (u64s [0, 0, 0, 0, 0]) :: blk b1 (u64s [a, b, c, d, e]) :: M)) h.drew ?_
  have h := h.drew
  refine when_of ⟨by omega, by omega⟩ ?_
  refine ldS_by ([a, b, c, d, e].getD t 0) (fun w' h' => (h'.cell (q := 1) rfl).trans (by rw [Int.toNat_natCast, Nat.mul_one, Nat.zero_add]; exact u64s_get (by simp; omega))) ?_
  refine ld_at 1 (x := a) h rfl rfl (ld_at 1 (x := b) h rfl rfl (ld_at 1 (x := c) h rfl rfl (ld_at 1 (x := d) h rfl rfl (ld_at 1 (x := e) h rfl rfl ?_))))
  refine keep_of h ?_
  refine call1_of (sum_at h a b c d e) fun e' w ⟨he', h⟩ => ⟨_, he', ?_⟩
  refine keep_of h ?_
  refine when_of ⟨by omega, by omega⟩ ?_
  refine st_at 1 h rfl (by simp [u64s]; omega) fun w h => ?_
  have hset : (u64s [a, b, c, d, e]).set (0 + ((t : Nat) : Int).toNat * 1) (.int .u64 (IntKind.wrap .u64 ([a, b, c, d, e].getD t 0 + IntKind.wrap .u64 (4294967296 - sum5 a b c d e)))) =
      u64s ([a, b, c, d, e].set t (IntKind.wrap .u64 ([a, b, c, d, e].getD t 0 + IntKind.wrap .u64 (4294967296 - sum5 a b c d e)))) := by
    rw [Int.toNat_natCast, Nat.mul_one, Nat.zero_add, u64s, u64s, List.map_set]
  have h : Sat W w (blk b2 (u64s [0, 0, 0, 0, 0]) :: blk b1 ((u64s [a, b, c, d, e]).set (0 + ((t : Nat) : Int).toNat * 1) (.int .u64 (IntKind.wrap .u64 ([a, b, c, d, e].getD t 0 + IntKind.wrap .u64 (4294967296 - sum5 a b c d e))))) :: M) := h
  rw [hset] at h
  generalize IntKind.wrap .u64 ([a, b, c, d, e].getD t 0 + IntKind.wrap .u64 (4294967296 - sum5 a b c d e)) = y at h ⊢
  obtain ⟨a', b', c', d', e', hw⟩ : ∃ a' b' c' d' e', [a, b, c, d, e].set t y = [a', b', c', d', e'] := by
    have hl' : ([a, b, c, d, e].set t y).length = 5 := by simp
    match [a, b, c, d, e].set t y, hl' with
    | [a, b, c, d, e], _ => exact ⟨a, b, c, d, e, rfl⟩
  rw [hw] at h ⊢
  refine ld_at 1 (x := a') h rfl rfl (ld_at 1 (x := b') h rfl rfl (ld_at 1 (x := c') h rfl rfl (ld_at 1 (x := d') h rfl rfl (ld_at 1 (x := e') h rfl rfl ?_))))
  refine st_at 0 h rfl (by simp [u64s]) fun w h => st_at 0 h rfl (by simp [u64s]) fun w h => st_at 0 h rfl (by simp [u64s]) fun w h => st_at 0 h rfl (by simp [u64s]) fun w h => st_at 0 h rfl (by simp [u64s]) fun w h => ?_
  refine ld_at 0 (x := a') h rfl rfl (ld_at 0 (x := b') h rfl rfl (ld_at 0 (x := c') h rfl rfl (ld_at 0 (x := d') h rfl rfl (ld_at 0 (x := e') h rfl rfl ?_))))
  exact ⟨rfl, h.drop.drop⟩
theorem keepZ_ok0 : ∀ k : Fin 16, 858993459 ≤ keepZ k.val ∧ keepZ k.val ≤ 4294967296 := by decide +kernel
def startL : List Int := [858993460, 858993459, 858993459, 858993459, 858993459]
theorem start_at (h : Sat W w M) : Calls Try.prog id_weigh_Start #[] w fun e' w' => e' = .returned (agg5 startL) ∧ Sat W w' M := by
  refine c1 (weigh_Start_calls ?_)
  rw [weigh_Start_def, weigh_Start_raw]
  refine newB_at h fun b1 w h => ?_
  refine newB_at h fun b2 w h => ?_
  refine exM_of 6 ?_
  rw [weigh_Start_l1_raw]; refine ite_true (by decide) (when_of (by decide) (st_at 0 h rfl (by simp) fun w h => ?_)); rw [w1]
  rw [weigh_Start_l1_raw]; refine ite_true (by decide) (when_of (by decide) (st_at 0 h rfl (by simp) fun w h => ?_)); rw [w2]
  rw [weigh_Start_l1_raw]; refine ite_true (by decide) (when_of (by decide) (st_at 0 h rfl (by simp) fun w h => ?_)); rw [w3]
  rw [weigh_Start_l1_raw]; refine ite_true (by decide) (when_of (by decide) (st_at 0 h rfl (by simp) fun w h => ?_)); rw [w4]
  rw [weigh_Start_l1_raw]; refine ite_true (by decide) (when_of (by decide) (st_at 0 h rfl (by simp) fun w h => ?_)); rw [w5]
  rw [weigh_Start_l1_raw]; refine ite_false (by decide) ?_
  rw [weigh_Start_j2_def, weigh_Start_j2_raw]
  refine ld_at 0 (x := 858993459) h rfl rfl (ld_at 0 (x := 858993459) h rfl rfl (ld_at 0 (x := 858993459) h rfl rfl (ld_at 0 (x := 858993459) h rfl rfl (ld_at 0 (x := 858993459) h rfl rfl ?_))))
  refine (even_at (ws := [858993459, 858993459, 858993459, 858993459, 858993459]) h rfl).mono fun e' w ⟨he, h⟩ => ⟨_, _, _, _, _, he, ?_⟩
  have hev : evenL [858993459, 858993459, 858993459, 858993459, 858993459] = startL := by decide +kernel
  rw [hev]
  refine st_at 1 h rfl (by simp) fun w h => st_at 1 h rfl (by simp) fun w h => st_at 1 h rfl (by simp) fun w h => st_at 1 h rfl (by simp) fun w h => st_at 1 h rfl (by simp) fun w h => ?_
  refine ld_at 1 (x := 858993460) h rfl rfl (ld_at 1 (x := 858993459) h rfl rfl (ld_at 1 (x := 858993459) h rfl rfl (ld_at 1 (x := 858993459) h rfl rfl (ld_at 1 (x := 858993459) h rfl rfl ?_))))
  exact ⟨rfl, h.drop.drop⟩
theorem rstart_at (h : Sat W w M) : Calls Try.prog id_hoardref19_Start #[] w fun e' w' => e' = .returned (agg5 startL) ∧ Sat W w' M := by
  refine c1 (hoardref19_Start_calls ?_)
  rw [hoardref19_Start_def, hoardref19_Start_raw]
  refine newB_at h fun b1 w h => ?_
  refine newB_at h fun b2 w h => ?_
  refine exM_of 6 ?_
  rw [hoardref19_Start_l1_raw]; refine ite_true (by decide) (when_of (by decide) (st_at 0 h rfl (by simp) fun w h => ?_)); rw [w1]
  rw [hoardref19_Start_l1_raw]; refine ite_true (by decide) (when_of (by decide) (st_at 0 h rfl (by simp) fun w h => ?_)); rw [w2]
  rw [hoardref19_Start_l1_raw]; refine ite_true (by decide) (when_of (by decide) (st_at 0 h rfl (by simp) fun w h => ?_)); rw [w3]
  rw [hoardref19_Start_l1_raw]; refine ite_true (by decide) (when_of (by decide) (st_at 0 h rfl (by simp) fun w h => ?_)); rw [w4]
  rw [hoardref19_Start_l1_raw]; refine ite_true (by decide) (when_of (by decide) (st_at 0 h rfl (by simp) fun w h => ?_)); rw [w5]
  rw [hoardref19_Start_l1_raw]; refine ite_false (by decide) ?_
  rw [hoardref19_Start_j2_def, hoardref19_Start_j2_raw]
  refine when_of (by decide) (ld_at 0 (x := 858993459) h rfl rfl (when_of (by decide) (st_at 0 h rfl (by simp) fun w h => ?_)))
  rw [show IntKind.wrap .u64 ((858993459 : Int) + 1) = 858993460 by decide +kernel] at h
  refine ld_at 0 (x := 858993460) h rfl rfl (ld_at 0 (x := 858993459) h rfl rfl (ld_at 0 (x := 858993459) h rfl rfl (ld_at 0 (x := 858993459) h rfl rfl (ld_at 0 (x := 858993459) h rfl rfl ?_))))
  refine st_at 1 h rfl (by simp) fun w h => st_at 1 h rfl (by simp) fun w h => st_at 1 h rfl (by simp) fun w h => st_at 1 h rfl (by simp) fun w h => st_at 1 h rfl (by simp) fun w h => ?_
  refine ld_at 1 (x := 858993460) h rfl rfl (ld_at 1 (x := 858993459) h rfl rfl (ld_at 1 (x := 858993459) h rfl rfl (ld_at 1 (x := 858993459) h rfl rfl (ld_at 1 (x := 858993459) h rfl rfl ?_))))
  exact ⟨rfl, h.drop.drop⟩
end
end Go.Proofs.Ytfighgokcocpbaa
