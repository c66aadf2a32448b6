/- hoardref19.Next: its contract: the same as weigh.Next. -/
import Derived.Test.YtfighgokcocpbaaWeigh3
set_option linter.unusedVariables false
set_option linter.unusedSimpArgs false
set_option linter.unnecessarySimpa false
set_option linter.unusedSectionVars false
namespace Go.Proofs.Ytfighgokcocpbaa
open Go.Hb Go.IntWalk
section
variable {W w : World} {M : List HP}
theorem rnext_l5 {ws : List Int} (hl : ws.length = 5) {b3 b7 : Nat} {Q : Value → WP} (hQ : ∀ w, Sat W w (blk b7 (u64s ws) :: blk b3 [.int .u64 0, .int .u64 0, .int .u64 0, .int .u64 0, .int .u64 0] :: M) → hoardref19_Next_j6 idJ Q b3 0 b7 0 ((bestF ws 5 0 0 : Nat) : Int) w) :
    ∀ (m i b : Nat) (w : World), i + m = 5 → b < 5 → bestF ws m i b = bestF ws 5 0 0 → Sat W w (blk b7 (u64s ws) :: blk b3 [.int .u64 0, .int .u64 0, .int .u64 0, .int .u64 0, .int .u64 0] :: M) → hoardref19_Next_l5 idJ Q (m + 1) b3 0 b7 0 (b : Int) (i : Int) w := by
  intro m
  induction m with
  | zero =>
    intro i b w hi hb hf h
    rw [hoardref19_Next_l5_raw]
    refine ite_false (by simp; omega) ?_
    have := hQ w h
    rwa [← hf] at this
  | succ m ih =>
    intro i b w hi hb hf h
    rw [hoardref19_Next_l5_raw]
    refine ite_true (by simp; omega) ?_
    refine drawW_same ?_
    have h := h.drew
    refine when_of ⟨by omega, by omega⟩ ?_
    refine ldS_same (x := ws.getD i 0) ((h.cell (q := 0) rfl).trans (by rw [Int.toNat_natCast, Nat.mul_one, Nat.zero_add]; exact u64s_get (by omega))) ?_
    refine when_of ⟨by omega, by omega⟩ ?_
    refine ld_at 0 (x := ws.getD b 0) h rfl (by rw [Int.toNat_natCast, Nat.mul_one, Nat.zero_add]; exact u64s_get (by omega)) ?_
    refine keep_of rfl ?_
    rw [i64_in _ (by omega)]
    have hf' : bestF ws m (i + 1) (if ws.getD i 0 > ws.getD b 0 then i else b) = bestF ws 5 0 0 := hf
    refine ite_cases (fun hc => ?_) (fun hc => ?_) <;> simp only [decide_eq_true_eq, decide_eq_false_iff_not] at hc
    · rw [if_pos hc] at hf'
      exact ih (i + 1) i _ (by omega) (by omega) hf' h
    · rw [if_neg hc] at hf'
      exact ih (i + 1) b _ (by omega) hb hf' h
theorem turn_sum (x y : Int) : IntKind.wrap .u64 (IntKind.wrap .u64 (x + 4294967296) - y) = IntKind.wrap .u64 (x + IntKind.wrap .u64 (4294967296 - y)) := by
  simp only [IntKind.wrap_u64]; omega
theorem rnext_j4 {ws : List Int} (hl : ws.length = 5) {b3 b7 : Nat} (h : Sat W w (blk b7 (u64s ws) :: blk b3 [.int .u64 0, .int .u64 0, .int .u64 0, .int .u64 0, .int .u64 0] :: M)) {Q : Value → WP} (hQ : ∀ w, Sat W w M → Q (agg5 (evenL ws)) w) : hoardref19_Next_j4 idJ Q b3 0 b7 0 (0 : Int) w := by
  obtain ⟨a, b, c, d, e, rfl⟩ : ∃ a b c d e, ws = [a, b, c, d, e] := by
    match ws, hl with
    | [a, b, c, d, e], _ => exact ⟨a, b, c, d, e, rfl⟩
  rw [hoardref19_Next_j4_def, hoardref19_Next_j4_raw]
  have hb0 : bestF [a, b, c, d, e] 4 1 0 = bestF [a, b, c, d, e] 5 0 0 := by
    show _ = bestF [a, b, c, d, e] 4 1 (if [a, b, c, d, e].getD 0 0 > [a, b, c, d, e].getD 0 0 then 0 else 0)
    rw [ite_self]
  refine exM_of 5 ?_
  refine rnext_l5 (ws := [a, b, c, d, e]) rfl ?_ 4 1 0 w (by omega) (by omega) hb0 h
  intro w h
  have hb5 : bestF [a, b, c, d, e] 5 0 0 < 5 := bestF_lt (by omega) (by omega)
  have hev : evenL [a, b, c, d, e] = [a, b, c, d, e].set (bestF [a, b, c, d, e] 5 0 0) (IntKind.wrap .u64 ([a, b, c, d, e].getD (bestF [a, b, c, d, e] 5 0 0) 0 + IntKind.wrap .u64 (4294967296 - sum5 a b c d e))) := rfl
  rw [hev] at hQ
  generalize bestF [a, b, c, d, e] 5 0 0 = t at *
  rw [hoardref19_Next_j6_def, hoardref19_Next_j6_raw]
  refine drawW_by (fun w' => Sat W w' (blk b7 (u64s [a, b, c, d, e]) :: blk b3 [.int .u64 0, .int .u64 0, .int .u64 0, .int .u64 0, .int .u64 0] :: M)) h.drew ?_
  have h := h.drew
  refine when_of ⟨by omega, by omega⟩ ?_
  refine ldS_by ([a, b, c, d, e].getD t 0) (fun w' h' => (h'.cell (q := 0) rfl).trans (by rw [Int.toNat_natCast, Nat.mul_one, Nat.zero_add]; exact u64s_get (by simp; omega))) ?_
  refine ld_at 0 (x := a) h rfl rfl (ld_at 0 (x := b) h rfl rfl (ld_at 0 (x := c) h rfl rfl (ld_at 0 (x := d) h rfl rfl (ld_at 0 (x := e) h rfl rfl ?_))))
  refine keep_of h ?_
  refine call1_of (rsum_at h a b c d e) fun e' w ⟨he', h⟩ => ⟨_, he', ?_⟩
  refine keep_of h ?_
  refine when_of ⟨by omega, by omega⟩ ?_
  rw [turn_sum]
  refine st_at 0 h rfl (by simp [u64s]; omega) fun w h => ?_
  have hset : (u64s [a, b, c, d, e]).set (0 + ((t : Nat) : Int).toNat * 1) (.int .u64 (IntKind.wrap .u64 ([a, b, c, d, e].getD t 0 + IntKind.wrap .u64 (4294967296 - sum5 a b c d e)))) =
      u64s ([a, b, c, d, e].set t (IntKind.wrap .u64 ([a, b, c, d, e].getD t 0 + IntKind.wrap .u64 (4294967296 - sum5 a b c d e)))) := by
    rw [Int.toNat_natCast, Nat.mul_one, Nat.zero_add, u64s, u64s, List.map_set]
  have h : Sat W w (blk b7 ((u64s [a, b, c, d, e]).set (0 + ((t : Nat) : Int).toNat * 1) (.int .u64 (IntKind.wrap .u64 ([a, b, c, d, e].getD t 0 + IntKind.wrap .u64 (4294967296 - sum5 a b c d e))))) :: blk b3 [.int .u64 0, .int .u64 0, .int .u64 0, .int .u64 0, .int .u64 0] :: M) := h
  rw [hset] at h
  generalize IntKind.wrap .u64 ([a, b, c, d, e].getD t 0 + IntKind.wrap .u64 (4294967296 - sum5 a b c d e)) = y at h hQ ⊢
  obtain ⟨a', b', c', d', e', hw⟩ : ∃ a' b' c' d' e', [a, b, c, d, e].set t y = [a', b', c', d', e'] := by
    have hl' : ([a, b, c, d, e].set t y).length = 5 := by simp
    match [a, b, c, d, e].set t y, hl' with
    | [a, b, c, d, e], _ => exact ⟨a, b, c, d, e, rfl⟩
  rw [hw] at h hQ
  refine ld_at 0 (x := a') h rfl rfl (ld_at 0 (x := b') h rfl rfl (ld_at 0 (x := c') h rfl rfl (ld_at 0 (x := d') h rfl rfl (ld_at 0 (x := e') h rfl rfl ?_))))
  refine st_at 1 h rfl (by simp) fun w h => st_at 1 h rfl (by simp) fun w h => st_at 1 h rfl (by simp) fun w h => st_at 1 h rfl (by simp) fun w h => st_at 1 h rfl (by simp) fun w h => ?_
  refine ld_at 1 (x := a') h rfl rfl (ld_at 1 (x := b') h rfl rfl (ld_at 1 (x := c') h rfl rfl (ld_at 1 (x := d') h rfl rfl (ld_at 1 (x := e') h rfl rfl ?_))))
  exact hQ w h.drop.drop
theorem rnext_l3 {a b c d e t b3 b7 : Nat} (ua : a < 18446744073709551616) (ub : b < 18446744073709551616) (uc : c < 18446744073709551616) (ud : d < 18446744073709551616) (ue : e < 18446744073709551616) (ht : t < 18446744073709551616) (h : Sat W w (blk b7 [.int .u64 (a : Int), .int .u64 (b : Int), .int .u64 (c : Int), .int .u64 (d : Int), .int .u64 (e : Int)] :: blk b3 [.int .u64 0, .int .u64 0, .int .u64 0, .int .u64 0, .int .u64 0] :: M)) {Q : Value → WP} (hQ : ∀ w, Sat W w M → Q (agg5 (next5 a b c d e t)) w) :
    (exM fun m => hoardref19_Next_l3 idJ Q m b3 0 b7 0 (t : Int) (0 : Int) (0 : Int)) w := by
  refine exM_of 6 ?_
  rw [hoardref19_Next_l3_raw, show (4294967296 : Int) = ((4294967296 : Nat) : Int) from rfl]; refine ite_true (by decide) (when_of (by decide) (ld_at 0 (x := (a : Int)) h rfl rfl ?_))
  refine call1_of (rscale_at h ua (by omega) ht) fun e' w ⟨he, h⟩ => ⟨_, he, ?_⟩
  rw [flZ]
  refine when_of (by decide) (st_at 0 h rfl (by simp) fun w h => ?_); rw [w1]
  have h : Sat W w (blk b7 [.int .u64 ((flN a t : Nat) : Int), .int .u64 (b : Int), .int .u64 (c : Int), .int .u64 (d : Int), .int .u64 (e : Int)] :: blk b3 [.int .u64 0, .int .u64 0, .int .u64 0, .int .u64 0, .int .u64 0] :: M) := h
  rw [hoardref19_Next_l3_raw, show (4294967296 : Int) = ((4294967296 : Nat) : Int) from rfl]; refine ite_true (by decide) (when_of (by decide) (ld_at 0 (x := (b : Int)) h rfl rfl ?_))
  refine call1_of (rscale_at h ub (by omega) ht) fun e' w ⟨he, h⟩ => ⟨_, he, ?_⟩
  rw [flZ]
  refine when_of (by decide) (st_at 0 h rfl (by simp) fun w h => ?_); rw [w2]
  have h : Sat W w (blk b7 [.int .u64 ((flN a t : Nat) : Int), .int .u64 ((flN b t : Nat) : Int), .int .u64 (c : Int), .int .u64 (d : Int), .int .u64 (e : Int)] :: blk b3 [.int .u64 0, .int .u64 0, .int .u64 0, .int .u64 0, .int .u64 0] :: M) := h
  rw [hoardref19_Next_l3_raw, show (4294967296 : Int) = ((4294967296 : Nat) : Int) from rfl]; refine ite_true (by decide) (when_of (by decide) (ld_at 0 (x := (c : Int)) h rfl rfl ?_))
  refine call1_of (rscale_at h uc (by omega) ht) fun e' w ⟨he, h⟩ => ⟨_, he, ?_⟩
  rw [flZ]
  refine when_of (by decide) (st_at 0 h rfl (by simp) fun w h => ?_); rw [w3]
  have h : Sat W w (blk b7 [.int .u64 ((flN a t : Nat) : Int), .int .u64 ((flN b t : Nat) : Int), .int .u64 ((flN c t : Nat) : Int), .int .u64 (d : Int), .int .u64 (e : Int)] :: blk b3 [.int .u64 0, .int .u64 0, .int .u64 0, .int .u64 0, .int .u64 0] :: M) := h
  rw [hoardref19_Next_l3_raw, show (4294967296 : Int) = ((4294967296 : Nat) : Int) from rfl]; refine ite_true (by decide) (when_of (by decide) (ld_at 0 (x := (d : Int)) h rfl rfl ?_))
  refine call1_of (rscale_at h ud (by omega) ht) fun e' w ⟨he, h⟩ => ⟨_, he, ?_⟩
  rw [flZ]
  refine when_of (by decide) (st_at 0 h rfl (by simp) fun w h => ?_); rw [w4]
  have h : Sat W w (blk b7 [.int .u64 ((flN a t : Nat) : Int), .int .u64 ((flN b t : Nat) : Int), .int .u64 ((flN c t : Nat) : Int), .int .u64 ((flN d t : Nat) : Int), .int .u64 (e : Int)] :: blk b3 [.int .u64 0, .int .u64 0, .int .u64 0, .int .u64 0, .int .u64 0] :: M) := h
  rw [hoardref19_Next_l3_raw, show (4294967296 : Int) = ((4294967296 : Nat) : Int) from rfl]; refine ite_true (by decide) (when_of (by decide) (ld_at 0 (x := (e : Int)) h rfl rfl ?_))
  refine call1_of (rscale_at h ue (by omega) ht) fun e' w ⟨he, h⟩ => ⟨_, he, ?_⟩
  rw [flZ]
  refine when_of (by decide) (st_at 0 h rfl (by simp) fun w h => ?_); rw [w5]
  have h : Sat W w (blk b7 [.int .u64 ((flN a t : Nat) : Int), .int .u64 ((flN b t : Nat) : Int), .int .u64 ((flN c t : Nat) : Int), .int .u64 ((flN d t : Nat) : Int), .int .u64 ((flN e t : Nat) : Int)] :: blk b3 [.int .u64 0, .int .u64 0, .int .u64 0, .int .u64 0, .int .u64 0] :: M) := h
  rw [hoardref19_Next_l3_raw]; refine ite_false (by decide) ?_
  exact rnext_j4 (ws := [(flN a t : Nat), (flN b t : Nat), (flN c t : Nat), (flN d t : Nat), (flN e t : Nat)]) rfl h hQ
theorem rnext_at (h : Sat W w M) {a b c d e : Nat} (ua : a < 18446744073709551616) (ub : b < 18446744073709551616) (uc : c < 18446744073709551616) (ud : d < 18446744073709551616) (ue : e < 18446744073709551616) (g0 g1 g2 g3 g4 all : Int) : Calls Try.prog id_hoardref19_Next #[.agg #[.int .u64 (a : Int), .int .u64 (b : Int), .int .u64 (c : Int), .int .u64 (d : Int), .int .u64 (e : Int)], .agg #[.int .i64 g0, .int .i64 g1, .int .i64 g2, .int .i64 g3, .int .i64 g4], .int .i64 all] w fun e' w' => e' = .returned (agg5 (nextL a b c d e g0 g1 g2 g3 g4 all)) ∧ Sat W w' M := by
  refine c1 (hoardref19_Next_calls ?_)
  rw [hoardref19_Next_def, hoardref19_Next_raw]
  refine newB_at h fun b1 w h => newB_at h fun b2 w h => newB_at h fun b3 w h => ?_
  refine ld_at 2 (x := (a : Int)) h rfl rfl (ld_at 2 (x := (b : Int)) h rfl rfl (ld_at 2 (x := (c : Int)) h rfl rfl (ld_at 2 (x := (d : Int)) h rfl rfl (ld_at 2 (x := (e : Int)) h rfl rfl ?_))))
  refine call1_of (ris_at h _ _ _ _ _) fun e' w ⟨he, h⟩ => ⟨_, he, ?_⟩
  have hn1 : is5 a b c d e = false → nextL a b c d e g0 g1 g2 g3 g4 all = startL := fun hh => if_neg (by simp [hh])
  have hn2 : is5 a b c d e = true → nextL a b c d e g0 g1 g2 g3 g4 all = nextD (dec a g0 all) (dec b g1 all) (dec c g2 all) (dec d g3 all) (dec e g4 all) := fun hh => if_pos hh
  generalize nextL a b c d e g0 g1 g2 g3 g4 all = res at *
  generalize is5 a b c d e = iq at *
  cases iq
  · rw [hn1 rfl]
    refine ite_true rfl ?_
    refine (rstart_at h).mono fun e' w ⟨he, h⟩ => ⟨_, _, _, _, _, he, ?_⟩
    refine st_at 0 h rfl (by simp) fun w h => st_at 0 h rfl (by simp) fun w h => st_at 0 h rfl (by simp) fun w h => st_at 0 h rfl (by simp) fun w h => st_at 0 h rfl (by simp) fun w h => ?_
    refine ld_at 0 (x := 858993460) h rfl rfl (ld_at 0 (x := 858993459) h rfl rfl (ld_at 0 (x := 858993459) h rfl rfl (ld_at 0 (x := 858993459) h rfl rfl (ld_at 0 (x := 858993459) h rfl rfl ?_))))
    exact ⟨rfl, h.drop.drop.drop⟩
  rw [hn2 rfl]
  refine ite_false rfl ?_
  refine newB_at h fun b7 w h => ?_
  refine exM_of 6 ?_
  have h : Sat W w (blk b7 [.int .u64 0, .int .u64 0, .int .u64 0, .int .u64 0, .int .u64 0] :: blk b3 [.int .u64 0, .int .u64 0, .int .u64 0, .int .u64 0, .int .u64 0] :: blk b2 [.int .i64 g0, .int .i64 g1, .int .i64 g2, .int .i64 g3, .int .i64 g4] :: blk b1 [.int .u64 (a : Int), .int .u64 (b : Int), .int .u64 (c : Int), .int .u64 (d : Int), .int .u64 (e : Int)] :: M) := h
  rw [hoardref19_Next_l1_raw]; refine ite_true (by decide) ?_
  refine drawW_by (fun w' => Sat W w' (blk b7 [.int .u64 0, .int .u64 0, .int .u64 0, .int .u64 0, .int .u64 0] :: blk b3 [.int .u64 0, .int .u64 0, .int .u64 0, .int .u64 0, .int .u64 0] :: blk b2 [.int .i64 g0, .int .i64 g1, .int .i64 g2, .int .i64 g3, .int .i64 g4] :: blk b1 [.int .u64 (a : Int), .int .u64 (b : Int), .int .u64 (c : Int), .int .u64 (d : Int), .int .u64 (e : Int)] :: M)) h.drew ?_
  have h := h.drew
  refine when_of (by decide) (ldS_by (a : Int) (fun w' h' => h'.cell (q := 3) rfl) (when_of (by decide) (ld_at 2 (x := g0) h rfl rfl (keep_of h ?_))))
  refine call1_of (loss_at h g0 all) fun e' w ⟨he, h⟩ => ⟨_, he, keep_of h ?_⟩
  refine call1_of (rkeepn_at h (penZ g0 all)) fun e' w ⟨he, h⟩ => ⟨_, he, keep_of h ?_⟩
  refine call1_of (rmul_at h ua (show keepK (penZ g0 all) < 18446744073709551616 by have := (keepK_ok (penZ g0 all)).2.1; omega)) fun e' w ⟨he, h⟩ => ⟨_, he, ?_⟩
  refine when_of (by decide) (st_at 0 h rfl (by simp) fun w h => ?_); rw [w1]
  have h : Sat W w (blk b7 [.int .u64 ((dec a g0 all : Nat) : Int), .int .u64 0, .int .u64 0, .int .u64 0, .int .u64 0] :: blk b3 [.int .u64 0, .int .u64 0, .int .u64 0, .int .u64 0, .int .u64 0] :: blk b2 [.int .i64 g0, .int .i64 g1, .int .i64 g2, .int .i64 g3, .int .i64 g4] :: blk b1 [.int .u64 (a : Int), .int .u64 (b : Int), .int .u64 (c : Int), .int .u64 (d : Int), .int .u64 (e : Int)] :: M) := h
  rw [hoardref19_Next_l1_raw]; refine ite_true (by decide) ?_
  refine drawW_by (fun w' => Sat W w' (blk b7 [.int .u64 ((dec a g0 all : Nat) : Int), .int .u64 0, .int .u64 0, .int .u64 0, .int .u64 0] :: blk b3 [.int .u64 0, .int .u64 0, .int .u64 0, .int .u64 0, .int .u64 0] :: blk b2 [.int .i64 g0, .int .i64 g1, .int .i64 g2, .int .i64 g3, .int .i64 g4] :: blk b1 [.int .u64 (a : Int), .int .u64 (b : Int), .int .u64 (c : Int), .int .u64 (d : Int), .int .u64 (e : Int)] :: M)) h.drew ?_
  have h := h.drew
  refine when_of (by decide) (ldS_by (b : Int) (fun w' h' => h'.cell (q := 3) rfl) (when_of (by decide) (ld_at 2 (x := g1) h rfl rfl (keep_of h ?_))))
  refine call1_of (loss_at h g1 all) fun e' w ⟨he, h⟩ => ⟨_, he, keep_of h ?_⟩
  refine call1_of (rkeepn_at h (penZ g1 all)) fun e' w ⟨he, h⟩ => ⟨_, he, keep_of h ?_⟩
  refine call1_of (rmul_at h ub (show keepK (penZ g1 all) < 18446744073709551616 by have := (keepK_ok (penZ g1 all)).2.1; omega)) fun e' w ⟨he, h⟩ => ⟨_, he, ?_⟩
  refine when_of (by decide) (st_at 0 h rfl (by simp) fun w h => ?_); rw [w2]
  have h : Sat W w (blk b7 [.int .u64 ((dec a g0 all : Nat) : Int), .int .u64 ((dec b g1 all : Nat) : Int), .int .u64 0, .int .u64 0, .int .u64 0] :: blk b3 [.int .u64 0, .int .u64 0, .int .u64 0, .int .u64 0, .int .u64 0] :: blk b2 [.int .i64 g0, .int .i64 g1, .int .i64 g2, .int .i64 g3, .int .i64 g4] :: blk b1 [.int .u64 (a : Int), .int .u64 (b : Int), .int .u64 (c : Int), .int .u64 (d : Int), .int .u64 (e : Int)] :: M) := h
  rw [hoardref19_Next_l1_raw]; refine ite_true (by decide) ?_
  refine drawW_by (fun w' => Sat W w' (blk b7 [.int .u64 ((dec a g0 all : Nat) : Int), .int .u64 ((dec b g1 all : Nat) : Int), .int .u64 0, .int .u64 0, .int .u64 0] :: blk b3 [.int .u64 0, .int .u64 0, .int .u64 0, .int .u64 0, .int .u64 0] :: blk b2 [.int .i64 g0, .int .i64 g1, .int .i64 g2, .int .i64 g3, .int .i64 g4] :: blk b1 [.int .u64 (a : Int), .int .u64 (b : Int), .int .u64 (c : Int), .int .u64 (d : Int), .int .u64 (e : Int)] :: M)) h.drew ?_
  have h := h.drew
  refine when_of (by decide) (ldS_by (c : Int) (fun w' h' => h'.cell (q := 3) rfl) (when_of (by decide) (ld_at 2 (x := g2) h rfl rfl (keep_of h ?_))))
  refine call1_of (loss_at h g2 all) fun e' w ⟨he, h⟩ => ⟨_, he, keep_of h ?_⟩
  refine call1_of (rkeepn_at h (penZ g2 all)) fun e' w ⟨he, h⟩ => ⟨_, he, keep_of h ?_⟩
  refine call1_of (rmul_at h uc (show keepK (penZ g2 all) < 18446744073709551616 by have := (keepK_ok (penZ g2 all)).2.1; omega)) fun e' w ⟨he, h⟩ => ⟨_, he, ?_⟩
  refine when_of (by decide) (st_at 0 h rfl (by simp) fun w h => ?_); rw [w3]
  have h : Sat W w (blk b7 [.int .u64 ((dec a g0 all : Nat) : Int), .int .u64 ((dec b g1 all : Nat) : Int), .int .u64 ((dec c g2 all : Nat) : Int), .int .u64 0, .int .u64 0] :: blk b3 [.int .u64 0, .int .u64 0, .int .u64 0, .int .u64 0, .int .u64 0] :: blk b2 [.int .i64 g0, .int .i64 g1, .int .i64 g2, .int .i64 g3, .int .i64 g4] :: blk b1 [.int .u64 (a : Int), .int .u64 (b : Int), .int .u64 (c : Int), .int .u64 (d : Int), .int .u64 (e : Int)] :: M) := h
  rw [hoardref19_Next_l1_raw]; refine ite_true (by decide) ?_
  refine drawW_by (fun w' => Sat W w' (blk b7 [.int .u64 ((dec a g0 all : Nat) : Int), .int .u64 ((dec b g1 all : Nat) : Int), .int .u64 ((dec c g2 all : Nat) : Int), .int .u64 0, .int .u64 0] :: blk b3 [.int .u64 0, .int .u64 0, .int .u64 0, .int .u64 0, .int .u64 0] :: blk b2 [.int .i64 g0, .int .i64 g1, .int .i64 g2, .int .i64 g3, .int .i64 g4] :: blk b1 [.int .u64 (a : Int), .int .u64 (b : Int), .int .u64 (c : Int), .int .u64 (d : Int), .int .u64 (e : Int)] :: M)) h.drew ?_
  have h := h.drew
  refine when_of (by decide) (ldS_by (d : Int) (fun w' h' => h'.cell (q := 3) rfl) (when_of (by decide) (ld_at 2 (x := g3) h rfl rfl (keep_of h ?_))))
  refine call1_of (loss_at h g3 all) fun e' w ⟨he, h⟩ => ⟨_, he, keep_of h ?_⟩
  refine call1_of (rkeepn_at h (penZ g3 all)) fun e' w ⟨he, h⟩ => ⟨_, he, keep_of h ?_⟩
  refine call1_of (rmul_at h ud (show keepK (penZ g3 all) < 18446744073709551616 by have := (keepK_ok (penZ g3 all)).2.1; omega)) fun e' w ⟨he, h⟩ => ⟨_, he, ?_⟩
  refine when_of (by decide) (st_at 0 h rfl (by simp) fun w h => ?_); rw [w4]
  have h : Sat W w (blk b7 [.int .u64 ((dec a g0 all : Nat) : Int), .int .u64 ((dec b g1 all : Nat) : Int), .int .u64 ((dec c g2 all : Nat) : Int), .int .u64 ((dec d g3 all : Nat) : Int), .int .u64 0] :: blk b3 [.int .u64 0, .int .u64 0, .int .u64 0, .int .u64 0, .int .u64 0] :: blk b2 [.int .i64 g0, .int .i64 g1, .int .i64 g2, .int .i64 g3, .int .i64 g4] :: blk b1 [.int .u64 (a : Int), .int .u64 (b : Int), .int .u64 (c : Int), .int .u64 (d : Int), .int .u64 (e : Int)] :: M) := h
  rw [hoardref19_Next_l1_raw]; refine ite_true (by decide) ?_
  refine drawW_by (fun w' => Sat W w' (blk b7 [.int .u64 ((dec a g0 all : Nat) : Int), .int .u64 ((dec b g1 all : Nat) : Int), .int .u64 ((dec c g2 all : Nat) : Int), .int .u64 ((dec d g3 all : Nat) : Int), .int .u64 0] :: blk b3 [.int .u64 0, .int .u64 0, .int .u64 0, .int .u64 0, .int .u64 0] :: blk b2 [.int .i64 g0, .int .i64 g1, .int .i64 g2, .int .i64 g3, .int .i64 g4] :: blk b1 [.int .u64 (a : Int), .int .u64 (b : Int), .int .u64 (c : Int), .int .u64 (d : Int), .int .u64 (e : Int)] :: M)) h.drew ?_
  have h := h.drew
  refine when_of (by decide) (ldS_by (e : Int) (fun w' h' => h'.cell (q := 3) rfl) (when_of (by decide) (ld_at 2 (x := g4) h rfl rfl (keep_of h ?_))))
  refine call1_of (loss_at h g4 all) fun e' w ⟨he, h⟩ => ⟨_, he, keep_of h ?_⟩
  refine call1_of (rkeepn_at h (penZ g4 all)) fun e' w ⟨he, h⟩ => ⟨_, he, keep_of h ?_⟩
  refine call1_of (rmul_at h ue (show keepK (penZ g4 all) < 18446744073709551616 by have := (keepK_ok (penZ g4 all)).2.1; omega)) fun e' w ⟨he, h⟩ => ⟨_, he, ?_⟩
  refine when_of (by decide) (st_at 0 h rfl (by simp) fun w h => ?_); rw [w5]
  have h : Sat W w (blk b7 [.int .u64 ((dec a g0 all : Nat) : Int), .int .u64 ((dec b g1 all : Nat) : Int), .int .u64 ((dec c g2 all : Nat) : Int), .int .u64 ((dec d g3 all : Nat) : Int), .int .u64 ((dec e g4 all : Nat) : Int)] :: blk b3 [.int .u64 0, .int .u64 0, .int .u64 0, .int .u64 0, .int .u64 0] :: blk b2 [.int .i64 g0, .int .i64 g1, .int .i64 g2, .int .i64 g3, .int .i64 g4] :: blk b1 [.int .u64 (a : Int), .int .u64 (b : Int), .int .u64 (c : Int), .int .u64 (d : Int), .int .u64 (e : Int)] :: M) := h
  rw [hoardref19_Next_l1_raw]; refine ite_false (by decide) ?_
  have ua' : dec a g0 all < 18446744073709551616 := scaleN_lt ua (by have := (keepK_ok (penZ g0 all)).2.1; omega)
  have ub' : dec b g1 all < 18446744073709551616 := scaleN_lt ub (by have := (keepK_ok (penZ g1 all)).2.1; omega)
  have uc' : dec c g2 all < 18446744073709551616 := scaleN_lt uc (by have := (keepK_ok (penZ g2 all)).2.1; omega)
  have ud' : dec d g3 all < 18446744073709551616 := scaleN_lt ud (by have := (keepK_ok (penZ g3 all)).2.1; omega)
  have ue' : dec e g4 all < 18446744073709551616 := scaleN_lt ue (by have := (keepK_ok (penZ g4 all)).2.1; omega)
  unfold nextD
  generalize dec a g0 all = a' at *
  generalize dec b g1 all = b' at *
  generalize dec c g2 all = c' at *
  generalize dec d g3 all = d' at *
  generalize dec e g4 all = e' at *
  rw [hoardref19_Next_j2_def, hoardref19_Next_j2_raw]
  refine ld_at 0 (x := (a' : Int)) h rfl rfl (ld_at 0 (x := (b' : Int)) h rfl rfl (ld_at 0 (x := (c' : Int)) h rfl rfl (ld_at 0 (x := (d' : Int)) h rfl rfl (ld_at 0 (x := (e' : Int)) h rfl rfl ?_))))
  refine call1_of (rsumn_at h a' b' c' d' e') fun e'' w ⟨he, h⟩ => ⟨_, he, ?_⟩
  exact rnext_l3 ua' ub' uc' ud' ue' (sumN_ok a' b' c' d' e').2 h fun w h => ⟨rfl, h.drop.drop⟩
end
end Go.Proofs.Ytfighgokcocpbaa
