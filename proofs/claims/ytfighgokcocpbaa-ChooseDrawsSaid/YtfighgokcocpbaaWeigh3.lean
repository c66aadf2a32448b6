/- weigh.Next and hoardref19.Next: contracts. -/
import Derived.Test.YtfighgokcocpbaaWeigh2
import Derived.Test.YtfighgokcocpbaaFixProdWalk
set_option linter.unusedVariables false
set_option linter.unusedSimpArgs false
set_option linter.unnecessarySimpa false
set_option linter.unusedSectionVars false
namespace Go.Proofs.Ytfighgokcocpbaa
open Go.Hb Go.IntWalk

def penZ (g all : Int) : Int :=
  if clampZ all 0 1099511627776 = 0 then 0 else
    if (15 : Int) < IntKind.wrap .i64 (Int.tdiv (IntKind.wrap .i64 ((16 : Int) * clampZ g 0 1099511627776)) (clampZ all 0 1099511627776)) then 15 else IntKind.wrap .i64 (Int.tdiv (IntKind.wrap .i64 ((16 : Int) * clampZ g 0 1099511627776)) (clampZ all 0 1099511627776))
def keepK (p : Int) : Nat := (keepZ (clampZ p 0 15).toNat).toNat
def dec (a : Nat) (g all : Int) : Nat := scaleN a (keepK (penZ g all)) 4294967296
def flN (a t : Nat) : Nat := if scaleN a 4294967296 t > 42949672 then scaleN a 4294967296 t else 42949672
def sumN (a b c d e : Nat) : Nat := (sum5 a b c d e).toNat
def next5 (a b c d e : Nat) (t : Nat) : List Int := evenL [(flN a t : Nat), (flN b t : Nat), (flN c t : Nat), (flN d t : Nat), (flN e t : Nat)]
def nextD (a b c d e : Nat) : List Int := next5 a b c d e (sumN a b c d e)
def nextL (a b c d e : Nat) (g0 g1 g2 g3 g4 all : Int) : List Int :=
  if is5 a b c d e = true then nextD (dec a g0 all) (dec b g1 all) (dec c g2 all) (dec d g3 all) (dec e g4 all) else startL

theorem keepK_ok (p : Int) : keepZ (clampZ p 0 15).toNat = (keepK p : Int) ∧ keepK p ≤ 4294967296 ∧ 858993459 ≤ keepK p := by
  have hb := clampZ_bound p (lo := 0) (hi := 15) (by omega)
  have h1 := keepZ_ok0 ⟨(clampZ p 0 15).toNat, by omega⟩
  simp only at h1
  unfold keepK
  omega
theorem scaleN_lt {a b c : Nat} (ha : a < 18446744073709551616) (hb : b < 18446744073709551616) : scaleN a b c < 18446744073709551616 := by
  unfold scaleN
  split
  · omega
  · rename_i h
    rw [Nat.div_lt_iff_lt_mul (by omega), Nat.mul_comm 18446744073709551616]
    omega
theorem sumN_ok (a b c d e : Nat) : sum5 a b c d e = (sumN a b c d e : Int) ∧ sumN a b c d e < 18446744073709551616 := by
  unfold sumN
  have : 0 ≤ sum5 a b c d e ∧ sum5 a b c d e < 18446744073709551616 := by
    unfold sum5
    rw [IntKind.wrap_u64 (_ + (e : Int))]
    omega
  omega
theorem flZ (a t : Nat) : (if ((scaleN a 4294967296 t : Nat) : Int) > 42949672 then ((scaleN a 4294967296 t : Nat) : Int) else 42949672) = ((flN a t : Nat) : Int) := by
  unfold flN
  split <;> split <;> omega

section
variable {W w : World} {M : List HP}
theorem pen_at (h : Sat W w M) (g all : Int) : Calls Try.prog id_weigh_penalty #[.int .i64 g, .int .i64 all] w fun e w' => e = .returned (.int .i64 (penZ g all)) ∧ Sat W w' M := by
  refine c1 (weigh_penalty_calls ?_)
  rw [weigh_penalty_def, weigh_penalty_raw]
  refine call1_of (clamp_at h _ _ _) fun e w ⟨he, h⟩ => ⟨_, he, ?_⟩
  refine call1_of (clamp_at h _ _ _) fun e w ⟨he, h⟩ => ⟨_, he, ?_⟩
  unfold penZ
  refine ite_cases (fun hc => ?_) (fun hc => ?_)
  · rw [if_pos (by simpa using hc)]; exact ⟨rfl, h⟩
  · have hc : clampZ all 0 1099511627776 ≠ 0 := by simpa using hc
    rw [if_neg hc]; exact when_of hc ⟨rfl, h⟩
theorem loss_at (h : Sat W w M) (g all : Int) : Calls Try.prog id_hoardref19_loss #[.int .i64 g, .int .i64 all] w fun e w' => e = .returned (.int .i64 (penZ g all)) ∧ Sat W w' M := by
  refine c1 (hoardref19_loss_calls ?_)
  rw [hoardref19_loss_def, hoardref19_loss_raw]
  refine call1_of (rclamp_at h _ _ _) fun e w ⟨he, h⟩ => ⟨_, he, ?_⟩
  refine call1_of (rclamp_at h _ _ _) fun e w ⟨he, h⟩ => ⟨_, he, ?_⟩
  unfold penZ
  refine ite_cases (fun hc => ?_) (fun hc => ?_)
  · rw [if_pos (by simpa using hc)]; exact ⟨rfl, h⟩
  · have hc : clampZ all 0 1099511627776 ≠ 0 := by simpa using hc
    rw [if_neg hc]
    refine when_of hc ⟨?_, h⟩
    congr 1
    split <;> split <;> omega
theorem keepn_at (h : Sat W w M) (p : Int) : Calls Try.prog id_weigh_Keep #[.int .i64 p] w fun e w' => e = .returned (.int .u64 (keepK p : Int)) ∧ Sat W w' M := by
  rw [← (keepK_ok p).1]; exact keep_at h p
theorem rkeepn_at (h : Sat W w M) (p : Int) : Calls Try.prog id_hoardref19_Keep #[.int .i64 p] w fun e w' => e = .returned (.int .u64 (keepK p : Int)) ∧ Sat W w' M := by
  rw [← (keepK_ok p).1]; exact rkeep_at h p
theorem sumn_at (h : Sat W w M) (a b c d e : Nat) : Calls Try.prog id_weigh_Sum #[.agg #[.int .u64 (a : Int), .int .u64 (b : Int), .int .u64 (c : Int), .int .u64 (d : Int), .int .u64 (e : Int)]] w fun e' w' => e' = .returned (.int .u64 (sumN a b c d e : Int)) ∧ Sat W w' M := by
  rw [← (sumN_ok a b c d e).1]; exact sum_at h _ _ _ _ _
theorem rsumn_at (h : Sat W w M) (a b c d e : Nat) : Calls Try.prog id_hoardref19_Sum #[.agg #[.int .u64 (a : Int), .int .u64 (b : Int), .int .u64 (c : Int), .int .u64 (d : Int), .int .u64 (e : Int)]] w fun e' w' => e' = .returned (.int .u64 (sumN a b c d e : Int)) ∧ Sat W w' M := by
  rw [← (sumN_ok a b c d e).1]; exact rsum_at h _ _ _ _ _
theorem next_l3 {a b c d e t b1 b3 : Nat} (ua : a < 18446744073709551616) (ub : b < 18446744073709551616) (uc : c < 18446744073709551616) (ud : d < 18446744073709551616) (ue : e < 18446744073709551616) (ht : t < 18446744073709551616) (h : Sat W w (blk b3 [.int .u64 0, .int .u64 0, .int .u64 0, .int .u64 0, .int .u64 0] :: blk b1 [.int .u64 (a : Int), .int .u64 (b : Int), .int .u64 (c : Int), .int .u64 (d : Int), .int .u64 (e : Int)] :: M)) {Q : Value → WP} (hQ : ∀ w, Sat W w M → Q (agg5 (next5 a b c d e t)) w) :
    (exM fun m => weigh_Next_l3 idJ Q m b1 0 b3 0 (t : Int) (0 : Int)) w := by
  refine exM_of 6 ?_
  rw [weigh_Next_l3_raw, show (4294967296 : Int) = ((4294967296 : Nat) : Int) from rfl]; refine ite_true (by decide) (when_of (by decide) (ld_at 1 (x := (a : Int)) h rfl rfl ?_))
  refine call1_of (scale_at h ua (by omega) ht) fun e' w ⟨he, h⟩ => ⟨_, he, ?_⟩
  rw [flZ]
  refine when_of (by decide) (st_at 1 h rfl (by simp) fun w h => ?_); rw [w1]
  have h : Sat W w (blk b3 [.int .u64 0, .int .u64 0, .int .u64 0, .int .u64 0, .int .u64 0] :: blk b1 [.int .u64 ((flN a t : Nat) : Int), .int .u64 (b : Int), .int .u64 (c : Int), .int .u64 (d : Int), .int .u64 (e : Int)] :: M) := h
  rw [weigh_Next_l3_raw, show (4294967296 : Int) = ((4294967296 : Nat) : Int) from rfl]; refine ite_true (by decide) (when_of (by decide) (ld_at 1 (x := (b : Int)) h rfl rfl ?_))
  refine call1_of (scale_at h ub (by omega) ht) fun e' w ⟨he, h⟩ => ⟨_, he, ?_⟩
  rw [flZ]
  refine when_of (by decide) (st_at 1 h rfl (by simp) fun w h => ?_); rw [w2]
  have h : Sat W w (blk b3 [.int .u64 0, .int .u64 0, .int .u64 0, .int .u64 0, .int .u64 0] :: blk b1 [.int .u64 ((flN a t : Nat) : Int), .int .u64 ((flN b t : Nat) : Int), .int .u64 (c : Int), .int .u64 (d : Int), .int .u64 (e : Int)] :: M) := h
  rw [weigh_Next_l3_raw, show (4294967296 : Int) = ((4294967296 : Nat) : Int) from rfl]; refine ite_true (by decide) (when_of (by decide) (ld_at 1 (x := (c : Int)) h rfl rfl ?_))
  refine call1_of (scale_at h uc (by omega) ht) fun e' w ⟨he, h⟩ => ⟨_, he, ?_⟩
  rw [flZ]
  refine when_of (by decide) (st_at 1 h rfl (by simp) fun w h => ?_); rw [w3]
  have h : Sat W w (blk b3 [.int .u64 0, .int .u64 0, .int .u64 0, .int .u64 0, .int .u64 0] :: blk b1 [.int .u64 ((flN a t : Nat) : Int), .int .u64 ((flN b t : Nat) : Int), .int .u64 ((flN c t : Nat) : Int), .int .u64 (d : Int), .int .u64 (e : Int)] :: M) := h
  rw [weigh_Next_l3_raw, show (4294967296 : Int) = ((4294967296 : Nat) : Int) from rfl]; refine ite_true (by decide) (when_of (by decide) (ld_at 1 (x := (d : Int)) h rfl rfl ?_))
  refine call1_of (scale_at h ud (by omega) ht) fun e' w ⟨he, h⟩ => ⟨_, he, ?_⟩
  rw [flZ]
  refine when_of (by decide) (st_at 1 h rfl (by simp) fun w h => ?_); rw [w4]
  have h : Sat W w (blk b3 [.int .u64 0, .int .u64 0, .int .u64 0, .int .u64 0, .int .u64 0] :: blk b1 [.int .u64 ((flN a t : Nat) : Int), .int .u64 ((flN b t : Nat) : Int), .int .u64 ((flN c t : Nat) : Int), .int .u64 ((flN d t : Nat) : Int), .int .u64 (e : Int)] :: M) := h
  rw [weigh_Next_l3_raw, show (4294967296 : Int) = ((4294967296 : Nat) : Int) from rfl]; refine ite_true (by decide) (when_of (by decide) (ld_at 1 (x := (e : Int)) h rfl rfl ?_))
  refine call1_of (scale_at h ue (by omega) ht) fun e' w ⟨he, h⟩ => ⟨_, he, ?_⟩
  rw [flZ]
  refine when_of (by decide) (st_at 1 h rfl (by simp) fun w h => ?_); rw [w5]
  have h : Sat W w (blk b3 [.int .u64 0, .int .u64 0, .int .u64 0, .int .u64 0, .int .u64 0] :: blk b1 [.int .u64 ((flN a t : Nat) : Int), .int .u64 ((flN b t : Nat) : Int), .int .u64 ((flN c t : Nat) : Int), .int .u64 ((flN d t : Nat) : Int), .int .u64 ((flN e t : Nat) : Int)] :: M) := h
  rw [weigh_Next_l3_raw]; refine ite_false (by decide) ?_
  rw [weigh_Next_j4_def, weigh_Next_j4_raw]
  refine ld_at 1 (x := ((flN a t : Nat) : Int)) h rfl rfl (ld_at 1 (x := ((flN b t : Nat) : Int)) h rfl rfl (ld_at 1 (x := ((flN c t : Nat) : Int)) h rfl rfl (ld_at 1 (x := ((flN d t : Nat) : Int)) h rfl rfl (ld_at 1 (x := ((flN e t : Nat) : Int)) h rfl rfl ?_))))
  refine (even_at (ws := [(flN a t : Nat), (flN b t : Nat), (flN c t : Nat), (flN d t : Nat), (flN e t : Nat)]) h rfl).mono fun e' w ⟨he, h⟩ => ⟨_, _, _, _, _, he, ?_⟩
  have hQ : ∀ w, Sat W w M → Q (agg5 (evenL [(flN a t : Nat), (flN b t : Nat), (flN c t : Nat), (flN d t : Nat), (flN e t : Nat)])) w := hQ
  generalize evenL [(flN a t : Nat), (flN b t : Nat), (flN c t : Nat), (flN d t : Nat), (flN e t : Nat)] = ws at hQ ⊢
  refine st_at 0 h rfl (by simp) fun w h => st_at 0 h rfl (by simp) fun w h => st_at 0 h rfl (by simp) fun w h => st_at 0 h rfl (by simp) fun w h => st_at 0 h rfl (by simp) fun w h => ?_
  refine ld_at 0 (x := ws.getD 0 0) h rfl rfl (ld_at 0 (x := ws.getD 1 0) h rfl rfl (ld_at 0 (x := ws.getD 2 0) h rfl rfl (ld_at 0 (x := ws.getD 3 0) h rfl rfl (ld_at 0 (x := ws.getD 4 0) h rfl rfl ?_))))
  exact hQ w h.drop.drop
theorem next_at (h : Sat W w M) {a b c d e : Nat} (ua : a < 18446744073709551616) (ub : b < 18446744073709551616) (uc : c < 18446744073709551616) (ud : d < 18446744073709551616) (ue : e < 18446744073709551616) (g0 g1 g2 g3 g4 all : Int) : Calls Try.prog id_weigh_Next #[.agg #[.int .u64 (a : Int), .int .u64 (b : Int), .int .u64 (c : Int), .int .u64 (d : Int), .int .u64 (e : Int)], .agg #[.int .i64 g0, .int .i64 g1, .int .i64 g2, .int .i64 g3, .int .i64 g4], .int .i64 all] w fun e' w' => e' = .returned (agg5 (nextL a b c d e g0 g1 g2 g3 g4 all)) ∧ Sat W w' M := by
  refine c1 (weigh_Next_calls ?_)
  rw [weigh_Next_def, weigh_Next_raw]
  refine newB_at h fun b1 w h => newB_at h fun b2 w h => newB_at h fun b3 w h => ?_
  refine ld_at 2 (x := (a : Int)) h rfl rfl (ld_at 2 (x := (b : Int)) h rfl rfl (ld_at 2 (x := (c : Int)) h rfl rfl (ld_at 2 (x := (d : Int)) h rfl rfl (ld_at 2 (x := (e : Int)) h rfl rfl ?_))))
  refine call1_of (is_at h _ _ _ _ _) fun e' w ⟨he, h⟩ => ⟨_, he, ?_⟩
  have hn1 : is5 a b c d e = false → nextL a b c d e g0 g1 g2 g3 g4 all = startL := fun hh => if_neg (by simp [hh])
  have hn2 : is5 a b c d e = true → nextL a b c d e g0 g1 g2 g3 g4 all = nextD (dec a g0 all) (dec b g1 all) (dec c g2 all) (dec d g3 all) (dec e g4 all) := fun hh => if_pos hh
  generalize nextL a b c d e g0 g1 g2 g3 g4 all = res at *
  generalize is5 a b c d e = iq at *
  cases iq
  · rw [hn1 rfl]
    refine ite_true rfl ?_
    refine (start_at h).mono fun e' w ⟨he, h⟩ => ⟨_, _, _, _, _, he, ?_⟩
    refine st_at 0 h rfl (by simp) fun w h => st_at 0 h rfl (by simp) fun w h => st_at 0 h rfl (by simp) fun w h => st_at 0 h rfl (by simp) fun w h => st_at 0 h rfl (by simp) fun w h => ?_
    refine ld_at 0 (x := 858993460) h rfl rfl (ld_at 0 (x := 858993459) h rfl rfl (ld_at 0 (x := 858993459) h rfl rfl (ld_at 0 (x := 858993459) h rfl rfl (ld_at 0 (x := 858993459) h rfl rfl ?_))))
    exact ⟨rfl, h.drop.drop.drop⟩
  rw [hn2 rfl]
  refine ite_false rfl ?_
  refine exM_of 6 ?_
  have h : Sat W w (blk b3 [.int .u64 0, .int .u64 0, .int .u64 0, .int .u64 0, .int .u64 0] :: blk b2 [.int .i64 g0, .int .i64 g1, .int .i64 g2, .int .i64 g3, .int .i64 g4] :: blk b1 [.int .u64 (a : Int), .int .u64 (b : Int), .int .u64 (c : Int), .int .u64 (d : Int), .int .u64 (e : Int)] :: M) := h
  rw [weigh_Next_l1_raw]; refine ite_true (by decide) ?_
  refine drawW_by (fun w' => Sat W w' (blk b3 [.int .u64 0, .int .u64 0, .int .u64 0, .int .u64 0, .int .u64 0] :: blk b2 [.int .i64 g0, .int .i64 g1, .int .i64 g2, .int .i64 g3, .int .i64 g4] :: blk b1 [.int .u64 (a : Int), .int .u64 (b : Int), .int .u64 (c : Int), .int .u64 (d : Int), .int .u64 (e : Int)] :: M)) h.drew ?_
  have h := h.drew
  refine when_of (by decide) (ldS_by (a : Int) (fun w' h' => h'.cell (q := 2) rfl) (when_of (by decide) (ld_at 1 (x := g0) h rfl rfl (keep_of h ?_))))
  refine call1_of (pen_at h g0 all) fun e' w ⟨he, h⟩ => ⟨_, he, keep_of h ?_⟩
  refine call1_of (keepn_at h (penZ g0 all)) fun e' w ⟨he, h⟩ => ⟨_, he, keep_of h ?_⟩
  refine call1_of (mul_at h ua (show keepK (penZ g0 all) < 18446744073709551616 by have := (keepK_ok (penZ g0 all)).2.1; omega)) fun e' w ⟨he, h⟩ => ⟨_, he, ?_⟩
  refine when_of (by decide) (st_at 2 h rfl (by simp) fun w h => ?_); rw [w1]
  have h : Sat W w (blk b3 [.int .u64 0, .int .u64 0, .int .u64 0, .int .u64 0, .int .u64 0] :: blk b2 [.int .i64 g0, .int .i64 g1, .int .i64 g2, .int .i64 g3, .int .i64 g4] :: blk b1 [.int .u64 ((dec a g0 all : Nat) : Int), .int .u64 (b : Int), .int .u64 (c : Int), .int .u64 (d : Int), .int .u64 (e : Int)] :: M) := h
  rw [weigh_Next_l1_raw]; refine ite_true (by decide) ?_
  refine drawW_by (fun w' => Sat W w' (blk b3 [.int .u64 0, .int .u64 0, .int .u64 0, .int .u64 0, .int .u64 0] :: blk b2 [.int .i64 g0, .int .i64 g1, .int .i64 g2, .int .i64 g3, .int .i64 g4] :: blk b1 [.int .u64 ((dec a g0 all : Nat) : Int), .int .u64 (b : Int), .int .u64 (c : Int), .int .u64 (d : Int), .int .u64 (e : Int)] :: M)) h.drew ?_
  have h := h.drew
  refine when_of (by decide) (ldS_by (b : Int) (fun w' h' => h'.cell (q := 2) rfl) (when_of (by decide) (ld_at 1 (x := g1) h rfl rfl (keep_of h ?_))))
  refine call1_of (pen_at h g1 all) fun e' w ⟨he, h⟩ => ⟨_, he, keep_of h ?_⟩
  refine call1_of (keepn_at h (penZ g1 all)) fun e' w ⟨he, h⟩ => ⟨_, he, keep_of h ?_⟩
  refine call1_of (mul_at h ub (show keepK (penZ g1 all) < 18446744073709551616 by have := (keepK_ok (penZ g1 all)).2.1; omega)) fun e' w ⟨he, h⟩ => ⟨_, he, ?_⟩
  refine when_of (by decide) (st_at 2 h rfl (by simp) fun w h => ?_); rw [w2]
  have h : Sat W w (blk b3 [.int .u64 0, .int .u64 0, .int .u64 0, .int .u64 0, .int .u64 0] :: blk b2 [.int .i64 g0, .int .i64 g1, .int .i64 g2, .int .i64 g3, .int .i64 g4] :: blk b1 [.int .u64 ((dec a g0 all : Nat) : Int), .int .u64 ((dec b g1 all : Nat) : Int), .int .u64 (c : Int), .int .u64 (d : Int), .int .u64 (e : Int)] :: M) := h
  rw [weigh_Next_l1_raw]; refine ite_true (by decide) ?_
  refine drawW_by (fun w' => Sat W w' (blk b3 [.int .u64 0, .int .u64 0, .int .u64 0, .int .u64 0, .int .u64 0] :: blk b2 [.int .i64 g0, .int .i64 g1, .int .i64 g2, .int .i64 g3, .int .i64 g4] :: blk b1 [.int .u64 ((dec a g0 all : Nat) : Int), .int .u64 ((dec b g1 all : Nat) : Int), .int .u64 (c : Int), .int .u64 (d : Int), .int .u64 (e : Int)] :: M)) h.drew ?_
  have h := h.drew
  refine when_of (by decide) (ldS_by (c : Int) (fun w' h' => h'.cell (q := 2) rfl) (when_of (by decide) (ld_at 1 (x := g2) h rfl rfl (keep_of h ?_))))
  refine call1_of (pen_at h g2 all) fun e' w ⟨he, h⟩ => ⟨_, he, keep_of h ?_⟩
  refine call1_of (keepn_at h (penZ g2 all)) fun e' w ⟨he, h⟩ => ⟨_, he, keep_of h ?_⟩
  refine call1_of (mul_at h uc (show keepK (penZ g2 all) < 18446744073709551616 by have := (keepK_ok (penZ g2 all)).2.1; omega)) fun e' w ⟨he, h⟩ => ⟨_, he, ?_⟩
  refine when_of (by decide) (st_at 2 h rfl (by simp) fun w h => ?_); rw [w3]
  have h : Sat W w (blk b3 [.int .u64 0, .int .u64 0, .int .u64 0, .int .u64 0, .int .u64 0] :: blk b2 [.int .i64 g0, .int .i64 g1, .int .i64 g2, .int .i64 g3, .int .i64 g4] :: blk b1 [.int .u64 ((dec a g0 all : Nat) : Int), .int .u64 ((dec b g1 all : Nat) : Int), .int .u64 ((dec c g2 all : Nat) : Int), .int .u64 (d : Int), .int .u64 (e : Int)] :: M) := h
  rw [weigh_Next_l1_raw]; refine ite_true (by decide) ?_
  refine drawW_by (fun w' => Sat W w' (blk b3 [.int .u64 0, .int .u64 0, .int .u64 0, .int .u64 0, .int .u64 0] :: blk b2 [.int .i64 g0, .int .i64 g1, .int .i64 g2, .int .i64 g3, .int .i64 g4] :: blk b1 [.int .u64 ((dec a g0 all : Nat) : Int), .int .u64 ((dec b g1 all : Nat) : Int), .int .u64 ((dec c g2 all : Nat) : Int), .int .u64 (d : Int), .int .u64 (e : Int)] :: M)) h.drew ?_
  have h := h.drew
  refine when_of (by decide) (ldS_by (d : Int) (fun w' h' => h'.cell (q := 2) rfl) (when_of (by decide) (ld_at 1 (x := g3) h rfl rfl (keep_of h ?_))))
  refine call1_of (pen_at h g3 all) fun e' w ⟨he, h⟩ => ⟨_, he, keep_of h ?_⟩
  refine call1_of (keepn_at h (penZ g3 all)) fun e' w ⟨he, h⟩ => ⟨_, he, keep_of h ?_⟩
  refine call1_of (mul_at h ud (show keepK (penZ g3 all) < 18446744073709551616 by have := (keepK_ok (penZ g3 all)).2.1; omega)) fun e' w ⟨he, h⟩ => ⟨_, he, ?_⟩
  refine when_of (by decide) (st_at 2 h rfl (by simp) fun w h => ?_); rw [w4]
  have h : Sat W w (blk b3 [.int .u64 0, .int .u64 0, .int .u64 0, .int .u64 0, .int .u64 0] :: blk b2 [.int .i64 g0, .int .i64 g1, .int .i64 g2, .int .i64 g3, .int .i64 g4] :: blk b1 [.int .u64 ((dec a g0 all : Nat) : Int), .int .u64 ((dec b g1 all : Nat) : Int), .int .u64 ((dec c g2 all : Nat) : Int), .int .u64 ((dec d g3 all : Nat) : Int), .int .u64 (e : Int)] :: M) := h
  rw [weigh_Next_l1_raw]; refine ite_true (by decide) ?_
  refine drawW_by (fun w' => Sat W w' (blk b3 [.int .u64 0, .int .u64 0, .int .u64 0, .int .u64 0, .int .u64 0] :: blk b2 [.int .i64 g0, .int .i64 g1, .int .i64 g2, .int .i64 g3, .int .i64 g4] :: blk b1 [.int .u64 ((dec a g0 all : Nat) : Int), .int .u64 ((dec b g1 all : Nat) : Int), .int .u64 ((dec c g2 all : Nat) : Int), .int .u64 ((dec d g3 all : Nat) : Int), .int .u64 (e : Int)] :: M)) h.drew ?_
  have h := h.drew
  refine when_of (by decide) (ldS_by (e : Int) (fun w' h' => h'.cell (q := 2) rfl) (when_of (by decide) (ld_at 1 (x := g4) h rfl rfl (keep_of h ?_))))
  refine call1_of (pen_at h g4 all) fun e' w ⟨he, h⟩ => ⟨_, he, keep_of h ?_⟩
  refine call1_of (keepn_at h (penZ g4 all)) fun e' w ⟨he, h⟩ => ⟨_, he, keep_of h ?_⟩
  refine call1_of (mul_at h ue (show keepK (penZ g4 all) < 18446744073709551616 by have := (keepK_ok (penZ g4 all)).2.1; omega)) fun e' w ⟨he, h⟩ => ⟨_, he, ?_⟩
  refine when_of (by decide) (st_at 2 h rfl (by simp) fun w h => ?_); rw [w5]
  have h : Sat W w (blk b3 [.int .u64 0, .int .u64 0, .int .u64 0, .int .u64 0, .int .u64 0] :: blk b2 [.int .i64 g0, .int .i64 g1, .int .i64 g2, .int .i64 g3, .int .i64 g4] :: blk b1 [.int .u64 ((dec a g0 all : Nat) : Int), .int .u64 ((dec b g1 all : Nat) : Int), .int .u64 ((dec c g2 all : Nat) : Int), .int .u64 ((dec d g3 all : Nat) : Int), .int .u64 ((dec e g4 all : Nat) : Int)] :: M) := h
  rw [weigh_Next_l1_raw]; refine ite_false (by decide) ?_
  have ua' : dec a g0 all < 18446744073709551616 := scaleN_lt ua (by have := (keepK_ok (penZ g0 all)).2.1; omega)
  have ub' : dec b g1 all < 18446744073709551616 := scaleN_lt ub (by have := (keepK_ok (penZ g1 all)).2.1; omega)
  have uc' : dec c g2 all < 18446744073709551616 := scaleN_lt uc (by have := (keepK_ok (penZ g2 all)).2.1; omega)
  have ud' : dec d g3 all < 18446744073709551616 := scaleN_lt ud (by have := (keepK_ok (penZ g3 all)).2.1; omega)
  have ue' : dec e g4 all < 18446744073709551616 := scaleN_lt ue (by have := (keepK_ok (penZ g4 all)).2.1; omega)
  unfold nextD
  generalize dec a g0 all = a' at *
  generalize dec b g1 all = b' at *
  generalize dec c g2 all = c' at *
  generalize dec d g3 all = d' at *
  generalize dec e g4 all = e' at *
  rw [weigh_Next_j2_def, weigh_Next_j2_raw]
  refine ld_at 2 (x := (a' : Int)) h rfl rfl (ld_at 2 (x := (b' : Int)) h rfl rfl (ld_at 2 (x := (c' : Int)) h rfl rfl (ld_at 2 (x := (d' : Int)) h rfl rfl (ld_at 2 (x := (e' : Int)) h rfl rfl ?_))))
  refine call1_of (sumn_at h a' b' c' d' e') fun e'' w ⟨he, h⟩ => ⟨_, he, ?_⟩
  have h2 := (h.focus (q := 1) rfl).drop
  exact next_l3 ua' ub' uc' ud' ue' (sumN_ok a' b' c' d' e').2 h2 fun w h => ⟨rfl, h⟩
end
end Go.Proofs.Ytfighgokcocpbaa
