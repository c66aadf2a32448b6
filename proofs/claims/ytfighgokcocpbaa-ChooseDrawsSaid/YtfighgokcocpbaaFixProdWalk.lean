/- hoardref2's products and its long division, and FixProducts. -/
import Derived.Test.YtfighgokcocpbaaFixLaws
set_option linter.unusedVariables false
set_option linter.unusedSimpArgs false
set_option linter.unnecessarySimpa false
set_option linter.unusedSectionVars false
namespace Go.Proofs.Ytfighgokcocpbaa
open Go.Hb Go.IntWalk

theorem shl32 {a : Nat} : shlV .u64 (a : Int) 32 = ((a % 4294967296 * 2 ^ 32 : Nat) : Int) := by
  rw [show (32 : Int) = ((32 : Nat) : Int) from rfl, shlN a 32 (by omega)]
  congr 1
  simp only [Nat.reducePow]
  omega
theorem and63 : ∀ i : Fin 128, bits .and .i64 (i.val : Int) 63 = ((i.val % 64 : Nat) : Int) := by decide +kernel
theorem and1 {x : Nat} (hx : x < 18446744073709551616) : bits .and .u64 (x : Int) 1 = ((x % 2 : Nat) : Int) := by
  have h := bits_and_u64_nat x 1 hx (by omega)
  rw [Nat.and_one_is_mod] at h
  exact h
theorem shl1 (a : Nat) : shlV .u64 (a : Int) 1 = ((a % 9223372036854775808 * 2 ^ 1 : Nat) : Int) := by
  rw [show (1 : Int) = ((1 : Nat) : Int) from rfl, shlN a 1 (by omega)]
  congr 1
  omega
theorem shr63 (a : Nat) : shrV .u64 (a : Int) 63 = ((a / 9223372036854775808 : Nat) : Int) := by
  rw [show (63 : Int) = ((63 : Nat) : Int) from rfl, shrN a 63 (by omega)]
theorem wrap64_nonneg (x : Int) : 0 ≤ IntKind.wrap .u64 x := by rw [IntKind.wrap_u64]; omega

section
variable {W w : World} {M : List HP}
theorem times_at (h : Sat W w M) {x y : Nat} (hx : x < 18446744073709551616) (hy : y < 18446744073709551616) : Calls Try.prog id_hoardref2_times #[.int .u64 x, .int .u64 y] w fun e w' =>
    e = .returned (.tuple #[.int .u64 ((x * y / 18446744073709551616 : Nat) : Int), .int .u64 ((x * y % 18446744073709551616 : Nat) : Int)]) ∧ Sat W w' M := by
  refine c1 (hoardref2_times_calls ?_)
  rw [hoardref2_times_def, hoardref2_times_raw]
  refine when_of (by omega) (when_of (by omega) (when_of (by omega) (when_of (by omega) (when_of (by omega) (when_of (by omega) ?_)))))
  refine ⟨?_, h⟩
  obtain ⟨bd, bt, bw, hhi⟩ := Lib.mul64_hi x y hx hy
  have e : x * y = (x / 4294967296) * (y / 4294967296) * (4294967296 * 4294967296) + ((x / 4294967296) * (y % 4294967296) + (x % 4294967296) * (y / 4294967296)) * 4294967296 + (x % 4294967296) * (y % 4294967296) := by
    rw [← Lib.split_mul, Nat.div_add_mod' x 4294967296, Nat.div_add_mod' y 4294967296]
  have ba := Lib.half_mul_le (a := x / 4294967296) (b := y / 4294967296) (by omega) (by omega)
  have bb := Lib.half_mul_le (a := x / 4294967296) (b := y % 4294967296) (by omega) (by omega)
  have bc := Lib.half_mul_le (a := x % 4294967296) (b := y / 4294967296) (by omega) (by omega)
  rw [mask32 hx, mask32 hy, shr32, shr32, mulN, mulN, mulN, mulN]
  rw [← hhi]
  generalize x * y = p at *
  generalize (x / 4294967296) * (y / 4294967296) = a at *
  generalize (x / 4294967296) * (y % 4294967296) = b at *
  generalize (x % 4294967296) * (y / 4294967296) = c at *
  generalize (x % 4294967296) * (y % 4294967296) = d at *
  rw [wrapN (a := d) (by omega), wrapN (a := b) (by omega), wrapN (a := c) (by omega), wrapN (a := a) (by omega), shr32, addN, wrapN (a := b + d / 4294967296) (by omega), mask32 (a := b + d / 4294967296) (by omega), addN, wrapN (a := c + (b + d / 4294967296) % 4294967296) (by omega), shr32, shr32, addN,
    wrapN (a := a + (b + d / 4294967296) / 4294967296) (by omega), addN, wrapN (by omega), shl32, mask32 (by omega), or_add (by omega) (by simp only [Nat.reducePow]; omega) (by simp only [Nat.reducePow]; omega)]
  simp only [Nat.reducePow]
  congr 4
  · congr 1; omega
  · congr 2; omega
theorem rmul_at (h : Sat W w M) {a b : Nat} (ha : a < 18446744073709551616) (hb : b < 18446744073709551616) : Calls Try.prog id_hoardref2_Mul #[.int .u64 a, .int .u64 b] w fun e w' =>
    e = .returned (.int .u64 (scaleN a b 4294967296 : Nat)) ∧ Sat W w' M := by
  refine c1 (hoardref2_Mul_calls ?_)
  rw [hoardref2_Mul_def, hoardref2_Mul_raw]
  refine call2_of (times_at h ha hb) fun e w ⟨he, h⟩ => ⟨_, _, he, ?_⟩
  refine when_of (by omega) ?_
  have hab : a * b ≤ 18446744073709551615 * 18446744073709551615 := Nat.mul_le_mul (by omega) (by omega)
  unfold scaleN
  generalize a * b = p at *
  rw [shr32, shr32, shl32]
  refine ite_cases (fun hc => ?_) (fun hc => ?_)
  · have hc : p / 18446744073709551616 / 4294967296 ≠ 0 := by
      intro h0
      rw [h0] at hc
      exact absurd hc (by decide)
    rw [if_pos (by omega)]
    exact ⟨rfl, h⟩
  · have hc : p / 18446744073709551616 / 4294967296 = 0 := by
      have : ((p / 18446744073709551616 / 4294967296 : Nat) : Int) = 0 := by simpa using hc
      omega
    refine when_of (by omega) (when_of (by omega) ?_)
    rw [or_add (by omega) (by simp only [Nat.reducePow]; omega) (by simp only [Nat.reducePow]; omega), if_neg (by omega)]
    refine ⟨?_, h⟩
    simp only [Nat.reducePow]
    congr 2
    omega

theorem bit_hi {h l i : Nat} (hl : l < 18446744073709551616) (hi : 64 ≤ i) : (h * 18446744073709551616 + l) / 2 ^ i = h / 2 ^ (i - 64) := by
  have e : 2 ^ i = 18446744073709551616 * 2 ^ (i - 64) := by
    rw [show (18446744073709551616 : Nat) = 2 ^ 64 by rfl, ← Nat.pow_add, show 64 + (i - 64) = i by omega]
  rw [e, ← Nat.div_div_eq_div_mul]
  congr 1
  omega
theorem bit_lo {h l i : Nat} (hi : i < 64) : (h * 18446744073709551616 + l) / 2 ^ i % 2 = l / 2 ^ i % 2 := by
  have e : h * 18446744073709551616 = 2 ^ i * (h * 2 ^ (63 - i) * 2) := by
    have : (18446744073709551616 : Nat) = 2 ^ i * (2 ^ (63 - i) * 2) := by
      rw [← Nat.pow_succ, ← Nat.pow_add, show i + (63 - i + 1) = 64 by omega]
    rw [Nat.mul_assoc h, Nat.mul_left_comm, ← this]
  rw [e, Nat.mul_add_div (Nat.two_pow_pos i)]
  omega

theorem rscale_step {Q : Value → WP} {S : World → Prop} {den h l N q r k : Nat} {bit : Nat} (hden : den < 18446744073709551616) (hk : k < 128) (hbit : bit < 2)
    (hr : r < den) (hq : q < 18446744073709551616)
    (hmax : 9223372036854775808 ≤ q → ∀ w, S w → Q (.int .u64 18446744073709551615) w)
    {m : Nat} (ih : ∀ (q' r' : Nat) w, r' < den → q' < 18446744073709551616 → q' * den + r' = 2 * (q * den + r) + bit → S w → hoardref2_Scale_l1 idJ Q m (den : Int) (h : Int) (l : Int) (q' : Int) (r' : Int) ((k : Int) - 1) w) (hS : S w) :
    hoardref2_Scale_j2 idJ Q m (den : Int) (h : Int) (l : Int) (q : Int) (r : Int) (k : Int) (bit : Int) w := by
  rw [hoardref2_Scale_j2_def, hoardref2_Scale_j2_raw]
  refine when_of (by omega) ?_
  rw [shr63, shr63]
  refine ite_cases (fun hc => ?_) (fun hc => ?_)
  · refine hmax ?_ w hS
    have hc : ((q / 9223372036854775808 : Nat) : Int) ≠ 0 := by simpa using hc
    omega
  · have hc : ((q / 9223372036854775808 : Nat) : Int) = 0 := by simpa using hc
    have hq63 : q < 9223372036854775808 := by omega
    refine when_of (by omega) (when_of (by omega) (when_of (by omega) ?_))
    rw [shl1, shl1, or_add (by omega) (by omega) (by omega)]
    have key : ∀ (t : Bool), (t = true ↔ den ≤ 2 * r + bit) → hoardref2_Scale_j3 idJ Q m (den : Int) (h : Int) (l : Int) ((q % 9223372036854775808 * 2 ^ 1 : Nat) : Int) ((r % 9223372036854775808 * 2 ^ 1 + bit : Nat) : Int) (k : Int) t w := by
      intro t ht
      rw [hoardref2_Scale_j3_def, hoardref2_Scale_j3_raw]
      have hi : IntKind.wrap .i64 ((k : Int) - 1) = (k : Int) - 1 := i64_in _ (by omega)
      have hqm : q % 9223372036854775808 * 2 ^ 1 = 2 * q := by omega
      have e1 : (2 * q) * den = 2 * (q * den) := Nat.mul_assoc _ _ _
      refine ite_cases (fun h1 => ?_) (fun h1 => ?_)
      · have hge := ht.1 h1
        have hor : bits .or .u64 ((q % 9223372036854775808 * 2 ^ 1 : Nat) : Int) 1 = ((2 * q + 1 : Nat) : Int) := by
          have := or_add (a := q % 9223372036854775808) (b := 1) (s := 1) (by omega) (by omega) (by omega)
          rw [hqm] at this
          rw [hqm]; exact this
        have hsub : IntKind.wrap .u64 (((r % 9223372036854775808 * 2 ^ 1 + bit : Nat) : Int) - (den : Int)) = ((2 * r + bit - den : Nat) : Int) := by
          rw [IntKind.wrap_u64]; omega
        rw [hor, hsub, hi]
        have e2 : (2 * q + 1) * den = 2 * (q * den) + den := by rw [Nat.add_mul, e1, Nat.one_mul]
        exact ih _ _ w (by omega) (by omega) (by omega) hS
      · have hlt : ¬ den ≤ 2 * r + bit := fun hh => by have := ht.2 hh; rw [this] at h1; cases h1
        have hrm : r % 9223372036854775808 * 2 ^ 1 + bit = 2 * r + bit := by omega
        rw [hqm, hrm, hi]
        exact ih _ _ w (by omega) (by omega) (by omega) hS
    refine ite_cases (fun h1 => ?_) (fun h1 => ?_)
    · have h1 : ((r / 9223372036854775808 : Nat) : Int) = 1 := by simpa using h1
      exact key true ⟨fun _ => by omega, fun _ => rfl⟩
    · have h1 : ((r / 9223372036854775808 : Nat) : Int) ≠ 1 := by simpa using h1
      refine key _ ⟨fun h2 => ?_, fun h2 => ?_⟩
      · have h2 := of_decide_eq_true h2; omega
      · exact decide_eq_true (by omega)
theorem rscale_loop {Q : Value → WP} {S : World → Prop} {den h l : Nat} (hd0 : 0 < den) (hden : den < 18446744073709551616) (hh : h < 18446744073709551616) (hl : l < 18446744073709551616)
    (hmax : 18446744073709551616 * den ≤ h * 18446744073709551616 + l → ∀ w, S w → Q (.int .u64 18446744073709551615) w)
    (hQ : (h * 18446744073709551616 + l) / den < 18446744073709551616 → ∀ w, S w → Q (.int .u64 (((h * 18446744073709551616 + l) / den : Nat) : Int)) w) :
    ∀ (k : Nat) (q r : Nat) (w : World), k ≤ 128 → r < den → q < 18446744073709551616 → q * den + r = (h * 18446744073709551616 + l) / 2 ^ k → S w → hoardref2_Scale_l1 idJ Q (k + 1) (den : Int) (h : Int) (l : Int) (q : Int) (r : Int) ((k : Int) - 1) w := by
  intro k
  induction k with
  | zero =>
    intro q r w hk hr hq hN hS
    rw [hoardref2_Scale_l1_raw]
    refine ite_false (by simp) ?_
    rw [hoardref2_Scale_j4_def, hoardref2_Scale_j4_raw]
    rw [Nat.pow_zero, Nat.div_one] at hN
    have hdiv : (h * 18446744073709551616 + l) / den = q := by
      rw [← hN, Nat.mul_comm, Nat.mul_add_div hd0, Nat.div_eq_of_lt hr, Nat.add_zero]
    have := hQ (by omega) w hS
    rwa [hdiv] at this
  | succ k ih =>
    intro q r w hk hr hq hN hS
    rw [hoardref2_Scale_l1_raw]
    have hi : (((k + 1 : Nat) : Int) - 1) = (k : Int) := by omega
    rw [hi]
    refine ite_true (by simp) ?_
    refine when_of (wrap64_nonneg _) ?_
    have hhalf : (h * 18446744073709551616 + l) / 2 ^ k = 2 * ((h * 18446744073709551616 + l) / 2 ^ (k + 1)) + (h * 18446744073709551616 + l) / 2 ^ k % 2 := by
      rw [Nat.pow_succ, ← Nat.div_div_eq_div_mul]
      omega
    have hstep : ∀ (bit : Nat), bit = (h * 18446744073709551616 + l) / 2 ^ k % 2 → hoardref2_Scale_j2 idJ Q (k + 1) (den : Int) (h : Int) (l : Int) (q : Int) (r : Int) (k : Int) (bit : Int) w := by
      intro bit hbit
      refine rscale_step (S := S) (N := 0) hden (by omega) (by omega) hr hq ?_ ?_ hS
      · intro hq63
        refine hmax ?_
        have h1 : 2 ^ (k + 1) * ((h * 18446744073709551616 + l) / 2 ^ (k + 1)) ≤ h * 18446744073709551616 + l := Nat.mul_div_le _ _
        have h2 : 9223372036854775808 * den ≤ q * den := Nat.mul_le_mul_right _ hq63
        have h3 : 2 ≤ 2 ^ (k + 1) := by
          have := Nat.pow_le_pow_right (show 1 ≤ 2 by omega) (show 1 ≤ k + 1 by omega)
          simpa using this
        have h4 : 2 * ((h * 18446744073709551616 + l) / 2 ^ (k + 1)) ≤ 2 ^ (k + 1) * ((h * 18446744073709551616 + l) / 2 ^ (k + 1)) := Nat.mul_le_mul_right _ h3
        omega
      · intro q' r' w hr' hq' he hS
        exact ih q' r' w (by omega) hr' hq' (by rw [hhalf, ← hN, ← hbit]; exact he) hS
    refine ite_cases (fun hc => ?_) (fun hc => ?_) <;> simp only [decide_eq_true_eq, decide_eq_false_iff_not] at hc
    · have hk64 : 64 ≤ k := by omega
      rw [i64_in _ (by omega), show (k : Int) - 64 = ((k - 64 : Nat) : Int) by omega, wrapN (by omega), shrN _ _ (by omega), and1 (Nat.lt_of_le_of_lt (Nat.div_le_self _ _) hh)]
      refine when_of (by omega) ?_
      exact hstep _ (by rw [bit_hi hl hk64])
    · have hk64 : k < 64 := by omega
      have h63 := and63 ⟨k, by omega⟩
      simp only at h63
      rw [h63, Nat.mod_eq_of_lt hk64, wrapN (by omega), shrN _ _ (by omega), and1 (Nat.lt_of_le_of_lt (Nat.div_le_self _ _) hl)]
      exact hstep _ (by rw [bit_lo hk64])
theorem rscale_at (h : Sat W w M) {a b c : Nat} (ha : a < 18446744073709551616) (hb : b < 18446744073709551616) (hc : c < 18446744073709551616) : Calls Try.prog id_hoardref2_Scale #[.int .u64 a, .int .u64 b, .int .u64 c] w fun e w' =>
    e = .returned (.int .u64 (scaleN a b c : Nat)) ∧ Sat W w' M := by
  refine c1 (hoardref2_Scale_calls ?_)
  rw [hoardref2_Scale_def, hoardref2_Scale_raw]
  refine ite_cases (fun hx => ?_) (fun hx => ?_)
  · have : c = 0 := by simpa using hx
    subst this
    unfold scaleN
    rw [if_pos (.inr rfl)]
    exact ⟨rfl, h⟩
  · have hc0 : c ≠ 0 := by simpa using hx
    refine call2_of (times_at h ha hb) fun e w ⟨he, h⟩ => ⟨_, _, he, ?_⟩
    have hab : a * b ≤ 18446744073709551615 * 18446744073709551615 := Nat.mul_le_mul (by omega) (by omega)
    have hsplit : a * b / 18446744073709551616 * 18446744073709551616 + a * b % 18446744073709551616 = a * b := Nat.div_add_mod' _ _
    have hlow : a * b % 18446744073709551616 < 18446744073709551616 := Nat.mod_lt _ (by omega)
    refine ⟨_, rscale_loop (S := fun w => Sat W w M) (by omega) hc (by omega) hlow ?_ ?_ 128 0 0 w (by omega) (by omega) (by omega) ?_ h⟩
    · intro hmax w h
      rw [hsplit] at hmax
      refine ⟨?_, h⟩
      unfold scaleN
      rw [if_pos (by omega)]; rfl
    · intro hlt w h
      rw [hsplit] at hlt ⊢
      refine ⟨?_, h⟩
      unfold scaleN
      rw [Nat.div_lt_iff_lt_mul (by omega)] at hlt
      rw [if_neg (by omega)]
    · rw [hsplit]
      have : a * b < 2 ^ 128 := by
        have : (2 : Nat) ^ 128 = 340282366920938463463374607431768211456 := by decide
        omega
      rw [Nat.div_eq_of_lt this]; omega
end
end Go.Proofs.Ytfighgokcocpbaa
