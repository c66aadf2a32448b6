/- math/bits.Div64, fix.Scale, fix.Mul. -/
import Derived.Test.YtfighgokcocpbaaFix
import Derived.Test.YtfighgokcocpbaaKnuth
set_option linter.unusedVariables false
set_option linter.unusedSimpArgs false
set_option linter.unnecessarySimpa false
set_option linter.unusedSectionVars false
namespace Go.Proofs.Ytfighgokcocpbaa
open Go.Hb Go.IntWalk

theorem subN {a b : Nat} (h : b ≤ a) : (a : Int) - (b : Int) = ((a - b : Nat) : Int) := by omega
theorem shrN (a k : Nat) (hk : k ≤ 64) : shrV .u64 (a : Int) (k : Int) = ((a / 2 ^ k : Nat) : Int) := by
  unfold shrV
  have : min (k : Int).toNat (IntKind.bits .u64) = k := by simp [IntKind.bits]; omega
  rw [this, Int.fdiv_eq_ediv_of_nonneg _ (by exact_mod_cast Nat.zero_le _)]
  norm_cast
theorem shlN (a k : Nat) (hk : k ≤ 64) : shlV .u64 (a : Int) (k : Int) = ((a * 2 ^ k % 18446744073709551616 : Nat) : Int) := by
  unfold shlV
  have : min (k : Int).toNat (IntKind.bits .u64) = k := by simp [IntKind.bits]; omega
  rw [this, ← wrapM]
  norm_cast

section
variable {W w : World} {M : List HP}
theorem tab_ok : ∀ x : Fin 256, x.val ≠ 0 → ∃ L : Nat, 1 ≤ L ∧ L ≤ 8 ∧ byteAt str_____________________ x.val = (L : Int) ∧ 2 ^ (L - 1) ≤ x.val ∧ x.val < 2 ^ L := by
  have key : ∀ x : Fin 256, x.val ≠ 0 → 1 ≤ (byteAt str_____________________ x.val).toNat ∧ (byteAt str_____________________ x.val).toNat ≤ 8 ∧ byteAt str_____________________ x.val = (((byteAt str_____________________ x.val).toNat : Nat) : Int) ∧
      2 ^ ((byteAt str_____________________ x.val).toNat - 1) ≤ x.val ∧ x.val < 2 ^ (byteAt str_____________________ x.val).toNat := by decide +kernel
  exact fun x hx => ⟨_, key x hx⟩
def isLen (x L : Nat) : Prop := 1 ≤ L ∧ 2 ^ (L - 1) ≤ x ∧ x < 2 ^ L
theorem isLen_up {x L k : Nat} (h : isLen (x / 2 ^ k) L) : isLen x (L + k) := by
  obtain ⟨h0, h1, h2⟩ := h
  refine ⟨by omega, ?_, ?_⟩
  · rw [Nat.le_div_iff_mul_le (Nat.two_pow_pos k), ← Nat.pow_add] at h1
    rwa [show L + k - 1 = L - 1 + k by omega]
  · rw [Nat.div_lt_iff_lt_mul (Nat.two_pow_pos k), ← Nat.pow_add] at h2
    exact h2
theorem len_j3 {Q : Value → WP} {x n : Nat} (hx : x < 256) (h0 : x ≠ 0) (hn : n ≤ 56) (hQ : ∀ L : Nat, L ≤ 8 → isLen x L → Q (.int .i64 ((L + n : Nat) : Int)) w) : math_bits_Len64_j3 idJ Q x n w := by
  rw [math_bits_Len64_j3_def, math_bits_Len64_j3_raw]
  have hw : IntKind.wrap .u8 (x : Int) = (x : Int) := u8_in _ (by omega)
  rw [hw]
  have hsz : str_____________________.size = 256 := by decide +kernel
  refine when_of ⟨by omega, by rw [hsz]; omega⟩ ?_
  obtain ⟨L, h1, h8, hb, ha, hc⟩ := tab_ok ⟨x, hx⟩ h0
  simp only at hb ha hc
  rw [Int.toNat_natCast, hb, i64_in (L : Int) (by omega), i64_in _ (by omega)]
  have := hQ L h8 ⟨h1, ha, hc⟩
  rwa [show ((L + n : Nat) : Int) = (n : Int) + (L : Int) by omega] at this
theorem len_j2 {Q : Value → WP} {x n : Nat} (hx : x < 65536) (h0 : x ≠ 0) (hn : n ≤ 48) (hQ : ∀ L : Nat, L ≤ 16 → isLen x L → Q (.int .i64 ((L + n : Nat) : Int)) w) : math_bits_Len64_j2 idJ Q x n w := by
  rw [math_bits_Len64_j2_def, math_bits_Len64_j2_raw]
  refine ite_cases (fun hc => ?_) (fun hc => ?_) <;> simp only [decide_eq_true_eq, decide_eq_false_iff_not] at hc
  · refine when_of (by omega) ?_
    rw [show (8 : Int) = ((8 : Nat) : Int) by rfl, shrN x 8 (by omega), i64_in _ (by omega), addN]
    refine len_j3 (by omega) (by omega) (by omega) fun L hL hl => ?_
    have := hQ (L + 8) (by omega) (isLen_up hl)
    rwa [show L + 8 + n = L + (n + 8) by omega] at this
  · exact len_j3 (by omega) h0 (by omega) fun L hL hl => hQ L (by omega) hl
theorem len_j1 {Q : Value → WP} {x n : Nat} (hx : x < 4294967296) (h0 : x ≠ 0) (hn : n ≤ 32) (hQ : ∀ L : Nat, L ≤ 32 → isLen x L → Q (.int .i64 ((L + n : Nat) : Int)) w) : math_bits_Len64_j1 idJ Q x n w := by
  rw [math_bits_Len64_j1_def, math_bits_Len64_j1_raw]
  refine ite_cases (fun hc => ?_) (fun hc => ?_) <;> simp only [decide_eq_true_eq, decide_eq_false_iff_not] at hc
  · refine when_of (by omega) ?_
    rw [show (16 : Int) = ((16 : Nat) : Int) by rfl, shrN x 16 (by omega), i64_in _ (by omega), addN]
    refine len_j2 (by omega) (by omega) (by omega) fun L hL hl => ?_
    have := hQ (L + 16) (by omega) (isLen_up hl)
    rwa [show L + 16 + n = L + (n + 16) by omega] at this
  · exact len_j2 (by omega) h0 (by omega) fun L hL hl => hQ L (by omega) hl
theorem len64_at (h : Sat W w M) {x : Nat} (hx : x < 18446744073709551616) (h0 : x ≠ 0) : Calls Try.prog id_math_bits_Len64 #[.int .u64 x] w fun e w' => ∃ L : Nat, (L ≤ 64 ∧ isLen x L) ∧ e = .returned (.int .i64 (L : Int)) ∧ Sat W w' M := by
  refine (math_bits_Len64_calls (Q := fun v w' => ∃ L : Nat, (L ≤ 64 ∧ isLen x L) ∧ v = .int .i64 (L : Int) ∧ Sat W w' M) ?_).mono fun e w' ⟨v, he, L, hl, hv, hs⟩ => ⟨L, hl, by rw [he, hv], hs⟩
  rw [math_bits_Len64_def, math_bits_Len64_raw]
  refine ite_cases (fun hc => ?_) (fun hc => ?_) <;> simp only [decide_eq_true_eq, decide_eq_false_iff_not] at hc
  · refine when_of (by omega) ?_
    rw [show (32 : Int) = ((32 : Nat) : Int) by rfl, shrN x 32 (by omega)]
    refine len_j1 (by omega) (by omega) (by omega) fun L hL hl => ?_
    exact ⟨L + 32, ⟨by omega, isLen_up hl⟩, rfl, h⟩
  · exact len_j1 (n := 0) (by omega) h0 (by omega) fun L hL hl => ⟨L, ⟨by omega, hl⟩, rfl, h⟩
theorem lz64_at (h : Sat W w M) {x : Nat} (hx : x < 18446744073709551616) (h0 : x ≠ 0) : Calls Try.prog id_math_bits_LeadingZeros64 #[.int .u64 x] w fun e w' =>
    ∃ s : Nat, (s ≤ 63 ∧ 9223372036854775808 ≤ x * 2 ^ s ∧ x * 2 ^ s < 18446744073709551616) ∧ e = .returned (.int .i64 (s : Int)) ∧ Sat W w' M := by
  refine (math_bits_LeadingZeros64_calls (Q := fun v w' => ∃ s : Nat, (s ≤ 63 ∧ 9223372036854775808 ≤ x * 2 ^ s ∧ x * 2 ^ s < 18446744073709551616) ∧ v = .int .i64 (s : Int) ∧ Sat W w' M) ?_).mono fun e w' ⟨v, he, L, hl, hv, hs⟩ => ⟨L, hl, by rw [he, hv], hs⟩
  rw [math_bits_LeadingZeros64_def, math_bits_LeadingZeros64_raw]
  refine call1_of (len64_at h hx h0) fun e w ⟨L, ⟨hL, h1, h2, h3⟩, he, h⟩ => ⟨_, he, ?_⟩
  rw [i64_in _ (by omega)]
  refine ⟨64 - L, ⟨by omega, ?_, ?_⟩, by rw [show (64 : Int) - (L : Int) = ((64 - L : Nat) : Int) by omega], h⟩
  · have := Nat.mul_le_mul_right (2 ^ (64 - L)) h2
    rwa [← Nat.pow_add, show L - 1 + (64 - L) = 63 by omega] at this
  · have := Nat.mul_lt_mul_of_pos_right h3 (Nat.two_pow_pos (64 - L))
    rwa [← Nat.pow_add, show L + (64 - L) = 64 by omega] at this

/-! the digits -/
theorem l6_ok {Q : Value → WP} {y1 y0 u d : Nat} (hy : 0 < y1) (hy1 : y1 < 4294967296) (hy0 : y0 < 4294967296) (hu : u < y1 * 4294967296 + y0) (hd : d < 4294967296) {qh : Nat} (hqh : (u * 4294967296 + d) / (y1 * 4294967296 + y0) = qh) {y2 s8 q1 un21 : Int} {S : World → Prop} {K : WP}
    (hj : math_bits_Div64_j8 idJ Q y2 s8 (d : Int) q1 un21 (qh : Int) = K) (hK : ∀ w, S w → K w) :
    ∀ (m q r : Nat) (w : World), q * y1 + r = u → r < 4294967296 → qh ≤ q → m = q - qh → q < 18446744073709551616 → S w →
      math_bits_Div64_l6 idJ Q (m + 1) y2 s8 (y1 : Int) (y0 : Int) (d : Int) q1 (r : Int) un21 (q : Int) w := by
  intro m
  induction m with
  | zero =>
    intro q r w hq hr hle hm hq64 hS
    rw [math_bits_Div64_l6_raw]
    have hno : ¬ (4294967296 ≤ q ∨ 4294967296 * r + d < q * y0) := fun hs => by
      have := digit_more hq hy hu hd hs
      rw [hqh] at this
      omega
    have hqB : ¬ 4294967296 ≤ q := fun h => hno (.inl h)
    have hmul : q * y0 ≤ 4294967295 * 4294967295 := Nat.mul_le_mul (by omega) (by omega)
    refine ite_false (by simp only [decide_eq_false_iff_not]; omega) ?_
    have hlt : ¬ 4294967296 * r + d < q * y0 := fun h => hno (.inr h)
    rw [mulN, wrapN (by omega), show (4294967296 : Int) = ((4294967296 : Nat) : Int) by rfl, mulN, wrapN (by omega), addN, wrapN (by omega)]
    refine ite_false (by simp only [decide_eq_false_iff_not]; omega) ?_
    have := digit_stop (y0 := y0) (d := d) hq hy (by omega) (by rw [hqh]; exact hle)
    rw [hqh] at this
    rw [← this, hj]
    exact hK w hS
  | succ m ih =>
    intro q r w hq hr hle hm hq64 hS
    rw [math_bits_Div64_l6_raw]
    have hmore : qh < q := by omega
    have key : math_bits_Div64_j7 idJ Q (m + 1) y2 s8 (y1 : Int) (y0 : Int) (d : Int) q1 (r : Int) un21 (q : Int) w := by
      rw [math_bits_Div64_j7_def, math_bits_Div64_j7_raw]
      have hq' : (q - 1) * y1 + (r + y1) = u := by
        have : q * y1 = (q - 1) * y1 + y1 := by
          conv => lhs; rw [show q = (q - 1) + 1 by omega]
          rw [Nat.add_mul, Nat.one_mul]
        omega
      rw [addN, wrapN (by omega), show (1 : Int) = ((1 : Nat) : Int) by rfl, subN (by omega), wrapN (by omega)]
      refine ite_cases (fun hc => ?_) (fun hc => ?_) <;> simp only [decide_eq_true_eq, decide_eq_false_iff_not] at hc
      · have := digit_break (d := d) hq' hy hy0 hu (by omega) (by rw [hqh]; omega)
        rw [hqh] at this
        rw [← this, hj]
        exact hK w hS
      · exact ih (q - 1) (r + y1) w hq' (by omega) (by omega) (by omega) (by omega) hS
    generalize math_bits_Div64_j7 idJ Q (m + 1) y2 s8 (y1 : Int) (y0 : Int) (d : Int) q1 (r : Int) un21 (q : Int) = J at key ⊢
    refine ite_cases (fun hc => key) (fun hc => ?_)
    simp only [decide_eq_false_iff_not] at hc
    have hmul : q * y0 ≤ 4294967295 * 4294967295 := Nat.mul_le_mul (by omega) (by omega)
    rw [mulN, wrapN (by omega), show (4294967296 : Int) = ((4294967296 : Nat) : Int) by rfl, mulN, wrapN (by omega), addN, wrapN (by omega)]
    refine ite_cases (fun hc => key) (fun hc' => ?_)
    simp only [decide_eq_false_iff_not] at hc'
    have := digit_stop (y0 := y0) (d := d) hq hy (by omega) (by rw [hqh]; exact hle)
    rw [hqh] at this
    rw [← this, hj]
    exact hK w hS
theorem l3_ok {Q : Value → WP} {y1 y0 u d : Nat} (hy : 0 < y1) (hy1 : y1 < 4294967296) (hy0 : y0 < 4294967296) (hu : u < y1 * 4294967296 + y0) (hd : d < 4294967296) {qh : Nat} (hqh : (u * 4294967296 + d) / (y1 * 4294967296 + y0) = qh) {y2 s8 un32 un0 : Int} {S : World → Prop} {K : WP}
    (hj : math_bits_Div64_j5 idJ Q y2 s8 (y1 : Int) (y0 : Int) un32 (d : Int) un0 (qh : Int) = K) (hK : ∀ w, S w → K w) :
    ∀ (m q r : Nat) (w : World), q * y1 + r = u → r < 4294967296 → qh ≤ q → m = q - qh → q < 18446744073709551616 → S w →
      math_bits_Div64_l3 idJ Q (m + 1) y2 s8 (y1 : Int) (y0 : Int) un32 (d : Int) un0 (q : Int) (r : Int) w := by
  intro m
  induction m with
  | zero =>
    intro q r w hq hr hle hm hq64 hS
    rw [math_bits_Div64_l3_raw]
    have hno : ¬ (4294967296 ≤ q ∨ 4294967296 * r + d < q * y0) := fun hs => by
      have := digit_more hq hy hu hd hs
      rw [hqh] at this
      omega
    have hqB : ¬ 4294967296 ≤ q := fun h => hno (.inl h)
    have hmul : q * y0 ≤ 4294967295 * 4294967295 := Nat.mul_le_mul (by omega) (by omega)
    refine ite_false (by simp only [decide_eq_false_iff_not]; omega) ?_
    have hlt : ¬ 4294967296 * r + d < q * y0 := fun h => hno (.inr h)
    rw [mulN, wrapN (by omega), show (4294967296 : Int) = ((4294967296 : Nat) : Int) by rfl, mulN, wrapN (by omega), addN, wrapN (by omega)]
    refine ite_false (by simp only [decide_eq_false_iff_not]; omega) ?_
    have := digit_stop (y0 := y0) (d := d) hq hy (by omega) (by rw [hqh]; exact hle)
    rw [hqh] at this
    rw [← this, hj]
    exact hK w hS
  | succ m ih =>
    intro q r w hq hr hle hm hq64 hS
    rw [math_bits_Div64_l3_raw]
    have hmore : qh < q := by omega
    have key : math_bits_Div64_j4 idJ Q (m + 1) y2 s8 (y1 : Int) (y0 : Int) un32 (d : Int) un0 (q : Int) (r : Int) w := by
      rw [math_bits_Div64_j4_def, math_bits_Div64_j4_raw]
      have hq' : (q - 1) * y1 + (r + y1) = u := by
        have : q * y1 = (q - 1) * y1 + y1 := by
          conv => lhs; rw [show q = (q - 1) + 1 by omega]
          rw [Nat.add_mul, Nat.one_mul]
        omega
      rw [addN, wrapN (by omega), show (1 : Int) = ((1 : Nat) : Int) by rfl, subN (by omega), wrapN (by omega)]
      refine ite_cases (fun hc => ?_) (fun hc => ?_) <;> simp only [decide_eq_true_eq, decide_eq_false_iff_not] at hc
      · have := digit_break (d := d) hq' hy hy0 hu (by omega) (by rw [hqh]; omega)
        rw [hqh] at this
        rw [← this, hj]
        exact hK w hS
      · exact ih (q - 1) (r + y1) w hq' (by omega) (by omega) (by omega) (by omega) hS
    generalize math_bits_Div64_j4 idJ Q (m + 1) y2 s8 (y1 : Int) (y0 : Int) un32 (d : Int) un0 (q : Int) (r : Int) = J at key ⊢
    refine ite_cases (fun hc => key) (fun hc => ?_)
    simp only [decide_eq_false_iff_not] at hc
    have hmul : q * y0 ≤ 4294967295 * 4294967295 := Nat.mul_le_mul (by omega) (by omega)
    rw [mulN, wrapN (by omega), show (4294967296 : Int) = ((4294967296 : Nat) : Int) by rfl, mulN, wrapN (by omega), addN, wrapN (by omega)]
    refine ite_cases (fun hc => key) (fun hc' => ?_)
    simp only [decide_eq_false_iff_not] at hc'
    have := digit_stop (y0 := y0) (d := d) hq hy (by omega) (by rw [hqh]; exact hle)
    rw [hqh] at this
    rw [← this, hj]
    exact hK w hS

end
end Go.Proofs.Ytfighgokcocpbaa
