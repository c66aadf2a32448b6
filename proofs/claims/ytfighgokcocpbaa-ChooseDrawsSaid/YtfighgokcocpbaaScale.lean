/- math/bits.Div64, fix.Scale, fix.Mul: contracts for every argument. -/
import Derived.Test.YtfighgokcocpbaaDiv64
set_option linter.unusedVariables false
set_option linter.unusedSimpArgs false
set_option linter.unnecessarySimpa false
set_option linter.unusedSectionVars false
namespace Go.Proofs.Ytfighgokcocpbaa
open Go.Hb Go.IntWalk

theorem tdivN (a b : Nat) : (a : Int).tdiv (b : Int) = ((a / b : Nat) : Int) := by
  rw [Int.tdiv_eq_ediv_of_nonneg (by omega)]; rfl
theorem or_add {a b s : Nat} (hs : s ≤ 64) (hb : b < 2 ^ s) (ha : a * 2 ^ s + b < 18446744073709551616) : bits .or .u64 ((a * 2 ^ s : Nat) : Int) (b : Int) = ((a * 2 ^ s + b : Nat) : Int) := by
  rw [bits_or_u64_nat _ _ (by omega) (by omega)]
  congr 1
  have := Nat.shiftLeft_add_eq_or_of_lt hb a
  rw [Nat.shiftLeft_eq] at this
  exact this.symm

section
variable {W w : World} {M : List HP}
theorem last_digit {Q : Value → WP} {S : World → Prop} {y1 y0 u d0 d1 q1 : Nat} {y s : Nat} {L : Nat} (hL : d1 * 4294967296 + d0 = L) (hY : y = y1 * 4294967296 + y0) (hy1 : 0 < y1) (hy1' : y1 < 4294967296) (hy0 : y0 < 4294967296) (hu : u < y) (hd1 : d1 < 4294967296) (hd0 : d0 < 4294967296)
    (hq1 : (u * 4294967296 + d1) / (y1 * 4294967296 + y0) = q1)
    (hQ : ∀ (r : Int) w, S w → Q (.tuple #[.int .u64 (((u * 18446744073709551616 + L) / y : Nat) : Int), .int .u64 r]) w) (hS : S w) :
    math_bits_Div64_j5 idJ Q (y : Int) (s : Int) (y1 : Int) (y0 : Int) (u : Int) (d1 : Int) (d0 : Int) (q1 : Int) w := by
  rw [math_bits_Div64_j5_def, math_bits_Div64_j5_raw]
  refine when_of (by omega) ?_
  have hY0 : 0 < y1 * 4294967296 + y0 := by omega
  have hdm := Nat.div_add_mod (u * 4294967296 + d1) (y1 * 4294967296 + y0)
  have hlt := Nat.mod_lt (u * 4294967296 + d1) hY0
  rw [hq1] at hdm
  have hq1lt : q1 < 4294967296 := by
    rw [← hq1, Nat.div_lt_iff_lt_mul hY0]
    omega
  obtain ⟨v, hv⟩ : ∃ v, v = (u * 4294967296 + d1) % (y1 * 4294967296 + y0) := ⟨_, rfl⟩
  rw [← hv] at hdm hlt
  have h21 : IntKind.wrap .u64 ((IntKind.wrap .u64 ((IntKind.wrap .u64 ((u : Int) * (4294967296 : Int))) + (d1 : Int))) - (IntKind.wrap .u64 ((q1 : Int) * (y : Int)))) = (v : Int) := by
    have hp : ((q1 : Int) * (y : Int)) = ((u : Int) * 4294967296 + (d1 : Int)) - (v : Int) := by
      have e : q1 * y = y * q1 := Nat.mul_comm _ _
      rw [mulN, e, hY]
      omega
    rw [hp]
    simp only [IntKind.wrap_u64]
    omega
  rw [h21, tdivN, wrapN (Nat.lt_of_le_of_lt (Nat.div_le_self _ _) (by omega)), mulN]
  have hdm2 := Nat.div_add_mod v y1
  have hlt2 := Nat.mod_lt v hy1
  have hmc : v / y1 * y1 = y1 * (v / y1) := Nat.mul_comm _ _
  rw [hmc, wrapN (by omega), subN (by omega), wrapN (by omega)]
  have hge := digit_ge (y1 := y1) (y0 := y0) (u := v) (d := d0) hy1 hd0
  refine ⟨_, l6_ok (d := d0) hy1 hy1' hy0 (by omega) hd0 (qh := (v * 4294967296 + d0) / (y1 * 4294967296 + y0)) rfl (S := S) rfl ?_ _ (v / y1) (v - y1 * (v / y1)) w (by omega) (by omega) hge rfl (Nat.lt_of_le_of_lt (Nat.div_le_self _ _) (by omega)) hS⟩
  intro w hS
  rw [math_bits_Div64_j8_def, math_bits_Div64_j8_raw]
  refine when_of (by omega) ?_
  have hq0 : (v * 4294967296 + d0) / (y1 * 4294967296 + y0) < 4294967296 := by
    rw [Nat.div_lt_iff_lt_mul hY0]
    omega
  rw [show (4294967296 : Int) = ((4294967296 : Nat) : Int) by rfl, mulN, wrapN (by omega), addN, wrapN (by omega)]
  subst hL
  have hfin : (u * 18446744073709551616 + (d1 * 4294967296 + d0)) / y = q1 * 4294967296 + (v * 4294967296 + d0) / (y1 * 4294967296 + y0) := by
    have e : u * 18446744073709551616 + (d1 * 4294967296 + d0) = (v * 4294967296 + d0) + (y1 * 4294967296 + y0) * (q1 * 4294967296) := by
      have : (y1 * 4294967296 + y0) * (q1 * 4294967296) = (y1 * 4294967296 + y0) * q1 * 4294967296 := by rw [Nat.mul_assoc]
      rw [this]
      omega
    rw [e, hY, Nat.add_mul_div_left _ _ hY0]
    omega
  rw [← hfin]
  exact hQ _ w hS
theorem first_digit0 {Q : Value → WP} {S : World → Prop} {y1 y0 u d1 : Nat} {y s d0 : Int} (hy1 : 0 < y1) (hy1' : y1 < 4294967296) (hy0 : y0 < 4294967296) (hu : u < y1 * 4294967296 + y0) (hd1 : d1 < 4294967296)
    {qh : Nat} (hq : (u * 4294967296 + d1) / (y1 * 4294967296 + y0) = qh) {K : WP} (hJ : math_bits_Div64_j5 idJ Q y s (y1 : Int) (y0 : Int) (u : Int) (d1 : Int) d0 (qh : Int) = K) (hj : ∀ w, S w → K w) (hS : S w) :
    (exM fun m => math_bits_Div64_l3 idJ Q m y s (y1 : Int) (y0 : Int) (u : Int) (d1 : Int) d0 ((u / y1 : Nat) : Int) ((u - y1 * (u / y1) : Nat) : Int)) w := by
  have hdm2 := Nat.div_add_mod u y1
  have hlt2 := Nat.mod_lt u hy1
  have hmc : u / y1 * y1 = y1 * (u / y1) := Nat.mul_comm _ _
  have hge := digit_ge (y1 := y1) (y0 := y0) (u := u) (d := d1) hy1 hd1
  rw [hq] at hge
  have a2 : u / y1 * y1 + (u - y1 * (u / y1)) = u := by omega
  have a3 : u - y1 * (u / y1) < 4294967296 := by omega
  have a4 : u / y1 < 18446744073709551616 := Nat.lt_of_le_of_lt (Nat.div_le_self _ _) (by omega)
  exact ⟨_, l3_ok hy1 hy1' hy0 hu hd1 hq hJ hj _ (u / y1) (u - y1 * (u / y1)) w a2 a3 hge rfl a4 hS⟩
theorem first_digit {Q : Value → WP} {S : World → Prop} {y1 y0 u d0 d1 : Nat} {y s : Nat} {L : Nat} (hL : d1 * 4294967296 + d0 = L) (hY : y = y1 * 4294967296 + y0) (hy1 : 0 < y1) (hy1' : y1 < 4294967296) (hy0 : y0 < 4294967296) (hu : u < y) (hd1 : d1 < 4294967296) (hd0 : d0 < 4294967296)
    (hQ : ∀ (r : Int) w, S w → Q (.tuple #[.int .u64 (((u * 18446744073709551616 + L) / y : Nat) : Int), .int .u64 r]) w) (hS : S w) :
    (exM fun m => math_bits_Div64_l3 idJ Q m (y : Int) (s : Int) (y1 : Int) (y0 : Int) (u : Int) (d1 : Int) (d0 : Int) ((u / y1 : Nat) : Int) ((u - y1 * (u / y1) : Nat) : Int)) w := by
  have hj : ∀ w, S w → math_bits_Div64_j5 idJ Q (y : Int) (s : Int) (y1 : Int) (y0 : Int) (u : Int) (d1 : Int) (d0 : Int) (((u * 4294967296 + d1) / (y1 * 4294967296 + y0) : Nat) : Int) w := by
    intro w hS
    with_reducible exact last_digit (S := S) hL hY hy1 hy1' hy0 hu hd1 hd0 rfl hQ hS
  have hu' : u < y1 * 4294967296 + y0 := by omega
  with_reducible exact first_digit0 (S := S) hy1 hy1' hy0 hu' hd1 rfl rfl hj hS
theorem div64_at (h : Sat W w M) {hi lo y : Nat} (hhi : hi < y) (hy : y < 18446744073709551616) (hlo : lo < 18446744073709551616) : Calls Try.prog id_math_bits_Div64 #[.int .u64 hi, .int .u64 lo, .int .u64 y] w fun e w' =>
    (∃ r : Int, e = .returned (.tuple #[.int .u64 (((hi * 18446744073709551616 + lo) / y : Nat) : Int), .int .u64 r])) ∧ Sat W w' M := by
  refine (math_bits_Div64_calls (Q := fun v w' => (∃ r : Int, v = .tuple #[.int .u64 (((hi * 18446744073709551616 + lo) / y : Nat) : Int), .int .u64 r]) ∧ Sat W w' M) ?_).mono fun e w' ⟨v, he, ⟨r, hv⟩, hs⟩ => ⟨⟨r, by rw [he, hv]⟩, hs⟩
  rw [math_bits_Div64_def, math_bits_Div64_raw]
  refine ite_false (by simp; omega) ?_
  rw [math_bits_Div64_j1_def, math_bits_Div64_j1_raw]
  refine ite_false (by simp; omega) ?_
  rw [math_bits_Div64_j2_def, math_bits_Div64_j2_raw]
  refine ite_cases (fun hc => ?_) (fun hc => ?_)
  · have h0 : hi = 0 := by simpa using hc
    subst h0
    refine drawW_same ?_
    refine when_of (by omega) (when_of (by omega) ?_)
    rw [tdivN, wrapN (Nat.lt_of_le_of_lt (Nat.div_le_self _ _) hlo)]
    exact ⟨⟨_, by rw [Nat.zero_mul, Nat.zero_add]⟩, h.drew⟩
  · have h0 : hi ≠ 0 := by simpa using hc
    refine call1_of (lz64_at h hy (by omega)) fun e w ⟨s, ⟨hs, hs1, hs2⟩, he, h⟩ => ⟨_, he, ?_⟩
    have hpow : 2 ^ s * 2 ^ (64 - s) = 18446744073709551616 := by rw [← Nat.pow_add, show s + (64 - s) = 64 by omega]
    rw [wrapN (show s < 18446744073709551616 by omega), show ((64 : Int) - (s : Int)) = ((64 - s : Nat) : Int) by omega, wrapN (show 64 - s < 18446744073709551616 by omega)]
    refine when_of (by omega) (when_of (by omega) (when_of (by omega) (when_of (by omega) (when_of (by omega) (when_of (by omega) ?_)))))
    have hp0 : 0 < 2 ^ s := Nat.two_pow_pos s
    have hhs : hi * 2 ^ s + 2 ^ s ≤ y * 2 ^ s := by
      have := Nat.mul_le_mul_right (2 ^ s) (show hi + 1 ≤ y by omega)
      rwa [Nat.add_mul, Nat.one_mul] at this
    have hlos : lo / 2 ^ (64 - s) < 2 ^ s := by
      rw [Nat.div_lt_iff_lt_mul (Nat.two_pow_pos _), hpow]; exact hlo
    rw [shlN y s (by omega), shlN hi s (by omega), shlN lo s (by omega), shrN lo (64 - s) (by omega), Nat.mod_eq_of_lt hs2, Nat.mod_eq_of_lt (show hi * 2 ^ s < 18446744073709551616 by omega), or_add (by omega) hlos (by omega)]
    have hL : lo * 2 ^ s % 18446744073709551616 < 18446744073709551616 := Nat.mod_lt _ (by omega)
    have hsplit : lo * 2 ^ s = lo / 2 ^ (64 - s) * 18446744073709551616 + lo * 2 ^ s % 18446744073709551616 := by
      have h1 := Nat.div_add_mod (lo * 2 ^ s) 18446744073709551616
      have h2 : lo * 2 ^ s / 18446744073709551616 = lo / 2 ^ (64 - s) := by
        rw [← hpow, Nat.mul_comm lo, Nat.mul_div_mul_left _ _ hp0]
      omega
    have hN : (hi * 18446744073709551616 + lo) / y = ((hi * 2 ^ s + lo / 2 ^ (64 - s)) * 18446744073709551616 + lo * 2 ^ s % 18446744073709551616) / (y * 2 ^ s) := by
      rw [← Nat.mul_div_mul_right _ _ hp0]
      congr 1
      rw [Nat.add_mul, hsplit]
      have e : hi * 18446744073709551616 * 2 ^ s = hi * 2 ^ s * 18446744073709551616 := Nat.mul_right_comm _ _ _
      rw [e]
      omega
    have hU : hi * 2 ^ s + lo / 2 ^ (64 - s) < y * 2 ^ s := by omega
    rw [hN]
    generalize hi * 2 ^ s + lo / 2 ^ (64 - s) = U at *
    generalize lo * 2 ^ s % 18446744073709551616 = L at *
    generalize y * 2 ^ s = Y at *
    rw [shr32, mask32 hs2, shr32, mask32 hL, tdivN, wrapN (Nat.lt_of_le_of_lt (Nat.div_le_self _ _) (by omega)), mulN]
    have hy1 : 0 < Y / 4294967296 := by omega
    refine when_of (by omega) ?_
    have hdm2 := Nat.div_add_mod U (Y / 4294967296)
    have hlt2 := Nat.mod_lt U hy1
    have hmc : U / (Y / 4294967296) * (Y / 4294967296) = Y / 4294967296 * (U / (Y / 4294967296)) := Nat.mul_comm _ _
    have hYY : Y / 4294967296 * 4294967296 + Y % 4294967296 = Y := by omega
    rw [hmc, wrapN (by omega), subN (by omega), wrapN (by omega)]
    refine first_digit (S := fun w => Sat W w M) (Nat.div_add_mod' L 4294967296) hYY.symm hy1 (by omega) (by omega) hU (by omega) (by omega) ?_ h
    intro r w h
    exact ⟨⟨r, rfl⟩, h⟩

def scaleN (a b c : Nat) : Nat := if c * 18446744073709551616 ≤ a * b ∨ c = 0 then 18446744073709551615 else a * b / c
theorem scale_at (h : Sat W w M) {a b c : Nat} (ha : a < 18446744073709551616) (hb : b < 18446744073709551616) (hc : c < 18446744073709551616) : Calls Try.prog id_fix_Scale #[.int .u64 a, .int .u64 b, .int .u64 c] w fun e w' =>
    e = .returned (.int .u64 (scaleN a b c : Nat)) ∧ Sat W w' M := by
  refine c1 (fix_Scale_calls ?_)
  rw [fix_Scale_def, fix_Scale_raw]
  refine call2_of (mul64_at h ha hb) fun e w ⟨he, h⟩ => ⟨_, _, he, ?_⟩
  have hiff : c ≤ a * b / 18446744073709551616 ↔ (c * 18446744073709551616 ≤ a * b ∨ c = 0) := by
    rw [Nat.le_div_iff_mul_le (by omega)]; omega
  unfold scaleN
  refine ite_cases (fun hx => ?_) (fun hx => ?_) <;> simp only [decide_eq_true_eq, decide_eq_false_iff_not] at hx
  · have hx : ((c : Nat) : Int) ≤ ((a * b / 18446744073709551616 : Nat) : Int) := hx
    rw [if_pos (hiff.1 (by exact_mod_cast hx))]
    exact ⟨rfl, h⟩
  · have hx : ¬ ((c : Nat) : Int) ≤ ((a * b / 18446744073709551616 : Nat) : Int) := hx
    have hlt : a * b / 18446744073709551616 < c := by
      have hx' : ¬ c ≤ a * b / 18446744073709551616 := by exact_mod_cast hx
      exact Nat.not_le.1 hx'
    refine call2_of (div64_at h hlt hc (Nat.mod_lt _ (by omega))) fun e w ⟨⟨r, he⟩, h⟩ => ⟨_, r, he, ?_⟩
    rw [if_neg (fun hh => by have := hiff.2 hh; omega)]
    refine ⟨?_, h⟩
    congr 3
    have := Nat.div_add_mod (a * b) 18446744073709551616
    congr 1
    omega
theorem mul_at (h : Sat W w M) {a b : Nat} (ha : a < 18446744073709551616) (hb : b < 18446744073709551616) : Calls Try.prog id_fix_Mul #[.int .u64 a, .int .u64 b] w fun e w' =>
    e = .returned (.int .u64 (scaleN a b 4294967296 : Nat)) ∧ Sat W w' M := by
  refine c1 (fix_Mul_calls ?_)
  rw [fix_Mul_def, fix_Mul_raw, show (4294967296 : Int) = ((4294967296 : Nat) : Int) from rfl]
  exact call1_of (scale_at (c := 4294967296) h ha hb (by omega)) fun e w ⟨he, h⟩ => ⟨_, he, rfl, h⟩
end
end Go.Proofs.Ytfighgokcocpbaa
