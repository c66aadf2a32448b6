/- THE LONG DIVISION's LAW, in plain numbers. -/
set_option linter.unusedVariables false
set_option linter.unusedSimpArgs false
set_option linter.unnecessarySimpa false
set_option linter.unusedSectionVars false
namespace Go.Hb

theorem digit_stop {q y1 y0 u d r : Nat} (hq : q * y1 + r = u) (hy : 0 < y1) (hs : q * y0 ≤ 4294967296 * r + d) (hle : (u * 4294967296 + d) / (y1 * 4294967296 + y0) ≤ q) :
    (u * 4294967296 + d) / (y1 * 4294967296 + y0) = q := by
  refine Nat.le_antisymm hle ((Nat.le_div_iff_mul_le (by omega)).2 ?_)
  have e : q * (y1 * 4294967296 + y0) = q * y1 * 4294967296 + q * y0 := by rw [Nat.mul_add, Nat.mul_assoc]
  rw [e]
  generalize q * y1 = a at *
  generalize q * y0 = b at *
  omega
theorem digit_more {q y1 y0 u d r : Nat} (hq : q * y1 + r = u) (hy : 0 < y1) (hu : u < y1 * 4294967296 + y0) (hd : d < 4294967296) (hs : 4294967296 ≤ q ∨ 4294967296 * r + d < q * y0) :
    (u * 4294967296 + d) / (y1 * 4294967296 + y0) < q := by
  rw [Nat.div_lt_iff_lt_mul (by omega)]
  rcases hs with hs | hs
  · have h1 : 4294967296 * (y1 * 4294967296 + y0) ≤ q * (y1 * 4294967296 + y0) := Nat.mul_le_mul_right _ hs
    omega
  · have e : q * (y1 * 4294967296 + y0) = q * y1 * 4294967296 + q * y0 := by rw [Nat.mul_add, Nat.mul_assoc]
    rw [e]
    generalize q * y1 = a at *
    generalize q * y0 = b at *
    omega
theorem digit_break {q y1 y0 u d r : Nat} (hq : q * y1 + r = u) (hy : 0 < y1) (hy0 : y0 < 4294967296) (hu : u < y1 * 4294967296 + y0) (hr : 4294967296 ≤ r) (hle : (u * 4294967296 + d) / (y1 * 4294967296 + y0) ≤ q) :
    (u * 4294967296 + d) / (y1 * 4294967296 + y0) = q := by
  refine Nat.le_antisymm hle ((Nat.le_div_iff_mul_le (by omega)).2 ?_)
  have e : q * (y1 * 4294967296 + y0) = q * y1 * 4294967296 + q * y0 := by rw [Nat.mul_add, Nat.mul_assoc]
  have hq1 : q < 4294967296 := by
    have : q * y1 < 4294967296 * y1 := by
      have e2 : 4294967296 * y1 = y1 * 4294967296 := Nat.mul_comm _ _
      omega
    exact Nat.lt_of_mul_lt_mul_right this
  have h2 : q * y0 ≤ 4294967295 * 4294967295 := Nat.mul_le_mul (by omega) (by omega)
  rw [e]
  generalize q * y1 = a at *
  generalize q * y0 = b at *
  omega
theorem digit_ge {y1 y0 u d : Nat} (hy : 0 < y1) (hd : d < 4294967296) : (u * 4294967296 + d) / (y1 * 4294967296 + y0) ≤ u / y1 := by
  have h1 : (u * 4294967296 + d) / (y1 * 4294967296 + y0) ≤ (u * 4294967296 + d) / (y1 * 4294967296) := Nat.div_le_div_left (by omega) (by omega)
  have h2 : (u * 4294967296 + d) / (y1 * 4294967296) = u / y1 := by
    rw [Nat.mul_comm y1, ← Nat.div_div_eq_div_mul]
    congr 1
    omega
  omega
end Go.Hb
