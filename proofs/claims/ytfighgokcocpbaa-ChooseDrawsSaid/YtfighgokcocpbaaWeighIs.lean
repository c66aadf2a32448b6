/- What Next answers are weights. In plain numbers. -/
import Derived.Test.YtfighgokcocpbaaWeigh3
set_option linter.unusedVariables false
set_option linter.unusedSimpArgs false
set_option linter.unnecessarySimpa false
set_option linter.unusedSectionVars false
namespace Go.Proofs.Ytfighgokcocpbaa
open Go.Hb Go.IntWalk

theorem bestF_max {ws : List Int} : ∀ (n i b : Nat), (∀ j, j < i → ws.getD j 0 ≤ ws.getD b 0) → ∀ j, j < i + n → ws.getD j 0 ≤ ws.getD (bestF ws n i b) 0
  | 0, i, b, h, j, hj => h j (by omega)
  | n + 1, i, b, h, j, hj => by
    show ws.getD j 0 ≤ ws.getD (bestF ws n (i + 1) (if ws.getD i 0 > ws.getD b 0 then i else b)) 0
    refine bestF_max n (i + 1) _ (fun k hk => ?_) j (by omega)
    by_cases hki : k = i
    · subst hki; split <;> omega
    · have := h k (by omega)
      split <;> omega
def is5L (ws : List Int) : Bool := is5 (ws.getD 0 0) (ws.getD 1 0) (ws.getD 2 0) (ws.getD 3 0) (ws.getD 4 0)
theorem in1_iff (a : Int) : in1 a = true ↔ 42949672 ≤ a ∧ a ≤ 4294967296 := by
  unfold in1
  simp only [Bool.and_eq_true, Bool.not_eq_true', decide_eq_false_iff_not]
  omega
theorem is5_iff (a b c d e : Int) : is5 a b c d e = true ↔ (42949672 ≤ a ∧ a ≤ 4294967296) ∧ (42949672 ≤ b ∧ b ≤ 4294967296) ∧ (42949672 ≤ c ∧ c ≤ 4294967296) ∧ (42949672 ≤ d ∧ d ≤ 4294967296) ∧ (42949672 ≤ e ∧ e ≤ 4294967296) ∧ a + b + c + d + e = 4294967296 := by
  unfold is5
  simp only [Bool.and_eq_true, in1_iff, beq_iff_eq]
  constructor
  · rintro ⟨h1, h2, h3, h4, h5, h6⟩
    refine ⟨h1, h2, h3, h4, h5, ?_⟩
    unfold sum5 at h6
    simp only [IntKind.wrap_u64] at h6
    omega
  · rintro ⟨h1, h2, h3, h4, h5, h6⟩
    refine ⟨h1, h2, h3, h4, h5, ?_⟩
    unfold sum5
    simp only [IntKind.wrap_u64]
    omega
theorem sum5_small {a b c d e : Nat} (h : a + b + c + d + e < 18446744073709551616) : sumN a b c d e = a + b + c + d + e := by
  unfold sumN sum5
  simp only [IntKind.wrap_u64]
  omega
theorem evenL_is {f0 f1 f2 f3 f4 : Int} (h0 : 42949672 ≤ f0 ∧ f0 ≤ 4294967296) (h1 : 42949672 ≤ f1 ∧ f1 ≤ 4294967296) (h2 : 42949672 ≤ f2 ∧ f2 ≤ 4294967296) (h3 : 42949672 ≤ f3 ∧ f3 ≤ 4294967296) (h4 : 42949672 ≤ f4 ∧ f4 ≤ 4294967296)
    (hmax : ∀ m, f0 ≤ m → f1 ≤ m → f2 ≤ m → f3 ≤ m → f4 ≤ m → f0 + f1 + f2 + f3 + f4 + 42949672 ≤ 4294967296 + m) : is5L (evenL [f0, f1, f2, f3, f4]) = true := by
  have hb5 : bestF [f0, f1, f2, f3, f4] 5 0 0 < 5 := bestF_lt (by omega) (by omega)
  have hm := bestF_max (ws := [f0, f1, f2, f3, f4]) 5 0 0 (fun j hj => by omega)
  have hev : evenL [f0, f1, f2, f3, f4] = [f0, f1, f2, f3, f4].set (bestF [f0, f1, f2, f3, f4] 5 0 0) (IntKind.wrap .u64 ([f0, f1, f2, f3, f4].getD (bestF [f0, f1, f2, f3, f4] 5 0 0) 0 + IntKind.wrap .u64 (4294967296 - sum5 f0 f1 f2 f3 f4))) := rfl
  rw [hev]
  generalize bestF [f0, f1, f2, f3, f4] 5 0 0 = t at *
  have m0 : f0 ≤ [f0, f1, f2, f3, f4].getD t 0 := hm 0 (by omega)
  have m1 : f1 ≤ [f0, f1, f2, f3, f4].getD t 0 := hm 1 (by omega)
  have m2 : f2 ≤ [f0, f1, f2, f3, f4].getD t 0 := hm 2 (by omega)
  have m3 : f3 ≤ [f0, f1, f2, f3, f4].getD t 0 := hm 3 (by omega)
  have m4 : f4 ≤ [f0, f1, f2, f3, f4].getD t 0 := hm 4 (by omega)
  have hx := hmax _ m0 m1 m2 m3 m4
  have hs : sum5 f0 f1 f2 f3 f4 = f0 + f1 + f2 + f3 + f4 := by
    unfold sum5; simp only [IntKind.wrap_u64]; omega
  rw [hs]
  have ht : t = 0 ∨ t = 1 ∨ t = 2 ∨ t = 3 ∨ t = 4 := by omega
  clear hm hmax hev
  rcases ht with rfl | rfl | rfl | rfl | rfl <;>
  · simp only [List.getD_cons_zero, List.getD_cons_succ] at hx
    simp only [is5L, List.set_cons_zero, List.set_cons_succ, List.getD_cons_zero, List.getD_cons_succ]
    rw [is5_iff, IntKind.wrap_u64, IntKind.wrap_u64]
    omega
theorem dec_ok {a : Nat} (h : 42949672 ≤ a ∧ a ≤ 4294967296) (g all : Int) : 1 ≤ dec a g all ∧ dec a g all ≤ a := by
  have hk := (keepK_ok (penZ g all)).2
  unfold dec scaleN
  generalize keepK (penZ g all) = k at *
  have h1 : a * k ≤ a * 4294967296 := Nat.mul_le_mul_left _ hk.1
  have h2 : 42949672 * 858993459 ≤ a * k := Nat.mul_le_mul h.1 hk.2
  rw [if_neg (by omega)]
  omega
theorem fl_ok {x t : Nat} (ht0 : 0 < t) (hx : x ≤ t) : ∃ q f, flN x t = f ∧ t * q ≤ x * 4294967296 ∧ x * 4294967296 < t * q + t ∧ 42949672 ≤ f ∧ f ≤ 4294967296 ∧ q ≤ f ∧ f ≤ q + 42949672 ∧ (42949672 < f → f = q) := by
  have hq : x * 4294967296 / t ≤ 4294967296 := Nat.div_le_of_le_mul (Nat.mul_le_mul_right _ hx)
  have h1 := Nat.div_add_mod (x * 4294967296) t
  have h2 := Nat.mod_lt (x * 4294967296) ht0
  refine ⟨x * 4294967296 / t, flN x t, rfl, Nat.mul_div_le _ _, ?_, ?_⟩
  · conv => lhs; rw [← h1]
    exact Nat.add_lt_add_left h2 _
  unfold flN scaleN
  have : ¬ (t * 18446744073709551616 ≤ x * 4294967296 ∨ t = 0) := by omega
  rw [if_neg this]
  clear h1 h2 this
  obtain ⟨q, hqq⟩ : ∃ q, q = x * 4294967296 / t := ⟨_, rfl⟩
  rw [← hqq] at hq ⊢
  clear hqq
  split <;> omega
theorem sums_lin {t a b c d e A B C D E : Nat} (ht : t = a + b + c + d + e) (l0 : A ≤ a * 4294967296) (l1 : B ≤ b * 4294967296) (l2 : C ≤ c * 4294967296) (l3 : D ≤ d * 4294967296) (l4 : E ≤ e * 4294967296)
    (r0 : a * 4294967296 < A + t) (r1 : b * 4294967296 < B + t) (r2 : c * 4294967296 < C + t) (r3 : d * 4294967296 < D + t) (r4 : e * 4294967296 < E + t) : A + B + C + D + E ≤ t * 4294967296 ∧ t * 4294967296 < A + B + C + D + E + t * 5 := by
  subst ht
  omega
theorem sums_ok {t a b c d e qa qb qc qd qe : Nat} (ht0 : 0 < t) (ht : t = a + b + c + d + e) (l0 : t * qa ≤ a * 4294967296) (l1 : t * qb ≤ b * 4294967296) (l2 : t * qc ≤ c * 4294967296) (l3 : t * qd ≤ d * 4294967296) (l4 : t * qe ≤ e * 4294967296)
    (r0 : a * 4294967296 < t * qa + t) (r1 : b * 4294967296 < t * qb + t) (r2 : c * 4294967296 < t * qc + t) (r3 : d * 4294967296 < t * qd + t) (r4 : e * 4294967296 < t * qe + t) :
    qa + qb + qc + qd + qe ≤ 4294967296 ∧ 4294967296 < qa + qb + qc + qd + qe + 5 := by
  obtain ⟨h1, h2⟩ := sums_lin ht l0 l1 l2 l3 l4 r0 r1 r2 r3 r4
  have e1 : t * qa + t * qb + t * qc + t * qd + t * qe = t * (qa + qb + qc + qd + qe) := by
    rw [Nat.mul_add t (qa + qb + qc + qd) qe, Nat.mul_add t (qa + qb + qc) qd, Nat.mul_add t (qa + qb) qc, Nat.mul_add t qa qb]
  rw [e1] at h1 h2
  rw [← Nat.mul_add t (qa + qb + qc + qd + qe) 5] at h2
  exact ⟨Nat.le_of_mul_le_mul_left h1 ht0, Nat.lt_of_mul_lt_mul_left h2⟩
theorem nextD_is {a b c d e : Nat} (ha : 1 ≤ a) (hs : a + b + c + d + e ≤ 4294967296) : is5L (nextD a b c d e) = true := by
  unfold nextD
  rw [sum5_small (by omega)]
  obtain ⟨t, ht⟩ : ∃ t, t = a + b + c + d + e := ⟨_, rfl⟩
  rw [← ht] at hs ⊢
  have ht0 : 0 < t := by omega
  unfold next5
  obtain ⟨qa, fa, e0, l0, r0, z0⟩ := fl_ok (x := a) ht0 (by omega)
  obtain ⟨qb, fb, e1, l1, r1, z1⟩ := fl_ok (x := b) ht0 (by omega)
  obtain ⟨qc, fc, e2, l2, r2, z2⟩ := fl_ok (x := c) ht0 (by omega)
  obtain ⟨qd, fd, e3, l3, r3, z3⟩ := fl_ok (x := d) ht0 (by omega)
  obtain ⟨qe, fe, e4, l4, r4, z4⟩ := fl_ok (x := e) ht0 (by omega)
  rw [e0, e1, e2, e3, e4]
  obtain ⟨up, lo⟩ := sums_ok ht0 ht l0 l1 l2 l3 l4 r0 r1 r2 r3 r4
  clear l0 l1 l2 l3 l4 r0 r1 r2 r3 r4 e0 e1 e2 e3 e4
  refine evenL_is (by omega) (by omega) (by omega) (by omega) (by omega) fun m h0 h1 h2 h3 h4 => by omega
theorem nextL_is (a b c d e : Nat) (g0 g1 g2 g3 g4 all : Int) : is5L (nextL a b c d e g0 g1 g2 g3 g4 all) = true := by
  unfold nextL
  split
  · rename_i h
    rw [is5_iff] at h
    have d0 := dec_ok (a := a) (by omega) g0 all
    have d1 := dec_ok (a := b) (by omega) g1 all
    have d2 := dec_ok (a := c) (by omega) g2 all
    have d3 := dec_ok (a := d) (by omega) g3 all
    have d4 := dec_ok (a := e) (by omega) g4 all
    exact nextD_is d0.1 (by omega)
  · decide +kernel
end Go.Proofs.Ytfighgokcocpbaa
