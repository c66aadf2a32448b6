/- WeighCalm, WeighAlike, WeighLoses, WeighPicks in plain numbers. -/
import Derived.Test.YtfighgokcocpbaaWeighRowWalk
set_option linter.unusedVariables false
set_option linter.unusedSimpArgs false
set_option linter.unnecessarySimpa false
set_option linter.unusedSectionVars false
namespace Go.Proofs.Ytfighgokcocpbaa
open Go.Hb Go.IntWalk

theorem penZ_zero (all : Int) : penZ 0 all = 0 := by
  unfold penZ
  have h0 : clampZ 0 0 1099511627776 = 0 := by decide +kernel
  rw [h0]
  split
  · rfl
  · have : IntKind.wrap .i64 (Int.tdiv (IntKind.wrap .i64 ((16 : Int) * 0)) (clampZ all 0 1099511627776)) = 0 := by
      rw [show IntKind.wrap .i64 ((16 : Int) * 0) = 0 by decide +kernel, Int.zero_tdiv]; decide +kernel
    rw [this]; rfl
theorem keepK_zero : keepK 0 = 4294967296 := by decide +kernel
theorem dec_zero {a : Nat} (ha : a < 18446744073709551616) (all : Int) : dec a 0 all = a := by
  unfold dec
  rw [penZ_zero, keepK_zero]
  exact scaleN_same ha (by omega)
theorem evenL_same {ws : List Int} (hl : ws.length = 5) (hs : sumL ws = 4294967296) (hb : ∀ i, i < 5 → 0 ≤ ws.getD i 0 ∧ ws.getD i 0 < 18446744073709551616) : evenL ws = ws := by
  unfold evenL
  have hlt : bestF ws 5 0 0 < 5 := bestF_lt (by omega) (by omega)
  have h := hb _ hlt
  rw [hs]
  generalize bestF ws 5 0 0 = t at *
  have : IntKind.wrap .u64 (ws.getD t 0 + IntKind.wrap .u64 (4294967296 - 4294967296)) = ws.getD t 0 := by
    simp only [IntKind.wrap_u64]; omega
  rw [this, List.getD_eq_getElem?_getD, List.getElem?_eq_getElem (by omega)]
  simp
theorem calm {ws : List Int} (hi : is5L ws = true) (all : Int) : ∀ i, i < 5 → (nextW ws 0 0 0 0 0 all).getD i 0 = ws.getD i 0 := by
  obtain ⟨a, b, c, d, e, ⟨h0, h1, h2, h3, h4⟩, r⟩ := is5L_nat hi
  have hn : nextW ws 0 0 0 0 0 all = [(a : Int), (b : Int), (c : Int), (d : Int), (e : Int)] := by
    unfold nextW
    have hi' : is5 (a : Int) (b : Int) (c : Int) (d : Int) (e : Int) = true := by
      rw [← h0, ← h1, ← h2, ← h3, ← h4]; exact hi
    rw [h0, h1, h2, h3, h4]
    simp only [Int.toNat_natCast]
    unfold nextL
    rw [if_pos hi', dec_zero (by omega), dec_zero (by omega), dec_zero (by omega), dec_zero (by omega), dec_zero (by omega)]
    unfold nextD next5
    rw [sum5_small (by omega), r.2.2.2.2.2]
    have fl : ∀ x, 42949672 ≤ x → x ≤ 4294967296 → flN x 4294967296 = x := by
      intro x hx hx'
      unfold flN
      rw [scaleN_same (by omega) (by omega)]
      split <;> omega
    rw [fl a (by omega) (by omega), fl b (by omega) (by omega), fl c (by omega) (by omega), fl d (by omega) (by omega), fl e (by omega) (by omega)]
    refine evenL_same rfl ?_ ?_
    · show sum5 a b c d e = 4294967296
      unfold sum5; simp only [IntKind.wrap_u64]; omega
    · intro i hi5
      have : i = 0 ∨ i = 1 ∨ i = 2 ∨ i = 3 ∨ i = 4 := by omega
      rcases this with rfl | rfl | rfl | rfl | rfl <;> simp <;> omega
  intro i hi5
  rw [hn]
  have : i = 0 ∨ i = 1 ∨ i = 2 ∨ i = 3 ∨ i = 4 := by omega
  rcases this with rfl | rfl | rfl | rfl | rfl
  · exact h0.symm
  · exact h1.symm
  · exact h2.symm
  · exact h3.symm
  · exact h4.symm

/-- Start's weights, each with the same loss -/
def alikeL (p : Nat) : List Int := nextD (scaleN 858993460 (keepZ p).toNat 4294967296) (scaleN 858993459 (keepZ p).toNat 4294967296) (scaleN 858993459 (keepZ p).toNat 4294967296) (scaleN 858993459 (keepZ p).toNat 4294967296) (scaleN 858993459 (keepZ p).toNat 4294967296)
theorem alike_ok : ∀ p : Fin 16, (alikeL p.val).getD 2 0 = (alikeL p.val).getD 1 0 ∧ (alikeL p.val).getD 3 0 = (alikeL p.val).getD 1 0 ∧ (alikeL p.val).getD 4 0 = (alikeL p.val).getD 1 0 ∧ (alikeL p.val).getD 0 0 ≥ (alikeL p.val).getD 1 0 ∧
    IntKind.wrap .u64 ((alikeL p.val).getD 0 0 - (alikeL p.val).getD 1 0) ≤ 12 := by decide +kernel
theorem alike_is (n all : Int) : ∃ p : Fin 16, nextW startL n n n n n all = alikeL p.val := by
  have hb := clampZ_bound (penZ n all) (lo := 0) (hi := 15) (by omega)
  refine ⟨⟨(clampZ (penZ n all) 0 15).toNat, by omega⟩, ?_⟩
  unfold nextW nextL
  rw [if_pos (by decide +kernel)]
  rfl

def losesG (kind i : Nat) : Int := if i = kind then 100 else 0
def losesL (kind : Nat) : Nat → List Int
  | 0 => startL
  | n + 1 => nextW (losesL kind n) (losesG kind 0) (losesG kind 1) (losesG kind 2) (losesG kind 3) (losesG kind 4) 100
theorem even_floor {f : List Int} (hl : f.length = 5) {k : Nat} (hex : ∃ j, j < 5 ∧ f.getD k 0 < f.getD j 0) : (evenL f).getD k 0 = f.getD k 0 := by
  obtain ⟨j, hj, hlt⟩ := hex
  have hm := bestF_max (ws := f) 5 0 0 (fun j hj => by omega) j (by omega)
  unfold evenL
  generalize bestF f 5 0 0 = t at *
  have hne : t ≠ k := by rintro rfl; omega
  rw [List.getD_eq_getElem?_getD, List.getElem?_set_ne hne, ← List.getD_eq_getElem?_getD]
theorem flN_ge {x t : Nat} (ht0 : 0 < t) (ht : t ≤ 4294967296) (hx : x ≤ t) : x ≤ flN x t := by
  obtain ⟨q, f, e, h1, h2, h3, h4, h5, h6, h7⟩ := fl_ok ht0 hx
  have : x ≤ q := by
    have h8 : x * t ≤ x * 4294967296 := Nat.mul_le_mul_left _ ht
    have h9 : x * t < (q + 1) * t := by rw [Nat.add_mul, Nat.one_mul, Nat.mul_comm q t]; omega
    have := Nat.lt_of_mul_lt_mul_right h9
    omega
  omega
theorem dec_floor : dec 42949672 100 100 = 8842956 := by decide +kernel
theorem fl_floor {t : Nat} (h1 : 4252017624 ≤ t) (h2 : t ≤ 4294967296) : flN 8842956 t = 42949672 := by
  obtain ⟨q, f, e, l1, l2, l3, l4, l5, l6, l7⟩ := fl_ok (x := 8842956) (t := t) (by omega) (by omega)
  rw [e]
  rcases Nat.lt_or_ge 42949672 f with h | h
  · have := l7 h
    have h8 : 4252017624 * q ≤ t * q := Nat.mul_le_mul_right _ h1
    omega
  · omega
theorem loses_step0 {b c d e : Nat} (hb : (42949672 ≤ b ∧ b ≤ 4294967296) ∧ (42949672 ≤ c ∧ c ≤ 4294967296) ∧ (42949672 ≤ d ∧ d ≤ 4294967296) ∧ (42949672 ≤ e ∧ e ≤ 4294967296)) (hs : b + c + d + e = 4252017624) : (nextL 42949672 b c d e 100 0 0 0 0 100).getD 0 0 = 42949672 := by
  have hi : is5 ((42949672 : Nat) : Int) (b : Nat) (c : Nat) (d : Nat) (e : Nat) = true := by rw [is5_iff]; omega
  unfold nextL
  rw [if_pos hi, dec_floor, dec_zero (by omega), dec_zero (by omega), dec_zero (by omega), dec_zero (by omega)]
  unfold nextD
  rw [sum5_small (by omega)]
  unfold next5
  have ht : 8842956 + b + c + d + e = 4252017624 + 8842956 := by omega
  rw [ht]
  have hf := fl_floor (t := 4252017624 + 8842956) (by omega) (by omega)
  rw [hf]
  have gb := flN_ge (x := b) (t := 4252017624 + 8842956) (by omega) (by omega) (by omega)
  have gc := flN_ge (x := c) (t := 4252017624 + 8842956) (by omega) (by omega) (by omega)
  have gd := flN_ge (x := d) (t := 4252017624 + 8842956) (by omega) (by omega) (by omega)
  have ge := flN_ge (x := e) (t := 4252017624 + 8842956) (by omega) (by omega) (by omega)
  rw [even_floor rfl]
  · rfl
  · rcases (by omega : 42949672 < b ∨ 42949672 < c ∨ 42949672 < d ∨ 42949672 < e) with h | h | h | h
    · exact ⟨1, by omega, by show (42949672 : Int) < ((flN b _ : Nat) : Int); omega⟩
    · exact ⟨2, by omega, by show (42949672 : Int) < ((flN c _ : Nat) : Int); omega⟩
    · exact ⟨3, by omega, by show (42949672 : Int) < ((flN d _ : Nat) : Int); omega⟩
    · exact ⟨4, by omega, by show (42949672 : Int) < ((flN e _ : Nat) : Int); omega⟩
theorem loses_step1 {a c d e : Nat} (hb : (42949672 ≤ a ∧ a ≤ 4294967296) ∧ (42949672 ≤ c ∧ c ≤ 4294967296) ∧ (42949672 ≤ d ∧ d ≤ 4294967296) ∧ (42949672 ≤ e ∧ e ≤ 4294967296)) (hs : a + c + d + e = 4252017624) : (nextL a 42949672 c d e 0 100 0 0 0 100).getD 1 0 = 42949672 := by
  have hi : is5 (a : Nat) ((42949672 : Nat) : Int) (c : Nat) (d : Nat) (e : Nat) = true := by rw [is5_iff]; omega
  unfold nextL
  rw [if_pos hi, dec_floor, dec_zero (by omega), dec_zero (by omega), dec_zero (by omega), dec_zero (by omega)]
  unfold nextD
  rw [sum5_small (by omega)]
  unfold next5
  have ht : a + 8842956 + c + d + e = 4252017624 + 8842956 := by omega
  rw [ht]
  have hf := fl_floor (t := 4252017624 + 8842956) (by omega) (by omega)
  rw [hf]
  have ga := flN_ge (x := a) (t := 4252017624 + 8842956) (by omega) (by omega) (by omega)
  have gc := flN_ge (x := c) (t := 4252017624 + 8842956) (by omega) (by omega) (by omega)
  have gd := flN_ge (x := d) (t := 4252017624 + 8842956) (by omega) (by omega) (by omega)
  have ge := flN_ge (x := e) (t := 4252017624 + 8842956) (by omega) (by omega) (by omega)
  rw [even_floor rfl]
  · rfl
  · rcases (by omega : 42949672 < a ∨ 42949672 < c ∨ 42949672 < d ∨ 42949672 < e) with h | h | h | h
    · exact ⟨0, by omega, by show (42949672 : Int) < ((flN a _ : Nat) : Int); omega⟩
    · exact ⟨2, by omega, by show (42949672 : Int) < ((flN c _ : Nat) : Int); omega⟩
    · exact ⟨3, by omega, by show (42949672 : Int) < ((flN d _ : Nat) : Int); omega⟩
    · exact ⟨4, by omega, by show (42949672 : Int) < ((flN e _ : Nat) : Int); omega⟩
theorem loses_step2 {a b d e : Nat} (hb : (42949672 ≤ a ∧ a ≤ 4294967296) ∧ (42949672 ≤ b ∧ b ≤ 4294967296) ∧ (42949672 ≤ d ∧ d ≤ 4294967296) ∧ (42949672 ≤ e ∧ e ≤ 4294967296)) (hs : a + b + d + e = 4252017624) : (nextL a b 42949672 d e 0 0 100 0 0 100).getD 2 0 = 42949672 := by
  have hi : is5 (a : Nat) (b : Nat) ((42949672 : Nat) : Int) (d : Nat) (e : Nat) = true := by rw [is5_iff]; omega
  unfold nextL
  rw [if_pos hi, dec_floor, dec_zero (by omega), dec_zero (by omega), dec_zero (by omega), dec_zero (by omega)]
  unfold nextD
  rw [sum5_small (by omega)]
  unfold next5
  have ht : a + b + 8842956 + d + e = 4252017624 + 8842956 := by omega
  rw [ht]
  have hf := fl_floor (t := 4252017624 + 8842956) (by omega) (by omega)
  rw [hf]
  have ga := flN_ge (x := a) (t := 4252017624 + 8842956) (by omega) (by omega) (by omega)
  have gb := flN_ge (x := b) (t := 4252017624 + 8842956) (by omega) (by omega) (by omega)
  have gd := flN_ge (x := d) (t := 4252017624 + 8842956) (by omega) (by omega) (by omega)
  have ge := flN_ge (x := e) (t := 4252017624 + 8842956) (by omega) (by omega) (by omega)
  rw [even_floor rfl]
  · rfl
  · rcases (by omega : 42949672 < a ∨ 42949672 < b ∨ 42949672 < d ∨ 42949672 < e) with h | h | h | h
    · exact ⟨0, by omega, by show (42949672 : Int) < ((flN a _ : Nat) : Int); omega⟩
    · exact ⟨1, by omega, by show (42949672 : Int) < ((flN b _ : Nat) : Int); omega⟩
    · exact ⟨3, by omega, by show (42949672 : Int) < ((flN d _ : Nat) : Int); omega⟩
    · exact ⟨4, by omega, by show (42949672 : Int) < ((flN e _ : Nat) : Int); omega⟩
theorem loses_step3 {a b c e : Nat} (hb : (42949672 ≤ a ∧ a ≤ 4294967296) ∧ (42949672 ≤ b ∧ b ≤ 4294967296) ∧ (42949672 ≤ c ∧ c ≤ 4294967296) ∧ (42949672 ≤ e ∧ e ≤ 4294967296)) (hs : a + b + c + e = 4252017624) : (nextL a b c 42949672 e 0 0 0 100 0 100).getD 3 0 = 42949672 := by
  have hi : is5 (a : Nat) (b : Nat) (c : Nat) ((42949672 : Nat) : Int) (e : Nat) = true := by rw [is5_iff]; omega
  unfold nextL
  rw [if_pos hi, dec_floor, dec_zero (by omega), dec_zero (by omega), dec_zero (by omega), dec_zero (by omega)]
  unfold nextD
  rw [sum5_small (by omega)]
  unfold next5
  have ht : a + b + c + 8842956 + e = 4252017624 + 8842956 := by omega
  rw [ht]
  have hf := fl_floor (t := 4252017624 + 8842956) (by omega) (by omega)
  rw [hf]
  have ga := flN_ge (x := a) (t := 4252017624 + 8842956) (by omega) (by omega) (by omega)
  have gb := flN_ge (x := b) (t := 4252017624 + 8842956) (by omega) (by omega) (by omega)
  have gc := flN_ge (x := c) (t := 4252017624 + 8842956) (by omega) (by omega) (by omega)
  have ge := flN_ge (x := e) (t := 4252017624 + 8842956) (by omega) (by omega) (by omega)
  rw [even_floor rfl]
  · rfl
  · rcases (by omega : 42949672 < a ∨ 42949672 < b ∨ 42949672 < c ∨ 42949672 < e) with h | h | h | h
    · exact ⟨0, by omega, by show (42949672 : Int) < ((flN a _ : Nat) : Int); omega⟩
    · exact ⟨1, by omega, by show (42949672 : Int) < ((flN b _ : Nat) : Int); omega⟩
    · exact ⟨2, by omega, by show (42949672 : Int) < ((flN c _ : Nat) : Int); omega⟩
    · exact ⟨4, by omega, by show (42949672 : Int) < ((flN e _ : Nat) : Int); omega⟩
theorem loses_step4 {a b c d : Nat} (hb : (42949672 ≤ a ∧ a ≤ 4294967296) ∧ (42949672 ≤ b ∧ b ≤ 4294967296) ∧ (42949672 ≤ c ∧ c ≤ 4294967296) ∧ (42949672 ≤ d ∧ d ≤ 4294967296)) (hs : a + b + c + d = 4252017624) : (nextL a b c d 42949672 0 0 0 0 100 100).getD 4 0 = 42949672 := by
  have hi : is5 (a : Nat) (b : Nat) (c : Nat) (d : Nat) ((42949672 : Nat) : Int) = true := by rw [is5_iff]; omega
  unfold nextL
  rw [if_pos hi, dec_floor, dec_zero (by omega), dec_zero (by omega), dec_zero (by omega), dec_zero (by omega)]
  unfold nextD
  rw [sum5_small (by omega)]
  unfold next5
  have ht : a + b + c + d + 8842956 = 4252017624 + 8842956 := by omega
  rw [ht]
  have hf := fl_floor (t := 4252017624 + 8842956) (by omega) (by omega)
  rw [hf]
  have ga := flN_ge (x := a) (t := 4252017624 + 8842956) (by omega) (by omega) (by omega)
  have gb := flN_ge (x := b) (t := 4252017624 + 8842956) (by omega) (by omega) (by omega)
  have gc := flN_ge (x := c) (t := 4252017624 + 8842956) (by omega) (by omega) (by omega)
  have gd := flN_ge (x := d) (t := 4252017624 + 8842956) (by omega) (by omega) (by omega)
  rw [even_floor rfl]
  · rfl
  · rcases (by omega : 42949672 < a ∨ 42949672 < b ∨ 42949672 < c ∨ 42949672 < d) with h | h | h | h
    · exact ⟨0, by omega, by show (42949672 : Int) < ((flN a _ : Nat) : Int); omega⟩
    · exact ⟨1, by omega, by show (42949672 : Int) < ((flN b _ : Nat) : Int); omega⟩
    · exact ⟨2, by omega, by show (42949672 : Int) < ((flN c _ : Nat) : Int); omega⟩
    · exact ⟨3, by omega, by show (42949672 : Int) < ((flN d _ : Nat) : Int); omega⟩
theorem loses_is (k : Nat) : ∀ n, is5L (losesL k n) = true
  | 0 => (by decide +kernel : is5L startL = true)
  | n + 1 => nextW_is _ _ _ _ _ _ _
set_option maxRecDepth 100000 in
theorem loses_3 : ∀ k : Fin 5, (losesL k.val 3).getD k.val 0 = 42949672 := by decide +kernel
theorem loses_floor {k : Nat} (hk : k < 5) : ∀ n, (losesL k (3 + n)).getD k 0 = 42949672
  | 0 => loses_3 ⟨k, hk⟩
  | n + 1 => by
    have ih := loses_floor hk n
    have hi : is5L (losesL k (3 + n)) = true := loses_is k (3 + n)
    rw [show 3 + (n + 1) = (3 + n) + 1 from rfl, losesL]
    generalize losesL k (3 + n) = ws at *
    obtain ⟨a, b, c, d, e, ⟨h0, h1, h2, h3, h4⟩, r⟩ := is5L_nat hi
    unfold nextW
    rw [h0, h1, h2, h3, h4]
    simp only [Int.toNat_natCast]
    have hk5 : k = 0 ∨ k = 1 ∨ k = 2 ∨ k = 3 ∨ k = 4 := by omega
    rcases hk5 with rfl | rfl | rfl | rfl | rfl
    · obtain rfl : a = 42949672 := by omega
      exact loses_step0 (by omega) (by omega)
    · obtain rfl : b = 42949672 := by omega
      exact loses_step1 (by omega) (by omega)
    · obtain rfl : c = 42949672 := by omega
      exact loses_step2 (by omega) (by omega)
    · obtain rfl : d = 42949672 := by omega
      exact loses_step3 (by omega) (by omega)
    · obtain rfl : e = 42949672 := by omega
      exact loses_step4 (by omega) (by omega)
end Go.Proofs.Ytfighgokcocpbaa
