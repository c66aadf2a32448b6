/- hoard/fix and math/bits: contracts. -/
import Derived.Test.YtfighgokcocpbaaShal
import Derived.Test.YtfighgokcocpbaaSL2
import Derived.Test.YtfighgokcocpbaaLaw
import Derived.IntWalk
import Derived.Lib.Mul64
import Derived.Laws.Bits64b
set_option linter.unusedVariables false
set_option linter.unusedSimpArgs false
set_option linter.unnecessarySimpa false
set_option linter.unusedSectionVars false
namespace Go.Proofs.Ytfighgokcocpbaa
open Go.Hb Go.IntWalk

theorem c1 {P : Program} {f : FuncId} {args : Array Value} {w : World} {v0 : Value} {S : World → Prop} (h : Calls P f args w fun e w' => ∃ v, e = .returned v ∧ (v = v0 ∧ S w')) :
    Calls P f args w fun e w' => e = .returned v0 ∧ S w' := h.mono fun _ _ ⟨_, he, hv, hs⟩ => ⟨by rw [he, hv], hs⟩
theorem wrapN {a : Nat} (ha : a < 18446744073709551616) : IntKind.u64.wrap (a : Int) = (a : Int) := by rw [IntKind.wrap_u64]; omega
theorem wrapM (a : Nat) : IntKind.u64.wrap (a : Int) = ((a % 18446744073709551616 : Nat) : Int) := by rw [IntKind.wrap_u64]; omega
theorem shr32 (a : Nat) : shrV .u64 (a : Int) 32 = ((a / 4294967296 : Nat) : Int) := by
  show (a : Int).fdiv (2 ^ 32) = _
  rw [Int.fdiv_eq_ediv_of_nonneg _ (by decide)]; rfl
theorem mask32 {a : Nat} (ha : a < 18446744073709551616) : bits .and .u64 (a : Int) 4294967295 = ((a % 4294967296 : Nat) : Int) := by
  have h := bits_and_u64_nat a 4294967295 ha (by omega)
  have e : a &&& 4294967295 = a % 4294967296 := Nat.and_two_pow_sub_one_eq_mod a 32
  rw [e] at h
  exact h
theorem mulN (a b : Nat) : (a : Int) * (b : Int) = ((a * b : Nat) : Int) := (Int.natCast_mul a b).symm
theorem addN (a b : Nat) : (a : Int) + (b : Int) = ((a + b : Nat) : Int) := (Int.natCast_add a b).symm

def clampZ (n lo hi : Int) : Int := if hi < (if lo > n then lo else n) then hi else (if lo > n then lo else n)
def addZ (a b : Int) : Int := if (1099511627776 : Int) < clampZ a 0 1099511627776 + clampZ b 0 1099511627776 then 1099511627776 else clampZ a 0 1099511627776 + clampZ b 0 1099511627776
def incZ (n most : Int) : Int := if n ≥ most then n else n + 1

section
variable {W w : World} {M : List HP}
theorem clamp_at (h : Sat W w M) (n lo hi : Int) : Calls Try.prog id_fix_Clamp #[.int .i64 n, .int .i64 lo, .int .i64 hi] w fun e w' => e = .returned (.int .i64 (clampZ n lo hi)) ∧ Sat W w' M := by
  refine c1 (fix_Clamp_calls ?_)
  rw [fix_Clamp_def, fix_Clamp_raw]
  exact ⟨rfl, h⟩
theorem rclamp_at (h : Sat W w M) (n lo hi : Int) : Calls Try.prog id_hoardref2_Clamp #[.int .i64 n, .int .i64 lo, .int .i64 hi] w fun e w' => e = .returned (.int .i64 (clampZ n lo hi)) ∧ Sat W w' M := by
  refine c1 (hoardref2_Clamp_calls ?_)
  rw [hoardref2_Clamp_def, hoardref2_Clamp_raw]
  exact ⟨rfl, h⟩
theorem clampZ_bound (n : Int) {lo hi : Int} (h : lo ≤ hi) : lo ≤ clampZ n lo hi ∧ clampZ n lo hi ≤ hi := by
  unfold clampZ
  split <;> split at * <;> omega
theorem mul64_at (h : Sat W w M) {x y : Nat} (hx : x < 18446744073709551616) (hy : y < 18446744073709551616) : Calls Try.prog id_math_bits_Mul64 #[.int .u64 x, .int .u64 y] w fun e w' =>
    e = .returned (.tuple #[.int .u64 ((x * y / 18446744073709551616 : Nat) : Int), .int .u64 ((x * y % 18446744073709551616 : Nat) : Int)]) ∧ Sat W w' M := by
  refine c1 (math_bits_Mul64_calls ?_)
  rw [math_bits_Mul64_def, math_bits_Mul64_raw]
  refine when_of (by omega) (when_of (by omega) (when_of (by omega) (when_of (by omega) (when_of (by omega) ?_))))
  refine ⟨?_, h⟩
  obtain ⟨bd, bt, bw, hhi⟩ := Lib.mul64_hi x y hx hy
  have ba := Lib.half_mul_le (a := x / 4294967296) (b := y / 4294967296) (by omega) (by omega)
  have bb := Lib.half_mul_le (a := x / 4294967296) (b := y % 4294967296) (by omega) (by omega)
  have bc := Lib.half_mul_le (a := x % 4294967296) (b := y / 4294967296) (by omega) (by omega)
  have ba' : x / 4294967296 * (y / 4294967296) < 18446744073709551616 := by omega
  have bb' : x / 4294967296 * (y % 4294967296) < 18446744073709551616 := by omega
  have bc' : x % 4294967296 * (y / 4294967296) < 18446744073709551616 := by omega
  have bh1 : x / 4294967296 * (y / 4294967296) + (x / 4294967296 * (y % 4294967296) + x % 4294967296 * (y % 4294967296) / 4294967296) / 4294967296 < 18446744073709551616 := by omega
  have bh : x / 4294967296 * (y / 4294967296) + (x / 4294967296 * (y % 4294967296) + x % 4294967296 * (y % 4294967296) / 4294967296) / 4294967296 + ((x / 4294967296 * (y % 4294967296) + x % 4294967296 * (y % 4294967296) / 4294967296) % 4294967296 + x % 4294967296 * (y / 4294967296)) / 4294967296 < 18446744073709551616 := by omega
  rw [mask32 hx, mask32 hy, shr32, shr32]
  simp only [mulN, addN, wrapN bd, wrapN bb', shr32, wrapN bt, mask32 bt, wrapN bc', wrapN bw, wrapN ba', wrapN bh1, wrapN bh, wrapM (x * y)]
  rw [hhi]
end
end Go.Proofs.Ytfighgokcocpbaa
