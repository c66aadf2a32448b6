/- The laws of fix, walked (but for FixProducts). -/
import Derived.Test.YtfighgokcocpbaaScale
set_option linter.unusedVariables false
set_option linter.unusedSimpArgs false
set_option linter.unnecessarySimpa false
set_option linter.unusedSectionVars false
namespace Go.Proofs.Ytfighgokcocpbaa
open Go.Hb Go.IntWalk

theorem wf_i64 {a : Int} (h : (Lit.int .i64 a).wf = true) : -9223372036854775808 ≤ a ∧ a ≤ 9223372036854775807 := by
  simpa [Lit.wf, IntKind.min, IntKind.max, IntKind.signed, IntKind.bits] using h
theorem wf_u64 {a : Int} (h : (Lit.int .u64 a).wf = true) : ∃ n : Nat, a = (n : Int) ∧ n < 18446744073709551616 := by
  have h : 0 ≤ a ∧ a ≤ 18446744073709551615 := by simpa [Lit.wf, IntKind.min, IntKind.max, IntKind.signed, IntKind.bits] using h
  exact ⟨a.toNat, by omega, by omega⟩

theorem scaleN_comm (a b c : Nat) : scaleN a b c = scaleN b a c := by unfold scaleN; rw [Nat.mul_comm a b]
theorem scaleN_same {a n : Nat} (ha : a < 18446744073709551616) (hn : 0 < n) : scaleN a n n = a := by
  unfold scaleN
  have : a * n < n * 18446744073709551616 := by rw [Nat.mul_comm n]; exact Nat.mul_lt_mul_of_pos_right ha hn
  rw [if_neg (by omega), Nat.mul_div_cancel _ hn]
theorem scaleN_mono {a b c d : Nat} (h : a ≤ b) (hb : b < 18446744073709551616) (hc : c < 18446744073709551616) (hd : d < 18446744073709551616) : scaleN a c d ≤ scaleN b c d := by
  unfold scaleN
  have hm : a * c ≤ b * c := Nat.mul_le_mul_right _ h
  by_cases h1 : d * 18446744073709551616 ≤ a * c ∨ d = 0
  · rw [if_pos h1, if_pos (by omega)]; omega
  · rw [if_neg h1]
    split
    · rename_i h2
      have : a * c / d < 18446744073709551616 := by
        rw [Nat.div_lt_iff_lt_mul (by omega)]
        rw [Nat.mul_comm 18446744073709551616]; omega
      omega
    · exact Nat.div_le_div_right hm

section
variable {W : World}
end
end Go.Proofs.Ytfighgokcocpbaa
