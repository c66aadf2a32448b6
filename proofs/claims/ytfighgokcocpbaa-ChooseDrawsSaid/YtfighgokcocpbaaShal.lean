/- Printed by a program of mine (wip/tools/shal.py): the shallow texts of the loaded functions, each equal to the interpreter's reading by the kernel. -/
import Derived.Test.YtfighgokcocpbaaSound7
import Derived.Test.YtfighgokcocpbaaChecked
import Derived.KernelRfl
import Derived.Test.YtfighgokcocpbaaShalA
set_option linter.unusedVariables false
namespace Go.Proofs.Ytfighgokcocpbaa
open Go.Hb

-- math/bits.Len64
def math_bits_Len64_kp : KP := ⟨[(10, [0, 2]), (16, [0, 2]), (22, [0, 2])], []⟩
def math_bits_Len64_j3 (jn : Jn) (Q : Value → WP)  (x0 : Int) (n2 : Int) : WP := jn 22 (fun ρ => codeI Try.prog math_bits_Len64_kp jn (cAt [true, true, true, true] (bodyOf Try.f49)) (retK Try.prog Try.f49 Q) noX (retK Try.prog Try.f49 Q) ρ) ((.int .u64 x0) :: us 1 ((.int .i64 n2) :: us 22 []))
def math_bits_Len64_j2 (jn : Jn) (Q : Value → WP)  (x0 : Int) (n2 : Int) : WP := jn 16 (fun ρ => codeI Try.prog math_bits_Len64_kp jn (cAt [true, true, true] (bodyOf Try.f49)) (retK Try.prog Try.f49 Q) noX (retK Try.prog Try.f49 Q) ρ) ((.int .u64 x0) :: us 1 ((.int .i64 n2) :: us 22 []))
def math_bits_Len64_j1 (jn : Jn) (Q : Value → WP)  (x0 : Int) (n2 : Int) : WP := jn 10 (fun ρ => codeI Try.prog math_bits_Len64_kp jn (cAt [true, true] (bodyOf Try.f49)) (retK Try.prog Try.f49 Q) noX (retK Try.prog Try.f49 Q) ρ) ((.int .u64 x0) :: us 1 ((.int .i64 n2) :: us 22 []))
def math_bits_Len64 (x0 : Int) (Q : Value → WP) : WP := funJ idJ Try.prog math_bits_Len64_kp Try.f49 [.int .u64 x0] Q
theorem math_bits_Len64_j3_raw (jn : Jn) (Q : Value → WP)  (x0 : Int) (n2 : Int) : codeI Try.prog math_bits_Len64_kp jn (cAt [true, true, true, true] (bodyOf Try.f49)) (retK Try.prog Try.f49 Q) noX (retK Try.prog Try.f49 Q) ((.int .u64 x0) :: us 1 ((.int .i64 n2) :: us 22 [])) = (
  when ((0 : Int) ≤ (IntKind.wrap .u8 x0) ∧ (IntKind.wrap .u8 x0) < (str_____________________.size : Int)) <|
  Q (.int .i64 (IntKind.wrap .i64 (n2 + (IntKind.wrap .i64 (byteAt str_____________________ ((IntKind.wrap .u8 x0)).toNat)))))) := by kernel_rfl
theorem math_bits_Len64_j3_def (Q : Value → WP)  (x0 : Int) (n2 : Int) : math_bits_Len64_j3 idJ Q  x0 n2 = codeI Try.prog math_bits_Len64_kp idJ (cAt [true, true, true, true] (bodyOf Try.f49)) (retK Try.prog Try.f49 Q) noX (retK Try.prog Try.f49 Q) ((.int .u64 x0) :: us 1 ((.int .i64 n2) :: us 22 [])) := by kernel_rfl
theorem math_bits_Len64_j2_raw (jn : Jn) (Q : Value → WP)  (x0 : Int) (n2 : Int) : codeI Try.prog math_bits_Len64_kp jn (cAt [true, true, true] (bodyOf Try.f49)) (retK Try.prog Try.f49 Q) noX (retK Try.prog Try.f49 Q) ((.int .u64 x0) :: us 1 ((.int .i64 n2) :: us 22 [])) = (
  ite2 (decide (x0 ≥ (256 : Int))) (
  when ((0 : Int) ≤ (8 : Int)) <|
  math_bits_Len64_j3 jn Q  (shrV .u64 x0 (8 : Int)) (IntKind.wrap .i64 (n2 + (8 : Int)))) (
  math_bits_Len64_j3 jn Q  x0 n2)) := by kernel_rfl
theorem math_bits_Len64_j2_def (Q : Value → WP)  (x0 : Int) (n2 : Int) : math_bits_Len64_j2 idJ Q  x0 n2 = codeI Try.prog math_bits_Len64_kp idJ (cAt [true, true, true] (bodyOf Try.f49)) (retK Try.prog Try.f49 Q) noX (retK Try.prog Try.f49 Q) ((.int .u64 x0) :: us 1 ((.int .i64 n2) :: us 22 [])) := by kernel_rfl
theorem math_bits_Len64_j1_raw (jn : Jn) (Q : Value → WP)  (x0 : Int) (n2 : Int) : codeI Try.prog math_bits_Len64_kp jn (cAt [true, true] (bodyOf Try.f49)) (retK Try.prog Try.f49 Q) noX (retK Try.prog Try.f49 Q) ((.int .u64 x0) :: us 1 ((.int .i64 n2) :: us 22 [])) = (
  ite2 (decide (x0 ≥ (65536 : Int))) (
  when ((0 : Int) ≤ (16 : Int)) <|
  math_bits_Len64_j2 jn Q  (shrV .u64 x0 (16 : Int)) (IntKind.wrap .i64 (n2 + (16 : Int)))) (
  math_bits_Len64_j2 jn Q  x0 n2)) := by kernel_rfl
theorem math_bits_Len64_j1_def (Q : Value → WP)  (x0 : Int) (n2 : Int) : math_bits_Len64_j1 idJ Q  x0 n2 = codeI Try.prog math_bits_Len64_kp idJ (cAt [true, true] (bodyOf Try.f49)) (retK Try.prog Try.f49 Q) noX (retK Try.prog Try.f49 Q) ((.int .u64 x0) :: us 1 ((.int .i64 n2) :: us 22 [])) := by kernel_rfl
theorem math_bits_Len64_raw (jn : Jn) (x0 : Int) (Q : Value → WP) : funJ jn Try.prog math_bits_Len64_kp Try.f49 [.int .u64 x0] Q = (
  ite2 (decide (x0 ≥ (4294967296 : Int))) (
  when ((0 : Int) ≤ (32 : Int)) <|
  math_bits_Len64_j1 jn Q  (shrV .u64 x0 (32 : Int)) (32 : Int)) (
  math_bits_Len64_j1 jn Q  x0 (0 : Int))) := by kernel_rfl
theorem math_bits_Len64_def (x0 : Int) (Q : Value → WP) : math_bits_Len64 x0 Q = funJ idJ Try.prog math_bits_Len64_kp Try.f49 [.int .u64 x0] Q := rfl
theorem math_bits_Len64_calls {x0 : Int} {Q : Value → WP} {w : World} (h : math_bits_Len64 x0 Q w) : Calls Try.prog id_math_bits_Len64 #[.int .u64 x0] w fun e w' => ∃ v, e = .returned v ∧ Q v w' :=
  funJ_calls mixed Try.func49 rfl h

end Go.Proofs.Ytfighgokcocpbaa
