/- Printed by a program of mine (wip/tools/shal.py): the shallow texts of the loaded functions, each equal to the interpreter's reading by the kernel. -/
import Derived.Test.YtcpmmojpgngaaaaSound7
import Derived.Test.YtcpmmojpgngaaaaChecked
import Derived.KernelRfl
import Derived.Test.YtcpmmojpgngaaaaShalA
set_option linter.unusedVariables false
set_option maxRecDepth 100000
namespace Go.Proofs.Ytcpmmojpgngaaaa
open Go.Hb

-- math/bits.Len
def math_bits_Len_kp : KP := ⟨[], []⟩
def math_bits_Len (x0 : Int) (Q : Value → WP) : WP := funJ idJ Try.prog math_bits_Len_kp Try.f41 [.int .u64 x0] Q
theorem math_bits_Len_raw (jn : Jn) (x0 : Int) (Q : Value → WP) : funJ jn Try.prog math_bits_Len_kp Try.f41 [.int .u64 x0] Q = (
  call1 (.int .i64) Try.prog id_math_bits_Len64 [.int .u64 x0] fun (x_1 : Int) =>
  Q (.int .i64 x_1)) := by kernel_rfl
theorem math_bits_Len_def (x0 : Int) (Q : Value → WP) : math_bits_Len x0 Q = funJ idJ Try.prog math_bits_Len_kp Try.f41 [.int .u64 x0] Q := rfl
theorem math_bits_Len_calls {x0 : Int} {Q : Value → WP} {w : World} (h : math_bits_Len x0 Q w) : Calls Try.prog id_math_bits_Len #[.int .u64 x0] w fun e w' => ∃ v, e = .returned v ∧ Q v w' :=
  funJ_calls mixed Try.func41 rfl h

-- hoard/mix.Mix
def mix_Mix_kp : KP := ⟨[], []⟩
def mix_Mix (x0 : Int) (Q : Value → WP) : WP := funJ idJ Try.prog mix_Mix_kp Try.f42 [.int .u64 x0] Q
theorem mix_Mix_raw (jn : Jn) (x0 : Int) (Q : Value → WP) : funJ jn Try.prog mix_Mix_kp Try.f42 [.int .u64 x0] Q = (
  when ((0 : Int) ≤ (30 : Int)) <|
  when ((0 : Int) ≤ (27 : Int)) <|
  when ((0 : Int) ≤ (31 : Int)) <|
  Q (.int .u64 (bits .xor .u64 (IntKind.wrap .u64 ((bits .xor .u64 (IntKind.wrap .u64 ((bits .xor .u64 x0 (shrV .u64 x0 (30 : Int))) * (13787848793156543929 : Int))) (shrV .u64 (IntKind.wrap .u64 ((bits .xor .u64 x0 (shrV .u64 x0 (30 : Int))) * (13787848793156543929 : Int))) (27 : Int))) * (10723151780598845931 : Int))) (shrV .u64 (IntKind.wrap .u64 ((bits .xor .u64 (IntKind.wrap .u64 ((bits .xor .u64 x0 (shrV .u64 x0 (30 : Int))) * (13787848793156543929 : Int))) (shrV .u64 (IntKind.wrap .u64 ((bits .xor .u64 x0 (shrV .u64 x0 (30 : Int))) * (13787848793156543929 : Int))) (27 : Int))) * (10723151780598845931 : Int))) (31 : Int))))) := by kernel_rfl
theorem mix_Mix_def (x0 : Int) (Q : Value → WP) : mix_Mix x0 Q = funJ idJ Try.prog mix_Mix_kp Try.f42 [.int .u64 x0] Q := rfl
theorem mix_Mix_calls {x0 : Int} {Q : Value → WP} {w : World} (h : mix_Mix x0 Q w) : Calls Try.prog id_mix_Mix #[.int .u64 x0] w fun e w' => ∃ v, e = .returned v ∧ Q v w' :=
  funJ_calls mixed Try.func42 rfl h

-- slices.insertionSortOrdered[string]
def slices_insertionSortOrdered_string_kp : KP := ⟨[(5, [0, 1, 2, 6]), (6, [0, 1, 2, 6]), (11, [0, 1, 2, 6, 7]), (14, [0, 1, 2, 6, 7])], [(4, [0, 1, 2, 3, 4, 5, 6, 7, 8, 9, 10, 11, 14]), (6, [0, 1, 2, 3, 4, 5, 6, 7, 8, 9, 10, 11, 12, 14, 16])]⟩
def slices_insertionSortOrdered_string_j3 (jn : Jn) (Q : Value → WP) (m1 : Nat) (m2 : Nat) (data0 : Sl) (a1 : Int) (b2 : Int) (i6 : Int) (j7 : Int) : WP := jn 14 (fun ρ => codeI Try.prog slices_insertionSortOrdered_string_kp jn (cAt [true, false, false, true, false, false, true, false, false, true] (bodyOf Try.f43)) (lopK Try.prog slices_insertionSortOrdered_string_kp jn (cAt [true, false, false, true, false, false, true, false, false] (bodyOf Try.f43)) (blkX 2 (seqK Try.prog slices_insertionSortOrdered_string_kp jn (cAt [true, false, false, true, true] (bodyOf Try.f43)) (lopK Try.prog slices_insertionSortOrdered_string_kp jn (cAt [true, false, false] (bodyOf Try.f43)) (blkX 0 (retK Try.prog Try.f43 Q) noX) (retK Try.prog Try.f43 Q) m1) (blkX 0 (retK Try.prog Try.f43 Q) noX) (retK Try.prog Try.f43 Q)) (blkX 1 (seqK Try.prog slices_insertionSortOrdered_string_kp jn (cAt [true, false, false, true, true] (bodyOf Try.f43)) (lopK Try.prog slices_insertionSortOrdered_string_kp jn (cAt [true, false, false] (bodyOf Try.f43)) (blkX 0 (retK Try.prog Try.f43 Q) noX) (retK Try.prog Try.f43 Q) m1) (blkX 0 (retK Try.prog Try.f43 Q) noX) (retK Try.prog Try.f43 Q)) (blkX 0 (retK Try.prog Try.f43 Q) noX))) (retK Try.prog Try.f43 Q) m2) (blkX 2 (seqK Try.prog slices_insertionSortOrdered_string_kp jn (cAt [true, false, false, true, true] (bodyOf Try.f43)) (lopK Try.prog slices_insertionSortOrdered_string_kp jn (cAt [true, false, false] (bodyOf Try.f43)) (blkX 0 (retK Try.prog Try.f43 Q) noX) (retK Try.prog Try.f43 Q) m1) (blkX 0 (retK Try.prog Try.f43 Q) noX) (retK Try.prog Try.f43 Q)) (blkX 1 (seqK Try.prog slices_insertionSortOrdered_string_kp jn (cAt [true, false, false, true, true] (bodyOf Try.f43)) (lopK Try.prog slices_insertionSortOrdered_string_kp jn (cAt [true, false, false] (bodyOf Try.f43)) (blkX 0 (retK Try.prog Try.f43 Q) noX) (retK Try.prog Try.f43 Q) m1) (blkX 0 (retK Try.prog Try.f43 Q) noX) (retK Try.prog Try.f43 Q)) (blkX 0 (retK Try.prog Try.f43 Q) noX))) (retK Try.prog Try.f43 Q) ρ) ((.slice data0.a data0.n data0.c) :: (.int .i64 a1) :: (.int .i64 b2) :: us 3 ((.int .i64 i6) :: (.int .i64 j7) :: us 41 []))
def slices_insertionSortOrdered_string_j4 (jn : Jn) (Q : Value → WP) (m1 : Nat) (data0 : Sl) (a1 : Int) (b2 : Int) (i6 : Int) : WP := jn 6 (fun ρ => codeI Try.prog slices_insertionSortOrdered_string_kp jn (cAt [true, false, false, true, true] (bodyOf Try.f43)) (lopK Try.prog slices_insertionSortOrdered_string_kp jn (cAt [true, false, false] (bodyOf Try.f43)) (blkX 0 (retK Try.prog Try.f43 Q) noX) (retK Try.prog Try.f43 Q) m1) (blkX 0 (retK Try.prog Try.f43 Q) noX) (retK Try.prog Try.f43 Q) ρ) ((.slice data0.a data0.n data0.c) :: (.int .i64 a1) :: (.int .i64 b2) :: us 3 ((.int .i64 i6) :: us 42 []))
def slices_insertionSortOrdered_string_l2 (jn : Jn) (Q : Value → WP) (m1 : Nat) (m2 : Nat) (data0 : Sl) (a1 : Int) (b2 : Int) (i6 : Int) (j7 : Int) : WP := lop Try.prog slices_insertionSortOrdered_string_kp jn (cAt [true, false, false, true, false, false, true, false, false] (bodyOf Try.f43)) (blkX 2 (seqK Try.prog slices_insertionSortOrdered_string_kp jn (cAt [true, false, false, true, true] (bodyOf Try.f43)) (lopK Try.prog slices_insertionSortOrdered_string_kp jn (cAt [true, false, false] (bodyOf Try.f43)) (blkX 0 (retK Try.prog Try.f43 Q) noX) (retK Try.prog Try.f43 Q) m1) (blkX 0 (retK Try.prog Try.f43 Q) noX) (retK Try.prog Try.f43 Q)) (blkX 1 (seqK Try.prog slices_insertionSortOrdered_string_kp jn (cAt [true, false, false, true, true] (bodyOf Try.f43)) (lopK Try.prog slices_insertionSortOrdered_string_kp jn (cAt [true, false, false] (bodyOf Try.f43)) (blkX 0 (retK Try.prog Try.f43 Q) noX) (retK Try.prog Try.f43 Q) m1) (blkX 0 (retK Try.prog Try.f43 Q) noX) (retK Try.prog Try.f43 Q)) (blkX 0 (retK Try.prog Try.f43 Q) noX))) (retK Try.prog Try.f43 Q) m2 ((.slice data0.a data0.n data0.c) :: (.int .i64 a1) :: (.int .i64 b2) :: us 3 ((.int .i64 i6) :: (.int .i64 j7) :: us 41 []))
def slices_insertionSortOrdered_string_l1 (jn : Jn) (Q : Value → WP)  (m1 : Nat) (data0 : Sl) (a1 : Int) (b2 : Int) (i6 : Int) : WP := lop Try.prog slices_insertionSortOrdered_string_kp jn (cAt [true, false, false] (bodyOf Try.f43)) (blkX 0 (retK Try.prog Try.f43 Q) noX) (retK Try.prog Try.f43 Q) m1 ((.slice data0.a data0.n data0.c) :: (.int .i64 a1) :: (.int .i64 b2) :: us 3 ((.int .i64 i6) :: us 42 []))
def slices_insertionSortOrdered_string (data0 : Sl) (a1 : Int) (b2 : Int) (Q : Value → WP) : WP := funJ idJ Try.prog slices_insertionSortOrdered_string_kp Try.f43 [.slice data0.a data0.n data0.c, .int .i64 a1, .int .i64 b2] Q
theorem slices_insertionSortOrdered_string_j3_raw (jn : Jn) (Q : Value → WP) (m1 : Nat) (m2 : Nat) (data0 : Sl) (a1 : Int) (b2 : Int) (i6 : Int) (j7 : Int) : codeI Try.prog slices_insertionSortOrdered_string_kp jn (cAt [true, false, false, true, false, false, true, false, false, true] (bodyOf Try.f43)) (lopK Try.prog slices_insertionSortOrdered_string_kp jn (cAt [true, false, false, true, false, false, true, false, false] (bodyOf Try.f43)) (blkX 2 (seqK Try.prog slices_insertionSortOrdered_string_kp jn (cAt [true, false, false, true, true] (bodyOf Try.f43)) (lopK Try.prog slices_insertionSortOrdered_string_kp jn (cAt [true, false, false] (bodyOf Try.f43)) (blkX 0 (retK Try.prog Try.f43 Q) noX) (retK Try.prog Try.f43 Q) m1) (blkX 0 (retK Try.prog Try.f43 Q) noX) (retK Try.prog Try.f43 Q)) (blkX 1 (seqK Try.prog slices_insertionSortOrdered_string_kp jn (cAt [true, false, false, true, true] (bodyOf Try.f43)) (lopK Try.prog slices_insertionSortOrdered_string_kp jn (cAt [true, false, false] (bodyOf Try.f43)) (blkX 0 (retK Try.prog Try.f43 Q) noX) (retK Try.prog Try.f43 Q) m1) (blkX 0 (retK Try.prog Try.f43 Q) noX) (retK Try.prog Try.f43 Q)) (blkX 0 (retK Try.prog Try.f43 Q) noX))) (retK Try.prog Try.f43 Q) m2) (blkX 2 (seqK Try.prog slices_insertionSortOrdered_string_kp jn (cAt [true, false, false, true, true] (bodyOf Try.f43)) (lopK Try.prog slices_insertionSortOrdered_string_kp jn (cAt [true, false, false] (bodyOf Try.f43)) (blkX 0 (retK Try.prog Try.f43 Q) noX) (retK Try.prog Try.f43 Q) m1) (blkX 0 (retK Try.prog Try.f43 Q) noX) (retK Try.prog Try.f43 Q)) (blkX 1 (seqK Try.prog slices_insertionSortOrdered_string_kp jn (cAt [true, false, false, true, true] (bodyOf Try.f43)) (lopK Try.prog slices_insertionSortOrdered_string_kp jn (cAt [true, false, false] (bodyOf Try.f43)) (blkX 0 (retK Try.prog Try.f43 Q) noX) (retK Try.prog Try.f43 Q) m1) (blkX 0 (retK Try.prog Try.f43 Q) noX) (retK Try.prog Try.f43 Q)) (blkX 0 (retK Try.prog Try.f43 Q) noX))) (retK Try.prog Try.f43 Q) ((.slice data0.a data0.n data0.c) :: (.int .i64 a1) :: (.int .i64 b2) :: us 3 ((.int .i64 i6) :: (.int .i64 j7) :: us 41 [])) = (
  drawW fun S =>
  idx data0.a data0.n (IntKind.wrap .i64 (j7 - (1 : Int))) fun b_8 o_9 =>
  ldS S .str b_8 (o_9 + ((IntKind.wrap .i64 (j7 - (1 : Int)))).toNat * 1) fun (x_10 : ByteArray) =>
  idx data0.a data0.n j7 fun b_11 o_12 =>
  ld .str b_11 (o_12 + (j7).toNat * 1) fun (x_13 : ByteArray) =>
  keepS true S <|
  idx data0.a data0.n j7 fun b_14 o_15 =>
  st b_14 (o_15 + (j7).toNat * 1) (.string x_10) <|
  idx data0.a data0.n (IntKind.wrap .i64 (j7 - (1 : Int))) fun b_16 o_17 =>
  st b_16 (o_17 + ((IntKind.wrap .i64 (j7 - (1 : Int)))).toNat * 1) (.string x_13) <|
  slices_insertionSortOrdered_string_l2 jn Q m1 m2 data0 a1 b2 i6 (IntKind.wrap .i64 (j7 - (1 : Int)))) := by kernel_rfl
theorem slices_insertionSortOrdered_string_j3_def (Q : Value → WP) (m1 : Nat) (m2 : Nat) (data0 : Sl) (a1 : Int) (b2 : Int) (i6 : Int) (j7 : Int) : slices_insertionSortOrdered_string_j3 idJ Q m1 m2 data0 a1 b2 i6 j7 = codeI Try.prog slices_insertionSortOrdered_string_kp idJ (cAt [true, false, false, true, false, false, true, false, false, true] (bodyOf Try.f43)) (lopK Try.prog slices_insertionSortOrdered_string_kp idJ (cAt [true, false, false, true, false, false, true, false, false] (bodyOf Try.f43)) (blkX 2 (seqK Try.prog slices_insertionSortOrdered_string_kp idJ (cAt [true, false, false, true, true] (bodyOf Try.f43)) (lopK Try.prog slices_insertionSortOrdered_string_kp idJ (cAt [true, false, false] (bodyOf Try.f43)) (blkX 0 (retK Try.prog Try.f43 Q) noX) (retK Try.prog Try.f43 Q) m1) (blkX 0 (retK Try.prog Try.f43 Q) noX) (retK Try.prog Try.f43 Q)) (blkX 1 (seqK Try.prog slices_insertionSortOrdered_string_kp idJ (cAt [true, false, false, true, true] (bodyOf Try.f43)) (lopK Try.prog slices_insertionSortOrdered_string_kp idJ (cAt [true, false, false] (bodyOf Try.f43)) (blkX 0 (retK Try.prog Try.f43 Q) noX) (retK Try.prog Try.f43 Q) m1) (blkX 0 (retK Try.prog Try.f43 Q) noX) (retK Try.prog Try.f43 Q)) (blkX 0 (retK Try.prog Try.f43 Q) noX))) (retK Try.prog Try.f43 Q) m2) (blkX 2 (seqK Try.prog slices_insertionSortOrdered_string_kp idJ (cAt [true, false, false, true, true] (bodyOf Try.f43)) (lopK Try.prog slices_insertionSortOrdered_string_kp idJ (cAt [true, false, false] (bodyOf Try.f43)) (blkX 0 (retK Try.prog Try.f43 Q) noX) (retK Try.prog Try.f43 Q) m1) (blkX 0 (retK Try.prog Try.f43 Q) noX) (retK Try.prog Try.f43 Q)) (blkX 1 (seqK Try.prog slices_insertionSortOrdered_string_kp idJ (cAt [true, false, false, true, true] (bodyOf Try.f43)) (lopK Try.prog slices_insertionSortOrdered_string_kp idJ (cAt [true, false, false] (bodyOf Try.f43)) (blkX 0 (retK Try.prog Try.f43 Q) noX) (retK Try.prog Try.f43 Q) m1) (blkX 0 (retK Try.prog Try.f43 Q) noX) (retK Try.prog Try.f43 Q)) (blkX 0 (retK Try.prog Try.f43 Q) noX))) (retK Try.prog Try.f43 Q) ((.slice data0.a data0.n data0.c) :: (.int .i64 a1) :: (.int .i64 b2) :: us 3 ((.int .i64 i6) :: (.int .i64 j7) :: us 41 [])) := by kernel_rfl
theorem slices_insertionSortOrdered_string_j4_raw (jn : Jn) (Q : Value → WP) (m1 : Nat) (data0 : Sl) (a1 : Int) (b2 : Int) (i6 : Int) : codeI Try.prog slices_insertionSortOrdered_string_kp jn (cAt [true, false, false, true, true] (bodyOf Try.f43)) (lopK Try.prog slices_insertionSortOrdered_string_kp jn (cAt [true, false, false] (bodyOf Try.f43)) (blkX 0 (retK Try.prog Try.f43 Q) noX) (retK Try.prog Try.f43 Q) m1) (blkX 0 (retK Try.prog Try.f43 Q) noX) (retK Try.prog Try.f43 Q) ((.slice data0.a data0.n data0.c) :: (.int .i64 a1) :: (.int .i64 b2) :: us 3 ((.int .i64 i6) :: us 42 [])) = (
  slices_insertionSortOrdered_string_l1 jn Q  m1 data0 a1 b2 (IntKind.wrap .i64 (i6 + (1 : Int)))) := by kernel_rfl
theorem slices_insertionSortOrdered_string_j4_def (Q : Value → WP) (m1 : Nat) (data0 : Sl) (a1 : Int) (b2 : Int) (i6 : Int) : slices_insertionSortOrdered_string_j4 idJ Q m1 data0 a1 b2 i6 = codeI Try.prog slices_insertionSortOrdered_string_kp idJ (cAt [true, false, false, true, true] (bodyOf Try.f43)) (lopK Try.prog slices_insertionSortOrdered_string_kp idJ (cAt [true, false, false] (bodyOf Try.f43)) (blkX 0 (retK Try.prog Try.f43 Q) noX) (retK Try.prog Try.f43 Q) m1) (blkX 0 (retK Try.prog Try.f43 Q) noX) (retK Try.prog Try.f43 Q) ((.slice data0.a data0.n data0.c) :: (.int .i64 a1) :: (.int .i64 b2) :: us 3 ((.int .i64 i6) :: us 42 [])) := by kernel_rfl
theorem slices_insertionSortOrdered_string_l2_raw (jn : Jn) (Q : Value → WP) (m1 : Nat) (m2 : Nat) (data0 : Sl) (a1 : Int) (b2 : Int) (i6 : Int) (j7 : Int) : slices_insertionSortOrdered_string_l2 jn Q m1 (m2 + 1) data0 a1 b2 i6 j7 = (
  drawW fun S =>
  ite2 (decide (j7 > a1)) (
  idx data0.a data0.n j7 fun b_1 o_2 =>
  ldS S .str b_1 (o_2 + (j7).toNat * 1) fun (x_3 : ByteArray) =>
  idx data0.a data0.n (IntKind.wrap .i64 (j7 - (1 : Int))) fun b_4 o_5 =>
  ld .str b_4 (o_5 + ((IntKind.wrap .i64 (j7 - (1 : Int)))).toNat * 1) fun (x_6 : ByteArray) =>
  keepS true S <|
  call1 .bool Try.prog id_cmp_Less_string [.string x_3, .string x_6] fun (x_7 : Bool) =>
  ite2 x_7 (
  slices_insertionSortOrdered_string_j3 jn Q m1 m2 data0 a1 b2 i6 j7) (
  slices_insertionSortOrdered_string_j4 jn Q m1 data0 a1 b2 i6)) (
  keepS true S <|
  slices_insertionSortOrdered_string_j4 jn Q m1 data0 a1 b2 i6)) := by kernel_rfl
theorem slices_insertionSortOrdered_string_l2_zero (jn : Jn) (Q : Value → WP) (m1 : Nat) (data0 : Sl) (a1 : Int) (b2 : Int) (i6 : Int) (j7 : Int) : slices_insertionSortOrdered_string_l2 jn Q m1 0 data0 a1 b2 i6 j7 = bot := by kernel_rfl
theorem slices_insertionSortOrdered_string_l1_raw (jn : Jn) (Q : Value → WP)  (m1 : Nat) (data0 : Sl) (a1 : Int) (b2 : Int) (i6 : Int) : slices_insertionSortOrdered_string_l1 jn Q  (m1 + 1) data0 a1 b2 i6 = (
  ite2 (decide (i6 < b2)) (
  exM fun m => slices_insertionSortOrdered_string_l2 jn Q m1 m data0 a1 b2 i6 i6) (
  Q (.tuple #[]))) := by kernel_rfl
theorem slices_insertionSortOrdered_string_l1_zero (jn : Jn) (Q : Value → WP)  (data0 : Sl) (a1 : Int) (b2 : Int) (i6 : Int) : slices_insertionSortOrdered_string_l1 jn Q  0 data0 a1 b2 i6 = bot := by kernel_rfl
theorem slices_insertionSortOrdered_string_raw (jn : Jn) (data0 : Sl) (a1 : Int) (b2 : Int) (Q : Value → WP) : funJ jn Try.prog slices_insertionSortOrdered_string_kp Try.f43 [.slice data0.a data0.n data0.c, .int .i64 a1, .int .i64 b2] Q = (
  exM fun m => slices_insertionSortOrdered_string_l1 jn Q  m data0 a1 b2 (IntKind.wrap .i64 (a1 + (1 : Int)))) := by kernel_rfl
theorem slices_insertionSortOrdered_string_def (data0 : Sl) (a1 : Int) (b2 : Int) (Q : Value → WP) : slices_insertionSortOrdered_string data0 a1 b2 Q = funJ idJ Try.prog slices_insertionSortOrdered_string_kp Try.f43 [.slice data0.a data0.n data0.c, .int .i64 a1, .int .i64 b2] Q := rfl
theorem slices_insertionSortOrdered_string_calls {data0 : Sl} {a1 : Int} {b2 : Int} {Q : Value → WP} {w : World} (h : slices_insertionSortOrdered_string data0 a1 b2 Q w) : Calls Try.prog id_slices_insertionSortOrdered_string #[.slice data0.a data0.n data0.c, .int .i64 a1, .int .i64 b2] w fun e w' => ∃ v, e = .returned v ∧ Q v w' :=
  funJ_calls mixed Try.func43 rfl h

-- slices.heapSortOrdered[string]
def slices_heapSortOrdered_string_kp : KP := ⟨[(11, [0, 6, 7, 8, 9]), (16, [0, 6, 7, 8]), (19, [0, 6, 7, 10])], [(10, [0, 1, 2, 3, 4, 5, 6, 7, 8, 9, 10, 11, 12, 13, 14, 16, 18])]⟩
def slices_heapSortOrdered_string_l3 (jn : Jn) (Q : Value → WP)  (m3 : Nat) (data0 : Sl) (first6 : Int) (lo7 : Int) (i10 : Int) : WP := lop Try.prog slices_heapSortOrdered_string_kp jn (cAt [true, true, true, true, true, false, false] (bodyOf Try.f44)) (blkX 2 (retK Try.prog Try.f44 Q) noX) (retK Try.prog Try.f44 Q) m3 ((.slice data0.a data0.n data0.c) :: us 5 ((.int .i64 first6) :: (.int .i64 lo7) :: us 2 ((.int .i64 i10) :: us 45 [])))
def slices_heapSortOrdered_string_j2 (jn : Jn) (Q : Value → WP)  (data0 : Sl) (first6 : Int) (lo7 : Int) (hi8 : Int) : WP := jn 16 (fun ρ => codeI Try.prog slices_heapSortOrdered_string_kp jn (cAt [true, true, true, true] (bodyOf Try.f44)) (retK Try.prog Try.f44 Q) noX (retK Try.prog Try.f44 Q) ρ) ((.slice data0.a data0.n data0.c) :: us 5 ((.int .i64 first6) :: (.int .i64 lo7) :: (.int .i64 hi8) :: us 47 []))
def slices_heapSortOrdered_string_l1 (jn : Jn) (Q : Value → WP)  (m1 : Nat) (data0 : Sl) (first6 : Int) (lo7 : Int) (hi8 : Int) (i9 : Int) : WP := lop Try.prog slices_heapSortOrdered_string_kp jn (cAt [true, true, true, false, true, false, false] (bodyOf Try.f44)) (blkX 0 (seqK Try.prog slices_heapSortOrdered_string_kp jn (cAt [true, true, true, true] (bodyOf Try.f44)) (retK Try.prog Try.f44 Q) noX (retK Try.prog Try.f44 Q)) noX) (retK Try.prog Try.f44 Q) m1 ((.slice data0.a data0.n data0.c) :: us 5 ((.int .i64 first6) :: (.int .i64 lo7) :: (.int .i64 hi8) :: (.int .i64 i9) :: us 46 []))
def slices_heapSortOrdered_string (data0 : Sl) (a1 : Int) (b2 : Int) (Q : Value → WP) : WP := funJ idJ Try.prog slices_heapSortOrdered_string_kp Try.f44 [.slice data0.a data0.n data0.c, .int .i64 a1, .int .i64 b2] Q
theorem slices_heapSortOrdered_string_l3_raw (jn : Jn) (Q : Value → WP)  (m3 : Nat) (data0 : Sl) (first6 : Int) (lo7 : Int) (i10 : Int) : slices_heapSortOrdered_string_l3 jn Q  (m3 + 1) data0 first6 lo7 i10 = (
  ite2 (decide (i10 ≥ (0 : Int))) (
  drawW fun S =>
  idx data0.a data0.n (IntKind.wrap .i64 (first6 + i10)) fun b_1 o_2 =>
  ldS S .str b_1 (o_2 + ((IntKind.wrap .i64 (first6 + i10))).toNat * 1) fun (x_3 : ByteArray) =>
  idx data0.a data0.n first6 fun b_4 o_5 =>
  ld .str b_4 (o_5 + (first6).toNat * 1) fun (x_6 : ByteArray) =>
  keepS true S <|
  idx data0.a data0.n first6 fun b_7 o_8 =>
  st b_7 (o_8 + (first6).toNat * 1) (.string x_3) <|
  idx data0.a data0.n (IntKind.wrap .i64 (first6 + i10)) fun b_9 o_10 =>
  st b_9 (o_10 + ((IntKind.wrap .i64 (first6 + i10))).toNat * 1) (.string x_6) <|
  call0 Try.prog id_slices_siftDownOrdered_string [.slice data0.a data0.n data0.c, .int .i64 lo7, .int .i64 i10, .int .i64 first6] <|
  slices_heapSortOrdered_string_l3 jn Q  m3 data0 first6 lo7 (IntKind.wrap .i64 (i10 - (1 : Int)))) (
  Q (.tuple #[]))) := by kernel_rfl
theorem slices_heapSortOrdered_string_l3_zero (jn : Jn) (Q : Value → WP)  (data0 : Sl) (first6 : Int) (lo7 : Int) (i10 : Int) : slices_heapSortOrdered_string_l3 jn Q  0 data0 first6 lo7 i10 = bot := by kernel_rfl
theorem slices_heapSortOrdered_string_j2_raw (jn : Jn) (Q : Value → WP)  (data0 : Sl) (first6 : Int) (lo7 : Int) (hi8 : Int) : codeI Try.prog slices_heapSortOrdered_string_kp jn (cAt [true, true, true, true] (bodyOf Try.f44)) (retK Try.prog Try.f44 Q) noX (retK Try.prog Try.f44 Q) ((.slice data0.a data0.n data0.c) :: us 5 ((.int .i64 first6) :: (.int .i64 lo7) :: (.int .i64 hi8) :: us 47 [])) = (
  exM fun m => slices_heapSortOrdered_string_l3 jn Q  m data0 first6 lo7 (IntKind.wrap .i64 (hi8 - (1 : Int)))) := by kernel_rfl
theorem slices_heapSortOrdered_string_j2_def (Q : Value → WP)  (data0 : Sl) (first6 : Int) (lo7 : Int) (hi8 : Int) : slices_heapSortOrdered_string_j2 idJ Q  data0 first6 lo7 hi8 = codeI Try.prog slices_heapSortOrdered_string_kp idJ (cAt [true, true, true, true] (bodyOf Try.f44)) (retK Try.prog Try.f44 Q) noX (retK Try.prog Try.f44 Q) ((.slice data0.a data0.n data0.c) :: us 5 ((.int .i64 first6) :: (.int .i64 lo7) :: (.int .i64 hi8) :: us 47 [])) := by kernel_rfl
theorem slices_heapSortOrdered_string_l1_raw (jn : Jn) (Q : Value → WP)  (m1 : Nat) (data0 : Sl) (first6 : Int) (lo7 : Int) (hi8 : Int) (i9 : Int) : slices_heapSortOrdered_string_l1 jn Q  (m1 + 1) data0 first6 lo7 hi8 i9 = (
  ite2 (decide (i9 ≥ (0 : Int))) (
  call0 Try.prog id_slices_siftDownOrdered_string [.slice data0.a data0.n data0.c, .int .i64 i9, .int .i64 hi8, .int .i64 first6] <|
  slices_heapSortOrdered_string_l1 jn Q  m1 data0 first6 lo7 hi8 (IntKind.wrap .i64 (i9 - (1 : Int)))) (
  slices_heapSortOrdered_string_j2 jn Q  data0 first6 lo7 hi8)) := by kernel_rfl
theorem slices_heapSortOrdered_string_l1_zero (jn : Jn) (Q : Value → WP)  (data0 : Sl) (first6 : Int) (lo7 : Int) (hi8 : Int) (i9 : Int) : slices_heapSortOrdered_string_l1 jn Q  0 data0 first6 lo7 hi8 i9 = bot := by kernel_rfl
theorem slices_heapSortOrdered_string_raw (jn : Jn) (data0 : Sl) (a1 : Int) (b2 : Int) (Q : Value → WP) : funJ jn Try.prog slices_heapSortOrdered_string_kp Try.f44 [.slice data0.a data0.n data0.c, .int .i64 a1, .int .i64 b2] Q = (
  when ((2 : Int) ≠ 0) <|
  exM fun m => slices_heapSortOrdered_string_l1 jn Q  m data0 a1 (0 : Int) (IntKind.wrap .i64 (b2 - a1)) (IntKind.wrap .i64 (Int.tdiv (IntKind.wrap .i64 ((IntKind.wrap .i64 (b2 - a1)) - (1 : Int))) (2 : Int)))) := by kernel_rfl
theorem slices_heapSortOrdered_string_def (data0 : Sl) (a1 : Int) (b2 : Int) (Q : Value → WP) : slices_heapSortOrdered_string data0 a1 b2 Q = funJ idJ Try.prog slices_heapSortOrdered_string_kp Try.f44 [.slice data0.a data0.n data0.c, .int .i64 a1, .int .i64 b2] Q := rfl
theorem slices_heapSortOrdered_string_calls {data0 : Sl} {a1 : Int} {b2 : Int} {Q : Value → WP} {w : World} (h : slices_heapSortOrdered_string data0 a1 b2 Q w) : Calls Try.prog id_slices_heapSortOrdered_string #[.slice data0.a data0.n data0.c, .int .i64 a1, .int .i64 b2] w fun e w' => ∃ v, e = .returned v ∧ Q v w' :=
  funJ_calls mixed Try.func44 rfl h

-- slices.breakPatternsOrdered[string]
def slices_breakPatternsOrdered_string_kp : KP := ⟨[(13, [0, 1, 6, 7, 8, 9]), (22, [0, 1, 6, 7, 8, 9, 10])], [(10, [0, 1, 2, 3, 4, 5, 6, 7, 8, 9, 10, 11, 12, 13, 14, 16, 18])]⟩
def slices_breakPatternsOrdered_string_j2 (jn : Jn) (Q : Value → WP) (m1 : Nat) (data0 : Sl) (a1 : Int) (length6 : Int) (random7_b : Nat) (random7_o : Nat) (modulus8 : Int) (idx9 : Int) (other10 : Int) : WP := jn 22 (fun ρ => codeI Try.prog slices_breakPatternsOrdered_string_kp jn (cAt [true, true, false, true, true, true, false, false, true, false, false, true, true] (bodyOf Try.f45)) (seqK Try.prog slices_breakPatternsOrdered_string_kp jn (cAt [true, true, false, true, true, true, false, false, true, true] (bodyOf Try.f45)) (lopK Try.prog slices_breakPatternsOrdered_string_kp jn (cAt [true, true, false, true, true, true, false, false] (bodyOf Try.f45)) (blkX 0 (retK Try.prog Try.f45 Q) noX) (retK Try.prog Try.f45 Q) m1) (blkX 0 (retK Try.prog Try.f45 Q) noX) (retK Try.prog Try.f45 Q)) (blkX 1 (seqK Try.prog slices_breakPatternsOrdered_string_kp jn (cAt [true, true, false, true, true, true, false, false, true, true] (bodyOf Try.f45)) (lopK Try.prog slices_breakPatternsOrdered_string_kp jn (cAt [true, true, false, true, true, true, false, false] (bodyOf Try.f45)) (blkX 0 (retK Try.prog Try.f45 Q) noX) (retK Try.prog Try.f45 Q) m1) (blkX 0 (retK Try.prog Try.f45 Q) noX) (retK Try.prog Try.f45 Q)) (blkX 0 (retK Try.prog Try.f45 Q) noX)) (retK Try.prog Try.f45 Q) ρ) ((.slice data0.a data0.n data0.c) :: (.int .i64 a1) :: us 4 ((.int .i64 length6) :: (.pointer (some ⟨random7_b, random7_o, none⟩)) :: (.int .u64 modulus8) :: (.int .i64 idx9) :: (.int .i64 other10) :: us 54 []))
def slices_breakPatternsOrdered_string_l1 (jn : Jn) (Q : Value → WP)  (m1 : Nat) (data0 : Sl) (a1 : Int) (length6 : Int) (random7_b : Nat) (random7_o : Nat) (modulus8 : Int) (idx9 : Int) : WP := lop Try.prog slices_breakPatternsOrdered_string_kp jn (cAt [true, true, false, true, true, true, false, false] (bodyOf Try.f45)) (blkX 0 (retK Try.prog Try.f45 Q) noX) (retK Try.prog Try.f45 Q) m1 ((.slice data0.a data0.n data0.c) :: (.int .i64 a1) :: us 4 ((.int .i64 length6) :: (.pointer (some ⟨random7_b, random7_o, none⟩)) :: (.int .u64 modulus8) :: (.int .i64 idx9) :: us 55 []))
def slices_breakPatternsOrdered_string (data0 : Sl) (a1 : Int) (b2 : Int) (Q : Value → WP) : WP := funJ idJ Try.prog slices_breakPatternsOrdered_string_kp Try.f45 [.slice data0.a data0.n data0.c, .int .i64 a1, .int .i64 b2] Q
theorem slices_breakPatternsOrdered_string_j2_raw (jn : Jn) (Q : Value → WP) (m1 : Nat) (data0 : Sl) (a1 : Int) (length6 : Int) (random7_b : Nat) (random7_o : Nat) (modulus8 : Int) (idx9 : Int) (other10 : Int) : codeI Try.prog slices_breakPatternsOrdered_string_kp jn (cAt [true, true, false, true, true, true, false, false, true, false, false, true, true] (bodyOf Try.f45)) (seqK Try.prog slices_breakPatternsOrdered_string_kp jn (cAt [true, true, false, true, true, true, false, false, true, true] (bodyOf Try.f45)) (lopK Try.prog slices_breakPatternsOrdered_string_kp jn (cAt [true, true, false, true, true, true, false, false] (bodyOf Try.f45)) (blkX 0 (retK Try.prog Try.f45 Q) noX) (retK Try.prog Try.f45 Q) m1) (blkX 0 (retK Try.prog Try.f45 Q) noX) (retK Try.prog Try.f45 Q)) (blkX 1 (seqK Try.prog slices_breakPatternsOrdered_string_kp jn (cAt [true, true, false, true, true, true, false, false, true, true] (bodyOf Try.f45)) (lopK Try.prog slices_breakPatternsOrdered_string_kp jn (cAt [true, true, false, true, true, true, false, false] (bodyOf Try.f45)) (blkX 0 (retK Try.prog Try.f45 Q) noX) (retK Try.prog Try.f45 Q) m1) (blkX 0 (retK Try.prog Try.f45 Q) noX) (retK Try.prog Try.f45 Q)) (blkX 0 (retK Try.prog Try.f45 Q) noX)) (retK Try.prog Try.f45 Q) ((.slice data0.a data0.n data0.c) :: (.int .i64 a1) :: us 4 ((.int .i64 length6) :: (.pointer (some ⟨random7_b, random7_o, none⟩)) :: (.int .u64 modulus8) :: (.int .i64 idx9) :: (.int .i64 other10) :: us 54 [])) = (
  drawW fun S =>
  idx data0.a data0.n (IntKind.wrap .i64 (a1 + other10)) fun b_4 o_5 =>
  ldS S .str b_4 (o_5 + ((IntKind.wrap .i64 (a1 + other10))).toNat * 1) fun (x_6 : ByteArray) =>
  idx data0.a data0.n idx9 fun b_7 o_8 =>
  ld .str b_7 (o_8 + (idx9).toNat * 1) fun (x_9 : ByteArray) =>
  keepS true S <|
  idx data0.a data0.n idx9 fun b_10 o_11 =>
  st b_10 (o_11 + (idx9).toNat * 1) (.string x_6) <|
  idx data0.a data0.n (IntKind.wrap .i64 (a1 + other10)) fun b_12 o_13 =>
  st b_12 (o_13 + ((IntKind.wrap .i64 (a1 + other10))).toNat * 1) (.string x_9) <|
  slices_breakPatternsOrdered_string_l1 jn Q  m1 data0 a1 length6 random7_b random7_o modulus8 (IntKind.wrap .i64 (idx9 + (1 : Int)))) := by kernel_rfl
theorem slices_breakPatternsOrdered_string_j2_def (Q : Value → WP) (m1 : Nat) (data0 : Sl) (a1 : Int) (length6 : Int) (random7_b : Nat) (random7_o : Nat) (modulus8 : Int) (idx9 : Int) (other10 : Int) : slices_breakPatternsOrdered_string_j2 idJ Q m1 data0 a1 length6 random7_b random7_o modulus8 idx9 other10 = codeI Try.prog slices_breakPatternsOrdered_string_kp idJ (cAt [true, true, false, true, true, true, false, false, true, false, false, true, true] (bodyOf Try.f45)) (seqK Try.prog slices_breakPatternsOrdered_string_kp idJ (cAt [true, true, false, true, true, true, false, false, true, true] (bodyOf Try.f45)) (lopK Try.prog slices_breakPatternsOrdered_string_kp idJ (cAt [true, true, false, true, true, true, false, false] (bodyOf Try.f45)) (blkX 0 (retK Try.prog Try.f45 Q) noX) (retK Try.prog Try.f45 Q) m1) (blkX 0 (retK Try.prog Try.f45 Q) noX) (retK Try.prog Try.f45 Q)) (blkX 1 (seqK Try.prog slices_breakPatternsOrdered_string_kp idJ (cAt [true, true, false, true, true, true, false, false, true, true] (bodyOf Try.f45)) (lopK Try.prog slices_breakPatternsOrdered_string_kp idJ (cAt [true, true, false, true, true, true, false, false] (bodyOf Try.f45)) (blkX 0 (retK Try.prog Try.f45 Q) noX) (retK Try.prog Try.f45 Q) m1) (blkX 0 (retK Try.prog Try.f45 Q) noX) (retK Try.prog Try.f45 Q)) (blkX 0 (retK Try.prog Try.f45 Q) noX)) (retK Try.prog Try.f45 Q) ((.slice data0.a data0.n data0.c) :: (.int .i64 a1) :: us 4 ((.int .i64 length6) :: (.pointer (some ⟨random7_b, random7_o, none⟩)) :: (.int .u64 modulus8) :: (.int .i64 idx9) :: (.int .i64 other10) :: us 54 [])) := by kernel_rfl
theorem slices_breakPatternsOrdered_string_l1_raw (jn : Jn) (Q : Value → WP)  (m1 : Nat) (data0 : Sl) (a1 : Int) (length6 : Int) (random7_b : Nat) (random7_o : Nat) (modulus8 : Int) (idx9 : Int) : slices_breakPatternsOrdered_string_l1 jn Q  (m1 + 1) data0 a1 length6 random7_b random7_o modulus8 idx9 = (
  when ((4 : Int) ≠ 0) <|
  ite2 (decide (idx9 ≤ (IntKind.wrap .i64 ((IntKind.wrap .i64 (a1 + (IntKind.wrap .i64 ((IntKind.wrap .i64 (Int.tdiv length6 (4 : Int))) * (2 : Int))))) + (1 : Int))))) (
  call1 (.int .u64) Try.prog id_slices_xorshift_Next [.pointer (some ⟨random7_b, random7_o, none⟩)] fun (x_3 : Int) =>
  ite2 (decide ((IntKind.wrap .i64 (bits .and .u64 x_3 (IntKind.wrap .u64 (modulus8 - (1 : Int))))) ≥ length6)) (
  slices_breakPatternsOrdered_string_j2 jn Q m1 data0 a1 length6 random7_b random7_o modulus8 idx9 (IntKind.wrap .i64 ((IntKind.wrap .i64 (bits .and .u64 x_3 (IntKind.wrap .u64 (modulus8 - (1 : Int))))) - length6))) (
  slices_breakPatternsOrdered_string_j2 jn Q m1 data0 a1 length6 random7_b random7_o modulus8 idx9 (IntKind.wrap .i64 (bits .and .u64 x_3 (IntKind.wrap .u64 (modulus8 - (1 : Int))))))) (
  Q (.tuple #[]))) := by kernel_rfl
theorem slices_breakPatternsOrdered_string_l1_zero (jn : Jn) (Q : Value → WP)  (data0 : Sl) (a1 : Int) (length6 : Int) (random7_b : Nat) (random7_o : Nat) (modulus8 : Int) (idx9 : Int) : slices_breakPatternsOrdered_string_l1 jn Q  0 data0 a1 length6 random7_b random7_o modulus8 idx9 = bot := by kernel_rfl
theorem slices_breakPatternsOrdered_string_raw (jn : Jn) (data0 : Sl) (a1 : Int) (b2 : Int) (Q : Value → WP) : funJ jn Try.prog slices_breakPatternsOrdered_string_kp Try.f45 [.slice data0.a data0.n data0.c, .int .i64 a1, .int .i64 b2] Q = (
  ite2 (decide ((IntKind.wrap .i64 (b2 - a1)) ≥ (8 : Int))) (
  newB [.int .u64 (0 : Int)] ty_slices_xorshift fun b_1 =>
  st b_1 0 (.int .u64 (IntKind.wrap .u64 (IntKind.wrap .i64 (b2 - a1)))) <|
  call1 (.int .u64) Try.prog id_slices_nextPowerOfTwo [.int .i64 (IntKind.wrap .i64 (b2 - a1))] fun (x_2 : Int) =>
  when ((4 : Int) ≠ 0) <|
  exM fun m => slices_breakPatternsOrdered_string_l1 jn Q  m data0 a1 (IntKind.wrap .i64 (b2 - a1)) b_1 0 x_2 (IntKind.wrap .i64 ((IntKind.wrap .i64 (a1 + (IntKind.wrap .i64 ((IntKind.wrap .i64 (Int.tdiv (IntKind.wrap .i64 (b2 - a1)) (4 : Int))) * (2 : Int))))) - (1 : Int)))) (
  Q (.tuple #[]))) := by kernel_rfl
theorem slices_breakPatternsOrdered_string_def (data0 : Sl) (a1 : Int) (b2 : Int) (Q : Value → WP) : slices_breakPatternsOrdered_string data0 a1 b2 Q = funJ idJ Try.prog slices_breakPatternsOrdered_string_kp Try.f45 [.slice data0.a data0.n data0.c, .int .i64 a1, .int .i64 b2] Q := rfl
theorem slices_breakPatternsOrdered_string_calls {data0 : Sl} {a1 : Int} {b2 : Int} {Q : Value → WP} {w : World} (h : slices_breakPatternsOrdered_string data0 a1 b2 Q w) : Calls Try.prog id_slices_breakPatternsOrdered_string #[.slice data0.a data0.n data0.c, .int .i64 a1, .int .i64 b2] w fun e w' => ∃ v, e = .returned v ∧ Q v w' :=
  funJ_calls mixed Try.func45 rfl h

-- slices.choosePivotOrdered[string]
def slices_choosePivotOrdered_string_kp : KP := ⟨[(26, [9, 11])], []⟩
def slices_choosePivotOrdered_string_j1 (jn : Jn) (Q : Value → WP)  (swaps9_b : Nat) (swaps9_o : Nat) (j11 : Int) : WP := jn 26 (fun ρ => codeI Try.prog slices_choosePivotOrdered_string_kp jn (cAt [true, true, true, true, true, true, true] (bodyOf Try.f46)) (retK Try.prog Try.f46 Q) noX (retK Try.prog Try.f46 Q) ρ) (us 9 ((.pointer (some ⟨swaps9_b, swaps9_o, none⟩)) :: us 1 ((.int .i64 j11) :: us 45 [])))
def slices_choosePivotOrdered_string (data0 : Sl) (a1 : Int) (b2 : Int) (Q : Value → WP) : WP := funJ idJ Try.prog slices_choosePivotOrdered_string_kp Try.f46 [.slice data0.a data0.n data0.c, .int .i64 a1, .int .i64 b2] Q
theorem slices_choosePivotOrdered_string_j1_raw (jn : Jn) (Q : Value → WP)  (swaps9_b : Nat) (swaps9_o : Nat) (j11 : Int) : codeI Try.prog slices_choosePivotOrdered_string_kp jn (cAt [true, true, true, true, true, true, true] (bodyOf Try.f46)) (retK Try.prog Try.f46 Q) noX (retK Try.prog Try.f46 Q) (us 9 ((.pointer (some ⟨swaps9_b, swaps9_o, none⟩)) :: us 1 ((.int .i64 j11) :: us 45 []))) = (
  ld (.int .i64) swaps9_b swaps9_o fun (x_6 : Int) =>
  ite2 (x_6 == (0 : Int)) (
  Q (.tuple #[.int .i64 j11, .int .i64 (1 : Int)])) (
  ite2 (x_6 == (12 : Int)) (
  Q (.tuple #[.int .i64 j11, .int .i64 (2 : Int)])) (
  Q (.tuple #[.int .i64 j11, .int .i64 (0 : Int)])))) := by kernel_rfl
theorem slices_choosePivotOrdered_string_j1_def (Q : Value → WP)  (swaps9_b : Nat) (swaps9_o : Nat) (j11 : Int) : slices_choosePivotOrdered_string_j1 idJ Q  swaps9_b swaps9_o j11 = codeI Try.prog slices_choosePivotOrdered_string_kp idJ (cAt [true, true, true, true, true, true, true] (bodyOf Try.f46)) (retK Try.prog Try.f46 Q) noX (retK Try.prog Try.f46 Q) (us 9 ((.pointer (some ⟨swaps9_b, swaps9_o, none⟩)) :: us 1 ((.int .i64 j11) :: us 45 []))) := by kernel_rfl
theorem slices_choosePivotOrdered_string_raw (jn : Jn) (data0 : Sl) (a1 : Int) (b2 : Int) (Q : Value → WP) : funJ jn Try.prog slices_choosePivotOrdered_string_kp Try.f46 [.slice data0.a data0.n data0.c, .int .i64 a1, .int .i64 b2] Q = (
  newB [.int .i64 (0 : Int)] ty_int fun b_1 =>
  when ((4 : Int) ≠ 0) <|
  when ((4 : Int) ≠ 0) <|
  when ((4 : Int) ≠ 0) <|
  ite2 (decide ((IntKind.wrap .i64 (b2 - a1)) ≥ (8 : Int))) (
  ite2 (decide ((IntKind.wrap .i64 (b2 - a1)) ≥ (50 : Int))) (
  call1 (.int .i64) Try.prog id_slices_medianAdjacentOrdered_string [.slice data0.a data0.n data0.c, .int .i64 (IntKind.wrap .i64 (a1 + (IntKind.wrap .i64 ((IntKind.wrap .i64 (Int.tdiv (IntKind.wrap .i64 (b2 - a1)) (4 : Int))) * (1 : Int))))), .pointer (some ⟨b_1, 0, none⟩)] fun (x_2 : Int) =>
  call1 (.int .i64) Try.prog id_slices_medianAdjacentOrdered_string [.slice data0.a data0.n data0.c, .int .i64 (IntKind.wrap .i64 (a1 + (IntKind.wrap .i64 ((IntKind.wrap .i64 (Int.tdiv (IntKind.wrap .i64 (b2 - a1)) (4 : Int))) * (2 : Int))))), .pointer (some ⟨b_1, 0, none⟩)] fun (x_3 : Int) =>
  call1 (.int .i64) Try.prog id_slices_medianAdjacentOrdered_string [.slice data0.a data0.n data0.c, .int .i64 (IntKind.wrap .i64 (a1 + (IntKind.wrap .i64 ((IntKind.wrap .i64 (Int.tdiv (IntKind.wrap .i64 (b2 - a1)) (4 : Int))) * (3 : Int))))), .pointer (some ⟨b_1, 0, none⟩)] fun (x_4 : Int) =>
  call1 (.int .i64) Try.prog id_slices_medianOrdered_string [.slice data0.a data0.n data0.c, .int .i64 x_2, .int .i64 x_3, .int .i64 x_4, .pointer (some ⟨b_1, 0, none⟩)] fun (x_5 : Int) =>
  slices_choosePivotOrdered_string_j1 jn Q  b_1 0 x_5) (
  call1 (.int .i64) Try.prog id_slices_medianOrdered_string [.slice data0.a data0.n data0.c, .int .i64 (IntKind.wrap .i64 (a1 + (IntKind.wrap .i64 ((IntKind.wrap .i64 (Int.tdiv (IntKind.wrap .i64 (b2 - a1)) (4 : Int))) * (1 : Int))))), .int .i64 (IntKind.wrap .i64 (a1 + (IntKind.wrap .i64 ((IntKind.wrap .i64 (Int.tdiv (IntKind.wrap .i64 (b2 - a1)) (4 : Int))) * (2 : Int))))), .int .i64 (IntKind.wrap .i64 (a1 + (IntKind.wrap .i64 ((IntKind.wrap .i64 (Int.tdiv (IntKind.wrap .i64 (b2 - a1)) (4 : Int))) * (3 : Int))))), .pointer (some ⟨b_1, 0, none⟩)] fun (x_7 : Int) =>
  slices_choosePivotOrdered_string_j1 jn Q  b_1 0 x_7)) (
  slices_choosePivotOrdered_string_j1 jn Q  b_1 0 (IntKind.wrap .i64 (a1 + (IntKind.wrap .i64 ((IntKind.wrap .i64 (Int.tdiv (IntKind.wrap .i64 (b2 - a1)) (4 : Int))) * (2 : Int))))))) := by kernel_rfl
theorem slices_choosePivotOrdered_string_def (data0 : Sl) (a1 : Int) (b2 : Int) (Q : Value → WP) : slices_choosePivotOrdered_string data0 a1 b2 Q = funJ idJ Try.prog slices_choosePivotOrdered_string_kp Try.f46 [.slice data0.a data0.n data0.c, .int .i64 a1, .int .i64 b2] Q := rfl
theorem slices_choosePivotOrdered_string_calls {data0 : Sl} {a1 : Int} {b2 : Int} {Q : Value → WP} {w : World} (h : slices_choosePivotOrdered_string data0 a1 b2 Q w) : Calls Try.prog id_slices_choosePivotOrdered_string #[.slice data0.a data0.n data0.c, .int .i64 a1, .int .i64 b2] w fun e w' => ∃ v, e = .returned v ∧ Q v w' :=
  funJ_calls mixed Try.func46 rfl h

-- slices.reverseRangeOrdered[string]
def slices_reverseRangeOrdered_string_kp : KP := ⟨[(7, [0, 6, 7])], [(3, [0, 1, 2, 3, 4, 5, 6, 7, 8, 9, 10, 12, 14])]⟩
def slices_reverseRangeOrdered_string_l1 (jn : Jn) (Q : Value → WP)  (m1 : Nat) (data0 : Sl) (i6 : Int) (j7 : Int) : WP := lop Try.prog slices_reverseRangeOrdered_string_kp jn (cAt [true, true, false, false] (bodyOf Try.f47)) (blkX 0 (retK Try.prog Try.f47 Q) noX) (retK Try.prog Try.f47 Q) m1 ((.slice data0.a data0.n data0.c) :: us 5 ((.int .i64 i6) :: (.int .i64 j7) :: us 24 []))
def slices_reverseRangeOrdered_string (data0 : Sl) (a1 : Int) (b2 : Int) (Q : Value → WP) : WP := funJ idJ Try.prog slices_reverseRangeOrdered_string_kp Try.f47 [.slice data0.a data0.n data0.c, .int .i64 a1, .int .i64 b2] Q
theorem slices_reverseRangeOrdered_string_l1_raw (jn : Jn) (Q : Value → WP)  (m1 : Nat) (data0 : Sl) (i6 : Int) (j7 : Int) : slices_reverseRangeOrdered_string_l1 jn Q  (m1 + 1) data0 i6 j7 = (
  ite2 (decide (i6 < j7)) (
  drawW fun S =>
  idx data0.a data0.n j7 fun b_1 o_2 =>
  ldS S .str b_1 (o_2 + (j7).toNat * 1) fun (x_3 : ByteArray) =>
  idx data0.a data0.n i6 fun b_4 o_5 =>
  ld .str b_4 (o_5 + (i6).toNat * 1) fun (x_6 : ByteArray) =>
  keepS true S <|
  idx data0.a data0.n i6 fun b_7 o_8 =>
  st b_7 (o_8 + (i6).toNat * 1) (.string x_3) <|
  idx data0.a data0.n j7 fun b_9 o_10 =>
  st b_9 (o_10 + (j7).toNat * 1) (.string x_6) <|
  slices_reverseRangeOrdered_string_l1 jn Q  m1 data0 (IntKind.wrap .i64 (i6 + (1 : Int))) (IntKind.wrap .i64 (j7 - (1 : Int)))) (
  Q (.tuple #[]))) := by kernel_rfl
theorem slices_reverseRangeOrdered_string_l1_zero (jn : Jn) (Q : Value → WP)  (data0 : Sl) (i6 : Int) (j7 : Int) : slices_reverseRangeOrdered_string_l1 jn Q  0 data0 i6 j7 = bot := by kernel_rfl
theorem slices_reverseRangeOrdered_string_raw (jn : Jn) (data0 : Sl) (a1 : Int) (b2 : Int) (Q : Value → WP) : funJ jn Try.prog slices_reverseRangeOrdered_string_kp Try.f47 [.slice data0.a data0.n data0.c, .int .i64 a1, .int .i64 b2] Q = (
  exM fun m => slices_reverseRangeOrdered_string_l1 jn Q  m data0 a1 (IntKind.wrap .i64 (b2 - (1 : Int)))) := by kernel_rfl
theorem slices_reverseRangeOrdered_string_def (data0 : Sl) (a1 : Int) (b2 : Int) (Q : Value → WP) : slices_reverseRangeOrdered_string data0 a1 b2 Q = funJ idJ Try.prog slices_reverseRangeOrdered_string_kp Try.f47 [.slice data0.a data0.n data0.c, .int .i64 a1, .int .i64 b2] Q := rfl
theorem slices_reverseRangeOrdered_string_calls {data0 : Sl} {a1 : Int} {b2 : Int} {Q : Value → WP} {w : World} (h : slices_reverseRangeOrdered_string data0 a1 b2 Q w) : Calls Try.prog id_slices_reverseRangeOrdered_string #[.slice data0.a data0.n data0.c, .int .i64 a1, .int .i64 b2] w fun e w' => ∃ v, e = .returned v ∧ Q v w' :=
  funJ_calls mixed Try.func47 rfl h

-- slices.partialInsertionSortOrdered[string]
def slices_partialInsertionSortOrdered_string_kp : KP := ⟨[(9, [0, 1, 2, 7, 8]), (10, [0, 1, 2, 7, 8]), (13, [0, 1, 2, 7, 8]), (16, [0, 1, 2, 7, 8]), (31, [0, 1, 2, 7, 8, 9]), (38, [0, 1, 2, 7, 8]), (43, [0, 1, 2, 7, 8, 10]), (50, [])], [(5, [0, 1, 2, 3, 4, 5, 6, 7, 8, 9, 10, 11, 14, 15]), (11, [0, 1, 2, 3, 4, 5, 6, 7, 8, 9, 10, 11, 12, 14, 16]), (16, [0, 1, 2, 3, 4, 5, 6, 7, 10]), (17, [0, 1, 2, 3, 4, 5, 6, 7, 8, 9, 10, 11, 12, 14, 16]), (22, [0, 1, 2, 3, 4, 5, 6, 7, 10]), (23, [0, 1, 2, 3, 4, 5, 6, 7, 8, 9, 10, 11, 12, 14, 16])]⟩
def slices_partialInsertionSortOrdered_string_j7 (jn : Jn) (Q : Value → WP) (m1 : Nat) (data0 : Sl) (a1 : Int) (b2 : Int) (i7 : Int) (j8 : Int) : WP := jn 10 (fun ρ => codeI Try.prog slices_partialInsertionSortOrdered_string_kp jn (cAt [true, true, false, true, false, false, true, true] (bodyOf Try.f48)) (lopK Try.prog slices_partialInsertionSortOrdered_string_kp jn (cAt [true, true, false, true, false, false] (bodyOf Try.f48)) (blkX 0 (seqK Try.prog slices_partialInsertionSortOrdered_string_kp jn (cAt [true, true, true] (bodyOf Try.f48)) (retK Try.prog Try.f48 Q) noX (retK Try.prog Try.f48 Q)) noX) (retK Try.prog Try.f48 Q) m1) (blkX 0 (seqK Try.prog slices_partialInsertionSortOrdered_string_kp jn (cAt [true, true, true] (bodyOf Try.f48)) (retK Try.prog Try.f48 Q) noX (retK Try.prog Try.f48 Q)) noX) (retK Try.prog Try.f48 Q) ρ) ((.slice data0.a data0.n data0.c) :: (.int .i64 a1) :: (.int .i64 b2) :: us 4 ((.int .i64 i7) :: (.int .i64 j8) :: us 124 []))
def slices_partialInsertionSortOrdered_string_l6 (jn : Jn) (Q : Value → WP) (m1 : Nat) (m6 : Nat) (data0 : Sl) (a1 : Int) (b2 : Int) (i7 : Int) (j8 : Int) (j10 : Int) : WP := lop Try.prog slices_partialInsertionSortOrdered_string_kp jn (cAt [true, true, false, true, false, false, true, false, false, true, true, true, true, true, true, false, true, false, false] (bodyOf Try.f48)) (blkX 6 (seqK Try.prog slices_partialInsertionSortOrdered_string_kp jn (cAt [true, true, false, true, false, false, true, true] (bodyOf Try.f48)) (lopK Try.prog slices_partialInsertionSortOrdered_string_kp jn (cAt [true, true, false, true, false, false] (bodyOf Try.f48)) (blkX 0 (seqK Try.prog slices_partialInsertionSortOrdered_string_kp jn (cAt [true, true, true] (bodyOf Try.f48)) (retK Try.prog Try.f48 Q) noX (retK Try.prog Try.f48 Q)) noX) (retK Try.prog Try.f48 Q) m1) (blkX 0 (seqK Try.prog slices_partialInsertionSortOrdered_string_kp jn (cAt [true, true, true] (bodyOf Try.f48)) (retK Try.prog Try.f48 Q) noX (retK Try.prog Try.f48 Q)) noX) (retK Try.prog Try.f48 Q)) (blkX 1 (seqK Try.prog slices_partialInsertionSortOrdered_string_kp jn (cAt [true, true, false, true, false, false, true, true] (bodyOf Try.f48)) (lopK Try.prog slices_partialInsertionSortOrdered_string_kp jn (cAt [true, true, false, true, false, false] (bodyOf Try.f48)) (blkX 0 (seqK Try.prog slices_partialInsertionSortOrdered_string_kp jn (cAt [true, true, true] (bodyOf Try.f48)) (retK Try.prog Try.f48 Q) noX (retK Try.prog Try.f48 Q)) noX) (retK Try.prog Try.f48 Q) m1) (blkX 0 (seqK Try.prog slices_partialInsertionSortOrdered_string_kp jn (cAt [true, true, true] (bodyOf Try.f48)) (retK Try.prog Try.f48 Q) noX (retK Try.prog Try.f48 Q)) noX) (retK Try.prog Try.f48 Q)) (blkX 0 (seqK Try.prog slices_partialInsertionSortOrdered_string_kp jn (cAt [true, true, true] (bodyOf Try.f48)) (retK Try.prog Try.f48 Q) noX (retK Try.prog Try.f48 Q)) noX))) (retK Try.prog Try.f48 Q) m6 ((.slice data0.a data0.n data0.c) :: (.int .i64 a1) :: (.int .i64 b2) :: us 4 ((.int .i64 i7) :: (.int .i64 j8) :: us 1 ((.int .i64 j10) :: us 122 [])))
def slices_partialInsertionSortOrdered_string_j5 (jn : Jn) (Q : Value → WP) (m1 : Nat) (data0 : Sl) (a1 : Int) (b2 : Int) (i7 : Int) (j8 : Int) : WP := jn 38 (fun ρ => codeI Try.prog slices_partialInsertionSortOrdered_string_kp jn (cAt [true, true, false, true, false, false, true, false, false, true, true, true, true, true] (bodyOf Try.f48)) (seqK Try.prog slices_partialInsertionSortOrdered_string_kp jn (cAt [true, true, false, true, false, false, true, true] (bodyOf Try.f48)) (lopK Try.prog slices_partialInsertionSortOrdered_string_kp jn (cAt [true, true, false, true, false, false] (bodyOf Try.f48)) (blkX 0 (seqK Try.prog slices_partialInsertionSortOrdered_string_kp jn (cAt [true, true, true] (bodyOf Try.f48)) (retK Try.prog Try.f48 Q) noX (retK Try.prog Try.f48 Q)) noX) (retK Try.prog Try.f48 Q) m1) (blkX 0 (seqK Try.prog slices_partialInsertionSortOrdered_string_kp jn (cAt [true, true, true] (bodyOf Try.f48)) (retK Try.prog Try.f48 Q) noX (retK Try.prog Try.f48 Q)) noX) (retK Try.prog Try.f48 Q)) (blkX 1 (seqK Try.prog slices_partialInsertionSortOrdered_string_kp jn (cAt [true, true, false, true, false, false, true, true] (bodyOf Try.f48)) (lopK Try.prog slices_partialInsertionSortOrdered_string_kp jn (cAt [true, true, false, true, false, false] (bodyOf Try.f48)) (blkX 0 (seqK Try.prog slices_partialInsertionSortOrdered_string_kp jn (cAt [true, true, true] (bodyOf Try.f48)) (retK Try.prog Try.f48 Q) noX (retK Try.prog Try.f48 Q)) noX) (retK Try.prog Try.f48 Q) m1) (blkX 0 (seqK Try.prog slices_partialInsertionSortOrdered_string_kp jn (cAt [true, true, true] (bodyOf Try.f48)) (retK Try.prog Try.f48 Q) noX (retK Try.prog Try.f48 Q)) noX) (retK Try.prog Try.f48 Q)) (blkX 0 (seqK Try.prog slices_partialInsertionSortOrdered_string_kp jn (cAt [true, true, true] (bodyOf Try.f48)) (retK Try.prog Try.f48 Q) noX (retK Try.prog Try.f48 Q)) noX)) (retK Try.prog Try.f48 Q) ρ) ((.slice data0.a data0.n data0.c) :: (.int .i64 a1) :: (.int .i64 b2) :: us 4 ((.int .i64 i7) :: (.int .i64 j8) :: us 124 []))
def slices_partialInsertionSortOrdered_string_l4 (jn : Jn) (Q : Value → WP) (m1 : Nat) (m4 : Nat) (data0 : Sl) (a1 : Int) (b2 : Int) (i7 : Int) (j8 : Int) (j9 : Int) : WP := lop Try.prog slices_partialInsertionSortOrdered_string_kp jn (cAt [true, true, false, true, false, false, true, false, false, true, true, true, true, false, true, false, true, false, false] (bodyOf Try.f48)) (blkX 4 (seqK Try.prog slices_partialInsertionSortOrdered_string_kp jn (cAt [true, true, false, true, false, false, true, false, false, true, true, true, true, true] (bodyOf Try.f48)) (seqK Try.prog slices_partialInsertionSortOrdered_string_kp jn (cAt [true, true, false, true, false, false, true, true] (bodyOf Try.f48)) (lopK Try.prog slices_partialInsertionSortOrdered_string_kp jn (cAt [true, true, false, true, false, false] (bodyOf Try.f48)) (blkX 0 (seqK Try.prog slices_partialInsertionSortOrdered_string_kp jn (cAt [true, true, true] (bodyOf Try.f48)) (retK Try.prog Try.f48 Q) noX (retK Try.prog Try.f48 Q)) noX) (retK Try.prog Try.f48 Q) m1) (blkX 0 (seqK Try.prog slices_partialInsertionSortOrdered_string_kp jn (cAt [true, true, true] (bodyOf Try.f48)) (retK Try.prog Try.f48 Q) noX (retK Try.prog Try.f48 Q)) noX) (retK Try.prog Try.f48 Q)) (blkX 1 (seqK Try.prog slices_partialInsertionSortOrdered_string_kp jn (cAt [true, true, false, true, false, false, true, true] (bodyOf Try.f48)) (lopK Try.prog slices_partialInsertionSortOrdered_string_kp jn (cAt [true, true, false, true, false, false] (bodyOf Try.f48)) (blkX 0 (seqK Try.prog slices_partialInsertionSortOrdered_string_kp jn (cAt [true, true, true] (bodyOf Try.f48)) (retK Try.prog Try.f48 Q) noX (retK Try.prog Try.f48 Q)) noX) (retK Try.prog Try.f48 Q) m1) (blkX 0 (seqK Try.prog slices_partialInsertionSortOrdered_string_kp jn (cAt [true, true, true] (bodyOf Try.f48)) (retK Try.prog Try.f48 Q) noX (retK Try.prog Try.f48 Q)) noX) (retK Try.prog Try.f48 Q)) (blkX 0 (seqK Try.prog slices_partialInsertionSortOrdered_string_kp jn (cAt [true, true, true] (bodyOf Try.f48)) (retK Try.prog Try.f48 Q) noX (retK Try.prog Try.f48 Q)) noX)) (retK Try.prog Try.f48 Q)) (blkX 1 (seqK Try.prog slices_partialInsertionSortOrdered_string_kp jn (cAt [true, true, false, true, false, false, true, true] (bodyOf Try.f48)) (lopK Try.prog slices_partialInsertionSortOrdered_string_kp jn (cAt [true, true, false, true, false, false] (bodyOf Try.f48)) (blkX 0 (seqK Try.prog slices_partialInsertionSortOrdered_string_kp jn (cAt [true, true, true] (bodyOf Try.f48)) (retK Try.prog Try.f48 Q) noX (retK Try.prog Try.f48 Q)) noX) (retK Try.prog Try.f48 Q) m1) (blkX 0 (seqK Try.prog slices_partialInsertionSortOrdered_string_kp jn (cAt [true, true, true] (bodyOf Try.f48)) (retK Try.prog Try.f48 Q) noX (retK Try.prog Try.f48 Q)) noX) (retK Try.prog Try.f48 Q)) (blkX 0 (seqK Try.prog slices_partialInsertionSortOrdered_string_kp jn (cAt [true, true, true] (bodyOf Try.f48)) (retK Try.prog Try.f48 Q) noX (retK Try.prog Try.f48 Q)) noX))) (retK Try.prog Try.f48 Q) m4 ((.slice data0.a data0.n data0.c) :: (.int .i64 a1) :: (.int .i64 b2) :: us 4 ((.int .i64 i7) :: (.int .i64 j8) :: (.int .i64 j9) :: us 123 []))
def slices_partialInsertionSortOrdered_string_j3 (jn : Jn) (Q : Value → WP) (m1 : Nat) (data0 : Sl) (a1 : Int) (b2 : Int) (i7 : Int) (j8 : Int) : WP := jn 16 (fun ρ => codeI Try.prog slices_partialInsertionSortOrdered_string_kp jn (cAt [true, true, false, true, false, false, true, false, false, true] (bodyOf Try.f48)) (seqK Try.prog slices_partialInsertionSortOrdered_string_kp jn (cAt [true, true, false, true, false, false, true, true] (bodyOf Try.f48)) (lopK Try.prog slices_partialInsertionSortOrdered_string_kp jn (cAt [true, true, false, true, false, false] (bodyOf Try.f48)) (blkX 0 (seqK Try.prog slices_partialInsertionSortOrdered_string_kp jn (cAt [true, true, true] (bodyOf Try.f48)) (retK Try.prog Try.f48 Q) noX (retK Try.prog Try.f48 Q)) noX) (retK Try.prog Try.f48 Q) m1) (blkX 0 (seqK Try.prog slices_partialInsertionSortOrdered_string_kp jn (cAt [true, true, true] (bodyOf Try.f48)) (retK Try.prog Try.f48 Q) noX (retK Try.prog Try.f48 Q)) noX) (retK Try.prog Try.f48 Q)) (blkX 1 (seqK Try.prog slices_partialInsertionSortOrdered_string_kp jn (cAt [true, true, false, true, false, false, true, true] (bodyOf Try.f48)) (lopK Try.prog slices_partialInsertionSortOrdered_string_kp jn (cAt [true, true, false, true, false, false] (bodyOf Try.f48)) (blkX 0 (seqK Try.prog slices_partialInsertionSortOrdered_string_kp jn (cAt [true, true, true] (bodyOf Try.f48)) (retK Try.prog Try.f48 Q) noX (retK Try.prog Try.f48 Q)) noX) (retK Try.prog Try.f48 Q) m1) (blkX 0 (seqK Try.prog slices_partialInsertionSortOrdered_string_kp jn (cAt [true, true, true] (bodyOf Try.f48)) (retK Try.prog Try.f48 Q) noX (retK Try.prog Try.f48 Q)) noX) (retK Try.prog Try.f48 Q)) (blkX 0 (seqK Try.prog slices_partialInsertionSortOrdered_string_kp jn (cAt [true, true, true] (bodyOf Try.f48)) (retK Try.prog Try.f48 Q) noX (retK Try.prog Try.f48 Q)) noX)) (retK Try.prog Try.f48 Q) ρ) ((.slice data0.a data0.n data0.c) :: (.int .i64 a1) :: (.int .i64 b2) :: us 4 ((.int .i64 i7) :: (.int .i64 j8) :: us 124 []))
def slices_partialInsertionSortOrdered_string_l2 (jn : Jn) (Q : Value → WP) (m1 : Nat) (m2 : Nat) (data0 : Sl) (a1 : Int) (b2 : Int) (i7 : Int) (j8 : Int) : WP := lop Try.prog slices_partialInsertionSortOrdered_string_kp jn (cAt [true, true, false, true, false, false, true, false, false, false, false, false] (bodyOf Try.f48)) (blkX 2 (seqK Try.prog slices_partialInsertionSortOrdered_string_kp jn (cAt [true, true, false, true, false, false, true, false, false, true] (bodyOf Try.f48)) (seqK Try.prog slices_partialInsertionSortOrdered_string_kp jn (cAt [true, true, false, true, false, false, true, true] (bodyOf Try.f48)) (lopK Try.prog slices_partialInsertionSortOrdered_string_kp jn (cAt [true, true, false, true, false, false] (bodyOf Try.f48)) (blkX 0 (seqK Try.prog slices_partialInsertionSortOrdered_string_kp jn (cAt [true, true, true] (bodyOf Try.f48)) (retK Try.prog Try.f48 Q) noX (retK Try.prog Try.f48 Q)) noX) (retK Try.prog Try.f48 Q) m1) (blkX 0 (seqK Try.prog slices_partialInsertionSortOrdered_string_kp jn (cAt [true, true, true] (bodyOf Try.f48)) (retK Try.prog Try.f48 Q) noX (retK Try.prog Try.f48 Q)) noX) (retK Try.prog Try.f48 Q)) (blkX 1 (seqK Try.prog slices_partialInsertionSortOrdered_string_kp jn (cAt [true, true, false, true, false, false, true, true] (bodyOf Try.f48)) (lopK Try.prog slices_partialInsertionSortOrdered_string_kp jn (cAt [true, true, false, true, false, false] (bodyOf Try.f48)) (blkX 0 (seqK Try.prog slices_partialInsertionSortOrdered_string_kp jn (cAt [true, true, true] (bodyOf Try.f48)) (retK Try.prog Try.f48 Q) noX (retK Try.prog Try.f48 Q)) noX) (retK Try.prog Try.f48 Q) m1) (blkX 0 (seqK Try.prog slices_partialInsertionSortOrdered_string_kp jn (cAt [true, true, true] (bodyOf Try.f48)) (retK Try.prog Try.f48 Q) noX (retK Try.prog Try.f48 Q)) noX) (retK Try.prog Try.f48 Q)) (blkX 0 (seqK Try.prog slices_partialInsertionSortOrdered_string_kp jn (cAt [true, true, true] (bodyOf Try.f48)) (retK Try.prog Try.f48 Q) noX (retK Try.prog Try.f48 Q)) noX)) (retK Try.prog Try.f48 Q)) (blkX 1 (seqK Try.prog slices_partialInsertionSortOrdered_string_kp jn (cAt [true, true, false, true, false, false, true, true] (bodyOf Try.f48)) (lopK Try.prog slices_partialInsertionSortOrdered_string_kp jn (cAt [true, true, false, true, false, false] (bodyOf Try.f48)) (blkX 0 (seqK Try.prog slices_partialInsertionSortOrdered_string_kp jn (cAt [true, true, true] (bodyOf Try.f48)) (retK Try.prog Try.f48 Q) noX (retK Try.prog Try.f48 Q)) noX) (retK Try.prog Try.f48 Q) m1) (blkX 0 (seqK Try.prog slices_partialInsertionSortOrdered_string_kp jn (cAt [true, true, true] (bodyOf Try.f48)) (retK Try.prog Try.f48 Q) noX (retK Try.prog Try.f48 Q)) noX) (retK Try.prog Try.f48 Q)) (blkX 0 (seqK Try.prog slices_partialInsertionSortOrdered_string_kp jn (cAt [true, true, true] (bodyOf Try.f48)) (retK Try.prog Try.f48 Q) noX (retK Try.prog Try.f48 Q)) noX))) (retK Try.prog Try.f48 Q) m2 ((.slice data0.a data0.n data0.c) :: (.int .i64 a1) :: (.int .i64 b2) :: us 4 ((.int .i64 i7) :: (.int .i64 j8) :: us 124 []))
def slices_partialInsertionSortOrdered_string_j8 (jn : Jn) (Q : Value → WP)   : WP := jn 50 (fun ρ => codeI Try.prog slices_partialInsertionSortOrdered_string_kp jn (cAt [true, true, true] (bodyOf Try.f48)) (retK Try.prog Try.f48 Q) noX (retK Try.prog Try.f48 Q) ρ) (us 133 [])
def slices_partialInsertionSortOrdered_string_l1 (jn : Jn) (Q : Value → WP)  (m1 : Nat) (data0 : Sl) (a1 : Int) (b2 : Int) (i7 : Int) (j8 : Int) : WP := lop Try.prog slices_partialInsertionSortOrdered_string_kp jn (cAt [true, true, false, true, false, false] (bodyOf Try.f48)) (blkX 0 (seqK Try.prog slices_partialInsertionSortOrdered_string_kp jn (cAt [true, true, true] (bodyOf Try.f48)) (retK Try.prog Try.f48 Q) noX (retK Try.prog Try.f48 Q)) noX) (retK Try.prog Try.f48 Q) m1 ((.slice data0.a data0.n data0.c) :: (.int .i64 a1) :: (.int .i64 b2) :: us 4 ((.int .i64 i7) :: (.int .i64 j8) :: us 124 []))
def slices_partialInsertionSortOrdered_string (data0 : Sl) (a1 : Int) (b2 : Int) (Q : Value → WP) : WP := funJ idJ Try.prog slices_partialInsertionSortOrdered_string_kp Try.f48 [.slice data0.a data0.n data0.c, .int .i64 a1, .int .i64 b2] Q
theorem slices_partialInsertionSortOrdered_string_j7_raw (jn : Jn) (Q : Value → WP) (m1 : Nat) (data0 : Sl) (a1 : Int) (b2 : Int) (i7 : Int) (j8 : Int) : codeI Try.prog slices_partialInsertionSortOrdered_string_kp jn (cAt [true, true, false, true, false, false, true, true] (bodyOf Try.f48)) (lopK Try.prog slices_partialInsertionSortOrdered_string_kp jn (cAt [true, true, false, true, false, false] (bodyOf Try.f48)) (blkX 0 (seqK Try.prog slices_partialInsertionSortOrdered_string_kp jn (cAt [true, true, true] (bodyOf Try.f48)) (retK Try.prog Try.f48 Q) noX (retK Try.prog Try.f48 Q)) noX) (retK Try.prog Try.f48 Q) m1) (blkX 0 (seqK Try.prog slices_partialInsertionSortOrdered_string_kp jn (cAt [true, true, true] (bodyOf Try.f48)) (retK Try.prog Try.f48 Q) noX (retK Try.prog Try.f48 Q)) noX) (retK Try.prog Try.f48 Q) ((.slice data0.a data0.n data0.c) :: (.int .i64 a1) :: (.int .i64 b2) :: us 4 ((.int .i64 i7) :: (.int .i64 j8) :: us 124 [])) = (
  slices_partialInsertionSortOrdered_string_l1 jn Q  m1 data0 a1 b2 i7 (IntKind.wrap .i64 (j8 + (1 : Int)))) := by kernel_rfl
theorem slices_partialInsertionSortOrdered_string_j7_def (Q : Value → WP) (m1 : Nat) (data0 : Sl) (a1 : Int) (b2 : Int) (i7 : Int) (j8 : Int) : slices_partialInsertionSortOrdered_string_j7 idJ Q m1 data0 a1 b2 i7 j8 = codeI Try.prog slices_partialInsertionSortOrdered_string_kp idJ (cAt [true, true, false, true, false, false, true, true] (bodyOf Try.f48)) (lopK Try.prog slices_partialInsertionSortOrdered_string_kp idJ (cAt [true, true, false, true, false, false] (bodyOf Try.f48)) (blkX 0 (seqK Try.prog slices_partialInsertionSortOrdered_string_kp idJ (cAt [true, true, true] (bodyOf Try.f48)) (retK Try.prog Try.f48 Q) noX (retK Try.prog Try.f48 Q)) noX) (retK Try.prog Try.f48 Q) m1) (blkX 0 (seqK Try.prog slices_partialInsertionSortOrdered_string_kp idJ (cAt [true, true, true] (bodyOf Try.f48)) (retK Try.prog Try.f48 Q) noX (retK Try.prog Try.f48 Q)) noX) (retK Try.prog Try.f48 Q) ((.slice data0.a data0.n data0.c) :: (.int .i64 a1) :: (.int .i64 b2) :: us 4 ((.int .i64 i7) :: (.int .i64 j8) :: us 124 [])) := by kernel_rfl
theorem slices_partialInsertionSortOrdered_string_l6_raw (jn : Jn) (Q : Value → WP) (m1 : Nat) (m6 : Nat) (data0 : Sl) (a1 : Int) (b2 : Int) (i7 : Int) (j8 : Int) (j10 : Int) : slices_partialInsertionSortOrdered_string_l6 jn Q m1 (m6 + 1) data0 a1 b2 i7 j8 j10 = (
  ite2 (decide (j10 < b2)) (
  drawW fun S =>
  idx data0.a data0.n j10 fun b_25 o_26 =>
  ldS S .str b_25 (o_26 + (j10).toNat * 1) fun (x_27 : ByteArray) =>
  idx data0.a data0.n (IntKind.wrap .i64 (j10 - (1 : Int))) fun b_28 o_29 =>
  ld .str b_28 (o_29 + ((IntKind.wrap .i64 (j10 - (1 : Int)))).toNat * 1) fun (x_30 : ByteArray) =>
  keepS true S <|
  call1 .bool Try.prog id_cmp_Less_string [.string x_27, .string x_30] fun (x_31 : Bool) =>
  ite2 (!x_31) (
  slices_partialInsertionSortOrdered_string_j7 jn Q m1 data0 a1 b2 i7 j8) (
  drawW fun S =>
  idx data0.a data0.n (IntKind.wrap .i64 (j10 - (1 : Int))) fun b_32 o_33 =>
  ldS S .str b_32 (o_33 + ((IntKind.wrap .i64 (j10 - (1 : Int)))).toNat * 1) fun (x_34 : ByteArray) =>
  idx data0.a data0.n j10 fun b_35 o_36 =>
  ld .str b_35 (o_36 + (j10).toNat * 1) fun (x_37 : ByteArray) =>
  keepS true S <|
  idx data0.a data0.n j10 fun b_38 o_39 =>
  st b_38 (o_39 + (j10).toNat * 1) (.string x_34) <|
  idx data0.a data0.n (IntKind.wrap .i64 (j10 - (1 : Int))) fun b_40 o_41 =>
  st b_40 (o_41 + ((IntKind.wrap .i64 (j10 - (1 : Int)))).toNat * 1) (.string x_37) <|
  slices_partialInsertionSortOrdered_string_l6 jn Q m1 m6 data0 a1 b2 i7 j8 (IntKind.wrap .i64 (j10 + (1 : Int))))) (
  slices_partialInsertionSortOrdered_string_j7 jn Q m1 data0 a1 b2 i7 j8)) := by kernel_rfl
theorem slices_partialInsertionSortOrdered_string_l6_zero (jn : Jn) (Q : Value → WP) (m1 : Nat) (data0 : Sl) (a1 : Int) (b2 : Int) (i7 : Int) (j8 : Int) (j10 : Int) : slices_partialInsertionSortOrdered_string_l6 jn Q m1 0 data0 a1 b2 i7 j8 j10 = bot := by kernel_rfl
theorem slices_partialInsertionSortOrdered_string_j5_raw (jn : Jn) (Q : Value → WP) (m1 : Nat) (data0 : Sl) (a1 : Int) (b2 : Int) (i7 : Int) (j8 : Int) : codeI Try.prog slices_partialInsertionSortOrdered_string_kp jn (cAt [true, true, false, true, false, false, true, false, false, true, true, true, true, true] (bodyOf Try.f48)) (seqK Try.prog slices_partialInsertionSortOrdered_string_kp jn (cAt [true, true, false, true, false, false, true, true] (bodyOf Try.f48)) (lopK Try.prog slices_partialInsertionSortOrdered_string_kp jn (cAt [true, true, false, true, false, false] (bodyOf Try.f48)) (blkX 0 (seqK Try.prog slices_partialInsertionSortOrdered_string_kp jn (cAt [true, true, true] (bodyOf Try.f48)) (retK Try.prog Try.f48 Q) noX (retK Try.prog Try.f48 Q)) noX) (retK Try.prog Try.f48 Q) m1) (blkX 0 (seqK Try.prog slices_partialInsertionSortOrdered_string_kp jn (cAt [true, true, true] (bodyOf Try.f48)) (retK Try.prog Try.f48 Q) noX (retK Try.prog Try.f48 Q)) noX) (retK Try.prog Try.f48 Q)) (blkX 1 (seqK Try.prog slices_partialInsertionSortOrdered_string_kp jn (cAt [true, true, false, true, false, false, true, true] (bodyOf Try.f48)) (lopK Try.prog slices_partialInsertionSortOrdered_string_kp jn (cAt [true, true, false, true, false, false] (bodyOf Try.f48)) (blkX 0 (seqK Try.prog slices_partialInsertionSortOrdered_string_kp jn (cAt [true, true, true] (bodyOf Try.f48)) (retK Try.prog Try.f48 Q) noX (retK Try.prog Try.f48 Q)) noX) (retK Try.prog Try.f48 Q) m1) (blkX 0 (seqK Try.prog slices_partialInsertionSortOrdered_string_kp jn (cAt [true, true, true] (bodyOf Try.f48)) (retK Try.prog Try.f48 Q) noX (retK Try.prog Try.f48 Q)) noX) (retK Try.prog Try.f48 Q)) (blkX 0 (seqK Try.prog slices_partialInsertionSortOrdered_string_kp jn (cAt [true, true, true] (bodyOf Try.f48)) (retK Try.prog Try.f48 Q) noX (retK Try.prog Try.f48 Q)) noX)) (retK Try.prog Try.f48 Q) ((.slice data0.a data0.n data0.c) :: (.int .i64 a1) :: (.int .i64 b2) :: us 4 ((.int .i64 i7) :: (.int .i64 j8) :: us 124 [])) = (
  ite2 (decide ((IntKind.wrap .i64 (b2 - i7)) ≥ (2 : Int))) (
  exM fun m => slices_partialInsertionSortOrdered_string_l6 jn Q m1 m data0 a1 b2 i7 j8 (IntKind.wrap .i64 (i7 + (1 : Int)))) (
  slices_partialInsertionSortOrdered_string_j7 jn Q m1 data0 a1 b2 i7 j8)) := by kernel_rfl
theorem slices_partialInsertionSortOrdered_string_j5_def (Q : Value → WP) (m1 : Nat) (data0 : Sl) (a1 : Int) (b2 : Int) (i7 : Int) (j8 : Int) : slices_partialInsertionSortOrdered_string_j5 idJ Q m1 data0 a1 b2 i7 j8 = codeI Try.prog slices_partialInsertionSortOrdered_string_kp idJ (cAt [true, true, false, true, false, false, true, false, false, true, true, true, true, true] (bodyOf Try.f48)) (seqK Try.prog slices_partialInsertionSortOrdered_string_kp idJ (cAt [true, true, false, true, false, false, true, true] (bodyOf Try.f48)) (lopK Try.prog slices_partialInsertionSortOrdered_string_kp idJ (cAt [true, true, false, true, false, false] (bodyOf Try.f48)) (blkX 0 (seqK Try.prog slices_partialInsertionSortOrdered_string_kp idJ (cAt [true, true, true] (bodyOf Try.f48)) (retK Try.prog Try.f48 Q) noX (retK Try.prog Try.f48 Q)) noX) (retK Try.prog Try.f48 Q) m1) (blkX 0 (seqK Try.prog slices_partialInsertionSortOrdered_string_kp idJ (cAt [true, true, true] (bodyOf Try.f48)) (retK Try.prog Try.f48 Q) noX (retK Try.prog Try.f48 Q)) noX) (retK Try.prog Try.f48 Q)) (blkX 1 (seqK Try.prog slices_partialInsertionSortOrdered_string_kp idJ (cAt [true, true, false, true, false, false, true, true] (bodyOf Try.f48)) (lopK Try.prog slices_partialInsertionSortOrdered_string_kp idJ (cAt [true, true, false, true, false, false] (bodyOf Try.f48)) (blkX 0 (seqK Try.prog slices_partialInsertionSortOrdered_string_kp idJ (cAt [true, true, true] (bodyOf Try.f48)) (retK Try.prog Try.f48 Q) noX (retK Try.prog Try.f48 Q)) noX) (retK Try.prog Try.f48 Q) m1) (blkX 0 (seqK Try.prog slices_partialInsertionSortOrdered_string_kp idJ (cAt [true, true, true] (bodyOf Try.f48)) (retK Try.prog Try.f48 Q) noX (retK Try.prog Try.f48 Q)) noX) (retK Try.prog Try.f48 Q)) (blkX 0 (seqK Try.prog slices_partialInsertionSortOrdered_string_kp idJ (cAt [true, true, true] (bodyOf Try.f48)) (retK Try.prog Try.f48 Q) noX (retK Try.prog Try.f48 Q)) noX)) (retK Try.prog Try.f48 Q) ((.slice data0.a data0.n data0.c) :: (.int .i64 a1) :: (.int .i64 b2) :: us 4 ((.int .i64 i7) :: (.int .i64 j8) :: us 124 [])) := by kernel_rfl
theorem slices_partialInsertionSortOrdered_string_l4_raw (jn : Jn) (Q : Value → WP) (m1 : Nat) (m4 : Nat) (data0 : Sl) (a1 : Int) (b2 : Int) (i7 : Int) (j8 : Int) (j9 : Int) : slices_partialInsertionSortOrdered_string_l4 jn Q m1 (m4 + 1) data0 a1 b2 i7 j8 j9 = (
  ite2 (decide (j9 ≥ (1 : Int))) (
  drawW fun S =>
  idx data0.a data0.n j9 fun b_18 o_19 =>
  ldS S .str b_18 (o_19 + (j9).toNat * 1) fun (x_20 : ByteArray) =>
  idx data0.a data0.n (IntKind.wrap .i64 (j9 - (1 : Int))) fun b_21 o_22 =>
  ld .str b_21 (o_22 + ((IntKind.wrap .i64 (j9 - (1 : Int)))).toNat * 1) fun (x_23 : ByteArray) =>
  keepS true S <|
  call1 .bool Try.prog id_cmp_Less_string [.string x_20, .string x_23] fun (x_24 : Bool) =>
  ite2 (!x_24) (
  slices_partialInsertionSortOrdered_string_j5 jn Q m1 data0 a1 b2 i7 j8) (
  drawW fun S =>
  idx data0.a data0.n (IntKind.wrap .i64 (j9 - (1 : Int))) fun b_42 o_43 =>
  ldS S .str b_42 (o_43 + ((IntKind.wrap .i64 (j9 - (1 : Int)))).toNat * 1) fun (x_44 : ByteArray) =>
  idx data0.a data0.n j9 fun b_45 o_46 =>
  ld .str b_45 (o_46 + (j9).toNat * 1) fun (x_47 : ByteArray) =>
  keepS true S <|
  idx data0.a data0.n j9 fun b_48 o_49 =>
  st b_48 (o_49 + (j9).toNat * 1) (.string x_44) <|
  idx data0.a data0.n (IntKind.wrap .i64 (j9 - (1 : Int))) fun b_50 o_51 =>
  st b_50 (o_51 + ((IntKind.wrap .i64 (j9 - (1 : Int)))).toNat * 1) (.string x_47) <|
  slices_partialInsertionSortOrdered_string_l4 jn Q m1 m4 data0 a1 b2 i7 j8 (IntKind.wrap .i64 (j9 - (1 : Int))))) (
  slices_partialInsertionSortOrdered_string_j5 jn Q m1 data0 a1 b2 i7 j8)) := by kernel_rfl
theorem slices_partialInsertionSortOrdered_string_l4_zero (jn : Jn) (Q : Value → WP) (m1 : Nat) (data0 : Sl) (a1 : Int) (b2 : Int) (i7 : Int) (j8 : Int) (j9 : Int) : slices_partialInsertionSortOrdered_string_l4 jn Q m1 0 data0 a1 b2 i7 j8 j9 = bot := by kernel_rfl
theorem slices_partialInsertionSortOrdered_string_j3_raw (jn : Jn) (Q : Value → WP) (m1 : Nat) (data0 : Sl) (a1 : Int) (b2 : Int) (i7 : Int) (j8 : Int) : codeI Try.prog slices_partialInsertionSortOrdered_string_kp jn (cAt [true, true, false, true, false, false, true, false, false, true] (bodyOf Try.f48)) (seqK Try.prog slices_partialInsertionSortOrdered_string_kp jn (cAt [true, true, false, true, false, false, true, true] (bodyOf Try.f48)) (lopK Try.prog slices_partialInsertionSortOrdered_string_kp jn (cAt [true, true, false, true, false, false] (bodyOf Try.f48)) (blkX 0 (seqK Try.prog slices_partialInsertionSortOrdered_string_kp jn (cAt [true, true, true] (bodyOf Try.f48)) (retK Try.prog Try.f48 Q) noX (retK Try.prog Try.f48 Q)) noX) (retK Try.prog Try.f48 Q) m1) (blkX 0 (seqK Try.prog slices_partialInsertionSortOrdered_string_kp jn (cAt [true, true, true] (bodyOf Try.f48)) (retK Try.prog Try.f48 Q) noX (retK Try.prog Try.f48 Q)) noX) (retK Try.prog Try.f48 Q)) (blkX 1 (seqK Try.prog slices_partialInsertionSortOrdered_string_kp jn (cAt [true, true, false, true, false, false, true, true] (bodyOf Try.f48)) (lopK Try.prog slices_partialInsertionSortOrdered_string_kp jn (cAt [true, true, false, true, false, false] (bodyOf Try.f48)) (blkX 0 (seqK Try.prog slices_partialInsertionSortOrdered_string_kp jn (cAt [true, true, true] (bodyOf Try.f48)) (retK Try.prog Try.f48 Q) noX (retK Try.prog Try.f48 Q)) noX) (retK Try.prog Try.f48 Q) m1) (blkX 0 (seqK Try.prog slices_partialInsertionSortOrdered_string_kp jn (cAt [true, true, true] (bodyOf Try.f48)) (retK Try.prog Try.f48 Q) noX (retK Try.prog Try.f48 Q)) noX) (retK Try.prog Try.f48 Q)) (blkX 0 (seqK Try.prog slices_partialInsertionSortOrdered_string_kp jn (cAt [true, true, true] (bodyOf Try.f48)) (retK Try.prog Try.f48 Q) noX (retK Try.prog Try.f48 Q)) noX)) (retK Try.prog Try.f48 Q) ((.slice data0.a data0.n data0.c) :: (.int .i64 a1) :: (.int .i64 b2) :: us 4 ((.int .i64 i7) :: (.int .i64 j8) :: us 124 [])) = (
  ite2 (i7 == b2) (
  Q (.bool true)) (
  ite2 (decide ((IntKind.wrap .i64 (b2 - a1)) < (50 : Int))) (
  Q (.bool false)) (
  drawW fun S =>
  idx data0.a data0.n (IntKind.wrap .i64 (i7 - (1 : Int))) fun b_8 o_9 =>
  ldS S .str b_8 (o_9 + ((IntKind.wrap .i64 (i7 - (1 : Int)))).toNat * 1) fun (x_10 : ByteArray) =>
  idx data0.a data0.n i7 fun b_11 o_12 =>
  ld .str b_11 (o_12 + (i7).toNat * 1) fun (x_13 : ByteArray) =>
  keepS true S <|
  idx data0.a data0.n i7 fun b_14 o_15 =>
  st b_14 (o_15 + (i7).toNat * 1) (.string x_10) <|
  idx data0.a data0.n (IntKind.wrap .i64 (i7 - (1 : Int))) fun b_16 o_17 =>
  st b_16 (o_17 + ((IntKind.wrap .i64 (i7 - (1 : Int)))).toNat * 1) (.string x_13) <|
  ite2 (decide ((IntKind.wrap .i64 (i7 - a1)) ≥ (2 : Int))) (
  exM fun m => slices_partialInsertionSortOrdered_string_l4 jn Q m1 m data0 a1 b2 i7 j8 (IntKind.wrap .i64 (i7 - (1 : Int)))) (
  slices_partialInsertionSortOrdered_string_j5 jn Q m1 data0 a1 b2 i7 j8)))) := by kernel_rfl
theorem slices_partialInsertionSortOrdered_string_j3_def (Q : Value → WP) (m1 : Nat) (data0 : Sl) (a1 : Int) (b2 : Int) (i7 : Int) (j8 : Int) : slices_partialInsertionSortOrdered_string_j3 idJ Q m1 data0 a1 b2 i7 j8 = codeI Try.prog slices_partialInsertionSortOrdered_string_kp idJ (cAt [true, true, false, true, false, false, true, false, false, true] (bodyOf Try.f48)) (seqK Try.prog slices_partialInsertionSortOrdered_string_kp idJ (cAt [true, true, false, true, false, false, true, true] (bodyOf Try.f48)) (lopK Try.prog slices_partialInsertionSortOrdered_string_kp idJ (cAt [true, true, false, true, false, false] (bodyOf Try.f48)) (blkX 0 (seqK Try.prog slices_partialInsertionSortOrdered_string_kp idJ (cAt [true, true, true] (bodyOf Try.f48)) (retK Try.prog Try.f48 Q) noX (retK Try.prog Try.f48 Q)) noX) (retK Try.prog Try.f48 Q) m1) (blkX 0 (seqK Try.prog slices_partialInsertionSortOrdered_string_kp idJ (cAt [true, true, true] (bodyOf Try.f48)) (retK Try.prog Try.f48 Q) noX (retK Try.prog Try.f48 Q)) noX) (retK Try.prog Try.f48 Q)) (blkX 1 (seqK Try.prog slices_partialInsertionSortOrdered_string_kp idJ (cAt [true, true, false, true, false, false, true, true] (bodyOf Try.f48)) (lopK Try.prog slices_partialInsertionSortOrdered_string_kp idJ (cAt [true, true, false, true, false, false] (bodyOf Try.f48)) (blkX 0 (seqK Try.prog slices_partialInsertionSortOrdered_string_kp idJ (cAt [true, true, true] (bodyOf Try.f48)) (retK Try.prog Try.f48 Q) noX (retK Try.prog Try.f48 Q)) noX) (retK Try.prog Try.f48 Q) m1) (blkX 0 (seqK Try.prog slices_partialInsertionSortOrdered_string_kp idJ (cAt [true, true, true] (bodyOf Try.f48)) (retK Try.prog Try.f48 Q) noX (retK Try.prog Try.f48 Q)) noX) (retK Try.prog Try.f48 Q)) (blkX 0 (seqK Try.prog slices_partialInsertionSortOrdered_string_kp idJ (cAt [true, true, true] (bodyOf Try.f48)) (retK Try.prog Try.f48 Q) noX (retK Try.prog Try.f48 Q)) noX)) (retK Try.prog Try.f48 Q) ((.slice data0.a data0.n data0.c) :: (.int .i64 a1) :: (.int .i64 b2) :: us 4 ((.int .i64 i7) :: (.int .i64 j8) :: us 124 [])) := by kernel_rfl
theorem slices_partialInsertionSortOrdered_string_l2_raw (jn : Jn) (Q : Value → WP) (m1 : Nat) (m2 : Nat) (data0 : Sl) (a1 : Int) (b2 : Int) (i7 : Int) (j8 : Int) : slices_partialInsertionSortOrdered_string_l2 jn Q m1 (m2 + 1) data0 a1 b2 i7 j8 = (
  drawW fun S =>
  ite2 (decide (i7 < b2)) (
  idx data0.a data0.n i7 fun b_1 o_2 =>
  ldS S .str b_1 (o_2 + (i7).toNat * 1) fun (x_3 : ByteArray) =>
  idx data0.a data0.n (IntKind.wrap .i64 (i7 - (1 : Int))) fun b_4 o_5 =>
  ld .str b_4 (o_5 + ((IntKind.wrap .i64 (i7 - (1 : Int)))).toNat * 1) fun (x_6 : ByteArray) =>
  keepS true S <|
  call1 .bool Try.prog id_cmp_Less_string [.string x_3, .string x_6] fun (x_7 : Bool) =>
  ite2 (!x_7) (
  slices_partialInsertionSortOrdered_string_l2 jn Q m1 m2 data0 a1 b2 (IntKind.wrap .i64 (i7 + (1 : Int))) j8) (
  slices_partialInsertionSortOrdered_string_j3 jn Q m1 data0 a1 b2 i7 j8)) (
  keepS true S <|
  slices_partialInsertionSortOrdered_string_j3 jn Q m1 data0 a1 b2 i7 j8)) := by kernel_rfl
theorem slices_partialInsertionSortOrdered_string_l2_zero (jn : Jn) (Q : Value → WP) (m1 : Nat) (data0 : Sl) (a1 : Int) (b2 : Int) (i7 : Int) (j8 : Int) : slices_partialInsertionSortOrdered_string_l2 jn Q m1 0 data0 a1 b2 i7 j8 = bot := by kernel_rfl
theorem slices_partialInsertionSortOrdered_string_j8_raw (jn : Jn) (Q : Value → WP)   : codeI Try.prog slices_partialInsertionSortOrdered_string_kp jn (cAt [true, true, true] (bodyOf Try.f48)) (retK Try.prog Try.f48 Q) noX (retK Try.prog Try.f48 Q) (us 133 []) = (
  Q (.bool false)) := by kernel_rfl
theorem slices_partialInsertionSortOrdered_string_j8_def (Q : Value → WP)   : slices_partialInsertionSortOrdered_string_j8 idJ Q   = codeI Try.prog slices_partialInsertionSortOrdered_string_kp idJ (cAt [true, true, true] (bodyOf Try.f48)) (retK Try.prog Try.f48 Q) noX (retK Try.prog Try.f48 Q) (us 133 []) := by kernel_rfl
theorem slices_partialInsertionSortOrdered_string_l1_raw (jn : Jn) (Q : Value → WP)  (m1 : Nat) (data0 : Sl) (a1 : Int) (b2 : Int) (i7 : Int) (j8 : Int) : slices_partialInsertionSortOrdered_string_l1 jn Q  (m1 + 1) data0 a1 b2 i7 j8 = (
  ite2 (decide (j8 < (5 : Int))) (
  exM fun m => slices_partialInsertionSortOrdered_string_l2 jn Q m1 m data0 a1 b2 i7 j8) (
  slices_partialInsertionSortOrdered_string_j8 jn Q  )) := by kernel_rfl
theorem slices_partialInsertionSortOrdered_string_l1_zero (jn : Jn) (Q : Value → WP)  (data0 : Sl) (a1 : Int) (b2 : Int) (i7 : Int) (j8 : Int) : slices_partialInsertionSortOrdered_string_l1 jn Q  0 data0 a1 b2 i7 j8 = bot := by kernel_rfl
theorem slices_partialInsertionSortOrdered_string_raw (jn : Jn) (data0 : Sl) (a1 : Int) (b2 : Int) (Q : Value → WP) : funJ jn Try.prog slices_partialInsertionSortOrdered_string_kp Try.f48 [.slice data0.a data0.n data0.c, .int .i64 a1, .int .i64 b2] Q = (
  exM fun m => slices_partialInsertionSortOrdered_string_l1 jn Q  m data0 a1 b2 (IntKind.wrap .i64 (a1 + (1 : Int))) (0 : Int)) := by kernel_rfl
theorem slices_partialInsertionSortOrdered_string_def (data0 : Sl) (a1 : Int) (b2 : Int) (Q : Value → WP) : slices_partialInsertionSortOrdered_string data0 a1 b2 Q = funJ idJ Try.prog slices_partialInsertionSortOrdered_string_kp Try.f48 [.slice data0.a data0.n data0.c, .int .i64 a1, .int .i64 b2] Q := rfl
theorem slices_partialInsertionSortOrdered_string_calls {data0 : Sl} {a1 : Int} {b2 : Int} {Q : Value → WP} {w : World} (h : slices_partialInsertionSortOrdered_string data0 a1 b2 Q w) : Calls Try.prog id_slices_partialInsertionSortOrdered_string #[.slice data0.a data0.n data0.c, .int .i64 a1, .int .i64 b2] w fun e w' => ∃ v, e = .returned v ∧ Q v w' :=
  funJ_calls mixed Try.func48 rfl h

-- cmp.Less[string]
def cmp_Less_string_kp : KP := ⟨[], []⟩
def cmp_Less_string (x0 : ByteArray) (y1 : ByteArray) (Q : Value → WP) : WP := funJ idJ Try.prog cmp_Less_string_kp Try.f49 [.string x0, .string y1] Q
theorem cmp_Less_string_raw (jn : Jn) (x0 : ByteArray) (y1 : ByteArray) (Q : Value → WP) : funJ jn Try.prog cmp_Less_string_kp Try.f49 [.string x0, .string y1] Q = (
  call1 .bool Try.prog id_cmp_isNaN_string [.string x0] fun (x_1 : Bool) =>
  ite2 x_1 (
  call1 .bool Try.prog id_cmp_isNaN_string [.string y1] fun (x_2 : Bool) =>
  ite2 (!x_2) (
  Q (.bool true)) (
  Q (.bool (sLt x0 y1)))) (
  Q (.bool (sLt x0 y1)))) := by kernel_rfl
theorem cmp_Less_string_def (x0 : ByteArray) (y1 : ByteArray) (Q : Value → WP) : cmp_Less_string x0 y1 Q = funJ idJ Try.prog cmp_Less_string_kp Try.f49 [.string x0, .string y1] Q := rfl
theorem cmp_Less_string_calls {x0 : ByteArray} {y1 : ByteArray} {Q : Value → WP} {w : World} (h : cmp_Less_string x0 y1 Q w) : Calls Try.prog id_cmp_Less_string #[.string x0, .string y1] w fun e w' => ∃ v, e = .returned v ∧ Q v w' :=
  funJ_calls mixed Try.func49 rfl h

-- slices.partitionEqualOrdered[string]
def slices_partitionEqualOrdered_string_kp : KP := ⟨[(9, [0, 1, 9, 10]), (12, [0, 1, 9, 10]), (13, [0, 1, 9, 10]), (16, [0, 1, 9, 10]), (24, [9])], [(1, [0, 1, 2, 3, 4, 5, 6, 7, 8, 9, 10, 12, 14]), (3, [0, 1, 2, 3, 4, 5, 6, 7, 8, 9, 10, 13, 14]), (5, [0, 1, 2, 3, 4, 5, 6, 7, 8, 9, 10, 13]), (8, [0, 1, 2, 3, 4, 5, 6, 7, 8, 9, 10, 12, 14])]⟩
def slices_partitionEqualOrdered_string_j6 (jn : Jn) (Q : Value → WP)  (i9 : Int) : WP := jn 24 (fun ρ => codeI Try.prog slices_partitionEqualOrdered_string_kp jn (cAt [true, true, true, true] (bodyOf Try.f50)) (retK Try.prog Try.f50 Q) noX (retK Try.prog Try.f50 Q) ρ) (us 9 ((.int .i64 i9) :: us 74 []))
def slices_partitionEqualOrdered_string_j5 (jn : Jn) (Q : Value → WP) (m1 : Nat) (data0 : Sl) (a1 : Int) (i9 : Int) (j10 : Int) : WP := jn 16 (fun ρ => codeI Try.prog slices_partitionEqualOrdered_string_kp jn (cAt [true, true, true, false, false, false, false, true, true] (bodyOf Try.f50)) (lopK Try.prog slices_partitionEqualOrdered_string_kp jn (cAt [true, true, true, false, false, false] (bodyOf Try.f50)) (blkX 0 (seqK Try.prog slices_partitionEqualOrdered_string_kp jn (cAt [true, true, true, true] (bodyOf Try.f50)) (retK Try.prog Try.f50 Q) noX (retK Try.prog Try.f50 Q)) noX) (retK Try.prog Try.f50 Q) m1) (blkX 1 (lopK Try.prog slices_partitionEqualOrdered_string_kp jn (cAt [true, true, true, false, false, false] (bodyOf Try.f50)) (blkX 0 (seqK Try.prog slices_partitionEqualOrdered_string_kp jn (cAt [true, true, true, true] (bodyOf Try.f50)) (retK Try.prog Try.f50 Q) noX (retK Try.prog Try.f50 Q)) noX) (retK Try.prog Try.f50 Q) m1) (blkX 0 (seqK Try.prog slices_partitionEqualOrdered_string_kp jn (cAt [true, true, true, true] (bodyOf Try.f50)) (retK Try.prog Try.f50 Q) noX (retK Try.prog Try.f50 Q)) noX)) (retK Try.prog Try.f50 Q) ρ) ((.slice data0.a data0.n data0.c) :: (.int .i64 a1) :: us 7 ((.int .i64 i9) :: (.int .i64 j10) :: us 73 []))
def slices_partitionEqualOrdered_string_l4 (jn : Jn) (Q : Value → WP) (m1 : Nat) (m4 : Nat) (data0 : Sl) (a1 : Int) (i9 : Int) (j10 : Int) : WP := lop Try.prog slices_partitionEqualOrdered_string_kp jn (cAt [true, true, true, false, false, false, false, true, false, false, false] (bodyOf Try.f50)) (blkX 4 (seqK Try.prog slices_partitionEqualOrdered_string_kp jn (cAt [true, true, true, false, false, false, false, true, true] (bodyOf Try.f50)) (lopK Try.prog slices_partitionEqualOrdered_string_kp jn (cAt [true, true, true, false, false, false] (bodyOf Try.f50)) (blkX 0 (seqK Try.prog slices_partitionEqualOrdered_string_kp jn (cAt [true, true, true, true] (bodyOf Try.f50)) (retK Try.prog Try.f50 Q) noX (retK Try.prog Try.f50 Q)) noX) (retK Try.prog Try.f50 Q) m1) (blkX 1 (lopK Try.prog slices_partitionEqualOrdered_string_kp jn (cAt [true, true, true, false, false, false] (bodyOf Try.f50)) (blkX 0 (seqK Try.prog slices_partitionEqualOrdered_string_kp jn (cAt [true, true, true, true] (bodyOf Try.f50)) (retK Try.prog Try.f50 Q) noX (retK Try.prog Try.f50 Q)) noX) (retK Try.prog Try.f50 Q) m1) (blkX 0 (seqK Try.prog slices_partitionEqualOrdered_string_kp jn (cAt [true, true, true, true] (bodyOf Try.f50)) (retK Try.prog Try.f50 Q) noX (retK Try.prog Try.f50 Q)) noX)) (retK Try.prog Try.f50 Q)) (blkX 1 (lopK Try.prog slices_partitionEqualOrdered_string_kp jn (cAt [true, true, true, false, false, false] (bodyOf Try.f50)) (blkX 0 (seqK Try.prog slices_partitionEqualOrdered_string_kp jn (cAt [true, true, true, true] (bodyOf Try.f50)) (retK Try.prog Try.f50 Q) noX (retK Try.prog Try.f50 Q)) noX) (retK Try.prog Try.f50 Q) m1) (blkX 0 (seqK Try.prog slices_partitionEqualOrdered_string_kp jn (cAt [true, true, true, true] (bodyOf Try.f50)) (retK Try.prog Try.f50 Q) noX (retK Try.prog Try.f50 Q)) noX))) (retK Try.prog Try.f50 Q) m4 ((.slice data0.a data0.n data0.c) :: (.int .i64 a1) :: us 7 ((.int .i64 i9) :: (.int .i64 j10) :: us 73 []))
def slices_partitionEqualOrdered_string_j3 (jn : Jn) (Q : Value → WP) (m1 : Nat) (data0 : Sl) (a1 : Int) (i9 : Int) (j10 : Int) : WP := jn 12 (fun ρ => codeI Try.prog slices_partitionEqualOrdered_string_kp jn (cAt [true, true, true, false, false, false, false, true] (bodyOf Try.f50)) (lopK Try.prog slices_partitionEqualOrdered_string_kp jn (cAt [true, true, true, false, false, false] (bodyOf Try.f50)) (blkX 0 (seqK Try.prog slices_partitionEqualOrdered_string_kp jn (cAt [true, true, true, true] (bodyOf Try.f50)) (retK Try.prog Try.f50 Q) noX (retK Try.prog Try.f50 Q)) noX) (retK Try.prog Try.f50 Q) m1) (blkX 1 (lopK Try.prog slices_partitionEqualOrdered_string_kp jn (cAt [true, true, true, false, false, false] (bodyOf Try.f50)) (blkX 0 (seqK Try.prog slices_partitionEqualOrdered_string_kp jn (cAt [true, true, true, true] (bodyOf Try.f50)) (retK Try.prog Try.f50 Q) noX (retK Try.prog Try.f50 Q)) noX) (retK Try.prog Try.f50 Q) m1) (blkX 0 (seqK Try.prog slices_partitionEqualOrdered_string_kp jn (cAt [true, true, true, true] (bodyOf Try.f50)) (retK Try.prog Try.f50 Q) noX (retK Try.prog Try.f50 Q)) noX)) (retK Try.prog Try.f50 Q) ρ) ((.slice data0.a data0.n data0.c) :: (.int .i64 a1) :: us 7 ((.int .i64 i9) :: (.int .i64 j10) :: us 73 []))
def slices_partitionEqualOrdered_string_l2 (jn : Jn) (Q : Value → WP) (m1 : Nat) (m2 : Nat) (data0 : Sl) (a1 : Int) (i9 : Int) (j10 : Int) : WP := lop Try.prog slices_partitionEqualOrdered_string_kp jn (cAt [true, true, true, false, false, false, false, false, false, false] (bodyOf Try.f50)) (blkX 2 (seqK Try.prog slices_partitionEqualOrdered_string_kp jn (cAt [true, true, true, false, false, false, false, true] (bodyOf Try.f50)) (lopK Try.prog slices_partitionEqualOrdered_string_kp jn (cAt [true, true, true, false, false, false] (bodyOf Try.f50)) (blkX 0 (seqK Try.prog slices_partitionEqualOrdered_string_kp jn (cAt [true, true, true, true] (bodyOf Try.f50)) (retK Try.prog Try.f50 Q) noX (retK Try.prog Try.f50 Q)) noX) (retK Try.prog Try.f50 Q) m1) (blkX 1 (lopK Try.prog slices_partitionEqualOrdered_string_kp jn (cAt [true, true, true, false, false, false] (bodyOf Try.f50)) (blkX 0 (seqK Try.prog slices_partitionEqualOrdered_string_kp jn (cAt [true, true, true, true] (bodyOf Try.f50)) (retK Try.prog Try.f50 Q) noX (retK Try.prog Try.f50 Q)) noX) (retK Try.prog Try.f50 Q) m1) (blkX 0 (seqK Try.prog slices_partitionEqualOrdered_string_kp jn (cAt [true, true, true, true] (bodyOf Try.f50)) (retK Try.prog Try.f50 Q) noX (retK Try.prog Try.f50 Q)) noX)) (retK Try.prog Try.f50 Q)) (blkX 1 (lopK Try.prog slices_partitionEqualOrdered_string_kp jn (cAt [true, true, true, false, false, false] (bodyOf Try.f50)) (blkX 0 (seqK Try.prog slices_partitionEqualOrdered_string_kp jn (cAt [true, true, true, true] (bodyOf Try.f50)) (retK Try.prog Try.f50 Q) noX (retK Try.prog Try.f50 Q)) noX) (retK Try.prog Try.f50 Q) m1) (blkX 0 (seqK Try.prog slices_partitionEqualOrdered_string_kp jn (cAt [true, true, true, true] (bodyOf Try.f50)) (retK Try.prog Try.f50 Q) noX (retK Try.prog Try.f50 Q)) noX))) (retK Try.prog Try.f50 Q) m2 ((.slice data0.a data0.n data0.c) :: (.int .i64 a1) :: us 7 ((.int .i64 i9) :: (.int .i64 j10) :: us 73 []))
def slices_partitionEqualOrdered_string_l1 (jn : Jn) (Q : Value → WP)  (m1 : Nat) (data0 : Sl) (a1 : Int) (i9 : Int) (j10 : Int) : WP := lop Try.prog slices_partitionEqualOrdered_string_kp jn (cAt [true, true, true, false, false, false] (bodyOf Try.f50)) (blkX 0 (seqK Try.prog slices_partitionEqualOrdered_string_kp jn (cAt [true, true, true, true] (bodyOf Try.f50)) (retK Try.prog Try.f50 Q) noX (retK Try.prog Try.f50 Q)) noX) (retK Try.prog Try.f50 Q) m1 ((.slice data0.a data0.n data0.c) :: (.int .i64 a1) :: us 7 ((.int .i64 i9) :: (.int .i64 j10) :: us 73 []))
def slices_partitionEqualOrdered_string (data0 : Sl) (a1 : Int) (b2 : Int) (pivot3 : Int) (Q : Value → WP) : WP := funJ idJ Try.prog slices_partitionEqualOrdered_string_kp Try.f50 [.slice data0.a data0.n data0.c, .int .i64 a1, .int .i64 b2, .int .i64 pivot3] Q
theorem slices_partitionEqualOrdered_string_j6_raw (jn : Jn) (Q : Value → WP)  (i9 : Int) : codeI Try.prog slices_partitionEqualOrdered_string_kp jn (cAt [true, true, true, true] (bodyOf Try.f50)) (retK Try.prog Try.f50 Q) noX (retK Try.prog Try.f50 Q) (us 9 ((.int .i64 i9) :: us 74 [])) = (
  Q (.int .i64 i9)) := by kernel_rfl
theorem slices_partitionEqualOrdered_string_j6_def (Q : Value → WP)  (i9 : Int) : slices_partitionEqualOrdered_string_j6 idJ Q  i9 = codeI Try.prog slices_partitionEqualOrdered_string_kp idJ (cAt [true, true, true, true] (bodyOf Try.f50)) (retK Try.prog Try.f50 Q) noX (retK Try.prog Try.f50 Q) (us 9 ((.int .i64 i9) :: us 74 [])) := by kernel_rfl
theorem slices_partitionEqualOrdered_string_j5_raw (jn : Jn) (Q : Value → WP) (m1 : Nat) (data0 : Sl) (a1 : Int) (i9 : Int) (j10 : Int) : codeI Try.prog slices_partitionEqualOrdered_string_kp jn (cAt [true, true, true, false, false, false, false, true, true] (bodyOf Try.f50)) (lopK Try.prog slices_partitionEqualOrdered_string_kp jn (cAt [true, true, true, false, false, false] (bodyOf Try.f50)) (blkX 0 (seqK Try.prog slices_partitionEqualOrdered_string_kp jn (cAt [true, true, true, true] (bodyOf Try.f50)) (retK Try.prog Try.f50 Q) noX (retK Try.prog Try.f50 Q)) noX) (retK Try.prog Try.f50 Q) m1) (blkX 1 (lopK Try.prog slices_partitionEqualOrdered_string_kp jn (cAt [true, true, true, false, false, false] (bodyOf Try.f50)) (blkX 0 (seqK Try.prog slices_partitionEqualOrdered_string_kp jn (cAt [true, true, true, true] (bodyOf Try.f50)) (retK Try.prog Try.f50 Q) noX (retK Try.prog Try.f50 Q)) noX) (retK Try.prog Try.f50 Q) m1) (blkX 0 (seqK Try.prog slices_partitionEqualOrdered_string_kp jn (cAt [true, true, true, true] (bodyOf Try.f50)) (retK Try.prog Try.f50 Q) noX (retK Try.prog Try.f50 Q)) noX)) (retK Try.prog Try.f50 Q) ((.slice data0.a data0.n data0.c) :: (.int .i64 a1) :: us 7 ((.int .i64 i9) :: (.int .i64 j10) :: us 73 [])) = (
  ite2 (decide (i9 > j10)) (
  slices_partitionEqualOrdered_string_j6 jn Q  i9) (
  drawW fun S =>
  idx data0.a data0.n j10 fun b_25 o_26 =>
  ldS S .str b_25 (o_26 + (j10).toNat * 1) fun (x_27 : ByteArray) =>
  idx data0.a data0.n i9 fun b_28 o_29 =>
  ld .str b_28 (o_29 + (i9).toNat * 1) fun (x_30 : ByteArray) =>
  keepS true S <|
  idx data0.a data0.n i9 fun b_31 o_32 =>
  st b_31 (o_32 + (i9).toNat * 1) (.string x_27) <|
  idx data0.a data0.n j10 fun b_33 o_34 =>
  st b_33 (o_34 + (j10).toNat * 1) (.string x_30) <|
  slices_partitionEqualOrdered_string_l1 jn Q  m1 data0 a1 (IntKind.wrap .i64 (i9 + (1 : Int))) (IntKind.wrap .i64 (j10 - (1 : Int))))) := by kernel_rfl
theorem slices_partitionEqualOrdered_string_j5_def (Q : Value → WP) (m1 : Nat) (data0 : Sl) (a1 : Int) (i9 : Int) (j10 : Int) : slices_partitionEqualOrdered_string_j5 idJ Q m1 data0 a1 i9 j10 = codeI Try.prog slices_partitionEqualOrdered_string_kp idJ (cAt [true, true, true, false, false, false, false, true, true] (bodyOf Try.f50)) (lopK Try.prog slices_partitionEqualOrdered_string_kp idJ (cAt [true, true, true, false, false, false] (bodyOf Try.f50)) (blkX 0 (seqK Try.prog slices_partitionEqualOrdered_string_kp idJ (cAt [true, true, true, true] (bodyOf Try.f50)) (retK Try.prog Try.f50 Q) noX (retK Try.prog Try.f50 Q)) noX) (retK Try.prog Try.f50 Q) m1) (blkX 1 (lopK Try.prog slices_partitionEqualOrdered_string_kp idJ (cAt [true, true, true, false, false, false] (bodyOf Try.f50)) (blkX 0 (seqK Try.prog slices_partitionEqualOrdered_string_kp idJ (cAt [true, true, true, true] (bodyOf Try.f50)) (retK Try.prog Try.f50 Q) noX (retK Try.prog Try.f50 Q)) noX) (retK Try.prog Try.f50 Q) m1) (blkX 0 (seqK Try.prog slices_partitionEqualOrdered_string_kp idJ (cAt [true, true, true, true] (bodyOf Try.f50)) (retK Try.prog Try.f50 Q) noX (retK Try.prog Try.f50 Q)) noX)) (retK Try.prog Try.f50 Q) ((.slice data0.a data0.n data0.c) :: (.int .i64 a1) :: us 7 ((.int .i64 i9) :: (.int .i64 j10) :: us 73 [])) := by kernel_rfl
theorem slices_partitionEqualOrdered_string_l4_raw (jn : Jn) (Q : Value → WP) (m1 : Nat) (m4 : Nat) (data0 : Sl) (a1 : Int) (i9 : Int) (j10 : Int) : slices_partitionEqualOrdered_string_l4 jn Q m1 (m4 + 1) data0 a1 i9 j10 = (
  drawW fun S =>
  ite2 (decide (i9 ≤ j10)) (
  idx data0.a data0.n a1 fun b_18 o_19 =>
  ldS S .str b_18 (o_19 + (a1).toNat * 1) fun (x_20 : ByteArray) =>
  idx data0.a data0.n j10 fun b_21 o_22 =>
  ld .str b_21 (o_22 + (j10).toNat * 1) fun (x_23 : ByteArray) =>
  keepS true S <|
  call1 .bool Try.prog id_cmp_Less_string [.string x_20, .string x_23] fun (x_24 : Bool) =>
  ite2 x_24 (
  slices_partitionEqualOrdered_string_l4 jn Q m1 m4 data0 a1 i9 (IntKind.wrap .i64 (j10 - (1 : Int)))) (
  slices_partitionEqualOrdered_string_j5 jn Q m1 data0 a1 i9 j10)) (
  keepS true S <|
  slices_partitionEqualOrdered_string_j5 jn Q m1 data0 a1 i9 j10)) := by kernel_rfl
theorem slices_partitionEqualOrdered_string_l4_zero (jn : Jn) (Q : Value → WP) (m1 : Nat) (data0 : Sl) (a1 : Int) (i9 : Int) (j10 : Int) : slices_partitionEqualOrdered_string_l4 jn Q m1 0 data0 a1 i9 j10 = bot := by kernel_rfl
theorem slices_partitionEqualOrdered_string_j3_raw (jn : Jn) (Q : Value → WP) (m1 : Nat) (data0 : Sl) (a1 : Int) (i9 : Int) (j10 : Int) : codeI Try.prog slices_partitionEqualOrdered_string_kp jn (cAt [true, true, true, false, false, false, false, true] (bodyOf Try.f50)) (lopK Try.prog slices_partitionEqualOrdered_string_kp jn (cAt [true, true, true, false, false, false] (bodyOf Try.f50)) (blkX 0 (seqK Try.prog slices_partitionEqualOrdered_string_kp jn (cAt [true, true, true, true] (bodyOf Try.f50)) (retK Try.prog Try.f50 Q) noX (retK Try.prog Try.f50 Q)) noX) (retK Try.prog Try.f50 Q) m1) (blkX 1 (lopK Try.prog slices_partitionEqualOrdered_string_kp jn (cAt [true, true, true, false, false, false] (bodyOf Try.f50)) (blkX 0 (seqK Try.prog slices_partitionEqualOrdered_string_kp jn (cAt [true, true, true, true] (bodyOf Try.f50)) (retK Try.prog Try.f50 Q) noX (retK Try.prog Try.f50 Q)) noX) (retK Try.prog Try.f50 Q) m1) (blkX 0 (seqK Try.prog slices_partitionEqualOrdered_string_kp jn (cAt [true, true, true, true] (bodyOf Try.f50)) (retK Try.prog Try.f50 Q) noX (retK Try.prog Try.f50 Q)) noX)) (retK Try.prog Try.f50 Q) ((.slice data0.a data0.n data0.c) :: (.int .i64 a1) :: us 7 ((.int .i64 i9) :: (.int .i64 j10) :: us 73 [])) = (
  exM fun m => slices_partitionEqualOrdered_string_l4 jn Q m1 m data0 a1 i9 j10) := by kernel_rfl
theorem slices_partitionEqualOrdered_string_j3_def (Q : Value → WP) (m1 : Nat) (data0 : Sl) (a1 : Int) (i9 : Int) (j10 : Int) : slices_partitionEqualOrdered_string_j3 idJ Q m1 data0 a1 i9 j10 = codeI Try.prog slices_partitionEqualOrdered_string_kp idJ (cAt [true, true, true, false, false, false, false, true] (bodyOf Try.f50)) (lopK Try.prog slices_partitionEqualOrdered_string_kp idJ (cAt [true, true, true, false, false, false] (bodyOf Try.f50)) (blkX 0 (seqK Try.prog slices_partitionEqualOrdered_string_kp idJ (cAt [true, true, true, true] (bodyOf Try.f50)) (retK Try.prog Try.f50 Q) noX (retK Try.prog Try.f50 Q)) noX) (retK Try.prog Try.f50 Q) m1) (blkX 1 (lopK Try.prog slices_partitionEqualOrdered_string_kp idJ (cAt [true, true, true, false, false, false] (bodyOf Try.f50)) (blkX 0 (seqK Try.prog slices_partitionEqualOrdered_string_kp idJ (cAt [true, true, true, true] (bodyOf Try.f50)) (retK Try.prog Try.f50 Q) noX (retK Try.prog Try.f50 Q)) noX) (retK Try.prog Try.f50 Q) m1) (blkX 0 (seqK Try.prog slices_partitionEqualOrdered_string_kp idJ (cAt [true, true, true, true] (bodyOf Try.f50)) (retK Try.prog Try.f50 Q) noX (retK Try.prog Try.f50 Q)) noX)) (retK Try.prog Try.f50 Q) ((.slice data0.a data0.n data0.c) :: (.int .i64 a1) :: us 7 ((.int .i64 i9) :: (.int .i64 j10) :: us 73 [])) := by kernel_rfl
theorem slices_partitionEqualOrdered_string_l2_raw (jn : Jn) (Q : Value → WP) (m1 : Nat) (m2 : Nat) (data0 : Sl) (a1 : Int) (i9 : Int) (j10 : Int) : slices_partitionEqualOrdered_string_l2 jn Q m1 (m2 + 1) data0 a1 i9 j10 = (
  drawW fun S =>
  ite2 (decide (i9 ≤ j10)) (
  idx data0.a data0.n a1 fun b_11 o_12 =>
  ldS S .str b_11 (o_12 + (a1).toNat * 1) fun (x_13 : ByteArray) =>
  idx data0.a data0.n i9 fun b_14 o_15 =>
  ld .str b_14 (o_15 + (i9).toNat * 1) fun (x_16 : ByteArray) =>
  keepS true S <|
  call1 .bool Try.prog id_cmp_Less_string [.string x_13, .string x_16] fun (x_17 : Bool) =>
  ite2 (!x_17) (
  slices_partitionEqualOrdered_string_l2 jn Q m1 m2 data0 a1 (IntKind.wrap .i64 (i9 + (1 : Int))) j10) (
  slices_partitionEqualOrdered_string_j3 jn Q m1 data0 a1 i9 j10)) (
  keepS true S <|
  slices_partitionEqualOrdered_string_j3 jn Q m1 data0 a1 i9 j10)) := by kernel_rfl
theorem slices_partitionEqualOrdered_string_l2_zero (jn : Jn) (Q : Value → WP) (m1 : Nat) (data0 : Sl) (a1 : Int) (i9 : Int) (j10 : Int) : slices_partitionEqualOrdered_string_l2 jn Q m1 0 data0 a1 i9 j10 = bot := by kernel_rfl
theorem slices_partitionEqualOrdered_string_l1_raw (jn : Jn) (Q : Value → WP)  (m1 : Nat) (data0 : Sl) (a1 : Int) (i9 : Int) (j10 : Int) : slices_partitionEqualOrdered_string_l1 jn Q  (m1 + 1) data0 a1 i9 j10 = (
  exM fun m => slices_partitionEqualOrdered_string_l2 jn Q m1 m data0 a1 i9 j10) := by kernel_rfl
theorem slices_partitionEqualOrdered_string_l1_zero (jn : Jn) (Q : Value → WP)  (data0 : Sl) (a1 : Int) (i9 : Int) (j10 : Int) : slices_partitionEqualOrdered_string_l1 jn Q  0 data0 a1 i9 j10 = bot := by kernel_rfl
theorem slices_partitionEqualOrdered_string_raw (jn : Jn) (data0 : Sl) (a1 : Int) (b2 : Int) (pivot3 : Int) (Q : Value → WP) : funJ jn Try.prog slices_partitionEqualOrdered_string_kp Try.f50 [.slice data0.a data0.n data0.c, .int .i64 a1, .int .i64 b2, .int .i64 pivot3] Q = (
  drawW fun S =>
  idx data0.a data0.n pivot3 fun b_1 o_2 =>
  ldS S .str b_1 (o_2 + (pivot3).toNat * 1) fun (x_3 : ByteArray) =>
  idx data0.a data0.n a1 fun b_4 o_5 =>
  ld .str b_4 (o_5 + (a1).toNat * 1) fun (x_6 : ByteArray) =>
  keepS true S <|
  idx data0.a data0.n a1 fun b_7 o_8 =>
  st b_7 (o_8 + (a1).toNat * 1) (.string x_3) <|
  idx data0.a data0.n pivot3 fun b_9 o_10 =>
  st b_9 (o_10 + (pivot3).toNat * 1) (.string x_6) <|
  exM fun m => slices_partitionEqualOrdered_string_l1 jn Q  m data0 a1 (IntKind.wrap .i64 (a1 + (1 : Int))) (IntKind.wrap .i64 (b2 - (1 : Int)))) := by kernel_rfl
theorem slices_partitionEqualOrdered_string_def (data0 : Sl) (a1 : Int) (b2 : Int) (pivot3 : Int) (Q : Value → WP) : slices_partitionEqualOrdered_string data0 a1 b2 pivot3 Q = funJ idJ Try.prog slices_partitionEqualOrdered_string_kp Try.f50 [.slice data0.a data0.n data0.c, .int .i64 a1, .int .i64 b2, .int .i64 pivot3] Q := rfl
theorem slices_partitionEqualOrdered_string_calls {data0 : Sl} {a1 : Int} {b2 : Int} {pivot3 : Int} {Q : Value → WP} {w : World} (h : slices_partitionEqualOrdered_string data0 a1 b2 pivot3 Q w) : Calls Try.prog id_slices_partitionEqualOrdered_string #[.slice data0.a data0.n data0.c, .int .i64 a1, .int .i64 b2, .int .i64 pivot3] w fun e w' => ∃ v, e = .returned v ∧ Q v w' :=
  funJ_calls mixed Try.func50 rfl h

-- slices.partitionOrdered[string]
def slices_partitionOrdered_string_kp : KP := ⟨[(9, [0, 1, 10, 11]), (12, [0, 1, 10, 11]), (13, [0, 1, 10, 11]), (16, [0, 1, 10, 11]), (29, [0, 1, 10, 11]), (32, [0, 1, 10, 11]), (33, [0, 1, 10, 11]), (36, [0, 1, 10, 11]), (44, [0, 1, 11])], [(1, [0, 1, 2, 3, 4, 5, 6, 7, 8, 9, 10, 12, 14]), (3, [0, 1, 2, 3, 4, 5, 6, 7, 8, 9, 10, 13]), (5, [0, 1, 2, 3, 4, 5, 6, 7, 8, 9, 10, 13, 14]), (8, [0, 1, 2, 3, 4, 5, 6, 7, 8, 9, 10, 12, 14]), (10, [0, 1, 2, 3, 4, 5, 6, 7, 8, 9, 10, 12, 14]), (13, [0, 1, 2, 3, 4, 5, 6, 7, 8, 9, 10, 13]), (15, [0, 1, 2, 3, 4, 5, 6, 7, 8, 9, 10, 13, 14]), (18, [0, 1, 2, 3, 4, 5, 6, 7, 8, 9, 10, 12, 14]), (21, [0, 1, 2, 3, 4, 5, 6, 7, 8, 9, 10, 12, 14])]⟩
def slices_partitionOrdered_string_j10 (jn : Jn) (Q : Value → WP)  (data0 : Sl) (a1 : Int) (j11 : Int) : WP := jn 44 (fun ρ => codeI Try.prog slices_partitionOrdered_string_kp jn (cAt [true, true, true, true, true, true, true, true, true, true] (bodyOf Try.f51)) (retK Try.prog Try.f51 Q) noX (retK Try.prog Try.f51 Q) ρ) ((.slice data0.a data0.n data0.c) :: (.int .i64 a1) :: us 9 ((.int .i64 j11) :: us 156 []))
def slices_partitionOrdered_string_j9 (jn : Jn) (Q : Value → WP) (m5 : Nat) (data0 : Sl) (a1 : Int) (i10 : Int) (j11 : Int) : WP := jn 36 (fun ρ => codeI Try.prog slices_partitionOrdered_string_kp jn (cAt [true, true, true, true, true, true, true, true, true, false, false, false, false, true, true] (bodyOf Try.f51)) (lopK Try.prog slices_partitionOrdered_string_kp jn (cAt [true, true, true, true, true, true, true, true, true, false, false, false] (bodyOf Try.f51)) (blkX 4 (seqK Try.prog slices_partitionOrdered_string_kp jn (cAt [true, true, true, true, true, true, true, true, true, true] (bodyOf Try.f51)) (retK Try.prog Try.f51 Q) noX (retK Try.prog Try.f51 Q)) noX) (retK Try.prog Try.f51 Q) m5) (blkX 5 (lopK Try.prog slices_partitionOrdered_string_kp jn (cAt [true, true, true, true, true, true, true, true, true, false, false, false] (bodyOf Try.f51)) (blkX 4 (seqK Try.prog slices_partitionOrdered_string_kp jn (cAt [true, true, true, true, true, true, true, true, true, true] (bodyOf Try.f51)) (retK Try.prog Try.f51 Q) noX (retK Try.prog Try.f51 Q)) noX) (retK Try.prog Try.f51 Q) m5) (blkX 4 (seqK Try.prog slices_partitionOrdered_string_kp jn (cAt [true, true, true, true, true, true, true, true, true, true] (bodyOf Try.f51)) (retK Try.prog Try.f51 Q) noX (retK Try.prog Try.f51 Q)) noX)) (retK Try.prog Try.f51 Q) ρ) ((.slice data0.a data0.n data0.c) :: (.int .i64 a1) :: us 8 ((.int .i64 i10) :: (.int .i64 j11) :: us 156 []))
def slices_partitionOrdered_string_l8 (jn : Jn) (Q : Value → WP) (m5 : Nat) (m8 : Nat) (data0 : Sl) (a1 : Int) (i10 : Int) (j11 : Int) : WP := lop Try.prog slices_partitionOrdered_string_kp jn (cAt [true, true, true, true, true, true, true, true, true, false, false, false, false, true, false, false, false] (bodyOf Try.f51)) (blkX 8 (seqK Try.prog slices_partitionOrdered_string_kp jn (cAt [true, true, true, true, true, true, true, true, true, false, false, false, false, true, true] (bodyOf Try.f51)) (lopK Try.prog slices_partitionOrdered_string_kp jn (cAt [true, true, true, true, true, true, true, true, true, false, false, false] (bodyOf Try.f51)) (blkX 4 (seqK Try.prog slices_partitionOrdered_string_kp jn (cAt [true, true, true, true, true, true, true, true, true, true] (bodyOf Try.f51)) (retK Try.prog Try.f51 Q) noX (retK Try.prog Try.f51 Q)) noX) (retK Try.prog Try.f51 Q) m5) (blkX 5 (lopK Try.prog slices_partitionOrdered_string_kp jn (cAt [true, true, true, true, true, true, true, true, true, false, false, false] (bodyOf Try.f51)) (blkX 4 (seqK Try.prog slices_partitionOrdered_string_kp jn (cAt [true, true, true, true, true, true, true, true, true, true] (bodyOf Try.f51)) (retK Try.prog Try.f51 Q) noX (retK Try.prog Try.f51 Q)) noX) (retK Try.prog Try.f51 Q) m5) (blkX 4 (seqK Try.prog slices_partitionOrdered_string_kp jn (cAt [true, true, true, true, true, true, true, true, true, true] (bodyOf Try.f51)) (retK Try.prog Try.f51 Q) noX (retK Try.prog Try.f51 Q)) noX)) (retK Try.prog Try.f51 Q)) (blkX 5 (lopK Try.prog slices_partitionOrdered_string_kp jn (cAt [true, true, true, true, true, true, true, true, true, false, false, false] (bodyOf Try.f51)) (blkX 4 (seqK Try.prog slices_partitionOrdered_string_kp jn (cAt [true, true, true, true, true, true, true, true, true, true] (bodyOf Try.f51)) (retK Try.prog Try.f51 Q) noX (retK Try.prog Try.f51 Q)) noX) (retK Try.prog Try.f51 Q) m5) (blkX 4 (seqK Try.prog slices_partitionOrdered_string_kp jn (cAt [true, true, true, true, true, true, true, true, true, true] (bodyOf Try.f51)) (retK Try.prog Try.f51 Q) noX (retK Try.prog Try.f51 Q)) noX))) (retK Try.prog Try.f51 Q) m8 ((.slice data0.a data0.n data0.c) :: (.int .i64 a1) :: us 8 ((.int .i64 i10) :: (.int .i64 j11) :: us 156 []))
def slices_partitionOrdered_string_j7 (jn : Jn) (Q : Value → WP) (m5 : Nat) (data0 : Sl) (a1 : Int) (i10 : Int) (j11 : Int) : WP := jn 32 (fun ρ => codeI Try.prog slices_partitionOrdered_string_kp jn (cAt [true, true, true, true, true, true, true, true, true, false, false, false, false, true] (bodyOf Try.f51)) (lopK Try.prog slices_partitionOrdered_string_kp jn (cAt [true, true, true, true, true, true, true, true, true, false, false, false] (bodyOf Try.f51)) (blkX 4 (seqK Try.prog slices_partitionOrdered_string_kp jn (cAt [true, true, true, true, true, true, true, true, true, true] (bodyOf Try.f51)) (retK Try.prog Try.f51 Q) noX (retK Try.prog Try.f51 Q)) noX) (retK Try.prog Try.f51 Q) m5) (blkX 5 (lopK Try.prog slices_partitionOrdered_string_kp jn (cAt [true, true, true, true, true, true, true, true, true, false, false, false] (bodyOf Try.f51)) (blkX 4 (seqK Try.prog slices_partitionOrdered_string_kp jn (cAt [true, true, true, true, true, true, true, true, true, true] (bodyOf Try.f51)) (retK Try.prog Try.f51 Q) noX (retK Try.prog Try.f51 Q)) noX) (retK Try.prog Try.f51 Q) m5) (blkX 4 (seqK Try.prog slices_partitionOrdered_string_kp jn (cAt [true, true, true, true, true, true, true, true, true, true] (bodyOf Try.f51)) (retK Try.prog Try.f51 Q) noX (retK Try.prog Try.f51 Q)) noX)) (retK Try.prog Try.f51 Q) ρ) ((.slice data0.a data0.n data0.c) :: (.int .i64 a1) :: us 8 ((.int .i64 i10) :: (.int .i64 j11) :: us 156 []))
def slices_partitionOrdered_string_l6 (jn : Jn) (Q : Value → WP) (m5 : Nat) (m6 : Nat) (data0 : Sl) (a1 : Int) (i10 : Int) (j11 : Int) : WP := lop Try.prog slices_partitionOrdered_string_kp jn (cAt [true, true, true, true, true, true, true, true, true, false, false, false, false, false, false, false] (bodyOf Try.f51)) (blkX 6 (seqK Try.prog slices_partitionOrdered_string_kp jn (cAt [true, true, true, true, true, true, true, true, true, false, false, false, false, true] (bodyOf Try.f51)) (lopK Try.prog slices_partitionOrdered_string_kp jn (cAt [true, true, true, true, true, true, true, true, true, false, false, false] (bodyOf Try.f51)) (blkX 4 (seqK Try.prog slices_partitionOrdered_string_kp jn (cAt [true, true, true, true, true, true, true, true, true, true] (bodyOf Try.f51)) (retK Try.prog Try.f51 Q) noX (retK Try.prog Try.f51 Q)) noX) (retK Try.prog Try.f51 Q) m5) (blkX 5 (lopK Try.prog slices_partitionOrdered_string_kp jn (cAt [true, true, true, true, true, true, true, true, true, false, false, false] (bodyOf Try.f51)) (blkX 4 (seqK Try.prog slices_partitionOrdered_string_kp jn (cAt [true, true, true, true, true, true, true, true, true, true] (bodyOf Try.f51)) (retK Try.prog Try.f51 Q) noX (retK Try.prog Try.f51 Q)) noX) (retK Try.prog Try.f51 Q) m5) (blkX 4 (seqK Try.prog slices_partitionOrdered_string_kp jn (cAt [true, true, true, true, true, true, true, true, true, true] (bodyOf Try.f51)) (retK Try.prog Try.f51 Q) noX (retK Try.prog Try.f51 Q)) noX)) (retK Try.prog Try.f51 Q)) (blkX 5 (lopK Try.prog slices_partitionOrdered_string_kp jn (cAt [true, true, true, true, true, true, true, true, true, false, false, false] (bodyOf Try.f51)) (blkX 4 (seqK Try.prog slices_partitionOrdered_string_kp jn (cAt [true, true, true, true, true, true, true, true, true, true] (bodyOf Try.f51)) (retK Try.prog Try.f51 Q) noX (retK Try.prog Try.f51 Q)) noX) (retK Try.prog Try.f51 Q) m5) (blkX 4 (seqK Try.prog slices_partitionOrdered_string_kp jn (cAt [true, true, true, true, true, true, true, true, true, true] (bodyOf Try.f51)) (retK Try.prog Try.f51 Q) noX (retK Try.prog Try.f51 Q)) noX))) (retK Try.prog Try.f51 Q) m6 ((.slice data0.a data0.n data0.c) :: (.int .i64 a1) :: us 8 ((.int .i64 i10) :: (.int .i64 j11) :: us 156 []))
def slices_partitionOrdered_string_l5 (jn : Jn) (Q : Value → WP)  (m5 : Nat) (data0 : Sl) (a1 : Int) (i10 : Int) (j11 : Int) : WP := lop Try.prog slices_partitionOrdered_string_kp jn (cAt [true, true, true, true, true, true, true, true, true, false, false, false] (bodyOf Try.f51)) (blkX 4 (seqK Try.prog slices_partitionOrdered_string_kp jn (cAt [true, true, true, true, true, true, true, true, true, true] (bodyOf Try.f51)) (retK Try.prog Try.f51 Q) noX (retK Try.prog Try.f51 Q)) noX) (retK Try.prog Try.f51 Q) m5 ((.slice data0.a data0.n data0.c) :: (.int .i64 a1) :: us 8 ((.int .i64 i10) :: (.int .i64 j11) :: us 156 []))
def slices_partitionOrdered_string_j4 (jn : Jn) (Q : Value → WP)  (data0 : Sl) (a1 : Int) (i10 : Int) (j11 : Int) : WP := jn 16 (fun ρ => codeI Try.prog slices_partitionOrdered_string_kp jn (cAt [true, true, true, true, true] (bodyOf Try.f51)) (retK Try.prog Try.f51 Q) noX (retK Try.prog Try.f51 Q) ρ) ((.slice data0.a data0.n data0.c) :: (.int .i64 a1) :: us 8 ((.int .i64 i10) :: (.int .i64 j11) :: us 156 []))
def slices_partitionOrdered_string_l3 (jn : Jn) (Q : Value → WP)  (m3 : Nat) (data0 : Sl) (a1 : Int) (i10 : Int) (j11 : Int) : WP := lop Try.prog slices_partitionOrdered_string_kp jn (cAt [true, true, true, true, false, false, false] (bodyOf Try.f51)) (blkX 2 (seqK Try.prog slices_partitionOrdered_string_kp jn (cAt [true, true, true, true, true] (bodyOf Try.f51)) (retK Try.prog Try.f51 Q) noX (retK Try.prog Try.f51 Q)) noX) (retK Try.prog Try.f51 Q) m3 ((.slice data0.a data0.n data0.c) :: (.int .i64 a1) :: us 8 ((.int .i64 i10) :: (.int .i64 j11) :: us 156 []))
def slices_partitionOrdered_string_j2 (jn : Jn) (Q : Value → WP)  (data0 : Sl) (a1 : Int) (i10 : Int) (j11 : Int) : WP := jn 12 (fun ρ => codeI Try.prog slices_partitionOrdered_string_kp jn (cAt [true, true, true, true] (bodyOf Try.f51)) (retK Try.prog Try.f51 Q) noX (retK Try.prog Try.f51 Q) ρ) ((.slice data0.a data0.n data0.c) :: (.int .i64 a1) :: us 8 ((.int .i64 i10) :: (.int .i64 j11) :: us 156 []))
def slices_partitionOrdered_string_l1 (jn : Jn) (Q : Value → WP)  (m1 : Nat) (data0 : Sl) (a1 : Int) (i10 : Int) (j11 : Int) : WP := lop Try.prog slices_partitionOrdered_string_kp jn (cAt [true, true, true, false, false, false] (bodyOf Try.f51)) (blkX 0 (seqK Try.prog slices_partitionOrdered_string_kp jn (cAt [true, true, true, true] (bodyOf Try.f51)) (retK Try.prog Try.f51 Q) noX (retK Try.prog Try.f51 Q)) noX) (retK Try.prog Try.f51 Q) m1 ((.slice data0.a data0.n data0.c) :: (.int .i64 a1) :: us 8 ((.int .i64 i10) :: (.int .i64 j11) :: us 156 []))
def slices_partitionOrdered_string (data0 : Sl) (a1 : Int) (b2 : Int) (pivot3 : Int) (Q : Value → WP) : WP := funJ idJ Try.prog slices_partitionOrdered_string_kp Try.f51 [.slice data0.a data0.n data0.c, .int .i64 a1, .int .i64 b2, .int .i64 pivot3] Q
theorem slices_partitionOrdered_string_j10_raw (jn : Jn) (Q : Value → WP)  (data0 : Sl) (a1 : Int) (j11 : Int) : codeI Try.prog slices_partitionOrdered_string_kp jn (cAt [true, true, true, true, true, true, true, true, true, true] (bodyOf Try.f51)) (retK Try.prog Try.f51 Q) noX (retK Try.prog Try.f51 Q) ((.slice data0.a data0.n data0.c) :: (.int .i64 a1) :: us 9 ((.int .i64 j11) :: us 156 [])) = (
  drawW fun S =>
  idx data0.a data0.n a1 fun b_59 o_60 =>
  ldS S .str b_59 (o_60 + (a1).toNat * 1) fun (x_61 : ByteArray) =>
  idx data0.a data0.n j11 fun b_62 o_63 =>
  ld .str b_62 (o_63 + (j11).toNat * 1) fun (x_64 : ByteArray) =>
  keepS true S <|
  idx data0.a data0.n j11 fun b_65 o_66 =>
  st b_65 (o_66 + (j11).toNat * 1) (.string x_61) <|
  idx data0.a data0.n a1 fun b_67 o_68 =>
  st b_67 (o_68 + (a1).toNat * 1) (.string x_64) <|
  Q (.tuple #[.int .i64 j11, .bool false])) := by kernel_rfl
theorem slices_partitionOrdered_string_j10_def (Q : Value → WP)  (data0 : Sl) (a1 : Int) (j11 : Int) : slices_partitionOrdered_string_j10 idJ Q  data0 a1 j11 = codeI Try.prog slices_partitionOrdered_string_kp idJ (cAt [true, true, true, true, true, true, true, true, true, true] (bodyOf Try.f51)) (retK Try.prog Try.f51 Q) noX (retK Try.prog Try.f51 Q) ((.slice data0.a data0.n data0.c) :: (.int .i64 a1) :: us 9 ((.int .i64 j11) :: us 156 [])) := by kernel_rfl
theorem slices_partitionOrdered_string_j9_raw (jn : Jn) (Q : Value → WP) (m5 : Nat) (data0 : Sl) (a1 : Int) (i10 : Int) (j11 : Int) : codeI Try.prog slices_partitionOrdered_string_kp jn (cAt [true, true, true, true, true, true, true, true, true, false, false, false, false, true, true] (bodyOf Try.f51)) (lopK Try.prog slices_partitionOrdered_string_kp jn (cAt [true, true, true, true, true, true, true, true, true, false, false, false] (bodyOf Try.f51)) (blkX 4 (seqK Try.prog slices_partitionOrdered_string_kp jn (cAt [true, true, true, true, true, true, true, true, true, true] (bodyOf Try.f51)) (retK Try.prog Try.f51 Q) noX (retK Try.prog Try.f51 Q)) noX) (retK Try.prog Try.f51 Q) m5) (blkX 5 (lopK Try.prog slices_partitionOrdered_string_kp jn (cAt [true, true, true, true, true, true, true, true, true, false, false, false] (bodyOf Try.f51)) (blkX 4 (seqK Try.prog slices_partitionOrdered_string_kp jn (cAt [true, true, true, true, true, true, true, true, true, true] (bodyOf Try.f51)) (retK Try.prog Try.f51 Q) noX (retK Try.prog Try.f51 Q)) noX) (retK Try.prog Try.f51 Q) m5) (blkX 4 (seqK Try.prog slices_partitionOrdered_string_kp jn (cAt [true, true, true, true, true, true, true, true, true, true] (bodyOf Try.f51)) (retK Try.prog Try.f51 Q) noX (retK Try.prog Try.f51 Q)) noX)) (retK Try.prog Try.f51 Q) ((.slice data0.a data0.n data0.c) :: (.int .i64 a1) :: us 8 ((.int .i64 i10) :: (.int .i64 j11) :: us 156 [])) = (
  ite2 (decide (i10 > j11)) (
  slices_partitionOrdered_string_j10 jn Q  data0 a1 j11) (
  drawW fun S =>
  idx data0.a data0.n j11 fun b_69 o_70 =>
  ldS S .str b_69 (o_70 + (j11).toNat * 1) fun (x_71 : ByteArray) =>
  idx data0.a data0.n i10 fun b_72 o_73 =>
  ld .str b_72 (o_73 + (i10).toNat * 1) fun (x_74 : ByteArray) =>
  keepS true S <|
  idx data0.a data0.n i10 fun b_75 o_76 =>
  st b_75 (o_76 + (i10).toNat * 1) (.string x_71) <|
  idx data0.a data0.n j11 fun b_77 o_78 =>
  st b_77 (o_78 + (j11).toNat * 1) (.string x_74) <|
  slices_partitionOrdered_string_l5 jn Q  m5 data0 a1 (IntKind.wrap .i64 (i10 + (1 : Int))) (IntKind.wrap .i64 (j11 - (1 : Int))))) := by kernel_rfl
theorem slices_partitionOrdered_string_j9_def (Q : Value → WP) (m5 : Nat) (data0 : Sl) (a1 : Int) (i10 : Int) (j11 : Int) : slices_partitionOrdered_string_j9 idJ Q m5 data0 a1 i10 j11 = codeI Try.prog slices_partitionOrdered_string_kp idJ (cAt [true, true, true, true, true, true, true, true, true, false, false, false, false, true, true] (bodyOf Try.f51)) (lopK Try.prog slices_partitionOrdered_string_kp idJ (cAt [true, true, true, true, true, true, true, true, true, false, false, false] (bodyOf Try.f51)) (blkX 4 (seqK Try.prog slices_partitionOrdered_string_kp idJ (cAt [true, true, true, true, true, true, true, true, true, true] (bodyOf Try.f51)) (retK Try.prog Try.f51 Q) noX (retK Try.prog Try.f51 Q)) noX) (retK Try.prog Try.f51 Q) m5) (blkX 5 (lopK Try.prog slices_partitionOrdered_string_kp idJ (cAt [true, true, true, true, true, true, true, true, true, false, false, false] (bodyOf Try.f51)) (blkX 4 (seqK Try.prog slices_partitionOrdered_string_kp idJ (cAt [true, true, true, true, true, true, true, true, true, true] (bodyOf Try.f51)) (retK Try.prog Try.f51 Q) noX (retK Try.prog Try.f51 Q)) noX) (retK Try.prog Try.f51 Q) m5) (blkX 4 (seqK Try.prog slices_partitionOrdered_string_kp idJ (cAt [true, true, true, true, true, true, true, true, true, true] (bodyOf Try.f51)) (retK Try.prog Try.f51 Q) noX (retK Try.prog Try.f51 Q)) noX)) (retK Try.prog Try.f51 Q) ((.slice data0.a data0.n data0.c) :: (.int .i64 a1) :: us 8 ((.int .i64 i10) :: (.int .i64 j11) :: us 156 [])) := by kernel_rfl
theorem slices_partitionOrdered_string_l8_raw (jn : Jn) (Q : Value → WP) (m5 : Nat) (m8 : Nat) (data0 : Sl) (a1 : Int) (i10 : Int) (j11 : Int) : slices_partitionOrdered_string_l8 jn Q m5 (m8 + 1) data0 a1 i10 j11 = (
  drawW fun S =>
  ite2 (decide (i10 ≤ j11)) (
  idx data0.a data0.n j11 fun b_52 o_53 =>
  ldS S .str b_52 (o_53 + (j11).toNat * 1) fun (x_54 : ByteArray) =>
  idx data0.a data0.n a1 fun b_55 o_56 =>
  ld .str b_55 (o_56 + (a1).toNat * 1) fun (x_57 : ByteArray) =>
  keepS true S <|
  call1 .bool Try.prog id_cmp_Less_string [.string x_54, .string x_57] fun (x_58 : Bool) =>
  ite2 (!x_58) (
  slices_partitionOrdered_string_l8 jn Q m5 m8 data0 a1 i10 (IntKind.wrap .i64 (j11 - (1 : Int)))) (
  slices_partitionOrdered_string_j9 jn Q m5 data0 a1 i10 j11)) (
  keepS true S <|
  slices_partitionOrdered_string_j9 jn Q m5 data0 a1 i10 j11)) := by kernel_rfl
theorem slices_partitionOrdered_string_l8_zero (jn : Jn) (Q : Value → WP) (m5 : Nat) (data0 : Sl) (a1 : Int) (i10 : Int) (j11 : Int) : slices_partitionOrdered_string_l8 jn Q m5 0 data0 a1 i10 j11 = bot := by kernel_rfl
theorem slices_partitionOrdered_string_j7_raw (jn : Jn) (Q : Value → WP) (m5 : Nat) (data0 : Sl) (a1 : Int) (i10 : Int) (j11 : Int) : codeI Try.prog slices_partitionOrdered_string_kp jn (cAt [true, true, true, true, true, true, true, true, true, false, false, false, false, true] (bodyOf Try.f51)) (lopK Try.prog slices_partitionOrdered_string_kp jn (cAt [true, true, true, true, true, true, true, true, true, false, false, false] (bodyOf Try.f51)) (blkX 4 (seqK Try.prog slices_partitionOrdered_string_kp jn (cAt [true, true, true, true, true, true, true, true, true, true] (bodyOf Try.f51)) (retK Try.prog Try.f51 Q) noX (retK Try.prog Try.f51 Q)) noX) (retK Try.prog Try.f51 Q) m5) (blkX 5 (lopK Try.prog slices_partitionOrdered_string_kp jn (cAt [true, true, true, true, true, true, true, true, true, false, false, false] (bodyOf Try.f51)) (blkX 4 (seqK Try.prog slices_partitionOrdered_string_kp jn (cAt [true, true, true, true, true, true, true, true, true, true] (bodyOf Try.f51)) (retK Try.prog Try.f51 Q) noX (retK Try.prog Try.f51 Q)) noX) (retK Try.prog Try.f51 Q) m5) (blkX 4 (seqK Try.prog slices_partitionOrdered_string_kp jn (cAt [true, true, true, true, true, true, true, true, true, true] (bodyOf Try.f51)) (retK Try.prog Try.f51 Q) noX (retK Try.prog Try.f51 Q)) noX)) (retK Try.prog Try.f51 Q) ((.slice data0.a data0.n data0.c) :: (.int .i64 a1) :: us 8 ((.int .i64 i10) :: (.int .i64 j11) :: us 156 [])) = (
  exM fun m => slices_partitionOrdered_string_l8 jn Q m5 m data0 a1 i10 j11) := by kernel_rfl
theorem slices_partitionOrdered_string_j7_def (Q : Value → WP) (m5 : Nat) (data0 : Sl) (a1 : Int) (i10 : Int) (j11 : Int) : slices_partitionOrdered_string_j7 idJ Q m5 data0 a1 i10 j11 = codeI Try.prog slices_partitionOrdered_string_kp idJ (cAt [true, true, true, true, true, true, true, true, true, false, false, false, false, true] (bodyOf Try.f51)) (lopK Try.prog slices_partitionOrdered_string_kp idJ (cAt [true, true, true, true, true, true, true, true, true, false, false, false] (bodyOf Try.f51)) (blkX 4 (seqK Try.prog slices_partitionOrdered_string_kp idJ (cAt [true, true, true, true, true, true, true, true, true, true] (bodyOf Try.f51)) (retK Try.prog Try.f51 Q) noX (retK Try.prog Try.f51 Q)) noX) (retK Try.prog Try.f51 Q) m5) (blkX 5 (lopK Try.prog slices_partitionOrdered_string_kp idJ (cAt [true, true, true, true, true, true, true, true, true, false, false, false] (bodyOf Try.f51)) (blkX 4 (seqK Try.prog slices_partitionOrdered_string_kp idJ (cAt [true, true, true, true, true, true, true, true, true, true] (bodyOf Try.f51)) (retK Try.prog Try.f51 Q) noX (retK Try.prog Try.f51 Q)) noX) (retK Try.prog Try.f51 Q) m5) (blkX 4 (seqK Try.prog slices_partitionOrdered_string_kp idJ (cAt [true, true, true, true, true, true, true, true, true, true] (bodyOf Try.f51)) (retK Try.prog Try.f51 Q) noX (retK Try.prog Try.f51 Q)) noX)) (retK Try.prog Try.f51 Q) ((.slice data0.a data0.n data0.c) :: (.int .i64 a1) :: us 8 ((.int .i64 i10) :: (.int .i64 j11) :: us 156 [])) := by kernel_rfl
theorem slices_partitionOrdered_string_l6_raw (jn : Jn) (Q : Value → WP) (m5 : Nat) (m6 : Nat) (data0 : Sl) (a1 : Int) (i10 : Int) (j11 : Int) : slices_partitionOrdered_string_l6 jn Q m5 (m6 + 1) data0 a1 i10 j11 = (
  drawW fun S =>
  ite2 (decide (i10 ≤ j11)) (
  idx data0.a data0.n i10 fun b_45 o_46 =>
  ldS S .str b_45 (o_46 + (i10).toNat * 1) fun (x_47 : ByteArray) =>
  idx data0.a data0.n a1 fun b_48 o_49 =>
  ld .str b_48 (o_49 + (a1).toNat * 1) fun (x_50 : ByteArray) =>
  keepS true S <|
  call1 .bool Try.prog id_cmp_Less_string [.string x_47, .string x_50] fun (x_51 : Bool) =>
  ite2 x_51 (
  slices_partitionOrdered_string_l6 jn Q m5 m6 data0 a1 (IntKind.wrap .i64 (i10 + (1 : Int))) j11) (
  slices_partitionOrdered_string_j7 jn Q m5 data0 a1 i10 j11)) (
  keepS true S <|
  slices_partitionOrdered_string_j7 jn Q m5 data0 a1 i10 j11)) := by kernel_rfl
theorem slices_partitionOrdered_string_l6_zero (jn : Jn) (Q : Value → WP) (m5 : Nat) (data0 : Sl) (a1 : Int) (i10 : Int) (j11 : Int) : slices_partitionOrdered_string_l6 jn Q m5 0 data0 a1 i10 j11 = bot := by kernel_rfl
theorem slices_partitionOrdered_string_l5_raw (jn : Jn) (Q : Value → WP)  (m5 : Nat) (data0 : Sl) (a1 : Int) (i10 : Int) (j11 : Int) : slices_partitionOrdered_string_l5 jn Q  (m5 + 1) data0 a1 i10 j11 = (
  exM fun m => slices_partitionOrdered_string_l6 jn Q m5 m data0 a1 i10 j11) := by kernel_rfl
theorem slices_partitionOrdered_string_l5_zero (jn : Jn) (Q : Value → WP)  (data0 : Sl) (a1 : Int) (i10 : Int) (j11 : Int) : slices_partitionOrdered_string_l5 jn Q  0 data0 a1 i10 j11 = bot := by kernel_rfl
theorem slices_partitionOrdered_string_j4_raw (jn : Jn) (Q : Value → WP)  (data0 : Sl) (a1 : Int) (i10 : Int) (j11 : Int) : codeI Try.prog slices_partitionOrdered_string_kp jn (cAt [true, true, true, true, true] (bodyOf Try.f51)) (retK Try.prog Try.f51 Q) noX (retK Try.prog Try.f51 Q) ((.slice data0.a data0.n data0.c) :: (.int .i64 a1) :: us 8 ((.int .i64 i10) :: (.int .i64 j11) :: us 156 [])) = (
  ite2 (decide (i10 > j11)) (
  drawW fun S =>
  idx data0.a data0.n a1 fun b_25 o_26 =>
  ldS S .str b_25 (o_26 + (a1).toNat * 1) fun (x_27 : ByteArray) =>
  idx data0.a data0.n j11 fun b_28 o_29 =>
  ld .str b_28 (o_29 + (j11).toNat * 1) fun (x_30 : ByteArray) =>
  keepS true S <|
  idx data0.a data0.n j11 fun b_31 o_32 =>
  st b_31 (o_32 + (j11).toNat * 1) (.string x_27) <|
  idx data0.a data0.n a1 fun b_33 o_34 =>
  st b_33 (o_34 + (a1).toNat * 1) (.string x_30) <|
  Q (.tuple #[.int .i64 j11, .bool true])) (
  drawW fun S =>
  idx data0.a data0.n j11 fun b_35 o_36 =>
  ldS S .str b_35 (o_36 + (j11).toNat * 1) fun (x_37 : ByteArray) =>
  idx data0.a data0.n i10 fun b_38 o_39 =>
  ld .str b_38 (o_39 + (i10).toNat * 1) fun (x_40 : ByteArray) =>
  keepS true S <|
  idx data0.a data0.n i10 fun b_41 o_42 =>
  st b_41 (o_42 + (i10).toNat * 1) (.string x_37) <|
  idx data0.a data0.n j11 fun b_43 o_44 =>
  st b_43 (o_44 + (j11).toNat * 1) (.string x_40) <|
  exM fun m => slices_partitionOrdered_string_l5 jn Q  m data0 a1 (IntKind.wrap .i64 (i10 + (1 : Int))) (IntKind.wrap .i64 (j11 - (1 : Int))))) := by kernel_rfl
theorem slices_partitionOrdered_string_j4_def (Q : Value → WP)  (data0 : Sl) (a1 : Int) (i10 : Int) (j11 : Int) : slices_partitionOrdered_string_j4 idJ Q  data0 a1 i10 j11 = codeI Try.prog slices_partitionOrdered_string_kp idJ (cAt [true, true, true, true, true] (bodyOf Try.f51)) (retK Try.prog Try.f51 Q) noX (retK Try.prog Try.f51 Q) ((.slice data0.a data0.n data0.c) :: (.int .i64 a1) :: us 8 ((.int .i64 i10) :: (.int .i64 j11) :: us 156 [])) := by kernel_rfl
theorem slices_partitionOrdered_string_l3_raw (jn : Jn) (Q : Value → WP)  (m3 : Nat) (data0 : Sl) (a1 : Int) (i10 : Int) (j11 : Int) : slices_partitionOrdered_string_l3 jn Q  (m3 + 1) data0 a1 i10 j11 = (
  drawW fun S =>
  ite2 (decide (i10 ≤ j11)) (
  idx data0.a data0.n j11 fun b_18 o_19 =>
  ldS S .str b_18 (o_19 + (j11).toNat * 1) fun (x_20 : ByteArray) =>
  idx data0.a data0.n a1 fun b_21 o_22 =>
  ld .str b_21 (o_22 + (a1).toNat * 1) fun (x_23 : ByteArray) =>
  keepS true S <|
  call1 .bool Try.prog id_cmp_Less_string [.string x_20, .string x_23] fun (x_24 : Bool) =>
  ite2 (!x_24) (
  slices_partitionOrdered_string_l3 jn Q  m3 data0 a1 i10 (IntKind.wrap .i64 (j11 - (1 : Int)))) (
  slices_partitionOrdered_string_j4 jn Q  data0 a1 i10 j11)) (
  keepS true S <|
  slices_partitionOrdered_string_j4 jn Q  data0 a1 i10 j11)) := by kernel_rfl
theorem slices_partitionOrdered_string_l3_zero (jn : Jn) (Q : Value → WP)  (data0 : Sl) (a1 : Int) (i10 : Int) (j11 : Int) : slices_partitionOrdered_string_l3 jn Q  0 data0 a1 i10 j11 = bot := by kernel_rfl
theorem slices_partitionOrdered_string_j2_raw (jn : Jn) (Q : Value → WP)  (data0 : Sl) (a1 : Int) (i10 : Int) (j11 : Int) : codeI Try.prog slices_partitionOrdered_string_kp jn (cAt [true, true, true, true] (bodyOf Try.f51)) (retK Try.prog Try.f51 Q) noX (retK Try.prog Try.f51 Q) ((.slice data0.a data0.n data0.c) :: (.int .i64 a1) :: us 8 ((.int .i64 i10) :: (.int .i64 j11) :: us 156 [])) = (
  exM fun m => slices_partitionOrdered_string_l3 jn Q  m data0 a1 i10 j11) := by kernel_rfl
theorem slices_partitionOrdered_string_j2_def (Q : Value → WP)  (data0 : Sl) (a1 : Int) (i10 : Int) (j11 : Int) : slices_partitionOrdered_string_j2 idJ Q  data0 a1 i10 j11 = codeI Try.prog slices_partitionOrdered_string_kp idJ (cAt [true, true, true, true] (bodyOf Try.f51)) (retK Try.prog Try.f51 Q) noX (retK Try.prog Try.f51 Q) ((.slice data0.a data0.n data0.c) :: (.int .i64 a1) :: us 8 ((.int .i64 i10) :: (.int .i64 j11) :: us 156 [])) := by kernel_rfl
theorem slices_partitionOrdered_string_l1_raw (jn : Jn) (Q : Value → WP)  (m1 : Nat) (data0 : Sl) (a1 : Int) (i10 : Int) (j11 : Int) : slices_partitionOrdered_string_l1 jn Q  (m1 + 1) data0 a1 i10 j11 = (
  drawW fun S =>
  ite2 (decide (i10 ≤ j11)) (
  idx data0.a data0.n i10 fun b_11 o_12 =>
  ldS S .str b_11 (o_12 + (i10).toNat * 1) fun (x_13 : ByteArray) =>
  idx data0.a data0.n a1 fun b_14 o_15 =>
  ld .str b_14 (o_15 + (a1).toNat * 1) fun (x_16 : ByteArray) =>
  keepS true S <|
  call1 .bool Try.prog id_cmp_Less_string [.string x_13, .string x_16] fun (x_17 : Bool) =>
  ite2 x_17 (
  slices_partitionOrdered_string_l1 jn Q  m1 data0 a1 (IntKind.wrap .i64 (i10 + (1 : Int))) j11) (
  slices_partitionOrdered_string_j2 jn Q  data0 a1 i10 j11)) (
  keepS true S <|
  slices_partitionOrdered_string_j2 jn Q  data0 a1 i10 j11)) := by kernel_rfl
theorem slices_partitionOrdered_string_l1_zero (jn : Jn) (Q : Value → WP)  (data0 : Sl) (a1 : Int) (i10 : Int) (j11 : Int) : slices_partitionOrdered_string_l1 jn Q  0 data0 a1 i10 j11 = bot := by kernel_rfl
theorem slices_partitionOrdered_string_raw (jn : Jn) (data0 : Sl) (a1 : Int) (b2 : Int) (pivot3 : Int) (Q : Value → WP) : funJ jn Try.prog slices_partitionOrdered_string_kp Try.f51 [.slice data0.a data0.n data0.c, .int .i64 a1, .int .i64 b2, .int .i64 pivot3] Q = (
  drawW fun S =>
  idx data0.a data0.n pivot3 fun b_1 o_2 =>
  ldS S .str b_1 (o_2 + (pivot3).toNat * 1) fun (x_3 : ByteArray) =>
  idx data0.a data0.n a1 fun b_4 o_5 =>
  ld .str b_4 (o_5 + (a1).toNat * 1) fun (x_6 : ByteArray) =>
  keepS true S <|
  idx data0.a data0.n a1 fun b_7 o_8 =>
  st b_7 (o_8 + (a1).toNat * 1) (.string x_3) <|
  idx data0.a data0.n pivot3 fun b_9 o_10 =>
  st b_9 (o_10 + (pivot3).toNat * 1) (.string x_6) <|
  exM fun m => slices_partitionOrdered_string_l1 jn Q  m data0 a1 (IntKind.wrap .i64 (a1 + (1 : Int))) (IntKind.wrap .i64 (b2 - (1 : Int)))) := by kernel_rfl
theorem slices_partitionOrdered_string_def (data0 : Sl) (a1 : Int) (b2 : Int) (pivot3 : Int) (Q : Value → WP) : slices_partitionOrdered_string data0 a1 b2 pivot3 Q = funJ idJ Try.prog slices_partitionOrdered_string_kp Try.f51 [.slice data0.a data0.n data0.c, .int .i64 a1, .int .i64 b2, .int .i64 pivot3] Q := rfl
theorem slices_partitionOrdered_string_calls {data0 : Sl} {a1 : Int} {b2 : Int} {pivot3 : Int} {Q : Value → WP} {w : World} (h : slices_partitionOrdered_string data0 a1 b2 pivot3 Q w) : Calls Try.prog id_slices_partitionOrdered_string #[.slice data0.a data0.n data0.c, .int .i64 a1, .int .i64 b2, .int .i64 pivot3] w fun e w' => ∃ v, e = .returned v ∧ Q v w' :=
  funJ_calls mixed Try.func51 rfl h

-- math/bits.Len32
def math_bits_Len32_kp : KP := ⟨[(10, [0, 2]), (16, [0, 2])], []⟩
def math_bits_Len32_j2 (jn : Jn) (Q : Value → WP)  (x0 : Int) (n2 : Int) : WP := jn 16 (fun ρ => codeI Try.prog math_bits_Len32_kp jn (cAt [true, true, true] (bodyOf Try.f52)) (retK Try.prog Try.f52 Q) noX (retK Try.prog Try.f52 Q) ρ) ((.int .u32 x0) :: us 1 ((.int .i64 n2) :: us 16 []))
def math_bits_Len32_j1 (jn : Jn) (Q : Value → WP)  (x0 : Int) (n2 : Int) : WP := jn 10 (fun ρ => codeI Try.prog math_bits_Len32_kp jn (cAt [true, true] (bodyOf Try.f52)) (retK Try.prog Try.f52 Q) noX (retK Try.prog Try.f52 Q) ρ) ((.int .u32 x0) :: us 1 ((.int .i64 n2) :: us 16 []))
def math_bits_Len32 (x0 : Int) (Q : Value → WP) : WP := funJ idJ Try.prog math_bits_Len32_kp Try.f52 [.int .u32 x0] Q
theorem math_bits_Len32_j2_raw (jn : Jn) (Q : Value → WP)  (x0 : Int) (n2 : Int) : codeI Try.prog math_bits_Len32_kp jn (cAt [true, true, true] (bodyOf Try.f52)) (retK Try.prog Try.f52 Q) noX (retK Try.prog Try.f52 Q) ((.int .u32 x0) :: us 1 ((.int .i64 n2) :: us 16 [])) = (
  when ((0 : Int) ≤ (IntKind.wrap .u8 x0) ∧ (IntKind.wrap .u8 x0) < (str_____________________.size : Int)) <|
  Q (.int .i64 (IntKind.wrap .i64 (n2 + (IntKind.wrap .i64 (byteAt str_____________________ ((IntKind.wrap .u8 x0)).toNat)))))) := by kernel_rfl
theorem math_bits_Len32_j2_def (Q : Value → WP)  (x0 : Int) (n2 : Int) : math_bits_Len32_j2 idJ Q  x0 n2 = codeI Try.prog math_bits_Len32_kp idJ (cAt [true, true, true] (bodyOf Try.f52)) (retK Try.prog Try.f52 Q) noX (retK Try.prog Try.f52 Q) ((.int .u32 x0) :: us 1 ((.int .i64 n2) :: us 16 [])) := by kernel_rfl
theorem math_bits_Len32_j1_raw (jn : Jn) (Q : Value → WP)  (x0 : Int) (n2 : Int) : codeI Try.prog math_bits_Len32_kp jn (cAt [true, true] (bodyOf Try.f52)) (retK Try.prog Try.f52 Q) noX (retK Try.prog Try.f52 Q) ((.int .u32 x0) :: us 1 ((.int .i64 n2) :: us 16 [])) = (
  ite2 (decide (x0 ≥ (256 : Int))) (
  when ((0 : Int) ≤ (8 : Int)) <|
  math_bits_Len32_j2 jn Q  (shrV .u32 x0 (8 : Int)) (IntKind.wrap .i64 (n2 + (8 : Int)))) (
  math_bits_Len32_j2 jn Q  x0 n2)) := by kernel_rfl
theorem math_bits_Len32_j1_def (Q : Value → WP)  (x0 : Int) (n2 : Int) : math_bits_Len32_j1 idJ Q  x0 n2 = codeI Try.prog math_bits_Len32_kp idJ (cAt [true, true] (bodyOf Try.f52)) (retK Try.prog Try.f52 Q) noX (retK Try.prog Try.f52 Q) ((.int .u32 x0) :: us 1 ((.int .i64 n2) :: us 16 [])) := by kernel_rfl
theorem math_bits_Len32_raw (jn : Jn) (x0 : Int) (Q : Value → WP) : funJ jn Try.prog math_bits_Len32_kp Try.f52 [.int .u32 x0] Q = (
  ite2 (decide (x0 ≥ (65536 : Int))) (
  when ((0 : Int) ≤ (16 : Int)) <|
  math_bits_Len32_j1 jn Q  (shrV .u32 x0 (16 : Int)) (16 : Int)) (
  math_bits_Len32_j1 jn Q  x0 (0 : Int))) := by kernel_rfl
theorem math_bits_Len32_def (x0 : Int) (Q : Value → WP) : math_bits_Len32 x0 Q = funJ idJ Try.prog math_bits_Len32_kp Try.f52 [.int .u32 x0] Q := rfl
theorem math_bits_Len32_calls {x0 : Int} {Q : Value → WP} {w : World} (h : math_bits_Len32 x0 Q w) : Calls Try.prog id_math_bits_Len32 #[.int .u32 x0] w fun e w' => ∃ v, e = .returned v ∧ Q v w' :=
  funJ_calls mixed Try.func52 rfl h

-- math/bits.Len64
def math_bits_Len64_kp : KP := ⟨[(10, [0, 2]), (16, [0, 2]), (22, [0, 2])], []⟩
def math_bits_Len64_j3 (jn : Jn) (Q : Value → WP)  (x0 : Int) (n2 : Int) : WP := jn 22 (fun ρ => codeI Try.prog math_bits_Len64_kp jn (cAt [true, true, true, true] (bodyOf Try.f53)) (retK Try.prog Try.f53 Q) noX (retK Try.prog Try.f53 Q) ρ) ((.int .u64 x0) :: us 1 ((.int .i64 n2) :: us 22 []))
def math_bits_Len64_j2 (jn : Jn) (Q : Value → WP)  (x0 : Int) (n2 : Int) : WP := jn 16 (fun ρ => codeI Try.prog math_bits_Len64_kp jn (cAt [true, true, true] (bodyOf Try.f53)) (retK Try.prog Try.f53 Q) noX (retK Try.prog Try.f53 Q) ρ) ((.int .u64 x0) :: us 1 ((.int .i64 n2) :: us 22 []))
def math_bits_Len64_j1 (jn : Jn) (Q : Value → WP)  (x0 : Int) (n2 : Int) : WP := jn 10 (fun ρ => codeI Try.prog math_bits_Len64_kp jn (cAt [true, true] (bodyOf Try.f53)) (retK Try.prog Try.f53 Q) noX (retK Try.prog Try.f53 Q) ρ) ((.int .u64 x0) :: us 1 ((.int .i64 n2) :: us 22 []))
def math_bits_Len64 (x0 : Int) (Q : Value → WP) : WP := funJ idJ Try.prog math_bits_Len64_kp Try.f53 [.int .u64 x0] Q
theorem math_bits_Len64_j3_raw (jn : Jn) (Q : Value → WP)  (x0 : Int) (n2 : Int) : codeI Try.prog math_bits_Len64_kp jn (cAt [true, true, true, true] (bodyOf Try.f53)) (retK Try.prog Try.f53 Q) noX (retK Try.prog Try.f53 Q) ((.int .u64 x0) :: us 1 ((.int .i64 n2) :: us 22 [])) = (
  when ((0 : Int) ≤ (IntKind.wrap .u8 x0) ∧ (IntKind.wrap .u8 x0) < (str_____________________.size : Int)) <|
  Q (.int .i64 (IntKind.wrap .i64 (n2 + (IntKind.wrap .i64 (byteAt str_____________________ ((IntKind.wrap .u8 x0)).toNat)))))) := by kernel_rfl
theorem math_bits_Len64_j3_def (Q : Value → WP)  (x0 : Int) (n2 : Int) : math_bits_Len64_j3 idJ Q  x0 n2 = codeI Try.prog math_bits_Len64_kp idJ (cAt [true, true, true, true] (bodyOf Try.f53)) (retK Try.prog Try.f53 Q) noX (retK Try.prog Try.f53 Q) ((.int .u64 x0) :: us 1 ((.int .i64 n2) :: us 22 [])) := by kernel_rfl
theorem math_bits_Len64_j2_raw (jn : Jn) (Q : Value → WP)  (x0 : Int) (n2 : Int) : codeI Try.prog math_bits_Len64_kp jn (cAt [true, true, true] (bodyOf Try.f53)) (retK Try.prog Try.f53 Q) noX (retK Try.prog Try.f53 Q) ((.int .u64 x0) :: us 1 ((.int .i64 n2) :: us 22 [])) = (
  ite2 (decide (x0 ≥ (256 : Int))) (
  when ((0 : Int) ≤ (8 : Int)) <|
  math_bits_Len64_j3 jn Q  (shrV .u64 x0 (8 : Int)) (IntKind.wrap .i64 (n2 + (8 : Int)))) (
  math_bits_Len64_j3 jn Q  x0 n2)) := by kernel_rfl
theorem math_bits_Len64_j2_def (Q : Value → WP)  (x0 : Int) (n2 : Int) : math_bits_Len64_j2 idJ Q  x0 n2 = codeI Try.prog math_bits_Len64_kp idJ (cAt [true, true, true] (bodyOf Try.f53)) (retK Try.prog Try.f53 Q) noX (retK Try.prog Try.f53 Q) ((.int .u64 x0) :: us 1 ((.int .i64 n2) :: us 22 [])) := by kernel_rfl
theorem math_bits_Len64_j1_raw (jn : Jn) (Q : Value → WP)  (x0 : Int) (n2 : Int) : codeI Try.prog math_bits_Len64_kp jn (cAt [true, true] (bodyOf Try.f53)) (retK Try.prog Try.f53 Q) noX (retK Try.prog Try.f53 Q) ((.int .u64 x0) :: us 1 ((.int .i64 n2) :: us 22 [])) = (
  ite2 (decide (x0 ≥ (65536 : Int))) (
  when ((0 : Int) ≤ (16 : Int)) <|
  math_bits_Len64_j2 jn Q  (shrV .u64 x0 (16 : Int)) (IntKind.wrap .i64 (n2 + (16 : Int)))) (
  math_bits_Len64_j2 jn Q  x0 n2)) := by kernel_rfl
theorem math_bits_Len64_j1_def (Q : Value → WP)  (x0 : Int) (n2 : Int) : math_bits_Len64_j1 idJ Q  x0 n2 = codeI Try.prog math_bits_Len64_kp idJ (cAt [true, true] (bodyOf Try.f53)) (retK Try.prog Try.f53 Q) noX (retK Try.prog Try.f53 Q) ((.int .u64 x0) :: us 1 ((.int .i64 n2) :: us 22 [])) := by kernel_rfl
theorem math_bits_Len64_raw (jn : Jn) (x0 : Int) (Q : Value → WP) : funJ jn Try.prog math_bits_Len64_kp Try.f53 [.int .u64 x0] Q = (
  ite2 (decide (x0 ≥ (4294967296 : Int))) (
  when ((0 : Int) ≤ (32 : Int)) <|
  math_bits_Len64_j1 jn Q  (shrV .u64 x0 (32 : Int)) (32 : Int)) (
  math_bits_Len64_j1 jn Q  x0 (0 : Int))) := by kernel_rfl
theorem math_bits_Len64_def (x0 : Int) (Q : Value → WP) : math_bits_Len64 x0 Q = funJ idJ Try.prog math_bits_Len64_kp Try.f53 [.int .u64 x0] Q := rfl
theorem math_bits_Len64_calls {x0 : Int} {Q : Value → WP} {w : World} (h : math_bits_Len64 x0 Q w) : Calls Try.prog id_math_bits_Len64 #[.int .u64 x0] w fun e w' => ∃ v, e = .returned v ∧ Q v w' :=
  funJ_calls mixed Try.func53 rfl h

-- slices.siftDownOrdered[string]
def slices_siftDownOrdered_string_kp : KP := ⟨[(5, [0, 2, 3, 8]), (12, [0, 2, 3, 8, 9])], [(3, [0, 1, 2, 3, 4, 5, 6, 7, 8, 9, 10, 11, 12, 13, 14, 15, 16, 19]), (5, [0, 1, 2, 3, 4, 5, 6, 7, 8, 9, 10, 13]), (6, [0, 1, 2, 3, 4, 5, 6, 7, 8, 9, 10, 11, 12, 13, 14, 15, 16, 17, 18, 20, 22])]⟩
def slices_siftDownOrdered_string_j2 (jn : Jn) (Q : Value → WP) (m1 : Nat) (data0 : Sl) (hi2 : Int) (first3 : Int) (root8 : Int) (child9 : Int) : WP := jn 12 (fun ρ => codeI Try.prog slices_siftDownOrdered_string_kp jn (cAt [true, false, false, false, true, true, true] (bodyOf Try.f54)) (lopK Try.prog slices_siftDownOrdered_string_kp jn (cAt [true, false, false] (bodyOf Try.f54)) (blkX 0 (retK Try.prog Try.f54 Q) noX) (retK Try.prog Try.f54 Q) m1) (blkX 1 (lopK Try.prog slices_siftDownOrdered_string_kp jn (cAt [true, false, false] (bodyOf Try.f54)) (blkX 0 (retK Try.prog Try.f54 Q) noX) (retK Try.prog Try.f54 Q) m1) (blkX 0 (retK Try.prog Try.f54 Q) noX)) (retK Try.prog Try.f54 Q) ρ) ((.slice data0.a data0.n data0.c) :: us 1 ((.int .i64 hi2) :: (.int .i64 first3) :: us 4 ((.int .i64 root8) :: (.int .i64 child9) :: us 66 [])))
def slices_siftDownOrdered_string_l1 (jn : Jn) (Q : Value → WP)  (m1 : Nat) (data0 : Sl) (hi2 : Int) (first3 : Int) (root8 : Int) : WP := lop Try.prog slices_siftDownOrdered_string_kp jn (cAt [true, false, false] (bodyOf Try.f54)) (blkX 0 (retK Try.prog Try.f54 Q) noX) (retK Try.prog Try.f54 Q) m1 ((.slice data0.a data0.n data0.c) :: us 1 ((.int .i64 hi2) :: (.int .i64 first3) :: us 4 ((.int .i64 root8) :: us 67 [])))
def slices_siftDownOrdered_string (data0 : Sl) (lo1 : Int) (hi2 : Int) (first3 : Int) (Q : Value → WP) : WP := funJ idJ Try.prog slices_siftDownOrdered_string_kp Try.f54 [.slice data0.a data0.n data0.c, .int .i64 lo1, .int .i64 hi2, .int .i64 first3] Q
theorem slices_siftDownOrdered_string_j2_raw (jn : Jn) (Q : Value → WP) (m1 : Nat) (data0 : Sl) (hi2 : Int) (first3 : Int) (root8 : Int) (child9 : Int) : codeI Try.prog slices_siftDownOrdered_string_kp jn (cAt [true, false, false, false, true, true, true] (bodyOf Try.f54)) (lopK Try.prog slices_siftDownOrdered_string_kp jn (cAt [true, false, false] (bodyOf Try.f54)) (blkX 0 (retK Try.prog Try.f54 Q) noX) (retK Try.prog Try.f54 Q) m1) (blkX 1 (lopK Try.prog slices_siftDownOrdered_string_kp jn (cAt [true, false, false] (bodyOf Try.f54)) (blkX 0 (retK Try.prog Try.f54 Q) noX) (retK Try.prog Try.f54 Q) m1) (blkX 0 (retK Try.prog Try.f54 Q) noX)) (retK Try.prog Try.f54 Q) ((.slice data0.a data0.n data0.c) :: us 1 ((.int .i64 hi2) :: (.int .i64 first3) :: us 4 ((.int .i64 root8) :: (.int .i64 child9) :: us 66 []))) = (
  drawW fun S =>
  idx data0.a data0.n (IntKind.wrap .i64 (first3 + root8)) fun b_8 o_9 =>
  ldS S .str b_8 (o_9 + ((IntKind.wrap .i64 (first3 + root8))).toNat * 1) fun (x_10 : ByteArray) =>
  idx data0.a data0.n (IntKind.wrap .i64 (first3 + child9)) fun b_11 o_12 =>
  ld .str b_11 (o_12 + ((IntKind.wrap .i64 (first3 + child9))).toNat * 1) fun (x_13 : ByteArray) =>
  keepS true S <|
  call1 .bool Try.prog id_cmp_Less_string [.string x_10, .string x_13] fun (x_14 : Bool) =>
  ite2 (!x_14) (
  Q (.tuple #[])) (
  drawW fun S =>
  idx data0.a data0.n (IntKind.wrap .i64 (first3 + child9)) fun b_15 o_16 =>
  ldS S .str b_15 (o_16 + ((IntKind.wrap .i64 (first3 + child9))).toNat * 1) fun (x_17 : ByteArray) =>
  idx data0.a data0.n (IntKind.wrap .i64 (first3 + root8)) fun b_18 o_19 =>
  ld .str b_18 (o_19 + ((IntKind.wrap .i64 (first3 + root8))).toNat * 1) fun (x_20 : ByteArray) =>
  keepS true S <|
  idx data0.a data0.n (IntKind.wrap .i64 (first3 + root8)) fun b_21 o_22 =>
  st b_21 (o_22 + ((IntKind.wrap .i64 (first3 + root8))).toNat * 1) (.string x_17) <|
  idx data0.a data0.n (IntKind.wrap .i64 (first3 + child9)) fun b_23 o_24 =>
  st b_23 (o_24 + ((IntKind.wrap .i64 (first3 + child9))).toNat * 1) (.string x_20) <|
  slices_siftDownOrdered_string_l1 jn Q  m1 data0 hi2 first3 child9)) := by kernel_rfl
theorem slices_siftDownOrdered_string_j2_def (Q : Value → WP) (m1 : Nat) (data0 : Sl) (hi2 : Int) (first3 : Int) (root8 : Int) (child9 : Int) : slices_siftDownOrdered_string_j2 idJ Q m1 data0 hi2 first3 root8 child9 = codeI Try.prog slices_siftDownOrdered_string_kp idJ (cAt [true, false, false, false, true, true, true] (bodyOf Try.f54)) (lopK Try.prog slices_siftDownOrdered_string_kp idJ (cAt [true, false, false] (bodyOf Try.f54)) (blkX 0 (retK Try.prog Try.f54 Q) noX) (retK Try.prog Try.f54 Q) m1) (blkX 1 (lopK Try.prog slices_siftDownOrdered_string_kp idJ (cAt [true, false, false] (bodyOf Try.f54)) (blkX 0 (retK Try.prog Try.f54 Q) noX) (retK Try.prog Try.f54 Q) m1) (blkX 0 (retK Try.prog Try.f54 Q) noX)) (retK Try.prog Try.f54 Q) ((.slice data0.a data0.n data0.c) :: us 1 ((.int .i64 hi2) :: (.int .i64 first3) :: us 4 ((.int .i64 root8) :: (.int .i64 child9) :: us 66 []))) := by kernel_rfl
theorem slices_siftDownOrdered_string_l1_raw (jn : Jn) (Q : Value → WP)  (m1 : Nat) (data0 : Sl) (hi2 : Int) (first3 : Int) (root8 : Int) : slices_siftDownOrdered_string_l1 jn Q  (m1 + 1) data0 hi2 first3 root8 = (
  ite2 (decide ((IntKind.wrap .i64 ((IntKind.wrap .i64 ((2 : Int) * root8)) + (1 : Int))) ≥ hi2)) (
  Q (.tuple #[])) (
  drawW fun S =>
  ite2 (decide ((IntKind.wrap .i64 ((IntKind.wrap .i64 ((IntKind.wrap .i64 ((2 : Int) * root8)) + (1 : Int))) + (1 : Int))) < hi2)) (
  idx data0.a data0.n (IntKind.wrap .i64 (first3 + (IntKind.wrap .i64 ((IntKind.wrap .i64 ((2 : Int) * root8)) + (1 : Int))))) fun b_1 o_2 =>
  ldS S .str b_1 (o_2 + ((IntKind.wrap .i64 (first3 + (IntKind.wrap .i64 ((IntKind.wrap .i64 ((2 : Int) * root8)) + (1 : Int)))))).toNat * 1) fun (x_3 : ByteArray) =>
  idx data0.a data0.n (IntKind.wrap .i64 ((IntKind.wrap .i64 (first3 + (IntKind.wrap .i64 ((IntKind.wrap .i64 ((2 : Int) * root8)) + (1 : Int))))) + (1 : Int))) fun b_4 o_5 =>
  ld .str b_4 (o_5 + ((IntKind.wrap .i64 ((IntKind.wrap .i64 (first3 + (IntKind.wrap .i64 ((IntKind.wrap .i64 ((2 : Int) * root8)) + (1 : Int))))) + (1 : Int)))).toNat * 1) fun (x_6 : ByteArray) =>
  keepS true S <|
  call1 .bool Try.prog id_cmp_Less_string [.string x_3, .string x_6] fun (x_7 : Bool) =>
  ite2 x_7 (
  slices_siftDownOrdered_string_j2 jn Q m1 data0 hi2 first3 root8 (IntKind.wrap .i64 ((IntKind.wrap .i64 ((IntKind.wrap .i64 ((2 : Int) * root8)) + (1 : Int))) + (1 : Int)))) (
  slices_siftDownOrdered_string_j2 jn Q m1 data0 hi2 first3 root8 (IntKind.wrap .i64 ((IntKind.wrap .i64 ((2 : Int) * root8)) + (1 : Int))))) (
  keepS true S <|
  slices_siftDownOrdered_string_j2 jn Q m1 data0 hi2 first3 root8 (IntKind.wrap .i64 ((IntKind.wrap .i64 ((2 : Int) * root8)) + (1 : Int)))))) := by kernel_rfl
theorem slices_siftDownOrdered_string_l1_zero (jn : Jn) (Q : Value → WP)  (data0 : Sl) (hi2 : Int) (first3 : Int) (root8 : Int) : slices_siftDownOrdered_string_l1 jn Q  0 data0 hi2 first3 root8 = bot := by kernel_rfl
theorem slices_siftDownOrdered_string_raw (jn : Jn) (data0 : Sl) (lo1 : Int) (hi2 : Int) (first3 : Int) (Q : Value → WP) : funJ jn Try.prog slices_siftDownOrdered_string_kp Try.f54 [.slice data0.a data0.n data0.c, .int .i64 lo1, .int .i64 hi2, .int .i64 first3] Q = (
  exM fun m => slices_siftDownOrdered_string_l1 jn Q  m data0 hi2 first3 lo1) := by kernel_rfl
theorem slices_siftDownOrdered_string_def (data0 : Sl) (lo1 : Int) (hi2 : Int) (first3 : Int) (Q : Value → WP) : slices_siftDownOrdered_string data0 lo1 hi2 first3 Q = funJ idJ Try.prog slices_siftDownOrdered_string_kp Try.f54 [.slice data0.a data0.n data0.c, .int .i64 lo1, .int .i64 hi2, .int .i64 first3] Q := rfl
theorem slices_siftDownOrdered_string_calls {data0 : Sl} {lo1 : Int} {hi2 : Int} {first3 : Int} {Q : Value → WP} {w : World} (h : slices_siftDownOrdered_string data0 lo1 hi2 first3 Q w) : Calls Try.prog id_slices_siftDownOrdered_string #[.slice data0.a data0.n data0.c, .int .i64 lo1, .int .i64 hi2, .int .i64 first3] w fun e w' => ∃ v, e = .returned v ∧ Q v w' :=
  funJ_calls mixed Try.func54 rfl h

-- slices.nextPowerOfTwo
def slices_nextPowerOfTwo_kp : KP := ⟨[], []⟩
def slices_nextPowerOfTwo (length0 : Int) (Q : Value → WP) : WP := funJ idJ Try.prog slices_nextPowerOfTwo_kp Try.f55 [.int .i64 length0] Q
theorem slices_nextPowerOfTwo_raw (jn : Jn) (length0 : Int) (Q : Value → WP) : funJ jn Try.prog slices_nextPowerOfTwo_kp Try.f55 [.int .i64 length0] Q = (
  call1 (.int .i64) Try.prog id_math_bits_Len [.int .u64 (IntKind.wrap .u64 length0)] fun (x_1 : Int) =>
  when ((0 : Int) ≤ x_1) <|
  Q (.int .u64 (shlV .u64 (1 : Int) x_1))) := by kernel_rfl
theorem slices_nextPowerOfTwo_def (length0 : Int) (Q : Value → WP) : slices_nextPowerOfTwo length0 Q = funJ idJ Try.prog slices_nextPowerOfTwo_kp Try.f55 [.int .i64 length0] Q := rfl
theorem slices_nextPowerOfTwo_calls {length0 : Int} {Q : Value → WP} {w : World} (h : slices_nextPowerOfTwo length0 Q w) : Calls Try.prog id_slices_nextPowerOfTwo #[.int .i64 length0] w fun e w' => ∃ v, e = .returned v ∧ Q v w' :=
  funJ_calls mixed Try.func55 rfl h

-- (*slices.xorshift).Next
def slices_xorshift_Next_kp : KP := ⟨[], [(1, [0, 1, 2, 3, 4, 6, 7, 8]), (2, [0, 1, 2, 3, 4, 6, 7, 8]), (3, [0, 1, 2, 3, 4, 6, 7, 8])]⟩
def slices_xorshift_Next (r0 : Option Addr) (Q : Value → WP) : WP := funJ idJ Try.prog slices_xorshift_Next_kp Try.f56 [.pointer r0] Q
theorem slices_xorshift_Next_raw (jn : Jn) (r0 : Option Addr) (Q : Value → WP) : funJ jn Try.prog slices_xorshift_Next_kp Try.f56 [.pointer r0] Q = (
  drawW fun S =>
  nilck r0 fun b_1 o_2 =>
  ldS S (.int .u64) b_1 o_2 fun (x_3 : Int) =>
  nilck r0 fun b_4 o_5 =>
  ld (.int .u64) b_4 o_5 fun (x_6 : Int) =>
  keepS true S <|
  when ((0 : Int) ≤ (13 : Int)) <|
  nilck r0 fun b_7 o_8 =>
  st b_7 o_8 (.int .u64 (bits .xor .u64 x_3 (shlV .u64 x_6 (13 : Int)))) <|
  drawW fun S =>
  nilck r0 fun b_9 o_10 =>
  ldS S (.int .u64) b_9 o_10 fun (x_11 : Int) =>
  nilck r0 fun b_12 o_13 =>
  ld (.int .u64) b_12 o_13 fun (x_14 : Int) =>
  keepS true S <|
  when ((0 : Int) ≤ (7 : Int)) <|
  nilck r0 fun b_15 o_16 =>
  st b_15 o_16 (.int .u64 (bits .xor .u64 x_11 (shrV .u64 x_14 (7 : Int)))) <|
  drawW fun S =>
  nilck r0 fun b_17 o_18 =>
  ldS S (.int .u64) b_17 o_18 fun (x_19 : Int) =>
  nilck r0 fun b_20 o_21 =>
  ld (.int .u64) b_20 o_21 fun (x_22 : Int) =>
  keepS true S <|
  when ((0 : Int) ≤ (17 : Int)) <|
  nilck r0 fun b_23 o_24 =>
  st b_23 o_24 (.int .u64 (bits .xor .u64 x_19 (shlV .u64 x_22 (17 : Int)))) <|
  nilck r0 fun b_25 o_26 =>
  ld (.int .u64) b_25 o_26 fun (x_27 : Int) =>
  Q (.int .u64 x_27)) := by kernel_rfl
theorem slices_xorshift_Next_def (r0 : Option Addr) (Q : Value → WP) : slices_xorshift_Next r0 Q = funJ idJ Try.prog slices_xorshift_Next_kp Try.f56 [.pointer r0] Q := rfl
theorem slices_xorshift_Next_calls {r0 : Option Addr} {Q : Value → WP} {w : World} (h : slices_xorshift_Next r0 Q w) : Calls Try.prog id_slices_xorshift_Next #[.pointer r0] w fun e w' => ∃ v, e = .returned v ∧ Q v w' :=
  funJ_calls mixed Try.func56 rfl h

-- slices.medianAdjacentOrdered[string]
def slices_medianAdjacentOrdered_string_kp : KP := ⟨[], []⟩
def slices_medianAdjacentOrdered_string (data0 : Sl) (a1 : Int) (swaps2 : Option Addr) (Q : Value → WP) : WP := funJ idJ Try.prog slices_medianAdjacentOrdered_string_kp Try.f57 [.slice data0.a data0.n data0.c, .int .i64 a1, .pointer swaps2] Q
theorem slices_medianAdjacentOrdered_string_raw (jn : Jn) (data0 : Sl) (a1 : Int) (swaps2 : Option Addr) (Q : Value → WP) : funJ jn Try.prog slices_medianAdjacentOrdered_string_kp Try.f57 [.slice data0.a data0.n data0.c, .int .i64 a1, .pointer swaps2] Q = (
  call1 (.int .i64) Try.prog id_slices_medianOrdered_string [.slice data0.a data0.n data0.c, .int .i64 (IntKind.wrap .i64 (a1 - (1 : Int))), .int .i64 a1, .int .i64 (IntKind.wrap .i64 (a1 + (1 : Int))), .pointer swaps2] fun (x_1 : Int) =>
  Q (.int .i64 x_1)) := by kernel_rfl
theorem slices_medianAdjacentOrdered_string_def (data0 : Sl) (a1 : Int) (swaps2 : Option Addr) (Q : Value → WP) : slices_medianAdjacentOrdered_string data0 a1 swaps2 Q = funJ idJ Try.prog slices_medianAdjacentOrdered_string_kp Try.f57 [.slice data0.a data0.n data0.c, .int .i64 a1, .pointer swaps2] Q := rfl
theorem slices_medianAdjacentOrdered_string_calls {data0 : Sl} {a1 : Int} {swaps2 : Option Addr} {Q : Value → WP} {w : World} (h : slices_medianAdjacentOrdered_string data0 a1 swaps2 Q w) : Calls Try.prog id_slices_medianAdjacentOrdered_string #[.slice data0.a data0.n data0.c, .int .i64 a1, .pointer swaps2] w fun e w' => ∃ v, e = .returned v ∧ Q v w' :=
  funJ_calls mixed Try.func57 rfl h

-- slices.medianOrdered[string]
def slices_medianOrdered_string_kp : KP := ⟨[], []⟩
def slices_medianOrdered_string (data0 : Sl) (a1 : Int) (b2 : Int) (c3 : Int) (swaps4 : Option Addr) (Q : Value → WP) : WP := funJ idJ Try.prog slices_medianOrdered_string_kp Try.f58 [.slice data0.a data0.n data0.c, .int .i64 a1, .int .i64 b2, .int .i64 c3, .pointer swaps4] Q
theorem slices_medianOrdered_string_raw (jn : Jn) (data0 : Sl) (a1 : Int) (b2 : Int) (c3 : Int) (swaps4 : Option Addr) (Q : Value → WP) : funJ jn Try.prog slices_medianOrdered_string_kp Try.f58 [.slice data0.a data0.n data0.c, .int .i64 a1, .int .i64 b2, .int .i64 c3, .pointer swaps4] Q = (
  call2 (.int .i64) (.int .i64) Try.prog id_slices_order2Ordered_string [.slice data0.a data0.n data0.c, .int .i64 a1, .int .i64 b2, .pointer swaps4] fun (x_1 : Int) (x_2 : Int) =>
  call2 (.int .i64) (.int .i64) Try.prog id_slices_order2Ordered_string [.slice data0.a data0.n data0.c, .int .i64 x_2, .int .i64 c3, .pointer swaps4] fun (x_3 : Int) (x_4 : Int) =>
  call2 (.int .i64) (.int .i64) Try.prog id_slices_order2Ordered_string [.slice data0.a data0.n data0.c, .int .i64 x_1, .int .i64 x_3, .pointer swaps4] fun (x_5 : Int) (x_6 : Int) =>
  Q (.int .i64 x_6)) := by kernel_rfl
theorem slices_medianOrdered_string_def (data0 : Sl) (a1 : Int) (b2 : Int) (c3 : Int) (swaps4 : Option Addr) (Q : Value → WP) : slices_medianOrdered_string data0 a1 b2 c3 swaps4 Q = funJ idJ Try.prog slices_medianOrdered_string_kp Try.f58 [.slice data0.a data0.n data0.c, .int .i64 a1, .int .i64 b2, .int .i64 c3, .pointer swaps4] Q := rfl
theorem slices_medianOrdered_string_calls {data0 : Sl} {a1 : Int} {b2 : Int} {c3 : Int} {swaps4 : Option Addr} {Q : Value → WP} {w : World} (h : slices_medianOrdered_string data0 a1 b2 c3 swaps4 Q w) : Calls Try.prog id_slices_medianOrdered_string #[.slice data0.a data0.n data0.c, .int .i64 a1, .int .i64 b2, .int .i64 c3, .pointer swaps4] w fun e w' => ∃ v, e = .returned v ∧ Q v w' :=
  funJ_calls mixed Try.func58 rfl h

-- cmp.isNaN[string]
def cmp_isNaN_string_kp : KP := ⟨[], []⟩
def cmp_isNaN_string (x0 : ByteArray) (Q : Value → WP) : WP := funJ idJ Try.prog cmp_isNaN_string_kp Try.f59 [.string x0] Q
theorem cmp_isNaN_string_raw (jn : Jn) (x0 : ByteArray) (Q : Value → WP) : funJ jn Try.prog cmp_isNaN_string_kp Try.f59 [.string x0] Q = (
  Q (.bool (!sEq x0 x0))) := by kernel_rfl
theorem cmp_isNaN_string_def (x0 : ByteArray) (Q : Value → WP) : cmp_isNaN_string x0 Q = funJ idJ Try.prog cmp_isNaN_string_kp Try.f59 [.string x0] Q := rfl
theorem cmp_isNaN_string_calls {x0 : ByteArray} {Q : Value → WP} {w : World} (h : cmp_isNaN_string x0 Q w) : Calls Try.prog id_cmp_isNaN_string #[.string x0] w fun e w' => ∃ v, e = .returned v ∧ Q v w' :=
  funJ_calls mixed Try.func59 rfl h

-- slices.order2Ordered[string]
def slices_order2Ordered_string_kp : KP := ⟨[], [(1, [0, 1, 2, 3, 4, 5, 6])]⟩
def slices_order2Ordered_string (data0 : Sl) (a1 : Int) (b2 : Int) (swaps3 : Option Addr) (Q : Value → WP) : WP := funJ idJ Try.prog slices_order2Ordered_string_kp Try.f60 [.slice data0.a data0.n data0.c, .int .i64 a1, .int .i64 b2, .pointer swaps3] Q
theorem slices_order2Ordered_string_raw (jn : Jn) (data0 : Sl) (a1 : Int) (b2 : Int) (swaps3 : Option Addr) (Q : Value → WP) : funJ jn Try.prog slices_order2Ordered_string_kp Try.f60 [.slice data0.a data0.n data0.c, .int .i64 a1, .int .i64 b2, .pointer swaps3] Q = (
  drawW fun S =>
  idx data0.a data0.n b2 fun b_1 o_2 =>
  ldS S .str b_1 (o_2 + (b2).toNat * 1) fun (x_3 : ByteArray) =>
  idx data0.a data0.n a1 fun b_4 o_5 =>
  ld .str b_4 (o_5 + (a1).toNat * 1) fun (x_6 : ByteArray) =>
  keepS true S <|
  call1 .bool Try.prog id_cmp_Less_string [.string x_3, .string x_6] fun (x_7 : Bool) =>
  ite2 x_7 (
  nilck swaps3 fun b_8 o_9 =>
  ld (.int .i64) b_8 o_9 fun (x_10 : Int) =>
  nilck swaps3 fun b_11 o_12 =>
  st b_11 o_12 (.int .i64 (IntKind.wrap .i64 (x_10 + (1 : Int)))) <|
  Q (.tuple #[.int .i64 b2, .int .i64 a1])) (
  Q (.tuple #[.int .i64 a1, .int .i64 b2]))) := by kernel_rfl
theorem slices_order2Ordered_string_def (data0 : Sl) (a1 : Int) (b2 : Int) (swaps3 : Option Addr) (Q : Value → WP) : slices_order2Ordered_string data0 a1 b2 swaps3 Q = funJ idJ Try.prog slices_order2Ordered_string_kp Try.f60 [.slice data0.a data0.n data0.c, .int .i64 a1, .int .i64 b2, .pointer swaps3] Q := rfl
theorem slices_order2Ordered_string_calls {data0 : Sl} {a1 : Int} {b2 : Int} {swaps3 : Option Addr} {Q : Value → WP} {w : World} (h : slices_order2Ordered_string data0 a1 b2 swaps3 Q w) : Calls Try.prog id_slices_order2Ordered_string #[.slice data0.a data0.n data0.c, .int .i64 a1, .int .i64 b2, .pointer swaps3] w fun e w' => ∃ v, e = .returned v ∧ Q v w' :=
  funJ_calls mixed Try.func60 rfl h

end Go.Proofs.Ytcpmmojpgngaaaa
