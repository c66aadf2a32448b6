/- Printed by a program of mine (wip/tools/shal.py): the shallow texts of the loaded functions, each equal to the interpreter's reading by the kernel. -/
import Derived.Test.YtchlicgjdlkidaaDoorSound7
import Derived.Test.YtchlicgjdlkidaaDoorChecked
import Derived.KernelRfl
import Derived.Test.YtchlicgjdlkidaaDoorShalA
set_option linter.unusedVariables false
set_option maxRecDepth 100000
namespace Go.Proofs.YtchlicgjdlkidaaDoor
open Go.Hb

-- internal/strconv.formatBase10
def internal_strconv_formatBase10_kp : KP := ⟨[(5, [0, 1, 4]), (26, [0, 1, 4]), (42, [0, 4, 12]), (52, [0, 4, 12])], [(7, [0, 1, 2, 3, 4, 5, 6, 7, 8, 9, 10, 11, 13]), (8, [0, 1, 2, 3, 4, 5, 6, 7, 8, 9, 10, 11, 13]), (9, [0, 1, 2, 3, 4, 5, 6, 7, 8, 9, 10, 11, 13]), (10, [0, 1, 2, 3, 4, 5, 6, 7, 8, 9, 10, 11, 13]), (17, [0, 1, 2, 3, 4, 5, 6, 7, 8, 9, 10, 11, 13]), (18, [0, 1, 2, 3, 4, 5, 6, 7, 8, 9, 10, 11, 13]), (23, [0, 1, 2, 3, 4, 5, 6, 7, 8, 9, 10, 11, 13])]⟩
def internal_strconv_formatBase10_j4 (jn : Jn) (Q : Value → WP)  (a0 : Sl) (nd4 : Int) (x12 : Int) : WP := jn 52 (fun ρ => codeI Tryd.prog internal_strconv_formatBase10_kp jn (cAt [true, true, true, true, true] (bodyOf Tryd.f98)) (retK Tryd.prog Tryd.f98 Q) noX (retK Tryd.prog Tryd.f98 Q) ρ) ((.slice a0.a a0.n a0.c) :: us 3 ((.int .i64 nd4) :: us 7 ((.int .u32 x12) :: us 154 [])))
def internal_strconv_formatBase10_j3 (jn : Jn) (Q : Value → WP)  (a0 : Sl) (nd4 : Int) (x12 : Int) : WP := jn 42 (fun ρ => codeI Tryd.prog internal_strconv_formatBase10_kp jn (cAt [true, true, true, true] (bodyOf Tryd.f98)) (retK Tryd.prog Tryd.f98 Q) noX (retK Tryd.prog Tryd.f98 Q) ρ) ((.slice a0.a a0.n a0.c) :: us 3 ((.int .i64 nd4) :: us 7 ((.int .u32 x12) :: us 154 [])))
def internal_strconv_formatBase10_j2 (jn : Jn) (Q : Value → WP)  (a0 : Sl) (u1 : Int) (nd4 : Int) : WP := jn 26 (fun ρ => codeI Tryd.prog internal_strconv_formatBase10_kp jn (cAt [true, true] (bodyOf Tryd.f98)) (retK Tryd.prog Tryd.f98 Q) noX (retK Tryd.prog Tryd.f98 Q) ρ) ((.slice a0.a a0.n a0.c) :: (.int .u64 u1) :: us 2 ((.int .i64 nd4) :: us 162 []))
def internal_strconv_formatBase10_l1 (jn : Jn) (Q : Value → WP)  (m1 : Nat) (a0 : Sl) (u1 : Int) (nd4 : Int) : WP := lop Tryd.prog internal_strconv_formatBase10_kp jn (cAt [true, false, false, false] (bodyOf Tryd.f98)) (blkX 0 (seqK Tryd.prog internal_strconv_formatBase10_kp jn (cAt [true, true] (bodyOf Tryd.f98)) (retK Tryd.prog Tryd.f98 Q) noX (retK Tryd.prog Tryd.f98 Q)) noX) (retK Tryd.prog Tryd.f98 Q) m1 ((.slice a0.a a0.n a0.c) :: (.int .u64 u1) :: us 2 ((.int .i64 nd4) :: us 162 []))
def internal_strconv_formatBase10 (a0 : Sl) (u1 : Int) (Q : Value → WP) : WP := funJ idJ Tryd.prog internal_strconv_formatBase10_kp Tryd.f98 [.slice a0.a a0.n a0.c, .int .u64 u1] Q
theorem internal_strconv_formatBase10_j4_raw (jn : Jn) (Q : Value → WP)  (a0 : Sl) (nd4 : Int) (x12 : Int) : codeI Tryd.prog internal_strconv_formatBase10_kp jn (cAt [true, true, true, true, true] (bodyOf Tryd.f98)) (retK Tryd.prog Tryd.f98 Q) noX (retK Tryd.prog Tryd.f98 Q) ((.slice a0.a a0.n a0.c) :: us 3 ((.int .i64 nd4) :: us 7 ((.int .u32 x12) :: us 154 []))) = (
  ite2 (decide (nd4 > (0 : Int))) (
  idx a0.a a0.n (0 : Int) fun b_29 o_30 =>
  st b_29 (o_30 + ((0 : Int)).toNat * 1) (.int .u8 (IntKind.wrap .u8 (IntKind.wrap .u32 ((48 : Int) + x12)))) <|
  Q (.tuple #[])) (
  Q (.tuple #[]))) := by kernel_rfl
theorem internal_strconv_formatBase10_j4_def (Q : Value → WP)  (a0 : Sl) (nd4 : Int) (x12 : Int) : internal_strconv_formatBase10_j4 idJ Q  a0 nd4 x12 = codeI Tryd.prog internal_strconv_formatBase10_kp idJ (cAt [true, true, true, true, true] (bodyOf Tryd.f98)) (retK Tryd.prog Tryd.f98 Q) noX (retK Tryd.prog Tryd.f98 Q) ((.slice a0.a a0.n a0.c) :: us 3 ((.int .i64 nd4) :: us 7 ((.int .u32 x12) :: us 154 []))) := by kernel_rfl
theorem internal_strconv_formatBase10_j3_raw (jn : Jn) (Q : Value → WP)  (a0 : Sl) (nd4 : Int) (x12 : Int) : codeI Tryd.prog internal_strconv_formatBase10_kp jn (cAt [true, true, true, true] (bodyOf Tryd.f98)) (retK Tryd.prog Tryd.f98 Q) noX (retK Tryd.prog Tryd.f98 Q) ((.slice a0.a a0.n a0.c) :: us 3 ((.int .i64 nd4) :: us 7 ((.int .u32 x12) :: us 154 []))) = (
  ite2 (decide (nd4 ≥ (2 : Int))) (
  when ((100 : Int) ≠ 0) <|
  when ((100 : Int) ≠ 0) <|
  drawW fun S =>
  when ((0 : Int) ≤ (IntKind.wrap .u32 ((IntKind.wrap .u32 ((Int.tmod x12 (100 : Int)) * (2 : Int))) + (1 : Int))) ∧ (IntKind.wrap .u32 ((IntKind.wrap .u32 ((Int.tmod x12 (100 : Int)) * (2 : Int))) + (1 : Int))) < (str_00010203040506070809.size : Int)) <|
  when ((0 : Int) ≤ (IntKind.wrap .u32 ((Int.tmod x12 (100 : Int)) * (2 : Int))) ∧ (IntKind.wrap .u32 ((Int.tmod x12 (100 : Int)) * (2 : Int))) < (str_00010203040506070809.size : Int)) <|
  idx a0.a a0.n (IntKind.wrap .i64 (nd4 - (1 : Int))) fun b_25 o_26 =>
  st b_25 (o_26 + ((IntKind.wrap .i64 (nd4 - (1 : Int)))).toNat * 1) (.int .u8 (byteAt str_00010203040506070809 ((IntKind.wrap .u32 ((IntKind.wrap .u32 ((Int.tmod x12 (100 : Int)) * (2 : Int))) + (1 : Int)))).toNat)) <|
  idx a0.a a0.n (IntKind.wrap .i64 (nd4 - (2 : Int))) fun b_27 o_28 =>
  st b_27 (o_28 + ((IntKind.wrap .i64 (nd4 - (2 : Int)))).toNat * 1) (.int .u8 (byteAt str_00010203040506070809 ((IntKind.wrap .u32 ((Int.tmod x12 (100 : Int)) * (2 : Int)))).toNat)) <|
  internal_strconv_formatBase10_j4 jn Q  a0 (IntKind.wrap .i64 (nd4 - (2 : Int))) (IntKind.wrap .u32 (Int.tdiv x12 (100 : Int)))) (
  internal_strconv_formatBase10_j4 jn Q  a0 nd4 x12)) := by kernel_rfl
theorem internal_strconv_formatBase10_j3_def (Q : Value → WP)  (a0 : Sl) (nd4 : Int) (x12 : Int) : internal_strconv_formatBase10_j3 idJ Q  a0 nd4 x12 = codeI Tryd.prog internal_strconv_formatBase10_kp idJ (cAt [true, true, true, true] (bodyOf Tryd.f98)) (retK Tryd.prog Tryd.f98 Q) noX (retK Tryd.prog Tryd.f98 Q) ((.slice a0.a a0.n a0.c) :: us 3 ((.int .i64 nd4) :: us 7 ((.int .u32 x12) :: us 154 []))) := by kernel_rfl
theorem internal_strconv_formatBase10_j2_raw (jn : Jn) (Q : Value → WP)  (a0 : Sl) (u1 : Int) (nd4 : Int) : codeI Tryd.prog internal_strconv_formatBase10_kp jn (cAt [true, true] (bodyOf Tryd.f98)) (retK Tryd.prog Tryd.f98 Q) noX (retK Tryd.prog Tryd.f98 Q) ((.slice a0.a a0.n a0.c) :: (.int .u64 u1) :: us 2 ((.int .i64 nd4) :: us 162 [])) = (
  ite2 (decide (nd4 ≥ (4 : Int))) (
  when ((10000 : Int) ≠ 0) <|
  when ((10000 : Int) ≠ 0) <|
  when ((100 : Int) ≠ 0) <|
  when ((100 : Int) ≠ 0) <|
  drawW fun S =>
  when ((0 : Int) ≤ (IntKind.wrap .u32 ((IntKind.wrap .u32 ((Int.tmod (Int.tmod (IntKind.wrap .u32 u1) (10000 : Int)) (100 : Int)) * (2 : Int))) + (1 : Int))) ∧ (IntKind.wrap .u32 ((IntKind.wrap .u32 ((Int.tmod (Int.tmod (IntKind.wrap .u32 u1) (10000 : Int)) (100 : Int)) * (2 : Int))) + (1 : Int))) < (str_00010203040506070809.size : Int)) <|
  when ((0 : Int) ≤ (IntKind.wrap .u32 ((Int.tmod (Int.tmod (IntKind.wrap .u32 u1) (10000 : Int)) (100 : Int)) * (2 : Int))) ∧ (IntKind.wrap .u32 ((Int.tmod (Int.tmod (IntKind.wrap .u32 u1) (10000 : Int)) (100 : Int)) * (2 : Int))) < (str_00010203040506070809.size : Int)) <|
  idx a0.a a0.n (IntKind.wrap .i64 (nd4 - (1 : Int))) fun b_17 o_18 =>
  st b_17 (o_18 + ((IntKind.wrap .i64 (nd4 - (1 : Int)))).toNat * 1) (.int .u8 (byteAt str_00010203040506070809 ((IntKind.wrap .u32 ((IntKind.wrap .u32 ((Int.tmod (Int.tmod (IntKind.wrap .u32 u1) (10000 : Int)) (100 : Int)) * (2 : Int))) + (1 : Int)))).toNat)) <|
  idx a0.a a0.n (IntKind.wrap .i64 (nd4 - (2 : Int))) fun b_19 o_20 =>
  st b_19 (o_20 + ((IntKind.wrap .i64 (nd4 - (2 : Int)))).toNat * 1) (.int .u8 (byteAt str_00010203040506070809 ((IntKind.wrap .u32 ((Int.tmod (Int.tmod (IntKind.wrap .u32 u1) (10000 : Int)) (100 : Int)) * (2 : Int)))).toNat)) <|
  drawW fun S =>
  when ((0 : Int) ≤ (IntKind.wrap .u32 ((IntKind.wrap .u32 ((IntKind.wrap .u32 (Int.tdiv (Int.tmod (IntKind.wrap .u32 u1) (10000 : Int)) (100 : Int))) * (2 : Int))) + (1 : Int))) ∧ (IntKind.wrap .u32 ((IntKind.wrap .u32 ((IntKind.wrap .u32 (Int.tdiv (Int.tmod (IntKind.wrap .u32 u1) (10000 : Int)) (100 : Int))) * (2 : Int))) + (1 : Int))) < (str_00010203040506070809.size : Int)) <|
  when ((0 : Int) ≤ (IntKind.wrap .u32 ((IntKind.wrap .u32 (Int.tdiv (Int.tmod (IntKind.wrap .u32 u1) (10000 : Int)) (100 : Int))) * (2 : Int))) ∧ (IntKind.wrap .u32 ((IntKind.wrap .u32 (Int.tdiv (Int.tmod (IntKind.wrap .u32 u1) (10000 : Int)) (100 : Int))) * (2 : Int))) < (str_00010203040506070809.size : Int)) <|
  idx a0.a a0.n (IntKind.wrap .i64 (nd4 - (3 : Int))) fun b_21 o_22 =>
  st b_21 (o_22 + ((IntKind.wrap .i64 (nd4 - (3 : Int)))).toNat * 1) (.int .u8 (byteAt str_00010203040506070809 ((IntKind.wrap .u32 ((IntKind.wrap .u32 ((IntKind.wrap .u32 (Int.tdiv (Int.tmod (IntKind.wrap .u32 u1) (10000 : Int)) (100 : Int))) * (2 : Int))) + (1 : Int)))).toNat)) <|
  idx a0.a a0.n (IntKind.wrap .i64 (nd4 - (4 : Int))) fun b_23 o_24 =>
  st b_23 (o_24 + ((IntKind.wrap .i64 (nd4 - (4 : Int)))).toNat * 1) (.int .u8 (byteAt str_00010203040506070809 ((IntKind.wrap .u32 ((IntKind.wrap .u32 (Int.tdiv (Int.tmod (IntKind.wrap .u32 u1) (10000 : Int)) (100 : Int))) * (2 : Int)))).toNat)) <|
  internal_strconv_formatBase10_j3 jn Q  a0 (IntKind.wrap .i64 (nd4 - (4 : Int))) (IntKind.wrap .u32 (Int.tdiv (IntKind.wrap .u32 u1) (10000 : Int)))) (
  internal_strconv_formatBase10_j3 jn Q  a0 nd4 (IntKind.wrap .u32 u1))) := by kernel_rfl
theorem internal_strconv_formatBase10_j2_def (Q : Value → WP)  (a0 : Sl) (u1 : Int) (nd4 : Int) : internal_strconv_formatBase10_j2 idJ Q  a0 u1 nd4 = codeI Tryd.prog internal_strconv_formatBase10_kp idJ (cAt [true, true] (bodyOf Tryd.f98)) (retK Tryd.prog Tryd.f98 Q) noX (retK Tryd.prog Tryd.f98 Q) ((.slice a0.a a0.n a0.c) :: (.int .u64 u1) :: us 2 ((.int .i64 nd4) :: us 162 [])) := by kernel_rfl
theorem internal_strconv_formatBase10_l1_raw (jn : Jn) (Q : Value → WP)  (m1 : Nat) (a0 : Sl) (u1 : Int) (nd4 : Int) : internal_strconv_formatBase10_l1 jn Q  (m1 + 1) a0 u1 nd4 = (
  ite2 (decide (nd4 ≥ (8 : Int))) (
  when ((100000000 : Int) ≠ 0) <|
  when ((100000000 : Int) ≠ 0) <|
  when ((10000 : Int) ≠ 0) <|
  when ((10000 : Int) ≠ 0) <|
  when ((100 : Int) ≠ 0) <|
  when ((100 : Int) ≠ 0) <|
  when ((100 : Int) ≠ 0) <|
  when ((100 : Int) ≠ 0) <|
  drawW fun S =>
  when ((0 : Int) ≤ (IntKind.wrap .u32 ((IntKind.wrap .u32 ((Int.tmod (Int.tmod (IntKind.wrap .u32 (Int.tmod u1 (100000000 : Int))) (10000 : Int)) (100 : Int)) * (2 : Int))) + (1 : Int))) ∧ (IntKind.wrap .u32 ((IntKind.wrap .u32 ((Int.tmod (Int.tmod (IntKind.wrap .u32 (Int.tmod u1 (100000000 : Int))) (10000 : Int)) (100 : Int)) * (2 : Int))) + (1 : Int))) < (str_00010203040506070809.size : Int)) <|
  when ((0 : Int) ≤ (IntKind.wrap .u32 ((Int.tmod (Int.tmod (IntKind.wrap .u32 (Int.tmod u1 (100000000 : Int))) (10000 : Int)) (100 : Int)) * (2 : Int))) ∧ (IntKind.wrap .u32 ((Int.tmod (Int.tmod (IntKind.wrap .u32 (Int.tmod u1 (100000000 : Int))) (10000 : Int)) (100 : Int)) * (2 : Int))) < (str_00010203040506070809.size : Int)) <|
  idx a0.a a0.n (IntKind.wrap .i64 (nd4 - (1 : Int))) fun b_1 o_2 =>
  st b_1 (o_2 + ((IntKind.wrap .i64 (nd4 - (1 : Int)))).toNat * 1) (.int .u8 (byteAt str_00010203040506070809 ((IntKind.wrap .u32 ((IntKind.wrap .u32 ((Int.tmod (Int.tmod (IntKind.wrap .u32 (Int.tmod u1 (100000000 : Int))) (10000 : Int)) (100 : Int)) * (2 : Int))) + (1 : Int)))).toNat)) <|
  idx a0.a a0.n (IntKind.wrap .i64 (nd4 - (2 : Int))) fun b_3 o_4 =>
  st b_3 (o_4 + ((IntKind.wrap .i64 (nd4 - (2 : Int)))).toNat * 1) (.int .u8 (byteAt str_00010203040506070809 ((IntKind.wrap .u32 ((Int.tmod (Int.tmod (IntKind.wrap .u32 (Int.tmod u1 (100000000 : Int))) (10000 : Int)) (100 : Int)) * (2 : Int)))).toNat)) <|
  drawW fun S =>
  when ((0 : Int) ≤ (IntKind.wrap .u32 ((IntKind.wrap .u32 ((IntKind.wrap .u32 (Int.tdiv (Int.tmod (IntKind.wrap .u32 (Int.tmod u1 (100000000 : Int))) (10000 : Int)) (100 : Int))) * (2 : Int))) + (1 : Int))) ∧ (IntKind.wrap .u32 ((IntKind.wrap .u32 ((IntKind.wrap .u32 (Int.tdiv (Int.tmod (IntKind.wrap .u32 (Int.tmod u1 (100000000 : Int))) (10000 : Int)) (100 : Int))) * (2 : Int))) + (1 : Int))) < (str_00010203040506070809.size : Int)) <|
  when ((0 : Int) ≤ (IntKind.wrap .u32 ((IntKind.wrap .u32 (Int.tdiv (Int.tmod (IntKind.wrap .u32 (Int.tmod u1 (100000000 : Int))) (10000 : Int)) (100 : Int))) * (2 : Int))) ∧ (IntKind.wrap .u32 ((IntKind.wrap .u32 (Int.tdiv (Int.tmod (IntKind.wrap .u32 (Int.tmod u1 (100000000 : Int))) (10000 : Int)) (100 : Int))) * (2 : Int))) < (str_00010203040506070809.size : Int)) <|
  idx a0.a a0.n (IntKind.wrap .i64 (nd4 - (3 : Int))) fun b_5 o_6 =>
  st b_5 (o_6 + ((IntKind.wrap .i64 (nd4 - (3 : Int)))).toNat * 1) (.int .u8 (byteAt str_00010203040506070809 ((IntKind.wrap .u32 ((IntKind.wrap .u32 ((IntKind.wrap .u32 (Int.tdiv (Int.tmod (IntKind.wrap .u32 (Int.tmod u1 (100000000 : Int))) (10000 : Int)) (100 : Int))) * (2 : Int))) + (1 : Int)))).toNat)) <|
  idx a0.a a0.n (IntKind.wrap .i64 (nd4 - (4 : Int))) fun b_7 o_8 =>
  st b_7 (o_8 + ((IntKind.wrap .i64 (nd4 - (4 : Int)))).toNat * 1) (.int .u8 (byteAt str_00010203040506070809 ((IntKind.wrap .u32 ((IntKind.wrap .u32 (Int.tdiv (Int.tmod (IntKind.wrap .u32 (Int.tmod u1 (100000000 : Int))) (10000 : Int)) (100 : Int))) * (2 : Int)))).toNat)) <|
  drawW fun S =>
  when ((0 : Int) ≤ (IntKind.wrap .u32 ((IntKind.wrap .u32 ((Int.tmod (IntKind.wrap .u32 (Int.tdiv (IntKind.wrap .u32 (Int.tmod u1 (100000000 : Int))) (10000 : Int))) (100 : Int)) * (2 : Int))) + (1 : Int))) ∧ (IntKind.wrap .u32 ((IntKind.wrap .u32 ((Int.tmod (IntKind.wrap .u32 (Int.tdiv (IntKind.wrap .u32 (Int.tmod u1 (100000000 : Int))) (10000 : Int))) (100 : Int)) * (2 : Int))) + (1 : Int))) < (str_00010203040506070809.size : Int)) <|
  when ((0 : Int) ≤ (IntKind.wrap .u32 ((Int.tmod (IntKind.wrap .u32 (Int.tdiv (IntKind.wrap .u32 (Int.tmod u1 (100000000 : Int))) (10000 : Int))) (100 : Int)) * (2 : Int))) ∧ (IntKind.wrap .u32 ((Int.tmod (IntKind.wrap .u32 (Int.tdiv (IntKind.wrap .u32 (Int.tmod u1 (100000000 : Int))) (10000 : Int))) (100 : Int)) * (2 : Int))) < (str_00010203040506070809.size : Int)) <|
  idx a0.a a0.n (IntKind.wrap .i64 (nd4 - (5 : Int))) fun b_9 o_10 =>
  st b_9 (o_10 + ((IntKind.wrap .i64 (nd4 - (5 : Int)))).toNat * 1) (.int .u8 (byteAt str_00010203040506070809 ((IntKind.wrap .u32 ((IntKind.wrap .u32 ((Int.tmod (IntKind.wrap .u32 (Int.tdiv (IntKind.wrap .u32 (Int.tmod u1 (100000000 : Int))) (10000 : Int))) (100 : Int)) * (2 : Int))) + (1 : Int)))).toNat)) <|
  idx a0.a a0.n (IntKind.wrap .i64 (nd4 - (6 : Int))) fun b_11 o_12 =>
  st b_11 (o_12 + ((IntKind.wrap .i64 (nd4 - (6 : Int)))).toNat * 1) (.int .u8 (byteAt str_00010203040506070809 ((IntKind.wrap .u32 ((Int.tmod (IntKind.wrap .u32 (Int.tdiv (IntKind.wrap .u32 (Int.tmod u1 (100000000 : Int))) (10000 : Int))) (100 : Int)) * (2 : Int)))).toNat)) <|
  drawW fun S =>
  when ((0 : Int) ≤ (IntKind.wrap .u32 ((IntKind.wrap .u32 ((IntKind.wrap .u32 (Int.tdiv (IntKind.wrap .u32 (Int.tdiv (IntKind.wrap .u32 (Int.tmod u1 (100000000 : Int))) (10000 : Int))) (100 : Int))) * (2 : Int))) + (1 : Int))) ∧ (IntKind.wrap .u32 ((IntKind.wrap .u32 ((IntKind.wrap .u32 (Int.tdiv (IntKind.wrap .u32 (Int.tdiv (IntKind.wrap .u32 (Int.tmod u1 (100000000 : Int))) (10000 : Int))) (100 : Int))) * (2 : Int))) + (1 : Int))) < (str_00010203040506070809.size : Int)) <|
  when ((0 : Int) ≤ (IntKind.wrap .u32 ((IntKind.wrap .u32 (Int.tdiv (IntKind.wrap .u32 (Int.tdiv (IntKind.wrap .u32 (Int.tmod u1 (100000000 : Int))) (10000 : Int))) (100 : Int))) * (2 : Int))) ∧ (IntKind.wrap .u32 ((IntKind.wrap .u32 (Int.tdiv (IntKind.wrap .u32 (Int.tdiv (IntKind.wrap .u32 (Int.tmod u1 (100000000 : Int))) (10000 : Int))) (100 : Int))) * (2 : Int))) < (str_00010203040506070809.size : Int)) <|
  idx a0.a a0.n (IntKind.wrap .i64 (nd4 - (7 : Int))) fun b_13 o_14 =>
  st b_13 (o_14 + ((IntKind.wrap .i64 (nd4 - (7 : Int)))).toNat * 1) (.int .u8 (byteAt str_00010203040506070809 ((IntKind.wrap .u32 ((IntKind.wrap .u32 ((IntKind.wrap .u32 (Int.tdiv (IntKind.wrap .u32 (Int.tdiv (IntKind.wrap .u32 (Int.tmod u1 (100000000 : Int))) (10000 : Int))) (100 : Int))) * (2 : Int))) + (1 : Int)))).toNat)) <|
  idx a0.a a0.n (IntKind.wrap .i64 (nd4 - (8 : Int))) fun b_15 o_16 =>
  st b_15 (o_16 + ((IntKind.wrap .i64 (nd4 - (8 : Int)))).toNat * 1) (.int .u8 (byteAt str_00010203040506070809 ((IntKind.wrap .u32 ((IntKind.wrap .u32 (Int.tdiv (IntKind.wrap .u32 (Int.tdiv (IntKind.wrap .u32 (Int.tmod u1 (100000000 : Int))) (10000 : Int))) (100 : Int))) * (2 : Int)))).toNat)) <|
  internal_strconv_formatBase10_l1 jn Q  m1 a0 (IntKind.wrap .u64 (Int.tdiv u1 (100000000 : Int))) (IntKind.wrap .i64 (nd4 - (8 : Int)))) (
  internal_strconv_formatBase10_j2 jn Q  a0 u1 nd4)) := by kernel_rfl
theorem internal_strconv_formatBase10_l1_zero (jn : Jn) (Q : Value → WP)  (a0 : Sl) (u1 : Int) (nd4 : Int) : internal_strconv_formatBase10_l1 jn Q  0 a0 u1 nd4 = bot := by kernel_rfl
theorem internal_strconv_formatBase10_raw (jn : Jn) (a0 : Sl) (u1 : Int) (Q : Value → WP) : funJ jn Tryd.prog internal_strconv_formatBase10_kp Tryd.f98 [.slice a0.a a0.n a0.c, .int .u64 u1] Q = (
  exM fun m => internal_strconv_formatBase10_l1 jn Q  m a0 u1 (a0.n : Int)) := by kernel_rfl
theorem internal_strconv_formatBase10_def (a0 : Sl) (u1 : Int) (Q : Value → WP) : internal_strconv_formatBase10 a0 u1 Q = funJ idJ Tryd.prog internal_strconv_formatBase10_kp Tryd.f98 [.slice a0.a a0.n a0.c, .int .u64 u1] Q := rfl
theorem internal_strconv_formatBase10_calls {a0 : Sl} {u1 : Int} {Q : Value → WP} {w : World} (h : internal_strconv_formatBase10 a0 u1 Q w) : Calls Tryd.prog id_internal_strconv_formatBase10 #[.slice a0.a a0.n a0.c, .int .u64 u1] w fun e w' => ∃ v, e = .returned v ∧ Q v w' :=
  funJ_calls mixed Tryd.func98 rfl h

-- hoard/mix.Mix
def mix_Mix_kp : KP := ⟨[], []⟩
def mix_Mix (x0 : Int) (Q : Value → WP) : WP := funJ idJ Tryd.prog mix_Mix_kp Tryd.f100 [.int .u64 x0] Q
theorem mix_Mix_raw (jn : Jn) (x0 : Int) (Q : Value → WP) : funJ jn Tryd.prog mix_Mix_kp Tryd.f100 [.int .u64 x0] Q = (
  when ((0 : Int) ≤ (30 : Int)) <|
  when ((0 : Int) ≤ (27 : Int)) <|
  when ((0 : Int) ≤ (31 : Int)) <|
  Q (.int .u64 (bits .xor .u64 (IntKind.wrap .u64 ((bits .xor .u64 (IntKind.wrap .u64 ((bits .xor .u64 x0 (shrV .u64 x0 (30 : Int))) * (13787848793156543929 : Int))) (shrV .u64 (IntKind.wrap .u64 ((bits .xor .u64 x0 (shrV .u64 x0 (30 : Int))) * (13787848793156543929 : Int))) (27 : Int))) * (10723151780598845931 : Int))) (shrV .u64 (IntKind.wrap .u64 ((bits .xor .u64 (IntKind.wrap .u64 ((bits .xor .u64 x0 (shrV .u64 x0 (30 : Int))) * (13787848793156543929 : Int))) (shrV .u64 (IntKind.wrap .u64 ((bits .xor .u64 x0 (shrV .u64 x0 (30 : Int))) * (13787848793156543929 : Int))) (27 : Int))) * (10723151780598845931 : Int))) (31 : Int))))) := by kernel_rfl
theorem mix_Mix_def (x0 : Int) (Q : Value → WP) : mix_Mix x0 Q = funJ idJ Tryd.prog mix_Mix_kp Tryd.f100 [.int .u64 x0] Q := rfl
theorem mix_Mix_calls {x0 : Int} {Q : Value → WP} {w : World} (h : mix_Mix x0 Q w) : Calls Tryd.prog id_mix_Mix #[.int .u64 x0] w fun e w' => ∃ v, e = .returned v ∧ Q v w' :=
  funJ_calls mixed Tryd.func100 rfl h

-- internal/strconv.log10Pow2
def internal_strconv_log10Pow2_kp : KP := ⟨[], []⟩
def internal_strconv_log10Pow2 (x0 : Int) (Q : Value → WP) : WP := funJ idJ Tryd.prog internal_strconv_log10Pow2_kp Tryd.f101 [.int .i64 x0] Q
theorem internal_strconv_log10Pow2_raw (jn : Jn) (x0 : Int) (Q : Value → WP) : funJ jn Tryd.prog internal_strconv_log10Pow2_kp Tryd.f101 [.int .i64 x0] Q = (
  when ((0 : Int) ≤ (18 : Int)) <|
  Q (.int .i64 (shrV .i64 (IntKind.wrap .i64 (x0 * (78913 : Int))) (18 : Int)))) := by kernel_rfl
theorem internal_strconv_log10Pow2_def (x0 : Int) (Q : Value → WP) : internal_strconv_log10Pow2 x0 Q = funJ idJ Tryd.prog internal_strconv_log10Pow2_kp Tryd.f101 [.int .i64 x0] Q := rfl
theorem internal_strconv_log10Pow2_calls {x0 : Int} {Q : Value → WP} {w : World} (h : internal_strconv_log10Pow2 x0 Q w) : Calls Tryd.prog id_internal_strconv_log10Pow2 #[.int .i64 x0] w fun e w' => ∃ v, e = .returned v ∧ Q v w' :=
  funJ_calls mixed Tryd.func101 rfl h

-- math/bits.Len64
def math_bits_Len64_kp : KP := ⟨[(10, [0, 2]), (16, [0, 2]), (22, [0, 2])], []⟩
def math_bits_Len64_j3 (jn : Jn) (Q : Value → WP)  (x0 : Int) (n2 : Int) : WP := jn 22 (fun ρ => codeI Tryd.prog math_bits_Len64_kp jn (cAt [true, true, true, true] (bodyOf Tryd.f102)) (retK Tryd.prog Tryd.f102 Q) noX (retK Tryd.prog Tryd.f102 Q) ρ) ((.int .u64 x0) :: us 1 ((.int .i64 n2) :: us 22 []))
def math_bits_Len64_j2 (jn : Jn) (Q : Value → WP)  (x0 : Int) (n2 : Int) : WP := jn 16 (fun ρ => codeI Tryd.prog math_bits_Len64_kp jn (cAt [true, true, true] (bodyOf Tryd.f102)) (retK Tryd.prog Tryd.f102 Q) noX (retK Tryd.prog Tryd.f102 Q) ρ) ((.int .u64 x0) :: us 1 ((.int .i64 n2) :: us 22 []))
def math_bits_Len64_j1 (jn : Jn) (Q : Value → WP)  (x0 : Int) (n2 : Int) : WP := jn 10 (fun ρ => codeI Tryd.prog math_bits_Len64_kp jn (cAt [true, true] (bodyOf Tryd.f102)) (retK Tryd.prog Tryd.f102 Q) noX (retK Tryd.prog Tryd.f102 Q) ρ) ((.int .u64 x0) :: us 1 ((.int .i64 n2) :: us 22 []))
def math_bits_Len64 (x0 : Int) (Q : Value → WP) : WP := funJ idJ Tryd.prog math_bits_Len64_kp Tryd.f102 [.int .u64 x0] Q
theorem math_bits_Len64_j3_raw (jn : Jn) (Q : Value → WP)  (x0 : Int) (n2 : Int) : codeI Tryd.prog math_bits_Len64_kp jn (cAt [true, true, true, true] (bodyOf Tryd.f102)) (retK Tryd.prog Tryd.f102 Q) noX (retK Tryd.prog Tryd.f102 Q) ((.int .u64 x0) :: us 1 ((.int .i64 n2) :: us 22 [])) = (
  when ((0 : Int) ≤ (IntKind.wrap .u8 x0) ∧ (IntKind.wrap .u8 x0) < (str_____________________.size : Int)) <|
  Q (.int .i64 (IntKind.wrap .i64 (n2 + (IntKind.wrap .i64 (byteAt str_____________________ ((IntKind.wrap .u8 x0)).toNat)))))) := by kernel_rfl
theorem math_bits_Len64_j3_def (Q : Value → WP)  (x0 : Int) (n2 : Int) : math_bits_Len64_j3 idJ Q  x0 n2 = codeI Tryd.prog math_bits_Len64_kp idJ (cAt [true, true, true, true] (bodyOf Tryd.f102)) (retK Tryd.prog Tryd.f102 Q) noX (retK Tryd.prog Tryd.f102 Q) ((.int .u64 x0) :: us 1 ((.int .i64 n2) :: us 22 [])) := by kernel_rfl
theorem math_bits_Len64_j2_raw (jn : Jn) (Q : Value → WP)  (x0 : Int) (n2 : Int) : codeI Tryd.prog math_bits_Len64_kp jn (cAt [true, true, true] (bodyOf Tryd.f102)) (retK Tryd.prog Tryd.f102 Q) noX (retK Tryd.prog Tryd.f102 Q) ((.int .u64 x0) :: us 1 ((.int .i64 n2) :: us 22 [])) = (
  ite2 (decide (x0 ≥ (256 : Int))) (
  when ((0 : Int) ≤ (8 : Int)) <|
  math_bits_Len64_j3 jn Q  (shrV .u64 x0 (8 : Int)) (IntKind.wrap .i64 (n2 + (8 : Int)))) (
  math_bits_Len64_j3 jn Q  x0 n2)) := by kernel_rfl
theorem math_bits_Len64_j2_def (Q : Value → WP)  (x0 : Int) (n2 : Int) : math_bits_Len64_j2 idJ Q  x0 n2 = codeI Tryd.prog math_bits_Len64_kp idJ (cAt [true, true, true] (bodyOf Tryd.f102)) (retK Tryd.prog Tryd.f102 Q) noX (retK Tryd.prog Tryd.f102 Q) ((.int .u64 x0) :: us 1 ((.int .i64 n2) :: us 22 [])) := by kernel_rfl
theorem math_bits_Len64_j1_raw (jn : Jn) (Q : Value → WP)  (x0 : Int) (n2 : Int) : codeI Tryd.prog math_bits_Len64_kp jn (cAt [true, true] (bodyOf Tryd.f102)) (retK Tryd.prog Tryd.f102 Q) noX (retK Tryd.prog Tryd.f102 Q) ((.int .u64 x0) :: us 1 ((.int .i64 n2) :: us 22 [])) = (
  ite2 (decide (x0 ≥ (65536 : Int))) (
  when ((0 : Int) ≤ (16 : Int)) <|
  math_bits_Len64_j2 jn Q  (shrV .u64 x0 (16 : Int)) (IntKind.wrap .i64 (n2 + (16 : Int)))) (
  math_bits_Len64_j2 jn Q  x0 n2)) := by kernel_rfl
theorem math_bits_Len64_j1_def (Q : Value → WP)  (x0 : Int) (n2 : Int) : math_bits_Len64_j1 idJ Q  x0 n2 = codeI Tryd.prog math_bits_Len64_kp idJ (cAt [true, true] (bodyOf Tryd.f102)) (retK Tryd.prog Tryd.f102 Q) noX (retK Tryd.prog Tryd.f102 Q) ((.int .u64 x0) :: us 1 ((.int .i64 n2) :: us 22 [])) := by kernel_rfl
theorem math_bits_Len64_raw (jn : Jn) (x0 : Int) (Q : Value → WP) : funJ jn Tryd.prog math_bits_Len64_kp Tryd.f102 [.int .u64 x0] Q = (
  ite2 (decide (x0 ≥ (4294967296 : Int))) (
  when ((0 : Int) ≤ (32 : Int)) <|
  math_bits_Len64_j1 jn Q  (shrV .u64 x0 (32 : Int)) (32 : Int)) (
  math_bits_Len64_j1 jn Q  x0 (0 : Int))) := by kernel_rfl
theorem math_bits_Len64_def (x0 : Int) (Q : Value → WP) : math_bits_Len64 x0 Q = funJ idJ Tryd.prog math_bits_Len64_kp Tryd.f102 [.int .u64 x0] Q := rfl
theorem math_bits_Len64_calls {x0 : Int} {Q : Value → WP} {w : World} (h : math_bits_Len64 x0 Q w) : Calls Tryd.prog id_math_bits_Len64 #[.int .u64 x0] w fun e w' => ∃ v, e = .returned v ∧ Q v w' :=
  funJ_calls mixed Tryd.func102 rfl h

-- internal/strconv.bool2[int]
def internal_strconv_bool2_int_kp : KP := ⟨[], []⟩
def internal_strconv_bool2_int (b0 : Bool) (Q : Value → WP) : WP := funJ idJ Tryd.prog internal_strconv_bool2_int_kp Tryd.f103 [.bool b0] Q
theorem internal_strconv_bool2_int_raw (jn : Jn) (b0 : Bool) (Q : Value → WP) : funJ jn Tryd.prog internal_strconv_bool2_int_kp Tryd.f103 [.bool b0] Q = (
  ite2 b0 (
  Q (.int .i64 (1 : Int))) (
  Q (.int .i64 (0 : Int)))) := by kernel_rfl
theorem internal_strconv_bool2_int_def (b0 : Bool) (Q : Value → WP) : internal_strconv_bool2_int b0 Q = funJ idJ Tryd.prog internal_strconv_bool2_int_kp Tryd.f103 [.bool b0] Q := rfl
theorem internal_strconv_bool2_int_calls {b0 : Bool} {Q : Value → WP} {w : World} (h : internal_strconv_bool2_int b0 Q w) : Calls Tryd.prog id_internal_strconv_bool2_int #[.bool b0] w fun e w' => ∃ v, e = .returned v ∧ Q v w' :=
  funJ_calls mixed Tryd.func103 rfl h

-- internal/strconv.isPowerOfTwo
def internal_strconv_isPowerOfTwo_kp : KP := ⟨[], []⟩
def internal_strconv_isPowerOfTwo (x0 : Int) (Q : Value → WP) : WP := funJ idJ Tryd.prog internal_strconv_isPowerOfTwo_kp Tryd.f104 [.int .i64 x0] Q
theorem internal_strconv_isPowerOfTwo_raw (jn : Jn) (x0 : Int) (Q : Value → WP) : funJ jn Tryd.prog internal_strconv_isPowerOfTwo_kp Tryd.f104 [.int .i64 x0] Q = (
  Q (.bool ((bits .and .i64 x0 (IntKind.wrap .i64 (x0 - (1 : Int)))) == (0 : Int)))) := by kernel_rfl
theorem internal_strconv_isPowerOfTwo_def (x0 : Int) (Q : Value → WP) : internal_strconv_isPowerOfTwo x0 Q = funJ idJ Tryd.prog internal_strconv_isPowerOfTwo_kp Tryd.f104 [.int .i64 x0] Q := rfl
theorem internal_strconv_isPowerOfTwo_calls {x0 : Int} {Q : Value → WP} {w : World} (h : internal_strconv_isPowerOfTwo x0 Q w) : Calls Tryd.prog id_internal_strconv_isPowerOfTwo #[.int .i64 x0] w fun e w' => ∃ v, e = .returned v ∧ Q v w' :=
  funJ_calls mixed Tryd.func104 rfl h

-- math/bits.TrailingZeros
def math_bits_TrailingZeros_kp : KP := ⟨[], []⟩
def math_bits_TrailingZeros (x0 : Int) (Q : Value → WP) : WP := funJ idJ Tryd.prog math_bits_TrailingZeros_kp Tryd.f105 [.int .u64 x0] Q
theorem math_bits_TrailingZeros_raw (jn : Jn) (x0 : Int) (Q : Value → WP) : funJ jn Tryd.prog math_bits_TrailingZeros_kp Tryd.f105 [.int .u64 x0] Q = (
  call1 (.int .i64) Tryd.prog id_math_bits_TrailingZeros64 [.int .u64 x0] fun (x_1 : Int) =>
  Q (.int .i64 x_1)) := by kernel_rfl
theorem math_bits_TrailingZeros_def (x0 : Int) (Q : Value → WP) : math_bits_TrailingZeros x0 Q = funJ idJ Tryd.prog math_bits_TrailingZeros_kp Tryd.f105 [.int .u64 x0] Q := rfl
theorem math_bits_TrailingZeros_calls {x0 : Int} {Q : Value → WP} {w : World} (h : math_bits_TrailingZeros x0 Q w) : Calls Tryd.prog id_math_bits_TrailingZeros #[.int .u64 x0] w fun e w' => ∃ v, e = .returned v ∧ Q v w' :=
  funJ_calls mixed Tryd.func105 rfl h

-- math/bits.TrailingZeros32
def math_bits_TrailingZeros32_kp : KP := ⟨[], []⟩
def math_bits_TrailingZeros32 (x0 : Int) (Q : Value → WP) : WP := funJ idJ Tryd.prog math_bits_TrailingZeros32_kp Tryd.f106 [.int .u32 x0] Q
theorem math_bits_TrailingZeros32_raw (jn : Jn) (x0 : Int) (Q : Value → WP) : funJ jn Tryd.prog math_bits_TrailingZeros32_kp Tryd.f106 [.int .u32 x0] Q = (
  ite2 (x0 == (0 : Int)) (
  Q (.int .i64 (32 : Int))) (
  when ((0 : Int) ≤ (27 : Int)) <|
  when ((0 : Int) ≤ (shrV .u32 (IntKind.wrap .u32 ((bits .and .u32 x0 (IntKind.wrap .u32 (0 - x0))) * (125613361 : Int))) (27 : Int)) ∧ (shrV .u32 (IntKind.wrap .u32 ((bits .and .u32 x0 (IntKind.wrap .u32 (0 - x0))) * (125613361 : Int))) (27 : Int)) < ((32 : Nat) : Int)) <|
  ld (.int .u8) 2 (0 + ((shrV .u32 (IntKind.wrap .u32 ((bits .and .u32 x0 (IntKind.wrap .u32 (0 - x0))) * (125613361 : Int))) (27 : Int))).toNat * 1) fun (x_1 : Int) =>
  Q (.int .i64 (IntKind.wrap .i64 x_1)))) := by kernel_rfl
theorem math_bits_TrailingZeros32_def (x0 : Int) (Q : Value → WP) : math_bits_TrailingZeros32 x0 Q = funJ idJ Tryd.prog math_bits_TrailingZeros32_kp Tryd.f106 [.int .u32 x0] Q := rfl
theorem math_bits_TrailingZeros32_calls {x0 : Int} {Q : Value → WP} {w : World} (h : math_bits_TrailingZeros32 x0 Q w) : Calls Tryd.prog id_math_bits_TrailingZeros32 #[.int .u32 x0] w fun e w' => ∃ v, e = .returned v ∧ Q v w' :=
  funJ_calls mixed Tryd.func106 rfl h

-- math/bits.TrailingZeros64
def math_bits_TrailingZeros64_kp : KP := ⟨[], []⟩
def math_bits_TrailingZeros64 (x0 : Int) (Q : Value → WP) : WP := funJ idJ Tryd.prog math_bits_TrailingZeros64_kp Tryd.f107 [.int .u64 x0] Q
theorem math_bits_TrailingZeros64_raw (jn : Jn) (x0 : Int) (Q : Value → WP) : funJ jn Tryd.prog math_bits_TrailingZeros64_kp Tryd.f107 [.int .u64 x0] Q = (
  ite2 (x0 == (0 : Int)) (
  Q (.int .i64 (64 : Int))) (
  when ((0 : Int) ≤ (58 : Int)) <|
  when ((0 : Int) ≤ (shrV .u64 (IntKind.wrap .u64 ((bits .and .u64 x0 (IntKind.wrap .u64 (0 - x0))) * (285870213051353865 : Int))) (58 : Int)) ∧ (shrV .u64 (IntKind.wrap .u64 ((bits .and .u64 x0 (IntKind.wrap .u64 (0 - x0))) * (285870213051353865 : Int))) (58 : Int)) < ((64 : Nat) : Int)) <|
  ld (.int .u8) 3 (0 + ((shrV .u64 (IntKind.wrap .u64 ((bits .and .u64 x0 (IntKind.wrap .u64 (0 - x0))) * (285870213051353865 : Int))) (58 : Int))).toNat * 1) fun (x_1 : Int) =>
  Q (.int .i64 (IntKind.wrap .i64 x_1)))) := by kernel_rfl
theorem math_bits_TrailingZeros64_def (x0 : Int) (Q : Value → WP) : math_bits_TrailingZeros64 x0 Q = funJ idJ Tryd.prog math_bits_TrailingZeros64_kp Tryd.f107 [.int .u64 x0] Q := rfl
theorem math_bits_TrailingZeros64_calls {x0 : Int} {Q : Value → WP} {w : World} (h : math_bits_TrailingZeros64 x0 Q w) : Calls Tryd.prog id_math_bits_TrailingZeros64 #[.int .u64 x0] w fun e w' => ∃ v, e = .returned v ∧ Q v w' :=
  funJ_calls mixed Tryd.func107 rfl h

end Go.Proofs.YtchlicgjdlkidaaDoor
