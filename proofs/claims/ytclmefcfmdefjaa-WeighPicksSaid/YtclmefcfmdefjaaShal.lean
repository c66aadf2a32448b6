/- Printed by a program of mine (wip/tools/shal.py): the shallow texts of the loaded functions, each equal to the interpreter's reading by the kernel. -/
import Derived.Test.YtclmefcfmdefjaaSound7
import Derived.Test.YtclmefcfmdefjaaChecked
import Derived.KernelRfl
set_option linter.unusedVariables false
namespace Go.Proofs.Ytclmefcfmdefjaa
open Go.Hb

theorem mixed : Try.prog.follows .mixedOrders = true := by kernel_rfl
abbrev ty_uint32 : TypeId := 25
abbrev ty_weigh_Weights : TypeId := 34
abbrev ty_hoardref19_Weights : TypeId := 35
abbrev ty_5_int : TypeId := 53
abbrev ty_tape_Tape : TypeId := 62
abbrev id_hoardlaw3_TapeDraws : FuncId := 3
abbrev id_hoardlaw3_TapeOfNothing : FuncId := 4
abbrev id_hoardlaw19_WeighKeeps : FuncId := 5
abbrev id_hoardlaw19_WeighLooks : FuncId := 6
abbrev id_hoardlaw2_FixProducts : FuncId := 7
abbrev id_hoardlaw2_FixWhole : FuncId := 8
abbrev id_hoardlaw2_FixTurns : FuncId := 9
abbrev id_hoardlaw2_FixCounts : FuncId := 10
abbrev id_hoardlaw2_FixNever : FuncId := 11
abbrev id_hoardlaw19_WeighNext : FuncId := 12
abbrev id_hoardlaw19_WeighRow : FuncId := 13
abbrev id_hoardlaw19_WeighPicks : FuncId := 14
abbrev id_hoardlaw19_WeighAlike : FuncId := 15
abbrev id_hoardlaw19_WeighLoses : FuncId := 16
abbrev id_hoardlaw19_WeighCalm : FuncId := 17
abbrev id_tape_New : FuncId := 18
abbrev id_tape_Tape_Left : FuncId := 19
abbrev id_tape_Tape_Taken : FuncId := 20
abbrev id_tape_Tape_Next : FuncId := 21
abbrev id_hoardlaw3_known : FuncId := 22
abbrev id_weigh_Keep : FuncId := 23
abbrev id_hoardlaw19_known : FuncId := 24
abbrev id_weigh_Is : FuncId := 25
abbrev id_hoardref19_Is : FuncId := 26
abbrev id_weigh_Sum : FuncId := 27
abbrev id_hoardref19_Sum : FuncId := 28
abbrev id_weigh_Pick : FuncId := 29
abbrev id_hoardref19_Pick : FuncId := 30
abbrev id_hoardref19_Keep : FuncId := 31
abbrev id_weigh_Start : FuncId := 32
abbrev id_hoardref19_Start : FuncId := 33
abbrev id_fix_Mul : FuncId := 34
abbrev id_hoardref2_Mul : FuncId := 35
abbrev id_fix_Scale : FuncId := 36
abbrev id_hoardref2_Scale : FuncId := 37
abbrev id_hoardlaw2_known : FuncId := 38
abbrev id_fix_Inc : FuncId := 39
abbrev id_hoardref2_Inc : FuncId := 40
abbrev id_fix_Add : FuncId := 41
abbrev id_hoardref2_Add : FuncId := 42
abbrev id_fix_Clamp : FuncId := 43
abbrev id_hoardref2_Clamp : FuncId := 44
abbrev id_weigh_Next : FuncId := 45
abbrev id_hoardref19_Next : FuncId := 46
abbrev id_slices_Clone_s_uint32_uint32 : FuncId := 47
abbrev id_weigh_even : FuncId := 48
abbrev id_hoardref2_times : FuncId := 49
abbrev id_math_bits_Mul64 : FuncId := 50
abbrev id_math_bits_Div64 : FuncId := 51
abbrev id_weigh_penalty : FuncId := 52
abbrev id_hoardref19_loss : FuncId := 53
abbrev id_math_bits_LeadingZeros64 : FuncId := 54
abbrev id_math_bits_Len64 : FuncId := 55
def str_____________________ : ByteArray := ⟨#[0, 1, 2, 2, 3, 3, 3, 3, 4, 4, 4, 4, 4, 4, 4, 4, 5, 5, 5, 5, 5, 5, 5, 5, 5, 5, 5, 5, 5, 5, 5, 5, 6, 6, 6, 6, 6, 6, 6, 6, 6, 6, 6, 6, 6, 6, 6, 6, 6, 6, 6, 6, 6, 6, 6, 6, 6, 6, 6, 6, 6, 6, 6, 6, 7, 7, 7, 7, 7, 7, 7, 7, 7, 7, 7, 7, 7, 7, 7, 7, 7, 7, 7, 7, 7, 7, 7, 7, 7, 7, 7, 7, 7, 7, 7, 7, 7, 7, 7, 7, 7, 7, 7, 7, 7, 7, 7, 7, 7, 7, 7, 7, 7, 7, 7, 7, 7, 7, 7, 7, 7, 7, 7, 7, 7, 7, 7, 7, 8, 8, 8, 8, 8, 8, 8, 8, 8, 8, 8, 8, 8, 8, 8, 8, 8, 8, 8, 8, 8, 8, 8, 8, 8, 8, 8, 8, 8, 8, 8, 8, 8, 8, 8, 8, 8, 8, 8, 8, 8, 8, 8, 8, 8, 8, 8, 8, 8, 8, 8, 8, 8, 8, 8, 8, 8, 8, 8, 8, 8, 8, 8, 8, 8, 8, 8, 8, 8, 8, 8, 8, 8, 8, 8, 8, 8, 8, 8, 8, 8, 8, 8, 8, 8, 8, 8, 8, 8, 8, 8, 8, 8, 8, 8, 8, 8, 8, 8, 8, 8, 8, 8, 8, 8, 8, 8, 8, 8, 8, 8, 8, 8, 8, 8, 8, 8, 8, 8, 8, 8, 8, 8, 8, 8, 8, 8, 8]⟩

-- hoard/hoardlaw3.TapeDraws
def hoardlaw3_TapeDraws_kp : KP := ⟨[(8, [0, 1]), (15, [0, 1, 5, 6, 7]), (20, [0, 1, 6]), (23, [0, 1, 6, 8]), (32, [0, 1, 6, 8, 9]), (36, [1, 6])], []⟩
def hoardlaw3_TapeDraws_j5 (jn : Jn) (Q : Value → WP) (m4 : Nat) (l0 : Sl) (n1 : Int) (t6 : Option Addr) (i8 : Int) (want9 : Int) : WP := jn 32 (fun ρ => codeI Try.prog hoardlaw3_TapeDraws_kp jn (cAt [true, true, true, true, true, false, true, false, false, true, false, false, true, true] (bodyOf Try.f3)) (seqK Try.prog hoardlaw3_TapeDraws_kp jn (cAt [true, true, true, true, true, false, true, false, false, true, true] (bodyOf Try.f3)) (lopK Try.prog hoardlaw3_TapeDraws_kp jn (cAt [true, true, true, true, true, false, true, false, false] (bodyOf Try.f3)) (blkX 2 (seqK Try.prog hoardlaw3_TapeDraws_kp jn (cAt [true, true, true, true, true, true] (bodyOf Try.f3)) (retK Try.prog Try.f3 Q) noX (retK Try.prog Try.f3 Q)) noX) (retK Try.prog Try.f3 Q) m4) (blkX 2 (seqK Try.prog hoardlaw3_TapeDraws_kp jn (cAt [true, true, true, true, true, true] (bodyOf Try.f3)) (retK Try.prog Try.f3 Q) noX (retK Try.prog Try.f3 Q)) noX) (retK Try.prog Try.f3 Q)) (blkX 3 (seqK Try.prog hoardlaw3_TapeDraws_kp jn (cAt [true, true, true, true, true, false, true, false, false, true, true] (bodyOf Try.f3)) (lopK Try.prog hoardlaw3_TapeDraws_kp jn (cAt [true, true, true, true, true, false, true, false, false] (bodyOf Try.f3)) (blkX 2 (seqK Try.prog hoardlaw3_TapeDraws_kp jn (cAt [true, true, true, true, true, true] (bodyOf Try.f3)) (retK Try.prog Try.f3 Q) noX (retK Try.prog Try.f3 Q)) noX) (retK Try.prog Try.f3 Q) m4) (blkX 2 (seqK Try.prog hoardlaw3_TapeDraws_kp jn (cAt [true, true, true, true, true, true] (bodyOf Try.f3)) (retK Try.prog Try.f3 Q) noX (retK Try.prog Try.f3 Q)) noX) (retK Try.prog Try.f3 Q)) (blkX 2 (seqK Try.prog hoardlaw3_TapeDraws_kp jn (cAt [true, true, true, true, true, true] (bodyOf Try.f3)) (retK Try.prog Try.f3 Q) noX (retK Try.prog Try.f3 Q)) noX)) (retK Try.prog Try.f3 Q) ρ) ((.slice l0.a l0.n l0.c) :: (.int .i64 n1) :: us 4 ((.pointer t6) :: us 1 ((.int .i64 i8) :: (.int .u32 want9) :: us 65 [])))
def hoardlaw3_TapeDraws_j6 (jn : Jn) (Q : Value → WP)  (n1 : Int) (t6 : Option Addr) : WP := jn 36 (fun ρ => codeI Try.prog hoardlaw3_TapeDraws_kp jn (cAt [true, true, true, true, true, true] (bodyOf Try.f3)) (retK Try.prog Try.f3 Q) noX (retK Try.prog Try.f3 Q) ρ) (us 1 ((.int .i64 n1) :: us 4 ((.pointer t6) :: us 68 [])))
def hoardlaw3_TapeDraws_l4 (jn : Jn) (Q : Value → WP)  (m4 : Nat) (l0 : Sl) (n1 : Int) (t6 : Option Addr) (i8 : Int) : WP := lop Try.prog hoardlaw3_TapeDraws_kp jn (cAt [true, true, true, true, true, false, true, false, false] (bodyOf Try.f3)) (blkX 2 (seqK Try.prog hoardlaw3_TapeDraws_kp jn (cAt [true, true, true, true, true, true] (bodyOf Try.f3)) (retK Try.prog Try.f3 Q) noX (retK Try.prog Try.f3 Q)) noX) (retK Try.prog Try.f3 Q) m4 ((.slice l0.a l0.n l0.c) :: (.int .i64 n1) :: us 4 ((.pointer t6) :: us 1 ((.int .i64 i8) :: us 66 [])))
def hoardlaw3_TapeDraws_j3 (jn : Jn) (Q : Value → WP)  (l0 : Sl) (n1 : Int) (t6 : Option Addr) : WP := jn 20 (fun ρ => codeI Try.prog hoardlaw3_TapeDraws_kp jn (cAt [true, true, true, true, true] (bodyOf Try.f3)) (retK Try.prog Try.f3 Q) noX (retK Try.prog Try.f3 Q) ρ) ((.slice l0.a l0.n l0.c) :: (.int .i64 n1) :: us 4 ((.pointer t6) :: us 68 []))
def hoardlaw3_TapeDraws_l2 (jn : Jn) (Q : Value → WP)  (m2 : Nat) (l0 : Sl) (n1 : Int) (m5 : Sl) (t6 : Option Addr) (i7 : Int) : WP := lop Try.prog hoardlaw3_TapeDraws_kp jn (cAt [true, true, true, true, false, true, false, false] (bodyOf Try.f3)) (blkX 0 (seqK Try.prog hoardlaw3_TapeDraws_kp jn (cAt [true, true, true, true, true] (bodyOf Try.f3)) (retK Try.prog Try.f3 Q) noX (retK Try.prog Try.f3 Q)) noX) (retK Try.prog Try.f3 Q) m2 ((.slice l0.a l0.n l0.c) :: (.int .i64 n1) :: us 3 ((.slice m5.a m5.n m5.c) :: (.pointer t6) :: (.int .i64 i7) :: us 67 []))
def hoardlaw3_TapeDraws_j1 (jn : Jn) (Q : Value → WP)  (l0 : Sl) (n1 : Int) : WP := jn 8 (fun ρ => codeI Try.prog hoardlaw3_TapeDraws_kp jn (cAt [true, true] (bodyOf Try.f3)) (retK Try.prog Try.f3 Q) noX (retK Try.prog Try.f3 Q) ρ) ((.slice l0.a l0.n l0.c) :: (.int .i64 n1) :: us 73 [])
def hoardlaw3_TapeDraws (l0 : Sl) (n1 : Int) (Q : Value → WP) : WP := funJ idJ Try.prog hoardlaw3_TapeDraws_kp Try.f3 [.slice l0.a l0.n l0.c, .int .i64 n1] Q
theorem hoardlaw3_TapeDraws_j5_raw (jn : Jn) (Q : Value → WP) (m4 : Nat) (l0 : Sl) (n1 : Int) (t6 : Option Addr) (i8 : Int) (want9 : Int) : codeI Try.prog hoardlaw3_TapeDraws_kp jn (cAt [true, true, true, true, true, false, true, false, false, true, false, false, true, true] (bodyOf Try.f3)) (seqK Try.prog hoardlaw3_TapeDraws_kp jn (cAt [true, true, true, true, true, false, true, false, false, true, true] (bodyOf Try.f3)) (lopK Try.prog hoardlaw3_TapeDraws_kp jn (cAt [true, true, true, true, true, false, true, false, false] (bodyOf Try.f3)) (blkX 2 (seqK Try.prog hoardlaw3_TapeDraws_kp jn (cAt [true, true, true, true, true, true] (bodyOf Try.f3)) (retK Try.prog Try.f3 Q) noX (retK Try.prog Try.f3 Q)) noX) (retK Try.prog Try.f3 Q) m4) (blkX 2 (seqK Try.prog hoardlaw3_TapeDraws_kp jn (cAt [true, true, true, true, true, true] (bodyOf Try.f3)) (retK Try.prog Try.f3 Q) noX (retK Try.prog Try.f3 Q)) noX) (retK Try.prog Try.f3 Q)) (blkX 3 (seqK Try.prog hoardlaw3_TapeDraws_kp jn (cAt [true, true, true, true, true, false, true, false, false, true, true] (bodyOf Try.f3)) (lopK Try.prog hoardlaw3_TapeDraws_kp jn (cAt [true, true, true, true, true, false, true, false, false] (bodyOf Try.f3)) (blkX 2 (seqK Try.prog hoardlaw3_TapeDraws_kp jn (cAt [true, true, true, true, true, true] (bodyOf Try.f3)) (retK Try.prog Try.f3 Q) noX (retK Try.prog Try.f3 Q)) noX) (retK Try.prog Try.f3 Q) m4) (blkX 2 (seqK Try.prog hoardlaw3_TapeDraws_kp jn (cAt [true, true, true, true, true, true] (bodyOf Try.f3)) (retK Try.prog Try.f3 Q) noX (retK Try.prog Try.f3 Q)) noX) (retK Try.prog Try.f3 Q)) (blkX 2 (seqK Try.prog hoardlaw3_TapeDraws_kp jn (cAt [true, true, true, true, true, true] (bodyOf Try.f3)) (retK Try.prog Try.f3 Q) noX (retK Try.prog Try.f3 Q)) noX)) (retK Try.prog Try.f3 Q) ((.slice l0.a l0.n l0.c) :: (.int .i64 n1) :: us 4 ((.pointer t6) :: us 1 ((.int .i64 i8) :: (.int .u32 want9) :: us 65 []))) = (
  call1 (.int .i64) Try.prog id_tape_Tape_Left [.pointer t6] fun x_9 =>
  ite2 (x_9 != (if (IntKind.wrap .i64 ((l0.n : Int) - i8)) > (0 : Int) then (IntKind.wrap .i64 ((l0.n : Int) - i8)) else (0 : Int))) (
  Q (.bool false)) (
  call1 (.int .i64) Try.prog id_tape_Tape_Taken [.pointer t6] fun x_10 =>
  ite2 (x_10 != i8) (
  Q (.bool false)) (
  call1 (.int .u32) Try.prog id_tape_Tape_Next [.pointer t6] fun x_11 =>
  ite2 (x_11 != want9) (
  Q (.bool false)) (
  hoardlaw3_TapeDraws_l4 jn Q  m4 l0 n1 t6 (IntKind.wrap .i64 (i8 + (1 : Int))))))) := by kernel_rfl
theorem hoardlaw3_TapeDraws_j5_def (Q : Value → WP) (m4 : Nat) (l0 : Sl) (n1 : Int) (t6 : Option Addr) (i8 : Int) (want9 : Int) : hoardlaw3_TapeDraws_j5 idJ Q m4 l0 n1 t6 i8 want9 = codeI Try.prog hoardlaw3_TapeDraws_kp idJ (cAt [true, true, true, true, true, false, true, false, false, true, false, false, true, true] (bodyOf Try.f3)) (seqK Try.prog hoardlaw3_TapeDraws_kp idJ (cAt [true, true, true, true, true, false, true, false, false, true, true] (bodyOf Try.f3)) (lopK Try.prog hoardlaw3_TapeDraws_kp idJ (cAt [true, true, true, true, true, false, true, false, false] (bodyOf Try.f3)) (blkX 2 (seqK Try.prog hoardlaw3_TapeDraws_kp idJ (cAt [true, true, true, true, true, true] (bodyOf Try.f3)) (retK Try.prog Try.f3 Q) noX (retK Try.prog Try.f3 Q)) noX) (retK Try.prog Try.f3 Q) m4) (blkX 2 (seqK Try.prog hoardlaw3_TapeDraws_kp idJ (cAt [true, true, true, true, true, true] (bodyOf Try.f3)) (retK Try.prog Try.f3 Q) noX (retK Try.prog Try.f3 Q)) noX) (retK Try.prog Try.f3 Q)) (blkX 3 (seqK Try.prog hoardlaw3_TapeDraws_kp idJ (cAt [true, true, true, true, true, false, true, false, false, true, true] (bodyOf Try.f3)) (lopK Try.prog hoardlaw3_TapeDraws_kp idJ (cAt [true, true, true, true, true, false, true, false, false] (bodyOf Try.f3)) (blkX 2 (seqK Try.prog hoardlaw3_TapeDraws_kp idJ (cAt [true, true, true, true, true, true] (bodyOf Try.f3)) (retK Try.prog Try.f3 Q) noX (retK Try.prog Try.f3 Q)) noX) (retK Try.prog Try.f3 Q) m4) (blkX 2 (seqK Try.prog hoardlaw3_TapeDraws_kp idJ (cAt [true, true, true, true, true, true] (bodyOf Try.f3)) (retK Try.prog Try.f3 Q) noX (retK Try.prog Try.f3 Q)) noX) (retK Try.prog Try.f3 Q)) (blkX 2 (seqK Try.prog hoardlaw3_TapeDraws_kp idJ (cAt [true, true, true, true, true, true] (bodyOf Try.f3)) (retK Try.prog Try.f3 Q) noX (retK Try.prog Try.f3 Q)) noX)) (retK Try.prog Try.f3 Q) ((.slice l0.a l0.n l0.c) :: (.int .i64 n1) :: us 4 ((.pointer t6) :: us 1 ((.int .i64 i8) :: (.int .u32 want9) :: us 65 []))) := by kernel_rfl
theorem hoardlaw3_TapeDraws_j6_raw (jn : Jn) (Q : Value → WP)  (n1 : Int) (t6 : Option Addr) : codeI Try.prog hoardlaw3_TapeDraws_kp jn (cAt [true, true, true, true, true, true] (bodyOf Try.f3)) (retK Try.prog Try.f3 Q) noX (retK Try.prog Try.f3 Q) (us 1 ((.int .i64 n1) :: us 4 ((.pointer t6) :: us 68 []))) = (
  call1 (.int .i64) Try.prog id_tape_Tape_Taken [.pointer t6] fun x_12 =>
  ite2 (x_12 == n1) (
  call1 .bool Try.prog id_hoardlaw3_known [] fun x_13 =>
  Q (.bool x_13)) (
  Q (.bool false))) := by kernel_rfl
theorem hoardlaw3_TapeDraws_j6_def (Q : Value → WP)  (n1 : Int) (t6 : Option Addr) : hoardlaw3_TapeDraws_j6 idJ Q  n1 t6 = codeI Try.prog hoardlaw3_TapeDraws_kp idJ (cAt [true, true, true, true, true, true] (bodyOf Try.f3)) (retK Try.prog Try.f3 Q) noX (retK Try.prog Try.f3 Q) (us 1 ((.int .i64 n1) :: us 4 ((.pointer t6) :: us 68 []))) := by kernel_rfl
theorem hoardlaw3_TapeDraws_l4_raw (jn : Jn) (Q : Value → WP)  (m4 : Nat) (l0 : Sl) (n1 : Int) (t6 : Option Addr) (i8 : Int) : hoardlaw3_TapeDraws_l4 jn Q  (m4 + 1) l0 n1 t6 i8 = (
  ite2 (decide (i8 < n1)) (
  ite2 (decide (i8 < (l0.n : Int))) (
  idx l0.a l0.n i8 fun b_6 o_7 =>
  ld (.int .u32) b_6 (o_7 + (i8).toNat * 1) fun x_8 =>
  hoardlaw3_TapeDraws_j5 jn Q m4 l0 n1 t6 i8 x_8) (
  hoardlaw3_TapeDraws_j5 jn Q m4 l0 n1 t6 i8 (0 : Int))) (
  hoardlaw3_TapeDraws_j6 jn Q  n1 t6)) := by kernel_rfl
theorem hoardlaw3_TapeDraws_l4_zero (jn : Jn) (Q : Value → WP)  (l0 : Sl) (n1 : Int) (t6 : Option Addr) (i8 : Int) : hoardlaw3_TapeDraws_l4 jn Q  0 l0 n1 t6 i8 = bot := by kernel_rfl
theorem hoardlaw3_TapeDraws_j3_raw (jn : Jn) (Q : Value → WP)  (l0 : Sl) (n1 : Int) (t6 : Option Addr) : codeI Try.prog hoardlaw3_TapeDraws_kp jn (cAt [true, true, true, true, true] (bodyOf Try.f3)) (retK Try.prog Try.f3 Q) noX (retK Try.prog Try.f3 Q) ((.slice l0.a l0.n l0.c) :: (.int .i64 n1) :: us 4 ((.pointer t6) :: us 68 [])) = (
  exM fun m => hoardlaw3_TapeDraws_l4 jn Q  m l0 n1 t6 (0 : Int)) := by kernel_rfl
theorem hoardlaw3_TapeDraws_j3_def (Q : Value → WP)  (l0 : Sl) (n1 : Int) (t6 : Option Addr) : hoardlaw3_TapeDraws_j3 idJ Q  l0 n1 t6 = codeI Try.prog hoardlaw3_TapeDraws_kp idJ (cAt [true, true, true, true, true] (bodyOf Try.f3)) (retK Try.prog Try.f3 Q) noX (retK Try.prog Try.f3 Q) ((.slice l0.a l0.n l0.c) :: (.int .i64 n1) :: us 4 ((.pointer t6) :: us 68 [])) := by kernel_rfl
theorem hoardlaw3_TapeDraws_l2_raw (jn : Jn) (Q : Value → WP)  (m2 : Nat) (l0 : Sl) (n1 : Int) (m5 : Sl) (t6 : Option Addr) (i7 : Int) : hoardlaw3_TapeDraws_l2 jn Q  (m2 + 1) l0 n1 m5 t6 i7 = (
  ite2 (decide (i7 < (m5.n : Int))) (
  idx m5.a m5.n i7 fun b_4 o_5 =>
  st b_4 (o_5 + (i7).toNat * 1) (.int .u32 (7 : Int)) <|
  hoardlaw3_TapeDraws_l2 jn Q  m2 l0 n1 m5 t6 (IntKind.wrap .i64 (i7 + (1 : Int)))) (
  hoardlaw3_TapeDraws_j3 jn Q  l0 n1 t6)) := by kernel_rfl
theorem hoardlaw3_TapeDraws_l2_zero (jn : Jn) (Q : Value → WP)  (l0 : Sl) (n1 : Int) (m5 : Sl) (t6 : Option Addr) (i7 : Int) : hoardlaw3_TapeDraws_l2 jn Q  0 l0 n1 m5 t6 i7 = bot := by kernel_rfl
theorem hoardlaw3_TapeDraws_j1_raw (jn : Jn) (Q : Value → WP)  (l0 : Sl) (n1 : Int) : codeI Try.prog hoardlaw3_TapeDraws_kp jn (cAt [true, true] (bodyOf Try.f3)) (retK Try.prog Try.f3 Q) noX (retK Try.prog Try.f3 Q) ((.slice l0.a l0.n l0.c) :: (.int .i64 n1) :: us 73 []) = (
  newB [] ty_uint32 fun b_1 =>
  appendC ty_uint32 1 4 [.int .u32 (0 : Int)] ⟨(some ⟨b_1, 0, none⟩), 0, 0⟩ l0.n (fun w => rdA w l0.a (l0.n * 1)) fun s_2 =>
  call1 .ptr Try.prog id_tape_New [.slice s_2.a s_2.n s_2.c] fun x_3 =>
  exM fun m => hoardlaw3_TapeDraws_l2 jn Q  m l0 n1 s_2 x_3 (0 : Int)) := by kernel_rfl
theorem hoardlaw3_TapeDraws_j1_def (Q : Value → WP)  (l0 : Sl) (n1 : Int) : hoardlaw3_TapeDraws_j1 idJ Q  l0 n1 = codeI Try.prog hoardlaw3_TapeDraws_kp idJ (cAt [true, true] (bodyOf Try.f3)) (retK Try.prog Try.f3 Q) noX (retK Try.prog Try.f3 Q) ((.slice l0.a l0.n l0.c) :: (.int .i64 n1) :: us 73 []) := by kernel_rfl
theorem hoardlaw3_TapeDraws_raw (jn : Jn) (l0 : Sl) (n1 : Int) (Q : Value → WP) : funJ jn Try.prog hoardlaw3_TapeDraws_kp Try.f3 [.slice l0.a l0.n l0.c, .int .i64 n1] Q = (
  ite2 (decide ((l0.n : Int) > (500 : Int))) (
  Q (.bool true)) (
  ite2 (decide (n1 < (0 : Int))) (
  Q (.bool true)) (
  ite2 (decide (n1 > (600 : Int))) (
  Q (.bool true)) (
  hoardlaw3_TapeDraws_j1 jn Q  l0 n1)))) := by kernel_rfl
theorem hoardlaw3_TapeDraws_def (l0 : Sl) (n1 : Int) (Q : Value → WP) : hoardlaw3_TapeDraws l0 n1 Q = funJ idJ Try.prog hoardlaw3_TapeDraws_kp Try.f3 [.slice l0.a l0.n l0.c, .int .i64 n1] Q := rfl
theorem hoardlaw3_TapeDraws_calls {l0 : Sl} {n1 : Int} {Q : Value → WP} {w : World} (h : hoardlaw3_TapeDraws l0 n1 Q w) : Calls Try.prog id_hoardlaw3_TapeDraws #[.slice l0.a l0.n l0.c, .int .i64 n1] w fun e w' => ∃ v, e = .returned v ∧ Q v w' :=
  funJ_calls mixed Try.func3 rfl h

-- hoard/hoardlaw3.TapeOfNothing
def hoardlaw3_TapeOfNothing_kp : KP := ⟨[(8, [0]), (13, [0, 3, 4]), (20, [3])], []⟩
def hoardlaw3_TapeOfNothing_j3 (jn : Jn) (Q : Value → WP)  (t3 : Option Addr) : WP := jn 20 (fun ρ => codeI Try.prog hoardlaw3_TapeOfNothing_kp jn (cAt [true, true, true, true] (bodyOf Try.f4)) (retK Try.prog Try.f4 Q) noX (retK Try.prog Try.f4 Q) ρ) (us 3 ((.pointer t3) :: us 27 []))
def hoardlaw3_TapeOfNothing_l2 (jn : Jn) (Q : Value → WP)  (m2 : Nat) (n0 : Int) (t3 : Option Addr) (i4 : Int) : WP := lop Try.prog hoardlaw3_TapeOfNothing_kp jn (cAt [true, true, true, false, true, false, false] (bodyOf Try.f4)) (blkX 0 (seqK Try.prog hoardlaw3_TapeOfNothing_kp jn (cAt [true, true, true, true] (bodyOf Try.f4)) (retK Try.prog Try.f4 Q) noX (retK Try.prog Try.f4 Q)) noX) (retK Try.prog Try.f4 Q) m2 ((.int .i64 n0) :: us 2 ((.pointer t3) :: (.int .i64 i4) :: us 26 []))
def hoardlaw3_TapeOfNothing_j1 (jn : Jn) (Q : Value → WP)  (n0 : Int) : WP := jn 8 (fun ρ => codeI Try.prog hoardlaw3_TapeOfNothing_kp jn (cAt [true, true] (bodyOf Try.f4)) (retK Try.prog Try.f4 Q) noX (retK Try.prog Try.f4 Q) ρ) ((.int .i64 n0) :: us 30 [])
def hoardlaw3_TapeOfNothing (n0 : Int) (Q : Value → WP) : WP := funJ idJ Try.prog hoardlaw3_TapeOfNothing_kp Try.f4 [.int .i64 n0] Q
theorem hoardlaw3_TapeOfNothing_j3_raw (jn : Jn) (Q : Value → WP)  (t3 : Option Addr) : codeI Try.prog hoardlaw3_TapeOfNothing_kp jn (cAt [true, true, true, true] (bodyOf Try.f4)) (retK Try.prog Try.f4 Q) noX (retK Try.prog Try.f4 Q) (us 3 ((.pointer t3) :: us 27 [])) = (
  call1 (.int .i64) Try.prog id_tape_Tape_Left [.pointer t3] fun x_4 =>
  ite2 (x_4 == (0 : Int)) (
  call1 (.int .i64) Try.prog id_tape_Tape_Taken [.pointer t3] fun x_5 =>
  ite2 (x_5 == (0 : Int)) (
  call1 .bool Try.prog id_hoardlaw3_known [] fun x_6 =>
  Q (.bool x_6)) (
  Q (.bool false))) (
  Q (.bool false))) := by kernel_rfl
theorem hoardlaw3_TapeOfNothing_j3_def (Q : Value → WP)  (t3 : Option Addr) : hoardlaw3_TapeOfNothing_j3 idJ Q  t3 = codeI Try.prog hoardlaw3_TapeOfNothing_kp idJ (cAt [true, true, true, true] (bodyOf Try.f4)) (retK Try.prog Try.f4 Q) noX (retK Try.prog Try.f4 Q) (us 3 ((.pointer t3) :: us 27 [])) := by kernel_rfl
theorem hoardlaw3_TapeOfNothing_l2_raw (jn : Jn) (Q : Value → WP)  (m2 : Nat) (n0 : Int) (t3 : Option Addr) (i4 : Int) : hoardlaw3_TapeOfNothing_l2 jn Q  (m2 + 1) n0 t3 i4 = (
  ite2 (decide (i4 < n0)) (
  call1 (.int .u32) Try.prog id_tape_Tape_Next [.pointer t3] fun x_3 =>
  ite2 (x_3 != (0 : Int)) (
  Q (.bool false)) (
  hoardlaw3_TapeOfNothing_l2 jn Q  m2 n0 t3 (IntKind.wrap .i64 (i4 + (1 : Int))))) (
  hoardlaw3_TapeOfNothing_j3 jn Q  t3)) := by kernel_rfl
theorem hoardlaw3_TapeOfNothing_l2_zero (jn : Jn) (Q : Value → WP)  (n0 : Int) (t3 : Option Addr) (i4 : Int) : hoardlaw3_TapeOfNothing_l2 jn Q  0 n0 t3 i4 = bot := by kernel_rfl
theorem hoardlaw3_TapeOfNothing_j1_raw (jn : Jn) (Q : Value → WP)  (n0 : Int) : codeI Try.prog hoardlaw3_TapeOfNothing_kp jn (cAt [true, true] (bodyOf Try.f4)) (retK Try.prog Try.f4 Q) noX (retK Try.prog Try.f4 Q) ((.int .i64 n0) :: us 30 []) = (
  exM fun m => hoardlaw3_TapeOfNothing_l2 jn Q  m n0 (none : Option Addr) (0 : Int)) := by kernel_rfl
theorem hoardlaw3_TapeOfNothing_j1_def (Q : Value → WP)  (n0 : Int) : hoardlaw3_TapeOfNothing_j1 idJ Q  n0 = codeI Try.prog hoardlaw3_TapeOfNothing_kp idJ (cAt [true, true] (bodyOf Try.f4)) (retK Try.prog Try.f4 Q) noX (retK Try.prog Try.f4 Q) ((.int .i64 n0) :: us 30 []) := by kernel_rfl
theorem hoardlaw3_TapeOfNothing_raw (jn : Jn) (n0 : Int) (Q : Value → WP) : funJ jn Try.prog hoardlaw3_TapeOfNothing_kp Try.f4 [.int .i64 n0] Q = (
  ite2 (decide (n0 < (0 : Int))) (
  call1 .bool Try.prog id_hoardlaw3_known [] fun x_1 =>
  Q (.bool x_1)) (
  ite2 (decide (n0 > (100 : Int))) (
  call1 .bool Try.prog id_hoardlaw3_known [] fun x_2 =>
  Q (.bool x_2)) (
  hoardlaw3_TapeOfNothing_j1 jn Q  n0))) := by kernel_rfl
theorem hoardlaw3_TapeOfNothing_def (n0 : Int) (Q : Value → WP) : hoardlaw3_TapeOfNothing n0 Q = funJ idJ Try.prog hoardlaw3_TapeOfNothing_kp Try.f4 [.int .i64 n0] Q := rfl
theorem hoardlaw3_TapeOfNothing_calls {n0 : Int} {Q : Value → WP} {w : World} (h : hoardlaw3_TapeOfNothing n0 Q w) : Calls Try.prog id_hoardlaw3_TapeOfNothing #[.int .i64 n0] w fun e w' => ∃ v, e = .returned v ∧ Q v w' :=
  funJ_calls mixed Try.func4 rfl h

-- hoard/hoardlaw19.WeighKeeps
def hoardlaw19_WeighKeeps_kp : KP := ⟨[(10, [0, 3, 4])], []⟩
def hoardlaw19_WeighKeeps_j1 (jn : Jn) (Q : Value → WP)  (k0 : Int) (a3 : Int) (b4 : Int) : WP := jn 10 (fun ρ => codeI Try.prog hoardlaw19_WeighKeeps_kp jn (cAt [true, true, true] (bodyOf Try.f5)) (retK Try.prog Try.f5 Q) noX (retK Try.prog Try.f5 Q) ρ) ((.int .i64 k0) :: us 2 ((.int .u64 a3) :: (.int .u64 b4) :: us 45 []))
def hoardlaw19_WeighKeeps (k0 : Int) (Q : Value → WP) : WP := funJ idJ Try.prog hoardlaw19_WeighKeeps_kp Try.f5 [.int .i64 k0] Q
theorem hoardlaw19_WeighKeeps_j1_raw (jn : Jn) (Q : Value → WP)  (k0 : Int) (a3 : Int) (b4 : Int) : codeI Try.prog hoardlaw19_WeighKeeps_kp jn (cAt [true, true, true] (bodyOf Try.f5)) (retK Try.prog Try.f5 Q) noX (retK Try.prog Try.f5 Q) ((.int .i64 k0) :: us 2 ((.int .u64 a3) :: (.int .u64 b4) :: us 45 [])) = (
  ite2 (decide (k0 < (0 : Int))) (
  call1 (.int .u64) Try.prog id_weigh_Keep [.int .i64 (0 : Int)] fun x_3 =>
  ite2 (x_3 == (4294967296 : Int)) (
  call1 .bool Try.prog id_hoardlaw19_known [] fun x_4 =>
  Q (.bool x_4)) (
  Q (.bool false))) (
  ite2 (decide (k0 > (14 : Int))) (
  call1 (.int .u64) Try.prog id_weigh_Keep [.int .i64 (0 : Int)] fun x_5 =>
  ite2 (x_5 == (4294967296 : Int)) (
  call1 .bool Try.prog id_hoardlaw19_known [] fun x_6 =>
  Q (.bool x_6)) (
  Q (.bool false))) (
  ite2 (decide (b4 < a3)) (
  ite2 (decide ((IntKind.wrap .u64 ((10 : Int) * b4)) ≤ (IntKind.wrap .u64 ((9 : Int) * a3)))) (
  ite2 (decide ((IntKind.wrap .u64 ((10 : Int) * b4)) > (IntKind.wrap .u64 ((IntKind.wrap .u64 ((9 : Int) * a3)) - (10 : Int))))) (
  call1 (.int .u64) Try.prog id_weigh_Keep [.int .i64 (0 : Int)] fun x_7 =>
  ite2 (x_7 == (4294967296 : Int)) (
  call1 .bool Try.prog id_hoardlaw19_known [] fun x_8 =>
  Q (.bool x_8)) (
  Q (.bool false))) (
  Q (.bool false))) (
  Q (.bool false))) (
  Q (.bool false))))) := by kernel_rfl
theorem hoardlaw19_WeighKeeps_j1_def (Q : Value → WP)  (k0 : Int) (a3 : Int) (b4 : Int) : hoardlaw19_WeighKeeps_j1 idJ Q  k0 a3 b4 = codeI Try.prog hoardlaw19_WeighKeeps_kp idJ (cAt [true, true, true] (bodyOf Try.f5)) (retK Try.prog Try.f5 Q) noX (retK Try.prog Try.f5 Q) ((.int .i64 k0) :: us 2 ((.int .u64 a3) :: (.int .u64 b4) :: us 45 [])) := by kernel_rfl
theorem hoardlaw19_WeighKeeps_raw (jn : Jn) (k0 : Int) (Q : Value → WP) : funJ jn Try.prog hoardlaw19_WeighKeeps_kp Try.f5 [.int .i64 k0] Q = (
  call1 (.int .u64) Try.prog id_weigh_Keep [.int .i64 k0] fun x_1 =>
  call1 (.int .u64) Try.prog id_weigh_Keep [.int .i64 (IntKind.wrap .i64 ((if (14 : Int) < k0 then (14 : Int) else k0) + (1 : Int)))] fun x_2 =>
  ite2 (decide (x_1 > (4294967296 : Int))) (
  Q (.bool false)) (
  ite2 (decide (x_1 < (858993459 : Int))) (
  Q (.bool false)) (
  hoardlaw19_WeighKeeps_j1 jn Q  k0 x_1 x_2))) := by kernel_rfl
theorem hoardlaw19_WeighKeeps_def (k0 : Int) (Q : Value → WP) : hoardlaw19_WeighKeeps k0 Q = funJ idJ Try.prog hoardlaw19_WeighKeeps_kp Try.f5 [.int .i64 k0] Q := rfl
theorem hoardlaw19_WeighKeeps_calls {k0 : Int} {Q : Value → WP} {w : World} (h : hoardlaw19_WeighKeeps k0 Q w) : Calls Try.prog id_hoardlaw19_WeighKeeps #[.int .i64 k0] w fun e w' => ∃ v, e = .returned v ∧ Q v w' :=
  funJ_calls mixed Try.func5 rfl h

-- hoard/hoardlaw19.WeighLooks
def hoardlaw19_WeighLooks_kp : KP := ⟨[], [(2, [0, 2, 4, 5, 6, 8, 10, 11, 12, 13, 14, 16, 17, 19, 20, 21, 22, 24, 26, 27, 28, 31, 32, 33, 35, 36])]⟩
def hoardlaw19_WeighLooks (w0_0 : Int) (w0_1 : Int) (w0_2 : Int) (w0_3 : Int) (w0_4 : Int) (draw1 : Int) (k2 : Int) (Q : Value → WP) : WP := funJ idJ Try.prog hoardlaw19_WeighLooks_kp Try.f6 [.agg #[.int .u64 w0_0, .int .u64 w0_1, .int .u64 w0_2, .int .u64 w0_3, .int .u64 w0_4], .int .u32 draw1, .int .i64 k2] Q
theorem hoardlaw19_WeighLooks_raw (jn : Jn) (w0_0 : Int) (w0_1 : Int) (w0_2 : Int) (w0_3 : Int) (w0_4 : Int) (draw1 : Int) (k2 : Int) (Q : Value → WP) : funJ jn Try.prog hoardlaw19_WeighLooks_kp Try.f6 [.agg #[.int .u64 w0_0, .int .u64 w0_1, .int .u64 w0_2, .int .u64 w0_3, .int .u64 w0_4], .int .u32 draw1, .int .i64 k2] Q = (
  newB [.int .u64 w0_0, .int .u64 w0_1, .int .u64 w0_2, .int .u64 w0_3, .int .u64 w0_4] ty_weigh_Weights fun b_1 =>
  ld (.int .u64) b_1 0 fun x_2 =>
  ld (.int .u64) b_1 1 fun x_3 =>
  ld (.int .u64) b_1 2 fun x_4 =>
  ld (.int .u64) b_1 3 fun x_5 =>
  ld (.int .u64) b_1 4 fun x_6 =>
  newB [.int .u64 (0 : Int), .int .u64 (0 : Int), .int .u64 (0 : Int), .int .u64 (0 : Int), .int .u64 (0 : Int)] ty_hoardref19_Weights fun b_7 =>
  st b_7 0 (.int .u64 x_2) <|
  st b_7 1 (.int .u64 x_3) <|
  st b_7 2 (.int .u64 x_4) <|
  st b_7 3 (.int .u64 x_5) <|
  st b_7 4 (.int .u64 x_6) <|
  drawW fun S =>
  ldS S (.int .u64) b_1 0 fun x_8 =>
  ldS S (.int .u64) b_1 1 fun x_9 =>
  ldS S (.int .u64) b_1 2 fun x_10 =>
  ldS S (.int .u64) b_1 3 fun x_11 =>
  ldS S (.int .u64) b_1 4 fun x_12 =>
  ldS S (.int .u64) b_7 0 fun x_13 =>
  ldS S (.int .u64) b_7 1 fun x_14 =>
  ldS S (.int .u64) b_7 2 fun x_15 =>
  ldS S (.int .u64) b_7 3 fun x_16 =>
  ldS S (.int .u64) b_7 4 fun x_17 =>
  call1 .bool Try.prog id_weigh_Is [.agg #[.int .u64 x_8, .int .u64 x_9, .int .u64 x_10, .int .u64 x_11, .int .u64 x_12]] fun x_18 =>
  keepS true S <|
  call1 .bool Try.prog id_hoardref19_Is [.agg #[.int .u64 x_13, .int .u64 x_14, .int .u64 x_15, .int .u64 x_16, .int .u64 x_17]] fun x_19 =>
  keepS true S <|
  ite2 (x_18 == x_19) (
  ldS S (.int .u64) b_1 0 fun x_20 =>
  ldS S (.int .u64) b_1 1 fun x_21 =>
  ldS S (.int .u64) b_1 2 fun x_22 =>
  ldS S (.int .u64) b_1 3 fun x_23 =>
  ldS S (.int .u64) b_1 4 fun x_24 =>
  ldS S (.int .u64) b_7 0 fun x_25 =>
  ldS S (.int .u64) b_7 1 fun x_26 =>
  ldS S (.int .u64) b_7 2 fun x_27 =>
  ldS S (.int .u64) b_7 3 fun x_28 =>
  ldS S (.int .u64) b_7 4 fun x_29 =>
  call1 (.int .u64) Try.prog id_weigh_Sum [.agg #[.int .u64 x_20, .int .u64 x_21, .int .u64 x_22, .int .u64 x_23, .int .u64 x_24]] fun x_30 =>
  keepS true S <|
  call1 (.int .u64) Try.prog id_hoardref19_Sum [.agg #[.int .u64 x_25, .int .u64 x_26, .int .u64 x_27, .int .u64 x_28, .int .u64 x_29]] fun x_31 =>
  keepS true S <|
  ite2 (x_30 == x_31) (
  ldS S (.int .u64) b_1 0 fun x_32 =>
  ldS S (.int .u64) b_1 1 fun x_33 =>
  ldS S (.int .u64) b_1 2 fun x_34 =>
  ldS S (.int .u64) b_1 3 fun x_35 =>
  ldS S (.int .u64) b_1 4 fun x_36 =>
  ldS S (.int .u64) b_7 0 fun x_37 =>
  ldS S (.int .u64) b_7 1 fun x_38 =>
  ldS S (.int .u64) b_7 2 fun x_39 =>
  ldS S (.int .u64) b_7 3 fun x_40 =>
  ldS S (.int .u64) b_7 4 fun x_41 =>
  call1 (.int .i64) Try.prog id_weigh_Pick [.agg #[.int .u64 x_32, .int .u64 x_33, .int .u64 x_34, .int .u64 x_35, .int .u64 x_36], .int .u32 draw1] fun x_42 =>
  keepS true S <|
  call1 (.int .i64) Try.prog id_hoardref19_Pick [.agg #[.int .u64 x_37, .int .u64 x_38, .int .u64 x_39, .int .u64 x_40, .int .u64 x_41], .int .u32 draw1] fun x_43 =>
  ite2 (x_42 == x_43) (
  call1 (.int .u64) Try.prog id_weigh_Keep [.int .i64 k2] fun x_44 =>
  call1 (.int .u64) Try.prog id_hoardref19_Keep [.int .i64 k2] fun x_45 =>
  ite2 (x_44 == x_45) (
  fun w => Calls Try.prog id_weigh_Start #[] w fun e w' => ∃ x_46 : Int, ∃ x_47 : Int, ∃ x_48 : Int, ∃ x_49 : Int, ∃ x_50 : Int, e = .returned (.agg #[.int .u64 x_46, .int .u64 x_47, .int .u64 x_48, .int .u64 x_49, .int .u64 x_50]) ∧ (
  fun w => Calls Try.prog id_hoardref19_Start #[] w fun e w' => ∃ x_51 : Int, ∃ x_52 : Int, ∃ x_53 : Int, ∃ x_54 : Int, ∃ x_55 : Int, e = .returned (.agg #[.int .u64 x_51, .int .u64 x_52, .int .u64 x_53, .int .u64 x_54, .int .u64 x_55]) ∧ (
  ite2 ((x_46 == x_51) && ((x_47 == x_52) && ((x_48 == x_53) && ((x_49 == x_54) && ((x_50 == x_55) && true))))) (
  call1 .bool Try.prog id_hoardlaw19_known [] fun x_56 =>
  Q (.bool x_56)) (
  Q (.bool false))) w') w') (
  Q (.bool false))) (
  Q (.bool false))) (
  keepS true S <|
  Q (.bool false))) (
  keepS true S <|
  keepS true S <|
  keepS true S <|
  Q (.bool false))) := by kernel_rfl
theorem hoardlaw19_WeighLooks_def (w0_0 : Int) (w0_1 : Int) (w0_2 : Int) (w0_3 : Int) (w0_4 : Int) (draw1 : Int) (k2 : Int) (Q : Value → WP) : hoardlaw19_WeighLooks w0_0 w0_1 w0_2 w0_3 w0_4 draw1 k2 Q = funJ idJ Try.prog hoardlaw19_WeighLooks_kp Try.f6 [.agg #[.int .u64 w0_0, .int .u64 w0_1, .int .u64 w0_2, .int .u64 w0_3, .int .u64 w0_4], .int .u32 draw1, .int .i64 k2] Q := rfl
theorem hoardlaw19_WeighLooks_calls {w0_0 : Int} {w0_1 : Int} {w0_2 : Int} {w0_3 : Int} {w0_4 : Int} {draw1 : Int} {k2 : Int} {Q : Value → WP} {w : World} (h : hoardlaw19_WeighLooks w0_0 w0_1 w0_2 w0_3 w0_4 draw1 k2 Q w) : Calls Try.prog id_hoardlaw19_WeighLooks #[.agg #[.int .u64 w0_0, .int .u64 w0_1, .int .u64 w0_2, .int .u64 w0_3, .int .u64 w0_4], .int .u32 draw1, .int .i64 k2] w fun e w' => ∃ v, e = .returned v ∧ Q v w' :=
  funJ_calls mixed Try.func6 rfl h

-- hoard/hoardlaw2.FixProducts
def hoardlaw2_FixProducts_kp : KP := ⟨[], []⟩
def hoardlaw2_FixProducts (a0 : Int) (b1 : Int) (c2 : Int) (Q : Value → WP) : WP := funJ idJ Try.prog hoardlaw2_FixProducts_kp Try.f7 [.int .u64 a0, .int .u64 b1, .int .u64 c2] Q
theorem hoardlaw2_FixProducts_raw (jn : Jn) (a0 : Int) (b1 : Int) (c2 : Int) (Q : Value → WP) : funJ jn Try.prog hoardlaw2_FixProducts_kp Try.f7 [.int .u64 a0, .int .u64 b1, .int .u64 c2] Q = (
  call1 (.int .u64) Try.prog id_fix_Mul [.int .u64 a0, .int .u64 b1] fun x_1 =>
  call1 (.int .u64) Try.prog id_hoardref2_Mul [.int .u64 a0, .int .u64 b1] fun x_2 =>
  ite2 (x_1 == x_2) (
  call1 (.int .u64) Try.prog id_fix_Scale [.int .u64 a0, .int .u64 b1, .int .u64 c2] fun x_3 =>
  call1 (.int .u64) Try.prog id_hoardref2_Scale [.int .u64 a0, .int .u64 b1, .int .u64 c2] fun x_4 =>
  ite2 (x_3 == x_4) (
  call1 .bool Try.prog id_hoardlaw2_known [] fun x_5 =>
  Q (.bool x_5)) (
  Q (.bool false))) (
  Q (.bool false))) := by kernel_rfl
theorem hoardlaw2_FixProducts_def (a0 : Int) (b1 : Int) (c2 : Int) (Q : Value → WP) : hoardlaw2_FixProducts a0 b1 c2 Q = funJ idJ Try.prog hoardlaw2_FixProducts_kp Try.f7 [.int .u64 a0, .int .u64 b1, .int .u64 c2] Q := rfl
theorem hoardlaw2_FixProducts_calls {a0 : Int} {b1 : Int} {c2 : Int} {Q : Value → WP} {w : World} (h : hoardlaw2_FixProducts a0 b1 c2 Q w) : Calls Try.prog id_hoardlaw2_FixProducts #[.int .u64 a0, .int .u64 b1, .int .u64 c2] w fun e w' => ∃ v, e = .returned v ∧ Q v w' :=
  funJ_calls mixed Try.func7 rfl h

-- hoard/hoardlaw2.FixWhole
def hoardlaw2_FixWhole_kp : KP := ⟨[], []⟩
def hoardlaw2_FixWhole (a0 : Int) (n1 : Int) (Q : Value → WP) : WP := funJ idJ Try.prog hoardlaw2_FixWhole_kp Try.f8 [.int .u64 a0, .int .u64 n1] Q
theorem hoardlaw2_FixWhole_raw (jn : Jn) (a0 : Int) (n1 : Int) (Q : Value → WP) : funJ jn Try.prog hoardlaw2_FixWhole_kp Try.f8 [.int .u64 a0, .int .u64 n1] Q = (
  ite2 (n1 == (0 : Int)) (
  call1 (.int .u64) Try.prog id_fix_Scale [.int .u64 a0, .int .u64 a0, .int .u64 (0 : Int)] fun x_1 =>
  ite2 (x_1 == (18446744073709551615 : Int)) (
  call1 .bool Try.prog id_hoardlaw2_known [] fun x_2 =>
  Q (.bool x_2)) (
  Q (.bool false))) (
  call1 (.int .u64) Try.prog id_fix_Scale [.int .u64 a0, .int .u64 n1, .int .u64 n1] fun x_3 =>
  ite2 (x_3 == a0) (
  call1 (.int .u64) Try.prog id_fix_Mul [.int .u64 a0, .int .u64 (4294967296 : Int)] fun x_4 =>
  ite2 (x_4 == a0) (
  call1 .bool Try.prog id_hoardlaw2_known [] fun x_5 =>
  Q (.bool x_5)) (
  Q (.bool false))) (
  Q (.bool false)))) := by kernel_rfl
theorem hoardlaw2_FixWhole_def (a0 : Int) (n1 : Int) (Q : Value → WP) : hoardlaw2_FixWhole a0 n1 Q = funJ idJ Try.prog hoardlaw2_FixWhole_kp Try.f8 [.int .u64 a0, .int .u64 n1] Q := rfl
theorem hoardlaw2_FixWhole_calls {a0 : Int} {n1 : Int} {Q : Value → WP} {w : World} (h : hoardlaw2_FixWhole a0 n1 Q w) : Calls Try.prog id_hoardlaw2_FixWhole #[.int .u64 a0, .int .u64 n1] w fun e w' => ∃ v, e = .returned v ∧ Q v w' :=
  funJ_calls mixed Try.func8 rfl h

-- hoard/hoardlaw2.FixTurns
def hoardlaw2_FixTurns_kp : KP := ⟨[(8, [0, 1, 2])], []⟩
def hoardlaw2_FixTurns_j1 (jn : Jn) (Q : Value → WP)  (a0 : Int) (b1 : Int) (c2 : Int) : WP := jn 8 (fun ρ => codeI Try.prog hoardlaw2_FixTurns_kp jn (cAt [true, true] (bodyOf Try.f9)) (retK Try.prog Try.f9 Q) noX (retK Try.prog Try.f9 Q) ρ) ((.int .u64 a0) :: (.int .u64 b1) :: (.int .u64 c2) :: us 46 [])
def hoardlaw2_FixTurns (a0 : Int) (b1 : Int) (c2 : Int) (Q : Value → WP) : WP := funJ idJ Try.prog hoardlaw2_FixTurns_kp Try.f9 [.int .u64 a0, .int .u64 b1, .int .u64 c2] Q
theorem hoardlaw2_FixTurns_j1_raw (jn : Jn) (Q : Value → WP)  (a0 : Int) (b1 : Int) (c2 : Int) : codeI Try.prog hoardlaw2_FixTurns_kp jn (cAt [true, true] (bodyOf Try.f9)) (retK Try.prog Try.f9 Q) noX (retK Try.prog Try.f9 Q) ((.int .u64 a0) :: (.int .u64 b1) :: (.int .u64 c2) :: us 46 []) = (
  ite2 (decide (a0 > b1)) (
  call1 (.int .u64) Try.prog id_fix_Mul [.int .u64 a0, .int .u64 c2] fun x_5 =>
  call1 (.int .u64) Try.prog id_fix_Scale [.int .u64 a0, .int .u64 c2, .int .u64 (4294967296 : Int)] fun x_6 =>
  ite2 (x_5 == x_6) (
  call1 .bool Try.prog id_hoardlaw2_known [] fun x_7 =>
  Q (.bool x_7)) (
  Q (.bool false))) (
  call1 (.int .u64) Try.prog id_fix_Scale [.int .u64 a0, .int .u64 c2, .int .u64 (4294967296 : Int)] fun x_8 =>
  call1 (.int .u64) Try.prog id_fix_Scale [.int .u64 b1, .int .u64 c2, .int .u64 (4294967296 : Int)] fun x_9 =>
  ite2 (decide (x_8 ≤ x_9)) (
  call1 (.int .u64) Try.prog id_fix_Mul [.int .u64 a0, .int .u64 c2] fun x_10 =>
  call1 (.int .u64) Try.prog id_fix_Scale [.int .u64 a0, .int .u64 c2, .int .u64 (4294967296 : Int)] fun x_11 =>
  ite2 (x_10 == x_11) (
  call1 .bool Try.prog id_hoardlaw2_known [] fun x_12 =>
  Q (.bool x_12)) (
  Q (.bool false))) (
  Q (.bool false)))) := by kernel_rfl
theorem hoardlaw2_FixTurns_j1_def (Q : Value → WP)  (a0 : Int) (b1 : Int) (c2 : Int) : hoardlaw2_FixTurns_j1 idJ Q  a0 b1 c2 = codeI Try.prog hoardlaw2_FixTurns_kp idJ (cAt [true, true] (bodyOf Try.f9)) (retK Try.prog Try.f9 Q) noX (retK Try.prog Try.f9 Q) ((.int .u64 a0) :: (.int .u64 b1) :: (.int .u64 c2) :: us 46 []) := by kernel_rfl
theorem hoardlaw2_FixTurns_raw (jn : Jn) (a0 : Int) (b1 : Int) (c2 : Int) (Q : Value → WP) : funJ jn Try.prog hoardlaw2_FixTurns_kp Try.f9 [.int .u64 a0, .int .u64 b1, .int .u64 c2] Q = (
  call1 (.int .u64) Try.prog id_fix_Mul [.int .u64 a0, .int .u64 b1] fun x_1 =>
  call1 (.int .u64) Try.prog id_fix_Mul [.int .u64 b1, .int .u64 a0] fun x_2 =>
  ite2 (x_1 != x_2) (
  Q (.bool false)) (
  call1 (.int .u64) Try.prog id_fix_Scale [.int .u64 a0, .int .u64 b1, .int .u64 c2] fun x_3 =>
  call1 (.int .u64) Try.prog id_fix_Scale [.int .u64 b1, .int .u64 a0, .int .u64 c2] fun x_4 =>
  ite2 (x_3 != x_4) (
  Q (.bool false)) (
  hoardlaw2_FixTurns_j1 jn Q  a0 b1 c2))) := by kernel_rfl
theorem hoardlaw2_FixTurns_def (a0 : Int) (b1 : Int) (c2 : Int) (Q : Value → WP) : hoardlaw2_FixTurns a0 b1 c2 Q = funJ idJ Try.prog hoardlaw2_FixTurns_kp Try.f9 [.int .u64 a0, .int .u64 b1, .int .u64 c2] Q := rfl
theorem hoardlaw2_FixTurns_calls {a0 : Int} {b1 : Int} {c2 : Int} {Q : Value → WP} {w : World} (h : hoardlaw2_FixTurns a0 b1 c2 Q w) : Calls Try.prog id_hoardlaw2_FixTurns #[.int .u64 a0, .int .u64 b1, .int .u64 c2] w fun e w' => ∃ v, e = .returned v ∧ Q v w' :=
  funJ_calls mixed Try.func9 rfl h

-- hoard/hoardlaw2.FixCounts
def hoardlaw2_FixCounts_kp : KP := ⟨[], []⟩
def hoardlaw2_FixCounts (a0 : Int) (b1 : Int) (c2 : Int) (Q : Value → WP) : WP := funJ idJ Try.prog hoardlaw2_FixCounts_kp Try.f10 [.int .i64 a0, .int .i64 b1, .int .i64 c2] Q
theorem hoardlaw2_FixCounts_raw (jn : Jn) (a0 : Int) (b1 : Int) (c2 : Int) (Q : Value → WP) : funJ jn Try.prog hoardlaw2_FixCounts_kp Try.f10 [.int .i64 a0, .int .i64 b1, .int .i64 c2] Q = (
  call1 (.int .i64) Try.prog id_fix_Inc [.int .i64 a0, .int .i64 b1] fun x_1 =>
  call1 (.int .i64) Try.prog id_hoardref2_Inc [.int .i64 a0, .int .i64 b1] fun x_2 =>
  ite2 (x_1 == x_2) (
  call1 (.int .i64) Try.prog id_fix_Add [.int .i64 a0, .int .i64 b1] fun x_3 =>
  call1 (.int .i64) Try.prog id_hoardref2_Add [.int .i64 a0, .int .i64 b1] fun x_4 =>
  ite2 (x_3 == x_4) (
  call1 (.int .i64) Try.prog id_fix_Clamp [.int .i64 a0, .int .i64 b1, .int .i64 c2] fun x_5 =>
  call1 (.int .i64) Try.prog id_hoardref2_Clamp [.int .i64 a0, .int .i64 b1, .int .i64 c2] fun x_6 =>
  ite2 (x_5 == x_6) (
  call1 .bool Try.prog id_hoardlaw2_known [] fun x_7 =>
  Q (.bool x_7)) (
  Q (.bool false))) (
  Q (.bool false))) (
  Q (.bool false))) := by kernel_rfl
theorem hoardlaw2_FixCounts_def (a0 : Int) (b1 : Int) (c2 : Int) (Q : Value → WP) : hoardlaw2_FixCounts a0 b1 c2 Q = funJ idJ Try.prog hoardlaw2_FixCounts_kp Try.f10 [.int .i64 a0, .int .i64 b1, .int .i64 c2] Q := rfl
theorem hoardlaw2_FixCounts_calls {a0 : Int} {b1 : Int} {c2 : Int} {Q : Value → WP} {w : World} (h : hoardlaw2_FixCounts a0 b1 c2 Q w) : Calls Try.prog id_hoardlaw2_FixCounts #[.int .i64 a0, .int .i64 b1, .int .i64 c2] w fun e w' => ∃ v, e = .returned v ∧ Q v w' :=
  funJ_calls mixed Try.func10 rfl h

-- hoard/hoardlaw2.FixNever
def hoardlaw2_FixNever_kp : KP := ⟨[(10, [0, 1, 5]), (14, [0, 1])], []⟩
def hoardlaw2_FixNever_j2 (jn : Jn) (Q : Value → WP)  (a0 : Int) (b1 : Int) : WP := jn 14 (fun ρ => codeI Try.prog hoardlaw2_FixNever_kp jn (cAt [true, true, true, true] (bodyOf Try.f11)) (retK Try.prog Try.f11 Q) noX (retK Try.prog Try.f11 Q) ρ) ((.int .i64 a0) :: (.int .i64 b1) :: us 32 [])
def hoardlaw2_FixNever_j1 (jn : Jn) (Q : Value → WP)  (a0 : Int) (b1 : Int) (s5 : Int) : WP := jn 10 (fun ρ => codeI Try.prog hoardlaw2_FixNever_kp jn (cAt [true, true, true] (bodyOf Try.f11)) (retK Try.prog Try.f11 Q) noX (retK Try.prog Try.f11 Q) ρ) ((.int .i64 a0) :: (.int .i64 b1) :: us 3 ((.int .i64 s5) :: us 28 []))
def hoardlaw2_FixNever (a0 : Int) (b1 : Int) (Q : Value → WP) : WP := funJ idJ Try.prog hoardlaw2_FixNever_kp Try.f11 [.int .i64 a0, .int .i64 b1] Q
theorem hoardlaw2_FixNever_j2_raw (jn : Jn) (Q : Value → WP)  (a0 : Int) (b1 : Int) : codeI Try.prog hoardlaw2_FixNever_kp jn (cAt [true, true, true, true] (bodyOf Try.f11)) (retK Try.prog Try.f11 Q) noX (retK Try.prog Try.f11 Q) ((.int .i64 a0) :: (.int .i64 b1) :: us 32 []) = (
  call1 (.int .i64) Try.prog id_fix_Inc [.int .i64 a0, .int .i64 b1] fun x_2 =>
  ite2 (decide (x_2 ≥ a0)) (
  call1 .bool Try.prog id_hoardlaw2_known [] fun x_3 =>
  Q (.bool x_3)) (
  Q (.bool false))) := by kernel_rfl
theorem hoardlaw2_FixNever_j2_def (Q : Value → WP)  (a0 : Int) (b1 : Int) : hoardlaw2_FixNever_j2 idJ Q  a0 b1 = codeI Try.prog hoardlaw2_FixNever_kp idJ (cAt [true, true, true, true] (bodyOf Try.f11)) (retK Try.prog Try.f11 Q) noX (retK Try.prog Try.f11 Q) ((.int .i64 a0) :: (.int .i64 b1) :: us 32 []) := by kernel_rfl
theorem hoardlaw2_FixNever_j1_raw (jn : Jn) (Q : Value → WP)  (a0 : Int) (b1 : Int) (s5 : Int) : codeI Try.prog hoardlaw2_FixNever_kp jn (cAt [true, true, true] (bodyOf Try.f11)) (retK Try.prog Try.f11 Q) noX (retK Try.prog Try.f11 Q) ((.int .i64 a0) :: (.int .i64 b1) :: us 3 ((.int .i64 s5) :: us 28 [])) = (
  ite2 (decide (a0 ≥ (0 : Int))) (
  ite2 (decide (a0 ≤ (1099511627776 : Int))) (
  ite2 (decide (s5 < a0)) (
  Q (.bool false)) (
  hoardlaw2_FixNever_j2 jn Q  a0 b1)) (
  hoardlaw2_FixNever_j2 jn Q  a0 b1)) (
  hoardlaw2_FixNever_j2 jn Q  a0 b1)) := by kernel_rfl
theorem hoardlaw2_FixNever_j1_def (Q : Value → WP)  (a0 : Int) (b1 : Int) (s5 : Int) : hoardlaw2_FixNever_j1 idJ Q  a0 b1 s5 = codeI Try.prog hoardlaw2_FixNever_kp idJ (cAt [true, true, true] (bodyOf Try.f11)) (retK Try.prog Try.f11 Q) noX (retK Try.prog Try.f11 Q) ((.int .i64 a0) :: (.int .i64 b1) :: us 3 ((.int .i64 s5) :: us 28 [])) := by kernel_rfl
theorem hoardlaw2_FixNever_raw (jn : Jn) (a0 : Int) (b1 : Int) (Q : Value → WP) : funJ jn Try.prog hoardlaw2_FixNever_kp Try.f11 [.int .i64 a0, .int .i64 b1] Q = (
  call1 (.int .i64) Try.prog id_fix_Add [.int .i64 a0, .int .i64 b1] fun x_1 =>
  ite2 (decide (x_1 < (0 : Int))) (
  Q (.bool false)) (
  ite2 (decide (x_1 > (1099511627776 : Int))) (
  Q (.bool false)) (
  hoardlaw2_FixNever_j1 jn Q  a0 b1 x_1))) := by kernel_rfl
theorem hoardlaw2_FixNever_def (a0 : Int) (b1 : Int) (Q : Value → WP) : hoardlaw2_FixNever a0 b1 Q = funJ idJ Try.prog hoardlaw2_FixNever_kp Try.f11 [.int .i64 a0, .int .i64 b1] Q := rfl
theorem hoardlaw2_FixNever_calls {a0 : Int} {b1 : Int} {Q : Value → WP} {w : World} (h : hoardlaw2_FixNever a0 b1 Q w) : Calls Try.prog id_hoardlaw2_FixNever #[.int .i64 a0, .int .i64 b1] w fun e w' => ∃ v, e = .returned v ∧ Q v w' :=
  funJ_calls mixed Try.func11 rfl h

-- hoard/hoardlaw19.WeighNext
def hoardlaw19_WeighNext_kp : KP := ⟨[], [(2, [0, 1, 3, 5, 6, 9, 10, 12, 13])]⟩
def hoardlaw19_WeighNext (w0_0 : Int) (w0_1 : Int) (w0_2 : Int) (w0_3 : Int) (w0_4 : Int) (ghosts1_0 : Int) (ghosts1_1 : Int) (ghosts1_2 : Int) (ghosts1_3 : Int) (ghosts1_4 : Int) (all2 : Int) (Q : Value → WP) : WP := funJ idJ Try.prog hoardlaw19_WeighNext_kp Try.f12 [.agg #[.int .u64 w0_0, .int .u64 w0_1, .int .u64 w0_2, .int .u64 w0_3, .int .u64 w0_4], .agg #[.int .i64 ghosts1_0, .int .i64 ghosts1_1, .int .i64 ghosts1_2, .int .i64 ghosts1_3, .int .i64 ghosts1_4], .int .i64 all2] Q
theorem hoardlaw19_WeighNext_raw (jn : Jn) (w0_0 : Int) (w0_1 : Int) (w0_2 : Int) (w0_3 : Int) (w0_4 : Int) (ghosts1_0 : Int) (ghosts1_1 : Int) (ghosts1_2 : Int) (ghosts1_3 : Int) (ghosts1_4 : Int) (all2 : Int) (Q : Value → WP) : funJ jn Try.prog hoardlaw19_WeighNext_kp Try.f12 [.agg #[.int .u64 w0_0, .int .u64 w0_1, .int .u64 w0_2, .int .u64 w0_3, .int .u64 w0_4], .agg #[.int .i64 ghosts1_0, .int .i64 ghosts1_1, .int .i64 ghosts1_2, .int .i64 ghosts1_3, .int .i64 ghosts1_4], .int .i64 all2] Q = (
  newB [.int .u64 w0_0, .int .u64 w0_1, .int .u64 w0_2, .int .u64 w0_3, .int .u64 w0_4] ty_weigh_Weights fun b_1 =>
  newB [.int .i64 ghosts1_0, .int .i64 ghosts1_1, .int .i64 ghosts1_2, .int .i64 ghosts1_3, .int .i64 ghosts1_4] ty_5_int fun b_2 =>
  ld (.int .u64) b_1 0 fun x_3 =>
  ld (.int .u64) b_1 1 fun x_4 =>
  ld (.int .u64) b_1 2 fun x_5 =>
  ld (.int .u64) b_1 3 fun x_6 =>
  ld (.int .u64) b_1 4 fun x_7 =>
  ld (.int .i64) b_2 0 fun x_8 =>
  ld (.int .i64) b_2 1 fun x_9 =>
  ld (.int .i64) b_2 2 fun x_10 =>
  ld (.int .i64) b_2 3 fun x_11 =>
  ld (.int .i64) b_2 4 fun x_12 =>
  fun w => Calls Try.prog id_weigh_Next #[.agg #[.int .u64 x_3, .int .u64 x_4, .int .u64 x_5, .int .u64 x_6, .int .u64 x_7], .agg #[.int .i64 x_8, .int .i64 x_9, .int .i64 x_10, .int .i64 x_11, .int .i64 x_12], .int .i64 all2] w fun e w' => ∃ x_13 : Int, ∃ x_14 : Int, ∃ x_15 : Int, ∃ x_16 : Int, ∃ x_17 : Int, e = .returned (.agg #[.int .u64 x_13, .int .u64 x_14, .int .u64 x_15, .int .u64 x_16, .int .u64 x_17]) ∧ (
  newB [.int .u64 (0 : Int), .int .u64 (0 : Int), .int .u64 (0 : Int), .int .u64 (0 : Int), .int .u64 (0 : Int)] ty_weigh_Weights fun b_18 =>
  st b_18 0 (.int .u64 x_13) <|
  st b_18 1 (.int .u64 x_14) <|
  st b_18 2 (.int .u64 x_15) <|
  st b_18 3 (.int .u64 x_16) <|
  st b_18 4 (.int .u64 x_17) <|
  drawW fun S =>
  ldS S (.int .u64) b_18 0 fun x_19 =>
  ldS S (.int .u64) b_18 1 fun x_20 =>
  ldS S (.int .u64) b_18 2 fun x_21 =>
  ldS S (.int .u64) b_18 3 fun x_22 =>
  ldS S (.int .u64) b_18 4 fun x_23 =>
  ldS S (.int .u64) b_1 0 fun x_24 =>
  ldS S (.int .u64) b_1 1 fun x_25 =>
  ldS S (.int .u64) b_1 2 fun x_26 =>
  ldS S (.int .u64) b_1 3 fun x_27 =>
  ldS S (.int .u64) b_1 4 fun x_28 =>
  ld (.int .i64) b_2 0 fun x_29 =>
  ld (.int .i64) b_2 1 fun x_30 =>
  ld (.int .i64) b_2 2 fun x_31 =>
  ld (.int .i64) b_2 3 fun x_32 =>
  ld (.int .i64) b_2 4 fun x_33 =>
  keepS true S <|
  fun w => Calls Try.prog id_hoardref19_Next #[.agg #[.int .u64 x_24, .int .u64 x_25, .int .u64 x_26, .int .u64 x_27, .int .u64 x_28], .agg #[.int .i64 x_29, .int .i64 x_30, .int .i64 x_31, .int .i64 x_32, .int .i64 x_33], .int .i64 all2] w fun e w' => ∃ x_34 : Int, ∃ x_35 : Int, ∃ x_36 : Int, ∃ x_37 : Int, ∃ x_38 : Int, e = .returned (.agg #[.int .u64 x_34, .int .u64 x_35, .int .u64 x_36, .int .u64 x_37, .int .u64 x_38]) ∧ (
  keepS true S <|
  ite2 ((x_19 == x_34) && ((x_20 == x_35) && ((x_21 == x_36) && ((x_22 == x_37) && ((x_23 == x_38) && true))))) (
  ld (.int .u64) b_18 0 fun x_39 =>
  ld (.int .u64) b_18 1 fun x_40 =>
  ld (.int .u64) b_18 2 fun x_41 =>
  ld (.int .u64) b_18 3 fun x_42 =>
  ld (.int .u64) b_18 4 fun x_43 =>
  call1 .bool Try.prog id_weigh_Is [.agg #[.int .u64 x_39, .int .u64 x_40, .int .u64 x_41, .int .u64 x_42, .int .u64 x_43]] fun x_44 =>
  ite2 x_44 (
  call1 .bool Try.prog id_hoardlaw19_known [] fun x_45 =>
  Q (.bool x_45)) (
  Q (.bool false))) (
  Q (.bool false))) w') w') := by kernel_rfl
theorem hoardlaw19_WeighNext_def (w0_0 : Int) (w0_1 : Int) (w0_2 : Int) (w0_3 : Int) (w0_4 : Int) (ghosts1_0 : Int) (ghosts1_1 : Int) (ghosts1_2 : Int) (ghosts1_3 : Int) (ghosts1_4 : Int) (all2 : Int) (Q : Value → WP) : hoardlaw19_WeighNext w0_0 w0_1 w0_2 w0_3 w0_4 ghosts1_0 ghosts1_1 ghosts1_2 ghosts1_3 ghosts1_4 all2 Q = funJ idJ Try.prog hoardlaw19_WeighNext_kp Try.f12 [.agg #[.int .u64 w0_0, .int .u64 w0_1, .int .u64 w0_2, .int .u64 w0_3, .int .u64 w0_4], .agg #[.int .i64 ghosts1_0, .int .i64 ghosts1_1, .int .i64 ghosts1_2, .int .i64 ghosts1_3, .int .i64 ghosts1_4], .int .i64 all2] Q := rfl
theorem hoardlaw19_WeighNext_calls {w0_0 : Int} {w0_1 : Int} {w0_2 : Int} {w0_3 : Int} {w0_4 : Int} {ghosts1_0 : Int} {ghosts1_1 : Int} {ghosts1_2 : Int} {ghosts1_3 : Int} {ghosts1_4 : Int} {all2 : Int} {Q : Value → WP} {w : World} (h : hoardlaw19_WeighNext w0_0 w0_1 w0_2 w0_3 w0_4 ghosts1_0 ghosts1_1 ghosts1_2 ghosts1_3 ghosts1_4 all2 Q w) : Calls Try.prog id_hoardlaw19_WeighNext #[.agg #[.int .u64 w0_0, .int .u64 w0_1, .int .u64 w0_2, .int .u64 w0_3, .int .u64 w0_4], .agg #[.int .i64 ghosts1_0, .int .i64 ghosts1_1, .int .i64 ghosts1_2, .int .i64 ghosts1_3, .int .i64 ghosts1_4], .int .i64 all2] w fun e w' => ∃ v, e = .returned v ∧ Q v w' :=
  funJ_calls mixed Try.func12 rfl h

-- hoard/hoardlaw19.WeighRow
def hoardlaw19_WeighRow_kp : KP := ⟨[(13, [0, 1, 5, 6, 7]), (20, [0, 1, 5, 6, 7]), (22, [5, 6])], [(9, [0, 1, 2, 3, 4, 5, 7, 8, 9, 10, 11, 12])]⟩
def hoardlaw19_WeighRow_j2 (jn : Jn) (Q : Value → WP) (m1 : Nat) (l0 : Sl) (all1 : Int) (w5_b : Nat) (w5_o : Nat) (x6_b : Nat) (x6_o : Nat) (i7 : Int) : WP := jn 20 (fun ρ => codeI Try.prog hoardlaw19_WeighRow_kp jn (cAt [true, true, true, false, true, false, false, true, false, false, true] (bodyOf Try.f13)) (seqK Try.prog hoardlaw19_WeighRow_kp jn (cAt [true, true, true, false, true, false, false, true, true] (bodyOf Try.f13)) (lopK Try.prog hoardlaw19_WeighRow_kp jn (cAt [true, true, true, false, true, false, false] (bodyOf Try.f13)) (blkX 0 (seqK Try.prog hoardlaw19_WeighRow_kp jn (cAt [true, true, true, true] (bodyOf Try.f13)) (retK Try.prog Try.f13 Q) noX (retK Try.prog Try.f13 Q)) noX) (retK Try.prog Try.f13 Q) m1) (blkX 0 (seqK Try.prog hoardlaw19_WeighRow_kp jn (cAt [true, true, true, true] (bodyOf Try.f13)) (retK Try.prog Try.f13 Q) noX (retK Try.prog Try.f13 Q)) noX) (retK Try.prog Try.f13 Q)) (blkX 1 (seqK Try.prog hoardlaw19_WeighRow_kp jn (cAt [true, true, true, false, true, false, false, true, true] (bodyOf Try.f13)) (lopK Try.prog hoardlaw19_WeighRow_kp jn (cAt [true, true, true, false, true, false, false] (bodyOf Try.f13)) (blkX 0 (seqK Try.prog hoardlaw19_WeighRow_kp jn (cAt [true, true, true, true] (bodyOf Try.f13)) (retK Try.prog Try.f13 Q) noX (retK Try.prog Try.f13 Q)) noX) (retK Try.prog Try.f13 Q) m1) (blkX 0 (seqK Try.prog hoardlaw19_WeighRow_kp jn (cAt [true, true, true, true] (bodyOf Try.f13)) (retK Try.prog Try.f13 Q) noX (retK Try.prog Try.f13 Q)) noX) (retK Try.prog Try.f13 Q)) (blkX 0 (seqK Try.prog hoardlaw19_WeighRow_kp jn (cAt [true, true, true, true] (bodyOf Try.f13)) (retK Try.prog Try.f13 Q) noX (retK Try.prog Try.f13 Q)) noX)) (retK Try.prog Try.f13 Q) ρ) ((.slice l0.a l0.n l0.c) :: (.int .i64 all1) :: us 3 ((.pointer (some ⟨w5_b, w5_o, none⟩)) :: (.pointer (some ⟨x6_b, x6_o, none⟩)) :: (.int .i64 i7) :: us 48 []))
def hoardlaw19_WeighRow_j3 (jn : Jn) (Q : Value → WP)  (w5_b : Nat) (w5_o : Nat) (x6_b : Nat) (x6_o : Nat) : WP := jn 22 (fun ρ => codeI Try.prog hoardlaw19_WeighRow_kp jn (cAt [true, true, true, true] (bodyOf Try.f13)) (retK Try.prog Try.f13 Q) noX (retK Try.prog Try.f13 Q) ρ) (us 5 ((.pointer (some ⟨w5_b, w5_o, none⟩)) :: (.pointer (some ⟨x6_b, x6_o, none⟩)) :: us 49 []))
def hoardlaw19_WeighRow_l1 (jn : Jn) (Q : Value → WP)  (m1 : Nat) (l0 : Sl) (all1 : Int) (w5_b : Nat) (w5_o : Nat) (x6_b : Nat) (x6_o : Nat) (i7 : Int) : WP := lop Try.prog hoardlaw19_WeighRow_kp jn (cAt [true, true, true, false, true, false, false] (bodyOf Try.f13)) (blkX 0 (seqK Try.prog hoardlaw19_WeighRow_kp jn (cAt [true, true, true, true] (bodyOf Try.f13)) (retK Try.prog Try.f13 Q) noX (retK Try.prog Try.f13 Q)) noX) (retK Try.prog Try.f13 Q) m1 ((.slice l0.a l0.n l0.c) :: (.int .i64 all1) :: us 3 ((.pointer (some ⟨w5_b, w5_o, none⟩)) :: (.pointer (some ⟨x6_b, x6_o, none⟩)) :: (.int .i64 i7) :: us 48 []))
def hoardlaw19_WeighRow (l0 : Sl) (all1 : Int) (Q : Value → WP) : WP := funJ idJ Try.prog hoardlaw19_WeighRow_kp Try.f13 [.slice l0.a l0.n l0.c, .int .i64 all1] Q
theorem hoardlaw19_WeighRow_j2_raw (jn : Jn) (Q : Value → WP) (m1 : Nat) (l0 : Sl) (all1 : Int) (w5_b : Nat) (w5_o : Nat) (x6_b : Nat) (x6_o : Nat) (i7 : Int) : codeI Try.prog hoardlaw19_WeighRow_kp jn (cAt [true, true, true, false, true, false, false, true, false, false, true] (bodyOf Try.f13)) (seqK Try.prog hoardlaw19_WeighRow_kp jn (cAt [true, true, true, false, true, false, false, true, true] (bodyOf Try.f13)) (lopK Try.prog hoardlaw19_WeighRow_kp jn (cAt [true, true, true, false, true, false, false] (bodyOf Try.f13)) (blkX 0 (seqK Try.prog hoardlaw19_WeighRow_kp jn (cAt [true, true, true, true] (bodyOf Try.f13)) (retK Try.prog Try.f13 Q) noX (retK Try.prog Try.f13 Q)) noX) (retK Try.prog Try.f13 Q) m1) (blkX 0 (seqK Try.prog hoardlaw19_WeighRow_kp jn (cAt [true, true, true, true] (bodyOf Try.f13)) (retK Try.prog Try.f13 Q) noX (retK Try.prog Try.f13 Q)) noX) (retK Try.prog Try.f13 Q)) (blkX 1 (seqK Try.prog hoardlaw19_WeighRow_kp jn (cAt [true, true, true, false, true, false, false, true, true] (bodyOf Try.f13)) (lopK Try.prog hoardlaw19_WeighRow_kp jn (cAt [true, true, true, false, true, false, false] (bodyOf Try.f13)) (blkX 0 (seqK Try.prog hoardlaw19_WeighRow_kp jn (cAt [true, true, true, true] (bodyOf Try.f13)) (retK Try.prog Try.f13 Q) noX (retK Try.prog Try.f13 Q)) noX) (retK Try.prog Try.f13 Q) m1) (blkX 0 (seqK Try.prog hoardlaw19_WeighRow_kp jn (cAt [true, true, true, true] (bodyOf Try.f13)) (retK Try.prog Try.f13 Q) noX (retK Try.prog Try.f13 Q)) noX) (retK Try.prog Try.f13 Q)) (blkX 0 (seqK Try.prog hoardlaw19_WeighRow_kp jn (cAt [true, true, true, true] (bodyOf Try.f13)) (retK Try.prog Try.f13 Q) noX (retK Try.prog Try.f13 Q)) noX)) (retK Try.prog Try.f13 Q) ((.slice l0.a l0.n l0.c) :: (.int .i64 all1) :: us 3 ((.pointer (some ⟨w5_b, w5_o, none⟩)) :: (.pointer (some ⟨x6_b, x6_o, none⟩)) :: (.int .i64 i7) :: us 48 [])) = (
  drawW fun S =>
  ldS S (.int .u64) w5_b w5_o fun x_35 =>
  ldS S (.int .u64) w5_b (w5_o + 1) fun x_36 =>
  ldS S (.int .u64) w5_b ((w5_o + 1) + 1) fun x_37 =>
  ldS S (.int .u64) w5_b (((w5_o + 1) + 1) + 1) fun x_38 =>
  ldS S (.int .u64) w5_b ((((w5_o + 1) + 1) + 1) + 1) fun x_39 =>
  idx l0.a l0.n i7 fun b_40 o_41 =>
  ldS S (.int .i64) b_40 (o_41 + (i7).toNat * 5) fun x_42 =>
  ldS S (.int .i64) b_40 ((o_41 + (i7).toNat * 5) + 1) fun x_43 =>
  ldS S (.int .i64) b_40 (((o_41 + (i7).toNat * 5) + 1) + 1) fun x_44 =>
  ldS S (.int .i64) b_40 ((((o_41 + (i7).toNat * 5) + 1) + 1) + 1) fun x_45 =>
  ldS S (.int .i64) b_40 (((((o_41 + (i7).toNat * 5) + 1) + 1) + 1) + 1) fun x_46 =>
  ldS S (.int .u64) x6_b x6_o fun x_47 =>
  ldS S (.int .u64) x6_b (x6_o + 1) fun x_48 =>
  ldS S (.int .u64) x6_b ((x6_o + 1) + 1) fun x_49 =>
  ldS S (.int .u64) x6_b (((x6_o + 1) + 1) + 1) fun x_50 =>
  ldS S (.int .u64) x6_b ((((x6_o + 1) + 1) + 1) + 1) fun x_51 =>
  idx l0.a l0.n i7 fun b_52 o_53 =>
  ldS S (.int .i64) b_52 (o_53 + (i7).toNat * 5) fun x_54 =>
  ldS S (.int .i64) b_52 ((o_53 + (i7).toNat * 5) + 1) fun x_55 =>
  ldS S (.int .i64) b_52 (((o_53 + (i7).toNat * 5) + 1) + 1) fun x_56 =>
  ldS S (.int .i64) b_52 ((((o_53 + (i7).toNat * 5) + 1) + 1) + 1) fun x_57 =>
  ldS S (.int .i64) b_52 (((((o_53 + (i7).toNat * 5) + 1) + 1) + 1) + 1) fun x_58 =>
  fun w => Calls Try.prog id_weigh_Next #[.agg #[.int .u64 x_35, .int .u64 x_36, .int .u64 x_37, .int .u64 x_38, .int .u64 x_39], .agg #[.int .i64 x_42, .int .i64 x_43, .int .i64 x_44, .int .i64 x_45, .int .i64 x_46], .int .i64 all1] w fun e w' => ∃ x_59 : Int, ∃ x_60 : Int, ∃ x_61 : Int, ∃ x_62 : Int, ∃ x_63 : Int, e = .returned (.agg #[.int .u64 x_59, .int .u64 x_60, .int .u64 x_61, .int .u64 x_62, .int .u64 x_63]) ∧ (
  keepS true S <|
  fun w => Calls Try.prog id_hoardref19_Next #[.agg #[.int .u64 x_47, .int .u64 x_48, .int .u64 x_49, .int .u64 x_50, .int .u64 x_51], .agg #[.int .i64 x_54, .int .i64 x_55, .int .i64 x_56, .int .i64 x_57, .int .i64 x_58], .int .i64 all1] w fun e w' => ∃ x_64 : Int, ∃ x_65 : Int, ∃ x_66 : Int, ∃ x_67 : Int, ∃ x_68 : Int, e = .returned (.agg #[.int .u64 x_64, .int .u64 x_65, .int .u64 x_66, .int .u64 x_67, .int .u64 x_68]) ∧ (
  st w5_b w5_o (.int .u64 x_59) <|
  st w5_b (w5_o + 1) (.int .u64 x_60) <|
  st w5_b ((w5_o + 1) + 1) (.int .u64 x_61) <|
  st w5_b (((w5_o + 1) + 1) + 1) (.int .u64 x_62) <|
  st w5_b ((((w5_o + 1) + 1) + 1) + 1) (.int .u64 x_63) <|
  st x6_b x6_o (.int .u64 x_64) <|
  st x6_b (x6_o + 1) (.int .u64 x_65) <|
  st x6_b ((x6_o + 1) + 1) (.int .u64 x_66) <|
  st x6_b (((x6_o + 1) + 1) + 1) (.int .u64 x_67) <|
  st x6_b ((((x6_o + 1) + 1) + 1) + 1) (.int .u64 x_68) <|
  hoardlaw19_WeighRow_l1 jn Q  m1 l0 all1 w5_b w5_o x6_b x6_o (IntKind.wrap .i64 (i7 + (1 : Int)))) w') w') := by kernel_rfl
theorem hoardlaw19_WeighRow_j2_def (Q : Value → WP) (m1 : Nat) (l0 : Sl) (all1 : Int) (w5_b : Nat) (w5_o : Nat) (x6_b : Nat) (x6_o : Nat) (i7 : Int) : hoardlaw19_WeighRow_j2 idJ Q m1 l0 all1 w5_b w5_o x6_b x6_o i7 = codeI Try.prog hoardlaw19_WeighRow_kp idJ (cAt [true, true, true, false, true, false, false, true, false, false, true] (bodyOf Try.f13)) (seqK Try.prog hoardlaw19_WeighRow_kp idJ (cAt [true, true, true, false, true, false, false, true, true] (bodyOf Try.f13)) (lopK Try.prog hoardlaw19_WeighRow_kp idJ (cAt [true, true, true, false, true, false, false] (bodyOf Try.f13)) (blkX 0 (seqK Try.prog hoardlaw19_WeighRow_kp idJ (cAt [true, true, true, true] (bodyOf Try.f13)) (retK Try.prog Try.f13 Q) noX (retK Try.prog Try.f13 Q)) noX) (retK Try.prog Try.f13 Q) m1) (blkX 0 (seqK Try.prog hoardlaw19_WeighRow_kp idJ (cAt [true, true, true, true] (bodyOf Try.f13)) (retK Try.prog Try.f13 Q) noX (retK Try.prog Try.f13 Q)) noX) (retK Try.prog Try.f13 Q)) (blkX 1 (seqK Try.prog hoardlaw19_WeighRow_kp idJ (cAt [true, true, true, false, true, false, false, true, true] (bodyOf Try.f13)) (lopK Try.prog hoardlaw19_WeighRow_kp idJ (cAt [true, true, true, false, true, false, false] (bodyOf Try.f13)) (blkX 0 (seqK Try.prog hoardlaw19_WeighRow_kp idJ (cAt [true, true, true, true] (bodyOf Try.f13)) (retK Try.prog Try.f13 Q) noX (retK Try.prog Try.f13 Q)) noX) (retK Try.prog Try.f13 Q) m1) (blkX 0 (seqK Try.prog hoardlaw19_WeighRow_kp idJ (cAt [true, true, true, true] (bodyOf Try.f13)) (retK Try.prog Try.f13 Q) noX (retK Try.prog Try.f13 Q)) noX) (retK Try.prog Try.f13 Q)) (blkX 0 (seqK Try.prog hoardlaw19_WeighRow_kp idJ (cAt [true, true, true, true] (bodyOf Try.f13)) (retK Try.prog Try.f13 Q) noX (retK Try.prog Try.f13 Q)) noX)) (retK Try.prog Try.f13 Q) ((.slice l0.a l0.n l0.c) :: (.int .i64 all1) :: us 3 ((.pointer (some ⟨w5_b, w5_o, none⟩)) :: (.pointer (some ⟨x6_b, x6_o, none⟩)) :: (.int .i64 i7) :: us 48 [])) := by kernel_rfl
theorem hoardlaw19_WeighRow_j3_raw (jn : Jn) (Q : Value → WP)  (w5_b : Nat) (w5_o : Nat) (x6_b : Nat) (x6_o : Nat) : codeI Try.prog hoardlaw19_WeighRow_kp jn (cAt [true, true, true, true] (bodyOf Try.f13)) (retK Try.prog Try.f13 Q) noX (retK Try.prog Try.f13 Q) (us 5 ((.pointer (some ⟨w5_b, w5_o, none⟩)) :: (.pointer (some ⟨x6_b, x6_o, none⟩)) :: us 49 [])) = (
  ld (.int .u64) w5_b w5_o fun x_69 =>
  ld (.int .u64) w5_b (w5_o + 1) fun x_70 =>
  ld (.int .u64) w5_b ((w5_o + 1) + 1) fun x_71 =>
  ld (.int .u64) w5_b (((w5_o + 1) + 1) + 1) fun x_72 =>
  ld (.int .u64) w5_b ((((w5_o + 1) + 1) + 1) + 1) fun x_73 =>
  ld (.int .u64) x6_b x6_o fun x_74 =>
  ld (.int .u64) x6_b (x6_o + 1) fun x_75 =>
  ld (.int .u64) x6_b ((x6_o + 1) + 1) fun x_76 =>
  ld (.int .u64) x6_b (((x6_o + 1) + 1) + 1) fun x_77 =>
  ld (.int .u64) x6_b ((((x6_o + 1) + 1) + 1) + 1) fun x_78 =>
  ite2 ((x_69 == x_74) && ((x_70 == x_75) && ((x_71 == x_76) && ((x_72 == x_77) && ((x_73 == x_78) && true))))) (
  ld (.int .u64) w5_b w5_o fun x_79 =>
  ld (.int .u64) w5_b (w5_o + 1) fun x_80 =>
  ld (.int .u64) w5_b ((w5_o + 1) + 1) fun x_81 =>
  ld (.int .u64) w5_b (((w5_o + 1) + 1) + 1) fun x_82 =>
  ld (.int .u64) w5_b ((((w5_o + 1) + 1) + 1) + 1) fun x_83 =>
  call1 .bool Try.prog id_weigh_Is [.agg #[.int .u64 x_79, .int .u64 x_80, .int .u64 x_81, .int .u64 x_82, .int .u64 x_83]] fun x_84 =>
  ite2 x_84 (
  call1 .bool Try.prog id_hoardlaw19_known [] fun x_85 =>
  Q (.bool x_85)) (
  Q (.bool false))) (
  Q (.bool false))) := by kernel_rfl
theorem hoardlaw19_WeighRow_j3_def (Q : Value → WP)  (w5_b : Nat) (w5_o : Nat) (x6_b : Nat) (x6_o : Nat) : hoardlaw19_WeighRow_j3 idJ Q  w5_b w5_o x6_b x6_o = codeI Try.prog hoardlaw19_WeighRow_kp idJ (cAt [true, true, true, true] (bodyOf Try.f13)) (retK Try.prog Try.f13 Q) noX (retK Try.prog Try.f13 Q) (us 5 ((.pointer (some ⟨w5_b, w5_o, none⟩)) :: (.pointer (some ⟨x6_b, x6_o, none⟩)) :: us 49 [])) := by kernel_rfl
theorem hoardlaw19_WeighRow_l1_raw (jn : Jn) (Q : Value → WP)  (m1 : Nat) (l0 : Sl) (all1 : Int) (w5_b : Nat) (w5_o : Nat) (x6_b : Nat) (x6_o : Nat) (i7 : Int) : hoardlaw19_WeighRow_l1 jn Q  (m1 + 1) l0 all1 w5_b w5_o x6_b x6_o i7 = (
  ite2 (decide (i7 < (l0.n : Int))) (
  ld (.int .u64) w5_b w5_o fun x_13 =>
  ld (.int .u64) w5_b (w5_o + 1) fun x_14 =>
  ld (.int .u64) w5_b ((w5_o + 1) + 1) fun x_15 =>
  ld (.int .u64) w5_b (((w5_o + 1) + 1) + 1) fun x_16 =>
  ld (.int .u64) w5_b ((((w5_o + 1) + 1) + 1) + 1) fun x_17 =>
  ld (.int .u64) x6_b x6_o fun x_18 =>
  ld (.int .u64) x6_b (x6_o + 1) fun x_19 =>
  ld (.int .u64) x6_b ((x6_o + 1) + 1) fun x_20 =>
  ld (.int .u64) x6_b (((x6_o + 1) + 1) + 1) fun x_21 =>
  ld (.int .u64) x6_b ((((x6_o + 1) + 1) + 1) + 1) fun x_22 =>
  ite2 (!((x_13 == x_18) && ((x_14 == x_19) && ((x_15 == x_20) && ((x_16 == x_21) && ((x_17 == x_22) && true)))))) (
  Q (.bool false)) (
  ld (.int .u64) w5_b w5_o fun x_23 =>
  ld (.int .u64) w5_b (w5_o + 1) fun x_24 =>
  ld (.int .u64) w5_b ((w5_o + 1) + 1) fun x_25 =>
  ld (.int .u64) w5_b (((w5_o + 1) + 1) + 1) fun x_26 =>
  ld (.int .u64) w5_b ((((w5_o + 1) + 1) + 1) + 1) fun x_27 =>
  call1 .bool Try.prog id_weigh_Is [.agg #[.int .u64 x_23, .int .u64 x_24, .int .u64 x_25, .int .u64 x_26, .int .u64 x_27]] fun x_28 =>
  ite2 (!x_28) (
  Q (.bool false)) (
  ld (.int .u64) w5_b w5_o fun x_29 =>
  ld (.int .u64) w5_b (w5_o + 1) fun x_30 =>
  ld (.int .u64) w5_b ((w5_o + 1) + 1) fun x_31 =>
  ld (.int .u64) w5_b (((w5_o + 1) + 1) + 1) fun x_32 =>
  ld (.int .u64) w5_b ((((w5_o + 1) + 1) + 1) + 1) fun x_33 =>
  call1 (.int .u64) Try.prog id_weigh_Sum [.agg #[.int .u64 x_29, .int .u64 x_30, .int .u64 x_31, .int .u64 x_32, .int .u64 x_33]] fun x_34 =>
  ite2 (x_34 != (4294967296 : Int)) (
  Q (.bool false)) (
  hoardlaw19_WeighRow_j2 jn Q m1 l0 all1 w5_b w5_o x6_b x6_o i7)))) (
  hoardlaw19_WeighRow_j3 jn Q  w5_b w5_o x6_b x6_o)) := by kernel_rfl
theorem hoardlaw19_WeighRow_l1_zero (jn : Jn) (Q : Value → WP)  (l0 : Sl) (all1 : Int) (w5_b : Nat) (w5_o : Nat) (x6_b : Nat) (x6_o : Nat) (i7 : Int) : hoardlaw19_WeighRow_l1 jn Q  0 l0 all1 w5_b w5_o x6_b x6_o i7 = bot := by kernel_rfl
theorem hoardlaw19_WeighRow_raw (jn : Jn) (l0 : Sl) (all1 : Int) (Q : Value → WP) : funJ jn Try.prog hoardlaw19_WeighRow_kp Try.f13 [.slice l0.a l0.n l0.c, .int .i64 all1] Q = (
  ite2 (decide ((l0.n : Int) > (200 : Int))) (
  Q (.bool true)) (
  fun w => Calls Try.prog id_weigh_Start #[] w fun e w' => ∃ x_1 : Int, ∃ x_2 : Int, ∃ x_3 : Int, ∃ x_4 : Int, ∃ x_5 : Int, e = .returned (.agg #[.int .u64 x_1, .int .u64 x_2, .int .u64 x_3, .int .u64 x_4, .int .u64 x_5]) ∧ (
  fun w => Calls Try.prog id_hoardref19_Start #[] w fun e w' => ∃ x_6 : Int, ∃ x_7 : Int, ∃ x_8 : Int, ∃ x_9 : Int, ∃ x_10 : Int, e = .returned (.agg #[.int .u64 x_6, .int .u64 x_7, .int .u64 x_8, .int .u64 x_9, .int .u64 x_10]) ∧ (
  newB [.int .u64 (0 : Int), .int .u64 (0 : Int), .int .u64 (0 : Int), .int .u64 (0 : Int), .int .u64 (0 : Int)] ty_weigh_Weights fun b_11 =>
  newB [.int .u64 (0 : Int), .int .u64 (0 : Int), .int .u64 (0 : Int), .int .u64 (0 : Int), .int .u64 (0 : Int)] ty_hoardref19_Weights fun b_12 =>
  st b_11 0 (.int .u64 x_1) <|
  st b_11 1 (.int .u64 x_2) <|
  st b_11 2 (.int .u64 x_3) <|
  st b_11 3 (.int .u64 x_4) <|
  st b_11 4 (.int .u64 x_5) <|
  st b_12 0 (.int .u64 x_6) <|
  st b_12 1 (.int .u64 x_7) <|
  st b_12 2 (.int .u64 x_8) <|
  st b_12 3 (.int .u64 x_9) <|
  st b_12 4 (.int .u64 x_10) <|
  exM fun m => hoardlaw19_WeighRow_l1 jn Q  m l0 all1 b_11 0 b_12 0 (0 : Int)) w') w')) := by kernel_rfl
theorem hoardlaw19_WeighRow_def (l0 : Sl) (all1 : Int) (Q : Value → WP) : hoardlaw19_WeighRow l0 all1 Q = funJ idJ Try.prog hoardlaw19_WeighRow_kp Try.f13 [.slice l0.a l0.n l0.c, .int .i64 all1] Q := rfl
theorem hoardlaw19_WeighRow_calls {l0 : Sl} {all1 : Int} {Q : Value → WP} {w : World} (h : hoardlaw19_WeighRow l0 all1 Q w) : Calls Try.prog id_hoardlaw19_WeighRow #[.slice l0.a l0.n l0.c, .int .i64 all1] w fun e w' => ∃ v, e = .returned v ∧ Q v w' :=
  funJ_calls mixed Try.func13 rfl h

-- hoard/hoardlaw19.WeighPicks
def hoardlaw19_WeighPicks_kp : KP := ⟨[(13, [0, 1, 5, 6]), (18, [1, 5]), (24, [1, 5, 7]), (29, [1, 5, 7, 8, 9]), (34, [1, 5, 7, 8])], [(7, [0, 1, 2, 3])]⟩
def hoardlaw19_WeighPicks_j5 (jn : Jn) (Q : Value → WP)  (draw1 : Int) (w5_b : Nat) (w5_o : Nat) (p7 : Int) (low8 : Int) : WP := jn 34 (fun ρ => codeI Try.prog hoardlaw19_WeighPicks_kp jn (cAt [true, true, true, true, true, true, true, true] (bodyOf Try.f14)) (retK Try.prog Try.f14 Q) noX (retK Try.prog Try.f14 Q) ρ) (us 1 ((.int .u32 draw1) :: us 3 ((.pointer (some ⟨w5_b, w5_o, none⟩)) :: us 1 ((.int .i64 p7) :: (.int .u64 low8) :: us 53 []))))
def hoardlaw19_WeighPicks_l4 (jn : Jn) (Q : Value → WP)  (m4 : Nat) (draw1 : Int) (w5_b : Nat) (w5_o : Nat) (p7 : Int) (low8 : Int) (i9 : Int) : WP := lop Try.prog hoardlaw19_WeighPicks_kp jn (cAt [true, true, true, true, true, true, true, false, true, false, false] (bodyOf Try.f14)) (blkX 2 (seqK Try.prog hoardlaw19_WeighPicks_kp jn (cAt [true, true, true, true, true, true, true, true] (bodyOf Try.f14)) (retK Try.prog Try.f14 Q) noX (retK Try.prog Try.f14 Q)) noX) (retK Try.prog Try.f14 Q) m4 (us 1 ((.int .u32 draw1) :: us 3 ((.pointer (some ⟨w5_b, w5_o, none⟩)) :: us 1 ((.int .i64 p7) :: (.int .u64 low8) :: (.int .i64 i9) :: us 52 []))))
def hoardlaw19_WeighPicks_j3 (jn : Jn) (Q : Value → WP)  (draw1 : Int) (w5_b : Nat) (w5_o : Nat) (p7 : Int) : WP := jn 24 (fun ρ => codeI Try.prog hoardlaw19_WeighPicks_kp jn (cAt [true, true, true, true, true, true] (bodyOf Try.f14)) (retK Try.prog Try.f14 Q) noX (retK Try.prog Try.f14 Q) ρ) (us 1 ((.int .u32 draw1) :: us 3 ((.pointer (some ⟨w5_b, w5_o, none⟩)) :: us 1 ((.int .i64 p7) :: us 54 []))))
def hoardlaw19_WeighPicks_j2 (jn : Jn) (Q : Value → WP)  (draw1 : Int) (w5_b : Nat) (w5_o : Nat) : WP := jn 18 (fun ρ => codeI Try.prog hoardlaw19_WeighPicks_kp jn (cAt [true, true, true, true] (bodyOf Try.f14)) (retK Try.prog Try.f14 Q) noX (retK Try.prog Try.f14 Q) ρ) (us 1 ((.int .u32 draw1) :: us 3 ((.pointer (some ⟨w5_b, w5_o, none⟩)) :: us 56 [])))
def hoardlaw19_WeighPicks_l1 (jn : Jn) (Q : Value → WP)  (m1 : Nat) (l0 : Sl) (draw1 : Int) (w5_b : Nat) (w5_o : Nat) (i6 : Int) : WP := lop Try.prog hoardlaw19_WeighPicks_kp jn (cAt [true, true, true, false, true, false, false] (bodyOf Try.f14)) (blkX 0 (seqK Try.prog hoardlaw19_WeighPicks_kp jn (cAt [true, true, true, true] (bodyOf Try.f14)) (retK Try.prog Try.f14 Q) noX (retK Try.prog Try.f14 Q)) noX) (retK Try.prog Try.f14 Q) m1 ((.slice l0.a l0.n l0.c) :: (.int .u32 draw1) :: us 3 ((.pointer (some ⟨w5_b, w5_o, none⟩)) :: (.int .i64 i6) :: us 55 []))
def hoardlaw19_WeighPicks (l0 : Sl) (draw1 : Int) (Q : Value → WP) : WP := funJ idJ Try.prog hoardlaw19_WeighPicks_kp Try.f14 [.slice l0.a l0.n l0.c, .int .u32 draw1] Q
theorem hoardlaw19_WeighPicks_j5_raw (jn : Jn) (Q : Value → WP)  (draw1 : Int) (w5_b : Nat) (w5_o : Nat) (p7 : Int) (low8 : Int) : codeI Try.prog hoardlaw19_WeighPicks_kp jn (cAt [true, true, true, true, true, true, true, true] (bodyOf Try.f14)) (retK Try.prog Try.f14 Q) noX (retK Try.prog Try.f14 Q) (us 1 ((.int .u32 draw1) :: us 3 ((.pointer (some ⟨w5_b, w5_o, none⟩)) :: us 1 ((.int .i64 p7) :: (.int .u64 low8) :: us 53 [])))) = (
  ite2 (decide ((IntKind.wrap .u64 draw1) ≥ low8)) (
  when ((0 : Int) ≤ p7 ∧ p7 < ((5 : Nat) : Int)) <|
  ld (.int .u64) w5_b (w5_o + (p7).toNat * 1) fun x_31 =>
  ite2 (decide ((IntKind.wrap .u64 draw1) < (IntKind.wrap .u64 (low8 + x_31)))) (
  call1 .bool Try.prog id_hoardlaw19_known [] fun x_32 =>
  Q (.bool x_32)) (
  Q (.bool false))) (
  Q (.bool false))) := by kernel_rfl
theorem hoardlaw19_WeighPicks_j5_def (Q : Value → WP)  (draw1 : Int) (w5_b : Nat) (w5_o : Nat) (p7 : Int) (low8 : Int) : hoardlaw19_WeighPicks_j5 idJ Q  draw1 w5_b w5_o p7 low8 = codeI Try.prog hoardlaw19_WeighPicks_kp idJ (cAt [true, true, true, true, true, true, true, true] (bodyOf Try.f14)) (retK Try.prog Try.f14 Q) noX (retK Try.prog Try.f14 Q) (us 1 ((.int .u32 draw1) :: us 3 ((.pointer (some ⟨w5_b, w5_o, none⟩)) :: us 1 ((.int .i64 p7) :: (.int .u64 low8) :: us 53 [])))) := by kernel_rfl
theorem hoardlaw19_WeighPicks_l4_raw (jn : Jn) (Q : Value → WP)  (m4 : Nat) (draw1 : Int) (w5_b : Nat) (w5_o : Nat) (p7 : Int) (low8 : Int) (i9 : Int) : hoardlaw19_WeighPicks_l4 jn Q  (m4 + 1) draw1 w5_b w5_o p7 low8 i9 = (
  ite2 (decide (i9 < p7)) (
  when ((0 : Int) ≤ i9 ∧ i9 < ((5 : Nat) : Int)) <|
  ld (.int .u64) w5_b (w5_o + (i9).toNat * 1) fun x_30 =>
  hoardlaw19_WeighPicks_l4 jn Q  m4 draw1 w5_b w5_o p7 (IntKind.wrap .u64 (low8 + x_30)) (IntKind.wrap .i64 (i9 + (1 : Int)))) (
  hoardlaw19_WeighPicks_j5 jn Q  draw1 w5_b w5_o p7 low8)) := by kernel_rfl
theorem hoardlaw19_WeighPicks_l4_zero (jn : Jn) (Q : Value → WP)  (draw1 : Int) (w5_b : Nat) (w5_o : Nat) (p7 : Int) (low8 : Int) (i9 : Int) : hoardlaw19_WeighPicks_l4 jn Q  0 draw1 w5_b w5_o p7 low8 i9 = bot := by kernel_rfl
theorem hoardlaw19_WeighPicks_j3_raw (jn : Jn) (Q : Value → WP)  (draw1 : Int) (w5_b : Nat) (w5_o : Nat) (p7 : Int) : codeI Try.prog hoardlaw19_WeighPicks_kp jn (cAt [true, true, true, true, true, true] (bodyOf Try.f14)) (retK Try.prog Try.f14 Q) noX (retK Try.prog Try.f14 Q) (us 1 ((.int .u32 draw1) :: us 3 ((.pointer (some ⟨w5_b, w5_o, none⟩)) :: us 1 ((.int .i64 p7) :: us 54 [])))) = (
  exM fun m => hoardlaw19_WeighPicks_l4 jn Q  m draw1 w5_b w5_o p7 (0 : Int) (0 : Int)) := by kernel_rfl
theorem hoardlaw19_WeighPicks_j3_def (Q : Value → WP)  (draw1 : Int) (w5_b : Nat) (w5_o : Nat) (p7 : Int) : hoardlaw19_WeighPicks_j3 idJ Q  draw1 w5_b w5_o p7 = codeI Try.prog hoardlaw19_WeighPicks_kp idJ (cAt [true, true, true, true, true, true] (bodyOf Try.f14)) (retK Try.prog Try.f14 Q) noX (retK Try.prog Try.f14 Q) (us 1 ((.int .u32 draw1) :: us 3 ((.pointer (some ⟨w5_b, w5_o, none⟩)) :: us 1 ((.int .i64 p7) :: us 54 [])))) := by kernel_rfl
theorem hoardlaw19_WeighPicks_j2_raw (jn : Jn) (Q : Value → WP)  (draw1 : Int) (w5_b : Nat) (w5_o : Nat) : codeI Try.prog hoardlaw19_WeighPicks_kp jn (cAt [true, true, true, true] (bodyOf Try.f14)) (retK Try.prog Try.f14 Q) noX (retK Try.prog Try.f14 Q) (us 1 ((.int .u32 draw1) :: us 3 ((.pointer (some ⟨w5_b, w5_o, none⟩)) :: us 56 []))) = (
  ld (.int .u64) w5_b w5_o fun x_24 =>
  ld (.int .u64) w5_b (w5_o + 1) fun x_25 =>
  ld (.int .u64) w5_b ((w5_o + 1) + 1) fun x_26 =>
  ld (.int .u64) w5_b (((w5_o + 1) + 1) + 1) fun x_27 =>
  ld (.int .u64) w5_b ((((w5_o + 1) + 1) + 1) + 1) fun x_28 =>
  call1 (.int .i64) Try.prog id_weigh_Pick [.agg #[.int .u64 x_24, .int .u64 x_25, .int .u64 x_26, .int .u64 x_27, .int .u64 x_28], .int .u32 draw1] fun x_29 =>
  ite2 (decide (x_29 < (0 : Int))) (
  Q (.bool false)) (
  ite2 (decide (x_29 ≥ (5 : Int))) (
  Q (.bool false)) (
  hoardlaw19_WeighPicks_j3 jn Q  draw1 w5_b w5_o x_29))) := by kernel_rfl
theorem hoardlaw19_WeighPicks_j2_def (Q : Value → WP)  (draw1 : Int) (w5_b : Nat) (w5_o : Nat) : hoardlaw19_WeighPicks_j2 idJ Q  draw1 w5_b w5_o = codeI Try.prog hoardlaw19_WeighPicks_kp idJ (cAt [true, true, true, true] (bodyOf Try.f14)) (retK Try.prog Try.f14 Q) noX (retK Try.prog Try.f14 Q) (us 1 ((.int .u32 draw1) :: us 3 ((.pointer (some ⟨w5_b, w5_o, none⟩)) :: us 56 []))) := by kernel_rfl
theorem hoardlaw19_WeighPicks_l1_raw (jn : Jn) (Q : Value → WP)  (m1 : Nat) (l0 : Sl) (draw1 : Int) (w5_b : Nat) (w5_o : Nat) (i6 : Int) : hoardlaw19_WeighPicks_l1 jn Q  (m1 + 1) l0 draw1 w5_b w5_o i6 = (
  ite2 (decide (i6 < (l0.n : Int))) (
  drawW fun S =>
  ldS S (.int .u64) w5_b w5_o fun x_7 =>
  ldS S (.int .u64) w5_b (w5_o + 1) fun x_8 =>
  ldS S (.int .u64) w5_b ((w5_o + 1) + 1) fun x_9 =>
  ldS S (.int .u64) w5_b (((w5_o + 1) + 1) + 1) fun x_10 =>
  ldS S (.int .u64) w5_b ((((w5_o + 1) + 1) + 1) + 1) fun x_11 =>
  idx l0.a l0.n i6 fun b_12 o_13 =>
  ld (.int .i64) b_12 (o_13 + (i6).toNat * 5) fun x_14 =>
  ld (.int .i64) b_12 ((o_13 + (i6).toNat * 5) + 1) fun x_15 =>
  ld (.int .i64) b_12 (((o_13 + (i6).toNat * 5) + 1) + 1) fun x_16 =>
  ld (.int .i64) b_12 ((((o_13 + (i6).toNat * 5) + 1) + 1) + 1) fun x_17 =>
  ld (.int .i64) b_12 (((((o_13 + (i6).toNat * 5) + 1) + 1) + 1) + 1) fun x_18 =>
  keepS true S <|
  fun w => Calls Try.prog id_weigh_Next #[.agg #[.int .u64 x_7, .int .u64 x_8, .int .u64 x_9, .int .u64 x_10, .int .u64 x_11], .agg #[.int .i64 x_14, .int .i64 x_15, .int .i64 x_16, .int .i64 x_17, .int .i64 x_18], .int .i64 (100 : Int)] w fun e w' => ∃ x_19 : Int, ∃ x_20 : Int, ∃ x_21 : Int, ∃ x_22 : Int, ∃ x_23 : Int, e = .returned (.agg #[.int .u64 x_19, .int .u64 x_20, .int .u64 x_21, .int .u64 x_22, .int .u64 x_23]) ∧ (
  st w5_b w5_o (.int .u64 x_19) <|
  st w5_b (w5_o + 1) (.int .u64 x_20) <|
  st w5_b ((w5_o + 1) + 1) (.int .u64 x_21) <|
  st w5_b (((w5_o + 1) + 1) + 1) (.int .u64 x_22) <|
  st w5_b ((((w5_o + 1) + 1) + 1) + 1) (.int .u64 x_23) <|
  hoardlaw19_WeighPicks_l1 jn Q  m1 l0 draw1 w5_b w5_o (IntKind.wrap .i64 (i6 + (1 : Int)))) w') (
  hoardlaw19_WeighPicks_j2 jn Q  draw1 w5_b w5_o)) := by kernel_rfl
theorem hoardlaw19_WeighPicks_l1_zero (jn : Jn) (Q : Value → WP)  (l0 : Sl) (draw1 : Int) (w5_b : Nat) (w5_o : Nat) (i6 : Int) : hoardlaw19_WeighPicks_l1 jn Q  0 l0 draw1 w5_b w5_o i6 = bot := by kernel_rfl
theorem hoardlaw19_WeighPicks_raw (jn : Jn) (l0 : Sl) (draw1 : Int) (Q : Value → WP) : funJ jn Try.prog hoardlaw19_WeighPicks_kp Try.f14 [.slice l0.a l0.n l0.c, .int .u32 draw1] Q = (
  ite2 (decide ((l0.n : Int) > (50 : Int))) (
  Q (.bool true)) (
  fun w => Calls Try.prog id_weigh_Start #[] w fun e w' => ∃ x_1 : Int, ∃ x_2 : Int, ∃ x_3 : Int, ∃ x_4 : Int, ∃ x_5 : Int, e = .returned (.agg #[.int .u64 x_1, .int .u64 x_2, .int .u64 x_3, .int .u64 x_4, .int .u64 x_5]) ∧ (
  newB [.int .u64 (0 : Int), .int .u64 (0 : Int), .int .u64 (0 : Int), .int .u64 (0 : Int), .int .u64 (0 : Int)] ty_weigh_Weights fun b_6 =>
  st b_6 0 (.int .u64 x_1) <|
  st b_6 1 (.int .u64 x_2) <|
  st b_6 2 (.int .u64 x_3) <|
  st b_6 3 (.int .u64 x_4) <|
  st b_6 4 (.int .u64 x_5) <|
  exM fun m => hoardlaw19_WeighPicks_l1 jn Q  m l0 draw1 b_6 0 (0 : Int)) w')) := by kernel_rfl
theorem hoardlaw19_WeighPicks_def (l0 : Sl) (draw1 : Int) (Q : Value → WP) : hoardlaw19_WeighPicks l0 draw1 Q = funJ idJ Try.prog hoardlaw19_WeighPicks_kp Try.f14 [.slice l0.a l0.n l0.c, .int .u32 draw1] Q := rfl
theorem hoardlaw19_WeighPicks_calls {l0 : Sl} {draw1 : Int} {Q : Value → WP} {w : World} (h : hoardlaw19_WeighPicks l0 draw1 Q w) : Calls Try.prog id_hoardlaw19_WeighPicks #[.slice l0.a l0.n l0.c, .int .u32 draw1] w fun e w' => ∃ v, e = .returned v ∧ Q v w' :=
  funJ_calls mixed Try.func14 rfl h

-- hoard/hoardlaw19.WeighAlike
def hoardlaw19_WeighAlike_kp : KP := ⟨[(8, [0, 1]), (13, [5, 6]), (20, [5])], [(7, [0, 1, 2, 3, 5])]⟩
def hoardlaw19_WeighAlike_j3 (jn : Jn) (Q : Value → WP)  (w5_b : Nat) (w5_o : Nat) : WP := jn 20 (fun ρ => codeI Try.prog hoardlaw19_WeighAlike_kp jn (cAt [true, true, true, true] (bodyOf Try.f15)) (retK Try.prog Try.f15 Q) noX (retK Try.prog Try.f15 Q) ρ) (us 5 ((.pointer (some ⟨w5_b, w5_o, none⟩)) :: us 51 []))
def hoardlaw19_WeighAlike_l2 (jn : Jn) (Q : Value → WP)  (m2 : Nat) (w5_b : Nat) (w5_o : Nat) (i6 : Int) : WP := lop Try.prog hoardlaw19_WeighAlike_kp jn (cAt [true, true, true, false, true, false, false] (bodyOf Try.f15)) (blkX 0 (seqK Try.prog hoardlaw19_WeighAlike_kp jn (cAt [true, true, true, true] (bodyOf Try.f15)) (retK Try.prog Try.f15 Q) noX (retK Try.prog Try.f15 Q)) noX) (retK Try.prog Try.f15 Q) m2 (us 5 ((.pointer (some ⟨w5_b, w5_o, none⟩)) :: (.int .i64 i6) :: us 50 []))
def hoardlaw19_WeighAlike_j1 (jn : Jn) (Q : Value → WP)  (n0 : Int) (all1 : Int) : WP := jn 8 (fun ρ => codeI Try.prog hoardlaw19_WeighAlike_kp jn (cAt [true, true] (bodyOf Try.f15)) (retK Try.prog Try.f15 Q) noX (retK Try.prog Try.f15 Q) ρ) ((.int .i64 n0) :: (.int .i64 all1) :: us 55 [])
def hoardlaw19_WeighAlike (n0 : Int) (all1 : Int) (Q : Value → WP) : WP := funJ idJ Try.prog hoardlaw19_WeighAlike_kp Try.f15 [.int .i64 n0, .int .i64 all1] Q
theorem hoardlaw19_WeighAlike_j3_raw (jn : Jn) (Q : Value → WP)  (w5_b : Nat) (w5_o : Nat) : codeI Try.prog hoardlaw19_WeighAlike_kp jn (cAt [true, true, true, true] (bodyOf Try.f15)) (retK Try.prog Try.f15 Q) noX (retK Try.prog Try.f15 Q) (us 5 ((.pointer (some ⟨w5_b, w5_o, none⟩)) :: us 51 [])) = (
  when ((0 : Int) ≤ (0 : Int) ∧ (0 : Int) < ((5 : Nat) : Int)) <|
  ld (.int .u64) w5_b (w5_o + ((0 : Int)).toNat * 1) fun x_18 =>
  when ((0 : Int) ≤ (1 : Int) ∧ (1 : Int) < ((5 : Nat) : Int)) <|
  ld (.int .u64) w5_b (w5_o + ((1 : Int)).toNat * 1) fun x_19 =>
  ite2 (decide (x_18 ≥ x_19)) (
  when ((0 : Int) ≤ (0 : Int) ∧ (0 : Int) < ((5 : Nat) : Int)) <|
  ld (.int .u64) w5_b (w5_o + ((0 : Int)).toNat * 1) fun x_20 =>
  when ((0 : Int) ≤ (1 : Int) ∧ (1 : Int) < ((5 : Nat) : Int)) <|
  ld (.int .u64) w5_b (w5_o + ((1 : Int)).toNat * 1) fun x_21 =>
  ite2 (decide ((IntKind.wrap .u64 (x_20 - x_21)) ≤ (12 : Int))) (
  call1 .bool Try.prog id_hoardlaw19_known [] fun x_22 =>
  Q (.bool x_22)) (
  Q (.bool false))) (
  Q (.bool false))) := by kernel_rfl
theorem hoardlaw19_WeighAlike_j3_def (Q : Value → WP)  (w5_b : Nat) (w5_o : Nat) : hoardlaw19_WeighAlike_j3 idJ Q  w5_b w5_o = codeI Try.prog hoardlaw19_WeighAlike_kp idJ (cAt [true, true, true, true] (bodyOf Try.f15)) (retK Try.prog Try.f15 Q) noX (retK Try.prog Try.f15 Q) (us 5 ((.pointer (some ⟨w5_b, w5_o, none⟩)) :: us 51 [])) := by kernel_rfl
theorem hoardlaw19_WeighAlike_l2_raw (jn : Jn) (Q : Value → WP)  (m2 : Nat) (w5_b : Nat) (w5_o : Nat) (i6 : Int) : hoardlaw19_WeighAlike_l2 jn Q  (m2 + 1) w5_b w5_o i6 = (
  ite2 (decide (i6 < (5 : Int))) (
  drawW fun S =>
  when ((0 : Int) ≤ i6 ∧ i6 < ((5 : Nat) : Int)) <|
  ldS S (.int .u64) w5_b (w5_o + (i6).toNat * 1) fun x_16 =>
  when ((0 : Int) ≤ (1 : Int) ∧ (1 : Int) < ((5 : Nat) : Int)) <|
  ld (.int .u64) w5_b (w5_o + ((1 : Int)).toNat * 1) fun x_17 =>
  keepS true S <|
  ite2 (x_16 != x_17) (
  Q (.bool false)) (
  hoardlaw19_WeighAlike_l2 jn Q  m2 w5_b w5_o (IntKind.wrap .i64 (i6 + (1 : Int))))) (
  hoardlaw19_WeighAlike_j3 jn Q  w5_b w5_o)) := by kernel_rfl
theorem hoardlaw19_WeighAlike_l2_zero (jn : Jn) (Q : Value → WP)  (w5_b : Nat) (w5_o : Nat) (i6 : Int) : hoardlaw19_WeighAlike_l2 jn Q  0 w5_b w5_o i6 = bot := by kernel_rfl
theorem hoardlaw19_WeighAlike_j1_raw (jn : Jn) (Q : Value → WP)  (n0 : Int) (all1 : Int) : codeI Try.prog hoardlaw19_WeighAlike_kp jn (cAt [true, true] (bodyOf Try.f15)) (retK Try.prog Try.f15 Q) noX (retK Try.prog Try.f15 Q) ((.int .i64 n0) :: (.int .i64 all1) :: us 55 []) = (
  fun w => Calls Try.prog id_weigh_Start #[] w fun e w' => ∃ x_5 : Int, ∃ x_6 : Int, ∃ x_7 : Int, ∃ x_8 : Int, ∃ x_9 : Int, e = .returned (.agg #[.int .u64 x_5, .int .u64 x_6, .int .u64 x_7, .int .u64 x_8, .int .u64 x_9]) ∧ (
  fun w => Calls Try.prog id_weigh_Next #[.agg #[.int .u64 x_5, .int .u64 x_6, .int .u64 x_7, .int .u64 x_8, .int .u64 x_9], .agg #[.int .i64 n0, .int .i64 n0, .int .i64 n0, .int .i64 n0, .int .i64 n0], .int .i64 all1] w fun e w' => ∃ x_10 : Int, ∃ x_11 : Int, ∃ x_12 : Int, ∃ x_13 : Int, ∃ x_14 : Int, e = .returned (.agg #[.int .u64 x_10, .int .u64 x_11, .int .u64 x_12, .int .u64 x_13, .int .u64 x_14]) ∧ (
  newB [.int .u64 (0 : Int), .int .u64 (0 : Int), .int .u64 (0 : Int), .int .u64 (0 : Int), .int .u64 (0 : Int)] ty_weigh_Weights fun b_15 =>
  st b_15 0 (.int .u64 x_10) <|
  st b_15 1 (.int .u64 x_11) <|
  st b_15 2 (.int .u64 x_12) <|
  st b_15 3 (.int .u64 x_13) <|
  st b_15 4 (.int .u64 x_14) <|
  exM fun m => hoardlaw19_WeighAlike_l2 jn Q  m b_15 0 (2 : Int)) w') w') := by kernel_rfl
theorem hoardlaw19_WeighAlike_j1_def (Q : Value → WP)  (n0 : Int) (all1 : Int) : hoardlaw19_WeighAlike_j1 idJ Q  n0 all1 = codeI Try.prog hoardlaw19_WeighAlike_kp idJ (cAt [true, true] (bodyOf Try.f15)) (retK Try.prog Try.f15 Q) noX (retK Try.prog Try.f15 Q) ((.int .i64 n0) :: (.int .i64 all1) :: us 55 []) := by kernel_rfl
theorem hoardlaw19_WeighAlike_raw (jn : Jn) (n0 : Int) (all1 : Int) (Q : Value → WP) : funJ jn Try.prog hoardlaw19_WeighAlike_kp Try.f15 [.int .i64 n0, .int .i64 all1] Q = (
  ite2 (decide (n0 < (0 : Int))) (
  call1 .bool Try.prog id_hoardlaw19_known [] fun x_1 =>
  Q (.bool x_1)) (
  ite2 (decide (n0 > (1000 : Int))) (
  call1 .bool Try.prog id_hoardlaw19_known [] fun x_2 =>
  Q (.bool x_2)) (
  ite2 (decide (all1 < (0 : Int))) (
  call1 .bool Try.prog id_hoardlaw19_known [] fun x_3 =>
  Q (.bool x_3)) (
  ite2 (decide (all1 > (100000 : Int))) (
  call1 .bool Try.prog id_hoardlaw19_known [] fun x_4 =>
  Q (.bool x_4)) (
  hoardlaw19_WeighAlike_j1 jn Q  n0 all1))))) := by kernel_rfl
theorem hoardlaw19_WeighAlike_def (n0 : Int) (all1 : Int) (Q : Value → WP) : hoardlaw19_WeighAlike n0 all1 Q = funJ idJ Try.prog hoardlaw19_WeighAlike_kp Try.f15 [.int .i64 n0, .int .i64 all1] Q := rfl
theorem hoardlaw19_WeighAlike_calls {n0 : Int} {all1 : Int} {Q : Value → WP} {w : World} (h : hoardlaw19_WeighAlike n0 all1 Q w) : Calls Try.prog id_hoardlaw19_WeighAlike #[.int .i64 n0, .int .i64 all1] w fun e w' => ∃ v, e = .returned v ∧ Q v w' :=
  funJ_calls mixed Try.func15 rfl h

-- hoard/hoardlaw19.WeighLoses
def hoardlaw19_WeighLoses_kp : KP := ⟨[(8, [0, 1]), (13, [0, 1, 5, 6]), (22, [0, 5])], []⟩
def hoardlaw19_WeighLoses_j3 (jn : Jn) (Q : Value → WP)  (kind0 : Int) (w5_b : Nat) (w5_o : Nat) : WP := jn 22 (fun ρ => codeI Try.prog hoardlaw19_WeighLoses_kp jn (cAt [true, true, true, true] (bodyOf Try.f16)) (retK Try.prog Try.f16 Q) noX (retK Try.prog Try.f16 Q) ρ) ((.int .i64 kind0) :: us 4 ((.pointer (some ⟨w5_b, w5_o, none⟩)) :: us 35 []))
def hoardlaw19_WeighLoses_l2 (jn : Jn) (Q : Value → WP)  (m2 : Nat) (kind0 : Int) (epochs1 : Int) (w5_b : Nat) (w5_o : Nat) (i6 : Int) : WP := lop Try.prog hoardlaw19_WeighLoses_kp jn (cAt [true, true, true, false, true, false, false] (bodyOf Try.f16)) (blkX 0 (seqK Try.prog hoardlaw19_WeighLoses_kp jn (cAt [true, true, true, true] (bodyOf Try.f16)) (retK Try.prog Try.f16 Q) noX (retK Try.prog Try.f16 Q)) noX) (retK Try.prog Try.f16 Q) m2 ((.int .i64 kind0) :: (.int .i64 epochs1) :: us 3 ((.pointer (some ⟨w5_b, w5_o, none⟩)) :: (.int .i64 i6) :: us 34 []))
def hoardlaw19_WeighLoses_j1 (jn : Jn) (Q : Value → WP)  (kind0 : Int) (epochs1 : Int) : WP := jn 8 (fun ρ => codeI Try.prog hoardlaw19_WeighLoses_kp jn (cAt [true, true] (bodyOf Try.f16)) (retK Try.prog Try.f16 Q) noX (retK Try.prog Try.f16 Q) ρ) ((.int .i64 kind0) :: (.int .i64 epochs1) :: us 39 [])
def hoardlaw19_WeighLoses (kind0 : Int) (epochs1 : Int) (Q : Value → WP) : WP := funJ idJ Try.prog hoardlaw19_WeighLoses_kp Try.f16 [.int .i64 kind0, .int .i64 epochs1] Q
theorem hoardlaw19_WeighLoses_j3_raw (jn : Jn) (Q : Value → WP)  (kind0 : Int) (w5_b : Nat) (w5_o : Nat) : codeI Try.prog hoardlaw19_WeighLoses_kp jn (cAt [true, true, true, true] (bodyOf Try.f16)) (retK Try.prog Try.f16 Q) noX (retK Try.prog Try.f16 Q) ((.int .i64 kind0) :: us 4 ((.pointer (some ⟨w5_b, w5_o, none⟩)) :: us 35 [])) = (
  when ((0 : Int) ≤ kind0 ∧ kind0 < ((5 : Nat) : Int)) <|
  ld (.int .u64) w5_b (w5_o + (kind0).toNat * 1) fun x_27 =>
  ite2 (x_27 == (42949672 : Int)) (
  call1 .bool Try.prog id_hoardlaw19_known [] fun x_28 =>
  Q (.bool x_28)) (
  Q (.bool false))) := by kernel_rfl
theorem hoardlaw19_WeighLoses_j3_def (Q : Value → WP)  (kind0 : Int) (w5_b : Nat) (w5_o : Nat) : hoardlaw19_WeighLoses_j3 idJ Q  kind0 w5_b w5_o = codeI Try.prog hoardlaw19_WeighLoses_kp idJ (cAt [true, true, true, true] (bodyOf Try.f16)) (retK Try.prog Try.f16 Q) noX (retK Try.prog Try.f16 Q) ((.int .i64 kind0) :: us 4 ((.pointer (some ⟨w5_b, w5_o, none⟩)) :: us 35 [])) := by kernel_rfl
theorem hoardlaw19_WeighLoses_l2_raw (jn : Jn) (Q : Value → WP)  (m2 : Nat) (kind0 : Int) (epochs1 : Int) (w5_b : Nat) (w5_o : Nat) (i6 : Int) : hoardlaw19_WeighLoses_l2 jn Q  (m2 + 1) kind0 epochs1 w5_b w5_o i6 = (
  ite2 (decide (i6 < epochs1)) (
  newB [.int .i64 (0 : Int), .int .i64 (0 : Int), .int .i64 (0 : Int), .int .i64 (0 : Int), .int .i64 (0 : Int)] ty_5_int fun b_11 =>
  when ((0 : Int) ≤ kind0 ∧ kind0 < ((5 : Nat) : Int)) <|
  st b_11 (0 + (kind0).toNat * 1) (.int .i64 (100 : Int)) <|
  ld (.int .u64) w5_b w5_o fun x_12 =>
  ld (.int .u64) w5_b (w5_o + 1) fun x_13 =>
  ld (.int .u64) w5_b ((w5_o + 1) + 1) fun x_14 =>
  ld (.int .u64) w5_b (((w5_o + 1) + 1) + 1) fun x_15 =>
  ld (.int .u64) w5_b ((((w5_o + 1) + 1) + 1) + 1) fun x_16 =>
  ld (.int .i64) b_11 0 fun x_17 =>
  ld (.int .i64) b_11 1 fun x_18 =>
  ld (.int .i64) b_11 2 fun x_19 =>
  ld (.int .i64) b_11 3 fun x_20 =>
  ld (.int .i64) b_11 4 fun x_21 =>
  fun w => Calls Try.prog id_weigh_Next #[.agg #[.int .u64 x_12, .int .u64 x_13, .int .u64 x_14, .int .u64 x_15, .int .u64 x_16], .agg #[.int .i64 x_17, .int .i64 x_18, .int .i64 x_19, .int .i64 x_20, .int .i64 x_21], .int .i64 (100 : Int)] w fun e w' => ∃ x_22 : Int, ∃ x_23 : Int, ∃ x_24 : Int, ∃ x_25 : Int, ∃ x_26 : Int, e = .returned (.agg #[.int .u64 x_22, .int .u64 x_23, .int .u64 x_24, .int .u64 x_25, .int .u64 x_26]) ∧ (
  st w5_b w5_o (.int .u64 x_22) <|
  st w5_b (w5_o + 1) (.int .u64 x_23) <|
  st w5_b ((w5_o + 1) + 1) (.int .u64 x_24) <|
  st w5_b (((w5_o + 1) + 1) + 1) (.int .u64 x_25) <|
  st w5_b ((((w5_o + 1) + 1) + 1) + 1) (.int .u64 x_26) <|
  hoardlaw19_WeighLoses_l2 jn Q  m2 kind0 epochs1 w5_b w5_o (IntKind.wrap .i64 (i6 + (1 : Int)))) w') (
  hoardlaw19_WeighLoses_j3 jn Q  kind0 w5_b w5_o)) := by kernel_rfl
theorem hoardlaw19_WeighLoses_l2_zero (jn : Jn) (Q : Value → WP)  (kind0 : Int) (epochs1 : Int) (w5_b : Nat) (w5_o : Nat) (i6 : Int) : hoardlaw19_WeighLoses_l2 jn Q  0 kind0 epochs1 w5_b w5_o i6 = bot := by kernel_rfl
theorem hoardlaw19_WeighLoses_j1_raw (jn : Jn) (Q : Value → WP)  (kind0 : Int) (epochs1 : Int) : codeI Try.prog hoardlaw19_WeighLoses_kp jn (cAt [true, true] (bodyOf Try.f16)) (retK Try.prog Try.f16 Q) noX (retK Try.prog Try.f16 Q) ((.int .i64 kind0) :: (.int .i64 epochs1) :: us 39 []) = (
  fun w => Calls Try.prog id_weigh_Start #[] w fun e w' => ∃ x_5 : Int, ∃ x_6 : Int, ∃ x_7 : Int, ∃ x_8 : Int, ∃ x_9 : Int, e = .returned (.agg #[.int .u64 x_5, .int .u64 x_6, .int .u64 x_7, .int .u64 x_8, .int .u64 x_9]) ∧ (
  newB [.int .u64 (0 : Int), .int .u64 (0 : Int), .int .u64 (0 : Int), .int .u64 (0 : Int), .int .u64 (0 : Int)] ty_weigh_Weights fun b_10 =>
  st b_10 0 (.int .u64 x_5) <|
  st b_10 1 (.int .u64 x_6) <|
  st b_10 2 (.int .u64 x_7) <|
  st b_10 3 (.int .u64 x_8) <|
  st b_10 4 (.int .u64 x_9) <|
  exM fun m => hoardlaw19_WeighLoses_l2 jn Q  m kind0 epochs1 b_10 0 (0 : Int)) w') := by kernel_rfl
theorem hoardlaw19_WeighLoses_j1_def (Q : Value → WP)  (kind0 : Int) (epochs1 : Int) : hoardlaw19_WeighLoses_j1 idJ Q  kind0 epochs1 = codeI Try.prog hoardlaw19_WeighLoses_kp idJ (cAt [true, true] (bodyOf Try.f16)) (retK Try.prog Try.f16 Q) noX (retK Try.prog Try.f16 Q) ((.int .i64 kind0) :: (.int .i64 epochs1) :: us 39 []) := by kernel_rfl
theorem hoardlaw19_WeighLoses_raw (jn : Jn) (kind0 : Int) (epochs1 : Int) (Q : Value → WP) : funJ jn Try.prog hoardlaw19_WeighLoses_kp Try.f16 [.int .i64 kind0, .int .i64 epochs1] Q = (
  ite2 (decide (kind0 < (0 : Int))) (
  call1 .bool Try.prog id_hoardlaw19_known [] fun x_1 =>
  Q (.bool x_1)) (
  ite2 (decide (kind0 ≥ (5 : Int))) (
  call1 .bool Try.prog id_hoardlaw19_known [] fun x_2 =>
  Q (.bool x_2)) (
  ite2 (decide (epochs1 < (40 : Int))) (
  call1 .bool Try.prog id_hoardlaw19_known [] fun x_3 =>
  Q (.bool x_3)) (
  ite2 (decide (epochs1 > (200 : Int))) (
  call1 .bool Try.prog id_hoardlaw19_known [] fun x_4 =>
  Q (.bool x_4)) (
  hoardlaw19_WeighLoses_j1 jn Q  kind0 epochs1))))) := by kernel_rfl
theorem hoardlaw19_WeighLoses_def (kind0 : Int) (epochs1 : Int) (Q : Value → WP) : hoardlaw19_WeighLoses kind0 epochs1 Q = funJ idJ Try.prog hoardlaw19_WeighLoses_kp Try.f16 [.int .i64 kind0, .int .i64 epochs1] Q := rfl
theorem hoardlaw19_WeighLoses_calls {kind0 : Int} {epochs1 : Int} {Q : Value → WP} {w : World} (h : hoardlaw19_WeighLoses kind0 epochs1 Q w) : Calls Try.prog id_hoardlaw19_WeighLoses #[.int .i64 kind0, .int .i64 epochs1] w fun e w' => ∃ v, e = .returned v ∧ Q v w' :=
  funJ_calls mixed Try.func16 rfl h

-- hoard/hoardlaw19.WeighCalm
def hoardlaw19_WeighCalm_kp : KP := ⟨[(13, [0, 1, 5, 6]), (18, [1, 5])], [(7, [0, 1, 2, 3]), (8, [0, 1, 2, 4, 5, 6, 8, 9])]⟩
def hoardlaw19_WeighCalm_j2 (jn : Jn) (Q : Value → WP)  (all1 : Int) (w5_b : Nat) (w5_o : Nat) : WP := jn 18 (fun ρ => codeI Try.prog hoardlaw19_WeighCalm_kp jn (cAt [true, true, true, true] (bodyOf Try.f17)) (retK Try.prog Try.f17 Q) noX (retK Try.prog Try.f17 Q) ρ) (us 1 ((.int .i64 all1) :: us 3 ((.pointer (some ⟨w5_b, w5_o, none⟩)) :: us 26 [])))
def hoardlaw19_WeighCalm_l1 (jn : Jn) (Q : Value → WP)  (m1 : Nat) (l0 : Sl) (all1 : Int) (w5_b : Nat) (w5_o : Nat) (i6 : Int) : WP := lop Try.prog hoardlaw19_WeighCalm_kp jn (cAt [true, true, true, false, true, false, false] (bodyOf Try.f17)) (blkX 0 (seqK Try.prog hoardlaw19_WeighCalm_kp jn (cAt [true, true, true, true] (bodyOf Try.f17)) (retK Try.prog Try.f17 Q) noX (retK Try.prog Try.f17 Q)) noX) (retK Try.prog Try.f17 Q) m1 ((.slice l0.a l0.n l0.c) :: (.int .i64 all1) :: us 3 ((.pointer (some ⟨w5_b, w5_o, none⟩)) :: (.int .i64 i6) :: us 25 []))
def hoardlaw19_WeighCalm (l0 : Sl) (all1 : Int) (Q : Value → WP) : WP := funJ idJ Try.prog hoardlaw19_WeighCalm_kp Try.f17 [.slice l0.a l0.n l0.c, .int .i64 all1] Q
theorem hoardlaw19_WeighCalm_j2_raw (jn : Jn) (Q : Value → WP)  (all1 : Int) (w5_b : Nat) (w5_o : Nat) : codeI Try.prog hoardlaw19_WeighCalm_kp jn (cAt [true, true, true, true] (bodyOf Try.f17)) (retK Try.prog Try.f17 Q) noX (retK Try.prog Try.f17 Q) (us 1 ((.int .i64 all1) :: us 3 ((.pointer (some ⟨w5_b, w5_o, none⟩)) :: us 26 []))) = (
  drawW fun S =>
  ldS S (.int .u64) w5_b w5_o fun x_24 =>
  ldS S (.int .u64) w5_b (w5_o + 1) fun x_25 =>
  ldS S (.int .u64) w5_b ((w5_o + 1) + 1) fun x_26 =>
  ldS S (.int .u64) w5_b (((w5_o + 1) + 1) + 1) fun x_27 =>
  ldS S (.int .u64) w5_b ((((w5_o + 1) + 1) + 1) + 1) fun x_28 =>
  ldS S (.int .u64) w5_b w5_o fun x_29 =>
  ldS S (.int .u64) w5_b (w5_o + 1) fun x_30 =>
  ldS S (.int .u64) w5_b ((w5_o + 1) + 1) fun x_31 =>
  ldS S (.int .u64) w5_b (((w5_o + 1) + 1) + 1) fun x_32 =>
  ldS S (.int .u64) w5_b ((((w5_o + 1) + 1) + 1) + 1) fun x_33 =>
  fun w => Calls Try.prog id_weigh_Next #[.agg #[.int .u64 x_24, .int .u64 x_25, .int .u64 x_26, .int .u64 x_27, .int .u64 x_28], .agg #[.int .i64 (0 : Int), .int .i64 (0 : Int), .int .i64 (0 : Int), .int .i64 (0 : Int), .int .i64 (0 : Int)], .int .i64 all1] w fun e w' => ∃ x_34 : Int, ∃ x_35 : Int, ∃ x_36 : Int, ∃ x_37 : Int, ∃ x_38 : Int, e = .returned (.agg #[.int .u64 x_34, .int .u64 x_35, .int .u64 x_36, .int .u64 x_37, .int .u64 x_38]) ∧ (
  keepS true S <|
  ite2 ((x_34 == x_29) && ((x_35 == x_30) && ((x_36 == x_31) && ((x_37 == x_32) && ((x_38 == x_33) && true))))) (
  call1 .bool Try.prog id_hoardlaw19_known [] fun x_39 =>
  Q (.bool x_39)) (
  Q (.bool false))) w') := by kernel_rfl
theorem hoardlaw19_WeighCalm_j2_def (Q : Value → WP)  (all1 : Int) (w5_b : Nat) (w5_o : Nat) : hoardlaw19_WeighCalm_j2 idJ Q  all1 w5_b w5_o = codeI Try.prog hoardlaw19_WeighCalm_kp idJ (cAt [true, true, true, true] (bodyOf Try.f17)) (retK Try.prog Try.f17 Q) noX (retK Try.prog Try.f17 Q) (us 1 ((.int .i64 all1) :: us 3 ((.pointer (some ⟨w5_b, w5_o, none⟩)) :: us 26 []))) := by kernel_rfl
theorem hoardlaw19_WeighCalm_l1_raw (jn : Jn) (Q : Value → WP)  (m1 : Nat) (l0 : Sl) (all1 : Int) (w5_b : Nat) (w5_o : Nat) (i6 : Int) : hoardlaw19_WeighCalm_l1 jn Q  (m1 + 1) l0 all1 w5_b w5_o i6 = (
  ite2 (decide (i6 < (l0.n : Int))) (
  drawW fun S =>
  ldS S (.int .u64) w5_b w5_o fun x_7 =>
  ldS S (.int .u64) w5_b (w5_o + 1) fun x_8 =>
  ldS S (.int .u64) w5_b ((w5_o + 1) + 1) fun x_9 =>
  ldS S (.int .u64) w5_b (((w5_o + 1) + 1) + 1) fun x_10 =>
  ldS S (.int .u64) w5_b ((((w5_o + 1) + 1) + 1) + 1) fun x_11 =>
  idx l0.a l0.n i6 fun b_12 o_13 =>
  ld (.int .i64) b_12 (o_13 + (i6).toNat * 5) fun x_14 =>
  ld (.int .i64) b_12 ((o_13 + (i6).toNat * 5) + 1) fun x_15 =>
  ld (.int .i64) b_12 (((o_13 + (i6).toNat * 5) + 1) + 1) fun x_16 =>
  ld (.int .i64) b_12 ((((o_13 + (i6).toNat * 5) + 1) + 1) + 1) fun x_17 =>
  ld (.int .i64) b_12 (((((o_13 + (i6).toNat * 5) + 1) + 1) + 1) + 1) fun x_18 =>
  keepS true S <|
  fun w => Calls Try.prog id_weigh_Next #[.agg #[.int .u64 x_7, .int .u64 x_8, .int .u64 x_9, .int .u64 x_10, .int .u64 x_11], .agg #[.int .i64 x_14, .int .i64 x_15, .int .i64 x_16, .int .i64 x_17, .int .i64 x_18], .int .i64 (100 : Int)] w fun e w' => ∃ x_19 : Int, ∃ x_20 : Int, ∃ x_21 : Int, ∃ x_22 : Int, ∃ x_23 : Int, e = .returned (.agg #[.int .u64 x_19, .int .u64 x_20, .int .u64 x_21, .int .u64 x_22, .int .u64 x_23]) ∧ (
  st w5_b w5_o (.int .u64 x_19) <|
  st w5_b (w5_o + 1) (.int .u64 x_20) <|
  st w5_b ((w5_o + 1) + 1) (.int .u64 x_21) <|
  st w5_b (((w5_o + 1) + 1) + 1) (.int .u64 x_22) <|
  st w5_b ((((w5_o + 1) + 1) + 1) + 1) (.int .u64 x_23) <|
  hoardlaw19_WeighCalm_l1 jn Q  m1 l0 all1 w5_b w5_o (IntKind.wrap .i64 (i6 + (1 : Int)))) w') (
  hoardlaw19_WeighCalm_j2 jn Q  all1 w5_b w5_o)) := by kernel_rfl
theorem hoardlaw19_WeighCalm_l1_zero (jn : Jn) (Q : Value → WP)  (l0 : Sl) (all1 : Int) (w5_b : Nat) (w5_o : Nat) (i6 : Int) : hoardlaw19_WeighCalm_l1 jn Q  0 l0 all1 w5_b w5_o i6 = bot := by kernel_rfl
theorem hoardlaw19_WeighCalm_raw (jn : Jn) (l0 : Sl) (all1 : Int) (Q : Value → WP) : funJ jn Try.prog hoardlaw19_WeighCalm_kp Try.f17 [.slice l0.a l0.n l0.c, .int .i64 all1] Q = (
  ite2 (decide ((l0.n : Int) > (50 : Int))) (
  Q (.bool true)) (
  fun w => Calls Try.prog id_weigh_Start #[] w fun e w' => ∃ x_1 : Int, ∃ x_2 : Int, ∃ x_3 : Int, ∃ x_4 : Int, ∃ x_5 : Int, e = .returned (.agg #[.int .u64 x_1, .int .u64 x_2, .int .u64 x_3, .int .u64 x_4, .int .u64 x_5]) ∧ (
  newB [.int .u64 (0 : Int), .int .u64 (0 : Int), .int .u64 (0 : Int), .int .u64 (0 : Int), .int .u64 (0 : Int)] ty_weigh_Weights fun b_6 =>
  st b_6 0 (.int .u64 x_1) <|
  st b_6 1 (.int .u64 x_2) <|
  st b_6 2 (.int .u64 x_3) <|
  st b_6 3 (.int .u64 x_4) <|
  st b_6 4 (.int .u64 x_5) <|
  exM fun m => hoardlaw19_WeighCalm_l1 jn Q  m l0 all1 b_6 0 (0 : Int)) w')) := by kernel_rfl
theorem hoardlaw19_WeighCalm_def (l0 : Sl) (all1 : Int) (Q : Value → WP) : hoardlaw19_WeighCalm l0 all1 Q = funJ idJ Try.prog hoardlaw19_WeighCalm_kp Try.f17 [.slice l0.a l0.n l0.c, .int .i64 all1] Q := rfl
theorem hoardlaw19_WeighCalm_calls {l0 : Sl} {all1 : Int} {Q : Value → WP} {w : World} (h : hoardlaw19_WeighCalm l0 all1 Q w) : Calls Try.prog id_hoardlaw19_WeighCalm #[.slice l0.a l0.n l0.c, .int .i64 all1] w fun e w' => ∃ v, e = .returned v ∧ Q v w' :=
  funJ_calls mixed Try.func17 rfl h

-- hoard/tape.New
def tape_New_kp : KP := ⟨[], []⟩
def tape_New (draws0 : Sl) (Q : Value → WP) : WP := funJ idJ Try.prog tape_New_kp Try.f18 [.slice draws0.a draws0.n draws0.c] Q
theorem tape_New_raw (jn : Jn) (draws0 : Sl) (Q : Value → WP) : funJ jn Try.prog tape_New_kp Try.f18 [.slice draws0.a draws0.n draws0.c] Q = (
  call1 .slc Try.prog id_slices_Clone_s_uint32_uint32 [.slice draws0.a draws0.n draws0.c] fun x_1 =>
  newB [.slice x_1.a x_1.n x_1.c, .int .i64 (0 : Int)] ty_tape_Tape fun b_2 =>
  Q (.pointer (some ⟨b_2, 0, none⟩))) := by kernel_rfl
theorem tape_New_def (draws0 : Sl) (Q : Value → WP) : tape_New draws0 Q = funJ idJ Try.prog tape_New_kp Try.f18 [.slice draws0.a draws0.n draws0.c] Q := rfl
theorem tape_New_calls {draws0 : Sl} {Q : Value → WP} {w : World} (h : tape_New draws0 Q w) : Calls Try.prog id_tape_New #[.slice draws0.a draws0.n draws0.c] w fun e w' => ∃ v, e = .returned v ∧ Q v w' :=
  funJ_calls mixed Try.func18 rfl h

-- (*hoard/tape.Tape).Left
def tape_Tape_Left_kp : KP := ⟨[], [(3, [0, 1, 2, 3, 4, 5, 6, 7, 9, 10, 11])]⟩
def tape_Tape_Left (t0 : Option Addr) (Q : Value → WP) : WP := funJ idJ Try.prog tape_Tape_Left_kp Try.f19 [.pointer t0] Q
theorem tape_Tape_Left_raw (jn : Jn) (t0 : Option Addr) (Q : Value → WP) : funJ jn Try.prog tape_Tape_Left_kp Try.f19 [.pointer t0] Q = (
  ite2 (Option.isNone t0) (
  Q (.int .i64 (0 : Int))) (
  drawW fun S =>
  nilck t0 fun b_1 o_2 =>
  ldS S .slc b_1 o_2 fun x_3 =>
  nilck t0 fun b_4 o_5 =>
  ld (.int .i64) b_4 (o_5 + 1) fun x_6 =>
  keepS true S <|
  Q (.int .i64 (if (IntKind.wrap .i64 ((x_3.n : Int) - x_6)) > (0 : Int) then (IntKind.wrap .i64 ((x_3.n : Int) - x_6)) else (0 : Int))))) := by kernel_rfl
theorem tape_Tape_Left_def (t0 : Option Addr) (Q : Value → WP) : tape_Tape_Left t0 Q = funJ idJ Try.prog tape_Tape_Left_kp Try.f19 [.pointer t0] Q := rfl
theorem tape_Tape_Left_calls {t0 : Option Addr} {Q : Value → WP} {w : World} (h : tape_Tape_Left t0 Q w) : Calls Try.prog id_tape_Tape_Left #[.pointer t0] w fun e w' => ∃ v, e = .returned v ∧ Q v w' :=
  funJ_calls mixed Try.func19 rfl h

-- (*hoard/tape.Tape).Taken
def tape_Tape_Taken_kp : KP := ⟨[], []⟩
def tape_Tape_Taken (t0 : Option Addr) (Q : Value → WP) : WP := funJ idJ Try.prog tape_Tape_Taken_kp Try.f20 [.pointer t0] Q
theorem tape_Tape_Taken_raw (jn : Jn) (t0 : Option Addr) (Q : Value → WP) : funJ jn Try.prog tape_Tape_Taken_kp Try.f20 [.pointer t0] Q = (
  ite2 (Option.isNone t0) (
  Q (.int .i64 (0 : Int))) (
  nilck t0 fun b_1 o_2 =>
  ld (.int .i64) b_1 (o_2 + 1) fun x_3 =>
  Q (.int .i64 x_3))) := by kernel_rfl
theorem tape_Tape_Taken_def (t0 : Option Addr) (Q : Value → WP) : tape_Tape_Taken t0 Q = funJ idJ Try.prog tape_Tape_Taken_kp Try.f20 [.pointer t0] Q := rfl
theorem tape_Tape_Taken_calls {t0 : Option Addr} {Q : Value → WP} {w : World} (h : tape_Tape_Taken t0 Q w) : Calls Try.prog id_tape_Tape_Taken #[.pointer t0] w fun e w' => ∃ v, e = .returned v ∧ Q v w' :=
  funJ_calls mixed Try.func20 rfl h

-- (*hoard/tape.Tape).Next
def tape_Tape_Next_kp : KP := ⟨[], [(4, [0, 1, 2, 3, 4, 5, 6, 8, 9]), (6, [0, 1, 2, 3, 4, 5, 6, 8, 9, 11])]⟩
def tape_Tape_Next (t0 : Option Addr) (Q : Value → WP) : WP := funJ idJ Try.prog tape_Tape_Next_kp Try.f21 [.pointer t0] Q
theorem tape_Tape_Next_raw (jn : Jn) (t0 : Option Addr) (Q : Value → WP) : funJ jn Try.prog tape_Tape_Next_kp Try.f21 [.pointer t0] Q = (
  ite2 (Option.isNone t0) (
  Q (.int .u32 (0 : Int))) (
  nilck t0 fun b_1 o_2 =>
  ld (.int .i64) b_1 (o_2 + 1) fun x_3 =>
  nilck t0 fun b_4 o_5 =>
  st b_4 (o_5 + 1) (.int .i64 (IntKind.wrap .i64 (x_3 + (1 : Int)))) <|
  drawW fun S =>
  nilck t0 fun b_6 o_7 =>
  ldS S (.int .i64) b_6 (o_7 + 1) fun x_8 =>
  nilck t0 fun b_9 o_10 =>
  ld .slc b_9 o_10 fun x_11 =>
  keepS true S <|
  ite2 (decide (x_8 > (x_11.n : Int))) (
  Q (.int .u32 (0 : Int))) (
  drawW fun S =>
  nilck t0 fun b_12 o_13 =>
  ldS S .slc b_12 o_13 fun x_14 =>
  nilck t0 fun b_15 o_16 =>
  ld (.int .i64) b_15 (o_16 + 1) fun x_17 =>
  keepS true S <|
  idx x_14.a x_14.n (IntKind.wrap .i64 (x_17 - (1 : Int))) fun b_18 o_19 =>
  ld (.int .u32) b_18 (o_19 + ((IntKind.wrap .i64 (x_17 - (1 : Int)))).toNat * 1) fun x_20 =>
  Q (.int .u32 x_20)))) := by kernel_rfl
theorem tape_Tape_Next_def (t0 : Option Addr) (Q : Value → WP) : tape_Tape_Next t0 Q = funJ idJ Try.prog tape_Tape_Next_kp Try.f21 [.pointer t0] Q := rfl
theorem tape_Tape_Next_calls {t0 : Option Addr} {Q : Value → WP} {w : World} (h : tape_Tape_Next t0 Q w) : Calls Try.prog id_tape_Tape_Next #[.pointer t0] w fun e w' => ∃ v, e = .returned v ∧ Q v w' :=
  funJ_calls mixed Try.func21 rfl h

-- hoard/hoardlaw3.known
def hoardlaw3_known_kp : KP := ⟨[], []⟩
def hoardlaw3_known  (Q : Value → WP) : WP := funJ idJ Try.prog hoardlaw3_known_kp Try.f22 [] Q
theorem hoardlaw3_known_raw (jn : Jn)  (Q : Value → WP) : funJ jn Try.prog hoardlaw3_known_kp Try.f22 [] Q = (
  newB [.int .u32 (5 : Int)] ty_uint32 fun b_1 =>
  call1 .ptr Try.prog id_tape_New [.slice (some ⟨b_1, 0, none⟩) 1 1] fun x_2 =>
  call1 (.int .u32) Try.prog id_tape_Tape_Next [.pointer x_2] fun x_3 =>
  ite2 (x_3 == (5 : Int)) (
  call1 (.int .u32) Try.prog id_tape_Tape_Next [.pointer x_2] fun x_4 =>
  ite2 (x_4 == (0 : Int)) (
  call1 (.int .i64) Try.prog id_tape_Tape_Taken [.pointer x_2] fun x_5 =>
  ite2 (x_5 == (2 : Int)) (
  call1 (.int .i64) Try.prog id_tape_Tape_Left [.pointer x_2] fun x_6 =>
  Q (.bool (x_6 == (0 : Int)))) (
  Q (.bool false))) (
  Q (.bool false))) (
  Q (.bool false))) := by kernel_rfl
theorem hoardlaw3_known_def  (Q : Value → WP) : hoardlaw3_known  Q = funJ idJ Try.prog hoardlaw3_known_kp Try.f22 [] Q := rfl
theorem hoardlaw3_known_calls {Q : Value → WP} {w : World} (h : hoardlaw3_known Q w) : Calls Try.prog id_hoardlaw3_known #[] w fun e w' => ∃ v, e = .returned v ∧ Q v w' :=
  funJ_calls mixed Try.func22 rfl h

-- hoard/weigh.Keep
def weigh_Keep_kp : KP := ⟨[(9, [3, 5, 6]), (14, [3])], []⟩
def weigh_Keep_j2 (jn : Jn) (Q : Value → WP)  (x3 : Int) : WP := jn 14 (fun ρ => codeI Try.prog weigh_Keep_kp jn (cAt [true, true, true] (bodyOf Try.f23)) (retK Try.prog Try.f23 Q) noX (retK Try.prog Try.f23 Q) ρ) (us 3 ((.int .u64 x3) :: us 9 []))
def weigh_Keep_l1 (jn : Jn) (Q : Value → WP)  (m1 : Nat) (x3 : Int) (t5 : Int) (t6 : Int) : WP := lop Try.prog weigh_Keep_kp jn (cAt [true, true, false, true, false, false] (bodyOf Try.f23)) (blkX 0 (seqK Try.prog weigh_Keep_kp jn (cAt [true, true, true] (bodyOf Try.f23)) (retK Try.prog Try.f23 Q) noX (retK Try.prog Try.f23 Q)) noX) (retK Try.prog Try.f23 Q) m1 (us 3 ((.int .u64 x3) :: us 1 ((.int .i64 t5) :: (.int .i64 t6) :: us 6 [])))
def weigh_Keep (k0 : Int) (Q : Value → WP) : WP := funJ idJ Try.prog weigh_Keep_kp Try.f23 [.int .i64 k0] Q
theorem weigh_Keep_j2_raw (jn : Jn) (Q : Value → WP)  (x3 : Int) : codeI Try.prog weigh_Keep_kp jn (cAt [true, true, true] (bodyOf Try.f23)) (retK Try.prog Try.f23 Q) noX (retK Try.prog Try.f23 Q) (us 3 ((.int .u64 x3) :: us 9 [])) = (
  Q (.int .u64 x3)) := by kernel_rfl
theorem weigh_Keep_j2_def (Q : Value → WP)  (x3 : Int) : weigh_Keep_j2 idJ Q  x3 = codeI Try.prog weigh_Keep_kp idJ (cAt [true, true, true] (bodyOf Try.f23)) (retK Try.prog Try.f23 Q) noX (retK Try.prog Try.f23 Q) (us 3 ((.int .u64 x3) :: us 9 [])) := by kernel_rfl
theorem weigh_Keep_l1_raw (jn : Jn) (Q : Value → WP)  (m1 : Nat) (x3 : Int) (t5 : Int) (t6 : Int) : weigh_Keep_l1 jn Q  (m1 + 1) x3 t5 t6 = (
  ite2 (decide (t6 < t5)) (
  when ((10 : Int) ≠ 0) <|
  weigh_Keep_l1 jn Q  m1 (IntKind.wrap .u64 (Int.tdiv (IntKind.wrap .u64 (x3 * (9 : Int))) (10 : Int))) t5 (IntKind.wrap .i64 (t6 + (1 : Int)))) (
  weigh_Keep_j2 jn Q  x3)) := by kernel_rfl
theorem weigh_Keep_l1_zero (jn : Jn) (Q : Value → WP)  (x3 : Int) (t5 : Int) (t6 : Int) : weigh_Keep_l1 jn Q  0 x3 t5 t6 = bot := by kernel_rfl
theorem weigh_Keep_raw (jn : Jn) (k0 : Int) (Q : Value → WP) : funJ jn Try.prog weigh_Keep_kp Try.f23 [.int .i64 k0] Q = (
  call1 (.int .i64) Try.prog id_fix_Clamp [.int .i64 k0, .int .i64 (0 : Int), .int .i64 (15 : Int)] fun x_1 =>
  exM fun m => weigh_Keep_l1 jn Q  m (4294967296 : Int) x_1 (0 : Int)) := by kernel_rfl
theorem weigh_Keep_def (k0 : Int) (Q : Value → WP) : weigh_Keep k0 Q = funJ idJ Try.prog weigh_Keep_kp Try.f23 [.int .i64 k0] Q := rfl
theorem weigh_Keep_calls {k0 : Int} {Q : Value → WP} {w : World} (h : weigh_Keep k0 Q w) : Calls Try.prog id_weigh_Keep #[.int .i64 k0] w fun e w' => ∃ v, e = .returned v ∧ Q v w' :=
  funJ_calls mixed Try.func23 rfl h

-- hoard/hoardlaw19.known
def hoardlaw19_known_kp : KP := ⟨[], []⟩
def hoardlaw19_known  (Q : Value → WP) : WP := funJ idJ Try.prog hoardlaw19_known_kp Try.f24 [] Q
theorem hoardlaw19_known_raw (jn : Jn)  (Q : Value → WP) : funJ jn Try.prog hoardlaw19_known_kp Try.f24 [] Q = (
  call1 (.int .u64) Try.prog id_weigh_Keep [.int .i64 (1 : Int)] fun x_1 =>
  ite2 (x_1 == (3865470566 : Int)) (
  fun w => Calls Try.prog id_weigh_Start #[] w fun e w' => ∃ x_2 : Int, ∃ x_3 : Int, ∃ x_4 : Int, ∃ x_5 : Int, ∃ x_6 : Int, e = .returned (.agg #[.int .u64 x_2, .int .u64 x_3, .int .u64 x_4, .int .u64 x_5, .int .u64 x_6]) ∧ (
  call1 (.int .i64) Try.prog id_weigh_Pick [.agg #[.int .u64 x_2, .int .u64 x_3, .int .u64 x_4, .int .u64 x_5, .int .u64 x_6], .int .u32 (0 : Int)] fun x_7 =>
  Q (.bool (x_7 == (0 : Int)))) w') (
  Q (.bool false))) := by kernel_rfl
theorem hoardlaw19_known_def  (Q : Value → WP) : hoardlaw19_known  Q = funJ idJ Try.prog hoardlaw19_known_kp Try.f24 [] Q := rfl
theorem hoardlaw19_known_calls {Q : Value → WP} {w : World} (h : hoardlaw19_known Q w) : Calls Try.prog id_hoardlaw19_known #[] w fun e w' => ∃ v, e = .returned v ∧ Q v w' :=
  funJ_calls mixed Try.func24 rfl h

-- hoard/weigh.Is
def weigh_Is_kp : KP := ⟨[(7, [1, 5, 6]), (16, [1])], []⟩
def weigh_Is_j2 (jn : Jn) (Q : Value → WP)  (w1_b : Nat) (w1_o : Nat) : WP := jn 16 (fun ρ => codeI Try.prog weigh_Is_kp jn (cAt [true, true] (bodyOf Try.f25)) (retK Try.prog Try.f25 Q) noX (retK Try.prog Try.f25 Q) ρ) (us 1 ((.pointer (some ⟨w1_b, w1_o, none⟩)) :: us 17 []))
def weigh_Is_l1 (jn : Jn) (Q : Value → WP)  (m1 : Nat) (w1_b : Nat) (w1_o : Nat) (t5_0 : Int) (t5_1 : Int) (t5_2 : Int) (t5_3 : Int) (t5_4 : Int) (t6 : Int) : WP := lop Try.prog weigh_Is_kp jn (cAt [true, false, true, false, false] (bodyOf Try.f25)) (blkX 0 (seqK Try.prog weigh_Is_kp jn (cAt [true, true] (bodyOf Try.f25)) (retK Try.prog Try.f25 Q) noX (retK Try.prog Try.f25 Q)) noX) (retK Try.prog Try.f25 Q) m1 (us 1 ((.pointer (some ⟨w1_b, w1_o, none⟩)) :: us 3 ((.agg #[.int .u64 t5_0, .int .u64 t5_1, .int .u64 t5_2, .int .u64 t5_3, .int .u64 t5_4]) :: (.int .i64 t6) :: us 12 [])))
def weigh_Is (w0_0 : Int) (w0_1 : Int) (w0_2 : Int) (w0_3 : Int) (w0_4 : Int) (Q : Value → WP) : WP := funJ idJ Try.prog weigh_Is_kp Try.f25 [.agg #[.int .u64 w0_0, .int .u64 w0_1, .int .u64 w0_2, .int .u64 w0_3, .int .u64 w0_4]] Q
theorem weigh_Is_j2_raw (jn : Jn) (Q : Value → WP)  (w1_b : Nat) (w1_o : Nat) : codeI Try.prog weigh_Is_kp jn (cAt [true, true] (bodyOf Try.f25)) (retK Try.prog Try.f25 Q) noX (retK Try.prog Try.f25 Q) (us 1 ((.pointer (some ⟨w1_b, w1_o, none⟩)) :: us 17 [])) = (
  ld (.int .u64) w1_b w1_o fun x_8 =>
  ld (.int .u64) w1_b (w1_o + 1) fun x_9 =>
  ld (.int .u64) w1_b ((w1_o + 1) + 1) fun x_10 =>
  ld (.int .u64) w1_b (((w1_o + 1) + 1) + 1) fun x_11 =>
  ld (.int .u64) w1_b ((((w1_o + 1) + 1) + 1) + 1) fun x_12 =>
  call1 (.int .u64) Try.prog id_weigh_Sum [.agg #[.int .u64 x_8, .int .u64 x_9, .int .u64 x_10, .int .u64 x_11, .int .u64 x_12]] fun x_13 =>
  Q (.bool (x_13 == (4294967296 : Int)))) := by kernel_rfl
theorem weigh_Is_j2_def (Q : Value → WP)  (w1_b : Nat) (w1_o : Nat) : weigh_Is_j2 idJ Q  w1_b w1_o = codeI Try.prog weigh_Is_kp idJ (cAt [true, true] (bodyOf Try.f25)) (retK Try.prog Try.f25 Q) noX (retK Try.prog Try.f25 Q) (us 1 ((.pointer (some ⟨w1_b, w1_o, none⟩)) :: us 17 [])) := by kernel_rfl
theorem weigh_Is_l1_raw (jn : Jn) (Q : Value → WP)  (m1 : Nat) (w1_b : Nat) (w1_o : Nat) (t5_0 : Int) (t5_1 : Int) (t5_2 : Int) (t5_3 : Int) (t5_4 : Int) (t6 : Int) : weigh_Is_l1 jn Q  (m1 + 1) w1_b w1_o t5_0 t5_1 t5_2 t5_3 t5_4 t6 = (
  ite2 (decide (t6 < (5 : Int))) (
  when ((0 : Int) ≤ t6 ∧ t6 < ((5 : Nat) : Int)) <|
  fun w => ∃ x_7 : Int, ([.int .u64 t5_0, .int .u64 t5_1, .int .u64 t5_2, .int .u64 t5_3, .int .u64 t5_4] : List Value)[(t6).toNat]? = some (.int .u64 x_7) ∧ isU (.int .u64 x_7) = false ∧ (
  ite2 (decide (x_7 < (42949672 : Int))) (
  Q (.bool false)) (
  ite2 (decide (x_7 > (4294967296 : Int))) (
  Q (.bool false)) (
  weigh_Is_l1 jn Q  m1 w1_b w1_o t5_0 t5_1 t5_2 t5_3 t5_4 (IntKind.wrap .i64 (t6 + (1 : Int)))))) w) (
  weigh_Is_j2 jn Q  w1_b w1_o)) := by kernel_rfl
theorem weigh_Is_l1_zero (jn : Jn) (Q : Value → WP)  (w1_b : Nat) (w1_o : Nat) (t5_0 : Int) (t5_1 : Int) (t5_2 : Int) (t5_3 : Int) (t5_4 : Int) (t6 : Int) : weigh_Is_l1 jn Q  0 w1_b w1_o t5_0 t5_1 t5_2 t5_3 t5_4 t6 = bot := by kernel_rfl
theorem weigh_Is_raw (jn : Jn) (w0_0 : Int) (w0_1 : Int) (w0_2 : Int) (w0_3 : Int) (w0_4 : Int) (Q : Value → WP) : funJ jn Try.prog weigh_Is_kp Try.f25 [.agg #[.int .u64 w0_0, .int .u64 w0_1, .int .u64 w0_2, .int .u64 w0_3, .int .u64 w0_4]] Q = (
  newB [.int .u64 w0_0, .int .u64 w0_1, .int .u64 w0_2, .int .u64 w0_3, .int .u64 w0_4] ty_weigh_Weights fun b_1 =>
  ld (.int .u64) b_1 0 fun x_2 =>
  ld (.int .u64) b_1 1 fun x_3 =>
  ld (.int .u64) b_1 2 fun x_4 =>
  ld (.int .u64) b_1 3 fun x_5 =>
  ld (.int .u64) b_1 4 fun x_6 =>
  exM fun m => weigh_Is_l1 jn Q  m b_1 0 x_2 x_3 x_4 x_5 x_6 (0 : Int)) := by kernel_rfl
theorem weigh_Is_def (w0_0 : Int) (w0_1 : Int) (w0_2 : Int) (w0_3 : Int) (w0_4 : Int) (Q : Value → WP) : weigh_Is w0_0 w0_1 w0_2 w0_3 w0_4 Q = funJ idJ Try.prog weigh_Is_kp Try.f25 [.agg #[.int .u64 w0_0, .int .u64 w0_1, .int .u64 w0_2, .int .u64 w0_3, .int .u64 w0_4]] Q := rfl
theorem weigh_Is_calls {w0_0 : Int} {w0_1 : Int} {w0_2 : Int} {w0_3 : Int} {w0_4 : Int} {Q : Value → WP} {w : World} (h : weigh_Is w0_0 w0_1 w0_2 w0_3 w0_4 Q w) : Calls Try.prog id_weigh_Is #[.agg #[.int .u64 w0_0, .int .u64 w0_1, .int .u64 w0_2, .int .u64 w0_3, .int .u64 w0_4]] w fun e w' => ∃ v, e = .returned v ∧ Q v w' :=
  funJ_calls mixed Try.func25 rfl h

-- hoard/hoardref19.Is
def hoardref19_Is_kp : KP := ⟨[(7, [1, 3]), (14, [1])], []⟩
def hoardref19_Is_j2 (jn : Jn) (Q : Value → WP)  (w1_b : Nat) (w1_o : Nat) : WP := jn 14 (fun ρ => codeI Try.prog hoardref19_Is_kp jn (cAt [true, true] (bodyOf Try.f26)) (retK Try.prog Try.f26 Q) noX (retK Try.prog Try.f26 Q) ρ) (us 1 ((.pointer (some ⟨w1_b, w1_o, none⟩)) :: us 19 []))
def hoardref19_Is_l1 (jn : Jn) (Q : Value → WP)  (m1 : Nat) (w1_b : Nat) (w1_o : Nat) (i3 : Int) : WP := lop Try.prog hoardref19_Is_kp jn (cAt [true, false, true, false, false] (bodyOf Try.f26)) (blkX 0 (seqK Try.prog hoardref19_Is_kp jn (cAt [true, true] (bodyOf Try.f26)) (retK Try.prog Try.f26 Q) noX (retK Try.prog Try.f26 Q)) noX) (retK Try.prog Try.f26 Q) m1 (us 1 ((.pointer (some ⟨w1_b, w1_o, none⟩)) :: us 1 ((.int .i64 i3) :: us 17 [])))
def hoardref19_Is (w0_0 : Int) (w0_1 : Int) (w0_2 : Int) (w0_3 : Int) (w0_4 : Int) (Q : Value → WP) : WP := funJ idJ Try.prog hoardref19_Is_kp Try.f26 [.agg #[.int .u64 w0_0, .int .u64 w0_1, .int .u64 w0_2, .int .u64 w0_3, .int .u64 w0_4]] Q
theorem hoardref19_Is_j2_raw (jn : Jn) (Q : Value → WP)  (w1_b : Nat) (w1_o : Nat) : codeI Try.prog hoardref19_Is_kp jn (cAt [true, true] (bodyOf Try.f26)) (retK Try.prog Try.f26 Q) noX (retK Try.prog Try.f26 Q) (us 1 ((.pointer (some ⟨w1_b, w1_o, none⟩)) :: us 19 [])) = (
  ld (.int .u64) w1_b w1_o fun x_4 =>
  ld (.int .u64) w1_b (w1_o + 1) fun x_5 =>
  ld (.int .u64) w1_b ((w1_o + 1) + 1) fun x_6 =>
  ld (.int .u64) w1_b (((w1_o + 1) + 1) + 1) fun x_7 =>
  ld (.int .u64) w1_b ((((w1_o + 1) + 1) + 1) + 1) fun x_8 =>
  call1 (.int .u64) Try.prog id_hoardref19_Sum [.agg #[.int .u64 x_4, .int .u64 x_5, .int .u64 x_6, .int .u64 x_7, .int .u64 x_8]] fun x_9 =>
  Q (.bool (x_9 == (4294967296 : Int)))) := by kernel_rfl
theorem hoardref19_Is_j2_def (Q : Value → WP)  (w1_b : Nat) (w1_o : Nat) : hoardref19_Is_j2 idJ Q  w1_b w1_o = codeI Try.prog hoardref19_Is_kp idJ (cAt [true, true] (bodyOf Try.f26)) (retK Try.prog Try.f26 Q) noX (retK Try.prog Try.f26 Q) (us 1 ((.pointer (some ⟨w1_b, w1_o, none⟩)) :: us 19 [])) := by kernel_rfl
theorem hoardref19_Is_l1_raw (jn : Jn) (Q : Value → WP)  (m1 : Nat) (w1_b : Nat) (w1_o : Nat) (i3 : Int) : hoardref19_Is_l1 jn Q  (m1 + 1) w1_b w1_o i3 = (
  ite2 (decide (i3 < (5 : Int))) (
  when ((0 : Int) ≤ i3 ∧ i3 < ((5 : Nat) : Int)) <|
  ld (.int .u64) w1_b (w1_o + (i3).toNat * 1) fun x_2 =>
  ite2 (decide (x_2 < (42949672 : Int))) (
  Q (.bool false)) (
  when ((0 : Int) ≤ i3 ∧ i3 < ((5 : Nat) : Int)) <|
  ld (.int .u64) w1_b (w1_o + (i3).toNat * 1) fun x_3 =>
  ite2 (decide (x_3 > (4294967296 : Int))) (
  Q (.bool false)) (
  hoardref19_Is_l1 jn Q  m1 w1_b w1_o (IntKind.wrap .i64 (i3 + (1 : Int)))))) (
  hoardref19_Is_j2 jn Q  w1_b w1_o)) := by kernel_rfl
theorem hoardref19_Is_l1_zero (jn : Jn) (Q : Value → WP)  (w1_b : Nat) (w1_o : Nat) (i3 : Int) : hoardref19_Is_l1 jn Q  0 w1_b w1_o i3 = bot := by kernel_rfl
theorem hoardref19_Is_raw (jn : Jn) (w0_0 : Int) (w0_1 : Int) (w0_2 : Int) (w0_3 : Int) (w0_4 : Int) (Q : Value → WP) : funJ jn Try.prog hoardref19_Is_kp Try.f26 [.agg #[.int .u64 w0_0, .int .u64 w0_1, .int .u64 w0_2, .int .u64 w0_3, .int .u64 w0_4]] Q = (
  newB [.int .u64 w0_0, .int .u64 w0_1, .int .u64 w0_2, .int .u64 w0_3, .int .u64 w0_4] ty_hoardref19_Weights fun b_1 =>
  exM fun m => hoardref19_Is_l1 jn Q  m b_1 0 (0 : Int)) := by kernel_rfl
theorem hoardref19_Is_def (w0_0 : Int) (w0_1 : Int) (w0_2 : Int) (w0_3 : Int) (w0_4 : Int) (Q : Value → WP) : hoardref19_Is w0_0 w0_1 w0_2 w0_3 w0_4 Q = funJ idJ Try.prog hoardref19_Is_kp Try.f26 [.agg #[.int .u64 w0_0, .int .u64 w0_1, .int .u64 w0_2, .int .u64 w0_3, .int .u64 w0_4]] Q := rfl
theorem hoardref19_Is_calls {w0_0 : Int} {w0_1 : Int} {w0_2 : Int} {w0_3 : Int} {w0_4 : Int} {Q : Value → WP} {w : World} (h : hoardref19_Is w0_0 w0_1 w0_2 w0_3 w0_4 Q w) : Calls Try.prog id_hoardref19_Is #[.agg #[.int .u64 w0_0, .int .u64 w0_1, .int .u64 w0_2, .int .u64 w0_3, .int .u64 w0_4]] w fun e w' => ∃ v, e = .returned v ∧ Q v w' :=
  funJ_calls mixed Try.func26 rfl h

-- hoard/weigh.Sum
def weigh_Sum_kp : KP := ⟨[(9, [3, 6, 7]), (16, [3])], []⟩
def weigh_Sum_j2 (jn : Jn) (Q : Value → WP)  (sum3 : Int) : WP := jn 16 (fun ρ => codeI Try.prog weigh_Sum_kp jn (cAt [true, true, true] (bodyOf Try.f27)) (retK Try.prog Try.f27 Q) noX (retK Try.prog Try.f27 Q) ρ) (us 3 ((.int .u64 sum3) :: us 11 []))
def weigh_Sum_l1 (jn : Jn) (Q : Value → WP)  (m1 : Nat) (sum3 : Int) (t6_0 : Int) (t6_1 : Int) (t6_2 : Int) (t6_3 : Int) (t6_4 : Int) (t7 : Int) : WP := lop Try.prog weigh_Sum_kp jn (cAt [true, true, false, true, false, false] (bodyOf Try.f27)) (blkX 0 (seqK Try.prog weigh_Sum_kp jn (cAt [true, true, true] (bodyOf Try.f27)) (retK Try.prog Try.f27 Q) noX (retK Try.prog Try.f27 Q)) noX) (retK Try.prog Try.f27 Q) m1 (us 3 ((.int .u64 sum3) :: us 2 ((.agg #[.int .u64 t6_0, .int .u64 t6_1, .int .u64 t6_2, .int .u64 t6_3, .int .u64 t6_4]) :: (.int .i64 t7) :: us 7 [])))
def weigh_Sum (w0_0 : Int) (w0_1 : Int) (w0_2 : Int) (w0_3 : Int) (w0_4 : Int) (Q : Value → WP) : WP := funJ idJ Try.prog weigh_Sum_kp Try.f27 [.agg #[.int .u64 w0_0, .int .u64 w0_1, .int .u64 w0_2, .int .u64 w0_3, .int .u64 w0_4]] Q
theorem weigh_Sum_j2_raw (jn : Jn) (Q : Value → WP)  (sum3 : Int) : codeI Try.prog weigh_Sum_kp jn (cAt [true, true, true] (bodyOf Try.f27)) (retK Try.prog Try.f27 Q) noX (retK Try.prog Try.f27 Q) (us 3 ((.int .u64 sum3) :: us 11 [])) = (
  Q (.int .u64 sum3)) := by kernel_rfl
theorem weigh_Sum_j2_def (Q : Value → WP)  (sum3 : Int) : weigh_Sum_j2 idJ Q  sum3 = codeI Try.prog weigh_Sum_kp idJ (cAt [true, true, true] (bodyOf Try.f27)) (retK Try.prog Try.f27 Q) noX (retK Try.prog Try.f27 Q) (us 3 ((.int .u64 sum3) :: us 11 [])) := by kernel_rfl
theorem weigh_Sum_l1_raw (jn : Jn) (Q : Value → WP)  (m1 : Nat) (sum3 : Int) (t6_0 : Int) (t6_1 : Int) (t6_2 : Int) (t6_3 : Int) (t6_4 : Int) (t7 : Int) : weigh_Sum_l1 jn Q  (m1 + 1) sum3 t6_0 t6_1 t6_2 t6_3 t6_4 t7 = (
  ite2 (decide (t7 < (5 : Int))) (
  when ((0 : Int) ≤ t7 ∧ t7 < ((5 : Nat) : Int)) <|
  fun w => ∃ x_7 : Int, ([.int .u64 t6_0, .int .u64 t6_1, .int .u64 t6_2, .int .u64 t6_3, .int .u64 t6_4] : List Value)[(t7).toNat]? = some (.int .u64 x_7) ∧ isU (.int .u64 x_7) = false ∧ (
  weigh_Sum_l1 jn Q  m1 (IntKind.wrap .u64 (sum3 + x_7)) t6_0 t6_1 t6_2 t6_3 t6_4 (IntKind.wrap .i64 (t7 + (1 : Int)))) w) (
  weigh_Sum_j2 jn Q  sum3)) := by kernel_rfl
theorem weigh_Sum_l1_zero (jn : Jn) (Q : Value → WP)  (sum3 : Int) (t6_0 : Int) (t6_1 : Int) (t6_2 : Int) (t6_3 : Int) (t6_4 : Int) (t7 : Int) : weigh_Sum_l1 jn Q  0 sum3 t6_0 t6_1 t6_2 t6_3 t6_4 t7 = bot := by kernel_rfl
theorem weigh_Sum_raw (jn : Jn) (w0_0 : Int) (w0_1 : Int) (w0_2 : Int) (w0_3 : Int) (w0_4 : Int) (Q : Value → WP) : funJ jn Try.prog weigh_Sum_kp Try.f27 [.agg #[.int .u64 w0_0, .int .u64 w0_1, .int .u64 w0_2, .int .u64 w0_3, .int .u64 w0_4]] Q = (
  newB [.int .u64 w0_0, .int .u64 w0_1, .int .u64 w0_2, .int .u64 w0_3, .int .u64 w0_4] ty_weigh_Weights fun b_1 =>
  ld (.int .u64) b_1 0 fun x_2 =>
  ld (.int .u64) b_1 1 fun x_3 =>
  ld (.int .u64) b_1 2 fun x_4 =>
  ld (.int .u64) b_1 3 fun x_5 =>
  ld (.int .u64) b_1 4 fun x_6 =>
  exM fun m => weigh_Sum_l1 jn Q  m (0 : Int) x_2 x_3 x_4 x_5 x_6 (0 : Int)) := by kernel_rfl
theorem weigh_Sum_def (w0_0 : Int) (w0_1 : Int) (w0_2 : Int) (w0_3 : Int) (w0_4 : Int) (Q : Value → WP) : weigh_Sum w0_0 w0_1 w0_2 w0_3 w0_4 Q = funJ idJ Try.prog weigh_Sum_kp Try.f27 [.agg #[.int .u64 w0_0, .int .u64 w0_1, .int .u64 w0_2, .int .u64 w0_3, .int .u64 w0_4]] Q := rfl
theorem weigh_Sum_calls {w0_0 : Int} {w0_1 : Int} {w0_2 : Int} {w0_3 : Int} {w0_4 : Int} {Q : Value → WP} {w : World} (h : weigh_Sum w0_0 w0_1 w0_2 w0_3 w0_4 Q w) : Calls Try.prog id_weigh_Sum #[.agg #[.int .u64 w0_0, .int .u64 w0_1, .int .u64 w0_2, .int .u64 w0_3, .int .u64 w0_4]] w fun e w' => ∃ v, e = .returned v ∧ Q v w' :=
  funJ_calls mixed Try.func27 rfl h

-- hoard/hoardref19.Sum
def hoardref19_Sum_kp : KP := ⟨[(9, [1, 3, 4]), (14, [3])], []⟩
def hoardref19_Sum_j2 (jn : Jn) (Q : Value → WP)  (n3 : Int) : WP := jn 14 (fun ρ => codeI Try.prog hoardref19_Sum_kp jn (cAt [true, true, true] (bodyOf Try.f28)) (retK Try.prog Try.f28 Q) noX (retK Try.prog Try.f28 Q) ρ) (us 3 ((.int .u64 n3) :: us 11 []))
def hoardref19_Sum_l1 (jn : Jn) (Q : Value → WP)  (m1 : Nat) (w1_b : Nat) (w1_o : Nat) (n3 : Int) (i4 : Int) : WP := lop Try.prog hoardref19_Sum_kp jn (cAt [true, true, false, true, false, false] (bodyOf Try.f28)) (blkX 0 (seqK Try.prog hoardref19_Sum_kp jn (cAt [true, true, true] (bodyOf Try.f28)) (retK Try.prog Try.f28 Q) noX (retK Try.prog Try.f28 Q)) noX) (retK Try.prog Try.f28 Q) m1 (us 1 ((.pointer (some ⟨w1_b, w1_o, none⟩)) :: us 1 ((.int .u64 n3) :: (.int .i64 i4) :: us 10 [])))
def hoardref19_Sum (w0_0 : Int) (w0_1 : Int) (w0_2 : Int) (w0_3 : Int) (w0_4 : Int) (Q : Value → WP) : WP := funJ idJ Try.prog hoardref19_Sum_kp Try.f28 [.agg #[.int .u64 w0_0, .int .u64 w0_1, .int .u64 w0_2, .int .u64 w0_3, .int .u64 w0_4]] Q
theorem hoardref19_Sum_j2_raw (jn : Jn) (Q : Value → WP)  (n3 : Int) : codeI Try.prog hoardref19_Sum_kp jn (cAt [true, true, true] (bodyOf Try.f28)) (retK Try.prog Try.f28 Q) noX (retK Try.prog Try.f28 Q) (us 3 ((.int .u64 n3) :: us 11 [])) = (
  Q (.int .u64 n3)) := by kernel_rfl
theorem hoardref19_Sum_j2_def (Q : Value → WP)  (n3 : Int) : hoardref19_Sum_j2 idJ Q  n3 = codeI Try.prog hoardref19_Sum_kp idJ (cAt [true, true, true] (bodyOf Try.f28)) (retK Try.prog Try.f28 Q) noX (retK Try.prog Try.f28 Q) (us 3 ((.int .u64 n3) :: us 11 [])) := by kernel_rfl
theorem hoardref19_Sum_l1_raw (jn : Jn) (Q : Value → WP)  (m1 : Nat) (w1_b : Nat) (w1_o : Nat) (n3 : Int) (i4 : Int) : hoardref19_Sum_l1 jn Q  (m1 + 1) w1_b w1_o n3 i4 = (
  ite2 (decide (i4 < (5 : Int))) (
  when ((0 : Int) ≤ i4 ∧ i4 < ((5 : Nat) : Int)) <|
  ld (.int .u64) w1_b (w1_o + (i4).toNat * 1) fun x_2 =>
  hoardref19_Sum_l1 jn Q  m1 w1_b w1_o (IntKind.wrap .u64 (n3 + x_2)) (IntKind.wrap .i64 (i4 + (1 : Int)))) (
  hoardref19_Sum_j2 jn Q  n3)) := by kernel_rfl
theorem hoardref19_Sum_l1_zero (jn : Jn) (Q : Value → WP)  (w1_b : Nat) (w1_o : Nat) (n3 : Int) (i4 : Int) : hoardref19_Sum_l1 jn Q  0 w1_b w1_o n3 i4 = bot := by kernel_rfl
theorem hoardref19_Sum_raw (jn : Jn) (w0_0 : Int) (w0_1 : Int) (w0_2 : Int) (w0_3 : Int) (w0_4 : Int) (Q : Value → WP) : funJ jn Try.prog hoardref19_Sum_kp Try.f28 [.agg #[.int .u64 w0_0, .int .u64 w0_1, .int .u64 w0_2, .int .u64 w0_3, .int .u64 w0_4]] Q = (
  newB [.int .u64 w0_0, .int .u64 w0_1, .int .u64 w0_2, .int .u64 w0_3, .int .u64 w0_4] ty_hoardref19_Weights fun b_1 =>
  exM fun m => hoardref19_Sum_l1 jn Q  m b_1 0 (0 : Int) (0 : Int)) := by kernel_rfl
theorem hoardref19_Sum_def (w0_0 : Int) (w0_1 : Int) (w0_2 : Int) (w0_3 : Int) (w0_4 : Int) (Q : Value → WP) : hoardref19_Sum w0_0 w0_1 w0_2 w0_3 w0_4 Q = funJ idJ Try.prog hoardref19_Sum_kp Try.f28 [.agg #[.int .u64 w0_0, .int .u64 w0_1, .int .u64 w0_2, .int .u64 w0_3, .int .u64 w0_4]] Q := rfl
theorem hoardref19_Sum_calls {w0_0 : Int} {w0_1 : Int} {w0_2 : Int} {w0_3 : Int} {w0_4 : Int} {Q : Value → WP} {w : World} (h : hoardref19_Sum w0_0 w0_1 w0_2 w0_3 w0_4 Q w) : Calls Try.prog id_hoardref19_Sum #[.agg #[.int .u64 w0_0, .int .u64 w0_1, .int .u64 w0_2, .int .u64 w0_3, .int .u64 w0_4]] w fun e w' => ∃ v, e = .returned v ∧ Q v w' :=
  funJ_calls mixed Try.func28 rfl h

-- hoard/weigh.Pick
def weigh_Pick_kp : KP := ⟨[(9, [1, 5, 8, 9]), (20, [])], []⟩
def weigh_Pick_j2 (jn : Jn) (Q : Value → WP)   : WP := jn 20 (fun ρ => codeI Try.prog weigh_Pick_kp jn (cAt [true, true, true] (bodyOf Try.f29)) (retK Try.prog Try.f29 Q) noX (retK Try.prog Try.f29 Q) ρ) (us 22 [])
def weigh_Pick_l1 (jn : Jn) (Q : Value → WP)  (m1 : Nat) (draw1 : Int) (sum5 : Int) (t8_0 : Int) (t8_1 : Int) (t8_2 : Int) (t8_3 : Int) (t8_4 : Int) (t9 : Int) : WP := lop Try.prog weigh_Pick_kp jn (cAt [true, true, false, true, false, false] (bodyOf Try.f29)) (blkX 0 (seqK Try.prog weigh_Pick_kp jn (cAt [true, true, true] (bodyOf Try.f29)) (retK Try.prog Try.f29 Q) noX (retK Try.prog Try.f29 Q)) noX) (retK Try.prog Try.f29 Q) m1 (us 1 ((.int .u32 draw1) :: us 3 ((.int .u64 sum5) :: us 2 ((.agg #[.int .u64 t8_0, .int .u64 t8_1, .int .u64 t8_2, .int .u64 t8_3, .int .u64 t8_4]) :: (.int .i64 t9) :: us 12 []))))
def weigh_Pick (w0_0 : Int) (w0_1 : Int) (w0_2 : Int) (w0_3 : Int) (w0_4 : Int) (draw1 : Int) (Q : Value → WP) : WP := funJ idJ Try.prog weigh_Pick_kp Try.f29 [.agg #[.int .u64 w0_0, .int .u64 w0_1, .int .u64 w0_2, .int .u64 w0_3, .int .u64 w0_4], .int .u32 draw1] Q
theorem weigh_Pick_j2_raw (jn : Jn) (Q : Value → WP)   : codeI Try.prog weigh_Pick_kp jn (cAt [true, true, true] (bodyOf Try.f29)) (retK Try.prog Try.f29 Q) noX (retK Try.prog Try.f29 Q) (us 22 []) = (
  Q (.int .i64 (4 : Int))) := by kernel_rfl
theorem weigh_Pick_j2_def (Q : Value → WP)   : weigh_Pick_j2 idJ Q   = codeI Try.prog weigh_Pick_kp idJ (cAt [true, true, true] (bodyOf Try.f29)) (retK Try.prog Try.f29 Q) noX (retK Try.prog Try.f29 Q) (us 22 []) := by kernel_rfl
theorem weigh_Pick_l1_raw (jn : Jn) (Q : Value → WP)  (m1 : Nat) (draw1 : Int) (sum5 : Int) (t8_0 : Int) (t8_1 : Int) (t8_2 : Int) (t8_3 : Int) (t8_4 : Int) (t9 : Int) : weigh_Pick_l1 jn Q  (m1 + 1) draw1 sum5 t8_0 t8_1 t8_2 t8_3 t8_4 t9 = (
  ite2 (decide (t9 < (5 : Int))) (
  when ((0 : Int) ≤ t9 ∧ t9 < ((5 : Nat) : Int)) <|
  fun w => ∃ x_7 : Int, ([.int .u64 t8_0, .int .u64 t8_1, .int .u64 t8_2, .int .u64 t8_3, .int .u64 t8_4] : List Value)[(t9).toNat]? = some (.int .u64 x_7) ∧ isU (.int .u64 x_7) = false ∧ (
  ite2 (decide ((IntKind.wrap .u64 (sum5 + x_7)) > (IntKind.wrap .u64 draw1))) (
  Q (.int .i64 t9)) (
  weigh_Pick_l1 jn Q  m1 draw1 (IntKind.wrap .u64 (sum5 + x_7)) t8_0 t8_1 t8_2 t8_3 t8_4 (IntKind.wrap .i64 (t9 + (1 : Int))))) w) (
  weigh_Pick_j2 jn Q  )) := by kernel_rfl
theorem weigh_Pick_l1_zero (jn : Jn) (Q : Value → WP)  (draw1 : Int) (sum5 : Int) (t8_0 : Int) (t8_1 : Int) (t8_2 : Int) (t8_3 : Int) (t8_4 : Int) (t9 : Int) : weigh_Pick_l1 jn Q  0 draw1 sum5 t8_0 t8_1 t8_2 t8_3 t8_4 t9 = bot := by kernel_rfl
theorem weigh_Pick_raw (jn : Jn) (w0_0 : Int) (w0_1 : Int) (w0_2 : Int) (w0_3 : Int) (w0_4 : Int) (draw1 : Int) (Q : Value → WP) : funJ jn Try.prog weigh_Pick_kp Try.f29 [.agg #[.int .u64 w0_0, .int .u64 w0_1, .int .u64 w0_2, .int .u64 w0_3, .int .u64 w0_4], .int .u32 draw1] Q = (
  newB [.int .u64 w0_0, .int .u64 w0_1, .int .u64 w0_2, .int .u64 w0_3, .int .u64 w0_4] ty_weigh_Weights fun b_1 =>
  ld (.int .u64) b_1 0 fun x_2 =>
  ld (.int .u64) b_1 1 fun x_3 =>
  ld (.int .u64) b_1 2 fun x_4 =>
  ld (.int .u64) b_1 3 fun x_5 =>
  ld (.int .u64) b_1 4 fun x_6 =>
  exM fun m => weigh_Pick_l1 jn Q  m draw1 (0 : Int) x_2 x_3 x_4 x_5 x_6 (0 : Int)) := by kernel_rfl
theorem weigh_Pick_def (w0_0 : Int) (w0_1 : Int) (w0_2 : Int) (w0_3 : Int) (w0_4 : Int) (draw1 : Int) (Q : Value → WP) : weigh_Pick w0_0 w0_1 w0_2 w0_3 w0_4 draw1 Q = funJ idJ Try.prog weigh_Pick_kp Try.f29 [.agg #[.int .u64 w0_0, .int .u64 w0_1, .int .u64 w0_2, .int .u64 w0_3, .int .u64 w0_4], .int .u32 draw1] Q := rfl
theorem weigh_Pick_calls {w0_0 : Int} {w0_1 : Int} {w0_2 : Int} {w0_3 : Int} {w0_4 : Int} {draw1 : Int} {Q : Value → WP} {w : World} (h : weigh_Pick w0_0 w0_1 w0_2 w0_3 w0_4 draw1 Q w) : Calls Try.prog id_weigh_Pick #[.agg #[.int .u64 w0_0, .int .u64 w0_1, .int .u64 w0_2, .int .u64 w0_3, .int .u64 w0_4], .int .u32 draw1] w fun e w' => ∃ v, e = .returned v ∧ Q v w' :=
  funJ_calls mixed Try.func29 rfl h

-- hoard/hoardref19.Pick
def hoardref19_Pick_kp : KP := ⟨[(9, [1, 2, 5, 6]), (18, [])], []⟩
def hoardref19_Pick_j2 (jn : Jn) (Q : Value → WP)   : WP := jn 18 (fun ρ => codeI Try.prog hoardref19_Pick_kp jn (cAt [true, true, true] (bodyOf Try.f30)) (retK Try.prog Try.f30 Q) noX (retK Try.prog Try.f30 Q) ρ) (us 21 [])
def hoardref19_Pick_l1 (jn : Jn) (Q : Value → WP)  (m1 : Nat) (draw1 : Int) (w2_b : Nat) (w2_o : Nat) (n5 : Int) (i6 : Int) : WP := lop Try.prog hoardref19_Pick_kp jn (cAt [true, true, false, true, false, false] (bodyOf Try.f30)) (blkX 0 (seqK Try.prog hoardref19_Pick_kp jn (cAt [true, true, true] (bodyOf Try.f30)) (retK Try.prog Try.f30 Q) noX (retK Try.prog Try.f30 Q)) noX) (retK Try.prog Try.f30 Q) m1 (us 1 ((.int .u32 draw1) :: (.pointer (some ⟨w2_b, w2_o, none⟩)) :: us 2 ((.int .u64 n5) :: (.int .i64 i6) :: us 14 [])))
def hoardref19_Pick (w0_0 : Int) (w0_1 : Int) (w0_2 : Int) (w0_3 : Int) (w0_4 : Int) (draw1 : Int) (Q : Value → WP) : WP := funJ idJ Try.prog hoardref19_Pick_kp Try.f30 [.agg #[.int .u64 w0_0, .int .u64 w0_1, .int .u64 w0_2, .int .u64 w0_3, .int .u64 w0_4], .int .u32 draw1] Q
theorem hoardref19_Pick_j2_raw (jn : Jn) (Q : Value → WP)   : codeI Try.prog hoardref19_Pick_kp jn (cAt [true, true, true] (bodyOf Try.f30)) (retK Try.prog Try.f30 Q) noX (retK Try.prog Try.f30 Q) (us 21 []) = (
  Q (.int .i64 (4 : Int))) := by kernel_rfl
theorem hoardref19_Pick_j2_def (Q : Value → WP)   : hoardref19_Pick_j2 idJ Q   = codeI Try.prog hoardref19_Pick_kp idJ (cAt [true, true, true] (bodyOf Try.f30)) (retK Try.prog Try.f30 Q) noX (retK Try.prog Try.f30 Q) (us 21 []) := by kernel_rfl
theorem hoardref19_Pick_l1_raw (jn : Jn) (Q : Value → WP)  (m1 : Nat) (draw1 : Int) (w2_b : Nat) (w2_o : Nat) (n5 : Int) (i6 : Int) : hoardref19_Pick_l1 jn Q  (m1 + 1) draw1 w2_b w2_o n5 i6 = (
  ite2 (decide (i6 < (5 : Int))) (
  when ((0 : Int) ≤ i6 ∧ i6 < ((5 : Nat) : Int)) <|
  ld (.int .u64) w2_b (w2_o + (i6).toNat * 1) fun x_2 =>
  ite2 (decide ((IntKind.wrap .u64 (n5 + x_2)) > (IntKind.wrap .u64 draw1))) (
  Q (.int .i64 i6)) (
  hoardref19_Pick_l1 jn Q  m1 draw1 w2_b w2_o (IntKind.wrap .u64 (n5 + x_2)) (IntKind.wrap .i64 (i6 + (1 : Int))))) (
  hoardref19_Pick_j2 jn Q  )) := by kernel_rfl
theorem hoardref19_Pick_l1_zero (jn : Jn) (Q : Value → WP)  (draw1 : Int) (w2_b : Nat) (w2_o : Nat) (n5 : Int) (i6 : Int) : hoardref19_Pick_l1 jn Q  0 draw1 w2_b w2_o n5 i6 = bot := by kernel_rfl
theorem hoardref19_Pick_raw (jn : Jn) (w0_0 : Int) (w0_1 : Int) (w0_2 : Int) (w0_3 : Int) (w0_4 : Int) (draw1 : Int) (Q : Value → WP) : funJ jn Try.prog hoardref19_Pick_kp Try.f30 [.agg #[.int .u64 w0_0, .int .u64 w0_1, .int .u64 w0_2, .int .u64 w0_3, .int .u64 w0_4], .int .u32 draw1] Q = (
  newB [.int .u64 w0_0, .int .u64 w0_1, .int .u64 w0_2, .int .u64 w0_3, .int .u64 w0_4] ty_hoardref19_Weights fun b_1 =>
  exM fun m => hoardref19_Pick_l1 jn Q  m draw1 b_1 0 (0 : Int) (0 : Int)) := by kernel_rfl
theorem hoardref19_Pick_def (w0_0 : Int) (w0_1 : Int) (w0_2 : Int) (w0_3 : Int) (w0_4 : Int) (draw1 : Int) (Q : Value → WP) : hoardref19_Pick w0_0 w0_1 w0_2 w0_3 w0_4 draw1 Q = funJ idJ Try.prog hoardref19_Pick_kp Try.f30 [.agg #[.int .u64 w0_0, .int .u64 w0_1, .int .u64 w0_2, .int .u64 w0_3, .int .u64 w0_4], .int .u32 draw1] Q := rfl
theorem hoardref19_Pick_calls {w0_0 : Int} {w0_1 : Int} {w0_2 : Int} {w0_3 : Int} {w0_4 : Int} {draw1 : Int} {Q : Value → WP} {w : World} (h : hoardref19_Pick w0_0 w0_1 w0_2 w0_3 w0_4 draw1 Q w) : Calls Try.prog id_hoardref19_Pick #[.agg #[.int .u64 w0_0, .int .u64 w0_1, .int .u64 w0_2, .int .u64 w0_3, .int .u64 w0_4], .int .u32 draw1] w fun e w' => ∃ v, e = .returned v ∧ Q v w' :=
  funJ_calls mixed Try.func30 rfl h

-- hoard/hoardref19.Keep
def hoardref19_Keep_kp : KP := ⟨[(9, [0, 3, 4]), (14, [3])], []⟩
def hoardref19_Keep_j2 (jn : Jn) (Q : Value → WP)  (n3 : Int) : WP := jn 14 (fun ρ => codeI Try.prog hoardref19_Keep_kp jn (cAt [true, true, true] (bodyOf Try.f31)) (retK Try.prog Try.f31 Q) noX (retK Try.prog Try.f31 Q) ρ) (us 3 ((.int .u64 n3) :: us 11 []))
def hoardref19_Keep_l1 (jn : Jn) (Q : Value → WP)  (m1 : Nat) (k0 : Int) (n3 : Int) (i4 : Int) : WP := lop Try.prog hoardref19_Keep_kp jn (cAt [true, true, false, true, false, false] (bodyOf Try.f31)) (blkX 0 (seqK Try.prog hoardref19_Keep_kp jn (cAt [true, true, true] (bodyOf Try.f31)) (retK Try.prog Try.f31 Q) noX (retK Try.prog Try.f31 Q)) noX) (retK Try.prog Try.f31 Q) m1 ((.int .i64 k0) :: us 2 ((.int .u64 n3) :: (.int .i64 i4) :: us 10 []))
def hoardref19_Keep (k0 : Int) (Q : Value → WP) : WP := funJ idJ Try.prog hoardref19_Keep_kp Try.f31 [.int .i64 k0] Q
theorem hoardref19_Keep_j2_raw (jn : Jn) (Q : Value → WP)  (n3 : Int) : codeI Try.prog hoardref19_Keep_kp jn (cAt [true, true, true] (bodyOf Try.f31)) (retK Try.prog Try.f31 Q) noX (retK Try.prog Try.f31 Q) (us 3 ((.int .u64 n3) :: us 11 [])) = (
  Q (.int .u64 n3)) := by kernel_rfl
theorem hoardref19_Keep_j2_def (Q : Value → WP)  (n3 : Int) : hoardref19_Keep_j2 idJ Q  n3 = codeI Try.prog hoardref19_Keep_kp idJ (cAt [true, true, true] (bodyOf Try.f31)) (retK Try.prog Try.f31 Q) noX (retK Try.prog Try.f31 Q) (us 3 ((.int .u64 n3) :: us 11 [])) := by kernel_rfl
theorem hoardref19_Keep_l1_raw (jn : Jn) (Q : Value → WP)  (m1 : Nat) (k0 : Int) (n3 : Int) (i4 : Int) : hoardref19_Keep_l1 jn Q  (m1 + 1) k0 n3 i4 = (
  call1 (.int .i64) Try.prog id_hoardref2_Clamp [.int .i64 k0, .int .i64 (0 : Int), .int .i64 (15 : Int)] fun x_1 =>
  ite2 (decide (i4 < x_1)) (
  when ((10 : Int) ≠ 0) <|
  hoardref19_Keep_l1 jn Q  m1 k0 (IntKind.wrap .u64 (Int.tdiv (IntKind.wrap .u64 (n3 * (9 : Int))) (10 : Int))) (IntKind.wrap .i64 (i4 + (1 : Int)))) (
  hoardref19_Keep_j2 jn Q  n3)) := by kernel_rfl
theorem hoardref19_Keep_l1_zero (jn : Jn) (Q : Value → WP)  (k0 : Int) (n3 : Int) (i4 : Int) : hoardref19_Keep_l1 jn Q  0 k0 n3 i4 = bot := by kernel_rfl
theorem hoardref19_Keep_raw (jn : Jn) (k0 : Int) (Q : Value → WP) : funJ jn Try.prog hoardref19_Keep_kp Try.f31 [.int .i64 k0] Q = (
  exM fun m => hoardref19_Keep_l1 jn Q  m k0 (4294967296 : Int) (0 : Int)) := by kernel_rfl
theorem hoardref19_Keep_def (k0 : Int) (Q : Value → WP) : hoardref19_Keep k0 Q = funJ idJ Try.prog hoardref19_Keep_kp Try.f31 [.int .i64 k0] Q := rfl
theorem hoardref19_Keep_calls {k0 : Int} {Q : Value → WP} {w : World} (h : hoardref19_Keep k0 Q w) : Calls Try.prog id_hoardref19_Keep #[.int .i64 k0] w fun e w' => ∃ v, e = .returned v ∧ Q v w' :=
  funJ_calls mixed Try.func31 rfl h

-- hoard/weigh.Start
def weigh_Start_kp : KP := ⟨[(9, [0, 1, 3]), (16, [0, 1])], []⟩
def weigh_Start_j2 (jn : Jn) (Q : Value → WP)  (t0_b : Nat) (t0_o : Nat) (w1_b : Nat) (w1_o : Nat) : WP := jn 16 (fun ρ => codeI Try.prog weigh_Start_kp jn (cAt [true, true, true] (bodyOf Try.f32)) (retK Try.prog Try.f32 Q) noX (retK Try.prog Try.f32 Q) ρ) ((.pointer (some ⟨t0_b, t0_o, none⟩)) :: (.pointer (some ⟨w1_b, w1_o, none⟩)) :: us 9 [])
def weigh_Start_l1 (jn : Jn) (Q : Value → WP)  (m1 : Nat) (t0_b : Nat) (t0_o : Nat) (w1_b : Nat) (w1_o : Nat) (t3 : Int) : WP := lop Try.prog weigh_Start_kp jn (cAt [true, true, false, true, false, false] (bodyOf Try.f32)) (blkX 0 (seqK Try.prog weigh_Start_kp jn (cAt [true, true, true] (bodyOf Try.f32)) (retK Try.prog Try.f32 Q) noX (retK Try.prog Try.f32 Q)) noX) (retK Try.prog Try.f32 Q) m1 ((.pointer (some ⟨t0_b, t0_o, none⟩)) :: (.pointer (some ⟨w1_b, w1_o, none⟩)) :: us 1 ((.int .i64 t3) :: us 7 []))
def weigh_Start  (Q : Value → WP) : WP := funJ idJ Try.prog weigh_Start_kp Try.f32 [] Q
theorem weigh_Start_j2_raw (jn : Jn) (Q : Value → WP)  (t0_b : Nat) (t0_o : Nat) (w1_b : Nat) (w1_o : Nat) : codeI Try.prog weigh_Start_kp jn (cAt [true, true, true] (bodyOf Try.f32)) (retK Try.prog Try.f32 Q) noX (retK Try.prog Try.f32 Q) ((.pointer (some ⟨t0_b, t0_o, none⟩)) :: (.pointer (some ⟨w1_b, w1_o, none⟩)) :: us 9 []) = (
  ld (.int .u64) w1_b w1_o fun x_3 =>
  ld (.int .u64) w1_b (w1_o + 1) fun x_4 =>
  ld (.int .u64) w1_b ((w1_o + 1) + 1) fun x_5 =>
  ld (.int .u64) w1_b (((w1_o + 1) + 1) + 1) fun x_6 =>
  ld (.int .u64) w1_b ((((w1_o + 1) + 1) + 1) + 1) fun x_7 =>
  fun w => Calls Try.prog id_weigh_even #[.agg #[.int .u64 x_3, .int .u64 x_4, .int .u64 x_5, .int .u64 x_6, .int .u64 x_7]] w fun e w' => ∃ x_8 : Int, ∃ x_9 : Int, ∃ x_10 : Int, ∃ x_11 : Int, ∃ x_12 : Int, e = .returned (.agg #[.int .u64 x_8, .int .u64 x_9, .int .u64 x_10, .int .u64 x_11, .int .u64 x_12]) ∧ (
  st t0_b t0_o (.int .u64 x_8) <|
  st t0_b (t0_o + 1) (.int .u64 x_9) <|
  st t0_b ((t0_o + 1) + 1) (.int .u64 x_10) <|
  st t0_b (((t0_o + 1) + 1) + 1) (.int .u64 x_11) <|
  st t0_b ((((t0_o + 1) + 1) + 1) + 1) (.int .u64 x_12) <|
  ld (.int .u64) t0_b t0_o fun x_13 =>
  ld (.int .u64) t0_b (t0_o + 1) fun x_14 =>
  ld (.int .u64) t0_b ((t0_o + 1) + 1) fun x_15 =>
  ld (.int .u64) t0_b (((t0_o + 1) + 1) + 1) fun x_16 =>
  ld (.int .u64) t0_b ((((t0_o + 1) + 1) + 1) + 1) fun x_17 =>
  Q (.agg #[.int .u64 x_13, .int .u64 x_14, .int .u64 x_15, .int .u64 x_16, .int .u64 x_17])) w') := by kernel_rfl
theorem weigh_Start_j2_def (Q : Value → WP)  (t0_b : Nat) (t0_o : Nat) (w1_b : Nat) (w1_o : Nat) : weigh_Start_j2 idJ Q  t0_b t0_o w1_b w1_o = codeI Try.prog weigh_Start_kp idJ (cAt [true, true, true] (bodyOf Try.f32)) (retK Try.prog Try.f32 Q) noX (retK Try.prog Try.f32 Q) ((.pointer (some ⟨t0_b, t0_o, none⟩)) :: (.pointer (some ⟨w1_b, w1_o, none⟩)) :: us 9 []) := by kernel_rfl
theorem weigh_Start_l1_raw (jn : Jn) (Q : Value → WP)  (m1 : Nat) (t0_b : Nat) (t0_o : Nat) (w1_b : Nat) (w1_o : Nat) (t3 : Int) : weigh_Start_l1 jn Q  (m1 + 1) t0_b t0_o w1_b w1_o t3 = (
  ite2 (decide (t3 < (5 : Int))) (
  when ((0 : Int) ≤ t3 ∧ t3 < ((5 : Nat) : Int)) <|
  st w1_b (w1_o + (t3).toNat * 1) (.int .u64 (858993459 : Int)) <|
  weigh_Start_l1 jn Q  m1 t0_b t0_o w1_b w1_o (IntKind.wrap .i64 (t3 + (1 : Int)))) (
  weigh_Start_j2 jn Q  t0_b t0_o w1_b w1_o)) := by kernel_rfl
theorem weigh_Start_l1_zero (jn : Jn) (Q : Value → WP)  (t0_b : Nat) (t0_o : Nat) (w1_b : Nat) (w1_o : Nat) (t3 : Int) : weigh_Start_l1 jn Q  0 t0_b t0_o w1_b w1_o t3 = bot := by kernel_rfl
theorem weigh_Start_raw (jn : Jn)  (Q : Value → WP) : funJ jn Try.prog weigh_Start_kp Try.f32 [] Q = (
  newB [.int .u64 (0 : Int), .int .u64 (0 : Int), .int .u64 (0 : Int), .int .u64 (0 : Int), .int .u64 (0 : Int)] ty_weigh_Weights fun b_1 =>
  newB [.int .u64 (0 : Int), .int .u64 (0 : Int), .int .u64 (0 : Int), .int .u64 (0 : Int), .int .u64 (0 : Int)] ty_weigh_Weights fun b_2 =>
  exM fun m => weigh_Start_l1 jn Q  m b_1 0 b_2 0 (0 : Int)) := by kernel_rfl
theorem weigh_Start_def  (Q : Value → WP) : weigh_Start  Q = funJ idJ Try.prog weigh_Start_kp Try.f32 [] Q := rfl
theorem weigh_Start_calls {Q : Value → WP} {w : World} (h : weigh_Start Q w) : Calls Try.prog id_weigh_Start #[] w fun e w' => ∃ v, e = .returned v ∧ Q v w' :=
  funJ_calls mixed Try.func32 rfl h

-- hoard/hoardref19.Start
def hoardref19_Start_kp : KP := ⟨[(9, [0, 1, 2]), (14, [0, 1])], []⟩
def hoardref19_Start_j2 (jn : Jn) (Q : Value → WP)  (t0_b : Nat) (t0_o : Nat) (w1_b : Nat) (w1_o : Nat) : WP := jn 14 (fun ρ => codeI Try.prog hoardref19_Start_kp jn (cAt [true, true, true] (bodyOf Try.f33)) (retK Try.prog Try.f33 Q) noX (retK Try.prog Try.f33 Q) ρ) ((.pointer (some ⟨t0_b, t0_o, none⟩)) :: (.pointer (some ⟨w1_b, w1_o, none⟩)) :: us 12 [])
def hoardref19_Start_l1 (jn : Jn) (Q : Value → WP)  (m1 : Nat) (t0_b : Nat) (t0_o : Nat) (w1_b : Nat) (w1_o : Nat) (i2 : Int) : WP := lop Try.prog hoardref19_Start_kp jn (cAt [true, true, false, true, false, false] (bodyOf Try.f33)) (blkX 0 (seqK Try.prog hoardref19_Start_kp jn (cAt [true, true, true] (bodyOf Try.f33)) (retK Try.prog Try.f33 Q) noX (retK Try.prog Try.f33 Q)) noX) (retK Try.prog Try.f33 Q) m1 ((.pointer (some ⟨t0_b, t0_o, none⟩)) :: (.pointer (some ⟨w1_b, w1_o, none⟩)) :: (.int .i64 i2) :: us 11 [])
def hoardref19_Start  (Q : Value → WP) : WP := funJ idJ Try.prog hoardref19_Start_kp Try.f33 [] Q
theorem hoardref19_Start_j2_raw (jn : Jn) (Q : Value → WP)  (t0_b : Nat) (t0_o : Nat) (w1_b : Nat) (w1_o : Nat) : codeI Try.prog hoardref19_Start_kp jn (cAt [true, true, true] (bodyOf Try.f33)) (retK Try.prog Try.f33 Q) noX (retK Try.prog Try.f33 Q) ((.pointer (some ⟨t0_b, t0_o, none⟩)) :: (.pointer (some ⟨w1_b, w1_o, none⟩)) :: us 12 []) = (
  when ((0 : Int) ≤ (0 : Int) ∧ (0 : Int) < ((5 : Nat) : Int)) <|
  ld (.int .u64) w1_b (w1_o + ((0 : Int)).toNat * 1) fun x_3 =>
  when ((0 : Int) ≤ (0 : Int) ∧ (0 : Int) < ((5 : Nat) : Int)) <|
  st w1_b (w1_o + ((0 : Int)).toNat * 1) (.int .u64 (IntKind.wrap .u64 (x_3 + (1 : Int)))) <|
  ld (.int .u64) w1_b w1_o fun x_4 =>
  ld (.int .u64) w1_b (w1_o + 1) fun x_5 =>
  ld (.int .u64) w1_b ((w1_o + 1) + 1) fun x_6 =>
  ld (.int .u64) w1_b (((w1_o + 1) + 1) + 1) fun x_7 =>
  ld (.int .u64) w1_b ((((w1_o + 1) + 1) + 1) + 1) fun x_8 =>
  st t0_b t0_o (.int .u64 x_4) <|
  st t0_b (t0_o + 1) (.int .u64 x_5) <|
  st t0_b ((t0_o + 1) + 1) (.int .u64 x_6) <|
  st t0_b (((t0_o + 1) + 1) + 1) (.int .u64 x_7) <|
  st t0_b ((((t0_o + 1) + 1) + 1) + 1) (.int .u64 x_8) <|
  ld (.int .u64) t0_b t0_o fun x_9 =>
  ld (.int .u64) t0_b (t0_o + 1) fun x_10 =>
  ld (.int .u64) t0_b ((t0_o + 1) + 1) fun x_11 =>
  ld (.int .u64) t0_b (((t0_o + 1) + 1) + 1) fun x_12 =>
  ld (.int .u64) t0_b ((((t0_o + 1) + 1) + 1) + 1) fun x_13 =>
  Q (.agg #[.int .u64 x_9, .int .u64 x_10, .int .u64 x_11, .int .u64 x_12, .int .u64 x_13])) := by kernel_rfl
theorem hoardref19_Start_j2_def (Q : Value → WP)  (t0_b : Nat) (t0_o : Nat) (w1_b : Nat) (w1_o : Nat) : hoardref19_Start_j2 idJ Q  t0_b t0_o w1_b w1_o = codeI Try.prog hoardref19_Start_kp idJ (cAt [true, true, true] (bodyOf Try.f33)) (retK Try.prog Try.f33 Q) noX (retK Try.prog Try.f33 Q) ((.pointer (some ⟨t0_b, t0_o, none⟩)) :: (.pointer (some ⟨w1_b, w1_o, none⟩)) :: us 12 []) := by kernel_rfl
theorem hoardref19_Start_l1_raw (jn : Jn) (Q : Value → WP)  (m1 : Nat) (t0_b : Nat) (t0_o : Nat) (w1_b : Nat) (w1_o : Nat) (i2 : Int) : hoardref19_Start_l1 jn Q  (m1 + 1) t0_b t0_o w1_b w1_o i2 = (
  ite2 (decide (i2 < (5 : Int))) (
  when ((0 : Int) ≤ i2 ∧ i2 < ((5 : Nat) : Int)) <|
  st w1_b (w1_o + (i2).toNat * 1) (.int .u64 (858993459 : Int)) <|
  hoardref19_Start_l1 jn Q  m1 t0_b t0_o w1_b w1_o (IntKind.wrap .i64 (i2 + (1 : Int)))) (
  hoardref19_Start_j2 jn Q  t0_b t0_o w1_b w1_o)) := by kernel_rfl
theorem hoardref19_Start_l1_zero (jn : Jn) (Q : Value → WP)  (t0_b : Nat) (t0_o : Nat) (w1_b : Nat) (w1_o : Nat) (i2 : Int) : hoardref19_Start_l1 jn Q  0 t0_b t0_o w1_b w1_o i2 = bot := by kernel_rfl
theorem hoardref19_Start_raw (jn : Jn)  (Q : Value → WP) : funJ jn Try.prog hoardref19_Start_kp Try.f33 [] Q = (
  newB [.int .u64 (0 : Int), .int .u64 (0 : Int), .int .u64 (0 : Int), .int .u64 (0 : Int), .int .u64 (0 : Int)] ty_hoardref19_Weights fun b_1 =>
  newB [.int .u64 (0 : Int), .int .u64 (0 : Int), .int .u64 (0 : Int), .int .u64 (0 : Int), .int .u64 (0 : Int)] ty_hoardref19_Weights fun b_2 =>
  exM fun m => hoardref19_Start_l1 jn Q  m b_1 0 b_2 0 (0 : Int)) := by kernel_rfl
theorem hoardref19_Start_def  (Q : Value → WP) : hoardref19_Start  Q = funJ idJ Try.prog hoardref19_Start_kp Try.f33 [] Q := rfl
theorem hoardref19_Start_calls {Q : Value → WP} {w : World} (h : hoardref19_Start Q w) : Calls Try.prog id_hoardref19_Start #[] w fun e w' => ∃ v, e = .returned v ∧ Q v w' :=
  funJ_calls mixed Try.func33 rfl h

-- hoard/fix.Mul
def fix_Mul_kp : KP := ⟨[], []⟩
def fix_Mul (a0 : Int) (b1 : Int) (Q : Value → WP) : WP := funJ idJ Try.prog fix_Mul_kp Try.f34 [.int .u64 a0, .int .u64 b1] Q
theorem fix_Mul_raw (jn : Jn) (a0 : Int) (b1 : Int) (Q : Value → WP) : funJ jn Try.prog fix_Mul_kp Try.f34 [.int .u64 a0, .int .u64 b1] Q = (
  call1 (.int .u64) Try.prog id_fix_Scale [.int .u64 a0, .int .u64 b1, .int .u64 (4294967296 : Int)] fun x_1 =>
  Q (.int .u64 x_1)) := by kernel_rfl
theorem fix_Mul_def (a0 : Int) (b1 : Int) (Q : Value → WP) : fix_Mul a0 b1 Q = funJ idJ Try.prog fix_Mul_kp Try.f34 [.int .u64 a0, .int .u64 b1] Q := rfl
theorem fix_Mul_calls {a0 : Int} {b1 : Int} {Q : Value → WP} {w : World} (h : fix_Mul a0 b1 Q w) : Calls Try.prog id_fix_Mul #[.int .u64 a0, .int .u64 b1] w fun e w' => ∃ v, e = .returned v ∧ Q v w' :=
  funJ_calls mixed Try.func34 rfl h

-- hoard/hoardref2.Mul
def hoardref2_Mul_kp : KP := ⟨[], []⟩
def hoardref2_Mul (a0 : Int) (b1 : Int) (Q : Value → WP) : WP := funJ idJ Try.prog hoardref2_Mul_kp Try.f35 [.int .u64 a0, .int .u64 b1] Q
theorem hoardref2_Mul_raw (jn : Jn) (a0 : Int) (b1 : Int) (Q : Value → WP) : funJ jn Try.prog hoardref2_Mul_kp Try.f35 [.int .u64 a0, .int .u64 b1] Q = (
  call2 (.int .u64) (.int .u64) Try.prog id_hoardref2_times [.int .u64 a0, .int .u64 b1] fun x_1 x_2 =>
  when ((0 : Int) ≤ (32 : Int)) <|
  ite2 ((shrV .u64 x_1 (32 : Int)) != (0 : Int)) (
  Q (.int .u64 (18446744073709551615 : Int))) (
  when ((0 : Int) ≤ (32 : Int)) <|
  when ((0 : Int) ≤ (32 : Int)) <|
  Q (.int .u64 (bits .or .u64 (shlV .u64 x_1 (32 : Int)) (shrV .u64 x_2 (32 : Int)))))) := by kernel_rfl
theorem hoardref2_Mul_def (a0 : Int) (b1 : Int) (Q : Value → WP) : hoardref2_Mul a0 b1 Q = funJ idJ Try.prog hoardref2_Mul_kp Try.f35 [.int .u64 a0, .int .u64 b1] Q := rfl
theorem hoardref2_Mul_calls {a0 : Int} {b1 : Int} {Q : Value → WP} {w : World} (h : hoardref2_Mul a0 b1 Q w) : Calls Try.prog id_hoardref2_Mul #[.int .u64 a0, .int .u64 b1] w fun e w' => ∃ v, e = .returned v ∧ Q v w' :=
  funJ_calls mixed Try.func35 rfl h

-- hoard/fix.Scale
def fix_Scale_kp : KP := ⟨[], []⟩
def fix_Scale (a0 : Int) (num1 : Int) (den2 : Int) (Q : Value → WP) : WP := funJ idJ Try.prog fix_Scale_kp Try.f36 [.int .u64 a0, .int .u64 num1, .int .u64 den2] Q
theorem fix_Scale_raw (jn : Jn) (a0 : Int) (num1 : Int) (den2 : Int) (Q : Value → WP) : funJ jn Try.prog fix_Scale_kp Try.f36 [.int .u64 a0, .int .u64 num1, .int .u64 den2] Q = (
  call2 (.int .u64) (.int .u64) Try.prog id_math_bits_Mul64 [.int .u64 a0, .int .u64 num1] fun x_1 x_2 =>
  ite2 (decide (x_1 ≥ den2)) (
  Q (.int .u64 (18446744073709551615 : Int))) (
  call2 (.int .u64) (.int .u64) Try.prog id_math_bits_Div64 [.int .u64 x_1, .int .u64 x_2, .int .u64 den2] fun x_3 x_4 =>
  Q (.int .u64 x_3))) := by kernel_rfl
theorem fix_Scale_def (a0 : Int) (num1 : Int) (den2 : Int) (Q : Value → WP) : fix_Scale a0 num1 den2 Q = funJ idJ Try.prog fix_Scale_kp Try.f36 [.int .u64 a0, .int .u64 num1, .int .u64 den2] Q := rfl
theorem fix_Scale_calls {a0 : Int} {num1 : Int} {den2 : Int} {Q : Value → WP} {w : World} (h : fix_Scale a0 num1 den2 Q w) : Calls Try.prog id_fix_Scale #[.int .u64 a0, .int .u64 num1, .int .u64 den2] w fun e w' => ∃ v, e = .returned v ∧ Q v w' :=
  funJ_calls mixed Try.func36 rfl h

-- hoard/hoardref2.Scale
def hoardref2_Scale_kp : KP := ⟨[(15, [2, 7, 8, 9, 10, 11]), (24, [2, 7, 8, 9, 10, 11, 12]), (36, [2, 7, 8, 9, 10, 11, 57]), (40, [9])], []⟩
def hoardref2_Scale_j3 (jn : Jn) (Q : Value → WP) (m1 : Nat) (den2 : Int) (h7 : Int) (l8 : Int) (q9 : Int) (r10 : Int) (i11 : Int) (t57 : Bool) : WP := jn 36 (fun ρ => codeI Try.prog hoardref2_Scale_kp jn (cAt [true, true, true, true, false, true, false, false, true, false, false, true, true, true, true, true, true, true] (bodyOf Try.f37)) (seqK Try.prog hoardref2_Scale_kp jn (cAt [true, true, true, true, false, true, false, false, true, true] (bodyOf Try.f37)) (lopK Try.prog hoardref2_Scale_kp jn (cAt [true, true, true, true, false, true, false, false] (bodyOf Try.f37)) (blkX 0 (seqK Try.prog hoardref2_Scale_kp jn (cAt [true, true, true, true, true] (bodyOf Try.f37)) (retK Try.prog Try.f37 Q) noX (retK Try.prog Try.f37 Q)) noX) (retK Try.prog Try.f37 Q) m1) (blkX 0 (seqK Try.prog hoardref2_Scale_kp jn (cAt [true, true, true, true, true] (bodyOf Try.f37)) (retK Try.prog Try.f37 Q) noX (retK Try.prog Try.f37 Q)) noX) (retK Try.prog Try.f37 Q)) (blkX 1 (seqK Try.prog hoardref2_Scale_kp jn (cAt [true, true, true, true, false, true, false, false, true, true] (bodyOf Try.f37)) (lopK Try.prog hoardref2_Scale_kp jn (cAt [true, true, true, true, false, true, false, false] (bodyOf Try.f37)) (blkX 0 (seqK Try.prog hoardref2_Scale_kp jn (cAt [true, true, true, true, true] (bodyOf Try.f37)) (retK Try.prog Try.f37 Q) noX (retK Try.prog Try.f37 Q)) noX) (retK Try.prog Try.f37 Q) m1) (blkX 0 (seqK Try.prog hoardref2_Scale_kp jn (cAt [true, true, true, true, true] (bodyOf Try.f37)) (retK Try.prog Try.f37 Q) noX (retK Try.prog Try.f37 Q)) noX) (retK Try.prog Try.f37 Q)) (blkX 0 (seqK Try.prog hoardref2_Scale_kp jn (cAt [true, true, true, true, true] (bodyOf Try.f37)) (retK Try.prog Try.f37 Q) noX (retK Try.prog Try.f37 Q)) noX)) (retK Try.prog Try.f37 Q) ρ) (us 2 ((.int .u64 den2) :: us 4 ((.int .u64 h7) :: (.int .u64 l8) :: (.int .u64 q9) :: (.int .u64 r10) :: (.int .i64 i11) :: us 45 ((.bool t57) :: us 6 []))))
def hoardref2_Scale_j2 (jn : Jn) (Q : Value → WP) (m1 : Nat) (den2 : Int) (h7 : Int) (l8 : Int) (q9 : Int) (r10 : Int) (i11 : Int) (bit12 : Int) : WP := jn 24 (fun ρ => codeI Try.prog hoardref2_Scale_kp jn (cAt [true, true, true, true, false, true, false, false, true, false, false, true, true] (bodyOf Try.f37)) (seqK Try.prog hoardref2_Scale_kp jn (cAt [true, true, true, true, false, true, false, false, true, true] (bodyOf Try.f37)) (lopK Try.prog hoardref2_Scale_kp jn (cAt [true, true, true, true, false, true, false, false] (bodyOf Try.f37)) (blkX 0 (seqK Try.prog hoardref2_Scale_kp jn (cAt [true, true, true, true, true] (bodyOf Try.f37)) (retK Try.prog Try.f37 Q) noX (retK Try.prog Try.f37 Q)) noX) (retK Try.prog Try.f37 Q) m1) (blkX 0 (seqK Try.prog hoardref2_Scale_kp jn (cAt [true, true, true, true, true] (bodyOf Try.f37)) (retK Try.prog Try.f37 Q) noX (retK Try.prog Try.f37 Q)) noX) (retK Try.prog Try.f37 Q)) (blkX 1 (seqK Try.prog hoardref2_Scale_kp jn (cAt [true, true, true, true, false, true, false, false, true, true] (bodyOf Try.f37)) (lopK Try.prog hoardref2_Scale_kp jn (cAt [true, true, true, true, false, true, false, false] (bodyOf Try.f37)) (blkX 0 (seqK Try.prog hoardref2_Scale_kp jn (cAt [true, true, true, true, true] (bodyOf Try.f37)) (retK Try.prog Try.f37 Q) noX (retK Try.prog Try.f37 Q)) noX) (retK Try.prog Try.f37 Q) m1) (blkX 0 (seqK Try.prog hoardref2_Scale_kp jn (cAt [true, true, true, true, true] (bodyOf Try.f37)) (retK Try.prog Try.f37 Q) noX (retK Try.prog Try.f37 Q)) noX) (retK Try.prog Try.f37 Q)) (blkX 0 (seqK Try.prog hoardref2_Scale_kp jn (cAt [true, true, true, true, true] (bodyOf Try.f37)) (retK Try.prog Try.f37 Q) noX (retK Try.prog Try.f37 Q)) noX)) (retK Try.prog Try.f37 Q) ρ) (us 2 ((.int .u64 den2) :: us 4 ((.int .u64 h7) :: (.int .u64 l8) :: (.int .u64 q9) :: (.int .u64 r10) :: (.int .i64 i11) :: (.int .u64 bit12) :: us 51 [])))
def hoardref2_Scale_j4 (jn : Jn) (Q : Value → WP)  (q9 : Int) : WP := jn 40 (fun ρ => codeI Try.prog hoardref2_Scale_kp jn (cAt [true, true, true, true, true] (bodyOf Try.f37)) (retK Try.prog Try.f37 Q) noX (retK Try.prog Try.f37 Q) ρ) (us 9 ((.int .u64 q9) :: us 54 []))
def hoardref2_Scale_l1 (jn : Jn) (Q : Value → WP)  (m1 : Nat) (den2 : Int) (h7 : Int) (l8 : Int) (q9 : Int) (r10 : Int) (i11 : Int) : WP := lop Try.prog hoardref2_Scale_kp jn (cAt [true, true, true, true, false, true, false, false] (bodyOf Try.f37)) (blkX 0 (seqK Try.prog hoardref2_Scale_kp jn (cAt [true, true, true, true, true] (bodyOf Try.f37)) (retK Try.prog Try.f37 Q) noX (retK Try.prog Try.f37 Q)) noX) (retK Try.prog Try.f37 Q) m1 (us 2 ((.int .u64 den2) :: us 4 ((.int .u64 h7) :: (.int .u64 l8) :: (.int .u64 q9) :: (.int .u64 r10) :: (.int .i64 i11) :: us 52 [])))
def hoardref2_Scale (a0 : Int) (num1 : Int) (den2 : Int) (Q : Value → WP) : WP := funJ idJ Try.prog hoardref2_Scale_kp Try.f37 [.int .u64 a0, .int .u64 num1, .int .u64 den2] Q
theorem hoardref2_Scale_j3_raw (jn : Jn) (Q : Value → WP) (m1 : Nat) (den2 : Int) (h7 : Int) (l8 : Int) (q9 : Int) (r10 : Int) (i11 : Int) (t57 : Bool) : codeI Try.prog hoardref2_Scale_kp jn (cAt [true, true, true, true, false, true, false, false, true, false, false, true, true, true, true, true, true, true] (bodyOf Try.f37)) (seqK Try.prog hoardref2_Scale_kp jn (cAt [true, true, true, true, false, true, false, false, true, true] (bodyOf Try.f37)) (lopK Try.prog hoardref2_Scale_kp jn (cAt [true, true, true, true, false, true, false, false] (bodyOf Try.f37)) (blkX 0 (seqK Try.prog hoardref2_Scale_kp jn (cAt [true, true, true, true, true] (bodyOf Try.f37)) (retK Try.prog Try.f37 Q) noX (retK Try.prog Try.f37 Q)) noX) (retK Try.prog Try.f37 Q) m1) (blkX 0 (seqK Try.prog hoardref2_Scale_kp jn (cAt [true, true, true, true, true] (bodyOf Try.f37)) (retK Try.prog Try.f37 Q) noX (retK Try.prog Try.f37 Q)) noX) (retK Try.prog Try.f37 Q)) (blkX 1 (seqK Try.prog hoardref2_Scale_kp jn (cAt [true, true, true, true, false, true, false, false, true, true] (bodyOf Try.f37)) (lopK Try.prog hoardref2_Scale_kp jn (cAt [true, true, true, true, false, true, false, false] (bodyOf Try.f37)) (blkX 0 (seqK Try.prog hoardref2_Scale_kp jn (cAt [true, true, true, true, true] (bodyOf Try.f37)) (retK Try.prog Try.f37 Q) noX (retK Try.prog Try.f37 Q)) noX) (retK Try.prog Try.f37 Q) m1) (blkX 0 (seqK Try.prog hoardref2_Scale_kp jn (cAt [true, true, true, true, true] (bodyOf Try.f37)) (retK Try.prog Try.f37 Q) noX (retK Try.prog Try.f37 Q)) noX) (retK Try.prog Try.f37 Q)) (blkX 0 (seqK Try.prog hoardref2_Scale_kp jn (cAt [true, true, true, true, true] (bodyOf Try.f37)) (retK Try.prog Try.f37 Q) noX (retK Try.prog Try.f37 Q)) noX)) (retK Try.prog Try.f37 Q) (us 2 ((.int .u64 den2) :: us 4 ((.int .u64 h7) :: (.int .u64 l8) :: (.int .u64 q9) :: (.int .u64 r10) :: (.int .i64 i11) :: us 45 ((.bool t57) :: us 6 [])))) = (
  ite2 t57 (
  hoardref2_Scale_l1 jn Q  m1 den2 h7 l8 (bits .or .u64 q9 (1 : Int)) (IntKind.wrap .u64 (r10 - den2)) (IntKind.wrap .i64 (i11 - (1 : Int)))) (
  hoardref2_Scale_l1 jn Q  m1 den2 h7 l8 q9 r10 (IntKind.wrap .i64 (i11 - (1 : Int))))) := by kernel_rfl
theorem hoardref2_Scale_j3_def (Q : Value → WP) (m1 : Nat) (den2 : Int) (h7 : Int) (l8 : Int) (q9 : Int) (r10 : Int) (i11 : Int) (t57 : Bool) : hoardref2_Scale_j3 idJ Q m1 den2 h7 l8 q9 r10 i11 t57 = codeI Try.prog hoardref2_Scale_kp idJ (cAt [true, true, true, true, false, true, false, false, true, false, false, true, true, true, true, true, true, true] (bodyOf Try.f37)) (seqK Try.prog hoardref2_Scale_kp idJ (cAt [true, true, true, true, false, true, false, false, true, true] (bodyOf Try.f37)) (lopK Try.prog hoardref2_Scale_kp idJ (cAt [true, true, true, true, false, true, false, false] (bodyOf Try.f37)) (blkX 0 (seqK Try.prog hoardref2_Scale_kp idJ (cAt [true, true, true, true, true] (bodyOf Try.f37)) (retK Try.prog Try.f37 Q) noX (retK Try.prog Try.f37 Q)) noX) (retK Try.prog Try.f37 Q) m1) (blkX 0 (seqK Try.prog hoardref2_Scale_kp idJ (cAt [true, true, true, true, true] (bodyOf Try.f37)) (retK Try.prog Try.f37 Q) noX (retK Try.prog Try.f37 Q)) noX) (retK Try.prog Try.f37 Q)) (blkX 1 (seqK Try.prog hoardref2_Scale_kp idJ (cAt [true, true, true, true, false, true, false, false, true, true] (bodyOf Try.f37)) (lopK Try.prog hoardref2_Scale_kp idJ (cAt [true, true, true, true, false, true, false, false] (bodyOf Try.f37)) (blkX 0 (seqK Try.prog hoardref2_Scale_kp idJ (cAt [true, true, true, true, true] (bodyOf Try.f37)) (retK Try.prog Try.f37 Q) noX (retK Try.prog Try.f37 Q)) noX) (retK Try.prog Try.f37 Q) m1) (blkX 0 (seqK Try.prog hoardref2_Scale_kp idJ (cAt [true, true, true, true, true] (bodyOf Try.f37)) (retK Try.prog Try.f37 Q) noX (retK Try.prog Try.f37 Q)) noX) (retK Try.prog Try.f37 Q)) (blkX 0 (seqK Try.prog hoardref2_Scale_kp idJ (cAt [true, true, true, true, true] (bodyOf Try.f37)) (retK Try.prog Try.f37 Q) noX (retK Try.prog Try.f37 Q)) noX)) (retK Try.prog Try.f37 Q) (us 2 ((.int .u64 den2) :: us 4 ((.int .u64 h7) :: (.int .u64 l8) :: (.int .u64 q9) :: (.int .u64 r10) :: (.int .i64 i11) :: us 45 ((.bool t57) :: us 6 [])))) := by kernel_rfl
theorem hoardref2_Scale_j2_raw (jn : Jn) (Q : Value → WP) (m1 : Nat) (den2 : Int) (h7 : Int) (l8 : Int) (q9 : Int) (r10 : Int) (i11 : Int) (bit12 : Int) : codeI Try.prog hoardref2_Scale_kp jn (cAt [true, true, true, true, false, true, false, false, true, false, false, true, true] (bodyOf Try.f37)) (seqK Try.prog hoardref2_Scale_kp jn (cAt [true, true, true, true, false, true, false, false, true, true] (bodyOf Try.f37)) (lopK Try.prog hoardref2_Scale_kp jn (cAt [true, true, true, true, false, true, false, false] (bodyOf Try.f37)) (blkX 0 (seqK Try.prog hoardref2_Scale_kp jn (cAt [true, true, true, true, true] (bodyOf Try.f37)) (retK Try.prog Try.f37 Q) noX (retK Try.prog Try.f37 Q)) noX) (retK Try.prog Try.f37 Q) m1) (blkX 0 (seqK Try.prog hoardref2_Scale_kp jn (cAt [true, true, true, true, true] (bodyOf Try.f37)) (retK Try.prog Try.f37 Q) noX (retK Try.prog Try.f37 Q)) noX) (retK Try.prog Try.f37 Q)) (blkX 1 (seqK Try.prog hoardref2_Scale_kp jn (cAt [true, true, true, true, false, true, false, false, true, true] (bodyOf Try.f37)) (lopK Try.prog hoardref2_Scale_kp jn (cAt [true, true, true, true, false, true, false, false] (bodyOf Try.f37)) (blkX 0 (seqK Try.prog hoardref2_Scale_kp jn (cAt [true, true, true, true, true] (bodyOf Try.f37)) (retK Try.prog Try.f37 Q) noX (retK Try.prog Try.f37 Q)) noX) (retK Try.prog Try.f37 Q) m1) (blkX 0 (seqK Try.prog hoardref2_Scale_kp jn (cAt [true, true, true, true, true] (bodyOf Try.f37)) (retK Try.prog Try.f37 Q) noX (retK Try.prog Try.f37 Q)) noX) (retK Try.prog Try.f37 Q)) (blkX 0 (seqK Try.prog hoardref2_Scale_kp jn (cAt [true, true, true, true, true] (bodyOf Try.f37)) (retK Try.prog Try.f37 Q) noX (retK Try.prog Try.f37 Q)) noX)) (retK Try.prog Try.f37 Q) (us 2 ((.int .u64 den2) :: us 4 ((.int .u64 h7) :: (.int .u64 l8) :: (.int .u64 q9) :: (.int .u64 r10) :: (.int .i64 i11) :: (.int .u64 bit12) :: us 51 []))) = (
  when ((0 : Int) ≤ (63 : Int)) <|
  ite2 ((shrV .u64 q9 (63 : Int)) != (0 : Int)) (
  Q (.int .u64 (18446744073709551615 : Int))) (
  when ((0 : Int) ≤ (63 : Int)) <|
  when ((0 : Int) ≤ (1 : Int)) <|
  when ((0 : Int) ≤ (1 : Int)) <|
  ite2 ((shrV .u64 r10 (63 : Int)) == (1 : Int)) (
  hoardref2_Scale_j3 jn Q m1 den2 h7 l8 (shlV .u64 q9 (1 : Int)) (bits .or .u64 (shlV .u64 r10 (1 : Int)) bit12) i11 true) (
  hoardref2_Scale_j3 jn Q m1 den2 h7 l8 (shlV .u64 q9 (1 : Int)) (bits .or .u64 (shlV .u64 r10 (1 : Int)) bit12) i11 (decide ((bits .or .u64 (shlV .u64 r10 (1 : Int)) bit12) ≥ den2))))) := by kernel_rfl
theorem hoardref2_Scale_j2_def (Q : Value → WP) (m1 : Nat) (den2 : Int) (h7 : Int) (l8 : Int) (q9 : Int) (r10 : Int) (i11 : Int) (bit12 : Int) : hoardref2_Scale_j2 idJ Q m1 den2 h7 l8 q9 r10 i11 bit12 = codeI Try.prog hoardref2_Scale_kp idJ (cAt [true, true, true, true, false, true, false, false, true, false, false, true, true] (bodyOf Try.f37)) (seqK Try.prog hoardref2_Scale_kp idJ (cAt [true, true, true, true, false, true, false, false, true, true] (bodyOf Try.f37)) (lopK Try.prog hoardref2_Scale_kp idJ (cAt [true, true, true, true, false, true, false, false] (bodyOf Try.f37)) (blkX 0 (seqK Try.prog hoardref2_Scale_kp idJ (cAt [true, true, true, true, true] (bodyOf Try.f37)) (retK Try.prog Try.f37 Q) noX (retK Try.prog Try.f37 Q)) noX) (retK Try.prog Try.f37 Q) m1) (blkX 0 (seqK Try.prog hoardref2_Scale_kp idJ (cAt [true, true, true, true, true] (bodyOf Try.f37)) (retK Try.prog Try.f37 Q) noX (retK Try.prog Try.f37 Q)) noX) (retK Try.prog Try.f37 Q)) (blkX 1 (seqK Try.prog hoardref2_Scale_kp idJ (cAt [true, true, true, true, false, true, false, false, true, true] (bodyOf Try.f37)) (lopK Try.prog hoardref2_Scale_kp idJ (cAt [true, true, true, true, false, true, false, false] (bodyOf Try.f37)) (blkX 0 (seqK Try.prog hoardref2_Scale_kp idJ (cAt [true, true, true, true, true] (bodyOf Try.f37)) (retK Try.prog Try.f37 Q) noX (retK Try.prog Try.f37 Q)) noX) (retK Try.prog Try.f37 Q) m1) (blkX 0 (seqK Try.prog hoardref2_Scale_kp idJ (cAt [true, true, true, true, true] (bodyOf Try.f37)) (retK Try.prog Try.f37 Q) noX (retK Try.prog Try.f37 Q)) noX) (retK Try.prog Try.f37 Q)) (blkX 0 (seqK Try.prog hoardref2_Scale_kp idJ (cAt [true, true, true, true, true] (bodyOf Try.f37)) (retK Try.prog Try.f37 Q) noX (retK Try.prog Try.f37 Q)) noX)) (retK Try.prog Try.f37 Q) (us 2 ((.int .u64 den2) :: us 4 ((.int .u64 h7) :: (.int .u64 l8) :: (.int .u64 q9) :: (.int .u64 r10) :: (.int .i64 i11) :: (.int .u64 bit12) :: us 51 []))) := by kernel_rfl
theorem hoardref2_Scale_j4_raw (jn : Jn) (Q : Value → WP)  (q9 : Int) : codeI Try.prog hoardref2_Scale_kp jn (cAt [true, true, true, true, true] (bodyOf Try.f37)) (retK Try.prog Try.f37 Q) noX (retK Try.prog Try.f37 Q) (us 9 ((.int .u64 q9) :: us 54 [])) = (
  Q (.int .u64 q9)) := by kernel_rfl
theorem hoardref2_Scale_j4_def (Q : Value → WP)  (q9 : Int) : hoardref2_Scale_j4 idJ Q  q9 = codeI Try.prog hoardref2_Scale_kp idJ (cAt [true, true, true, true, true] (bodyOf Try.f37)) (retK Try.prog Try.f37 Q) noX (retK Try.prog Try.f37 Q) (us 9 ((.int .u64 q9) :: us 54 [])) := by kernel_rfl
theorem hoardref2_Scale_l1_raw (jn : Jn) (Q : Value → WP)  (m1 : Nat) (den2 : Int) (h7 : Int) (l8 : Int) (q9 : Int) (r10 : Int) (i11 : Int) : hoardref2_Scale_l1 jn Q  (m1 + 1) den2 h7 l8 q9 r10 i11 = (
  ite2 (decide (i11 ≥ (0 : Int))) (
  when ((0 : Int) ≤ (IntKind.wrap .u64 (bits .and .i64 i11 (63 : Int)))) <|
  ite2 (decide (i11 ≥ (64 : Int))) (
  when ((0 : Int) ≤ (IntKind.wrap .u64 (IntKind.wrap .i64 (i11 - (64 : Int))))) <|
  hoardref2_Scale_j2 jn Q m1 den2 h7 l8 q9 r10 i11 (bits .and .u64 (shrV .u64 h7 (IntKind.wrap .u64 (IntKind.wrap .i64 (i11 - (64 : Int))))) (1 : Int))) (
  hoardref2_Scale_j2 jn Q m1 den2 h7 l8 q9 r10 i11 (bits .and .u64 (shrV .u64 l8 (IntKind.wrap .u64 (bits .and .i64 i11 (63 : Int)))) (1 : Int)))) (
  hoardref2_Scale_j4 jn Q  q9)) := by kernel_rfl
theorem hoardref2_Scale_l1_zero (jn : Jn) (Q : Value → WP)  (den2 : Int) (h7 : Int) (l8 : Int) (q9 : Int) (r10 : Int) (i11 : Int) : hoardref2_Scale_l1 jn Q  0 den2 h7 l8 q9 r10 i11 = bot := by kernel_rfl
theorem hoardref2_Scale_raw (jn : Jn) (a0 : Int) (num1 : Int) (den2 : Int) (Q : Value → WP) : funJ jn Try.prog hoardref2_Scale_kp Try.f37 [.int .u64 a0, .int .u64 num1, .int .u64 den2] Q = (
  ite2 (den2 == (0 : Int)) (
  Q (.int .u64 (18446744073709551615 : Int))) (
  call2 (.int .u64) (.int .u64) Try.prog id_hoardref2_times [.int .u64 a0, .int .u64 num1] fun x_1 x_2 =>
  exM fun m => hoardref2_Scale_l1 jn Q  m den2 x_1 x_2 (0 : Int) (0 : Int) (127 : Int))) := by kernel_rfl
theorem hoardref2_Scale_def (a0 : Int) (num1 : Int) (den2 : Int) (Q : Value → WP) : hoardref2_Scale a0 num1 den2 Q = funJ idJ Try.prog hoardref2_Scale_kp Try.f37 [.int .u64 a0, .int .u64 num1, .int .u64 den2] Q := rfl
theorem hoardref2_Scale_calls {a0 : Int} {num1 : Int} {den2 : Int} {Q : Value → WP} {w : World} (h : hoardref2_Scale a0 num1 den2 Q w) : Calls Try.prog id_hoardref2_Scale #[.int .u64 a0, .int .u64 num1, .int .u64 den2] w fun e w' => ∃ v, e = .returned v ∧ Q v w' :=
  funJ_calls mixed Try.func37 rfl h

-- hoard/hoardlaw2.known
def hoardlaw2_known_kp : KP := ⟨[], []⟩
def hoardlaw2_known  (Q : Value → WP) : WP := funJ idJ Try.prog hoardlaw2_known_kp Try.f38 [] Q
theorem hoardlaw2_known_raw (jn : Jn)  (Q : Value → WP) : funJ jn Try.prog hoardlaw2_known_kp Try.f38 [] Q = (
  call1 (.int .u64) Try.prog id_fix_Mul [.int .u64 (4294967296 : Int), .int .u64 (5 : Int)] fun x_1 =>
  ite2 (x_1 == (5 : Int)) (
  call1 (.int .u64) Try.prog id_fix_Scale [.int .u64 (7 : Int), .int .u64 (3 : Int), .int .u64 (2 : Int)] fun x_2 =>
  ite2 (x_2 == (10 : Int)) (
  call1 (.int .i64) Try.prog id_fix_Inc [.int .i64 (15 : Int), .int .i64 (15 : Int)] fun x_3 =>
  ite2 (x_3 == (15 : Int)) (
  call1 (.int .i64) Try.prog id_fix_Inc [.int .i64 (3 : Int), .int .i64 (15 : Int)] fun x_4 =>
  Q (.bool (x_4 == (4 : Int)))) (
  Q (.bool false))) (
  Q (.bool false))) (
  Q (.bool false))) := by kernel_rfl
theorem hoardlaw2_known_def  (Q : Value → WP) : hoardlaw2_known  Q = funJ idJ Try.prog hoardlaw2_known_kp Try.f38 [] Q := rfl
theorem hoardlaw2_known_calls {Q : Value → WP} {w : World} (h : hoardlaw2_known Q w) : Calls Try.prog id_hoardlaw2_known #[] w fun e w' => ∃ v, e = .returned v ∧ Q v w' :=
  funJ_calls mixed Try.func38 rfl h

-- hoard/fix.Inc
def fix_Inc_kp : KP := ⟨[], []⟩
def fix_Inc (n0 : Int) (most1 : Int) (Q : Value → WP) : WP := funJ idJ Try.prog fix_Inc_kp Try.f39 [.int .i64 n0, .int .i64 most1] Q
theorem fix_Inc_raw (jn : Jn) (n0 : Int) (most1 : Int) (Q : Value → WP) : funJ jn Try.prog fix_Inc_kp Try.f39 [.int .i64 n0, .int .i64 most1] Q = (
  ite2 (decide (n0 ≥ most1)) (
  Q (.int .i64 n0)) (
  Q (.int .i64 (IntKind.wrap .i64 (n0 + (1 : Int)))))) := by kernel_rfl
theorem fix_Inc_def (n0 : Int) (most1 : Int) (Q : Value → WP) : fix_Inc n0 most1 Q = funJ idJ Try.prog fix_Inc_kp Try.f39 [.int .i64 n0, .int .i64 most1] Q := rfl
theorem fix_Inc_calls {n0 : Int} {most1 : Int} {Q : Value → WP} {w : World} (h : fix_Inc n0 most1 Q w) : Calls Try.prog id_fix_Inc #[.int .i64 n0, .int .i64 most1] w fun e w' => ∃ v, e = .returned v ∧ Q v w' :=
  funJ_calls mixed Try.func39 rfl h

-- hoard/hoardref2.Inc
def hoardref2_Inc_kp : KP := ⟨[], []⟩
def hoardref2_Inc (n0 : Int) (most1 : Int) (Q : Value → WP) : WP := funJ idJ Try.prog hoardref2_Inc_kp Try.f40 [.int .i64 n0, .int .i64 most1] Q
theorem hoardref2_Inc_raw (jn : Jn) (n0 : Int) (most1 : Int) (Q : Value → WP) : funJ jn Try.prog hoardref2_Inc_kp Try.f40 [.int .i64 n0, .int .i64 most1] Q = (
  ite2 (decide (n0 ≥ most1)) (
  Q (.int .i64 n0)) (
  Q (.int .i64 (IntKind.wrap .i64 (n0 + (1 : Int)))))) := by kernel_rfl
theorem hoardref2_Inc_def (n0 : Int) (most1 : Int) (Q : Value → WP) : hoardref2_Inc n0 most1 Q = funJ idJ Try.prog hoardref2_Inc_kp Try.f40 [.int .i64 n0, .int .i64 most1] Q := rfl
theorem hoardref2_Inc_calls {n0 : Int} {most1 : Int} {Q : Value → WP} {w : World} (h : hoardref2_Inc n0 most1 Q w) : Calls Try.prog id_hoardref2_Inc #[.int .i64 n0, .int .i64 most1] w fun e w' => ∃ v, e = .returned v ∧ Q v w' :=
  funJ_calls mixed Try.func40 rfl h

-- hoard/fix.Add
def fix_Add_kp : KP := ⟨[], []⟩
def fix_Add (a0 : Int) (b1 : Int) (Q : Value → WP) : WP := funJ idJ Try.prog fix_Add_kp Try.f41 [.int .i64 a0, .int .i64 b1] Q
theorem fix_Add_raw (jn : Jn) (a0 : Int) (b1 : Int) (Q : Value → WP) : funJ jn Try.prog fix_Add_kp Try.f41 [.int .i64 a0, .int .i64 b1] Q = (
  call1 (.int .i64) Try.prog id_fix_Clamp [.int .i64 a0, .int .i64 (0 : Int), .int .i64 (1099511627776 : Int)] fun x_1 =>
  call1 (.int .i64) Try.prog id_fix_Clamp [.int .i64 b1, .int .i64 (0 : Int), .int .i64 (1099511627776 : Int)] fun x_2 =>
  Q (.int .i64 (if (1099511627776 : Int) < (IntKind.wrap .i64 (x_1 + x_2)) then (1099511627776 : Int) else (IntKind.wrap .i64 (x_1 + x_2))))) := by kernel_rfl
theorem fix_Add_def (a0 : Int) (b1 : Int) (Q : Value → WP) : fix_Add a0 b1 Q = funJ idJ Try.prog fix_Add_kp Try.f41 [.int .i64 a0, .int .i64 b1] Q := rfl
theorem fix_Add_calls {a0 : Int} {b1 : Int} {Q : Value → WP} {w : World} (h : fix_Add a0 b1 Q w) : Calls Try.prog id_fix_Add #[.int .i64 a0, .int .i64 b1] w fun e w' => ∃ v, e = .returned v ∧ Q v w' :=
  funJ_calls mixed Try.func41 rfl h

-- hoard/hoardref2.Add
def hoardref2_Add_kp : KP := ⟨[], []⟩
def hoardref2_Add (a0 : Int) (b1 : Int) (Q : Value → WP) : WP := funJ idJ Try.prog hoardref2_Add_kp Try.f42 [.int .i64 a0, .int .i64 b1] Q
theorem hoardref2_Add_raw (jn : Jn) (a0 : Int) (b1 : Int) (Q : Value → WP) : funJ jn Try.prog hoardref2_Add_kp Try.f42 [.int .i64 a0, .int .i64 b1] Q = (
  call1 (.int .i64) Try.prog id_hoardref2_Clamp [.int .i64 a0, .int .i64 (0 : Int), .int .i64 (1099511627776 : Int)] fun x_1 =>
  call1 (.int .i64) Try.prog id_hoardref2_Clamp [.int .i64 b1, .int .i64 (0 : Int), .int .i64 (1099511627776 : Int)] fun x_2 =>
  Q (.int .i64 (if (IntKind.wrap .i64 (x_1 + x_2)) < (1099511627776 : Int) then (IntKind.wrap .i64 (x_1 + x_2)) else (1099511627776 : Int)))) := by kernel_rfl
theorem hoardref2_Add_def (a0 : Int) (b1 : Int) (Q : Value → WP) : hoardref2_Add a0 b1 Q = funJ idJ Try.prog hoardref2_Add_kp Try.f42 [.int .i64 a0, .int .i64 b1] Q := rfl
theorem hoardref2_Add_calls {a0 : Int} {b1 : Int} {Q : Value → WP} {w : World} (h : hoardref2_Add a0 b1 Q w) : Calls Try.prog id_hoardref2_Add #[.int .i64 a0, .int .i64 b1] w fun e w' => ∃ v, e = .returned v ∧ Q v w' :=
  funJ_calls mixed Try.func42 rfl h

-- hoard/fix.Clamp
def fix_Clamp_kp : KP := ⟨[], []⟩
def fix_Clamp (n0 : Int) (low1 : Int) (high2 : Int) (Q : Value → WP) : WP := funJ idJ Try.prog fix_Clamp_kp Try.f43 [.int .i64 n0, .int .i64 low1, .int .i64 high2] Q
theorem fix_Clamp_raw (jn : Jn) (n0 : Int) (low1 : Int) (high2 : Int) (Q : Value → WP) : funJ jn Try.prog fix_Clamp_kp Try.f43 [.int .i64 n0, .int .i64 low1, .int .i64 high2] Q = (
  Q (.int .i64 (if high2 < (if low1 > n0 then low1 else n0) then high2 else (if low1 > n0 then low1 else n0)))) := by kernel_rfl
theorem fix_Clamp_def (n0 : Int) (low1 : Int) (high2 : Int) (Q : Value → WP) : fix_Clamp n0 low1 high2 Q = funJ idJ Try.prog fix_Clamp_kp Try.f43 [.int .i64 n0, .int .i64 low1, .int .i64 high2] Q := rfl
theorem fix_Clamp_calls {n0 : Int} {low1 : Int} {high2 : Int} {Q : Value → WP} {w : World} (h : fix_Clamp n0 low1 high2 Q w) : Calls Try.prog id_fix_Clamp #[.int .i64 n0, .int .i64 low1, .int .i64 high2] w fun e w' => ∃ v, e = .returned v ∧ Q v w' :=
  funJ_calls mixed Try.func43 rfl h

-- hoard/hoardref2.Clamp
def hoardref2_Clamp_kp : KP := ⟨[], []⟩
def hoardref2_Clamp (n0 : Int) (low1 : Int) (high2 : Int) (Q : Value → WP) : WP := funJ idJ Try.prog hoardref2_Clamp_kp Try.f44 [.int .i64 n0, .int .i64 low1, .int .i64 high2] Q
theorem hoardref2_Clamp_raw (jn : Jn) (n0 : Int) (low1 : Int) (high2 : Int) (Q : Value → WP) : funJ jn Try.prog hoardref2_Clamp_kp Try.f44 [.int .i64 n0, .int .i64 low1, .int .i64 high2] Q = (
  Q (.int .i64 (if high2 < (if low1 > n0 then low1 else n0) then high2 else (if low1 > n0 then low1 else n0)))) := by kernel_rfl
theorem hoardref2_Clamp_def (n0 : Int) (low1 : Int) (high2 : Int) (Q : Value → WP) : hoardref2_Clamp n0 low1 high2 Q = funJ idJ Try.prog hoardref2_Clamp_kp Try.f44 [.int .i64 n0, .int .i64 low1, .int .i64 high2] Q := rfl
theorem hoardref2_Clamp_calls {n0 : Int} {low1 : Int} {high2 : Int} {Q : Value → WP} {w : World} (h : hoardref2_Clamp n0 low1 high2 Q w) : Calls Try.prog id_hoardref2_Clamp #[.int .i64 n0, .int .i64 low1, .int .i64 high2] w fun e w' => ∃ v, e = .returned v ∧ Q v w' :=
  funJ_calls mixed Try.func44 rfl h

-- hoard/weigh.Next
def weigh_Next_kp : KP := ⟨[(11, [2, 3, 4, 6, 14]), (18, [3, 6]), (23, [3, 6, 8, 32]), (30, [3, 6])], [(6, [0, 1, 2, 3, 4, 5, 7, 11])]⟩
def weigh_Next_j4 (jn : Jn) (Q : Value → WP)  (w3_b : Nat) (w3_o : Nat) (t6_b : Nat) (t6_o : Nat) : WP := jn 30 (fun ρ => codeI Try.prog weigh_Next_kp jn (cAt [true, true, true, true, true] (bodyOf Try.f45)) (retK Try.prog Try.f45 Q) noX (retK Try.prog Try.f45 Q) ρ) (us 3 ((.pointer (some ⟨w3_b, w3_o, none⟩)) :: us 2 ((.pointer (some ⟨t6_b, t6_o, none⟩)) :: us 39 [])))
def weigh_Next_l3 (jn : Jn) (Q : Value → WP)  (m3 : Nat) (w3_b : Nat) (w3_o : Nat) (t6_b : Nat) (t6_o : Nat) (t8 : Int) (t32 : Int) : WP := lop Try.prog weigh_Next_kp jn (cAt [true, true, true, true, false, true, false, false] (bodyOf Try.f45)) (blkX 2 (seqK Try.prog weigh_Next_kp jn (cAt [true, true, true, true, true] (bodyOf Try.f45)) (retK Try.prog Try.f45 Q) noX (retK Try.prog Try.f45 Q)) noX) (retK Try.prog Try.f45 Q) m3 (us 3 ((.pointer (some ⟨w3_b, w3_o, none⟩)) :: us 2 ((.pointer (some ⟨t6_b, t6_o, none⟩)) :: us 1 ((.int .u64 t8) :: us 23 ((.int .i64 t32) :: us 13 [])))))
def weigh_Next_j2 (jn : Jn) (Q : Value → WP)  (w3_b : Nat) (w3_o : Nat) (t6_b : Nat) (t6_o : Nat) : WP := jn 18 (fun ρ => codeI Try.prog weigh_Next_kp jn (cAt [true, true, true] (bodyOf Try.f45)) (retK Try.prog Try.f45 Q) noX (retK Try.prog Try.f45 Q) ρ) (us 3 ((.pointer (some ⟨w3_b, w3_o, none⟩)) :: us 2 ((.pointer (some ⟨t6_b, t6_o, none⟩)) :: us 39 [])))
def weigh_Next_l1 (jn : Jn) (Q : Value → WP)  (m1 : Nat) (all2 : Int) (w3_b : Nat) (w3_o : Nat) (ghosts4_b : Nat) (ghosts4_o : Nat) (t6_b : Nat) (t6_o : Nat) (t14 : Int) : WP := lop Try.prog weigh_Next_kp jn (cAt [true, true, false, true, false, false] (bodyOf Try.f45)) (blkX 0 (seqK Try.prog weigh_Next_kp jn (cAt [true, true, true] (bodyOf Try.f45)) (retK Try.prog Try.f45 Q) noX (retK Try.prog Try.f45 Q)) noX) (retK Try.prog Try.f45 Q) m1 (us 2 ((.int .i64 all2) :: (.pointer (some ⟨w3_b, w3_o, none⟩)) :: (.pointer (some ⟨ghosts4_b, ghosts4_o, none⟩)) :: us 1 ((.pointer (some ⟨t6_b, t6_o, none⟩)) :: us 7 ((.int .i64 t14) :: us 31 []))))
def weigh_Next (w0_0 : Int) (w0_1 : Int) (w0_2 : Int) (w0_3 : Int) (w0_4 : Int) (ghosts1_0 : Int) (ghosts1_1 : Int) (ghosts1_2 : Int) (ghosts1_3 : Int) (ghosts1_4 : Int) (all2 : Int) (Q : Value → WP) : WP := funJ idJ Try.prog weigh_Next_kp Try.f45 [.agg #[.int .u64 w0_0, .int .u64 w0_1, .int .u64 w0_2, .int .u64 w0_3, .int .u64 w0_4], .agg #[.int .i64 ghosts1_0, .int .i64 ghosts1_1, .int .i64 ghosts1_2, .int .i64 ghosts1_3, .int .i64 ghosts1_4], .int .i64 all2] Q
theorem weigh_Next_j4_raw (jn : Jn) (Q : Value → WP)  (w3_b : Nat) (w3_o : Nat) (t6_b : Nat) (t6_o : Nat) : codeI Try.prog weigh_Next_kp jn (cAt [true, true, true, true, true] (bodyOf Try.f45)) (retK Try.prog Try.f45 Q) noX (retK Try.prog Try.f45 Q) (us 3 ((.pointer (some ⟨w3_b, w3_o, none⟩)) :: us 2 ((.pointer (some ⟨t6_b, t6_o, none⟩)) :: us 39 []))) = (
  ld (.int .u64) w3_b w3_o fun x_33 =>
  ld (.int .u64) w3_b (w3_o + 1) fun x_34 =>
  ld (.int .u64) w3_b ((w3_o + 1) + 1) fun x_35 =>
  ld (.int .u64) w3_b (((w3_o + 1) + 1) + 1) fun x_36 =>
  ld (.int .u64) w3_b ((((w3_o + 1) + 1) + 1) + 1) fun x_37 =>
  fun w => Calls Try.prog id_weigh_even #[.agg #[.int .u64 x_33, .int .u64 x_34, .int .u64 x_35, .int .u64 x_36, .int .u64 x_37]] w fun e w' => ∃ x_38 : Int, ∃ x_39 : Int, ∃ x_40 : Int, ∃ x_41 : Int, ∃ x_42 : Int, e = .returned (.agg #[.int .u64 x_38, .int .u64 x_39, .int .u64 x_40, .int .u64 x_41, .int .u64 x_42]) ∧ (
  st t6_b t6_o (.int .u64 x_38) <|
  st t6_b (t6_o + 1) (.int .u64 x_39) <|
  st t6_b ((t6_o + 1) + 1) (.int .u64 x_40) <|
  st t6_b (((t6_o + 1) + 1) + 1) (.int .u64 x_41) <|
  st t6_b ((((t6_o + 1) + 1) + 1) + 1) (.int .u64 x_42) <|
  ld (.int .u64) t6_b t6_o fun x_43 =>
  ld (.int .u64) t6_b (t6_o + 1) fun x_44 =>
  ld (.int .u64) t6_b ((t6_o + 1) + 1) fun x_45 =>
  ld (.int .u64) t6_b (((t6_o + 1) + 1) + 1) fun x_46 =>
  ld (.int .u64) t6_b ((((t6_o + 1) + 1) + 1) + 1) fun x_47 =>
  Q (.agg #[.int .u64 x_43, .int .u64 x_44, .int .u64 x_45, .int .u64 x_46, .int .u64 x_47])) w') := by kernel_rfl
theorem weigh_Next_j4_def (Q : Value → WP)  (w3_b : Nat) (w3_o : Nat) (t6_b : Nat) (t6_o : Nat) : weigh_Next_j4 idJ Q  w3_b w3_o t6_b t6_o = codeI Try.prog weigh_Next_kp idJ (cAt [true, true, true, true, true] (bodyOf Try.f45)) (retK Try.prog Try.f45 Q) noX (retK Try.prog Try.f45 Q) (us 3 ((.pointer (some ⟨w3_b, w3_o, none⟩)) :: us 2 ((.pointer (some ⟨t6_b, t6_o, none⟩)) :: us 39 []))) := by kernel_rfl
theorem weigh_Next_l3_raw (jn : Jn) (Q : Value → WP)  (m3 : Nat) (w3_b : Nat) (w3_o : Nat) (t6_b : Nat) (t6_o : Nat) (t8 : Int) (t32 : Int) : weigh_Next_l3 jn Q  (m3 + 1) w3_b w3_o t6_b t6_o t8 t32 = (
  ite2 (decide (t32 < (5 : Int))) (
  when ((0 : Int) ≤ t32 ∧ t32 < ((5 : Nat) : Int)) <|
  ld (.int .u64) w3_b (w3_o + (t32).toNat * 1) fun x_31 =>
  call1 (.int .u64) Try.prog id_fix_Scale [.int .u64 x_31, .int .u64 (4294967296 : Int), .int .u64 t8] fun x_32 =>
  when ((0 : Int) ≤ t32 ∧ t32 < ((5 : Nat) : Int)) <|
  st w3_b (w3_o + (t32).toNat * 1) (.int .u64 (if x_32 > (42949672 : Int) then x_32 else (42949672 : Int))) <|
  weigh_Next_l3 jn Q  m3 w3_b w3_o t6_b t6_o t8 (IntKind.wrap .i64 (t32 + (1 : Int)))) (
  weigh_Next_j4 jn Q  w3_b w3_o t6_b t6_o)) := by kernel_rfl
theorem weigh_Next_l3_zero (jn : Jn) (Q : Value → WP)  (w3_b : Nat) (w3_o : Nat) (t6_b : Nat) (t6_o : Nat) (t8 : Int) (t32 : Int) : weigh_Next_l3 jn Q  0 w3_b w3_o t6_b t6_o t8 t32 = bot := by kernel_rfl
theorem weigh_Next_j2_raw (jn : Jn) (Q : Value → WP)  (w3_b : Nat) (w3_o : Nat) (t6_b : Nat) (t6_o : Nat) : codeI Try.prog weigh_Next_kp jn (cAt [true, true, true] (bodyOf Try.f45)) (retK Try.prog Try.f45 Q) noX (retK Try.prog Try.f45 Q) (us 3 ((.pointer (some ⟨w3_b, w3_o, none⟩)) :: us 2 ((.pointer (some ⟨t6_b, t6_o, none⟩)) :: us 39 []))) = (
  ld (.int .u64) w3_b w3_o fun x_25 =>
  ld (.int .u64) w3_b (w3_o + 1) fun x_26 =>
  ld (.int .u64) w3_b ((w3_o + 1) + 1) fun x_27 =>
  ld (.int .u64) w3_b (((w3_o + 1) + 1) + 1) fun x_28 =>
  ld (.int .u64) w3_b ((((w3_o + 1) + 1) + 1) + 1) fun x_29 =>
  call1 (.int .u64) Try.prog id_weigh_Sum [.agg #[.int .u64 x_25, .int .u64 x_26, .int .u64 x_27, .int .u64 x_28, .int .u64 x_29]] fun x_30 =>
  exM fun m => weigh_Next_l3 jn Q  m w3_b w3_o t6_b t6_o x_30 (0 : Int)) := by kernel_rfl
theorem weigh_Next_j2_def (Q : Value → WP)  (w3_b : Nat) (w3_o : Nat) (t6_b : Nat) (t6_o : Nat) : weigh_Next_j2 idJ Q  w3_b w3_o t6_b t6_o = codeI Try.prog weigh_Next_kp idJ (cAt [true, true, true] (bodyOf Try.f45)) (retK Try.prog Try.f45 Q) noX (retK Try.prog Try.f45 Q) (us 3 ((.pointer (some ⟨w3_b, w3_o, none⟩)) :: us 2 ((.pointer (some ⟨t6_b, t6_o, none⟩)) :: us 39 []))) := by kernel_rfl
theorem weigh_Next_l1_raw (jn : Jn) (Q : Value → WP)  (m1 : Nat) (all2 : Int) (w3_b : Nat) (w3_o : Nat) (ghosts4_b : Nat) (ghosts4_o : Nat) (t6_b : Nat) (t6_o : Nat) (t14 : Int) : weigh_Next_l1 jn Q  (m1 + 1) all2 w3_b w3_o ghosts4_b ghosts4_o t6_b t6_o t14 = (
  ite2 (decide (t14 < (5 : Int))) (
  drawW fun S =>
  when ((0 : Int) ≤ t14 ∧ t14 < ((5 : Nat) : Int)) <|
  ldS S (.int .u64) w3_b (w3_o + (t14).toNat * 1) fun x_20 =>
  when ((0 : Int) ≤ t14 ∧ t14 < ((5 : Nat) : Int)) <|
  ld (.int .i64) ghosts4_b (ghosts4_o + (t14).toNat * 1) fun x_21 =>
  keepS true S <|
  call1 (.int .i64) Try.prog id_weigh_penalty [.int .i64 x_21, .int .i64 all2] fun x_22 =>
  keepS true S <|
  call1 (.int .u64) Try.prog id_weigh_Keep [.int .i64 x_22] fun x_23 =>
  keepS true S <|
  call1 (.int .u64) Try.prog id_fix_Mul [.int .u64 x_20, .int .u64 x_23] fun x_24 =>
  when ((0 : Int) ≤ t14 ∧ t14 < ((5 : Nat) : Int)) <|
  st w3_b (w3_o + (t14).toNat * 1) (.int .u64 x_24) <|
  weigh_Next_l1 jn Q  m1 all2 w3_b w3_o ghosts4_b ghosts4_o t6_b t6_o (IntKind.wrap .i64 (t14 + (1 : Int)))) (
  weigh_Next_j2 jn Q  w3_b w3_o t6_b t6_o)) := by kernel_rfl
theorem weigh_Next_l1_zero (jn : Jn) (Q : Value → WP)  (all2 : Int) (w3_b : Nat) (w3_o : Nat) (ghosts4_b : Nat) (ghosts4_o : Nat) (t6_b : Nat) (t6_o : Nat) (t14 : Int) : weigh_Next_l1 jn Q  0 all2 w3_b w3_o ghosts4_b ghosts4_o t6_b t6_o t14 = bot := by kernel_rfl
theorem weigh_Next_raw (jn : Jn) (w0_0 : Int) (w0_1 : Int) (w0_2 : Int) (w0_3 : Int) (w0_4 : Int) (ghosts1_0 : Int) (ghosts1_1 : Int) (ghosts1_2 : Int) (ghosts1_3 : Int) (ghosts1_4 : Int) (all2 : Int) (Q : Value → WP) : funJ jn Try.prog weigh_Next_kp Try.f45 [.agg #[.int .u64 w0_0, .int .u64 w0_1, .int .u64 w0_2, .int .u64 w0_3, .int .u64 w0_4], .agg #[.int .i64 ghosts1_0, .int .i64 ghosts1_1, .int .i64 ghosts1_2, .int .i64 ghosts1_3, .int .i64 ghosts1_4], .int .i64 all2] Q = (
  newB [.int .u64 w0_0, .int .u64 w0_1, .int .u64 w0_2, .int .u64 w0_3, .int .u64 w0_4] ty_weigh_Weights fun b_1 =>
  newB [.int .i64 ghosts1_0, .int .i64 ghosts1_1, .int .i64 ghosts1_2, .int .i64 ghosts1_3, .int .i64 ghosts1_4] ty_5_int fun b_2 =>
  newB [.int .u64 (0 : Int), .int .u64 (0 : Int), .int .u64 (0 : Int), .int .u64 (0 : Int), .int .u64 (0 : Int)] ty_weigh_Weights fun b_3 =>
  ld (.int .u64) b_1 0 fun x_4 =>
  ld (.int .u64) b_1 1 fun x_5 =>
  ld (.int .u64) b_1 2 fun x_6 =>
  ld (.int .u64) b_1 3 fun x_7 =>
  ld (.int .u64) b_1 4 fun x_8 =>
  call1 .bool Try.prog id_weigh_Is [.agg #[.int .u64 x_4, .int .u64 x_5, .int .u64 x_6, .int .u64 x_7, .int .u64 x_8]] fun x_9 =>
  ite2 (!x_9) (
  fun w => Calls Try.prog id_weigh_Start #[] w fun e w' => ∃ x_10 : Int, ∃ x_11 : Int, ∃ x_12 : Int, ∃ x_13 : Int, ∃ x_14 : Int, e = .returned (.agg #[.int .u64 x_10, .int .u64 x_11, .int .u64 x_12, .int .u64 x_13, .int .u64 x_14]) ∧ (
  st b_3 0 (.int .u64 x_10) <|
  st b_3 1 (.int .u64 x_11) <|
  st b_3 2 (.int .u64 x_12) <|
  st b_3 3 (.int .u64 x_13) <|
  st b_3 4 (.int .u64 x_14) <|
  ld (.int .u64) b_3 0 fun x_15 =>
  ld (.int .u64) b_3 1 fun x_16 =>
  ld (.int .u64) b_3 2 fun x_17 =>
  ld (.int .u64) b_3 3 fun x_18 =>
  ld (.int .u64) b_3 4 fun x_19 =>
  Q (.agg #[.int .u64 x_15, .int .u64 x_16, .int .u64 x_17, .int .u64 x_18, .int .u64 x_19])) w') (
  exM fun m => weigh_Next_l1 jn Q  m all2 b_1 0 b_2 0 b_3 0 (0 : Int))) := by kernel_rfl
theorem weigh_Next_def (w0_0 : Int) (w0_1 : Int) (w0_2 : Int) (w0_3 : Int) (w0_4 : Int) (ghosts1_0 : Int) (ghosts1_1 : Int) (ghosts1_2 : Int) (ghosts1_3 : Int) (ghosts1_4 : Int) (all2 : Int) (Q : Value → WP) : weigh_Next w0_0 w0_1 w0_2 w0_3 w0_4 ghosts1_0 ghosts1_1 ghosts1_2 ghosts1_3 ghosts1_4 all2 Q = funJ idJ Try.prog weigh_Next_kp Try.f45 [.agg #[.int .u64 w0_0, .int .u64 w0_1, .int .u64 w0_2, .int .u64 w0_3, .int .u64 w0_4], .agg #[.int .i64 ghosts1_0, .int .i64 ghosts1_1, .int .i64 ghosts1_2, .int .i64 ghosts1_3, .int .i64 ghosts1_4], .int .i64 all2] Q := rfl
theorem weigh_Next_calls {w0_0 : Int} {w0_1 : Int} {w0_2 : Int} {w0_3 : Int} {w0_4 : Int} {ghosts1_0 : Int} {ghosts1_1 : Int} {ghosts1_2 : Int} {ghosts1_3 : Int} {ghosts1_4 : Int} {all2 : Int} {Q : Value → WP} {w : World} (h : weigh_Next w0_0 w0_1 w0_2 w0_3 w0_4 ghosts1_0 ghosts1_1 ghosts1_2 ghosts1_3 ghosts1_4 all2 Q w) : Calls Try.prog id_weigh_Next #[.agg #[.int .u64 w0_0, .int .u64 w0_1, .int .u64 w0_2, .int .u64 w0_3, .int .u64 w0_4], .agg #[.int .i64 ghosts1_0, .int .i64 ghosts1_1, .int .i64 ghosts1_2, .int .i64 ghosts1_3, .int .i64 ghosts1_4], .int .i64 all2] w fun e w' => ∃ v, e = .returned v ∧ Q v w' :=
  funJ_calls mixed Try.func45 rfl h

-- hoard/hoardref19.Next
def hoardref19_Next_kp : KP := ⟨[(13, [2, 3, 4, 6, 7, 8]), (18, [6, 7]), (25, [6, 7, 9, 10, 11]), (30, [6, 7, 10]), (33, [6, 7, 10, 12]), (40, [6, 7, 10])], [(7, [0, 1, 2, 3, 4, 5, 7, 11]), (17, [0, 1, 2, 3, 4, 6]), (19, [0, 1, 2, 3, 4, 7, 8])]⟩
def hoardref19_Next_j6 (jn : Jn) (Q : Value → WP)  (t6_b : Nat) (t6_o : Nat) (x7_b : Nat) (x7_o : Nat) (most10 : Int) : WP := jn 40 (fun ρ => codeI Try.prog hoardref19_Next_kp jn (cAt [true, true, true, true, true, true, true, true] (bodyOf Try.f46)) (retK Try.prog Try.f46 Q) noX (retK Try.prog Try.f46 Q) ρ) (us 6 ((.pointer (some ⟨t6_b, t6_o, none⟩)) :: (.pointer (some ⟨x7_b, x7_o, none⟩)) :: us 2 ((.int .i64 most10) :: us 58 [])))
def hoardref19_Next_l5 (jn : Jn) (Q : Value → WP)  (m5 : Nat) (t6_b : Nat) (t6_o : Nat) (x7_b : Nat) (x7_o : Nat) (most10 : Int) (i12 : Int) : WP := lop Try.prog hoardref19_Next_kp jn (cAt [true, true, true, true, true, true, true, false, true, false, false] (bodyOf Try.f46)) (blkX 4 (seqK Try.prog hoardref19_Next_kp jn (cAt [true, true, true, true, true, true, true, true] (bodyOf Try.f46)) (retK Try.prog Try.f46 Q) noX (retK Try.prog Try.f46 Q)) noX) (retK Try.prog Try.f46 Q) m5 (us 6 ((.pointer (some ⟨t6_b, t6_o, none⟩)) :: (.pointer (some ⟨x7_b, x7_o, none⟩)) :: us 2 ((.int .i64 most10) :: us 1 ((.int .i64 i12) :: us 56 []))))
def hoardref19_Next_j4 (jn : Jn) (Q : Value → WP)  (t6_b : Nat) (t6_o : Nat) (x7_b : Nat) (x7_o : Nat) (most10 : Int) : WP := jn 30 (fun ρ => codeI Try.prog hoardref19_Next_kp jn (cAt [true, true, true, true, true, true, true] (bodyOf Try.f46)) (retK Try.prog Try.f46 Q) noX (retK Try.prog Try.f46 Q) ρ) (us 6 ((.pointer (some ⟨t6_b, t6_o, none⟩)) :: (.pointer (some ⟨x7_b, x7_o, none⟩)) :: us 2 ((.int .i64 most10) :: us 58 [])))
def hoardref19_Next_l3 (jn : Jn) (Q : Value → WP)  (m3 : Nat) (t6_b : Nat) (t6_o : Nat) (x7_b : Nat) (x7_o : Nat) (t9 : Int) (most10 : Int) (i11 : Int) : WP := lop Try.prog hoardref19_Next_kp jn (cAt [true, true, true, true, true, true, false, true, false, false] (bodyOf Try.f46)) (blkX 2 (seqK Try.prog hoardref19_Next_kp jn (cAt [true, true, true, true, true, true, true] (bodyOf Try.f46)) (retK Try.prog Try.f46 Q) noX (retK Try.prog Try.f46 Q)) noX) (retK Try.prog Try.f46 Q) m3 (us 6 ((.pointer (some ⟨t6_b, t6_o, none⟩)) :: (.pointer (some ⟨x7_b, x7_o, none⟩)) :: us 1 ((.int .u64 t9) :: (.int .i64 most10) :: (.int .i64 i11) :: us 57 [])))
def hoardref19_Next_j2 (jn : Jn) (Q : Value → WP)  (t6_b : Nat) (t6_o : Nat) (x7_b : Nat) (x7_o : Nat) : WP := jn 18 (fun ρ => codeI Try.prog hoardref19_Next_kp jn (cAt [true, true, true, true] (bodyOf Try.f46)) (retK Try.prog Try.f46 Q) noX (retK Try.prog Try.f46 Q) ρ) (us 6 ((.pointer (some ⟨t6_b, t6_o, none⟩)) :: (.pointer (some ⟨x7_b, x7_o, none⟩)) :: us 61 []))
def hoardref19_Next_l1 (jn : Jn) (Q : Value → WP)  (m1 : Nat) (all2 : Int) (w3_b : Nat) (w3_o : Nat) (ghosts4_b : Nat) (ghosts4_o : Nat) (t6_b : Nat) (t6_o : Nat) (x7_b : Nat) (x7_o : Nat) (i8 : Int) : WP := lop Try.prog hoardref19_Next_kp jn (cAt [true, true, true, false, true, false, false] (bodyOf Try.f46)) (blkX 0 (seqK Try.prog hoardref19_Next_kp jn (cAt [true, true, true, true] (bodyOf Try.f46)) (retK Try.prog Try.f46 Q) noX (retK Try.prog Try.f46 Q)) noX) (retK Try.prog Try.f46 Q) m1 (us 2 ((.int .i64 all2) :: (.pointer (some ⟨w3_b, w3_o, none⟩)) :: (.pointer (some ⟨ghosts4_b, ghosts4_o, none⟩)) :: us 1 ((.pointer (some ⟨t6_b, t6_o, none⟩)) :: (.pointer (some ⟨x7_b, x7_o, none⟩)) :: (.int .i64 i8) :: us 60 [])))
def hoardref19_Next (w0_0 : Int) (w0_1 : Int) (w0_2 : Int) (w0_3 : Int) (w0_4 : Int) (ghosts1_0 : Int) (ghosts1_1 : Int) (ghosts1_2 : Int) (ghosts1_3 : Int) (ghosts1_4 : Int) (all2 : Int) (Q : Value → WP) : WP := funJ idJ Try.prog hoardref19_Next_kp Try.f46 [.agg #[.int .u64 w0_0, .int .u64 w0_1, .int .u64 w0_2, .int .u64 w0_3, .int .u64 w0_4], .agg #[.int .i64 ghosts1_0, .int .i64 ghosts1_1, .int .i64 ghosts1_2, .int .i64 ghosts1_3, .int .i64 ghosts1_4], .int .i64 all2] Q
theorem hoardref19_Next_j6_raw (jn : Jn) (Q : Value → WP)  (t6_b : Nat) (t6_o : Nat) (x7_b : Nat) (x7_o : Nat) (most10 : Int) : codeI Try.prog hoardref19_Next_kp jn (cAt [true, true, true, true, true, true, true, true] (bodyOf Try.f46)) (retK Try.prog Try.f46 Q) noX (retK Try.prog Try.f46 Q) (us 6 ((.pointer (some ⟨t6_b, t6_o, none⟩)) :: (.pointer (some ⟨x7_b, x7_o, none⟩)) :: us 2 ((.int .i64 most10) :: us 58 []))) = (
  drawW fun S =>
  when ((0 : Int) ≤ most10 ∧ most10 < ((5 : Nat) : Int)) <|
  ldS S (.int .u64) x7_b (x7_o + (most10).toNat * 1) fun x_36 =>
  ld (.int .u64) x7_b x7_o fun x_37 =>
  ld (.int .u64) x7_b (x7_o + 1) fun x_38 =>
  ld (.int .u64) x7_b ((x7_o + 1) + 1) fun x_39 =>
  ld (.int .u64) x7_b (((x7_o + 1) + 1) + 1) fun x_40 =>
  ld (.int .u64) x7_b ((((x7_o + 1) + 1) + 1) + 1) fun x_41 =>
  keepS true S <|
  call1 (.int .u64) Try.prog id_hoardref19_Sum [.agg #[.int .u64 x_37, .int .u64 x_38, .int .u64 x_39, .int .u64 x_40, .int .u64 x_41]] fun x_42 =>
  keepS true S <|
  when ((0 : Int) ≤ most10 ∧ most10 < ((5 : Nat) : Int)) <|
  st x7_b (x7_o + (most10).toNat * 1) (.int .u64 (IntKind.wrap .u64 ((IntKind.wrap .u64 (x_36 + (4294967296 : Int))) - x_42))) <|
  ld (.int .u64) x7_b x7_o fun x_43 =>
  ld (.int .u64) x7_b (x7_o + 1) fun x_44 =>
  ld (.int .u64) x7_b ((x7_o + 1) + 1) fun x_45 =>
  ld (.int .u64) x7_b (((x7_o + 1) + 1) + 1) fun x_46 =>
  ld (.int .u64) x7_b ((((x7_o + 1) + 1) + 1) + 1) fun x_47 =>
  st t6_b t6_o (.int .u64 x_43) <|
  st t6_b (t6_o + 1) (.int .u64 x_44) <|
  st t6_b ((t6_o + 1) + 1) (.int .u64 x_45) <|
  st t6_b (((t6_o + 1) + 1) + 1) (.int .u64 x_46) <|
  st t6_b ((((t6_o + 1) + 1) + 1) + 1) (.int .u64 x_47) <|
  ld (.int .u64) t6_b t6_o fun x_48 =>
  ld (.int .u64) t6_b (t6_o + 1) fun x_49 =>
  ld (.int .u64) t6_b ((t6_o + 1) + 1) fun x_50 =>
  ld (.int .u64) t6_b (((t6_o + 1) + 1) + 1) fun x_51 =>
  ld (.int .u64) t6_b ((((t6_o + 1) + 1) + 1) + 1) fun x_52 =>
  Q (.agg #[.int .u64 x_48, .int .u64 x_49, .int .u64 x_50, .int .u64 x_51, .int .u64 x_52])) := by kernel_rfl
theorem hoardref19_Next_j6_def (Q : Value → WP)  (t6_b : Nat) (t6_o : Nat) (x7_b : Nat) (x7_o : Nat) (most10 : Int) : hoardref19_Next_j6 idJ Q  t6_b t6_o x7_b x7_o most10 = codeI Try.prog hoardref19_Next_kp idJ (cAt [true, true, true, true, true, true, true, true] (bodyOf Try.f46)) (retK Try.prog Try.f46 Q) noX (retK Try.prog Try.f46 Q) (us 6 ((.pointer (some ⟨t6_b, t6_o, none⟩)) :: (.pointer (some ⟨x7_b, x7_o, none⟩)) :: us 2 ((.int .i64 most10) :: us 58 []))) := by kernel_rfl
theorem hoardref19_Next_l5_raw (jn : Jn) (Q : Value → WP)  (m5 : Nat) (t6_b : Nat) (t6_o : Nat) (x7_b : Nat) (x7_o : Nat) (most10 : Int) (i12 : Int) : hoardref19_Next_l5 jn Q  (m5 + 1) t6_b t6_o x7_b x7_o most10 i12 = (
  ite2 (decide (i12 < (5 : Int))) (
  drawW fun S =>
  when ((0 : Int) ≤ i12 ∧ i12 < ((5 : Nat) : Int)) <|
  ldS S (.int .u64) x7_b (x7_o + (i12).toNat * 1) fun x_34 =>
  when ((0 : Int) ≤ most10 ∧ most10 < ((5 : Nat) : Int)) <|
  ld (.int .u64) x7_b (x7_o + (most10).toNat * 1) fun x_35 =>
  keepS true S <|
  ite2 (decide (x_34 > x_35)) (
  hoardref19_Next_l5 jn Q  m5 t6_b t6_o x7_b x7_o i12 (IntKind.wrap .i64 (i12 + (1 : Int)))) (
  hoardref19_Next_l5 jn Q  m5 t6_b t6_o x7_b x7_o most10 (IntKind.wrap .i64 (i12 + (1 : Int))))) (
  hoardref19_Next_j6 jn Q  t6_b t6_o x7_b x7_o most10)) := by kernel_rfl
theorem hoardref19_Next_l5_zero (jn : Jn) (Q : Value → WP)  (t6_b : Nat) (t6_o : Nat) (x7_b : Nat) (x7_o : Nat) (most10 : Int) (i12 : Int) : hoardref19_Next_l5 jn Q  0 t6_b t6_o x7_b x7_o most10 i12 = bot := by kernel_rfl
theorem hoardref19_Next_j4_raw (jn : Jn) (Q : Value → WP)  (t6_b : Nat) (t6_o : Nat) (x7_b : Nat) (x7_o : Nat) (most10 : Int) : codeI Try.prog hoardref19_Next_kp jn (cAt [true, true, true, true, true, true, true] (bodyOf Try.f46)) (retK Try.prog Try.f46 Q) noX (retK Try.prog Try.f46 Q) (us 6 ((.pointer (some ⟨t6_b, t6_o, none⟩)) :: (.pointer (some ⟨x7_b, x7_o, none⟩)) :: us 2 ((.int .i64 most10) :: us 58 []))) = (
  exM fun m => hoardref19_Next_l5 jn Q  m t6_b t6_o x7_b x7_o most10 (1 : Int)) := by kernel_rfl
theorem hoardref19_Next_j4_def (Q : Value → WP)  (t6_b : Nat) (t6_o : Nat) (x7_b : Nat) (x7_o : Nat) (most10 : Int) : hoardref19_Next_j4 idJ Q  t6_b t6_o x7_b x7_o most10 = codeI Try.prog hoardref19_Next_kp idJ (cAt [true, true, true, true, true, true, true] (bodyOf Try.f46)) (retK Try.prog Try.f46 Q) noX (retK Try.prog Try.f46 Q) (us 6 ((.pointer (some ⟨t6_b, t6_o, none⟩)) :: (.pointer (some ⟨x7_b, x7_o, none⟩)) :: us 2 ((.int .i64 most10) :: us 58 []))) := by kernel_rfl
theorem hoardref19_Next_l3_raw (jn : Jn) (Q : Value → WP)  (m3 : Nat) (t6_b : Nat) (t6_o : Nat) (x7_b : Nat) (x7_o : Nat) (t9 : Int) (most10 : Int) (i11 : Int) : hoardref19_Next_l3 jn Q  (m3 + 1) t6_b t6_o x7_b x7_o t9 most10 i11 = (
  ite2 (decide (i11 < (5 : Int))) (
  when ((0 : Int) ≤ i11 ∧ i11 < ((5 : Nat) : Int)) <|
  ld (.int .u64) x7_b (x7_o + (i11).toNat * 1) fun x_32 =>
  call1 (.int .u64) Try.prog id_hoardref2_Scale [.int .u64 x_32, .int .u64 (4294967296 : Int), .int .u64 t9] fun x_33 =>
  when ((0 : Int) ≤ i11 ∧ i11 < ((5 : Nat) : Int)) <|
  st x7_b (x7_o + (i11).toNat * 1) (.int .u64 (if x_33 > (42949672 : Int) then x_33 else (42949672 : Int))) <|
  hoardref19_Next_l3 jn Q  m3 t6_b t6_o x7_b x7_o t9 most10 (IntKind.wrap .i64 (i11 + (1 : Int)))) (
  hoardref19_Next_j4 jn Q  t6_b t6_o x7_b x7_o most10)) := by kernel_rfl
theorem hoardref19_Next_l3_zero (jn : Jn) (Q : Value → WP)  (t6_b : Nat) (t6_o : Nat) (x7_b : Nat) (x7_o : Nat) (t9 : Int) (most10 : Int) (i11 : Int) : hoardref19_Next_l3 jn Q  0 t6_b t6_o x7_b x7_o t9 most10 i11 = bot := by kernel_rfl
theorem hoardref19_Next_j2_raw (jn : Jn) (Q : Value → WP)  (t6_b : Nat) (t6_o : Nat) (x7_b : Nat) (x7_o : Nat) : codeI Try.prog hoardref19_Next_kp jn (cAt [true, true, true, true] (bodyOf Try.f46)) (retK Try.prog Try.f46 Q) noX (retK Try.prog Try.f46 Q) (us 6 ((.pointer (some ⟨t6_b, t6_o, none⟩)) :: (.pointer (some ⟨x7_b, x7_o, none⟩)) :: us 61 [])) = (
  ld (.int .u64) x7_b x7_o fun x_26 =>
  ld (.int .u64) x7_b (x7_o + 1) fun x_27 =>
  ld (.int .u64) x7_b ((x7_o + 1) + 1) fun x_28 =>
  ld (.int .u64) x7_b (((x7_o + 1) + 1) + 1) fun x_29 =>
  ld (.int .u64) x7_b ((((x7_o + 1) + 1) + 1) + 1) fun x_30 =>
  call1 (.int .u64) Try.prog id_hoardref19_Sum [.agg #[.int .u64 x_26, .int .u64 x_27, .int .u64 x_28, .int .u64 x_29, .int .u64 x_30]] fun x_31 =>
  exM fun m => hoardref19_Next_l3 jn Q  m t6_b t6_o x7_b x7_o x_31 (0 : Int) (0 : Int)) := by kernel_rfl
theorem hoardref19_Next_j2_def (Q : Value → WP)  (t6_b : Nat) (t6_o : Nat) (x7_b : Nat) (x7_o : Nat) : hoardref19_Next_j2 idJ Q  t6_b t6_o x7_b x7_o = codeI Try.prog hoardref19_Next_kp idJ (cAt [true, true, true, true] (bodyOf Try.f46)) (retK Try.prog Try.f46 Q) noX (retK Try.prog Try.f46 Q) (us 6 ((.pointer (some ⟨t6_b, t6_o, none⟩)) :: (.pointer (some ⟨x7_b, x7_o, none⟩)) :: us 61 [])) := by kernel_rfl
theorem hoardref19_Next_l1_raw (jn : Jn) (Q : Value → WP)  (m1 : Nat) (all2 : Int) (w3_b : Nat) (w3_o : Nat) (ghosts4_b : Nat) (ghosts4_o : Nat) (t6_b : Nat) (t6_o : Nat) (x7_b : Nat) (x7_o : Nat) (i8 : Int) : hoardref19_Next_l1 jn Q  (m1 + 1) all2 w3_b w3_o ghosts4_b ghosts4_o t6_b t6_o x7_b x7_o i8 = (
  ite2 (decide (i8 < (5 : Int))) (
  drawW fun S =>
  when ((0 : Int) ≤ i8 ∧ i8 < ((5 : Nat) : Int)) <|
  ldS S (.int .u64) w3_b (w3_o + (i8).toNat * 1) fun x_21 =>
  when ((0 : Int) ≤ i8 ∧ i8 < ((5 : Nat) : Int)) <|
  ld (.int .i64) ghosts4_b (ghosts4_o + (i8).toNat * 1) fun x_22 =>
  keepS true S <|
  call1 (.int .i64) Try.prog id_hoardref19_loss [.int .i64 x_22, .int .i64 all2] fun x_23 =>
  keepS true S <|
  call1 (.int .u64) Try.prog id_hoardref19_Keep [.int .i64 x_23] fun x_24 =>
  keepS true S <|
  call1 (.int .u64) Try.prog id_hoardref2_Mul [.int .u64 x_21, .int .u64 x_24] fun x_25 =>
  when ((0 : Int) ≤ i8 ∧ i8 < ((5 : Nat) : Int)) <|
  st x7_b (x7_o + (i8).toNat * 1) (.int .u64 x_25) <|
  hoardref19_Next_l1 jn Q  m1 all2 w3_b w3_o ghosts4_b ghosts4_o t6_b t6_o x7_b x7_o (IntKind.wrap .i64 (i8 + (1 : Int)))) (
  hoardref19_Next_j2 jn Q  t6_b t6_o x7_b x7_o)) := by kernel_rfl
theorem hoardref19_Next_l1_zero (jn : Jn) (Q : Value → WP)  (all2 : Int) (w3_b : Nat) (w3_o : Nat) (ghosts4_b : Nat) (ghosts4_o : Nat) (t6_b : Nat) (t6_o : Nat) (x7_b : Nat) (x7_o : Nat) (i8 : Int) : hoardref19_Next_l1 jn Q  0 all2 w3_b w3_o ghosts4_b ghosts4_o t6_b t6_o x7_b x7_o i8 = bot := by kernel_rfl
theorem hoardref19_Next_raw (jn : Jn) (w0_0 : Int) (w0_1 : Int) (w0_2 : Int) (w0_3 : Int) (w0_4 : Int) (ghosts1_0 : Int) (ghosts1_1 : Int) (ghosts1_2 : Int) (ghosts1_3 : Int) (ghosts1_4 : Int) (all2 : Int) (Q : Value → WP) : funJ jn Try.prog hoardref19_Next_kp Try.f46 [.agg #[.int .u64 w0_0, .int .u64 w0_1, .int .u64 w0_2, .int .u64 w0_3, .int .u64 w0_4], .agg #[.int .i64 ghosts1_0, .int .i64 ghosts1_1, .int .i64 ghosts1_2, .int .i64 ghosts1_3, .int .i64 ghosts1_4], .int .i64 all2] Q = (
  newB [.int .u64 w0_0, .int .u64 w0_1, .int .u64 w0_2, .int .u64 w0_3, .int .u64 w0_4] ty_hoardref19_Weights fun b_1 =>
  newB [.int .i64 ghosts1_0, .int .i64 ghosts1_1, .int .i64 ghosts1_2, .int .i64 ghosts1_3, .int .i64 ghosts1_4] ty_5_int fun b_2 =>
  newB [.int .u64 (0 : Int), .int .u64 (0 : Int), .int .u64 (0 : Int), .int .u64 (0 : Int), .int .u64 (0 : Int)] ty_hoardref19_Weights fun b_3 =>
  ld (.int .u64) b_1 0 fun x_4 =>
  ld (.int .u64) b_1 1 fun x_5 =>
  ld (.int .u64) b_1 2 fun x_6 =>
  ld (.int .u64) b_1 3 fun x_7 =>
  ld (.int .u64) b_1 4 fun x_8 =>
  call1 .bool Try.prog id_hoardref19_Is [.agg #[.int .u64 x_4, .int .u64 x_5, .int .u64 x_6, .int .u64 x_7, .int .u64 x_8]] fun x_9 =>
  ite2 (!x_9) (
  fun w => Calls Try.prog id_hoardref19_Start #[] w fun e w' => ∃ x_10 : Int, ∃ x_11 : Int, ∃ x_12 : Int, ∃ x_13 : Int, ∃ x_14 : Int, e = .returned (.agg #[.int .u64 x_10, .int .u64 x_11, .int .u64 x_12, .int .u64 x_13, .int .u64 x_14]) ∧ (
  st b_3 0 (.int .u64 x_10) <|
  st b_3 1 (.int .u64 x_11) <|
  st b_3 2 (.int .u64 x_12) <|
  st b_3 3 (.int .u64 x_13) <|
  st b_3 4 (.int .u64 x_14) <|
  ld (.int .u64) b_3 0 fun x_15 =>
  ld (.int .u64) b_3 1 fun x_16 =>
  ld (.int .u64) b_3 2 fun x_17 =>
  ld (.int .u64) b_3 3 fun x_18 =>
  ld (.int .u64) b_3 4 fun x_19 =>
  Q (.agg #[.int .u64 x_15, .int .u64 x_16, .int .u64 x_17, .int .u64 x_18, .int .u64 x_19])) w') (
  newB [.int .u64 (0 : Int), .int .u64 (0 : Int), .int .u64 (0 : Int), .int .u64 (0 : Int), .int .u64 (0 : Int)] ty_hoardref19_Weights fun b_20 =>
  exM fun m => hoardref19_Next_l1 jn Q  m all2 b_1 0 b_2 0 b_3 0 b_20 0 (0 : Int))) := by kernel_rfl
theorem hoardref19_Next_def (w0_0 : Int) (w0_1 : Int) (w0_2 : Int) (w0_3 : Int) (w0_4 : Int) (ghosts1_0 : Int) (ghosts1_1 : Int) (ghosts1_2 : Int) (ghosts1_3 : Int) (ghosts1_4 : Int) (all2 : Int) (Q : Value → WP) : hoardref19_Next w0_0 w0_1 w0_2 w0_3 w0_4 ghosts1_0 ghosts1_1 ghosts1_2 ghosts1_3 ghosts1_4 all2 Q = funJ idJ Try.prog hoardref19_Next_kp Try.f46 [.agg #[.int .u64 w0_0, .int .u64 w0_1, .int .u64 w0_2, .int .u64 w0_3, .int .u64 w0_4], .agg #[.int .i64 ghosts1_0, .int .i64 ghosts1_1, .int .i64 ghosts1_2, .int .i64 ghosts1_3, .int .i64 ghosts1_4], .int .i64 all2] Q := rfl
theorem hoardref19_Next_calls {w0_0 : Int} {w0_1 : Int} {w0_2 : Int} {w0_3 : Int} {w0_4 : Int} {ghosts1_0 : Int} {ghosts1_1 : Int} {ghosts1_2 : Int} {ghosts1_3 : Int} {ghosts1_4 : Int} {all2 : Int} {Q : Value → WP} {w : World} (h : hoardref19_Next w0_0 w0_1 w0_2 w0_3 w0_4 ghosts1_0 ghosts1_1 ghosts1_2 ghosts1_3 ghosts1_4 all2 Q w) : Calls Try.prog id_hoardref19_Next #[.agg #[.int .u64 w0_0, .int .u64 w0_1, .int .u64 w0_2, .int .u64 w0_3, .int .u64 w0_4], .agg #[.int .i64 ghosts1_0, .int .i64 ghosts1_1, .int .i64 ghosts1_2, .int .i64 ghosts1_3, .int .i64 ghosts1_4], .int .i64 all2] w fun e w' => ∃ v, e = .returned v ∧ Q v w' :=
  funJ_calls mixed Try.func46 rfl h

-- slices.Clone[[]uint32,uint32]
def slices_Clone_s_uint32_uint32_kp : KP := ⟨[], []⟩
def slices_Clone_s_uint32_uint32 (s0 : Sl) (Q : Value → WP) : WP := funJ idJ Try.prog slices_Clone_s_uint32_uint32_kp Try.f47 [.slice s0.a s0.n s0.c] Q
theorem slices_Clone_s_uint32_uint32_raw (jn : Jn) (s0 : Sl) (Q : Value → WP) : funJ jn Try.prog slices_Clone_s_uint32_uint32_kp Try.f47 [.slice s0.a s0.n s0.c] Q = (
  ite2 (Option.isNone s0.a) (
  Q (.slice (none : Option Addr) 0 0)) (
  newB [] ty_uint32 fun b_1 =>
  appendC ty_uint32 1 4 [.int .u32 (0 : Int)] ⟨(some ⟨b_1, 0, none⟩), 0, 0⟩ s0.n (fun w => rdA w s0.a (s0.n * 1)) fun s_2 =>
  Q (.slice s_2.a s_2.n s_2.c))) := by kernel_rfl
theorem slices_Clone_s_uint32_uint32_def (s0 : Sl) (Q : Value → WP) : slices_Clone_s_uint32_uint32 s0 Q = funJ idJ Try.prog slices_Clone_s_uint32_uint32_kp Try.f47 [.slice s0.a s0.n s0.c] Q := rfl
theorem slices_Clone_s_uint32_uint32_calls {s0 : Sl} {Q : Value → WP} {w : World} (h : slices_Clone_s_uint32_uint32 s0 Q w) : Calls Try.prog id_slices_Clone_s_uint32_uint32 #[.slice s0.a s0.n s0.c] w fun e w' => ∃ v, e = .returned v ∧ Q v w' :=
  funJ_calls mixed Try.func47 rfl h

-- hoard/weigh.even
def weigh_even_kp : KP := ⟨[(9, [1, 2, 3, 5]), (18, [1, 2, 3])], [(5, [0, 1, 2, 3, 4, 6]), (8, [0, 1, 2, 5, 6, 7])]⟩
def weigh_even_j2 (jn : Jn) (Q : Value → WP)  (w1_b : Nat) (w1_o : Nat) (t2_b : Nat) (t2_o : Nat) (best3 : Int) : WP := jn 18 (fun ρ => codeI Try.prog weigh_even_kp jn (cAt [true, true, true] (bodyOf Try.f48)) (retK Try.prog Try.f48 Q) noX (retK Try.prog Try.f48 Q) ρ) (us 1 ((.pointer (some ⟨w1_b, w1_o, none⟩)) :: (.pointer (some ⟨t2_b, t2_o, none⟩)) :: (.int .i64 best3) :: us 22 []))
def weigh_even_l1 (jn : Jn) (Q : Value → WP)  (m1 : Nat) (w1_b : Nat) (w1_o : Nat) (t2_b : Nat) (t2_o : Nat) (best3 : Int) (t5 : Int) : WP := lop Try.prog weigh_even_kp jn (cAt [true, true, false, true, false, false] (bodyOf Try.f48)) (blkX 0 (seqK Try.prog weigh_even_kp jn (cAt [true, true, true] (bodyOf Try.f48)) (retK Try.prog Try.f48 Q) noX (retK Try.prog Try.f48 Q)) noX) (retK Try.prog Try.f48 Q) m1 (us 1 ((.pointer (some ⟨w1_b, w1_o, none⟩)) :: (.pointer (some ⟨t2_b, t2_o, none⟩)) :: (.int .i64 best3) :: us 1 ((.int .i64 t5) :: us 20 [])))
def weigh_even (w0_0 : Int) (w0_1 : Int) (w0_2 : Int) (w0_3 : Int) (w0_4 : Int) (Q : Value → WP) : WP := funJ idJ Try.prog weigh_even_kp Try.f48 [.agg #[.int .u64 w0_0, .int .u64 w0_1, .int .u64 w0_2, .int .u64 w0_3, .int .u64 w0_4]] Q
theorem weigh_even_j2_raw (jn : Jn) (Q : Value → WP)  (w1_b : Nat) (w1_o : Nat) (t2_b : Nat) (t2_o : Nat) (best3 : Int) : codeI Try.prog weigh_even_kp jn (cAt [true, true, true] (bodyOf Try.f48)) (retK Try.prog Try.f48 Q) noX (retK Try.prog Try.f48 Q) (us 1 ((.pointer (some ⟨w1_b, w1_o, none⟩)) :: (.pointer (some ⟨t2_b, t2_o, none⟩)) :: (.int .i64 best3) :: us 22 [])) = (
  drawW fun S =>
  when ((0 : Int) ≤ best3 ∧ best3 < ((5 : Nat) : Int)) <|
  ldS S (.int .u64) w1_b (w1_o + (best3).toNat * 1) fun x_5 =>
  ld (.int .u64) w1_b w1_o fun x_6 =>
  ld (.int .u64) w1_b (w1_o + 1) fun x_7 =>
  ld (.int .u64) w1_b ((w1_o + 1) + 1) fun x_8 =>
  ld (.int .u64) w1_b (((w1_o + 1) + 1) + 1) fun x_9 =>
  ld (.int .u64) w1_b ((((w1_o + 1) + 1) + 1) + 1) fun x_10 =>
  keepS true S <|
  call1 (.int .u64) Try.prog id_weigh_Sum [.agg #[.int .u64 x_6, .int .u64 x_7, .int .u64 x_8, .int .u64 x_9, .int .u64 x_10]] fun x_11 =>
  keepS true S <|
  when ((0 : Int) ≤ best3 ∧ best3 < ((5 : Nat) : Int)) <|
  st w1_b (w1_o + (best3).toNat * 1) (.int .u64 (IntKind.wrap .u64 (x_5 + (IntKind.wrap .u64 ((4294967296 : Int) - x_11))))) <|
  ld (.int .u64) w1_b w1_o fun x_12 =>
  ld (.int .u64) w1_b (w1_o + 1) fun x_13 =>
  ld (.int .u64) w1_b ((w1_o + 1) + 1) fun x_14 =>
  ld (.int .u64) w1_b (((w1_o + 1) + 1) + 1) fun x_15 =>
  ld (.int .u64) w1_b ((((w1_o + 1) + 1) + 1) + 1) fun x_16 =>
  st t2_b t2_o (.int .u64 x_12) <|
  st t2_b (t2_o + 1) (.int .u64 x_13) <|
  st t2_b ((t2_o + 1) + 1) (.int .u64 x_14) <|
  st t2_b (((t2_o + 1) + 1) + 1) (.int .u64 x_15) <|
  st t2_b ((((t2_o + 1) + 1) + 1) + 1) (.int .u64 x_16) <|
  ld (.int .u64) t2_b t2_o fun x_17 =>
  ld (.int .u64) t2_b (t2_o + 1) fun x_18 =>
  ld (.int .u64) t2_b ((t2_o + 1) + 1) fun x_19 =>
  ld (.int .u64) t2_b (((t2_o + 1) + 1) + 1) fun x_20 =>
  ld (.int .u64) t2_b ((((t2_o + 1) + 1) + 1) + 1) fun x_21 =>
  Q (.agg #[.int .u64 x_17, .int .u64 x_18, .int .u64 x_19, .int .u64 x_20, .int .u64 x_21])) := by kernel_rfl
theorem weigh_even_j2_def (Q : Value → WP)  (w1_b : Nat) (w1_o : Nat) (t2_b : Nat) (t2_o : Nat) (best3 : Int) : weigh_even_j2 idJ Q  w1_b w1_o t2_b t2_o best3 = codeI Try.prog weigh_even_kp idJ (cAt [true, true, true] (bodyOf Try.f48)) (retK Try.prog Try.f48 Q) noX (retK Try.prog Try.f48 Q) (us 1 ((.pointer (some ⟨w1_b, w1_o, none⟩)) :: (.pointer (some ⟨t2_b, t2_o, none⟩)) :: (.int .i64 best3) :: us 22 [])) := by kernel_rfl
theorem weigh_even_l1_raw (jn : Jn) (Q : Value → WP)  (m1 : Nat) (w1_b : Nat) (w1_o : Nat) (t2_b : Nat) (t2_o : Nat) (best3 : Int) (t5 : Int) : weigh_even_l1 jn Q  (m1 + 1) w1_b w1_o t2_b t2_o best3 t5 = (
  ite2 (decide (t5 < (5 : Int))) (
  drawW fun S =>
  when ((0 : Int) ≤ t5 ∧ t5 < ((5 : Nat) : Int)) <|
  ldS S (.int .u64) w1_b (w1_o + (t5).toNat * 1) fun x_3 =>
  when ((0 : Int) ≤ best3 ∧ best3 < ((5 : Nat) : Int)) <|
  ld (.int .u64) w1_b (w1_o + (best3).toNat * 1) fun x_4 =>
  keepS true S <|
  ite2 (decide (x_3 > x_4)) (
  weigh_even_l1 jn Q  m1 w1_b w1_o t2_b t2_o t5 (IntKind.wrap .i64 (t5 + (1 : Int)))) (
  weigh_even_l1 jn Q  m1 w1_b w1_o t2_b t2_o best3 (IntKind.wrap .i64 (t5 + (1 : Int))))) (
  weigh_even_j2 jn Q  w1_b w1_o t2_b t2_o best3)) := by kernel_rfl
theorem weigh_even_l1_zero (jn : Jn) (Q : Value → WP)  (w1_b : Nat) (w1_o : Nat) (t2_b : Nat) (t2_o : Nat) (best3 : Int) (t5 : Int) : weigh_even_l1 jn Q  0 w1_b w1_o t2_b t2_o best3 t5 = bot := by kernel_rfl
theorem weigh_even_raw (jn : Jn) (w0_0 : Int) (w0_1 : Int) (w0_2 : Int) (w0_3 : Int) (w0_4 : Int) (Q : Value → WP) : funJ jn Try.prog weigh_even_kp Try.f48 [.agg #[.int .u64 w0_0, .int .u64 w0_1, .int .u64 w0_2, .int .u64 w0_3, .int .u64 w0_4]] Q = (
  newB [.int .u64 w0_0, .int .u64 w0_1, .int .u64 w0_2, .int .u64 w0_3, .int .u64 w0_4] ty_weigh_Weights fun b_1 =>
  newB [.int .u64 (0 : Int), .int .u64 (0 : Int), .int .u64 (0 : Int), .int .u64 (0 : Int), .int .u64 (0 : Int)] ty_weigh_Weights fun b_2 =>
  exM fun m => weigh_even_l1 jn Q  m b_1 0 b_2 0 (0 : Int) (0 : Int)) := by kernel_rfl
theorem weigh_even_def (w0_0 : Int) (w0_1 : Int) (w0_2 : Int) (w0_3 : Int) (w0_4 : Int) (Q : Value → WP) : weigh_even w0_0 w0_1 w0_2 w0_3 w0_4 Q = funJ idJ Try.prog weigh_even_kp Try.f48 [.agg #[.int .u64 w0_0, .int .u64 w0_1, .int .u64 w0_2, .int .u64 w0_3, .int .u64 w0_4]] Q := rfl
theorem weigh_even_calls {w0_0 : Int} {w0_1 : Int} {w0_2 : Int} {w0_3 : Int} {w0_4 : Int} {Q : Value → WP} {w : World} (h : weigh_even w0_0 w0_1 w0_2 w0_3 w0_4 Q w) : Calls Try.prog id_weigh_even #[.agg #[.int .u64 w0_0, .int .u64 w0_1, .int .u64 w0_2, .int .u64 w0_3, .int .u64 w0_4]] w fun e w' => ∃ v, e = .returned v ∧ Q v w' :=
  funJ_calls mixed Try.func48 rfl h

-- hoard/hoardref2.times
def hoardref2_times_kp : KP := ⟨[], []⟩
def hoardref2_times (a0 : Int) (b1 : Int) (Q : Value → WP) : WP := funJ idJ Try.prog hoardref2_times_kp Try.f49 [.int .u64 a0, .int .u64 b1] Q
theorem hoardref2_times_raw (jn : Jn) (a0 : Int) (b1 : Int) (Q : Value → WP) : funJ jn Try.prog hoardref2_times_kp Try.f49 [.int .u64 a0, .int .u64 b1] Q = (
  when ((0 : Int) ≤ (32 : Int)) <|
  when ((0 : Int) ≤ (32 : Int)) <|
  when ((0 : Int) ≤ (32 : Int)) <|
  when ((0 : Int) ≤ (32 : Int)) <|
  when ((0 : Int) ≤ (32 : Int)) <|
  when ((0 : Int) ≤ (32 : Int)) <|
  Q (.tuple #[.int .u64 (IntKind.wrap .u64 ((IntKind.wrap .u64 ((IntKind.wrap .u64 ((shrV .u64 a0 (32 : Int)) * (shrV .u64 b1 (32 : Int)))) + (shrV .u64 (IntKind.wrap .u64 ((IntKind.wrap .u64 ((shrV .u64 a0 (32 : Int)) * (bits .and .u64 b1 (4294967295 : Int)))) + (shrV .u64 (IntKind.wrap .u64 ((bits .and .u64 a0 (4294967295 : Int)) * (bits .and .u64 b1 (4294967295 : Int)))) (32 : Int)))) (32 : Int)))) + (shrV .u64 (IntKind.wrap .u64 ((IntKind.wrap .u64 ((bits .and .u64 a0 (4294967295 : Int)) * (shrV .u64 b1 (32 : Int)))) + (bits .and .u64 (IntKind.wrap .u64 ((IntKind.wrap .u64 ((shrV .u64 a0 (32 : Int)) * (bits .and .u64 b1 (4294967295 : Int)))) + (shrV .u64 (IntKind.wrap .u64 ((bits .and .u64 a0 (4294967295 : Int)) * (bits .and .u64 b1 (4294967295 : Int)))) (32 : Int)))) (4294967295 : Int)))) (32 : Int)))), .int .u64 (bits .or .u64 (shlV .u64 (IntKind.wrap .u64 ((IntKind.wrap .u64 ((bits .and .u64 a0 (4294967295 : Int)) * (shrV .u64 b1 (32 : Int)))) + (bits .and .u64 (IntKind.wrap .u64 ((IntKind.wrap .u64 ((shrV .u64 a0 (32 : Int)) * (bits .and .u64 b1 (4294967295 : Int)))) + (shrV .u64 (IntKind.wrap .u64 ((bits .and .u64 a0 (4294967295 : Int)) * (bits .and .u64 b1 (4294967295 : Int)))) (32 : Int)))) (4294967295 : Int)))) (32 : Int)) (bits .and .u64 (IntKind.wrap .u64 ((bits .and .u64 a0 (4294967295 : Int)) * (bits .and .u64 b1 (4294967295 : Int)))) (4294967295 : Int)))])) := by kernel_rfl
theorem hoardref2_times_def (a0 : Int) (b1 : Int) (Q : Value → WP) : hoardref2_times a0 b1 Q = funJ idJ Try.prog hoardref2_times_kp Try.f49 [.int .u64 a0, .int .u64 b1] Q := rfl
theorem hoardref2_times_calls {a0 : Int} {b1 : Int} {Q : Value → WP} {w : World} (h : hoardref2_times a0 b1 Q w) : Calls Try.prog id_hoardref2_times #[.int .u64 a0, .int .u64 b1] w fun e w' => ∃ v, e = .returned v ∧ Q v w' :=
  funJ_calls mixed Try.func49 rfl h

-- math/bits.Mul64
def math_bits_Mul64_kp : KP := ⟨[], []⟩
def math_bits_Mul64 (x0 : Int) (y1 : Int) (Q : Value → WP) : WP := funJ idJ Try.prog math_bits_Mul64_kp Try.f50 [.int .u64 x0, .int .u64 y1] Q
theorem math_bits_Mul64_raw (jn : Jn) (x0 : Int) (y1 : Int) (Q : Value → WP) : funJ jn Try.prog math_bits_Mul64_kp Try.f50 [.int .u64 x0, .int .u64 y1] Q = (
  when ((0 : Int) ≤ (32 : Int)) <|
  when ((0 : Int) ≤ (32 : Int)) <|
  when ((0 : Int) ≤ (32 : Int)) <|
  when ((0 : Int) ≤ (32 : Int)) <|
  when ((0 : Int) ≤ (32 : Int)) <|
  Q (.tuple #[.int .u64 (IntKind.wrap .u64 ((IntKind.wrap .u64 ((IntKind.wrap .u64 ((shrV .u64 x0 (32 : Int)) * (shrV .u64 y1 (32 : Int)))) + (shrV .u64 (IntKind.wrap .u64 ((IntKind.wrap .u64 ((shrV .u64 x0 (32 : Int)) * (bits .and .u64 y1 (4294967295 : Int)))) + (shrV .u64 (IntKind.wrap .u64 ((bits .and .u64 x0 (4294967295 : Int)) * (bits .and .u64 y1 (4294967295 : Int)))) (32 : Int)))) (32 : Int)))) + (shrV .u64 (IntKind.wrap .u64 ((bits .and .u64 (IntKind.wrap .u64 ((IntKind.wrap .u64 ((shrV .u64 x0 (32 : Int)) * (bits .and .u64 y1 (4294967295 : Int)))) + (shrV .u64 (IntKind.wrap .u64 ((bits .and .u64 x0 (4294967295 : Int)) * (bits .and .u64 y1 (4294967295 : Int)))) (32 : Int)))) (4294967295 : Int)) + (IntKind.wrap .u64 ((bits .and .u64 x0 (4294967295 : Int)) * (shrV .u64 y1 (32 : Int)))))) (32 : Int)))), .int .u64 (IntKind.wrap .u64 (x0 * y1))])) := by kernel_rfl
theorem math_bits_Mul64_def (x0 : Int) (y1 : Int) (Q : Value → WP) : math_bits_Mul64 x0 y1 Q = funJ idJ Try.prog math_bits_Mul64_kp Try.f50 [.int .u64 x0, .int .u64 y1] Q := rfl
theorem math_bits_Mul64_calls {x0 : Int} {y1 : Int} {Q : Value → WP} {w : World} (h : math_bits_Mul64 x0 y1 Q w) : Calls Try.prog id_math_bits_Mul64 #[.int .u64 x0, .int .u64 y1] w fun e w' => ∃ v, e = .returned v ∧ Q v w' :=
  funJ_calls mixed Try.func50 rfl h

-- math/bits.Div64
def math_bits_Div64_kp : KP := ⟨[(8, [0, 1, 2]), (12, [0, 1, 2]), (37, [2, 8, 9, 10, 11, 13, 14, 15, 16]), (38, [2, 8, 9, 10, 11, 13, 14, 15, 16]), (44, [2, 8, 9, 10, 11, 13, 14, 15]), (51, [2, 8, 9, 10, 14, 15, 16, 17, 18]), (52, [2, 8, 9, 10, 14, 15, 16, 17, 18]), (58, [2, 8, 14, 15, 17, 18])], [(6, [0, 1, 2, 3, 4, 5, 6, 7])]⟩
def math_bits_Div64_j8 (jn : Jn) (Q : Value → WP)  (y2 : Int) (s8 : Int) (un014 : Int) (q115 : Int) (un2117 : Int) (q018 : Int) : WP := jn 58 (fun ρ => codeI Try.prog math_bits_Div64_kp jn (cAt [true, true, true, true, true, true, true, true, true, true, true, true, true, true, true, true, true, true, true] (bodyOf Try.f51)) (retK Try.prog Try.f51 Q) noX (retK Try.prog Try.f51 Q) ρ) (us 2 ((.int .u64 y2) :: us 5 ((.int .u64 s8) :: us 5 ((.int .u64 un014) :: (.int .u64 q115) :: us 1 ((.int .u64 un2117) :: (.int .u64 q018) :: us 116 [])))))
def math_bits_Div64_j7 (jn : Jn) (Q : Value → WP) (m6 : Nat) (y2 : Int) (s8 : Int) (yn19 : Int) (yn010 : Int) (un014 : Int) (q115 : Int) (rhat16 : Int) (un2117 : Int) (q018 : Int) : WP := jn 52 (fun ρ => codeI Try.prog math_bits_Div64_kp jn (cAt [true, true, true, true, true, true, true, true, true, true, true, true, true, true, true, true, true, true, false, false, false, true] (bodyOf Try.f51)) (lopK Try.prog math_bits_Div64_kp jn (cAt [true, true, true, true, true, true, true, true, true, true, true, true, true, true, true, true, true, true, false, false, false] (bodyOf Try.f51)) (blkX 2 (seqK Try.prog math_bits_Div64_kp jn (cAt [true, true, true, true, true, true, true, true, true, true, true, true, true, true, true, true, true, true, true] (bodyOf Try.f51)) (retK Try.prog Try.f51 Q) noX (retK Try.prog Try.f51 Q)) noX) (retK Try.prog Try.f51 Q) m6) (blkX 2 (seqK Try.prog math_bits_Div64_kp jn (cAt [true, true, true, true, true, true, true, true, true, true, true, true, true, true, true, true, true, true, true] (bodyOf Try.f51)) (retK Try.prog Try.f51 Q) noX (retK Try.prog Try.f51 Q)) noX) (retK Try.prog Try.f51 Q) ρ) (us 2 ((.int .u64 y2) :: us 5 ((.int .u64 s8) :: (.int .u64 yn19) :: (.int .u64 yn010) :: us 3 ((.int .u64 un014) :: (.int .u64 q115) :: (.int .u64 rhat16) :: (.int .u64 un2117) :: (.int .u64 q018) :: us 116 []))))
def math_bits_Div64_l6 (jn : Jn) (Q : Value → WP)  (m6 : Nat) (y2 : Int) (s8 : Int) (yn19 : Int) (yn010 : Int) (un014 : Int) (q115 : Int) (rhat16 : Int) (un2117 : Int) (q018 : Int) : WP := lop Try.prog math_bits_Div64_kp jn (cAt [true, true, true, true, true, true, true, true, true, true, true, true, true, true, true, true, true, true, false, false, false] (bodyOf Try.f51)) (blkX 2 (seqK Try.prog math_bits_Div64_kp jn (cAt [true, true, true, true, true, true, true, true, true, true, true, true, true, true, true, true, true, true, true] (bodyOf Try.f51)) (retK Try.prog Try.f51 Q) noX (retK Try.prog Try.f51 Q)) noX) (retK Try.prog Try.f51 Q) m6 (us 2 ((.int .u64 y2) :: us 5 ((.int .u64 s8) :: (.int .u64 yn19) :: (.int .u64 yn010) :: us 3 ((.int .u64 un014) :: (.int .u64 q115) :: (.int .u64 rhat16) :: (.int .u64 un2117) :: (.int .u64 q018) :: us 116 []))))
def math_bits_Div64_j5 (jn : Jn) (Q : Value → WP)  (y2 : Int) (s8 : Int) (yn19 : Int) (yn010 : Int) (un3211 : Int) (un113 : Int) (un014 : Int) (q115 : Int) : WP := jn 44 (fun ρ => codeI Try.prog math_bits_Div64_kp jn (cAt [true, true, true, true, true, true, true, true, true, true, true, true, true, true, true] (bodyOf Try.f51)) (retK Try.prog Try.f51 Q) noX (retK Try.prog Try.f51 Q) ρ) (us 2 ((.int .u64 y2) :: us 5 ((.int .u64 s8) :: (.int .u64 yn19) :: (.int .u64 yn010) :: (.int .u64 un3211) :: us 1 ((.int .u64 un113) :: (.int .u64 un014) :: (.int .u64 q115) :: us 119 []))))
def math_bits_Div64_j4 (jn : Jn) (Q : Value → WP) (m3 : Nat) (y2 : Int) (s8 : Int) (yn19 : Int) (yn010 : Int) (un3211 : Int) (un113 : Int) (un014 : Int) (q115 : Int) (rhat16 : Int) : WP := jn 38 (fun ρ => codeI Try.prog math_bits_Div64_kp jn (cAt [true, true, true, true, true, true, true, true, true, true, true, true, true, true, false, false, false, true] (bodyOf Try.f51)) (lopK Try.prog math_bits_Div64_kp jn (cAt [true, true, true, true, true, true, true, true, true, true, true, true, true, true, false, false, false] (bodyOf Try.f51)) (blkX 0 (seqK Try.prog math_bits_Div64_kp jn (cAt [true, true, true, true, true, true, true, true, true, true, true, true, true, true, true] (bodyOf Try.f51)) (retK Try.prog Try.f51 Q) noX (retK Try.prog Try.f51 Q)) noX) (retK Try.prog Try.f51 Q) m3) (blkX 0 (seqK Try.prog math_bits_Div64_kp jn (cAt [true, true, true, true, true, true, true, true, true, true, true, true, true, true, true] (bodyOf Try.f51)) (retK Try.prog Try.f51 Q) noX (retK Try.prog Try.f51 Q)) noX) (retK Try.prog Try.f51 Q) ρ) (us 2 ((.int .u64 y2) :: us 5 ((.int .u64 s8) :: (.int .u64 yn19) :: (.int .u64 yn010) :: (.int .u64 un3211) :: us 1 ((.int .u64 un113) :: (.int .u64 un014) :: (.int .u64 q115) :: (.int .u64 rhat16) :: us 118 []))))
def math_bits_Div64_l3 (jn : Jn) (Q : Value → WP)  (m3 : Nat) (y2 : Int) (s8 : Int) (yn19 : Int) (yn010 : Int) (un3211 : Int) (un113 : Int) (un014 : Int) (q115 : Int) (rhat16 : Int) : WP := lop Try.prog math_bits_Div64_kp jn (cAt [true, true, true, true, true, true, true, true, true, true, true, true, true, true, false, false, false] (bodyOf Try.f51)) (blkX 0 (seqK Try.prog math_bits_Div64_kp jn (cAt [true, true, true, true, true, true, true, true, true, true, true, true, true, true, true] (bodyOf Try.f51)) (retK Try.prog Try.f51 Q) noX (retK Try.prog Try.f51 Q)) noX) (retK Try.prog Try.f51 Q) m3 (us 2 ((.int .u64 y2) :: us 5 ((.int .u64 s8) :: (.int .u64 yn19) :: (.int .u64 yn010) :: (.int .u64 un3211) :: us 1 ((.int .u64 un113) :: (.int .u64 un014) :: (.int .u64 q115) :: (.int .u64 rhat16) :: us 118 []))))
def math_bits_Div64_j2 (jn : Jn) (Q : Value → WP)  (hi0 : Int) (lo1 : Int) (y2 : Int) : WP := jn 12 (fun ρ => codeI Try.prog math_bits_Div64_kp jn (cAt [true, true, true] (bodyOf Try.f51)) (retK Try.prog Try.f51 Q) noX (retK Try.prog Try.f51 Q) ρ) ((.int .u64 hi0) :: (.int .u64 lo1) :: (.int .u64 y2) :: us 132 [])
def math_bits_Div64_j1 (jn : Jn) (Q : Value → WP)  (hi0 : Int) (lo1 : Int) (y2 : Int) : WP := jn 8 (fun ρ => codeI Try.prog math_bits_Div64_kp jn (cAt [true, true] (bodyOf Try.f51)) (retK Try.prog Try.f51 Q) noX (retK Try.prog Try.f51 Q) ρ) ((.int .u64 hi0) :: (.int .u64 lo1) :: (.int .u64 y2) :: us 132 [])
def math_bits_Div64 (hi0 : Int) (lo1 : Int) (y2 : Int) (Q : Value → WP) : WP := funJ idJ Try.prog math_bits_Div64_kp Try.f51 [.int .u64 hi0, .int .u64 lo1, .int .u64 y2] Q
theorem math_bits_Div64_j8_raw (jn : Jn) (Q : Value → WP)  (y2 : Int) (s8 : Int) (un014 : Int) (q115 : Int) (un2117 : Int) (q018 : Int) : codeI Try.prog math_bits_Div64_kp jn (cAt [true, true, true, true, true, true, true, true, true, true, true, true, true, true, true, true, true, true, true] (bodyOf Try.f51)) (retK Try.prog Try.f51 Q) noX (retK Try.prog Try.f51 Q) (us 2 ((.int .u64 y2) :: us 5 ((.int .u64 s8) :: us 5 ((.int .u64 un014) :: (.int .u64 q115) :: us 1 ((.int .u64 un2117) :: (.int .u64 q018) :: us 116 []))))) = (
  when ((0 : Int) ≤ s8) <|
  Q (.tuple #[.int .u64 (IntKind.wrap .u64 ((IntKind.wrap .u64 (q115 * (4294967296 : Int))) + q018)), .int .u64 (shrV .u64 (IntKind.wrap .u64 ((IntKind.wrap .u64 ((IntKind.wrap .u64 (un2117 * (4294967296 : Int))) + un014)) - (IntKind.wrap .u64 (q018 * y2)))) s8)])) := by kernel_rfl
theorem math_bits_Div64_j8_def (Q : Value → WP)  (y2 : Int) (s8 : Int) (un014 : Int) (q115 : Int) (un2117 : Int) (q018 : Int) : math_bits_Div64_j8 idJ Q  y2 s8 un014 q115 un2117 q018 = codeI Try.prog math_bits_Div64_kp idJ (cAt [true, true, true, true, true, true, true, true, true, true, true, true, true, true, true, true, true, true, true] (bodyOf Try.f51)) (retK Try.prog Try.f51 Q) noX (retK Try.prog Try.f51 Q) (us 2 ((.int .u64 y2) :: us 5 ((.int .u64 s8) :: us 5 ((.int .u64 un014) :: (.int .u64 q115) :: us 1 ((.int .u64 un2117) :: (.int .u64 q018) :: us 116 []))))) := by kernel_rfl
theorem math_bits_Div64_j7_raw (jn : Jn) (Q : Value → WP) (m6 : Nat) (y2 : Int) (s8 : Int) (yn19 : Int) (yn010 : Int) (un014 : Int) (q115 : Int) (rhat16 : Int) (un2117 : Int) (q018 : Int) : codeI Try.prog math_bits_Div64_kp jn (cAt [true, true, true, true, true, true, true, true, true, true, true, true, true, true, true, true, true, true, false, false, false, true] (bodyOf Try.f51)) (lopK Try.prog math_bits_Div64_kp jn (cAt [true, true, true, true, true, true, true, true, true, true, true, true, true, true, true, true, true, true, false, false, false] (bodyOf Try.f51)) (blkX 2 (seqK Try.prog math_bits_Div64_kp jn (cAt [true, true, true, true, true, true, true, true, true, true, true, true, true, true, true, true, true, true, true] (bodyOf Try.f51)) (retK Try.prog Try.f51 Q) noX (retK Try.prog Try.f51 Q)) noX) (retK Try.prog Try.f51 Q) m6) (blkX 2 (seqK Try.prog math_bits_Div64_kp jn (cAt [true, true, true, true, true, true, true, true, true, true, true, true, true, true, true, true, true, true, true] (bodyOf Try.f51)) (retK Try.prog Try.f51 Q) noX (retK Try.prog Try.f51 Q)) noX) (retK Try.prog Try.f51 Q) (us 2 ((.int .u64 y2) :: us 5 ((.int .u64 s8) :: (.int .u64 yn19) :: (.int .u64 yn010) :: us 3 ((.int .u64 un014) :: (.int .u64 q115) :: (.int .u64 rhat16) :: (.int .u64 un2117) :: (.int .u64 q018) :: us 116 [])))) = (
  ite2 (decide ((IntKind.wrap .u64 (rhat16 + yn19)) ≥ (4294967296 : Int))) (
  math_bits_Div64_j8 jn Q  y2 s8 un014 q115 un2117 (IntKind.wrap .u64 (q018 - (1 : Int)))) (
  math_bits_Div64_l6 jn Q  m6 y2 s8 yn19 yn010 un014 q115 (IntKind.wrap .u64 (rhat16 + yn19)) un2117 (IntKind.wrap .u64 (q018 - (1 : Int))))) := by kernel_rfl
theorem math_bits_Div64_j7_def (Q : Value → WP) (m6 : Nat) (y2 : Int) (s8 : Int) (yn19 : Int) (yn010 : Int) (un014 : Int) (q115 : Int) (rhat16 : Int) (un2117 : Int) (q018 : Int) : math_bits_Div64_j7 idJ Q m6 y2 s8 yn19 yn010 un014 q115 rhat16 un2117 q018 = codeI Try.prog math_bits_Div64_kp idJ (cAt [true, true, true, true, true, true, true, true, true, true, true, true, true, true, true, true, true, true, false, false, false, true] (bodyOf Try.f51)) (lopK Try.prog math_bits_Div64_kp idJ (cAt [true, true, true, true, true, true, true, true, true, true, true, true, true, true, true, true, true, true, false, false, false] (bodyOf Try.f51)) (blkX 2 (seqK Try.prog math_bits_Div64_kp idJ (cAt [true, true, true, true, true, true, true, true, true, true, true, true, true, true, true, true, true, true, true] (bodyOf Try.f51)) (retK Try.prog Try.f51 Q) noX (retK Try.prog Try.f51 Q)) noX) (retK Try.prog Try.f51 Q) m6) (blkX 2 (seqK Try.prog math_bits_Div64_kp idJ (cAt [true, true, true, true, true, true, true, true, true, true, true, true, true, true, true, true, true, true, true] (bodyOf Try.f51)) (retK Try.prog Try.f51 Q) noX (retK Try.prog Try.f51 Q)) noX) (retK Try.prog Try.f51 Q) (us 2 ((.int .u64 y2) :: us 5 ((.int .u64 s8) :: (.int .u64 yn19) :: (.int .u64 yn010) :: us 3 ((.int .u64 un014) :: (.int .u64 q115) :: (.int .u64 rhat16) :: (.int .u64 un2117) :: (.int .u64 q018) :: us 116 [])))) := by kernel_rfl
theorem math_bits_Div64_l6_raw (jn : Jn) (Q : Value → WP)  (m6 : Nat) (y2 : Int) (s8 : Int) (yn19 : Int) (yn010 : Int) (un014 : Int) (q115 : Int) (rhat16 : Int) (un2117 : Int) (q018 : Int) : math_bits_Div64_l6 jn Q  (m6 + 1) y2 s8 yn19 yn010 un014 q115 rhat16 un2117 q018 = (
  ite2 (decide (q018 ≥ (4294967296 : Int))) (
  math_bits_Div64_j7 jn Q m6 y2 s8 yn19 yn010 un014 q115 rhat16 un2117 q018) (
  ite2 (decide ((IntKind.wrap .u64 (q018 * yn010)) > (IntKind.wrap .u64 ((IntKind.wrap .u64 ((4294967296 : Int) * rhat16)) + un014)))) (
  math_bits_Div64_j7 jn Q m6 y2 s8 yn19 yn010 un014 q115 rhat16 un2117 q018) (
  math_bits_Div64_j8 jn Q  y2 s8 un014 q115 un2117 q018))) := by kernel_rfl
theorem math_bits_Div64_l6_zero (jn : Jn) (Q : Value → WP)  (y2 : Int) (s8 : Int) (yn19 : Int) (yn010 : Int) (un014 : Int) (q115 : Int) (rhat16 : Int) (un2117 : Int) (q018 : Int) : math_bits_Div64_l6 jn Q  0 y2 s8 yn19 yn010 un014 q115 rhat16 un2117 q018 = bot := by kernel_rfl
theorem math_bits_Div64_j5_raw (jn : Jn) (Q : Value → WP)  (y2 : Int) (s8 : Int) (yn19 : Int) (yn010 : Int) (un3211 : Int) (un113 : Int) (un014 : Int) (q115 : Int) : codeI Try.prog math_bits_Div64_kp jn (cAt [true, true, true, true, true, true, true, true, true, true, true, true, true, true, true] (bodyOf Try.f51)) (retK Try.prog Try.f51 Q) noX (retK Try.prog Try.f51 Q) (us 2 ((.int .u64 y2) :: us 5 ((.int .u64 s8) :: (.int .u64 yn19) :: (.int .u64 yn010) :: (.int .u64 un3211) :: us 1 ((.int .u64 un113) :: (.int .u64 un014) :: (.int .u64 q115) :: us 119 [])))) = (
  when (yn19 ≠ 0) <|
  exM fun m => math_bits_Div64_l6 jn Q  m y2 s8 yn19 yn010 un014 q115 (IntKind.wrap .u64 ((IntKind.wrap .u64 ((IntKind.wrap .u64 ((IntKind.wrap .u64 (un3211 * (4294967296 : Int))) + un113)) - (IntKind.wrap .u64 (q115 * y2)))) - (IntKind.wrap .u64 ((IntKind.wrap .u64 (Int.tdiv (IntKind.wrap .u64 ((IntKind.wrap .u64 ((IntKind.wrap .u64 (un3211 * (4294967296 : Int))) + un113)) - (IntKind.wrap .u64 (q115 * y2)))) yn19)) * yn19)))) (IntKind.wrap .u64 ((IntKind.wrap .u64 ((IntKind.wrap .u64 (un3211 * (4294967296 : Int))) + un113)) - (IntKind.wrap .u64 (q115 * y2)))) (IntKind.wrap .u64 (Int.tdiv (IntKind.wrap .u64 ((IntKind.wrap .u64 ((IntKind.wrap .u64 (un3211 * (4294967296 : Int))) + un113)) - (IntKind.wrap .u64 (q115 * y2)))) yn19))) := by kernel_rfl
theorem math_bits_Div64_j5_def (Q : Value → WP)  (y2 : Int) (s8 : Int) (yn19 : Int) (yn010 : Int) (un3211 : Int) (un113 : Int) (un014 : Int) (q115 : Int) : math_bits_Div64_j5 idJ Q  y2 s8 yn19 yn010 un3211 un113 un014 q115 = codeI Try.prog math_bits_Div64_kp idJ (cAt [true, true, true, true, true, true, true, true, true, true, true, true, true, true, true] (bodyOf Try.f51)) (retK Try.prog Try.f51 Q) noX (retK Try.prog Try.f51 Q) (us 2 ((.int .u64 y2) :: us 5 ((.int .u64 s8) :: (.int .u64 yn19) :: (.int .u64 yn010) :: (.int .u64 un3211) :: us 1 ((.int .u64 un113) :: (.int .u64 un014) :: (.int .u64 q115) :: us 119 [])))) := by kernel_rfl
theorem math_bits_Div64_j4_raw (jn : Jn) (Q : Value → WP) (m3 : Nat) (y2 : Int) (s8 : Int) (yn19 : Int) (yn010 : Int) (un3211 : Int) (un113 : Int) (un014 : Int) (q115 : Int) (rhat16 : Int) : codeI Try.prog math_bits_Div64_kp jn (cAt [true, true, true, true, true, true, true, true, true, true, true, true, true, true, false, false, false, true] (bodyOf Try.f51)) (lopK Try.prog math_bits_Div64_kp jn (cAt [true, true, true, true, true, true, true, true, true, true, true, true, true, true, false, false, false] (bodyOf Try.f51)) (blkX 0 (seqK Try.prog math_bits_Div64_kp jn (cAt [true, true, true, true, true, true, true, true, true, true, true, true, true, true, true] (bodyOf Try.f51)) (retK Try.prog Try.f51 Q) noX (retK Try.prog Try.f51 Q)) noX) (retK Try.prog Try.f51 Q) m3) (blkX 0 (seqK Try.prog math_bits_Div64_kp jn (cAt [true, true, true, true, true, true, true, true, true, true, true, true, true, true, true] (bodyOf Try.f51)) (retK Try.prog Try.f51 Q) noX (retK Try.prog Try.f51 Q)) noX) (retK Try.prog Try.f51 Q) (us 2 ((.int .u64 y2) :: us 5 ((.int .u64 s8) :: (.int .u64 yn19) :: (.int .u64 yn010) :: (.int .u64 un3211) :: us 1 ((.int .u64 un113) :: (.int .u64 un014) :: (.int .u64 q115) :: (.int .u64 rhat16) :: us 118 [])))) = (
  ite2 (decide ((IntKind.wrap .u64 (rhat16 + yn19)) ≥ (4294967296 : Int))) (
  math_bits_Div64_j5 jn Q  y2 s8 yn19 yn010 un3211 un113 un014 (IntKind.wrap .u64 (q115 - (1 : Int)))) (
  math_bits_Div64_l3 jn Q  m3 y2 s8 yn19 yn010 un3211 un113 un014 (IntKind.wrap .u64 (q115 - (1 : Int))) (IntKind.wrap .u64 (rhat16 + yn19)))) := by kernel_rfl
theorem math_bits_Div64_j4_def (Q : Value → WP) (m3 : Nat) (y2 : Int) (s8 : Int) (yn19 : Int) (yn010 : Int) (un3211 : Int) (un113 : Int) (un014 : Int) (q115 : Int) (rhat16 : Int) : math_bits_Div64_j4 idJ Q m3 y2 s8 yn19 yn010 un3211 un113 un014 q115 rhat16 = codeI Try.prog math_bits_Div64_kp idJ (cAt [true, true, true, true, true, true, true, true, true, true, true, true, true, true, false, false, false, true] (bodyOf Try.f51)) (lopK Try.prog math_bits_Div64_kp idJ (cAt [true, true, true, true, true, true, true, true, true, true, true, true, true, true, false, false, false] (bodyOf Try.f51)) (blkX 0 (seqK Try.prog math_bits_Div64_kp idJ (cAt [true, true, true, true, true, true, true, true, true, true, true, true, true, true, true] (bodyOf Try.f51)) (retK Try.prog Try.f51 Q) noX (retK Try.prog Try.f51 Q)) noX) (retK Try.prog Try.f51 Q) m3) (blkX 0 (seqK Try.prog math_bits_Div64_kp idJ (cAt [true, true, true, true, true, true, true, true, true, true, true, true, true, true, true] (bodyOf Try.f51)) (retK Try.prog Try.f51 Q) noX (retK Try.prog Try.f51 Q)) noX) (retK Try.prog Try.f51 Q) (us 2 ((.int .u64 y2) :: us 5 ((.int .u64 s8) :: (.int .u64 yn19) :: (.int .u64 yn010) :: (.int .u64 un3211) :: us 1 ((.int .u64 un113) :: (.int .u64 un014) :: (.int .u64 q115) :: (.int .u64 rhat16) :: us 118 [])))) := by kernel_rfl
theorem math_bits_Div64_l3_raw (jn : Jn) (Q : Value → WP)  (m3 : Nat) (y2 : Int) (s8 : Int) (yn19 : Int) (yn010 : Int) (un3211 : Int) (un113 : Int) (un014 : Int) (q115 : Int) (rhat16 : Int) : math_bits_Div64_l3 jn Q  (m3 + 1) y2 s8 yn19 yn010 un3211 un113 un014 q115 rhat16 = (
  ite2 (decide (q115 ≥ (4294967296 : Int))) (
  math_bits_Div64_j4 jn Q m3 y2 s8 yn19 yn010 un3211 un113 un014 q115 rhat16) (
  ite2 (decide ((IntKind.wrap .u64 (q115 * yn010)) > (IntKind.wrap .u64 ((IntKind.wrap .u64 ((4294967296 : Int) * rhat16)) + un113)))) (
  math_bits_Div64_j4 jn Q m3 y2 s8 yn19 yn010 un3211 un113 un014 q115 rhat16) (
  math_bits_Div64_j5 jn Q  y2 s8 yn19 yn010 un3211 un113 un014 q115))) := by kernel_rfl
theorem math_bits_Div64_l3_zero (jn : Jn) (Q : Value → WP)  (y2 : Int) (s8 : Int) (yn19 : Int) (yn010 : Int) (un3211 : Int) (un113 : Int) (un014 : Int) (q115 : Int) (rhat16 : Int) : math_bits_Div64_l3 jn Q  0 y2 s8 yn19 yn010 un3211 un113 un014 q115 rhat16 = bot := by kernel_rfl
theorem math_bits_Div64_j2_raw (jn : Jn) (Q : Value → WP)  (hi0 : Int) (lo1 : Int) (y2 : Int) : codeI Try.prog math_bits_Div64_kp jn (cAt [true, true, true] (bodyOf Try.f51)) (retK Try.prog Try.f51 Q) noX (retK Try.prog Try.f51 Q) ((.int .u64 hi0) :: (.int .u64 lo1) :: (.int .u64 y2) :: us 132 []) = (
  ite2 (hi0 == (0 : Int)) (
  drawW fun S =>
  when (y2 ≠ 0) <|
  when (y2 ≠ 0) <|
  Q (.tuple #[.int .u64 (IntKind.wrap .u64 (Int.tdiv lo1 y2)), .int .u64 (Int.tmod lo1 y2)])) (
  call1 (.int .i64) Try.prog id_math_bits_LeadingZeros64 [.int .u64 y2] fun x_3 =>
  when ((0 : Int) ≤ (IntKind.wrap .u64 x_3)) <|
  when ((0 : Int) ≤ (32 : Int)) <|
  when ((0 : Int) ≤ (IntKind.wrap .u64 x_3)) <|
  when ((0 : Int) ≤ (IntKind.wrap .u64 ((64 : Int) - (IntKind.wrap .u64 x_3)))) <|
  when ((0 : Int) ≤ (IntKind.wrap .u64 x_3)) <|
  when ((0 : Int) ≤ (32 : Int)) <|
  when ((shrV .u64 (shlV .u64 y2 (IntKind.wrap .u64 x_3)) (32 : Int)) ≠ 0) <|
  exM fun m => math_bits_Div64_l3 jn Q  m (shlV .u64 y2 (IntKind.wrap .u64 x_3)) (IntKind.wrap .u64 x_3) (shrV .u64 (shlV .u64 y2 (IntKind.wrap .u64 x_3)) (32 : Int)) (bits .and .u64 (shlV .u64 y2 (IntKind.wrap .u64 x_3)) (4294967295 : Int)) (bits .or .u64 (shlV .u64 hi0 (IntKind.wrap .u64 x_3)) (shrV .u64 lo1 (IntKind.wrap .u64 ((64 : Int) - (IntKind.wrap .u64 x_3))))) (shrV .u64 (shlV .u64 lo1 (IntKind.wrap .u64 x_3)) (32 : Int)) (bits .and .u64 (shlV .u64 lo1 (IntKind.wrap .u64 x_3)) (4294967295 : Int)) (IntKind.wrap .u64 (Int.tdiv (bits .or .u64 (shlV .u64 hi0 (IntKind.wrap .u64 x_3)) (shrV .u64 lo1 (IntKind.wrap .u64 ((64 : Int) - (IntKind.wrap .u64 x_3))))) (shrV .u64 (shlV .u64 y2 (IntKind.wrap .u64 x_3)) (32 : Int)))) (IntKind.wrap .u64 ((bits .or .u64 (shlV .u64 hi0 (IntKind.wrap .u64 x_3)) (shrV .u64 lo1 (IntKind.wrap .u64 ((64 : Int) - (IntKind.wrap .u64 x_3))))) - (IntKind.wrap .u64 ((IntKind.wrap .u64 (Int.tdiv (bits .or .u64 (shlV .u64 hi0 (IntKind.wrap .u64 x_3)) (shrV .u64 lo1 (IntKind.wrap .u64 ((64 : Int) - (IntKind.wrap .u64 x_3))))) (shrV .u64 (shlV .u64 y2 (IntKind.wrap .u64 x_3)) (32 : Int)))) * (shrV .u64 (shlV .u64 y2 (IntKind.wrap .u64 x_3)) (32 : Int)))))))) := by kernel_rfl
theorem math_bits_Div64_j2_def (Q : Value → WP)  (hi0 : Int) (lo1 : Int) (y2 : Int) : math_bits_Div64_j2 idJ Q  hi0 lo1 y2 = codeI Try.prog math_bits_Div64_kp idJ (cAt [true, true, true] (bodyOf Try.f51)) (retK Try.prog Try.f51 Q) noX (retK Try.prog Try.f51 Q) ((.int .u64 hi0) :: (.int .u64 lo1) :: (.int .u64 y2) :: us 132 []) := by kernel_rfl
theorem math_bits_Div64_j1_raw (jn : Jn) (Q : Value → WP)  (hi0 : Int) (lo1 : Int) (y2 : Int) : codeI Try.prog math_bits_Div64_kp jn (cAt [true, true] (bodyOf Try.f51)) (retK Try.prog Try.f51 Q) noX (retK Try.prog Try.f51 Q) ((.int .u64 hi0) :: (.int .u64 lo1) :: (.int .u64 y2) :: us 132 []) = (
  ite2 (decide (y2 ≤ hi0)) (
  ld .any 1 0 fun x_2 =>
  bot) (
  math_bits_Div64_j2 jn Q  hi0 lo1 y2)) := by kernel_rfl
theorem math_bits_Div64_j1_def (Q : Value → WP)  (hi0 : Int) (lo1 : Int) (y2 : Int) : math_bits_Div64_j1 idJ Q  hi0 lo1 y2 = codeI Try.prog math_bits_Div64_kp idJ (cAt [true, true] (bodyOf Try.f51)) (retK Try.prog Try.f51 Q) noX (retK Try.prog Try.f51 Q) ((.int .u64 hi0) :: (.int .u64 lo1) :: (.int .u64 y2) :: us 132 []) := by kernel_rfl
theorem math_bits_Div64_raw (jn : Jn) (hi0 : Int) (lo1 : Int) (y2 : Int) (Q : Value → WP) : funJ jn Try.prog math_bits_Div64_kp Try.f51 [.int .u64 hi0, .int .u64 lo1, .int .u64 y2] Q = (
  ite2 (y2 == (0 : Int)) (
  ld .any 0 0 fun x_1 =>
  bot) (
  math_bits_Div64_j1 jn Q  hi0 lo1 y2)) := by kernel_rfl
theorem math_bits_Div64_def (hi0 : Int) (lo1 : Int) (y2 : Int) (Q : Value → WP) : math_bits_Div64 hi0 lo1 y2 Q = funJ idJ Try.prog math_bits_Div64_kp Try.f51 [.int .u64 hi0, .int .u64 lo1, .int .u64 y2] Q := rfl
theorem math_bits_Div64_calls {hi0 : Int} {lo1 : Int} {y2 : Int} {Q : Value → WP} {w : World} (h : math_bits_Div64 hi0 lo1 y2 Q w) : Calls Try.prog id_math_bits_Div64 #[.int .u64 hi0, .int .u64 lo1, .int .u64 y2] w fun e w' => ∃ v, e = .returned v ∧ Q v w' :=
  funJ_calls mixed Try.func51 rfl h

-- hoard/weigh.penalty
def weigh_penalty_kp : KP := ⟨[], []⟩
def weigh_penalty (ghosts0 : Int) (all1 : Int) (Q : Value → WP) : WP := funJ idJ Try.prog weigh_penalty_kp Try.f52 [.int .i64 ghosts0, .int .i64 all1] Q
theorem weigh_penalty_raw (jn : Jn) (ghosts0 : Int) (all1 : Int) (Q : Value → WP) : funJ jn Try.prog weigh_penalty_kp Try.f52 [.int .i64 ghosts0, .int .i64 all1] Q = (
  call1 (.int .i64) Try.prog id_fix_Clamp [.int .i64 ghosts0, .int .i64 (0 : Int), .int .i64 (1099511627776 : Int)] fun x_1 =>
  call1 (.int .i64) Try.prog id_fix_Clamp [.int .i64 all1, .int .i64 (0 : Int), .int .i64 (1099511627776 : Int)] fun x_2 =>
  ite2 (x_2 == (0 : Int)) (
  Q (.int .i64 (0 : Int))) (
  when (x_2 ≠ 0) <|
  Q (.int .i64 (if (15 : Int) < (IntKind.wrap .i64 (Int.tdiv (IntKind.wrap .i64 ((16 : Int) * x_1)) x_2)) then (15 : Int) else (IntKind.wrap .i64 (Int.tdiv (IntKind.wrap .i64 ((16 : Int) * x_1)) x_2)))))) := by kernel_rfl
theorem weigh_penalty_def (ghosts0 : Int) (all1 : Int) (Q : Value → WP) : weigh_penalty ghosts0 all1 Q = funJ idJ Try.prog weigh_penalty_kp Try.f52 [.int .i64 ghosts0, .int .i64 all1] Q := rfl
theorem weigh_penalty_calls {ghosts0 : Int} {all1 : Int} {Q : Value → WP} {w : World} (h : weigh_penalty ghosts0 all1 Q w) : Calls Try.prog id_weigh_penalty #[.int .i64 ghosts0, .int .i64 all1] w fun e w' => ∃ v, e = .returned v ∧ Q v w' :=
  funJ_calls mixed Try.func52 rfl h

-- hoard/hoardref19.loss
def hoardref19_loss_kp : KP := ⟨[], []⟩
def hoardref19_loss (ghosts0 : Int) (all1 : Int) (Q : Value → WP) : WP := funJ idJ Try.prog hoardref19_loss_kp Try.f53 [.int .i64 ghosts0, .int .i64 all1] Q
theorem hoardref19_loss_raw (jn : Jn) (ghosts0 : Int) (all1 : Int) (Q : Value → WP) : funJ jn Try.prog hoardref19_loss_kp Try.f53 [.int .i64 ghosts0, .int .i64 all1] Q = (
  call1 (.int .i64) Try.prog id_hoardref2_Clamp [.int .i64 ghosts0, .int .i64 (0 : Int), .int .i64 (1099511627776 : Int)] fun x_1 =>
  call1 (.int .i64) Try.prog id_hoardref2_Clamp [.int .i64 all1, .int .i64 (0 : Int), .int .i64 (1099511627776 : Int)] fun x_2 =>
  ite2 (x_2 == (0 : Int)) (
  Q (.int .i64 (0 : Int))) (
  when (x_2 ≠ 0) <|
  Q (.int .i64 (if (IntKind.wrap .i64 (Int.tdiv (IntKind.wrap .i64 ((16 : Int) * x_1)) x_2)) < (15 : Int) then (IntKind.wrap .i64 (Int.tdiv (IntKind.wrap .i64 ((16 : Int) * x_1)) x_2)) else (15 : Int))))) := by kernel_rfl
theorem hoardref19_loss_def (ghosts0 : Int) (all1 : Int) (Q : Value → WP) : hoardref19_loss ghosts0 all1 Q = funJ idJ Try.prog hoardref19_loss_kp Try.f53 [.int .i64 ghosts0, .int .i64 all1] Q := rfl
theorem hoardref19_loss_calls {ghosts0 : Int} {all1 : Int} {Q : Value → WP} {w : World} (h : hoardref19_loss ghosts0 all1 Q w) : Calls Try.prog id_hoardref19_loss #[.int .i64 ghosts0, .int .i64 all1] w fun e w' => ∃ v, e = .returned v ∧ Q v w' :=
  funJ_calls mixed Try.func53 rfl h

-- math/bits.LeadingZeros64
def math_bits_LeadingZeros64_kp : KP := ⟨[], []⟩
def math_bits_LeadingZeros64 (x0 : Int) (Q : Value → WP) : WP := funJ idJ Try.prog math_bits_LeadingZeros64_kp Try.f54 [.int .u64 x0] Q
theorem math_bits_LeadingZeros64_raw (jn : Jn) (x0 : Int) (Q : Value → WP) : funJ jn Try.prog math_bits_LeadingZeros64_kp Try.f54 [.int .u64 x0] Q = (
  call1 (.int .i64) Try.prog id_math_bits_Len64 [.int .u64 x0] fun x_1 =>
  Q (.int .i64 (IntKind.wrap .i64 ((64 : Int) - x_1)))) := by kernel_rfl
theorem math_bits_LeadingZeros64_def (x0 : Int) (Q : Value → WP) : math_bits_LeadingZeros64 x0 Q = funJ idJ Try.prog math_bits_LeadingZeros64_kp Try.f54 [.int .u64 x0] Q := rfl
theorem math_bits_LeadingZeros64_calls {x0 : Int} {Q : Value → WP} {w : World} (h : math_bits_LeadingZeros64 x0 Q w) : Calls Try.prog id_math_bits_LeadingZeros64 #[.int .u64 x0] w fun e w' => ∃ v, e = .returned v ∧ Q v w' :=
  funJ_calls mixed Try.func54 rfl h

-- math/bits.Len64
def math_bits_Len64_kp : KP := ⟨[(10, [0, 2]), (16, [0, 2]), (22, [0, 2])], []⟩
def math_bits_Len64_j3 (jn : Jn) (Q : Value → WP)  (x0 : Int) (n2 : Int) : WP := jn 22 (fun ρ => codeI Try.prog math_bits_Len64_kp jn (cAt [true, true, true, true] (bodyOf Try.f55)) (retK Try.prog Try.f55 Q) noX (retK Try.prog Try.f55 Q) ρ) ((.int .u64 x0) :: us 1 ((.int .i64 n2) :: us 22 []))
def math_bits_Len64_j2 (jn : Jn) (Q : Value → WP)  (x0 : Int) (n2 : Int) : WP := jn 16 (fun ρ => codeI Try.prog math_bits_Len64_kp jn (cAt [true, true, true] (bodyOf Try.f55)) (retK Try.prog Try.f55 Q) noX (retK Try.prog Try.f55 Q) ρ) ((.int .u64 x0) :: us 1 ((.int .i64 n2) :: us 22 []))
def math_bits_Len64_j1 (jn : Jn) (Q : Value → WP)  (x0 : Int) (n2 : Int) : WP := jn 10 (fun ρ => codeI Try.prog math_bits_Len64_kp jn (cAt [true, true] (bodyOf Try.f55)) (retK Try.prog Try.f55 Q) noX (retK Try.prog Try.f55 Q) ρ) ((.int .u64 x0) :: us 1 ((.int .i64 n2) :: us 22 []))
def math_bits_Len64 (x0 : Int) (Q : Value → WP) : WP := funJ idJ Try.prog math_bits_Len64_kp Try.f55 [.int .u64 x0] Q
theorem math_bits_Len64_j3_raw (jn : Jn) (Q : Value → WP)  (x0 : Int) (n2 : Int) : codeI Try.prog math_bits_Len64_kp jn (cAt [true, true, true, true] (bodyOf Try.f55)) (retK Try.prog Try.f55 Q) noX (retK Try.prog Try.f55 Q) ((.int .u64 x0) :: us 1 ((.int .i64 n2) :: us 22 [])) = (
  when ((0 : Int) ≤ (IntKind.wrap .u8 x0) ∧ (IntKind.wrap .u8 x0) < (str_____________________.size : Int)) <|
  Q (.int .i64 (IntKind.wrap .i64 (n2 + (IntKind.wrap .i64 (byteAt str_____________________ ((IntKind.wrap .u8 x0)).toNat)))))) := by kernel_rfl
theorem math_bits_Len64_j3_def (Q : Value → WP)  (x0 : Int) (n2 : Int) : math_bits_Len64_j3 idJ Q  x0 n2 = codeI Try.prog math_bits_Len64_kp idJ (cAt [true, true, true, true] (bodyOf Try.f55)) (retK Try.prog Try.f55 Q) noX (retK Try.prog Try.f55 Q) ((.int .u64 x0) :: us 1 ((.int .i64 n2) :: us 22 [])) := by kernel_rfl
theorem math_bits_Len64_j2_raw (jn : Jn) (Q : Value → WP)  (x0 : Int) (n2 : Int) : codeI Try.prog math_bits_Len64_kp jn (cAt [true, true, true] (bodyOf Try.f55)) (retK Try.prog Try.f55 Q) noX (retK Try.prog Try.f55 Q) ((.int .u64 x0) :: us 1 ((.int .i64 n2) :: us 22 [])) = (
  ite2 (decide (x0 ≥ (256 : Int))) (
  when ((0 : Int) ≤ (8 : Int)) <|
  math_bits_Len64_j3 jn Q  (shrV .u64 x0 (8 : Int)) (IntKind.wrap .i64 (n2 + (8 : Int)))) (
  math_bits_Len64_j3 jn Q  x0 n2)) := by kernel_rfl
theorem math_bits_Len64_j2_def (Q : Value → WP)  (x0 : Int) (n2 : Int) : math_bits_Len64_j2 idJ Q  x0 n2 = codeI Try.prog math_bits_Len64_kp idJ (cAt [true, true, true] (bodyOf Try.f55)) (retK Try.prog Try.f55 Q) noX (retK Try.prog Try.f55 Q) ((.int .u64 x0) :: us 1 ((.int .i64 n2) :: us 22 [])) := by kernel_rfl
theorem math_bits_Len64_j1_raw (jn : Jn) (Q : Value → WP)  (x0 : Int) (n2 : Int) : codeI Try.prog math_bits_Len64_kp jn (cAt [true, true] (bodyOf Try.f55)) (retK Try.prog Try.f55 Q) noX (retK Try.prog Try.f55 Q) ((.int .u64 x0) :: us 1 ((.int .i64 n2) :: us 22 [])) = (
  ite2 (decide (x0 ≥ (65536 : Int))) (
  when ((0 : Int) ≤ (16 : Int)) <|
  math_bits_Len64_j2 jn Q  (shrV .u64 x0 (16 : Int)) (IntKind.wrap .i64 (n2 + (16 : Int)))) (
  math_bits_Len64_j2 jn Q  x0 n2)) := by kernel_rfl
theorem math_bits_Len64_j1_def (Q : Value → WP)  (x0 : Int) (n2 : Int) : math_bits_Len64_j1 idJ Q  x0 n2 = codeI Try.prog math_bits_Len64_kp idJ (cAt [true, true] (bodyOf Try.f55)) (retK Try.prog Try.f55 Q) noX (retK Try.prog Try.f55 Q) ((.int .u64 x0) :: us 1 ((.int .i64 n2) :: us 22 [])) := by kernel_rfl
theorem math_bits_Len64_raw (jn : Jn) (x0 : Int) (Q : Value → WP) : funJ jn Try.prog math_bits_Len64_kp Try.f55 [.int .u64 x0] Q = (
  ite2 (decide (x0 ≥ (4294967296 : Int))) (
  when ((0 : Int) ≤ (32 : Int)) <|
  math_bits_Len64_j1 jn Q  (shrV .u64 x0 (32 : Int)) (32 : Int)) (
  math_bits_Len64_j1 jn Q  x0 (0 : Int))) := by kernel_rfl
theorem math_bits_Len64_def (x0 : Int) (Q : Value → WP) : math_bits_Len64 x0 Q = funJ idJ Try.prog math_bits_Len64_kp Try.f55 [.int .u64 x0] Q := rfl
theorem math_bits_Len64_calls {x0 : Int} {Q : Value → WP} {w : World} (h : math_bits_Len64 x0 Q w) : Calls Try.prog id_math_bits_Len64 #[.int .u64 x0] w fun e w' => ∃ v, e = .returned v ∧ Q v w' :=
  funJ_calls mixed Try.func55 rfl h

end Go.Proofs.Ytclmefcfmdefjaa
