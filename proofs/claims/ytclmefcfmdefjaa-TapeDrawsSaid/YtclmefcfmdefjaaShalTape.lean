/- Printed by a program of mine (wip/tools/shal.py): the shallow texts of the loaded functions, each equal to the interpreter's reading by the kernel. -/
import Derived.Test.YtclmefcfmdefjaaSound7
import Derived.Test.YtclmefcfmdefjaaChecked
import Derived.KernelRfl
set_option linter.unusedVariables false
namespace Go.Proofs.Ytclmefcfmdefjaa
open Go.Hb

theorem mixed : Try.prog.follows .mixedOrders = true := by kernel_rfl
abbrev ty_uint32 : TypeId := 25
abbrev ty_tape_Tape : TypeId := 62
abbrev id_hoardlaw3_TapeDraws : FuncId := 3
abbrev id_hoardlaw3_TapeOfNothing : FuncId := 4
abbrev id_tape_New : FuncId := 18
abbrev id_tape_Tape_Left : FuncId := 19
abbrev id_tape_Tape_Taken : FuncId := 20
abbrev id_tape_Tape_Next : FuncId := 21
abbrev id_hoardlaw3_known : FuncId := 22
abbrev id_slices_Clone_s_uint32_uint32 : FuncId := 47

-- hoard/hoardlaw3.TapeDraws
def hoardlaw3_TapeDraws_kp : KP := ⟨[(8, [0, 1]), (15, [0, 1, 5, 6, 7]), (20, [0, 1, 6]), (23, [0, 1, 6, 8]), (32, [0, 1, 6, 8, 9]), (36, [1, 6])], []⟩
def hoardlaw3_TapeDraws_j5 (jn : Jn) (Q : Value → WP) (m4 : Nat) (l0 : Sl) (n1 : Int) (t6 : Option Addr) (i8 : Int) (want9 : Int) : WP := jn 32 (fun ρ => codeI Try.prog hoardlaw3_TapeDraws_kp jn (cAt [true, true, true, true, true, false, true, false, false, true, false, false, true, true] (bodyOf Try.f3)) (seqK Try.prog hoardlaw3_TapeDraws_kp jn (cAt [true, true, true, true, true, false, true, false, false, true, true] (bodyOf Try.f3)) (lopK Try.prog hoardlaw3_TapeDraws_kp jn (cAt [true, true, true, true, true, false, true, false, false] (bodyOf Try.f3)) (blkX 2 (seqK Try.prog hoardlaw3_TapeDraws_kp jn (cAt [true, true, true, true, true, true] (bodyOf Try.f3)) (retK Try.prog Try.f3 Q) noX (retK Try.prog Try.f3 Q)) noX) (retK Try.prog Try.f3 Q) m4) (blkX 2 (seqK Try.prog hoardlaw3_TapeDraws_kp jn (cAt [true, true, true, true, true, true] (bodyOf Try.f3)) (retK Try.prog Try.f3 Q) noX (retK Try.prog Try.f3 Q)) noX) (retK Try.prog Try.f3 Q)) (blkX 3 (seqK Try.prog hoardlaw3_TapeDraws_kp jn (cAt [true, true, true, true, true, false, true, false, false, true, true] (bodyOf Try.f3)) (lopK Try.prog hoardlaw3_TapeDraws_kp jn (cAt [true, true, true, true, true, false, true, false, false] (bodyOf Try.f3)) (blkX 2 (seqK Try.prog hoardlaw3_TapeDraws_kp jn (cAt [true, true, true, true, true, true] (bodyOf Try.f3)) (retK Try.prog Try.f3 Q) noX (retK Try.prog Try.f3 Q)) noX) (retK Try.prog Try.f3 Q) m4) (blkX 2 (seqK Try.prog hoardlaw3_TapeDraws_kp jn (cAt [true, true, true, true, true, true] (bodyOf Try.f3)) (retK Try.prog Try.f3 Q) noX (retK Try.prog Try.f3 Q)) noX) (retK Try.prog Try.f3 Q)) (blkX 2 (seqK Try.prog hoardlaw3_TapeDraws_kp jn (cAt [true, true, true, true, true, true] (bodyOf Try.f3)) (retK Try.prog Try.f3 Q) noX (retK Try.prog Try.f3 Q)) noX)) (retK Try.prog Try.f3 Q) ρ) ((.slice l0.a l0.n l0.c) :: (.int .i64 n1) :: us 4 ((.pointer t6) :: us 1 ((.int .i64 i8) :: (.int .u32 want9) :: us 65 [])))
def hoardlaw3_TapeDraws_j6 (jn : Jn) (Q : Value → WP)  (n1 : Int) (t6 : Option Addr) : WP := jn 36 (fun ρ => codeI Try.prog hoardlaw3_TapeDraws_kp jn (cAt [true, true, true, true, true, true] (bodyOf Try.f3)) (retK Try.prog Try.f3 Q) noX (retK Try.prog Try.f3 Q) ρ) (us 1 ((.int .i64 n1) :: us 4 ((.pointer t6) :: us 68 [])))
def hoardlaw3_TapeDraws_l4 (jn : Jn) (Q : Value → WP)  (m4 : Nat) (l0 : Sl) (n1 : Int) (t6 : Option Addr) (i8 : Int) : WP := lop Try.prog hoardlaw3_TapeDraws_kp jn (cAt [true, true, true, true, true, false, true, false, false] (bodyOf Try.f3)) (blkX 2 (seqK Try.prog hoardlaw3_TapeDraws_kp jn (cAt [true, true, true, true, true, true] (bodyOf Try.f3)) (retK Try.prog Try.f3 Q) noX (retK Try.prog Try.f3 Q)) noX) (retK Try.prog Try.f3 Q) m4 ((.slice l0.a l0.n l0.c) :: (.int .i64 n1) :: us 4 ((.pointer t6) :: us 1 ((.int .i64 i8) :: us 66 [])))
def hoardlaw3_TapeDraws_j3 (jn : Jn) (Q : Value → WP)  (l0 : Sl) (n1 : Int) (t6 : Option Addr) : WP := jn 20 (fun ρ => codeI Try.prog hoardlaw3_TapeDraws_kp jn (cAt [true, true, true, true, true] (bodyOf Try.f3)) (retK Try.prog Try.f3 Q) noX (retK Try.prog Try.f3 Q) ρ) ((.slice l0.a l0.n l0.c) :: (.int .i64 n1) :: us 4 ((.pointer t6) :: us 68 []))
def hoardlaw3_TapeDraws_l2 (jn : Jn) (Q : Value → WP)  (m2 : Nat) (l0 : Sl) (n1 : Int) (m5 : Sl) (t6 : Option Addr) (i7 : Int) : WP := lop Try.prog hoardlaw3_TapeDraws_kp jn (cAt [true, true, true, true, false, true, false, false] (bodyOf Try.f3)) (blkX 0 (seqK Try.prog hoardlaw3_TapeDraws_kp jn (cAt [true, true, true, true, true] (bodyOf Try.f3)) (retK Try.prog Try.f3 Q) noX (retK Try.prog Try.f3 Q)) noX) (retK Try.prog Try.f3 Q) m2 ((.slice l0.a l0.n l0.c) :: (.int .i64 n1) :: us 3 ((.slice m5.a m5.n m5.c) :: (.pointer t6) :: (.int .i64 i7) :: us 67 []))
def hoardlaw3_TapeDraws_j1 (jn : Jn) (Q : Value → WP)  (l0 : Sl) (n1 : Int) : WP := jn 8 (fun ρ => codeI Try.prog hoardlaw3_TapeDraws_kp jn (cAt [true, true] (bodyOf Try.f3)) (retK Try.prog Try.f3 Q) noX (retK Try.prog Try.f3 Q) ρ) ((.slice l0.a l0.n l0.c) :: (.int .i64 n1) :: us 73 [])
def hoardlaw3_TapeDraws (l0 : Sl) (n1 : Int) (Q : Value → WP) : WP := funJ idJ Try.prog hoardlaw3_TapeDraws_kp Try.f3 [.slice l0.a l0.n l0.c, .int .i64 n1] Q
theorem hoardlaw3_TapeDraws_j5_raw (jn : Jn) (Q : Value → WP) (m4 : Nat) (l0 : Sl) (n1 : Int) (t6 : Option Addr) (i8 : Int) (want9 : Int) : codeI Try.prog hoardlaw3_TapeDraws_kp jn (cAt [true, true, true, true, true, false, true, false, false, true, false, false, true, true] (bodyOf Try.f3)) (seqK Try.prog hoardlaw3_TapeDraws_kp jn (cAt [true, true, true, true, true, false, true, false, false, true, true] (bodyOf Try.f3)) (lopK Try.prog hoardlaw3_TapeDraws_kp jn (cAt [true, true, true, true, true, false, true, false, false] (bodyOf Try.f3)) (blkX 2 (seqK Try.prog hoardlaw3_TapeDraws_kp jn (cAt [true, true, true, true, true, true] (bodyOf Try.f3)) (retK Try.prog Try.f3 Q) noX (retK Try.prog Try.f3 Q)) noX) (retK Try.prog Try.f3 Q) m4) (blkX 2 (seqK Try.prog hoardlaw3_TapeDraws_kp jn (cAt [true, true, true, true, true, true] (bodyOf Try.f3)) (retK Try.prog Try.f3 Q) noX (retK Try.prog Try.f3 Q)) noX) (retK Try.prog Try.f3 Q)) (blkX 3 (seqK Try.prog hoardlaw3_TapeDraws_kp jn (cAt [true, true, true, true, true, false, true, false, false, true, true] (bodyOf Try.f3)) (lopK Try.prog hoardlaw3_TapeDraws_kp jn (cAt [true, true, true, true, true, false, true, false, false] (bodyOf Try.f3)) (blkX 2 (seqK Try.prog hoardlaw3_TapeDraws_kp jn (cAt [true, true, true, true, true, true] (bodyOf Try.f3)) (retK Try.prog Try.f3 Q) noX (retK Try.prog Try.f3 Q)) noX) (retK Try.prog Try.f3 Q) m4) (blkX 2 (seqK Try.prog hoardlaw3_TapeDraws_kp jn (cAt [true, true, true, true, true, true] (bodyOf Try.f3)) (retK Try.prog Try.f3 Q) noX (retK Try.prog Try.f3 Q)) noX) (retK Try.prog Try.f3 Q)) (blkX 2 (seqK Try.prog hoardlaw3_TapeDraws_kp jn (cAt [true, true, true, true, true, true] (bodyOf Try.f3)) (retK Try.prog Try.f3 Q) noX (retK Try.prog Try.f3 Q)) noX)) (retK Try.prog Try.f3 Q) ((.slice l0.a l0.n l0.c) :: (.int .i64 n1) :: us 4 ((.pointer t6) :: us 1 ((.int .i64 i8) :: (.int .u32 want9) :: us 65 []))) =
  call1 (.int .i64) Try.prog id_tape_Tape_Left [.pointer t6] fun x_9 =>
  ite2 (x_9 != (if (IntKind.wrap .i64 ((l0.n : Int) - i8)) > (0 : Int) then (IntKind.wrap .i64 ((l0.n : Int) - i8)) else (0 : Int))) (
  Q (.bool false)) (
  call1 (.int .i64) Try.prog id_tape_Tape_Taken [.pointer t6] fun x_10 =>
  ite2 (x_10 != i8) (
  Q (.bool false)) (
  call1 (.int .u32) Try.prog id_tape_Tape_Next [.pointer t6] fun x_11 =>
  ite2 (x_11 != want9) (
  Q (.bool false)) (
  hoardlaw3_TapeDraws_l4 jn Q  m4 l0 n1 t6 (IntKind.wrap .i64 (i8 + (1 : Int)))))) := by kernel_rfl
theorem hoardlaw3_TapeDraws_j5_def (Q : Value → WP) (m4 : Nat) (l0 : Sl) (n1 : Int) (t6 : Option Addr) (i8 : Int) (want9 : Int) : hoardlaw3_TapeDraws_j5 idJ Q m4 l0 n1 t6 i8 want9 = codeI Try.prog hoardlaw3_TapeDraws_kp idJ (cAt [true, true, true, true, true, false, true, false, false, true, false, false, true, true] (bodyOf Try.f3)) (seqK Try.prog hoardlaw3_TapeDraws_kp idJ (cAt [true, true, true, true, true, false, true, false, false, true, true] (bodyOf Try.f3)) (lopK Try.prog hoardlaw3_TapeDraws_kp idJ (cAt [true, true, true, true, true, false, true, false, false] (bodyOf Try.f3)) (blkX 2 (seqK Try.prog hoardlaw3_TapeDraws_kp idJ (cAt [true, true, true, true, true, true] (bodyOf Try.f3)) (retK Try.prog Try.f3 Q) noX (retK Try.prog Try.f3 Q)) noX) (retK Try.prog Try.f3 Q) m4) (blkX 2 (seqK Try.prog hoardlaw3_TapeDraws_kp idJ (cAt [true, true, true, true, true, true] (bodyOf Try.f3)) (retK Try.prog Try.f3 Q) noX (retK Try.prog Try.f3 Q)) noX) (retK Try.prog Try.f3 Q)) (blkX 3 (seqK Try.prog hoardlaw3_TapeDraws_kp idJ (cAt [true, true, true, true, true, false, true, false, false, true, true] (bodyOf Try.f3)) (lopK Try.prog hoardlaw3_TapeDraws_kp idJ (cAt [true, true, true, true, true, false, true, false, false] (bodyOf Try.f3)) (blkX 2 (seqK Try.prog hoardlaw3_TapeDraws_kp idJ (cAt [true, true, true, true, true, true] (bodyOf Try.f3)) (retK Try.prog Try.f3 Q) noX (retK Try.prog Try.f3 Q)) noX) (retK Try.prog Try.f3 Q) m4) (blkX 2 (seqK Try.prog hoardlaw3_TapeDraws_kp idJ (cAt [true, true, true, true, true, true] (bodyOf Try.f3)) (retK Try.prog Try.f3 Q) noX (retK Try.prog Try.f3 Q)) noX) (retK Try.prog Try.f3 Q)) (blkX 2 (seqK Try.prog hoardlaw3_TapeDraws_kp idJ (cAt [true, true, true, true, true, true] (bodyOf Try.f3)) (retK Try.prog Try.f3 Q) noX (retK Try.prog Try.f3 Q)) noX)) (retK Try.prog Try.f3 Q) ((.slice l0.a l0.n l0.c) :: (.int .i64 n1) :: us 4 ((.pointer t6) :: us 1 ((.int .i64 i8) :: (.int .u32 want9) :: us 65 []))) := by kernel_rfl
theorem hoardlaw3_TapeDraws_j6_raw (jn : Jn) (Q : Value → WP)  (n1 : Int) (t6 : Option Addr) : codeI Try.prog hoardlaw3_TapeDraws_kp jn (cAt [true, true, true, true, true, true] (bodyOf Try.f3)) (retK Try.prog Try.f3 Q) noX (retK Try.prog Try.f3 Q) (us 1 ((.int .i64 n1) :: us 4 ((.pointer t6) :: us 68 []))) =
  call1 (.int .i64) Try.prog id_tape_Tape_Taken [.pointer t6] fun x_12 =>
  ite2 (x_12 == n1) (
  call1 .bool Try.prog id_hoardlaw3_known [] fun x_13 =>
  Q (.bool x_13)) (
  Q (.bool false)) := by kernel_rfl
theorem hoardlaw3_TapeDraws_j6_def (Q : Value → WP)  (n1 : Int) (t6 : Option Addr) : hoardlaw3_TapeDraws_j6 idJ Q  n1 t6 = codeI Try.prog hoardlaw3_TapeDraws_kp idJ (cAt [true, true, true, true, true, true] (bodyOf Try.f3)) (retK Try.prog Try.f3 Q) noX (retK Try.prog Try.f3 Q) (us 1 ((.int .i64 n1) :: us 4 ((.pointer t6) :: us 68 []))) := by kernel_rfl
theorem hoardlaw3_TapeDraws_l4_raw (jn : Jn) (Q : Value → WP)  (m4 : Nat) (l0 : Sl) (n1 : Int) (t6 : Option Addr) (i8 : Int) : hoardlaw3_TapeDraws_l4 jn Q  (m4 + 1) l0 n1 t6 i8 =
  ite2 (decide (i8 < n1)) (
  ite2 (decide (i8 < (l0.n : Int))) (
  idx l0.a l0.n i8 fun b_6 o_7 =>
  ld (.int .u32) b_6 (o_7 + (i8).toNat * 1) fun x_8 =>
  hoardlaw3_TapeDraws_j5 jn Q m4 l0 n1 t6 i8 x_8) (
  hoardlaw3_TapeDraws_j5 jn Q m4 l0 n1 t6 i8 (0 : Int))) (
  hoardlaw3_TapeDraws_j6 jn Q  n1 t6) := by kernel_rfl
theorem hoardlaw3_TapeDraws_l4_zero (jn : Jn) (Q : Value → WP)  (l0 : Sl) (n1 : Int) (t6 : Option Addr) (i8 : Int) : hoardlaw3_TapeDraws_l4 jn Q  0 l0 n1 t6 i8 = bot := by kernel_rfl
theorem hoardlaw3_TapeDraws_j3_raw (jn : Jn) (Q : Value → WP)  (l0 : Sl) (n1 : Int) (t6 : Option Addr) : codeI Try.prog hoardlaw3_TapeDraws_kp jn (cAt [true, true, true, true, true] (bodyOf Try.f3)) (retK Try.prog Try.f3 Q) noX (retK Try.prog Try.f3 Q) ((.slice l0.a l0.n l0.c) :: (.int .i64 n1) :: us 4 ((.pointer t6) :: us 68 [])) =
  exM fun m => hoardlaw3_TapeDraws_l4 jn Q  m l0 n1 t6 (0 : Int) := by kernel_rfl
theorem hoardlaw3_TapeDraws_j3_def (Q : Value → WP)  (l0 : Sl) (n1 : Int) (t6 : Option Addr) : hoardlaw3_TapeDraws_j3 idJ Q  l0 n1 t6 = codeI Try.prog hoardlaw3_TapeDraws_kp idJ (cAt [true, true, true, true, true] (bodyOf Try.f3)) (retK Try.prog Try.f3 Q) noX (retK Try.prog Try.f3 Q) ((.slice l0.a l0.n l0.c) :: (.int .i64 n1) :: us 4 ((.pointer t6) :: us 68 [])) := by kernel_rfl
theorem hoardlaw3_TapeDraws_l2_raw (jn : Jn) (Q : Value → WP)  (m2 : Nat) (l0 : Sl) (n1 : Int) (m5 : Sl) (t6 : Option Addr) (i7 : Int) : hoardlaw3_TapeDraws_l2 jn Q  (m2 + 1) l0 n1 m5 t6 i7 =
  ite2 (decide (i7 < (m5.n : Int))) (
  idx m5.a m5.n i7 fun b_4 o_5 =>
  st b_4 (o_5 + (i7).toNat * 1) (.int .u32 (7 : Int)) <|
  hoardlaw3_TapeDraws_l2 jn Q  m2 l0 n1 m5 t6 (IntKind.wrap .i64 (i7 + (1 : Int)))) (
  hoardlaw3_TapeDraws_j3 jn Q  l0 n1 t6) := by kernel_rfl
theorem hoardlaw3_TapeDraws_l2_zero (jn : Jn) (Q : Value → WP)  (l0 : Sl) (n1 : Int) (m5 : Sl) (t6 : Option Addr) (i7 : Int) : hoardlaw3_TapeDraws_l2 jn Q  0 l0 n1 m5 t6 i7 = bot := by kernel_rfl
theorem hoardlaw3_TapeDraws_j1_raw (jn : Jn) (Q : Value → WP)  (l0 : Sl) (n1 : Int) : codeI Try.prog hoardlaw3_TapeDraws_kp jn (cAt [true, true] (bodyOf Try.f3)) (retK Try.prog Try.f3 Q) noX (retK Try.prog Try.f3 Q) ((.slice l0.a l0.n l0.c) :: (.int .i64 n1) :: us 73 []) =
  newB [] ty_uint32 fun b_1 =>
  appendC ty_uint32 1 4 [.int .u32 (0 : Int)] ⟨(some ⟨b_1, 0, none⟩), 0, 0⟩ l0.n (fun w => rdA w l0.a (l0.n * 1)) fun s_2 =>
  call1 .ptr Try.prog id_tape_New [.slice s_2.a s_2.n s_2.c] fun x_3 =>
  exM fun m => hoardlaw3_TapeDraws_l2 jn Q  m l0 n1 s_2 x_3 (0 : Int) := by kernel_rfl
theorem hoardlaw3_TapeDraws_j1_def (Q : Value → WP)  (l0 : Sl) (n1 : Int) : hoardlaw3_TapeDraws_j1 idJ Q  l0 n1 = codeI Try.prog hoardlaw3_TapeDraws_kp idJ (cAt [true, true] (bodyOf Try.f3)) (retK Try.prog Try.f3 Q) noX (retK Try.prog Try.f3 Q) ((.slice l0.a l0.n l0.c) :: (.int .i64 n1) :: us 73 []) := by kernel_rfl
theorem hoardlaw3_TapeDraws_raw (jn : Jn) (l0 : Sl) (n1 : Int) (Q : Value → WP) : funJ jn Try.prog hoardlaw3_TapeDraws_kp Try.f3 [.slice l0.a l0.n l0.c, .int .i64 n1] Q =
  ite2 (decide ((l0.n : Int) > (500 : Int))) (
  Q (.bool true)) (
  ite2 (decide (n1 < (0 : Int))) (
  Q (.bool true)) (
  ite2 (decide (n1 > (600 : Int))) (
  Q (.bool true)) (
  hoardlaw3_TapeDraws_j1 jn Q  l0 n1))) := by kernel_rfl
theorem hoardlaw3_TapeDraws_def (l0 : Sl) (n1 : Int) (Q : Value → WP) : hoardlaw3_TapeDraws l0 n1 Q = funJ idJ Try.prog hoardlaw3_TapeDraws_kp Try.f3 [.slice l0.a l0.n l0.c, .int .i64 n1] Q := rfl
theorem hoardlaw3_TapeDraws_calls {l0 : Sl} {n1 : Int} {Q : Value → WP} {w : World} (h : hoardlaw3_TapeDraws l0 n1 Q w) : Calls Try.prog id_hoardlaw3_TapeDraws #[.slice l0.a l0.n l0.c, .int .i64 n1] w fun e w' => ∃ v, e = .returned v ∧ Q v w' :=
  funJ_calls mixed Try.func3 rfl h

-- hoard/hoardlaw3.TapeOfNothing
def hoardlaw3_TapeOfNothing_kp : KP := ⟨[(8, [0]), (13, [0, 3, 4]), (20, [3])], []⟩
def hoardlaw3_TapeOfNothing_j3 (jn : Jn) (Q : Value → WP)  (t3 : Option Addr) : WP := jn 20 (fun ρ => codeI Try.prog hoardlaw3_TapeOfNothing_kp jn (cAt [true, true, true, true] (bodyOf Try.f4)) (retK Try.prog Try.f4 Q) noX (retK Try.prog Try.f4 Q) ρ) (us 3 ((.pointer t3) :: us 27 []))
def hoardlaw3_TapeOfNothing_l2 (jn : Jn) (Q : Value → WP)  (m2 : Nat) (n0 : Int) (t3 : Option Addr) (i4 : Int) : WP := lop Try.prog hoardlaw3_TapeOfNothing_kp jn (cAt [true, true, true, false, true, false, false] (bodyOf Try.f4)) (blkX 0 (seqK Try.prog hoardlaw3_TapeOfNothing_kp jn (cAt [true, true, true, true] (bodyOf Try.f4)) (retK Try.prog Try.f4 Q) noX (retK Try.prog Try.f4 Q)) noX) (retK Try.prog Try.f4 Q) m2 ((.int .i64 n0) :: us 2 ((.pointer t3) :: (.int .i64 i4) :: us 26 []))
def hoardlaw3_TapeOfNothing_j1 (jn : Jn) (Q : Value → WP)  (n0 : Int) : WP := jn 8 (fun ρ => codeI Try.prog hoardlaw3_TapeOfNothing_kp jn (cAt [true, true] (bodyOf Try.f4)) (retK Try.prog Try.f4 Q) noX (retK Try.prog Try.f4 Q) ρ) ((.int .i64 n0) :: us 30 [])
def hoardlaw3_TapeOfNothing (n0 : Int) (Q : Value → WP) : WP := funJ idJ Try.prog hoardlaw3_TapeOfNothing_kp Try.f4 [.int .i64 n0] Q
theorem hoardlaw3_TapeOfNothing_j3_raw (jn : Jn) (Q : Value → WP)  (t3 : Option Addr) : codeI Try.prog hoardlaw3_TapeOfNothing_kp jn (cAt [true, true, true, true] (bodyOf Try.f4)) (retK Try.prog Try.f4 Q) noX (retK Try.prog Try.f4 Q) (us 3 ((.pointer t3) :: us 27 [])) =
  call1 (.int .i64) Try.prog id_tape_Tape_Left [.pointer t3] fun x_4 =>
  ite2 (x_4 == (0 : Int)) (
  call1 (.int .i64) Try.prog id_tape_Tape_Taken [.pointer t3] fun x_5 =>
  ite2 (x_5 == (0 : Int)) (
  call1 .bool Try.prog id_hoardlaw3_known [] fun x_6 =>
  Q (.bool x_6)) (
  Q (.bool false))) (
  Q (.bool false)) := by kernel_rfl
theorem hoardlaw3_TapeOfNothing_j3_def (Q : Value → WP)  (t3 : Option Addr) : hoardlaw3_TapeOfNothing_j3 idJ Q  t3 = codeI Try.prog hoardlaw3_TapeOfNothing_kp idJ (cAt [true, true, true, true] (bodyOf Try.f4)) (retK Try.prog Try.f4 Q) noX (retK Try.prog Try.f4 Q) (us 3 ((.pointer t3) :: us 27 [])) := by kernel_rfl
theorem hoardlaw3_TapeOfNothing_l2_raw (jn : Jn) (Q : Value → WP)  (m2 : Nat) (n0 : Int) (t3 : Option Addr) (i4 : Int) : hoardlaw3_TapeOfNothing_l2 jn Q  (m2 + 1) n0 t3 i4 =
  ite2 (decide (i4 < n0)) (
  call1 (.int .u32) Try.prog id_tape_Tape_Next [.pointer t3] fun x_3 =>
  ite2 (x_3 != (0 : Int)) (
  Q (.bool false)) (
  hoardlaw3_TapeOfNothing_l2 jn Q  m2 n0 t3 (IntKind.wrap .i64 (i4 + (1 : Int))))) (
  hoardlaw3_TapeOfNothing_j3 jn Q  t3) := by kernel_rfl
theorem hoardlaw3_TapeOfNothing_l2_zero (jn : Jn) (Q : Value → WP)  (n0 : Int) (t3 : Option Addr) (i4 : Int) : hoardlaw3_TapeOfNothing_l2 jn Q  0 n0 t3 i4 = bot := by kernel_rfl
theorem hoardlaw3_TapeOfNothing_j1_raw (jn : Jn) (Q : Value → WP)  (n0 : Int) : codeI Try.prog hoardlaw3_TapeOfNothing_kp jn (cAt [true, true] (bodyOf Try.f4)) (retK Try.prog Try.f4 Q) noX (retK Try.prog Try.f4 Q) ((.int .i64 n0) :: us 30 []) =
  exM fun m => hoardlaw3_TapeOfNothing_l2 jn Q  m n0 (none : Option Addr) (0 : Int) := by kernel_rfl
theorem hoardlaw3_TapeOfNothing_j1_def (Q : Value → WP)  (n0 : Int) : hoardlaw3_TapeOfNothing_j1 idJ Q  n0 = codeI Try.prog hoardlaw3_TapeOfNothing_kp idJ (cAt [true, true] (bodyOf Try.f4)) (retK Try.prog Try.f4 Q) noX (retK Try.prog Try.f4 Q) ((.int .i64 n0) :: us 30 []) := by kernel_rfl
theorem hoardlaw3_TapeOfNothing_raw (jn : Jn) (n0 : Int) (Q : Value → WP) : funJ jn Try.prog hoardlaw3_TapeOfNothing_kp Try.f4 [.int .i64 n0] Q =
  ite2 (decide (n0 < (0 : Int))) (
  call1 .bool Try.prog id_hoardlaw3_known [] fun x_1 =>
  Q (.bool x_1)) (
  ite2 (decide (n0 > (100 : Int))) (
  call1 .bool Try.prog id_hoardlaw3_known [] fun x_2 =>
  Q (.bool x_2)) (
  hoardlaw3_TapeOfNothing_j1 jn Q  n0)) := by kernel_rfl
theorem hoardlaw3_TapeOfNothing_def (n0 : Int) (Q : Value → WP) : hoardlaw3_TapeOfNothing n0 Q = funJ idJ Try.prog hoardlaw3_TapeOfNothing_kp Try.f4 [.int .i64 n0] Q := rfl
theorem hoardlaw3_TapeOfNothing_calls {n0 : Int} {Q : Value → WP} {w : World} (h : hoardlaw3_TapeOfNothing n0 Q w) : Calls Try.prog id_hoardlaw3_TapeOfNothing #[.int .i64 n0] w fun e w' => ∃ v, e = .returned v ∧ Q v w' :=
  funJ_calls mixed Try.func4 rfl h

-- hoard/tape.New
def tape_New_kp : KP := ⟨[], []⟩
def tape_New (draws0 : Sl) (Q : Value → WP) : WP := funJ idJ Try.prog tape_New_kp Try.f18 [.slice draws0.a draws0.n draws0.c] Q
theorem tape_New_raw (jn : Jn) (draws0 : Sl) (Q : Value → WP) : funJ jn Try.prog tape_New_kp Try.f18 [.slice draws0.a draws0.n draws0.c] Q =
  call1 .slc Try.prog id_slices_Clone_s_uint32_uint32 [.slice draws0.a draws0.n draws0.c] fun x_1 =>
  newB [.slice x_1.a x_1.n x_1.c, .int .i64 (0 : Int)] ty_tape_Tape fun b_2 =>
  Q (.pointer (some ⟨b_2, 0, none⟩)) := by kernel_rfl
theorem tape_New_def (draws0 : Sl) (Q : Value → WP) : tape_New draws0 Q = funJ idJ Try.prog tape_New_kp Try.f18 [.slice draws0.a draws0.n draws0.c] Q := rfl
theorem tape_New_calls {draws0 : Sl} {Q : Value → WP} {w : World} (h : tape_New draws0 Q w) : Calls Try.prog id_tape_New #[.slice draws0.a draws0.n draws0.c] w fun e w' => ∃ v, e = .returned v ∧ Q v w' :=
  funJ_calls mixed Try.func18 rfl h

-- (*hoard/tape.Tape).Left
def tape_Tape_Left_kp : KP := ⟨[], [(3, [0, 1, 2, 3, 4, 5, 6, 7, 9, 10, 11])]⟩
def tape_Tape_Left (t0 : Option Addr) (Q : Value → WP) : WP := funJ idJ Try.prog tape_Tape_Left_kp Try.f19 [.pointer t0] Q
theorem tape_Tape_Left_raw (jn : Jn) (t0 : Option Addr) (Q : Value → WP) : funJ jn Try.prog tape_Tape_Left_kp Try.f19 [.pointer t0] Q =
  ite2 (Option.isNone t0) (
  Q (.int .i64 (0 : Int))) (
  drawW fun S =>
  nilck t0 fun b_1 o_2 =>
  ldS S .slc b_1 o_2 fun x_3 =>
  nilck t0 fun b_4 o_5 =>
  ld (.int .i64) b_4 (o_5 + 1) fun x_6 =>
  keepS true S <|
  Q (.int .i64 (if (IntKind.wrap .i64 ((x_3.n : Int) - x_6)) > (0 : Int) then (IntKind.wrap .i64 ((x_3.n : Int) - x_6)) else (0 : Int)))) := by kernel_rfl
theorem tape_Tape_Left_def (t0 : Option Addr) (Q : Value → WP) : tape_Tape_Left t0 Q = funJ idJ Try.prog tape_Tape_Left_kp Try.f19 [.pointer t0] Q := rfl
theorem tape_Tape_Left_calls {t0 : Option Addr} {Q : Value → WP} {w : World} (h : tape_Tape_Left t0 Q w) : Calls Try.prog id_tape_Tape_Left #[.pointer t0] w fun e w' => ∃ v, e = .returned v ∧ Q v w' :=
  funJ_calls mixed Try.func19 rfl h

-- (*hoard/tape.Tape).Taken
def tape_Tape_Taken_kp : KP := ⟨[], []⟩
def tape_Tape_Taken (t0 : Option Addr) (Q : Value → WP) : WP := funJ idJ Try.prog tape_Tape_Taken_kp Try.f20 [.pointer t0] Q
theorem tape_Tape_Taken_raw (jn : Jn) (t0 : Option Addr) (Q : Value → WP) : funJ jn Try.prog tape_Tape_Taken_kp Try.f20 [.pointer t0] Q =
  ite2 (Option.isNone t0) (
  Q (.int .i64 (0 : Int))) (
  nilck t0 fun b_1 o_2 =>
  ld (.int .i64) b_1 (o_2 + 1) fun x_3 =>
  Q (.int .i64 x_3)) := by kernel_rfl
theorem tape_Tape_Taken_def (t0 : Option Addr) (Q : Value → WP) : tape_Tape_Taken t0 Q = funJ idJ Try.prog tape_Tape_Taken_kp Try.f20 [.pointer t0] Q := rfl
theorem tape_Tape_Taken_calls {t0 : Option Addr} {Q : Value → WP} {w : World} (h : tape_Tape_Taken t0 Q w) : Calls Try.prog id_tape_Tape_Taken #[.pointer t0] w fun e w' => ∃ v, e = .returned v ∧ Q v w' :=
  funJ_calls mixed Try.func20 rfl h

-- (*hoard/tape.Tape).Next
def tape_Tape_Next_kp : KP := ⟨[], [(4, [0, 1, 2, 3, 4, 5, 6, 8, 9]), (6, [0, 1, 2, 3, 4, 5, 6, 8, 9, 11])]⟩
def tape_Tape_Next (t0 : Option Addr) (Q : Value → WP) : WP := funJ idJ Try.prog tape_Tape_Next_kp Try.f21 [.pointer t0] Q
theorem tape_Tape_Next_raw (jn : Jn) (t0 : Option Addr) (Q : Value → WP) : funJ jn Try.prog tape_Tape_Next_kp Try.f21 [.pointer t0] Q =
  ite2 (Option.isNone t0) (
  Q (.int .u32 (0 : Int))) (
  nilck t0 fun b_1 o_2 =>
  ld (.int .i64) b_1 (o_2 + 1) fun x_3 =>
  nilck t0 fun b_4 o_5 =>
  st b_4 (o_5 + 1) (.int .i64 (IntKind.wrap .i64 (x_3 + (1 : Int)))) <|
  drawW fun S =>
  nilck t0 fun b_6 o_7 =>
  ldS S (.int .i64) b_6 (o_7 + 1) fun x_8 =>
  nilck t0 fun b_9 o_10 =>
  ld .slc b_9 o_10 fun x_11 =>
  keepS true S <|
  ite2 (decide (x_8 > (x_11.n : Int))) (
  Q (.int .u32 (0 : Int))) (
  drawW fun S =>
  nilck t0 fun b_12 o_13 =>
  ldS S .slc b_12 o_13 fun x_14 =>
  nilck t0 fun b_15 o_16 =>
  ld (.int .i64) b_15 (o_16 + 1) fun x_17 =>
  keepS true S <|
  idx x_14.a x_14.n (IntKind.wrap .i64 (x_17 - (1 : Int))) fun b_18 o_19 =>
  ld (.int .u32) b_18 (o_19 + ((IntKind.wrap .i64 (x_17 - (1 : Int)))).toNat * 1) fun x_20 =>
  Q (.int .u32 x_20))) := by kernel_rfl
theorem tape_Tape_Next_def (t0 : Option Addr) (Q : Value → WP) : tape_Tape_Next t0 Q = funJ idJ Try.prog tape_Tape_Next_kp Try.f21 [.pointer t0] Q := rfl
theorem tape_Tape_Next_calls {t0 : Option Addr} {Q : Value → WP} {w : World} (h : tape_Tape_Next t0 Q w) : Calls Try.prog id_tape_Tape_Next #[.pointer t0] w fun e w' => ∃ v, e = .returned v ∧ Q v w' :=
  funJ_calls mixed Try.func21 rfl h

-- hoard/hoardlaw3.known
def hoardlaw3_known_kp : KP := ⟨[], []⟩
def hoardlaw3_known  (Q : Value → WP) : WP := funJ idJ Try.prog hoardlaw3_known_kp Try.f22 [] Q
theorem hoardlaw3_known_raw (jn : Jn)  (Q : Value → WP) : funJ jn Try.prog hoardlaw3_known_kp Try.f22 [] Q =
  newB [.int .u32 (5 : Int)] ty_uint32 fun b_1 =>
  call1 .ptr Try.prog id_tape_New [.slice (some ⟨b_1, 0, none⟩) 1 1] fun x_2 =>
  call1 (.int .u32) Try.prog id_tape_Tape_Next [.pointer x_2] fun x_3 =>
  ite2 (x_3 == (5 : Int)) (
  call1 (.int .u32) Try.prog id_tape_Tape_Next [.pointer x_2] fun x_4 =>
  ite2 (x_4 == (0 : Int)) (
  call1 (.int .i64) Try.prog id_tape_Tape_Taken [.pointer x_2] fun x_5 =>
  ite2 (x_5 == (2 : Int)) (
  call1 (.int .i64) Try.prog id_tape_Tape_Left [.pointer x_2] fun x_6 =>
  Q (.bool (x_6 == (0 : Int)))) (
  Q (.bool false))) (
  Q (.bool false))) (
  Q (.bool false)) := by kernel_rfl
theorem hoardlaw3_known_def  (Q : Value → WP) : hoardlaw3_known  Q = funJ idJ Try.prog hoardlaw3_known_kp Try.f22 [] Q := rfl
theorem hoardlaw3_known_calls {Q : Value → WP} {w : World} (h : hoardlaw3_known Q w) : Calls Try.prog id_hoardlaw3_known #[] w fun e w' => ∃ v, e = .returned v ∧ Q v w' :=
  funJ_calls mixed Try.func22 rfl h

-- slices.Clone[[]uint32,uint32]
def slices_Clone_s_uint32_uint32_kp : KP := ⟨[], []⟩
def slices_Clone_s_uint32_uint32 (s0 : Sl) (Q : Value → WP) : WP := funJ idJ Try.prog slices_Clone_s_uint32_uint32_kp Try.f47 [.slice s0.a s0.n s0.c] Q
theorem slices_Clone_s_uint32_uint32_raw (jn : Jn) (s0 : Sl) (Q : Value → WP) : funJ jn Try.prog slices_Clone_s_uint32_uint32_kp Try.f47 [.slice s0.a s0.n s0.c] Q =
  ite2 (Option.isNone s0.a) (
  Q (.slice (none : Option Addr) 0 0)) (
  newB [] ty_uint32 fun b_1 =>
  appendC ty_uint32 1 4 [.int .u32 (0 : Int)] ⟨(some ⟨b_1, 0, none⟩), 0, 0⟩ s0.n (fun w => rdA w s0.a (s0.n * 1)) fun s_2 =>
  Q (.slice s_2.a s_2.n s_2.c)) := by kernel_rfl
theorem slices_Clone_s_uint32_uint32_def (s0 : Sl) (Q : Value → WP) : slices_Clone_s_uint32_uint32 s0 Q = funJ idJ Try.prog slices_Clone_s_uint32_uint32_kp Try.f47 [.slice s0.a s0.n s0.c] Q := rfl
theorem slices_Clone_s_uint32_uint32_calls {s0 : Sl} {Q : Value → WP} {w : World} (h : slices_Clone_s_uint32_uint32 s0 Q w) : Calls Try.prog id_slices_Clone_s_uint32_uint32 #[.slice s0.a s0.n s0.c] w fun e w' => ∃ v, e = .returned v ∧ Q v w' :=
  funJ_calls mixed Try.func47 rfl h

end Go.Proofs.Ytclmefcfmdefjaa
