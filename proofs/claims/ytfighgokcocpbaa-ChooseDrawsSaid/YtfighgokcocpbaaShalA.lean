/- Printed by a program of mine (wip/tools/shal.py): the shallow texts of the loaded functions, each equal to the interpreter's reading by the kernel. -/
import Derived.Test.YtfighgokcocpbaaSound7
import Derived.Test.YtfighgokcocpbaaChecked
import Derived.KernelRfl
set_option linter.unusedVariables false
namespace Go.Proofs.Ytfighgokcocpbaa
open Go.Hb

theorem mixed : Try.prog.follows .mixedOrders = true := by kernel_rfl
abbrev ty_5_int : TypeId := 31
abbrev ty_uint32 : TypeId := 35
abbrev ty_hoardref3_Tape : TypeId := 48
abbrev ty_hoardref19_Weights : TypeId := 53
abbrev ty_hoardref20_Chooser : TypeId := 55
abbrev ty_weigh_Weights : TypeId := 56
abbrev ty_choose_Chooser : TypeId := 62
abbrev ty_tape_Tape : TypeId := 65
abbrev id_hoardlaw20_ChooseHolds : FuncId := 3
abbrev id_hoardlaw20_ChooseEven : FuncId := 4
abbrev id_hoardlaw20_ChooseOfNothing : FuncId := 5
abbrev id_hoardlaw20_ChoosePlays : FuncId := 6
abbrev id_hoardlaw20_ChooseDraws : FuncId := 7
abbrev id_choose_New : FuncId := 8
abbrev id_tape_New : FuncId := 9
abbrev id_choose_Chooser_Epoch : FuncId := 10
abbrev id_choose_Chooser_Current : FuncId := 11
abbrev id_hoardlaw20_known : FuncId := 12
abbrev id_choose_Chooser_Streak : FuncId := 13
abbrev id_choose_Chooser_Force : FuncId := 14
abbrev id_hoardref20_New : FuncId := 15
abbrev id_hoardref20_Chooser_Force : FuncId := 16
abbrev id_hoardref20_Chooser_Epoch : FuncId := 17
abbrev id_choose_Chooser_Weights : FuncId := 18
abbrev id_tape_Tape_Taken : FuncId := 19
abbrev id_choose_isKind : FuncId := 20
abbrev id_weigh_Start : FuncId := 21
abbrev id_slices_Clone_s_uint32_uint32 : FuncId := 22
abbrev id_weigh_Next : FuncId := 23
abbrev id_weigh_Pick : FuncId := 24
abbrev id_tape_Tape_Next : FuncId := 25
abbrev id_hoardref19_Start : FuncId := 26
abbrev id_hoardref19_Next : FuncId := 27
abbrev id_hoardref19_Pick : FuncId := 28
abbrev id_hoardref3_Tape_Next : FuncId := 29
abbrev id_weigh_even : FuncId := 30
abbrev id_weigh_Is : FuncId := 31
abbrev id_fix_Mul : FuncId := 32
abbrev id_weigh_Keep : FuncId := 33
abbrev id_weigh_penalty : FuncId := 34
abbrev id_weigh_Sum : FuncId := 35
abbrev id_fix_Scale : FuncId := 36
abbrev id_hoardref19_Is : FuncId := 37
abbrev id_hoardref2_Mul : FuncId := 38
abbrev id_hoardref19_Keep : FuncId := 39
abbrev id_hoardref19_loss : FuncId := 40
abbrev id_hoardref19_Sum : FuncId := 41
abbrev id_hoardref2_Scale : FuncId := 42
abbrev id_fix_Clamp : FuncId := 43
abbrev id_math_bits_Mul64 : FuncId := 44
abbrev id_math_bits_Div64 : FuncId := 45
abbrev id_hoardref2_times : FuncId := 46
abbrev id_hoardref2_Clamp : FuncId := 47
abbrev id_math_bits_LeadingZeros64 : FuncId := 48
abbrev id_math_bits_Len64 : FuncId := 49
def str_____________________ : ByteArray := ⟨#[0, 1, 2, 2, 3, 3, 3, 3, 4, 4, 4, 4, 4, 4, 4, 4, 5, 5, 5, 5, 5, 5, 5, 5, 5, 5, 5, 5, 5, 5, 5, 5, 6, 6, 6, 6, 6, 6, 6, 6, 6, 6, 6, 6, 6, 6, 6, 6, 6, 6, 6, 6, 6, 6, 6, 6, 6, 6, 6, 6, 6, 6, 6, 6, 7, 7, 7, 7, 7, 7, 7, 7, 7, 7, 7, 7, 7, 7, 7, 7, 7, 7, 7, 7, 7, 7, 7, 7, 7, 7, 7, 7, 7, 7, 7, 7, 7, 7, 7, 7, 7, 7, 7, 7, 7, 7, 7, 7, 7, 7, 7, 7, 7, 7, 7, 7, 7, 7, 7, 7, 7, 7, 7, 7, 7, 7, 7, 7, 8, 8, 8, 8, 8, 8, 8, 8, 8, 8, 8, 8, 8, 8, 8, 8, 8, 8, 8, 8, 8, 8, 8, 8, 8, 8, 8, 8, 8, 8, 8, 8, 8, 8, 8, 8, 8, 8, 8, 8, 8, 8, 8, 8, 8, 8, 8, 8, 8, 8, 8, 8, 8, 8, 8, 8, 8, 8, 8, 8, 8, 8, 8, 8, 8, 8, 8, 8, 8, 8, 8, 8, 8, 8, 8, 8, 8, 8, 8, 8, 8, 8, 8, 8, 8, 8, 8, 8, 8, 8, 8, 8, 8, 8, 8, 8, 8, 8, 8, 8, 8, 8, 8, 8, 8, 8, 8, 8, 8, 8, 8, 8, 8, 8, 8, 8, 8, 8, 8, 8, 8, 8, 8, 8, 8, 8, 8, 8]⟩

-- hoard/hoardlaw20.ChooseHolds
def hoardlaw20_ChooseHolds_kp : KP := ⟨[(8, [0, 1, 2]), (14, [0, 1, 2, 7]), (19, [1, 2, 7, 9, 10, 11, 12]), (34, [1, 2, 7, 9, 10, 11, 12, 13, 14]), (42, [1, 2, 7, 9, 10, 11, 12]), (46, [])], []⟩
def hoardlaw20_ChooseHolds_j5 (jn : Jn) (Q : Value → WP) (m3 : Nat) (hold1 : Int) (draws2 : Sl) (c7 : Option Addr) (now9 : Int) (row10 : Int) (n11 : Int) (i12 : Int) : WP := jn 42 (fun ρ => codeI Try.prog hoardlaw20_ChooseHolds_kp jn (cAt [true, true, true, true, true, false, true, false, false, true, false, false, true, true, true, true] (bodyOf Try.f3)) (seqK Try.prog hoardlaw20_ChooseHolds_kp jn (cAt [true, true, true, true, true, false, true, false, false, true, true] (bodyOf Try.f3)) (lopK Try.prog hoardlaw20_ChooseHolds_kp jn (cAt [true, true, true, true, true, false, true, false, false] (bodyOf Try.f3)) (blkX 0 (seqK Try.prog hoardlaw20_ChooseHolds_kp jn (cAt [true, true, true, true, true, true] (bodyOf Try.f3)) (retK Try.prog Try.f3 Q) noX (retK Try.prog Try.f3 Q)) noX) (retK Try.prog Try.f3 Q) m3) (blkX 0 (seqK Try.prog hoardlaw20_ChooseHolds_kp jn (cAt [true, true, true, true, true, true] (bodyOf Try.f3)) (retK Try.prog Try.f3 Q) noX (retK Try.prog Try.f3 Q)) noX) (retK Try.prog Try.f3 Q)) (blkX 1 (seqK Try.prog hoardlaw20_ChooseHolds_kp jn (cAt [true, true, true, true, true, false, true, false, false, true, true] (bodyOf Try.f3)) (lopK Try.prog hoardlaw20_ChooseHolds_kp jn (cAt [true, true, true, true, true, false, true, false, false] (bodyOf Try.f3)) (blkX 0 (seqK Try.prog hoardlaw20_ChooseHolds_kp jn (cAt [true, true, true, true, true, true] (bodyOf Try.f3)) (retK Try.prog Try.f3 Q) noX (retK Try.prog Try.f3 Q)) noX) (retK Try.prog Try.f3 Q) m3) (blkX 0 (seqK Try.prog hoardlaw20_ChooseHolds_kp jn (cAt [true, true, true, true, true, true] (bodyOf Try.f3)) (retK Try.prog Try.f3 Q) noX (retK Try.prog Try.f3 Q)) noX) (retK Try.prog Try.f3 Q)) (blkX 0 (seqK Try.prog hoardlaw20_ChooseHolds_kp jn (cAt [true, true, true, true, true, true] (bodyOf Try.f3)) (retK Try.prog Try.f3 Q) noX (retK Try.prog Try.f3 Q)) noX)) (retK Try.prog Try.f3 Q) ρ) (us 1 ((.int .i64 hold1) :: (.slice draws2.a draws2.n draws2.c) :: us 4 ((.pointer c7) :: us 1 ((.int .i64 now9) :: (.int .i64 row10) :: (.int .i64 n11) :: (.int .i64 i12) :: us 71 []))))
def hoardlaw20_ChooseHolds_j4 (jn : Jn) (Q : Value → WP) (m3 : Nat) (hold1 : Int) (draws2 : Sl) (c7 : Option Addr) (now9 : Int) (row10 : Int) (n11 : Int) (i12 : Int) (k13 : Int) (ok14 : Bool) : WP := jn 34 (fun ρ => codeI Try.prog hoardlaw20_ChooseHolds_kp jn (cAt [true, true, true, true, true, false, true, false, false, true, false, false, true, true] (bodyOf Try.f3)) (seqK Try.prog hoardlaw20_ChooseHolds_kp jn (cAt [true, true, true, true, true, false, true, false, false, true, true] (bodyOf Try.f3)) (lopK Try.prog hoardlaw20_ChooseHolds_kp jn (cAt [true, true, true, true, true, false, true, false, false] (bodyOf Try.f3)) (blkX 0 (seqK Try.prog hoardlaw20_ChooseHolds_kp jn (cAt [true, true, true, true, true, true] (bodyOf Try.f3)) (retK Try.prog Try.f3 Q) noX (retK Try.prog Try.f3 Q)) noX) (retK Try.prog Try.f3 Q) m3) (blkX 0 (seqK Try.prog hoardlaw20_ChooseHolds_kp jn (cAt [true, true, true, true, true, true] (bodyOf Try.f3)) (retK Try.prog Try.f3 Q) noX (retK Try.prog Try.f3 Q)) noX) (retK Try.prog Try.f3 Q)) (blkX 1 (seqK Try.prog hoardlaw20_ChooseHolds_kp jn (cAt [true, true, true, true, true, false, true, false, false, true, true] (bodyOf Try.f3)) (lopK Try.prog hoardlaw20_ChooseHolds_kp jn (cAt [true, true, true, true, true, false, true, false, false] (bodyOf Try.f3)) (blkX 0 (seqK Try.prog hoardlaw20_ChooseHolds_kp jn (cAt [true, true, true, true, true, true] (bodyOf Try.f3)) (retK Try.prog Try.f3 Q) noX (retK Try.prog Try.f3 Q)) noX) (retK Try.prog Try.f3 Q) m3) (blkX 0 (seqK Try.prog hoardlaw20_ChooseHolds_kp jn (cAt [true, true, true, true, true, true] (bodyOf Try.f3)) (retK Try.prog Try.f3 Q) noX (retK Try.prog Try.f3 Q)) noX) (retK Try.prog Try.f3 Q)) (blkX 0 (seqK Try.prog hoardlaw20_ChooseHolds_kp jn (cAt [true, true, true, true, true, true] (bodyOf Try.f3)) (retK Try.prog Try.f3 Q) noX (retK Try.prog Try.f3 Q)) noX)) (retK Try.prog Try.f3 Q) ρ) (us 1 ((.int .i64 hold1) :: (.slice draws2.a draws2.n draws2.c) :: us 4 ((.pointer c7) :: us 1 ((.int .i64 now9) :: (.int .i64 row10) :: (.int .i64 n11) :: (.int .i64 i12) :: (.int .i64 k13) :: (.bool ok14) :: us 69 []))))
def hoardlaw20_ChooseHolds_j6 (jn : Jn) (Q : Value → WP)   : WP := jn 46 (fun ρ => codeI Try.prog hoardlaw20_ChooseHolds_kp jn (cAt [true, true, true, true, true, true] (bodyOf Try.f3)) (retK Try.prog Try.f3 Q) noX (retK Try.prog Try.f3 Q) ρ) (us 84 [])
def hoardlaw20_ChooseHolds_l3 (jn : Jn) (Q : Value → WP)  (m3 : Nat) (hold1 : Int) (draws2 : Sl) (c7 : Option Addr) (now9 : Int) (row10 : Int) (n11 : Int) (i12 : Int) : WP := lop Try.prog hoardlaw20_ChooseHolds_kp jn (cAt [true, true, true, true, true, false, true, false, false] (bodyOf Try.f3)) (blkX 0 (seqK Try.prog hoardlaw20_ChooseHolds_kp jn (cAt [true, true, true, true, true, true] (bodyOf Try.f3)) (retK Try.prog Try.f3 Q) noX (retK Try.prog Try.f3 Q)) noX) (retK Try.prog Try.f3 Q) m3 (us 1 ((.int .i64 hold1) :: (.slice draws2.a draws2.n draws2.c) :: us 4 ((.pointer c7) :: us 1 ((.int .i64 now9) :: (.int .i64 row10) :: (.int .i64 n11) :: (.int .i64 i12) :: us 71 []))))
def hoardlaw20_ChooseHolds_j2 (jn : Jn) (Q : Value → WP)  (kind0 : Int) (hold1 : Int) (draws2 : Sl) (c7 : Option Addr) : WP := jn 14 (fun ρ => codeI Try.prog hoardlaw20_ChooseHolds_kp jn (cAt [true, true, true, true] (bodyOf Try.f3)) (retK Try.prog Try.f3 Q) noX (retK Try.prog Try.f3 Q) ρ) ((.int .i64 kind0) :: (.int .i64 hold1) :: (.slice draws2.a draws2.n draws2.c) :: us 4 ((.pointer c7) :: us 76 []))
def hoardlaw20_ChooseHolds_j1 (jn : Jn) (Q : Value → WP)  (kind0 : Int) (hold1 : Int) (draws2 : Sl) : WP := jn 8 (fun ρ => codeI Try.prog hoardlaw20_ChooseHolds_kp jn (cAt [true, true] (bodyOf Try.f3)) (retK Try.prog Try.f3 Q) noX (retK Try.prog Try.f3 Q) ρ) ((.int .i64 kind0) :: (.int .i64 hold1) :: (.slice draws2.a draws2.n draws2.c) :: us 81 [])
def hoardlaw20_ChooseHolds (kind0 : Int) (hold1 : Int) (draws2 : Sl) (Q : Value → WP) : WP := funJ idJ Try.prog hoardlaw20_ChooseHolds_kp Try.f3 [.int .i64 kind0, .int .i64 hold1, .slice draws2.a draws2.n draws2.c] Q
theorem hoardlaw20_ChooseHolds_j5_raw (jn : Jn) (Q : Value → WP) (m3 : Nat) (hold1 : Int) (draws2 : Sl) (c7 : Option Addr) (now9 : Int) (row10 : Int) (n11 : Int) (i12 : Int) : codeI Try.prog hoardlaw20_ChooseHolds_kp jn (cAt [true, true, true, true, true, false, true, false, false, true, false, false, true, true, true, true] (bodyOf Try.f3)) (seqK Try.prog hoardlaw20_ChooseHolds_kp jn (cAt [true, true, true, true, true, false, true, false, false, true, true] (bodyOf Try.f3)) (lopK Try.prog hoardlaw20_ChooseHolds_kp jn (cAt [true, true, true, true, true, false, true, false, false] (bodyOf Try.f3)) (blkX 0 (seqK Try.prog hoardlaw20_ChooseHolds_kp jn (cAt [true, true, true, true, true, true] (bodyOf Try.f3)) (retK Try.prog Try.f3 Q) noX (retK Try.prog Try.f3 Q)) noX) (retK Try.prog Try.f3 Q) m3) (blkX 0 (seqK Try.prog hoardlaw20_ChooseHolds_kp jn (cAt [true, true, true, true, true, true] (bodyOf Try.f3)) (retK Try.prog Try.f3 Q) noX (retK Try.prog Try.f3 Q)) noX) (retK Try.prog Try.f3 Q)) (blkX 1 (seqK Try.prog hoardlaw20_ChooseHolds_kp jn (cAt [true, true, true, true, true, false, true, false, false, true, true] (bodyOf Try.f3)) (lopK Try.prog hoardlaw20_ChooseHolds_kp jn (cAt [true, true, true, true, true, false, true, false, false] (bodyOf Try.f3)) (blkX 0 (seqK Try.prog hoardlaw20_ChooseHolds_kp jn (cAt [true, true, true, true, true, true] (bodyOf Try.f3)) (retK Try.prog Try.f3 Q) noX (retK Try.prog Try.f3 Q)) noX) (retK Try.prog Try.f3 Q) m3) (blkX 0 (seqK Try.prog hoardlaw20_ChooseHolds_kp jn (cAt [true, true, true, true, true, true] (bodyOf Try.f3)) (retK Try.prog Try.f3 Q) noX (retK Try.prog Try.f3 Q)) noX) (retK Try.prog Try.f3 Q)) (blkX 0 (seqK Try.prog hoardlaw20_ChooseHolds_kp jn (cAt [true, true, true, true, true, true] (bodyOf Try.f3)) (retK Try.prog Try.f3 Q) noX (retK Try.prog Try.f3 Q)) noX)) (retK Try.prog Try.f3 Q) (us 1 ((.int .i64 hold1) :: (.slice draws2.a draws2.n draws2.c) :: us 4 ((.pointer c7) :: us 1 ((.int .i64 now9) :: (.int .i64 row10) :: (.int .i64 n11) :: (.int .i64 i12) :: us 71 [])))) = (
  call1 (.int .i64) Try.prog id_choose_Chooser_Current [.pointer c7] fun (x_6 : Int) =>
  ite2 (x_6 != now9) (
  Q (.bool false)) (
  hoardlaw20_ChooseHolds_l3 jn Q  m3 hold1 draws2 c7 now9 row10 n11 (IntKind.wrap .i64 (i12 + (1 : Int))))) := by kernel_rfl
theorem hoardlaw20_ChooseHolds_j5_def (Q : Value → WP) (m3 : Nat) (hold1 : Int) (draws2 : Sl) (c7 : Option Addr) (now9 : Int) (row10 : Int) (n11 : Int) (i12 : Int) : hoardlaw20_ChooseHolds_j5 idJ Q m3 hold1 draws2 c7 now9 row10 n11 i12 = codeI Try.prog hoardlaw20_ChooseHolds_kp idJ (cAt [true, true, true, true, true, false, true, false, false, true, false, false, true, true, true, true] (bodyOf Try.f3)) (seqK Try.prog hoardlaw20_ChooseHolds_kp idJ (cAt [true, true, true, true, true, false, true, false, false, true, true] (bodyOf Try.f3)) (lopK Try.prog hoardlaw20_ChooseHolds_kp idJ (cAt [true, true, true, true, true, false, true, false, false] (bodyOf Try.f3)) (blkX 0 (seqK Try.prog hoardlaw20_ChooseHolds_kp idJ (cAt [true, true, true, true, true, true] (bodyOf Try.f3)) (retK Try.prog Try.f3 Q) noX (retK Try.prog Try.f3 Q)) noX) (retK Try.prog Try.f3 Q) m3) (blkX 0 (seqK Try.prog hoardlaw20_ChooseHolds_kp idJ (cAt [true, true, true, true, true, true] (bodyOf Try.f3)) (retK Try.prog Try.f3 Q) noX (retK Try.prog Try.f3 Q)) noX) (retK Try.prog Try.f3 Q)) (blkX 1 (seqK Try.prog hoardlaw20_ChooseHolds_kp idJ (cAt [true, true, true, true, true, false, true, false, false, true, true] (bodyOf Try.f3)) (lopK Try.prog hoardlaw20_ChooseHolds_kp idJ (cAt [true, true, true, true, true, false, true, false, false] (bodyOf Try.f3)) (blkX 0 (seqK Try.prog hoardlaw20_ChooseHolds_kp idJ (cAt [true, true, true, true, true, true] (bodyOf Try.f3)) (retK Try.prog Try.f3 Q) noX (retK Try.prog Try.f3 Q)) noX) (retK Try.prog Try.f3 Q) m3) (blkX 0 (seqK Try.prog hoardlaw20_ChooseHolds_kp idJ (cAt [true, true, true, true, true, true] (bodyOf Try.f3)) (retK Try.prog Try.f3 Q) noX (retK Try.prog Try.f3 Q)) noX) (retK Try.prog Try.f3 Q)) (blkX 0 (seqK Try.prog hoardlaw20_ChooseHolds_kp idJ (cAt [true, true, true, true, true, true] (bodyOf Try.f3)) (retK Try.prog Try.f3 Q) noX (retK Try.prog Try.f3 Q)) noX)) (retK Try.prog Try.f3 Q) (us 1 ((.int .i64 hold1) :: (.slice draws2.a draws2.n draws2.c) :: us 4 ((.pointer c7) :: us 1 ((.int .i64 now9) :: (.int .i64 row10) :: (.int .i64 n11) :: (.int .i64 i12) :: us 71 [])))) := by kernel_rfl
theorem hoardlaw20_ChooseHolds_j4_raw (jn : Jn) (Q : Value → WP) (m3 : Nat) (hold1 : Int) (draws2 : Sl) (c7 : Option Addr) (now9 : Int) (row10 : Int) (n11 : Int) (i12 : Int) (k13 : Int) (ok14 : Bool) : codeI Try.prog hoardlaw20_ChooseHolds_kp jn (cAt [true, true, true, true, true, false, true, false, false, true, false, false, true, true] (bodyOf Try.f3)) (seqK Try.prog hoardlaw20_ChooseHolds_kp jn (cAt [true, true, true, true, true, false, true, false, false, true, true] (bodyOf Try.f3)) (lopK Try.prog hoardlaw20_ChooseHolds_kp jn (cAt [true, true, true, true, true, false, true, false, false] (bodyOf Try.f3)) (blkX 0 (seqK Try.prog hoardlaw20_ChooseHolds_kp jn (cAt [true, true, true, true, true, true] (bodyOf Try.f3)) (retK Try.prog Try.f3 Q) noX (retK Try.prog Try.f3 Q)) noX) (retK Try.prog Try.f3 Q) m3) (blkX 0 (seqK Try.prog hoardlaw20_ChooseHolds_kp jn (cAt [true, true, true, true, true, true] (bodyOf Try.f3)) (retK Try.prog Try.f3 Q) noX (retK Try.prog Try.f3 Q)) noX) (retK Try.prog Try.f3 Q)) (blkX 1 (seqK Try.prog hoardlaw20_ChooseHolds_kp jn (cAt [true, true, true, true, true, false, true, false, false, true, true] (bodyOf Try.f3)) (lopK Try.prog hoardlaw20_ChooseHolds_kp jn (cAt [true, true, true, true, true, false, true, false, false] (bodyOf Try.f3)) (blkX 0 (seqK Try.prog hoardlaw20_ChooseHolds_kp jn (cAt [true, true, true, true, true, true] (bodyOf Try.f3)) (retK Try.prog Try.f3 Q) noX (retK Try.prog Try.f3 Q)) noX) (retK Try.prog Try.f3 Q) m3) (blkX 0 (seqK Try.prog hoardlaw20_ChooseHolds_kp jn (cAt [true, true, true, true, true, true] (bodyOf Try.f3)) (retK Try.prog Try.f3 Q) noX (retK Try.prog Try.f3 Q)) noX) (retK Try.prog Try.f3 Q)) (blkX 0 (seqK Try.prog hoardlaw20_ChooseHolds_kp jn (cAt [true, true, true, true, true, true] (bodyOf Try.f3)) (retK Try.prog Try.f3 Q) noX (retK Try.prog Try.f3 Q)) noX)) (retK Try.prog Try.f3 Q) (us 1 ((.int .i64 hold1) :: (.slice draws2.a draws2.n draws2.c) :: us 4 ((.pointer c7) :: us 1 ((.int .i64 now9) :: (.int .i64 row10) :: (.int .i64 n11) :: (.int .i64 i12) :: (.int .i64 k13) :: (.bool ok14) :: us 69 [])))) = (
  ite2 (!(ok14 == (decide (n11 ≥ hold1)))) (
  Q (.bool false)) (
  ite2 ok14 (
  hoardlaw20_ChooseHolds_j5 jn Q m3 hold1 draws2 c7 k13 (-1 : Int) (0 : Int) i12) (
  hoardlaw20_ChooseHolds_j5 jn Q m3 hold1 draws2 c7 now9 row10 n11 i12))) := by kernel_rfl
theorem hoardlaw20_ChooseHolds_j4_def (Q : Value → WP) (m3 : Nat) (hold1 : Int) (draws2 : Sl) (c7 : Option Addr) (now9 : Int) (row10 : Int) (n11 : Int) (i12 : Int) (k13 : Int) (ok14 : Bool) : hoardlaw20_ChooseHolds_j4 idJ Q m3 hold1 draws2 c7 now9 row10 n11 i12 k13 ok14 = codeI Try.prog hoardlaw20_ChooseHolds_kp idJ (cAt [true, true, true, true, true, false, true, false, false, true, false, false, true, true] (bodyOf Try.f3)) (seqK Try.prog hoardlaw20_ChooseHolds_kp idJ (cAt [true, true, true, true, true, false, true, false, false, true, true] (bodyOf Try.f3)) (lopK Try.prog hoardlaw20_ChooseHolds_kp idJ (cAt [true, true, true, true, true, false, true, false, false] (bodyOf Try.f3)) (blkX 0 (seqK Try.prog hoardlaw20_ChooseHolds_kp idJ (cAt [true, true, true, true, true, true] (bodyOf Try.f3)) (retK Try.prog Try.f3 Q) noX (retK Try.prog Try.f3 Q)) noX) (retK Try.prog Try.f3 Q) m3) (blkX 0 (seqK Try.prog hoardlaw20_ChooseHolds_kp idJ (cAt [true, true, true, true, true, true] (bodyOf Try.f3)) (retK Try.prog Try.f3 Q) noX (retK Try.prog Try.f3 Q)) noX) (retK Try.prog Try.f3 Q)) (blkX 1 (seqK Try.prog hoardlaw20_ChooseHolds_kp idJ (cAt [true, true, true, true, true, false, true, false, false, true, true] (bodyOf Try.f3)) (lopK Try.prog hoardlaw20_ChooseHolds_kp idJ (cAt [true, true, true, true, true, false, true, false, false] (bodyOf Try.f3)) (blkX 0 (seqK Try.prog hoardlaw20_ChooseHolds_kp idJ (cAt [true, true, true, true, true, true] (bodyOf Try.f3)) (retK Try.prog Try.f3 Q) noX (retK Try.prog Try.f3 Q)) noX) (retK Try.prog Try.f3 Q) m3) (blkX 0 (seqK Try.prog hoardlaw20_ChooseHolds_kp idJ (cAt [true, true, true, true, true, true] (bodyOf Try.f3)) (retK Try.prog Try.f3 Q) noX (retK Try.prog Try.f3 Q)) noX) (retK Try.prog Try.f3 Q)) (blkX 0 (seqK Try.prog hoardlaw20_ChooseHolds_kp idJ (cAt [true, true, true, true, true, true] (bodyOf Try.f3)) (retK Try.prog Try.f3 Q) noX (retK Try.prog Try.f3 Q)) noX)) (retK Try.prog Try.f3 Q) (us 1 ((.int .i64 hold1) :: (.slice draws2.a draws2.n draws2.c) :: us 4 ((.pointer c7) :: us 1 ((.int .i64 now9) :: (.int .i64 row10) :: (.int .i64 n11) :: (.int .i64 i12) :: (.int .i64 k13) :: (.bool ok14) :: us 69 [])))) := by kernel_rfl
theorem hoardlaw20_ChooseHolds_j6_raw (jn : Jn) (Q : Value → WP)   : codeI Try.prog hoardlaw20_ChooseHolds_kp jn (cAt [true, true, true, true, true, true] (bodyOf Try.f3)) (retK Try.prog Try.f3 Q) noX (retK Try.prog Try.f3 Q) (us 84 []) = (
  call1 .bool Try.prog id_hoardlaw20_known [] fun (x_7 : Bool) =>
  Q (.bool x_7)) := by kernel_rfl
theorem hoardlaw20_ChooseHolds_j6_def (Q : Value → WP)   : hoardlaw20_ChooseHolds_j6 idJ Q   = codeI Try.prog hoardlaw20_ChooseHolds_kp idJ (cAt [true, true, true, true, true, true] (bodyOf Try.f3)) (retK Try.prog Try.f3 Q) noX (retK Try.prog Try.f3 Q) (us 84 []) := by kernel_rfl
theorem hoardlaw20_ChooseHolds_l3_raw (jn : Jn) (Q : Value → WP)  (m3 : Nat) (hold1 : Int) (draws2 : Sl) (c7 : Option Addr) (now9 : Int) (row10 : Int) (n11 : Int) (i12 : Int) : hoardlaw20_ChooseHolds_l3 jn Q  (m3 + 1) hold1 draws2 c7 now9 row10 n11 i12 = (
  ite2 (decide (i12 < (draws2.n : Int))) (
  call2 (.int .i64) .bool Try.prog id_choose_Chooser_Epoch [.pointer c7, .agg #[.int .i64 (0 : Int), .int .i64 (0 : Int), .int .i64 (0 : Int), .int .i64 (0 : Int), .int .i64 (0 : Int)], .int .i64 (0 : Int)] fun (x_4 : Int) (x_5 : Bool) =>
  ite2 (x_4 == now9) (
  hoardlaw20_ChooseHolds_j4 jn Q m3 hold1 draws2 c7 now9 (-1 : Int) (0 : Int) i12 x_4 x_5) (
  ite2 (x_4 == row10) (
  hoardlaw20_ChooseHolds_j4 jn Q m3 hold1 draws2 c7 now9 row10 (IntKind.wrap .i64 (n11 + (1 : Int))) i12 x_4 x_5) (
  hoardlaw20_ChooseHolds_j4 jn Q m3 hold1 draws2 c7 now9 x_4 (1 : Int) i12 x_4 x_5))) (
  hoardlaw20_ChooseHolds_j6 jn Q  )) := by kernel_rfl
theorem hoardlaw20_ChooseHolds_l3_zero (jn : Jn) (Q : Value → WP)  (hold1 : Int) (draws2 : Sl) (c7 : Option Addr) (now9 : Int) (row10 : Int) (n11 : Int) (i12 : Int) : hoardlaw20_ChooseHolds_l3 jn Q  0 hold1 draws2 c7 now9 row10 n11 i12 = bot := by kernel_rfl
theorem hoardlaw20_ChooseHolds_j2_raw (jn : Jn) (Q : Value → WP)  (kind0 : Int) (hold1 : Int) (draws2 : Sl) (c7 : Option Addr) : codeI Try.prog hoardlaw20_ChooseHolds_kp jn (cAt [true, true, true, true] (bodyOf Try.f3)) (retK Try.prog Try.f3 Q) noX (retK Try.prog Try.f3 Q) ((.int .i64 kind0) :: (.int .i64 hold1) :: (.slice draws2.a draws2.n draws2.c) :: us 4 ((.pointer c7) :: us 76 [])) = (
  exM fun m => hoardlaw20_ChooseHolds_l3 jn Q  m hold1 draws2 c7 kind0 (-1 : Int) (0 : Int) (0 : Int)) := by kernel_rfl
theorem hoardlaw20_ChooseHolds_j2_def (Q : Value → WP)  (kind0 : Int) (hold1 : Int) (draws2 : Sl) (c7 : Option Addr) : hoardlaw20_ChooseHolds_j2 idJ Q  kind0 hold1 draws2 c7 = codeI Try.prog hoardlaw20_ChooseHolds_kp idJ (cAt [true, true, true, true] (bodyOf Try.f3)) (retK Try.prog Try.f3 Q) noX (retK Try.prog Try.f3 Q) ((.int .i64 kind0) :: (.int .i64 hold1) :: (.slice draws2.a draws2.n draws2.c) :: us 4 ((.pointer c7) :: us 76 [])) := by kernel_rfl
theorem hoardlaw20_ChooseHolds_j1_raw (jn : Jn) (Q : Value → WP)  (kind0 : Int) (hold1 : Int) (draws2 : Sl) : codeI Try.prog hoardlaw20_ChooseHolds_kp jn (cAt [true, true] (bodyOf Try.f3)) (retK Try.prog Try.f3 Q) noX (retK Try.prog Try.f3 Q) ((.int .i64 kind0) :: (.int .i64 hold1) :: (.slice draws2.a draws2.n draws2.c) :: us 81 []) = (
  call1 .ptr Try.prog id_tape_New [.slice draws2.a draws2.n draws2.c] fun (x_1 : Option Addr) =>
  call2 .ptr (.int .i64) Try.prog id_choose_New [.int .i64 kind0, .int .i64 hold1, .pointer x_1] fun (x_2 : Option Addr) (x_3 : Int) =>
  ite2 (x_3 != (0 : Int)) (
  Q (.bool false)) (
  ite2 (Option.isNone x_2) (
  Q (.bool false)) (
  hoardlaw20_ChooseHolds_j2 jn Q  kind0 hold1 draws2 x_2))) := by kernel_rfl
theorem hoardlaw20_ChooseHolds_j1_def (Q : Value → WP)  (kind0 : Int) (hold1 : Int) (draws2 : Sl) : hoardlaw20_ChooseHolds_j1 idJ Q  kind0 hold1 draws2 = codeI Try.prog hoardlaw20_ChooseHolds_kp idJ (cAt [true, true] (bodyOf Try.f3)) (retK Try.prog Try.f3 Q) noX (retK Try.prog Try.f3 Q) ((.int .i64 kind0) :: (.int .i64 hold1) :: (.slice draws2.a draws2.n draws2.c) :: us 81 []) := by kernel_rfl
theorem hoardlaw20_ChooseHolds_raw (jn : Jn) (kind0 : Int) (hold1 : Int) (draws2 : Sl) (Q : Value → WP) : funJ jn Try.prog hoardlaw20_ChooseHolds_kp Try.f3 [.int .i64 kind0, .int .i64 hold1, .slice draws2.a draws2.n draws2.c] Q = (
  ite2 (decide (kind0 < (0 : Int))) (
  Q (.bool true)) (
  ite2 (decide (kind0 ≥ (5 : Int))) (
  Q (.bool true)) (
  ite2 (decide (hold1 < (1 : Int))) (
  Q (.bool true)) (
  ite2 (decide (hold1 > (20 : Int))) (
  Q (.bool true)) (
  ite2 (decide ((draws2.n : Int) > (200 : Int))) (
  Q (.bool true)) (
  hoardlaw20_ChooseHolds_j1 jn Q  kind0 hold1 draws2)))))) := by kernel_rfl
theorem hoardlaw20_ChooseHolds_def (kind0 : Int) (hold1 : Int) (draws2 : Sl) (Q : Value → WP) : hoardlaw20_ChooseHolds kind0 hold1 draws2 Q = funJ idJ Try.prog hoardlaw20_ChooseHolds_kp Try.f3 [.int .i64 kind0, .int .i64 hold1, .slice draws2.a draws2.n draws2.c] Q := rfl
theorem hoardlaw20_ChooseHolds_calls {kind0 : Int} {hold1 : Int} {draws2 : Sl} {Q : Value → WP} {w : World} (h : hoardlaw20_ChooseHolds kind0 hold1 draws2 Q w) : Calls Try.prog id_hoardlaw20_ChooseHolds #[.int .i64 kind0, .int .i64 hold1, .slice draws2.a draws2.n draws2.c] w fun e w' => ∃ v, e = .returned v ∧ Q v w' :=
  funJ_calls mixed Try.func3 rfl h

-- hoard/hoardlaw20.ChooseEven
def hoardlaw20_ChooseEven_kp : KP := ⟨[(10, [0, 3]), (17, [0, 5, 7, 8]), (24, [5, 7])], []⟩
def hoardlaw20_ChooseEven_j3 (jn : Jn) (Q : Value → WP)  (k5 : Int) (want7 : Int) : WP := jn 24 (fun ρ => codeI Try.prog hoardlaw20_ChooseEven_kp jn (cAt [true, true, true, true, true, true] (bodyOf Try.f4)) (retK Try.prog Try.f4 Q) noX (retK Try.prog Try.f4 Q) ρ) (us 5 ((.int .i64 k5) :: us 1 ((.int .i64 want7) :: us 38 [])))
def hoardlaw20_ChooseEven_l2 (jn : Jn) (Q : Value → WP)  (m2 : Nat) (draw0 : Int) (k5 : Int) (want7 : Int) (i8 : Int) : WP := lop Try.prog hoardlaw20_ChooseEven_kp jn (cAt [true, true, true, true, true, false, true, false, false] (bodyOf Try.f4)) (blkX 0 (seqK Try.prog hoardlaw20_ChooseEven_kp jn (cAt [true, true, true, true, true, true] (bodyOf Try.f4)) (retK Try.prog Try.f4 Q) noX (retK Try.prog Try.f4 Q)) noX) (retK Try.prog Try.f4 Q) m2 ((.int .u32 draw0) :: us 4 ((.int .i64 k5) :: us 1 ((.int .i64 want7) :: (.int .u64 i8) :: us 37 [])))
def hoardlaw20_ChooseEven_j1 (jn : Jn) (Q : Value → WP)  (draw0 : Int) (c3 : Option Addr) : WP := jn 10 (fun ρ => codeI Try.prog hoardlaw20_ChooseEven_kp jn (cAt [true, true, true] (bodyOf Try.f4)) (retK Try.prog Try.f4 Q) noX (retK Try.prog Try.f4 Q) ρ) ((.int .u32 draw0) :: us 2 ((.pointer c3) :: us 42 []))
def hoardlaw20_ChooseEven (draw0 : Int) (Q : Value → WP) : WP := funJ idJ Try.prog hoardlaw20_ChooseEven_kp Try.f4 [.int .u32 draw0] Q
theorem hoardlaw20_ChooseEven_j3_raw (jn : Jn) (Q : Value → WP)  (k5 : Int) (want7 : Int) : codeI Try.prog hoardlaw20_ChooseEven_kp jn (cAt [true, true, true, true, true, true] (bodyOf Try.f4)) (retK Try.prog Try.f4 Q) noX (retK Try.prog Try.f4 Q) (us 5 ((.int .i64 k5) :: us 1 ((.int .i64 want7) :: us 38 []))) = (
  ite2 (k5 == want7) (
  call1 .bool Try.prog id_hoardlaw20_known [] fun (x_7 : Bool) =>
  Q (.bool x_7)) (
  Q (.bool false))) := by kernel_rfl
theorem hoardlaw20_ChooseEven_j3_def (Q : Value → WP)  (k5 : Int) (want7 : Int) : hoardlaw20_ChooseEven_j3 idJ Q  k5 want7 = codeI Try.prog hoardlaw20_ChooseEven_kp idJ (cAt [true, true, true, true, true, true] (bodyOf Try.f4)) (retK Try.prog Try.f4 Q) noX (retK Try.prog Try.f4 Q) (us 5 ((.int .i64 k5) :: us 1 ((.int .i64 want7) :: us 38 []))) := by kernel_rfl
theorem hoardlaw20_ChooseEven_l2_raw (jn : Jn) (Q : Value → WP)  (m2 : Nat) (draw0 : Int) (k5 : Int) (want7 : Int) (i8 : Int) : hoardlaw20_ChooseEven_l2 jn Q  (m2 + 1) draw0 k5 want7 i8 = (
  ite2 (decide (i8 < (5 : Int))) (
  ite2 (decide ((IntKind.wrap .u64 draw0) ≥ (IntKind.wrap .u64 ((IntKind.wrap .u64 (i8 * (858993459 : Int))) + (1 : Int))))) (
  hoardlaw20_ChooseEven_l2 jn Q  m2 draw0 k5 (IntKind.wrap .i64 i8) (IntKind.wrap .u64 (i8 + (1 : Int)))) (
  hoardlaw20_ChooseEven_l2 jn Q  m2 draw0 k5 want7 (IntKind.wrap .u64 (i8 + (1 : Int))))) (
  hoardlaw20_ChooseEven_j3 jn Q  k5 want7)) := by kernel_rfl
theorem hoardlaw20_ChooseEven_l2_zero (jn : Jn) (Q : Value → WP)  (draw0 : Int) (k5 : Int) (want7 : Int) (i8 : Int) : hoardlaw20_ChooseEven_l2 jn Q  0 draw0 k5 want7 i8 = bot := by kernel_rfl
theorem hoardlaw20_ChooseEven_j1_raw (jn : Jn) (Q : Value → WP)  (draw0 : Int) (c3 : Option Addr) : codeI Try.prog hoardlaw20_ChooseEven_kp jn (cAt [true, true, true] (bodyOf Try.f4)) (retK Try.prog Try.f4 Q) noX (retK Try.prog Try.f4 Q) ((.int .u32 draw0) :: us 2 ((.pointer c3) :: us 42 [])) = (
  call2 (.int .i64) .bool Try.prog id_choose_Chooser_Epoch [.pointer c3, .agg #[.int .i64 (0 : Int), .int .i64 (0 : Int), .int .i64 (0 : Int), .int .i64 (0 : Int), .int .i64 (0 : Int)], .int .i64 (0 : Int)] fun (x_5 : Int) (x_6 : Bool) =>
  exM fun m => hoardlaw20_ChooseEven_l2 jn Q  m draw0 x_5 (0 : Int) (1 : Int)) := by kernel_rfl
theorem hoardlaw20_ChooseEven_j1_def (Q : Value → WP)  (draw0 : Int) (c3 : Option Addr) : hoardlaw20_ChooseEven_j1 idJ Q  draw0 c3 = codeI Try.prog hoardlaw20_ChooseEven_kp idJ (cAt [true, true, true] (bodyOf Try.f4)) (retK Try.prog Try.f4 Q) noX (retK Try.prog Try.f4 Q) ((.int .u32 draw0) :: us 2 ((.pointer c3) :: us 42 [])) := by kernel_rfl
theorem hoardlaw20_ChooseEven_raw (jn : Jn) (draw0 : Int) (Q : Value → WP) : funJ jn Try.prog hoardlaw20_ChooseEven_kp Try.f4 [.int .u32 draw0] Q = (
  newB [.int .u32 draw0] ty_uint32 fun b_1 =>
  call1 .ptr Try.prog id_tape_New [.slice (some ⟨b_1, 0, none⟩) 1 1] fun (x_2 : Option Addr) =>
  call2 .ptr (.int .i64) Try.prog id_choose_New [.int .i64 (0 : Int), .int .i64 (256 : Int), .pointer x_2] fun (x_3 : Option Addr) (x_4 : Int) =>
  ite2 (x_4 != (0 : Int)) (
  Q (.bool false)) (
  ite2 (Option.isNone x_3) (
  Q (.bool false)) (
  hoardlaw20_ChooseEven_j1 jn Q  draw0 x_3))) := by kernel_rfl
theorem hoardlaw20_ChooseEven_def (draw0 : Int) (Q : Value → WP) : hoardlaw20_ChooseEven draw0 Q = funJ idJ Try.prog hoardlaw20_ChooseEven_kp Try.f4 [.int .u32 draw0] Q := rfl
theorem hoardlaw20_ChooseEven_calls {draw0 : Int} {Q : Value → WP} {w : World} (h : hoardlaw20_ChooseEven draw0 Q w) : Calls Try.prog id_hoardlaw20_ChooseEven #[.int .u32 draw0] w fun e w' => ∃ v, e = .returned v ∧ Q v w' :=
  funJ_calls mixed Try.func4 rfl h

-- hoard/hoardlaw20.ChooseOfNothing
def hoardlaw20_ChooseOfNothing_kp : KP := ⟨[(16, [0, 1, 5, 6, 7, 8, 9, 10, 11, 12, 30]), (22, [0, 5, 6, 7, 8, 9, 10, 11, 12])], []⟩
def hoardlaw20_ChooseOfNothing_j2 (jn : Jn) (Q : Value → WP)  (kind0 : Int) (c5 : Option Addr) (k6 : Int) (ok7 : Bool) (s8 : Int) (n9 : Int) (x10 : Option Addr) (e11 : Int) (want12 : Int) : WP := jn 22 (fun ρ => codeI Try.prog hoardlaw20_ChooseOfNothing_kp jn (cAt [true, true, true, true, true, true, true] (bodyOf Try.f5)) (retK Try.prog Try.f5 Q) noX (retK Try.prog Try.f5 Q) ρ) ((.int .i64 kind0) :: us 4 ((.pointer c5) :: (.int .i64 k6) :: (.bool ok7) :: (.int .i64 s8) :: (.int .i64 n9) :: (.pointer x10) :: (.int .i64 e11) :: (.int .i64 want12) :: us 71 []))
def hoardlaw20_ChooseOfNothing_j1 (jn : Jn) (Q : Value → WP)  (kind0 : Int) (hold1 : Int) (c5 : Option Addr) (k6 : Int) (ok7 : Bool) (s8 : Int) (n9 : Int) (x10 : Option Addr) (e11 : Int) (want12 : Int) (t30 : Bool) : WP := jn 16 (fun ρ => codeI Try.prog hoardlaw20_ChooseOfNothing_kp jn (cAt [true, true, true, true, true, true, false, false, true] (bodyOf Try.f5)) (seqK Try.prog hoardlaw20_ChooseOfNothing_kp jn (cAt [true, true, true, true, true, true, true] (bodyOf Try.f5)) (retK Try.prog Try.f5 Q) noX (retK Try.prog Try.f5 Q)) (blkX 0 (seqK Try.prog hoardlaw20_ChooseOfNothing_kp jn (cAt [true, true, true, true, true, true, true] (bodyOf Try.f5)) (retK Try.prog Try.f5 Q) noX (retK Try.prog Try.f5 Q)) noX) (retK Try.prog Try.f5 Q) ρ) ((.int .i64 kind0) :: (.int .i64 hold1) :: us 3 ((.pointer c5) :: (.int .i64 k6) :: (.bool ok7) :: (.int .i64 s8) :: (.int .i64 n9) :: (.pointer x10) :: (.int .i64 e11) :: (.int .i64 want12) :: us 17 ((.bool t30) :: us 53 [])))
def hoardlaw20_ChooseOfNothing (kind0 : Int) (hold1 : Int) (Q : Value → WP) : WP := funJ idJ Try.prog hoardlaw20_ChooseOfNothing_kp Try.f5 [.int .i64 kind0, .int .i64 hold1] Q
theorem hoardlaw20_ChooseOfNothing_j2_raw (jn : Jn) (Q : Value → WP)  (kind0 : Int) (c5 : Option Addr) (k6 : Int) (ok7 : Bool) (s8 : Int) (n9 : Int) (x10 : Option Addr) (e11 : Int) (want12 : Int) : codeI Try.prog hoardlaw20_ChooseOfNothing_kp jn (cAt [true, true, true, true, true, true, true] (bodyOf Try.f5)) (retK Try.prog Try.f5 Q) noX (retK Try.prog Try.f5 Q) ((.int .i64 kind0) :: us 4 ((.pointer c5) :: (.int .i64 k6) :: (.bool ok7) :: (.int .i64 s8) :: (.int .i64 n9) :: (.pointer x10) :: (.int .i64 e11) :: (.int .i64 want12) :: us 71 [])) = (
  ite2 (k6 == (0 : Int)) (
  ite2 (!ok7) (
  call1 (.int .i64) Try.prog id_choose_Chooser_Force [.pointer c5, .int .i64 kind0] fun (x_7 : Int) =>
  ite2 (x_7 == (1 : Int)) (
  call1 (.int .i64) Try.prog id_choose_Chooser_Current [.pointer c5] fun (x_8 : Int) =>
  ite2 (x_8 == (0 : Int)) (
  ite2 (s8 == (0 : Int)) (
  ite2 (n9 == (0 : Int)) (
  ite2 (e11 == want12) (
  ite2 ((Option.isNone x10) == (want12 != (0 : Int))) (
  call1 .bool Try.prog id_hoardlaw20_known [] fun (x_9 : Bool) =>
  Q (.bool x_9)) (
  Q (.bool false))) (
  Q (.bool false))) (
  Q (.bool false))) (
  Q (.bool false))) (
  Q (.bool false))) (
  Q (.bool false))) (
  Q (.bool false))) (
  Q (.bool false))) := by kernel_rfl
theorem hoardlaw20_ChooseOfNothing_j2_def (Q : Value → WP)  (kind0 : Int) (c5 : Option Addr) (k6 : Int) (ok7 : Bool) (s8 : Int) (n9 : Int) (x10 : Option Addr) (e11 : Int) (want12 : Int) : hoardlaw20_ChooseOfNothing_j2 idJ Q  kind0 c5 k6 ok7 s8 n9 x10 e11 want12 = codeI Try.prog hoardlaw20_ChooseOfNothing_kp idJ (cAt [true, true, true, true, true, true, true] (bodyOf Try.f5)) (retK Try.prog Try.f5 Q) noX (retK Try.prog Try.f5 Q) ((.int .i64 kind0) :: us 4 ((.pointer c5) :: (.int .i64 k6) :: (.bool ok7) :: (.int .i64 s8) :: (.int .i64 n9) :: (.pointer x10) :: (.int .i64 e11) :: (.int .i64 want12) :: us 71 [])) := by kernel_rfl
theorem hoardlaw20_ChooseOfNothing_j1_raw (jn : Jn) (Q : Value → WP)  (kind0 : Int) (hold1 : Int) (c5 : Option Addr) (k6 : Int) (ok7 : Bool) (s8 : Int) (n9 : Int) (x10 : Option Addr) (e11 : Int) (want12 : Int) (t30 : Bool) : codeI Try.prog hoardlaw20_ChooseOfNothing_kp jn (cAt [true, true, true, true, true, true, false, false, true] (bodyOf Try.f5)) (seqK Try.prog hoardlaw20_ChooseOfNothing_kp jn (cAt [true, true, true, true, true, true, true] (bodyOf Try.f5)) (retK Try.prog Try.f5 Q) noX (retK Try.prog Try.f5 Q)) (blkX 0 (seqK Try.prog hoardlaw20_ChooseOfNothing_kp jn (cAt [true, true, true, true, true, true, true] (bodyOf Try.f5)) (retK Try.prog Try.f5 Q) noX (retK Try.prog Try.f5 Q)) noX) (retK Try.prog Try.f5 Q) ((.int .i64 kind0) :: (.int .i64 hold1) :: us 3 ((.pointer c5) :: (.int .i64 k6) :: (.bool ok7) :: (.int .i64 s8) :: (.int .i64 n9) :: (.pointer x10) :: (.int .i64 e11) :: (.int .i64 want12) :: us 17 ((.bool t30) :: us 53 []))) = (
  ite2 t30 (
  hoardlaw20_ChooseOfNothing_j2 jn Q  kind0 c5 k6 ok7 s8 n9 x10 e11 (4 : Int)) (
  ite2 (decide (hold1 < (1 : Int))) (
  hoardlaw20_ChooseOfNothing_j2 jn Q  kind0 c5 k6 ok7 s8 n9 x10 e11 (1 : Int)) (
  ite2 (decide (hold1 > (256 : Int))) (
  hoardlaw20_ChooseOfNothing_j2 jn Q  kind0 c5 k6 ok7 s8 n9 x10 e11 (1 : Int)) (
  hoardlaw20_ChooseOfNothing_j2 jn Q  kind0 c5 k6 ok7 s8 n9 x10 e11 want12)))) := by kernel_rfl
theorem hoardlaw20_ChooseOfNothing_j1_def (Q : Value → WP)  (kind0 : Int) (hold1 : Int) (c5 : Option Addr) (k6 : Int) (ok7 : Bool) (s8 : Int) (n9 : Int) (x10 : Option Addr) (e11 : Int) (want12 : Int) (t30 : Bool) : hoardlaw20_ChooseOfNothing_j1 idJ Q  kind0 hold1 c5 k6 ok7 s8 n9 x10 e11 want12 t30 = codeI Try.prog hoardlaw20_ChooseOfNothing_kp idJ (cAt [true, true, true, true, true, true, false, false, true] (bodyOf Try.f5)) (seqK Try.prog hoardlaw20_ChooseOfNothing_kp idJ (cAt [true, true, true, true, true, true, true] (bodyOf Try.f5)) (retK Try.prog Try.f5 Q) noX (retK Try.prog Try.f5 Q)) (blkX 0 (seqK Try.prog hoardlaw20_ChooseOfNothing_kp idJ (cAt [true, true, true, true, true, true, true] (bodyOf Try.f5)) (retK Try.prog Try.f5 Q) noX (retK Try.prog Try.f5 Q)) noX) (retK Try.prog Try.f5 Q) ((.int .i64 kind0) :: (.int .i64 hold1) :: us 3 ((.pointer c5) :: (.int .i64 k6) :: (.bool ok7) :: (.int .i64 s8) :: (.int .i64 n9) :: (.pointer x10) :: (.int .i64 e11) :: (.int .i64 want12) :: us 17 ((.bool t30) :: us 53 []))) := by kernel_rfl
theorem hoardlaw20_ChooseOfNothing_raw (jn : Jn) (kind0 : Int) (hold1 : Int) (Q : Value → WP) : funJ jn Try.prog hoardlaw20_ChooseOfNothing_kp Try.f5 [.int .i64 kind0, .int .i64 hold1] Q = (
  call2 (.int .i64) .bool Try.prog id_choose_Chooser_Epoch [.pointer (none : Option Addr), .agg #[.int .i64 (0 : Int), .int .i64 (0 : Int), .int .i64 (0 : Int), .int .i64 (0 : Int), .int .i64 (0 : Int)], .int .i64 (0 : Int)] fun (x_1 : Int) (x_2 : Bool) =>
  call2 (.int .i64) (.int .i64) Try.prog id_choose_Chooser_Streak [.pointer (none : Option Addr)] fun (x_3 : Int) (x_4 : Int) =>
  call2 .ptr (.int .i64) Try.prog id_choose_New [.int .i64 kind0, .int .i64 hold1, .pointer (none : Option Addr)] fun (x_5 : Option Addr) (x_6 : Int) =>
  ite2 (decide (kind0 < (0 : Int))) (
  hoardlaw20_ChooseOfNothing_j1 jn Q  kind0 hold1 (none : Option Addr) x_1 x_2 x_3 x_4 x_5 x_6 (0 : Int) true) (
  hoardlaw20_ChooseOfNothing_j1 jn Q  kind0 hold1 (none : Option Addr) x_1 x_2 x_3 x_4 x_5 x_6 (0 : Int) (decide (kind0 ≥ (5 : Int))))) := by kernel_rfl
theorem hoardlaw20_ChooseOfNothing_def (kind0 : Int) (hold1 : Int) (Q : Value → WP) : hoardlaw20_ChooseOfNothing kind0 hold1 Q = funJ idJ Try.prog hoardlaw20_ChooseOfNothing_kp Try.f5 [.int .i64 kind0, .int .i64 hold1] Q := rfl
theorem hoardlaw20_ChooseOfNothing_calls {kind0 : Int} {hold1 : Int} {Q : Value → WP} {w : World} (h : hoardlaw20_ChooseOfNothing kind0 hold1 Q w) : Calls Try.prog id_hoardlaw20_ChooseOfNothing #[.int .i64 kind0, .int .i64 hold1] w fun e w' => ∃ v, e = .returned v ∧ Q v w' :=
  funJ_calls mixed Try.func5 rfl h

-- hoard/hoardlaw20.ChoosePlays
def hoardlaw20_ChoosePlays_kp : KP := ⟨[(16, [3, 9, 11, 12]), (19, [3, 9, 11, 12, 13]), (22, [3, 9, 11, 12, 13]), (36, [3, 9, 11, 12, 13]), (42, [])], [(11, [0, 1, 2, 3, 4, 5, 7, 8, 9, 10, 11, 12, 14]), (13, [0, 1, 2, 3, 4, 5, 6, 7, 8, 9, 12, 13, 14, 15, 16]), (14, [0, 1, 2, 3, 4, 5, 6, 7, 8, 9, 12, 13, 14, 15, 16]), (18, [0, 2, 3, 4, 5, 6, 7, 8, 10, 11, 12, 13, 14, 15, 16, 17, 18, 19, 20, 22, 23, 24, 25, 26, 27, 28, 30, 31])]⟩
def hoardlaw20_ChoosePlays_j4 (jn : Jn) (Q : Value → WP) (m2 : Nat) (l3 : Sl) (c9 : Option Addr) (x11 : Option Addr) (f12 : Int) (i13 : Int) : WP := jn 36 (fun ρ => codeI Try.prog hoardlaw20_ChoosePlays_kp jn (cAt [true, true, true, true, true, false, true, false, false, true, false, false, true] (bodyOf Try.f6)) (seqK Try.prog hoardlaw20_ChoosePlays_kp jn (cAt [true, true, true, true, true, false, true, false, false, true, true] (bodyOf Try.f6)) (lopK Try.prog hoardlaw20_ChoosePlays_kp jn (cAt [true, true, true, true, true, false, true, false, false] (bodyOf Try.f6)) (blkX 0 (seqK Try.prog hoardlaw20_ChoosePlays_kp jn (cAt [true, true, true, true, true, true] (bodyOf Try.f6)) (retK Try.prog Try.f6 Q) noX (retK Try.prog Try.f6 Q)) noX) (retK Try.prog Try.f6 Q) m2) (blkX 0 (seqK Try.prog hoardlaw20_ChoosePlays_kp jn (cAt [true, true, true, true, true, true] (bodyOf Try.f6)) (retK Try.prog Try.f6 Q) noX (retK Try.prog Try.f6 Q)) noX) (retK Try.prog Try.f6 Q)) (blkX 1 (seqK Try.prog hoardlaw20_ChoosePlays_kp jn (cAt [true, true, true, true, true, false, true, false, false, true, true] (bodyOf Try.f6)) (lopK Try.prog hoardlaw20_ChoosePlays_kp jn (cAt [true, true, true, true, true, false, true, false, false] (bodyOf Try.f6)) (blkX 0 (seqK Try.prog hoardlaw20_ChoosePlays_kp jn (cAt [true, true, true, true, true, true] (bodyOf Try.f6)) (retK Try.prog Try.f6 Q) noX (retK Try.prog Try.f6 Q)) noX) (retK Try.prog Try.f6 Q) m2) (blkX 0 (seqK Try.prog hoardlaw20_ChoosePlays_kp jn (cAt [true, true, true, true, true, true] (bodyOf Try.f6)) (retK Try.prog Try.f6 Q) noX (retK Try.prog Try.f6 Q)) noX) (retK Try.prog Try.f6 Q)) (blkX 0 (seqK Try.prog hoardlaw20_ChoosePlays_kp jn (cAt [true, true, true, true, true, true] (bodyOf Try.f6)) (retK Try.prog Try.f6 Q) noX (retK Try.prog Try.f6 Q)) noX)) (retK Try.prog Try.f6 Q) ρ) (us 3 ((.slice l3.a l3.n l3.c) :: us 5 ((.pointer c9) :: us 1 ((.pointer x11) :: (.int .i64 f12) :: (.int .i64 i13) :: us 147 []))))
def hoardlaw20_ChoosePlays_j3 (jn : Jn) (Q : Value → WP) (m2 : Nat) (l3 : Sl) (c9 : Option Addr) (x11 : Option Addr) (f12 : Int) (i13 : Int) : WP := jn 22 (fun ρ => codeI Try.prog hoardlaw20_ChoosePlays_kp jn (cAt [true, true, true, true, true, false, true, false, false, true] (bodyOf Try.f6)) (lopK Try.prog hoardlaw20_ChoosePlays_kp jn (cAt [true, true, true, true, true, false, true, false, false] (bodyOf Try.f6)) (blkX 0 (seqK Try.prog hoardlaw20_ChoosePlays_kp jn (cAt [true, true, true, true, true, true] (bodyOf Try.f6)) (retK Try.prog Try.f6 Q) noX (retK Try.prog Try.f6 Q)) noX) (retK Try.prog Try.f6 Q) m2) (blkX 0 (seqK Try.prog hoardlaw20_ChoosePlays_kp jn (cAt [true, true, true, true, true, true] (bodyOf Try.f6)) (retK Try.prog Try.f6 Q) noX (retK Try.prog Try.f6 Q)) noX) (retK Try.prog Try.f6 Q) ρ) (us 3 ((.slice l3.a l3.n l3.c) :: us 5 ((.pointer c9) :: us 1 ((.pointer x11) :: (.int .i64 f12) :: (.int .i64 i13) :: us 147 []))))
def hoardlaw20_ChoosePlays_j5 (jn : Jn) (Q : Value → WP)   : WP := jn 42 (fun ρ => codeI Try.prog hoardlaw20_ChoosePlays_kp jn (cAt [true, true, true, true, true, true] (bodyOf Try.f6)) (retK Try.prog Try.f6 Q) noX (retK Try.prog Try.f6 Q) ρ) (us 161 [])
def hoardlaw20_ChoosePlays_l2 (jn : Jn) (Q : Value → WP)  (m2 : Nat) (l3 : Sl) (c9 : Option Addr) (x11 : Option Addr) (f12 : Int) (i13 : Int) : WP := lop Try.prog hoardlaw20_ChoosePlays_kp jn (cAt [true, true, true, true, true, false, true, false, false] (bodyOf Try.f6)) (blkX 0 (seqK Try.prog hoardlaw20_ChoosePlays_kp jn (cAt [true, true, true, true, true, true] (bodyOf Try.f6)) (retK Try.prog Try.f6 Q) noX (retK Try.prog Try.f6 Q)) noX) (retK Try.prog Try.f6 Q) m2 (us 3 ((.slice l3.a l3.n l3.c) :: us 5 ((.pointer c9) :: us 1 ((.pointer x11) :: (.int .i64 f12) :: (.int .i64 i13) :: us 147 []))))
def hoardlaw20_ChoosePlays_j1 (jn : Jn) (Q : Value → WP)  (l3 : Sl) (c9 : Option Addr) (x11 : Option Addr) (f12 : Int) : WP := jn 16 (fun ρ => codeI Try.prog hoardlaw20_ChoosePlays_kp jn (cAt [true, true, true, true, true] (bodyOf Try.f6)) (retK Try.prog Try.f6 Q) noX (retK Try.prog Try.f6 Q) ρ) (us 3 ((.slice l3.a l3.n l3.c) :: us 5 ((.pointer c9) :: us 1 ((.pointer x11) :: (.int .i64 f12) :: us 148 []))))
def hoardlaw20_ChoosePlays (kind0 : Int) (hold1 : Int) (draws2 : Sl) (l3 : Sl) (Q : Value → WP) : WP := funJ idJ Try.prog hoardlaw20_ChoosePlays_kp Try.f6 [.int .i64 kind0, .int .i64 hold1, .slice draws2.a draws2.n draws2.c, .slice l3.a l3.n l3.c] Q
theorem hoardlaw20_ChoosePlays_j4_raw (jn : Jn) (Q : Value → WP) (m2 : Nat) (l3 : Sl) (c9 : Option Addr) (x11 : Option Addr) (f12 : Int) (i13 : Int) : codeI Try.prog hoardlaw20_ChoosePlays_kp jn (cAt [true, true, true, true, true, false, true, false, false, true, false, false, true] (bodyOf Try.f6)) (seqK Try.prog hoardlaw20_ChoosePlays_kp jn (cAt [true, true, true, true, true, false, true, false, false, true, true] (bodyOf Try.f6)) (lopK Try.prog hoardlaw20_ChoosePlays_kp jn (cAt [true, true, true, true, true, false, true, false, false] (bodyOf Try.f6)) (blkX 0 (seqK Try.prog hoardlaw20_ChoosePlays_kp jn (cAt [true, true, true, true, true, true] (bodyOf Try.f6)) (retK Try.prog Try.f6 Q) noX (retK Try.prog Try.f6 Q)) noX) (retK Try.prog Try.f6 Q) m2) (blkX 0 (seqK Try.prog hoardlaw20_ChoosePlays_kp jn (cAt [true, true, true, true, true, true] (bodyOf Try.f6)) (retK Try.prog Try.f6 Q) noX (retK Try.prog Try.f6 Q)) noX) (retK Try.prog Try.f6 Q)) (blkX 1 (seqK Try.prog hoardlaw20_ChoosePlays_kp jn (cAt [true, true, true, true, true, false, true, false, false, true, true] (bodyOf Try.f6)) (lopK Try.prog hoardlaw20_ChoosePlays_kp jn (cAt [true, true, true, true, true, false, true, false, false] (bodyOf Try.f6)) (blkX 0 (seqK Try.prog hoardlaw20_ChoosePlays_kp jn (cAt [true, true, true, true, true, true] (bodyOf Try.f6)) (retK Try.prog Try.f6 Q) noX (retK Try.prog Try.f6 Q)) noX) (retK Try.prog Try.f6 Q) m2) (blkX 0 (seqK Try.prog hoardlaw20_ChoosePlays_kp jn (cAt [true, true, true, true, true, true] (bodyOf Try.f6)) (retK Try.prog Try.f6 Q) noX (retK Try.prog Try.f6 Q)) noX) (retK Try.prog Try.f6 Q)) (blkX 0 (seqK Try.prog hoardlaw20_ChoosePlays_kp jn (cAt [true, true, true, true, true, true] (bodyOf Try.f6)) (retK Try.prog Try.f6 Q) noX (retK Try.prog Try.f6 Q)) noX)) (retK Try.prog Try.f6 Q) (us 3 ((.slice l3.a l3.n l3.c) :: us 5 ((.pointer c9) :: us 1 ((.pointer x11) :: (.int .i64 f12) :: (.int .i64 i13) :: us 147 [])))) = (
  call2 (.int .i64) (.int .i64) Try.prog id_choose_Chooser_Streak [.pointer c9] fun (x_18 : Int) (x_19 : Int) =>
  drawW fun S =>
  nilck x11 fun b_20 o_21 =>
  ldS S (.int .i64) b_20 o_21 fun (x_22 : Int) =>
  call1 (.int .i64) Try.prog id_choose_Chooser_Current [.pointer c9] fun (x_23 : Int) =>
  keepS true S <|
  ite2 (x_23 != x_22) (
  keepS true S <|
  Q (.bool false)) (
  nilck x11 fun b_24 o_25 =>
  ldS S (.int .u64) b_24 (o_25 + 1) fun (x_26 : Int) =>
  ldS S (.int .u64) b_24 ((o_25 + 1) + 1) fun (x_27 : Int) =>
  ldS S (.int .u64) b_24 (((o_25 + 1) + 1) + 1) fun (x_28 : Int) =>
  ldS S (.int .u64) b_24 ((((o_25 + 1) + 1) + 1) + 1) fun (x_29 : Int) =>
  ldS S (.int .u64) b_24 (((((o_25 + 1) + 1) + 1) + 1) + 1) fun (x_30 : Int) =>
  fun w => Calls Try.prog id_choose_Chooser_Weights #[.pointer c9] w fun e w' => ∃ x_31 : Int, ∃ x_32 : Int, ∃ x_33 : Int, ∃ x_34 : Int, ∃ x_35 : Int, e = .returned (.agg #[.int .u64 x_31, .int .u64 x_32, .int .u64 x_33, .int .u64 x_34, .int .u64 x_35]) ∧ (
  keepS true S <|
  ite2 (!((x_31 == x_26) && ((x_32 == x_27) && ((x_33 == x_28) && ((x_34 == x_29) && ((x_35 == x_30) && true)))))) (
  Q (.bool false)) (
  nilck x11 fun b_36 o_37 =>
  ld (.int .i64) b_36 (o_37 + 6) fun (x_38 : Int) =>
  ite2 (x_18 != x_38) (
  Q (.bool false)) (
  nilck x11 fun b_39 o_40 =>
  ld (.int .i64) b_39 (o_40 + 7) fun (x_41 : Int) =>
  ite2 (x_19 != x_41) (
  Q (.bool false)) (
  hoardlaw20_ChoosePlays_l2 jn Q  m2 l3 c9 x11 f12 (IntKind.wrap .i64 (i13 + (1 : Int))))))) w')) := by kernel_rfl
theorem hoardlaw20_ChoosePlays_j4_def (Q : Value → WP) (m2 : Nat) (l3 : Sl) (c9 : Option Addr) (x11 : Option Addr) (f12 : Int) (i13 : Int) : hoardlaw20_ChoosePlays_j4 idJ Q m2 l3 c9 x11 f12 i13 = codeI Try.prog hoardlaw20_ChoosePlays_kp idJ (cAt [true, true, true, true, true, false, true, false, false, true, false, false, true] (bodyOf Try.f6)) (seqK Try.prog hoardlaw20_ChoosePlays_kp idJ (cAt [true, true, true, true, true, false, true, false, false, true, true] (bodyOf Try.f6)) (lopK Try.prog hoardlaw20_ChoosePlays_kp idJ (cAt [true, true, true, true, true, false, true, false, false] (bodyOf Try.f6)) (blkX 0 (seqK Try.prog hoardlaw20_ChoosePlays_kp idJ (cAt [true, true, true, true, true, true] (bodyOf Try.f6)) (retK Try.prog Try.f6 Q) noX (retK Try.prog Try.f6 Q)) noX) (retK Try.prog Try.f6 Q) m2) (blkX 0 (seqK Try.prog hoardlaw20_ChoosePlays_kp idJ (cAt [true, true, true, true, true, true] (bodyOf Try.f6)) (retK Try.prog Try.f6 Q) noX (retK Try.prog Try.f6 Q)) noX) (retK Try.prog Try.f6 Q)) (blkX 1 (seqK Try.prog hoardlaw20_ChoosePlays_kp idJ (cAt [true, true, true, true, true, false, true, false, false, true, true] (bodyOf Try.f6)) (lopK Try.prog hoardlaw20_ChoosePlays_kp idJ (cAt [true, true, true, true, true, false, true, false, false] (bodyOf Try.f6)) (blkX 0 (seqK Try.prog hoardlaw20_ChoosePlays_kp idJ (cAt [true, true, true, true, true, true] (bodyOf Try.f6)) (retK Try.prog Try.f6 Q) noX (retK Try.prog Try.f6 Q)) noX) (retK Try.prog Try.f6 Q) m2) (blkX 0 (seqK Try.prog hoardlaw20_ChoosePlays_kp idJ (cAt [true, true, true, true, true, true] (bodyOf Try.f6)) (retK Try.prog Try.f6 Q) noX (retK Try.prog Try.f6 Q)) noX) (retK Try.prog Try.f6 Q)) (blkX 0 (seqK Try.prog hoardlaw20_ChoosePlays_kp idJ (cAt [true, true, true, true, true, true] (bodyOf Try.f6)) (retK Try.prog Try.f6 Q) noX (retK Try.prog Try.f6 Q)) noX)) (retK Try.prog Try.f6 Q) (us 3 ((.slice l3.a l3.n l3.c) :: us 5 ((.pointer c9) :: us 1 ((.pointer x11) :: (.int .i64 f12) :: (.int .i64 i13) :: us 147 [])))) := by kernel_rfl
theorem hoardlaw20_ChoosePlays_j3_raw (jn : Jn) (Q : Value → WP) (m2 : Nat) (l3 : Sl) (c9 : Option Addr) (x11 : Option Addr) (f12 : Int) (i13 : Int) : codeI Try.prog hoardlaw20_ChoosePlays_kp jn (cAt [true, true, true, true, true, false, true, false, false, true] (bodyOf Try.f6)) (lopK Try.prog hoardlaw20_ChoosePlays_kp jn (cAt [true, true, true, true, true, false, true, false, false] (bodyOf Try.f6)) (blkX 0 (seqK Try.prog hoardlaw20_ChoosePlays_kp jn (cAt [true, true, true, true, true, true] (bodyOf Try.f6)) (retK Try.prog Try.f6 Q) noX (retK Try.prog Try.f6 Q)) noX) (retK Try.prog Try.f6 Q) m2) (blkX 0 (seqK Try.prog hoardlaw20_ChoosePlays_kp jn (cAt [true, true, true, true, true, true] (bodyOf Try.f6)) (retK Try.prog Try.f6 Q) noX (retK Try.prog Try.f6 Q)) noX) (retK Try.prog Try.f6 Q) (us 3 ((.slice l3.a l3.n l3.c) :: us 5 ((.pointer c9) :: us 1 ((.pointer x11) :: (.int .i64 f12) :: (.int .i64 i13) :: us 147 [])))) = (
  idx l3.a l3.n i13 fun b_7 o_8 =>
  ld (.int .i64) b_7 (o_8 + (i13).toNat * 8) fun (x_9 : Int) =>
  ite2 (x_9 == (2 : Int)) (
  drawW fun S =>
  idx l3.a l3.n i13 fun b_10 o_11 =>
  ldS S (.int .i64) b_10 ((o_11 + (i13).toNat * 8) + 1) fun (x_12 : Int) =>
  idx l3.a l3.n i13 fun b_13 o_14 =>
  ldS S (.int .i64) b_13 ((o_14 + (i13).toNat * 8) + 1) fun (x_15 : Int) =>
  call1 (.int .i64) Try.prog id_choose_Chooser_Force [.pointer c9, .int .i64 x_12] fun (x_16 : Int) =>
  keepS true S <|
  call1 (.int .i64) Try.prog id_hoardref20_Chooser_Force [.pointer x11, .int .i64 x_15] fun (x_17 : Int) =>
  ite2 (x_16 != x_17) (
  Q (.bool false)) (
  hoardlaw20_ChoosePlays_j4 jn Q m2 l3 c9 x11 f12 i13)) (
  drawW fun S =>
  idx l3.a l3.n i13 fun b_42 o_43 =>
  ldS S (.int .i64) b_42 ((o_43 + (i13).toNat * 8) + 3) fun (x_44 : Int) =>
  ldS S (.int .i64) b_42 (((o_43 + (i13).toNat * 8) + 3) + 1) fun (x_45 : Int) =>
  ldS S (.int .i64) b_42 ((((o_43 + (i13).toNat * 8) + 3) + 1) + 1) fun (x_46 : Int) =>
  ldS S (.int .i64) b_42 (((((o_43 + (i13).toNat * 8) + 3) + 1) + 1) + 1) fun (x_47 : Int) =>
  ldS S (.int .i64) b_42 ((((((o_43 + (i13).toNat * 8) + 3) + 1) + 1) + 1) + 1) fun (x_48 : Int) =>
  idx l3.a l3.n i13 fun b_49 o_50 =>
  ld (.int .i64) b_49 ((o_50 + (i13).toNat * 8) + 2) fun (x_51 : Int) =>
  keepS true S <|
  call2 (.int .i64) .bool Try.prog id_choose_Chooser_Epoch [.pointer c9, .agg #[.int .i64 x_44, .int .i64 x_45, .int .i64 x_46, .int .i64 x_47, .int .i64 x_48], .int .i64 x_51] fun (x_52 : Int) (x_53 : Bool) =>
  drawW fun S =>
  idx l3.a l3.n i13 fun b_54 o_55 =>
  ldS S (.int .i64) b_54 ((o_55 + (i13).toNat * 8) + 3) fun (x_56 : Int) =>
  ldS S (.int .i64) b_54 (((o_55 + (i13).toNat * 8) + 3) + 1) fun (x_57 : Int) =>
  ldS S (.int .i64) b_54 ((((o_55 + (i13).toNat * 8) + 3) + 1) + 1) fun (x_58 : Int) =>
  ldS S (.int .i64) b_54 (((((o_55 + (i13).toNat * 8) + 3) + 1) + 1) + 1) fun (x_59 : Int) =>
  ldS S (.int .i64) b_54 ((((((o_55 + (i13).toNat * 8) + 3) + 1) + 1) + 1) + 1) fun (x_60 : Int) =>
  idx l3.a l3.n i13 fun b_61 o_62 =>
  ld (.int .i64) b_61 ((o_62 + (i13).toNat * 8) + 2) fun (x_63 : Int) =>
  keepS true S <|
  call2 (.int .i64) .bool Try.prog id_hoardref20_Chooser_Epoch [.pointer x11, .agg #[.int .i64 x_56, .int .i64 x_57, .int .i64 x_58, .int .i64 x_59, .int .i64 x_60], .int .i64 x_63] fun (x_64 : Int) (x_65 : Bool) =>
  ite2 (x_52 != x_64) (
  Q (.bool false)) (
  ite2 (!(x_53 == x_65)) (
  Q (.bool false)) (
  hoardlaw20_ChoosePlays_j4 jn Q m2 l3 c9 x11 f12 i13)))) := by kernel_rfl
theorem hoardlaw20_ChoosePlays_j3_def (Q : Value → WP) (m2 : Nat) (l3 : Sl) (c9 : Option Addr) (x11 : Option Addr) (f12 : Int) (i13 : Int) : hoardlaw20_ChoosePlays_j3 idJ Q m2 l3 c9 x11 f12 i13 = codeI Try.prog hoardlaw20_ChoosePlays_kp idJ (cAt [true, true, true, true, true, false, true, false, false, true] (bodyOf Try.f6)) (lopK Try.prog hoardlaw20_ChoosePlays_kp idJ (cAt [true, true, true, true, true, false, true, false, false] (bodyOf Try.f6)) (blkX 0 (seqK Try.prog hoardlaw20_ChoosePlays_kp idJ (cAt [true, true, true, true, true, true] (bodyOf Try.f6)) (retK Try.prog Try.f6 Q) noX (retK Try.prog Try.f6 Q)) noX) (retK Try.prog Try.f6 Q) m2) (blkX 0 (seqK Try.prog hoardlaw20_ChoosePlays_kp idJ (cAt [true, true, true, true, true, true] (bodyOf Try.f6)) (retK Try.prog Try.f6 Q) noX (retK Try.prog Try.f6 Q)) noX) (retK Try.prog Try.f6 Q) (us 3 ((.slice l3.a l3.n l3.c) :: us 5 ((.pointer c9) :: us 1 ((.pointer x11) :: (.int .i64 f12) :: (.int .i64 i13) :: us 147 [])))) := by kernel_rfl
theorem hoardlaw20_ChoosePlays_j5_raw (jn : Jn) (Q : Value → WP)   : codeI Try.prog hoardlaw20_ChoosePlays_kp jn (cAt [true, true, true, true, true, true] (bodyOf Try.f6)) (retK Try.prog Try.f6 Q) noX (retK Try.prog Try.f6 Q) (us 161 []) = (
  call1 .bool Try.prog id_hoardlaw20_known [] fun (x_66 : Bool) =>
  Q (.bool x_66)) := by kernel_rfl
theorem hoardlaw20_ChoosePlays_j5_def (Q : Value → WP)   : hoardlaw20_ChoosePlays_j5 idJ Q   = codeI Try.prog hoardlaw20_ChoosePlays_kp idJ (cAt [true, true, true, true, true, true] (bodyOf Try.f6)) (retK Try.prog Try.f6 Q) noX (retK Try.prog Try.f6 Q) (us 161 []) := by kernel_rfl
theorem hoardlaw20_ChoosePlays_l2_raw (jn : Jn) (Q : Value → WP)  (m2 : Nat) (l3 : Sl) (c9 : Option Addr) (x11 : Option Addr) (f12 : Int) (i13 : Int) : hoardlaw20_ChoosePlays_l2 jn Q  (m2 + 1) l3 c9 x11 f12 i13 = (
  ite2 (decide (i13 < (l3.n : Int))) (
  ite2 (decide (i13 < (200 : Int))) (
  ite2 (f12 == (0 : Int)) (
  hoardlaw20_ChoosePlays_j3 jn Q m2 l3 c9 x11 f12 i13) (
  hoardlaw20_ChoosePlays_j5 jn Q  )) (
  hoardlaw20_ChoosePlays_j5 jn Q  )) (
  hoardlaw20_ChoosePlays_j5 jn Q  )) := by kernel_rfl
theorem hoardlaw20_ChoosePlays_l2_zero (jn : Jn) (Q : Value → WP)  (l3 : Sl) (c9 : Option Addr) (x11 : Option Addr) (f12 : Int) (i13 : Int) : hoardlaw20_ChoosePlays_l2 jn Q  0 l3 c9 x11 f12 i13 = bot := by kernel_rfl
theorem hoardlaw20_ChoosePlays_j1_raw (jn : Jn) (Q : Value → WP)  (l3 : Sl) (c9 : Option Addr) (x11 : Option Addr) (f12 : Int) : codeI Try.prog hoardlaw20_ChoosePlays_kp jn (cAt [true, true, true, true, true] (bodyOf Try.f6)) (retK Try.prog Try.f6 Q) noX (retK Try.prog Try.f6 Q) (us 3 ((.slice l3.a l3.n l3.c) :: us 5 ((.pointer c9) :: us 1 ((.pointer x11) :: (.int .i64 f12) :: us 148 [])))) = (
  exM fun m => hoardlaw20_ChoosePlays_l2 jn Q  m l3 c9 x11 f12 (0 : Int)) := by kernel_rfl
theorem hoardlaw20_ChoosePlays_j1_def (Q : Value → WP)  (l3 : Sl) (c9 : Option Addr) (x11 : Option Addr) (f12 : Int) : hoardlaw20_ChoosePlays_j1 idJ Q  l3 c9 x11 f12 = codeI Try.prog hoardlaw20_ChoosePlays_kp idJ (cAt [true, true, true, true, true] (bodyOf Try.f6)) (retK Try.prog Try.f6 Q) noX (retK Try.prog Try.f6 Q) (us 3 ((.slice l3.a l3.n l3.c) :: us 5 ((.pointer c9) :: us 1 ((.pointer x11) :: (.int .i64 f12) :: us 148 [])))) := by kernel_rfl
theorem hoardlaw20_ChoosePlays_raw (jn : Jn) (kind0 : Int) (hold1 : Int) (draws2 : Sl) (l3 : Sl) (Q : Value → WP) : funJ jn Try.prog hoardlaw20_ChoosePlays_kp Try.f6 [.int .i64 kind0, .int .i64 hold1, .slice draws2.a draws2.n draws2.c, .slice l3.a l3.n l3.c] Q = (
  ite2 (decide ((draws2.n : Int) > (300 : Int))) (
  Q (.bool true)) (
  call1 .ptr Try.prog id_tape_New [.slice draws2.a draws2.n draws2.c] fun (x_1 : Option Addr) =>
  call2 .ptr (.int .i64) Try.prog id_choose_New [.int .i64 kind0, .int .i64 hold1, .pointer x_1] fun (x_2 : Option Addr) (x_3 : Int) =>
  newB [.slice draws2.a draws2.n draws2.c, .int .i64 (0 : Int)] ty_hoardref3_Tape fun b_4 =>
  call2 .ptr (.int .i64) Try.prog id_hoardref20_New [.int .i64 kind0, .int .i64 hold1, .pointer (some ⟨b_4, 0, none⟩)] fun (x_5 : Option Addr) (x_6 : Int) =>
  ite2 (x_3 != x_6) (
  Q (.bool false)) (
  ite2 (!((Option.isNone x_2) == (x_6 != (0 : Int)))) (
  Q (.bool false)) (
  hoardlaw20_ChoosePlays_j1 jn Q  l3 x_2 x_5 x_6)))) := by kernel_rfl
theorem hoardlaw20_ChoosePlays_def (kind0 : Int) (hold1 : Int) (draws2 : Sl) (l3 : Sl) (Q : Value → WP) : hoardlaw20_ChoosePlays kind0 hold1 draws2 l3 Q = funJ idJ Try.prog hoardlaw20_ChoosePlays_kp Try.f6 [.int .i64 kind0, .int .i64 hold1, .slice draws2.a draws2.n draws2.c, .slice l3.a l3.n l3.c] Q := rfl
theorem hoardlaw20_ChoosePlays_calls {kind0 : Int} {hold1 : Int} {draws2 : Sl} {l3 : Sl} {Q : Value → WP} {w : World} (h : hoardlaw20_ChoosePlays kind0 hold1 draws2 l3 Q w) : Calls Try.prog id_hoardlaw20_ChoosePlays #[.int .i64 kind0, .int .i64 hold1, .slice draws2.a draws2.n draws2.c, .slice l3.a l3.n l3.c] w fun e w' => ∃ v, e = .returned v ∧ Q v w' :=
  funJ_calls mixed Try.func6 rfl h

-- hoard/hoardlaw20.ChooseDraws
def hoardlaw20_ChooseDraws_kp : KP := ⟨[(8, [0, 1, 2, 3]), (16, [2, 3, 9, 10]), (19, [2, 3, 9, 10, 12]), (32, [2, 3, 9, 10, 12]), (34, [2, 9])], [(13, [0, 1, 3, 4, 5, 6, 7, 8, 9, 10, 11, 12, 14, 15, 16, 17, 18, 20, 21, 22])]⟩
def hoardlaw20_ChooseDraws_j4 (jn : Jn) (Q : Value → WP) (m3 : Nat) (epochs2 : Int) (force3 : Int) (t9 : Option Addr) (c10 : Option Addr) (i12 : Int) : WP := jn 32 (fun ρ => codeI Try.prog hoardlaw20_ChooseDraws_kp jn (cAt [true, true, true, true, true, false, true, false, false, true, false, false, true, true, true] (bodyOf Try.f7)) (seqK Try.prog hoardlaw20_ChooseDraws_kp jn (cAt [true, true, true, true, true, false, true, false, false, true, true] (bodyOf Try.f7)) (lopK Try.prog hoardlaw20_ChooseDraws_kp jn (cAt [true, true, true, true, true, false, true, false, false] (bodyOf Try.f7)) (blkX 0 (seqK Try.prog hoardlaw20_ChooseDraws_kp jn (cAt [true, true, true, true, true, true] (bodyOf Try.f7)) (retK Try.prog Try.f7 Q) noX (retK Try.prog Try.f7 Q)) noX) (retK Try.prog Try.f7 Q) m3) (blkX 0 (seqK Try.prog hoardlaw20_ChooseDraws_kp jn (cAt [true, true, true, true, true, true] (bodyOf Try.f7)) (retK Try.prog Try.f7 Q) noX (retK Try.prog Try.f7 Q)) noX) (retK Try.prog Try.f7 Q)) (blkX 1 (seqK Try.prog hoardlaw20_ChooseDraws_kp jn (cAt [true, true, true, true, true, false, true, false, false, true, true] (bodyOf Try.f7)) (lopK Try.prog hoardlaw20_ChooseDraws_kp jn (cAt [true, true, true, true, true, false, true, false, false] (bodyOf Try.f7)) (blkX 0 (seqK Try.prog hoardlaw20_ChooseDraws_kp jn (cAt [true, true, true, true, true, true] (bodyOf Try.f7)) (retK Try.prog Try.f7 Q) noX (retK Try.prog Try.f7 Q)) noX) (retK Try.prog Try.f7 Q) m3) (blkX 0 (seqK Try.prog hoardlaw20_ChooseDraws_kp jn (cAt [true, true, true, true, true, true] (bodyOf Try.f7)) (retK Try.prog Try.f7 Q) noX (retK Try.prog Try.f7 Q)) noX) (retK Try.prog Try.f7 Q)) (blkX 0 (seqK Try.prog hoardlaw20_ChooseDraws_kp jn (cAt [true, true, true, true, true, true] (bodyOf Try.f7)) (retK Try.prog Try.f7 Q) noX (retK Try.prog Try.f7 Q)) noX)) (retK Try.prog Try.f7 Q) ρ) (us 2 ((.int .i64 epochs2) :: (.int .i64 force3) :: us 5 ((.pointer t9) :: (.pointer c10) :: us 1 ((.int .i64 i12) :: us 81 []))))
def hoardlaw20_ChooseDraws_j5 (jn : Jn) (Q : Value → WP)  (epochs2 : Int) (t9 : Option Addr) : WP := jn 34 (fun ρ => codeI Try.prog hoardlaw20_ChooseDraws_kp jn (cAt [true, true, true, true, true, true] (bodyOf Try.f7)) (retK Try.prog Try.f7 Q) noX (retK Try.prog Try.f7 Q) ρ) (us 2 ((.int .i64 epochs2) :: us 6 ((.pointer t9) :: us 84 [])))
def hoardlaw20_ChooseDraws_l3 (jn : Jn) (Q : Value → WP)  (m3 : Nat) (epochs2 : Int) (force3 : Int) (t9 : Option Addr) (c10 : Option Addr) (i12 : Int) : WP := lop Try.prog hoardlaw20_ChooseDraws_kp jn (cAt [true, true, true, true, true, false, true, false, false] (bodyOf Try.f7)) (blkX 0 (seqK Try.prog hoardlaw20_ChooseDraws_kp jn (cAt [true, true, true, true, true, true] (bodyOf Try.f7)) (retK Try.prog Try.f7 Q) noX (retK Try.prog Try.f7 Q)) noX) (retK Try.prog Try.f7 Q) m3 (us 2 ((.int .i64 epochs2) :: (.int .i64 force3) :: us 5 ((.pointer t9) :: (.pointer c10) :: us 1 ((.int .i64 i12) :: us 81 []))))
def hoardlaw20_ChooseDraws_j2 (jn : Jn) (Q : Value → WP)  (epochs2 : Int) (force3 : Int) (t9 : Option Addr) (c10 : Option Addr) : WP := jn 16 (fun ρ => codeI Try.prog hoardlaw20_ChooseDraws_kp jn (cAt [true, true, true, true, true] (bodyOf Try.f7)) (retK Try.prog Try.f7 Q) noX (retK Try.prog Try.f7 Q) ρ) (us 2 ((.int .i64 epochs2) :: (.int .i64 force3) :: us 5 ((.pointer t9) :: (.pointer c10) :: us 83 [])))
def hoardlaw20_ChooseDraws_j1 (jn : Jn) (Q : Value → WP)  (kind0 : Int) (draws1 : Sl) (epochs2 : Int) (force3 : Int) : WP := jn 8 (fun ρ => codeI Try.prog hoardlaw20_ChooseDraws_kp jn (cAt [true, true] (bodyOf Try.f7)) (retK Try.prog Try.f7 Q) noX (retK Try.prog Try.f7 Q) ρ) ((.int .i64 kind0) :: (.slice draws1.a draws1.n draws1.c) :: (.int .i64 epochs2) :: (.int .i64 force3) :: us 90 [])
def hoardlaw20_ChooseDraws (kind0 : Int) (draws1 : Sl) (epochs2 : Int) (force3 : Int) (Q : Value → WP) : WP := funJ idJ Try.prog hoardlaw20_ChooseDraws_kp Try.f7 [.int .i64 kind0, .slice draws1.a draws1.n draws1.c, .int .i64 epochs2, .int .i64 force3] Q
theorem hoardlaw20_ChooseDraws_j4_raw (jn : Jn) (Q : Value → WP) (m3 : Nat) (epochs2 : Int) (force3 : Int) (t9 : Option Addr) (c10 : Option Addr) (i12 : Int) : codeI Try.prog hoardlaw20_ChooseDraws_kp jn (cAt [true, true, true, true, true, false, true, false, false, true, false, false, true, true, true] (bodyOf Try.f7)) (seqK Try.prog hoardlaw20_ChooseDraws_kp jn (cAt [true, true, true, true, true, false, true, false, false, true, true] (bodyOf Try.f7)) (lopK Try.prog hoardlaw20_ChooseDraws_kp jn (cAt [true, true, true, true, true, false, true, false, false] (bodyOf Try.f7)) (blkX 0 (seqK Try.prog hoardlaw20_ChooseDraws_kp jn (cAt [true, true, true, true, true, true] (bodyOf Try.f7)) (retK Try.prog Try.f7 Q) noX (retK Try.prog Try.f7 Q)) noX) (retK Try.prog Try.f7 Q) m3) (blkX 0 (seqK Try.prog hoardlaw20_ChooseDraws_kp jn (cAt [true, true, true, true, true, true] (bodyOf Try.f7)) (retK Try.prog Try.f7 Q) noX (retK Try.prog Try.f7 Q)) noX) (retK Try.prog Try.f7 Q)) (blkX 1 (seqK Try.prog hoardlaw20_ChooseDraws_kp jn (cAt [true, true, true, true, true, false, true, false, false, true, true] (bodyOf Try.f7)) (lopK Try.prog hoardlaw20_ChooseDraws_kp jn (cAt [true, true, true, true, true, false, true, false, false] (bodyOf Try.f7)) (blkX 0 (seqK Try.prog hoardlaw20_ChooseDraws_kp jn (cAt [true, true, true, true, true, true] (bodyOf Try.f7)) (retK Try.prog Try.f7 Q) noX (retK Try.prog Try.f7 Q)) noX) (retK Try.prog Try.f7 Q) m3) (blkX 0 (seqK Try.prog hoardlaw20_ChooseDraws_kp jn (cAt [true, true, true, true, true, true] (bodyOf Try.f7)) (retK Try.prog Try.f7 Q) noX (retK Try.prog Try.f7 Q)) noX) (retK Try.prog Try.f7 Q)) (blkX 0 (seqK Try.prog hoardlaw20_ChooseDraws_kp jn (cAt [true, true, true, true, true, true] (bodyOf Try.f7)) (retK Try.prog Try.f7 Q) noX (retK Try.prog Try.f7 Q)) noX)) (retK Try.prog Try.f7 Q) (us 2 ((.int .i64 epochs2) :: (.int .i64 force3) :: us 5 ((.pointer t9) :: (.pointer c10) :: us 1 ((.int .i64 i12) :: us 81 [])))) = (
  call2 (.int .i64) .bool Try.prog id_choose_Chooser_Epoch [.pointer c10, .agg #[.int .i64 (bits .and .i64 i12 (3 : Int)), .int .i64 (1 : Int), .int .i64 (0 : Int), .int .i64 (2 : Int), .int .i64 (0 : Int)], .int .i64 (10 : Int)] fun (x_28 : Int) (x_29 : Bool) =>
  hoardlaw20_ChooseDraws_l3 jn Q  m3 epochs2 force3 t9 c10 (IntKind.wrap .i64 (i12 + (1 : Int)))) := by kernel_rfl
theorem hoardlaw20_ChooseDraws_j4_def (Q : Value → WP) (m3 : Nat) (epochs2 : Int) (force3 : Int) (t9 : Option Addr) (c10 : Option Addr) (i12 : Int) : hoardlaw20_ChooseDraws_j4 idJ Q m3 epochs2 force3 t9 c10 i12 = codeI Try.prog hoardlaw20_ChooseDraws_kp idJ (cAt [true, true, true, true, true, false, true, false, false, true, false, false, true, true, true] (bodyOf Try.f7)) (seqK Try.prog hoardlaw20_ChooseDraws_kp idJ (cAt [true, true, true, true, true, false, true, false, false, true, true] (bodyOf Try.f7)) (lopK Try.prog hoardlaw20_ChooseDraws_kp idJ (cAt [true, true, true, true, true, false, true, false, false] (bodyOf Try.f7)) (blkX 0 (seqK Try.prog hoardlaw20_ChooseDraws_kp idJ (cAt [true, true, true, true, true, true] (bodyOf Try.f7)) (retK Try.prog Try.f7 Q) noX (retK Try.prog Try.f7 Q)) noX) (retK Try.prog Try.f7 Q) m3) (blkX 0 (seqK Try.prog hoardlaw20_ChooseDraws_kp idJ (cAt [true, true, true, true, true, true] (bodyOf Try.f7)) (retK Try.prog Try.f7 Q) noX (retK Try.prog Try.f7 Q)) noX) (retK Try.prog Try.f7 Q)) (blkX 1 (seqK Try.prog hoardlaw20_ChooseDraws_kp idJ (cAt [true, true, true, true, true, false, true, false, false, true, true] (bodyOf Try.f7)) (lopK Try.prog hoardlaw20_ChooseDraws_kp idJ (cAt [true, true, true, true, true, false, true, false, false] (bodyOf Try.f7)) (blkX 0 (seqK Try.prog hoardlaw20_ChooseDraws_kp idJ (cAt [true, true, true, true, true, true] (bodyOf Try.f7)) (retK Try.prog Try.f7 Q) noX (retK Try.prog Try.f7 Q)) noX) (retK Try.prog Try.f7 Q) m3) (blkX 0 (seqK Try.prog hoardlaw20_ChooseDraws_kp idJ (cAt [true, true, true, true, true, true] (bodyOf Try.f7)) (retK Try.prog Try.f7 Q) noX (retK Try.prog Try.f7 Q)) noX) (retK Try.prog Try.f7 Q)) (blkX 0 (seqK Try.prog hoardlaw20_ChooseDraws_kp idJ (cAt [true, true, true, true, true, true] (bodyOf Try.f7)) (retK Try.prog Try.f7 Q) noX (retK Try.prog Try.f7 Q)) noX)) (retK Try.prog Try.f7 Q) (us 2 ((.int .i64 epochs2) :: (.int .i64 force3) :: us 5 ((.pointer t9) :: (.pointer c10) :: us 1 ((.int .i64 i12) :: us 81 [])))) := by kernel_rfl
theorem hoardlaw20_ChooseDraws_j5_raw (jn : Jn) (Q : Value → WP)  (epochs2 : Int) (t9 : Option Addr) : codeI Try.prog hoardlaw20_ChooseDraws_kp jn (cAt [true, true, true, true, true, true] (bodyOf Try.f7)) (retK Try.prog Try.f7 Q) noX (retK Try.prog Try.f7 Q) (us 2 ((.int .i64 epochs2) :: us 6 ((.pointer t9) :: us 84 []))) = (
  call1 (.int .i64) Try.prog id_tape_Tape_Taken [.pointer t9] fun (x_41 : Int) =>
  ite2 (x_41 == epochs2) (
  call1 .bool Try.prog id_hoardlaw20_known [] fun (x_42 : Bool) =>
  Q (.bool x_42)) (
  Q (.bool false))) := by kernel_rfl
theorem hoardlaw20_ChooseDraws_j5_def (Q : Value → WP)  (epochs2 : Int) (t9 : Option Addr) : hoardlaw20_ChooseDraws_j5 idJ Q  epochs2 t9 = codeI Try.prog hoardlaw20_ChooseDraws_kp idJ (cAt [true, true, true, true, true, true] (bodyOf Try.f7)) (retK Try.prog Try.f7 Q) noX (retK Try.prog Try.f7 Q) (us 2 ((.int .i64 epochs2) :: us 6 ((.pointer t9) :: us 84 []))) := by kernel_rfl
theorem hoardlaw20_ChooseDraws_l3_raw (jn : Jn) (Q : Value → WP)  (m3 : Nat) (epochs2 : Int) (force3 : Int) (t9 : Option Addr) (c10 : Option Addr) (i12 : Int) : hoardlaw20_ChooseDraws_l3 jn Q  (m3 + 1) epochs2 force3 t9 c10 i12 = (
  ite2 (decide (i12 < epochs2)) (
  call1 (.int .i64) Try.prog id_tape_Tape_Taken [.pointer t9] fun (x_9 : Int) =>
  ite2 (x_9 != i12) (
  Q (.bool false)) (
  fun w => Calls Try.prog id_choose_Chooser_Weights #[.pointer c10] w fun e w' => ∃ x_10 : Int, ∃ x_11 : Int, ∃ x_12 : Int, ∃ x_13 : Int, ∃ x_14 : Int, e = .returned (.agg #[.int .u64 x_10, .int .u64 x_11, .int .u64 x_12, .int .u64 x_13, .int .u64 x_14]) ∧ (
  newB [.int .u64 (0 : Int), .int .u64 (0 : Int), .int .u64 (0 : Int), .int .u64 (0 : Int), .int .u64 (0 : Int)] ty_weigh_Weights fun b_15 =>
  st b_15 0 (.int .u64 x_10) <|
  st b_15 1 (.int .u64 x_11) <|
  st b_15 2 (.int .u64 x_12) <|
  st b_15 3 (.int .u64 x_13) <|
  st b_15 4 (.int .u64 x_14) <|
  drawW fun S =>
  call1 (.int .i64) Try.prog id_choose_Chooser_Force [.pointer c10, .int .i64 force3] fun (x_16 : Int) =>
  keepS true S <|
  ite2 (decide (force3 ≥ (0 : Int))) (
  ite2 (!((x_16 == (0 : Int)) == (decide (force3 < (5 : Int))))) (
  keepS true S <|
  Q (.bool false)) (
  ldS S (.int .u64) b_15 0 fun (x_17 : Int) =>
  ldS S (.int .u64) b_15 1 fun (x_18 : Int) =>
  ldS S (.int .u64) b_15 2 fun (x_19 : Int) =>
  ldS S (.int .u64) b_15 3 fun (x_20 : Int) =>
  ldS S (.int .u64) b_15 4 fun (x_21 : Int) =>
  fun w => Calls Try.prog id_choose_Chooser_Weights #[.pointer c10] w fun e w' => ∃ x_22 : Int, ∃ x_23 : Int, ∃ x_24 : Int, ∃ x_25 : Int, ∃ x_26 : Int, e = .returned (.agg #[.int .u64 x_22, .int .u64 x_23, .int .u64 x_24, .int .u64 x_25, .int .u64 x_26]) ∧ (
  keepS true S <|
  ite2 (!((x_22 == x_17) && ((x_23 == x_18) && ((x_24 == x_19) && ((x_25 == x_20) && ((x_26 == x_21) && true)))))) (
  Q (.bool false)) (
  call1 (.int .i64) Try.prog id_tape_Tape_Taken [.pointer t9] fun (x_27 : Int) =>
  ite2 (x_27 != i12) (
  Q (.bool false)) (
  hoardlaw20_ChooseDraws_j4 jn Q m3 epochs2 force3 t9 c10 i12))) w')) (
  ite2 (!((x_16 == (0 : Int)) == false)) (
  keepS true S <|
  Q (.bool false)) (
  ldS S (.int .u64) b_15 0 fun (x_30 : Int) =>
  ldS S (.int .u64) b_15 1 fun (x_31 : Int) =>
  ldS S (.int .u64) b_15 2 fun (x_32 : Int) =>
  ldS S (.int .u64) b_15 3 fun (x_33 : Int) =>
  ldS S (.int .u64) b_15 4 fun (x_34 : Int) =>
  fun w => Calls Try.prog id_choose_Chooser_Weights #[.pointer c10] w fun e w' => ∃ x_35 : Int, ∃ x_36 : Int, ∃ x_37 : Int, ∃ x_38 : Int, ∃ x_39 : Int, e = .returned (.agg #[.int .u64 x_35, .int .u64 x_36, .int .u64 x_37, .int .u64 x_38, .int .u64 x_39]) ∧ (
  keepS true S <|
  ite2 (!((x_35 == x_30) && ((x_36 == x_31) && ((x_37 == x_32) && ((x_38 == x_33) && ((x_39 == x_34) && true)))))) (
  Q (.bool false)) (
  call1 (.int .i64) Try.prog id_tape_Tape_Taken [.pointer t9] fun (x_40 : Int) =>
  ite2 (x_40 != i12) (
  Q (.bool false)) (
  hoardlaw20_ChooseDraws_j4 jn Q m3 epochs2 force3 t9 c10 i12))) w'))) w')) (
  hoardlaw20_ChooseDraws_j5 jn Q  epochs2 t9)) := by kernel_rfl
theorem hoardlaw20_ChooseDraws_l3_zero (jn : Jn) (Q : Value → WP)  (epochs2 : Int) (force3 : Int) (t9 : Option Addr) (c10 : Option Addr) (i12 : Int) : hoardlaw20_ChooseDraws_l3 jn Q  0 epochs2 force3 t9 c10 i12 = bot := by kernel_rfl
theorem hoardlaw20_ChooseDraws_j2_raw (jn : Jn) (Q : Value → WP)  (epochs2 : Int) (force3 : Int) (t9 : Option Addr) (c10 : Option Addr) : codeI Try.prog hoardlaw20_ChooseDraws_kp jn (cAt [true, true, true, true, true] (bodyOf Try.f7)) (retK Try.prog Try.f7 Q) noX (retK Try.prog Try.f7 Q) (us 2 ((.int .i64 epochs2) :: (.int .i64 force3) :: us 5 ((.pointer t9) :: (.pointer c10) :: us 83 []))) = (
  exM fun m => hoardlaw20_ChooseDraws_l3 jn Q  m epochs2 force3 t9 c10 (0 : Int)) := by kernel_rfl
theorem hoardlaw20_ChooseDraws_j2_def (Q : Value → WP)  (epochs2 : Int) (force3 : Int) (t9 : Option Addr) (c10 : Option Addr) : hoardlaw20_ChooseDraws_j2 idJ Q  epochs2 force3 t9 c10 = codeI Try.prog hoardlaw20_ChooseDraws_kp idJ (cAt [true, true, true, true, true] (bodyOf Try.f7)) (retK Try.prog Try.f7 Q) noX (retK Try.prog Try.f7 Q) (us 2 ((.int .i64 epochs2) :: (.int .i64 force3) :: us 5 ((.pointer t9) :: (.pointer c10) :: us 83 []))) := by kernel_rfl
theorem hoardlaw20_ChooseDraws_j1_raw (jn : Jn) (Q : Value → WP)  (kind0 : Int) (draws1 : Sl) (epochs2 : Int) (force3 : Int) : codeI Try.prog hoardlaw20_ChooseDraws_kp jn (cAt [true, true] (bodyOf Try.f7)) (retK Try.prog Try.f7 Q) noX (retK Try.prog Try.f7 Q) ((.int .i64 kind0) :: (.slice draws1.a draws1.n draws1.c) :: (.int .i64 epochs2) :: (.int .i64 force3) :: us 90 []) = (
  call1 .ptr Try.prog id_tape_New [.slice draws1.a draws1.n draws1.c] fun (x_6 : Option Addr) =>
  call2 .ptr (.int .i64) Try.prog id_choose_New [.int .i64 kind0, .int .i64 (3 : Int), .pointer x_6] fun (x_7 : Option Addr) (x_8 : Int) =>
  ite2 (x_8 != (0 : Int)) (
  Q (.bool false)) (
  ite2 (Option.isNone x_7) (
  Q (.bool false)) (
  hoardlaw20_ChooseDraws_j2 jn Q  epochs2 force3 x_6 x_7))) := by kernel_rfl
theorem hoardlaw20_ChooseDraws_j1_def (Q : Value → WP)  (kind0 : Int) (draws1 : Sl) (epochs2 : Int) (force3 : Int) : hoardlaw20_ChooseDraws_j1 idJ Q  kind0 draws1 epochs2 force3 = codeI Try.prog hoardlaw20_ChooseDraws_kp idJ (cAt [true, true] (bodyOf Try.f7)) (retK Try.prog Try.f7 Q) noX (retK Try.prog Try.f7 Q) ((.int .i64 kind0) :: (.slice draws1.a draws1.n draws1.c) :: (.int .i64 epochs2) :: (.int .i64 force3) :: us 90 []) := by kernel_rfl
theorem hoardlaw20_ChooseDraws_raw (jn : Jn) (kind0 : Int) (draws1 : Sl) (epochs2 : Int) (force3 : Int) (Q : Value → WP) : funJ jn Try.prog hoardlaw20_ChooseDraws_kp Try.f7 [.int .i64 kind0, .slice draws1.a draws1.n draws1.c, .int .i64 epochs2, .int .i64 force3] Q = (
  ite2 (decide (kind0 < (0 : Int))) (
  call1 .bool Try.prog id_hoardlaw20_known [] fun (x_1 : Bool) =>
  Q (.bool x_1)) (
  ite2 (decide (kind0 ≥ (5 : Int))) (
  call1 .bool Try.prog id_hoardlaw20_known [] fun (x_2 : Bool) =>
  Q (.bool x_2)) (
  ite2 (decide ((draws1.n : Int) > (200 : Int))) (
  call1 .bool Try.prog id_hoardlaw20_known [] fun (x_3 : Bool) =>
  Q (.bool x_3)) (
  ite2 (decide (epochs2 < (0 : Int))) (
  call1 .bool Try.prog id_hoardlaw20_known [] fun (x_4 : Bool) =>
  Q (.bool x_4)) (
  ite2 (decide (epochs2 > (200 : Int))) (
  call1 .bool Try.prog id_hoardlaw20_known [] fun (x_5 : Bool) =>
  Q (.bool x_5)) (
  hoardlaw20_ChooseDraws_j1 jn Q  kind0 draws1 epochs2 force3)))))) := by kernel_rfl
theorem hoardlaw20_ChooseDraws_def (kind0 : Int) (draws1 : Sl) (epochs2 : Int) (force3 : Int) (Q : Value → WP) : hoardlaw20_ChooseDraws kind0 draws1 epochs2 force3 Q = funJ idJ Try.prog hoardlaw20_ChooseDraws_kp Try.f7 [.int .i64 kind0, .slice draws1.a draws1.n draws1.c, .int .i64 epochs2, .int .i64 force3] Q := rfl
theorem hoardlaw20_ChooseDraws_calls {kind0 : Int} {draws1 : Sl} {epochs2 : Int} {force3 : Int} {Q : Value → WP} {w : World} (h : hoardlaw20_ChooseDraws kind0 draws1 epochs2 force3 Q w) : Calls Try.prog id_hoardlaw20_ChooseDraws #[.int .i64 kind0, .slice draws1.a draws1.n draws1.c, .int .i64 epochs2, .int .i64 force3] w fun e w' => ∃ v, e = .returned v ∧ Q v w' :=
  funJ_calls mixed Try.func7 rfl h

-- hoard/choose.New
def choose_New_kp : KP := ⟨[(12, [0, 1, 2])], []⟩
def choose_New_j1 (jn : Jn) (Q : Value → WP)  (kind0 : Int) (hold1 : Int) (t2 : Option Addr) : WP := jn 12 (fun ρ => codeI Try.prog choose_New_kp jn (cAt [true, true] (bodyOf Try.f8)) (retK Try.prog Try.f8 Q) noX (retK Try.prog Try.f8 Q) ρ) ((.int .i64 kind0) :: (.int .i64 hold1) :: (.pointer t2) :: us 23 [])
def choose_New (kind0 : Int) (hold1 : Int) (t2 : Option Addr) (Q : Value → WP) : WP := funJ idJ Try.prog choose_New_kp Try.f8 [.int .i64 kind0, .int .i64 hold1, .pointer t2] Q
theorem choose_New_j1_raw (jn : Jn) (Q : Value → WP)  (kind0 : Int) (hold1 : Int) (t2 : Option Addr) : codeI Try.prog choose_New_kp jn (cAt [true, true] (bodyOf Try.f8)) (retK Try.prog Try.f8 Q) noX (retK Try.prog Try.f8 Q) ((.int .i64 kind0) :: (.int .i64 hold1) :: (.pointer t2) :: us 23 []) = (
  fun w => Calls Try.prog id_weigh_Start #[] w fun e w' => ∃ x_2 : Int, ∃ x_3 : Int, ∃ x_4 : Int, ∃ x_5 : Int, ∃ x_6 : Int, e = .returned (.agg #[.int .u64 x_2, .int .u64 x_3, .int .u64 x_4, .int .u64 x_5, .int .u64 x_6]) ∧ (
  newB [.int .i64 kind0, .int .i64 hold1, .pointer t2, .int .u64 x_2, .int .u64 x_3, .int .u64 x_4, .int .u64 x_5, .int .u64 x_6, .int .i64 kind0, .int .i64 (0 : Int)] ty_choose_Chooser fun b_7 =>
  Q (.tuple #[.pointer (some ⟨b_7, 0, none⟩), .int .i64 (0 : Int)])) w') := by kernel_rfl
theorem choose_New_j1_def (Q : Value → WP)  (kind0 : Int) (hold1 : Int) (t2 : Option Addr) : choose_New_j1 idJ Q  kind0 hold1 t2 = codeI Try.prog choose_New_kp idJ (cAt [true, true] (bodyOf Try.f8)) (retK Try.prog Try.f8 Q) noX (retK Try.prog Try.f8 Q) ((.int .i64 kind0) :: (.int .i64 hold1) :: (.pointer t2) :: us 23 []) := by kernel_rfl
theorem choose_New_raw (jn : Jn) (kind0 : Int) (hold1 : Int) (t2 : Option Addr) (Q : Value → WP) : funJ jn Try.prog choose_New_kp Try.f8 [.int .i64 kind0, .int .i64 hold1, .pointer t2] Q = (
  call1 .bool Try.prog id_choose_isKind [.int .i64 kind0] fun (x_1 : Bool) =>
  ite2 (!x_1) (
  Q (.tuple #[.pointer (none : Option Addr), .int .i64 (4 : Int)])) (
  ite2 (decide (hold1 < (1 : Int))) (
  Q (.tuple #[.pointer (none : Option Addr), .int .i64 (1 : Int)])) (
  ite2 (decide (hold1 > (256 : Int))) (
  Q (.tuple #[.pointer (none : Option Addr), .int .i64 (1 : Int)])) (
  choose_New_j1 jn Q  kind0 hold1 t2)))) := by kernel_rfl
theorem choose_New_def (kind0 : Int) (hold1 : Int) (t2 : Option Addr) (Q : Value → WP) : choose_New kind0 hold1 t2 Q = funJ idJ Try.prog choose_New_kp Try.f8 [.int .i64 kind0, .int .i64 hold1, .pointer t2] Q := rfl
theorem choose_New_calls {kind0 : Int} {hold1 : Int} {t2 : Option Addr} {Q : Value → WP} {w : World} (h : choose_New kind0 hold1 t2 Q w) : Calls Try.prog id_choose_New #[.int .i64 kind0, .int .i64 hold1, .pointer t2] w fun e w' => ∃ v, e = .returned v ∧ Q v w' :=
  funJ_calls mixed Try.func8 rfl h

-- hoard/tape.New
def tape_New_kp : KP := ⟨[], []⟩
def tape_New (draws0 : Sl) (Q : Value → WP) : WP := funJ idJ Try.prog tape_New_kp Try.f9 [.slice draws0.a draws0.n draws0.c] Q
theorem tape_New_raw (jn : Jn) (draws0 : Sl) (Q : Value → WP) : funJ jn Try.prog tape_New_kp Try.f9 [.slice draws0.a draws0.n draws0.c] Q = (
  call1 .slc Try.prog id_slices_Clone_s_uint32_uint32 [.slice draws0.a draws0.n draws0.c] fun (x_1 : Sl) =>
  newB [.slice x_1.a x_1.n x_1.c, .int .i64 (0 : Int)] ty_tape_Tape fun b_2 =>
  Q (.pointer (some ⟨b_2, 0, none⟩))) := by kernel_rfl
theorem tape_New_def (draws0 : Sl) (Q : Value → WP) : tape_New draws0 Q = funJ idJ Try.prog tape_New_kp Try.f9 [.slice draws0.a draws0.n draws0.c] Q := rfl
theorem tape_New_calls {draws0 : Sl} {Q : Value → WP} {w : World} (h : tape_New draws0 Q w) : Calls Try.prog id_tape_New #[.slice draws0.a draws0.n draws0.c] w fun e w' => ∃ v, e = .returned v ∧ Q v w' :=
  funJ_calls mixed Try.func9 rfl h

-- (*hoard/choose.Chooser).Epoch
def choose_Chooser_Epoch_kp : KP := ⟨[(24, [0, 8])], [(3, [0, 1, 2, 3, 4, 6, 8, 9]), (4, [0, 1, 2, 3, 4, 5, 6, 10]), (11, [0, 1, 2, 3, 4, 5, 6, 8])]⟩
def choose_Chooser_Epoch_j1 (jn : Jn) (Q : Value → WP)  (c0 : Option Addr) (pick8 : Int) : WP := jn 24 (fun ρ => codeI Try.prog choose_Chooser_Epoch_kp jn (cAt [true, true, true, true, true] (bodyOf Try.f10)) (retK Try.prog Try.f10 Q) noX (retK Try.prog Try.f10 Q) ρ) ((.pointer c0) :: us 7 ((.int .i64 pick8) :: us 72 []))
def choose_Chooser_Epoch (c0 : Option Addr) (ghosts1_0 : Int) (ghosts1_1 : Int) (ghosts1_2 : Int) (ghosts1_3 : Int) (ghosts1_4 : Int) (all2 : Int) (Q : Value → WP) : WP := funJ idJ Try.prog choose_Chooser_Epoch_kp Try.f10 [.pointer c0, .agg #[.int .i64 ghosts1_0, .int .i64 ghosts1_1, .int .i64 ghosts1_2, .int .i64 ghosts1_3, .int .i64 ghosts1_4], .int .i64 all2] Q
theorem choose_Chooser_Epoch_j1_raw (jn : Jn) (Q : Value → WP)  (c0 : Option Addr) (pick8 : Int) : codeI Try.prog choose_Chooser_Epoch_kp jn (cAt [true, true, true, true, true] (bodyOf Try.f10)) (retK Try.prog Try.f10 Q) noX (retK Try.prog Try.f10 Q) ((.pointer c0) :: us 7 ((.int .i64 pick8) :: us 72 [])) = (
  drawW fun S =>
  nilck c0 fun b_48 o_49 =>
  ldS S (.int .i64) b_48 (o_49 + 9) fun (x_50 : Int) =>
  nilck c0 fun b_51 o_52 =>
  ld (.int .i64) b_51 (o_52 + 1) fun (x_53 : Int) =>
  keepS true S <|
  ite2 (decide (x_50 < x_53)) (
  Q (.tuple #[.int .i64 pick8, .bool false])) (
  call1 (.int .i64) Try.prog id_choose_Chooser_Force [.pointer c0, .int .i64 pick8] fun (x_54 : Int) =>
  Q (.tuple #[.int .i64 pick8, .bool true]))) := by kernel_rfl
theorem choose_Chooser_Epoch_j1_def (Q : Value → WP)  (c0 : Option Addr) (pick8 : Int) : choose_Chooser_Epoch_j1 idJ Q  c0 pick8 = codeI Try.prog choose_Chooser_Epoch_kp idJ (cAt [true, true, true, true, true] (bodyOf Try.f10)) (retK Try.prog Try.f10 Q) noX (retK Try.prog Try.f10 Q) ((.pointer c0) :: us 7 ((.int .i64 pick8) :: us 72 [])) := by kernel_rfl
theorem choose_Chooser_Epoch_raw (jn : Jn) (c0 : Option Addr) (ghosts1_0 : Int) (ghosts1_1 : Int) (ghosts1_2 : Int) (ghosts1_3 : Int) (ghosts1_4 : Int) (all2 : Int) (Q : Value → WP) : funJ jn Try.prog choose_Chooser_Epoch_kp Try.f10 [.pointer c0, .agg #[.int .i64 ghosts1_0, .int .i64 ghosts1_1, .int .i64 ghosts1_2, .int .i64 ghosts1_3, .int .i64 ghosts1_4], .int .i64 all2] Q = (
  newB [.int .i64 ghosts1_0, .int .i64 ghosts1_1, .int .i64 ghosts1_2, .int .i64 ghosts1_3, .int .i64 ghosts1_4] ty_5_int fun b_1 =>
  ite2 (Option.isNone c0) (
  Q (.tuple #[.int .i64 (0 : Int), .bool false])) (
  drawW fun S =>
  nilck c0 fun b_2 o_3 =>
  ldS S (.int .u64) b_2 (o_3 + 3) fun (x_4 : Int) =>
  ldS S (.int .u64) b_2 ((o_3 + 3) + 1) fun (x_5 : Int) =>
  ldS S (.int .u64) b_2 (((o_3 + 3) + 1) + 1) fun (x_6 : Int) =>
  ldS S (.int .u64) b_2 ((((o_3 + 3) + 1) + 1) + 1) fun (x_7 : Int) =>
  ldS S (.int .u64) b_2 (((((o_3 + 3) + 1) + 1) + 1) + 1) fun (x_8 : Int) =>
  ld (.int .i64) b_1 0 fun (x_9 : Int) =>
  ld (.int .i64) b_1 1 fun (x_10 : Int) =>
  ld (.int .i64) b_1 2 fun (x_11 : Int) =>
  ld (.int .i64) b_1 3 fun (x_12 : Int) =>
  ld (.int .i64) b_1 4 fun (x_13 : Int) =>
  keepS true S <|
  fun w => Calls Try.prog id_weigh_Next #[.agg #[.int .u64 x_4, .int .u64 x_5, .int .u64 x_6, .int .u64 x_7, .int .u64 x_8], .agg #[.int .i64 x_9, .int .i64 x_10, .int .i64 x_11, .int .i64 x_12, .int .i64 x_13], .int .i64 all2] w fun e w' => ∃ x_14 : Int, ∃ x_15 : Int, ∃ x_16 : Int, ∃ x_17 : Int, ∃ x_18 : Int, e = .returned (.agg #[.int .u64 x_14, .int .u64 x_15, .int .u64 x_16, .int .u64 x_17, .int .u64 x_18]) ∧ (
  nilck c0 fun b_19 o_20 =>
  st b_19 (o_20 + 3) (.int .u64 x_14) <|
  st b_19 ((o_20 + 3) + 1) (.int .u64 x_15) <|
  st b_19 (((o_20 + 3) + 1) + 1) (.int .u64 x_16) <|
  st b_19 ((((o_20 + 3) + 1) + 1) + 1) (.int .u64 x_17) <|
  st b_19 (((((o_20 + 3) + 1) + 1) + 1) + 1) (.int .u64 x_18) <|
  drawW fun S =>
  nilck c0 fun b_21 o_22 =>
  ldS S (.int .u64) b_21 (o_22 + 3) fun (x_23 : Int) =>
  ldS S (.int .u64) b_21 ((o_22 + 3) + 1) fun (x_24 : Int) =>
  ldS S (.int .u64) b_21 (((o_22 + 3) + 1) + 1) fun (x_25 : Int) =>
  ldS S (.int .u64) b_21 ((((o_22 + 3) + 1) + 1) + 1) fun (x_26 : Int) =>
  ldS S (.int .u64) b_21 (((((o_22 + 3) + 1) + 1) + 1) + 1) fun (x_27 : Int) =>
  nilck c0 fun b_28 o_29 =>
  ld .ptr b_28 (o_29 + 2) fun (x_30 : Option Addr) =>
  keepS true S <|
  call1 (.int .u32) Try.prog id_tape_Tape_Next [.pointer x_30] fun (x_31 : Int) =>
  keepS true S <|
  call1 (.int .i64) Try.prog id_weigh_Pick [.agg #[.int .u64 x_23, .int .u64 x_24, .int .u64 x_25, .int .u64 x_26, .int .u64 x_27], .int .u32 x_31] fun (x_32 : Int) =>
  nilck c0 fun b_33 o_34 =>
  ld (.int .i64) b_33 o_34 fun (x_35 : Int) =>
  ite2 (x_32 == x_35) (
  nilck c0 fun b_36 o_37 =>
  st b_36 (o_37 + 8) (.int .i64 x_32) <|
  nilck c0 fun b_38 o_39 =>
  st b_38 (o_39 + 9) (.int .i64 (0 : Int)) <|
  Q (.tuple #[.int .i64 x_32, .bool false])) (
  nilck c0 fun b_40 o_41 =>
  ld (.int .i64) b_40 (o_41 + 8) fun (x_42 : Int) =>
  ite2 (x_32 == x_42) (
  nilck c0 fun b_43 o_44 =>
  ld (.int .i64) b_43 (o_44 + 9) fun (x_45 : Int) =>
  nilck c0 fun b_46 o_47 =>
  st b_46 (o_47 + 9) (.int .i64 (IntKind.wrap .i64 (x_45 + (1 : Int)))) <|
  choose_Chooser_Epoch_j1 jn Q  c0 x_32) (
  nilck c0 fun b_55 o_56 =>
  st b_55 (o_56 + 8) (.int .i64 x_32) <|
  nilck c0 fun b_57 o_58 =>
  st b_57 (o_58 + 9) (.int .i64 (1 : Int)) <|
  choose_Chooser_Epoch_j1 jn Q  c0 x_32))) w')) := by kernel_rfl
theorem choose_Chooser_Epoch_def (c0 : Option Addr) (ghosts1_0 : Int) (ghosts1_1 : Int) (ghosts1_2 : Int) (ghosts1_3 : Int) (ghosts1_4 : Int) (all2 : Int) (Q : Value → WP) : choose_Chooser_Epoch c0 ghosts1_0 ghosts1_1 ghosts1_2 ghosts1_3 ghosts1_4 all2 Q = funJ idJ Try.prog choose_Chooser_Epoch_kp Try.f10 [.pointer c0, .agg #[.int .i64 ghosts1_0, .int .i64 ghosts1_1, .int .i64 ghosts1_2, .int .i64 ghosts1_3, .int .i64 ghosts1_4], .int .i64 all2] Q := rfl
theorem choose_Chooser_Epoch_calls {c0 : Option Addr} {ghosts1_0 : Int} {ghosts1_1 : Int} {ghosts1_2 : Int} {ghosts1_3 : Int} {ghosts1_4 : Int} {all2 : Int} {Q : Value → WP} {w : World} (h : choose_Chooser_Epoch c0 ghosts1_0 ghosts1_1 ghosts1_2 ghosts1_3 ghosts1_4 all2 Q w) : Calls Try.prog id_choose_Chooser_Epoch #[.pointer c0, .agg #[.int .i64 ghosts1_0, .int .i64 ghosts1_1, .int .i64 ghosts1_2, .int .i64 ghosts1_3, .int .i64 ghosts1_4], .int .i64 all2] w fun e w' => ∃ v, e = .returned v ∧ Q v w' :=
  funJ_calls mixed Try.func10 rfl h

-- (*hoard/choose.Chooser).Current
def choose_Chooser_Current_kp : KP := ⟨[], []⟩
def choose_Chooser_Current (c0 : Option Addr) (Q : Value → WP) : WP := funJ idJ Try.prog choose_Chooser_Current_kp Try.f11 [.pointer c0] Q
theorem choose_Chooser_Current_raw (jn : Jn) (c0 : Option Addr) (Q : Value → WP) : funJ jn Try.prog choose_Chooser_Current_kp Try.f11 [.pointer c0] Q = (
  ite2 (Option.isNone c0) (
  Q (.int .i64 (0 : Int))) (
  nilck c0 fun b_1 o_2 =>
  ld (.int .i64) b_1 o_2 fun (x_3 : Int) =>
  Q (.int .i64 x_3))) := by kernel_rfl
theorem choose_Chooser_Current_def (c0 : Option Addr) (Q : Value → WP) : choose_Chooser_Current c0 Q = funJ idJ Try.prog choose_Chooser_Current_kp Try.f11 [.pointer c0] Q := rfl
theorem choose_Chooser_Current_calls {c0 : Option Addr} {Q : Value → WP} {w : World} (h : choose_Chooser_Current c0 Q w) : Calls Try.prog id_choose_Chooser_Current #[.pointer c0] w fun e w' => ∃ v, e = .returned v ∧ Q v w' :=
  funJ_calls mixed Try.func11 rfl h

-- hoard/hoardlaw20.known
def hoardlaw20_known_kp : KP := ⟨[(10, [1])], []⟩
def hoardlaw20_known_j1 (jn : Jn) (Q : Value → WP)  (c1 : Option Addr) : WP := jn 10 (fun ρ => codeI Try.prog hoardlaw20_known_kp jn (cAt [true, true, true] (bodyOf Try.f12)) (retK Try.prog Try.f12 Q) noX (retK Try.prog Try.f12 Q) ρ) (us 1 ((.pointer c1) :: us 46 []))
def hoardlaw20_known  (Q : Value → WP) : WP := funJ idJ Try.prog hoardlaw20_known_kp Try.f12 [] Q
theorem hoardlaw20_known_j1_raw (jn : Jn) (Q : Value → WP)  (c1 : Option Addr) : codeI Try.prog hoardlaw20_known_kp jn (cAt [true, true, true] (bodyOf Try.f12)) (retK Try.prog Try.f12 Q) noX (retK Try.prog Try.f12 Q) (us 1 ((.pointer c1) :: us 46 [])) = (
  call2 (.int .i64) .bool Try.prog id_choose_Chooser_Epoch [.pointer c1, .agg #[.int .i64 (0 : Int), .int .i64 (0 : Int), .int .i64 (0 : Int), .int .i64 (0 : Int), .int .i64 (0 : Int)], .int .i64 (0 : Int)] fun (x_4 : Int) (x_5 : Bool) =>
  call2 (.int .i64) .bool Try.prog id_choose_Chooser_Epoch [.pointer c1, .agg #[.int .i64 (0 : Int), .int .i64 (0 : Int), .int .i64 (0 : Int), .int .i64 (0 : Int), .int .i64 (0 : Int)], .int .i64 (0 : Int)] fun (x_6 : Int) (x_7 : Bool) =>
  ite2 (x_4 == (0 : Int)) (
  ite2 (!x_5) (
  ite2 (x_6 == (0 : Int)) (
  ite2 x_7 (
  call1 (.int .i64) Try.prog id_choose_Chooser_Current [.pointer c1] fun (x_8 : Int) =>
  Q (.bool (x_8 == (0 : Int)))) (
  Q (.bool false))) (
  Q (.bool false))) (
  Q (.bool false))) (
  Q (.bool false))) := by kernel_rfl
theorem hoardlaw20_known_j1_def (Q : Value → WP)  (c1 : Option Addr) : hoardlaw20_known_j1 idJ Q  c1 = codeI Try.prog hoardlaw20_known_kp idJ (cAt [true, true, true] (bodyOf Try.f12)) (retK Try.prog Try.f12 Q) noX (retK Try.prog Try.f12 Q) (us 1 ((.pointer c1) :: us 46 [])) := by kernel_rfl
theorem hoardlaw20_known_raw (jn : Jn)  (Q : Value → WP) : funJ jn Try.prog hoardlaw20_known_kp Try.f12 [] Q = (
  call1 .ptr Try.prog id_tape_New [.slice (none : Option Addr) 0 0] fun (x_1 : Option Addr) =>
  call2 .ptr (.int .i64) Try.prog id_choose_New [.int .i64 (1 : Int), .int .i64 (2 : Int), .pointer x_1] fun (x_2 : Option Addr) (x_3 : Int) =>
  ite2 (x_3 != (0 : Int)) (
  Q (.bool false)) (
  ite2 (Option.isNone x_2) (
  Q (.bool false)) (
  hoardlaw20_known_j1 jn Q  x_2))) := by kernel_rfl
theorem hoardlaw20_known_def  (Q : Value → WP) : hoardlaw20_known  Q = funJ idJ Try.prog hoardlaw20_known_kp Try.f12 [] Q := rfl
theorem hoardlaw20_known_calls {Q : Value → WP} {w : World} (h : hoardlaw20_known Q w) : Calls Try.prog id_hoardlaw20_known #[] w fun e w' => ∃ v, e = .returned v ∧ Q v w' :=
  funJ_calls mixed Try.func12 rfl h

-- (*hoard/choose.Chooser).Streak
def choose_Chooser_Streak_kp : KP := ⟨[], [(3, [0, 1, 2, 3, 4, 5, 6, 8, 9])]⟩
def choose_Chooser_Streak (c0 : Option Addr) (Q : Value → WP) : WP := funJ idJ Try.prog choose_Chooser_Streak_kp Try.f13 [.pointer c0] Q
theorem choose_Chooser_Streak_raw (jn : Jn) (c0 : Option Addr) (Q : Value → WP) : funJ jn Try.prog choose_Chooser_Streak_kp Try.f13 [.pointer c0] Q = (
  ite2 (Option.isNone c0) (
  Q (.tuple #[.int .i64 (0 : Int), .int .i64 (0 : Int)])) (
  drawW fun S =>
  nilck c0 fun b_1 o_2 =>
  ldS S (.int .i64) b_1 (o_2 + 8) fun (x_3 : Int) =>
  nilck c0 fun b_4 o_5 =>
  ld (.int .i64) b_4 (o_5 + 9) fun (x_6 : Int) =>
  keepS true S <|
  Q (.tuple #[.int .i64 x_3, .int .i64 x_6]))) := by kernel_rfl
theorem choose_Chooser_Streak_def (c0 : Option Addr) (Q : Value → WP) : choose_Chooser_Streak c0 Q = funJ idJ Try.prog choose_Chooser_Streak_kp Try.f13 [.pointer c0] Q := rfl
theorem choose_Chooser_Streak_calls {c0 : Option Addr} {Q : Value → WP} {w : World} (h : choose_Chooser_Streak c0 Q w) : Calls Try.prog id_choose_Chooser_Streak #[.pointer c0] w fun e w' => ∃ v, e = .returned v ∧ Q v w' :=
  funJ_calls mixed Try.func13 rfl h

-- (*hoard/choose.Chooser).Force
def choose_Chooser_Force_kp : KP := ⟨[], []⟩
def choose_Chooser_Force (c0 : Option Addr) (kind1 : Int) (Q : Value → WP) : WP := funJ idJ Try.prog choose_Chooser_Force_kp Try.f14 [.pointer c0, .int .i64 kind1] Q
theorem choose_Chooser_Force_raw (jn : Jn) (c0 : Option Addr) (kind1 : Int) (Q : Value → WP) : funJ jn Try.prog choose_Chooser_Force_kp Try.f14 [.pointer c0, .int .i64 kind1] Q = (
  ite2 (Option.isNone c0) (
  Q (.int .i64 (1 : Int))) (
  call1 .bool Try.prog id_choose_isKind [.int .i64 kind1] fun (x_1 : Bool) =>
  ite2 (!x_1) (
  Q (.int .i64 (4 : Int))) (
  nilck c0 fun b_2 o_3 =>
  st b_2 o_3 (.int .i64 kind1) <|
  nilck c0 fun b_4 o_5 =>
  st b_4 (o_5 + 8) (.int .i64 kind1) <|
  nilck c0 fun b_6 o_7 =>
  st b_6 (o_7 + 9) (.int .i64 (0 : Int)) <|
  Q (.int .i64 (0 : Int))))) := by kernel_rfl
theorem choose_Chooser_Force_def (c0 : Option Addr) (kind1 : Int) (Q : Value → WP) : choose_Chooser_Force c0 kind1 Q = funJ idJ Try.prog choose_Chooser_Force_kp Try.f14 [.pointer c0, .int .i64 kind1] Q := rfl
theorem choose_Chooser_Force_calls {c0 : Option Addr} {kind1 : Int} {Q : Value → WP} {w : World} (h : choose_Chooser_Force c0 kind1 Q w) : Calls Try.prog id_choose_Chooser_Force #[.pointer c0, .int .i64 kind1] w fun e w' => ∃ v, e = .returned v ∧ Q v w' :=
  funJ_calls mixed Try.func14 rfl h

-- hoard/hoardref20.New
def hoardref20_New_kp : KP := ⟨[(6, [0, 1, 2, 8]), (12, [0, 1, 2])], []⟩
def hoardref20_New_j2 (jn : Jn) (Q : Value → WP)  (kind0 : Int) (hold1 : Int) (t2 : Option Addr) : WP := jn 12 (fun ρ => codeI Try.prog hoardref20_New_kp jn (cAt [true, true] (bodyOf Try.f15)) (retK Try.prog Try.f15 Q) noX (retK Try.prog Try.f15 Q) ρ) ((.int .i64 kind0) :: (.int .i64 hold1) :: (.pointer t2) :: us 26 [])
def hoardref20_New_j1 (jn : Jn) (Q : Value → WP)  (kind0 : Int) (hold1 : Int) (t2 : Option Addr) (t8 : Bool) : WP := jn 6 (fun ρ => codeI Try.prog hoardref20_New_kp jn (cAt [true, false, false, true] (bodyOf Try.f15)) (seqK Try.prog hoardref20_New_kp jn (cAt [true, true] (bodyOf Try.f15)) (retK Try.prog Try.f15 Q) noX (retK Try.prog Try.f15 Q)) (blkX 0 (seqK Try.prog hoardref20_New_kp jn (cAt [true, true] (bodyOf Try.f15)) (retK Try.prog Try.f15 Q) noX (retK Try.prog Try.f15 Q)) noX) (retK Try.prog Try.f15 Q) ρ) ((.int .i64 kind0) :: (.int .i64 hold1) :: (.pointer t2) :: us 5 ((.bool t8) :: us 20 []))
def hoardref20_New (kind0 : Int) (hold1 : Int) (t2 : Option Addr) (Q : Value → WP) : WP := funJ idJ Try.prog hoardref20_New_kp Try.f15 [.int .i64 kind0, .int .i64 hold1, .pointer t2] Q
theorem hoardref20_New_j2_raw (jn : Jn) (Q : Value → WP)  (kind0 : Int) (hold1 : Int) (t2 : Option Addr) : codeI Try.prog hoardref20_New_kp jn (cAt [true, true] (bodyOf Try.f15)) (retK Try.prog Try.f15 Q) noX (retK Try.prog Try.f15 Q) ((.int .i64 kind0) :: (.int .i64 hold1) :: (.pointer t2) :: us 26 []) = (
  fun w => Calls Try.prog id_hoardref19_Start #[] w fun e w' => ∃ x_1 : Int, ∃ x_2 : Int, ∃ x_3 : Int, ∃ x_4 : Int, ∃ x_5 : Int, e = .returned (.agg #[.int .u64 x_1, .int .u64 x_2, .int .u64 x_3, .int .u64 x_4, .int .u64 x_5]) ∧ (
  newB [.int .i64 kind0, .int .u64 x_1, .int .u64 x_2, .int .u64 x_3, .int .u64 x_4, .int .u64 x_5, .int .i64 kind0, .int .i64 (0 : Int), .int .i64 hold1, .pointer t2] ty_hoardref20_Chooser fun b_6 =>
  Q (.tuple #[.pointer (some ⟨b_6, 0, none⟩), .int .i64 (0 : Int)])) w') := by kernel_rfl
theorem hoardref20_New_j2_def (Q : Value → WP)  (kind0 : Int) (hold1 : Int) (t2 : Option Addr) : hoardref20_New_j2 idJ Q  kind0 hold1 t2 = codeI Try.prog hoardref20_New_kp idJ (cAt [true, true] (bodyOf Try.f15)) (retK Try.prog Try.f15 Q) noX (retK Try.prog Try.f15 Q) ((.int .i64 kind0) :: (.int .i64 hold1) :: (.pointer t2) :: us 26 []) := by kernel_rfl
theorem hoardref20_New_j1_raw (jn : Jn) (Q : Value → WP)  (kind0 : Int) (hold1 : Int) (t2 : Option Addr) (t8 : Bool) : codeI Try.prog hoardref20_New_kp jn (cAt [true, false, false, true] (bodyOf Try.f15)) (seqK Try.prog hoardref20_New_kp jn (cAt [true, true] (bodyOf Try.f15)) (retK Try.prog Try.f15 Q) noX (retK Try.prog Try.f15 Q)) (blkX 0 (seqK Try.prog hoardref20_New_kp jn (cAt [true, true] (bodyOf Try.f15)) (retK Try.prog Try.f15 Q) noX (retK Try.prog Try.f15 Q)) noX) (retK Try.prog Try.f15 Q) ((.int .i64 kind0) :: (.int .i64 hold1) :: (.pointer t2) :: us 5 ((.bool t8) :: us 20 [])) = (
  ite2 t8 (
  Q (.tuple #[.pointer (none : Option Addr), .int .i64 (4 : Int)])) (
  ite2 (decide (hold1 < (1 : Int))) (
  Q (.tuple #[.pointer (none : Option Addr), .int .i64 (1 : Int)])) (
  ite2 (decide (hold1 > (256 : Int))) (
  Q (.tuple #[.pointer (none : Option Addr), .int .i64 (1 : Int)])) (
  hoardref20_New_j2 jn Q  kind0 hold1 t2)))) := by kernel_rfl
theorem hoardref20_New_j1_def (Q : Value → WP)  (kind0 : Int) (hold1 : Int) (t2 : Option Addr) (t8 : Bool) : hoardref20_New_j1 idJ Q  kind0 hold1 t2 t8 = codeI Try.prog hoardref20_New_kp idJ (cAt [true, false, false, true] (bodyOf Try.f15)) (seqK Try.prog hoardref20_New_kp idJ (cAt [true, true] (bodyOf Try.f15)) (retK Try.prog Try.f15 Q) noX (retK Try.prog Try.f15 Q)) (blkX 0 (seqK Try.prog hoardref20_New_kp idJ (cAt [true, true] (bodyOf Try.f15)) (retK Try.prog Try.f15 Q) noX (retK Try.prog Try.f15 Q)) noX) (retK Try.prog Try.f15 Q) ((.int .i64 kind0) :: (.int .i64 hold1) :: (.pointer t2) :: us 5 ((.bool t8) :: us 20 [])) := by kernel_rfl
theorem hoardref20_New_raw (jn : Jn) (kind0 : Int) (hold1 : Int) (t2 : Option Addr) (Q : Value → WP) : funJ jn Try.prog hoardref20_New_kp Try.f15 [.int .i64 kind0, .int .i64 hold1, .pointer t2] Q = (
  ite2 (decide (kind0 < (0 : Int))) (
  hoardref20_New_j1 jn Q  kind0 hold1 t2 true) (
  hoardref20_New_j1 jn Q  kind0 hold1 t2 (decide (kind0 ≥ (5 : Int))))) := by kernel_rfl
theorem hoardref20_New_def (kind0 : Int) (hold1 : Int) (t2 : Option Addr) (Q : Value → WP) : hoardref20_New kind0 hold1 t2 Q = funJ idJ Try.prog hoardref20_New_kp Try.f15 [.int .i64 kind0, .int .i64 hold1, .pointer t2] Q := rfl
theorem hoardref20_New_calls {kind0 : Int} {hold1 : Int} {t2 : Option Addr} {Q : Value → WP} {w : World} (h : hoardref20_New kind0 hold1 t2 Q w) : Calls Try.prog id_hoardref20_New #[.int .i64 kind0, .int .i64 hold1, .pointer t2] w fun e w' => ∃ v, e = .returned v ∧ Q v w' :=
  funJ_calls mixed Try.func15 rfl h

-- (*hoard/hoardref20.Chooser).Force
def hoardref20_Chooser_Force_kp : KP := ⟨[(8, [0, 1])], []⟩
def hoardref20_Chooser_Force_j1 (jn : Jn) (Q : Value → WP)  (c0 : Option Addr) (kind1 : Int) : WP := jn 8 (fun ρ => codeI Try.prog hoardref20_Chooser_Force_kp jn (cAt [true, true] (bodyOf Try.f16)) (retK Try.prog Try.f16 Q) noX (retK Try.prog Try.f16 Q) ρ) ((.pointer c0) :: (.int .i64 kind1) :: us 20 [])
def hoardref20_Chooser_Force (c0 : Option Addr) (kind1 : Int) (Q : Value → WP) : WP := funJ idJ Try.prog hoardref20_Chooser_Force_kp Try.f16 [.pointer c0, .int .i64 kind1] Q
theorem hoardref20_Chooser_Force_j1_raw (jn : Jn) (Q : Value → WP)  (c0 : Option Addr) (kind1 : Int) : codeI Try.prog hoardref20_Chooser_Force_kp jn (cAt [true, true] (bodyOf Try.f16)) (retK Try.prog Try.f16 Q) noX (retK Try.prog Try.f16 Q) ((.pointer c0) :: (.int .i64 kind1) :: us 20 []) = (
  nilck c0 fun b_1 o_2 =>
  st b_1 o_2 (.int .i64 kind1) <|
  nilck c0 fun b_3 o_4 =>
  st b_3 (o_4 + 6) (.int .i64 kind1) <|
  nilck c0 fun b_5 o_6 =>
  st b_5 (o_6 + 7) (.int .i64 (0 : Int)) <|
  Q (.int .i64 (0 : Int))) := by kernel_rfl
theorem hoardref20_Chooser_Force_j1_def (Q : Value → WP)  (c0 : Option Addr) (kind1 : Int) : hoardref20_Chooser_Force_j1 idJ Q  c0 kind1 = codeI Try.prog hoardref20_Chooser_Force_kp idJ (cAt [true, true] (bodyOf Try.f16)) (retK Try.prog Try.f16 Q) noX (retK Try.prog Try.f16 Q) ((.pointer c0) :: (.int .i64 kind1) :: us 20 []) := by kernel_rfl
theorem hoardref20_Chooser_Force_raw (jn : Jn) (c0 : Option Addr) (kind1 : Int) (Q : Value → WP) : funJ jn Try.prog hoardref20_Chooser_Force_kp Try.f16 [.pointer c0, .int .i64 kind1] Q = (
  ite2 (decide (kind1 < (0 : Int))) (
  Q (.int .i64 (4 : Int))) (
  ite2 (decide (kind1 ≥ (5 : Int))) (
  Q (.int .i64 (4 : Int))) (
  hoardref20_Chooser_Force_j1 jn Q  c0 kind1))) := by kernel_rfl
theorem hoardref20_Chooser_Force_def (c0 : Option Addr) (kind1 : Int) (Q : Value → WP) : hoardref20_Chooser_Force c0 kind1 Q = funJ idJ Try.prog hoardref20_Chooser_Force_kp Try.f16 [.pointer c0, .int .i64 kind1] Q := rfl
theorem hoardref20_Chooser_Force_calls {c0 : Option Addr} {kind1 : Int} {Q : Value → WP} {w : World} (h : hoardref20_Chooser_Force c0 kind1 Q w) : Calls Try.prog id_hoardref20_Chooser_Force #[.pointer c0, .int .i64 kind1] w fun e w' => ∃ v, e = .returned v ∧ Q v w' :=
  funJ_calls mixed Try.func16 rfl h

-- (*hoard/hoardref20.Chooser).Epoch
def hoardref20_Chooser_Epoch_kp : KP := ⟨[(20, [0, 8])], [(1, [0, 1, 2, 3, 4, 6, 8, 9]), (2, [0, 1, 2, 3, 4, 5, 6, 10]), (9, [0, 1, 2, 3, 4, 5, 6, 8])]⟩
def hoardref20_Chooser_Epoch_j1 (jn : Jn) (Q : Value → WP)  (c0 : Option Addr) (k8 : Int) : WP := jn 20 (fun ρ => codeI Try.prog hoardref20_Chooser_Epoch_kp jn (cAt [true, true, true, true] (bodyOf Try.f17)) (retK Try.prog Try.f17 Q) noX (retK Try.prog Try.f17 Q) ρ) ((.pointer c0) :: us 7 ((.int .i64 k8) :: us 74 []))
def hoardref20_Chooser_Epoch (c0 : Option Addr) (ghosts1_0 : Int) (ghosts1_1 : Int) (ghosts1_2 : Int) (ghosts1_3 : Int) (ghosts1_4 : Int) (all2 : Int) (Q : Value → WP) : WP := funJ idJ Try.prog hoardref20_Chooser_Epoch_kp Try.f17 [.pointer c0, .agg #[.int .i64 ghosts1_0, .int .i64 ghosts1_1, .int .i64 ghosts1_2, .int .i64 ghosts1_3, .int .i64 ghosts1_4], .int .i64 all2] Q
theorem hoardref20_Chooser_Epoch_j1_raw (jn : Jn) (Q : Value → WP)  (c0 : Option Addr) (k8 : Int) : codeI Try.prog hoardref20_Chooser_Epoch_kp jn (cAt [true, true, true, true] (bodyOf Try.f17)) (retK Try.prog Try.f17 Q) noX (retK Try.prog Try.f17 Q) ((.pointer c0) :: us 7 ((.int .i64 k8) :: us 74 [])) = (
  drawW fun S =>
  nilck c0 fun b_48 o_49 =>
  ldS S (.int .i64) b_48 (o_49 + 7) fun (x_50 : Int) =>
  nilck c0 fun b_51 o_52 =>
  ld (.int .i64) b_51 (o_52 + 8) fun (x_53 : Int) =>
  keepS true S <|
  ite2 (decide (x_50 < x_53)) (
  Q (.tuple #[.int .i64 k8, .bool false])) (
  nilck c0 fun b_54 o_55 =>
  st b_54 o_55 (.int .i64 k8) <|
  nilck c0 fun b_56 o_57 =>
  st b_56 (o_57 + 7) (.int .i64 (0 : Int)) <|
  Q (.tuple #[.int .i64 k8, .bool true]))) := by kernel_rfl
theorem hoardref20_Chooser_Epoch_j1_def (Q : Value → WP)  (c0 : Option Addr) (k8 : Int) : hoardref20_Chooser_Epoch_j1 idJ Q  c0 k8 = codeI Try.prog hoardref20_Chooser_Epoch_kp idJ (cAt [true, true, true, true] (bodyOf Try.f17)) (retK Try.prog Try.f17 Q) noX (retK Try.prog Try.f17 Q) ((.pointer c0) :: us 7 ((.int .i64 k8) :: us 74 [])) := by kernel_rfl
theorem hoardref20_Chooser_Epoch_raw (jn : Jn) (c0 : Option Addr) (ghosts1_0 : Int) (ghosts1_1 : Int) (ghosts1_2 : Int) (ghosts1_3 : Int) (ghosts1_4 : Int) (all2 : Int) (Q : Value → WP) : funJ jn Try.prog hoardref20_Chooser_Epoch_kp Try.f17 [.pointer c0, .agg #[.int .i64 ghosts1_0, .int .i64 ghosts1_1, .int .i64 ghosts1_2, .int .i64 ghosts1_3, .int .i64 ghosts1_4], .int .i64 all2] Q = (
  newB [.int .i64 ghosts1_0, .int .i64 ghosts1_1, .int .i64 ghosts1_2, .int .i64 ghosts1_3, .int .i64 ghosts1_4] ty_5_int fun b_1 =>
  drawW fun S =>
  nilck c0 fun b_2 o_3 =>
  ldS S (.int .u64) b_2 (o_3 + 1) fun (x_4 : Int) =>
  ldS S (.int .u64) b_2 ((o_3 + 1) + 1) fun (x_5 : Int) =>
  ldS S (.int .u64) b_2 (((o_3 + 1) + 1) + 1) fun (x_6 : Int) =>
  ldS S (.int .u64) b_2 ((((o_3 + 1) + 1) + 1) + 1) fun (x_7 : Int) =>
  ldS S (.int .u64) b_2 (((((o_3 + 1) + 1) + 1) + 1) + 1) fun (x_8 : Int) =>
  ld (.int .i64) b_1 0 fun (x_9 : Int) =>
  ld (.int .i64) b_1 1 fun (x_10 : Int) =>
  ld (.int .i64) b_1 2 fun (x_11 : Int) =>
  ld (.int .i64) b_1 3 fun (x_12 : Int) =>
  ld (.int .i64) b_1 4 fun (x_13 : Int) =>
  keepS true S <|
  fun w => Calls Try.prog id_hoardref19_Next #[.agg #[.int .u64 x_4, .int .u64 x_5, .int .u64 x_6, .int .u64 x_7, .int .u64 x_8], .agg #[.int .i64 x_9, .int .i64 x_10, .int .i64 x_11, .int .i64 x_12, .int .i64 x_13], .int .i64 all2] w fun e w' => ∃ x_14 : Int, ∃ x_15 : Int, ∃ x_16 : Int, ∃ x_17 : Int, ∃ x_18 : Int, e = .returned (.agg #[.int .u64 x_14, .int .u64 x_15, .int .u64 x_16, .int .u64 x_17, .int .u64 x_18]) ∧ (
  nilck c0 fun b_19 o_20 =>
  st b_19 (o_20 + 1) (.int .u64 x_14) <|
  st b_19 ((o_20 + 1) + 1) (.int .u64 x_15) <|
  st b_19 (((o_20 + 1) + 1) + 1) (.int .u64 x_16) <|
  st b_19 ((((o_20 + 1) + 1) + 1) + 1) (.int .u64 x_17) <|
  st b_19 (((((o_20 + 1) + 1) + 1) + 1) + 1) (.int .u64 x_18) <|
  drawW fun S =>
  nilck c0 fun b_21 o_22 =>
  ldS S (.int .u64) b_21 (o_22 + 1) fun (x_23 : Int) =>
  ldS S (.int .u64) b_21 ((o_22 + 1) + 1) fun (x_24 : Int) =>
  ldS S (.int .u64) b_21 (((o_22 + 1) + 1) + 1) fun (x_25 : Int) =>
  ldS S (.int .u64) b_21 ((((o_22 + 1) + 1) + 1) + 1) fun (x_26 : Int) =>
  ldS S (.int .u64) b_21 (((((o_22 + 1) + 1) + 1) + 1) + 1) fun (x_27 : Int) =>
  nilck c0 fun b_28 o_29 =>
  ld .ptr b_28 (o_29 + 9) fun (x_30 : Option Addr) =>
  keepS true S <|
  call1 (.int .u32) Try.prog id_hoardref3_Tape_Next [.pointer x_30] fun (x_31 : Int) =>
  keepS true S <|
  call1 (.int .i64) Try.prog id_hoardref19_Pick [.agg #[.int .u64 x_23, .int .u64 x_24, .int .u64 x_25, .int .u64 x_26, .int .u64 x_27], .int .u32 x_31] fun (x_32 : Int) =>
  nilck c0 fun b_33 o_34 =>
  ld (.int .i64) b_33 o_34 fun (x_35 : Int) =>
  ite2 (x_32 == x_35) (
  nilck c0 fun b_36 o_37 =>
  st b_36 (o_37 + 6) (.int .i64 x_32) <|
  nilck c0 fun b_38 o_39 =>
  st b_38 (o_39 + 7) (.int .i64 (0 : Int)) <|
  Q (.tuple #[.int .i64 x_32, .bool false])) (
  nilck c0 fun b_40 o_41 =>
  ld (.int .i64) b_40 (o_41 + 6) fun (x_42 : Int) =>
  ite2 (x_32 == x_42) (
  nilck c0 fun b_43 o_44 =>
  ld (.int .i64) b_43 (o_44 + 7) fun (x_45 : Int) =>
  nilck c0 fun b_46 o_47 =>
  st b_46 (o_47 + 7) (.int .i64 (IntKind.wrap .i64 (x_45 + (1 : Int)))) <|
  hoardref20_Chooser_Epoch_j1 jn Q  c0 x_32) (
  nilck c0 fun b_58 o_59 =>
  st b_58 (o_59 + 6) (.int .i64 x_32) <|
  nilck c0 fun b_60 o_61 =>
  st b_60 (o_61 + 7) (.int .i64 (1 : Int)) <|
  hoardref20_Chooser_Epoch_j1 jn Q  c0 x_32))) w') := by kernel_rfl
theorem hoardref20_Chooser_Epoch_def (c0 : Option Addr) (ghosts1_0 : Int) (ghosts1_1 : Int) (ghosts1_2 : Int) (ghosts1_3 : Int) (ghosts1_4 : Int) (all2 : Int) (Q : Value → WP) : hoardref20_Chooser_Epoch c0 ghosts1_0 ghosts1_1 ghosts1_2 ghosts1_3 ghosts1_4 all2 Q = funJ idJ Try.prog hoardref20_Chooser_Epoch_kp Try.f17 [.pointer c0, .agg #[.int .i64 ghosts1_0, .int .i64 ghosts1_1, .int .i64 ghosts1_2, .int .i64 ghosts1_3, .int .i64 ghosts1_4], .int .i64 all2] Q := rfl
theorem hoardref20_Chooser_Epoch_calls {c0 : Option Addr} {ghosts1_0 : Int} {ghosts1_1 : Int} {ghosts1_2 : Int} {ghosts1_3 : Int} {ghosts1_4 : Int} {all2 : Int} {Q : Value → WP} {w : World} (h : hoardref20_Chooser_Epoch c0 ghosts1_0 ghosts1_1 ghosts1_2 ghosts1_3 ghosts1_4 all2 Q w) : Calls Try.prog id_hoardref20_Chooser_Epoch #[.pointer c0, .agg #[.int .i64 ghosts1_0, .int .i64 ghosts1_1, .int .i64 ghosts1_2, .int .i64 ghosts1_3, .int .i64 ghosts1_4], .int .i64 all2] w fun e w' => ∃ v, e = .returned v ∧ Q v w' :=
  funJ_calls mixed Try.func17 rfl h

-- (*hoard/choose.Chooser).Weights
def choose_Chooser_Weights_kp : KP := ⟨[], []⟩
def choose_Chooser_Weights (c0 : Option Addr) (Q : Value → WP) : WP := funJ idJ Try.prog choose_Chooser_Weights_kp Try.f18 [.pointer c0] Q
theorem choose_Chooser_Weights_raw (jn : Jn) (c0 : Option Addr) (Q : Value → WP) : funJ jn Try.prog choose_Chooser_Weights_kp Try.f18 [.pointer c0] Q = (
  newB [.int .u64 (0 : Int), .int .u64 (0 : Int), .int .u64 (0 : Int), .int .u64 (0 : Int), .int .u64 (0 : Int)] ty_weigh_Weights fun b_1 =>
  ite2 (Option.isNone c0) (
  st b_1 0 (.int .u64 (0 : Int)) <|
  st b_1 1 (.int .u64 (0 : Int)) <|
  st b_1 2 (.int .u64 (0 : Int)) <|
  st b_1 3 (.int .u64 (0 : Int)) <|
  st b_1 4 (.int .u64 (0 : Int)) <|
  ld (.int .u64) b_1 0 fun (x_2 : Int) =>
  ld (.int .u64) b_1 1 fun (x_3 : Int) =>
  ld (.int .u64) b_1 2 fun (x_4 : Int) =>
  ld (.int .u64) b_1 3 fun (x_5 : Int) =>
  ld (.int .u64) b_1 4 fun (x_6 : Int) =>
  Q (.agg #[.int .u64 x_2, .int .u64 x_3, .int .u64 x_4, .int .u64 x_5, .int .u64 x_6])) (
  nilck c0 fun b_7 o_8 =>
  ld (.int .u64) b_7 (o_8 + 3) fun (x_9 : Int) =>
  ld (.int .u64) b_7 ((o_8 + 3) + 1) fun (x_10 : Int) =>
  ld (.int .u64) b_7 (((o_8 + 3) + 1) + 1) fun (x_11 : Int) =>
  ld (.int .u64) b_7 ((((o_8 + 3) + 1) + 1) + 1) fun (x_12 : Int) =>
  ld (.int .u64) b_7 (((((o_8 + 3) + 1) + 1) + 1) + 1) fun (x_13 : Int) =>
  st b_1 0 (.int .u64 x_9) <|
  st b_1 1 (.int .u64 x_10) <|
  st b_1 2 (.int .u64 x_11) <|
  st b_1 3 (.int .u64 x_12) <|
  st b_1 4 (.int .u64 x_13) <|
  ld (.int .u64) b_1 0 fun (x_14 : Int) =>
  ld (.int .u64) b_1 1 fun (x_15 : Int) =>
  ld (.int .u64) b_1 2 fun (x_16 : Int) =>
  ld (.int .u64) b_1 3 fun (x_17 : Int) =>
  ld (.int .u64) b_1 4 fun (x_18 : Int) =>
  Q (.agg #[.int .u64 x_14, .int .u64 x_15, .int .u64 x_16, .int .u64 x_17, .int .u64 x_18]))) := by kernel_rfl
theorem choose_Chooser_Weights_def (c0 : Option Addr) (Q : Value → WP) : choose_Chooser_Weights c0 Q = funJ idJ Try.prog choose_Chooser_Weights_kp Try.f18 [.pointer c0] Q := rfl
theorem choose_Chooser_Weights_calls {c0 : Option Addr} {Q : Value → WP} {w : World} (h : choose_Chooser_Weights c0 Q w) : Calls Try.prog id_choose_Chooser_Weights #[.pointer c0] w fun e w' => ∃ v, e = .returned v ∧ Q v w' :=
  funJ_calls mixed Try.func18 rfl h

-- (*hoard/tape.Tape).Taken
def tape_Tape_Taken_kp : KP := ⟨[], []⟩
def tape_Tape_Taken (t0 : Option Addr) (Q : Value → WP) : WP := funJ idJ Try.prog tape_Tape_Taken_kp Try.f19 [.pointer t0] Q
theorem tape_Tape_Taken_raw (jn : Jn) (t0 : Option Addr) (Q : Value → WP) : funJ jn Try.prog tape_Tape_Taken_kp Try.f19 [.pointer t0] Q = (
  ite2 (Option.isNone t0) (
  Q (.int .i64 (0 : Int))) (
  nilck t0 fun b_1 o_2 =>
  ld (.int .i64) b_1 (o_2 + 1) fun (x_3 : Int) =>
  Q (.int .i64 x_3))) := by kernel_rfl
theorem tape_Tape_Taken_def (t0 : Option Addr) (Q : Value → WP) : tape_Tape_Taken t0 Q = funJ idJ Try.prog tape_Tape_Taken_kp Try.f19 [.pointer t0] Q := rfl
theorem tape_Tape_Taken_calls {t0 : Option Addr} {Q : Value → WP} {w : World} (h : tape_Tape_Taken t0 Q w) : Calls Try.prog id_tape_Tape_Taken #[.pointer t0] w fun e w' => ∃ v, e = .returned v ∧ Q v w' :=
  funJ_calls mixed Try.func19 rfl h

-- hoard/choose.isKind
def choose_isKind_kp : KP := ⟨[], []⟩
def choose_isKind (kind0 : Int) (Q : Value → WP) : WP := funJ idJ Try.prog choose_isKind_kp Try.f20 [.int .i64 kind0] Q
theorem choose_isKind_raw (jn : Jn) (kind0 : Int) (Q : Value → WP) : funJ jn Try.prog choose_isKind_kp Try.f20 [.int .i64 kind0] Q = (
  ite2 (decide (kind0 ≥ (0 : Int))) (
  Q (.bool (decide (kind0 < (5 : Int))))) (
  Q (.bool false))) := by kernel_rfl
theorem choose_isKind_def (kind0 : Int) (Q : Value → WP) : choose_isKind kind0 Q = funJ idJ Try.prog choose_isKind_kp Try.f20 [.int .i64 kind0] Q := rfl
theorem choose_isKind_calls {kind0 : Int} {Q : Value → WP} {w : World} (h : choose_isKind kind0 Q w) : Calls Try.prog id_choose_isKind #[.int .i64 kind0] w fun e w' => ∃ v, e = .returned v ∧ Q v w' :=
  funJ_calls mixed Try.func20 rfl h

-- hoard/weigh.Start
def weigh_Start_kp : KP := ⟨[(9, [0, 1, 3]), (16, [0, 1])], []⟩
def weigh_Start_j2 (jn : Jn) (Q : Value → WP)  (t0_b : Nat) (t0_o : Nat) (w1_b : Nat) (w1_o : Nat) : WP := jn 16 (fun ρ => codeI Try.prog weigh_Start_kp jn (cAt [true, true, true] (bodyOf Try.f21)) (retK Try.prog Try.f21 Q) noX (retK Try.prog Try.f21 Q) ρ) ((.pointer (some ⟨t0_b, t0_o, none⟩)) :: (.pointer (some ⟨w1_b, w1_o, none⟩)) :: us 9 [])
def weigh_Start_l1 (jn : Jn) (Q : Value → WP)  (m1 : Nat) (t0_b : Nat) (t0_o : Nat) (w1_b : Nat) (w1_o : Nat) (t3 : Int) : WP := lop Try.prog weigh_Start_kp jn (cAt [true, true, false, true, false, false] (bodyOf Try.f21)) (blkX 0 (seqK Try.prog weigh_Start_kp jn (cAt [true, true, true] (bodyOf Try.f21)) (retK Try.prog Try.f21 Q) noX (retK Try.prog Try.f21 Q)) noX) (retK Try.prog Try.f21 Q) m1 ((.pointer (some ⟨t0_b, t0_o, none⟩)) :: (.pointer (some ⟨w1_b, w1_o, none⟩)) :: us 1 ((.int .i64 t3) :: us 7 []))
def weigh_Start  (Q : Value → WP) : WP := funJ idJ Try.prog weigh_Start_kp Try.f21 [] Q
theorem weigh_Start_j2_raw (jn : Jn) (Q : Value → WP)  (t0_b : Nat) (t0_o : Nat) (w1_b : Nat) (w1_o : Nat) : codeI Try.prog weigh_Start_kp jn (cAt [true, true, true] (bodyOf Try.f21)) (retK Try.prog Try.f21 Q) noX (retK Try.prog Try.f21 Q) ((.pointer (some ⟨t0_b, t0_o, none⟩)) :: (.pointer (some ⟨w1_b, w1_o, none⟩)) :: us 9 []) = (
  ld (.int .u64) w1_b w1_o fun (x_3 : Int) =>
  ld (.int .u64) w1_b (w1_o + 1) fun (x_4 : Int) =>
  ld (.int .u64) w1_b ((w1_o + 1) + 1) fun (x_5 : Int) =>
  ld (.int .u64) w1_b (((w1_o + 1) + 1) + 1) fun (x_6 : Int) =>
  ld (.int .u64) w1_b ((((w1_o + 1) + 1) + 1) + 1) fun (x_7 : Int) =>
  fun w => Calls Try.prog id_weigh_even #[.agg #[.int .u64 x_3, .int .u64 x_4, .int .u64 x_5, .int .u64 x_6, .int .u64 x_7]] w fun e w' => ∃ x_8 : Int, ∃ x_9 : Int, ∃ x_10 : Int, ∃ x_11 : Int, ∃ x_12 : Int, e = .returned (.agg #[.int .u64 x_8, .int .u64 x_9, .int .u64 x_10, .int .u64 x_11, .int .u64 x_12]) ∧ (
  st t0_b t0_o (.int .u64 x_8) <|
  st t0_b (t0_o + 1) (.int .u64 x_9) <|
  st t0_b ((t0_o + 1) + 1) (.int .u64 x_10) <|
  st t0_b (((t0_o + 1) + 1) + 1) (.int .u64 x_11) <|
  st t0_b ((((t0_o + 1) + 1) + 1) + 1) (.int .u64 x_12) <|
  ld (.int .u64) t0_b t0_o fun (x_13 : Int) =>
  ld (.int .u64) t0_b (t0_o + 1) fun (x_14 : Int) =>
  ld (.int .u64) t0_b ((t0_o + 1) + 1) fun (x_15 : Int) =>
  ld (.int .u64) t0_b (((t0_o + 1) + 1) + 1) fun (x_16 : Int) =>
  ld (.int .u64) t0_b ((((t0_o + 1) + 1) + 1) + 1) fun (x_17 : Int) =>
  Q (.agg #[.int .u64 x_13, .int .u64 x_14, .int .u64 x_15, .int .u64 x_16, .int .u64 x_17])) w') := by kernel_rfl
theorem weigh_Start_j2_def (Q : Value → WP)  (t0_b : Nat) (t0_o : Nat) (w1_b : Nat) (w1_o : Nat) : weigh_Start_j2 idJ Q  t0_b t0_o w1_b w1_o = codeI Try.prog weigh_Start_kp idJ (cAt [true, true, true] (bodyOf Try.f21)) (retK Try.prog Try.f21 Q) noX (retK Try.prog Try.f21 Q) ((.pointer (some ⟨t0_b, t0_o, none⟩)) :: (.pointer (some ⟨w1_b, w1_o, none⟩)) :: us 9 []) := by kernel_rfl
theorem weigh_Start_l1_raw (jn : Jn) (Q : Value → WP)  (m1 : Nat) (t0_b : Nat) (t0_o : Nat) (w1_b : Nat) (w1_o : Nat) (t3 : Int) : weigh_Start_l1 jn Q  (m1 + 1) t0_b t0_o w1_b w1_o t3 = (
  ite2 (decide (t3 < (5 : Int))) (
  when ((0 : Int) ≤ t3 ∧ t3 < ((5 : Nat) : Int)) <|
  st w1_b (w1_o + (t3).toNat * 1) (.int .u64 (858993459 : Int)) <|
  weigh_Start_l1 jn Q  m1 t0_b t0_o w1_b w1_o (IntKind.wrap .i64 (t3 + (1 : Int)))) (
  weigh_Start_j2 jn Q  t0_b t0_o w1_b w1_o)) := by kernel_rfl
theorem weigh_Start_l1_zero (jn : Jn) (Q : Value → WP)  (t0_b : Nat) (t0_o : Nat) (w1_b : Nat) (w1_o : Nat) (t3 : Int) : weigh_Start_l1 jn Q  0 t0_b t0_o w1_b w1_o t3 = bot := by kernel_rfl
theorem weigh_Start_raw (jn : Jn)  (Q : Value → WP) : funJ jn Try.prog weigh_Start_kp Try.f21 [] Q = (
  newB [.int .u64 (0 : Int), .int .u64 (0 : Int), .int .u64 (0 : Int), .int .u64 (0 : Int), .int .u64 (0 : Int)] ty_weigh_Weights fun b_1 =>
  newB [.int .u64 (0 : Int), .int .u64 (0 : Int), .int .u64 (0 : Int), .int .u64 (0 : Int), .int .u64 (0 : Int)] ty_weigh_Weights fun b_2 =>
  exM fun m => weigh_Start_l1 jn Q  m b_1 0 b_2 0 (0 : Int)) := by kernel_rfl
theorem weigh_Start_def  (Q : Value → WP) : weigh_Start  Q = funJ idJ Try.prog weigh_Start_kp Try.f21 [] Q := rfl
theorem weigh_Start_calls {Q : Value → WP} {w : World} (h : weigh_Start Q w) : Calls Try.prog id_weigh_Start #[] w fun e w' => ∃ v, e = .returned v ∧ Q v w' :=
  funJ_calls mixed Try.func21 rfl h

-- slices.Clone[[]uint32,uint32]
def slices_Clone_s_uint32_uint32_kp : KP := ⟨[], []⟩
def slices_Clone_s_uint32_uint32 (s0 : Sl) (Q : Value → WP) : WP := funJ idJ Try.prog slices_Clone_s_uint32_uint32_kp Try.f22 [.slice s0.a s0.n s0.c] Q
theorem slices_Clone_s_uint32_uint32_raw (jn : Jn) (s0 : Sl) (Q : Value → WP) : funJ jn Try.prog slices_Clone_s_uint32_uint32_kp Try.f22 [.slice s0.a s0.n s0.c] Q = (
  ite2 (Option.isNone s0.a) (
  Q (.slice (none : Option Addr) 0 0)) (
  newB [] ty_uint32 fun b_1 =>
  appendC ty_uint32 1 4 [.int .u32 (0 : Int)] ⟨(some ⟨b_1, 0, none⟩), 0, 0⟩ s0.n (fun w => rdA w s0.a (s0.n * 1)) fun s_2 =>
  Q (.slice s_2.a s_2.n s_2.c))) := by kernel_rfl
theorem slices_Clone_s_uint32_uint32_def (s0 : Sl) (Q : Value → WP) : slices_Clone_s_uint32_uint32 s0 Q = funJ idJ Try.prog slices_Clone_s_uint32_uint32_kp Try.f22 [.slice s0.a s0.n s0.c] Q := rfl
theorem slices_Clone_s_uint32_uint32_calls {s0 : Sl} {Q : Value → WP} {w : World} (h : slices_Clone_s_uint32_uint32 s0 Q w) : Calls Try.prog id_slices_Clone_s_uint32_uint32 #[.slice s0.a s0.n s0.c] w fun e w' => ∃ v, e = .returned v ∧ Q v w' :=
  funJ_calls mixed Try.func22 rfl h

-- hoard/weigh.Next
def weigh_Next_kp : KP := ⟨[(11, [2, 3, 4, 6, 14]), (18, [3, 6]), (23, [3, 6, 8, 32]), (30, [3, 6])], [(6, [0, 1, 2, 3, 4, 5, 7, 11])]⟩
def weigh_Next_j4 (jn : Jn) (Q : Value → WP)  (w3_b : Nat) (w3_o : Nat) (t6_b : Nat) (t6_o : Nat) : WP := jn 30 (fun ρ => codeI Try.prog weigh_Next_kp jn (cAt [true, true, true, true, true] (bodyOf Try.f23)) (retK Try.prog Try.f23 Q) noX (retK Try.prog Try.f23 Q) ρ) (us 3 ((.pointer (some ⟨w3_b, w3_o, none⟩)) :: us 2 ((.pointer (some ⟨t6_b, t6_o, none⟩)) :: us 39 [])))
def weigh_Next_l3 (jn : Jn) (Q : Value → WP)  (m3 : Nat) (w3_b : Nat) (w3_o : Nat) (t6_b : Nat) (t6_o : Nat) (t8 : Int) (t32 : Int) : WP := lop Try.prog weigh_Next_kp jn (cAt [true, true, true, true, false, true, false, false] (bodyOf Try.f23)) (blkX 2 (seqK Try.prog weigh_Next_kp jn (cAt [true, true, true, true, true] (bodyOf Try.f23)) (retK Try.prog Try.f23 Q) noX (retK Try.prog Try.f23 Q)) noX) (retK Try.prog Try.f23 Q) m3 (us 3 ((.pointer (some ⟨w3_b, w3_o, none⟩)) :: us 2 ((.pointer (some ⟨t6_b, t6_o, none⟩)) :: us 1 ((.int .u64 t8) :: us 23 ((.int .i64 t32) :: us 13 [])))))
def weigh_Next_j2 (jn : Jn) (Q : Value → WP)  (w3_b : Nat) (w3_o : Nat) (t6_b : Nat) (t6_o : Nat) : WP := jn 18 (fun ρ => codeI Try.prog weigh_Next_kp jn (cAt [true, true, true] (bodyOf Try.f23)) (retK Try.prog Try.f23 Q) noX (retK Try.prog Try.f23 Q) ρ) (us 3 ((.pointer (some ⟨w3_b, w3_o, none⟩)) :: us 2 ((.pointer (some ⟨t6_b, t6_o, none⟩)) :: us 39 [])))
def weigh_Next_l1 (jn : Jn) (Q : Value → WP)  (m1 : Nat) (all2 : Int) (w3_b : Nat) (w3_o : Nat) (ghosts4_b : Nat) (ghosts4_o : Nat) (t6_b : Nat) (t6_o : Nat) (t14 : Int) : WP := lop Try.prog weigh_Next_kp jn (cAt [true, true, false, true, false, false] (bodyOf Try.f23)) (blkX 0 (seqK Try.prog weigh_Next_kp jn (cAt [true, true, true] (bodyOf Try.f23)) (retK Try.prog Try.f23 Q) noX (retK Try.prog Try.f23 Q)) noX) (retK Try.prog Try.f23 Q) m1 (us 2 ((.int .i64 all2) :: (.pointer (some ⟨w3_b, w3_o, none⟩)) :: (.pointer (some ⟨ghosts4_b, ghosts4_o, none⟩)) :: us 1 ((.pointer (some ⟨t6_b, t6_o, none⟩)) :: us 7 ((.int .i64 t14) :: us 31 []))))
def weigh_Next (w0_0 : Int) (w0_1 : Int) (w0_2 : Int) (w0_3 : Int) (w0_4 : Int) (ghosts1_0 : Int) (ghosts1_1 : Int) (ghosts1_2 : Int) (ghosts1_3 : Int) (ghosts1_4 : Int) (all2 : Int) (Q : Value → WP) : WP := funJ idJ Try.prog weigh_Next_kp Try.f23 [.agg #[.int .u64 w0_0, .int .u64 w0_1, .int .u64 w0_2, .int .u64 w0_3, .int .u64 w0_4], .agg #[.int .i64 ghosts1_0, .int .i64 ghosts1_1, .int .i64 ghosts1_2, .int .i64 ghosts1_3, .int .i64 ghosts1_4], .int .i64 all2] Q
theorem weigh_Next_j4_raw (jn : Jn) (Q : Value → WP)  (w3_b : Nat) (w3_o : Nat) (t6_b : Nat) (t6_o : Nat) : codeI Try.prog weigh_Next_kp jn (cAt [true, true, true, true, true] (bodyOf Try.f23)) (retK Try.prog Try.f23 Q) noX (retK Try.prog Try.f23 Q) (us 3 ((.pointer (some ⟨w3_b, w3_o, none⟩)) :: us 2 ((.pointer (some ⟨t6_b, t6_o, none⟩)) :: us 39 []))) = (
  ld (.int .u64) w3_b w3_o fun (x_33 : Int) =>
  ld (.int .u64) w3_b (w3_o + 1) fun (x_34 : Int) =>
  ld (.int .u64) w3_b ((w3_o + 1) + 1) fun (x_35 : Int) =>
  ld (.int .u64) w3_b (((w3_o + 1) + 1) + 1) fun (x_36 : Int) =>
  ld (.int .u64) w3_b ((((w3_o + 1) + 1) + 1) + 1) fun (x_37 : Int) =>
  fun w => Calls Try.prog id_weigh_even #[.agg #[.int .u64 x_33, .int .u64 x_34, .int .u64 x_35, .int .u64 x_36, .int .u64 x_37]] w fun e w' => ∃ x_38 : Int, ∃ x_39 : Int, ∃ x_40 : Int, ∃ x_41 : Int, ∃ x_42 : Int, e = .returned (.agg #[.int .u64 x_38, .int .u64 x_39, .int .u64 x_40, .int .u64 x_41, .int .u64 x_42]) ∧ (
  st t6_b t6_o (.int .u64 x_38) <|
  st t6_b (t6_o + 1) (.int .u64 x_39) <|
  st t6_b ((t6_o + 1) + 1) (.int .u64 x_40) <|
  st t6_b (((t6_o + 1) + 1) + 1) (.int .u64 x_41) <|
  st t6_b ((((t6_o + 1) + 1) + 1) + 1) (.int .u64 x_42) <|
  ld (.int .u64) t6_b t6_o fun (x_43 : Int) =>
  ld (.int .u64) t6_b (t6_o + 1) fun (x_44 : Int) =>
  ld (.int .u64) t6_b ((t6_o + 1) + 1) fun (x_45 : Int) =>
  ld (.int .u64) t6_b (((t6_o + 1) + 1) + 1) fun (x_46 : Int) =>
  ld (.int .u64) t6_b ((((t6_o + 1) + 1) + 1) + 1) fun (x_47 : Int) =>
  Q (.agg #[.int .u64 x_43, .int .u64 x_44, .int .u64 x_45, .int .u64 x_46, .int .u64 x_47])) w') := by kernel_rfl
theorem weigh_Next_j4_def (Q : Value → WP)  (w3_b : Nat) (w3_o : Nat) (t6_b : Nat) (t6_o : Nat) : weigh_Next_j4 idJ Q  w3_b w3_o t6_b t6_o = codeI Try.prog weigh_Next_kp idJ (cAt [true, true, true, true, true] (bodyOf Try.f23)) (retK Try.prog Try.f23 Q) noX (retK Try.prog Try.f23 Q) (us 3 ((.pointer (some ⟨w3_b, w3_o, none⟩)) :: us 2 ((.pointer (some ⟨t6_b, t6_o, none⟩)) :: us 39 []))) := by kernel_rfl
theorem weigh_Next_l3_raw (jn : Jn) (Q : Value → WP)  (m3 : Nat) (w3_b : Nat) (w3_o : Nat) (t6_b : Nat) (t6_o : Nat) (t8 : Int) (t32 : Int) : weigh_Next_l3 jn Q  (m3 + 1) w3_b w3_o t6_b t6_o t8 t32 = (
  ite2 (decide (t32 < (5 : Int))) (
  when ((0 : Int) ≤ t32 ∧ t32 < ((5 : Nat) : Int)) <|
  ld (.int .u64) w3_b (w3_o + (t32).toNat * 1) fun (x_31 : Int) =>
  call1 (.int .u64) Try.prog id_fix_Scale [.int .u64 x_31, .int .u64 (4294967296 : Int), .int .u64 t8] fun (x_32 : Int) =>
  when ((0 : Int) ≤ t32 ∧ t32 < ((5 : Nat) : Int)) <|
  st w3_b (w3_o + (t32).toNat * 1) (.int .u64 (if x_32 > (42949672 : Int) then x_32 else (42949672 : Int))) <|
  weigh_Next_l3 jn Q  m3 w3_b w3_o t6_b t6_o t8 (IntKind.wrap .i64 (t32 + (1 : Int)))) (
  weigh_Next_j4 jn Q  w3_b w3_o t6_b t6_o)) := by kernel_rfl
theorem weigh_Next_l3_zero (jn : Jn) (Q : Value → WP)  (w3_b : Nat) (w3_o : Nat) (t6_b : Nat) (t6_o : Nat) (t8 : Int) (t32 : Int) : weigh_Next_l3 jn Q  0 w3_b w3_o t6_b t6_o t8 t32 = bot := by kernel_rfl
theorem weigh_Next_j2_raw (jn : Jn) (Q : Value → WP)  (w3_b : Nat) (w3_o : Nat) (t6_b : Nat) (t6_o : Nat) : codeI Try.prog weigh_Next_kp jn (cAt [true, true, true] (bodyOf Try.f23)) (retK Try.prog Try.f23 Q) noX (retK Try.prog Try.f23 Q) (us 3 ((.pointer (some ⟨w3_b, w3_o, none⟩)) :: us 2 ((.pointer (some ⟨t6_b, t6_o, none⟩)) :: us 39 []))) = (
  ld (.int .u64) w3_b w3_o fun (x_25 : Int) =>
  ld (.int .u64) w3_b (w3_o + 1) fun (x_26 : Int) =>
  ld (.int .u64) w3_b ((w3_o + 1) + 1) fun (x_27 : Int) =>
  ld (.int .u64) w3_b (((w3_o + 1) + 1) + 1) fun (x_28 : Int) =>
  ld (.int .u64) w3_b ((((w3_o + 1) + 1) + 1) + 1) fun (x_29 : Int) =>
  call1 (.int .u64) Try.prog id_weigh_Sum [.agg #[.int .u64 x_25, .int .u64 x_26, .int .u64 x_27, .int .u64 x_28, .int .u64 x_29]] fun (x_30 : Int) =>
  exM fun m => weigh_Next_l3 jn Q  m w3_b w3_o t6_b t6_o x_30 (0 : Int)) := by kernel_rfl
theorem weigh_Next_j2_def (Q : Value → WP)  (w3_b : Nat) (w3_o : Nat) (t6_b : Nat) (t6_o : Nat) : weigh_Next_j2 idJ Q  w3_b w3_o t6_b t6_o = codeI Try.prog weigh_Next_kp idJ (cAt [true, true, true] (bodyOf Try.f23)) (retK Try.prog Try.f23 Q) noX (retK Try.prog Try.f23 Q) (us 3 ((.pointer (some ⟨w3_b, w3_o, none⟩)) :: us 2 ((.pointer (some ⟨t6_b, t6_o, none⟩)) :: us 39 []))) := by kernel_rfl
theorem weigh_Next_l1_raw (jn : Jn) (Q : Value → WP)  (m1 : Nat) (all2 : Int) (w3_b : Nat) (w3_o : Nat) (ghosts4_b : Nat) (ghosts4_o : Nat) (t6_b : Nat) (t6_o : Nat) (t14 : Int) : weigh_Next_l1 jn Q  (m1 + 1) all2 w3_b w3_o ghosts4_b ghosts4_o t6_b t6_o t14 = (
  ite2 (decide (t14 < (5 : Int))) (
  drawW fun S =>
  when ((0 : Int) ≤ t14 ∧ t14 < ((5 : Nat) : Int)) <|
  ldS S (.int .u64) w3_b (w3_o + (t14).toNat * 1) fun (x_20 : Int) =>
  when ((0 : Int) ≤ t14 ∧ t14 < ((5 : Nat) : Int)) <|
  ld (.int .i64) ghosts4_b (ghosts4_o + (t14).toNat * 1) fun (x_21 : Int) =>
  keepS true S <|
  call1 (.int .i64) Try.prog id_weigh_penalty [.int .i64 x_21, .int .i64 all2] fun (x_22 : Int) =>
  keepS true S <|
  call1 (.int .u64) Try.prog id_weigh_Keep [.int .i64 x_22] fun (x_23 : Int) =>
  keepS true S <|
  call1 (.int .u64) Try.prog id_fix_Mul [.int .u64 x_20, .int .u64 x_23] fun (x_24 : Int) =>
  when ((0 : Int) ≤ t14 ∧ t14 < ((5 : Nat) : Int)) <|
  st w3_b (w3_o + (t14).toNat * 1) (.int .u64 x_24) <|
  weigh_Next_l1 jn Q  m1 all2 w3_b w3_o ghosts4_b ghosts4_o t6_b t6_o (IntKind.wrap .i64 (t14 + (1 : Int)))) (
  weigh_Next_j2 jn Q  w3_b w3_o t6_b t6_o)) := by kernel_rfl
theorem weigh_Next_l1_zero (jn : Jn) (Q : Value → WP)  (all2 : Int) (w3_b : Nat) (w3_o : Nat) (ghosts4_b : Nat) (ghosts4_o : Nat) (t6_b : Nat) (t6_o : Nat) (t14 : Int) : weigh_Next_l1 jn Q  0 all2 w3_b w3_o ghosts4_b ghosts4_o t6_b t6_o t14 = bot := by kernel_rfl
theorem weigh_Next_raw (jn : Jn) (w0_0 : Int) (w0_1 : Int) (w0_2 : Int) (w0_3 : Int) (w0_4 : Int) (ghosts1_0 : Int) (ghosts1_1 : Int) (ghosts1_2 : Int) (ghosts1_3 : Int) (ghosts1_4 : Int) (all2 : Int) (Q : Value → WP) : funJ jn Try.prog weigh_Next_kp Try.f23 [.agg #[.int .u64 w0_0, .int .u64 w0_1, .int .u64 w0_2, .int .u64 w0_3, .int .u64 w0_4], .agg #[.int .i64 ghosts1_0, .int .i64 ghosts1_1, .int .i64 ghosts1_2, .int .i64 ghosts1_3, .int .i64 ghosts1_4], .int .i64 all2] Q = (
  newB [.int .u64 w0_0, .int .u64 w0_1, .int .u64 w0_2, .int .u64 w0_3, .int .u64 w0_4] ty_weigh_Weights fun b_1 =>
  newB [.int .i64 ghosts1_0, .int .i64 ghosts1_1, .int .i64 ghosts1_2, .int .i64 ghosts1_3, .int .i64 ghosts1_4] ty_5_int fun b_2 =>
  newB [.int .u64 (0 : Int), .int .u64 (0 : Int), .int .u64 (0 : Int), .int .u64 (0 : Int), .int .u64 (0 : Int)] ty_weigh_Weights fun b_3 =>
  ld (.int .u64) b_1 0 fun (x_4 : Int) =>
  ld (.int .u64) b_1 1 fun (x_5 : Int) =>
  ld (.int .u64) b_1 2 fun (x_6 : Int) =>
  ld (.int .u64) b_1 3 fun (x_7 : Int) =>
  ld (.int .u64) b_1 4 fun (x_8 : Int) =>
  call1 .bool Try.prog id_weigh_Is [.agg #[.int .u64 x_4, .int .u64 x_5, .int .u64 x_6, .int .u64 x_7, .int .u64 x_8]] fun (x_9 : Bool) =>
  ite2 (!x_9) (
  fun w => Calls Try.prog id_weigh_Start #[] w fun e w' => ∃ x_10 : Int, ∃ x_11 : Int, ∃ x_12 : Int, ∃ x_13 : Int, ∃ x_14 : Int, e = .returned (.agg #[.int .u64 x_10, .int .u64 x_11, .int .u64 x_12, .int .u64 x_13, .int .u64 x_14]) ∧ (
  st b_3 0 (.int .u64 x_10) <|
  st b_3 1 (.int .u64 x_11) <|
  st b_3 2 (.int .u64 x_12) <|
  st b_3 3 (.int .u64 x_13) <|
  st b_3 4 (.int .u64 x_14) <|
  ld (.int .u64) b_3 0 fun (x_15 : Int) =>
  ld (.int .u64) b_3 1 fun (x_16 : Int) =>
  ld (.int .u64) b_3 2 fun (x_17 : Int) =>
  ld (.int .u64) b_3 3 fun (x_18 : Int) =>
  ld (.int .u64) b_3 4 fun (x_19 : Int) =>
  Q (.agg #[.int .u64 x_15, .int .u64 x_16, .int .u64 x_17, .int .u64 x_18, .int .u64 x_19])) w') (
  exM fun m => weigh_Next_l1 jn Q  m all2 b_1 0 b_2 0 b_3 0 (0 : Int))) := by kernel_rfl
theorem weigh_Next_def (w0_0 : Int) (w0_1 : Int) (w0_2 : Int) (w0_3 : Int) (w0_4 : Int) (ghosts1_0 : Int) (ghosts1_1 : Int) (ghosts1_2 : Int) (ghosts1_3 : Int) (ghosts1_4 : Int) (all2 : Int) (Q : Value → WP) : weigh_Next w0_0 w0_1 w0_2 w0_3 w0_4 ghosts1_0 ghosts1_1 ghosts1_2 ghosts1_3 ghosts1_4 all2 Q = funJ idJ Try.prog weigh_Next_kp Try.f23 [.agg #[.int .u64 w0_0, .int .u64 w0_1, .int .u64 w0_2, .int .u64 w0_3, .int .u64 w0_4], .agg #[.int .i64 ghosts1_0, .int .i64 ghosts1_1, .int .i64 ghosts1_2, .int .i64 ghosts1_3, .int .i64 ghosts1_4], .int .i64 all2] Q := rfl
theorem weigh_Next_calls {w0_0 : Int} {w0_1 : Int} {w0_2 : Int} {w0_3 : Int} {w0_4 : Int} {ghosts1_0 : Int} {ghosts1_1 : Int} {ghosts1_2 : Int} {ghosts1_3 : Int} {ghosts1_4 : Int} {all2 : Int} {Q : Value → WP} {w : World} (h : weigh_Next w0_0 w0_1 w0_2 w0_3 w0_4 ghosts1_0 ghosts1_1 ghosts1_2 ghosts1_3 ghosts1_4 all2 Q w) : Calls Try.prog id_weigh_Next #[.agg #[.int .u64 w0_0, .int .u64 w0_1, .int .u64 w0_2, .int .u64 w0_3, .int .u64 w0_4], .agg #[.int .i64 ghosts1_0, .int .i64 ghosts1_1, .int .i64 ghosts1_2, .int .i64 ghosts1_3, .int .i64 ghosts1_4], .int .i64 all2] w fun e w' => ∃ v, e = .returned v ∧ Q v w' :=
  funJ_calls mixed Try.func23 rfl h

-- hoard/weigh.Pick
def weigh_Pick_kp : KP := ⟨[(9, [1, 5, 8, 9]), (20, [])], []⟩
def weigh_Pick_j2 (jn : Jn) (Q : Value → WP)   : WP := jn 20 (fun ρ => codeI Try.prog weigh_Pick_kp jn (cAt [true, true, true] (bodyOf Try.f24)) (retK Try.prog Try.f24 Q) noX (retK Try.prog Try.f24 Q) ρ) (us 22 [])
def weigh_Pick_l1 (jn : Jn) (Q : Value → WP)  (m1 : Nat) (draw1 : Int) (sum5 : Int) (t8_0 : Int) (t8_1 : Int) (t8_2 : Int) (t8_3 : Int) (t8_4 : Int) (t9 : Int) : WP := lop Try.prog weigh_Pick_kp jn (cAt [true, true, false, true, false, false] (bodyOf Try.f24)) (blkX 0 (seqK Try.prog weigh_Pick_kp jn (cAt [true, true, true] (bodyOf Try.f24)) (retK Try.prog Try.f24 Q) noX (retK Try.prog Try.f24 Q)) noX) (retK Try.prog Try.f24 Q) m1 (us 1 ((.int .u32 draw1) :: us 3 ((.int .u64 sum5) :: us 2 ((.agg #[.int .u64 t8_0, .int .u64 t8_1, .int .u64 t8_2, .int .u64 t8_3, .int .u64 t8_4]) :: (.int .i64 t9) :: us 12 []))))
def weigh_Pick (w0_0 : Int) (w0_1 : Int) (w0_2 : Int) (w0_3 : Int) (w0_4 : Int) (draw1 : Int) (Q : Value → WP) : WP := funJ idJ Try.prog weigh_Pick_kp Try.f24 [.agg #[.int .u64 w0_0, .int .u64 w0_1, .int .u64 w0_2, .int .u64 w0_3, .int .u64 w0_4], .int .u32 draw1] Q
theorem weigh_Pick_j2_raw (jn : Jn) (Q : Value → WP)   : codeI Try.prog weigh_Pick_kp jn (cAt [true, true, true] (bodyOf Try.f24)) (retK Try.prog Try.f24 Q) noX (retK Try.prog Try.f24 Q) (us 22 []) = (
  Q (.int .i64 (4 : Int))) := by kernel_rfl
theorem weigh_Pick_j2_def (Q : Value → WP)   : weigh_Pick_j2 idJ Q   = codeI Try.prog weigh_Pick_kp idJ (cAt [true, true, true] (bodyOf Try.f24)) (retK Try.prog Try.f24 Q) noX (retK Try.prog Try.f24 Q) (us 22 []) := by kernel_rfl
theorem weigh_Pick_l1_raw (jn : Jn) (Q : Value → WP)  (m1 : Nat) (draw1 : Int) (sum5 : Int) (t8_0 : Int) (t8_1 : Int) (t8_2 : Int) (t8_3 : Int) (t8_4 : Int) (t9 : Int) : weigh_Pick_l1 jn Q  (m1 + 1) draw1 sum5 t8_0 t8_1 t8_2 t8_3 t8_4 t9 = (
  ite2 (decide (t9 < (5 : Int))) (
  when ((0 : Int) ≤ t9 ∧ t9 < ((5 : Nat) : Int)) <|
  fun w => ∃ x_7 : Int, ([.int .u64 t8_0, .int .u64 t8_1, .int .u64 t8_2, .int .u64 t8_3, .int .u64 t8_4] : List Value)[(t9).toNat]? = some (.int .u64 x_7) ∧ isU (.int .u64 x_7) = false ∧ (
  ite2 (decide ((IntKind.wrap .u64 (sum5 + x_7)) > (IntKind.wrap .u64 draw1))) (
  Q (.int .i64 t9)) (
  weigh_Pick_l1 jn Q  m1 draw1 (IntKind.wrap .u64 (sum5 + x_7)) t8_0 t8_1 t8_2 t8_3 t8_4 (IntKind.wrap .i64 (t9 + (1 : Int))))) w) (
  weigh_Pick_j2 jn Q  )) := by kernel_rfl
theorem weigh_Pick_l1_zero (jn : Jn) (Q : Value → WP)  (draw1 : Int) (sum5 : Int) (t8_0 : Int) (t8_1 : Int) (t8_2 : Int) (t8_3 : Int) (t8_4 : Int) (t9 : Int) : weigh_Pick_l1 jn Q  0 draw1 sum5 t8_0 t8_1 t8_2 t8_3 t8_4 t9 = bot := by kernel_rfl
theorem weigh_Pick_raw (jn : Jn) (w0_0 : Int) (w0_1 : Int) (w0_2 : Int) (w0_3 : Int) (w0_4 : Int) (draw1 : Int) (Q : Value → WP) : funJ jn Try.prog weigh_Pick_kp Try.f24 [.agg #[.int .u64 w0_0, .int .u64 w0_1, .int .u64 w0_2, .int .u64 w0_3, .int .u64 w0_4], .int .u32 draw1] Q = (
  newB [.int .u64 w0_0, .int .u64 w0_1, .int .u64 w0_2, .int .u64 w0_3, .int .u64 w0_4] ty_weigh_Weights fun b_1 =>
  ld (.int .u64) b_1 0 fun (x_2 : Int) =>
  ld (.int .u64) b_1 1 fun (x_3 : Int) =>
  ld (.int .u64) b_1 2 fun (x_4 : Int) =>
  ld (.int .u64) b_1 3 fun (x_5 : Int) =>
  ld (.int .u64) b_1 4 fun (x_6 : Int) =>
  exM fun m => weigh_Pick_l1 jn Q  m draw1 (0 : Int) x_2 x_3 x_4 x_5 x_6 (0 : Int)) := by kernel_rfl
theorem weigh_Pick_def (w0_0 : Int) (w0_1 : Int) (w0_2 : Int) (w0_3 : Int) (w0_4 : Int) (draw1 : Int) (Q : Value → WP) : weigh_Pick w0_0 w0_1 w0_2 w0_3 w0_4 draw1 Q = funJ idJ Try.prog weigh_Pick_kp Try.f24 [.agg #[.int .u64 w0_0, .int .u64 w0_1, .int .u64 w0_2, .int .u64 w0_3, .int .u64 w0_4], .int .u32 draw1] Q := rfl
theorem weigh_Pick_calls {w0_0 : Int} {w0_1 : Int} {w0_2 : Int} {w0_3 : Int} {w0_4 : Int} {draw1 : Int} {Q : Value → WP} {w : World} (h : weigh_Pick w0_0 w0_1 w0_2 w0_3 w0_4 draw1 Q w) : Calls Try.prog id_weigh_Pick #[.agg #[.int .u64 w0_0, .int .u64 w0_1, .int .u64 w0_2, .int .u64 w0_3, .int .u64 w0_4], .int .u32 draw1] w fun e w' => ∃ v, e = .returned v ∧ Q v w' :=
  funJ_calls mixed Try.func24 rfl h

-- (*hoard/tape.Tape).Next
def tape_Tape_Next_kp : KP := ⟨[], [(4, [0, 1, 2, 3, 4, 5, 6, 8, 9]), (6, [0, 1, 2, 3, 4, 5, 6, 8, 9, 11])]⟩
def tape_Tape_Next (t0 : Option Addr) (Q : Value → WP) : WP := funJ idJ Try.prog tape_Tape_Next_kp Try.f25 [.pointer t0] Q
theorem tape_Tape_Next_raw (jn : Jn) (t0 : Option Addr) (Q : Value → WP) : funJ jn Try.prog tape_Tape_Next_kp Try.f25 [.pointer t0] Q = (
  ite2 (Option.isNone t0) (
  Q (.int .u32 (0 : Int))) (
  nilck t0 fun b_1 o_2 =>
  ld (.int .i64) b_1 (o_2 + 1) fun (x_3 : Int) =>
  nilck t0 fun b_4 o_5 =>
  st b_4 (o_5 + 1) (.int .i64 (IntKind.wrap .i64 (x_3 + (1 : Int)))) <|
  drawW fun S =>
  nilck t0 fun b_6 o_7 =>
  ldS S (.int .i64) b_6 (o_7 + 1) fun (x_8 : Int) =>
  nilck t0 fun b_9 o_10 =>
  ld .slc b_9 o_10 fun (x_11 : Sl) =>
  keepS true S <|
  ite2 (decide (x_8 > (x_11.n : Int))) (
  Q (.int .u32 (0 : Int))) (
  drawW fun S =>
  nilck t0 fun b_12 o_13 =>
  ldS S .slc b_12 o_13 fun (x_14 : Sl) =>
  nilck t0 fun b_15 o_16 =>
  ld (.int .i64) b_15 (o_16 + 1) fun (x_17 : Int) =>
  keepS true S <|
  idx x_14.a x_14.n (IntKind.wrap .i64 (x_17 - (1 : Int))) fun b_18 o_19 =>
  ld (.int .u32) b_18 (o_19 + ((IntKind.wrap .i64 (x_17 - (1 : Int)))).toNat * 1) fun (x_20 : Int) =>
  Q (.int .u32 x_20)))) := by kernel_rfl
theorem tape_Tape_Next_def (t0 : Option Addr) (Q : Value → WP) : tape_Tape_Next t0 Q = funJ idJ Try.prog tape_Tape_Next_kp Try.f25 [.pointer t0] Q := rfl
theorem tape_Tape_Next_calls {t0 : Option Addr} {Q : Value → WP} {w : World} (h : tape_Tape_Next t0 Q w) : Calls Try.prog id_tape_Tape_Next #[.pointer t0] w fun e w' => ∃ v, e = .returned v ∧ Q v w' :=
  funJ_calls mixed Try.func25 rfl h

-- hoard/hoardref19.Start
def hoardref19_Start_kp : KP := ⟨[(9, [0, 1, 2]), (14, [0, 1])], []⟩
def hoardref19_Start_j2 (jn : Jn) (Q : Value → WP)  (t0_b : Nat) (t0_o : Nat) (w1_b : Nat) (w1_o : Nat) : WP := jn 14 (fun ρ => codeI Try.prog hoardref19_Start_kp jn (cAt [true, true, true] (bodyOf Try.f26)) (retK Try.prog Try.f26 Q) noX (retK Try.prog Try.f26 Q) ρ) ((.pointer (some ⟨t0_b, t0_o, none⟩)) :: (.pointer (some ⟨w1_b, w1_o, none⟩)) :: us 12 [])
def hoardref19_Start_l1 (jn : Jn) (Q : Value → WP)  (m1 : Nat) (t0_b : Nat) (t0_o : Nat) (w1_b : Nat) (w1_o : Nat) (i2 : Int) : WP := lop Try.prog hoardref19_Start_kp jn (cAt [true, true, false, true, false, false] (bodyOf Try.f26)) (blkX 0 (seqK Try.prog hoardref19_Start_kp jn (cAt [true, true, true] (bodyOf Try.f26)) (retK Try.prog Try.f26 Q) noX (retK Try.prog Try.f26 Q)) noX) (retK Try.prog Try.f26 Q) m1 ((.pointer (some ⟨t0_b, t0_o, none⟩)) :: (.pointer (some ⟨w1_b, w1_o, none⟩)) :: (.int .i64 i2) :: us 11 [])
def hoardref19_Start  (Q : Value → WP) : WP := funJ idJ Try.prog hoardref19_Start_kp Try.f26 [] Q
theorem hoardref19_Start_j2_raw (jn : Jn) (Q : Value → WP)  (t0_b : Nat) (t0_o : Nat) (w1_b : Nat) (w1_o : Nat) : codeI Try.prog hoardref19_Start_kp jn (cAt [true, true, true] (bodyOf Try.f26)) (retK Try.prog Try.f26 Q) noX (retK Try.prog Try.f26 Q) ((.pointer (some ⟨t0_b, t0_o, none⟩)) :: (.pointer (some ⟨w1_b, w1_o, none⟩)) :: us 12 []) = (
  when ((0 : Int) ≤ (0 : Int) ∧ (0 : Int) < ((5 : Nat) : Int)) <|
  ld (.int .u64) w1_b (w1_o + ((0 : Int)).toNat * 1) fun (x_3 : Int) =>
  when ((0 : Int) ≤ (0 : Int) ∧ (0 : Int) < ((5 : Nat) : Int)) <|
  st w1_b (w1_o + ((0 : Int)).toNat * 1) (.int .u64 (IntKind.wrap .u64 (x_3 + (1 : Int)))) <|
  ld (.int .u64) w1_b w1_o fun (x_4 : Int) =>
  ld (.int .u64) w1_b (w1_o + 1) fun (x_5 : Int) =>
  ld (.int .u64) w1_b ((w1_o + 1) + 1) fun (x_6 : Int) =>
  ld (.int .u64) w1_b (((w1_o + 1) + 1) + 1) fun (x_7 : Int) =>
  ld (.int .u64) w1_b ((((w1_o + 1) + 1) + 1) + 1) fun (x_8 : Int) =>
  st t0_b t0_o (.int .u64 x_4) <|
  st t0_b (t0_o + 1) (.int .u64 x_5) <|
  st t0_b ((t0_o + 1) + 1) (.int .u64 x_6) <|
  st t0_b (((t0_o + 1) + 1) + 1) (.int .u64 x_7) <|
  st t0_b ((((t0_o + 1) + 1) + 1) + 1) (.int .u64 x_8) <|
  ld (.int .u64) t0_b t0_o fun (x_9 : Int) =>
  ld (.int .u64) t0_b (t0_o + 1) fun (x_10 : Int) =>
  ld (.int .u64) t0_b ((t0_o + 1) + 1) fun (x_11 : Int) =>
  ld (.int .u64) t0_b (((t0_o + 1) + 1) + 1) fun (x_12 : Int) =>
  ld (.int .u64) t0_b ((((t0_o + 1) + 1) + 1) + 1) fun (x_13 : Int) =>
  Q (.agg #[.int .u64 x_9, .int .u64 x_10, .int .u64 x_11, .int .u64 x_12, .int .u64 x_13])) := by kernel_rfl
theorem hoardref19_Start_j2_def (Q : Value → WP)  (t0_b : Nat) (t0_o : Nat) (w1_b : Nat) (w1_o : Nat) : hoardref19_Start_j2 idJ Q  t0_b t0_o w1_b w1_o = codeI Try.prog hoardref19_Start_kp idJ (cAt [true, true, true] (bodyOf Try.f26)) (retK Try.prog Try.f26 Q) noX (retK Try.prog Try.f26 Q) ((.pointer (some ⟨t0_b, t0_o, none⟩)) :: (.pointer (some ⟨w1_b, w1_o, none⟩)) :: us 12 []) := by kernel_rfl
theorem hoardref19_Start_l1_raw (jn : Jn) (Q : Value → WP)  (m1 : Nat) (t0_b : Nat) (t0_o : Nat) (w1_b : Nat) (w1_o : Nat) (i2 : Int) : hoardref19_Start_l1 jn Q  (m1 + 1) t0_b t0_o w1_b w1_o i2 = (
  ite2 (decide (i2 < (5 : Int))) (
  when ((0 : Int) ≤ i2 ∧ i2 < ((5 : Nat) : Int)) <|
  st w1_b (w1_o + (i2).toNat * 1) (.int .u64 (858993459 : Int)) <|
  hoardref19_Start_l1 jn Q  m1 t0_b t0_o w1_b w1_o (IntKind.wrap .i64 (i2 + (1 : Int)))) (
  hoardref19_Start_j2 jn Q  t0_b t0_o w1_b w1_o)) := by kernel_rfl
theorem hoardref19_Start_l1_zero (jn : Jn) (Q : Value → WP)  (t0_b : Nat) (t0_o : Nat) (w1_b : Nat) (w1_o : Nat) (i2 : Int) : hoardref19_Start_l1 jn Q  0 t0_b t0_o w1_b w1_o i2 = bot := by kernel_rfl
theorem hoardref19_Start_raw (jn : Jn)  (Q : Value → WP) : funJ jn Try.prog hoardref19_Start_kp Try.f26 [] Q = (
  newB [.int .u64 (0 : Int), .int .u64 (0 : Int), .int .u64 (0 : Int), .int .u64 (0 : Int), .int .u64 (0 : Int)] ty_hoardref19_Weights fun b_1 =>
  newB [.int .u64 (0 : Int), .int .u64 (0 : Int), .int .u64 (0 : Int), .int .u64 (0 : Int), .int .u64 (0 : Int)] ty_hoardref19_Weights fun b_2 =>
  exM fun m => hoardref19_Start_l1 jn Q  m b_1 0 b_2 0 (0 : Int)) := by kernel_rfl
theorem hoardref19_Start_def  (Q : Value → WP) : hoardref19_Start  Q = funJ idJ Try.prog hoardref19_Start_kp Try.f26 [] Q := rfl
theorem hoardref19_Start_calls {Q : Value → WP} {w : World} (h : hoardref19_Start Q w) : Calls Try.prog id_hoardref19_Start #[] w fun e w' => ∃ v, e = .returned v ∧ Q v w' :=
  funJ_calls mixed Try.func26 rfl h

-- hoard/hoardref19.Next
def hoardref19_Next_kp : KP := ⟨[(13, [2, 3, 4, 6, 7, 8]), (18, [6, 7]), (25, [6, 7, 9, 10, 11]), (30, [6, 7, 10]), (33, [6, 7, 10, 12]), (40, [6, 7, 10])], [(7, [0, 1, 2, 3, 4, 5, 7, 11]), (17, [0, 1, 2, 3, 4, 6]), (19, [0, 1, 2, 3, 4, 7, 8])]⟩
def hoardref19_Next_j6 (jn : Jn) (Q : Value → WP)  (t6_b : Nat) (t6_o : Nat) (x7_b : Nat) (x7_o : Nat) (most10 : Int) : WP := jn 40 (fun ρ => codeI Try.prog hoardref19_Next_kp jn (cAt [true, true, true, true, true, true, true, true] (bodyOf Try.f27)) (retK Try.prog Try.f27 Q) noX (retK Try.prog Try.f27 Q) ρ) (us 6 ((.pointer (some ⟨t6_b, t6_o, none⟩)) :: (.pointer (some ⟨x7_b, x7_o, none⟩)) :: us 2 ((.int .i64 most10) :: us 58 [])))
def hoardref19_Next_l5 (jn : Jn) (Q : Value → WP)  (m5 : Nat) (t6_b : Nat) (t6_o : Nat) (x7_b : Nat) (x7_o : Nat) (most10 : Int) (i12 : Int) : WP := lop Try.prog hoardref19_Next_kp jn (cAt [true, true, true, true, true, true, true, false, true, false, false] (bodyOf Try.f27)) (blkX 4 (seqK Try.prog hoardref19_Next_kp jn (cAt [true, true, true, true, true, true, true, true] (bodyOf Try.f27)) (retK Try.prog Try.f27 Q) noX (retK Try.prog Try.f27 Q)) noX) (retK Try.prog Try.f27 Q) m5 (us 6 ((.pointer (some ⟨t6_b, t6_o, none⟩)) :: (.pointer (some ⟨x7_b, x7_o, none⟩)) :: us 2 ((.int .i64 most10) :: us 1 ((.int .i64 i12) :: us 56 []))))
def hoardref19_Next_j4 (jn : Jn) (Q : Value → WP)  (t6_b : Nat) (t6_o : Nat) (x7_b : Nat) (x7_o : Nat) (most10 : Int) : WP := jn 30 (fun ρ => codeI Try.prog hoardref19_Next_kp jn (cAt [true, true, true, true, true, true, true] (bodyOf Try.f27)) (retK Try.prog Try.f27 Q) noX (retK Try.prog Try.f27 Q) ρ) (us 6 ((.pointer (some ⟨t6_b, t6_o, none⟩)) :: (.pointer (some ⟨x7_b, x7_o, none⟩)) :: us 2 ((.int .i64 most10) :: us 58 [])))
def hoardref19_Next_l3 (jn : Jn) (Q : Value → WP)  (m3 : Nat) (t6_b : Nat) (t6_o : Nat) (x7_b : Nat) (x7_o : Nat) (t9 : Int) (most10 : Int) (i11 : Int) : WP := lop Try.prog hoardref19_Next_kp jn (cAt [true, true, true, true, true, true, false, true, false, false] (bodyOf Try.f27)) (blkX 2 (seqK Try.prog hoardref19_Next_kp jn (cAt [true, true, true, true, true, true, true] (bodyOf Try.f27)) (retK Try.prog Try.f27 Q) noX (retK Try.prog Try.f27 Q)) noX) (retK Try.prog Try.f27 Q) m3 (us 6 ((.pointer (some ⟨t6_b, t6_o, none⟩)) :: (.pointer (some ⟨x7_b, x7_o, none⟩)) :: us 1 ((.int .u64 t9) :: (.int .i64 most10) :: (.int .i64 i11) :: us 57 [])))
def hoardref19_Next_j2 (jn : Jn) (Q : Value → WP)  (t6_b : Nat) (t6_o : Nat) (x7_b : Nat) (x7_o : Nat) : WP := jn 18 (fun ρ => codeI Try.prog hoardref19_Next_kp jn (cAt [true, true, true, true] (bodyOf Try.f27)) (retK Try.prog Try.f27 Q) noX (retK Try.prog Try.f27 Q) ρ) (us 6 ((.pointer (some ⟨t6_b, t6_o, none⟩)) :: (.pointer (some ⟨x7_b, x7_o, none⟩)) :: us 61 []))
def hoardref19_Next_l1 (jn : Jn) (Q : Value → WP)  (m1 : Nat) (all2 : Int) (w3_b : Nat) (w3_o : Nat) (ghosts4_b : Nat) (ghosts4_o : Nat) (t6_b : Nat) (t6_o : Nat) (x7_b : Nat) (x7_o : Nat) (i8 : Int) : WP := lop Try.prog hoardref19_Next_kp jn (cAt [true, true, true, false, true, false, false] (bodyOf Try.f27)) (blkX 0 (seqK Try.prog hoardref19_Next_kp jn (cAt [true, true, true, true] (bodyOf Try.f27)) (retK Try.prog Try.f27 Q) noX (retK Try.prog Try.f27 Q)) noX) (retK Try.prog Try.f27 Q) m1 (us 2 ((.int .i64 all2) :: (.pointer (some ⟨w3_b, w3_o, none⟩)) :: (.pointer (some ⟨ghosts4_b, ghosts4_o, none⟩)) :: us 1 ((.pointer (some ⟨t6_b, t6_o, none⟩)) :: (.pointer (some ⟨x7_b, x7_o, none⟩)) :: (.int .i64 i8) :: us 60 [])))
def hoardref19_Next (w0_0 : Int) (w0_1 : Int) (w0_2 : Int) (w0_3 : Int) (w0_4 : Int) (ghosts1_0 : Int) (ghosts1_1 : Int) (ghosts1_2 : Int) (ghosts1_3 : Int) (ghosts1_4 : Int) (all2 : Int) (Q : Value → WP) : WP := funJ idJ Try.prog hoardref19_Next_kp Try.f27 [.agg #[.int .u64 w0_0, .int .u64 w0_1, .int .u64 w0_2, .int .u64 w0_3, .int .u64 w0_4], .agg #[.int .i64 ghosts1_0, .int .i64 ghosts1_1, .int .i64 ghosts1_2, .int .i64 ghosts1_3, .int .i64 ghosts1_4], .int .i64 all2] Q
theorem hoardref19_Next_j6_raw (jn : Jn) (Q : Value → WP)  (t6_b : Nat) (t6_o : Nat) (x7_b : Nat) (x7_o : Nat) (most10 : Int) : codeI Try.prog hoardref19_Next_kp jn (cAt [true, true, true, true, true, true, true, true] (bodyOf Try.f27)) (retK Try.prog Try.f27 Q) noX (retK Try.prog Try.f27 Q) (us 6 ((.pointer (some ⟨t6_b, t6_o, none⟩)) :: (.pointer (some ⟨x7_b, x7_o, none⟩)) :: us 2 ((.int .i64 most10) :: us 58 []))) = (
  drawW fun S =>
  when ((0 : Int) ≤ most10 ∧ most10 < ((5 : Nat) : Int)) <|
  ldS S (.int .u64) x7_b (x7_o + (most10).toNat * 1) fun (x_36 : Int) =>
  ld (.int .u64) x7_b x7_o fun (x_37 : Int) =>
  ld (.int .u64) x7_b (x7_o + 1) fun (x_38 : Int) =>
  ld (.int .u64) x7_b ((x7_o + 1) + 1) fun (x_39 : Int) =>
  ld (.int .u64) x7_b (((x7_o + 1) + 1) + 1) fun (x_40 : Int) =>
  ld (.int .u64) x7_b ((((x7_o + 1) + 1) + 1) + 1) fun (x_41 : Int) =>
  keepS true S <|
  call1 (.int .u64) Try.prog id_hoardref19_Sum [.agg #[.int .u64 x_37, .int .u64 x_38, .int .u64 x_39, .int .u64 x_40, .int .u64 x_41]] fun (x_42 : Int) =>
  keepS true S <|
  when ((0 : Int) ≤ most10 ∧ most10 < ((5 : Nat) : Int)) <|
  st x7_b (x7_o + (most10).toNat * 1) (.int .u64 (IntKind.wrap .u64 ((IntKind.wrap .u64 (x_36 + (4294967296 : Int))) - x_42))) <|
  ld (.int .u64) x7_b x7_o fun (x_43 : Int) =>
  ld (.int .u64) x7_b (x7_o + 1) fun (x_44 : Int) =>
  ld (.int .u64) x7_b ((x7_o + 1) + 1) fun (x_45 : Int) =>
  ld (.int .u64) x7_b (((x7_o + 1) + 1) + 1) fun (x_46 : Int) =>
  ld (.int .u64) x7_b ((((x7_o + 1) + 1) + 1) + 1) fun (x_47 : Int) =>
  st t6_b t6_o (.int .u64 x_43) <|
  st t6_b (t6_o + 1) (.int .u64 x_44) <|
  st t6_b ((t6_o + 1) + 1) (.int .u64 x_45) <|
  st t6_b (((t6_o + 1) + 1) + 1) (.int .u64 x_46) <|
  st t6_b ((((t6_o + 1) + 1) + 1) + 1) (.int .u64 x_47) <|
  ld (.int .u64) t6_b t6_o fun (x_48 : Int) =>
  ld (.int .u64) t6_b (t6_o + 1) fun (x_49 : Int) =>
  ld (.int .u64) t6_b ((t6_o + 1) + 1) fun (x_50 : Int) =>
  ld (.int .u64) t6_b (((t6_o + 1) + 1) + 1) fun (x_51 : Int) =>
  ld (.int .u64) t6_b ((((t6_o + 1) + 1) + 1) + 1) fun (x_52 : Int) =>
  Q (.agg #[.int .u64 x_48, .int .u64 x_49, .int .u64 x_50, .int .u64 x_51, .int .u64 x_52])) := by kernel_rfl
theorem hoardref19_Next_j6_def (Q : Value → WP)  (t6_b : Nat) (t6_o : Nat) (x7_b : Nat) (x7_o : Nat) (most10 : Int) : hoardref19_Next_j6 idJ Q  t6_b t6_o x7_b x7_o most10 = codeI Try.prog hoardref19_Next_kp idJ (cAt [true, true, true, true, true, true, true, true] (bodyOf Try.f27)) (retK Try.prog Try.f27 Q) noX (retK Try.prog Try.f27 Q) (us 6 ((.pointer (some ⟨t6_b, t6_o, none⟩)) :: (.pointer (some ⟨x7_b, x7_o, none⟩)) :: us 2 ((.int .i64 most10) :: us 58 []))) := by kernel_rfl
theorem hoardref19_Next_l5_raw (jn : Jn) (Q : Value → WP)  (m5 : Nat) (t6_b : Nat) (t6_o : Nat) (x7_b : Nat) (x7_o : Nat) (most10 : Int) (i12 : Int) : hoardref19_Next_l5 jn Q  (m5 + 1) t6_b t6_o x7_b x7_o most10 i12 = (
  ite2 (decide (i12 < (5 : Int))) (
  drawW fun S =>
  when ((0 : Int) ≤ i12 ∧ i12 < ((5 : Nat) : Int)) <|
  ldS S (.int .u64) x7_b (x7_o + (i12).toNat * 1) fun (x_34 : Int) =>
  when ((0 : Int) ≤ most10 ∧ most10 < ((5 : Nat) : Int)) <|
  ld (.int .u64) x7_b (x7_o + (most10).toNat * 1) fun (x_35 : Int) =>
  keepS true S <|
  ite2 (decide (x_34 > x_35)) (
  hoardref19_Next_l5 jn Q  m5 t6_b t6_o x7_b x7_o i12 (IntKind.wrap .i64 (i12 + (1 : Int)))) (
  hoardref19_Next_l5 jn Q  m5 t6_b t6_o x7_b x7_o most10 (IntKind.wrap .i64 (i12 + (1 : Int))))) (
  hoardref19_Next_j6 jn Q  t6_b t6_o x7_b x7_o most10)) := by kernel_rfl
theorem hoardref19_Next_l5_zero (jn : Jn) (Q : Value → WP)  (t6_b : Nat) (t6_o : Nat) (x7_b : Nat) (x7_o : Nat) (most10 : Int) (i12 : Int) : hoardref19_Next_l5 jn Q  0 t6_b t6_o x7_b x7_o most10 i12 = bot := by kernel_rfl
theorem hoardref19_Next_j4_raw (jn : Jn) (Q : Value → WP)  (t6_b : Nat) (t6_o : Nat) (x7_b : Nat) (x7_o : Nat) (most10 : Int) : codeI Try.prog hoardref19_Next_kp jn (cAt [true, true, true, true, true, true, true] (bodyOf Try.f27)) (retK Try.prog Try.f27 Q) noX (retK Try.prog Try.f27 Q) (us 6 ((.pointer (some ⟨t6_b, t6_o, none⟩)) :: (.pointer (some ⟨x7_b, x7_o, none⟩)) :: us 2 ((.int .i64 most10) :: us 58 []))) = (
  exM fun m => hoardref19_Next_l5 jn Q  m t6_b t6_o x7_b x7_o most10 (1 : Int)) := by kernel_rfl
theorem hoardref19_Next_j4_def (Q : Value → WP)  (t6_b : Nat) (t6_o : Nat) (x7_b : Nat) (x7_o : Nat) (most10 : Int) : hoardref19_Next_j4 idJ Q  t6_b t6_o x7_b x7_o most10 = codeI Try.prog hoardref19_Next_kp idJ (cAt [true, true, true, true, true, true, true] (bodyOf Try.f27)) (retK Try.prog Try.f27 Q) noX (retK Try.prog Try.f27 Q) (us 6 ((.pointer (some ⟨t6_b, t6_o, none⟩)) :: (.pointer (some ⟨x7_b, x7_o, none⟩)) :: us 2 ((.int .i64 most10) :: us 58 []))) := by kernel_rfl
theorem hoardref19_Next_l3_raw (jn : Jn) (Q : Value → WP)  (m3 : Nat) (t6_b : Nat) (t6_o : Nat) (x7_b : Nat) (x7_o : Nat) (t9 : Int) (most10 : Int) (i11 : Int) : hoardref19_Next_l3 jn Q  (m3 + 1) t6_b t6_o x7_b x7_o t9 most10 i11 = (
  ite2 (decide (i11 < (5 : Int))) (
  when ((0 : Int) ≤ i11 ∧ i11 < ((5 : Nat) : Int)) <|
  ld (.int .u64) x7_b (x7_o + (i11).toNat * 1) fun (x_32 : Int) =>
  call1 (.int .u64) Try.prog id_hoardref2_Scale [.int .u64 x_32, .int .u64 (4294967296 : Int), .int .u64 t9] fun (x_33 : Int) =>
  when ((0 : Int) ≤ i11 ∧ i11 < ((5 : Nat) : Int)) <|
  st x7_b (x7_o + (i11).toNat * 1) (.int .u64 (if x_33 > (42949672 : Int) then x_33 else (42949672 : Int))) <|
  hoardref19_Next_l3 jn Q  m3 t6_b t6_o x7_b x7_o t9 most10 (IntKind.wrap .i64 (i11 + (1 : Int)))) (
  hoardref19_Next_j4 jn Q  t6_b t6_o x7_b x7_o most10)) := by kernel_rfl
theorem hoardref19_Next_l3_zero (jn : Jn) (Q : Value → WP)  (t6_b : Nat) (t6_o : Nat) (x7_b : Nat) (x7_o : Nat) (t9 : Int) (most10 : Int) (i11 : Int) : hoardref19_Next_l3 jn Q  0 t6_b t6_o x7_b x7_o t9 most10 i11 = bot := by kernel_rfl
theorem hoardref19_Next_j2_raw (jn : Jn) (Q : Value → WP)  (t6_b : Nat) (t6_o : Nat) (x7_b : Nat) (x7_o : Nat) : codeI Try.prog hoardref19_Next_kp jn (cAt [true, true, true, true] (bodyOf Try.f27)) (retK Try.prog Try.f27 Q) noX (retK Try.prog Try.f27 Q) (us 6 ((.pointer (some ⟨t6_b, t6_o, none⟩)) :: (.pointer (some ⟨x7_b, x7_o, none⟩)) :: us 61 [])) = (
  ld (.int .u64) x7_b x7_o fun (x_26 : Int) =>
  ld (.int .u64) x7_b (x7_o + 1) fun (x_27 : Int) =>
  ld (.int .u64) x7_b ((x7_o + 1) + 1) fun (x_28 : Int) =>
  ld (.int .u64) x7_b (((x7_o + 1) + 1) + 1) fun (x_29 : Int) =>
  ld (.int .u64) x7_b ((((x7_o + 1) + 1) + 1) + 1) fun (x_30 : Int) =>
  call1 (.int .u64) Try.prog id_hoardref19_Sum [.agg #[.int .u64 x_26, .int .u64 x_27, .int .u64 x_28, .int .u64 x_29, .int .u64 x_30]] fun (x_31 : Int) =>
  exM fun m => hoardref19_Next_l3 jn Q  m t6_b t6_o x7_b x7_o x_31 (0 : Int) (0 : Int)) := by kernel_rfl
theorem hoardref19_Next_j2_def (Q : Value → WP)  (t6_b : Nat) (t6_o : Nat) (x7_b : Nat) (x7_o : Nat) : hoardref19_Next_j2 idJ Q  t6_b t6_o x7_b x7_o = codeI Try.prog hoardref19_Next_kp idJ (cAt [true, true, true, true] (bodyOf Try.f27)) (retK Try.prog Try.f27 Q) noX (retK Try.prog Try.f27 Q) (us 6 ((.pointer (some ⟨t6_b, t6_o, none⟩)) :: (.pointer (some ⟨x7_b, x7_o, none⟩)) :: us 61 [])) := by kernel_rfl
theorem hoardref19_Next_l1_raw (jn : Jn) (Q : Value → WP)  (m1 : Nat) (all2 : Int) (w3_b : Nat) (w3_o : Nat) (ghosts4_b : Nat) (ghosts4_o : Nat) (t6_b : Nat) (t6_o : Nat) (x7_b : Nat) (x7_o : Nat) (i8 : Int) : hoardref19_Next_l1 jn Q  (m1 + 1) all2 w3_b w3_o ghosts4_b ghosts4_o t6_b t6_o x7_b x7_o i8 = (
  ite2 (decide (i8 < (5 : Int))) (
  drawW fun S =>
  when ((0 : Int) ≤ i8 ∧ i8 < ((5 : Nat) : Int)) <|
  ldS S (.int .u64) w3_b (w3_o + (i8).toNat * 1) fun (x_21 : Int) =>
  when ((0 : Int) ≤ i8 ∧ i8 < ((5 : Nat) : Int)) <|
  ld (.int .i64) ghosts4_b (ghosts4_o + (i8).toNat * 1) fun (x_22 : Int) =>
  keepS true S <|
  call1 (.int .i64) Try.prog id_hoardref19_loss [.int .i64 x_22, .int .i64 all2] fun (x_23 : Int) =>
  keepS true S <|
  call1 (.int .u64) Try.prog id_hoardref19_Keep [.int .i64 x_23] fun (x_24 : Int) =>
  keepS true S <|
  call1 (.int .u64) Try.prog id_hoardref2_Mul [.int .u64 x_21, .int .u64 x_24] fun (x_25 : Int) =>
  when ((0 : Int) ≤ i8 ∧ i8 < ((5 : Nat) : Int)) <|
  st x7_b (x7_o + (i8).toNat * 1) (.int .u64 x_25) <|
  hoardref19_Next_l1 jn Q  m1 all2 w3_b w3_o ghosts4_b ghosts4_o t6_b t6_o x7_b x7_o (IntKind.wrap .i64 (i8 + (1 : Int)))) (
  hoardref19_Next_j2 jn Q  t6_b t6_o x7_b x7_o)) := by kernel_rfl
theorem hoardref19_Next_l1_zero (jn : Jn) (Q : Value → WP)  (all2 : Int) (w3_b : Nat) (w3_o : Nat) (ghosts4_b : Nat) (ghosts4_o : Nat) (t6_b : Nat) (t6_o : Nat) (x7_b : Nat) (x7_o : Nat) (i8 : Int) : hoardref19_Next_l1 jn Q  0 all2 w3_b w3_o ghosts4_b ghosts4_o t6_b t6_o x7_b x7_o i8 = bot := by kernel_rfl
theorem hoardref19_Next_raw (jn : Jn) (w0_0 : Int) (w0_1 : Int) (w0_2 : Int) (w0_3 : Int) (w0_4 : Int) (ghosts1_0 : Int) (ghosts1_1 : Int) (ghosts1_2 : Int) (ghosts1_3 : Int) (ghosts1_4 : Int) (all2 : Int) (Q : Value → WP) : funJ jn Try.prog hoardref19_Next_kp Try.f27 [.agg #[.int .u64 w0_0, .int .u64 w0_1, .int .u64 w0_2, .int .u64 w0_3, .int .u64 w0_4], .agg #[.int .i64 ghosts1_0, .int .i64 ghosts1_1, .int .i64 ghosts1_2, .int .i64 ghosts1_3, .int .i64 ghosts1_4], .int .i64 all2] Q = (
  newB [.int .u64 w0_0, .int .u64 w0_1, .int .u64 w0_2, .int .u64 w0_3, .int .u64 w0_4] ty_hoardref19_Weights fun b_1 =>
  newB [.int .i64 ghosts1_0, .int .i64 ghosts1_1, .int .i64 ghosts1_2, .int .i64 ghosts1_3, .int .i64 ghosts1_4] ty_5_int fun b_2 =>
  newB [.int .u64 (0 : Int), .int .u64 (0 : Int), .int .u64 (0 : Int), .int .u64 (0 : Int), .int .u64 (0 : Int)] ty_hoardref19_Weights fun b_3 =>
  ld (.int .u64) b_1 0 fun (x_4 : Int) =>
  ld (.int .u64) b_1 1 fun (x_5 : Int) =>
  ld (.int .u64) b_1 2 fun (x_6 : Int) =>
  ld (.int .u64) b_1 3 fun (x_7 : Int) =>
  ld (.int .u64) b_1 4 fun (x_8 : Int) =>
  call1 .bool Try.prog id_hoardref19_Is [.agg #[.int .u64 x_4, .int .u64 x_5, .int .u64 x_6, .int .u64 x_7, .int .u64 x_8]] fun (x_9 : Bool) =>
  ite2 (!x_9) (
  fun w => Calls Try.prog id_hoardref19_Start #[] w fun e w' => ∃ x_10 : Int, ∃ x_11 : Int, ∃ x_12 : Int, ∃ x_13 : Int, ∃ x_14 : Int, e = .returned (.agg #[.int .u64 x_10, .int .u64 x_11, .int .u64 x_12, .int .u64 x_13, .int .u64 x_14]) ∧ (
  st b_3 0 (.int .u64 x_10) <|
  st b_3 1 (.int .u64 x_11) <|
  st b_3 2 (.int .u64 x_12) <|
  st b_3 3 (.int .u64 x_13) <|
  st b_3 4 (.int .u64 x_14) <|
  ld (.int .u64) b_3 0 fun (x_15 : Int) =>
  ld (.int .u64) b_3 1 fun (x_16 : Int) =>
  ld (.int .u64) b_3 2 fun (x_17 : Int) =>
  ld (.int .u64) b_3 3 fun (x_18 : Int) =>
  ld (.int .u64) b_3 4 fun (x_19 : Int) =>
  Q (.agg #[.int .u64 x_15, .int .u64 x_16, .int .u64 x_17, .int .u64 x_18, .int .u64 x_19])) w') (
  newB [.int .u64 (0 : Int), .int .u64 (0 : Int), .int .u64 (0 : Int), .int .u64 (0 : Int), .int .u64 (0 : Int)] ty_hoardref19_Weights fun b_20 =>
  exM fun m => hoardref19_Next_l1 jn Q  m all2 b_1 0 b_2 0 b_3 0 b_20 0 (0 : Int))) := by kernel_rfl
theorem hoardref19_Next_def (w0_0 : Int) (w0_1 : Int) (w0_2 : Int) (w0_3 : Int) (w0_4 : Int) (ghosts1_0 : Int) (ghosts1_1 : Int) (ghosts1_2 : Int) (ghosts1_3 : Int) (ghosts1_4 : Int) (all2 : Int) (Q : Value → WP) : hoardref19_Next w0_0 w0_1 w0_2 w0_3 w0_4 ghosts1_0 ghosts1_1 ghosts1_2 ghosts1_3 ghosts1_4 all2 Q = funJ idJ Try.prog hoardref19_Next_kp Try.f27 [.agg #[.int .u64 w0_0, .int .u64 w0_1, .int .u64 w0_2, .int .u64 w0_3, .int .u64 w0_4], .agg #[.int .i64 ghosts1_0, .int .i64 ghosts1_1, .int .i64 ghosts1_2, .int .i64 ghosts1_3, .int .i64 ghosts1_4], .int .i64 all2] Q := rfl
theorem hoardref19_Next_calls {w0_0 : Int} {w0_1 : Int} {w0_2 : Int} {w0_3 : Int} {w0_4 : Int} {ghosts1_0 : Int} {ghosts1_1 : Int} {ghosts1_2 : Int} {ghosts1_3 : Int} {ghosts1_4 : Int} {all2 : Int} {Q : Value → WP} {w : World} (h : hoardref19_Next w0_0 w0_1 w0_2 w0_3 w0_4 ghosts1_0 ghosts1_1 ghosts1_2 ghosts1_3 ghosts1_4 all2 Q w) : Calls Try.prog id_hoardref19_Next #[.agg #[.int .u64 w0_0, .int .u64 w0_1, .int .u64 w0_2, .int .u64 w0_3, .int .u64 w0_4], .agg #[.int .i64 ghosts1_0, .int .i64 ghosts1_1, .int .i64 ghosts1_2, .int .i64 ghosts1_3, .int .i64 ghosts1_4], .int .i64 all2] w fun e w' => ∃ v, e = .returned v ∧ Q v w' :=
  funJ_calls mixed Try.func27 rfl h

-- hoard/hoardref19.Pick
def hoardref19_Pick_kp : KP := ⟨[(9, [1, 2, 5, 6]), (18, [])], []⟩
def hoardref19_Pick_j2 (jn : Jn) (Q : Value → WP)   : WP := jn 18 (fun ρ => codeI Try.prog hoardref19_Pick_kp jn (cAt [true, true, true] (bodyOf Try.f28)) (retK Try.prog Try.f28 Q) noX (retK Try.prog Try.f28 Q) ρ) (us 21 [])
def hoardref19_Pick_l1 (jn : Jn) (Q : Value → WP)  (m1 : Nat) (draw1 : Int) (w2_b : Nat) (w2_o : Nat) (n5 : Int) (i6 : Int) : WP := lop Try.prog hoardref19_Pick_kp jn (cAt [true, true, false, true, false, false] (bodyOf Try.f28)) (blkX 0 (seqK Try.prog hoardref19_Pick_kp jn (cAt [true, true, true] (bodyOf Try.f28)) (retK Try.prog Try.f28 Q) noX (retK Try.prog Try.f28 Q)) noX) (retK Try.prog Try.f28 Q) m1 (us 1 ((.int .u32 draw1) :: (.pointer (some ⟨w2_b, w2_o, none⟩)) :: us 2 ((.int .u64 n5) :: (.int .i64 i6) :: us 14 [])))
def hoardref19_Pick (w0_0 : Int) (w0_1 : Int) (w0_2 : Int) (w0_3 : Int) (w0_4 : Int) (draw1 : Int) (Q : Value → WP) : WP := funJ idJ Try.prog hoardref19_Pick_kp Try.f28 [.agg #[.int .u64 w0_0, .int .u64 w0_1, .int .u64 w0_2, .int .u64 w0_3, .int .u64 w0_4], .int .u32 draw1] Q
theorem hoardref19_Pick_j2_raw (jn : Jn) (Q : Value → WP)   : codeI Try.prog hoardref19_Pick_kp jn (cAt [true, true, true] (bodyOf Try.f28)) (retK Try.prog Try.f28 Q) noX (retK Try.prog Try.f28 Q) (us 21 []) = (
  Q (.int .i64 (4 : Int))) := by kernel_rfl
theorem hoardref19_Pick_j2_def (Q : Value → WP)   : hoardref19_Pick_j2 idJ Q   = codeI Try.prog hoardref19_Pick_kp idJ (cAt [true, true, true] (bodyOf Try.f28)) (retK Try.prog Try.f28 Q) noX (retK Try.prog Try.f28 Q) (us 21 []) := by kernel_rfl
theorem hoardref19_Pick_l1_raw (jn : Jn) (Q : Value → WP)  (m1 : Nat) (draw1 : Int) (w2_b : Nat) (w2_o : Nat) (n5 : Int) (i6 : Int) : hoardref19_Pick_l1 jn Q  (m1 + 1) draw1 w2_b w2_o n5 i6 = (
  ite2 (decide (i6 < (5 : Int))) (
  when ((0 : Int) ≤ i6 ∧ i6 < ((5 : Nat) : Int)) <|
  ld (.int .u64) w2_b (w2_o + (i6).toNat * 1) fun (x_2 : Int) =>
  ite2 (decide ((IntKind.wrap .u64 (n5 + x_2)) > (IntKind.wrap .u64 draw1))) (
  Q (.int .i64 i6)) (
  hoardref19_Pick_l1 jn Q  m1 draw1 w2_b w2_o (IntKind.wrap .u64 (n5 + x_2)) (IntKind.wrap .i64 (i6 + (1 : Int))))) (
  hoardref19_Pick_j2 jn Q  )) := by kernel_rfl
theorem hoardref19_Pick_l1_zero (jn : Jn) (Q : Value → WP)  (draw1 : Int) (w2_b : Nat) (w2_o : Nat) (n5 : Int) (i6 : Int) : hoardref19_Pick_l1 jn Q  0 draw1 w2_b w2_o n5 i6 = bot := by kernel_rfl
theorem hoardref19_Pick_raw (jn : Jn) (w0_0 : Int) (w0_1 : Int) (w0_2 : Int) (w0_3 : Int) (w0_4 : Int) (draw1 : Int) (Q : Value → WP) : funJ jn Try.prog hoardref19_Pick_kp Try.f28 [.agg #[.int .u64 w0_0, .int .u64 w0_1, .int .u64 w0_2, .int .u64 w0_3, .int .u64 w0_4], .int .u32 draw1] Q = (
  newB [.int .u64 w0_0, .int .u64 w0_1, .int .u64 w0_2, .int .u64 w0_3, .int .u64 w0_4] ty_hoardref19_Weights fun b_1 =>
  exM fun m => hoardref19_Pick_l1 jn Q  m draw1 b_1 0 (0 : Int) (0 : Int)) := by kernel_rfl
theorem hoardref19_Pick_def (w0_0 : Int) (w0_1 : Int) (w0_2 : Int) (w0_3 : Int) (w0_4 : Int) (draw1 : Int) (Q : Value → WP) : hoardref19_Pick w0_0 w0_1 w0_2 w0_3 w0_4 draw1 Q = funJ idJ Try.prog hoardref19_Pick_kp Try.f28 [.agg #[.int .u64 w0_0, .int .u64 w0_1, .int .u64 w0_2, .int .u64 w0_3, .int .u64 w0_4], .int .u32 draw1] Q := rfl
theorem hoardref19_Pick_calls {w0_0 : Int} {w0_1 : Int} {w0_2 : Int} {w0_3 : Int} {w0_4 : Int} {draw1 : Int} {Q : Value → WP} {w : World} (h : hoardref19_Pick w0_0 w0_1 w0_2 w0_3 w0_4 draw1 Q w) : Calls Try.prog id_hoardref19_Pick #[.agg #[.int .u64 w0_0, .int .u64 w0_1, .int .u64 w0_2, .int .u64 w0_3, .int .u64 w0_4], .int .u32 draw1] w fun e w' => ∃ v, e = .returned v ∧ Q v w' :=
  funJ_calls mixed Try.func28 rfl h

-- (*hoard/hoardref3.Tape).Next
def hoardref3_Tape_Next_kp : KP := ⟨[], [(2, [0, 1, 2, 3, 4, 5, 6, 8, 9]), (4, [0, 1, 2, 3, 4, 5, 6, 8, 9, 11])]⟩
def hoardref3_Tape_Next (t0 : Option Addr) (Q : Value → WP) : WP := funJ idJ Try.prog hoardref3_Tape_Next_kp Try.f29 [.pointer t0] Q
theorem hoardref3_Tape_Next_raw (jn : Jn) (t0 : Option Addr) (Q : Value → WP) : funJ jn Try.prog hoardref3_Tape_Next_kp Try.f29 [.pointer t0] Q = (
  nilck t0 fun b_1 o_2 =>
  ld (.int .i64) b_1 (o_2 + 1) fun (x_3 : Int) =>
  nilck t0 fun b_4 o_5 =>
  st b_4 (o_5 + 1) (.int .i64 (IntKind.wrap .i64 (x_3 + (1 : Int)))) <|
  drawW fun S =>
  nilck t0 fun b_6 o_7 =>
  ldS S (.int .i64) b_6 (o_7 + 1) fun (x_8 : Int) =>
  nilck t0 fun b_9 o_10 =>
  ld .slc b_9 o_10 fun (x_11 : Sl) =>
  keepS true S <|
  ite2 (decide (x_8 > (x_11.n : Int))) (
  Q (.int .u32 (0 : Int))) (
  drawW fun S =>
  nilck t0 fun b_12 o_13 =>
  ldS S .slc b_12 o_13 fun (x_14 : Sl) =>
  nilck t0 fun b_15 o_16 =>
  ld (.int .i64) b_15 (o_16 + 1) fun (x_17 : Int) =>
  keepS true S <|
  idx x_14.a x_14.n (IntKind.wrap .i64 (x_17 - (1 : Int))) fun b_18 o_19 =>
  ld (.int .u32) b_18 (o_19 + ((IntKind.wrap .i64 (x_17 - (1 : Int)))).toNat * 1) fun (x_20 : Int) =>
  Q (.int .u32 x_20))) := by kernel_rfl
theorem hoardref3_Tape_Next_def (t0 : Option Addr) (Q : Value → WP) : hoardref3_Tape_Next t0 Q = funJ idJ Try.prog hoardref3_Tape_Next_kp Try.f29 [.pointer t0] Q := rfl
theorem hoardref3_Tape_Next_calls {t0 : Option Addr} {Q : Value → WP} {w : World} (h : hoardref3_Tape_Next t0 Q w) : Calls Try.prog id_hoardref3_Tape_Next #[.pointer t0] w fun e w' => ∃ v, e = .returned v ∧ Q v w' :=
  funJ_calls mixed Try.func29 rfl h

-- hoard/weigh.even
def weigh_even_kp : KP := ⟨[(9, [1, 2, 3, 5]), (18, [1, 2, 3])], [(5, [0, 1, 2, 3, 4, 6]), (8, [0, 1, 2, 5, 6, 7])]⟩
def weigh_even_j2 (jn : Jn) (Q : Value → WP)  (w1_b : Nat) (w1_o : Nat) (t2_b : Nat) (t2_o : Nat) (best3 : Int) : WP := jn 18 (fun ρ => codeI Try.prog weigh_even_kp jn (cAt [true, true, true] (bodyOf Try.f30)) (retK Try.prog Try.f30 Q) noX (retK Try.prog Try.f30 Q) ρ) (us 1 ((.pointer (some ⟨w1_b, w1_o, none⟩)) :: (.pointer (some ⟨t2_b, t2_o, none⟩)) :: (.int .i64 best3) :: us 22 []))
def weigh_even_l1 (jn : Jn) (Q : Value → WP)  (m1 : Nat) (w1_b : Nat) (w1_o : Nat) (t2_b : Nat) (t2_o : Nat) (best3 : Int) (t5 : Int) : WP := lop Try.prog weigh_even_kp jn (cAt [true, true, false, true, false, false] (bodyOf Try.f30)) (blkX 0 (seqK Try.prog weigh_even_kp jn (cAt [true, true, true] (bodyOf Try.f30)) (retK Try.prog Try.f30 Q) noX (retK Try.prog Try.f30 Q)) noX) (retK Try.prog Try.f30 Q) m1 (us 1 ((.pointer (some ⟨w1_b, w1_o, none⟩)) :: (.pointer (some ⟨t2_b, t2_o, none⟩)) :: (.int .i64 best3) :: us 1 ((.int .i64 t5) :: us 20 [])))
def weigh_even (w0_0 : Int) (w0_1 : Int) (w0_2 : Int) (w0_3 : Int) (w0_4 : Int) (Q : Value → WP) : WP := funJ idJ Try.prog weigh_even_kp Try.f30 [.agg #[.int .u64 w0_0, .int .u64 w0_1, .int .u64 w0_2, .int .u64 w0_3, .int .u64 w0_4]] Q
theorem weigh_even_j2_raw (jn : Jn) (Q : Value → WP)  (w1_b : Nat) (w1_o : Nat) (t2_b : Nat) (t2_o : Nat) (best3 : Int) : codeI Try.prog weigh_even_kp jn (cAt [true, true, true] (bodyOf Try.f30)) (retK Try.prog Try.f30 Q) noX (retK Try.prog Try.f30 Q) (us 1 ((.pointer (some ⟨w1_b, w1_o, none⟩)) :: (.pointer (some ⟨t2_b, t2_o, none⟩)) :: (.int .i64 best3) :: us 22 [])) = (
  drawW fun S =>
  when ((0 : Int) ≤ best3 ∧ best3 < ((5 : Nat) : Int)) <|
  ldS S (.int .u64) w1_b (w1_o + (best3).toNat * 1) fun (x_5 : Int) =>
  ld (.int .u64) w1_b w1_o fun (x_6 : Int) =>
  ld (.int .u64) w1_b (w1_o + 1) fun (x_7 : Int) =>
  ld (.int .u64) w1_b ((w1_o + 1) + 1) fun (x_8 : Int) =>
  ld (.int .u64) w1_b (((w1_o + 1) + 1) + 1) fun (x_9 : Int) =>
  ld (.int .u64) w1_b ((((w1_o + 1) + 1) + 1) + 1) fun (x_10 : Int) =>
  keepS true S <|
  call1 (.int .u64) Try.prog id_weigh_Sum [.agg #[.int .u64 x_6, .int .u64 x_7, .int .u64 x_8, .int .u64 x_9, .int .u64 x_10]] fun (x_11 : Int) =>
  keepS true S <|
  when ((0 : Int) ≤ best3 ∧ best3 < ((5 : Nat) : Int)) <|
  st w1_b (w1_o + (best3).toNat * 1) (.int .u64 (IntKind.wrap .u64 (x_5 + (IntKind.wrap .u64 ((4294967296 : Int) - x_11))))) <|
  ld (.int .u64) w1_b w1_o fun (x_12 : Int) =>
  ld (.int .u64) w1_b (w1_o + 1) fun (x_13 : Int) =>
  ld (.int .u64) w1_b ((w1_o + 1) + 1) fun (x_14 : Int) =>
  ld (.int .u64) w1_b (((w1_o + 1) + 1) + 1) fun (x_15 : Int) =>
  ld (.int .u64) w1_b ((((w1_o + 1) + 1) + 1) + 1) fun (x_16 : Int) =>
  st t2_b t2_o (.int .u64 x_12) <|
  st t2_b (t2_o + 1) (.int .u64 x_13) <|
  st t2_b ((t2_o + 1) + 1) (.int .u64 x_14) <|
  st t2_b (((t2_o + 1) + 1) + 1) (.int .u64 x_15) <|
  st t2_b ((((t2_o + 1) + 1) + 1) + 1) (.int .u64 x_16) <|
  ld (.int .u64) t2_b t2_o fun (x_17 : Int) =>
  ld (.int .u64) t2_b (t2_o + 1) fun (x_18 : Int) =>
  ld (.int .u64) t2_b ((t2_o + 1) + 1) fun (x_19 : Int) =>
  ld (.int .u64) t2_b (((t2_o + 1) + 1) + 1) fun (x_20 : Int) =>
  ld (.int .u64) t2_b ((((t2_o + 1) + 1) + 1) + 1) fun (x_21 : Int) =>
  Q (.agg #[.int .u64 x_17, .int .u64 x_18, .int .u64 x_19, .int .u64 x_20, .int .u64 x_21])) := by kernel_rfl
theorem weigh_even_j2_def (Q : Value → WP)  (w1_b : Nat) (w1_o : Nat) (t2_b : Nat) (t2_o : Nat) (best3 : Int) : weigh_even_j2 idJ Q  w1_b w1_o t2_b t2_o best3 = codeI Try.prog weigh_even_kp idJ (cAt [true, true, true] (bodyOf Try.f30)) (retK Try.prog Try.f30 Q) noX (retK Try.prog Try.f30 Q) (us 1 ((.pointer (some ⟨w1_b, w1_o, none⟩)) :: (.pointer (some ⟨t2_b, t2_o, none⟩)) :: (.int .i64 best3) :: us 22 [])) := by kernel_rfl
theorem weigh_even_l1_raw (jn : Jn) (Q : Value → WP)  (m1 : Nat) (w1_b : Nat) (w1_o : Nat) (t2_b : Nat) (t2_o : Nat) (best3 : Int) (t5 : Int) : weigh_even_l1 jn Q  (m1 + 1) w1_b w1_o t2_b t2_o best3 t5 = (
  ite2 (decide (t5 < (5 : Int))) (
  drawW fun S =>
  when ((0 : Int) ≤ t5 ∧ t5 < ((5 : Nat) : Int)) <|
  ldS S (.int .u64) w1_b (w1_o + (t5).toNat * 1) fun (x_3 : Int) =>
  when ((0 : Int) ≤ best3 ∧ best3 < ((5 : Nat) : Int)) <|
  ld (.int .u64) w1_b (w1_o + (best3).toNat * 1) fun (x_4 : Int) =>
  keepS true S <|
  ite2 (decide (x_3 > x_4)) (
  weigh_even_l1 jn Q  m1 w1_b w1_o t2_b t2_o t5 (IntKind.wrap .i64 (t5 + (1 : Int)))) (
  weigh_even_l1 jn Q  m1 w1_b w1_o t2_b t2_o best3 (IntKind.wrap .i64 (t5 + (1 : Int))))) (
  weigh_even_j2 jn Q  w1_b w1_o t2_b t2_o best3)) := by kernel_rfl
theorem weigh_even_l1_zero (jn : Jn) (Q : Value → WP)  (w1_b : Nat) (w1_o : Nat) (t2_b : Nat) (t2_o : Nat) (best3 : Int) (t5 : Int) : weigh_even_l1 jn Q  0 w1_b w1_o t2_b t2_o best3 t5 = bot := by kernel_rfl
theorem weigh_even_raw (jn : Jn) (w0_0 : Int) (w0_1 : Int) (w0_2 : Int) (w0_3 : Int) (w0_4 : Int) (Q : Value → WP) : funJ jn Try.prog weigh_even_kp Try.f30 [.agg #[.int .u64 w0_0, .int .u64 w0_1, .int .u64 w0_2, .int .u64 w0_3, .int .u64 w0_4]] Q = (
  newB [.int .u64 w0_0, .int .u64 w0_1, .int .u64 w0_2, .int .u64 w0_3, .int .u64 w0_4] ty_weigh_Weights fun b_1 =>
  newB [.int .u64 (0 : Int), .int .u64 (0 : Int), .int .u64 (0 : Int), .int .u64 (0 : Int), .int .u64 (0 : Int)] ty_weigh_Weights fun b_2 =>
  exM fun m => weigh_even_l1 jn Q  m b_1 0 b_2 0 (0 : Int) (0 : Int)) := by kernel_rfl
theorem weigh_even_def (w0_0 : Int) (w0_1 : Int) (w0_2 : Int) (w0_3 : Int) (w0_4 : Int) (Q : Value → WP) : weigh_even w0_0 w0_1 w0_2 w0_3 w0_4 Q = funJ idJ Try.prog weigh_even_kp Try.f30 [.agg #[.int .u64 w0_0, .int .u64 w0_1, .int .u64 w0_2, .int .u64 w0_3, .int .u64 w0_4]] Q := rfl
theorem weigh_even_calls {w0_0 : Int} {w0_1 : Int} {w0_2 : Int} {w0_3 : Int} {w0_4 : Int} {Q : Value → WP} {w : World} (h : weigh_even w0_0 w0_1 w0_2 w0_3 w0_4 Q w) : Calls Try.prog id_weigh_even #[.agg #[.int .u64 w0_0, .int .u64 w0_1, .int .u64 w0_2, .int .u64 w0_3, .int .u64 w0_4]] w fun e w' => ∃ v, e = .returned v ∧ Q v w' :=
  funJ_calls mixed Try.func30 rfl h

-- hoard/weigh.Is
def weigh_Is_kp : KP := ⟨[(7, [1, 5, 6]), (16, [1])], []⟩
def weigh_Is_j2 (jn : Jn) (Q : Value → WP)  (w1_b : Nat) (w1_o : Nat) : WP := jn 16 (fun ρ => codeI Try.prog weigh_Is_kp jn (cAt [true, true] (bodyOf Try.f31)) (retK Try.prog Try.f31 Q) noX (retK Try.prog Try.f31 Q) ρ) (us 1 ((.pointer (some ⟨w1_b, w1_o, none⟩)) :: us 17 []))
def weigh_Is_l1 (jn : Jn) (Q : Value → WP)  (m1 : Nat) (w1_b : Nat) (w1_o : Nat) (t5_0 : Int) (t5_1 : Int) (t5_2 : Int) (t5_3 : Int) (t5_4 : Int) (t6 : Int) : WP := lop Try.prog weigh_Is_kp jn (cAt [true, false, true, false, false] (bodyOf Try.f31)) (blkX 0 (seqK Try.prog weigh_Is_kp jn (cAt [true, true] (bodyOf Try.f31)) (retK Try.prog Try.f31 Q) noX (retK Try.prog Try.f31 Q)) noX) (retK Try.prog Try.f31 Q) m1 (us 1 ((.pointer (some ⟨w1_b, w1_o, none⟩)) :: us 3 ((.agg #[.int .u64 t5_0, .int .u64 t5_1, .int .u64 t5_2, .int .u64 t5_3, .int .u64 t5_4]) :: (.int .i64 t6) :: us 12 [])))
def weigh_Is (w0_0 : Int) (w0_1 : Int) (w0_2 : Int) (w0_3 : Int) (w0_4 : Int) (Q : Value → WP) : WP := funJ idJ Try.prog weigh_Is_kp Try.f31 [.agg #[.int .u64 w0_0, .int .u64 w0_1, .int .u64 w0_2, .int .u64 w0_3, .int .u64 w0_4]] Q
theorem weigh_Is_j2_raw (jn : Jn) (Q : Value → WP)  (w1_b : Nat) (w1_o : Nat) : codeI Try.prog weigh_Is_kp jn (cAt [true, true] (bodyOf Try.f31)) (retK Try.prog Try.f31 Q) noX (retK Try.prog Try.f31 Q) (us 1 ((.pointer (some ⟨w1_b, w1_o, none⟩)) :: us 17 [])) = (
  ld (.int .u64) w1_b w1_o fun (x_8 : Int) =>
  ld (.int .u64) w1_b (w1_o + 1) fun (x_9 : Int) =>
  ld (.int .u64) w1_b ((w1_o + 1) + 1) fun (x_10 : Int) =>
  ld (.int .u64) w1_b (((w1_o + 1) + 1) + 1) fun (x_11 : Int) =>
  ld (.int .u64) w1_b ((((w1_o + 1) + 1) + 1) + 1) fun (x_12 : Int) =>
  call1 (.int .u64) Try.prog id_weigh_Sum [.agg #[.int .u64 x_8, .int .u64 x_9, .int .u64 x_10, .int .u64 x_11, .int .u64 x_12]] fun (x_13 : Int) =>
  Q (.bool (x_13 == (4294967296 : Int)))) := by kernel_rfl
theorem weigh_Is_j2_def (Q : Value → WP)  (w1_b : Nat) (w1_o : Nat) : weigh_Is_j2 idJ Q  w1_b w1_o = codeI Try.prog weigh_Is_kp idJ (cAt [true, true] (bodyOf Try.f31)) (retK Try.prog Try.f31 Q) noX (retK Try.prog Try.f31 Q) (us 1 ((.pointer (some ⟨w1_b, w1_o, none⟩)) :: us 17 [])) := by kernel_rfl
theorem weigh_Is_l1_raw (jn : Jn) (Q : Value → WP)  (m1 : Nat) (w1_b : Nat) (w1_o : Nat) (t5_0 : Int) (t5_1 : Int) (t5_2 : Int) (t5_3 : Int) (t5_4 : Int) (t6 : Int) : weigh_Is_l1 jn Q  (m1 + 1) w1_b w1_o t5_0 t5_1 t5_2 t5_3 t5_4 t6 = (
  ite2 (decide (t6 < (5 : Int))) (
  when ((0 : Int) ≤ t6 ∧ t6 < ((5 : Nat) : Int)) <|
  fun w => ∃ x_7 : Int, ([.int .u64 t5_0, .int .u64 t5_1, .int .u64 t5_2, .int .u64 t5_3, .int .u64 t5_4] : List Value)[(t6).toNat]? = some (.int .u64 x_7) ∧ isU (.int .u64 x_7) = false ∧ (
  ite2 (decide (x_7 < (42949672 : Int))) (
  Q (.bool false)) (
  ite2 (decide (x_7 > (4294967296 : Int))) (
  Q (.bool false)) (
  weigh_Is_l1 jn Q  m1 w1_b w1_o t5_0 t5_1 t5_2 t5_3 t5_4 (IntKind.wrap .i64 (t6 + (1 : Int)))))) w) (
  weigh_Is_j2 jn Q  w1_b w1_o)) := by kernel_rfl
theorem weigh_Is_l1_zero (jn : Jn) (Q : Value → WP)  (w1_b : Nat) (w1_o : Nat) (t5_0 : Int) (t5_1 : Int) (t5_2 : Int) (t5_3 : Int) (t5_4 : Int) (t6 : Int) : weigh_Is_l1 jn Q  0 w1_b w1_o t5_0 t5_1 t5_2 t5_3 t5_4 t6 = bot := by kernel_rfl
theorem weigh_Is_raw (jn : Jn) (w0_0 : Int) (w0_1 : Int) (w0_2 : Int) (w0_3 : Int) (w0_4 : Int) (Q : Value → WP) : funJ jn Try.prog weigh_Is_kp Try.f31 [.agg #[.int .u64 w0_0, .int .u64 w0_1, .int .u64 w0_2, .int .u64 w0_3, .int .u64 w0_4]] Q = (
  newB [.int .u64 w0_0, .int .u64 w0_1, .int .u64 w0_2, .int .u64 w0_3, .int .u64 w0_4] ty_weigh_Weights fun b_1 =>
  ld (.int .u64) b_1 0 fun (x_2 : Int) =>
  ld (.int .u64) b_1 1 fun (x_3 : Int) =>
  ld (.int .u64) b_1 2 fun (x_4 : Int) =>
  ld (.int .u64) b_1 3 fun (x_5 : Int) =>
  ld (.int .u64) b_1 4 fun (x_6 : Int) =>
  exM fun m => weigh_Is_l1 jn Q  m b_1 0 x_2 x_3 x_4 x_5 x_6 (0 : Int)) := by kernel_rfl
theorem weigh_Is_def (w0_0 : Int) (w0_1 : Int) (w0_2 : Int) (w0_3 : Int) (w0_4 : Int) (Q : Value → WP) : weigh_Is w0_0 w0_1 w0_2 w0_3 w0_4 Q = funJ idJ Try.prog weigh_Is_kp Try.f31 [.agg #[.int .u64 w0_0, .int .u64 w0_1, .int .u64 w0_2, .int .u64 w0_3, .int .u64 w0_4]] Q := rfl
theorem weigh_Is_calls {w0_0 : Int} {w0_1 : Int} {w0_2 : Int} {w0_3 : Int} {w0_4 : Int} {Q : Value → WP} {w : World} (h : weigh_Is w0_0 w0_1 w0_2 w0_3 w0_4 Q w) : Calls Try.prog id_weigh_Is #[.agg #[.int .u64 w0_0, .int .u64 w0_1, .int .u64 w0_2, .int .u64 w0_3, .int .u64 w0_4]] w fun e w' => ∃ v, e = .returned v ∧ Q v w' :=
  funJ_calls mixed Try.func31 rfl h

-- hoard/fix.Mul
def fix_Mul_kp : KP := ⟨[], []⟩
def fix_Mul (a0 : Int) (b1 : Int) (Q : Value → WP) : WP := funJ idJ Try.prog fix_Mul_kp Try.f32 [.int .u64 a0, .int .u64 b1] Q
theorem fix_Mul_raw (jn : Jn) (a0 : Int) (b1 : Int) (Q : Value → WP) : funJ jn Try.prog fix_Mul_kp Try.f32 [.int .u64 a0, .int .u64 b1] Q = (
  call1 (.int .u64) Try.prog id_fix_Scale [.int .u64 a0, .int .u64 b1, .int .u64 (4294967296 : Int)] fun (x_1 : Int) =>
  Q (.int .u64 x_1)) := by kernel_rfl
theorem fix_Mul_def (a0 : Int) (b1 : Int) (Q : Value → WP) : fix_Mul a0 b1 Q = funJ idJ Try.prog fix_Mul_kp Try.f32 [.int .u64 a0, .int .u64 b1] Q := rfl
theorem fix_Mul_calls {a0 : Int} {b1 : Int} {Q : Value → WP} {w : World} (h : fix_Mul a0 b1 Q w) : Calls Try.prog id_fix_Mul #[.int .u64 a0, .int .u64 b1] w fun e w' => ∃ v, e = .returned v ∧ Q v w' :=
  funJ_calls mixed Try.func32 rfl h

-- hoard/weigh.Keep
def weigh_Keep_kp : KP := ⟨[(9, [3, 5, 6]), (14, [3])], []⟩
def weigh_Keep_j2 (jn : Jn) (Q : Value → WP)  (x3 : Int) : WP := jn 14 (fun ρ => codeI Try.prog weigh_Keep_kp jn (cAt [true, true, true] (bodyOf Try.f33)) (retK Try.prog Try.f33 Q) noX (retK Try.prog Try.f33 Q) ρ) (us 3 ((.int .u64 x3) :: us 9 []))
def weigh_Keep_l1 (jn : Jn) (Q : Value → WP)  (m1 : Nat) (x3 : Int) (t5 : Int) (t6 : Int) : WP := lop Try.prog weigh_Keep_kp jn (cAt [true, true, false, true, false, false] (bodyOf Try.f33)) (blkX 0 (seqK Try.prog weigh_Keep_kp jn (cAt [true, true, true] (bodyOf Try.f33)) (retK Try.prog Try.f33 Q) noX (retK Try.prog Try.f33 Q)) noX) (retK Try.prog Try.f33 Q) m1 (us 3 ((.int .u64 x3) :: us 1 ((.int .i64 t5) :: (.int .i64 t6) :: us 6 [])))
def weigh_Keep (k0 : Int) (Q : Value → WP) : WP := funJ idJ Try.prog weigh_Keep_kp Try.f33 [.int .i64 k0] Q
theorem weigh_Keep_j2_raw (jn : Jn) (Q : Value → WP)  (x3 : Int) : codeI Try.prog weigh_Keep_kp jn (cAt [true, true, true] (bodyOf Try.f33)) (retK Try.prog Try.f33 Q) noX (retK Try.prog Try.f33 Q) (us 3 ((.int .u64 x3) :: us 9 [])) = (
  Q (.int .u64 x3)) := by kernel_rfl
theorem weigh_Keep_j2_def (Q : Value → WP)  (x3 : Int) : weigh_Keep_j2 idJ Q  x3 = codeI Try.prog weigh_Keep_kp idJ (cAt [true, true, true] (bodyOf Try.f33)) (retK Try.prog Try.f33 Q) noX (retK Try.prog Try.f33 Q) (us 3 ((.int .u64 x3) :: us 9 [])) := by kernel_rfl
theorem weigh_Keep_l1_raw (jn : Jn) (Q : Value → WP)  (m1 : Nat) (x3 : Int) (t5 : Int) (t6 : Int) : weigh_Keep_l1 jn Q  (m1 + 1) x3 t5 t6 = (
  ite2 (decide (t6 < t5)) (
  when ((10 : Int) ≠ 0) <|
  weigh_Keep_l1 jn Q  m1 (IntKind.wrap .u64 (Int.tdiv (IntKind.wrap .u64 (x3 * (9 : Int))) (10 : Int))) t5 (IntKind.wrap .i64 (t6 + (1 : Int)))) (
  weigh_Keep_j2 jn Q  x3)) := by kernel_rfl
theorem weigh_Keep_l1_zero (jn : Jn) (Q : Value → WP)  (x3 : Int) (t5 : Int) (t6 : Int) : weigh_Keep_l1 jn Q  0 x3 t5 t6 = bot := by kernel_rfl
theorem weigh_Keep_raw (jn : Jn) (k0 : Int) (Q : Value → WP) : funJ jn Try.prog weigh_Keep_kp Try.f33 [.int .i64 k0] Q = (
  call1 (.int .i64) Try.prog id_fix_Clamp [.int .i64 k0, .int .i64 (0 : Int), .int .i64 (15 : Int)] fun (x_1 : Int) =>
  exM fun m => weigh_Keep_l1 jn Q  m (4294967296 : Int) x_1 (0 : Int)) := by kernel_rfl
theorem weigh_Keep_def (k0 : Int) (Q : Value → WP) : weigh_Keep k0 Q = funJ idJ Try.prog weigh_Keep_kp Try.f33 [.int .i64 k0] Q := rfl
theorem weigh_Keep_calls {k0 : Int} {Q : Value → WP} {w : World} (h : weigh_Keep k0 Q w) : Calls Try.prog id_weigh_Keep #[.int .i64 k0] w fun e w' => ∃ v, e = .returned v ∧ Q v w' :=
  funJ_calls mixed Try.func33 rfl h

-- hoard/weigh.penalty
def weigh_penalty_kp : KP := ⟨[], []⟩
def weigh_penalty (ghosts0 : Int) (all1 : Int) (Q : Value → WP) : WP := funJ idJ Try.prog weigh_penalty_kp Try.f34 [.int .i64 ghosts0, .int .i64 all1] Q
theorem weigh_penalty_raw (jn : Jn) (ghosts0 : Int) (all1 : Int) (Q : Value → WP) : funJ jn Try.prog weigh_penalty_kp Try.f34 [.int .i64 ghosts0, .int .i64 all1] Q = (
  call1 (.int .i64) Try.prog id_fix_Clamp [.int .i64 ghosts0, .int .i64 (0 : Int), .int .i64 (1099511627776 : Int)] fun (x_1 : Int) =>
  call1 (.int .i64) Try.prog id_fix_Clamp [.int .i64 all1, .int .i64 (0 : Int), .int .i64 (1099511627776 : Int)] fun (x_2 : Int) =>
  ite2 (x_2 == (0 : Int)) (
  Q (.int .i64 (0 : Int))) (
  when (x_2 ≠ 0) <|
  Q (.int .i64 (if (15 : Int) < (IntKind.wrap .i64 (Int.tdiv (IntKind.wrap .i64 ((16 : Int) * x_1)) x_2)) then (15 : Int) else (IntKind.wrap .i64 (Int.tdiv (IntKind.wrap .i64 ((16 : Int) * x_1)) x_2)))))) := by kernel_rfl
theorem weigh_penalty_def (ghosts0 : Int) (all1 : Int) (Q : Value → WP) : weigh_penalty ghosts0 all1 Q = funJ idJ Try.prog weigh_penalty_kp Try.f34 [.int .i64 ghosts0, .int .i64 all1] Q := rfl
theorem weigh_penalty_calls {ghosts0 : Int} {all1 : Int} {Q : Value → WP} {w : World} (h : weigh_penalty ghosts0 all1 Q w) : Calls Try.prog id_weigh_penalty #[.int .i64 ghosts0, .int .i64 all1] w fun e w' => ∃ v, e = .returned v ∧ Q v w' :=
  funJ_calls mixed Try.func34 rfl h

-- hoard/weigh.Sum
def weigh_Sum_kp : KP := ⟨[(9, [3, 6, 7]), (16, [3])], []⟩
def weigh_Sum_j2 (jn : Jn) (Q : Value → WP)  (sum3 : Int) : WP := jn 16 (fun ρ => codeI Try.prog weigh_Sum_kp jn (cAt [true, true, true] (bodyOf Try.f35)) (retK Try.prog Try.f35 Q) noX (retK Try.prog Try.f35 Q) ρ) (us 3 ((.int .u64 sum3) :: us 11 []))
def weigh_Sum_l1 (jn : Jn) (Q : Value → WP)  (m1 : Nat) (sum3 : Int) (t6_0 : Int) (t6_1 : Int) (t6_2 : Int) (t6_3 : Int) (t6_4 : Int) (t7 : Int) : WP := lop Try.prog weigh_Sum_kp jn (cAt [true, true, false, true, false, false] (bodyOf Try.f35)) (blkX 0 (seqK Try.prog weigh_Sum_kp jn (cAt [true, true, true] (bodyOf Try.f35)) (retK Try.prog Try.f35 Q) noX (retK Try.prog Try.f35 Q)) noX) (retK Try.prog Try.f35 Q) m1 (us 3 ((.int .u64 sum3) :: us 2 ((.agg #[.int .u64 t6_0, .int .u64 t6_1, .int .u64 t6_2, .int .u64 t6_3, .int .u64 t6_4]) :: (.int .i64 t7) :: us 7 [])))
def weigh_Sum (w0_0 : Int) (w0_1 : Int) (w0_2 : Int) (w0_3 : Int) (w0_4 : Int) (Q : Value → WP) : WP := funJ idJ Try.prog weigh_Sum_kp Try.f35 [.agg #[.int .u64 w0_0, .int .u64 w0_1, .int .u64 w0_2, .int .u64 w0_3, .int .u64 w0_4]] Q
theorem weigh_Sum_j2_raw (jn : Jn) (Q : Value → WP)  (sum3 : Int) : codeI Try.prog weigh_Sum_kp jn (cAt [true, true, true] (bodyOf Try.f35)) (retK Try.prog Try.f35 Q) noX (retK Try.prog Try.f35 Q) (us 3 ((.int .u64 sum3) :: us 11 [])) = (
  Q (.int .u64 sum3)) := by kernel_rfl
theorem weigh_Sum_j2_def (Q : Value → WP)  (sum3 : Int) : weigh_Sum_j2 idJ Q  sum3 = codeI Try.prog weigh_Sum_kp idJ (cAt [true, true, true] (bodyOf Try.f35)) (retK Try.prog Try.f35 Q) noX (retK Try.prog Try.f35 Q) (us 3 ((.int .u64 sum3) :: us 11 [])) := by kernel_rfl
theorem weigh_Sum_l1_raw (jn : Jn) (Q : Value → WP)  (m1 : Nat) (sum3 : Int) (t6_0 : Int) (t6_1 : Int) (t6_2 : Int) (t6_3 : Int) (t6_4 : Int) (t7 : Int) : weigh_Sum_l1 jn Q  (m1 + 1) sum3 t6_0 t6_1 t6_2 t6_3 t6_4 t7 = (
  ite2 (decide (t7 < (5 : Int))) (
  when ((0 : Int) ≤ t7 ∧ t7 < ((5 : Nat) : Int)) <|
  fun w => ∃ x_7 : Int, ([.int .u64 t6_0, .int .u64 t6_1, .int .u64 t6_2, .int .u64 t6_3, .int .u64 t6_4] : List Value)[(t7).toNat]? = some (.int .u64 x_7) ∧ isU (.int .u64 x_7) = false ∧ (
  weigh_Sum_l1 jn Q  m1 (IntKind.wrap .u64 (sum3 + x_7)) t6_0 t6_1 t6_2 t6_3 t6_4 (IntKind.wrap .i64 (t7 + (1 : Int)))) w) (
  weigh_Sum_j2 jn Q  sum3)) := by kernel_rfl
theorem weigh_Sum_l1_zero (jn : Jn) (Q : Value → WP)  (sum3 : Int) (t6_0 : Int) (t6_1 : Int) (t6_2 : Int) (t6_3 : Int) (t6_4 : Int) (t7 : Int) : weigh_Sum_l1 jn Q  0 sum3 t6_0 t6_1 t6_2 t6_3 t6_4 t7 = bot := by kernel_rfl
theorem weigh_Sum_raw (jn : Jn) (w0_0 : Int) (w0_1 : Int) (w0_2 : Int) (w0_3 : Int) (w0_4 : Int) (Q : Value → WP) : funJ jn Try.prog weigh_Sum_kp Try.f35 [.agg #[.int .u64 w0_0, .int .u64 w0_1, .int .u64 w0_2, .int .u64 w0_3, .int .u64 w0_4]] Q = (
  newB [.int .u64 w0_0, .int .u64 w0_1, .int .u64 w0_2, .int .u64 w0_3, .int .u64 w0_4] ty_weigh_Weights fun b_1 =>
  ld (.int .u64) b_1 0 fun (x_2 : Int) =>
  ld (.int .u64) b_1 1 fun (x_3 : Int) =>
  ld (.int .u64) b_1 2 fun (x_4 : Int) =>
  ld (.int .u64) b_1 3 fun (x_5 : Int) =>
  ld (.int .u64) b_1 4 fun (x_6 : Int) =>
  exM fun m => weigh_Sum_l1 jn Q  m (0 : Int) x_2 x_3 x_4 x_5 x_6 (0 : Int)) := by kernel_rfl
theorem weigh_Sum_def (w0_0 : Int) (w0_1 : Int) (w0_2 : Int) (w0_3 : Int) (w0_4 : Int) (Q : Value → WP) : weigh_Sum w0_0 w0_1 w0_2 w0_3 w0_4 Q = funJ idJ Try.prog weigh_Sum_kp Try.f35 [.agg #[.int .u64 w0_0, .int .u64 w0_1, .int .u64 w0_2, .int .u64 w0_3, .int .u64 w0_4]] Q := rfl
theorem weigh_Sum_calls {w0_0 : Int} {w0_1 : Int} {w0_2 : Int} {w0_3 : Int} {w0_4 : Int} {Q : Value → WP} {w : World} (h : weigh_Sum w0_0 w0_1 w0_2 w0_3 w0_4 Q w) : Calls Try.prog id_weigh_Sum #[.agg #[.int .u64 w0_0, .int .u64 w0_1, .int .u64 w0_2, .int .u64 w0_3, .int .u64 w0_4]] w fun e w' => ∃ v, e = .returned v ∧ Q v w' :=
  funJ_calls mixed Try.func35 rfl h

-- hoard/fix.Scale
def fix_Scale_kp : KP := ⟨[], []⟩
def fix_Scale (a0 : Int) (num1 : Int) (den2 : Int) (Q : Value → WP) : WP := funJ idJ Try.prog fix_Scale_kp Try.f36 [.int .u64 a0, .int .u64 num1, .int .u64 den2] Q
theorem fix_Scale_raw (jn : Jn) (a0 : Int) (num1 : Int) (den2 : Int) (Q : Value → WP) : funJ jn Try.prog fix_Scale_kp Try.f36 [.int .u64 a0, .int .u64 num1, .int .u64 den2] Q = (
  call2 (.int .u64) (.int .u64) Try.prog id_math_bits_Mul64 [.int .u64 a0, .int .u64 num1] fun (x_1 : Int) (x_2 : Int) =>
  ite2 (decide (x_1 ≥ den2)) (
  Q (.int .u64 (18446744073709551615 : Int))) (
  call2 (.int .u64) (.int .u64) Try.prog id_math_bits_Div64 [.int .u64 x_1, .int .u64 x_2, .int .u64 den2] fun (x_3 : Int) (x_4 : Int) =>
  Q (.int .u64 x_3))) := by kernel_rfl
theorem fix_Scale_def (a0 : Int) (num1 : Int) (den2 : Int) (Q : Value → WP) : fix_Scale a0 num1 den2 Q = funJ idJ Try.prog fix_Scale_kp Try.f36 [.int .u64 a0, .int .u64 num1, .int .u64 den2] Q := rfl
theorem fix_Scale_calls {a0 : Int} {num1 : Int} {den2 : Int} {Q : Value → WP} {w : World} (h : fix_Scale a0 num1 den2 Q w) : Calls Try.prog id_fix_Scale #[.int .u64 a0, .int .u64 num1, .int .u64 den2] w fun e w' => ∃ v, e = .returned v ∧ Q v w' :=
  funJ_calls mixed Try.func36 rfl h

-- hoard/hoardref19.Is
def hoardref19_Is_kp : KP := ⟨[(7, [1, 3]), (14, [1])], []⟩
def hoardref19_Is_j2 (jn : Jn) (Q : Value → WP)  (w1_b : Nat) (w1_o : Nat) : WP := jn 14 (fun ρ => codeI Try.prog hoardref19_Is_kp jn (cAt [true, true] (bodyOf Try.f37)) (retK Try.prog Try.f37 Q) noX (retK Try.prog Try.f37 Q) ρ) (us 1 ((.pointer (some ⟨w1_b, w1_o, none⟩)) :: us 19 []))
def hoardref19_Is_l1 (jn : Jn) (Q : Value → WP)  (m1 : Nat) (w1_b : Nat) (w1_o : Nat) (i3 : Int) : WP := lop Try.prog hoardref19_Is_kp jn (cAt [true, false, true, false, false] (bodyOf Try.f37)) (blkX 0 (seqK Try.prog hoardref19_Is_kp jn (cAt [true, true] (bodyOf Try.f37)) (retK Try.prog Try.f37 Q) noX (retK Try.prog Try.f37 Q)) noX) (retK Try.prog Try.f37 Q) m1 (us 1 ((.pointer (some ⟨w1_b, w1_o, none⟩)) :: us 1 ((.int .i64 i3) :: us 17 [])))
def hoardref19_Is (w0_0 : Int) (w0_1 : Int) (w0_2 : Int) (w0_3 : Int) (w0_4 : Int) (Q : Value → WP) : WP := funJ idJ Try.prog hoardref19_Is_kp Try.f37 [.agg #[.int .u64 w0_0, .int .u64 w0_1, .int .u64 w0_2, .int .u64 w0_3, .int .u64 w0_4]] Q
theorem hoardref19_Is_j2_raw (jn : Jn) (Q : Value → WP)  (w1_b : Nat) (w1_o : Nat) : codeI Try.prog hoardref19_Is_kp jn (cAt [true, true] (bodyOf Try.f37)) (retK Try.prog Try.f37 Q) noX (retK Try.prog Try.f37 Q) (us 1 ((.pointer (some ⟨w1_b, w1_o, none⟩)) :: us 19 [])) = (
  ld (.int .u64) w1_b w1_o fun (x_4 : Int) =>
  ld (.int .u64) w1_b (w1_o + 1) fun (x_5 : Int) =>
  ld (.int .u64) w1_b ((w1_o + 1) + 1) fun (x_6 : Int) =>
  ld (.int .u64) w1_b (((w1_o + 1) + 1) + 1) fun (x_7 : Int) =>
  ld (.int .u64) w1_b ((((w1_o + 1) + 1) + 1) + 1) fun (x_8 : Int) =>
  call1 (.int .u64) Try.prog id_hoardref19_Sum [.agg #[.int .u64 x_4, .int .u64 x_5, .int .u64 x_6, .int .u64 x_7, .int .u64 x_8]] fun (x_9 : Int) =>
  Q (.bool (x_9 == (4294967296 : Int)))) := by kernel_rfl
theorem hoardref19_Is_j2_def (Q : Value → WP)  (w1_b : Nat) (w1_o : Nat) : hoardref19_Is_j2 idJ Q  w1_b w1_o = codeI Try.prog hoardref19_Is_kp idJ (cAt [true, true] (bodyOf Try.f37)) (retK Try.prog Try.f37 Q) noX (retK Try.prog Try.f37 Q) (us 1 ((.pointer (some ⟨w1_b, w1_o, none⟩)) :: us 19 [])) := by kernel_rfl
theorem hoardref19_Is_l1_raw (jn : Jn) (Q : Value → WP)  (m1 : Nat) (w1_b : Nat) (w1_o : Nat) (i3 : Int) : hoardref19_Is_l1 jn Q  (m1 + 1) w1_b w1_o i3 = (
  ite2 (decide (i3 < (5 : Int))) (
  when ((0 : Int) ≤ i3 ∧ i3 < ((5 : Nat) : Int)) <|
  ld (.int .u64) w1_b (w1_o + (i3).toNat * 1) fun (x_2 : Int) =>
  ite2 (decide (x_2 < (42949672 : Int))) (
  Q (.bool false)) (
  when ((0 : Int) ≤ i3 ∧ i3 < ((5 : Nat) : Int)) <|
  ld (.int .u64) w1_b (w1_o + (i3).toNat * 1) fun (x_3 : Int) =>
  ite2 (decide (x_3 > (4294967296 : Int))) (
  Q (.bool false)) (
  hoardref19_Is_l1 jn Q  m1 w1_b w1_o (IntKind.wrap .i64 (i3 + (1 : Int)))))) (
  hoardref19_Is_j2 jn Q  w1_b w1_o)) := by kernel_rfl
theorem hoardref19_Is_l1_zero (jn : Jn) (Q : Value → WP)  (w1_b : Nat) (w1_o : Nat) (i3 : Int) : hoardref19_Is_l1 jn Q  0 w1_b w1_o i3 = bot := by kernel_rfl
theorem hoardref19_Is_raw (jn : Jn) (w0_0 : Int) (w0_1 : Int) (w0_2 : Int) (w0_3 : Int) (w0_4 : Int) (Q : Value → WP) : funJ jn Try.prog hoardref19_Is_kp Try.f37 [.agg #[.int .u64 w0_0, .int .u64 w0_1, .int .u64 w0_2, .int .u64 w0_3, .int .u64 w0_4]] Q = (
  newB [.int .u64 w0_0, .int .u64 w0_1, .int .u64 w0_2, .int .u64 w0_3, .int .u64 w0_4] ty_hoardref19_Weights fun b_1 =>
  exM fun m => hoardref19_Is_l1 jn Q  m b_1 0 (0 : Int)) := by kernel_rfl
theorem hoardref19_Is_def (w0_0 : Int) (w0_1 : Int) (w0_2 : Int) (w0_3 : Int) (w0_4 : Int) (Q : Value → WP) : hoardref19_Is w0_0 w0_1 w0_2 w0_3 w0_4 Q = funJ idJ Try.prog hoardref19_Is_kp Try.f37 [.agg #[.int .u64 w0_0, .int .u64 w0_1, .int .u64 w0_2, .int .u64 w0_3, .int .u64 w0_4]] Q := rfl
theorem hoardref19_Is_calls {w0_0 : Int} {w0_1 : Int} {w0_2 : Int} {w0_3 : Int} {w0_4 : Int} {Q : Value → WP} {w : World} (h : hoardref19_Is w0_0 w0_1 w0_2 w0_3 w0_4 Q w) : Calls Try.prog id_hoardref19_Is #[.agg #[.int .u64 w0_0, .int .u64 w0_1, .int .u64 w0_2, .int .u64 w0_3, .int .u64 w0_4]] w fun e w' => ∃ v, e = .returned v ∧ Q v w' :=
  funJ_calls mixed Try.func37 rfl h

-- hoard/hoardref2.Mul
def hoardref2_Mul_kp : KP := ⟨[], []⟩
def hoardref2_Mul (a0 : Int) (b1 : Int) (Q : Value → WP) : WP := funJ idJ Try.prog hoardref2_Mul_kp Try.f38 [.int .u64 a0, .int .u64 b1] Q
theorem hoardref2_Mul_raw (jn : Jn) (a0 : Int) (b1 : Int) (Q : Value → WP) : funJ jn Try.prog hoardref2_Mul_kp Try.f38 [.int .u64 a0, .int .u64 b1] Q = (
  call2 (.int .u64) (.int .u64) Try.prog id_hoardref2_times [.int .u64 a0, .int .u64 b1] fun (x_1 : Int) (x_2 : Int) =>
  when ((0 : Int) ≤ (32 : Int)) <|
  ite2 ((shrV .u64 x_1 (32 : Int)) != (0 : Int)) (
  Q (.int .u64 (18446744073709551615 : Int))) (
  when ((0 : Int) ≤ (32 : Int)) <|
  when ((0 : Int) ≤ (32 : Int)) <|
  Q (.int .u64 (bits .or .u64 (shlV .u64 x_1 (32 : Int)) (shrV .u64 x_2 (32 : Int)))))) := by kernel_rfl
theorem hoardref2_Mul_def (a0 : Int) (b1 : Int) (Q : Value → WP) : hoardref2_Mul a0 b1 Q = funJ idJ Try.prog hoardref2_Mul_kp Try.f38 [.int .u64 a0, .int .u64 b1] Q := rfl
theorem hoardref2_Mul_calls {a0 : Int} {b1 : Int} {Q : Value → WP} {w : World} (h : hoardref2_Mul a0 b1 Q w) : Calls Try.prog id_hoardref2_Mul #[.int .u64 a0, .int .u64 b1] w fun e w' => ∃ v, e = .returned v ∧ Q v w' :=
  funJ_calls mixed Try.func38 rfl h

-- hoard/hoardref19.Keep
def hoardref19_Keep_kp : KP := ⟨[(9, [0, 3, 4]), (14, [3])], []⟩
def hoardref19_Keep_j2 (jn : Jn) (Q : Value → WP)  (n3 : Int) : WP := jn 14 (fun ρ => codeI Try.prog hoardref19_Keep_kp jn (cAt [true, true, true] (bodyOf Try.f39)) (retK Try.prog Try.f39 Q) noX (retK Try.prog Try.f39 Q) ρ) (us 3 ((.int .u64 n3) :: us 11 []))
def hoardref19_Keep_l1 (jn : Jn) (Q : Value → WP)  (m1 : Nat) (k0 : Int) (n3 : Int) (i4 : Int) : WP := lop Try.prog hoardref19_Keep_kp jn (cAt [true, true, false, true, false, false] (bodyOf Try.f39)) (blkX 0 (seqK Try.prog hoardref19_Keep_kp jn (cAt [true, true, true] (bodyOf Try.f39)) (retK Try.prog Try.f39 Q) noX (retK Try.prog Try.f39 Q)) noX) (retK Try.prog Try.f39 Q) m1 ((.int .i64 k0) :: us 2 ((.int .u64 n3) :: (.int .i64 i4) :: us 10 []))
def hoardref19_Keep (k0 : Int) (Q : Value → WP) : WP := funJ idJ Try.prog hoardref19_Keep_kp Try.f39 [.int .i64 k0] Q
theorem hoardref19_Keep_j2_raw (jn : Jn) (Q : Value → WP)  (n3 : Int) : codeI Try.prog hoardref19_Keep_kp jn (cAt [true, true, true] (bodyOf Try.f39)) (retK Try.prog Try.f39 Q) noX (retK Try.prog Try.f39 Q) (us 3 ((.int .u64 n3) :: us 11 [])) = (
  Q (.int .u64 n3)) := by kernel_rfl
theorem hoardref19_Keep_j2_def (Q : Value → WP)  (n3 : Int) : hoardref19_Keep_j2 idJ Q  n3 = codeI Try.prog hoardref19_Keep_kp idJ (cAt [true, true, true] (bodyOf Try.f39)) (retK Try.prog Try.f39 Q) noX (retK Try.prog Try.f39 Q) (us 3 ((.int .u64 n3) :: us 11 [])) := by kernel_rfl
theorem hoardref19_Keep_l1_raw (jn : Jn) (Q : Value → WP)  (m1 : Nat) (k0 : Int) (n3 : Int) (i4 : Int) : hoardref19_Keep_l1 jn Q  (m1 + 1) k0 n3 i4 = (
  call1 (.int .i64) Try.prog id_hoardref2_Clamp [.int .i64 k0, .int .i64 (0 : Int), .int .i64 (15 : Int)] fun (x_1 : Int) =>
  ite2 (decide (i4 < x_1)) (
  when ((10 : Int) ≠ 0) <|
  hoardref19_Keep_l1 jn Q  m1 k0 (IntKind.wrap .u64 (Int.tdiv (IntKind.wrap .u64 (n3 * (9 : Int))) (10 : Int))) (IntKind.wrap .i64 (i4 + (1 : Int)))) (
  hoardref19_Keep_j2 jn Q  n3)) := by kernel_rfl
theorem hoardref19_Keep_l1_zero (jn : Jn) (Q : Value → WP)  (k0 : Int) (n3 : Int) (i4 : Int) : hoardref19_Keep_l1 jn Q  0 k0 n3 i4 = bot := by kernel_rfl
theorem hoardref19_Keep_raw (jn : Jn) (k0 : Int) (Q : Value → WP) : funJ jn Try.prog hoardref19_Keep_kp Try.f39 [.int .i64 k0] Q = (
  exM fun m => hoardref19_Keep_l1 jn Q  m k0 (4294967296 : Int) (0 : Int)) := by kernel_rfl
theorem hoardref19_Keep_def (k0 : Int) (Q : Value → WP) : hoardref19_Keep k0 Q = funJ idJ Try.prog hoardref19_Keep_kp Try.f39 [.int .i64 k0] Q := rfl
theorem hoardref19_Keep_calls {k0 : Int} {Q : Value → WP} {w : World} (h : hoardref19_Keep k0 Q w) : Calls Try.prog id_hoardref19_Keep #[.int .i64 k0] w fun e w' => ∃ v, e = .returned v ∧ Q v w' :=
  funJ_calls mixed Try.func39 rfl h

-- hoard/hoardref19.loss
def hoardref19_loss_kp : KP := ⟨[], []⟩
def hoardref19_loss (ghosts0 : Int) (all1 : Int) (Q : Value → WP) : WP := funJ idJ Try.prog hoardref19_loss_kp Try.f40 [.int .i64 ghosts0, .int .i64 all1] Q
theorem hoardref19_loss_raw (jn : Jn) (ghosts0 : Int) (all1 : Int) (Q : Value → WP) : funJ jn Try.prog hoardref19_loss_kp Try.f40 [.int .i64 ghosts0, .int .i64 all1] Q = (
  call1 (.int .i64) Try.prog id_hoardref2_Clamp [.int .i64 ghosts0, .int .i64 (0 : Int), .int .i64 (1099511627776 : Int)] fun (x_1 : Int) =>
  call1 (.int .i64) Try.prog id_hoardref2_Clamp [.int .i64 all1, .int .i64 (0 : Int), .int .i64 (1099511627776 : Int)] fun (x_2 : Int) =>
  ite2 (x_2 == (0 : Int)) (
  Q (.int .i64 (0 : Int))) (
  when (x_2 ≠ 0) <|
  Q (.int .i64 (if (IntKind.wrap .i64 (Int.tdiv (IntKind.wrap .i64 ((16 : Int) * x_1)) x_2)) < (15 : Int) then (IntKind.wrap .i64 (Int.tdiv (IntKind.wrap .i64 ((16 : Int) * x_1)) x_2)) else (15 : Int))))) := by kernel_rfl
theorem hoardref19_loss_def (ghosts0 : Int) (all1 : Int) (Q : Value → WP) : hoardref19_loss ghosts0 all1 Q = funJ idJ Try.prog hoardref19_loss_kp Try.f40 [.int .i64 ghosts0, .int .i64 all1] Q := rfl
theorem hoardref19_loss_calls {ghosts0 : Int} {all1 : Int} {Q : Value → WP} {w : World} (h : hoardref19_loss ghosts0 all1 Q w) : Calls Try.prog id_hoardref19_loss #[.int .i64 ghosts0, .int .i64 all1] w fun e w' => ∃ v, e = .returned v ∧ Q v w' :=
  funJ_calls mixed Try.func40 rfl h

-- hoard/hoardref19.Sum
def hoardref19_Sum_kp : KP := ⟨[(9, [1, 3, 4]), (14, [3])], []⟩
def hoardref19_Sum_j2 (jn : Jn) (Q : Value → WP)  (n3 : Int) : WP := jn 14 (fun ρ => codeI Try.prog hoardref19_Sum_kp jn (cAt [true, true, true] (bodyOf Try.f41)) (retK Try.prog Try.f41 Q) noX (retK Try.prog Try.f41 Q) ρ) (us 3 ((.int .u64 n3) :: us 11 []))
def hoardref19_Sum_l1 (jn : Jn) (Q : Value → WP)  (m1 : Nat) (w1_b : Nat) (w1_o : Nat) (n3 : Int) (i4 : Int) : WP := lop Try.prog hoardref19_Sum_kp jn (cAt [true, true, false, true, false, false] (bodyOf Try.f41)) (blkX 0 (seqK Try.prog hoardref19_Sum_kp jn (cAt [true, true, true] (bodyOf Try.f41)) (retK Try.prog Try.f41 Q) noX (retK Try.prog Try.f41 Q)) noX) (retK Try.prog Try.f41 Q) m1 (us 1 ((.pointer (some ⟨w1_b, w1_o, none⟩)) :: us 1 ((.int .u64 n3) :: (.int .i64 i4) :: us 10 [])))
def hoardref19_Sum (w0_0 : Int) (w0_1 : Int) (w0_2 : Int) (w0_3 : Int) (w0_4 : Int) (Q : Value → WP) : WP := funJ idJ Try.prog hoardref19_Sum_kp Try.f41 [.agg #[.int .u64 w0_0, .int .u64 w0_1, .int .u64 w0_2, .int .u64 w0_3, .int .u64 w0_4]] Q
theorem hoardref19_Sum_j2_raw (jn : Jn) (Q : Value → WP)  (n3 : Int) : codeI Try.prog hoardref19_Sum_kp jn (cAt [true, true, true] (bodyOf Try.f41)) (retK Try.prog Try.f41 Q) noX (retK Try.prog Try.f41 Q) (us 3 ((.int .u64 n3) :: us 11 [])) = (
  Q (.int .u64 n3)) := by kernel_rfl
theorem hoardref19_Sum_j2_def (Q : Value → WP)  (n3 : Int) : hoardref19_Sum_j2 idJ Q  n3 = codeI Try.prog hoardref19_Sum_kp idJ (cAt [true, true, true] (bodyOf Try.f41)) (retK Try.prog Try.f41 Q) noX (retK Try.prog Try.f41 Q) (us 3 ((.int .u64 n3) :: us 11 [])) := by kernel_rfl
theorem hoardref19_Sum_l1_raw (jn : Jn) (Q : Value → WP)  (m1 : Nat) (w1_b : Nat) (w1_o : Nat) (n3 : Int) (i4 : Int) : hoardref19_Sum_l1 jn Q  (m1 + 1) w1_b w1_o n3 i4 = (
  ite2 (decide (i4 < (5 : Int))) (
  when ((0 : Int) ≤ i4 ∧ i4 < ((5 : Nat) : Int)) <|
  ld (.int .u64) w1_b (w1_o + (i4).toNat * 1) fun (x_2 : Int) =>
  hoardref19_Sum_l1 jn Q  m1 w1_b w1_o (IntKind.wrap .u64 (n3 + x_2)) (IntKind.wrap .i64 (i4 + (1 : Int)))) (
  hoardref19_Sum_j2 jn Q  n3)) := by kernel_rfl
theorem hoardref19_Sum_l1_zero (jn : Jn) (Q : Value → WP)  (w1_b : Nat) (w1_o : Nat) (n3 : Int) (i4 : Int) : hoardref19_Sum_l1 jn Q  0 w1_b w1_o n3 i4 = bot := by kernel_rfl
theorem hoardref19_Sum_raw (jn : Jn) (w0_0 : Int) (w0_1 : Int) (w0_2 : Int) (w0_3 : Int) (w0_4 : Int) (Q : Value → WP) : funJ jn Try.prog hoardref19_Sum_kp Try.f41 [.agg #[.int .u64 w0_0, .int .u64 w0_1, .int .u64 w0_2, .int .u64 w0_3, .int .u64 w0_4]] Q = (
  newB [.int .u64 w0_0, .int .u64 w0_1, .int .u64 w0_2, .int .u64 w0_3, .int .u64 w0_4] ty_hoardref19_Weights fun b_1 =>
  exM fun m => hoardref19_Sum_l1 jn Q  m b_1 0 (0 : Int) (0 : Int)) := by kernel_rfl
theorem hoardref19_Sum_def (w0_0 : Int) (w0_1 : Int) (w0_2 : Int) (w0_3 : Int) (w0_4 : Int) (Q : Value → WP) : hoardref19_Sum w0_0 w0_1 w0_2 w0_3 w0_4 Q = funJ idJ Try.prog hoardref19_Sum_kp Try.f41 [.agg #[.int .u64 w0_0, .int .u64 w0_1, .int .u64 w0_2, .int .u64 w0_3, .int .u64 w0_4]] Q := rfl
theorem hoardref19_Sum_calls {w0_0 : Int} {w0_1 : Int} {w0_2 : Int} {w0_3 : Int} {w0_4 : Int} {Q : Value → WP} {w : World} (h : hoardref19_Sum w0_0 w0_1 w0_2 w0_3 w0_4 Q w) : Calls Try.prog id_hoardref19_Sum #[.agg #[.int .u64 w0_0, .int .u64 w0_1, .int .u64 w0_2, .int .u64 w0_3, .int .u64 w0_4]] w fun e w' => ∃ v, e = .returned v ∧ Q v w' :=
  funJ_calls mixed Try.func41 rfl h

-- hoard/hoardref2.Scale
def hoardref2_Scale_kp : KP := ⟨[(15, [2, 7, 8, 9, 10, 11]), (24, [2, 7, 8, 9, 10, 11, 12]), (36, [2, 7, 8, 9, 10, 11, 57]), (40, [9])], []⟩
def hoardref2_Scale_j3 (jn : Jn) (Q : Value → WP) (m1 : Nat) (den2 : Int) (h7 : Int) (l8 : Int) (q9 : Int) (r10 : Int) (i11 : Int) (t57 : Bool) : WP := jn 36 (fun ρ => codeI Try.prog hoardref2_Scale_kp jn (cAt [true, true, true, true, false, true, false, false, true, false, false, true, true, true, true, true, true, true] (bodyOf Try.f42)) (seqK Try.prog hoardref2_Scale_kp jn (cAt [true, true, true, true, false, true, false, false, true, true] (bodyOf Try.f42)) (lopK Try.prog hoardref2_Scale_kp jn (cAt [true, true, true, true, false, true, false, false] (bodyOf Try.f42)) (blkX 0 (seqK Try.prog hoardref2_Scale_kp jn (cAt [true, true, true, true, true] (bodyOf Try.f42)) (retK Try.prog Try.f42 Q) noX (retK Try.prog Try.f42 Q)) noX) (retK Try.prog Try.f42 Q) m1) (blkX 0 (seqK Try.prog hoardref2_Scale_kp jn (cAt [true, true, true, true, true] (bodyOf Try.f42)) (retK Try.prog Try.f42 Q) noX (retK Try.prog Try.f42 Q)) noX) (retK Try.prog Try.f42 Q)) (blkX 1 (seqK Try.prog hoardref2_Scale_kp jn (cAt [true, true, true, true, false, true, false, false, true, true] (bodyOf Try.f42)) (lopK Try.prog hoardref2_Scale_kp jn (cAt [true, true, true, true, false, true, false, false] (bodyOf Try.f42)) (blkX 0 (seqK Try.prog hoardref2_Scale_kp jn (cAt [true, true, true, true, true] (bodyOf Try.f42)) (retK Try.prog Try.f42 Q) noX (retK Try.prog Try.f42 Q)) noX) (retK Try.prog Try.f42 Q) m1) (blkX 0 (seqK Try.prog hoardref2_Scale_kp jn (cAt [true, true, true, true, true] (bodyOf Try.f42)) (retK Try.prog Try.f42 Q) noX (retK Try.prog Try.f42 Q)) noX) (retK Try.prog Try.f42 Q)) (blkX 0 (seqK Try.prog hoardref2_Scale_kp jn (cAt [true, true, true, true, true] (bodyOf Try.f42)) (retK Try.prog Try.f42 Q) noX (retK Try.prog Try.f42 Q)) noX)) (retK Try.prog Try.f42 Q) ρ) (us 2 ((.int .u64 den2) :: us 4 ((.int .u64 h7) :: (.int .u64 l8) :: (.int .u64 q9) :: (.int .u64 r10) :: (.int .i64 i11) :: us 45 ((.bool t57) :: us 6 []))))
def hoardref2_Scale_j2 (jn : Jn) (Q : Value → WP) (m1 : Nat) (den2 : Int) (h7 : Int) (l8 : Int) (q9 : Int) (r10 : Int) (i11 : Int) (bit12 : Int) : WP := jn 24 (fun ρ => codeI Try.prog hoardref2_Scale_kp jn (cAt [true, true, true, true, false, true, false, false, true, false, false, true, true] (bodyOf Try.f42)) (seqK Try.prog hoardref2_Scale_kp jn (cAt [true, true, true, true, false, true, false, false, true, true] (bodyOf Try.f42)) (lopK Try.prog hoardref2_Scale_kp jn (cAt [true, true, true, true, false, true, false, false] (bodyOf Try.f42)) (blkX 0 (seqK Try.prog hoardref2_Scale_kp jn (cAt [true, true, true, true, true] (bodyOf Try.f42)) (retK Try.prog Try.f42 Q) noX (retK Try.prog Try.f42 Q)) noX) (retK Try.prog Try.f42 Q) m1) (blkX 0 (seqK Try.prog hoardref2_Scale_kp jn (cAt [true, true, true, true, true] (bodyOf Try.f42)) (retK Try.prog Try.f42 Q) noX (retK Try.prog Try.f42 Q)) noX) (retK Try.prog Try.f42 Q)) (blkX 1 (seqK Try.prog hoardref2_Scale_kp jn (cAt [true, true, true, true, false, true, false, false, true, true] (bodyOf Try.f42)) (lopK Try.prog hoardref2_Scale_kp jn (cAt [true, true, true, true, false, true, false, false] (bodyOf Try.f42)) (blkX 0 (seqK Try.prog hoardref2_Scale_kp jn (cAt [true, true, true, true, true] (bodyOf Try.f42)) (retK Try.prog Try.f42 Q) noX (retK Try.prog Try.f42 Q)) noX) (retK Try.prog Try.f42 Q) m1) (blkX 0 (seqK Try.prog hoardref2_Scale_kp jn (cAt [true, true, true, true, true] (bodyOf Try.f42)) (retK Try.prog Try.f42 Q) noX (retK Try.prog Try.f42 Q)) noX) (retK Try.prog Try.f42 Q)) (blkX 0 (seqK Try.prog hoardref2_Scale_kp jn (cAt [true, true, true, true, true] (bodyOf Try.f42)) (retK Try.prog Try.f42 Q) noX (retK Try.prog Try.f42 Q)) noX)) (retK Try.prog Try.f42 Q) ρ) (us 2 ((.int .u64 den2) :: us 4 ((.int .u64 h7) :: (.int .u64 l8) :: (.int .u64 q9) :: (.int .u64 r10) :: (.int .i64 i11) :: (.int .u64 bit12) :: us 51 [])))
def hoardref2_Scale_j4 (jn : Jn) (Q : Value → WP)  (q9 : Int) : WP := jn 40 (fun ρ => codeI Try.prog hoardref2_Scale_kp jn (cAt [true, true, true, true, true] (bodyOf Try.f42)) (retK Try.prog Try.f42 Q) noX (retK Try.prog Try.f42 Q) ρ) (us 9 ((.int .u64 q9) :: us 54 []))
def hoardref2_Scale_l1 (jn : Jn) (Q : Value → WP)  (m1 : Nat) (den2 : Int) (h7 : Int) (l8 : Int) (q9 : Int) (r10 : Int) (i11 : Int) : WP := lop Try.prog hoardref2_Scale_kp jn (cAt [true, true, true, true, false, true, false, false] (bodyOf Try.f42)) (blkX 0 (seqK Try.prog hoardref2_Scale_kp jn (cAt [true, true, true, true, true] (bodyOf Try.f42)) (retK Try.prog Try.f42 Q) noX (retK Try.prog Try.f42 Q)) noX) (retK Try.prog Try.f42 Q) m1 (us 2 ((.int .u64 den2) :: us 4 ((.int .u64 h7) :: (.int .u64 l8) :: (.int .u64 q9) :: (.int .u64 r10) :: (.int .i64 i11) :: us 52 [])))
def hoardref2_Scale (a0 : Int) (num1 : Int) (den2 : Int) (Q : Value → WP) : WP := funJ idJ Try.prog hoardref2_Scale_kp Try.f42 [.int .u64 a0, .int .u64 num1, .int .u64 den2] Q
theorem hoardref2_Scale_j3_raw (jn : Jn) (Q : Value → WP) (m1 : Nat) (den2 : Int) (h7 : Int) (l8 : Int) (q9 : Int) (r10 : Int) (i11 : Int) (t57 : Bool) : codeI Try.prog hoardref2_Scale_kp jn (cAt [true, true, true, true, false, true, false, false, true, false, false, true, true, true, true, true, true, true] (bodyOf Try.f42)) (seqK Try.prog hoardref2_Scale_kp jn (cAt [true, true, true, true, false, true, false, false, true, true] (bodyOf Try.f42)) (lopK Try.prog hoardref2_Scale_kp jn (cAt [true, true, true, true, false, true, false, false] (bodyOf Try.f42)) (blkX 0 (seqK Try.prog hoardref2_Scale_kp jn (cAt [true, true, true, true, true] (bodyOf Try.f42)) (retK Try.prog Try.f42 Q) noX (retK Try.prog Try.f42 Q)) noX) (retK Try.prog Try.f42 Q) m1) (blkX 0 (seqK Try.prog hoardref2_Scale_kp jn (cAt [true, true, true, true, true] (bodyOf Try.f42)) (retK Try.prog Try.f42 Q) noX (retK Try.prog Try.f42 Q)) noX) (retK Try.prog Try.f42 Q)) (blkX 1 (seqK Try.prog hoardref2_Scale_kp jn (cAt [true, true, true, true, false, true, false, false, true, true] (bodyOf Try.f42)) (lopK Try.prog hoardref2_Scale_kp jn (cAt [true, true, true, true, false, true, false, false] (bodyOf Try.f42)) (blkX 0 (seqK Try.prog hoardref2_Scale_kp jn (cAt [true, true, true, true, true] (bodyOf Try.f42)) (retK Try.prog Try.f42 Q) noX (retK Try.prog Try.f42 Q)) noX) (retK Try.prog Try.f42 Q) m1) (blkX 0 (seqK Try.prog hoardref2_Scale_kp jn (cAt [true, true, true, true, true] (bodyOf Try.f42)) (retK Try.prog Try.f42 Q) noX (retK Try.prog Try.f42 Q)) noX) (retK Try.prog Try.f42 Q)) (blkX 0 (seqK Try.prog hoardref2_Scale_kp jn (cAt [true, true, true, true, true] (bodyOf Try.f42)) (retK Try.prog Try.f42 Q) noX (retK Try.prog Try.f42 Q)) noX)) (retK Try.prog Try.f42 Q) (us 2 ((.int .u64 den2) :: us 4 ((.int .u64 h7) :: (.int .u64 l8) :: (.int .u64 q9) :: (.int .u64 r10) :: (.int .i64 i11) :: us 45 ((.bool t57) :: us 6 [])))) = (
  ite2 t57 (
  hoardref2_Scale_l1 jn Q  m1 den2 h7 l8 (bits .or .u64 q9 (1 : Int)) (IntKind.wrap .u64 (r10 - den2)) (IntKind.wrap .i64 (i11 - (1 : Int)))) (
  hoardref2_Scale_l1 jn Q  m1 den2 h7 l8 q9 r10 (IntKind.wrap .i64 (i11 - (1 : Int))))) := by kernel_rfl
theorem hoardref2_Scale_j3_def (Q : Value → WP) (m1 : Nat) (den2 : Int) (h7 : Int) (l8 : Int) (q9 : Int) (r10 : Int) (i11 : Int) (t57 : Bool) : hoardref2_Scale_j3 idJ Q m1 den2 h7 l8 q9 r10 i11 t57 = codeI Try.prog hoardref2_Scale_kp idJ (cAt [true, true, true, true, false, true, false, false, true, false, false, true, true, true, true, true, true, true] (bodyOf Try.f42)) (seqK Try.prog hoardref2_Scale_kp idJ (cAt [true, true, true, true, false, true, false, false, true, true] (bodyOf Try.f42)) (lopK Try.prog hoardref2_Scale_kp idJ (cAt [true, true, true, true, false, true, false, false] (bodyOf Try.f42)) (blkX 0 (seqK Try.prog hoardref2_Scale_kp idJ (cAt [true, true, true, true, true] (bodyOf Try.f42)) (retK Try.prog Try.f42 Q) noX (retK Try.prog Try.f42 Q)) noX) (retK Try.prog Try.f42 Q) m1) (blkX 0 (seqK Try.prog hoardref2_Scale_kp idJ (cAt [true, true, true, true, true] (bodyOf Try.f42)) (retK Try.prog Try.f42 Q) noX (retK Try.prog Try.f42 Q)) noX) (retK Try.prog Try.f42 Q)) (blkX 1 (seqK Try.prog hoardref2_Scale_kp idJ (cAt [true, true, true, true, false, true, false, false, true, true] (bodyOf Try.f42)) (lopK Try.prog hoardref2_Scale_kp idJ (cAt [true, true, true, true, false, true, false, false] (bodyOf Try.f42)) (blkX 0 (seqK Try.prog hoardref2_Scale_kp idJ (cAt [true, true, true, true, true] (bodyOf Try.f42)) (retK Try.prog Try.f42 Q) noX (retK Try.prog Try.f42 Q)) noX) (retK Try.prog Try.f42 Q) m1) (blkX 0 (seqK Try.prog hoardref2_Scale_kp idJ (cAt [true, true, true, true, true] (bodyOf Try.f42)) (retK Try.prog Try.f42 Q) noX (retK Try.prog Try.f42 Q)) noX) (retK Try.prog Try.f42 Q)) (blkX 0 (seqK Try.prog hoardref2_Scale_kp idJ (cAt [true, true, true, true, true] (bodyOf Try.f42)) (retK Try.prog Try.f42 Q) noX (retK Try.prog Try.f42 Q)) noX)) (retK Try.prog Try.f42 Q) (us 2 ((.int .u64 den2) :: us 4 ((.int .u64 h7) :: (.int .u64 l8) :: (.int .u64 q9) :: (.int .u64 r10) :: (.int .i64 i11) :: us 45 ((.bool t57) :: us 6 [])))) := by kernel_rfl
theorem hoardref2_Scale_j2_raw (jn : Jn) (Q : Value → WP) (m1 : Nat) (den2 : Int) (h7 : Int) (l8 : Int) (q9 : Int) (r10 : Int) (i11 : Int) (bit12 : Int) : codeI Try.prog hoardref2_Scale_kp jn (cAt [true, true, true, true, false, true, false, false, true, false, false, true, true] (bodyOf Try.f42)) (seqK Try.prog hoardref2_Scale_kp jn (cAt [true, true, true, true, false, true, false, false, true, true] (bodyOf Try.f42)) (lopK Try.prog hoardref2_Scale_kp jn (cAt [true, true, true, true, false, true, false, false] (bodyOf Try.f42)) (blkX 0 (seqK Try.prog hoardref2_Scale_kp jn (cAt [true, true, true, true, true] (bodyOf Try.f42)) (retK Try.prog Try.f42 Q) noX (retK Try.prog Try.f42 Q)) noX) (retK Try.prog Try.f42 Q) m1) (blkX 0 (seqK Try.prog hoardref2_Scale_kp jn (cAt [true, true, true, true, true] (bodyOf Try.f42)) (retK Try.prog Try.f42 Q) noX (retK Try.prog Try.f42 Q)) noX) (retK Try.prog Try.f42 Q)) (blkX 1 (seqK Try.prog hoardref2_Scale_kp jn (cAt [true, true, true, true, false, true, false, false, true, true] (bodyOf Try.f42)) (lopK Try.prog hoardref2_Scale_kp jn (cAt [true, true, true, true, false, true, false, false] (bodyOf Try.f42)) (blkX 0 (seqK Try.prog hoardref2_Scale_kp jn (cAt [true, true, true, true, true] (bodyOf Try.f42)) (retK Try.prog Try.f42 Q) noX (retK Try.prog Try.f42 Q)) noX) (retK Try.prog Try.f42 Q) m1) (blkX 0 (seqK Try.prog hoardref2_Scale_kp jn (cAt [true, true, true, true, true] (bodyOf Try.f42)) (retK Try.prog Try.f42 Q) noX (retK Try.prog Try.f42 Q)) noX) (retK Try.prog Try.f42 Q)) (blkX 0 (seqK Try.prog hoardref2_Scale_kp jn (cAt [true, true, true, true, true] (bodyOf Try.f42)) (retK Try.prog Try.f42 Q) noX (retK Try.prog Try.f42 Q)) noX)) (retK Try.prog Try.f42 Q) (us 2 ((.int .u64 den2) :: us 4 ((.int .u64 h7) :: (.int .u64 l8) :: (.int .u64 q9) :: (.int .u64 r10) :: (.int .i64 i11) :: (.int .u64 bit12) :: us 51 []))) = (
  when ((0 : Int) ≤ (63 : Int)) <|
  ite2 ((shrV .u64 q9 (63 : Int)) != (0 : Int)) (
  Q (.int .u64 (18446744073709551615 : Int))) (
  when ((0 : Int) ≤ (63 : Int)) <|
  when ((0 : Int) ≤ (1 : Int)) <|
  when ((0 : Int) ≤ (1 : Int)) <|
  ite2 ((shrV .u64 r10 (63 : Int)) == (1 : Int)) (
  hoardref2_Scale_j3 jn Q m1 den2 h7 l8 (shlV .u64 q9 (1 : Int)) (bits .or .u64 (shlV .u64 r10 (1 : Int)) bit12) i11 true) (
  hoardref2_Scale_j3 jn Q m1 den2 h7 l8 (shlV .u64 q9 (1 : Int)) (bits .or .u64 (shlV .u64 r10 (1 : Int)) bit12) i11 (decide ((bits .or .u64 (shlV .u64 r10 (1 : Int)) bit12) ≥ den2))))) := by kernel_rfl
theorem hoardref2_Scale_j2_def (Q : Value → WP) (m1 : Nat) (den2 : Int) (h7 : Int) (l8 : Int) (q9 : Int) (r10 : Int) (i11 : Int) (bit12 : Int) : hoardref2_Scale_j2 idJ Q m1 den2 h7 l8 q9 r10 i11 bit12 = codeI Try.prog hoardref2_Scale_kp idJ (cAt [true, true, true, true, false, true, false, false, true, false, false, true, true] (bodyOf Try.f42)) (seqK Try.prog hoardref2_Scale_kp idJ (cAt [true, true, true, true, false, true, false, false, true, true] (bodyOf Try.f42)) (lopK Try.prog hoardref2_Scale_kp idJ (cAt [true, true, true, true, false, true, false, false] (bodyOf Try.f42)) (blkX 0 (seqK Try.prog hoardref2_Scale_kp idJ (cAt [true, true, true, true, true] (bodyOf Try.f42)) (retK Try.prog Try.f42 Q) noX (retK Try.prog Try.f42 Q)) noX) (retK Try.prog Try.f42 Q) m1) (blkX 0 (seqK Try.prog hoardref2_Scale_kp idJ (cAt [true, true, true, true, true] (bodyOf Try.f42)) (retK Try.prog Try.f42 Q) noX (retK Try.prog Try.f42 Q)) noX) (retK Try.prog Try.f42 Q)) (blkX 1 (seqK Try.prog hoardref2_Scale_kp idJ (cAt [true, true, true, true, false, true, false, false, true, true] (bodyOf Try.f42)) (lopK Try.prog hoardref2_Scale_kp idJ (cAt [true, true, true, true, false, true, false, false] (bodyOf Try.f42)) (blkX 0 (seqK Try.prog hoardref2_Scale_kp idJ (cAt [true, true, true, true, true] (bodyOf Try.f42)) (retK Try.prog Try.f42 Q) noX (retK Try.prog Try.f42 Q)) noX) (retK Try.prog Try.f42 Q) m1) (blkX 0 (seqK Try.prog hoardref2_Scale_kp idJ (cAt [true, true, true, true, true] (bodyOf Try.f42)) (retK Try.prog Try.f42 Q) noX (retK Try.prog Try.f42 Q)) noX) (retK Try.prog Try.f42 Q)) (blkX 0 (seqK Try.prog hoardref2_Scale_kp idJ (cAt [true, true, true, true, true] (bodyOf Try.f42)) (retK Try.prog Try.f42 Q) noX (retK Try.prog Try.f42 Q)) noX)) (retK Try.prog Try.f42 Q) (us 2 ((.int .u64 den2) :: us 4 ((.int .u64 h7) :: (.int .u64 l8) :: (.int .u64 q9) :: (.int .u64 r10) :: (.int .i64 i11) :: (.int .u64 bit12) :: us 51 []))) := by kernel_rfl
theorem hoardref2_Scale_j4_raw (jn : Jn) (Q : Value → WP)  (q9 : Int) : codeI Try.prog hoardref2_Scale_kp jn (cAt [true, true, true, true, true] (bodyOf Try.f42)) (retK Try.prog Try.f42 Q) noX (retK Try.prog Try.f42 Q) (us 9 ((.int .u64 q9) :: us 54 [])) = (
  Q (.int .u64 q9)) := by kernel_rfl
theorem hoardref2_Scale_j4_def (Q : Value → WP)  (q9 : Int) : hoardref2_Scale_j4 idJ Q  q9 = codeI Try.prog hoardref2_Scale_kp idJ (cAt [true, true, true, true, true] (bodyOf Try.f42)) (retK Try.prog Try.f42 Q) noX (retK Try.prog Try.f42 Q) (us 9 ((.int .u64 q9) :: us 54 [])) := by kernel_rfl
theorem hoardref2_Scale_l1_raw (jn : Jn) (Q : Value → WP)  (m1 : Nat) (den2 : Int) (h7 : Int) (l8 : Int) (q9 : Int) (r10 : Int) (i11 : Int) : hoardref2_Scale_l1 jn Q  (m1 + 1) den2 h7 l8 q9 r10 i11 = (
  ite2 (decide (i11 ≥ (0 : Int))) (
  when ((0 : Int) ≤ (IntKind.wrap .u64 (bits .and .i64 i11 (63 : Int)))) <|
  ite2 (decide (i11 ≥ (64 : Int))) (
  when ((0 : Int) ≤ (IntKind.wrap .u64 (IntKind.wrap .i64 (i11 - (64 : Int))))) <|
  hoardref2_Scale_j2 jn Q m1 den2 h7 l8 q9 r10 i11 (bits .and .u64 (shrV .u64 h7 (IntKind.wrap .u64 (IntKind.wrap .i64 (i11 - (64 : Int))))) (1 : Int))) (
  hoardref2_Scale_j2 jn Q m1 den2 h7 l8 q9 r10 i11 (bits .and .u64 (shrV .u64 l8 (IntKind.wrap .u64 (bits .and .i64 i11 (63 : Int)))) (1 : Int)))) (
  hoardref2_Scale_j4 jn Q  q9)) := by kernel_rfl
theorem hoardref2_Scale_l1_zero (jn : Jn) (Q : Value → WP)  (den2 : Int) (h7 : Int) (l8 : Int) (q9 : Int) (r10 : Int) (i11 : Int) : hoardref2_Scale_l1 jn Q  0 den2 h7 l8 q9 r10 i11 = bot := by kernel_rfl
theorem hoardref2_Scale_raw (jn : Jn) (a0 : Int) (num1 : Int) (den2 : Int) (Q : Value → WP) : funJ jn Try.prog hoardref2_Scale_kp Try.f42 [.int .u64 a0, .int .u64 num1, .int .u64 den2] Q = (
  ite2 (den2 == (0 : Int)) (
  Q (.int .u64 (18446744073709551615 : Int))) (
  call2 (.int .u64) (.int .u64) Try.prog id_hoardref2_times [.int .u64 a0, .int .u64 num1] fun (x_1 : Int) (x_2 : Int) =>
  exM fun m => hoardref2_Scale_l1 jn Q  m den2 x_1 x_2 (0 : Int) (0 : Int) (127 : Int))) := by kernel_rfl
theorem hoardref2_Scale_def (a0 : Int) (num1 : Int) (den2 : Int) (Q : Value → WP) : hoardref2_Scale a0 num1 den2 Q = funJ idJ Try.prog hoardref2_Scale_kp Try.f42 [.int .u64 a0, .int .u64 num1, .int .u64 den2] Q := rfl
theorem hoardref2_Scale_calls {a0 : Int} {num1 : Int} {den2 : Int} {Q : Value → WP} {w : World} (h : hoardref2_Scale a0 num1 den2 Q w) : Calls Try.prog id_hoardref2_Scale #[.int .u64 a0, .int .u64 num1, .int .u64 den2] w fun e w' => ∃ v, e = .returned v ∧ Q v w' :=
  funJ_calls mixed Try.func42 rfl h

-- hoard/fix.Clamp
def fix_Clamp_kp : KP := ⟨[], []⟩
def fix_Clamp (n0 : Int) (low1 : Int) (high2 : Int) (Q : Value → WP) : WP := funJ idJ Try.prog fix_Clamp_kp Try.f43 [.int .i64 n0, .int .i64 low1, .int .i64 high2] Q
theorem fix_Clamp_raw (jn : Jn) (n0 : Int) (low1 : Int) (high2 : Int) (Q : Value → WP) : funJ jn Try.prog fix_Clamp_kp Try.f43 [.int .i64 n0, .int .i64 low1, .int .i64 high2] Q = (
  Q (.int .i64 (if high2 < (if low1 > n0 then low1 else n0) then high2 else (if low1 > n0 then low1 else n0)))) := by kernel_rfl
theorem fix_Clamp_def (n0 : Int) (low1 : Int) (high2 : Int) (Q : Value → WP) : fix_Clamp n0 low1 high2 Q = funJ idJ Try.prog fix_Clamp_kp Try.f43 [.int .i64 n0, .int .i64 low1, .int .i64 high2] Q := rfl
theorem fix_Clamp_calls {n0 : Int} {low1 : Int} {high2 : Int} {Q : Value → WP} {w : World} (h : fix_Clamp n0 low1 high2 Q w) : Calls Try.prog id_fix_Clamp #[.int .i64 n0, .int .i64 low1, .int .i64 high2] w fun e w' => ∃ v, e = .returned v ∧ Q v w' :=
  funJ_calls mixed Try.func43 rfl h

-- math/bits.Mul64
def math_bits_Mul64_kp : KP := ⟨[], []⟩
def math_bits_Mul64 (x0 : Int) (y1 : Int) (Q : Value → WP) : WP := funJ idJ Try.prog math_bits_Mul64_kp Try.f44 [.int .u64 x0, .int .u64 y1] Q
theorem math_bits_Mul64_raw (jn : Jn) (x0 : Int) (y1 : Int) (Q : Value → WP) : funJ jn Try.prog math_bits_Mul64_kp Try.f44 [.int .u64 x0, .int .u64 y1] Q = (
  when ((0 : Int) ≤ (32 : Int)) <|
  when ((0 : Int) ≤ (32 : Int)) <|
  when ((0 : Int) ≤ (32 : Int)) <|
  when ((0 : Int) ≤ (32 : Int)) <|
  when ((0 : Int) ≤ (32 : Int)) <|
  Q (.tuple #[.int .u64 (IntKind.wrap .u64 ((IntKind.wrap .u64 ((IntKind.wrap .u64 ((shrV .u64 x0 (32 : Int)) * (shrV .u64 y1 (32 : Int)))) + (shrV .u64 (IntKind.wrap .u64 ((IntKind.wrap .u64 ((shrV .u64 x0 (32 : Int)) * (bits .and .u64 y1 (4294967295 : Int)))) + (shrV .u64 (IntKind.wrap .u64 ((bits .and .u64 x0 (4294967295 : Int)) * (bits .and .u64 y1 (4294967295 : Int)))) (32 : Int)))) (32 : Int)))) + (shrV .u64 (IntKind.wrap .u64 ((bits .and .u64 (IntKind.wrap .u64 ((IntKind.wrap .u64 ((shrV .u64 x0 (32 : Int)) * (bits .and .u64 y1 (4294967295 : Int)))) + (shrV .u64 (IntKind.wrap .u64 ((bits .and .u64 x0 (4294967295 : Int)) * (bits .and .u64 y1 (4294967295 : Int)))) (32 : Int)))) (4294967295 : Int)) + (IntKind.wrap .u64 ((bits .and .u64 x0 (4294967295 : Int)) * (shrV .u64 y1 (32 : Int)))))) (32 : Int)))), .int .u64 (IntKind.wrap .u64 (x0 * y1))])) := by kernel_rfl
theorem math_bits_Mul64_def (x0 : Int) (y1 : Int) (Q : Value → WP) : math_bits_Mul64 x0 y1 Q = funJ idJ Try.prog math_bits_Mul64_kp Try.f44 [.int .u64 x0, .int .u64 y1] Q := rfl
theorem math_bits_Mul64_calls {x0 : Int} {y1 : Int} {Q : Value → WP} {w : World} (h : math_bits_Mul64 x0 y1 Q w) : Calls Try.prog id_math_bits_Mul64 #[.int .u64 x0, .int .u64 y1] w fun e w' => ∃ v, e = .returned v ∧ Q v w' :=
  funJ_calls mixed Try.func44 rfl h

-- math/bits.Div64
def math_bits_Div64_kp : KP := ⟨[(8, [0, 1, 2]), (12, [0, 1, 2]), (37, [2, 8, 9, 10, 11, 13, 14, 15, 16]), (38, [2, 8, 9, 10, 11, 13, 14, 15, 16]), (44, [2, 8, 9, 10, 11, 13, 14, 15]), (51, [2, 8, 9, 10, 14, 15, 16, 17, 18]), (52, [2, 8, 9, 10, 14, 15, 16, 17, 18]), (58, [2, 8, 14, 15, 17, 18])], [(6, [0, 1, 2, 3, 4, 5, 6, 7])]⟩
def math_bits_Div64_j8 (jn : Jn) (Q : Value → WP)  (y2 : Int) (s8 : Int) (un014 : Int) (q115 : Int) (un2117 : Int) (q018 : Int) : WP := jn 58 (fun ρ => codeI Try.prog math_bits_Div64_kp jn (cAt [true, true, true, true, true, true, true, true, true, true, true, true, true, true, true, true, true, true, true] (bodyOf Try.f45)) (retK Try.prog Try.f45 Q) noX (retK Try.prog Try.f45 Q) ρ) (us 2 ((.int .u64 y2) :: us 5 ((.int .u64 s8) :: us 5 ((.int .u64 un014) :: (.int .u64 q115) :: us 1 ((.int .u64 un2117) :: (.int .u64 q018) :: us 116 [])))))
def math_bits_Div64_j7 (jn : Jn) (Q : Value → WP) (m6 : Nat) (y2 : Int) (s8 : Int) (yn19 : Int) (yn010 : Int) (un014 : Int) (q115 : Int) (rhat16 : Int) (un2117 : Int) (q018 : Int) : WP := jn 52 (fun ρ => codeI Try.prog math_bits_Div64_kp jn (cAt [true, true, true, true, true, true, true, true, true, true, true, true, true, true, true, true, true, true, false, false, false, true] (bodyOf Try.f45)) (lopK Try.prog math_bits_Div64_kp jn (cAt [true, true, true, true, true, true, true, true, true, true, true, true, true, true, true, true, true, true, false, false, false] (bodyOf Try.f45)) (blkX 2 (seqK Try.prog math_bits_Div64_kp jn (cAt [true, true, true, true, true, true, true, true, true, true, true, true, true, true, true, true, true, true, true] (bodyOf Try.f45)) (retK Try.prog Try.f45 Q) noX (retK Try.prog Try.f45 Q)) noX) (retK Try.prog Try.f45 Q) m6) (blkX 2 (seqK Try.prog math_bits_Div64_kp jn (cAt [true, true, true, true, true, true, true, true, true, true, true, true, true, true, true, true, true, true, true] (bodyOf Try.f45)) (retK Try.prog Try.f45 Q) noX (retK Try.prog Try.f45 Q)) noX) (retK Try.prog Try.f45 Q) ρ) (us 2 ((.int .u64 y2) :: us 5 ((.int .u64 s8) :: (.int .u64 yn19) :: (.int .u64 yn010) :: us 3 ((.int .u64 un014) :: (.int .u64 q115) :: (.int .u64 rhat16) :: (.int .u64 un2117) :: (.int .u64 q018) :: us 116 []))))
def math_bits_Div64_l6 (jn : Jn) (Q : Value → WP)  (m6 : Nat) (y2 : Int) (s8 : Int) (yn19 : Int) (yn010 : Int) (un014 : Int) (q115 : Int) (rhat16 : Int) (un2117 : Int) (q018 : Int) : WP := lop Try.prog math_bits_Div64_kp jn (cAt [true, true, true, true, true, true, true, true, true, true, true, true, true, true, true, true, true, true, false, false, false] (bodyOf Try.f45)) (blkX 2 (seqK Try.prog math_bits_Div64_kp jn (cAt [true, true, true, true, true, true, true, true, true, true, true, true, true, true, true, true, true, true, true] (bodyOf Try.f45)) (retK Try.prog Try.f45 Q) noX (retK Try.prog Try.f45 Q)) noX) (retK Try.prog Try.f45 Q) m6 (us 2 ((.int .u64 y2) :: us 5 ((.int .u64 s8) :: (.int .u64 yn19) :: (.int .u64 yn010) :: us 3 ((.int .u64 un014) :: (.int .u64 q115) :: (.int .u64 rhat16) :: (.int .u64 un2117) :: (.int .u64 q018) :: us 116 []))))
def math_bits_Div64_j5 (jn : Jn) (Q : Value → WP)  (y2 : Int) (s8 : Int) (yn19 : Int) (yn010 : Int) (un3211 : Int) (un113 : Int) (un014 : Int) (q115 : Int) : WP := jn 44 (fun ρ => codeI Try.prog math_bits_Div64_kp jn (cAt [true, true, true, true, true, true, true, true, true, true, true, true, true, true, true] (bodyOf Try.f45)) (retK Try.prog Try.f45 Q) noX (retK Try.prog Try.f45 Q) ρ) (us 2 ((.int .u64 y2) :: us 5 ((.int .u64 s8) :: (.int .u64 yn19) :: (.int .u64 yn010) :: (.int .u64 un3211) :: us 1 ((.int .u64 un113) :: (.int .u64 un014) :: (.int .u64 q115) :: us 119 []))))
def math_bits_Div64_j4 (jn : Jn) (Q : Value → WP) (m3 : Nat) (y2 : Int) (s8 : Int) (yn19 : Int) (yn010 : Int) (un3211 : Int) (un113 : Int) (un014 : Int) (q115 : Int) (rhat16 : Int) : WP := jn 38 (fun ρ => codeI Try.prog math_bits_Div64_kp jn (cAt [true, true, true, true, true, true, true, true, true, true, true, true, true, true, false, false, false, true] (bodyOf Try.f45)) (lopK Try.prog math_bits_Div64_kp jn (cAt [true, true, true, true, true, true, true, true, true, true, true, true, true, true, false, false, false] (bodyOf Try.f45)) (blkX 0 (seqK Try.prog math_bits_Div64_kp jn (cAt [true, true, true, true, true, true, true, true, true, true, true, true, true, true, true] (bodyOf Try.f45)) (retK Try.prog Try.f45 Q) noX (retK Try.prog Try.f45 Q)) noX) (retK Try.prog Try.f45 Q) m3) (blkX 0 (seqK Try.prog math_bits_Div64_kp jn (cAt [true, true, true, true, true, true, true, true, true, true, true, true, true, true, true] (bodyOf Try.f45)) (retK Try.prog Try.f45 Q) noX (retK Try.prog Try.f45 Q)) noX) (retK Try.prog Try.f45 Q) ρ) (us 2 ((.int .u64 y2) :: us 5 ((.int .u64 s8) :: (.int .u64 yn19) :: (.int .u64 yn010) :: (.int .u64 un3211) :: us 1 ((.int .u64 un113) :: (.int .u64 un014) :: (.int .u64 q115) :: (.int .u64 rhat16) :: us 118 []))))
def math_bits_Div64_l3 (jn : Jn) (Q : Value → WP)  (m3 : Nat) (y2 : Int) (s8 : Int) (yn19 : Int) (yn010 : Int) (un3211 : Int) (un113 : Int) (un014 : Int) (q115 : Int) (rhat16 : Int) : WP := lop Try.prog math_bits_Div64_kp jn (cAt [true, true, true, true, true, true, true, true, true, true, true, true, true, true, false, false, false] (bodyOf Try.f45)) (blkX 0 (seqK Try.prog math_bits_Div64_kp jn (cAt [true, true, true, true, true, true, true, true, true, true, true, true, true, true, true] (bodyOf Try.f45)) (retK Try.prog Try.f45 Q) noX (retK Try.prog Try.f45 Q)) noX) (retK Try.prog Try.f45 Q) m3 (us 2 ((.int .u64 y2) :: us 5 ((.int .u64 s8) :: (.int .u64 yn19) :: (.int .u64 yn010) :: (.int .u64 un3211) :: us 1 ((.int .u64 un113) :: (.int .u64 un014) :: (.int .u64 q115) :: (.int .u64 rhat16) :: us 118 []))))
def math_bits_Div64_j2 (jn : Jn) (Q : Value → WP)  (hi0 : Int) (lo1 : Int) (y2 : Int) : WP := jn 12 (fun ρ => codeI Try.prog math_bits_Div64_kp jn (cAt [true, true, true] (bodyOf Try.f45)) (retK Try.prog Try.f45 Q) noX (retK Try.prog Try.f45 Q) ρ) ((.int .u64 hi0) :: (.int .u64 lo1) :: (.int .u64 y2) :: us 132 [])
def math_bits_Div64_j1 (jn : Jn) (Q : Value → WP)  (hi0 : Int) (lo1 : Int) (y2 : Int) : WP := jn 8 (fun ρ => codeI Try.prog math_bits_Div64_kp jn (cAt [true, true] (bodyOf Try.f45)) (retK Try.prog Try.f45 Q) noX (retK Try.prog Try.f45 Q) ρ) ((.int .u64 hi0) :: (.int .u64 lo1) :: (.int .u64 y2) :: us 132 [])
def math_bits_Div64 (hi0 : Int) (lo1 : Int) (y2 : Int) (Q : Value → WP) : WP := funJ idJ Try.prog math_bits_Div64_kp Try.f45 [.int .u64 hi0, .int .u64 lo1, .int .u64 y2] Q
theorem math_bits_Div64_j8_raw (jn : Jn) (Q : Value → WP)  (y2 : Int) (s8 : Int) (un014 : Int) (q115 : Int) (un2117 : Int) (q018 : Int) : codeI Try.prog math_bits_Div64_kp jn (cAt [true, true, true, true, true, true, true, true, true, true, true, true, true, true, true, true, true, true, true] (bodyOf Try.f45)) (retK Try.prog Try.f45 Q) noX (retK Try.prog Try.f45 Q) (us 2 ((.int .u64 y2) :: us 5 ((.int .u64 s8) :: us 5 ((.int .u64 un014) :: (.int .u64 q115) :: us 1 ((.int .u64 un2117) :: (.int .u64 q018) :: us 116 []))))) = (
  when ((0 : Int) ≤ s8) <|
  Q (.tuple #[.int .u64 (IntKind.wrap .u64 ((IntKind.wrap .u64 (q115 * (4294967296 : Int))) + q018)), .int .u64 (shrV .u64 (IntKind.wrap .u64 ((IntKind.wrap .u64 ((IntKind.wrap .u64 (un2117 * (4294967296 : Int))) + un014)) - (IntKind.wrap .u64 (q018 * y2)))) s8)])) := by kernel_rfl
theorem math_bits_Div64_j8_def (Q : Value → WP)  (y2 : Int) (s8 : Int) (un014 : Int) (q115 : Int) (un2117 : Int) (q018 : Int) : math_bits_Div64_j8 idJ Q  y2 s8 un014 q115 un2117 q018 = codeI Try.prog math_bits_Div64_kp idJ (cAt [true, true, true, true, true, true, true, true, true, true, true, true, true, true, true, true, true, true, true] (bodyOf Try.f45)) (retK Try.prog Try.f45 Q) noX (retK Try.prog Try.f45 Q) (us 2 ((.int .u64 y2) :: us 5 ((.int .u64 s8) :: us 5 ((.int .u64 un014) :: (.int .u64 q115) :: us 1 ((.int .u64 un2117) :: (.int .u64 q018) :: us 116 []))))) := by kernel_rfl
theorem math_bits_Div64_j7_raw (jn : Jn) (Q : Value → WP) (m6 : Nat) (y2 : Int) (s8 : Int) (yn19 : Int) (yn010 : Int) (un014 : Int) (q115 : Int) (rhat16 : Int) (un2117 : Int) (q018 : Int) : codeI Try.prog math_bits_Div64_kp jn (cAt [true, true, true, true, true, true, true, true, true, true, true, true, true, true, true, true, true, true, false, false, false, true] (bodyOf Try.f45)) (lopK Try.prog math_bits_Div64_kp jn (cAt [true, true, true, true, true, true, true, true, true, true, true, true, true, true, true, true, true, true, false, false, false] (bodyOf Try.f45)) (blkX 2 (seqK Try.prog math_bits_Div64_kp jn (cAt [true, true, true, true, true, true, true, true, true, true, true, true, true, true, true, true, true, true, true] (bodyOf Try.f45)) (retK Try.prog Try.f45 Q) noX (retK Try.prog Try.f45 Q)) noX) (retK Try.prog Try.f45 Q) m6) (blkX 2 (seqK Try.prog math_bits_Div64_kp jn (cAt [true, true, true, true, true, true, true, true, true, true, true, true, true, true, true, true, true, true, true] (bodyOf Try.f45)) (retK Try.prog Try.f45 Q) noX (retK Try.prog Try.f45 Q)) noX) (retK Try.prog Try.f45 Q) (us 2 ((.int .u64 y2) :: us 5 ((.int .u64 s8) :: (.int .u64 yn19) :: (.int .u64 yn010) :: us 3 ((.int .u64 un014) :: (.int .u64 q115) :: (.int .u64 rhat16) :: (.int .u64 un2117) :: (.int .u64 q018) :: us 116 [])))) = (
  ite2 (decide ((IntKind.wrap .u64 (rhat16 + yn19)) ≥ (4294967296 : Int))) (
  math_bits_Div64_j8 jn Q  y2 s8 un014 q115 un2117 (IntKind.wrap .u64 (q018 - (1 : Int)))) (
  math_bits_Div64_l6 jn Q  m6 y2 s8 yn19 yn010 un014 q115 (IntKind.wrap .u64 (rhat16 + yn19)) un2117 (IntKind.wrap .u64 (q018 - (1 : Int))))) := by kernel_rfl
theorem math_bits_Div64_j7_def (Q : Value → WP) (m6 : Nat) (y2 : Int) (s8 : Int) (yn19 : Int) (yn010 : Int) (un014 : Int) (q115 : Int) (rhat16 : Int) (un2117 : Int) (q018 : Int) : math_bits_Div64_j7 idJ Q m6 y2 s8 yn19 yn010 un014 q115 rhat16 un2117 q018 = codeI Try.prog math_bits_Div64_kp idJ (cAt [true, true, true, true, true, true, true, true, true, true, true, true, true, true, true, true, true, true, false, false, false, true] (bodyOf Try.f45)) (lopK Try.prog math_bits_Div64_kp idJ (cAt [true, true, true, true, true, true, true, true, true, true, true, true, true, true, true, true, true, true, false, false, false] (bodyOf Try.f45)) (blkX 2 (seqK Try.prog math_bits_Div64_kp idJ (cAt [true, true, true, true, true, true, true, true, true, true, true, true, true, true, true, true, true, true, true] (bodyOf Try.f45)) (retK Try.prog Try.f45 Q) noX (retK Try.prog Try.f45 Q)) noX) (retK Try.prog Try.f45 Q) m6) (blkX 2 (seqK Try.prog math_bits_Div64_kp idJ (cAt [true, true, true, true, true, true, true, true, true, true, true, true, true, true, true, true, true, true, true] (bodyOf Try.f45)) (retK Try.prog Try.f45 Q) noX (retK Try.prog Try.f45 Q)) noX) (retK Try.prog Try.f45 Q) (us 2 ((.int .u64 y2) :: us 5 ((.int .u64 s8) :: (.int .u64 yn19) :: (.int .u64 yn010) :: us 3 ((.int .u64 un014) :: (.int .u64 q115) :: (.int .u64 rhat16) :: (.int .u64 un2117) :: (.int .u64 q018) :: us 116 [])))) := by kernel_rfl
theorem math_bits_Div64_l6_raw (jn : Jn) (Q : Value → WP)  (m6 : Nat) (y2 : Int) (s8 : Int) (yn19 : Int) (yn010 : Int) (un014 : Int) (q115 : Int) (rhat16 : Int) (un2117 : Int) (q018 : Int) : math_bits_Div64_l6 jn Q  (m6 + 1) y2 s8 yn19 yn010 un014 q115 rhat16 un2117 q018 = (
  ite2 (decide (q018 ≥ (4294967296 : Int))) (
  math_bits_Div64_j7 jn Q m6 y2 s8 yn19 yn010 un014 q115 rhat16 un2117 q018) (
  ite2 (decide ((IntKind.wrap .u64 (q018 * yn010)) > (IntKind.wrap .u64 ((IntKind.wrap .u64 ((4294967296 : Int) * rhat16)) + un014)))) (
  math_bits_Div64_j7 jn Q m6 y2 s8 yn19 yn010 un014 q115 rhat16 un2117 q018) (
  math_bits_Div64_j8 jn Q  y2 s8 un014 q115 un2117 q018))) := by kernel_rfl
theorem math_bits_Div64_l6_zero (jn : Jn) (Q : Value → WP)  (y2 : Int) (s8 : Int) (yn19 : Int) (yn010 : Int) (un014 : Int) (q115 : Int) (rhat16 : Int) (un2117 : Int) (q018 : Int) : math_bits_Div64_l6 jn Q  0 y2 s8 yn19 yn010 un014 q115 rhat16 un2117 q018 = bot := by kernel_rfl
theorem math_bits_Div64_j5_raw (jn : Jn) (Q : Value → WP)  (y2 : Int) (s8 : Int) (yn19 : Int) (yn010 : Int) (un3211 : Int) (un113 : Int) (un014 : Int) (q115 : Int) : codeI Try.prog math_bits_Div64_kp jn (cAt [true, true, true, true, true, true, true, true, true, true, true, true, true, true, true] (bodyOf Try.f45)) (retK Try.prog Try.f45 Q) noX (retK Try.prog Try.f45 Q) (us 2 ((.int .u64 y2) :: us 5 ((.int .u64 s8) :: (.int .u64 yn19) :: (.int .u64 yn010) :: (.int .u64 un3211) :: us 1 ((.int .u64 un113) :: (.int .u64 un014) :: (.int .u64 q115) :: us 119 [])))) = (
  when (yn19 ≠ 0) <|
  exM fun m => math_bits_Div64_l6 jn Q  m y2 s8 yn19 yn010 un014 q115 (IntKind.wrap .u64 ((IntKind.wrap .u64 ((IntKind.wrap .u64 ((IntKind.wrap .u64 (un3211 * (4294967296 : Int))) + un113)) - (IntKind.wrap .u64 (q115 * y2)))) - (IntKind.wrap .u64 ((IntKind.wrap .u64 (Int.tdiv (IntKind.wrap .u64 ((IntKind.wrap .u64 ((IntKind.wrap .u64 (un3211 * (4294967296 : Int))) + un113)) - (IntKind.wrap .u64 (q115 * y2)))) yn19)) * yn19)))) (IntKind.wrap .u64 ((IntKind.wrap .u64 ((IntKind.wrap .u64 (un3211 * (4294967296 : Int))) + un113)) - (IntKind.wrap .u64 (q115 * y2)))) (IntKind.wrap .u64 (Int.tdiv (IntKind.wrap .u64 ((IntKind.wrap .u64 ((IntKind.wrap .u64 (un3211 * (4294967296 : Int))) + un113)) - (IntKind.wrap .u64 (q115 * y2)))) yn19))) := by kernel_rfl
theorem math_bits_Div64_j5_def (Q : Value → WP)  (y2 : Int) (s8 : Int) (yn19 : Int) (yn010 : Int) (un3211 : Int) (un113 : Int) (un014 : Int) (q115 : Int) : math_bits_Div64_j5 idJ Q  y2 s8 yn19 yn010 un3211 un113 un014 q115 = codeI Try.prog math_bits_Div64_kp idJ (cAt [true, true, true, true, true, true, true, true, true, true, true, true, true, true, true] (bodyOf Try.f45)) (retK Try.prog Try.f45 Q) noX (retK Try.prog Try.f45 Q) (us 2 ((.int .u64 y2) :: us 5 ((.int .u64 s8) :: (.int .u64 yn19) :: (.int .u64 yn010) :: (.int .u64 un3211) :: us 1 ((.int .u64 un113) :: (.int .u64 un014) :: (.int .u64 q115) :: us 119 [])))) := by kernel_rfl
theorem math_bits_Div64_j4_raw (jn : Jn) (Q : Value → WP) (m3 : Nat) (y2 : Int) (s8 : Int) (yn19 : Int) (yn010 : Int) (un3211 : Int) (un113 : Int) (un014 : Int) (q115 : Int) (rhat16 : Int) : codeI Try.prog math_bits_Div64_kp jn (cAt [true, true, true, true, true, true, true, true, true, true, true, true, true, true, false, false, false, true] (bodyOf Try.f45)) (lopK Try.prog math_bits_Div64_kp jn (cAt [true, true, true, true, true, true, true, true, true, true, true, true, true, true, false, false, false] (bodyOf Try.f45)) (blkX 0 (seqK Try.prog math_bits_Div64_kp jn (cAt [true, true, true, true, true, true, true, true, true, true, true, true, true, true, true] (bodyOf Try.f45)) (retK Try.prog Try.f45 Q) noX (retK Try.prog Try.f45 Q)) noX) (retK Try.prog Try.f45 Q) m3) (blkX 0 (seqK Try.prog math_bits_Div64_kp jn (cAt [true, true, true, true, true, true, true, true, true, true, true, true, true, true, true] (bodyOf Try.f45)) (retK Try.prog Try.f45 Q) noX (retK Try.prog Try.f45 Q)) noX) (retK Try.prog Try.f45 Q) (us 2 ((.int .u64 y2) :: us 5 ((.int .u64 s8) :: (.int .u64 yn19) :: (.int .u64 yn010) :: (.int .u64 un3211) :: us 1 ((.int .u64 un113) :: (.int .u64 un014) :: (.int .u64 q115) :: (.int .u64 rhat16) :: us 118 [])))) = (
  ite2 (decide ((IntKind.wrap .u64 (rhat16 + yn19)) ≥ (4294967296 : Int))) (
  math_bits_Div64_j5 jn Q  y2 s8 yn19 yn010 un3211 un113 un014 (IntKind.wrap .u64 (q115 - (1 : Int)))) (
  math_bits_Div64_l3 jn Q  m3 y2 s8 yn19 yn010 un3211 un113 un014 (IntKind.wrap .u64 (q115 - (1 : Int))) (IntKind.wrap .u64 (rhat16 + yn19)))) := by kernel_rfl
theorem math_bits_Div64_j4_def (Q : Value → WP) (m3 : Nat) (y2 : Int) (s8 : Int) (yn19 : Int) (yn010 : Int) (un3211 : Int) (un113 : Int) (un014 : Int) (q115 : Int) (rhat16 : Int) : math_bits_Div64_j4 idJ Q m3 y2 s8 yn19 yn010 un3211 un113 un014 q115 rhat16 = codeI Try.prog math_bits_Div64_kp idJ (cAt [true, true, true, true, true, true, true, true, true, true, true, true, true, true, false, false, false, true] (bodyOf Try.f45)) (lopK Try.prog math_bits_Div64_kp idJ (cAt [true, true, true, true, true, true, true, true, true, true, true, true, true, true, false, false, false] (bodyOf Try.f45)) (blkX 0 (seqK Try.prog math_bits_Div64_kp idJ (cAt [true, true, true, true, true, true, true, true, true, true, true, true, true, true, true] (bodyOf Try.f45)) (retK Try.prog Try.f45 Q) noX (retK Try.prog Try.f45 Q)) noX) (retK Try.prog Try.f45 Q) m3) (blkX 0 (seqK Try.prog math_bits_Div64_kp idJ (cAt [true, true, true, true, true, true, true, true, true, true, true, true, true, true, true] (bodyOf Try.f45)) (retK Try.prog Try.f45 Q) noX (retK Try.prog Try.f45 Q)) noX) (retK Try.prog Try.f45 Q) (us 2 ((.int .u64 y2) :: us 5 ((.int .u64 s8) :: (.int .u64 yn19) :: (.int .u64 yn010) :: (.int .u64 un3211) :: us 1 ((.int .u64 un113) :: (.int .u64 un014) :: (.int .u64 q115) :: (.int .u64 rhat16) :: us 118 [])))) := by kernel_rfl
theorem math_bits_Div64_l3_raw (jn : Jn) (Q : Value → WP)  (m3 : Nat) (y2 : Int) (s8 : Int) (yn19 : Int) (yn010 : Int) (un3211 : Int) (un113 : Int) (un014 : Int) (q115 : Int) (rhat16 : Int) : math_bits_Div64_l3 jn Q  (m3 + 1) y2 s8 yn19 yn010 un3211 un113 un014 q115 rhat16 = (
  ite2 (decide (q115 ≥ (4294967296 : Int))) (
  math_bits_Div64_j4 jn Q m3 y2 s8 yn19 yn010 un3211 un113 un014 q115 rhat16) (
  ite2 (decide ((IntKind.wrap .u64 (q115 * yn010)) > (IntKind.wrap .u64 ((IntKind.wrap .u64 ((4294967296 : Int) * rhat16)) + un113)))) (
  math_bits_Div64_j4 jn Q m3 y2 s8 yn19 yn010 un3211 un113 un014 q115 rhat16) (
  math_bits_Div64_j5 jn Q  y2 s8 yn19 yn010 un3211 un113 un014 q115))) := by kernel_rfl
theorem math_bits_Div64_l3_zero (jn : Jn) (Q : Value → WP)  (y2 : Int) (s8 : Int) (yn19 : Int) (yn010 : Int) (un3211 : Int) (un113 : Int) (un014 : Int) (q115 : Int) (rhat16 : Int) : math_bits_Div64_l3 jn Q  0 y2 s8 yn19 yn010 un3211 un113 un014 q115 rhat16 = bot := by kernel_rfl
theorem math_bits_Div64_j2_raw (jn : Jn) (Q : Value → WP)  (hi0 : Int) (lo1 : Int) (y2 : Int) : codeI Try.prog math_bits_Div64_kp jn (cAt [true, true, true] (bodyOf Try.f45)) (retK Try.prog Try.f45 Q) noX (retK Try.prog Try.f45 Q) ((.int .u64 hi0) :: (.int .u64 lo1) :: (.int .u64 y2) :: us 132 []) = (
  ite2 (hi0 == (0 : Int)) (
  drawW fun S =>
  when (y2 ≠ 0) <|
  when (y2 ≠ 0) <|
  Q (.tuple #[.int .u64 (IntKind.wrap .u64 (Int.tdiv lo1 y2)), .int .u64 (Int.tmod lo1 y2)])) (
  call1 (.int .i64) Try.prog id_math_bits_LeadingZeros64 [.int .u64 y2] fun (x_3 : Int) =>
  when ((0 : Int) ≤ (IntKind.wrap .u64 x_3)) <|
  when ((0 : Int) ≤ (32 : Int)) <|
  when ((0 : Int) ≤ (IntKind.wrap .u64 x_3)) <|
  when ((0 : Int) ≤ (IntKind.wrap .u64 ((64 : Int) - (IntKind.wrap .u64 x_3)))) <|
  when ((0 : Int) ≤ (IntKind.wrap .u64 x_3)) <|
  when ((0 : Int) ≤ (32 : Int)) <|
  when ((shrV .u64 (shlV .u64 y2 (IntKind.wrap .u64 x_3)) (32 : Int)) ≠ 0) <|
  exM fun m => math_bits_Div64_l3 jn Q  m (shlV .u64 y2 (IntKind.wrap .u64 x_3)) (IntKind.wrap .u64 x_3) (shrV .u64 (shlV .u64 y2 (IntKind.wrap .u64 x_3)) (32 : Int)) (bits .and .u64 (shlV .u64 y2 (IntKind.wrap .u64 x_3)) (4294967295 : Int)) (bits .or .u64 (shlV .u64 hi0 (IntKind.wrap .u64 x_3)) (shrV .u64 lo1 (IntKind.wrap .u64 ((64 : Int) - (IntKind.wrap .u64 x_3))))) (shrV .u64 (shlV .u64 lo1 (IntKind.wrap .u64 x_3)) (32 : Int)) (bits .and .u64 (shlV .u64 lo1 (IntKind.wrap .u64 x_3)) (4294967295 : Int)) (IntKind.wrap .u64 (Int.tdiv (bits .or .u64 (shlV .u64 hi0 (IntKind.wrap .u64 x_3)) (shrV .u64 lo1 (IntKind.wrap .u64 ((64 : Int) - (IntKind.wrap .u64 x_3))))) (shrV .u64 (shlV .u64 y2 (IntKind.wrap .u64 x_3)) (32 : Int)))) (IntKind.wrap .u64 ((bits .or .u64 (shlV .u64 hi0 (IntKind.wrap .u64 x_3)) (shrV .u64 lo1 (IntKind.wrap .u64 ((64 : Int) - (IntKind.wrap .u64 x_3))))) - (IntKind.wrap .u64 ((IntKind.wrap .u64 (Int.tdiv (bits .or .u64 (shlV .u64 hi0 (IntKind.wrap .u64 x_3)) (shrV .u64 lo1 (IntKind.wrap .u64 ((64 : Int) - (IntKind.wrap .u64 x_3))))) (shrV .u64 (shlV .u64 y2 (IntKind.wrap .u64 x_3)) (32 : Int)))) * (shrV .u64 (shlV .u64 y2 (IntKind.wrap .u64 x_3)) (32 : Int)))))))) := by kernel_rfl
theorem math_bits_Div64_j2_def (Q : Value → WP)  (hi0 : Int) (lo1 : Int) (y2 : Int) : math_bits_Div64_j2 idJ Q  hi0 lo1 y2 = codeI Try.prog math_bits_Div64_kp idJ (cAt [true, true, true] (bodyOf Try.f45)) (retK Try.prog Try.f45 Q) noX (retK Try.prog Try.f45 Q) ((.int .u64 hi0) :: (.int .u64 lo1) :: (.int .u64 y2) :: us 132 []) := by kernel_rfl
theorem math_bits_Div64_j1_raw (jn : Jn) (Q : Value → WP)  (hi0 : Int) (lo1 : Int) (y2 : Int) : codeI Try.prog math_bits_Div64_kp jn (cAt [true, true] (bodyOf Try.f45)) (retK Try.prog Try.f45 Q) noX (retK Try.prog Try.f45 Q) ((.int .u64 hi0) :: (.int .u64 lo1) :: (.int .u64 y2) :: us 132 []) = (
  ite2 (decide (y2 ≤ hi0)) (
  ld .any 1 0 fun (x_2 : Value) =>
  bot) (
  math_bits_Div64_j2 jn Q  hi0 lo1 y2)) := by kernel_rfl
theorem math_bits_Div64_j1_def (Q : Value → WP)  (hi0 : Int) (lo1 : Int) (y2 : Int) : math_bits_Div64_j1 idJ Q  hi0 lo1 y2 = codeI Try.prog math_bits_Div64_kp idJ (cAt [true, true] (bodyOf Try.f45)) (retK Try.prog Try.f45 Q) noX (retK Try.prog Try.f45 Q) ((.int .u64 hi0) :: (.int .u64 lo1) :: (.int .u64 y2) :: us 132 []) := by kernel_rfl
theorem math_bits_Div64_raw (jn : Jn) (hi0 : Int) (lo1 : Int) (y2 : Int) (Q : Value → WP) : funJ jn Try.prog math_bits_Div64_kp Try.f45 [.int .u64 hi0, .int .u64 lo1, .int .u64 y2] Q = (
  ite2 (y2 == (0 : Int)) (
  ld .any 0 0 fun (x_1 : Value) =>
  bot) (
  math_bits_Div64_j1 jn Q  hi0 lo1 y2)) := by kernel_rfl
theorem math_bits_Div64_def (hi0 : Int) (lo1 : Int) (y2 : Int) (Q : Value → WP) : math_bits_Div64 hi0 lo1 y2 Q = funJ idJ Try.prog math_bits_Div64_kp Try.f45 [.int .u64 hi0, .int .u64 lo1, .int .u64 y2] Q := rfl
theorem math_bits_Div64_calls {hi0 : Int} {lo1 : Int} {y2 : Int} {Q : Value → WP} {w : World} (h : math_bits_Div64 hi0 lo1 y2 Q w) : Calls Try.prog id_math_bits_Div64 #[.int .u64 hi0, .int .u64 lo1, .int .u64 y2] w fun e w' => ∃ v, e = .returned v ∧ Q v w' :=
  funJ_calls mixed Try.func45 rfl h

-- hoard/hoardref2.times
def hoardref2_times_kp : KP := ⟨[], []⟩
def hoardref2_times (a0 : Int) (b1 : Int) (Q : Value → WP) : WP := funJ idJ Try.prog hoardref2_times_kp Try.f46 [.int .u64 a0, .int .u64 b1] Q
theorem hoardref2_times_raw (jn : Jn) (a0 : Int) (b1 : Int) (Q : Value → WP) : funJ jn Try.prog hoardref2_times_kp Try.f46 [.int .u64 a0, .int .u64 b1] Q = (
  when ((0 : Int) ≤ (32 : Int)) <|
  when ((0 : Int) ≤ (32 : Int)) <|
  when ((0 : Int) ≤ (32 : Int)) <|
  when ((0 : Int) ≤ (32 : Int)) <|
  when ((0 : Int) ≤ (32 : Int)) <|
  when ((0 : Int) ≤ (32 : Int)) <|
  Q (.tuple #[.int .u64 (IntKind.wrap .u64 ((IntKind.wrap .u64 ((IntKind.wrap .u64 ((shrV .u64 a0 (32 : Int)) * (shrV .u64 b1 (32 : Int)))) + (shrV .u64 (IntKind.wrap .u64 ((IntKind.wrap .u64 ((shrV .u64 a0 (32 : Int)) * (bits .and .u64 b1 (4294967295 : Int)))) + (shrV .u64 (IntKind.wrap .u64 ((bits .and .u64 a0 (4294967295 : Int)) * (bits .and .u64 b1 (4294967295 : Int)))) (32 : Int)))) (32 : Int)))) + (shrV .u64 (IntKind.wrap .u64 ((IntKind.wrap .u64 ((bits .and .u64 a0 (4294967295 : Int)) * (shrV .u64 b1 (32 : Int)))) + (bits .and .u64 (IntKind.wrap .u64 ((IntKind.wrap .u64 ((shrV .u64 a0 (32 : Int)) * (bits .and .u64 b1 (4294967295 : Int)))) + (shrV .u64 (IntKind.wrap .u64 ((bits .and .u64 a0 (4294967295 : Int)) * (bits .and .u64 b1 (4294967295 : Int)))) (32 : Int)))) (4294967295 : Int)))) (32 : Int)))), .int .u64 (bits .or .u64 (shlV .u64 (IntKind.wrap .u64 ((IntKind.wrap .u64 ((bits .and .u64 a0 (4294967295 : Int)) * (shrV .u64 b1 (32 : Int)))) + (bits .and .u64 (IntKind.wrap .u64 ((IntKind.wrap .u64 ((shrV .u64 a0 (32 : Int)) * (bits .and .u64 b1 (4294967295 : Int)))) + (shrV .u64 (IntKind.wrap .u64 ((bits .and .u64 a0 (4294967295 : Int)) * (bits .and .u64 b1 (4294967295 : Int)))) (32 : Int)))) (4294967295 : Int)))) (32 : Int)) (bits .and .u64 (IntKind.wrap .u64 ((bits .and .u64 a0 (4294967295 : Int)) * (bits .and .u64 b1 (4294967295 : Int)))) (4294967295 : Int)))])) := by kernel_rfl
theorem hoardref2_times_def (a0 : Int) (b1 : Int) (Q : Value → WP) : hoardref2_times a0 b1 Q = funJ idJ Try.prog hoardref2_times_kp Try.f46 [.int .u64 a0, .int .u64 b1] Q := rfl
theorem hoardref2_times_calls {a0 : Int} {b1 : Int} {Q : Value → WP} {w : World} (h : hoardref2_times a0 b1 Q w) : Calls Try.prog id_hoardref2_times #[.int .u64 a0, .int .u64 b1] w fun e w' => ∃ v, e = .returned v ∧ Q v w' :=
  funJ_calls mixed Try.func46 rfl h

-- hoard/hoardref2.Clamp
def hoardref2_Clamp_kp : KP := ⟨[], []⟩
def hoardref2_Clamp (n0 : Int) (low1 : Int) (high2 : Int) (Q : Value → WP) : WP := funJ idJ Try.prog hoardref2_Clamp_kp Try.f47 [.int .i64 n0, .int .i64 low1, .int .i64 high2] Q
theorem hoardref2_Clamp_raw (jn : Jn) (n0 : Int) (low1 : Int) (high2 : Int) (Q : Value → WP) : funJ jn Try.prog hoardref2_Clamp_kp Try.f47 [.int .i64 n0, .int .i64 low1, .int .i64 high2] Q = (
  Q (.int .i64 (if high2 < (if low1 > n0 then low1 else n0) then high2 else (if low1 > n0 then low1 else n0)))) := by kernel_rfl
theorem hoardref2_Clamp_def (n0 : Int) (low1 : Int) (high2 : Int) (Q : Value → WP) : hoardref2_Clamp n0 low1 high2 Q = funJ idJ Try.prog hoardref2_Clamp_kp Try.f47 [.int .i64 n0, .int .i64 low1, .int .i64 high2] Q := rfl
theorem hoardref2_Clamp_calls {n0 : Int} {low1 : Int} {high2 : Int} {Q : Value → WP} {w : World} (h : hoardref2_Clamp n0 low1 high2 Q w) : Calls Try.prog id_hoardref2_Clamp #[.int .i64 n0, .int .i64 low1, .int .i64 high2] w fun e w' => ∃ v, e = .returned v ∧ Q v w' :=
  funJ_calls mixed Try.func47 rfl h

-- math/bits.LeadingZeros64
def math_bits_LeadingZeros64_kp : KP := ⟨[], []⟩
def math_bits_LeadingZeros64 (x0 : Int) (Q : Value → WP) : WP := funJ idJ Try.prog math_bits_LeadingZeros64_kp Try.f48 [.int .u64 x0] Q
theorem math_bits_LeadingZeros64_raw (jn : Jn) (x0 : Int) (Q : Value → WP) : funJ jn Try.prog math_bits_LeadingZeros64_kp Try.f48 [.int .u64 x0] Q = (
  call1 (.int .i64) Try.prog id_math_bits_Len64 [.int .u64 x0] fun (x_1 : Int) =>
  Q (.int .i64 (IntKind.wrap .i64 ((64 : Int) - x_1)))) := by kernel_rfl
theorem math_bits_LeadingZeros64_def (x0 : Int) (Q : Value → WP) : math_bits_LeadingZeros64 x0 Q = funJ idJ Try.prog math_bits_LeadingZeros64_kp Try.f48 [.int .u64 x0] Q := rfl
theorem math_bits_LeadingZeros64_calls {x0 : Int} {Q : Value → WP} {w : World} (h : math_bits_LeadingZeros64 x0 Q w) : Calls Try.prog id_math_bits_LeadingZeros64 #[.int .u64 x0] w fun e w' => ∃ v, e = .returned v ∧ Q v w' :=
  funJ_calls mixed Try.func48 rfl h

end Go.Proofs.Ytfighgokcocpbaa
