/- Printed by a program of mine (wip/tools/shal.py): the shallow texts of the loaded functions, each equal to the interpreter's reading by the kernel. -/
import Derived.Test.YtadljdjlemfdjaaSound7
import Derived.Test.YtadljdjlemfdjaaChecked
import Derived.KernelRfl
set_option linter.unusedVariables false
namespace Go.Proofs.Ytadljdjlemfdjaa
open Go.Hb

theorem mixed : Try.prog.follows .mixedOrders = true := by kernel_rfl
abbrev ty_int : TypeId := 3
abbrev ty_string : TypeId := 9
abbrev ty_hoardref4_List : TypeId := 47
abbrev ty_hoardlaw4_Act : TypeId := 50
abbrev ty_list_List_string : TypeId := 56
abbrev ty_list_link_string : TypeId := 59
abbrev ty_list_List_int : TypeId := 62
abbrev ty_list_link_int : TypeId := 64
abbrev ty_hoardref4_cell : TypeId := 67
abbrev id_hoardlaw4_ListOwn : FuncId := 3
abbrev id_hoardlaw4_ListNumbers : FuncId := 4
abbrev id_hoardlaw4_ListMoves : FuncId := 5
abbrev id_hoardlaw4_ListHandles : FuncId := 6
abbrev id_hoardlaw4_ListPlays : FuncId := 7
abbrev id_hoardlaw4_ListOfNothing : FuncId := 8
abbrev id_list_New_string : FuncId := 9
abbrev id_list_List_string_PushBack : FuncId := 10
abbrev id_list_List_string_All : FuncId := 11
abbrev id_hoardlaw4_texts : FuncId := 12
abbrev id_hoardlaw4_known : FuncId := 13
abbrev id_list_New_int : FuncId := 14
abbrev id_list_List_int_PushFront : FuncId := 15
abbrev id_list_List_int_PushBack : FuncId := 16
abbrev id_list_List_int_All : FuncId := 17
abbrev id_list_List_int_Len : FuncId := 18
abbrev id_list_List_int_Front : FuncId := 19
abbrev id_list_List_int_Back : FuncId := 20
abbrev id_list_List_int_Get : FuncId := 21
abbrev id_list_List_int_Next : FuncId := 22
abbrev id_list_List_int_Prev : FuncId := 23
abbrev id_list_List_string_ToFront : FuncId := 24
abbrev id_list_List_string_Front : FuncId := 25
abbrev id_list_List_string_ToBack : FuncId := 26
abbrev id_list_List_string_Back : FuncId := 27
abbrev id_hoardlaw4_heavy : FuncId := 28
abbrev id_hoardlaw4_act : FuncId := 29
abbrev id_list_List_string_Len : FuncId := 30
abbrev id_list_List_string_Next : FuncId := 31
abbrev id_hoardref4_List_Front : FuncId := 32
abbrev id_hoardref4_List_Back : FuncId := 33
abbrev id_hoardref4_List_All : FuncId := 34
abbrev id_list_List_string_Get : FuncId := 35
abbrev id_list_List_string_Remove : FuncId := 36
abbrev id_list_List_string_PushFront : FuncId := 37
abbrev id_list_List_string_Set : FuncId := 38
abbrev id_list_List_string_Prev : FuncId := 39
abbrev id_list_List_string_take : FuncId := 40
abbrev id_list_List_string_lays : FuncId := 41
abbrev id_list_List_int_take : FuncId := 42
abbrev id_list_List_int_lays : FuncId := 43
abbrev id_list_List_int_has : FuncId := 44
abbrev id_list_List_string_has : FuncId := 45
abbrev id_list_List_string_lifts : FuncId := 46
abbrev id_hoardref4_List_PushFront : FuncId := 47
abbrev id_hoardref4_List_PushBack : FuncId := 48
abbrev id_hoardref4_List_Remove : FuncId := 49
abbrev id_hoardref4_List_Set : FuncId := 50
abbrev id_hoardref4_List_ToFront : FuncId := 51
abbrev id_hoardref4_List_ToBack : FuncId := 52
abbrev id_hoardref4_List_Get : FuncId := 53
abbrev id_hoardref4_List_Next : FuncId := 54
abbrev id_hoardref4_List_Prev : FuncId := 55
abbrev id_hoardref4_List_place : FuncId := 56
abbrev id_hoardref4_List_handle : FuncId := 57
abbrev id_hoardref4_List_at : FuncId := 58
abbrev id_hoardref4_List_out : FuncId := 59
def str_a : ByteArray := ⟨#[97]⟩
def str_b : ByteArray := ⟨#[98]⟩
def str_c : ByteArray := ⟨#[99]⟩
def str_empty : ByteArray := ⟨#[]⟩
def str_x : ByteArray := ⟨#[120]⟩

-- hoard/hoardlaw4.ListOwn
def hoardlaw4_ListOwn_kp : KP := ⟨[(13, [0, 3, 4]), (18, [0, 3]), (23, [0, 3, 5, 6]), (28, [0, 3])], []⟩
def hoardlaw4_ListOwn_j4 (jn : Jn) (Q : Value → WP)  (s0 : Sl) (l3 : Option Addr) : WP := jn 28 (fun ρ => codeI Try.prog hoardlaw4_ListOwn_kp jn (cAt [true, true, true, true, true, true] (bodyOf Try.f3)) (retK Try.prog Try.f3 Q) noX (retK Try.prog Try.f3 Q) ρ) ((.slice s0.a s0.n s0.c) :: us 2 ((.pointer l3) :: us 42 []))
def hoardlaw4_ListOwn_l3 (jn : Jn) (Q : Value → WP)  (m3 : Nat) (s0 : Sl) (l3 : Option Addr) (a5 : Sl) (i6 : Int) : WP := lop Try.prog hoardlaw4_ListOwn_kp jn (cAt [true, true, true, true, true, false, true, false, false] (bodyOf Try.f3)) (blkX 2 (seqK Try.prog hoardlaw4_ListOwn_kp jn (cAt [true, true, true, true, true, true] (bodyOf Try.f3)) (retK Try.prog Try.f3 Q) noX (retK Try.prog Try.f3 Q)) noX) (retK Try.prog Try.f3 Q) m3 ((.slice s0.a s0.n s0.c) :: us 2 ((.pointer l3) :: us 1 ((.slice a5.a a5.n a5.c) :: (.int .i64 i6) :: us 39 [])))
def hoardlaw4_ListOwn_j2 (jn : Jn) (Q : Value → WP)  (s0 : Sl) (l3 : Option Addr) : WP := jn 18 (fun ρ => codeI Try.prog hoardlaw4_ListOwn_kp jn (cAt [true, true, true, true] (bodyOf Try.f3)) (retK Try.prog Try.f3 Q) noX (retK Try.prog Try.f3 Q) ρ) ((.slice s0.a s0.n s0.c) :: us 2 ((.pointer l3) :: us 42 []))
def hoardlaw4_ListOwn_l1 (jn : Jn) (Q : Value → WP)  (m1 : Nat) (s0 : Sl) (l3 : Option Addr) (i4 : Int) : WP := lop Try.prog hoardlaw4_ListOwn_kp jn (cAt [true, true, true, false, true, false, false] (bodyOf Try.f3)) (blkX 0 (seqK Try.prog hoardlaw4_ListOwn_kp jn (cAt [true, true, true, true] (bodyOf Try.f3)) (retK Try.prog Try.f3 Q) noX (retK Try.prog Try.f3 Q)) noX) (retK Try.prog Try.f3 Q) m1 ((.slice s0.a s0.n s0.c) :: us 2 ((.pointer l3) :: (.int .i64 i4) :: us 41 []))
def hoardlaw4_ListOwn (s0 : Sl) (Q : Value → WP) : WP := funJ idJ Try.prog hoardlaw4_ListOwn_kp Try.f3 [.slice s0.a s0.n s0.c] Q
theorem hoardlaw4_ListOwn_j4_raw (jn : Jn) (Q : Value → WP)  (s0 : Sl) (l3 : Option Addr) : codeI Try.prog hoardlaw4_ListOwn_kp jn (cAt [true, true, true, true, true, true] (bodyOf Try.f3)) (retK Try.prog Try.f3 Q) noX (retK Try.prog Try.f3 Q) ((.slice s0.a s0.n s0.c) :: us 2 ((.pointer l3) :: us 42 [])) = (
  call1 .slc Try.prog id_list_List_string_All [.pointer l3] fun x_12 =>
  call1 .bool Try.prog id_hoardlaw4_texts [.slice x_12.a x_12.n x_12.c, .slice s0.a s0.n s0.c] fun x_13 =>
  ite2 x_13 (
  call1 .bool Try.prog id_hoardlaw4_known [] fun x_14 =>
  Q (.bool x_14)) (
  Q (.bool false))) := by kernel_rfl
theorem hoardlaw4_ListOwn_j4_def (Q : Value → WP)  (s0 : Sl) (l3 : Option Addr) : hoardlaw4_ListOwn_j4 idJ Q  s0 l3 = codeI Try.prog hoardlaw4_ListOwn_kp idJ (cAt [true, true, true, true, true, true] (bodyOf Try.f3)) (retK Try.prog Try.f3 Q) noX (retK Try.prog Try.f3 Q) ((.slice s0.a s0.n s0.c) :: us 2 ((.pointer l3) :: us 42 [])) := by kernel_rfl
theorem hoardlaw4_ListOwn_l3_raw (jn : Jn) (Q : Value → WP)  (m3 : Nat) (s0 : Sl) (l3 : Option Addr) (a5 : Sl) (i6 : Int) : hoardlaw4_ListOwn_l3 jn Q  (m3 + 1) s0 l3 a5 i6 = (
  ite2 (decide (i6 < (a5.n : Int))) (
  idx a5.a a5.n i6 fun b_7 o_8 =>
  ld .str b_7 (o_8 + (i6).toNat * 1) fun x_9 =>
  when (str_x.size + x_9.size ≤ 9223372036854775807) <|
  idx a5.a a5.n i6 fun b_10 o_11 =>
  st b_10 (o_11 + (i6).toNat * 1) (.string (str_x ++ x_9)) <|
  hoardlaw4_ListOwn_l3 jn Q  m3 s0 l3 a5 (IntKind.wrap .i64 (i6 + (1 : Int)))) (
  hoardlaw4_ListOwn_j4 jn Q  s0 l3)) := by kernel_rfl
theorem hoardlaw4_ListOwn_l3_zero (jn : Jn) (Q : Value → WP)  (s0 : Sl) (l3 : Option Addr) (a5 : Sl) (i6 : Int) : hoardlaw4_ListOwn_l3 jn Q  0 s0 l3 a5 i6 = bot := by kernel_rfl
theorem hoardlaw4_ListOwn_j2_raw (jn : Jn) (Q : Value → WP)  (s0 : Sl) (l3 : Option Addr) : codeI Try.prog hoardlaw4_ListOwn_kp jn (cAt [true, true, true, true] (bodyOf Try.f3)) (retK Try.prog Try.f3 Q) noX (retK Try.prog Try.f3 Q) ((.slice s0.a s0.n s0.c) :: us 2 ((.pointer l3) :: us 42 [])) = (
  call1 .slc Try.prog id_list_List_string_All [.pointer l3] fun x_6 =>
  exM fun m => hoardlaw4_ListOwn_l3 jn Q  m s0 l3 x_6 (0 : Int)) := by kernel_rfl
theorem hoardlaw4_ListOwn_j2_def (Q : Value → WP)  (s0 : Sl) (l3 : Option Addr) : hoardlaw4_ListOwn_j2 idJ Q  s0 l3 = codeI Try.prog hoardlaw4_ListOwn_kp idJ (cAt [true, true, true, true] (bodyOf Try.f3)) (retK Try.prog Try.f3 Q) noX (retK Try.prog Try.f3 Q) ((.slice s0.a s0.n s0.c) :: us 2 ((.pointer l3) :: us 42 [])) := by kernel_rfl
theorem hoardlaw4_ListOwn_l1_raw (jn : Jn) (Q : Value → WP)  (m1 : Nat) (s0 : Sl) (l3 : Option Addr) (i4 : Int) : hoardlaw4_ListOwn_l1 jn Q  (m1 + 1) s0 l3 i4 = (
  ite2 (decide (i4 < (s0.n : Int))) (
  idx s0.a s0.n i4 fun b_2 o_3 =>
  ld .str b_2 (o_3 + (i4).toNat * 1) fun x_4 =>
  call1 (.int .i64) Try.prog id_list_List_string_PushBack [.pointer l3, .string x_4] fun x_5 =>
  hoardlaw4_ListOwn_l1 jn Q  m1 s0 l3 (IntKind.wrap .i64 (i4 + (1 : Int)))) (
  hoardlaw4_ListOwn_j2 jn Q  s0 l3)) := by kernel_rfl
theorem hoardlaw4_ListOwn_l1_zero (jn : Jn) (Q : Value → WP)  (s0 : Sl) (l3 : Option Addr) (i4 : Int) : hoardlaw4_ListOwn_l1 jn Q  0 s0 l3 i4 = bot := by kernel_rfl
theorem hoardlaw4_ListOwn_raw (jn : Jn) (s0 : Sl) (Q : Value → WP) : funJ jn Try.prog hoardlaw4_ListOwn_kp Try.f3 [.slice s0.a s0.n s0.c] Q = (
  ite2 (decide ((s0.n : Int) > (100 : Int))) (
  Q (.bool true)) (
  call1 .ptr Try.prog id_list_New_string [] fun x_1 =>
  exM fun m => hoardlaw4_ListOwn_l1 jn Q  m s0 x_1 (0 : Int))) := by kernel_rfl
theorem hoardlaw4_ListOwn_def (s0 : Sl) (Q : Value → WP) : hoardlaw4_ListOwn s0 Q = funJ idJ Try.prog hoardlaw4_ListOwn_kp Try.f3 [.slice s0.a s0.n s0.c] Q := rfl
theorem hoardlaw4_ListOwn_calls {s0 : Sl} {Q : Value → WP} {w : World} (h : hoardlaw4_ListOwn s0 Q w) : Calls Try.prog id_hoardlaw4_ListOwn #[.slice s0.a s0.n s0.c] w fun e w' => ∃ v, e = .returned v ∧ Q v w' :=
  funJ_calls mixed Try.func3 rfl h

-- hoard/hoardlaw4.ListNumbers
def hoardlaw4_ListNumbers_kp : KP := ⟨[(13, [0, 1, 5, 6]), (18, [0, 1, 5, 6, 34]), (22, [0, 5]), (28, [0, 5, 7]), (33, [0, 5, 7, 8, 9, 10]), (46, [8, 9])], []⟩
def hoardlaw4_ListNumbers_j2 (jn : Jn) (Q : Value → WP) (m1 : Nat) (n0 : Sl) (front1 : Sl) (l5 : Option Addr) (i6 : Int) (t34 : Bool) : WP := jn 18 (fun ρ => codeI Try.prog hoardlaw4_ListNumbers_kp jn (cAt [true, true, true, false, true, false, false, true, false, false, true] (bodyOf Try.f4)) (seqK Try.prog hoardlaw4_ListNumbers_kp jn (cAt [true, true, true, false, true, false, false, true, true] (bodyOf Try.f4)) (lopK Try.prog hoardlaw4_ListNumbers_kp jn (cAt [true, true, true, false, true, false, false] (bodyOf Try.f4)) (blkX 0 (seqK Try.prog hoardlaw4_ListNumbers_kp jn (cAt [true, true, true, true] (bodyOf Try.f4)) (retK Try.prog Try.f4 Q) noX (retK Try.prog Try.f4 Q)) noX) (retK Try.prog Try.f4 Q) m1) (blkX 0 (seqK Try.prog hoardlaw4_ListNumbers_kp jn (cAt [true, true, true, true] (bodyOf Try.f4)) (retK Try.prog Try.f4 Q) noX (retK Try.prog Try.f4 Q)) noX) (retK Try.prog Try.f4 Q)) (blkX 1 (seqK Try.prog hoardlaw4_ListNumbers_kp jn (cAt [true, true, true, false, true, false, false, true, true] (bodyOf Try.f4)) (lopK Try.prog hoardlaw4_ListNumbers_kp jn (cAt [true, true, true, false, true, false, false] (bodyOf Try.f4)) (blkX 0 (seqK Try.prog hoardlaw4_ListNumbers_kp jn (cAt [true, true, true, true] (bodyOf Try.f4)) (retK Try.prog Try.f4 Q) noX (retK Try.prog Try.f4 Q)) noX) (retK Try.prog Try.f4 Q) m1) (blkX 0 (seqK Try.prog hoardlaw4_ListNumbers_kp jn (cAt [true, true, true, true] (bodyOf Try.f4)) (retK Try.prog Try.f4 Q) noX (retK Try.prog Try.f4 Q)) noX) (retK Try.prog Try.f4 Q)) (blkX 0 (seqK Try.prog hoardlaw4_ListNumbers_kp jn (cAt [true, true, true, true] (bodyOf Try.f4)) (retK Try.prog Try.f4 Q) noX (retK Try.prog Try.f4 Q)) noX)) (retK Try.prog Try.f4 Q) ρ) ((.slice n0.a n0.n n0.c) :: (.slice front1.a front1.n front1.c) :: us 3 ((.pointer l5) :: (.int .i64 i6) :: us 27 ((.bool t34) :: us 89 [])))
def hoardlaw4_ListNumbers_j6 (jn : Jn) (Q : Value → WP)  (h8 : Int) (b9 : Int) : WP := jn 46 (fun ρ => codeI Try.prog hoardlaw4_ListNumbers_kp jn (cAt [true, true, true, true, true, true, true, true] (bodyOf Try.f4)) (retK Try.prog Try.f4 Q) noX (retK Try.prog Try.f4 Q) ρ) (us 8 ((.int .i64 h8) :: (.int .i64 b9) :: us 114 []))
def hoardlaw4_ListNumbers_l5 (jn : Jn) (Q : Value → WP)  (m5 : Nat) (n0 : Sl) (l5 : Option Addr) (all7 : Sl) (h8 : Int) (b9 : Int) (i10 : Int) : WP := lop Try.prog hoardlaw4_ListNumbers_kp jn (cAt [true, true, true, true, true, true, true, false, true, false, false] (bodyOf Try.f4)) (blkX 2 (seqK Try.prog hoardlaw4_ListNumbers_kp jn (cAt [true, true, true, true, true, true, true, true] (bodyOf Try.f4)) (retK Try.prog Try.f4 Q) noX (retK Try.prog Try.f4 Q)) noX) (retK Try.prog Try.f4 Q) m5 ((.slice n0.a n0.n n0.c) :: us 4 ((.pointer l5) :: us 1 ((.slice all7.a all7.n all7.c) :: (.int .i64 h8) :: (.int .i64 b9) :: (.int .i64 i10) :: us 113 [])))
def hoardlaw4_ListNumbers_j4 (jn : Jn) (Q : Value → WP)  (n0 : Sl) (l5 : Option Addr) (all7 : Sl) : WP := jn 28 (fun ρ => codeI Try.prog hoardlaw4_ListNumbers_kp jn (cAt [true, true, true, true, true, true] (bodyOf Try.f4)) (retK Try.prog Try.f4 Q) noX (retK Try.prog Try.f4 Q) ρ) ((.slice n0.a n0.n n0.c) :: us 4 ((.pointer l5) :: us 1 ((.slice all7.a all7.n all7.c) :: us 116 [])))
def hoardlaw4_ListNumbers_j3 (jn : Jn) (Q : Value → WP)  (n0 : Sl) (l5 : Option Addr) : WP := jn 22 (fun ρ => codeI Try.prog hoardlaw4_ListNumbers_kp jn (cAt [true, true, true, true] (bodyOf Try.f4)) (retK Try.prog Try.f4 Q) noX (retK Try.prog Try.f4 Q) ρ) ((.slice n0.a n0.n n0.c) :: us 4 ((.pointer l5) :: us 118 []))
def hoardlaw4_ListNumbers_l1 (jn : Jn) (Q : Value → WP)  (m1 : Nat) (n0 : Sl) (front1 : Sl) (l5 : Option Addr) (i6 : Int) : WP := lop Try.prog hoardlaw4_ListNumbers_kp jn (cAt [true, true, true, false, true, false, false] (bodyOf Try.f4)) (blkX 0 (seqK Try.prog hoardlaw4_ListNumbers_kp jn (cAt [true, true, true, true] (bodyOf Try.f4)) (retK Try.prog Try.f4 Q) noX (retK Try.prog Try.f4 Q)) noX) (retK Try.prog Try.f4 Q) m1 ((.slice n0.a n0.n n0.c) :: (.slice front1.a front1.n front1.c) :: us 3 ((.pointer l5) :: (.int .i64 i6) :: us 117 []))
def hoardlaw4_ListNumbers (n0 : Sl) (front1 : Sl) (Q : Value → WP) : WP := funJ idJ Try.prog hoardlaw4_ListNumbers_kp Try.f4 [.slice n0.a n0.n n0.c, .slice front1.a front1.n front1.c] Q
theorem hoardlaw4_ListNumbers_j2_raw (jn : Jn) (Q : Value → WP) (m1 : Nat) (n0 : Sl) (front1 : Sl) (l5 : Option Addr) (i6 : Int) (t34 : Bool) : codeI Try.prog hoardlaw4_ListNumbers_kp jn (cAt [true, true, true, false, true, false, false, true, false, false, true] (bodyOf Try.f4)) (seqK Try.prog hoardlaw4_ListNumbers_kp jn (cAt [true, true, true, false, true, false, false, true, true] (bodyOf Try.f4)) (lopK Try.prog hoardlaw4_ListNumbers_kp jn (cAt [true, true, true, false, true, false, false] (bodyOf Try.f4)) (blkX 0 (seqK Try.prog hoardlaw4_ListNumbers_kp jn (cAt [true, true, true, true] (bodyOf Try.f4)) (retK Try.prog Try.f4 Q) noX (retK Try.prog Try.f4 Q)) noX) (retK Try.prog Try.f4 Q) m1) (blkX 0 (seqK Try.prog hoardlaw4_ListNumbers_kp jn (cAt [true, true, true, true] (bodyOf Try.f4)) (retK Try.prog Try.f4 Q) noX (retK Try.prog Try.f4 Q)) noX) (retK Try.prog Try.f4 Q)) (blkX 1 (seqK Try.prog hoardlaw4_ListNumbers_kp jn (cAt [true, true, true, false, true, false, false, true, true] (bodyOf Try.f4)) (lopK Try.prog hoardlaw4_ListNumbers_kp jn (cAt [true, true, true, false, true, false, false] (bodyOf Try.f4)) (blkX 0 (seqK Try.prog hoardlaw4_ListNumbers_kp jn (cAt [true, true, true, true] (bodyOf Try.f4)) (retK Try.prog Try.f4 Q) noX (retK Try.prog Try.f4 Q)) noX) (retK Try.prog Try.f4 Q) m1) (blkX 0 (seqK Try.prog hoardlaw4_ListNumbers_kp jn (cAt [true, true, true, true] (bodyOf Try.f4)) (retK Try.prog Try.f4 Q) noX (retK Try.prog Try.f4 Q)) noX) (retK Try.prog Try.f4 Q)) (blkX 0 (seqK Try.prog hoardlaw4_ListNumbers_kp jn (cAt [true, true, true, true] (bodyOf Try.f4)) (retK Try.prog Try.f4 Q) noX (retK Try.prog Try.f4 Q)) noX)) (retK Try.prog Try.f4 Q) ((.slice n0.a n0.n n0.c) :: (.slice front1.a front1.n front1.c) :: us 3 ((.pointer l5) :: (.int .i64 i6) :: us 27 ((.bool t34) :: us 89 []))) = (
  ite2 t34 (
  idx n0.a n0.n i6 fun b_5 o_6 =>
  ld (.int .i64) b_5 (o_6 + (i6).toNat * 1) fun x_7 =>
  call1 (.int .i64) Try.prog id_list_List_int_PushFront [.pointer l5, .int .i64 x_7] fun x_8 =>
  hoardlaw4_ListNumbers_l1 jn Q  m1 n0 front1 l5 (IntKind.wrap .i64 (i6 + (1 : Int)))) (
  idx n0.a n0.n i6 fun b_9 o_10 =>
  ld (.int .i64) b_9 (o_10 + (i6).toNat * 1) fun x_11 =>
  call1 (.int .i64) Try.prog id_list_List_int_PushBack [.pointer l5, .int .i64 x_11] fun x_12 =>
  hoardlaw4_ListNumbers_l1 jn Q  m1 n0 front1 l5 (IntKind.wrap .i64 (i6 + (1 : Int))))) := by kernel_rfl
theorem hoardlaw4_ListNumbers_j2_def (Q : Value → WP) (m1 : Nat) (n0 : Sl) (front1 : Sl) (l5 : Option Addr) (i6 : Int) (t34 : Bool) : hoardlaw4_ListNumbers_j2 idJ Q m1 n0 front1 l5 i6 t34 = codeI Try.prog hoardlaw4_ListNumbers_kp idJ (cAt [true, true, true, false, true, false, false, true, false, false, true] (bodyOf Try.f4)) (seqK Try.prog hoardlaw4_ListNumbers_kp idJ (cAt [true, true, true, false, true, false, false, true, true] (bodyOf Try.f4)) (lopK Try.prog hoardlaw4_ListNumbers_kp idJ (cAt [true, true, true, false, true, false, false] (bodyOf Try.f4)) (blkX 0 (seqK Try.prog hoardlaw4_ListNumbers_kp idJ (cAt [true, true, true, true] (bodyOf Try.f4)) (retK Try.prog Try.f4 Q) noX (retK Try.prog Try.f4 Q)) noX) (retK Try.prog Try.f4 Q) m1) (blkX 0 (seqK Try.prog hoardlaw4_ListNumbers_kp idJ (cAt [true, true, true, true] (bodyOf Try.f4)) (retK Try.prog Try.f4 Q) noX (retK Try.prog Try.f4 Q)) noX) (retK Try.prog Try.f4 Q)) (blkX 1 (seqK Try.prog hoardlaw4_ListNumbers_kp idJ (cAt [true, true, true, false, true, false, false, true, true] (bodyOf Try.f4)) (lopK Try.prog hoardlaw4_ListNumbers_kp idJ (cAt [true, true, true, false, true, false, false] (bodyOf Try.f4)) (blkX 0 (seqK Try.prog hoardlaw4_ListNumbers_kp idJ (cAt [true, true, true, true] (bodyOf Try.f4)) (retK Try.prog Try.f4 Q) noX (retK Try.prog Try.f4 Q)) noX) (retK Try.prog Try.f4 Q) m1) (blkX 0 (seqK Try.prog hoardlaw4_ListNumbers_kp idJ (cAt [true, true, true, true] (bodyOf Try.f4)) (retK Try.prog Try.f4 Q) noX (retK Try.prog Try.f4 Q)) noX) (retK Try.prog Try.f4 Q)) (blkX 0 (seqK Try.prog hoardlaw4_ListNumbers_kp idJ (cAt [true, true, true, true] (bodyOf Try.f4)) (retK Try.prog Try.f4 Q) noX (retK Try.prog Try.f4 Q)) noX)) (retK Try.prog Try.f4 Q) ((.slice n0.a n0.n n0.c) :: (.slice front1.a front1.n front1.c) :: us 3 ((.pointer l5) :: (.int .i64 i6) :: us 27 ((.bool t34) :: us 89 []))) := by kernel_rfl
theorem hoardlaw4_ListNumbers_j6_raw (jn : Jn) (Q : Value → WP)  (h8 : Int) (b9 : Int) : codeI Try.prog hoardlaw4_ListNumbers_kp jn (cAt [true, true, true, true, true, true, true, true] (bodyOf Try.f4)) (retK Try.prog Try.f4 Q) noX (retK Try.prog Try.f4 Q) (us 8 ((.int .i64 h8) :: (.int .i64 b9) :: us 114 [])) = (
  ite2 (h8 == (0 : Int)) (
  ite2 (b9 == (0 : Int)) (
  call1 .bool Try.prog id_hoardlaw4_known [] fun x_29 =>
  Q (.bool x_29)) (
  Q (.bool false))) (
  Q (.bool false))) := by kernel_rfl
theorem hoardlaw4_ListNumbers_j6_def (Q : Value → WP)  (h8 : Int) (b9 : Int) : hoardlaw4_ListNumbers_j6 idJ Q  h8 b9 = codeI Try.prog hoardlaw4_ListNumbers_kp idJ (cAt [true, true, true, true, true, true, true, true] (bodyOf Try.f4)) (retK Try.prog Try.f4 Q) noX (retK Try.prog Try.f4 Q) (us 8 ((.int .i64 h8) :: (.int .i64 b9) :: us 114 [])) := by kernel_rfl
theorem hoardlaw4_ListNumbers_l5_raw (jn : Jn) (Q : Value → WP)  (m5 : Nat) (n0 : Sl) (l5 : Option Addr) (all7 : Sl) (h8 : Int) (b9 : Int) (i10 : Int) : hoardlaw4_ListNumbers_l5 jn Q  (m5 + 1) n0 l5 all7 h8 b9 i10 = (
  ite2 (decide (i10 < (n0.n : Int))) (
  call2 (.int .i64) .bool Try.prog id_list_List_int_Get [.pointer l5, .int .i64 h8] fun x_17 x_18 =>
  call2 (.int .i64) .bool Try.prog id_list_List_int_Get [.pointer l5, .int .i64 b9] fun x_19 x_20 =>
  ite2 (!x_18) (
  Q (.bool false)) (
  ite2 (!x_20) (
  Q (.bool false)) (
  idx all7.a all7.n i10 fun b_21 o_22 =>
  ld (.int .i64) b_21 (o_22 + (i10).toNat * 1) fun x_23 =>
  ite2 (x_17 != x_23) (
  Q (.bool false)) (
  idx all7.a all7.n (IntKind.wrap .i64 ((IntKind.wrap .i64 ((n0.n : Int) - (1 : Int))) - i10)) fun b_24 o_25 =>
  ld (.int .i64) b_24 (o_25 + ((IntKind.wrap .i64 ((IntKind.wrap .i64 ((n0.n : Int) - (1 : Int))) - i10))).toNat * 1) fun x_26 =>
  ite2 (x_19 != x_26) (
  Q (.bool false)) (
  call1 (.int .i64) Try.prog id_list_List_int_Next [.pointer l5, .int .i64 h8] fun x_27 =>
  call1 (.int .i64) Try.prog id_list_List_int_Prev [.pointer l5, .int .i64 b9] fun x_28 =>
  hoardlaw4_ListNumbers_l5 jn Q  m5 n0 l5 all7 x_27 x_28 (IntKind.wrap .i64 (i10 + (1 : Int)))))))) (
  hoardlaw4_ListNumbers_j6 jn Q  h8 b9)) := by kernel_rfl
theorem hoardlaw4_ListNumbers_l5_zero (jn : Jn) (Q : Value → WP)  (n0 : Sl) (l5 : Option Addr) (all7 : Sl) (h8 : Int) (b9 : Int) (i10 : Int) : hoardlaw4_ListNumbers_l5 jn Q  0 n0 l5 all7 h8 b9 i10 = bot := by kernel_rfl
theorem hoardlaw4_ListNumbers_j4_raw (jn : Jn) (Q : Value → WP)  (n0 : Sl) (l5 : Option Addr) (all7 : Sl) : codeI Try.prog hoardlaw4_ListNumbers_kp jn (cAt [true, true, true, true, true, true] (bodyOf Try.f4)) (retK Try.prog Try.f4 Q) noX (retK Try.prog Try.f4 Q) ((.slice n0.a n0.n n0.c) :: us 4 ((.pointer l5) :: us 1 ((.slice all7.a all7.n all7.c) :: us 116 []))) = (
  call1 (.int .i64) Try.prog id_list_List_int_Front [.pointer l5] fun x_15 =>
  call1 (.int .i64) Try.prog id_list_List_int_Back [.pointer l5] fun x_16 =>
  exM fun m => hoardlaw4_ListNumbers_l5 jn Q  m n0 l5 all7 x_15 x_16 (0 : Int)) := by kernel_rfl
theorem hoardlaw4_ListNumbers_j4_def (Q : Value → WP)  (n0 : Sl) (l5 : Option Addr) (all7 : Sl) : hoardlaw4_ListNumbers_j4 idJ Q  n0 l5 all7 = codeI Try.prog hoardlaw4_ListNumbers_kp idJ (cAt [true, true, true, true, true, true] (bodyOf Try.f4)) (retK Try.prog Try.f4 Q) noX (retK Try.prog Try.f4 Q) ((.slice n0.a n0.n n0.c) :: us 4 ((.pointer l5) :: us 1 ((.slice all7.a all7.n all7.c) :: us 116 []))) := by kernel_rfl
theorem hoardlaw4_ListNumbers_j3_raw (jn : Jn) (Q : Value → WP)  (n0 : Sl) (l5 : Option Addr) : codeI Try.prog hoardlaw4_ListNumbers_kp jn (cAt [true, true, true, true] (bodyOf Try.f4)) (retK Try.prog Try.f4 Q) noX (retK Try.prog Try.f4 Q) ((.slice n0.a n0.n n0.c) :: us 4 ((.pointer l5) :: us 118 [])) = (
  call1 .slc Try.prog id_list_List_int_All [.pointer l5] fun x_13 =>
  ite2 ((x_13.n : Int) != (n0.n : Int)) (
  Q (.bool false)) (
  call1 (.int .i64) Try.prog id_list_List_int_Len [.pointer l5] fun x_14 =>
  ite2 (x_14 != (n0.n : Int)) (
  Q (.bool false)) (
  hoardlaw4_ListNumbers_j4 jn Q  n0 l5 x_13))) := by kernel_rfl
theorem hoardlaw4_ListNumbers_j3_def (Q : Value → WP)  (n0 : Sl) (l5 : Option Addr) : hoardlaw4_ListNumbers_j3 idJ Q  n0 l5 = codeI Try.prog hoardlaw4_ListNumbers_kp idJ (cAt [true, true, true, true] (bodyOf Try.f4)) (retK Try.prog Try.f4 Q) noX (retK Try.prog Try.f4 Q) ((.slice n0.a n0.n n0.c) :: us 4 ((.pointer l5) :: us 118 [])) := by kernel_rfl
theorem hoardlaw4_ListNumbers_l1_raw (jn : Jn) (Q : Value → WP)  (m1 : Nat) (n0 : Sl) (front1 : Sl) (l5 : Option Addr) (i6 : Int) : hoardlaw4_ListNumbers_l1 jn Q  (m1 + 1) n0 front1 l5 i6 = (
  ite2 (decide (i6 < (n0.n : Int))) (
  ite2 (decide (i6 < (front1.n : Int))) (
  idx front1.a front1.n i6 fun b_2 o_3 =>
  ld .bool b_2 (o_3 + (i6).toNat * 1) fun x_4 =>
  hoardlaw4_ListNumbers_j2 jn Q m1 n0 front1 l5 i6 x_4) (
  hoardlaw4_ListNumbers_j2 jn Q m1 n0 front1 l5 i6 false)) (
  hoardlaw4_ListNumbers_j3 jn Q  n0 l5)) := by kernel_rfl
theorem hoardlaw4_ListNumbers_l1_zero (jn : Jn) (Q : Value → WP)  (n0 : Sl) (front1 : Sl) (l5 : Option Addr) (i6 : Int) : hoardlaw4_ListNumbers_l1 jn Q  0 n0 front1 l5 i6 = bot := by kernel_rfl
theorem hoardlaw4_ListNumbers_raw (jn : Jn) (n0 : Sl) (front1 : Sl) (Q : Value → WP) : funJ jn Try.prog hoardlaw4_ListNumbers_kp Try.f4 [.slice n0.a n0.n n0.c, .slice front1.a front1.n front1.c] Q = (
  ite2 (decide ((n0.n : Int) > (200 : Int))) (
  Q (.bool true)) (
  call1 .ptr Try.prog id_list_New_int [] fun x_1 =>
  exM fun m => hoardlaw4_ListNumbers_l1 jn Q  m n0 front1 x_1 (0 : Int))) := by kernel_rfl
theorem hoardlaw4_ListNumbers_def (n0 : Sl) (front1 : Sl) (Q : Value → WP) : hoardlaw4_ListNumbers n0 front1 Q = funJ idJ Try.prog hoardlaw4_ListNumbers_kp Try.f4 [.slice n0.a n0.n n0.c, .slice front1.a front1.n front1.c] Q := rfl
theorem hoardlaw4_ListNumbers_calls {n0 : Sl} {front1 : Sl} {Q : Value → WP} {w : World} (h : hoardlaw4_ListNumbers n0 front1 Q w) : Calls Try.prog id_hoardlaw4_ListNumbers #[.slice n0.a n0.n n0.c, .slice front1.a front1.n front1.c] w fun e w' => ∃ v, e = .returned v ∧ Q v w' :=
  funJ_calls mixed Try.func4 rfl h

-- hoard/hoardlaw4.ListMoves
def hoardlaw4_ListMoves_kp : KP := ⟨[(8, [0, 1, 2]), (13, [0, 1, 2, 7, 8]), (18, [0, 1, 2, 7]), (23, [0, 1, 2, 7, 9, 10]), (30, [0, 1, 2, 7, 9]), (36, [0, 1, 7, 9, 11]), (40, [0, 1, 7, 9, 11]), (42, [7, 9, 11])], []⟩
def hoardlaw4_ListMoves_j7 (jn : Jn) (Q : Value → WP)  (l7 : Option Addr) (want9 : Sl) (ok11 : Bool) : WP := jn 42 (fun ρ => codeI Try.prog hoardlaw4_ListMoves_kp jn (cAt [true, true, true, true, true, true, true, true] (bodyOf Try.f5)) (retK Try.prog Try.f5 Q) noX (retK Try.prog Try.f5 Q) ρ) (us 7 ((.pointer l7) :: us 1 ((.slice want9.a want9.n want9.c) :: us 1 ((.bool ok11) :: us 88 []))))
def hoardlaw4_ListMoves_j6 (jn : Jn) (Q : Value → WP)  (s0 : Sl) (h1 : Int) (l7 : Option Addr) (want9 : Sl) (ok11 : Bool) : WP := jn 36 (fun ρ => codeI Try.prog hoardlaw4_ListMoves_kp jn (cAt [true, true, true, true, true, true, true, false, true, false, true] (bodyOf Try.f5)) (seqK Try.prog hoardlaw4_ListMoves_kp jn (cAt [true, true, true, true, true, true, true, true] (bodyOf Try.f5)) (retK Try.prog Try.f5 Q) noX (retK Try.prog Try.f5 Q)) noX (retK Try.prog Try.f5 Q) ρ) ((.slice s0.a s0.n s0.c) :: (.int .i64 h1) :: us 5 ((.pointer l7) :: us 1 ((.slice want9.a want9.n want9.c) :: us 1 ((.bool ok11) :: us 88 []))))
def hoardlaw4_ListMoves_j8 (jn : Jn) (Q : Value → WP)  (s0 : Sl) (h1 : Int) (l7 : Option Addr) (want9 : Sl) (ok11 : Bool) : WP := jn 40 (fun ρ => codeI Try.prog hoardlaw4_ListMoves_kp jn (cAt [true, true, true, true, true, true, true, false, true, true, true] (bodyOf Try.f5)) (seqK Try.prog hoardlaw4_ListMoves_kp jn (cAt [true, true, true, true, true, true, true, true] (bodyOf Try.f5)) (retK Try.prog Try.f5 Q) noX (retK Try.prog Try.f5 Q)) noX (retK Try.prog Try.f5 Q) ρ) ((.slice s0.a s0.n s0.c) :: (.int .i64 h1) :: us 5 ((.pointer l7) :: us 1 ((.slice want9.a want9.n want9.c) :: us 1 ((.bool ok11) :: us 88 []))))
def hoardlaw4_ListMoves_j5 (jn : Jn) (Q : Value → WP)  (s0 : Sl) (h1 : Int) (front2 : Bool) (l7 : Option Addr) (want9 : Sl) : WP := jn 30 (fun ρ => codeI Try.prog hoardlaw4_ListMoves_kp jn (cAt [true, true, true, true, true, true] (bodyOf Try.f5)) (retK Try.prog Try.f5 Q) noX (retK Try.prog Try.f5 Q) ρ) ((.slice s0.a s0.n s0.c) :: (.int .i64 h1) :: (.bool front2) :: us 4 ((.pointer l7) :: us 1 ((.slice want9.a want9.n want9.c) :: us 90 [])))
def hoardlaw4_ListMoves_l4 (jn : Jn) (Q : Value → WP)  (m4 : Nat) (s0 : Sl) (h1 : Int) (front2 : Bool) (l7 : Option Addr) (want9 : Sl) (i10 : Int) : WP := lop Try.prog hoardlaw4_ListMoves_kp jn (cAt [true, true, true, true, true, false, true, false, false] (bodyOf Try.f5)) (blkX 2 (seqK Try.prog hoardlaw4_ListMoves_kp jn (cAt [true, true, true, true, true, true] (bodyOf Try.f5)) (retK Try.prog Try.f5 Q) noX (retK Try.prog Try.f5 Q)) noX) (retK Try.prog Try.f5 Q) m4 ((.slice s0.a s0.n s0.c) :: (.int .i64 h1) :: (.bool front2) :: us 4 ((.pointer l7) :: us 1 ((.slice want9.a want9.n want9.c) :: (.int .i64 i10) :: us 89 [])))
def hoardlaw4_ListMoves_j3 (jn : Jn) (Q : Value → WP)  (s0 : Sl) (h1 : Int) (front2 : Bool) (l7 : Option Addr) : WP := jn 18 (fun ρ => codeI Try.prog hoardlaw4_ListMoves_kp jn (cAt [true, true, true, true] (bodyOf Try.f5)) (retK Try.prog Try.f5 Q) noX (retK Try.prog Try.f5 Q) ρ) ((.slice s0.a s0.n s0.c) :: (.int .i64 h1) :: (.bool front2) :: us 4 ((.pointer l7) :: us 92 []))
def hoardlaw4_ListMoves_l2 (jn : Jn) (Q : Value → WP)  (m2 : Nat) (s0 : Sl) (h1 : Int) (front2 : Bool) (l7 : Option Addr) (i8 : Int) : WP := lop Try.prog hoardlaw4_ListMoves_kp jn (cAt [true, true, true, false, true, false, false] (bodyOf Try.f5)) (blkX 0 (seqK Try.prog hoardlaw4_ListMoves_kp jn (cAt [true, true, true, true] (bodyOf Try.f5)) (retK Try.prog Try.f5 Q) noX (retK Try.prog Try.f5 Q)) noX) (retK Try.prog Try.f5 Q) m2 ((.slice s0.a s0.n s0.c) :: (.int .i64 h1) :: (.bool front2) :: us 4 ((.pointer l7) :: (.int .i64 i8) :: us 91 []))
def hoardlaw4_ListMoves_j1 (jn : Jn) (Q : Value → WP)  (s0 : Sl) (h1 : Int) (front2 : Bool) : WP := jn 8 (fun ρ => codeI Try.prog hoardlaw4_ListMoves_kp jn (cAt [true, true] (bodyOf Try.f5)) (retK Try.prog Try.f5 Q) noX (retK Try.prog Try.f5 Q) ρ) ((.slice s0.a s0.n s0.c) :: (.int .i64 h1) :: (.bool front2) :: us 97 [])
def hoardlaw4_ListMoves (s0 : Sl) (h1 : Int) (front2 : Bool) (Q : Value → WP) : WP := funJ idJ Try.prog hoardlaw4_ListMoves_kp Try.f5 [.slice s0.a s0.n s0.c, .int .i64 h1, .bool front2] Q
theorem hoardlaw4_ListMoves_j7_raw (jn : Jn) (Q : Value → WP)  (l7 : Option Addr) (want9 : Sl) (ok11 : Bool) : codeI Try.prog hoardlaw4_ListMoves_kp jn (cAt [true, true, true, true, true, true, true, true] (bodyOf Try.f5)) (retK Try.prog Try.f5 Q) noX (retK Try.prog Try.f5 Q) (us 7 ((.pointer l7) :: us 1 ((.slice want9.a want9.n want9.c) :: us 1 ((.bool ok11) :: us 88 [])))) = (
  ite2 ok11 (
  call1 .slc Try.prog id_list_List_string_All [.pointer l7] fun x_18 =>
  call1 .bool Try.prog id_hoardlaw4_texts [.slice x_18.a x_18.n x_18.c, .slice want9.a want9.n want9.c] fun x_19 =>
  ite2 x_19 (
  call1 .bool Try.prog id_hoardlaw4_known [] fun x_20 =>
  Q (.bool x_20)) (
  Q (.bool false))) (
  Q (.bool false))) := by kernel_rfl
theorem hoardlaw4_ListMoves_j7_def (Q : Value → WP)  (l7 : Option Addr) (want9 : Sl) (ok11 : Bool) : hoardlaw4_ListMoves_j7 idJ Q  l7 want9 ok11 = codeI Try.prog hoardlaw4_ListMoves_kp idJ (cAt [true, true, true, true, true, true, true, true] (bodyOf Try.f5)) (retK Try.prog Try.f5 Q) noX (retK Try.prog Try.f5 Q) (us 7 ((.pointer l7) :: us 1 ((.slice want9.a want9.n want9.c) :: us 1 ((.bool ok11) :: us 88 [])))) := by kernel_rfl
theorem hoardlaw4_ListMoves_j6_raw (jn : Jn) (Q : Value → WP)  (s0 : Sl) (h1 : Int) (l7 : Option Addr) (want9 : Sl) (ok11 : Bool) : codeI Try.prog hoardlaw4_ListMoves_kp jn (cAt [true, true, true, true, true, true, true, false, true, false, true] (bodyOf Try.f5)) (seqK Try.prog hoardlaw4_ListMoves_kp jn (cAt [true, true, true, true, true, true, true, true] (bodyOf Try.f5)) (retK Try.prog Try.f5 Q) noX (retK Try.prog Try.f5 Q)) noX (retK Try.prog Try.f5 Q) ((.slice s0.a s0.n s0.c) :: (.int .i64 h1) :: us 5 ((.pointer l7) :: us 1 ((.slice want9.a want9.n want9.c) :: us 1 ((.bool ok11) :: us 88 [])))) = (
  idx s0.a s0.n (IntKind.wrap .i64 (h1 - (1 : Int))) fun b_13 o_14 =>
  ld .str b_13 (o_14 + ((IntKind.wrap .i64 (h1 - (1 : Int)))).toNat * 1) fun x_15 =>
  newB [.string x_15] ty_string fun b_16 =>
  appendC ty_string 1 16 [.string str_empty] ⟨(some ⟨b_16, 0, none⟩), 1, 1⟩ want9.n (fun w => rdA w want9.a (want9.n * 1)) fun s_17 =>
  hoardlaw4_ListMoves_j7 jn Q  l7 s_17 ok11) := by kernel_rfl
theorem hoardlaw4_ListMoves_j6_def (Q : Value → WP)  (s0 : Sl) (h1 : Int) (l7 : Option Addr) (want9 : Sl) (ok11 : Bool) : hoardlaw4_ListMoves_j6 idJ Q  s0 h1 l7 want9 ok11 = codeI Try.prog hoardlaw4_ListMoves_kp idJ (cAt [true, true, true, true, true, true, true, false, true, false, true] (bodyOf Try.f5)) (seqK Try.prog hoardlaw4_ListMoves_kp idJ (cAt [true, true, true, true, true, true, true, true] (bodyOf Try.f5)) (retK Try.prog Try.f5 Q) noX (retK Try.prog Try.f5 Q)) noX (retK Try.prog Try.f5 Q) ((.slice s0.a s0.n s0.c) :: (.int .i64 h1) :: us 5 ((.pointer l7) :: us 1 ((.slice want9.a want9.n want9.c) :: us 1 ((.bool ok11) :: us 88 [])))) := by kernel_rfl
theorem hoardlaw4_ListMoves_j8_raw (jn : Jn) (Q : Value → WP)  (s0 : Sl) (h1 : Int) (l7 : Option Addr) (want9 : Sl) (ok11 : Bool) : codeI Try.prog hoardlaw4_ListMoves_kp jn (cAt [true, true, true, true, true, true, true, false, true, true, true] (bodyOf Try.f5)) (seqK Try.prog hoardlaw4_ListMoves_kp jn (cAt [true, true, true, true, true, true, true, true] (bodyOf Try.f5)) (retK Try.prog Try.f5 Q) noX (retK Try.prog Try.f5 Q)) noX (retK Try.prog Try.f5 Q) ((.slice s0.a s0.n s0.c) :: (.int .i64 h1) :: us 5 ((.pointer l7) :: us 1 ((.slice want9.a want9.n want9.c) :: us 1 ((.bool ok11) :: us 88 [])))) = (
  idx s0.a s0.n (IntKind.wrap .i64 (h1 - (1 : Int))) fun b_23 o_24 =>
  ld .str b_23 (o_24 + ((IntKind.wrap .i64 (h1 - (1 : Int)))).toNat * 1) fun x_25 =>
  newB [.string x_25] ty_string fun b_26 =>
  appendC ty_string 1 16 [.string str_empty] ⟨want9.a, want9.n, want9.c⟩ 1 (fun w => rdA w (some ⟨b_26, 0, none⟩) (1 * 1)) fun s_27 =>
  hoardlaw4_ListMoves_j7 jn Q  l7 s_27 ok11) := by kernel_rfl
theorem hoardlaw4_ListMoves_j8_def (Q : Value → WP)  (s0 : Sl) (h1 : Int) (l7 : Option Addr) (want9 : Sl) (ok11 : Bool) : hoardlaw4_ListMoves_j8 idJ Q  s0 h1 l7 want9 ok11 = codeI Try.prog hoardlaw4_ListMoves_kp idJ (cAt [true, true, true, true, true, true, true, false, true, true, true] (bodyOf Try.f5)) (seqK Try.prog hoardlaw4_ListMoves_kp idJ (cAt [true, true, true, true, true, true, true, true] (bodyOf Try.f5)) (retK Try.prog Try.f5 Q) noX (retK Try.prog Try.f5 Q)) noX (retK Try.prog Try.f5 Q) ((.slice s0.a s0.n s0.c) :: (.int .i64 h1) :: us 5 ((.pointer l7) :: us 1 ((.slice want9.a want9.n want9.c) :: us 1 ((.bool ok11) :: us 88 [])))) := by kernel_rfl
theorem hoardlaw4_ListMoves_j5_raw (jn : Jn) (Q : Value → WP)  (s0 : Sl) (h1 : Int) (front2 : Bool) (l7 : Option Addr) (want9 : Sl) : codeI Try.prog hoardlaw4_ListMoves_kp jn (cAt [true, true, true, true, true, true] (bodyOf Try.f5)) (retK Try.prog Try.f5 Q) noX (retK Try.prog Try.f5 Q) ((.slice s0.a s0.n s0.c) :: (.int .i64 h1) :: (.bool front2) :: us 4 ((.pointer l7) :: us 1 ((.slice want9.a want9.n want9.c) :: us 90 []))) = (
  ite2 front2 (
  call1 .bool Try.prog id_list_List_string_ToFront [.pointer l7, .int .i64 h1] fun x_11 =>
  ite2 x_11 (
  call1 (.int .i64) Try.prog id_list_List_string_Front [.pointer l7] fun x_12 =>
  hoardlaw4_ListMoves_j6 jn Q  s0 h1 l7 want9 (x_12 == h1)) (
  hoardlaw4_ListMoves_j6 jn Q  s0 h1 l7 want9 false)) (
  call1 .bool Try.prog id_list_List_string_ToBack [.pointer l7, .int .i64 h1] fun x_21 =>
  ite2 x_21 (
  call1 (.int .i64) Try.prog id_list_List_string_Back [.pointer l7] fun x_22 =>
  hoardlaw4_ListMoves_j8 jn Q  s0 h1 l7 want9 (x_22 == h1)) (
  hoardlaw4_ListMoves_j8 jn Q  s0 h1 l7 want9 false))) := by kernel_rfl
theorem hoardlaw4_ListMoves_j5_def (Q : Value → WP)  (s0 : Sl) (h1 : Int) (front2 : Bool) (l7 : Option Addr) (want9 : Sl) : hoardlaw4_ListMoves_j5 idJ Q  s0 h1 front2 l7 want9 = codeI Try.prog hoardlaw4_ListMoves_kp idJ (cAt [true, true, true, true, true, true] (bodyOf Try.f5)) (retK Try.prog Try.f5 Q) noX (retK Try.prog Try.f5 Q) ((.slice s0.a s0.n s0.c) :: (.int .i64 h1) :: (.bool front2) :: us 4 ((.pointer l7) :: us 1 ((.slice want9.a want9.n want9.c) :: us 90 []))) := by kernel_rfl
theorem hoardlaw4_ListMoves_l4_raw (jn : Jn) (Q : Value → WP)  (m4 : Nat) (s0 : Sl) (h1 : Int) (front2 : Bool) (l7 : Option Addr) (want9 : Sl) (i10 : Int) : hoardlaw4_ListMoves_l4 jn Q  (m4 + 1) s0 h1 front2 l7 want9 i10 = (
  ite2 (decide (i10 < (s0.n : Int))) (
  ite2 (i10 != (IntKind.wrap .i64 (h1 - (1 : Int)))) (
  idx s0.a s0.n i10 fun b_6 o_7 =>
  ld .str b_6 (o_7 + (i10).toNat * 1) fun x_8 =>
  newB [.string x_8] ty_string fun b_9 =>
  appendC ty_string 1 16 [.string str_empty] ⟨want9.a, want9.n, want9.c⟩ 1 (fun w => rdA w (some ⟨b_9, 0, none⟩) (1 * 1)) fun s_10 =>
  hoardlaw4_ListMoves_l4 jn Q  m4 s0 h1 front2 l7 s_10 (IntKind.wrap .i64 (i10 + (1 : Int)))) (
  hoardlaw4_ListMoves_l4 jn Q  m4 s0 h1 front2 l7 want9 (IntKind.wrap .i64 (i10 + (1 : Int))))) (
  hoardlaw4_ListMoves_j5 jn Q  s0 h1 front2 l7 want9)) := by kernel_rfl
theorem hoardlaw4_ListMoves_l4_zero (jn : Jn) (Q : Value → WP)  (s0 : Sl) (h1 : Int) (front2 : Bool) (l7 : Option Addr) (want9 : Sl) (i10 : Int) : hoardlaw4_ListMoves_l4 jn Q  0 s0 h1 front2 l7 want9 i10 = bot := by kernel_rfl
theorem hoardlaw4_ListMoves_j3_raw (jn : Jn) (Q : Value → WP)  (s0 : Sl) (h1 : Int) (front2 : Bool) (l7 : Option Addr) : codeI Try.prog hoardlaw4_ListMoves_kp jn (cAt [true, true, true, true] (bodyOf Try.f5)) (retK Try.prog Try.f5 Q) noX (retK Try.prog Try.f5 Q) ((.slice s0.a s0.n s0.c) :: (.int .i64 h1) :: (.bool front2) :: us 4 ((.pointer l7) :: us 92 [])) = (
  exM fun m => hoardlaw4_ListMoves_l4 jn Q  m s0 h1 front2 l7 ⟨(none : Option Addr), 0, 0⟩ (0 : Int)) := by kernel_rfl
theorem hoardlaw4_ListMoves_j3_def (Q : Value → WP)  (s0 : Sl) (h1 : Int) (front2 : Bool) (l7 : Option Addr) : hoardlaw4_ListMoves_j3 idJ Q  s0 h1 front2 l7 = codeI Try.prog hoardlaw4_ListMoves_kp idJ (cAt [true, true, true, true] (bodyOf Try.f5)) (retK Try.prog Try.f5 Q) noX (retK Try.prog Try.f5 Q) ((.slice s0.a s0.n s0.c) :: (.int .i64 h1) :: (.bool front2) :: us 4 ((.pointer l7) :: us 92 [])) := by kernel_rfl
theorem hoardlaw4_ListMoves_l2_raw (jn : Jn) (Q : Value → WP)  (m2 : Nat) (s0 : Sl) (h1 : Int) (front2 : Bool) (l7 : Option Addr) (i8 : Int) : hoardlaw4_ListMoves_l2 jn Q  (m2 + 1) s0 h1 front2 l7 i8 = (
  ite2 (decide (i8 < (s0.n : Int))) (
  idx s0.a s0.n i8 fun b_2 o_3 =>
  ld .str b_2 (o_3 + (i8).toNat * 1) fun x_4 =>
  call1 (.int .i64) Try.prog id_list_List_string_PushBack [.pointer l7, .string x_4] fun x_5 =>
  hoardlaw4_ListMoves_l2 jn Q  m2 s0 h1 front2 l7 (IntKind.wrap .i64 (i8 + (1 : Int)))) (
  hoardlaw4_ListMoves_j3 jn Q  s0 h1 front2 l7)) := by kernel_rfl
theorem hoardlaw4_ListMoves_l2_zero (jn : Jn) (Q : Value → WP)  (s0 : Sl) (h1 : Int) (front2 : Bool) (l7 : Option Addr) (i8 : Int) : hoardlaw4_ListMoves_l2 jn Q  0 s0 h1 front2 l7 i8 = bot := by kernel_rfl
theorem hoardlaw4_ListMoves_j1_raw (jn : Jn) (Q : Value → WP)  (s0 : Sl) (h1 : Int) (front2 : Bool) : codeI Try.prog hoardlaw4_ListMoves_kp jn (cAt [true, true] (bodyOf Try.f5)) (retK Try.prog Try.f5 Q) noX (retK Try.prog Try.f5 Q) ((.slice s0.a s0.n s0.c) :: (.int .i64 h1) :: (.bool front2) :: us 97 []) = (
  call1 .ptr Try.prog id_list_New_string [] fun x_1 =>
  exM fun m => hoardlaw4_ListMoves_l2 jn Q  m s0 h1 front2 x_1 (0 : Int)) := by kernel_rfl
theorem hoardlaw4_ListMoves_j1_def (Q : Value → WP)  (s0 : Sl) (h1 : Int) (front2 : Bool) : hoardlaw4_ListMoves_j1 idJ Q  s0 h1 front2 = codeI Try.prog hoardlaw4_ListMoves_kp idJ (cAt [true, true] (bodyOf Try.f5)) (retK Try.prog Try.f5 Q) noX (retK Try.prog Try.f5 Q) ((.slice s0.a s0.n s0.c) :: (.int .i64 h1) :: (.bool front2) :: us 97 []) := by kernel_rfl
theorem hoardlaw4_ListMoves_raw (jn : Jn) (s0 : Sl) (h1 : Int) (front2 : Bool) (Q : Value → WP) : funJ jn Try.prog hoardlaw4_ListMoves_kp Try.f5 [.slice s0.a s0.n s0.c, .int .i64 h1, .bool front2] Q = (
  ite2 (decide ((s0.n : Int) > (60 : Int))) (
  Q (.bool true)) (
  ite2 (decide (h1 < (1 : Int))) (
  Q (.bool true)) (
  ite2 (decide (h1 > (s0.n : Int))) (
  Q (.bool true)) (
  hoardlaw4_ListMoves_j1 jn Q  s0 h1 front2)))) := by kernel_rfl
theorem hoardlaw4_ListMoves_def (s0 : Sl) (h1 : Int) (front2 : Bool) (Q : Value → WP) : hoardlaw4_ListMoves s0 h1 front2 Q = funJ idJ Try.prog hoardlaw4_ListMoves_kp Try.f5 [.slice s0.a s0.n s0.c, .int .i64 h1, .bool front2] Q := rfl
theorem hoardlaw4_ListMoves_calls {s0 : Sl} {h1 : Int} {front2 : Bool} {Q : Value → WP} {w : World} (h : hoardlaw4_ListMoves s0 h1 front2 Q w) : Calls Try.prog id_hoardlaw4_ListMoves #[.slice s0.a s0.n s0.c, .int .i64 h1, .bool front2] w fun e w' => ∃ v, e = .returned v ∧ Q v w' :=
  funJ_calls mixed Try.func5 rfl h

-- hoard/hoardlaw4.ListHandles
def hoardlaw4_ListHandles_kp : KP := ⟨[(15, [0, 3, 4, 5, 6]), (16, [0, 3, 4, 5, 6]), (18, [0, 3, 4, 5, 6]), (27, [0, 3, 4, 5, 6, 7, 8]), (30, [0, 3, 4, 5, 6, 7, 8]), (36, [0, 3, 4, 5, 6, 7]), (40, [])], []⟩
def hoardlaw4_ListHandles_j4 (jn : Jn) (Q : Value → WP) (m1 : Nat) (m3 : Nat) (acts0 : Sl) (l3 : Option Addr) (x4_b : Nat) (x4_o : Nat) (most5 : Int) (i6 : Int) (n7 : Int) (h8 : Int) : WP := jn 30 (fun ρ => codeI Try.prog hoardlaw4_ListHandles_kp jn (cAt [true, true, true, true, false, true, false, false, true, false, false, true, true, true, false, true, false, false, true] (bodyOf Try.f6)) (lopK Try.prog hoardlaw4_ListHandles_kp jn (cAt [true, true, true, true, false, true, false, false, true, false, false, true, true, true, false, true, false, false] (bodyOf Try.f6)) (blkX 2 (seqK Try.prog hoardlaw4_ListHandles_kp jn (cAt [true, true, true, true, false, true, false, false, true, false, false, true, true, true, true] (bodyOf Try.f6)) (seqK Try.prog hoardlaw4_ListHandles_kp jn (cAt [true, true, true, true, false, true, false, false, true, true] (bodyOf Try.f6)) (lopK Try.prog hoardlaw4_ListHandles_kp jn (cAt [true, true, true, true, false, true, false, false] (bodyOf Try.f6)) (blkX 0 (seqK Try.prog hoardlaw4_ListHandles_kp jn (cAt [true, true, true, true, true] (bodyOf Try.f6)) (retK Try.prog Try.f6 Q) noX (retK Try.prog Try.f6 Q)) noX) (retK Try.prog Try.f6 Q) m1) (blkX 0 (seqK Try.prog hoardlaw4_ListHandles_kp jn (cAt [true, true, true, true, true] (bodyOf Try.f6)) (retK Try.prog Try.f6 Q) noX (retK Try.prog Try.f6 Q)) noX) (retK Try.prog Try.f6 Q)) (blkX 1 (seqK Try.prog hoardlaw4_ListHandles_kp jn (cAt [true, true, true, true, false, true, false, false, true, true] (bodyOf Try.f6)) (lopK Try.prog hoardlaw4_ListHandles_kp jn (cAt [true, true, true, true, false, true, false, false] (bodyOf Try.f6)) (blkX 0 (seqK Try.prog hoardlaw4_ListHandles_kp jn (cAt [true, true, true, true, true] (bodyOf Try.f6)) (retK Try.prog Try.f6 Q) noX (retK Try.prog Try.f6 Q)) noX) (retK Try.prog Try.f6 Q) m1) (blkX 0 (seqK Try.prog hoardlaw4_ListHandles_kp jn (cAt [true, true, true, true, true] (bodyOf Try.f6)) (retK Try.prog Try.f6 Q) noX (retK Try.prog Try.f6 Q)) noX) (retK Try.prog Try.f6 Q)) (blkX 0 (seqK Try.prog hoardlaw4_ListHandles_kp jn (cAt [true, true, true, true, true] (bodyOf Try.f6)) (retK Try.prog Try.f6 Q) noX (retK Try.prog Try.f6 Q)) noX)) (retK Try.prog Try.f6 Q)) (blkX 1 (seqK Try.prog hoardlaw4_ListHandles_kp jn (cAt [true, true, true, true, false, true, false, false, true, true] (bodyOf Try.f6)) (lopK Try.prog hoardlaw4_ListHandles_kp jn (cAt [true, true, true, true, false, true, false, false] (bodyOf Try.f6)) (blkX 0 (seqK Try.prog hoardlaw4_ListHandles_kp jn (cAt [true, true, true, true, true] (bodyOf Try.f6)) (retK Try.prog Try.f6 Q) noX (retK Try.prog Try.f6 Q)) noX) (retK Try.prog Try.f6 Q) m1) (blkX 0 (seqK Try.prog hoardlaw4_ListHandles_kp jn (cAt [true, true, true, true, true] (bodyOf Try.f6)) (retK Try.prog Try.f6 Q) noX (retK Try.prog Try.f6 Q)) noX) (retK Try.prog Try.f6 Q)) (blkX 0 (seqK Try.prog hoardlaw4_ListHandles_kp jn (cAt [true, true, true, true, true] (bodyOf Try.f6)) (retK Try.prog Try.f6 Q) noX (retK Try.prog Try.f6 Q)) noX))) (retK Try.prog Try.f6 Q) m3) (blkX 2 (seqK Try.prog hoardlaw4_ListHandles_kp jn (cAt [true, true, true, true, false, true, false, false, true, false, false, true, true, true, true] (bodyOf Try.f6)) (seqK Try.prog hoardlaw4_ListHandles_kp jn (cAt [true, true, true, true, false, true, false, false, true, true] (bodyOf Try.f6)) (lopK Try.prog hoardlaw4_ListHandles_kp jn (cAt [true, true, true, true, false, true, false, false] (bodyOf Try.f6)) (blkX 0 (seqK Try.prog hoardlaw4_ListHandles_kp jn (cAt [true, true, true, true, true] (bodyOf Try.f6)) (retK Try.prog Try.f6 Q) noX (retK Try.prog Try.f6 Q)) noX) (retK Try.prog Try.f6 Q) m1) (blkX 0 (seqK Try.prog hoardlaw4_ListHandles_kp jn (cAt [true, true, true, true, true] (bodyOf Try.f6)) (retK Try.prog Try.f6 Q) noX (retK Try.prog Try.f6 Q)) noX) (retK Try.prog Try.f6 Q)) (blkX 1 (seqK Try.prog hoardlaw4_ListHandles_kp jn (cAt [true, true, true, true, false, true, false, false, true, true] (bodyOf Try.f6)) (lopK Try.prog hoardlaw4_ListHandles_kp jn (cAt [true, true, true, true, false, true, false, false] (bodyOf Try.f6)) (blkX 0 (seqK Try.prog hoardlaw4_ListHandles_kp jn (cAt [true, true, true, true, true] (bodyOf Try.f6)) (retK Try.prog Try.f6 Q) noX (retK Try.prog Try.f6 Q)) noX) (retK Try.prog Try.f6 Q) m1) (blkX 0 (seqK Try.prog hoardlaw4_ListHandles_kp jn (cAt [true, true, true, true, true] (bodyOf Try.f6)) (retK Try.prog Try.f6 Q) noX (retK Try.prog Try.f6 Q)) noX) (retK Try.prog Try.f6 Q)) (blkX 0 (seqK Try.prog hoardlaw4_ListHandles_kp jn (cAt [true, true, true, true, true] (bodyOf Try.f6)) (retK Try.prog Try.f6 Q) noX (retK Try.prog Try.f6 Q)) noX)) (retK Try.prog Try.f6 Q)) (blkX 1 (seqK Try.prog hoardlaw4_ListHandles_kp jn (cAt [true, true, true, true, false, true, false, false, true, true] (bodyOf Try.f6)) (lopK Try.prog hoardlaw4_ListHandles_kp jn (cAt [true, true, true, true, false, true, false, false] (bodyOf Try.f6)) (blkX 0 (seqK Try.prog hoardlaw4_ListHandles_kp jn (cAt [true, true, true, true, true] (bodyOf Try.f6)) (retK Try.prog Try.f6 Q) noX (retK Try.prog Try.f6 Q)) noX) (retK Try.prog Try.f6 Q) m1) (blkX 0 (seqK Try.prog hoardlaw4_ListHandles_kp jn (cAt [true, true, true, true, true] (bodyOf Try.f6)) (retK Try.prog Try.f6 Q) noX (retK Try.prog Try.f6 Q)) noX) (retK Try.prog Try.f6 Q)) (blkX 0 (seqK Try.prog hoardlaw4_ListHandles_kp jn (cAt [true, true, true, true, true] (bodyOf Try.f6)) (retK Try.prog Try.f6 Q) noX (retK Try.prog Try.f6 Q)) noX))) (retK Try.prog Try.f6 Q) ρ) ((.slice acts0.a acts0.n acts0.c) :: us 2 ((.pointer l3) :: (.pointer (some ⟨x4_b, x4_o, none⟩)) :: (.int .i64 most5) :: (.int .i64 i6) :: (.int .i64 n7) :: (.int .i64 h8) :: us 53 []))
def hoardlaw4_ListHandles_j6 (jn : Jn) (Q : Value → WP) (m1 : Nat) (acts0 : Sl) (l3 : Option Addr) (x4_b : Nat) (x4_o : Nat) (most5 : Int) (i6 : Int) : WP := jn 16 (fun ρ => codeI Try.prog hoardlaw4_ListHandles_kp jn (cAt [true, true, true, true, false, true, false, false, true, true] (bodyOf Try.f6)) (lopK Try.prog hoardlaw4_ListHandles_kp jn (cAt [true, true, true, true, false, true, false, false] (bodyOf Try.f6)) (blkX 0 (seqK Try.prog hoardlaw4_ListHandles_kp jn (cAt [true, true, true, true, true] (bodyOf Try.f6)) (retK Try.prog Try.f6 Q) noX (retK Try.prog Try.f6 Q)) noX) (retK Try.prog Try.f6 Q) m1) (blkX 0 (seqK Try.prog hoardlaw4_ListHandles_kp jn (cAt [true, true, true, true, true] (bodyOf Try.f6)) (retK Try.prog Try.f6 Q) noX (retK Try.prog Try.f6 Q)) noX) (retK Try.prog Try.f6 Q) ρ) ((.slice acts0.a acts0.n acts0.c) :: us 2 ((.pointer l3) :: (.pointer (some ⟨x4_b, x4_o, none⟩)) :: (.int .i64 most5) :: (.int .i64 i6) :: us 55 []))
def hoardlaw4_ListHandles_j5 (jn : Jn) (Q : Value → WP) (m1 : Nat) (acts0 : Sl) (l3 : Option Addr) (x4_b : Nat) (x4_o : Nat) (most5 : Int) (i6 : Int) (n7 : Int) : WP := jn 36 (fun ρ => codeI Try.prog hoardlaw4_ListHandles_kp jn (cAt [true, true, true, true, false, true, false, false, true, false, false, true, true, true, true] (bodyOf Try.f6)) (seqK Try.prog hoardlaw4_ListHandles_kp jn (cAt [true, true, true, true, false, true, false, false, true, true] (bodyOf Try.f6)) (lopK Try.prog hoardlaw4_ListHandles_kp jn (cAt [true, true, true, true, false, true, false, false] (bodyOf Try.f6)) (blkX 0 (seqK Try.prog hoardlaw4_ListHandles_kp jn (cAt [true, true, true, true, true] (bodyOf Try.f6)) (retK Try.prog Try.f6 Q) noX (retK Try.prog Try.f6 Q)) noX) (retK Try.prog Try.f6 Q) m1) (blkX 0 (seqK Try.prog hoardlaw4_ListHandles_kp jn (cAt [true, true, true, true, true] (bodyOf Try.f6)) (retK Try.prog Try.f6 Q) noX (retK Try.prog Try.f6 Q)) noX) (retK Try.prog Try.f6 Q)) (blkX 1 (seqK Try.prog hoardlaw4_ListHandles_kp jn (cAt [true, true, true, true, false, true, false, false, true, true] (bodyOf Try.f6)) (lopK Try.prog hoardlaw4_ListHandles_kp jn (cAt [true, true, true, true, false, true, false, false] (bodyOf Try.f6)) (blkX 0 (seqK Try.prog hoardlaw4_ListHandles_kp jn (cAt [true, true, true, true, true] (bodyOf Try.f6)) (retK Try.prog Try.f6 Q) noX (retK Try.prog Try.f6 Q)) noX) (retK Try.prog Try.f6 Q) m1) (blkX 0 (seqK Try.prog hoardlaw4_ListHandles_kp jn (cAt [true, true, true, true, true] (bodyOf Try.f6)) (retK Try.prog Try.f6 Q) noX (retK Try.prog Try.f6 Q)) noX) (retK Try.prog Try.f6 Q)) (blkX 0 (seqK Try.prog hoardlaw4_ListHandles_kp jn (cAt [true, true, true, true, true] (bodyOf Try.f6)) (retK Try.prog Try.f6 Q) noX (retK Try.prog Try.f6 Q)) noX)) (retK Try.prog Try.f6 Q) ρ) ((.slice acts0.a acts0.n acts0.c) :: us 2 ((.pointer l3) :: (.pointer (some ⟨x4_b, x4_o, none⟩)) :: (.int .i64 most5) :: (.int .i64 i6) :: (.int .i64 n7) :: us 54 []))
def hoardlaw4_ListHandles_l3 (jn : Jn) (Q : Value → WP) (m1 : Nat) (m3 : Nat) (acts0 : Sl) (l3 : Option Addr) (x4_b : Nat) (x4_o : Nat) (most5 : Int) (i6 : Int) (n7 : Int) (h8 : Int) : WP := lop Try.prog hoardlaw4_ListHandles_kp jn (cAt [true, true, true, true, false, true, false, false, true, false, false, true, true, true, false, true, false, false] (bodyOf Try.f6)) (blkX 2 (seqK Try.prog hoardlaw4_ListHandles_kp jn (cAt [true, true, true, true, false, true, false, false, true, false, false, true, true, true, true] (bodyOf Try.f6)) (seqK Try.prog hoardlaw4_ListHandles_kp jn (cAt [true, true, true, true, false, true, false, false, true, true] (bodyOf Try.f6)) (lopK Try.prog hoardlaw4_ListHandles_kp jn (cAt [true, true, true, true, false, true, false, false] (bodyOf Try.f6)) (blkX 0 (seqK Try.prog hoardlaw4_ListHandles_kp jn (cAt [true, true, true, true, true] (bodyOf Try.f6)) (retK Try.prog Try.f6 Q) noX (retK Try.prog Try.f6 Q)) noX) (retK Try.prog Try.f6 Q) m1) (blkX 0 (seqK Try.prog hoardlaw4_ListHandles_kp jn (cAt [true, true, true, true, true] (bodyOf Try.f6)) (retK Try.prog Try.f6 Q) noX (retK Try.prog Try.f6 Q)) noX) (retK Try.prog Try.f6 Q)) (blkX 1 (seqK Try.prog hoardlaw4_ListHandles_kp jn (cAt [true, true, true, true, false, true, false, false, true, true] (bodyOf Try.f6)) (lopK Try.prog hoardlaw4_ListHandles_kp jn (cAt [true, true, true, true, false, true, false, false] (bodyOf Try.f6)) (blkX 0 (seqK Try.prog hoardlaw4_ListHandles_kp jn (cAt [true, true, true, true, true] (bodyOf Try.f6)) (retK Try.prog Try.f6 Q) noX (retK Try.prog Try.f6 Q)) noX) (retK Try.prog Try.f6 Q) m1) (blkX 0 (seqK Try.prog hoardlaw4_ListHandles_kp jn (cAt [true, true, true, true, true] (bodyOf Try.f6)) (retK Try.prog Try.f6 Q) noX (retK Try.prog Try.f6 Q)) noX) (retK Try.prog Try.f6 Q)) (blkX 0 (seqK Try.prog hoardlaw4_ListHandles_kp jn (cAt [true, true, true, true, true] (bodyOf Try.f6)) (retK Try.prog Try.f6 Q) noX (retK Try.prog Try.f6 Q)) noX)) (retK Try.prog Try.f6 Q)) (blkX 1 (seqK Try.prog hoardlaw4_ListHandles_kp jn (cAt [true, true, true, true, false, true, false, false, true, true] (bodyOf Try.f6)) (lopK Try.prog hoardlaw4_ListHandles_kp jn (cAt [true, true, true, true, false, true, false, false] (bodyOf Try.f6)) (blkX 0 (seqK Try.prog hoardlaw4_ListHandles_kp jn (cAt [true, true, true, true, true] (bodyOf Try.f6)) (retK Try.prog Try.f6 Q) noX (retK Try.prog Try.f6 Q)) noX) (retK Try.prog Try.f6 Q) m1) (blkX 0 (seqK Try.prog hoardlaw4_ListHandles_kp jn (cAt [true, true, true, true, true] (bodyOf Try.f6)) (retK Try.prog Try.f6 Q) noX (retK Try.prog Try.f6 Q)) noX) (retK Try.prog Try.f6 Q)) (blkX 0 (seqK Try.prog hoardlaw4_ListHandles_kp jn (cAt [true, true, true, true, true] (bodyOf Try.f6)) (retK Try.prog Try.f6 Q) noX (retK Try.prog Try.f6 Q)) noX))) (retK Try.prog Try.f6 Q) m3 ((.slice acts0.a acts0.n acts0.c) :: us 2 ((.pointer l3) :: (.pointer (some ⟨x4_b, x4_o, none⟩)) :: (.int .i64 most5) :: (.int .i64 i6) :: (.int .i64 n7) :: (.int .i64 h8) :: us 53 []))
def hoardlaw4_ListHandles_j2 (jn : Jn) (Q : Value → WP) (m1 : Nat) (acts0 : Sl) (l3 : Option Addr) (x4_b : Nat) (x4_o : Nat) (most5 : Int) (i6 : Int) : WP := jn 18 (fun ρ => codeI Try.prog hoardlaw4_ListHandles_kp jn (cAt [true, true, true, true, false, true, false, false, true] (bodyOf Try.f6)) (lopK Try.prog hoardlaw4_ListHandles_kp jn (cAt [true, true, true, true, false, true, false, false] (bodyOf Try.f6)) (blkX 0 (seqK Try.prog hoardlaw4_ListHandles_kp jn (cAt [true, true, true, true, true] (bodyOf Try.f6)) (retK Try.prog Try.f6 Q) noX (retK Try.prog Try.f6 Q)) noX) (retK Try.prog Try.f6 Q) m1) (blkX 0 (seqK Try.prog hoardlaw4_ListHandles_kp jn (cAt [true, true, true, true, true] (bodyOf Try.f6)) (retK Try.prog Try.f6 Q) noX (retK Try.prog Try.f6 Q)) noX) (retK Try.prog Try.f6 Q) ρ) ((.slice acts0.a acts0.n acts0.c) :: us 2 ((.pointer l3) :: (.pointer (some ⟨x4_b, x4_o, none⟩)) :: (.int .i64 most5) :: (.int .i64 i6) :: us 55 []))
def hoardlaw4_ListHandles_j7 (jn : Jn) (Q : Value → WP)   : WP := jn 40 (fun ρ => codeI Try.prog hoardlaw4_ListHandles_kp jn (cAt [true, true, true, true, true] (bodyOf Try.f6)) (retK Try.prog Try.f6 Q) noX (retK Try.prog Try.f6 Q) ρ) (us 62 [])
def hoardlaw4_ListHandles_l1 (jn : Jn) (Q : Value → WP)  (m1 : Nat) (acts0 : Sl) (l3 : Option Addr) (x4_b : Nat) (x4_o : Nat) (most5 : Int) (i6 : Int) : WP := lop Try.prog hoardlaw4_ListHandles_kp jn (cAt [true, true, true, true, false, true, false, false] (bodyOf Try.f6)) (blkX 0 (seqK Try.prog hoardlaw4_ListHandles_kp jn (cAt [true, true, true, true, true] (bodyOf Try.f6)) (retK Try.prog Try.f6 Q) noX (retK Try.prog Try.f6 Q)) noX) (retK Try.prog Try.f6 Q) m1 ((.slice acts0.a acts0.n acts0.c) :: us 2 ((.pointer l3) :: (.pointer (some ⟨x4_b, x4_o, none⟩)) :: (.int .i64 most5) :: (.int .i64 i6) :: us 55 []))
def hoardlaw4_ListHandles (acts0 : Sl) (Q : Value → WP) : WP := funJ idJ Try.prog hoardlaw4_ListHandles_kp Try.f6 [.slice acts0.a acts0.n acts0.c] Q
theorem hoardlaw4_ListHandles_j4_raw (jn : Jn) (Q : Value → WP) (m1 : Nat) (m3 : Nat) (acts0 : Sl) (l3 : Option Addr) (x4_b : Nat) (x4_o : Nat) (most5 : Int) (i6 : Int) (n7 : Int) (h8 : Int) : codeI Try.prog hoardlaw4_ListHandles_kp jn (cAt [true, true, true, true, false, true, false, false, true, false, false, true, true, true, false, true, false, false, true] (bodyOf Try.f6)) (lopK Try.prog hoardlaw4_ListHandles_kp jn (cAt [true, true, true, true, false, true, false, false, true, false, false, true, true, true, false, true, false, false] (bodyOf Try.f6)) (blkX 2 (seqK Try.prog hoardlaw4_ListHandles_kp jn (cAt [true, true, true, true, false, true, false, false, true, false, false, true, true, true, true] (bodyOf Try.f6)) (seqK Try.prog hoardlaw4_ListHandles_kp jn (cAt [true, true, true, true, false, true, false, false, true, true] (bodyOf Try.f6)) (lopK Try.prog hoardlaw4_ListHandles_kp jn (cAt [true, true, true, true, false, true, false, false] (bodyOf Try.f6)) (blkX 0 (seqK Try.prog hoardlaw4_ListHandles_kp jn (cAt [true, true, true, true, true] (bodyOf Try.f6)) (retK Try.prog Try.f6 Q) noX (retK Try.prog Try.f6 Q)) noX) (retK Try.prog Try.f6 Q) m1) (blkX 0 (seqK Try.prog hoardlaw4_ListHandles_kp jn (cAt [true, true, true, true, true] (bodyOf Try.f6)) (retK Try.prog Try.f6 Q) noX (retK Try.prog Try.f6 Q)) noX) (retK Try.prog Try.f6 Q)) (blkX 1 (seqK Try.prog hoardlaw4_ListHandles_kp jn (cAt [true, true, true, true, false, true, false, false, true, true] (bodyOf Try.f6)) (lopK Try.prog hoardlaw4_ListHandles_kp jn (cAt [true, true, true, true, false, true, false, false] (bodyOf Try.f6)) (blkX 0 (seqK Try.prog hoardlaw4_ListHandles_kp jn (cAt [true, true, true, true, true] (bodyOf Try.f6)) (retK Try.prog Try.f6 Q) noX (retK Try.prog Try.f6 Q)) noX) (retK Try.prog Try.f6 Q) m1) (blkX 0 (seqK Try.prog hoardlaw4_ListHandles_kp jn (cAt [true, true, true, true, true] (bodyOf Try.f6)) (retK Try.prog Try.f6 Q) noX (retK Try.prog Try.f6 Q)) noX) (retK Try.prog Try.f6 Q)) (blkX 0 (seqK Try.prog hoardlaw4_ListHandles_kp jn (cAt [true, true, true, true, true] (bodyOf Try.f6)) (retK Try.prog Try.f6 Q) noX (retK Try.prog Try.f6 Q)) noX)) (retK Try.prog Try.f6 Q)) (blkX 1 (seqK Try.prog hoardlaw4_ListHandles_kp jn (cAt [true, true, true, true, false, true, false, false, true, true] (bodyOf Try.f6)) (lopK Try.prog hoardlaw4_ListHandles_kp jn (cAt [true, true, true, true, false, true, false, false] (bodyOf Try.f6)) (blkX 0 (seqK Try.prog hoardlaw4_ListHandles_kp jn (cAt [true, true, true, true, true] (bodyOf Try.f6)) (retK Try.prog Try.f6 Q) noX (retK Try.prog Try.f6 Q)) noX) (retK Try.prog Try.f6 Q) m1) (blkX 0 (seqK Try.prog hoardlaw4_ListHandles_kp jn (cAt [true, true, true, true, true] (bodyOf Try.f6)) (retK Try.prog Try.f6 Q) noX (retK Try.prog Try.f6 Q)) noX) (retK Try.prog Try.f6 Q)) (blkX 0 (seqK Try.prog hoardlaw4_ListHandles_kp jn (cAt [true, true, true, true, true] (bodyOf Try.f6)) (retK Try.prog Try.f6 Q) noX (retK Try.prog Try.f6 Q)) noX))) (retK Try.prog Try.f6 Q) m3) (blkX 2 (seqK Try.prog hoardlaw4_ListHandles_kp jn (cAt [true, true, true, true, false, true, false, false, true, false, false, true, true, true, true] (bodyOf Try.f6)) (seqK Try.prog hoardlaw4_ListHandles_kp jn (cAt [true, true, true, true, false, true, false, false, true, true] (bodyOf Try.f6)) (lopK Try.prog hoardlaw4_ListHandles_kp jn (cAt [true, true, true, true, false, true, false, false] (bodyOf Try.f6)) (blkX 0 (seqK Try.prog hoardlaw4_ListHandles_kp jn (cAt [true, true, true, true, true] (bodyOf Try.f6)) (retK Try.prog Try.f6 Q) noX (retK Try.prog Try.f6 Q)) noX) (retK Try.prog Try.f6 Q) m1) (blkX 0 (seqK Try.prog hoardlaw4_ListHandles_kp jn (cAt [true, true, true, true, true] (bodyOf Try.f6)) (retK Try.prog Try.f6 Q) noX (retK Try.prog Try.f6 Q)) noX) (retK Try.prog Try.f6 Q)) (blkX 1 (seqK Try.prog hoardlaw4_ListHandles_kp jn (cAt [true, true, true, true, false, true, false, false, true, true] (bodyOf Try.f6)) (lopK Try.prog hoardlaw4_ListHandles_kp jn (cAt [true, true, true, true, false, true, false, false] (bodyOf Try.f6)) (blkX 0 (seqK Try.prog hoardlaw4_ListHandles_kp jn (cAt [true, true, true, true, true] (bodyOf Try.f6)) (retK Try.prog Try.f6 Q) noX (retK Try.prog Try.f6 Q)) noX) (retK Try.prog Try.f6 Q) m1) (blkX 0 (seqK Try.prog hoardlaw4_ListHandles_kp jn (cAt [true, true, true, true, true] (bodyOf Try.f6)) (retK Try.prog Try.f6 Q) noX (retK Try.prog Try.f6 Q)) noX) (retK Try.prog Try.f6 Q)) (blkX 0 (seqK Try.prog hoardlaw4_ListHandles_kp jn (cAt [true, true, true, true, true] (bodyOf Try.f6)) (retK Try.prog Try.f6 Q) noX (retK Try.prog Try.f6 Q)) noX)) (retK Try.prog Try.f6 Q)) (blkX 1 (seqK Try.prog hoardlaw4_ListHandles_kp jn (cAt [true, true, true, true, false, true, false, false, true, true] (bodyOf Try.f6)) (lopK Try.prog hoardlaw4_ListHandles_kp jn (cAt [true, true, true, true, false, true, false, false] (bodyOf Try.f6)) (blkX 0 (seqK Try.prog hoardlaw4_ListHandles_kp jn (cAt [true, true, true, true, true] (bodyOf Try.f6)) (retK Try.prog Try.f6 Q) noX (retK Try.prog Try.f6 Q)) noX) (retK Try.prog Try.f6 Q) m1) (blkX 0 (seqK Try.prog hoardlaw4_ListHandles_kp jn (cAt [true, true, true, true, true] (bodyOf Try.f6)) (retK Try.prog Try.f6 Q) noX (retK Try.prog Try.f6 Q)) noX) (retK Try.prog Try.f6 Q)) (blkX 0 (seqK Try.prog hoardlaw4_ListHandles_kp jn (cAt [true, true, true, true, true] (bodyOf Try.f6)) (retK Try.prog Try.f6 Q) noX (retK Try.prog Try.f6 Q)) noX))) (retK Try.prog Try.f6 Q) ((.slice acts0.a acts0.n acts0.c) :: us 2 ((.pointer l3) :: (.pointer (some ⟨x4_b, x4_o, none⟩)) :: (.int .i64 most5) :: (.int .i64 i6) :: (.int .i64 n7) :: (.int .i64 h8) :: us 53 [])) = (
  ite2 (decide (h8 < (1 : Int))) (
  Q (.bool false)) (
  ite2 (decide (h8 > most5)) (
  Q (.bool false)) (
  call1 (.int .i64) Try.prog id_list_List_string_Next [.pointer l3, .int .i64 h8] fun x_13 =>
  hoardlaw4_ListHandles_l3 jn Q m1 m3 acts0 l3 x4_b x4_o most5 i6 (IntKind.wrap .i64 (n7 + (1 : Int))) x_13))) := by kernel_rfl
theorem hoardlaw4_ListHandles_j4_def (Q : Value → WP) (m1 : Nat) (m3 : Nat) (acts0 : Sl) (l3 : Option Addr) (x4_b : Nat) (x4_o : Nat) (most5 : Int) (i6 : Int) (n7 : Int) (h8 : Int) : hoardlaw4_ListHandles_j4 idJ Q m1 m3 acts0 l3 x4_b x4_o most5 i6 n7 h8 = codeI Try.prog hoardlaw4_ListHandles_kp idJ (cAt [true, true, true, true, false, true, false, false, true, false, false, true, true, true, false, true, false, false, true] (bodyOf Try.f6)) (lopK Try.prog hoardlaw4_ListHandles_kp idJ (cAt [true, true, true, true, false, true, false, false, true, false, false, true, true, true, false, true, false, false] (bodyOf Try.f6)) (blkX 2 (seqK Try.prog hoardlaw4_ListHandles_kp idJ (cAt [true, true, true, true, false, true, false, false, true, false, false, true, true, true, true] (bodyOf Try.f6)) (seqK Try.prog hoardlaw4_ListHandles_kp idJ (cAt [true, true, true, true, false, true, false, false, true, true] (bodyOf Try.f6)) (lopK Try.prog hoardlaw4_ListHandles_kp idJ (cAt [true, true, true, true, false, true, false, false] (bodyOf Try.f6)) (blkX 0 (seqK Try.prog hoardlaw4_ListHandles_kp idJ (cAt [true, true, true, true, true] (bodyOf Try.f6)) (retK Try.prog Try.f6 Q) noX (retK Try.prog Try.f6 Q)) noX) (retK Try.prog Try.f6 Q) m1) (blkX 0 (seqK Try.prog hoardlaw4_ListHandles_kp idJ (cAt [true, true, true, true, true] (bodyOf Try.f6)) (retK Try.prog Try.f6 Q) noX (retK Try.prog Try.f6 Q)) noX) (retK Try.prog Try.f6 Q)) (blkX 1 (seqK Try.prog hoardlaw4_ListHandles_kp idJ (cAt [true, true, true, true, false, true, false, false, true, true] (bodyOf Try.f6)) (lopK Try.prog hoardlaw4_ListHandles_kp idJ (cAt [true, true, true, true, false, true, false, false] (bodyOf Try.f6)) (blkX 0 (seqK Try.prog hoardlaw4_ListHandles_kp idJ (cAt [true, true, true, true, true] (bodyOf Try.f6)) (retK Try.prog Try.f6 Q) noX (retK Try.prog Try.f6 Q)) noX) (retK Try.prog Try.f6 Q) m1) (blkX 0 (seqK Try.prog hoardlaw4_ListHandles_kp idJ (cAt [true, true, true, true, true] (bodyOf Try.f6)) (retK Try.prog Try.f6 Q) noX (retK Try.prog Try.f6 Q)) noX) (retK Try.prog Try.f6 Q)) (blkX 0 (seqK Try.prog hoardlaw4_ListHandles_kp idJ (cAt [true, true, true, true, true] (bodyOf Try.f6)) (retK Try.prog Try.f6 Q) noX (retK Try.prog Try.f6 Q)) noX)) (retK Try.prog Try.f6 Q)) (blkX 1 (seqK Try.prog hoardlaw4_ListHandles_kp idJ (cAt [true, true, true, true, false, true, false, false, true, true] (bodyOf Try.f6)) (lopK Try.prog hoardlaw4_ListHandles_kp idJ (cAt [true, true, true, true, false, true, false, false] (bodyOf Try.f6)) (blkX 0 (seqK Try.prog hoardlaw4_ListHandles_kp idJ (cAt [true, true, true, true, true] (bodyOf Try.f6)) (retK Try.prog Try.f6 Q) noX (retK Try.prog Try.f6 Q)) noX) (retK Try.prog Try.f6 Q) m1) (blkX 0 (seqK Try.prog hoardlaw4_ListHandles_kp idJ (cAt [true, true, true, true, true] (bodyOf Try.f6)) (retK Try.prog Try.f6 Q) noX (retK Try.prog Try.f6 Q)) noX) (retK Try.prog Try.f6 Q)) (blkX 0 (seqK Try.prog hoardlaw4_ListHandles_kp idJ (cAt [true, true, true, true, true] (bodyOf Try.f6)) (retK Try.prog Try.f6 Q) noX (retK Try.prog Try.f6 Q)) noX))) (retK Try.prog Try.f6 Q) m3) (blkX 2 (seqK Try.prog hoardlaw4_ListHandles_kp idJ (cAt [true, true, true, true, false, true, false, false, true, false, false, true, true, true, true] (bodyOf Try.f6)) (seqK Try.prog hoardlaw4_ListHandles_kp idJ (cAt [true, true, true, true, false, true, false, false, true, true] (bodyOf Try.f6)) (lopK Try.prog hoardlaw4_ListHandles_kp idJ (cAt [true, true, true, true, false, true, false, false] (bodyOf Try.f6)) (blkX 0 (seqK Try.prog hoardlaw4_ListHandles_kp idJ (cAt [true, true, true, true, true] (bodyOf Try.f6)) (retK Try.prog Try.f6 Q) noX (retK Try.prog Try.f6 Q)) noX) (retK Try.prog Try.f6 Q) m1) (blkX 0 (seqK Try.prog hoardlaw4_ListHandles_kp idJ (cAt [true, true, true, true, true] (bodyOf Try.f6)) (retK Try.prog Try.f6 Q) noX (retK Try.prog Try.f6 Q)) noX) (retK Try.prog Try.f6 Q)) (blkX 1 (seqK Try.prog hoardlaw4_ListHandles_kp idJ (cAt [true, true, true, true, false, true, false, false, true, true] (bodyOf Try.f6)) (lopK Try.prog hoardlaw4_ListHandles_kp idJ (cAt [true, true, true, true, false, true, false, false] (bodyOf Try.f6)) (blkX 0 (seqK Try.prog hoardlaw4_ListHandles_kp idJ (cAt [true, true, true, true, true] (bodyOf Try.f6)) (retK Try.prog Try.f6 Q) noX (retK Try.prog Try.f6 Q)) noX) (retK Try.prog Try.f6 Q) m1) (blkX 0 (seqK Try.prog hoardlaw4_ListHandles_kp idJ (cAt [true, true, true, true, true] (bodyOf Try.f6)) (retK Try.prog Try.f6 Q) noX (retK Try.prog Try.f6 Q)) noX) (retK Try.prog Try.f6 Q)) (blkX 0 (seqK Try.prog hoardlaw4_ListHandles_kp idJ (cAt [true, true, true, true, true] (bodyOf Try.f6)) (retK Try.prog Try.f6 Q) noX (retK Try.prog Try.f6 Q)) noX)) (retK Try.prog Try.f6 Q)) (blkX 1 (seqK Try.prog hoardlaw4_ListHandles_kp idJ (cAt [true, true, true, true, false, true, false, false, true, true] (bodyOf Try.f6)) (lopK Try.prog hoardlaw4_ListHandles_kp idJ (cAt [true, true, true, true, false, true, false, false] (bodyOf Try.f6)) (blkX 0 (seqK Try.prog hoardlaw4_ListHandles_kp idJ (cAt [true, true, true, true, true] (bodyOf Try.f6)) (retK Try.prog Try.f6 Q) noX (retK Try.prog Try.f6 Q)) noX) (retK Try.prog Try.f6 Q) m1) (blkX 0 (seqK Try.prog hoardlaw4_ListHandles_kp idJ (cAt [true, true, true, true, true] (bodyOf Try.f6)) (retK Try.prog Try.f6 Q) noX (retK Try.prog Try.f6 Q)) noX) (retK Try.prog Try.f6 Q)) (blkX 0 (seqK Try.prog hoardlaw4_ListHandles_kp idJ (cAt [true, true, true, true, true] (bodyOf Try.f6)) (retK Try.prog Try.f6 Q) noX (retK Try.prog Try.f6 Q)) noX))) (retK Try.prog Try.f6 Q) ((.slice acts0.a acts0.n acts0.c) :: us 2 ((.pointer l3) :: (.pointer (some ⟨x4_b, x4_o, none⟩)) :: (.int .i64 most5) :: (.int .i64 i6) :: (.int .i64 n7) :: (.int .i64 h8) :: us 53 [])) := by kernel_rfl
theorem hoardlaw4_ListHandles_j6_raw (jn : Jn) (Q : Value → WP) (m1 : Nat) (acts0 : Sl) (l3 : Option Addr) (x4_b : Nat) (x4_o : Nat) (most5 : Int) (i6 : Int) : codeI Try.prog hoardlaw4_ListHandles_kp jn (cAt [true, true, true, true, false, true, false, false, true, true] (bodyOf Try.f6)) (lopK Try.prog hoardlaw4_ListHandles_kp jn (cAt [true, true, true, true, false, true, false, false] (bodyOf Try.f6)) (blkX 0 (seqK Try.prog hoardlaw4_ListHandles_kp jn (cAt [true, true, true, true, true] (bodyOf Try.f6)) (retK Try.prog Try.f6 Q) noX (retK Try.prog Try.f6 Q)) noX) (retK Try.prog Try.f6 Q) m1) (blkX 0 (seqK Try.prog hoardlaw4_ListHandles_kp jn (cAt [true, true, true, true, true] (bodyOf Try.f6)) (retK Try.prog Try.f6 Q) noX (retK Try.prog Try.f6 Q)) noX) (retK Try.prog Try.f6 Q) ((.slice acts0.a acts0.n acts0.c) :: us 2 ((.pointer l3) :: (.pointer (some ⟨x4_b, x4_o, none⟩)) :: (.int .i64 most5) :: (.int .i64 i6) :: us 55 [])) = (
  hoardlaw4_ListHandles_l1 jn Q  m1 acts0 l3 x4_b x4_o most5 (IntKind.wrap .i64 (i6 + (1 : Int)))) := by kernel_rfl
theorem hoardlaw4_ListHandles_j6_def (Q : Value → WP) (m1 : Nat) (acts0 : Sl) (l3 : Option Addr) (x4_b : Nat) (x4_o : Nat) (most5 : Int) (i6 : Int) : hoardlaw4_ListHandles_j6 idJ Q m1 acts0 l3 x4_b x4_o most5 i6 = codeI Try.prog hoardlaw4_ListHandles_kp idJ (cAt [true, true, true, true, false, true, false, false, true, true] (bodyOf Try.f6)) (lopK Try.prog hoardlaw4_ListHandles_kp idJ (cAt [true, true, true, true, false, true, false, false] (bodyOf Try.f6)) (blkX 0 (seqK Try.prog hoardlaw4_ListHandles_kp idJ (cAt [true, true, true, true, true] (bodyOf Try.f6)) (retK Try.prog Try.f6 Q) noX (retK Try.prog Try.f6 Q)) noX) (retK Try.prog Try.f6 Q) m1) (blkX 0 (seqK Try.prog hoardlaw4_ListHandles_kp idJ (cAt [true, true, true, true, true] (bodyOf Try.f6)) (retK Try.prog Try.f6 Q) noX (retK Try.prog Try.f6 Q)) noX) (retK Try.prog Try.f6 Q) ((.slice acts0.a acts0.n acts0.c) :: us 2 ((.pointer l3) :: (.pointer (some ⟨x4_b, x4_o, none⟩)) :: (.int .i64 most5) :: (.int .i64 i6) :: us 55 [])) := by kernel_rfl
theorem hoardlaw4_ListHandles_j5_raw (jn : Jn) (Q : Value → WP) (m1 : Nat) (acts0 : Sl) (l3 : Option Addr) (x4_b : Nat) (x4_o : Nat) (most5 : Int) (i6 : Int) (n7 : Int) : codeI Try.prog hoardlaw4_ListHandles_kp jn (cAt [true, true, true, true, false, true, false, false, true, false, false, true, true, true, true] (bodyOf Try.f6)) (seqK Try.prog hoardlaw4_ListHandles_kp jn (cAt [true, true, true, true, false, true, false, false, true, true] (bodyOf Try.f6)) (lopK Try.prog hoardlaw4_ListHandles_kp jn (cAt [true, true, true, true, false, true, false, false] (bodyOf Try.f6)) (blkX 0 (seqK Try.prog hoardlaw4_ListHandles_kp jn (cAt [true, true, true, true, true] (bodyOf Try.f6)) (retK Try.prog Try.f6 Q) noX (retK Try.prog Try.f6 Q)) noX) (retK Try.prog Try.f6 Q) m1) (blkX 0 (seqK Try.prog hoardlaw4_ListHandles_kp jn (cAt [true, true, true, true, true] (bodyOf Try.f6)) (retK Try.prog Try.f6 Q) noX (retK Try.prog Try.f6 Q)) noX) (retK Try.prog Try.f6 Q)) (blkX 1 (seqK Try.prog hoardlaw4_ListHandles_kp jn (cAt [true, true, true, true, false, true, false, false, true, true] (bodyOf Try.f6)) (lopK Try.prog hoardlaw4_ListHandles_kp jn (cAt [true, true, true, true, false, true, false, false] (bodyOf Try.f6)) (blkX 0 (seqK Try.prog hoardlaw4_ListHandles_kp jn (cAt [true, true, true, true, true] (bodyOf Try.f6)) (retK Try.prog Try.f6 Q) noX (retK Try.prog Try.f6 Q)) noX) (retK Try.prog Try.f6 Q) m1) (blkX 0 (seqK Try.prog hoardlaw4_ListHandles_kp jn (cAt [true, true, true, true, true] (bodyOf Try.f6)) (retK Try.prog Try.f6 Q) noX (retK Try.prog Try.f6 Q)) noX) (retK Try.prog Try.f6 Q)) (blkX 0 (seqK Try.prog hoardlaw4_ListHandles_kp jn (cAt [true, true, true, true, true] (bodyOf Try.f6)) (retK Try.prog Try.f6 Q) noX (retK Try.prog Try.f6 Q)) noX)) (retK Try.prog Try.f6 Q) ((.slice acts0.a acts0.n acts0.c) :: us 2 ((.pointer l3) :: (.pointer (some ⟨x4_b, x4_o, none⟩)) :: (.int .i64 most5) :: (.int .i64 i6) :: (.int .i64 n7) :: us 54 [])) = (
  call1 (.int .i64) Try.prog id_list_List_string_Len [.pointer l3] fun x_14 =>
  ite2 (n7 != x_14) (
  Q (.bool false)) (
  hoardlaw4_ListHandles_j6 jn Q m1 acts0 l3 x4_b x4_o most5 i6)) := by kernel_rfl
theorem hoardlaw4_ListHandles_j5_def (Q : Value → WP) (m1 : Nat) (acts0 : Sl) (l3 : Option Addr) (x4_b : Nat) (x4_o : Nat) (most5 : Int) (i6 : Int) (n7 : Int) : hoardlaw4_ListHandles_j5 idJ Q m1 acts0 l3 x4_b x4_o most5 i6 n7 = codeI Try.prog hoardlaw4_ListHandles_kp idJ (cAt [true, true, true, true, false, true, false, false, true, false, false, true, true, true, true] (bodyOf Try.f6)) (seqK Try.prog hoardlaw4_ListHandles_kp idJ (cAt [true, true, true, true, false, true, false, false, true, true] (bodyOf Try.f6)) (lopK Try.prog hoardlaw4_ListHandles_kp idJ (cAt [true, true, true, true, false, true, false, false] (bodyOf Try.f6)) (blkX 0 (seqK Try.prog hoardlaw4_ListHandles_kp idJ (cAt [true, true, true, true, true] (bodyOf Try.f6)) (retK Try.prog Try.f6 Q) noX (retK Try.prog Try.f6 Q)) noX) (retK Try.prog Try.f6 Q) m1) (blkX 0 (seqK Try.prog hoardlaw4_ListHandles_kp idJ (cAt [true, true, true, true, true] (bodyOf Try.f6)) (retK Try.prog Try.f6 Q) noX (retK Try.prog Try.f6 Q)) noX) (retK Try.prog Try.f6 Q)) (blkX 1 (seqK Try.prog hoardlaw4_ListHandles_kp idJ (cAt [true, true, true, true, false, true, false, false, true, true] (bodyOf Try.f6)) (lopK Try.prog hoardlaw4_ListHandles_kp idJ (cAt [true, true, true, true, false, true, false, false] (bodyOf Try.f6)) (blkX 0 (seqK Try.prog hoardlaw4_ListHandles_kp idJ (cAt [true, true, true, true, true] (bodyOf Try.f6)) (retK Try.prog Try.f6 Q) noX (retK Try.prog Try.f6 Q)) noX) (retK Try.prog Try.f6 Q) m1) (blkX 0 (seqK Try.prog hoardlaw4_ListHandles_kp idJ (cAt [true, true, true, true, true] (bodyOf Try.f6)) (retK Try.prog Try.f6 Q) noX (retK Try.prog Try.f6 Q)) noX) (retK Try.prog Try.f6 Q)) (blkX 0 (seqK Try.prog hoardlaw4_ListHandles_kp idJ (cAt [true, true, true, true, true] (bodyOf Try.f6)) (retK Try.prog Try.f6 Q) noX (retK Try.prog Try.f6 Q)) noX)) (retK Try.prog Try.f6 Q) ((.slice acts0.a acts0.n acts0.c) :: us 2 ((.pointer l3) :: (.pointer (some ⟨x4_b, x4_o, none⟩)) :: (.int .i64 most5) :: (.int .i64 i6) :: (.int .i64 n7) :: us 54 [])) := by kernel_rfl
theorem hoardlaw4_ListHandles_l3_raw (jn : Jn) (Q : Value → WP) (m1 : Nat) (m3 : Nat) (acts0 : Sl) (l3 : Option Addr) (x4_b : Nat) (x4_o : Nat) (most5 : Int) (i6 : Int) (n7 : Int) (h8 : Int) : hoardlaw4_ListHandles_l3 jn Q m1 (m3 + 1) acts0 l3 x4_b x4_o most5 i6 n7 h8 = (
  ite2 (h8 != (0 : Int)) (
  call1 (.int .i64) Try.prog id_list_List_string_Len [.pointer l3] fun x_12 =>
  ite2 (decide (n7 ≤ x_12)) (
  hoardlaw4_ListHandles_j4 jn Q m1 m3 acts0 l3 x4_b x4_o most5 i6 n7 h8) (
  hoardlaw4_ListHandles_j5 jn Q m1 acts0 l3 x4_b x4_o most5 i6 n7)) (
  hoardlaw4_ListHandles_j5 jn Q m1 acts0 l3 x4_b x4_o most5 i6 n7)) := by kernel_rfl
theorem hoardlaw4_ListHandles_l3_zero (jn : Jn) (Q : Value → WP) (m1 : Nat) (acts0 : Sl) (l3 : Option Addr) (x4_b : Nat) (x4_o : Nat) (most5 : Int) (i6 : Int) (n7 : Int) (h8 : Int) : hoardlaw4_ListHandles_l3 jn Q m1 0 acts0 l3 x4_b x4_o most5 i6 n7 h8 = bot := by kernel_rfl
theorem hoardlaw4_ListHandles_j2_raw (jn : Jn) (Q : Value → WP) (m1 : Nat) (acts0 : Sl) (l3 : Option Addr) (x4_b : Nat) (x4_o : Nat) (most5 : Int) (i6 : Int) : codeI Try.prog hoardlaw4_ListHandles_kp jn (cAt [true, true, true, true, false, true, false, false, true] (bodyOf Try.f6)) (lopK Try.prog hoardlaw4_ListHandles_kp jn (cAt [true, true, true, true, false, true, false, false] (bodyOf Try.f6)) (blkX 0 (seqK Try.prog hoardlaw4_ListHandles_kp jn (cAt [true, true, true, true, true] (bodyOf Try.f6)) (retK Try.prog Try.f6 Q) noX (retK Try.prog Try.f6 Q)) noX) (retK Try.prog Try.f6 Q) m1) (blkX 0 (seqK Try.prog hoardlaw4_ListHandles_kp jn (cAt [true, true, true, true, true] (bodyOf Try.f6)) (retK Try.prog Try.f6 Q) noX (retK Try.prog Try.f6 Q)) noX) (retK Try.prog Try.f6 Q) ((.slice acts0.a acts0.n acts0.c) :: us 2 ((.pointer l3) :: (.pointer (some ⟨x4_b, x4_o, none⟩)) :: (.int .i64 most5) :: (.int .i64 i6) :: us 55 [])) = (
  idx acts0.a acts0.n i6 fun b_4 o_5 =>
  ld (.int .i64) b_4 (o_5 + (i6).toNat * 3) fun x_6 =>
  ld (.int .i64) b_4 ((o_5 + (i6).toNat * 3) + 1) fun x_7 =>
  ld .str b_4 (((o_5 + (i6).toNat * 3) + 1) + 1) fun x_8 =>
  call1 .bool Try.prog id_hoardlaw4_act [.pointer l3, .pointer (some ⟨x4_b, x4_o, none⟩), .agg #[.int .i64 x_6, .int .i64 x_7, .string x_8]] fun x_9 =>
  call1 (.int .i64) Try.prog id_list_List_string_Len [.pointer l3] fun x_10 =>
  call1 (.int .i64) Try.prog id_list_List_string_Front [.pointer l3] fun x_11 =>
  exM fun m => hoardlaw4_ListHandles_l3 jn Q m1 m acts0 l3 x4_b x4_o (if x_10 > most5 then x_10 else most5) i6 (0 : Int) x_11) := by kernel_rfl
theorem hoardlaw4_ListHandles_j2_def (Q : Value → WP) (m1 : Nat) (acts0 : Sl) (l3 : Option Addr) (x4_b : Nat) (x4_o : Nat) (most5 : Int) (i6 : Int) : hoardlaw4_ListHandles_j2 idJ Q m1 acts0 l3 x4_b x4_o most5 i6 = codeI Try.prog hoardlaw4_ListHandles_kp idJ (cAt [true, true, true, true, false, true, false, false, true] (bodyOf Try.f6)) (lopK Try.prog hoardlaw4_ListHandles_kp idJ (cAt [true, true, true, true, false, true, false, false] (bodyOf Try.f6)) (blkX 0 (seqK Try.prog hoardlaw4_ListHandles_kp idJ (cAt [true, true, true, true, true] (bodyOf Try.f6)) (retK Try.prog Try.f6 Q) noX (retK Try.prog Try.f6 Q)) noX) (retK Try.prog Try.f6 Q) m1) (blkX 0 (seqK Try.prog hoardlaw4_ListHandles_kp idJ (cAt [true, true, true, true, true] (bodyOf Try.f6)) (retK Try.prog Try.f6 Q) noX (retK Try.prog Try.f6 Q)) noX) (retK Try.prog Try.f6 Q) ((.slice acts0.a acts0.n acts0.c) :: us 2 ((.pointer l3) :: (.pointer (some ⟨x4_b, x4_o, none⟩)) :: (.int .i64 most5) :: (.int .i64 i6) :: us 55 [])) := by kernel_rfl
theorem hoardlaw4_ListHandles_j7_raw (jn : Jn) (Q : Value → WP)   : codeI Try.prog hoardlaw4_ListHandles_kp jn (cAt [true, true, true, true, true] (bodyOf Try.f6)) (retK Try.prog Try.f6 Q) noX (retK Try.prog Try.f6 Q) (us 62 []) = (
  call1 .bool Try.prog id_hoardlaw4_known [] fun x_15 =>
  Q (.bool x_15)) := by kernel_rfl
theorem hoardlaw4_ListHandles_j7_def (Q : Value → WP)   : hoardlaw4_ListHandles_j7 idJ Q   = codeI Try.prog hoardlaw4_ListHandles_kp idJ (cAt [true, true, true, true, true] (bodyOf Try.f6)) (retK Try.prog Try.f6 Q) noX (retK Try.prog Try.f6 Q) (us 62 []) := by kernel_rfl
theorem hoardlaw4_ListHandles_l1_raw (jn : Jn) (Q : Value → WP)  (m1 : Nat) (acts0 : Sl) (l3 : Option Addr) (x4_b : Nat) (x4_o : Nat) (most5 : Int) (i6 : Int) : hoardlaw4_ListHandles_l1 jn Q  (m1 + 1) acts0 l3 x4_b x4_o most5 i6 = (
  ite2 (decide (i6 < (acts0.n : Int))) (
  ite2 (decide (i6 < (150 : Int))) (
  hoardlaw4_ListHandles_j2 jn Q m1 acts0 l3 x4_b x4_o most5 i6) (
  hoardlaw4_ListHandles_j7 jn Q  )) (
  hoardlaw4_ListHandles_j7 jn Q  )) := by kernel_rfl
theorem hoardlaw4_ListHandles_l1_zero (jn : Jn) (Q : Value → WP)  (acts0 : Sl) (l3 : Option Addr) (x4_b : Nat) (x4_o : Nat) (most5 : Int) (i6 : Int) : hoardlaw4_ListHandles_l1 jn Q  0 acts0 l3 x4_b x4_o most5 i6 = bot := by kernel_rfl
theorem hoardlaw4_ListHandles_raw (jn : Jn) (acts0 : Sl) (Q : Value → WP) : funJ jn Try.prog hoardlaw4_ListHandles_kp Try.f6 [.slice acts0.a acts0.n acts0.c] Q = (
  call1 .bool Try.prog id_hoardlaw4_heavy [.slice acts0.a acts0.n acts0.c] fun x_1 =>
  ite2 x_1 (
  Q (.bool true)) (
  call1 .ptr Try.prog id_list_New_string [] fun x_2 =>
  newB [.slice (none : Option Addr) 0 0, .slice (none : Option Addr) 0 0, .int .i64 (0 : Int)] ty_hoardref4_List fun b_3 =>
  exM fun m => hoardlaw4_ListHandles_l1 jn Q  m acts0 x_2 b_3 0 (0 : Int) (0 : Int))) := by kernel_rfl
theorem hoardlaw4_ListHandles_def (acts0 : Sl) (Q : Value → WP) : hoardlaw4_ListHandles acts0 Q = funJ idJ Try.prog hoardlaw4_ListHandles_kp Try.f6 [.slice acts0.a acts0.n acts0.c] Q := rfl
theorem hoardlaw4_ListHandles_calls {acts0 : Sl} {Q : Value → WP} {w : World} (h : hoardlaw4_ListHandles acts0 Q w) : Calls Try.prog id_hoardlaw4_ListHandles #[.slice acts0.a acts0.n acts0.c] w fun e w' => ∃ v, e = .returned v ∧ Q v w' :=
  funJ_calls mixed Try.func6 rfl h

-- hoard/hoardlaw4.ListPlays
def hoardlaw4_ListPlays_kp : KP := ⟨[(13, [0, 3, 4, 5]), (16, [0, 3, 4, 5]), (20, [])], []⟩
def hoardlaw4_ListPlays_j2 (jn : Jn) (Q : Value → WP) (m1 : Nat) (acts0 : Sl) (l3 : Option Addr) (x4_b : Nat) (x4_o : Nat) (i5 : Int) : WP := jn 16 (fun ρ => codeI Try.prog hoardlaw4_ListPlays_kp jn (cAt [true, true, true, false, true, false, false, true] (bodyOf Try.f7)) (lopK Try.prog hoardlaw4_ListPlays_kp jn (cAt [true, true, true, false, true, false, false] (bodyOf Try.f7)) (blkX 0 (seqK Try.prog hoardlaw4_ListPlays_kp jn (cAt [true, true, true, true] (bodyOf Try.f7)) (retK Try.prog Try.f7 Q) noX (retK Try.prog Try.f7 Q)) noX) (retK Try.prog Try.f7 Q) m1) (blkX 0 (seqK Try.prog hoardlaw4_ListPlays_kp jn (cAt [true, true, true, true] (bodyOf Try.f7)) (retK Try.prog Try.f7 Q) noX (retK Try.prog Try.f7 Q)) noX) (retK Try.prog Try.f7 Q) ρ) ((.slice acts0.a acts0.n acts0.c) :: us 2 ((.pointer l3) :: (.pointer (some ⟨x4_b, x4_o, none⟩)) :: (.int .i64 i5) :: us 54 []))
def hoardlaw4_ListPlays_j3 (jn : Jn) (Q : Value → WP)   : WP := jn 20 (fun ρ => codeI Try.prog hoardlaw4_ListPlays_kp jn (cAt [true, true, true, true] (bodyOf Try.f7)) (retK Try.prog Try.f7 Q) noX (retK Try.prog Try.f7 Q) ρ) (us 60 [])
def hoardlaw4_ListPlays_l1 (jn : Jn) (Q : Value → WP)  (m1 : Nat) (acts0 : Sl) (l3 : Option Addr) (x4_b : Nat) (x4_o : Nat) (i5 : Int) : WP := lop Try.prog hoardlaw4_ListPlays_kp jn (cAt [true, true, true, false, true, false, false] (bodyOf Try.f7)) (blkX 0 (seqK Try.prog hoardlaw4_ListPlays_kp jn (cAt [true, true, true, true] (bodyOf Try.f7)) (retK Try.prog Try.f7 Q) noX (retK Try.prog Try.f7 Q)) noX) (retK Try.prog Try.f7 Q) m1 ((.slice acts0.a acts0.n acts0.c) :: us 2 ((.pointer l3) :: (.pointer (some ⟨x4_b, x4_o, none⟩)) :: (.int .i64 i5) :: us 54 []))
def hoardlaw4_ListPlays (acts0 : Sl) (Q : Value → WP) : WP := funJ idJ Try.prog hoardlaw4_ListPlays_kp Try.f7 [.slice acts0.a acts0.n acts0.c] Q
theorem hoardlaw4_ListPlays_j2_raw (jn : Jn) (Q : Value → WP) (m1 : Nat) (acts0 : Sl) (l3 : Option Addr) (x4_b : Nat) (x4_o : Nat) (i5 : Int) : codeI Try.prog hoardlaw4_ListPlays_kp jn (cAt [true, true, true, false, true, false, false, true] (bodyOf Try.f7)) (lopK Try.prog hoardlaw4_ListPlays_kp jn (cAt [true, true, true, false, true, false, false] (bodyOf Try.f7)) (blkX 0 (seqK Try.prog hoardlaw4_ListPlays_kp jn (cAt [true, true, true, true] (bodyOf Try.f7)) (retK Try.prog Try.f7 Q) noX (retK Try.prog Try.f7 Q)) noX) (retK Try.prog Try.f7 Q) m1) (blkX 0 (seqK Try.prog hoardlaw4_ListPlays_kp jn (cAt [true, true, true, true] (bodyOf Try.f7)) (retK Try.prog Try.f7 Q) noX (retK Try.prog Try.f7 Q)) noX) (retK Try.prog Try.f7 Q) ((.slice acts0.a acts0.n acts0.c) :: us 2 ((.pointer l3) :: (.pointer (some ⟨x4_b, x4_o, none⟩)) :: (.int .i64 i5) :: us 54 [])) = (
  idx acts0.a acts0.n i5 fun b_4 o_5 =>
  ld (.int .i64) b_4 (o_5 + (i5).toNat * 3) fun x_6 =>
  ld (.int .i64) b_4 ((o_5 + (i5).toNat * 3) + 1) fun x_7 =>
  ld .str b_4 (((o_5 + (i5).toNat * 3) + 1) + 1) fun x_8 =>
  call1 .bool Try.prog id_hoardlaw4_act [.pointer l3, .pointer (some ⟨x4_b, x4_o, none⟩), .agg #[.int .i64 x_6, .int .i64 x_7, .string x_8]] fun x_9 =>
  ite2 (!x_9) (
  Q (.bool false)) (
  call1 (.int .i64) Try.prog id_list_List_string_Front [.pointer l3] fun x_10 =>
  call1 (.int .i64) Try.prog id_hoardref4_List_Front [.pointer (some ⟨x4_b, x4_o, none⟩)] fun x_11 =>
  ite2 (x_10 != x_11) (
  Q (.bool false)) (
  call1 (.int .i64) Try.prog id_list_List_string_Back [.pointer l3] fun x_12 =>
  call1 (.int .i64) Try.prog id_hoardref4_List_Back [.pointer (some ⟨x4_b, x4_o, none⟩)] fun x_13 =>
  ite2 (x_12 != x_13) (
  Q (.bool false)) (
  call1 .slc Try.prog id_list_List_string_All [.pointer l3] fun x_14 =>
  call1 .slc Try.prog id_hoardref4_List_All [.pointer (some ⟨x4_b, x4_o, none⟩)] fun x_15 =>
  call1 .bool Try.prog id_hoardlaw4_texts [.slice x_14.a x_14.n x_14.c, .slice x_15.a x_15.n x_15.c] fun x_16 =>
  ite2 (!x_16) (
  Q (.bool false)) (
  call1 (.int .i64) Try.prog id_list_List_string_Len [.pointer l3] fun x_17 =>
  call1 .slc Try.prog id_hoardref4_List_All [.pointer (some ⟨x4_b, x4_o, none⟩)] fun x_18 =>
  ite2 (x_17 != (x_18.n : Int)) (
  Q (.bool false)) (
  hoardlaw4_ListPlays_l1 jn Q  m1 acts0 l3 x4_b x4_o (IntKind.wrap .i64 (i5 + (1 : Int))))))))) := by kernel_rfl
theorem hoardlaw4_ListPlays_j2_def (Q : Value → WP) (m1 : Nat) (acts0 : Sl) (l3 : Option Addr) (x4_b : Nat) (x4_o : Nat) (i5 : Int) : hoardlaw4_ListPlays_j2 idJ Q m1 acts0 l3 x4_b x4_o i5 = codeI Try.prog hoardlaw4_ListPlays_kp idJ (cAt [true, true, true, false, true, false, false, true] (bodyOf Try.f7)) (lopK Try.prog hoardlaw4_ListPlays_kp idJ (cAt [true, true, true, false, true, false, false] (bodyOf Try.f7)) (blkX 0 (seqK Try.prog hoardlaw4_ListPlays_kp idJ (cAt [true, true, true, true] (bodyOf Try.f7)) (retK Try.prog Try.f7 Q) noX (retK Try.prog Try.f7 Q)) noX) (retK Try.prog Try.f7 Q) m1) (blkX 0 (seqK Try.prog hoardlaw4_ListPlays_kp idJ (cAt [true, true, true, true] (bodyOf Try.f7)) (retK Try.prog Try.f7 Q) noX (retK Try.prog Try.f7 Q)) noX) (retK Try.prog Try.f7 Q) ((.slice acts0.a acts0.n acts0.c) :: us 2 ((.pointer l3) :: (.pointer (some ⟨x4_b, x4_o, none⟩)) :: (.int .i64 i5) :: us 54 [])) := by kernel_rfl
theorem hoardlaw4_ListPlays_j3_raw (jn : Jn) (Q : Value → WP)   : codeI Try.prog hoardlaw4_ListPlays_kp jn (cAt [true, true, true, true] (bodyOf Try.f7)) (retK Try.prog Try.f7 Q) noX (retK Try.prog Try.f7 Q) (us 60 []) = (
  call1 .bool Try.prog id_hoardlaw4_known [] fun x_19 =>
  Q (.bool x_19)) := by kernel_rfl
theorem hoardlaw4_ListPlays_j3_def (Q : Value → WP)   : hoardlaw4_ListPlays_j3 idJ Q   = codeI Try.prog hoardlaw4_ListPlays_kp idJ (cAt [true, true, true, true] (bodyOf Try.f7)) (retK Try.prog Try.f7 Q) noX (retK Try.prog Try.f7 Q) (us 60 []) := by kernel_rfl
theorem hoardlaw4_ListPlays_l1_raw (jn : Jn) (Q : Value → WP)  (m1 : Nat) (acts0 : Sl) (l3 : Option Addr) (x4_b : Nat) (x4_o : Nat) (i5 : Int) : hoardlaw4_ListPlays_l1 jn Q  (m1 + 1) acts0 l3 x4_b x4_o i5 = (
  ite2 (decide (i5 < (acts0.n : Int))) (
  ite2 (decide (i5 < (150 : Int))) (
  hoardlaw4_ListPlays_j2 jn Q m1 acts0 l3 x4_b x4_o i5) (
  hoardlaw4_ListPlays_j3 jn Q  )) (
  hoardlaw4_ListPlays_j3 jn Q  )) := by kernel_rfl
theorem hoardlaw4_ListPlays_l1_zero (jn : Jn) (Q : Value → WP)  (acts0 : Sl) (l3 : Option Addr) (x4_b : Nat) (x4_o : Nat) (i5 : Int) : hoardlaw4_ListPlays_l1 jn Q  0 acts0 l3 x4_b x4_o i5 = bot := by kernel_rfl
theorem hoardlaw4_ListPlays_raw (jn : Jn) (acts0 : Sl) (Q : Value → WP) : funJ jn Try.prog hoardlaw4_ListPlays_kp Try.f7 [.slice acts0.a acts0.n acts0.c] Q = (
  call1 .bool Try.prog id_hoardlaw4_heavy [.slice acts0.a acts0.n acts0.c] fun x_1 =>
  ite2 x_1 (
  Q (.bool true)) (
  call1 .ptr Try.prog id_list_New_string [] fun x_2 =>
  newB [.slice (none : Option Addr) 0 0, .slice (none : Option Addr) 0 0, .int .i64 (0 : Int)] ty_hoardref4_List fun b_3 =>
  exM fun m => hoardlaw4_ListPlays_l1 jn Q  m acts0 x_2 b_3 0 (0 : Int))) := by kernel_rfl
theorem hoardlaw4_ListPlays_def (acts0 : Sl) (Q : Value → WP) : hoardlaw4_ListPlays acts0 Q = funJ idJ Try.prog hoardlaw4_ListPlays_kp Try.f7 [.slice acts0.a acts0.n acts0.c] Q := rfl
theorem hoardlaw4_ListPlays_calls {acts0 : Sl} {Q : Value → WP} {w : World} (h : hoardlaw4_ListPlays acts0 Q w) : Calls Try.prog id_hoardlaw4_ListPlays #[.slice acts0.a acts0.n acts0.c] w fun e w' => ∃ v, e = .returned v ∧ Q v w' :=
  funJ_calls mixed Try.func7 rfl h

-- hoard/hoardlaw4.ListOfNothing
def hoardlaw4_ListOfNothing_kp : KP := ⟨[], []⟩
def hoardlaw4_ListOfNothing (h0 : Int) (s1 : ByteArray) (Q : Value → WP) : WP := funJ idJ Try.prog hoardlaw4_ListOfNothing_kp Try.f8 [.int .i64 h0, .string s1] Q
theorem hoardlaw4_ListOfNothing_raw (jn : Jn) (h0 : Int) (s1 : ByteArray) (Q : Value → WP) : funJ jn Try.prog hoardlaw4_ListOfNothing_kp Try.f8 [.int .i64 h0, .string s1] Q = (
  call2 .str .bool Try.prog id_list_List_string_Get [.pointer (none : Option Addr), .int .i64 h0] fun x_1 x_2 =>
  call2 .str .bool Try.prog id_list_List_string_Remove [.pointer (none : Option Addr), .int .i64 h0] fun x_3 x_4 =>
  call1 (.int .i64) Try.prog id_list_List_string_PushFront [.pointer (none : Option Addr), .string s1] fun x_5 =>
  ite2 (x_5 == (0 : Int)) (
  call1 (.int .i64) Try.prog id_list_List_string_PushBack [.pointer (none : Option Addr), .string s1] fun x_6 =>
  ite2 (x_6 == (0 : Int)) (
  ite2 (sEq x_1 str_empty) (
  ite2 (!x_2) (
  ite2 (sEq x_3 str_empty) (
  ite2 (!x_4) (
  call1 .bool Try.prog id_list_List_string_Set [.pointer (none : Option Addr), .int .i64 h0, .string s1] fun x_7 =>
  ite2 (!x_7) (
  call1 .bool Try.prog id_list_List_string_ToFront [.pointer (none : Option Addr), .int .i64 h0] fun x_8 =>
  ite2 (!x_8) (
  call1 .bool Try.prog id_list_List_string_ToBack [.pointer (none : Option Addr), .int .i64 h0] fun x_9 =>
  ite2 (!x_9) (
  call1 (.int .i64) Try.prog id_list_List_string_Front [.pointer (none : Option Addr)] fun x_10 =>
  ite2 (x_10 == (0 : Int)) (
  call1 (.int .i64) Try.prog id_list_List_string_Back [.pointer (none : Option Addr)] fun x_11 =>
  ite2 (x_11 == (0 : Int)) (
  call1 (.int .i64) Try.prog id_list_List_string_Next [.pointer (none : Option Addr), .int .i64 h0] fun x_12 =>
  ite2 (x_12 == (0 : Int)) (
  call1 (.int .i64) Try.prog id_list_List_string_Prev [.pointer (none : Option Addr), .int .i64 h0] fun x_13 =>
  ite2 (x_13 == (0 : Int)) (
  call1 (.int .i64) Try.prog id_list_List_string_Len [.pointer (none : Option Addr)] fun x_14 =>
  ite2 (x_14 == (0 : Int)) (
  call1 .slc Try.prog id_list_List_string_All [.pointer (none : Option Addr)] fun x_15 =>
  ite2 ((x_15.n : Int) == (0 : Int)) (
  call1 .bool Try.prog id_hoardlaw4_known [] fun x_16 =>
  Q (.bool x_16)) (
  Q (.bool false))) (
  Q (.bool false))) (
  Q (.bool false))) (
  Q (.bool false))) (
  Q (.bool false))) (
  Q (.bool false))) (
  Q (.bool false))) (
  Q (.bool false))) (
  Q (.bool false))) (
  Q (.bool false))) (
  Q (.bool false))) (
  Q (.bool false))) (
  Q (.bool false))) (
  Q (.bool false))) (
  Q (.bool false))) := by kernel_rfl
theorem hoardlaw4_ListOfNothing_def (h0 : Int) (s1 : ByteArray) (Q : Value → WP) : hoardlaw4_ListOfNothing h0 s1 Q = funJ idJ Try.prog hoardlaw4_ListOfNothing_kp Try.f8 [.int .i64 h0, .string s1] Q := rfl
theorem hoardlaw4_ListOfNothing_calls {h0 : Int} {s1 : ByteArray} {Q : Value → WP} {w : World} (h : hoardlaw4_ListOfNothing h0 s1 Q w) : Calls Try.prog id_hoardlaw4_ListOfNothing #[.int .i64 h0, .string s1] w fun e w' => ∃ v, e = .returned v ∧ Q v w' :=
  funJ_calls mixed Try.func8 rfl h

-- hoard/list.New[string]
def list_New_string_kp : KP := ⟨[], []⟩
def list_New_string  (Q : Value → WP) : WP := funJ idJ Try.prog list_New_string_kp Try.f9 [] Q
theorem list_New_string_raw (jn : Jn)  (Q : Value → WP) : funJ jn Try.prog list_New_string_kp Try.f9 [] Q = (
  makeC ty_list_link_string 40 [.string str_empty, .int .i64 (0 : Int), .int .i64 (0 : Int), .bool false] (1 : Int) (1 : Int) fun s_1 =>
  newB [.slice s_1.a s_1.n s_1.c, .slice (none : Option Addr) 0 0, .int .i64 (0 : Int)] ty_list_List_string fun b_2 =>
  Q (.pointer (some ⟨b_2, 0, none⟩))) := by kernel_rfl
theorem list_New_string_def  (Q : Value → WP) : list_New_string  Q = funJ idJ Try.prog list_New_string_kp Try.f9 [] Q := rfl
theorem list_New_string_calls {Q : Value → WP} {w : World} (h : list_New_string Q w) : Calls Try.prog id_list_New_string #[] w fun e w' => ∃ v, e = .returned v ∧ Q v w' :=
  funJ_calls mixed Try.func9 rfl h

-- (*hoard/list.List[string]).PushBack
def list_List_string_PushBack_kp : KP := ⟨[], []⟩
def list_List_string_PushBack (l0 : Option Addr) (v1 : ByteArray) (Q : Value → WP) : WP := funJ idJ Try.prog list_List_string_PushBack_kp Try.f10 [.pointer l0, .string v1] Q
theorem list_List_string_PushBack_raw (jn : Jn) (l0 : Option Addr) (v1 : ByteArray) (Q : Value → WP) : funJ jn Try.prog list_List_string_PushBack_kp Try.f10 [.pointer l0, .string v1] Q = (
  ite2 (Option.isNone l0) (
  Q (.int .i64 (0 : Int))) (
  call1 (.int .i64) Try.prog id_list_List_string_take [.pointer l0, .string v1] fun x_1 =>
  nilck l0 fun b_2 o_3 =>
  ld .slc b_2 o_3 fun x_4 =>
  idx x_4.a x_4.n (0 : Int) fun b_5 o_6 =>
  ld (.int .i64) b_5 ((o_6 + ((0 : Int)).toNat * 4) + 1) fun x_7 =>
  call0 Try.prog id_list_List_string_lays [.pointer l0, .int .i64 x_1, .int .i64 x_7, .int .i64 (0 : Int)] <|
  Q (.int .i64 x_1))) := by kernel_rfl
theorem list_List_string_PushBack_def (l0 : Option Addr) (v1 : ByteArray) (Q : Value → WP) : list_List_string_PushBack l0 v1 Q = funJ idJ Try.prog list_List_string_PushBack_kp Try.f10 [.pointer l0, .string v1] Q := rfl
theorem list_List_string_PushBack_calls {l0 : Option Addr} {v1 : ByteArray} {Q : Value → WP} {w : World} (h : list_List_string_PushBack l0 v1 Q w) : Calls Try.prog id_list_List_string_PushBack #[.pointer l0, .string v1] w fun e w' => ∃ v, e = .returned v ∧ Q v w' :=
  funJ_calls mixed Try.func10 rfl h

-- (*hoard/list.List[string]).All
def list_List_string_All_kp : KP := ⟨[(9, [0, 3, 4]), (14, [3])], []⟩
def list_List_string_All_j2 (jn : Jn) (Q : Value → WP)  (all3 : Sl) : WP := jn 14 (fun ρ => codeI Try.prog list_List_string_All_kp jn (cAt [true, true, true] (bodyOf Try.f11)) (retK Try.prog Try.f11 Q) noX (retK Try.prog Try.f11 Q) ρ) (us 3 ((.slice all3.a all3.n all3.c) :: us 20 []))
def list_List_string_All_l1 (jn : Jn) (Q : Value → WP)  (m1 : Nat) (l0 : Option Addr) (all3 : Sl) (h4 : Int) : WP := lop Try.prog list_List_string_All_kp jn (cAt [true, true, false, true, false, false] (bodyOf Try.f11)) (blkX 0 (seqK Try.prog list_List_string_All_kp jn (cAt [true, true, true] (bodyOf Try.f11)) (retK Try.prog Try.f11 Q) noX (retK Try.prog Try.f11 Q)) noX) (retK Try.prog Try.f11 Q) m1 ((.pointer l0) :: us 2 ((.slice all3.a all3.n all3.c) :: (.int .i64 h4) :: us 19 []))
def list_List_string_All (l0 : Option Addr) (Q : Value → WP) : WP := funJ idJ Try.prog list_List_string_All_kp Try.f11 [.pointer l0] Q
theorem list_List_string_All_j2_raw (jn : Jn) (Q : Value → WP)  (all3 : Sl) : codeI Try.prog list_List_string_All_kp jn (cAt [true, true, true] (bodyOf Try.f11)) (retK Try.prog Try.f11 Q) noX (retK Try.prog Try.f11 Q) (us 3 ((.slice all3.a all3.n all3.c) :: us 20 [])) = (
  Q (.slice all3.a all3.n all3.c)) := by kernel_rfl
theorem list_List_string_All_j2_def (Q : Value → WP)  (all3 : Sl) : list_List_string_All_j2 idJ Q  all3 = codeI Try.prog list_List_string_All_kp idJ (cAt [true, true, true] (bodyOf Try.f11)) (retK Try.prog Try.f11 Q) noX (retK Try.prog Try.f11 Q) (us 3 ((.slice all3.a all3.n all3.c) :: us 20 [])) := by kernel_rfl
theorem list_List_string_All_l1_raw (jn : Jn) (Q : Value → WP)  (m1 : Nat) (l0 : Option Addr) (all3 : Sl) (h4 : Int) : list_List_string_All_l1 jn Q  (m1 + 1) l0 all3 h4 = (
  ite2 (h4 != (0 : Int)) (
  nilck l0 fun b_2 o_3 =>
  ld .slc b_2 o_3 fun x_4 =>
  idx x_4.a x_4.n h4 fun b_5 o_6 =>
  ld .str b_5 (o_6 + (h4).toNat * 4) fun x_7 =>
  newB [.string x_7] ty_string fun b_8 =>
  appendC ty_string 1 16 [.string str_empty] ⟨all3.a, all3.n, all3.c⟩ 1 (fun w => rdA w (some ⟨b_8, 0, none⟩) (1 * 1)) fun s_9 =>
  call1 (.int .i64) Try.prog id_list_List_string_Next [.pointer l0, .int .i64 h4] fun x_10 =>
  list_List_string_All_l1 jn Q  m1 l0 s_9 x_10) (
  list_List_string_All_j2 jn Q  all3)) := by kernel_rfl
theorem list_List_string_All_l1_zero (jn : Jn) (Q : Value → WP)  (l0 : Option Addr) (all3 : Sl) (h4 : Int) : list_List_string_All_l1 jn Q  0 l0 all3 h4 = bot := by kernel_rfl
theorem list_List_string_All_raw (jn : Jn) (l0 : Option Addr) (Q : Value → WP) : funJ jn Try.prog list_List_string_All_kp Try.f11 [.pointer l0] Q = (
  call1 (.int .i64) Try.prog id_list_List_string_Front [.pointer l0] fun x_1 =>
  exM fun m => list_List_string_All_l1 jn Q  m l0 ⟨(none : Option Addr), 0, 0⟩ x_1) := by kernel_rfl
theorem list_List_string_All_def (l0 : Option Addr) (Q : Value → WP) : list_List_string_All l0 Q = funJ idJ Try.prog list_List_string_All_kp Try.f11 [.pointer l0] Q := rfl
theorem list_List_string_All_calls {l0 : Option Addr} {Q : Value → WP} {w : World} (h : list_List_string_All l0 Q w) : Calls Try.prog id_list_List_string_All #[.pointer l0] w fun e w' => ∃ v, e = .returned v ∧ Q v w' :=
  funJ_calls mixed Try.func11 rfl h

-- hoard/hoardlaw4.texts
def hoardlaw4_texts_kp : KP := ⟨[(11, [0, 1, 5]), (18, [])], [(6, [0, 1, 2, 3, 4, 5, 6, 8])]⟩
def hoardlaw4_texts_j2 (jn : Jn) (Q : Value → WP)   : WP := jn 18 (fun ρ => codeI Try.prog hoardlaw4_texts_kp jn (cAt [true, true, true] (bodyOf Try.f12)) (retK Try.prog Try.f12 Q) noX (retK Try.prog Try.f12 Q) ρ) (us 26 [])
def hoardlaw4_texts_l1 (jn : Jn) (Q : Value → WP)  (m1 : Nat) (a0 : Sl) (b1 : Sl) (i5 : Int) : WP := lop Try.prog hoardlaw4_texts_kp jn (cAt [true, true, false, true, false, false] (bodyOf Try.f12)) (blkX 0 (seqK Try.prog hoardlaw4_texts_kp jn (cAt [true, true, true] (bodyOf Try.f12)) (retK Try.prog Try.f12 Q) noX (retK Try.prog Try.f12 Q)) noX) (retK Try.prog Try.f12 Q) m1 ((.slice a0.a a0.n a0.c) :: (.slice b1.a b1.n b1.c) :: us 3 ((.int .i64 i5) :: us 20 []))
def hoardlaw4_texts (a0 : Sl) (b1 : Sl) (Q : Value → WP) : WP := funJ idJ Try.prog hoardlaw4_texts_kp Try.f12 [.slice a0.a a0.n a0.c, .slice b1.a b1.n b1.c] Q
theorem hoardlaw4_texts_j2_raw (jn : Jn) (Q : Value → WP)   : codeI Try.prog hoardlaw4_texts_kp jn (cAt [true, true, true] (bodyOf Try.f12)) (retK Try.prog Try.f12 Q) noX (retK Try.prog Try.f12 Q) (us 26 []) = (
  Q (.bool true)) := by kernel_rfl
theorem hoardlaw4_texts_j2_def (Q : Value → WP)   : hoardlaw4_texts_j2 idJ Q   = codeI Try.prog hoardlaw4_texts_kp idJ (cAt [true, true, true] (bodyOf Try.f12)) (retK Try.prog Try.f12 Q) noX (retK Try.prog Try.f12 Q) (us 26 []) := by kernel_rfl
theorem hoardlaw4_texts_l1_raw (jn : Jn) (Q : Value → WP)  (m1 : Nat) (a0 : Sl) (b1 : Sl) (i5 : Int) : hoardlaw4_texts_l1 jn Q  (m1 + 1) a0 b1 i5 = (
  ite2 (decide (i5 < (a0.n : Int))) (
  drawW fun S =>
  idx a0.a a0.n i5 fun b_1 o_2 =>
  ldS S .str b_1 (o_2 + (i5).toNat * 1) fun x_3 =>
  idx b1.a b1.n i5 fun b_4 o_5 =>
  ld .str b_4 (o_5 + (i5).toNat * 1) fun x_6 =>
  keepS true S <|
  ite2 (!sEq x_3 x_6) (
  Q (.bool false)) (
  hoardlaw4_texts_l1 jn Q  m1 a0 b1 (IntKind.wrap .i64 (i5 + (1 : Int))))) (
  hoardlaw4_texts_j2 jn Q  )) := by kernel_rfl
theorem hoardlaw4_texts_l1_zero (jn : Jn) (Q : Value → WP)  (a0 : Sl) (b1 : Sl) (i5 : Int) : hoardlaw4_texts_l1 jn Q  0 a0 b1 i5 = bot := by kernel_rfl
theorem hoardlaw4_texts_raw (jn : Jn) (a0 : Sl) (b1 : Sl) (Q : Value → WP) : funJ jn Try.prog hoardlaw4_texts_kp Try.f12 [.slice a0.a a0.n a0.c, .slice b1.a b1.n b1.c] Q = (
  ite2 ((a0.n : Int) != (b1.n : Int)) (
  Q (.bool false)) (
  exM fun m => hoardlaw4_texts_l1 jn Q  m a0 b1 (0 : Int))) := by kernel_rfl
theorem hoardlaw4_texts_def (a0 : Sl) (b1 : Sl) (Q : Value → WP) : hoardlaw4_texts a0 b1 Q = funJ idJ Try.prog hoardlaw4_texts_kp Try.f12 [.slice a0.a a0.n a0.c, .slice b1.a b1.n b1.c] Q := rfl
theorem hoardlaw4_texts_calls {a0 : Sl} {b1 : Sl} {Q : Value → WP} {w : World} (h : hoardlaw4_texts a0 b1 Q w) : Calls Try.prog id_hoardlaw4_texts #[.slice a0.a a0.n a0.c, .slice b1.a b1.n b1.c] w fun e w' => ∃ v, e = .returned v ∧ Q v w' :=
  funJ_calls mixed Try.func12 rfl h

-- hoard/hoardlaw4.known
def hoardlaw4_known_kp : KP := ⟨[], []⟩
def hoardlaw4_known  (Q : Value → WP) : WP := funJ idJ Try.prog hoardlaw4_known_kp Try.f13 [] Q
theorem hoardlaw4_known_raw (jn : Jn)  (Q : Value → WP) : funJ jn Try.prog hoardlaw4_known_kp Try.f13 [] Q = (
  call1 .ptr Try.prog id_list_New_string [] fun x_1 =>
  call1 (.int .i64) Try.prog id_list_List_string_PushBack [.pointer x_1, .string str_a] fun x_2 =>
  call1 (.int .i64) Try.prog id_list_List_string_PushBack [.pointer x_1, .string str_b] fun x_3 =>
  call2 .str .bool Try.prog id_list_List_string_Remove [.pointer x_1, .int .i64 (1 : Int)] fun x_4 x_5 =>
  call1 (.int .i64) Try.prog id_list_List_string_PushFront [.pointer x_1, .string str_c] fun x_6 =>
  ite2 (x_2 == (1 : Int)) (
  ite2 (x_3 == (2 : Int)) (
  ite2 x_5 (
  ite2 (sEq x_4 str_a) (
  ite2 (x_6 == (1 : Int)) (
  call1 .slc Try.prog id_list_List_string_All [.pointer x_1] fun x_7 =>
  newB [.string str_c, .string str_b] ty_string fun b_8 =>
  call1 .bool Try.prog id_hoardlaw4_texts [.slice x_7.a x_7.n x_7.c, .slice (some ⟨b_8, 0, none⟩) 2 2] fun x_9 =>
  Q (.bool x_9)) (
  Q (.bool false))) (
  Q (.bool false))) (
  Q (.bool false))) (
  Q (.bool false))) (
  Q (.bool false))) := by kernel_rfl
theorem hoardlaw4_known_def  (Q : Value → WP) : hoardlaw4_known  Q = funJ idJ Try.prog hoardlaw4_known_kp Try.f13 [] Q := rfl
theorem hoardlaw4_known_calls {Q : Value → WP} {w : World} (h : hoardlaw4_known Q w) : Calls Try.prog id_hoardlaw4_known #[] w fun e w' => ∃ v, e = .returned v ∧ Q v w' :=
  funJ_calls mixed Try.func13 rfl h

-- hoard/list.New[int]
def list_New_int_kp : KP := ⟨[], []⟩
def list_New_int  (Q : Value → WP) : WP := funJ idJ Try.prog list_New_int_kp Try.f14 [] Q
theorem list_New_int_raw (jn : Jn)  (Q : Value → WP) : funJ jn Try.prog list_New_int_kp Try.f14 [] Q = (
  makeC ty_list_link_int 32 [.int .i64 (0 : Int), .int .i64 (0 : Int), .int .i64 (0 : Int), .bool false] (1 : Int) (1 : Int) fun s_1 =>
  newB [.slice s_1.a s_1.n s_1.c, .slice (none : Option Addr) 0 0, .int .i64 (0 : Int)] ty_list_List_int fun b_2 =>
  Q (.pointer (some ⟨b_2, 0, none⟩))) := by kernel_rfl
theorem list_New_int_def  (Q : Value → WP) : list_New_int  Q = funJ idJ Try.prog list_New_int_kp Try.f14 [] Q := rfl
theorem list_New_int_calls {Q : Value → WP} {w : World} (h : list_New_int Q w) : Calls Try.prog id_list_New_int #[] w fun e w' => ∃ v, e = .returned v ∧ Q v w' :=
  funJ_calls mixed Try.func14 rfl h

-- (*hoard/list.List[int]).PushFront
def list_List_int_PushFront_kp : KP := ⟨[], []⟩
def list_List_int_PushFront (l0 : Option Addr) (v1 : Int) (Q : Value → WP) : WP := funJ idJ Try.prog list_List_int_PushFront_kp Try.f15 [.pointer l0, .int .i64 v1] Q
theorem list_List_int_PushFront_raw (jn : Jn) (l0 : Option Addr) (v1 : Int) (Q : Value → WP) : funJ jn Try.prog list_List_int_PushFront_kp Try.f15 [.pointer l0, .int .i64 v1] Q = (
  ite2 (Option.isNone l0) (
  Q (.int .i64 (0 : Int))) (
  call1 (.int .i64) Try.prog id_list_List_int_take [.pointer l0, .int .i64 v1] fun x_1 =>
  nilck l0 fun b_2 o_3 =>
  ld .slc b_2 o_3 fun x_4 =>
  idx x_4.a x_4.n (0 : Int) fun b_5 o_6 =>
  ld (.int .i64) b_5 ((o_6 + ((0 : Int)).toNat * 4) + 2) fun x_7 =>
  call0 Try.prog id_list_List_int_lays [.pointer l0, .int .i64 x_1, .int .i64 (0 : Int), .int .i64 x_7] <|
  Q (.int .i64 x_1))) := by kernel_rfl
theorem list_List_int_PushFront_def (l0 : Option Addr) (v1 : Int) (Q : Value → WP) : list_List_int_PushFront l0 v1 Q = funJ idJ Try.prog list_List_int_PushFront_kp Try.f15 [.pointer l0, .int .i64 v1] Q := rfl
theorem list_List_int_PushFront_calls {l0 : Option Addr} {v1 : Int} {Q : Value → WP} {w : World} (h : list_List_int_PushFront l0 v1 Q w) : Calls Try.prog id_list_List_int_PushFront #[.pointer l0, .int .i64 v1] w fun e w' => ∃ v, e = .returned v ∧ Q v w' :=
  funJ_calls mixed Try.func15 rfl h

-- (*hoard/list.List[int]).PushBack
def list_List_int_PushBack_kp : KP := ⟨[], []⟩
def list_List_int_PushBack (l0 : Option Addr) (v1 : Int) (Q : Value → WP) : WP := funJ idJ Try.prog list_List_int_PushBack_kp Try.f16 [.pointer l0, .int .i64 v1] Q
theorem list_List_int_PushBack_raw (jn : Jn) (l0 : Option Addr) (v1 : Int) (Q : Value → WP) : funJ jn Try.prog list_List_int_PushBack_kp Try.f16 [.pointer l0, .int .i64 v1] Q = (
  ite2 (Option.isNone l0) (
  Q (.int .i64 (0 : Int))) (
  call1 (.int .i64) Try.prog id_list_List_int_take [.pointer l0, .int .i64 v1] fun x_1 =>
  nilck l0 fun b_2 o_3 =>
  ld .slc b_2 o_3 fun x_4 =>
  idx x_4.a x_4.n (0 : Int) fun b_5 o_6 =>
  ld (.int .i64) b_5 ((o_6 + ((0 : Int)).toNat * 4) + 1) fun x_7 =>
  call0 Try.prog id_list_List_int_lays [.pointer l0, .int .i64 x_1, .int .i64 x_7, .int .i64 (0 : Int)] <|
  Q (.int .i64 x_1))) := by kernel_rfl
theorem list_List_int_PushBack_def (l0 : Option Addr) (v1 : Int) (Q : Value → WP) : list_List_int_PushBack l0 v1 Q = funJ idJ Try.prog list_List_int_PushBack_kp Try.f16 [.pointer l0, .int .i64 v1] Q := rfl
theorem list_List_int_PushBack_calls {l0 : Option Addr} {v1 : Int} {Q : Value → WP} {w : World} (h : list_List_int_PushBack l0 v1 Q w) : Calls Try.prog id_list_List_int_PushBack #[.pointer l0, .int .i64 v1] w fun e w' => ∃ v, e = .returned v ∧ Q v w' :=
  funJ_calls mixed Try.func16 rfl h

-- (*hoard/list.List[int]).All
def list_List_int_All_kp : KP := ⟨[(9, [0, 3, 4]), (14, [3])], []⟩
def list_List_int_All_j2 (jn : Jn) (Q : Value → WP)  (all3 : Sl) : WP := jn 14 (fun ρ => codeI Try.prog list_List_int_All_kp jn (cAt [true, true, true] (bodyOf Try.f17)) (retK Try.prog Try.f17 Q) noX (retK Try.prog Try.f17 Q) ρ) (us 3 ((.slice all3.a all3.n all3.c) :: us 20 []))
def list_List_int_All_l1 (jn : Jn) (Q : Value → WP)  (m1 : Nat) (l0 : Option Addr) (all3 : Sl) (h4 : Int) : WP := lop Try.prog list_List_int_All_kp jn (cAt [true, true, false, true, false, false] (bodyOf Try.f17)) (blkX 0 (seqK Try.prog list_List_int_All_kp jn (cAt [true, true, true] (bodyOf Try.f17)) (retK Try.prog Try.f17 Q) noX (retK Try.prog Try.f17 Q)) noX) (retK Try.prog Try.f17 Q) m1 ((.pointer l0) :: us 2 ((.slice all3.a all3.n all3.c) :: (.int .i64 h4) :: us 19 []))
def list_List_int_All (l0 : Option Addr) (Q : Value → WP) : WP := funJ idJ Try.prog list_List_int_All_kp Try.f17 [.pointer l0] Q
theorem list_List_int_All_j2_raw (jn : Jn) (Q : Value → WP)  (all3 : Sl) : codeI Try.prog list_List_int_All_kp jn (cAt [true, true, true] (bodyOf Try.f17)) (retK Try.prog Try.f17 Q) noX (retK Try.prog Try.f17 Q) (us 3 ((.slice all3.a all3.n all3.c) :: us 20 [])) = (
  Q (.slice all3.a all3.n all3.c)) := by kernel_rfl
theorem list_List_int_All_j2_def (Q : Value → WP)  (all3 : Sl) : list_List_int_All_j2 idJ Q  all3 = codeI Try.prog list_List_int_All_kp idJ (cAt [true, true, true] (bodyOf Try.f17)) (retK Try.prog Try.f17 Q) noX (retK Try.prog Try.f17 Q) (us 3 ((.slice all3.a all3.n all3.c) :: us 20 [])) := by kernel_rfl
theorem list_List_int_All_l1_raw (jn : Jn) (Q : Value → WP)  (m1 : Nat) (l0 : Option Addr) (all3 : Sl) (h4 : Int) : list_List_int_All_l1 jn Q  (m1 + 1) l0 all3 h4 = (
  ite2 (h4 != (0 : Int)) (
  nilck l0 fun b_2 o_3 =>
  ld .slc b_2 o_3 fun x_4 =>
  idx x_4.a x_4.n h4 fun b_5 o_6 =>
  ld (.int .i64) b_5 (o_6 + (h4).toNat * 4) fun x_7 =>
  newB [.int .i64 x_7] ty_int fun b_8 =>
  appendC ty_int 1 8 [.int .i64 (0 : Int)] ⟨all3.a, all3.n, all3.c⟩ 1 (fun w => rdA w (some ⟨b_8, 0, none⟩) (1 * 1)) fun s_9 =>
  call1 (.int .i64) Try.prog id_list_List_int_Next [.pointer l0, .int .i64 h4] fun x_10 =>
  list_List_int_All_l1 jn Q  m1 l0 s_9 x_10) (
  list_List_int_All_j2 jn Q  all3)) := by kernel_rfl
theorem list_List_int_All_l1_zero (jn : Jn) (Q : Value → WP)  (l0 : Option Addr) (all3 : Sl) (h4 : Int) : list_List_int_All_l1 jn Q  0 l0 all3 h4 = bot := by kernel_rfl
theorem list_List_int_All_raw (jn : Jn) (l0 : Option Addr) (Q : Value → WP) : funJ jn Try.prog list_List_int_All_kp Try.f17 [.pointer l0] Q = (
  call1 (.int .i64) Try.prog id_list_List_int_Front [.pointer l0] fun x_1 =>
  exM fun m => list_List_int_All_l1 jn Q  m l0 ⟨(none : Option Addr), 0, 0⟩ x_1) := by kernel_rfl
theorem list_List_int_All_def (l0 : Option Addr) (Q : Value → WP) : list_List_int_All l0 Q = funJ idJ Try.prog list_List_int_All_kp Try.f17 [.pointer l0] Q := rfl
theorem list_List_int_All_calls {l0 : Option Addr} {Q : Value → WP} {w : World} (h : list_List_int_All l0 Q w) : Calls Try.prog id_list_List_int_All #[.pointer l0] w fun e w' => ∃ v, e = .returned v ∧ Q v w' :=
  funJ_calls mixed Try.func17 rfl h

-- (*hoard/list.List[int]).Len
def list_List_int_Len_kp : KP := ⟨[], []⟩
def list_List_int_Len (l0 : Option Addr) (Q : Value → WP) : WP := funJ idJ Try.prog list_List_int_Len_kp Try.f18 [.pointer l0] Q
theorem list_List_int_Len_raw (jn : Jn) (l0 : Option Addr) (Q : Value → WP) : funJ jn Try.prog list_List_int_Len_kp Try.f18 [.pointer l0] Q = (
  ite2 (Option.isNone l0) (
  Q (.int .i64 (0 : Int))) (
  nilck l0 fun b_1 o_2 =>
  ld (.int .i64) b_1 (o_2 + 2) fun x_3 =>
  Q (.int .i64 x_3))) := by kernel_rfl
theorem list_List_int_Len_def (l0 : Option Addr) (Q : Value → WP) : list_List_int_Len l0 Q = funJ idJ Try.prog list_List_int_Len_kp Try.f18 [.pointer l0] Q := rfl
theorem list_List_int_Len_calls {l0 : Option Addr} {Q : Value → WP} {w : World} (h : list_List_int_Len l0 Q w) : Calls Try.prog id_list_List_int_Len #[.pointer l0] w fun e w' => ∃ v, e = .returned v ∧ Q v w' :=
  funJ_calls mixed Try.func18 rfl h

-- (*hoard/list.List[int]).Front
def list_List_int_Front_kp : KP := ⟨[], []⟩
def list_List_int_Front (l0 : Option Addr) (Q : Value → WP) : WP := funJ idJ Try.prog list_List_int_Front_kp Try.f19 [.pointer l0] Q
theorem list_List_int_Front_raw (jn : Jn) (l0 : Option Addr) (Q : Value → WP) : funJ jn Try.prog list_List_int_Front_kp Try.f19 [.pointer l0] Q = (
  ite2 (Option.isNone l0) (
  Q (.int .i64 (0 : Int))) (
  nilck l0 fun b_1 o_2 =>
  ld .slc b_1 o_2 fun x_3 =>
  idx x_3.a x_3.n (0 : Int) fun b_4 o_5 =>
  ld (.int .i64) b_4 ((o_5 + ((0 : Int)).toNat * 4) + 2) fun x_6 =>
  Q (.int .i64 x_6))) := by kernel_rfl
theorem list_List_int_Front_def (l0 : Option Addr) (Q : Value → WP) : list_List_int_Front l0 Q = funJ idJ Try.prog list_List_int_Front_kp Try.f19 [.pointer l0] Q := rfl
theorem list_List_int_Front_calls {l0 : Option Addr} {Q : Value → WP} {w : World} (h : list_List_int_Front l0 Q w) : Calls Try.prog id_list_List_int_Front #[.pointer l0] w fun e w' => ∃ v, e = .returned v ∧ Q v w' :=
  funJ_calls mixed Try.func19 rfl h

-- (*hoard/list.List[int]).Back
def list_List_int_Back_kp : KP := ⟨[], []⟩
def list_List_int_Back (l0 : Option Addr) (Q : Value → WP) : WP := funJ idJ Try.prog list_List_int_Back_kp Try.f20 [.pointer l0] Q
theorem list_List_int_Back_raw (jn : Jn) (l0 : Option Addr) (Q : Value → WP) : funJ jn Try.prog list_List_int_Back_kp Try.f20 [.pointer l0] Q = (
  ite2 (Option.isNone l0) (
  Q (.int .i64 (0 : Int))) (
  nilck l0 fun b_1 o_2 =>
  ld .slc b_1 o_2 fun x_3 =>
  idx x_3.a x_3.n (0 : Int) fun b_4 o_5 =>
  ld (.int .i64) b_4 ((o_5 + ((0 : Int)).toNat * 4) + 1) fun x_6 =>
  Q (.int .i64 x_6))) := by kernel_rfl
theorem list_List_int_Back_def (l0 : Option Addr) (Q : Value → WP) : list_List_int_Back l0 Q = funJ idJ Try.prog list_List_int_Back_kp Try.f20 [.pointer l0] Q := rfl
theorem list_List_int_Back_calls {l0 : Option Addr} {Q : Value → WP} {w : World} (h : list_List_int_Back l0 Q w) : Calls Try.prog id_list_List_int_Back #[.pointer l0] w fun e w' => ∃ v, e = .returned v ∧ Q v w' :=
  funJ_calls mixed Try.func20 rfl h

-- (*hoard/list.List[int]).Get
def list_List_int_Get_kp : KP := ⟨[], []⟩
def list_List_int_Get (l0 : Option Addr) (h1 : Int) (Q : Value → WP) : WP := funJ idJ Try.prog list_List_int_Get_kp Try.f21 [.pointer l0, .int .i64 h1] Q
theorem list_List_int_Get_raw (jn : Jn) (l0 : Option Addr) (h1 : Int) (Q : Value → WP) : funJ jn Try.prog list_List_int_Get_kp Try.f21 [.pointer l0, .int .i64 h1] Q = (
  call1 .bool Try.prog id_list_List_int_has [.pointer l0, .int .i64 h1] fun x_1 =>
  ite2 (!x_1) (
  Q (.tuple #[.int .i64 (0 : Int), .bool false])) (
  nilck l0 fun b_2 o_3 =>
  ld .slc b_2 o_3 fun x_4 =>
  idx x_4.a x_4.n h1 fun b_5 o_6 =>
  ld (.int .i64) b_5 (o_6 + (h1).toNat * 4) fun x_7 =>
  Q (.tuple #[.int .i64 x_7, .bool true]))) := by kernel_rfl
theorem list_List_int_Get_def (l0 : Option Addr) (h1 : Int) (Q : Value → WP) : list_List_int_Get l0 h1 Q = funJ idJ Try.prog list_List_int_Get_kp Try.f21 [.pointer l0, .int .i64 h1] Q := rfl
theorem list_List_int_Get_calls {l0 : Option Addr} {h1 : Int} {Q : Value → WP} {w : World} (h : list_List_int_Get l0 h1 Q w) : Calls Try.prog id_list_List_int_Get #[.pointer l0, .int .i64 h1] w fun e w' => ∃ v, e = .returned v ∧ Q v w' :=
  funJ_calls mixed Try.func21 rfl h

-- (*hoard/list.List[int]).Next
def list_List_int_Next_kp : KP := ⟨[], []⟩
def list_List_int_Next (l0 : Option Addr) (h1 : Int) (Q : Value → WP) : WP := funJ idJ Try.prog list_List_int_Next_kp Try.f22 [.pointer l0, .int .i64 h1] Q
theorem list_List_int_Next_raw (jn : Jn) (l0 : Option Addr) (h1 : Int) (Q : Value → WP) : funJ jn Try.prog list_List_int_Next_kp Try.f22 [.pointer l0, .int .i64 h1] Q = (
  call1 .bool Try.prog id_list_List_int_has [.pointer l0, .int .i64 h1] fun x_1 =>
  ite2 (!x_1) (
  Q (.int .i64 (0 : Int))) (
  nilck l0 fun b_2 o_3 =>
  ld .slc b_2 o_3 fun x_4 =>
  idx x_4.a x_4.n h1 fun b_5 o_6 =>
  ld (.int .i64) b_5 ((o_6 + (h1).toNat * 4) + 2) fun x_7 =>
  Q (.int .i64 x_7))) := by kernel_rfl
theorem list_List_int_Next_def (l0 : Option Addr) (h1 : Int) (Q : Value → WP) : list_List_int_Next l0 h1 Q = funJ idJ Try.prog list_List_int_Next_kp Try.f22 [.pointer l0, .int .i64 h1] Q := rfl
theorem list_List_int_Next_calls {l0 : Option Addr} {h1 : Int} {Q : Value → WP} {w : World} (h : list_List_int_Next l0 h1 Q w) : Calls Try.prog id_list_List_int_Next #[.pointer l0, .int .i64 h1] w fun e w' => ∃ v, e = .returned v ∧ Q v w' :=
  funJ_calls mixed Try.func22 rfl h

-- (*hoard/list.List[int]).Prev
def list_List_int_Prev_kp : KP := ⟨[], []⟩
def list_List_int_Prev (l0 : Option Addr) (h1 : Int) (Q : Value → WP) : WP := funJ idJ Try.prog list_List_int_Prev_kp Try.f23 [.pointer l0, .int .i64 h1] Q
theorem list_List_int_Prev_raw (jn : Jn) (l0 : Option Addr) (h1 : Int) (Q : Value → WP) : funJ jn Try.prog list_List_int_Prev_kp Try.f23 [.pointer l0, .int .i64 h1] Q = (
  call1 .bool Try.prog id_list_List_int_has [.pointer l0, .int .i64 h1] fun x_1 =>
  ite2 (!x_1) (
  Q (.int .i64 (0 : Int))) (
  nilck l0 fun b_2 o_3 =>
  ld .slc b_2 o_3 fun x_4 =>
  idx x_4.a x_4.n h1 fun b_5 o_6 =>
  ld (.int .i64) b_5 ((o_6 + (h1).toNat * 4) + 1) fun x_7 =>
  Q (.int .i64 x_7))) := by kernel_rfl
theorem list_List_int_Prev_def (l0 : Option Addr) (h1 : Int) (Q : Value → WP) : list_List_int_Prev l0 h1 Q = funJ idJ Try.prog list_List_int_Prev_kp Try.f23 [.pointer l0, .int .i64 h1] Q := rfl
theorem list_List_int_Prev_calls {l0 : Option Addr} {h1 : Int} {Q : Value → WP} {w : World} (h : list_List_int_Prev l0 h1 Q w) : Calls Try.prog id_list_List_int_Prev #[.pointer l0, .int .i64 h1] w fun e w' => ∃ v, e = .returned v ∧ Q v w' :=
  funJ_calls mixed Try.func23 rfl h

-- (*hoard/list.List[string]).ToFront
def list_List_string_ToFront_kp : KP := ⟨[], []⟩
def list_List_string_ToFront (l0 : Option Addr) (h1 : Int) (Q : Value → WP) : WP := funJ idJ Try.prog list_List_string_ToFront_kp Try.f24 [.pointer l0, .int .i64 h1] Q
theorem list_List_string_ToFront_raw (jn : Jn) (l0 : Option Addr) (h1 : Int) (Q : Value → WP) : funJ jn Try.prog list_List_string_ToFront_kp Try.f24 [.pointer l0, .int .i64 h1] Q = (
  call1 .bool Try.prog id_list_List_string_has [.pointer l0, .int .i64 h1] fun x_1 =>
  ite2 (!x_1) (
  Q (.bool false)) (
  call0 Try.prog id_list_List_string_lifts [.pointer l0, .int .i64 h1] <|
  nilck l0 fun b_2 o_3 =>
  ld .slc b_2 o_3 fun x_4 =>
  idx x_4.a x_4.n (0 : Int) fun b_5 o_6 =>
  ld (.int .i64) b_5 ((o_6 + ((0 : Int)).toNat * 4) + 2) fun x_7 =>
  call0 Try.prog id_list_List_string_lays [.pointer l0, .int .i64 h1, .int .i64 (0 : Int), .int .i64 x_7] <|
  Q (.bool true))) := by kernel_rfl
theorem list_List_string_ToFront_def (l0 : Option Addr) (h1 : Int) (Q : Value → WP) : list_List_string_ToFront l0 h1 Q = funJ idJ Try.prog list_List_string_ToFront_kp Try.f24 [.pointer l0, .int .i64 h1] Q := rfl
theorem list_List_string_ToFront_calls {l0 : Option Addr} {h1 : Int} {Q : Value → WP} {w : World} (h : list_List_string_ToFront l0 h1 Q w) : Calls Try.prog id_list_List_string_ToFront #[.pointer l0, .int .i64 h1] w fun e w' => ∃ v, e = .returned v ∧ Q v w' :=
  funJ_calls mixed Try.func24 rfl h

-- (*hoard/list.List[string]).Front
def list_List_string_Front_kp : KP := ⟨[], []⟩
def list_List_string_Front (l0 : Option Addr) (Q : Value → WP) : WP := funJ idJ Try.prog list_List_string_Front_kp Try.f25 [.pointer l0] Q
theorem list_List_string_Front_raw (jn : Jn) (l0 : Option Addr) (Q : Value → WP) : funJ jn Try.prog list_List_string_Front_kp Try.f25 [.pointer l0] Q = (
  ite2 (Option.isNone l0) (
  Q (.int .i64 (0 : Int))) (
  nilck l0 fun b_1 o_2 =>
  ld .slc b_1 o_2 fun x_3 =>
  idx x_3.a x_3.n (0 : Int) fun b_4 o_5 =>
  ld (.int .i64) b_4 ((o_5 + ((0 : Int)).toNat * 4) + 2) fun x_6 =>
  Q (.int .i64 x_6))) := by kernel_rfl
theorem list_List_string_Front_def (l0 : Option Addr) (Q : Value → WP) : list_List_string_Front l0 Q = funJ idJ Try.prog list_List_string_Front_kp Try.f25 [.pointer l0] Q := rfl
theorem list_List_string_Front_calls {l0 : Option Addr} {Q : Value → WP} {w : World} (h : list_List_string_Front l0 Q w) : Calls Try.prog id_list_List_string_Front #[.pointer l0] w fun e w' => ∃ v, e = .returned v ∧ Q v w' :=
  funJ_calls mixed Try.func25 rfl h

-- (*hoard/list.List[string]).ToBack
def list_List_string_ToBack_kp : KP := ⟨[], []⟩
def list_List_string_ToBack (l0 : Option Addr) (h1 : Int) (Q : Value → WP) : WP := funJ idJ Try.prog list_List_string_ToBack_kp Try.f26 [.pointer l0, .int .i64 h1] Q
theorem list_List_string_ToBack_raw (jn : Jn) (l0 : Option Addr) (h1 : Int) (Q : Value → WP) : funJ jn Try.prog list_List_string_ToBack_kp Try.f26 [.pointer l0, .int .i64 h1] Q = (
  call1 .bool Try.prog id_list_List_string_has [.pointer l0, .int .i64 h1] fun x_1 =>
  ite2 (!x_1) (
  Q (.bool false)) (
  call0 Try.prog id_list_List_string_lifts [.pointer l0, .int .i64 h1] <|
  nilck l0 fun b_2 o_3 =>
  ld .slc b_2 o_3 fun x_4 =>
  idx x_4.a x_4.n (0 : Int) fun b_5 o_6 =>
  ld (.int .i64) b_5 ((o_6 + ((0 : Int)).toNat * 4) + 1) fun x_7 =>
  call0 Try.prog id_list_List_string_lays [.pointer l0, .int .i64 h1, .int .i64 x_7, .int .i64 (0 : Int)] <|
  Q (.bool true))) := by kernel_rfl
theorem list_List_string_ToBack_def (l0 : Option Addr) (h1 : Int) (Q : Value → WP) : list_List_string_ToBack l0 h1 Q = funJ idJ Try.prog list_List_string_ToBack_kp Try.f26 [.pointer l0, .int .i64 h1] Q := rfl
theorem list_List_string_ToBack_calls {l0 : Option Addr} {h1 : Int} {Q : Value → WP} {w : World} (h : list_List_string_ToBack l0 h1 Q w) : Calls Try.prog id_list_List_string_ToBack #[.pointer l0, .int .i64 h1] w fun e w' => ∃ v, e = .returned v ∧ Q v w' :=
  funJ_calls mixed Try.func26 rfl h

-- (*hoard/list.List[string]).Back
def list_List_string_Back_kp : KP := ⟨[], []⟩
def list_List_string_Back (l0 : Option Addr) (Q : Value → WP) : WP := funJ idJ Try.prog list_List_string_Back_kp Try.f27 [.pointer l0] Q
theorem list_List_string_Back_raw (jn : Jn) (l0 : Option Addr) (Q : Value → WP) : funJ jn Try.prog list_List_string_Back_kp Try.f27 [.pointer l0] Q = (
  ite2 (Option.isNone l0) (
  Q (.int .i64 (0 : Int))) (
  nilck l0 fun b_1 o_2 =>
  ld .slc b_1 o_2 fun x_3 =>
  idx x_3.a x_3.n (0 : Int) fun b_4 o_5 =>
  ld (.int .i64) b_4 ((o_5 + ((0 : Int)).toNat * 4) + 1) fun x_6 =>
  Q (.int .i64 x_6))) := by kernel_rfl
theorem list_List_string_Back_def (l0 : Option Addr) (Q : Value → WP) : list_List_string_Back l0 Q = funJ idJ Try.prog list_List_string_Back_kp Try.f27 [.pointer l0] Q := rfl
theorem list_List_string_Back_calls {l0 : Option Addr} {Q : Value → WP} {w : World} (h : list_List_string_Back l0 Q w) : Calls Try.prog id_list_List_string_Back #[.pointer l0] w fun e w' => ∃ v, e = .returned v ∧ Q v w' :=
  funJ_calls mixed Try.func27 rfl h

-- hoard/hoardlaw4.heavy
def hoardlaw4_heavy_kp : KP := ⟨[(7, [0, 3]), (10, [0, 3]), (14, [])], []⟩
def hoardlaw4_heavy_j2 (jn : Jn) (Q : Value → WP) (m1 : Nat) (l0 : Sl) (i3 : Int) : WP := jn 10 (fun ρ => codeI Try.prog hoardlaw4_heavy_kp jn (cAt [true, false, true, false, false, true] (bodyOf Try.f28)) (lopK Try.prog hoardlaw4_heavy_kp jn (cAt [true, false, true, false, false] (bodyOf Try.f28)) (blkX 0 (seqK Try.prog hoardlaw4_heavy_kp jn (cAt [true, true] (bodyOf Try.f28)) (retK Try.prog Try.f28 Q) noX (retK Try.prog Try.f28 Q)) noX) (retK Try.prog Try.f28 Q) m1) (blkX 0 (seqK Try.prog hoardlaw4_heavy_kp jn (cAt [true, true] (bodyOf Try.f28)) (retK Try.prog Try.f28 Q) noX (retK Try.prog Try.f28 Q)) noX) (retK Try.prog Try.f28 Q) ρ) ((.slice l0.a l0.n l0.c) :: us 2 ((.int .i64 i3) :: us 17 []))
def hoardlaw4_heavy_j3 (jn : Jn) (Q : Value → WP)   : WP := jn 14 (fun ρ => codeI Try.prog hoardlaw4_heavy_kp jn (cAt [true, true] (bodyOf Try.f28)) (retK Try.prog Try.f28 Q) noX (retK Try.prog Try.f28 Q) ρ) (us 21 [])
def hoardlaw4_heavy_l1 (jn : Jn) (Q : Value → WP)  (m1 : Nat) (l0 : Sl) (i3 : Int) : WP := lop Try.prog hoardlaw4_heavy_kp jn (cAt [true, false, true, false, false] (bodyOf Try.f28)) (blkX 0 (seqK Try.prog hoardlaw4_heavy_kp jn (cAt [true, true] (bodyOf Try.f28)) (retK Try.prog Try.f28 Q) noX (retK Try.prog Try.f28 Q)) noX) (retK Try.prog Try.f28 Q) m1 ((.slice l0.a l0.n l0.c) :: us 2 ((.int .i64 i3) :: us 17 []))
def hoardlaw4_heavy (l0 : Sl) (Q : Value → WP) : WP := funJ idJ Try.prog hoardlaw4_heavy_kp Try.f28 [.slice l0.a l0.n l0.c] Q
theorem hoardlaw4_heavy_j2_raw (jn : Jn) (Q : Value → WP) (m1 : Nat) (l0 : Sl) (i3 : Int) : codeI Try.prog hoardlaw4_heavy_kp jn (cAt [true, false, true, false, false, true] (bodyOf Try.f28)) (lopK Try.prog hoardlaw4_heavy_kp jn (cAt [true, false, true, false, false] (bodyOf Try.f28)) (blkX 0 (seqK Try.prog hoardlaw4_heavy_kp jn (cAt [true, true] (bodyOf Try.f28)) (retK Try.prog Try.f28 Q) noX (retK Try.prog Try.f28 Q)) noX) (retK Try.prog Try.f28 Q) m1) (blkX 0 (seqK Try.prog hoardlaw4_heavy_kp jn (cAt [true, true] (bodyOf Try.f28)) (retK Try.prog Try.f28 Q) noX (retK Try.prog Try.f28 Q)) noX) (retK Try.prog Try.f28 Q) ((.slice l0.a l0.n l0.c) :: us 2 ((.int .i64 i3) :: us 17 [])) = (
  idx l0.a l0.n i3 fun b_1 o_2 =>
  ld .str b_1 ((o_2 + (i3).toNat * 3) + 2) fun x_3 =>
  ite2 (decide ((x_3.size : Int) > (60 : Int))) (
  Q (.bool true)) (
  hoardlaw4_heavy_l1 jn Q  m1 l0 (IntKind.wrap .i64 (i3 + (1 : Int))))) := by kernel_rfl
theorem hoardlaw4_heavy_j2_def (Q : Value → WP) (m1 : Nat) (l0 : Sl) (i3 : Int) : hoardlaw4_heavy_j2 idJ Q m1 l0 i3 = codeI Try.prog hoardlaw4_heavy_kp idJ (cAt [true, false, true, false, false, true] (bodyOf Try.f28)) (lopK Try.prog hoardlaw4_heavy_kp idJ (cAt [true, false, true, false, false] (bodyOf Try.f28)) (blkX 0 (seqK Try.prog hoardlaw4_heavy_kp idJ (cAt [true, true] (bodyOf Try.f28)) (retK Try.prog Try.f28 Q) noX (retK Try.prog Try.f28 Q)) noX) (retK Try.prog Try.f28 Q) m1) (blkX 0 (seqK Try.prog hoardlaw4_heavy_kp idJ (cAt [true, true] (bodyOf Try.f28)) (retK Try.prog Try.f28 Q) noX (retK Try.prog Try.f28 Q)) noX) (retK Try.prog Try.f28 Q) ((.slice l0.a l0.n l0.c) :: us 2 ((.int .i64 i3) :: us 17 [])) := by kernel_rfl
theorem hoardlaw4_heavy_j3_raw (jn : Jn) (Q : Value → WP)   : codeI Try.prog hoardlaw4_heavy_kp jn (cAt [true, true] (bodyOf Try.f28)) (retK Try.prog Try.f28 Q) noX (retK Try.prog Try.f28 Q) (us 21 []) = (
  Q (.bool false)) := by kernel_rfl
theorem hoardlaw4_heavy_j3_def (Q : Value → WP)   : hoardlaw4_heavy_j3 idJ Q   = codeI Try.prog hoardlaw4_heavy_kp idJ (cAt [true, true] (bodyOf Try.f28)) (retK Try.prog Try.f28 Q) noX (retK Try.prog Try.f28 Q) (us 21 []) := by kernel_rfl
theorem hoardlaw4_heavy_l1_raw (jn : Jn) (Q : Value → WP)  (m1 : Nat) (l0 : Sl) (i3 : Int) : hoardlaw4_heavy_l1 jn Q  (m1 + 1) l0 i3 = (
  ite2 (decide (i3 < (l0.n : Int))) (
  ite2 (decide (i3 < (150 : Int))) (
  hoardlaw4_heavy_j2 jn Q m1 l0 i3) (
  hoardlaw4_heavy_j3 jn Q  )) (
  hoardlaw4_heavy_j3 jn Q  )) := by kernel_rfl
theorem hoardlaw4_heavy_l1_zero (jn : Jn) (Q : Value → WP)  (l0 : Sl) (i3 : Int) : hoardlaw4_heavy_l1 jn Q  0 l0 i3 = bot := by kernel_rfl
theorem hoardlaw4_heavy_raw (jn : Jn) (l0 : Sl) (Q : Value → WP) : funJ jn Try.prog hoardlaw4_heavy_kp Try.f28 [.slice l0.a l0.n l0.c] Q = (
  exM fun m => hoardlaw4_heavy_l1 jn Q  m l0 (0 : Int)) := by kernel_rfl
theorem hoardlaw4_heavy_def (l0 : Sl) (Q : Value → WP) : hoardlaw4_heavy l0 Q = funJ idJ Try.prog hoardlaw4_heavy_kp Try.f28 [.slice l0.a l0.n l0.c] Q := rfl
theorem hoardlaw4_heavy_calls {l0 : Sl} {Q : Value → WP} {w : World} (h : hoardlaw4_heavy l0 Q w) : Calls Try.prog id_hoardlaw4_heavy #[.slice l0.a l0.n l0.c] w fun e w' => ∃ v, e = .returned v ∧ Q v w' :=
  funJ_calls mixed Try.func28 rfl h

-- hoard/hoardlaw4.act
def hoardlaw4_act_kp : KP := ⟨[], [(3, [0, 1, 2, 4, 5, 6, 8, 9]), (5, [0, 1, 2, 4, 5, 6, 8, 9]), (11, [0, 1, 2, 3, 4, 6, 7, 8, 9, 10, 12, 13]), (13, [0, 1, 2, 4, 5, 6, 8, 9]), (15, [0, 1, 2, 4, 5, 6, 8, 9]), (18, [0, 1, 2, 3, 4, 5, 6, 7, 8, 9, 10, 11, 13, 14, 15, 17, 18, 19, 20, 21, 22, 24, 25, 26, 28, 29, 30])]⟩
def hoardlaw4_act (l0 : Option Addr) (x1 : Option Addr) (a2_0 : Int) (a2_1 : Int) (a2_2 : ByteArray) (Q : Value → WP) : WP := funJ idJ Try.prog hoardlaw4_act_kp Try.f29 [.pointer l0, .pointer x1, .agg #[.int .i64 a2_0, .int .i64 a2_1, .string a2_2]] Q
theorem hoardlaw4_act_raw (jn : Jn) (l0 : Option Addr) (x1 : Option Addr) (a2_0 : Int) (a2_1 : Int) (a2_2 : ByteArray) (Q : Value → WP) : funJ jn Try.prog hoardlaw4_act_kp Try.f29 [.pointer l0, .pointer x1, .agg #[.int .i64 a2_0, .int .i64 a2_1, .string a2_2]] Q = (
  newB [.int .i64 a2_0, .int .i64 a2_1, .string a2_2] ty_hoardlaw4_Act fun b_1 =>
  ld (.int .i64) b_1 0 fun x_2 =>
  ite2 (x_2 == (1 : Int)) (
  drawW fun S =>
  ldS S .str b_1 2 fun x_3 =>
  ldS S .str b_1 2 fun x_4 =>
  call1 (.int .i64) Try.prog id_list_List_string_PushFront [.pointer l0, .string x_3] fun x_5 =>
  keepS true S <|
  call1 (.int .i64) Try.prog id_hoardref4_List_PushFront [.pointer x1, .string x_4] fun x_6 =>
  Q (.bool (x_5 == x_6))) (
  ite2 (x_2 == (2 : Int)) (
  drawW fun S =>
  ldS S .str b_1 2 fun x_7 =>
  ldS S .str b_1 2 fun x_8 =>
  call1 (.int .i64) Try.prog id_list_List_string_PushBack [.pointer l0, .string x_7] fun x_9 =>
  keepS true S <|
  call1 (.int .i64) Try.prog id_hoardref4_List_PushBack [.pointer x1, .string x_8] fun x_10 =>
  Q (.bool (x_9 == x_10))) (
  ite2 (x_2 == (3 : Int)) (
  ld (.int .i64) b_1 1 fun x_11 =>
  call2 .str .bool Try.prog id_list_List_string_Remove [.pointer l0, .int .i64 x_11] fun x_12 x_13 =>
  ld (.int .i64) b_1 1 fun x_14 =>
  call2 .str .bool Try.prog id_hoardref4_List_Remove [.pointer x1, .int .i64 x_14] fun x_15 x_16 =>
  ite2 (sEq x_12 x_15) (
  Q (.bool (x_13 == x_16))) (
  Q (.bool false))) (
  ite2 (x_2 == (4 : Int)) (
  drawW fun S =>
  ldS S (.int .i64) b_1 1 fun x_17 =>
  ldS S .str b_1 2 fun x_18 =>
  ldS S (.int .i64) b_1 1 fun x_19 =>
  ldS S .str b_1 2 fun x_20 =>
  call1 .bool Try.prog id_list_List_string_Set [.pointer l0, .int .i64 x_17, .string x_18] fun x_21 =>
  keepS true S <|
  call1 .bool Try.prog id_hoardref4_List_Set [.pointer x1, .int .i64 x_19, .string x_20] fun x_22 =>
  Q (.bool (x_21 == x_22))) (
  ite2 (x_2 == (5 : Int)) (
  drawW fun S =>
  ldS S (.int .i64) b_1 1 fun x_23 =>
  ldS S (.int .i64) b_1 1 fun x_24 =>
  call1 .bool Try.prog id_list_List_string_ToFront [.pointer l0, .int .i64 x_23] fun x_25 =>
  keepS true S <|
  call1 .bool Try.prog id_hoardref4_List_ToFront [.pointer x1, .int .i64 x_24] fun x_26 =>
  Q (.bool (x_25 == x_26))) (
  ite2 (x_2 == (6 : Int)) (
  drawW fun S =>
  ldS S (.int .i64) b_1 1 fun x_27 =>
  ldS S (.int .i64) b_1 1 fun x_28 =>
  call1 .bool Try.prog id_list_List_string_ToBack [.pointer l0, .int .i64 x_27] fun x_29 =>
  keepS true S <|
  call1 .bool Try.prog id_hoardref4_List_ToBack [.pointer x1, .int .i64 x_28] fun x_30 =>
  Q (.bool (x_29 == x_30))) (
  ld (.int .i64) b_1 1 fun x_31 =>
  call2 .str .bool Try.prog id_list_List_string_Get [.pointer l0, .int .i64 x_31] fun x_32 x_33 =>
  ld (.int .i64) b_1 1 fun x_34 =>
  call2 .str .bool Try.prog id_hoardref4_List_Get [.pointer x1, .int .i64 x_34] fun x_35 x_36 =>
  drawW fun S =>
  ite2 (sEq x_32 x_35) (
  ite2 (x_33 == x_36) (
  ldS S (.int .i64) b_1 1 fun x_37 =>
  ldS S (.int .i64) b_1 1 fun x_38 =>
  call1 (.int .i64) Try.prog id_list_List_string_Next [.pointer l0, .int .i64 x_37] fun x_39 =>
  keepS true S <|
  call1 (.int .i64) Try.prog id_hoardref4_List_Next [.pointer x1, .int .i64 x_38] fun x_40 =>
  keepS true S <|
  ite2 (x_39 == x_40) (
  ldS S (.int .i64) b_1 1 fun x_41 =>
  ldS S (.int .i64) b_1 1 fun x_42 =>
  call1 (.int .i64) Try.prog id_list_List_string_Prev [.pointer l0, .int .i64 x_41] fun x_43 =>
  keepS true S <|
  call1 (.int .i64) Try.prog id_hoardref4_List_Prev [.pointer x1, .int .i64 x_42] fun x_44 =>
  Q (.bool (x_43 == x_44))) (
  keepS true S <|
  Q (.bool false))) (
  keepS true S <|
  keepS true S <|
  keepS true S <|
  Q (.bool false))) (
  keepS true S <|
  keepS true S <|
  keepS true S <|
  Q (.bool false))))))))) := by kernel_rfl
theorem hoardlaw4_act_def (l0 : Option Addr) (x1 : Option Addr) (a2_0 : Int) (a2_1 : Int) (a2_2 : ByteArray) (Q : Value → WP) : hoardlaw4_act l0 x1 a2_0 a2_1 a2_2 Q = funJ idJ Try.prog hoardlaw4_act_kp Try.f29 [.pointer l0, .pointer x1, .agg #[.int .i64 a2_0, .int .i64 a2_1, .string a2_2]] Q := rfl
theorem hoardlaw4_act_calls {l0 : Option Addr} {x1 : Option Addr} {a2_0 : Int} {a2_1 : Int} {a2_2 : ByteArray} {Q : Value → WP} {w : World} (h : hoardlaw4_act l0 x1 a2_0 a2_1 a2_2 Q w) : Calls Try.prog id_hoardlaw4_act #[.pointer l0, .pointer x1, .agg #[.int .i64 a2_0, .int .i64 a2_1, .string a2_2]] w fun e w' => ∃ v, e = .returned v ∧ Q v w' :=
  funJ_calls mixed Try.func29 rfl h

-- (*hoard/list.List[string]).Len
def list_List_string_Len_kp : KP := ⟨[], []⟩
def list_List_string_Len (l0 : Option Addr) (Q : Value → WP) : WP := funJ idJ Try.prog list_List_string_Len_kp Try.f30 [.pointer l0] Q
theorem list_List_string_Len_raw (jn : Jn) (l0 : Option Addr) (Q : Value → WP) : funJ jn Try.prog list_List_string_Len_kp Try.f30 [.pointer l0] Q = (
  ite2 (Option.isNone l0) (
  Q (.int .i64 (0 : Int))) (
  nilck l0 fun b_1 o_2 =>
  ld (.int .i64) b_1 (o_2 + 2) fun x_3 =>
  Q (.int .i64 x_3))) := by kernel_rfl
theorem list_List_string_Len_def (l0 : Option Addr) (Q : Value → WP) : list_List_string_Len l0 Q = funJ idJ Try.prog list_List_string_Len_kp Try.f30 [.pointer l0] Q := rfl
theorem list_List_string_Len_calls {l0 : Option Addr} {Q : Value → WP} {w : World} (h : list_List_string_Len l0 Q w) : Calls Try.prog id_list_List_string_Len #[.pointer l0] w fun e w' => ∃ v, e = .returned v ∧ Q v w' :=
  funJ_calls mixed Try.func30 rfl h

-- (*hoard/list.List[string]).Next
def list_List_string_Next_kp : KP := ⟨[], []⟩
def list_List_string_Next (l0 : Option Addr) (h1 : Int) (Q : Value → WP) : WP := funJ idJ Try.prog list_List_string_Next_kp Try.f31 [.pointer l0, .int .i64 h1] Q
theorem list_List_string_Next_raw (jn : Jn) (l0 : Option Addr) (h1 : Int) (Q : Value → WP) : funJ jn Try.prog list_List_string_Next_kp Try.f31 [.pointer l0, .int .i64 h1] Q = (
  call1 .bool Try.prog id_list_List_string_has [.pointer l0, .int .i64 h1] fun x_1 =>
  ite2 (!x_1) (
  Q (.int .i64 (0 : Int))) (
  nilck l0 fun b_2 o_3 =>
  ld .slc b_2 o_3 fun x_4 =>
  idx x_4.a x_4.n h1 fun b_5 o_6 =>
  ld (.int .i64) b_5 ((o_6 + (h1).toNat * 4) + 2) fun x_7 =>
  Q (.int .i64 x_7))) := by kernel_rfl
theorem list_List_string_Next_def (l0 : Option Addr) (h1 : Int) (Q : Value → WP) : list_List_string_Next l0 h1 Q = funJ idJ Try.prog list_List_string_Next_kp Try.f31 [.pointer l0, .int .i64 h1] Q := rfl
theorem list_List_string_Next_calls {l0 : Option Addr} {h1 : Int} {Q : Value → WP} {w : World} (h : list_List_string_Next l0 h1 Q w) : Calls Try.prog id_list_List_string_Next #[.pointer l0, .int .i64 h1] w fun e w' => ∃ v, e = .returned v ∧ Q v w' :=
  funJ_calls mixed Try.func31 rfl h

-- (*hoard/hoardref4.List).Front
def hoardref4_List_Front_kp : KP := ⟨[], []⟩
def hoardref4_List_Front (l0 : Option Addr) (Q : Value → WP) : WP := funJ idJ Try.prog hoardref4_List_Front_kp Try.f32 [.pointer l0] Q
theorem hoardref4_List_Front_raw (jn : Jn) (l0 : Option Addr) (Q : Value → WP) : funJ jn Try.prog hoardref4_List_Front_kp Try.f32 [.pointer l0] Q = (
  call1 (.int .i64) Try.prog id_hoardref4_List_place [.pointer l0, .int .i64 (0 : Int)] fun x_1 =>
  Q (.int .i64 x_1)) := by kernel_rfl
theorem hoardref4_List_Front_def (l0 : Option Addr) (Q : Value → WP) : hoardref4_List_Front l0 Q = funJ idJ Try.prog hoardref4_List_Front_kp Try.f32 [.pointer l0] Q := rfl
theorem hoardref4_List_Front_calls {l0 : Option Addr} {Q : Value → WP} {w : World} (h : hoardref4_List_Front l0 Q w) : Calls Try.prog id_hoardref4_List_Front #[.pointer l0] w fun e w' => ∃ v, e = .returned v ∧ Q v w' :=
  funJ_calls mixed Try.func32 rfl h

-- (*hoard/hoardref4.List).Back
def hoardref4_List_Back_kp : KP := ⟨[], []⟩
def hoardref4_List_Back (l0 : Option Addr) (Q : Value → WP) : WP := funJ idJ Try.prog hoardref4_List_Back_kp Try.f33 [.pointer l0] Q
theorem hoardref4_List_Back_raw (jn : Jn) (l0 : Option Addr) (Q : Value → WP) : funJ jn Try.prog hoardref4_List_Back_kp Try.f33 [.pointer l0] Q = (
  nilck l0 fun b_1 o_2 =>
  ld .slc b_1 o_2 fun x_3 =>
  call1 (.int .i64) Try.prog id_hoardref4_List_place [.pointer l0, .int .i64 (IntKind.wrap .i64 ((x_3.n : Int) - (1 : Int)))] fun x_4 =>
  Q (.int .i64 x_4)) := by kernel_rfl
theorem hoardref4_List_Back_def (l0 : Option Addr) (Q : Value → WP) : hoardref4_List_Back l0 Q = funJ idJ Try.prog hoardref4_List_Back_kp Try.f33 [.pointer l0] Q := rfl
theorem hoardref4_List_Back_calls {l0 : Option Addr} {Q : Value → WP} {w : World} (h : hoardref4_List_Back l0 Q w) : Calls Try.prog id_hoardref4_List_Back #[.pointer l0] w fun e w' => ∃ v, e = .returned v ∧ Q v w' :=
  funJ_calls mixed Try.func33 rfl h

-- (*hoard/hoardref4.List).All
def hoardref4_List_All_kp : KP := ⟨[(9, [0, 3, 4]), (14, [3])], []⟩
def hoardref4_List_All_j2 (jn : Jn) (Q : Value → WP)  (m3 : Sl) : WP := jn 14 (fun ρ => codeI Try.prog hoardref4_List_All_kp jn (cAt [true, true, true] (bodyOf Try.f34)) (retK Try.prog Try.f34 Q) noX (retK Try.prog Try.f34 Q) ρ) (us 3 ((.slice m3.a m3.n m3.c) :: us 22 []))
def hoardref4_List_All_l1 (jn : Jn) (Q : Value → WP)  (m1 : Nat) (l0 : Option Addr) (m3 : Sl) (i4 : Int) : WP := lop Try.prog hoardref4_List_All_kp jn (cAt [true, true, false, true, false, false] (bodyOf Try.f34)) (blkX 0 (seqK Try.prog hoardref4_List_All_kp jn (cAt [true, true, true] (bodyOf Try.f34)) (retK Try.prog Try.f34 Q) noX (retK Try.prog Try.f34 Q)) noX) (retK Try.prog Try.f34 Q) m1 ((.pointer l0) :: us 2 ((.slice m3.a m3.n m3.c) :: (.int .i64 i4) :: us 21 []))
def hoardref4_List_All (l0 : Option Addr) (Q : Value → WP) : WP := funJ idJ Try.prog hoardref4_List_All_kp Try.f34 [.pointer l0] Q
theorem hoardref4_List_All_j2_raw (jn : Jn) (Q : Value → WP)  (m3 : Sl) : codeI Try.prog hoardref4_List_All_kp jn (cAt [true, true, true] (bodyOf Try.f34)) (retK Try.prog Try.f34 Q) noX (retK Try.prog Try.f34 Q) (us 3 ((.slice m3.a m3.n m3.c) :: us 22 [])) = (
  Q (.slice m3.a m3.n m3.c)) := by kernel_rfl
theorem hoardref4_List_All_j2_def (Q : Value → WP)  (m3 : Sl) : hoardref4_List_All_j2 idJ Q  m3 = codeI Try.prog hoardref4_List_All_kp idJ (cAt [true, true, true] (bodyOf Try.f34)) (retK Try.prog Try.f34 Q) noX (retK Try.prog Try.f34 Q) (us 3 ((.slice m3.a m3.n m3.c) :: us 22 [])) := by kernel_rfl
theorem hoardref4_List_All_l1_raw (jn : Jn) (Q : Value → WP)  (m1 : Nat) (l0 : Option Addr) (m3 : Sl) (i4 : Int) : hoardref4_List_All_l1 jn Q  (m1 + 1) l0 m3 i4 = (
  nilck l0 fun b_1 o_2 =>
  ld .slc b_1 o_2 fun x_3 =>
  ite2 (decide (i4 < (x_3.n : Int))) (
  nilck l0 fun b_4 o_5 =>
  ld .slc b_4 o_5 fun x_6 =>
  idx x_6.a x_6.n i4 fun b_7 o_8 =>
  ld .str b_7 ((o_8 + (i4).toNat * 2) + 1) fun x_9 =>
  newB [.string x_9] ty_string fun b_10 =>
  appendC ty_string 1 16 [.string str_empty] ⟨m3.a, m3.n, m3.c⟩ 1 (fun w => rdA w (some ⟨b_10, 0, none⟩) (1 * 1)) fun s_11 =>
  hoardref4_List_All_l1 jn Q  m1 l0 s_11 (IntKind.wrap .i64 (i4 + (1 : Int)))) (
  hoardref4_List_All_j2 jn Q  m3)) := by kernel_rfl
theorem hoardref4_List_All_l1_zero (jn : Jn) (Q : Value → WP)  (l0 : Option Addr) (m3 : Sl) (i4 : Int) : hoardref4_List_All_l1 jn Q  0 l0 m3 i4 = bot := by kernel_rfl
theorem hoardref4_List_All_raw (jn : Jn) (l0 : Option Addr) (Q : Value → WP) : funJ jn Try.prog hoardref4_List_All_kp Try.f34 [.pointer l0] Q = (
  exM fun m => hoardref4_List_All_l1 jn Q  m l0 ⟨(none : Option Addr), 0, 0⟩ (0 : Int)) := by kernel_rfl
theorem hoardref4_List_All_def (l0 : Option Addr) (Q : Value → WP) : hoardref4_List_All l0 Q = funJ idJ Try.prog hoardref4_List_All_kp Try.f34 [.pointer l0] Q := rfl
theorem hoardref4_List_All_calls {l0 : Option Addr} {Q : Value → WP} {w : World} (h : hoardref4_List_All l0 Q w) : Calls Try.prog id_hoardref4_List_All #[.pointer l0] w fun e w' => ∃ v, e = .returned v ∧ Q v w' :=
  funJ_calls mixed Try.func34 rfl h

-- (*hoard/list.List[string]).Get
def list_List_string_Get_kp : KP := ⟨[], []⟩
def list_List_string_Get (l0 : Option Addr) (h1 : Int) (Q : Value → WP) : WP := funJ idJ Try.prog list_List_string_Get_kp Try.f35 [.pointer l0, .int .i64 h1] Q
theorem list_List_string_Get_raw (jn : Jn) (l0 : Option Addr) (h1 : Int) (Q : Value → WP) : funJ jn Try.prog list_List_string_Get_kp Try.f35 [.pointer l0, .int .i64 h1] Q = (
  call1 .bool Try.prog id_list_List_string_has [.pointer l0, .int .i64 h1] fun x_1 =>
  ite2 (!x_1) (
  Q (.tuple #[.string str_empty, .bool false])) (
  nilck l0 fun b_2 o_3 =>
  ld .slc b_2 o_3 fun x_4 =>
  idx x_4.a x_4.n h1 fun b_5 o_6 =>
  ld .str b_5 (o_6 + (h1).toNat * 4) fun x_7 =>
  Q (.tuple #[.string x_7, .bool true]))) := by kernel_rfl
theorem list_List_string_Get_def (l0 : Option Addr) (h1 : Int) (Q : Value → WP) : list_List_string_Get l0 h1 Q = funJ idJ Try.prog list_List_string_Get_kp Try.f35 [.pointer l0, .int .i64 h1] Q := rfl
theorem list_List_string_Get_calls {l0 : Option Addr} {h1 : Int} {Q : Value → WP} {w : World} (h : list_List_string_Get l0 h1 Q w) : Calls Try.prog id_list_List_string_Get #[.pointer l0, .int .i64 h1] w fun e w' => ∃ v, e = .returned v ∧ Q v w' :=
  funJ_calls mixed Try.func35 rfl h

-- (*hoard/list.List[string]).Remove
def list_List_string_Remove_kp : KP := ⟨[], []⟩
def list_List_string_Remove (l0 : Option Addr) (h1 : Int) (Q : Value → WP) : WP := funJ idJ Try.prog list_List_string_Remove_kp Try.f36 [.pointer l0, .int .i64 h1] Q
theorem list_List_string_Remove_raw (jn : Jn) (l0 : Option Addr) (h1 : Int) (Q : Value → WP) : funJ jn Try.prog list_List_string_Remove_kp Try.f36 [.pointer l0, .int .i64 h1] Q = (
  call2 .str .bool Try.prog id_list_List_string_Get [.pointer l0, .int .i64 h1] fun x_1 x_2 =>
  ite2 x_2 (
  call0 Try.prog id_list_List_string_lifts [.pointer l0, .int .i64 h1] <|
  nilck l0 fun b_3 o_4 =>
  ld .slc b_3 o_4 fun x_5 =>
  idx x_5.a x_5.n h1 fun b_6 o_7 =>
  st b_6 (o_7 + (h1).toNat * 4) (.string str_empty) <|
  st b_6 ((o_7 + (h1).toNat * 4) + 1) (.int .i64 (0 : Int)) <|
  st b_6 (((o_7 + (h1).toNat * 4) + 1) + 1) (.int .i64 (0 : Int)) <|
  st b_6 ((((o_7 + (h1).toNat * 4) + 1) + 1) + 1) (.bool false) <|
  nilck l0 fun b_8 o_9 =>
  ld .slc b_8 (o_9 + 1) fun x_10 =>
  newB [.int .i64 h1] ty_int fun b_11 =>
  appendC ty_int 1 8 [.int .i64 (0 : Int)] ⟨x_10.a, x_10.n, x_10.c⟩ 1 (fun w => rdA w (some ⟨b_11, 0, none⟩) (1 * 1)) fun s_12 =>
  nilck l0 fun b_13 o_14 =>
  st b_13 (o_14 + 1) (.slice s_12.a s_12.n s_12.c) <|
  nilck l0 fun b_15 o_16 =>
  ld (.int .i64) b_15 (o_16 + 2) fun x_17 =>
  nilck l0 fun b_18 o_19 =>
  st b_18 (o_19 + 2) (.int .i64 (IntKind.wrap .i64 (x_17 - (1 : Int)))) <|
  Q (.tuple #[.string x_1, .bool x_2])) (
  Q (.tuple #[.string x_1, .bool x_2]))) := by kernel_rfl
theorem list_List_string_Remove_def (l0 : Option Addr) (h1 : Int) (Q : Value → WP) : list_List_string_Remove l0 h1 Q = funJ idJ Try.prog list_List_string_Remove_kp Try.f36 [.pointer l0, .int .i64 h1] Q := rfl
theorem list_List_string_Remove_calls {l0 : Option Addr} {h1 : Int} {Q : Value → WP} {w : World} (h : list_List_string_Remove l0 h1 Q w) : Calls Try.prog id_list_List_string_Remove #[.pointer l0, .int .i64 h1] w fun e w' => ∃ v, e = .returned v ∧ Q v w' :=
  funJ_calls mixed Try.func36 rfl h

-- (*hoard/list.List[string]).PushFront
def list_List_string_PushFront_kp : KP := ⟨[], []⟩
def list_List_string_PushFront (l0 : Option Addr) (v1 : ByteArray) (Q : Value → WP) : WP := funJ idJ Try.prog list_List_string_PushFront_kp Try.f37 [.pointer l0, .string v1] Q
theorem list_List_string_PushFront_raw (jn : Jn) (l0 : Option Addr) (v1 : ByteArray) (Q : Value → WP) : funJ jn Try.prog list_List_string_PushFront_kp Try.f37 [.pointer l0, .string v1] Q = (
  ite2 (Option.isNone l0) (
  Q (.int .i64 (0 : Int))) (
  call1 (.int .i64) Try.prog id_list_List_string_take [.pointer l0, .string v1] fun x_1 =>
  nilck l0 fun b_2 o_3 =>
  ld .slc b_2 o_3 fun x_4 =>
  idx x_4.a x_4.n (0 : Int) fun b_5 o_6 =>
  ld (.int .i64) b_5 ((o_6 + ((0 : Int)).toNat * 4) + 2) fun x_7 =>
  call0 Try.prog id_list_List_string_lays [.pointer l0, .int .i64 x_1, .int .i64 (0 : Int), .int .i64 x_7] <|
  Q (.int .i64 x_1))) := by kernel_rfl
theorem list_List_string_PushFront_def (l0 : Option Addr) (v1 : ByteArray) (Q : Value → WP) : list_List_string_PushFront l0 v1 Q = funJ idJ Try.prog list_List_string_PushFront_kp Try.f37 [.pointer l0, .string v1] Q := rfl
theorem list_List_string_PushFront_calls {l0 : Option Addr} {v1 : ByteArray} {Q : Value → WP} {w : World} (h : list_List_string_PushFront l0 v1 Q w) : Calls Try.prog id_list_List_string_PushFront #[.pointer l0, .string v1] w fun e w' => ∃ v, e = .returned v ∧ Q v w' :=
  funJ_calls mixed Try.func37 rfl h

-- (*hoard/list.List[string]).Set
def list_List_string_Set_kp : KP := ⟨[], []⟩
def list_List_string_Set (l0 : Option Addr) (h1 : Int) (v2 : ByteArray) (Q : Value → WP) : WP := funJ idJ Try.prog list_List_string_Set_kp Try.f38 [.pointer l0, .int .i64 h1, .string v2] Q
theorem list_List_string_Set_raw (jn : Jn) (l0 : Option Addr) (h1 : Int) (v2 : ByteArray) (Q : Value → WP) : funJ jn Try.prog list_List_string_Set_kp Try.f38 [.pointer l0, .int .i64 h1, .string v2] Q = (
  call1 .bool Try.prog id_list_List_string_has [.pointer l0, .int .i64 h1] fun x_1 =>
  ite2 (!x_1) (
  Q (.bool false)) (
  nilck l0 fun b_2 o_3 =>
  ld .slc b_2 o_3 fun x_4 =>
  idx x_4.a x_4.n h1 fun b_5 o_6 =>
  st b_5 (o_6 + (h1).toNat * 4) (.string v2) <|
  Q (.bool true))) := by kernel_rfl
theorem list_List_string_Set_def (l0 : Option Addr) (h1 : Int) (v2 : ByteArray) (Q : Value → WP) : list_List_string_Set l0 h1 v2 Q = funJ idJ Try.prog list_List_string_Set_kp Try.f38 [.pointer l0, .int .i64 h1, .string v2] Q := rfl
theorem list_List_string_Set_calls {l0 : Option Addr} {h1 : Int} {v2 : ByteArray} {Q : Value → WP} {w : World} (h : list_List_string_Set l0 h1 v2 Q w) : Calls Try.prog id_list_List_string_Set #[.pointer l0, .int .i64 h1, .string v2] w fun e w' => ∃ v, e = .returned v ∧ Q v w' :=
  funJ_calls mixed Try.func38 rfl h

-- (*hoard/list.List[string]).Prev
def list_List_string_Prev_kp : KP := ⟨[], []⟩
def list_List_string_Prev (l0 : Option Addr) (h1 : Int) (Q : Value → WP) : WP := funJ idJ Try.prog list_List_string_Prev_kp Try.f39 [.pointer l0, .int .i64 h1] Q
theorem list_List_string_Prev_raw (jn : Jn) (l0 : Option Addr) (h1 : Int) (Q : Value → WP) : funJ jn Try.prog list_List_string_Prev_kp Try.f39 [.pointer l0, .int .i64 h1] Q = (
  call1 .bool Try.prog id_list_List_string_has [.pointer l0, .int .i64 h1] fun x_1 =>
  ite2 (!x_1) (
  Q (.int .i64 (0 : Int))) (
  nilck l0 fun b_2 o_3 =>
  ld .slc b_2 o_3 fun x_4 =>
  idx x_4.a x_4.n h1 fun b_5 o_6 =>
  ld (.int .i64) b_5 ((o_6 + (h1).toNat * 4) + 1) fun x_7 =>
  Q (.int .i64 x_7))) := by kernel_rfl
theorem list_List_string_Prev_def (l0 : Option Addr) (h1 : Int) (Q : Value → WP) : list_List_string_Prev l0 h1 Q = funJ idJ Try.prog list_List_string_Prev_kp Try.f39 [.pointer l0, .int .i64 h1] Q := rfl
theorem list_List_string_Prev_calls {l0 : Option Addr} {h1 : Int} {Q : Value → WP} {w : World} (h : list_List_string_Prev l0 h1 Q w) : Calls Try.prog id_list_List_string_Prev #[.pointer l0, .int .i64 h1] w fun e w' => ∃ v, e = .returned v ∧ Q v w' :=
  funJ_calls mixed Try.func39 rfl h

-- (*hoard/list.List[string]).take
def list_List_string_take_kp : KP := ⟨[(16, [0, 1, 5])], []⟩
def list_List_string_take_j1 (jn : Jn) (Q : Value → WP)  (l0 : Option Addr) (v1 : ByteArray) (h5 : Int) : WP := jn 16 (fun ρ => codeI Try.prog list_List_string_take_kp jn (cAt [true, true, true] (bodyOf Try.f40)) (retK Try.prog Try.f40 Q) noX (retK Try.prog Try.f40 Q) ρ) ((.pointer l0) :: (.string v1) :: us 3 ((.int .i64 h5) :: us 57 []))
def list_List_string_take (l0 : Option Addr) (v1 : ByteArray) (Q : Value → WP) : WP := funJ idJ Try.prog list_List_string_take_kp Try.f40 [.pointer l0, .string v1] Q
theorem list_List_string_take_j1_raw (jn : Jn) (Q : Value → WP)  (l0 : Option Addr) (v1 : ByteArray) (h5 : Int) : codeI Try.prog list_List_string_take_kp jn (cAt [true, true, true] (bodyOf Try.f40)) (retK Try.prog Try.f40 Q) noX (retK Try.prog Try.f40 Q) ((.pointer l0) :: (.string v1) :: us 3 ((.int .i64 h5) :: us 57 [])) = (
  nilck l0 fun b_18 o_19 =>
  ld .slc b_18 o_19 fun x_20 =>
  idx x_20.a x_20.n h5 fun b_21 o_22 =>
  st b_21 (o_22 + (h5).toNat * 4) (.string v1) <|
  st b_21 ((o_22 + (h5).toNat * 4) + 1) (.int .i64 (0 : Int)) <|
  st b_21 (((o_22 + (h5).toNat * 4) + 1) + 1) (.int .i64 (0 : Int)) <|
  st b_21 ((((o_22 + (h5).toNat * 4) + 1) + 1) + 1) (.bool true) <|
  nilck l0 fun b_23 o_24 =>
  ld (.int .i64) b_23 (o_24 + 2) fun x_25 =>
  nilck l0 fun b_26 o_27 =>
  st b_26 (o_27 + 2) (.int .i64 (IntKind.wrap .i64 (x_25 + (1 : Int)))) <|
  Q (.int .i64 h5)) := by kernel_rfl
theorem list_List_string_take_j1_def (Q : Value → WP)  (l0 : Option Addr) (v1 : ByteArray) (h5 : Int) : list_List_string_take_j1 idJ Q  l0 v1 h5 = codeI Try.prog list_List_string_take_kp idJ (cAt [true, true, true] (bodyOf Try.f40)) (retK Try.prog Try.f40 Q) noX (retK Try.prog Try.f40 Q) ((.pointer l0) :: (.string v1) :: us 3 ((.int .i64 h5) :: us 57 [])) := by kernel_rfl
theorem list_List_string_take_raw (jn : Jn) (l0 : Option Addr) (v1 : ByteArray) (Q : Value → WP) : funJ jn Try.prog list_List_string_take_kp Try.f40 [.pointer l0, .string v1] Q = (
  nilck l0 fun b_1 o_2 =>
  ld .slc b_1 o_2 fun x_3 =>
  nilck l0 fun b_4 o_5 =>
  ld .slc b_4 (o_5 + 1) fun x_6 =>
  ite2 (decide ((x_6.n : Int) > (0 : Int))) (
  nilck l0 fun b_7 o_8 =>
  ld .slc b_7 (o_8 + 1) fun x_9 =>
  idx x_9.a x_9.n (IntKind.wrap .i64 ((x_6.n : Int) - (1 : Int))) fun b_10 o_11 =>
  ld (.int .i64) b_10 (o_11 + ((IntKind.wrap .i64 ((x_6.n : Int) - (1 : Int)))).toNat * 1) fun x_12 =>
  nilck l0 fun b_13 o_14 =>
  ld .slc b_13 (o_14 + 1) fun x_15 =>
  when ((0 : Int) ≤ (IntKind.wrap .i64 ((x_6.n : Int) - (1 : Int))) ∧ (IntKind.wrap .i64 ((x_6.n : Int) - (1 : Int))) ≤ (x_15.c : Int)) <|
  nilck l0 fun b_16 o_17 =>
  st b_16 (o_17 + 1) (.slice (subA x_15.a 0 x_15.c 1) (((IntKind.wrap .i64 ((x_6.n : Int) - (1 : Int)))).toNat - 0) (x_15.c - 0)) <|
  list_List_string_take_j1 jn Q  l0 v1 x_12) (
  nilck l0 fun b_28 o_29 =>
  ld .slc b_28 o_29 fun x_30 =>
  newB [.string str_empty, .int .i64 (0 : Int), .int .i64 (0 : Int), .bool false] ty_list_link_string fun b_31 =>
  appendC ty_list_link_string 4 40 [.string str_empty, .int .i64 (0 : Int), .int .i64 (0 : Int), .bool false] ⟨x_30.a, x_30.n, x_30.c⟩ 1 (fun w => rdA w (some ⟨b_31, 0, none⟩) (1 * 4)) fun s_32 =>
  nilck l0 fun b_33 o_34 =>
  st b_33 o_34 (.slice s_32.a s_32.n s_32.c) <|
  list_List_string_take_j1 jn Q  l0 v1 (x_3.n : Int))) := by kernel_rfl
theorem list_List_string_take_def (l0 : Option Addr) (v1 : ByteArray) (Q : Value → WP) : list_List_string_take l0 v1 Q = funJ idJ Try.prog list_List_string_take_kp Try.f40 [.pointer l0, .string v1] Q := rfl
theorem list_List_string_take_calls {l0 : Option Addr} {v1 : ByteArray} {Q : Value → WP} {w : World} (h : list_List_string_take l0 v1 Q w) : Calls Try.prog id_list_List_string_take #[.pointer l0, .string v1] w fun e w' => ∃ v, e = .returned v ∧ Q v w' :=
  funJ_calls mixed Try.func40 rfl h

-- (*hoard/list.List[string]).lays
def list_List_string_lays_kp : KP := ⟨[], [(0, [0, 1, 2, 3, 4, 5, 6, 7, 9, 10, 11, 12, 13, 15, 16]), (1, [0, 1, 2, 3, 4, 5, 6, 7, 9, 10, 11, 12, 13, 15, 16])]⟩
def list_List_string_lays (l0 : Option Addr) (h1 : Int) (prev2 : Int) (next3 : Int) (Q : Value → WP) : WP := funJ idJ Try.prog list_List_string_lays_kp Try.f41 [.pointer l0, .int .i64 h1, .int .i64 prev2, .int .i64 next3] Q
theorem list_List_string_lays_raw (jn : Jn) (l0 : Option Addr) (h1 : Int) (prev2 : Int) (next3 : Int) (Q : Value → WP) : funJ jn Try.prog list_List_string_lays_kp Try.f41 [.pointer l0, .int .i64 h1, .int .i64 prev2, .int .i64 next3] Q = (
  drawW fun S =>
  nilck l0 fun b_1 o_2 =>
  ldS S .slc b_1 o_2 fun x_3 =>
  nilck l0 fun b_4 o_5 =>
  ld .slc b_4 o_5 fun x_6 =>
  keepS true S <|
  idx x_3.a x_3.n h1 fun b_7 o_8 =>
  st b_7 ((o_8 + (h1).toNat * 4) + 1) (.int .i64 prev2) <|
  idx x_6.a x_6.n h1 fun b_9 o_10 =>
  st b_9 ((o_10 + (h1).toNat * 4) + 2) (.int .i64 next3) <|
  drawW fun S =>
  nilck l0 fun b_11 o_12 =>
  ldS S .slc b_11 o_12 fun x_13 =>
  nilck l0 fun b_14 o_15 =>
  ld .slc b_14 o_15 fun x_16 =>
  keepS true S <|
  idx x_13.a x_13.n prev2 fun b_17 o_18 =>
  st b_17 ((o_18 + (prev2).toNat * 4) + 2) (.int .i64 h1) <|
  idx x_16.a x_16.n next3 fun b_19 o_20 =>
  st b_19 ((o_20 + (next3).toNat * 4) + 1) (.int .i64 h1) <|
  Q (.tuple #[])) := by kernel_rfl
theorem list_List_string_lays_def (l0 : Option Addr) (h1 : Int) (prev2 : Int) (next3 : Int) (Q : Value → WP) : list_List_string_lays l0 h1 prev2 next3 Q = funJ idJ Try.prog list_List_string_lays_kp Try.f41 [.pointer l0, .int .i64 h1, .int .i64 prev2, .int .i64 next3] Q := rfl
theorem list_List_string_lays_calls {l0 : Option Addr} {h1 : Int} {prev2 : Int} {next3 : Int} {Q : Value → WP} {w : World} (h : list_List_string_lays l0 h1 prev2 next3 Q w) : Calls Try.prog id_list_List_string_lays #[.pointer l0, .int .i64 h1, .int .i64 prev2, .int .i64 next3] w fun e w' => ∃ v, e = .returned v ∧ Q v w' :=
  funJ_calls mixed Try.func41 rfl h

-- (*hoard/list.List[int]).take
def list_List_int_take_kp : KP := ⟨[(16, [0, 1, 5])], []⟩
def list_List_int_take_j1 (jn : Jn) (Q : Value → WP)  (l0 : Option Addr) (v1 : Int) (h5 : Int) : WP := jn 16 (fun ρ => codeI Try.prog list_List_int_take_kp jn (cAt [true, true, true] (bodyOf Try.f42)) (retK Try.prog Try.f42 Q) noX (retK Try.prog Try.f42 Q) ρ) ((.pointer l0) :: (.int .i64 v1) :: us 3 ((.int .i64 h5) :: us 57 []))
def list_List_int_take (l0 : Option Addr) (v1 : Int) (Q : Value → WP) : WP := funJ idJ Try.prog list_List_int_take_kp Try.f42 [.pointer l0, .int .i64 v1] Q
theorem list_List_int_take_j1_raw (jn : Jn) (Q : Value → WP)  (l0 : Option Addr) (v1 : Int) (h5 : Int) : codeI Try.prog list_List_int_take_kp jn (cAt [true, true, true] (bodyOf Try.f42)) (retK Try.prog Try.f42 Q) noX (retK Try.prog Try.f42 Q) ((.pointer l0) :: (.int .i64 v1) :: us 3 ((.int .i64 h5) :: us 57 [])) = (
  nilck l0 fun b_18 o_19 =>
  ld .slc b_18 o_19 fun x_20 =>
  idx x_20.a x_20.n h5 fun b_21 o_22 =>
  st b_21 (o_22 + (h5).toNat * 4) (.int .i64 v1) <|
  st b_21 ((o_22 + (h5).toNat * 4) + 1) (.int .i64 (0 : Int)) <|
  st b_21 (((o_22 + (h5).toNat * 4) + 1) + 1) (.int .i64 (0 : Int)) <|
  st b_21 ((((o_22 + (h5).toNat * 4) + 1) + 1) + 1) (.bool true) <|
  nilck l0 fun b_23 o_24 =>
  ld (.int .i64) b_23 (o_24 + 2) fun x_25 =>
  nilck l0 fun b_26 o_27 =>
  st b_26 (o_27 + 2) (.int .i64 (IntKind.wrap .i64 (x_25 + (1 : Int)))) <|
  Q (.int .i64 h5)) := by kernel_rfl
theorem list_List_int_take_j1_def (Q : Value → WP)  (l0 : Option Addr) (v1 : Int) (h5 : Int) : list_List_int_take_j1 idJ Q  l0 v1 h5 = codeI Try.prog list_List_int_take_kp idJ (cAt [true, true, true] (bodyOf Try.f42)) (retK Try.prog Try.f42 Q) noX (retK Try.prog Try.f42 Q) ((.pointer l0) :: (.int .i64 v1) :: us 3 ((.int .i64 h5) :: us 57 [])) := by kernel_rfl
theorem list_List_int_take_raw (jn : Jn) (l0 : Option Addr) (v1 : Int) (Q : Value → WP) : funJ jn Try.prog list_List_int_take_kp Try.f42 [.pointer l0, .int .i64 v1] Q = (
  nilck l0 fun b_1 o_2 =>
  ld .slc b_1 o_2 fun x_3 =>
  nilck l0 fun b_4 o_5 =>
  ld .slc b_4 (o_5 + 1) fun x_6 =>
  ite2 (decide ((x_6.n : Int) > (0 : Int))) (
  nilck l0 fun b_7 o_8 =>
  ld .slc b_7 (o_8 + 1) fun x_9 =>
  idx x_9.a x_9.n (IntKind.wrap .i64 ((x_6.n : Int) - (1 : Int))) fun b_10 o_11 =>
  ld (.int .i64) b_10 (o_11 + ((IntKind.wrap .i64 ((x_6.n : Int) - (1 : Int)))).toNat * 1) fun x_12 =>
  nilck l0 fun b_13 o_14 =>
  ld .slc b_13 (o_14 + 1) fun x_15 =>
  when ((0 : Int) ≤ (IntKind.wrap .i64 ((x_6.n : Int) - (1 : Int))) ∧ (IntKind.wrap .i64 ((x_6.n : Int) - (1 : Int))) ≤ (x_15.c : Int)) <|
  nilck l0 fun b_16 o_17 =>
  st b_16 (o_17 + 1) (.slice (subA x_15.a 0 x_15.c 1) (((IntKind.wrap .i64 ((x_6.n : Int) - (1 : Int)))).toNat - 0) (x_15.c - 0)) <|
  list_List_int_take_j1 jn Q  l0 v1 x_12) (
  nilck l0 fun b_28 o_29 =>
  ld .slc b_28 o_29 fun x_30 =>
  newB [.int .i64 (0 : Int), .int .i64 (0 : Int), .int .i64 (0 : Int), .bool false] ty_list_link_int fun b_31 =>
  appendC ty_list_link_int 4 32 [.int .i64 (0 : Int), .int .i64 (0 : Int), .int .i64 (0 : Int), .bool false] ⟨x_30.a, x_30.n, x_30.c⟩ 1 (fun w => rdA w (some ⟨b_31, 0, none⟩) (1 * 4)) fun s_32 =>
  nilck l0 fun b_33 o_34 =>
  st b_33 o_34 (.slice s_32.a s_32.n s_32.c) <|
  list_List_int_take_j1 jn Q  l0 v1 (x_3.n : Int))) := by kernel_rfl
theorem list_List_int_take_def (l0 : Option Addr) (v1 : Int) (Q : Value → WP) : list_List_int_take l0 v1 Q = funJ idJ Try.prog list_List_int_take_kp Try.f42 [.pointer l0, .int .i64 v1] Q := rfl
theorem list_List_int_take_calls {l0 : Option Addr} {v1 : Int} {Q : Value → WP} {w : World} (h : list_List_int_take l0 v1 Q w) : Calls Try.prog id_list_List_int_take #[.pointer l0, .int .i64 v1] w fun e w' => ∃ v, e = .returned v ∧ Q v w' :=
  funJ_calls mixed Try.func42 rfl h

-- (*hoard/list.List[int]).lays
def list_List_int_lays_kp : KP := ⟨[], [(0, [0, 1, 2, 3, 4, 5, 6, 7, 9, 10, 11, 12, 13, 15, 16]), (1, [0, 1, 2, 3, 4, 5, 6, 7, 9, 10, 11, 12, 13, 15, 16])]⟩
def list_List_int_lays (l0 : Option Addr) (h1 : Int) (prev2 : Int) (next3 : Int) (Q : Value → WP) : WP := funJ idJ Try.prog list_List_int_lays_kp Try.f43 [.pointer l0, .int .i64 h1, .int .i64 prev2, .int .i64 next3] Q
theorem list_List_int_lays_raw (jn : Jn) (l0 : Option Addr) (h1 : Int) (prev2 : Int) (next3 : Int) (Q : Value → WP) : funJ jn Try.prog list_List_int_lays_kp Try.f43 [.pointer l0, .int .i64 h1, .int .i64 prev2, .int .i64 next3] Q = (
  drawW fun S =>
  nilck l0 fun b_1 o_2 =>
  ldS S .slc b_1 o_2 fun x_3 =>
  nilck l0 fun b_4 o_5 =>
  ld .slc b_4 o_5 fun x_6 =>
  keepS true S <|
  idx x_3.a x_3.n h1 fun b_7 o_8 =>
  st b_7 ((o_8 + (h1).toNat * 4) + 1) (.int .i64 prev2) <|
  idx x_6.a x_6.n h1 fun b_9 o_10 =>
  st b_9 ((o_10 + (h1).toNat * 4) + 2) (.int .i64 next3) <|
  drawW fun S =>
  nilck l0 fun b_11 o_12 =>
  ldS S .slc b_11 o_12 fun x_13 =>
  nilck l0 fun b_14 o_15 =>
  ld .slc b_14 o_15 fun x_16 =>
  keepS true S <|
  idx x_13.a x_13.n prev2 fun b_17 o_18 =>
  st b_17 ((o_18 + (prev2).toNat * 4) + 2) (.int .i64 h1) <|
  idx x_16.a x_16.n next3 fun b_19 o_20 =>
  st b_19 ((o_20 + (next3).toNat * 4) + 1) (.int .i64 h1) <|
  Q (.tuple #[])) := by kernel_rfl
theorem list_List_int_lays_def (l0 : Option Addr) (h1 : Int) (prev2 : Int) (next3 : Int) (Q : Value → WP) : list_List_int_lays l0 h1 prev2 next3 Q = funJ idJ Try.prog list_List_int_lays_kp Try.f43 [.pointer l0, .int .i64 h1, .int .i64 prev2, .int .i64 next3] Q := rfl
theorem list_List_int_lays_calls {l0 : Option Addr} {h1 : Int} {prev2 : Int} {next3 : Int} {Q : Value → WP} {w : World} (h : list_List_int_lays l0 h1 prev2 next3 Q w) : Calls Try.prog id_list_List_int_lays #[.pointer l0, .int .i64 h1, .int .i64 prev2, .int .i64 next3] w fun e w' => ∃ v, e = .returned v ∧ Q v w' :=
  funJ_calls mixed Try.func43 rfl h

-- (*hoard/list.List[int]).has
def list_List_int_has_kp : KP := ⟨[], []⟩
def list_List_int_has (l0 : Option Addr) (h1 : Int) (Q : Value → WP) : WP := funJ idJ Try.prog list_List_int_has_kp Try.f44 [.pointer l0, .int .i64 h1] Q
theorem list_List_int_has_raw (jn : Jn) (l0 : Option Addr) (h1 : Int) (Q : Value → WP) : funJ jn Try.prog list_List_int_has_kp Try.f44 [.pointer l0, .int .i64 h1] Q = (
  ite2 (!Option.isNone l0) (
  ite2 (decide (h1 > (0 : Int))) (
  nilck l0 fun b_1 o_2 =>
  ld .slc b_1 o_2 fun x_3 =>
  ite2 (decide (h1 < (x_3.n : Int))) (
  nilck l0 fun b_4 o_5 =>
  ld .slc b_4 o_5 fun x_6 =>
  idx x_6.a x_6.n h1 fun b_7 o_8 =>
  ld .bool b_7 ((o_8 + (h1).toNat * 4) + 3) fun x_9 =>
  Q (.bool x_9)) (
  Q (.bool false))) (
  Q (.bool false))) (
  Q (.bool false))) := by kernel_rfl
theorem list_List_int_has_def (l0 : Option Addr) (h1 : Int) (Q : Value → WP) : list_List_int_has l0 h1 Q = funJ idJ Try.prog list_List_int_has_kp Try.f44 [.pointer l0, .int .i64 h1] Q := rfl
theorem list_List_int_has_calls {l0 : Option Addr} {h1 : Int} {Q : Value → WP} {w : World} (h : list_List_int_has l0 h1 Q w) : Calls Try.prog id_list_List_int_has #[.pointer l0, .int .i64 h1] w fun e w' => ∃ v, e = .returned v ∧ Q v w' :=
  funJ_calls mixed Try.func44 rfl h

-- (*hoard/list.List[string]).has
def list_List_string_has_kp : KP := ⟨[], []⟩
def list_List_string_has (l0 : Option Addr) (h1 : Int) (Q : Value → WP) : WP := funJ idJ Try.prog list_List_string_has_kp Try.f45 [.pointer l0, .int .i64 h1] Q
theorem list_List_string_has_raw (jn : Jn) (l0 : Option Addr) (h1 : Int) (Q : Value → WP) : funJ jn Try.prog list_List_string_has_kp Try.f45 [.pointer l0, .int .i64 h1] Q = (
  ite2 (!Option.isNone l0) (
  ite2 (decide (h1 > (0 : Int))) (
  nilck l0 fun b_1 o_2 =>
  ld .slc b_1 o_2 fun x_3 =>
  ite2 (decide (h1 < (x_3.n : Int))) (
  nilck l0 fun b_4 o_5 =>
  ld .slc b_4 o_5 fun x_6 =>
  idx x_6.a x_6.n h1 fun b_7 o_8 =>
  ld .bool b_7 ((o_8 + (h1).toNat * 4) + 3) fun x_9 =>
  Q (.bool x_9)) (
  Q (.bool false))) (
  Q (.bool false))) (
  Q (.bool false))) := by kernel_rfl
theorem list_List_string_has_def (l0 : Option Addr) (h1 : Int) (Q : Value → WP) : list_List_string_has l0 h1 Q = funJ idJ Try.prog list_List_string_has_kp Try.f45 [.pointer l0, .int .i64 h1] Q := rfl
theorem list_List_string_has_calls {l0 : Option Addr} {h1 : Int} {Q : Value → WP} {w : World} (h : list_List_string_has l0 h1 Q w) : Calls Try.prog id_list_List_string_has #[.pointer l0, .int .i64 h1] w fun e w' => ∃ v, e = .returned v ∧ Q v w' :=
  funJ_calls mixed Try.func45 rfl h

-- (*hoard/list.List[string]).lifts
def list_List_string_lifts_kp : KP := ⟨[], [(0, [0, 1, 2, 3, 4, 5, 6, 7, 8, 9, 10, 12, 13, 14, 16, 17]), (1, [0, 1, 2, 3, 4, 5, 6, 7, 9, 10, 11, 12, 13, 15, 16])]⟩
def list_List_string_lifts (l0 : Option Addr) (h1 : Int) (Q : Value → WP) : WP := funJ idJ Try.prog list_List_string_lifts_kp Try.f46 [.pointer l0, .int .i64 h1] Q
theorem list_List_string_lifts_raw (jn : Jn) (l0 : Option Addr) (h1 : Int) (Q : Value → WP) : funJ jn Try.prog list_List_string_lifts_kp Try.f46 [.pointer l0, .int .i64 h1] Q = (
  drawW fun S =>
  nilck l0 fun b_1 o_2 =>
  ldS S .slc b_1 o_2 fun x_3 =>
  idx x_3.a x_3.n h1 fun b_4 o_5 =>
  ldS S (.int .i64) b_4 ((o_5 + (h1).toNat * 4) + 1) fun x_6 =>
  nilck l0 fun b_7 o_8 =>
  ld .slc b_7 o_8 fun x_9 =>
  keepS true S <|
  idx x_9.a x_9.n h1 fun b_10 o_11 =>
  ld (.int .i64) b_10 ((o_11 + (h1).toNat * 4) + 2) fun x_12 =>
  keepS true S <|
  drawW fun S =>
  nilck l0 fun b_13 o_14 =>
  ldS S .slc b_13 o_14 fun x_15 =>
  nilck l0 fun b_16 o_17 =>
  ld .slc b_16 o_17 fun x_18 =>
  keepS true S <|
  idx x_15.a x_15.n x_6 fun b_19 o_20 =>
  st b_19 ((o_20 + (x_6).toNat * 4) + 2) (.int .i64 x_12) <|
  idx x_18.a x_18.n x_12 fun b_21 o_22 =>
  st b_21 ((o_22 + (x_12).toNat * 4) + 1) (.int .i64 x_6) <|
  Q (.tuple #[])) := by kernel_rfl
theorem list_List_string_lifts_def (l0 : Option Addr) (h1 : Int) (Q : Value → WP) : list_List_string_lifts l0 h1 Q = funJ idJ Try.prog list_List_string_lifts_kp Try.f46 [.pointer l0, .int .i64 h1] Q := rfl
theorem list_List_string_lifts_calls {l0 : Option Addr} {h1 : Int} {Q : Value → WP} {w : World} (h : list_List_string_lifts l0 h1 Q w) : Calls Try.prog id_list_List_string_lifts #[.pointer l0, .int .i64 h1] w fun e w' => ∃ v, e = .returned v ∧ Q v w' :=
  funJ_calls mixed Try.func46 rfl h

-- (*hoard/hoardref4.List).PushFront
def hoardref4_List_PushFront_kp : KP := ⟨[], []⟩
def hoardref4_List_PushFront (l0 : Option Addr) (v1 : ByteArray) (Q : Value → WP) : WP := funJ idJ Try.prog hoardref4_List_PushFront_kp Try.f47 [.pointer l0, .string v1] Q
theorem hoardref4_List_PushFront_raw (jn : Jn) (l0 : Option Addr) (v1 : ByteArray) (Q : Value → WP) : funJ jn Try.prog hoardref4_List_PushFront_kp Try.f47 [.pointer l0, .string v1] Q = (
  call1 (.int .i64) Try.prog id_hoardref4_List_handle [.pointer l0] fun x_1 =>
  newB [.int .i64 x_1, .string v1] ty_hoardref4_cell fun b_2 =>
  nilck l0 fun b_3 o_4 =>
  ld .slc b_3 o_4 fun x_5 =>
  appendC ty_hoardref4_cell 2 24 [.int .i64 (0 : Int), .string str_empty] ⟨(some ⟨b_2, 0, none⟩), 1, 1⟩ x_5.n (fun w => rdA w x_5.a (x_5.n * 2)) fun s_6 =>
  nilck l0 fun b_7 o_8 =>
  st b_7 o_8 (.slice s_6.a s_6.n s_6.c) <|
  Q (.int .i64 x_1)) := by kernel_rfl
theorem hoardref4_List_PushFront_def (l0 : Option Addr) (v1 : ByteArray) (Q : Value → WP) : hoardref4_List_PushFront l0 v1 Q = funJ idJ Try.prog hoardref4_List_PushFront_kp Try.f47 [.pointer l0, .string v1] Q := rfl
theorem hoardref4_List_PushFront_calls {l0 : Option Addr} {v1 : ByteArray} {Q : Value → WP} {w : World} (h : hoardref4_List_PushFront l0 v1 Q w) : Calls Try.prog id_hoardref4_List_PushFront #[.pointer l0, .string v1] w fun e w' => ∃ v, e = .returned v ∧ Q v w' :=
  funJ_calls mixed Try.func47 rfl h

-- (*hoard/hoardref4.List).PushBack
def hoardref4_List_PushBack_kp : KP := ⟨[], []⟩
def hoardref4_List_PushBack (l0 : Option Addr) (v1 : ByteArray) (Q : Value → WP) : WP := funJ idJ Try.prog hoardref4_List_PushBack_kp Try.f48 [.pointer l0, .string v1] Q
theorem hoardref4_List_PushBack_raw (jn : Jn) (l0 : Option Addr) (v1 : ByteArray) (Q : Value → WP) : funJ jn Try.prog hoardref4_List_PushBack_kp Try.f48 [.pointer l0, .string v1] Q = (
  call1 (.int .i64) Try.prog id_hoardref4_List_handle [.pointer l0] fun x_1 =>
  nilck l0 fun b_2 o_3 =>
  ld .slc b_2 o_3 fun x_4 =>
  newB [.int .i64 x_1, .string v1] ty_hoardref4_cell fun b_5 =>
  appendC ty_hoardref4_cell 2 24 [.int .i64 (0 : Int), .string str_empty] ⟨x_4.a, x_4.n, x_4.c⟩ 1 (fun w => rdA w (some ⟨b_5, 0, none⟩) (1 * 2)) fun s_6 =>
  nilck l0 fun b_7 o_8 =>
  st b_7 o_8 (.slice s_6.a s_6.n s_6.c) <|
  Q (.int .i64 x_1)) := by kernel_rfl
theorem hoardref4_List_PushBack_def (l0 : Option Addr) (v1 : ByteArray) (Q : Value → WP) : hoardref4_List_PushBack l0 v1 Q = funJ idJ Try.prog hoardref4_List_PushBack_kp Try.f48 [.pointer l0, .string v1] Q := rfl
theorem hoardref4_List_PushBack_calls {l0 : Option Addr} {v1 : ByteArray} {Q : Value → WP} {w : World} (h : hoardref4_List_PushBack l0 v1 Q w) : Calls Try.prog id_hoardref4_List_PushBack #[.pointer l0, .string v1] w fun e w' => ∃ v, e = .returned v ∧ Q v w' :=
  funJ_calls mixed Try.func48 rfl h

-- (*hoard/hoardref4.List).Remove
def hoardref4_List_Remove_kp : KP := ⟨[], []⟩
def hoardref4_List_Remove (l0 : Option Addr) (h1 : Int) (Q : Value → WP) : WP := funJ idJ Try.prog hoardref4_List_Remove_kp Try.f49 [.pointer l0, .int .i64 h1] Q
theorem hoardref4_List_Remove_raw (jn : Jn) (l0 : Option Addr) (h1 : Int) (Q : Value → WP) : funJ jn Try.prog hoardref4_List_Remove_kp Try.f49 [.pointer l0, .int .i64 h1] Q = (
  call1 (.int .i64) Try.prog id_hoardref4_List_at [.pointer l0, .int .i64 h1] fun x_1 =>
  ite2 (decide (x_1 < (0 : Int))) (
  Q (.tuple #[.string str_empty, .bool false])) (
  nilck l0 fun b_2 o_3 =>
  ld .slc b_2 (o_3 + 1) fun x_4 =>
  newB [.int .i64 h1] ty_int fun b_5 =>
  appendC ty_int 1 8 [.int .i64 (0 : Int)] ⟨x_4.a, x_4.n, x_4.c⟩ 1 (fun w => rdA w (some ⟨b_5, 0, none⟩) (1 * 1)) fun s_6 =>
  nilck l0 fun b_7 o_8 =>
  st b_7 (o_8 + 1) (.slice s_6.a s_6.n s_6.c) <|
  fun w => Calls Try.prog id_hoardref4_List_out #[.pointer l0, .int .i64 x_1] w fun e w' => ∃ x_9 : Int, ∃ x_10 : ByteArray, e = .returned (.agg #[.int .i64 x_9, .string x_10]) ∧ (
  Q (.tuple #[.string x_10, .bool true])) w')) := by kernel_rfl
theorem hoardref4_List_Remove_def (l0 : Option Addr) (h1 : Int) (Q : Value → WP) : hoardref4_List_Remove l0 h1 Q = funJ idJ Try.prog hoardref4_List_Remove_kp Try.f49 [.pointer l0, .int .i64 h1] Q := rfl
theorem hoardref4_List_Remove_calls {l0 : Option Addr} {h1 : Int} {Q : Value → WP} {w : World} (h : hoardref4_List_Remove l0 h1 Q w) : Calls Try.prog id_hoardref4_List_Remove #[.pointer l0, .int .i64 h1] w fun e w' => ∃ v, e = .returned v ∧ Q v w' :=
  funJ_calls mixed Try.func49 rfl h

-- (*hoard/hoardref4.List).Set
def hoardref4_List_Set_kp : KP := ⟨[], []⟩
def hoardref4_List_Set (l0 : Option Addr) (h1 : Int) (v2 : ByteArray) (Q : Value → WP) : WP := funJ idJ Try.prog hoardref4_List_Set_kp Try.f50 [.pointer l0, .int .i64 h1, .string v2] Q
theorem hoardref4_List_Set_raw (jn : Jn) (l0 : Option Addr) (h1 : Int) (v2 : ByteArray) (Q : Value → WP) : funJ jn Try.prog hoardref4_List_Set_kp Try.f50 [.pointer l0, .int .i64 h1, .string v2] Q = (
  call1 (.int .i64) Try.prog id_hoardref4_List_at [.pointer l0, .int .i64 h1] fun x_1 =>
  ite2 (decide (x_1 ≥ (0 : Int))) (
  nilck l0 fun b_2 o_3 =>
  ld .slc b_2 o_3 fun x_4 =>
  idx x_4.a x_4.n x_1 fun b_5 o_6 =>
  st b_5 ((o_6 + (x_1).toNat * 2) + 1) (.string v2) <|
  Q (.bool (decide (x_1 ≥ (0 : Int))))) (
  Q (.bool (decide (x_1 ≥ (0 : Int)))))) := by kernel_rfl
theorem hoardref4_List_Set_def (l0 : Option Addr) (h1 : Int) (v2 : ByteArray) (Q : Value → WP) : hoardref4_List_Set l0 h1 v2 Q = funJ idJ Try.prog hoardref4_List_Set_kp Try.f50 [.pointer l0, .int .i64 h1, .string v2] Q := rfl
theorem hoardref4_List_Set_calls {l0 : Option Addr} {h1 : Int} {v2 : ByteArray} {Q : Value → WP} {w : World} (h : hoardref4_List_Set l0 h1 v2 Q w) : Calls Try.prog id_hoardref4_List_Set #[.pointer l0, .int .i64 h1, .string v2] w fun e w' => ∃ v, e = .returned v ∧ Q v w' :=
  funJ_calls mixed Try.func50 rfl h

-- (*hoard/hoardref4.List).ToFront
def hoardref4_List_ToFront_kp : KP := ⟨[], [(4, [0, 1, 3, 4, 5, 6, 8, 9])]⟩
def hoardref4_List_ToFront (l0 : Option Addr) (h1 : Int) (Q : Value → WP) : WP := funJ idJ Try.prog hoardref4_List_ToFront_kp Try.f51 [.pointer l0, .int .i64 h1] Q
theorem hoardref4_List_ToFront_raw (jn : Jn) (l0 : Option Addr) (h1 : Int) (Q : Value → WP) : funJ jn Try.prog hoardref4_List_ToFront_kp Try.f51 [.pointer l0, .int .i64 h1] Q = (
  call1 (.int .i64) Try.prog id_hoardref4_List_at [.pointer l0, .int .i64 h1] fun x_1 =>
  ite2 (decide (x_1 ≥ (0 : Int))) (
  fun w => Calls Try.prog id_hoardref4_List_out #[.pointer l0, .int .i64 x_1] w fun e w' => ∃ x_2 : Int, ∃ x_3 : ByteArray, e = .returned (.agg #[.int .i64 x_2, .string x_3]) ∧ (
  newB [.int .i64 (0 : Int), .string str_empty] ty_hoardref4_cell fun b_4 =>
  st b_4 0 (.int .i64 x_2) <|
  st b_4 1 (.string x_3) <|
  drawW fun S =>
  ldS S (.int .i64) b_4 0 fun x_5 =>
  ldS S .str b_4 1 fun x_6 =>
  nilck l0 fun b_7 o_8 =>
  ldS S .slc b_7 o_8 fun x_9 =>
  newB [.int .i64 x_5, .string x_6] ty_hoardref4_cell fun b_10 =>
  keepS true S <|
  appendC ty_hoardref4_cell 2 24 [.int .i64 (0 : Int), .string str_empty] ⟨(some ⟨b_10, 0, none⟩), 1, 1⟩ x_9.n (fun w => rdA w x_9.a (x_9.n * 2)) fun s_11 =>
  nilck l0 fun b_12 o_13 =>
  st b_12 o_13 (.slice s_11.a s_11.n s_11.c) <|
  Q (.bool (decide (x_1 ≥ (0 : Int))))) w') (
  Q (.bool (decide (x_1 ≥ (0 : Int)))))) := by kernel_rfl
theorem hoardref4_List_ToFront_def (l0 : Option Addr) (h1 : Int) (Q : Value → WP) : hoardref4_List_ToFront l0 h1 Q = funJ idJ Try.prog hoardref4_List_ToFront_kp Try.f51 [.pointer l0, .int .i64 h1] Q := rfl
theorem hoardref4_List_ToFront_calls {l0 : Option Addr} {h1 : Int} {Q : Value → WP} {w : World} (h : hoardref4_List_ToFront l0 h1 Q w) : Calls Try.prog id_hoardref4_List_ToFront #[.pointer l0, .int .i64 h1] w fun e w' => ∃ v, e = .returned v ∧ Q v w' :=
  funJ_calls mixed Try.func51 rfl h

-- (*hoard/hoardref4.List).ToBack
def hoardref4_List_ToBack_kp : KP := ⟨[], [(4, [0, 1, 2, 3, 4, 8, 9])]⟩
def hoardref4_List_ToBack (l0 : Option Addr) (h1 : Int) (Q : Value → WP) : WP := funJ idJ Try.prog hoardref4_List_ToBack_kp Try.f52 [.pointer l0, .int .i64 h1] Q
theorem hoardref4_List_ToBack_raw (jn : Jn) (l0 : Option Addr) (h1 : Int) (Q : Value → WP) : funJ jn Try.prog hoardref4_List_ToBack_kp Try.f52 [.pointer l0, .int .i64 h1] Q = (
  call1 (.int .i64) Try.prog id_hoardref4_List_at [.pointer l0, .int .i64 h1] fun x_1 =>
  ite2 (decide (x_1 ≥ (0 : Int))) (
  fun w => Calls Try.prog id_hoardref4_List_out #[.pointer l0, .int .i64 x_1] w fun e w' => ∃ x_2 : Int, ∃ x_3 : ByteArray, e = .returned (.agg #[.int .i64 x_2, .string x_3]) ∧ (
  newB [.int .i64 (0 : Int), .string str_empty] ty_hoardref4_cell fun b_4 =>
  st b_4 0 (.int .i64 x_2) <|
  st b_4 1 (.string x_3) <|
  drawW fun S =>
  nilck l0 fun b_5 o_6 =>
  ldS S .slc b_5 o_6 fun x_7 =>
  ld (.int .i64) b_4 0 fun x_8 =>
  ld .str b_4 1 fun x_9 =>
  keepS true S <|
  newB [.int .i64 x_8, .string x_9] ty_hoardref4_cell fun b_10 =>
  keepS true S <|
  appendC ty_hoardref4_cell 2 24 [.int .i64 (0 : Int), .string str_empty] ⟨x_7.a, x_7.n, x_7.c⟩ 1 (fun w => rdA w (some ⟨b_10, 0, none⟩) (1 * 2)) fun s_11 =>
  nilck l0 fun b_12 o_13 =>
  st b_12 o_13 (.slice s_11.a s_11.n s_11.c) <|
  Q (.bool (decide (x_1 ≥ (0 : Int))))) w') (
  Q (.bool (decide (x_1 ≥ (0 : Int)))))) := by kernel_rfl
theorem hoardref4_List_ToBack_def (l0 : Option Addr) (h1 : Int) (Q : Value → WP) : hoardref4_List_ToBack l0 h1 Q = funJ idJ Try.prog hoardref4_List_ToBack_kp Try.f52 [.pointer l0, .int .i64 h1] Q := rfl
theorem hoardref4_List_ToBack_calls {l0 : Option Addr} {h1 : Int} {Q : Value → WP} {w : World} (h : hoardref4_List_ToBack l0 h1 Q w) : Calls Try.prog id_hoardref4_List_ToBack #[.pointer l0, .int .i64 h1] w fun e w' => ∃ v, e = .returned v ∧ Q v w' :=
  funJ_calls mixed Try.func52 rfl h

-- (*hoard/hoardref4.List).Get
def hoardref4_List_Get_kp : KP := ⟨[], []⟩
def hoardref4_List_Get (l0 : Option Addr) (h1 : Int) (Q : Value → WP) : WP := funJ idJ Try.prog hoardref4_List_Get_kp Try.f53 [.pointer l0, .int .i64 h1] Q
theorem hoardref4_List_Get_raw (jn : Jn) (l0 : Option Addr) (h1 : Int) (Q : Value → WP) : funJ jn Try.prog hoardref4_List_Get_kp Try.f53 [.pointer l0, .int .i64 h1] Q = (
  call1 (.int .i64) Try.prog id_hoardref4_List_at [.pointer l0, .int .i64 h1] fun x_1 =>
  ite2 (decide (x_1 < (0 : Int))) (
  Q (.tuple #[.string str_empty, .bool false])) (
  nilck l0 fun b_2 o_3 =>
  ld .slc b_2 o_3 fun x_4 =>
  idx x_4.a x_4.n x_1 fun b_5 o_6 =>
  ld .str b_5 ((o_6 + (x_1).toNat * 2) + 1) fun x_7 =>
  Q (.tuple #[.string x_7, .bool true]))) := by kernel_rfl
theorem hoardref4_List_Get_def (l0 : Option Addr) (h1 : Int) (Q : Value → WP) : hoardref4_List_Get l0 h1 Q = funJ idJ Try.prog hoardref4_List_Get_kp Try.f53 [.pointer l0, .int .i64 h1] Q := rfl
theorem hoardref4_List_Get_calls {l0 : Option Addr} {h1 : Int} {Q : Value → WP} {w : World} (h : hoardref4_List_Get l0 h1 Q w) : Calls Try.prog id_hoardref4_List_Get #[.pointer l0, .int .i64 h1] w fun e w' => ∃ v, e = .returned v ∧ Q v w' :=
  funJ_calls mixed Try.func53 rfl h

-- (*hoard/hoardref4.List).Next
def hoardref4_List_Next_kp : KP := ⟨[], []⟩
def hoardref4_List_Next (l0 : Option Addr) (h1 : Int) (Q : Value → WP) : WP := funJ idJ Try.prog hoardref4_List_Next_kp Try.f54 [.pointer l0, .int .i64 h1] Q
theorem hoardref4_List_Next_raw (jn : Jn) (l0 : Option Addr) (h1 : Int) (Q : Value → WP) : funJ jn Try.prog hoardref4_List_Next_kp Try.f54 [.pointer l0, .int .i64 h1] Q = (
  call1 (.int .i64) Try.prog id_hoardref4_List_at [.pointer l0, .int .i64 h1] fun x_1 =>
  ite2 (decide (x_1 < (0 : Int))) (
  Q (.int .i64 (0 : Int))) (
  call1 (.int .i64) Try.prog id_hoardref4_List_place [.pointer l0, .int .i64 (IntKind.wrap .i64 (x_1 + (1 : Int)))] fun x_2 =>
  Q (.int .i64 x_2))) := by kernel_rfl
theorem hoardref4_List_Next_def (l0 : Option Addr) (h1 : Int) (Q : Value → WP) : hoardref4_List_Next l0 h1 Q = funJ idJ Try.prog hoardref4_List_Next_kp Try.f54 [.pointer l0, .int .i64 h1] Q := rfl
theorem hoardref4_List_Next_calls {l0 : Option Addr} {h1 : Int} {Q : Value → WP} {w : World} (h : hoardref4_List_Next l0 h1 Q w) : Calls Try.prog id_hoardref4_List_Next #[.pointer l0, .int .i64 h1] w fun e w' => ∃ v, e = .returned v ∧ Q v w' :=
  funJ_calls mixed Try.func54 rfl h

-- (*hoard/hoardref4.List).Prev
def hoardref4_List_Prev_kp : KP := ⟨[], []⟩
def hoardref4_List_Prev (l0 : Option Addr) (h1 : Int) (Q : Value → WP) : WP := funJ idJ Try.prog hoardref4_List_Prev_kp Try.f55 [.pointer l0, .int .i64 h1] Q
theorem hoardref4_List_Prev_raw (jn : Jn) (l0 : Option Addr) (h1 : Int) (Q : Value → WP) : funJ jn Try.prog hoardref4_List_Prev_kp Try.f55 [.pointer l0, .int .i64 h1] Q = (
  call1 (.int .i64) Try.prog id_hoardref4_List_at [.pointer l0, .int .i64 h1] fun x_1 =>
  ite2 (decide (x_1 < (0 : Int))) (
  Q (.int .i64 (0 : Int))) (
  call1 (.int .i64) Try.prog id_hoardref4_List_place [.pointer l0, .int .i64 (IntKind.wrap .i64 (x_1 - (1 : Int)))] fun x_2 =>
  Q (.int .i64 x_2))) := by kernel_rfl
theorem hoardref4_List_Prev_def (l0 : Option Addr) (h1 : Int) (Q : Value → WP) : hoardref4_List_Prev l0 h1 Q = funJ idJ Try.prog hoardref4_List_Prev_kp Try.f55 [.pointer l0, .int .i64 h1] Q := rfl
theorem hoardref4_List_Prev_calls {l0 : Option Addr} {h1 : Int} {Q : Value → WP} {w : World} (h : hoardref4_List_Prev l0 h1 Q w) : Calls Try.prog id_hoardref4_List_Prev #[.pointer l0, .int .i64 h1] w fun e w' => ∃ v, e = .returned v ∧ Q v w' :=
  funJ_calls mixed Try.func55 rfl h

-- (*hoard/hoardref4.List).place
def hoardref4_List_place_kp : KP := ⟨[(8, [0, 1])], []⟩
def hoardref4_List_place_j1 (jn : Jn) (Q : Value → WP)  (l0 : Option Addr) (i1 : Int) : WP := jn 8 (fun ρ => codeI Try.prog hoardref4_List_place_kp jn (cAt [true, true] (bodyOf Try.f56)) (retK Try.prog Try.f56 Q) noX (retK Try.prog Try.f56 Q) ρ) ((.pointer l0) :: (.int .i64 i1) :: us 22 [])
def hoardref4_List_place (l0 : Option Addr) (i1 : Int) (Q : Value → WP) : WP := funJ idJ Try.prog hoardref4_List_place_kp Try.f56 [.pointer l0, .int .i64 i1] Q
theorem hoardref4_List_place_j1_raw (jn : Jn) (Q : Value → WP)  (l0 : Option Addr) (i1 : Int) : codeI Try.prog hoardref4_List_place_kp jn (cAt [true, true] (bodyOf Try.f56)) (retK Try.prog Try.f56 Q) noX (retK Try.prog Try.f56 Q) ((.pointer l0) :: (.int .i64 i1) :: us 22 []) = (
  nilck l0 fun b_4 o_5 =>
  ld .slc b_4 o_5 fun x_6 =>
  idx x_6.a x_6.n i1 fun b_7 o_8 =>
  ld (.int .i64) b_7 (o_8 + (i1).toNat * 2) fun x_9 =>
  Q (.int .i64 x_9)) := by kernel_rfl
theorem hoardref4_List_place_j1_def (Q : Value → WP)  (l0 : Option Addr) (i1 : Int) : hoardref4_List_place_j1 idJ Q  l0 i1 = codeI Try.prog hoardref4_List_place_kp idJ (cAt [true, true] (bodyOf Try.f56)) (retK Try.prog Try.f56 Q) noX (retK Try.prog Try.f56 Q) ((.pointer l0) :: (.int .i64 i1) :: us 22 []) := by kernel_rfl
theorem hoardref4_List_place_raw (jn : Jn) (l0 : Option Addr) (i1 : Int) (Q : Value → WP) : funJ jn Try.prog hoardref4_List_place_kp Try.f56 [.pointer l0, .int .i64 i1] Q = (
  ite2 (decide (i1 < (0 : Int))) (
  Q (.int .i64 (0 : Int))) (
  nilck l0 fun b_1 o_2 =>
  ld .slc b_1 o_2 fun x_3 =>
  ite2 (decide (i1 ≥ (x_3.n : Int))) (
  Q (.int .i64 (0 : Int))) (
  hoardref4_List_place_j1 jn Q  l0 i1))) := by kernel_rfl
theorem hoardref4_List_place_def (l0 : Option Addr) (i1 : Int) (Q : Value → WP) : hoardref4_List_place l0 i1 Q = funJ idJ Try.prog hoardref4_List_place_kp Try.f56 [.pointer l0, .int .i64 i1] Q := rfl
theorem hoardref4_List_place_calls {l0 : Option Addr} {i1 : Int} {Q : Value → WP} {w : World} (h : hoardref4_List_place l0 i1 Q w) : Calls Try.prog id_hoardref4_List_place #[.pointer l0, .int .i64 i1] w fun e w' => ∃ v, e = .returned v ∧ Q v w' :=
  funJ_calls mixed Try.func56 rfl h

-- (*hoard/hoardref4.List).handle
def hoardref4_List_handle_kp : KP := ⟨[], [(4, [0, 1, 2, 3, 4, 5, 6, 8, 9, 10, 12]), (5, [0, 2, 3, 4, 5, 6, 7, 8, 9, 10, 11, 12, 14, 15])]⟩
def hoardref4_List_handle (l0 : Option Addr) (Q : Value → WP) : WP := funJ idJ Try.prog hoardref4_List_handle_kp Try.f57 [.pointer l0] Q
theorem hoardref4_List_handle_raw (jn : Jn) (l0 : Option Addr) (Q : Value → WP) : funJ jn Try.prog hoardref4_List_handle_kp Try.f57 [.pointer l0] Q = (
  nilck l0 fun b_1 o_2 =>
  ld .slc b_1 (o_2 + 1) fun x_3 =>
  ite2 ((x_3.n : Int) == (0 : Int)) (
  nilck l0 fun b_4 o_5 =>
  ld (.int .i64) b_4 (o_5 + 2) fun x_6 =>
  nilck l0 fun b_7 o_8 =>
  st b_7 (o_8 + 2) (.int .i64 (IntKind.wrap .i64 (x_6 + (1 : Int)))) <|
  nilck l0 fun b_9 o_10 =>
  ld (.int .i64) b_9 (o_10 + 2) fun x_11 =>
  Q (.int .i64 x_11)) (
  drawW fun S =>
  nilck l0 fun b_12 o_13 =>
  ldS S .slc b_12 (o_13 + 1) fun x_14 =>
  nilck l0 fun b_15 o_16 =>
  ld .slc b_15 (o_16 + 1) fun x_17 =>
  keepS true S <|
  idx x_14.a x_14.n (IntKind.wrap .i64 ((x_17.n : Int) - (1 : Int))) fun b_18 o_19 =>
  ld (.int .i64) b_18 (o_19 + ((IntKind.wrap .i64 ((x_17.n : Int) - (1 : Int)))).toNat * 1) fun x_20 =>
  drawW fun S =>
  nilck l0 fun b_21 o_22 =>
  ldS S .slc b_21 (o_22 + 1) fun x_23 =>
  nilck l0 fun b_24 o_25 =>
  ldS S .slc b_24 (o_25 + 1) fun x_26 =>
  when ((0 : Int) ≤ (IntKind.wrap .i64 ((x_26.n : Int) - (1 : Int))) ∧ (IntKind.wrap .i64 ((x_26.n : Int) - (1 : Int))) ≤ (x_23.c : Int)) <|
  newB [] ty_int fun b_27 =>
  keepS true S <|
  appendC ty_int 1 8 [.int .i64 (0 : Int)] ⟨(some ⟨b_27, 0, none⟩), 0, 0⟩ (((IntKind.wrap .i64 ((x_26.n : Int) - (1 : Int)))).toNat - 0) (fun w => rdA w (subA x_23.a 0 x_23.c 1) ((((IntKind.wrap .i64 ((x_26.n : Int) - (1 : Int)))).toNat - 0) * 1)) fun s_28 =>
  nilck l0 fun b_29 o_30 =>
  st b_29 (o_30 + 1) (.slice s_28.a s_28.n s_28.c) <|
  Q (.int .i64 x_20))) := by kernel_rfl
theorem hoardref4_List_handle_def (l0 : Option Addr) (Q : Value → WP) : hoardref4_List_handle l0 Q = funJ idJ Try.prog hoardref4_List_handle_kp Try.f57 [.pointer l0] Q := rfl
theorem hoardref4_List_handle_calls {l0 : Option Addr} {Q : Value → WP} {w : World} (h : hoardref4_List_handle l0 Q w) : Calls Try.prog id_hoardref4_List_handle #[.pointer l0] w fun e w' => ∃ v, e = .returned v ∧ Q v w' :=
  funJ_calls mixed Try.func57 rfl h

-- (*hoard/hoardref4.List).at
def hoardref4_List_at_kp : KP := ⟨[(7, [0, 1, 5]), (14, [])], []⟩
def hoardref4_List_at_j2 (jn : Jn) (Q : Value → WP)   : WP := jn 14 (fun ρ => codeI Try.prog hoardref4_List_at_kp jn (cAt [true, true] (bodyOf Try.f58)) (retK Try.prog Try.f58 Q) noX (retK Try.prog Try.f58 Q) ρ) (us 26 [])
def hoardref4_List_at_l1 (jn : Jn) (Q : Value → WP)  (m1 : Nat) (l0 : Option Addr) (h1 : Int) (i5 : Int) : WP := lop Try.prog hoardref4_List_at_kp jn (cAt [true, false, true, false, false] (bodyOf Try.f58)) (blkX 0 (seqK Try.prog hoardref4_List_at_kp jn (cAt [true, true] (bodyOf Try.f58)) (retK Try.prog Try.f58 Q) noX (retK Try.prog Try.f58 Q)) noX) (retK Try.prog Try.f58 Q) m1 ((.pointer l0) :: (.int .i64 h1) :: us 3 ((.int .i64 i5) :: us 20 []))
def hoardref4_List_at (l0 : Option Addr) (h1 : Int) (Q : Value → WP) : WP := funJ idJ Try.prog hoardref4_List_at_kp Try.f58 [.pointer l0, .int .i64 h1] Q
theorem hoardref4_List_at_j2_raw (jn : Jn) (Q : Value → WP)   : codeI Try.prog hoardref4_List_at_kp jn (cAt [true, true] (bodyOf Try.f58)) (retK Try.prog Try.f58 Q) noX (retK Try.prog Try.f58 Q) (us 26 []) = (
  Q (.int .i64 (-1 : Int))) := by kernel_rfl
theorem hoardref4_List_at_j2_def (Q : Value → WP)   : hoardref4_List_at_j2 idJ Q   = codeI Try.prog hoardref4_List_at_kp idJ (cAt [true, true] (bodyOf Try.f58)) (retK Try.prog Try.f58 Q) noX (retK Try.prog Try.f58 Q) (us 26 []) := by kernel_rfl
theorem hoardref4_List_at_l1_raw (jn : Jn) (Q : Value → WP)  (m1 : Nat) (l0 : Option Addr) (h1 : Int) (i5 : Int) : hoardref4_List_at_l1 jn Q  (m1 + 1) l0 h1 i5 = (
  nilck l0 fun b_1 o_2 =>
  ld .slc b_1 o_2 fun x_3 =>
  ite2 (decide (i5 < (x_3.n : Int))) (
  nilck l0 fun b_4 o_5 =>
  ld .slc b_4 o_5 fun x_6 =>
  idx x_6.a x_6.n i5 fun b_7 o_8 =>
  ld (.int .i64) b_7 (o_8 + (i5).toNat * 2) fun x_9 =>
  ite2 (x_9 == h1) (
  Q (.int .i64 i5)) (
  hoardref4_List_at_l1 jn Q  m1 l0 h1 (IntKind.wrap .i64 (i5 + (1 : Int))))) (
  hoardref4_List_at_j2 jn Q  )) := by kernel_rfl
theorem hoardref4_List_at_l1_zero (jn : Jn) (Q : Value → WP)  (l0 : Option Addr) (h1 : Int) (i5 : Int) : hoardref4_List_at_l1 jn Q  0 l0 h1 i5 = bot := by kernel_rfl
theorem hoardref4_List_at_raw (jn : Jn) (l0 : Option Addr) (h1 : Int) (Q : Value → WP) : funJ jn Try.prog hoardref4_List_at_kp Try.f58 [.pointer l0, .int .i64 h1] Q = (
  exM fun m => hoardref4_List_at_l1 jn Q  m l0 h1 (0 : Int)) := by kernel_rfl
theorem hoardref4_List_at_def (l0 : Option Addr) (h1 : Int) (Q : Value → WP) : hoardref4_List_at l0 h1 Q = funJ idJ Try.prog hoardref4_List_at_kp Try.f58 [.pointer l0, .int .i64 h1] Q := rfl
theorem hoardref4_List_at_calls {l0 : Option Addr} {h1 : Int} {Q : Value → WP} {w : World} (h : hoardref4_List_at l0 h1 Q w) : Calls Try.prog id_hoardref4_List_at #[.pointer l0, .int .i64 h1] w fun e w' => ∃ v, e = .returned v ∧ Q v w' :=
  funJ_calls mixed Try.func58 rfl h

-- (*hoard/hoardref4.List).out
def hoardref4_List_out_kp : KP := ⟨[], [(2, [0, 2, 3, 4, 5, 6, 7, 9, 10, 11, 12, 13, 14, 15, 17, 18])]⟩
def hoardref4_List_out (l0 : Option Addr) (i1 : Int) (Q : Value → WP) : WP := funJ idJ Try.prog hoardref4_List_out_kp Try.f59 [.pointer l0, .int .i64 i1] Q
theorem hoardref4_List_out_raw (jn : Jn) (l0 : Option Addr) (i1 : Int) (Q : Value → WP) : funJ jn Try.prog hoardref4_List_out_kp Try.f59 [.pointer l0, .int .i64 i1] Q = (
  newB [.int .i64 (0 : Int), .string str_empty] ty_hoardref4_cell fun b_1 =>
  nilck l0 fun b_2 o_3 =>
  ld .slc b_2 o_3 fun x_4 =>
  idx x_4.a x_4.n i1 fun b_5 o_6 =>
  ld (.int .i64) b_5 (o_6 + (i1).toNat * 2) fun x_7 =>
  ld .str b_5 ((o_6 + (i1).toNat * 2) + 1) fun x_8 =>
  newB [.int .i64 (0 : Int), .string str_empty] ty_hoardref4_cell fun b_9 =>
  st b_9 0 (.int .i64 x_7) <|
  st b_9 1 (.string x_8) <|
  drawW fun S =>
  nilck l0 fun b_10 o_11 =>
  ldS S .slc b_10 o_11 fun x_12 =>
  when ((0 : Int) ≤ i1 ∧ i1 ≤ (x_12.c : Int)) <|
  nilck l0 fun b_13 o_14 =>
  ldS S .slc b_13 o_14 fun x_15 =>
  when ((0 : Int) ≤ (IntKind.wrap .i64 (i1 + (1 : Int))) ∧ (IntKind.wrap .i64 (i1 + (1 : Int))) ≤ (x_15.n : Int)) <|
  newB [] ty_hoardref4_cell fun b_16 =>
  keepS true S <|
  appendC ty_hoardref4_cell 2 24 [.int .i64 (0 : Int), .string str_empty] ⟨(some ⟨b_16, 0, none⟩), 0, 0⟩ ((i1).toNat - 0) (fun w => rdA w (subA x_12.a 0 x_12.c 2) (((i1).toNat - 0) * 2)) fun s_17 =>
  keepS true S <|
  appendC ty_hoardref4_cell 2 24 [.int .i64 (0 : Int), .string str_empty] ⟨s_17.a, s_17.n, s_17.c⟩ (x_15.n - ((IntKind.wrap .i64 (i1 + (1 : Int)))).toNat) (fun w => rdA w (subA x_15.a (((IntKind.wrap .i64 (i1 + (1 : Int)))).toNat) x_15.c 2) ((x_15.n - ((IntKind.wrap .i64 (i1 + (1 : Int)))).toNat) * 2)) fun s_18 =>
  nilck l0 fun b_19 o_20 =>
  st b_19 o_20 (.slice s_18.a s_18.n s_18.c) <|
  ld (.int .i64) b_9 0 fun x_21 =>
  ld .str b_9 1 fun x_22 =>
  st b_1 0 (.int .i64 x_21) <|
  st b_1 1 (.string x_22) <|
  ld (.int .i64) b_1 0 fun x_23 =>
  ld .str b_1 1 fun x_24 =>
  Q (.agg #[.int .i64 x_23, .string x_24])) := by kernel_rfl
theorem hoardref4_List_out_def (l0 : Option Addr) (i1 : Int) (Q : Value → WP) : hoardref4_List_out l0 i1 Q = funJ idJ Try.prog hoardref4_List_out_kp Try.f59 [.pointer l0, .int .i64 i1] Q := rfl
theorem hoardref4_List_out_calls {l0 : Option Addr} {i1 : Int} {Q : Value → WP} {w : World} (h : hoardref4_List_out l0 i1 Q w) : Calls Try.prog id_hoardref4_List_out #[.pointer l0, .int .i64 i1] w fun e w' => ∃ v, e = .returned v ∧ Q v w' :=
  funJ_calls mixed Try.func59 rfl h

end Go.Proofs.Ytadljdjlemfdjaa
