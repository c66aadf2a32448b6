/- Printed by a program of mine (wip/tools/shal.py): the shallow texts of the loaded functions, each equal to the interpreter's reading by the kernel. -/
import Derived.Test.YtldohdiphcnjgaaSound7
import Derived.Test.YtldohdiphcnjgaaChecked
import Derived.KernelRfl
set_option linter.unusedVariables false
namespace Go.Proofs.Ytldohdiphcnjgaa
open Go.Hb

theorem mixed : Try.prog.follows .mixedOrders = true := by kernel_rfl
abbrev ty_int : TypeId := 3
abbrev ty_string : TypeId := 9
abbrev ty_hoardref16_Ghost : TypeId := 41
abbrev ty_ghost_Ghost : TypeId := 50
abbrev ty_list_List_string : TypeId := 59
abbrev ty_index_Index_int : TypeId := 62
abbrev ty_index_place_int : TypeId := 64
abbrev ty_list_link_string : TypeId := 68
abbrev id_hoardlaw16_GhostLast : FuncId := 3
abbrev id_hoardlaw16_GhostOwn : FuncId := 4
abbrev id_hoardlaw16_GhostPlays : FuncId := 5
abbrev id_hoardlaw16_GhostOfNothing : FuncId := 6
abbrev id_ghost_New : FuncId := 7
abbrev id_ghost_Ghost_Add : FuncId := 8
abbrev id_hoardlaw16_texts : FuncId := 9
abbrev id_ghost_Ghost_Keys : FuncId := 10
abbrev id_hoardlaw16_known : FuncId := 11
abbrev id_ghost_Ghost_Has : FuncId := 12
abbrev id_ghost_Ghost_Take : FuncId := 13
abbrev id_hoardlaw16_heavy : FuncId := 14
abbrev id_hoardref16_New : FuncId := 15
abbrev id_hoardref16_Ghost_Add : FuncId := 16
abbrev id_hoardref16_Ghost_Take : FuncId := 17
abbrev id_hoardref16_Ghost_Has : FuncId := 18
abbrev id_ghost_Ghost_Len : FuncId := 19
abbrev id_fix_Clamp : FuncId := 20
abbrev id_list_New_string : FuncId := 21
abbrev id_index_New_int : FuncId := 22
abbrev id_index_Index_int_Put : FuncId := 23
abbrev id_list_List_string_PushBack : FuncId := 24
abbrev id_list_List_string_Len : FuncId := 25
abbrev id_list_List_string_Get : FuncId := 26
abbrev id_list_List_string_Front : FuncId := 27
abbrev id_list_List_string_All : FuncId := 28
abbrev id_index_Index_int_Get : FuncId := 29
abbrev id_index_Index_int_Delete : FuncId := 30
abbrev id_list_List_string_Remove : FuncId := 31
abbrev id_index_Index_int_find : FuncId := 32
abbrev id_index_Index_int_lays : FuncId := 33
abbrev id_index_Index_int_grows : FuncId := 34
abbrev id_list_List_string_take : FuncId := 35
abbrev id_list_List_string_lays : FuncId := 36
abbrev id_list_List_string_has : FuncId := 37
abbrev id_list_List_string_Next : FuncId := 38
abbrev id_list_List_string_lifts : FuncId := 39
abbrev id_mix_Place : FuncId := 40
abbrev id_mix_Hash : FuncId := 41
abbrev id_mix_Mix : FuncId := 42
def str_a : ByteArray := ⟨#[97]⟩
def str_b : ByteArray := ⟨#[98]⟩
def str_c : ByteArray := ⟨#[99]⟩
def str_empty : ByteArray := ⟨#[]⟩
def str_spoilt : ByteArray := ⟨#[115, 112, 111, 105, 108, 116]⟩

-- hoard/hoardlaw16.GhostLast
def hoardlaw16_GhostLast_kp : KP := ⟨[(8, [0, 1]), (17, [0, 1, 5, 6]), (26, [0, 1, 5]), (31, [0, 1, 5, 7, 8]), (32, [0, 1, 5, 7, 8]), (34, [0, 1, 5, 7, 8]), (39, [0, 1, 5, 7, 8, 9, 10]), (44, [0, 1, 5, 7, 8, 9]), (48, [5, 7])], [(20, [0, 1, 2, 3, 4, 5, 6, 7, 8, 10, 11, 12])]⟩
def hoardlaw16_GhostLast_j8 (jn : Jn) (Q : Value → WP) (m4 : Nat) (room0 : Int) (l1 : Sl) (g5 : Option Addr) (want7 : Sl) (i8 : Int) : WP := jn 32 (fun ρ => codeI Try.prog hoardlaw16_GhostLast_kp jn (cAt [true, true, true, true, true, true, false, true, false, false, true, true] (bodyOf Try.f3)) (lopK Try.prog hoardlaw16_GhostLast_kp jn (cAt [true, true, true, true, true, true, false, true, false, false] (bodyOf Try.f3)) (blkX 2 (seqK Try.prog hoardlaw16_GhostLast_kp jn (cAt [true, true, true, true, true, true, true] (bodyOf Try.f3)) (retK Try.prog Try.f3 Q) noX (retK Try.prog Try.f3 Q)) noX) (retK Try.prog Try.f3 Q) m4) (blkX 2 (seqK Try.prog hoardlaw16_GhostLast_kp jn (cAt [true, true, true, true, true, true, true] (bodyOf Try.f3)) (retK Try.prog Try.f3 Q) noX (retK Try.prog Try.f3 Q)) noX) (retK Try.prog Try.f3 Q) ρ) ((.int .i64 room0) :: (.slice l1.a l1.n l1.c) :: us 3 ((.pointer g5) :: us 1 ((.slice want7.a want7.n want7.c) :: (.int .i64 i8) :: us 82 [])))
def hoardlaw16_GhostLast_j7 (jn : Jn) (Q : Value → WP) (m4 : Nat) (room0 : Int) (l1 : Sl) (g5 : Option Addr) (want7 : Sl) (i8 : Int) (there9 : Bool) : WP := jn 44 (fun ρ => codeI Try.prog hoardlaw16_GhostLast_kp jn (cAt [true, true, true, true, true, true, false, true, false, false, true, false, false, true, true] (bodyOf Try.f3)) (seqK Try.prog hoardlaw16_GhostLast_kp jn (cAt [true, true, true, true, true, true, false, true, false, false, true, true] (bodyOf Try.f3)) (lopK Try.prog hoardlaw16_GhostLast_kp jn (cAt [true, true, true, true, true, true, false, true, false, false] (bodyOf Try.f3)) (blkX 2 (seqK Try.prog hoardlaw16_GhostLast_kp jn (cAt [true, true, true, true, true, true, true] (bodyOf Try.f3)) (retK Try.prog Try.f3 Q) noX (retK Try.prog Try.f3 Q)) noX) (retK Try.prog Try.f3 Q) m4) (blkX 2 (seqK Try.prog hoardlaw16_GhostLast_kp jn (cAt [true, true, true, true, true, true, true] (bodyOf Try.f3)) (retK Try.prog Try.f3 Q) noX (retK Try.prog Try.f3 Q)) noX) (retK Try.prog Try.f3 Q)) (blkX 3 (seqK Try.prog hoardlaw16_GhostLast_kp jn (cAt [true, true, true, true, true, true, false, true, false, false, true, true] (bodyOf Try.f3)) (lopK Try.prog hoardlaw16_GhostLast_kp jn (cAt [true, true, true, true, true, true, false, true, false, false] (bodyOf Try.f3)) (blkX 2 (seqK Try.prog hoardlaw16_GhostLast_kp jn (cAt [true, true, true, true, true, true, true] (bodyOf Try.f3)) (retK Try.prog Try.f3 Q) noX (retK Try.prog Try.f3 Q)) noX) (retK Try.prog Try.f3 Q) m4) (blkX 2 (seqK Try.prog hoardlaw16_GhostLast_kp jn (cAt [true, true, true, true, true, true, true] (bodyOf Try.f3)) (retK Try.prog Try.f3 Q) noX (retK Try.prog Try.f3 Q)) noX) (retK Try.prog Try.f3 Q)) (blkX 2 (seqK Try.prog hoardlaw16_GhostLast_kp jn (cAt [true, true, true, true, true, true, true] (bodyOf Try.f3)) (retK Try.prog Try.f3 Q) noX (retK Try.prog Try.f3 Q)) noX)) (retK Try.prog Try.f3 Q) ρ) ((.int .i64 room0) :: (.slice l1.a l1.n l1.c) :: us 3 ((.pointer g5) :: us 1 ((.slice want7.a want7.n want7.c) :: (.int .i64 i8) :: (.bool there9) :: us 81 [])))
def hoardlaw16_GhostLast_l6 (jn : Jn) (Q : Value → WP) (m4 : Nat) (m6 : Nat) (room0 : Int) (l1 : Sl) (g5 : Option Addr) (want7 : Sl) (i8 : Int) (there9 : Bool) (k10 : Int) : WP := lop Try.prog hoardlaw16_GhostLast_kp jn (cAt [true, true, true, true, true, true, false, true, false, false, true, false, false, true, false, true, false, false] (bodyOf Try.f3)) (blkX 4 (seqK Try.prog hoardlaw16_GhostLast_kp jn (cAt [true, true, true, true, true, true, false, true, false, false, true, false, false, true, true] (bodyOf Try.f3)) (seqK Try.prog hoardlaw16_GhostLast_kp jn (cAt [true, true, true, true, true, true, false, true, false, false, true, true] (bodyOf Try.f3)) (lopK Try.prog hoardlaw16_GhostLast_kp jn (cAt [true, true, true, true, true, true, false, true, false, false] (bodyOf Try.f3)) (blkX 2 (seqK Try.prog hoardlaw16_GhostLast_kp jn (cAt [true, true, true, true, true, true, true] (bodyOf Try.f3)) (retK Try.prog Try.f3 Q) noX (retK Try.prog Try.f3 Q)) noX) (retK Try.prog Try.f3 Q) m4) (blkX 2 (seqK Try.prog hoardlaw16_GhostLast_kp jn (cAt [true, true, true, true, true, true, true] (bodyOf Try.f3)) (retK Try.prog Try.f3 Q) noX (retK Try.prog Try.f3 Q)) noX) (retK Try.prog Try.f3 Q)) (blkX 3 (seqK Try.prog hoardlaw16_GhostLast_kp jn (cAt [true, true, true, true, true, true, false, true, false, false, true, true] (bodyOf Try.f3)) (lopK Try.prog hoardlaw16_GhostLast_kp jn (cAt [true, true, true, true, true, true, false, true, false, false] (bodyOf Try.f3)) (blkX 2 (seqK Try.prog hoardlaw16_GhostLast_kp jn (cAt [true, true, true, true, true, true, true] (bodyOf Try.f3)) (retK Try.prog Try.f3 Q) noX (retK Try.prog Try.f3 Q)) noX) (retK Try.prog Try.f3 Q) m4) (blkX 2 (seqK Try.prog hoardlaw16_GhostLast_kp jn (cAt [true, true, true, true, true, true, true] (bodyOf Try.f3)) (retK Try.prog Try.f3 Q) noX (retK Try.prog Try.f3 Q)) noX) (retK Try.prog Try.f3 Q)) (blkX 2 (seqK Try.prog hoardlaw16_GhostLast_kp jn (cAt [true, true, true, true, true, true, true] (bodyOf Try.f3)) (retK Try.prog Try.f3 Q) noX (retK Try.prog Try.f3 Q)) noX)) (retK Try.prog Try.f3 Q)) (blkX 3 (seqK Try.prog hoardlaw16_GhostLast_kp jn (cAt [true, true, true, true, true, true, false, true, false, false, true, true] (bodyOf Try.f3)) (lopK Try.prog hoardlaw16_GhostLast_kp jn (cAt [true, true, true, true, true, true, false, true, false, false] (bodyOf Try.f3)) (blkX 2 (seqK Try.prog hoardlaw16_GhostLast_kp jn (cAt [true, true, true, true, true, true, true] (bodyOf Try.f3)) (retK Try.prog Try.f3 Q) noX (retK Try.prog Try.f3 Q)) noX) (retK Try.prog Try.f3 Q) m4) (blkX 2 (seqK Try.prog hoardlaw16_GhostLast_kp jn (cAt [true, true, true, true, true, true, true] (bodyOf Try.f3)) (retK Try.prog Try.f3 Q) noX (retK Try.prog Try.f3 Q)) noX) (retK Try.prog Try.f3 Q)) (blkX 2 (seqK Try.prog hoardlaw16_GhostLast_kp jn (cAt [true, true, true, true, true, true, true] (bodyOf Try.f3)) (retK Try.prog Try.f3 Q) noX (retK Try.prog Try.f3 Q)) noX))) (retK Try.prog Try.f3 Q) m6 ((.int .i64 room0) :: (.slice l1.a l1.n l1.c) :: us 3 ((.pointer g5) :: us 1 ((.slice want7.a want7.n want7.c) :: (.int .i64 i8) :: (.bool there9) :: (.int .i64 k10) :: us 80 [])))
def hoardlaw16_GhostLast_j5 (jn : Jn) (Q : Value → WP) (m4 : Nat) (room0 : Int) (l1 : Sl) (g5 : Option Addr) (want7 : Sl) (i8 : Int) : WP := jn 34 (fun ρ => codeI Try.prog hoardlaw16_GhostLast_kp jn (cAt [true, true, true, true, true, true, false, true, false, false, true] (bodyOf Try.f3)) (lopK Try.prog hoardlaw16_GhostLast_kp jn (cAt [true, true, true, true, true, true, false, true, false, false] (bodyOf Try.f3)) (blkX 2 (seqK Try.prog hoardlaw16_GhostLast_kp jn (cAt [true, true, true, true, true, true, true] (bodyOf Try.f3)) (retK Try.prog Try.f3 Q) noX (retK Try.prog Try.f3 Q)) noX) (retK Try.prog Try.f3 Q) m4) (blkX 2 (seqK Try.prog hoardlaw16_GhostLast_kp jn (cAt [true, true, true, true, true, true, true] (bodyOf Try.f3)) (retK Try.prog Try.f3 Q) noX (retK Try.prog Try.f3 Q)) noX) (retK Try.prog Try.f3 Q) ρ) ((.int .i64 room0) :: (.slice l1.a l1.n l1.c) :: us 3 ((.pointer g5) :: us 1 ((.slice want7.a want7.n want7.c) :: (.int .i64 i8) :: us 82 [])))
def hoardlaw16_GhostLast_j9 (jn : Jn) (Q : Value → WP)  (g5 : Option Addr) (want7 : Sl) : WP := jn 48 (fun ρ => codeI Try.prog hoardlaw16_GhostLast_kp jn (cAt [true, true, true, true, true, true, true] (bodyOf Try.f3)) (retK Try.prog Try.f3 Q) noX (retK Try.prog Try.f3 Q) ρ) (us 5 ((.pointer g5) :: us 1 ((.slice want7.a want7.n want7.c) :: us 83 [])))
def hoardlaw16_GhostLast_l4 (jn : Jn) (Q : Value → WP)  (m4 : Nat) (room0 : Int) (l1 : Sl) (g5 : Option Addr) (want7 : Sl) (i8 : Int) : WP := lop Try.prog hoardlaw16_GhostLast_kp jn (cAt [true, true, true, true, true, true, false, true, false, false] (bodyOf Try.f3)) (blkX 2 (seqK Try.prog hoardlaw16_GhostLast_kp jn (cAt [true, true, true, true, true, true, true] (bodyOf Try.f3)) (retK Try.prog Try.f3 Q) noX (retK Try.prog Try.f3 Q)) noX) (retK Try.prog Try.f3 Q) m4 ((.int .i64 room0) :: (.slice l1.a l1.n l1.c) :: us 3 ((.pointer g5) :: us 1 ((.slice want7.a want7.n want7.c) :: (.int .i64 i8) :: us 82 [])))
def hoardlaw16_GhostLast_j3 (jn : Jn) (Q : Value → WP)  (room0 : Int) (l1 : Sl) (g5 : Option Addr) : WP := jn 26 (fun ρ => codeI Try.prog hoardlaw16_GhostLast_kp jn (cAt [true, true, true, true, true] (bodyOf Try.f3)) (retK Try.prog Try.f3 Q) noX (retK Try.prog Try.f3 Q) ρ) ((.int .i64 room0) :: (.slice l1.a l1.n l1.c) :: us 3 ((.pointer g5) :: us 85 []))
def hoardlaw16_GhostLast_l2 (jn : Jn) (Q : Value → WP)  (m2 : Nat) (room0 : Int) (l1 : Sl) (g5 : Option Addr) (i6 : Int) : WP := lop Try.prog hoardlaw16_GhostLast_kp jn (cAt [true, true, true, true, false, true, false, false] (bodyOf Try.f3)) (blkX 0 (seqK Try.prog hoardlaw16_GhostLast_kp jn (cAt [true, true, true, true, true] (bodyOf Try.f3)) (retK Try.prog Try.f3 Q) noX (retK Try.prog Try.f3 Q)) noX) (retK Try.prog Try.f3 Q) m2 ((.int .i64 room0) :: (.slice l1.a l1.n l1.c) :: us 3 ((.pointer g5) :: (.int .i64 i6) :: us 84 []))
def hoardlaw16_GhostLast_j1 (jn : Jn) (Q : Value → WP)  (room0 : Int) (l1 : Sl) : WP := jn 8 (fun ρ => codeI Try.prog hoardlaw16_GhostLast_kp jn (cAt [true, true] (bodyOf Try.f3)) (retK Try.prog Try.f3 Q) noX (retK Try.prog Try.f3 Q) ρ) ((.int .i64 room0) :: (.slice l1.a l1.n l1.c) :: us 89 [])
def hoardlaw16_GhostLast (room0 : Int) (l1 : Sl) (Q : Value → WP) : WP := funJ idJ Try.prog hoardlaw16_GhostLast_kp Try.f3 [.int .i64 room0, .slice l1.a l1.n l1.c] Q
theorem hoardlaw16_GhostLast_j8_raw (jn : Jn) (Q : Value → WP) (m4 : Nat) (room0 : Int) (l1 : Sl) (g5 : Option Addr) (want7 : Sl) (i8 : Int) : codeI Try.prog hoardlaw16_GhostLast_kp jn (cAt [true, true, true, true, true, true, false, true, false, false, true, true] (bodyOf Try.f3)) (lopK Try.prog hoardlaw16_GhostLast_kp jn (cAt [true, true, true, true, true, true, false, true, false, false] (bodyOf Try.f3)) (blkX 2 (seqK Try.prog hoardlaw16_GhostLast_kp jn (cAt [true, true, true, true, true, true, true] (bodyOf Try.f3)) (retK Try.prog Try.f3 Q) noX (retK Try.prog Try.f3 Q)) noX) (retK Try.prog Try.f3 Q) m4) (blkX 2 (seqK Try.prog hoardlaw16_GhostLast_kp jn (cAt [true, true, true, true, true, true, true] (bodyOf Try.f3)) (retK Try.prog Try.f3 Q) noX (retK Try.prog Try.f3 Q)) noX) (retK Try.prog Try.f3 Q) ((.int .i64 room0) :: (.slice l1.a l1.n l1.c) :: us 3 ((.pointer g5) :: us 1 ((.slice want7.a want7.n want7.c) :: (.int .i64 i8) :: us 82 []))) = (
  hoardlaw16_GhostLast_l4 jn Q  m4 room0 l1 g5 want7 (IntKind.wrap .i64 (i8 - (1 : Int)))) := by kernel_rfl
theorem hoardlaw16_GhostLast_j8_def (Q : Value → WP) (m4 : Nat) (room0 : Int) (l1 : Sl) (g5 : Option Addr) (want7 : Sl) (i8 : Int) : hoardlaw16_GhostLast_j8 idJ Q m4 room0 l1 g5 want7 i8 = codeI Try.prog hoardlaw16_GhostLast_kp idJ (cAt [true, true, true, true, true, true, false, true, false, false, true, true] (bodyOf Try.f3)) (lopK Try.prog hoardlaw16_GhostLast_kp idJ (cAt [true, true, true, true, true, true, false, true, false, false] (bodyOf Try.f3)) (blkX 2 (seqK Try.prog hoardlaw16_GhostLast_kp idJ (cAt [true, true, true, true, true, true, true] (bodyOf Try.f3)) (retK Try.prog Try.f3 Q) noX (retK Try.prog Try.f3 Q)) noX) (retK Try.prog Try.f3 Q) m4) (blkX 2 (seqK Try.prog hoardlaw16_GhostLast_kp idJ (cAt [true, true, true, true, true, true, true] (bodyOf Try.f3)) (retK Try.prog Try.f3 Q) noX (retK Try.prog Try.f3 Q)) noX) (retK Try.prog Try.f3 Q) ((.int .i64 room0) :: (.slice l1.a l1.n l1.c) :: us 3 ((.pointer g5) :: us 1 ((.slice want7.a want7.n want7.c) :: (.int .i64 i8) :: us 82 []))) := by kernel_rfl
theorem hoardlaw16_GhostLast_j7_raw (jn : Jn) (Q : Value → WP) (m4 : Nat) (room0 : Int) (l1 : Sl) (g5 : Option Addr) (want7 : Sl) (i8 : Int) (there9 : Bool) : codeI Try.prog hoardlaw16_GhostLast_kp jn (cAt [true, true, true, true, true, true, false, true, false, false, true, false, false, true, true] (bodyOf Try.f3)) (seqK Try.prog hoardlaw16_GhostLast_kp jn (cAt [true, true, true, true, true, true, false, true, false, false, true, true] (bodyOf Try.f3)) (lopK Try.prog hoardlaw16_GhostLast_kp jn (cAt [true, true, true, true, true, true, false, true, false, false] (bodyOf Try.f3)) (blkX 2 (seqK Try.prog hoardlaw16_GhostLast_kp jn (cAt [true, true, true, true, true, true, true] (bodyOf Try.f3)) (retK Try.prog Try.f3 Q) noX (retK Try.prog Try.f3 Q)) noX) (retK Try.prog Try.f3 Q) m4) (blkX 2 (seqK Try.prog hoardlaw16_GhostLast_kp jn (cAt [true, true, true, true, true, true, true] (bodyOf Try.f3)) (retK Try.prog Try.f3 Q) noX (retK Try.prog Try.f3 Q)) noX) (retK Try.prog Try.f3 Q)) (blkX 3 (seqK Try.prog hoardlaw16_GhostLast_kp jn (cAt [true, true, true, true, true, true, false, true, false, false, true, true] (bodyOf Try.f3)) (lopK Try.prog hoardlaw16_GhostLast_kp jn (cAt [true, true, true, true, true, true, false, true, false, false] (bodyOf Try.f3)) (blkX 2 (seqK Try.prog hoardlaw16_GhostLast_kp jn (cAt [true, true, true, true, true, true, true] (bodyOf Try.f3)) (retK Try.prog Try.f3 Q) noX (retK Try.prog Try.f3 Q)) noX) (retK Try.prog Try.f3 Q) m4) (blkX 2 (seqK Try.prog hoardlaw16_GhostLast_kp jn (cAt [true, true, true, true, true, true, true] (bodyOf Try.f3)) (retK Try.prog Try.f3 Q) noX (retK Try.prog Try.f3 Q)) noX) (retK Try.prog Try.f3 Q)) (blkX 2 (seqK Try.prog hoardlaw16_GhostLast_kp jn (cAt [true, true, true, true, true, true, true] (bodyOf Try.f3)) (retK Try.prog Try.f3 Q) noX (retK Try.prog Try.f3 Q)) noX)) (retK Try.prog Try.f3 Q) ((.int .i64 room0) :: (.slice l1.a l1.n l1.c) :: us 3 ((.pointer g5) :: us 1 ((.slice want7.a want7.n want7.c) :: (.int .i64 i8) :: (.bool there9) :: us 81 []))) = (
  ite2 (!there9) (
  idx l1.a l1.n i8 fun b_16 o_17 =>
  ld .str b_16 (o_17 + (i8).toNat * 1) fun (x_18 : ByteArray) =>
  newB [.string x_18] ty_string fun b_19 =>
  appendC ty_string 1 16 [.string str_empty] ⟨(some ⟨b_19, 0, none⟩), 1, 1⟩ want7.n (fun w => rdA w want7.a (want7.n * 1)) fun s_20 =>
  hoardlaw16_GhostLast_j8 jn Q m4 room0 l1 g5 s_20 i8) (
  hoardlaw16_GhostLast_j8 jn Q m4 room0 l1 g5 want7 i8)) := by kernel_rfl
theorem hoardlaw16_GhostLast_j7_def (Q : Value → WP) (m4 : Nat) (room0 : Int) (l1 : Sl) (g5 : Option Addr) (want7 : Sl) (i8 : Int) (there9 : Bool) : hoardlaw16_GhostLast_j7 idJ Q m4 room0 l1 g5 want7 i8 there9 = codeI Try.prog hoardlaw16_GhostLast_kp idJ (cAt [true, true, true, true, true, true, false, true, false, false, true, false, false, true, true] (bodyOf Try.f3)) (seqK Try.prog hoardlaw16_GhostLast_kp idJ (cAt [true, true, true, true, true, true, false, true, false, false, true, true] (bodyOf Try.f3)) (lopK Try.prog hoardlaw16_GhostLast_kp idJ (cAt [true, true, true, true, true, true, false, true, false, false] (bodyOf Try.f3)) (blkX 2 (seqK Try.prog hoardlaw16_GhostLast_kp idJ (cAt [true, true, true, true, true, true, true] (bodyOf Try.f3)) (retK Try.prog Try.f3 Q) noX (retK Try.prog Try.f3 Q)) noX) (retK Try.prog Try.f3 Q) m4) (blkX 2 (seqK Try.prog hoardlaw16_GhostLast_kp idJ (cAt [true, true, true, true, true, true, true] (bodyOf Try.f3)) (retK Try.prog Try.f3 Q) noX (retK Try.prog Try.f3 Q)) noX) (retK Try.prog Try.f3 Q)) (blkX 3 (seqK Try.prog hoardlaw16_GhostLast_kp idJ (cAt [true, true, true, true, true, true, false, true, false, false, true, true] (bodyOf Try.f3)) (lopK Try.prog hoardlaw16_GhostLast_kp idJ (cAt [true, true, true, true, true, true, false, true, false, false] (bodyOf Try.f3)) (blkX 2 (seqK Try.prog hoardlaw16_GhostLast_kp idJ (cAt [true, true, true, true, true, true, true] (bodyOf Try.f3)) (retK Try.prog Try.f3 Q) noX (retK Try.prog Try.f3 Q)) noX) (retK Try.prog Try.f3 Q) m4) (blkX 2 (seqK Try.prog hoardlaw16_GhostLast_kp idJ (cAt [true, true, true, true, true, true, true] (bodyOf Try.f3)) (retK Try.prog Try.f3 Q) noX (retK Try.prog Try.f3 Q)) noX) (retK Try.prog Try.f3 Q)) (blkX 2 (seqK Try.prog hoardlaw16_GhostLast_kp idJ (cAt [true, true, true, true, true, true, true] (bodyOf Try.f3)) (retK Try.prog Try.f3 Q) noX (retK Try.prog Try.f3 Q)) noX)) (retK Try.prog Try.f3 Q) ((.int .i64 room0) :: (.slice l1.a l1.n l1.c) :: us 3 ((.pointer g5) :: us 1 ((.slice want7.a want7.n want7.c) :: (.int .i64 i8) :: (.bool there9) :: us 81 []))) := by kernel_rfl
theorem hoardlaw16_GhostLast_l6_raw (jn : Jn) (Q : Value → WP) (m4 : Nat) (m6 : Nat) (room0 : Int) (l1 : Sl) (g5 : Option Addr) (want7 : Sl) (i8 : Int) (there9 : Bool) (k10 : Int) : hoardlaw16_GhostLast_l6 jn Q m4 (m6 + 1) room0 l1 g5 want7 i8 there9 k10 = (
  ite2 (decide (k10 < (want7.n : Int))) (
  drawW fun S =>
  ite2 there9 (
  keepS true S <|
  hoardlaw16_GhostLast_l6 jn Q m4 m6 room0 l1 g5 want7 i8 true (IntKind.wrap .i64 (k10 + (1 : Int)))) (
  idx want7.a want7.n k10 fun b_10 o_11 =>
  ldS S .str b_10 (o_11 + (k10).toNat * 1) fun (x_12 : ByteArray) =>
  idx l1.a l1.n i8 fun b_13 o_14 =>
  ld .str b_13 (o_14 + (i8).toNat * 1) fun (x_15 : ByteArray) =>
  keepS true S <|
  hoardlaw16_GhostLast_l6 jn Q m4 m6 room0 l1 g5 want7 i8 (sEq x_12 x_15) (IntKind.wrap .i64 (k10 + (1 : Int))))) (
  hoardlaw16_GhostLast_j7 jn Q m4 room0 l1 g5 want7 i8 there9)) := by kernel_rfl
theorem hoardlaw16_GhostLast_l6_zero (jn : Jn) (Q : Value → WP) (m4 : Nat) (room0 : Int) (l1 : Sl) (g5 : Option Addr) (want7 : Sl) (i8 : Int) (there9 : Bool) (k10 : Int) : hoardlaw16_GhostLast_l6 jn Q m4 0 room0 l1 g5 want7 i8 there9 k10 = bot := by kernel_rfl
theorem hoardlaw16_GhostLast_j5_raw (jn : Jn) (Q : Value → WP) (m4 : Nat) (room0 : Int) (l1 : Sl) (g5 : Option Addr) (want7 : Sl) (i8 : Int) : codeI Try.prog hoardlaw16_GhostLast_kp jn (cAt [true, true, true, true, true, true, false, true, false, false, true] (bodyOf Try.f3)) (lopK Try.prog hoardlaw16_GhostLast_kp jn (cAt [true, true, true, true, true, true, false, true, false, false] (bodyOf Try.f3)) (blkX 2 (seqK Try.prog hoardlaw16_GhostLast_kp jn (cAt [true, true, true, true, true, true, true] (bodyOf Try.f3)) (retK Try.prog Try.f3 Q) noX (retK Try.prog Try.f3 Q)) noX) (retK Try.prog Try.f3 Q) m4) (blkX 2 (seqK Try.prog hoardlaw16_GhostLast_kp jn (cAt [true, true, true, true, true, true, true] (bodyOf Try.f3)) (retK Try.prog Try.f3 Q) noX (retK Try.prog Try.f3 Q)) noX) (retK Try.prog Try.f3 Q) ((.int .i64 room0) :: (.slice l1.a l1.n l1.c) :: us 3 ((.pointer g5) :: us 1 ((.slice want7.a want7.n want7.c) :: (.int .i64 i8) :: us 82 []))) = (
  exM fun m => hoardlaw16_GhostLast_l6 jn Q m4 m room0 l1 g5 want7 i8 false (0 : Int)) := by kernel_rfl
theorem hoardlaw16_GhostLast_j5_def (Q : Value → WP) (m4 : Nat) (room0 : Int) (l1 : Sl) (g5 : Option Addr) (want7 : Sl) (i8 : Int) : hoardlaw16_GhostLast_j5 idJ Q m4 room0 l1 g5 want7 i8 = codeI Try.prog hoardlaw16_GhostLast_kp idJ (cAt [true, true, true, true, true, true, false, true, false, false, true] (bodyOf Try.f3)) (lopK Try.prog hoardlaw16_GhostLast_kp idJ (cAt [true, true, true, true, true, true, false, true, false, false] (bodyOf Try.f3)) (blkX 2 (seqK Try.prog hoardlaw16_GhostLast_kp idJ (cAt [true, true, true, true, true, true, true] (bodyOf Try.f3)) (retK Try.prog Try.f3 Q) noX (retK Try.prog Try.f3 Q)) noX) (retK Try.prog Try.f3 Q) m4) (blkX 2 (seqK Try.prog hoardlaw16_GhostLast_kp idJ (cAt [true, true, true, true, true, true, true] (bodyOf Try.f3)) (retK Try.prog Try.f3 Q) noX (retK Try.prog Try.f3 Q)) noX) (retK Try.prog Try.f3 Q) ((.int .i64 room0) :: (.slice l1.a l1.n l1.c) :: us 3 ((.pointer g5) :: us 1 ((.slice want7.a want7.n want7.c) :: (.int .i64 i8) :: us 82 []))) := by kernel_rfl
theorem hoardlaw16_GhostLast_j9_raw (jn : Jn) (Q : Value → WP)  (g5 : Option Addr) (want7 : Sl) : codeI Try.prog hoardlaw16_GhostLast_kp jn (cAt [true, true, true, true, true, true, true] (bodyOf Try.f3)) (retK Try.prog Try.f3 Q) noX (retK Try.prog Try.f3 Q) (us 5 ((.pointer g5) :: us 1 ((.slice want7.a want7.n want7.c) :: us 83 []))) = (
  call1 .slc Try.prog id_ghost_Ghost_Keys [.pointer g5] fun (x_21 : Sl) =>
  call1 .bool Try.prog id_hoardlaw16_texts [.slice x_21.a x_21.n x_21.c, .slice want7.a want7.n want7.c] fun (x_22 : Bool) =>
  ite2 x_22 (
  call1 .bool Try.prog id_hoardlaw16_known [] fun (x_23 : Bool) =>
  Q (.bool x_23)) (
  Q (.bool false))) := by kernel_rfl
theorem hoardlaw16_GhostLast_j9_def (Q : Value → WP)  (g5 : Option Addr) (want7 : Sl) : hoardlaw16_GhostLast_j9 idJ Q  g5 want7 = codeI Try.prog hoardlaw16_GhostLast_kp idJ (cAt [true, true, true, true, true, true, true] (bodyOf Try.f3)) (retK Try.prog Try.f3 Q) noX (retK Try.prog Try.f3 Q) (us 5 ((.pointer g5) :: us 1 ((.slice want7.a want7.n want7.c) :: us 83 []))) := by kernel_rfl
theorem hoardlaw16_GhostLast_l4_raw (jn : Jn) (Q : Value → WP)  (m4 : Nat) (room0 : Int) (l1 : Sl) (g5 : Option Addr) (want7 : Sl) (i8 : Int) : hoardlaw16_GhostLast_l4 jn Q  (m4 + 1) room0 l1 g5 want7 i8 = (
  ite2 (decide (i8 ≥ (0 : Int))) (
  ite2 (decide ((want7.n : Int) < room0)) (
  hoardlaw16_GhostLast_j5 jn Q m4 room0 l1 g5 want7 i8) (
  hoardlaw16_GhostLast_j9 jn Q  g5 want7)) (
  hoardlaw16_GhostLast_j9 jn Q  g5 want7)) := by kernel_rfl
theorem hoardlaw16_GhostLast_l4_zero (jn : Jn) (Q : Value → WP)  (room0 : Int) (l1 : Sl) (g5 : Option Addr) (want7 : Sl) (i8 : Int) : hoardlaw16_GhostLast_l4 jn Q  0 room0 l1 g5 want7 i8 = bot := by kernel_rfl
theorem hoardlaw16_GhostLast_j3_raw (jn : Jn) (Q : Value → WP)  (room0 : Int) (l1 : Sl) (g5 : Option Addr) : codeI Try.prog hoardlaw16_GhostLast_kp jn (cAt [true, true, true, true, true] (bodyOf Try.f3)) (retK Try.prog Try.f3 Q) noX (retK Try.prog Try.f3 Q) ((.int .i64 room0) :: (.slice l1.a l1.n l1.c) :: us 3 ((.pointer g5) :: us 85 [])) = (
  exM fun m => hoardlaw16_GhostLast_l4 jn Q  m room0 l1 g5 ⟨(none : Option Addr), 0, 0⟩ (IntKind.wrap .i64 ((l1.n : Int) - (1 : Int)))) := by kernel_rfl
theorem hoardlaw16_GhostLast_j3_def (Q : Value → WP)  (room0 : Int) (l1 : Sl) (g5 : Option Addr) : hoardlaw16_GhostLast_j3 idJ Q  room0 l1 g5 = codeI Try.prog hoardlaw16_GhostLast_kp idJ (cAt [true, true, true, true, true] (bodyOf Try.f3)) (retK Try.prog Try.f3 Q) noX (retK Try.prog Try.f3 Q) ((.int .i64 room0) :: (.slice l1.a l1.n l1.c) :: us 3 ((.pointer g5) :: us 85 [])) := by kernel_rfl
theorem hoardlaw16_GhostLast_l2_raw (jn : Jn) (Q : Value → WP)  (m2 : Nat) (room0 : Int) (l1 : Sl) (g5 : Option Addr) (i6 : Int) : hoardlaw16_GhostLast_l2 jn Q  (m2 + 1) room0 l1 g5 i6 = (
  ite2 (decide (i6 < (l1.n : Int))) (
  idx l1.a l1.n i6 fun b_2 o_3 =>
  ld .str b_2 (o_3 + (i6).toNat * 1) fun (x_4 : ByteArray) =>
  ite2 (decide ((x_4.size : Int) > (40 : Int))) (
  Q (.bool true)) (
  idx l1.a l1.n i6 fun b_5 o_6 =>
  ld .str b_5 (o_6 + (i6).toNat * 1) fun (x_7 : ByteArray) =>
  call2 .str .bool Try.prog id_ghost_Ghost_Add [.pointer g5, .string x_7] fun (x_8 : ByteArray) (x_9 : Bool) =>
  hoardlaw16_GhostLast_l2 jn Q  m2 room0 l1 g5 (IntKind.wrap .i64 (i6 + (1 : Int))))) (
  hoardlaw16_GhostLast_j3 jn Q  room0 l1 g5)) := by kernel_rfl
theorem hoardlaw16_GhostLast_l2_zero (jn : Jn) (Q : Value → WP)  (room0 : Int) (l1 : Sl) (g5 : Option Addr) (i6 : Int) : hoardlaw16_GhostLast_l2 jn Q  0 room0 l1 g5 i6 = bot := by kernel_rfl
theorem hoardlaw16_GhostLast_j1_raw (jn : Jn) (Q : Value → WP)  (room0 : Int) (l1 : Sl) : codeI Try.prog hoardlaw16_GhostLast_kp jn (cAt [true, true] (bodyOf Try.f3)) (retK Try.prog Try.f3 Q) noX (retK Try.prog Try.f3 Q) ((.int .i64 room0) :: (.slice l1.a l1.n l1.c) :: us 89 []) = (
  call1 .ptr Try.prog id_ghost_New [.int .i64 room0] fun (x_1 : Option Addr) =>
  ite2 (Option.isNone x_1) (
  Q (.bool false)) (
  exM fun m => hoardlaw16_GhostLast_l2 jn Q  m room0 l1 x_1 (0 : Int))) := by kernel_rfl
theorem hoardlaw16_GhostLast_j1_def (Q : Value → WP)  (room0 : Int) (l1 : Sl) : hoardlaw16_GhostLast_j1 idJ Q  room0 l1 = codeI Try.prog hoardlaw16_GhostLast_kp idJ (cAt [true, true] (bodyOf Try.f3)) (retK Try.prog Try.f3 Q) noX (retK Try.prog Try.f3 Q) ((.int .i64 room0) :: (.slice l1.a l1.n l1.c) :: us 89 []) := by kernel_rfl
theorem hoardlaw16_GhostLast_raw (jn : Jn) (room0 : Int) (l1 : Sl) (Q : Value → WP) : funJ jn Try.prog hoardlaw16_GhostLast_kp Try.f3 [.int .i64 room0, .slice l1.a l1.n l1.c] Q = (
  ite2 (decide (room0 < (1 : Int))) (
  Q (.bool true)) (
  ite2 (decide (room0 > (200 : Int))) (
  Q (.bool true)) (
  ite2 (decide ((l1.n : Int) > (200 : Int))) (
  Q (.bool true)) (
  hoardlaw16_GhostLast_j1 jn Q  room0 l1)))) := by kernel_rfl
theorem hoardlaw16_GhostLast_def (room0 : Int) (l1 : Sl) (Q : Value → WP) : hoardlaw16_GhostLast room0 l1 Q = funJ idJ Try.prog hoardlaw16_GhostLast_kp Try.f3 [.int .i64 room0, .slice l1.a l1.n l1.c] Q := rfl
theorem hoardlaw16_GhostLast_calls {room0 : Int} {l1 : Sl} {Q : Value → WP} {w : World} (h : hoardlaw16_GhostLast room0 l1 Q w) : Calls Try.prog id_hoardlaw16_GhostLast #[.int .i64 room0, .slice l1.a l1.n l1.c] w fun e w' => ∃ v, e = .returned v ∧ Q v w' :=
  funJ_calls mixed Try.func3 rfl h

-- hoard/hoardlaw16.GhostOwn
def hoardlaw16_GhostOwn_kp : KP := ⟨[(8, [0, 1, 2]), (17, [1, 2, 7, 8]), (26, [2, 7]), (33, [2, 7, 9, 10, 11]), (38, [2, 7, 10])], []⟩
def hoardlaw16_GhostOwn_j5 (jn : Jn) (Q : Value → WP)  (key2 : ByteArray) (g7 : Option Addr) (was10 : Sl) : WP := jn 38 (fun ρ => codeI Try.prog hoardlaw16_GhostOwn_kp jn (cAt [true, true, true, true, true, true, true, true] (bodyOf Try.f4)) (retK Try.prog Try.f4 Q) noX (retK Try.prog Try.f4 Q) ρ) (us 2 ((.string key2) :: us 4 ((.pointer g7) :: us 2 ((.slice was10.a was10.n was10.c) :: us 74 []))))
def hoardlaw16_GhostOwn_l4 (jn : Jn) (Q : Value → WP)  (m4 : Nat) (key2 : ByteArray) (g7 : Option Addr) (k9 : Sl) (was10 : Sl) (i11 : Int) : WP := lop Try.prog hoardlaw16_GhostOwn_kp jn (cAt [true, true, true, true, true, true, true, false, true, false, false] (bodyOf Try.f4)) (blkX 2 (seqK Try.prog hoardlaw16_GhostOwn_kp jn (cAt [true, true, true, true, true, true, true, true] (bodyOf Try.f4)) (retK Try.prog Try.f4 Q) noX (retK Try.prog Try.f4 Q)) noX) (retK Try.prog Try.f4 Q) m4 (us 2 ((.string key2) :: us 4 ((.pointer g7) :: us 1 ((.slice k9.a k9.n k9.c) :: (.slice was10.a was10.n was10.c) :: (.int .i64 i11) :: us 73 []))))
def hoardlaw16_GhostOwn_j3 (jn : Jn) (Q : Value → WP)  (key2 : ByteArray) (g7 : Option Addr) : WP := jn 26 (fun ρ => codeI Try.prog hoardlaw16_GhostOwn_kp jn (cAt [true, true, true, true, true] (bodyOf Try.f4)) (retK Try.prog Try.f4 Q) noX (retK Try.prog Try.f4 Q) ρ) (us 2 ((.string key2) :: us 4 ((.pointer g7) :: us 77 [])))
def hoardlaw16_GhostOwn_l2 (jn : Jn) (Q : Value → WP)  (m2 : Nat) (l1 : Sl) (key2 : ByteArray) (g7 : Option Addr) (i8 : Int) : WP := lop Try.prog hoardlaw16_GhostOwn_kp jn (cAt [true, true, true, true, false, true, false, false] (bodyOf Try.f4)) (blkX 0 (seqK Try.prog hoardlaw16_GhostOwn_kp jn (cAt [true, true, true, true, true] (bodyOf Try.f4)) (retK Try.prog Try.f4 Q) noX (retK Try.prog Try.f4 Q)) noX) (retK Try.prog Try.f4 Q) m2 (us 1 ((.slice l1.a l1.n l1.c) :: (.string key2) :: us 4 ((.pointer g7) :: (.int .i64 i8) :: us 76 [])))
def hoardlaw16_GhostOwn_j1 (jn : Jn) (Q : Value → WP)  (room0 : Int) (l1 : Sl) (key2 : ByteArray) : WP := jn 8 (fun ρ => codeI Try.prog hoardlaw16_GhostOwn_kp jn (cAt [true, true] (bodyOf Try.f4)) (retK Try.prog Try.f4 Q) noX (retK Try.prog Try.f4 Q) ρ) ((.int .i64 room0) :: (.slice l1.a l1.n l1.c) :: (.string key2) :: us 82 [])
def hoardlaw16_GhostOwn (room0 : Int) (l1 : Sl) (key2 : ByteArray) (Q : Value → WP) : WP := funJ idJ Try.prog hoardlaw16_GhostOwn_kp Try.f4 [.int .i64 room0, .slice l1.a l1.n l1.c, .string key2] Q
theorem hoardlaw16_GhostOwn_j5_raw (jn : Jn) (Q : Value → WP)  (key2 : ByteArray) (g7 : Option Addr) (was10 : Sl) : codeI Try.prog hoardlaw16_GhostOwn_kp jn (cAt [true, true, true, true, true, true, true, true] (bodyOf Try.f4)) (retK Try.prog Try.f4 Q) noX (retK Try.prog Try.f4 Q) (us 2 ((.string key2) :: us 4 ((.pointer g7) :: us 2 ((.slice was10.a was10.n was10.c) :: us 74 [])))) = (
  call1 .slc Try.prog id_ghost_Ghost_Keys [.pointer g7] fun (x_15 : Sl) =>
  call1 .bool Try.prog id_hoardlaw16_texts [.slice x_15.a x_15.n x_15.c, .slice was10.a was10.n was10.c] fun (x_16 : Bool) =>
  ite2 (!x_16) (
  Q (.bool false)) (
  call1 .bool Try.prog id_ghost_Ghost_Has [.pointer g7, .string key2] fun (x_17 : Bool) =>
  call1 .bool Try.prog id_ghost_Ghost_Take [.pointer g7, .string key2] fun (x_18 : Bool) =>
  ite2 (x_18 == x_17) (
  call1 .bool Try.prog id_ghost_Ghost_Has [.pointer g7, .string key2] fun (x_19 : Bool) =>
  ite2 (!x_19) (
  call1 .bool Try.prog id_ghost_Ghost_Take [.pointer g7, .string key2] fun (x_20 : Bool) =>
  ite2 (!x_20) (
  call1 .bool Try.prog id_hoardlaw16_known [] fun (x_21 : Bool) =>
  Q (.bool x_21)) (
  Q (.bool false))) (
  Q (.bool false))) (
  Q (.bool false)))) := by kernel_rfl
theorem hoardlaw16_GhostOwn_j5_def (Q : Value → WP)  (key2 : ByteArray) (g7 : Option Addr) (was10 : Sl) : hoardlaw16_GhostOwn_j5 idJ Q  key2 g7 was10 = codeI Try.prog hoardlaw16_GhostOwn_kp idJ (cAt [true, true, true, true, true, true, true, true] (bodyOf Try.f4)) (retK Try.prog Try.f4 Q) noX (retK Try.prog Try.f4 Q) (us 2 ((.string key2) :: us 4 ((.pointer g7) :: us 2 ((.slice was10.a was10.n was10.c) :: us 74 [])))) := by kernel_rfl
theorem hoardlaw16_GhostOwn_l4_raw (jn : Jn) (Q : Value → WP)  (m4 : Nat) (key2 : ByteArray) (g7 : Option Addr) (k9 : Sl) (was10 : Sl) (i11 : Int) : hoardlaw16_GhostOwn_l4 jn Q  (m4 + 1) key2 g7 k9 was10 i11 = (
  ite2 (decide (i11 < (k9.n : Int))) (
  idx k9.a k9.n i11 fun b_13 o_14 =>
  st b_13 (o_14 + (i11).toNat * 1) (.string str_spoilt) <|
  hoardlaw16_GhostOwn_l4 jn Q  m4 key2 g7 k9 was10 (IntKind.wrap .i64 (i11 + (1 : Int)))) (
  hoardlaw16_GhostOwn_j5 jn Q  key2 g7 was10)) := by kernel_rfl
theorem hoardlaw16_GhostOwn_l4_zero (jn : Jn) (Q : Value → WP)  (key2 : ByteArray) (g7 : Option Addr) (k9 : Sl) (was10 : Sl) (i11 : Int) : hoardlaw16_GhostOwn_l4 jn Q  0 key2 g7 k9 was10 i11 = bot := by kernel_rfl
theorem hoardlaw16_GhostOwn_j3_raw (jn : Jn) (Q : Value → WP)  (key2 : ByteArray) (g7 : Option Addr) : codeI Try.prog hoardlaw16_GhostOwn_kp jn (cAt [true, true, true, true, true] (bodyOf Try.f4)) (retK Try.prog Try.f4 Q) noX (retK Try.prog Try.f4 Q) (us 2 ((.string key2) :: us 4 ((.pointer g7) :: us 77 []))) = (
  call1 .slc Try.prog id_ghost_Ghost_Keys [.pointer g7] fun (x_10 : Sl) =>
  newB [] ty_string fun b_11 =>
  appendC ty_string 1 16 [.string str_empty] ⟨(some ⟨b_11, 0, none⟩), 0, 0⟩ x_10.n (fun w => rdA w x_10.a (x_10.n * 1)) fun s_12 =>
  exM fun m => hoardlaw16_GhostOwn_l4 jn Q  m key2 g7 x_10 s_12 (0 : Int)) := by kernel_rfl
theorem hoardlaw16_GhostOwn_j3_def (Q : Value → WP)  (key2 : ByteArray) (g7 : Option Addr) : hoardlaw16_GhostOwn_j3 idJ Q  key2 g7 = codeI Try.prog hoardlaw16_GhostOwn_kp idJ (cAt [true, true, true, true, true] (bodyOf Try.f4)) (retK Try.prog Try.f4 Q) noX (retK Try.prog Try.f4 Q) (us 2 ((.string key2) :: us 4 ((.pointer g7) :: us 77 []))) := by kernel_rfl
theorem hoardlaw16_GhostOwn_l2_raw (jn : Jn) (Q : Value → WP)  (m2 : Nat) (l1 : Sl) (key2 : ByteArray) (g7 : Option Addr) (i8 : Int) : hoardlaw16_GhostOwn_l2 jn Q  (m2 + 1) l1 key2 g7 i8 = (
  ite2 (decide (i8 < (l1.n : Int))) (
  idx l1.a l1.n i8 fun b_2 o_3 =>
  ld .str b_2 (o_3 + (i8).toNat * 1) fun (x_4 : ByteArray) =>
  ite2 (decide ((x_4.size : Int) > (40 : Int))) (
  Q (.bool true)) (
  idx l1.a l1.n i8 fun b_5 o_6 =>
  ld .str b_5 (o_6 + (i8).toNat * 1) fun (x_7 : ByteArray) =>
  call2 .str .bool Try.prog id_ghost_Ghost_Add [.pointer g7, .string x_7] fun (x_8 : ByteArray) (x_9 : Bool) =>
  hoardlaw16_GhostOwn_l2 jn Q  m2 l1 key2 g7 (IntKind.wrap .i64 (i8 + (1 : Int))))) (
  hoardlaw16_GhostOwn_j3 jn Q  key2 g7)) := by kernel_rfl
theorem hoardlaw16_GhostOwn_l2_zero (jn : Jn) (Q : Value → WP)  (l1 : Sl) (key2 : ByteArray) (g7 : Option Addr) (i8 : Int) : hoardlaw16_GhostOwn_l2 jn Q  0 l1 key2 g7 i8 = bot := by kernel_rfl
theorem hoardlaw16_GhostOwn_j1_raw (jn : Jn) (Q : Value → WP)  (room0 : Int) (l1 : Sl) (key2 : ByteArray) : codeI Try.prog hoardlaw16_GhostOwn_kp jn (cAt [true, true] (bodyOf Try.f4)) (retK Try.prog Try.f4 Q) noX (retK Try.prog Try.f4 Q) ((.int .i64 room0) :: (.slice l1.a l1.n l1.c) :: (.string key2) :: us 82 []) = (
  call1 .ptr Try.prog id_ghost_New [.int .i64 room0] fun (x_1 : Option Addr) =>
  ite2 (Option.isNone x_1) (
  Q (.bool false)) (
  exM fun m => hoardlaw16_GhostOwn_l2 jn Q  m l1 key2 x_1 (0 : Int))) := by kernel_rfl
theorem hoardlaw16_GhostOwn_j1_def (Q : Value → WP)  (room0 : Int) (l1 : Sl) (key2 : ByteArray) : hoardlaw16_GhostOwn_j1 idJ Q  room0 l1 key2 = codeI Try.prog hoardlaw16_GhostOwn_kp idJ (cAt [true, true] (bodyOf Try.f4)) (retK Try.prog Try.f4 Q) noX (retK Try.prog Try.f4 Q) ((.int .i64 room0) :: (.slice l1.a l1.n l1.c) :: (.string key2) :: us 82 []) := by kernel_rfl
theorem hoardlaw16_GhostOwn_raw (jn : Jn) (room0 : Int) (l1 : Sl) (key2 : ByteArray) (Q : Value → WP) : funJ jn Try.prog hoardlaw16_GhostOwn_kp Try.f4 [.int .i64 room0, .slice l1.a l1.n l1.c, .string key2] Q = (
  ite2 (decide ((l1.n : Int) > (200 : Int))) (
  Q (.bool true)) (
  ite2 (decide ((key2.size : Int) > (40 : Int))) (
  Q (.bool true)) (
  hoardlaw16_GhostOwn_j1 jn Q  room0 l1 key2))) := by kernel_rfl
theorem hoardlaw16_GhostOwn_def (room0 : Int) (l1 : Sl) (key2 : ByteArray) (Q : Value → WP) : hoardlaw16_GhostOwn room0 l1 key2 Q = funJ idJ Try.prog hoardlaw16_GhostOwn_kp Try.f4 [.int .i64 room0, .slice l1.a l1.n l1.c, .string key2] Q := rfl
theorem hoardlaw16_GhostOwn_calls {room0 : Int} {l1 : Sl} {key2 : ByteArray} {Q : Value → WP} {w : World} (h : hoardlaw16_GhostOwn room0 l1 key2 Q w) : Calls Try.prog id_hoardlaw16_GhostOwn #[.int .i64 room0, .slice l1.a l1.n l1.c, .string key2] w fun e w' => ∃ v, e = .returned v ∧ Q v w' :=
  funJ_calls mixed Try.func4 rfl h

-- hoard/hoardlaw16.GhostPlays
def hoardlaw16_GhostPlays_kp : KP := ⟨[(17, [1, 5, 6, 7]), (20, [1, 5, 6, 7]), (34, [1, 5, 6, 7]), (38, [5, 6])], [(14, [0, 1, 2, 3, 4, 5, 7, 8, 9, 10, 11, 12, 14]), (16, [0, 1, 2, 3, 4, 5, 7, 8, 9, 10, 11, 12, 14, 15, 16, 18, 19, 20, 21, 22, 23, 24]), (18, [0, 2, 3, 4, 5, 7, 9, 10])]⟩
def hoardlaw16_GhostPlays_j3 (jn : Jn) (Q : Value → WP) (m1 : Nat) (l1 : Sl) (g5 : Option Addr) (x6 : Option Addr) (i7 : Int) : WP := jn 34 (fun ρ => codeI Try.prog hoardlaw16_GhostPlays_kp jn (cAt [true, true, true, true, false, true, false, false, true, false, false, true] (bodyOf Try.f5)) (seqK Try.prog hoardlaw16_GhostPlays_kp jn (cAt [true, true, true, true, false, true, false, false, true, true] (bodyOf Try.f5)) (lopK Try.prog hoardlaw16_GhostPlays_kp jn (cAt [true, true, true, true, false, true, false, false] (bodyOf Try.f5)) (blkX 0 (seqK Try.prog hoardlaw16_GhostPlays_kp jn (cAt [true, true, true, true, true] (bodyOf Try.f5)) (retK Try.prog Try.f5 Q) noX (retK Try.prog Try.f5 Q)) noX) (retK Try.prog Try.f5 Q) m1) (blkX 0 (seqK Try.prog hoardlaw16_GhostPlays_kp jn (cAt [true, true, true, true, true] (bodyOf Try.f5)) (retK Try.prog Try.f5 Q) noX (retK Try.prog Try.f5 Q)) noX) (retK Try.prog Try.f5 Q)) (blkX 1 (seqK Try.prog hoardlaw16_GhostPlays_kp jn (cAt [true, true, true, true, false, true, false, false, true, true] (bodyOf Try.f5)) (lopK Try.prog hoardlaw16_GhostPlays_kp jn (cAt [true, true, true, true, false, true, false, false] (bodyOf Try.f5)) (blkX 0 (seqK Try.prog hoardlaw16_GhostPlays_kp jn (cAt [true, true, true, true, true] (bodyOf Try.f5)) (retK Try.prog Try.f5 Q) noX (retK Try.prog Try.f5 Q)) noX) (retK Try.prog Try.f5 Q) m1) (blkX 0 (seqK Try.prog hoardlaw16_GhostPlays_kp jn (cAt [true, true, true, true, true] (bodyOf Try.f5)) (retK Try.prog Try.f5 Q) noX (retK Try.prog Try.f5 Q)) noX) (retK Try.prog Try.f5 Q)) (blkX 0 (seqK Try.prog hoardlaw16_GhostPlays_kp jn (cAt [true, true, true, true, true] (bodyOf Try.f5)) (retK Try.prog Try.f5 Q) noX (retK Try.prog Try.f5 Q)) noX)) (retK Try.prog Try.f5 Q) ρ) (us 1 ((.slice l1.a l1.n l1.c) :: us 3 ((.pointer g5) :: (.pointer x6) :: (.int .i64 i7) :: us 106 [])))
def hoardlaw16_GhostPlays_j2 (jn : Jn) (Q : Value → WP) (m1 : Nat) (l1 : Sl) (g5 : Option Addr) (x6 : Option Addr) (i7 : Int) : WP := jn 20 (fun ρ => codeI Try.prog hoardlaw16_GhostPlays_kp jn (cAt [true, true, true, true, false, true, false, false, true] (bodyOf Try.f5)) (lopK Try.prog hoardlaw16_GhostPlays_kp jn (cAt [true, true, true, true, false, true, false, false] (bodyOf Try.f5)) (blkX 0 (seqK Try.prog hoardlaw16_GhostPlays_kp jn (cAt [true, true, true, true, true] (bodyOf Try.f5)) (retK Try.prog Try.f5 Q) noX (retK Try.prog Try.f5 Q)) noX) (retK Try.prog Try.f5 Q) m1) (blkX 0 (seqK Try.prog hoardlaw16_GhostPlays_kp jn (cAt [true, true, true, true, true] (bodyOf Try.f5)) (retK Try.prog Try.f5 Q) noX (retK Try.prog Try.f5 Q)) noX) (retK Try.prog Try.f5 Q) ρ) (us 1 ((.slice l1.a l1.n l1.c) :: us 3 ((.pointer g5) :: (.pointer x6) :: (.int .i64 i7) :: us 106 [])))
def hoardlaw16_GhostPlays_j4 (jn : Jn) (Q : Value → WP)  (g5 : Option Addr) (x6 : Option Addr) : WP := jn 38 (fun ρ => codeI Try.prog hoardlaw16_GhostPlays_kp jn (cAt [true, true, true, true, true] (bodyOf Try.f5)) (retK Try.prog Try.f5 Q) noX (retK Try.prog Try.f5 Q) ρ) (us 5 ((.pointer g5) :: (.pointer x6) :: us 107 []))
def hoardlaw16_GhostPlays_l1 (jn : Jn) (Q : Value → WP)  (m1 : Nat) (l1 : Sl) (g5 : Option Addr) (x6 : Option Addr) (i7 : Int) : WP := lop Try.prog hoardlaw16_GhostPlays_kp jn (cAt [true, true, true, true, false, true, false, false] (bodyOf Try.f5)) (blkX 0 (seqK Try.prog hoardlaw16_GhostPlays_kp jn (cAt [true, true, true, true, true] (bodyOf Try.f5)) (retK Try.prog Try.f5 Q) noX (retK Try.prog Try.f5 Q)) noX) (retK Try.prog Try.f5 Q) m1 (us 1 ((.slice l1.a l1.n l1.c) :: us 3 ((.pointer g5) :: (.pointer x6) :: (.int .i64 i7) :: us 106 [])))
def hoardlaw16_GhostPlays (room0 : Int) (l1 : Sl) (Q : Value → WP) : WP := funJ idJ Try.prog hoardlaw16_GhostPlays_kp Try.f5 [.int .i64 room0, .slice l1.a l1.n l1.c] Q
theorem hoardlaw16_GhostPlays_j3_raw (jn : Jn) (Q : Value → WP) (m1 : Nat) (l1 : Sl) (g5 : Option Addr) (x6 : Option Addr) (i7 : Int) : codeI Try.prog hoardlaw16_GhostPlays_kp jn (cAt [true, true, true, true, false, true, false, false, true, false, false, true] (bodyOf Try.f5)) (seqK Try.prog hoardlaw16_GhostPlays_kp jn (cAt [true, true, true, true, false, true, false, false, true, true] (bodyOf Try.f5)) (lopK Try.prog hoardlaw16_GhostPlays_kp jn (cAt [true, true, true, true, false, true, false, false] (bodyOf Try.f5)) (blkX 0 (seqK Try.prog hoardlaw16_GhostPlays_kp jn (cAt [true, true, true, true, true] (bodyOf Try.f5)) (retK Try.prog Try.f5 Q) noX (retK Try.prog Try.f5 Q)) noX) (retK Try.prog Try.f5 Q) m1) (blkX 0 (seqK Try.prog hoardlaw16_GhostPlays_kp jn (cAt [true, true, true, true, true] (bodyOf Try.f5)) (retK Try.prog Try.f5 Q) noX (retK Try.prog Try.f5 Q)) noX) (retK Try.prog Try.f5 Q)) (blkX 1 (seqK Try.prog hoardlaw16_GhostPlays_kp jn (cAt [true, true, true, true, false, true, false, false, true, true] (bodyOf Try.f5)) (lopK Try.prog hoardlaw16_GhostPlays_kp jn (cAt [true, true, true, true, false, true, false, false] (bodyOf Try.f5)) (blkX 0 (seqK Try.prog hoardlaw16_GhostPlays_kp jn (cAt [true, true, true, true, true] (bodyOf Try.f5)) (retK Try.prog Try.f5 Q) noX (retK Try.prog Try.f5 Q)) noX) (retK Try.prog Try.f5 Q) m1) (blkX 0 (seqK Try.prog hoardlaw16_GhostPlays_kp jn (cAt [true, true, true, true, true] (bodyOf Try.f5)) (retK Try.prog Try.f5 Q) noX (retK Try.prog Try.f5 Q)) noX) (retK Try.prog Try.f5 Q)) (blkX 0 (seqK Try.prog hoardlaw16_GhostPlays_kp jn (cAt [true, true, true, true, true] (bodyOf Try.f5)) (retK Try.prog Try.f5 Q) noX (retK Try.prog Try.f5 Q)) noX)) (retK Try.prog Try.f5 Q) (us 1 ((.slice l1.a l1.n l1.c) :: us 3 ((.pointer g5) :: (.pointer x6) :: (.int .i64 i7) :: us 106 []))) = (
  drawW fun S =>
  idx l1.a l1.n i7 fun b_17 o_18 =>
  ldS S .str b_17 ((o_18 + (i7).toNat * 2) + 1) fun (x_19 : ByteArray) =>
  idx l1.a l1.n i7 fun b_20 o_21 =>
  ldS S .str b_20 ((o_21 + (i7).toNat * 2) + 1) fun (x_22 : ByteArray) =>
  call1 .bool Try.prog id_ghost_Ghost_Has [.pointer g5, .string x_19] fun (x_23 : Bool) =>
  keepS true S <|
  call1 .bool Try.prog id_hoardref16_Ghost_Has [.pointer x6, .string x_22] fun (x_24 : Bool) =>
  keepS true S <|
  ite2 (!(x_23 == x_24)) (
  keepS true S <|
  Q (.bool false)) (
  nilck x6 fun b_25 o_26 =>
  ldS S .slc b_25 o_26 fun (x_27 : Sl) =>
  call1 (.int .i64) Try.prog id_ghost_Ghost_Len [.pointer g5] fun (x_28 : Int) =>
  keepS true S <|
  ite2 (x_28 != (x_27.n : Int)) (
  Q (.bool false)) (
  hoardlaw16_GhostPlays_l1 jn Q  m1 l1 g5 x6 (IntKind.wrap .i64 (i7 + (1 : Int)))))) := by kernel_rfl
theorem hoardlaw16_GhostPlays_j3_def (Q : Value → WP) (m1 : Nat) (l1 : Sl) (g5 : Option Addr) (x6 : Option Addr) (i7 : Int) : hoardlaw16_GhostPlays_j3 idJ Q m1 l1 g5 x6 i7 = codeI Try.prog hoardlaw16_GhostPlays_kp idJ (cAt [true, true, true, true, false, true, false, false, true, false, false, true] (bodyOf Try.f5)) (seqK Try.prog hoardlaw16_GhostPlays_kp idJ (cAt [true, true, true, true, false, true, false, false, true, true] (bodyOf Try.f5)) (lopK Try.prog hoardlaw16_GhostPlays_kp idJ (cAt [true, true, true, true, false, true, false, false] (bodyOf Try.f5)) (blkX 0 (seqK Try.prog hoardlaw16_GhostPlays_kp idJ (cAt [true, true, true, true, true] (bodyOf Try.f5)) (retK Try.prog Try.f5 Q) noX (retK Try.prog Try.f5 Q)) noX) (retK Try.prog Try.f5 Q) m1) (blkX 0 (seqK Try.prog hoardlaw16_GhostPlays_kp idJ (cAt [true, true, true, true, true] (bodyOf Try.f5)) (retK Try.prog Try.f5 Q) noX (retK Try.prog Try.f5 Q)) noX) (retK Try.prog Try.f5 Q)) (blkX 1 (seqK Try.prog hoardlaw16_GhostPlays_kp idJ (cAt [true, true, true, true, false, true, false, false, true, true] (bodyOf Try.f5)) (lopK Try.prog hoardlaw16_GhostPlays_kp idJ (cAt [true, true, true, true, false, true, false, false] (bodyOf Try.f5)) (blkX 0 (seqK Try.prog hoardlaw16_GhostPlays_kp idJ (cAt [true, true, true, true, true] (bodyOf Try.f5)) (retK Try.prog Try.f5 Q) noX (retK Try.prog Try.f5 Q)) noX) (retK Try.prog Try.f5 Q) m1) (blkX 0 (seqK Try.prog hoardlaw16_GhostPlays_kp idJ (cAt [true, true, true, true, true] (bodyOf Try.f5)) (retK Try.prog Try.f5 Q) noX (retK Try.prog Try.f5 Q)) noX) (retK Try.prog Try.f5 Q)) (blkX 0 (seqK Try.prog hoardlaw16_GhostPlays_kp idJ (cAt [true, true, true, true, true] (bodyOf Try.f5)) (retK Try.prog Try.f5 Q) noX (retK Try.prog Try.f5 Q)) noX)) (retK Try.prog Try.f5 Q) (us 1 ((.slice l1.a l1.n l1.c) :: us 3 ((.pointer g5) :: (.pointer x6) :: (.int .i64 i7) :: us 106 []))) := by kernel_rfl
theorem hoardlaw16_GhostPlays_j2_raw (jn : Jn) (Q : Value → WP) (m1 : Nat) (l1 : Sl) (g5 : Option Addr) (x6 : Option Addr) (i7 : Int) : codeI Try.prog hoardlaw16_GhostPlays_kp jn (cAt [true, true, true, true, false, true, false, false, true] (bodyOf Try.f5)) (lopK Try.prog hoardlaw16_GhostPlays_kp jn (cAt [true, true, true, true, false, true, false, false] (bodyOf Try.f5)) (blkX 0 (seqK Try.prog hoardlaw16_GhostPlays_kp jn (cAt [true, true, true, true, true] (bodyOf Try.f5)) (retK Try.prog Try.f5 Q) noX (retK Try.prog Try.f5 Q)) noX) (retK Try.prog Try.f5 Q) m1) (blkX 0 (seqK Try.prog hoardlaw16_GhostPlays_kp jn (cAt [true, true, true, true, true] (bodyOf Try.f5)) (retK Try.prog Try.f5 Q) noX (retK Try.prog Try.f5 Q)) noX) (retK Try.prog Try.f5 Q) (us 1 ((.slice l1.a l1.n l1.c) :: us 3 ((.pointer g5) :: (.pointer x6) :: (.int .i64 i7) :: us 106 []))) = (
  idx l1.a l1.n i7 fun b_4 o_5 =>
  ld (.int .i64) b_4 (o_5 + (i7).toNat * 2) fun (x_6 : Int) =>
  ite2 (x_6 == (1 : Int)) (
  idx l1.a l1.n i7 fun b_7 o_8 =>
  ld .str b_7 ((o_8 + (i7).toNat * 2) + 1) fun (x_9 : ByteArray) =>
  call2 .str .bool Try.prog id_ghost_Ghost_Add [.pointer g5, .string x_9] fun (x_10 : ByteArray) (x_11 : Bool) =>
  idx l1.a l1.n i7 fun b_12 o_13 =>
  ld .str b_12 ((o_13 + (i7).toNat * 2) + 1) fun (x_14 : ByteArray) =>
  call2 .str .bool Try.prog id_hoardref16_Ghost_Add [.pointer x6, .string x_14] fun (x_15 : ByteArray) (x_16 : Bool) =>
  ite2 (!sEq x_10 x_15) (
  Q (.bool false)) (
  ite2 (!(x_11 == x_16)) (
  Q (.bool false)) (
  hoardlaw16_GhostPlays_j3 jn Q m1 l1 g5 x6 i7))) (
  drawW fun S =>
  idx l1.a l1.n i7 fun b_29 o_30 =>
  ldS S .str b_29 ((o_30 + (i7).toNat * 2) + 1) fun (x_31 : ByteArray) =>
  idx l1.a l1.n i7 fun b_32 o_33 =>
  ldS S .str b_32 ((o_33 + (i7).toNat * 2) + 1) fun (x_34 : ByteArray) =>
  call1 .bool Try.prog id_ghost_Ghost_Take [.pointer g5, .string x_31] fun (x_35 : Bool) =>
  keepS true S <|
  call1 .bool Try.prog id_hoardref16_Ghost_Take [.pointer x6, .string x_34] fun (x_36 : Bool) =>
  ite2 (!(x_35 == x_36)) (
  Q (.bool false)) (
  hoardlaw16_GhostPlays_j3 jn Q m1 l1 g5 x6 i7))) := by kernel_rfl
theorem hoardlaw16_GhostPlays_j2_def (Q : Value → WP) (m1 : Nat) (l1 : Sl) (g5 : Option Addr) (x6 : Option Addr) (i7 : Int) : hoardlaw16_GhostPlays_j2 idJ Q m1 l1 g5 x6 i7 = codeI Try.prog hoardlaw16_GhostPlays_kp idJ (cAt [true, true, true, true, false, true, false, false, true] (bodyOf Try.f5)) (lopK Try.prog hoardlaw16_GhostPlays_kp idJ (cAt [true, true, true, true, false, true, false, false] (bodyOf Try.f5)) (blkX 0 (seqK Try.prog hoardlaw16_GhostPlays_kp idJ (cAt [true, true, true, true, true] (bodyOf Try.f5)) (retK Try.prog Try.f5 Q) noX (retK Try.prog Try.f5 Q)) noX) (retK Try.prog Try.f5 Q) m1) (blkX 0 (seqK Try.prog hoardlaw16_GhostPlays_kp idJ (cAt [true, true, true, true, true] (bodyOf Try.f5)) (retK Try.prog Try.f5 Q) noX (retK Try.prog Try.f5 Q)) noX) (retK Try.prog Try.f5 Q) (us 1 ((.slice l1.a l1.n l1.c) :: us 3 ((.pointer g5) :: (.pointer x6) :: (.int .i64 i7) :: us 106 []))) := by kernel_rfl
theorem hoardlaw16_GhostPlays_j4_raw (jn : Jn) (Q : Value → WP)  (g5 : Option Addr) (x6 : Option Addr) : codeI Try.prog hoardlaw16_GhostPlays_kp jn (cAt [true, true, true, true, true] (bodyOf Try.f5)) (retK Try.prog Try.f5 Q) noX (retK Try.prog Try.f5 Q) (us 5 ((.pointer g5) :: (.pointer x6) :: us 107 [])) = (
  drawW fun S =>
  nilck x6 fun b_37 o_38 =>
  ldS S .slc b_37 o_38 fun (x_39 : Sl) =>
  call1 .slc Try.prog id_ghost_Ghost_Keys [.pointer g5] fun (x_40 : Sl) =>
  keepS true S <|
  call1 .bool Try.prog id_hoardlaw16_texts [.slice x_40.a x_40.n x_40.c, .slice x_39.a x_39.n x_39.c] fun (x_41 : Bool) =>
  ite2 x_41 (
  call1 .bool Try.prog id_hoardlaw16_known [] fun (x_42 : Bool) =>
  Q (.bool x_42)) (
  Q (.bool false))) := by kernel_rfl
theorem hoardlaw16_GhostPlays_j4_def (Q : Value → WP)  (g5 : Option Addr) (x6 : Option Addr) : hoardlaw16_GhostPlays_j4 idJ Q  g5 x6 = codeI Try.prog hoardlaw16_GhostPlays_kp idJ (cAt [true, true, true, true, true] (bodyOf Try.f5)) (retK Try.prog Try.f5 Q) noX (retK Try.prog Try.f5 Q) (us 5 ((.pointer g5) :: (.pointer x6) :: us 107 [])) := by kernel_rfl
theorem hoardlaw16_GhostPlays_l1_raw (jn : Jn) (Q : Value → WP)  (m1 : Nat) (l1 : Sl) (g5 : Option Addr) (x6 : Option Addr) (i7 : Int) : hoardlaw16_GhostPlays_l1 jn Q  (m1 + 1) l1 g5 x6 i7 = (
  ite2 (decide (i7 < (l1.n : Int))) (
  ite2 (decide (i7 < (200 : Int))) (
  hoardlaw16_GhostPlays_j2 jn Q m1 l1 g5 x6 i7) (
  hoardlaw16_GhostPlays_j4 jn Q  g5 x6)) (
  hoardlaw16_GhostPlays_j4 jn Q  g5 x6)) := by kernel_rfl
theorem hoardlaw16_GhostPlays_l1_zero (jn : Jn) (Q : Value → WP)  (l1 : Sl) (g5 : Option Addr) (x6 : Option Addr) (i7 : Int) : hoardlaw16_GhostPlays_l1 jn Q  0 l1 g5 x6 i7 = bot := by kernel_rfl
theorem hoardlaw16_GhostPlays_raw (jn : Jn) (room0 : Int) (l1 : Sl) (Q : Value → WP) : funJ jn Try.prog hoardlaw16_GhostPlays_kp Try.f5 [.int .i64 room0, .slice l1.a l1.n l1.c] Q = (
  call1 .bool Try.prog id_hoardlaw16_heavy [.slice l1.a l1.n l1.c] fun (x_1 : Bool) =>
  ite2 x_1 (
  Q (.bool true)) (
  call1 .ptr Try.prog id_ghost_New [.int .i64 room0] fun (x_2 : Option Addr) =>
  call1 .ptr Try.prog id_hoardref16_New [.int .i64 room0] fun (x_3 : Option Addr) =>
  ite2 (Option.isNone x_2) (
  Q (.bool false)) (
  exM fun m => hoardlaw16_GhostPlays_l1 jn Q  m l1 x_2 x_3 (0 : Int)))) := by kernel_rfl
theorem hoardlaw16_GhostPlays_def (room0 : Int) (l1 : Sl) (Q : Value → WP) : hoardlaw16_GhostPlays room0 l1 Q = funJ idJ Try.prog hoardlaw16_GhostPlays_kp Try.f5 [.int .i64 room0, .slice l1.a l1.n l1.c] Q := rfl
theorem hoardlaw16_GhostPlays_calls {room0 : Int} {l1 : Sl} {Q : Value → WP} {w : World} (h : hoardlaw16_GhostPlays room0 l1 Q w) : Calls Try.prog id_hoardlaw16_GhostPlays #[.int .i64 room0, .slice l1.a l1.n l1.c] w fun e w' => ∃ v, e = .returned v ∧ Q v w' :=
  funJ_calls mixed Try.func5 rfl h

-- hoard/hoardlaw16.GhostOfNothing
def hoardlaw16_GhostOfNothing_kp : KP := ⟨[], []⟩
def hoardlaw16_GhostOfNothing (key0 : ByteArray) (Q : Value → WP) : WP := funJ idJ Try.prog hoardlaw16_GhostOfNothing_kp Try.f6 [.string key0] Q
theorem hoardlaw16_GhostOfNothing_raw (jn : Jn) (key0 : ByteArray) (Q : Value → WP) : funJ jn Try.prog hoardlaw16_GhostOfNothing_kp Try.f6 [.string key0] Q = (
  ite2 (decide ((key0.size : Int) > (40 : Int))) (
  Q (.bool true)) (
  call2 .str .bool Try.prog id_ghost_Ghost_Add [.pointer (none : Option Addr), .string key0] fun (x_1 : ByteArray) (x_2 : Bool) =>
  ite2 (sEq x_1 str_empty) (
  ite2 (!x_2) (
  call1 .bool Try.prog id_ghost_Ghost_Take [.pointer (none : Option Addr), .string key0] fun (x_3 : Bool) =>
  ite2 (!x_3) (
  call1 .bool Try.prog id_ghost_Ghost_Has [.pointer (none : Option Addr), .string key0] fun (x_4 : Bool) =>
  ite2 (!x_4) (
  call1 .slc Try.prog id_ghost_Ghost_Keys [.pointer (none : Option Addr)] fun (x_5 : Sl) =>
  ite2 ((x_5.n : Int) == (0 : Int)) (
  call1 (.int .i64) Try.prog id_ghost_Ghost_Len [.pointer (none : Option Addr)] fun (x_6 : Int) =>
  ite2 (x_6 == (0 : Int)) (
  call1 .bool Try.prog id_hoardlaw16_known [] fun (x_7 : Bool) =>
  Q (.bool x_7)) (
  Q (.bool false))) (
  Q (.bool false))) (
  Q (.bool false))) (
  Q (.bool false))) (
  Q (.bool false))) (
  Q (.bool false)))) := by kernel_rfl
theorem hoardlaw16_GhostOfNothing_def (key0 : ByteArray) (Q : Value → WP) : hoardlaw16_GhostOfNothing key0 Q = funJ idJ Try.prog hoardlaw16_GhostOfNothing_kp Try.f6 [.string key0] Q := rfl
theorem hoardlaw16_GhostOfNothing_calls {key0 : ByteArray} {Q : Value → WP} {w : World} (h : hoardlaw16_GhostOfNothing key0 Q w) : Calls Try.prog id_hoardlaw16_GhostOfNothing #[.string key0] w fun e w' => ∃ v, e = .returned v ∧ Q v w' :=
  funJ_calls mixed Try.func6 rfl h

-- hoard/ghost.New
def ghost_New_kp : KP := ⟨[], []⟩
def ghost_New (room0 : Int) (Q : Value → WP) : WP := funJ idJ Try.prog ghost_New_kp Try.f7 [.int .i64 room0] Q
theorem ghost_New_raw (jn : Jn) (room0 : Int) (Q : Value → WP) : funJ jn Try.prog ghost_New_kp Try.f7 [.int .i64 room0] Q = (
  call1 (.int .i64) Try.prog id_fix_Clamp [.int .i64 room0, .int .i64 (1 : Int), .int .i64 (1024 : Int)] fun (x_1 : Int) =>
  call1 .ptr Try.prog id_list_New_string [] fun (x_2 : Option Addr) =>
  call1 .ptr Try.prog id_index_New_int [.int .u64 (0 : Int)] fun (x_3 : Option Addr) =>
  newB [.int .i64 x_1, .pointer x_2, .pointer x_3] ty_ghost_Ghost fun b_4 =>
  Q (.pointer (some ⟨b_4, 0, none⟩))) := by kernel_rfl
theorem ghost_New_def (room0 : Int) (Q : Value → WP) : ghost_New room0 Q = funJ idJ Try.prog ghost_New_kp Try.f7 [.int .i64 room0] Q := rfl
theorem ghost_New_calls {room0 : Int} {Q : Value → WP} {w : World} (h : ghost_New room0 Q w) : Calls Try.prog id_ghost_New #[.int .i64 room0] w fun e w' => ∃ v, e = .returned v ∧ Q v w' :=
  funJ_calls mixed Try.func7 rfl h

-- (*hoard/ghost.Ghost).Add
def ghost_Ghost_Add_kp : KP := ⟨[], [(4, [0, 1, 2, 3, 4, 5, 6, 7, 9]), (5, [0, 1, 2, 3, 5, 6, 7, 8, 9]), (7, [0, 1, 2, 3, 4, 5, 6, 10, 11, 12, 13, 14])]⟩
def ghost_Ghost_Add (g0 : Option Addr) (key1 : ByteArray) (Q : Value → WP) : WP := funJ idJ Try.prog ghost_Ghost_Add_kp Try.f8 [.pointer g0, .string key1] Q
theorem ghost_Ghost_Add_raw (jn : Jn) (g0 : Option Addr) (key1 : ByteArray) (Q : Value → WP) : funJ jn Try.prog ghost_Ghost_Add_kp Try.f8 [.pointer g0, .string key1] Q = (
  ite2 (Option.isNone g0) (
  Q (.tuple #[.string str_empty, .bool false])) (
  call1 .bool Try.prog id_ghost_Ghost_Take [.pointer g0, .string key1] fun (x_1 : Bool) =>
  drawW fun S =>
  nilck g0 fun b_2 o_3 =>
  ldS S .ptr b_2 (o_3 + 2) fun (x_4 : Option Addr) =>
  nilck g0 fun b_5 o_6 =>
  ld .ptr b_5 (o_6 + 1) fun (x_7 : Option Addr) =>
  keepS true S <|
  call1 (.int .i64) Try.prog id_list_List_string_PushBack [.pointer x_7, .string key1] fun (x_8 : Int) =>
  keepS true S <|
  call1 .bool Try.prog id_index_Index_int_Put [.pointer x_4, .string key1, .int .i64 x_8] fun (x_9 : Bool) =>
  drawW fun S =>
  nilck g0 fun b_10 o_11 =>
  ldS S .ptr b_10 (o_11 + 1) fun (x_12 : Option Addr) =>
  nilck g0 fun b_13 o_14 =>
  ldS S (.int .i64) b_13 o_14 fun (x_15 : Int) =>
  call1 (.int .i64) Try.prog id_list_List_string_Len [.pointer x_12] fun (x_16 : Int) =>
  keepS true S <|
  ite2 (decide (x_16 ≤ x_15)) (
  Q (.tuple #[.string str_empty, .bool false])) (
  drawW fun S =>
  nilck g0 fun b_17 o_18 =>
  ldS S .ptr b_17 (o_18 + 1) fun (x_19 : Option Addr) =>
  nilck g0 fun b_20 o_21 =>
  ld .ptr b_20 (o_21 + 1) fun (x_22 : Option Addr) =>
  keepS true S <|
  call1 (.int .i64) Try.prog id_list_List_string_Front [.pointer x_22] fun (x_23 : Int) =>
  keepS true S <|
  call2 .str .bool Try.prog id_list_List_string_Get [.pointer x_19, .int .i64 x_23] fun (x_24 : ByteArray) (x_25 : Bool) =>
  call1 .bool Try.prog id_ghost_Ghost_Take [.pointer g0, .string x_24] fun (x_26 : Bool) =>
  Q (.tuple #[.string x_24, .bool x_25])))) := by kernel_rfl
theorem ghost_Ghost_Add_def (g0 : Option Addr) (key1 : ByteArray) (Q : Value → WP) : ghost_Ghost_Add g0 key1 Q = funJ idJ Try.prog ghost_Ghost_Add_kp Try.f8 [.pointer g0, .string key1] Q := rfl
theorem ghost_Ghost_Add_calls {g0 : Option Addr} {key1 : ByteArray} {Q : Value → WP} {w : World} (h : ghost_Ghost_Add g0 key1 Q w) : Calls Try.prog id_ghost_Ghost_Add #[.pointer g0, .string key1] w fun e w' => ∃ v, e = .returned v ∧ Q v w' :=
  funJ_calls mixed Try.func8 rfl h

-- hoard/hoardlaw16.texts
def hoardlaw16_texts_kp : KP := ⟨[(11, [0, 1, 5]), (18, [])], [(6, [0, 1, 2, 3, 4, 5, 6, 8])]⟩
def hoardlaw16_texts_j2 (jn : Jn) (Q : Value → WP)   : WP := jn 18 (fun ρ => codeI Try.prog hoardlaw16_texts_kp jn (cAt [true, true, true] (bodyOf Try.f9)) (retK Try.prog Try.f9 Q) noX (retK Try.prog Try.f9 Q) ρ) (us 26 [])
def hoardlaw16_texts_l1 (jn : Jn) (Q : Value → WP)  (m1 : Nat) (a0 : Sl) (b1 : Sl) (i5 : Int) : WP := lop Try.prog hoardlaw16_texts_kp jn (cAt [true, true, false, true, false, false] (bodyOf Try.f9)) (blkX 0 (seqK Try.prog hoardlaw16_texts_kp jn (cAt [true, true, true] (bodyOf Try.f9)) (retK Try.prog Try.f9 Q) noX (retK Try.prog Try.f9 Q)) noX) (retK Try.prog Try.f9 Q) m1 ((.slice a0.a a0.n a0.c) :: (.slice b1.a b1.n b1.c) :: us 3 ((.int .i64 i5) :: us 20 []))
def hoardlaw16_texts (a0 : Sl) (b1 : Sl) (Q : Value → WP) : WP := funJ idJ Try.prog hoardlaw16_texts_kp Try.f9 [.slice a0.a a0.n a0.c, .slice b1.a b1.n b1.c] Q
theorem hoardlaw16_texts_j2_raw (jn : Jn) (Q : Value → WP)   : codeI Try.prog hoardlaw16_texts_kp jn (cAt [true, true, true] (bodyOf Try.f9)) (retK Try.prog Try.f9 Q) noX (retK Try.prog Try.f9 Q) (us 26 []) = (
  Q (.bool true)) := by kernel_rfl
theorem hoardlaw16_texts_j2_def (Q : Value → WP)   : hoardlaw16_texts_j2 idJ Q   = codeI Try.prog hoardlaw16_texts_kp idJ (cAt [true, true, true] (bodyOf Try.f9)) (retK Try.prog Try.f9 Q) noX (retK Try.prog Try.f9 Q) (us 26 []) := by kernel_rfl
theorem hoardlaw16_texts_l1_raw (jn : Jn) (Q : Value → WP)  (m1 : Nat) (a0 : Sl) (b1 : Sl) (i5 : Int) : hoardlaw16_texts_l1 jn Q  (m1 + 1) a0 b1 i5 = (
  ite2 (decide (i5 < (a0.n : Int))) (
  drawW fun S =>
  idx a0.a a0.n i5 fun b_1 o_2 =>
  ldS S .str b_1 (o_2 + (i5).toNat * 1) fun (x_3 : ByteArray) =>
  idx b1.a b1.n i5 fun b_4 o_5 =>
  ld .str b_4 (o_5 + (i5).toNat * 1) fun (x_6 : ByteArray) =>
  keepS true S <|
  ite2 (!sEq x_3 x_6) (
  Q (.bool false)) (
  hoardlaw16_texts_l1 jn Q  m1 a0 b1 (IntKind.wrap .i64 (i5 + (1 : Int))))) (
  hoardlaw16_texts_j2 jn Q  )) := by kernel_rfl
theorem hoardlaw16_texts_l1_zero (jn : Jn) (Q : Value → WP)  (a0 : Sl) (b1 : Sl) (i5 : Int) : hoardlaw16_texts_l1 jn Q  0 a0 b1 i5 = bot := by kernel_rfl
theorem hoardlaw16_texts_raw (jn : Jn) (a0 : Sl) (b1 : Sl) (Q : Value → WP) : funJ jn Try.prog hoardlaw16_texts_kp Try.f9 [.slice a0.a a0.n a0.c, .slice b1.a b1.n b1.c] Q = (
  ite2 ((a0.n : Int) != (b1.n : Int)) (
  Q (.bool false)) (
  exM fun m => hoardlaw16_texts_l1 jn Q  m a0 b1 (0 : Int))) := by kernel_rfl
theorem hoardlaw16_texts_def (a0 : Sl) (b1 : Sl) (Q : Value → WP) : hoardlaw16_texts a0 b1 Q = funJ idJ Try.prog hoardlaw16_texts_kp Try.f9 [.slice a0.a a0.n a0.c, .slice b1.a b1.n b1.c] Q := rfl
theorem hoardlaw16_texts_calls {a0 : Sl} {b1 : Sl} {Q : Value → WP} {w : World} (h : hoardlaw16_texts a0 b1 Q w) : Calls Try.prog id_hoardlaw16_texts #[.slice a0.a a0.n a0.c, .slice b1.a b1.n b1.c] w fun e w' => ∃ v, e = .returned v ∧ Q v w' :=
  funJ_calls mixed Try.func9 rfl h

-- (*hoard/ghost.Ghost).Keys
def ghost_Ghost_Keys_kp : KP := ⟨[], []⟩
def ghost_Ghost_Keys (g0 : Option Addr) (Q : Value → WP) : WP := funJ idJ Try.prog ghost_Ghost_Keys_kp Try.f10 [.pointer g0] Q
theorem ghost_Ghost_Keys_raw (jn : Jn) (g0 : Option Addr) (Q : Value → WP) : funJ jn Try.prog ghost_Ghost_Keys_kp Try.f10 [.pointer g0] Q = (
  ite2 (Option.isNone g0) (
  Q (.slice (none : Option Addr) 0 0)) (
  nilck g0 fun b_1 o_2 =>
  ld .ptr b_1 (o_2 + 1) fun (x_3 : Option Addr) =>
  call1 .slc Try.prog id_list_List_string_All [.pointer x_3] fun (x_4 : Sl) =>
  Q (.slice x_4.a x_4.n x_4.c))) := by kernel_rfl
theorem ghost_Ghost_Keys_def (g0 : Option Addr) (Q : Value → WP) : ghost_Ghost_Keys g0 Q = funJ idJ Try.prog ghost_Ghost_Keys_kp Try.f10 [.pointer g0] Q := rfl
theorem ghost_Ghost_Keys_calls {g0 : Option Addr} {Q : Value → WP} {w : World} (h : ghost_Ghost_Keys g0 Q w) : Calls Try.prog id_ghost_Ghost_Keys #[.pointer g0] w fun e w' => ∃ v, e = .returned v ∧ Q v w' :=
  funJ_calls mixed Try.func10 rfl h

-- hoard/hoardlaw16.known
def hoardlaw16_known_kp : KP := ⟨[], []⟩
def hoardlaw16_known  (Q : Value → WP) : WP := funJ idJ Try.prog hoardlaw16_known_kp Try.f11 [] Q
theorem hoardlaw16_known_raw (jn : Jn)  (Q : Value → WP) : funJ jn Try.prog hoardlaw16_known_kp Try.f11 [] Q = (
  call1 .ptr Try.prog id_ghost_New [.int .i64 (2 : Int)] fun (x_1 : Option Addr) =>
  ite2 (Option.isNone x_1) (
  Q (.bool false)) (
  call2 .str .bool Try.prog id_ghost_Ghost_Add [.pointer x_1, .string str_a] fun (x_2 : ByteArray) (x_3 : Bool) =>
  call2 .str .bool Try.prog id_ghost_Ghost_Add [.pointer x_1, .string str_b] fun (x_4 : ByteArray) (x_5 : Bool) =>
  call2 .str .bool Try.prog id_ghost_Ghost_Add [.pointer x_1, .string str_a] fun (x_6 : ByteArray) (x_7 : Bool) =>
  call2 .str .bool Try.prog id_ghost_Ghost_Add [.pointer x_1, .string str_c] fun (x_8 : ByteArray) (x_9 : Bool) =>
  ite2 x_9 (
  ite2 (sEq x_8 str_b) (
  call1 .slc Try.prog id_ghost_Ghost_Keys [.pointer x_1] fun (x_10 : Sl) =>
  newB [.string str_a, .string str_c] ty_string fun b_11 =>
  call1 .bool Try.prog id_hoardlaw16_texts [.slice x_10.a x_10.n x_10.c, .slice (some ⟨b_11, 0, none⟩) 2 2] fun (x_12 : Bool) =>
  Q (.bool x_12)) (
  Q (.bool false))) (
  Q (.bool false)))) := by kernel_rfl
theorem hoardlaw16_known_def  (Q : Value → WP) : hoardlaw16_known  Q = funJ idJ Try.prog hoardlaw16_known_kp Try.f11 [] Q := rfl
theorem hoardlaw16_known_calls {Q : Value → WP} {w : World} (h : hoardlaw16_known Q w) : Calls Try.prog id_hoardlaw16_known #[] w fun e w' => ∃ v, e = .returned v ∧ Q v w' :=
  funJ_calls mixed Try.func11 rfl h

-- (*hoard/ghost.Ghost).Has
def ghost_Ghost_Has_kp : KP := ⟨[], []⟩
def ghost_Ghost_Has (g0 : Option Addr) (key1 : ByteArray) (Q : Value → WP) : WP := funJ idJ Try.prog ghost_Ghost_Has_kp Try.f12 [.pointer g0, .string key1] Q
theorem ghost_Ghost_Has_raw (jn : Jn) (g0 : Option Addr) (key1 : ByteArray) (Q : Value → WP) : funJ jn Try.prog ghost_Ghost_Has_kp Try.f12 [.pointer g0, .string key1] Q = (
  ite2 (Option.isNone g0) (
  Q (.bool false)) (
  nilck g0 fun b_1 o_2 =>
  ld .ptr b_1 (o_2 + 2) fun (x_3 : Option Addr) =>
  call2 (.int .i64) .bool Try.prog id_index_Index_int_Get [.pointer x_3, .string key1] fun (x_4 : Int) (x_5 : Bool) =>
  Q (.bool x_5))) := by kernel_rfl
theorem ghost_Ghost_Has_def (g0 : Option Addr) (key1 : ByteArray) (Q : Value → WP) : ghost_Ghost_Has g0 key1 Q = funJ idJ Try.prog ghost_Ghost_Has_kp Try.f12 [.pointer g0, .string key1] Q := rfl
theorem ghost_Ghost_Has_calls {g0 : Option Addr} {key1 : ByteArray} {Q : Value → WP} {w : World} (h : ghost_Ghost_Has g0 key1 Q w) : Calls Try.prog id_ghost_Ghost_Has #[.pointer g0, .string key1] w fun e w' => ∃ v, e = .returned v ∧ Q v w' :=
  funJ_calls mixed Try.func12 rfl h

-- (*hoard/ghost.Ghost).Take
def ghost_Ghost_Take_kp : KP := ⟨[], []⟩
def ghost_Ghost_Take (g0 : Option Addr) (key1 : ByteArray) (Q : Value → WP) : WP := funJ idJ Try.prog ghost_Ghost_Take_kp Try.f13 [.pointer g0, .string key1] Q
theorem ghost_Ghost_Take_raw (jn : Jn) (g0 : Option Addr) (key1 : ByteArray) (Q : Value → WP) : funJ jn Try.prog ghost_Ghost_Take_kp Try.f13 [.pointer g0, .string key1] Q = (
  ite2 (Option.isNone g0) (
  Q (.bool false)) (
  nilck g0 fun b_1 o_2 =>
  ld .ptr b_1 (o_2 + 2) fun (x_3 : Option Addr) =>
  call2 (.int .i64) .bool Try.prog id_index_Index_int_Delete [.pointer x_3, .string key1] fun (x_4 : Int) (x_5 : Bool) =>
  ite2 x_5 (
  nilck g0 fun b_6 o_7 =>
  ld .ptr b_6 (o_7 + 1) fun (x_8 : Option Addr) =>
  call2 .str .bool Try.prog id_list_List_string_Remove [.pointer x_8, .int .i64 x_4] fun (x_9 : ByteArray) (x_10 : Bool) =>
  Q (.bool x_5)) (
  Q (.bool x_5)))) := by kernel_rfl
theorem ghost_Ghost_Take_def (g0 : Option Addr) (key1 : ByteArray) (Q : Value → WP) : ghost_Ghost_Take g0 key1 Q = funJ idJ Try.prog ghost_Ghost_Take_kp Try.f13 [.pointer g0, .string key1] Q := rfl
theorem ghost_Ghost_Take_calls {g0 : Option Addr} {key1 : ByteArray} {Q : Value → WP} {w : World} (h : ghost_Ghost_Take g0 key1 Q w) : Calls Try.prog id_ghost_Ghost_Take #[.pointer g0, .string key1] w fun e w' => ∃ v, e = .returned v ∧ Q v w' :=
  funJ_calls mixed Try.func13 rfl h

-- hoard/hoardlaw16.heavy
def hoardlaw16_heavy_kp : KP := ⟨[(7, [0, 3]), (10, [0, 3]), (14, [])], []⟩
def hoardlaw16_heavy_j2 (jn : Jn) (Q : Value → WP) (m1 : Nat) (l0 : Sl) (i3 : Int) : WP := jn 10 (fun ρ => codeI Try.prog hoardlaw16_heavy_kp jn (cAt [true, false, true, false, false, true] (bodyOf Try.f14)) (lopK Try.prog hoardlaw16_heavy_kp jn (cAt [true, false, true, false, false] (bodyOf Try.f14)) (blkX 0 (seqK Try.prog hoardlaw16_heavy_kp jn (cAt [true, true] (bodyOf Try.f14)) (retK Try.prog Try.f14 Q) noX (retK Try.prog Try.f14 Q)) noX) (retK Try.prog Try.f14 Q) m1) (blkX 0 (seqK Try.prog hoardlaw16_heavy_kp jn (cAt [true, true] (bodyOf Try.f14)) (retK Try.prog Try.f14 Q) noX (retK Try.prog Try.f14 Q)) noX) (retK Try.prog Try.f14 Q) ρ) ((.slice l0.a l0.n l0.c) :: us 2 ((.int .i64 i3) :: us 17 []))
def hoardlaw16_heavy_j3 (jn : Jn) (Q : Value → WP)   : WP := jn 14 (fun ρ => codeI Try.prog hoardlaw16_heavy_kp jn (cAt [true, true] (bodyOf Try.f14)) (retK Try.prog Try.f14 Q) noX (retK Try.prog Try.f14 Q) ρ) (us 21 [])
def hoardlaw16_heavy_l1 (jn : Jn) (Q : Value → WP)  (m1 : Nat) (l0 : Sl) (i3 : Int) : WP := lop Try.prog hoardlaw16_heavy_kp jn (cAt [true, false, true, false, false] (bodyOf Try.f14)) (blkX 0 (seqK Try.prog hoardlaw16_heavy_kp jn (cAt [true, true] (bodyOf Try.f14)) (retK Try.prog Try.f14 Q) noX (retK Try.prog Try.f14 Q)) noX) (retK Try.prog Try.f14 Q) m1 ((.slice l0.a l0.n l0.c) :: us 2 ((.int .i64 i3) :: us 17 []))
def hoardlaw16_heavy (l0 : Sl) (Q : Value → WP) : WP := funJ idJ Try.prog hoardlaw16_heavy_kp Try.f14 [.slice l0.a l0.n l0.c] Q
theorem hoardlaw16_heavy_j2_raw (jn : Jn) (Q : Value → WP) (m1 : Nat) (l0 : Sl) (i3 : Int) : codeI Try.prog hoardlaw16_heavy_kp jn (cAt [true, false, true, false, false, true] (bodyOf Try.f14)) (lopK Try.prog hoardlaw16_heavy_kp jn (cAt [true, false, true, false, false] (bodyOf Try.f14)) (blkX 0 (seqK Try.prog hoardlaw16_heavy_kp jn (cAt [true, true] (bodyOf Try.f14)) (retK Try.prog Try.f14 Q) noX (retK Try.prog Try.f14 Q)) noX) (retK Try.prog Try.f14 Q) m1) (blkX 0 (seqK Try.prog hoardlaw16_heavy_kp jn (cAt [true, true] (bodyOf Try.f14)) (retK Try.prog Try.f14 Q) noX (retK Try.prog Try.f14 Q)) noX) (retK Try.prog Try.f14 Q) ((.slice l0.a l0.n l0.c) :: us 2 ((.int .i64 i3) :: us 17 [])) = (
  idx l0.a l0.n i3 fun b_1 o_2 =>
  ld .str b_1 ((o_2 + (i3).toNat * 2) + 1) fun (x_3 : ByteArray) =>
  ite2 (decide ((x_3.size : Int) > (40 : Int))) (
  Q (.bool true)) (
  hoardlaw16_heavy_l1 jn Q  m1 l0 (IntKind.wrap .i64 (i3 + (1 : Int))))) := by kernel_rfl
theorem hoardlaw16_heavy_j2_def (Q : Value → WP) (m1 : Nat) (l0 : Sl) (i3 : Int) : hoardlaw16_heavy_j2 idJ Q m1 l0 i3 = codeI Try.prog hoardlaw16_heavy_kp idJ (cAt [true, false, true, false, false, true] (bodyOf Try.f14)) (lopK Try.prog hoardlaw16_heavy_kp idJ (cAt [true, false, true, false, false] (bodyOf Try.f14)) (blkX 0 (seqK Try.prog hoardlaw16_heavy_kp idJ (cAt [true, true] (bodyOf Try.f14)) (retK Try.prog Try.f14 Q) noX (retK Try.prog Try.f14 Q)) noX) (retK Try.prog Try.f14 Q) m1) (blkX 0 (seqK Try.prog hoardlaw16_heavy_kp idJ (cAt [true, true] (bodyOf Try.f14)) (retK Try.prog Try.f14 Q) noX (retK Try.prog Try.f14 Q)) noX) (retK Try.prog Try.f14 Q) ((.slice l0.a l0.n l0.c) :: us 2 ((.int .i64 i3) :: us 17 [])) := by kernel_rfl
theorem hoardlaw16_heavy_j3_raw (jn : Jn) (Q : Value → WP)   : codeI Try.prog hoardlaw16_heavy_kp jn (cAt [true, true] (bodyOf Try.f14)) (retK Try.prog Try.f14 Q) noX (retK Try.prog Try.f14 Q) (us 21 []) = (
  Q (.bool false)) := by kernel_rfl
theorem hoardlaw16_heavy_j3_def (Q : Value → WP)   : hoardlaw16_heavy_j3 idJ Q   = codeI Try.prog hoardlaw16_heavy_kp idJ (cAt [true, true] (bodyOf Try.f14)) (retK Try.prog Try.f14 Q) noX (retK Try.prog Try.f14 Q) (us 21 []) := by kernel_rfl
theorem hoardlaw16_heavy_l1_raw (jn : Jn) (Q : Value → WP)  (m1 : Nat) (l0 : Sl) (i3 : Int) : hoardlaw16_heavy_l1 jn Q  (m1 + 1) l0 i3 = (
  ite2 (decide (i3 < (l0.n : Int))) (
  ite2 (decide (i3 < (200 : Int))) (
  hoardlaw16_heavy_j2 jn Q m1 l0 i3) (
  hoardlaw16_heavy_j3 jn Q  )) (
  hoardlaw16_heavy_j3 jn Q  )) := by kernel_rfl
theorem hoardlaw16_heavy_l1_zero (jn : Jn) (Q : Value → WP)  (l0 : Sl) (i3 : Int) : hoardlaw16_heavy_l1 jn Q  0 l0 i3 = bot := by kernel_rfl
theorem hoardlaw16_heavy_raw (jn : Jn) (l0 : Sl) (Q : Value → WP) : funJ jn Try.prog hoardlaw16_heavy_kp Try.f14 [.slice l0.a l0.n l0.c] Q = (
  exM fun m => hoardlaw16_heavy_l1 jn Q  m l0 (0 : Int)) := by kernel_rfl
theorem hoardlaw16_heavy_def (l0 : Sl) (Q : Value → WP) : hoardlaw16_heavy l0 Q = funJ idJ Try.prog hoardlaw16_heavy_kp Try.f14 [.slice l0.a l0.n l0.c] Q := rfl
theorem hoardlaw16_heavy_calls {l0 : Sl} {Q : Value → WP} {w : World} (h : hoardlaw16_heavy l0 Q w) : Calls Try.prog id_hoardlaw16_heavy #[.slice l0.a l0.n l0.c] w fun e w' => ∃ v, e = .returned v ∧ Q v w' :=
  funJ_calls mixed Try.func14 rfl h

-- hoard/hoardref16.New
def hoardref16_New_kp : KP := ⟨[], []⟩
def hoardref16_New (room0 : Int) (Q : Value → WP) : WP := funJ idJ Try.prog hoardref16_New_kp Try.f15 [.int .i64 room0] Q
theorem hoardref16_New_raw (jn : Jn) (room0 : Int) (Q : Value → WP) : funJ jn Try.prog hoardref16_New_kp Try.f15 [.int .i64 room0] Q = (
  newB [.slice (none : Option Addr) 0 0, .int .i64 (if (1024 : Int) < (if (1 : Int) > room0 then (1 : Int) else room0) then (1024 : Int) else (if (1 : Int) > room0 then (1 : Int) else room0))] ty_hoardref16_Ghost fun b_1 =>
  Q (.pointer (some ⟨b_1, 0, none⟩))) := by kernel_rfl
theorem hoardref16_New_def (room0 : Int) (Q : Value → WP) : hoardref16_New room0 Q = funJ idJ Try.prog hoardref16_New_kp Try.f15 [.int .i64 room0] Q := rfl
theorem hoardref16_New_calls {room0 : Int} {Q : Value → WP} {w : World} (h : hoardref16_New room0 Q w) : Calls Try.prog id_hoardref16_New #[.int .i64 room0] w fun e w' => ∃ v, e = .returned v ∧ Q v w' :=
  funJ_calls mixed Try.func15 rfl h

-- (*hoard/hoardref16.Ghost).Add
def hoardref16_Ghost_Add_kp : KP := ⟨[], [(3, [0, 1, 2, 3, 4, 5, 6, 7, 9])]⟩
def hoardref16_Ghost_Add (g0 : Option Addr) (key1 : ByteArray) (Q : Value → WP) : WP := funJ idJ Try.prog hoardref16_Ghost_Add_kp Try.f16 [.pointer g0, .string key1] Q
theorem hoardref16_Ghost_Add_raw (jn : Jn) (g0 : Option Addr) (key1 : ByteArray) (Q : Value → WP) : funJ jn Try.prog hoardref16_Ghost_Add_kp Try.f16 [.pointer g0, .string key1] Q = (
  call1 .bool Try.prog id_hoardref16_Ghost_Take [.pointer g0, .string key1] fun (x_1 : Bool) =>
  nilck g0 fun b_2 o_3 =>
  ld .slc b_2 o_3 fun (x_4 : Sl) =>
  newB [.string key1] ty_string fun b_5 =>
  appendC ty_string 1 16 [.string str_empty] ⟨x_4.a, x_4.n, x_4.c⟩ 1 (fun w => rdA w (some ⟨b_5, 0, none⟩) (1 * 1)) fun s_6 =>
  nilck g0 fun b_7 o_8 =>
  st b_7 o_8 (.slice s_6.a s_6.n s_6.c) <|
  drawW fun S =>
  nilck g0 fun b_9 o_10 =>
  ldS S .slc b_9 o_10 fun (x_11 : Sl) =>
  nilck g0 fun b_12 o_13 =>
  ld (.int .i64) b_12 (o_13 + 1) fun (x_14 : Int) =>
  keepS true S <|
  ite2 (decide ((x_11.n : Int) > x_14)) (
  nilck g0 fun b_15 o_16 =>
  ld .slc b_15 o_16 fun (x_17 : Sl) =>
  idx x_17.a x_17.n (0 : Int) fun b_18 o_19 =>
  ld .str b_18 (o_19 + ((0 : Int)).toNat * 1) fun (x_20 : ByteArray) =>
  newB [] ty_string fun b_21 =>
  nilck g0 fun b_22 o_23 =>
  ld .slc b_22 o_23 fun (x_24 : Sl) =>
  when ((0 : Int) ≤ (1 : Int) ∧ (1 : Int) ≤ (x_24.n : Int)) <|
  appendC ty_string 1 16 [.string str_empty] ⟨(some ⟨b_21, 0, none⟩), 0, 0⟩ (x_24.n - ((1 : Int)).toNat) (fun w => rdA w (subA x_24.a (((1 : Int)).toNat) x_24.c 1) ((x_24.n - ((1 : Int)).toNat) * 1)) fun s_25 =>
  nilck g0 fun b_26 o_27 =>
  st b_26 o_27 (.slice s_25.a s_25.n s_25.c) <|
  Q (.tuple #[.string x_20, .bool true])) (
  Q (.tuple #[.string str_empty, .bool false]))) := by kernel_rfl
theorem hoardref16_Ghost_Add_def (g0 : Option Addr) (key1 : ByteArray) (Q : Value → WP) : hoardref16_Ghost_Add g0 key1 Q = funJ idJ Try.prog hoardref16_Ghost_Add_kp Try.f16 [.pointer g0, .string key1] Q := rfl
theorem hoardref16_Ghost_Add_calls {g0 : Option Addr} {key1 : ByteArray} {Q : Value → WP} {w : World} (h : hoardref16_Ghost_Add g0 key1 Q w) : Calls Try.prog id_hoardref16_Ghost_Add #[.pointer g0, .string key1] w fun e w' => ∃ v, e = .returned v ∧ Q v w' :=
  funJ_calls mixed Try.func16 rfl h

-- (*hoard/hoardref16.Ghost).Take
def hoardref16_Ghost_Take_kp : KP := ⟨[(11, [0, 1, 5, 6, 7]), (18, [0, 5, 6])], []⟩
def hoardref16_Ghost_Take_j2 (jn : Jn) (Q : Value → WP)  (g0 : Option Addr) (was5 : Bool) (l6 : Sl) : WP := jn 18 (fun ρ => codeI Try.prog hoardref16_Ghost_Take_kp jn (cAt [true, true, true, true] (bodyOf Try.f17)) (retK Try.prog Try.f17 Q) noX (retK Try.prog Try.f17 Q) ρ) ((.pointer g0) :: us 4 ((.bool was5) :: (.slice l6.a l6.n l6.c) :: us 37 []))
def hoardref16_Ghost_Take_l1 (jn : Jn) (Q : Value → WP)  (m1 : Nat) (g0 : Option Addr) (key1 : ByteArray) (was5 : Bool) (l6 : Sl) (i7 : Int) : WP := lop Try.prog hoardref16_Ghost_Take_kp jn (cAt [true, true, true, false, true, false, false] (bodyOf Try.f17)) (blkX 0 (seqK Try.prog hoardref16_Ghost_Take_kp jn (cAt [true, true, true, true] (bodyOf Try.f17)) (retK Try.prog Try.f17 Q) noX (retK Try.prog Try.f17 Q)) noX) (retK Try.prog Try.f17 Q) m1 ((.pointer g0) :: (.string key1) :: us 3 ((.bool was5) :: (.slice l6.a l6.n l6.c) :: (.int .i64 i7) :: us 36 []))
def hoardref16_Ghost_Take (g0 : Option Addr) (key1 : ByteArray) (Q : Value → WP) : WP := funJ idJ Try.prog hoardref16_Ghost_Take_kp Try.f17 [.pointer g0, .string key1] Q
theorem hoardref16_Ghost_Take_j2_raw (jn : Jn) (Q : Value → WP)  (g0 : Option Addr) (was5 : Bool) (l6 : Sl) : codeI Try.prog hoardref16_Ghost_Take_kp jn (cAt [true, true, true, true] (bodyOf Try.f17)) (retK Try.prog Try.f17 Q) noX (retK Try.prog Try.f17 Q) ((.pointer g0) :: us 4 ((.bool was5) :: (.slice l6.a l6.n l6.c) :: us 37 [])) = (
  nilck g0 fun b_19 o_20 =>
  st b_19 o_20 (.slice l6.a l6.n l6.c) <|
  Q (.bool was5)) := by kernel_rfl
theorem hoardref16_Ghost_Take_j2_def (Q : Value → WP)  (g0 : Option Addr) (was5 : Bool) (l6 : Sl) : hoardref16_Ghost_Take_j2 idJ Q  g0 was5 l6 = codeI Try.prog hoardref16_Ghost_Take_kp idJ (cAt [true, true, true, true] (bodyOf Try.f17)) (retK Try.prog Try.f17 Q) noX (retK Try.prog Try.f17 Q) ((.pointer g0) :: us 4 ((.bool was5) :: (.slice l6.a l6.n l6.c) :: us 37 [])) := by kernel_rfl
theorem hoardref16_Ghost_Take_l1_raw (jn : Jn) (Q : Value → WP)  (m1 : Nat) (g0 : Option Addr) (key1 : ByteArray) (was5 : Bool) (l6 : Sl) (i7 : Int) : hoardref16_Ghost_Take_l1 jn Q  (m1 + 1) g0 key1 was5 l6 i7 = (
  nilck g0 fun b_2 o_3 =>
  ld .slc b_2 o_3 fun (x_4 : Sl) =>
  ite2 (decide (i7 < (x_4.n : Int))) (
  nilck g0 fun b_5 o_6 =>
  ld .slc b_5 o_6 fun (x_7 : Sl) =>
  idx x_7.a x_7.n i7 fun b_8 o_9 =>
  ld .str b_8 (o_9 + (i7).toNat * 1) fun (x_10 : ByteArray) =>
  ite2 (!sEq x_10 key1) (
  nilck g0 fun b_11 o_12 =>
  ld .slc b_11 o_12 fun (x_13 : Sl) =>
  idx x_13.a x_13.n i7 fun b_14 o_15 =>
  ld .str b_14 (o_15 + (i7).toNat * 1) fun (x_16 : ByteArray) =>
  newB [.string x_16] ty_string fun b_17 =>
  appendC ty_string 1 16 [.string str_empty] ⟨l6.a, l6.n, l6.c⟩ 1 (fun w => rdA w (some ⟨b_17, 0, none⟩) (1 * 1)) fun s_18 =>
  hoardref16_Ghost_Take_l1 jn Q  m1 g0 key1 was5 s_18 (IntKind.wrap .i64 (i7 + (1 : Int)))) (
  hoardref16_Ghost_Take_l1 jn Q  m1 g0 key1 was5 l6 (IntKind.wrap .i64 (i7 + (1 : Int))))) (
  hoardref16_Ghost_Take_j2 jn Q  g0 was5 l6)) := by kernel_rfl
theorem hoardref16_Ghost_Take_l1_zero (jn : Jn) (Q : Value → WP)  (g0 : Option Addr) (key1 : ByteArray) (was5 : Bool) (l6 : Sl) (i7 : Int) : hoardref16_Ghost_Take_l1 jn Q  0 g0 key1 was5 l6 i7 = bot := by kernel_rfl
theorem hoardref16_Ghost_Take_raw (jn : Jn) (g0 : Option Addr) (key1 : ByteArray) (Q : Value → WP) : funJ jn Try.prog hoardref16_Ghost_Take_kp Try.f17 [.pointer g0, .string key1] Q = (
  call1 .bool Try.prog id_hoardref16_Ghost_Has [.pointer g0, .string key1] fun (x_1 : Bool) =>
  exM fun m => hoardref16_Ghost_Take_l1 jn Q  m g0 key1 x_1 ⟨(none : Option Addr), 0, 0⟩ (0 : Int)) := by kernel_rfl
theorem hoardref16_Ghost_Take_def (g0 : Option Addr) (key1 : ByteArray) (Q : Value → WP) : hoardref16_Ghost_Take g0 key1 Q = funJ idJ Try.prog hoardref16_Ghost_Take_kp Try.f17 [.pointer g0, .string key1] Q := rfl
theorem hoardref16_Ghost_Take_calls {g0 : Option Addr} {key1 : ByteArray} {Q : Value → WP} {w : World} (h : hoardref16_Ghost_Take g0 key1 Q w) : Calls Try.prog id_hoardref16_Ghost_Take #[.pointer g0, .string key1] w fun e w' => ∃ v, e = .returned v ∧ Q v w' :=
  funJ_calls mixed Try.func17 rfl h

-- (*hoard/hoardref16.Ghost).Has
def hoardref16_Ghost_Has_kp : KP := ⟨[(7, [0, 1, 5]), (14, [])], []⟩
def hoardref16_Ghost_Has_j2 (jn : Jn) (Q : Value → WP)   : WP := jn 14 (fun ρ => codeI Try.prog hoardref16_Ghost_Has_kp jn (cAt [true, true] (bodyOf Try.f18)) (retK Try.prog Try.f18 Q) noX (retK Try.prog Try.f18 Q) ρ) (us 24 [])
def hoardref16_Ghost_Has_l1 (jn : Jn) (Q : Value → WP)  (m1 : Nat) (g0 : Option Addr) (key1 : ByteArray) (i5 : Int) : WP := lop Try.prog hoardref16_Ghost_Has_kp jn (cAt [true, false, true, false, false] (bodyOf Try.f18)) (blkX 0 (seqK Try.prog hoardref16_Ghost_Has_kp jn (cAt [true, true] (bodyOf Try.f18)) (retK Try.prog Try.f18 Q) noX (retK Try.prog Try.f18 Q)) noX) (retK Try.prog Try.f18 Q) m1 ((.pointer g0) :: (.string key1) :: us 3 ((.int .i64 i5) :: us 18 []))
def hoardref16_Ghost_Has (g0 : Option Addr) (key1 : ByteArray) (Q : Value → WP) : WP := funJ idJ Try.prog hoardref16_Ghost_Has_kp Try.f18 [.pointer g0, .string key1] Q
theorem hoardref16_Ghost_Has_j2_raw (jn : Jn) (Q : Value → WP)   : codeI Try.prog hoardref16_Ghost_Has_kp jn (cAt [true, true] (bodyOf Try.f18)) (retK Try.prog Try.f18 Q) noX (retK Try.prog Try.f18 Q) (us 24 []) = (
  Q (.bool false)) := by kernel_rfl
theorem hoardref16_Ghost_Has_j2_def (Q : Value → WP)   : hoardref16_Ghost_Has_j2 idJ Q   = codeI Try.prog hoardref16_Ghost_Has_kp idJ (cAt [true, true] (bodyOf Try.f18)) (retK Try.prog Try.f18 Q) noX (retK Try.prog Try.f18 Q) (us 24 []) := by kernel_rfl
theorem hoardref16_Ghost_Has_l1_raw (jn : Jn) (Q : Value → WP)  (m1 : Nat) (g0 : Option Addr) (key1 : ByteArray) (i5 : Int) : hoardref16_Ghost_Has_l1 jn Q  (m1 + 1) g0 key1 i5 = (
  nilck g0 fun b_1 o_2 =>
  ld .slc b_1 o_2 fun (x_3 : Sl) =>
  ite2 (decide (i5 < (x_3.n : Int))) (
  nilck g0 fun b_4 o_5 =>
  ld .slc b_4 o_5 fun (x_6 : Sl) =>
  idx x_6.a x_6.n i5 fun b_7 o_8 =>
  ld .str b_7 (o_8 + (i5).toNat * 1) fun (x_9 : ByteArray) =>
  ite2 (sEq x_9 key1) (
  Q (.bool true)) (
  hoardref16_Ghost_Has_l1 jn Q  m1 g0 key1 (IntKind.wrap .i64 (i5 + (1 : Int))))) (
  hoardref16_Ghost_Has_j2 jn Q  )) := by kernel_rfl
theorem hoardref16_Ghost_Has_l1_zero (jn : Jn) (Q : Value → WP)  (g0 : Option Addr) (key1 : ByteArray) (i5 : Int) : hoardref16_Ghost_Has_l1 jn Q  0 g0 key1 i5 = bot := by kernel_rfl
theorem hoardref16_Ghost_Has_raw (jn : Jn) (g0 : Option Addr) (key1 : ByteArray) (Q : Value → WP) : funJ jn Try.prog hoardref16_Ghost_Has_kp Try.f18 [.pointer g0, .string key1] Q = (
  exM fun m => hoardref16_Ghost_Has_l1 jn Q  m g0 key1 (0 : Int)) := by kernel_rfl
theorem hoardref16_Ghost_Has_def (g0 : Option Addr) (key1 : ByteArray) (Q : Value → WP) : hoardref16_Ghost_Has g0 key1 Q = funJ idJ Try.prog hoardref16_Ghost_Has_kp Try.f18 [.pointer g0, .string key1] Q := rfl
theorem hoardref16_Ghost_Has_calls {g0 : Option Addr} {key1 : ByteArray} {Q : Value → WP} {w : World} (h : hoardref16_Ghost_Has g0 key1 Q w) : Calls Try.prog id_hoardref16_Ghost_Has #[.pointer g0, .string key1] w fun e w' => ∃ v, e = .returned v ∧ Q v w' :=
  funJ_calls mixed Try.func18 rfl h

-- (*hoard/ghost.Ghost).Len
def ghost_Ghost_Len_kp : KP := ⟨[], []⟩
def ghost_Ghost_Len (g0 : Option Addr) (Q : Value → WP) : WP := funJ idJ Try.prog ghost_Ghost_Len_kp Try.f19 [.pointer g0] Q
theorem ghost_Ghost_Len_raw (jn : Jn) (g0 : Option Addr) (Q : Value → WP) : funJ jn Try.prog ghost_Ghost_Len_kp Try.f19 [.pointer g0] Q = (
  ite2 (Option.isNone g0) (
  Q (.int .i64 (0 : Int))) (
  nilck g0 fun b_1 o_2 =>
  ld .ptr b_1 (o_2 + 1) fun (x_3 : Option Addr) =>
  call1 (.int .i64) Try.prog id_list_List_string_Len [.pointer x_3] fun (x_4 : Int) =>
  Q (.int .i64 x_4))) := by kernel_rfl
theorem ghost_Ghost_Len_def (g0 : Option Addr) (Q : Value → WP) : ghost_Ghost_Len g0 Q = funJ idJ Try.prog ghost_Ghost_Len_kp Try.f19 [.pointer g0] Q := rfl
theorem ghost_Ghost_Len_calls {g0 : Option Addr} {Q : Value → WP} {w : World} (h : ghost_Ghost_Len g0 Q w) : Calls Try.prog id_ghost_Ghost_Len #[.pointer g0] w fun e w' => ∃ v, e = .returned v ∧ Q v w' :=
  funJ_calls mixed Try.func19 rfl h

-- hoard/fix.Clamp
def fix_Clamp_kp : KP := ⟨[], []⟩
def fix_Clamp (n0 : Int) (low1 : Int) (high2 : Int) (Q : Value → WP) : WP := funJ idJ Try.prog fix_Clamp_kp Try.f20 [.int .i64 n0, .int .i64 low1, .int .i64 high2] Q
theorem fix_Clamp_raw (jn : Jn) (n0 : Int) (low1 : Int) (high2 : Int) (Q : Value → WP) : funJ jn Try.prog fix_Clamp_kp Try.f20 [.int .i64 n0, .int .i64 low1, .int .i64 high2] Q = (
  Q (.int .i64 (if high2 < (if low1 > n0 then low1 else n0) then high2 else (if low1 > n0 then low1 else n0)))) := by kernel_rfl
theorem fix_Clamp_def (n0 : Int) (low1 : Int) (high2 : Int) (Q : Value → WP) : fix_Clamp n0 low1 high2 Q = funJ idJ Try.prog fix_Clamp_kp Try.f20 [.int .i64 n0, .int .i64 low1, .int .i64 high2] Q := rfl
theorem fix_Clamp_calls {n0 : Int} {low1 : Int} {high2 : Int} {Q : Value → WP} {w : World} (h : fix_Clamp n0 low1 high2 Q w) : Calls Try.prog id_fix_Clamp #[.int .i64 n0, .int .i64 low1, .int .i64 high2] w fun e w' => ∃ v, e = .returned v ∧ Q v w' :=
  funJ_calls mixed Try.func20 rfl h

-- hoard/list.New[string]
def list_New_string_kp : KP := ⟨[], []⟩
def list_New_string  (Q : Value → WP) : WP := funJ idJ Try.prog list_New_string_kp Try.f21 [] Q
theorem list_New_string_raw (jn : Jn)  (Q : Value → WP) : funJ jn Try.prog list_New_string_kp Try.f21 [] Q = (
  makeC ty_list_link_string 40 [.string str_empty, .int .i64 (0 : Int), .int .i64 (0 : Int), .bool false] (1 : Int) (1 : Int) fun s_1 =>
  newB [.slice s_1.a s_1.n s_1.c, .slice (none : Option Addr) 0 0, .int .i64 (0 : Int)] ty_list_List_string fun b_2 =>
  Q (.pointer (some ⟨b_2, 0, none⟩))) := by kernel_rfl
theorem list_New_string_def  (Q : Value → WP) : list_New_string  Q = funJ idJ Try.prog list_New_string_kp Try.f21 [] Q := rfl
theorem list_New_string_calls {Q : Value → WP} {w : World} (h : list_New_string Q w) : Calls Try.prog id_list_New_string #[] w fun e w' => ∃ v, e = .returned v ∧ Q v w' :=
  funJ_calls mixed Try.func21 rfl h

-- hoard/index.New[int]
def index_New_int_kp : KP := ⟨[], []⟩
def index_New_int (seed0 : Int) (Q : Value → WP) : WP := funJ idJ Try.prog index_New_int_kp Try.f22 [.int .u64 seed0] Q
theorem index_New_int_raw (jn : Jn) (seed0 : Int) (Q : Value → WP) : funJ jn Try.prog index_New_int_kp Try.f22 [.int .u64 seed0] Q = (
  makeC ty_index_place_int 32 [.int .i64 (0 : Int), .string str_empty, .int .i64 (0 : Int)] (8 : Int) (8 : Int) fun s_1 =>
  newB [.int .u64 seed0, .slice s_1.a s_1.n s_1.c, .int .i64 (0 : Int), .int .i64 (0 : Int)] ty_index_Index_int fun b_2 =>
  Q (.pointer (some ⟨b_2, 0, none⟩))) := by kernel_rfl
theorem index_New_int_def (seed0 : Int) (Q : Value → WP) : index_New_int seed0 Q = funJ idJ Try.prog index_New_int_kp Try.f22 [.int .u64 seed0] Q := rfl
theorem index_New_int_calls {seed0 : Int} {Q : Value → WP} {w : World} (h : index_New_int seed0 Q w) : Calls Try.prog id_index_New_int #[.int .u64 seed0] w fun e w' => ∃ v, e = .returned v ∧ Q v w' :=
  funJ_calls mixed Try.func22 rfl h

-- (*hoard/index.Index[int]).Put
def index_Index_int_Put_kp : KP := ⟨[], [(8, [0, 1, 2, 3, 4, 5, 6, 7, 9, 10])]⟩
def index_Index_int_Put (x0 : Option Addr) (key1 : ByteArray) (v2 : Int) (Q : Value → WP) : WP := funJ idJ Try.prog index_Index_int_Put_kp Try.f23 [.pointer x0, .string key1, .int .i64 v2] Q
theorem index_Index_int_Put_raw (jn : Jn) (x0 : Option Addr) (key1 : ByteArray) (v2 : Int) (Q : Value → WP) : funJ jn Try.prog index_Index_int_Put_kp Try.f23 [.pointer x0, .string key1, .int .i64 v2] Q = (
  ite2 (Option.isNone x0) (
  Q (.bool false)) (
  call2 (.int .i64) .bool Try.prog id_index_Index_int_find [.pointer x0, .string key1] fun (x_1 : Int) (x_2 : Bool) =>
  ite2 x_2 (
  nilck x0 fun b_3 o_4 =>
  ld .slc b_3 (o_4 + 1) fun (x_5 : Sl) =>
  idx x_5.a x_5.n x_1 fun b_6 o_7 =>
  st b_6 ((o_7 + (x_1).toNat * 3) + 2) (.int .i64 v2) <|
  Q (.bool false)) (
  call0 Try.prog id_index_Index_int_lays [.pointer x0, .int .i64 x_1, .string key1, .int .i64 v2] <|
  drawW fun S =>
  nilck x0 fun b_8 o_9 =>
  ldS S (.int .i64) b_8 (o_9 + 3) fun (x_10 : Int) =>
  nilck x0 fun b_11 o_12 =>
  ld .slc b_11 (o_12 + 1) fun (x_13 : Sl) =>
  keepS true S <|
  ite2 (decide ((IntKind.wrap .i64 ((2 : Int) * x_10)) > (x_13.n : Int))) (
  call0 Try.prog id_index_Index_int_grows [.pointer x0] <|
  Q (.bool true)) (
  Q (.bool true))))) := by kernel_rfl
theorem index_Index_int_Put_def (x0 : Option Addr) (key1 : ByteArray) (v2 : Int) (Q : Value → WP) : index_Index_int_Put x0 key1 v2 Q = funJ idJ Try.prog index_Index_int_Put_kp Try.f23 [.pointer x0, .string key1, .int .i64 v2] Q := rfl
theorem index_Index_int_Put_calls {x0 : Option Addr} {key1 : ByteArray} {v2 : Int} {Q : Value → WP} {w : World} (h : index_Index_int_Put x0 key1 v2 Q w) : Calls Try.prog id_index_Index_int_Put #[.pointer x0, .string key1, .int .i64 v2] w fun e w' => ∃ v, e = .returned v ∧ Q v w' :=
  funJ_calls mixed Try.func23 rfl h

-- (*hoard/list.List[string]).PushBack
def list_List_string_PushBack_kp : KP := ⟨[], []⟩
def list_List_string_PushBack (l0 : Option Addr) (v1 : ByteArray) (Q : Value → WP) : WP := funJ idJ Try.prog list_List_string_PushBack_kp Try.f24 [.pointer l0, .string v1] Q
theorem list_List_string_PushBack_raw (jn : Jn) (l0 : Option Addr) (v1 : ByteArray) (Q : Value → WP) : funJ jn Try.prog list_List_string_PushBack_kp Try.f24 [.pointer l0, .string v1] Q = (
  ite2 (Option.isNone l0) (
  Q (.int .i64 (0 : Int))) (
  call1 (.int .i64) Try.prog id_list_List_string_take [.pointer l0, .string v1] fun (x_1 : Int) =>
  nilck l0 fun b_2 o_3 =>
  ld .slc b_2 o_3 fun (x_4 : Sl) =>
  idx x_4.a x_4.n (0 : Int) fun b_5 o_6 =>
  ld (.int .i64) b_5 ((o_6 + ((0 : Int)).toNat * 4) + 1) fun (x_7 : Int) =>
  call0 Try.prog id_list_List_string_lays [.pointer l0, .int .i64 x_1, .int .i64 x_7, .int .i64 (0 : Int)] <|
  Q (.int .i64 x_1))) := by kernel_rfl
theorem list_List_string_PushBack_def (l0 : Option Addr) (v1 : ByteArray) (Q : Value → WP) : list_List_string_PushBack l0 v1 Q = funJ idJ Try.prog list_List_string_PushBack_kp Try.f24 [.pointer l0, .string v1] Q := rfl
theorem list_List_string_PushBack_calls {l0 : Option Addr} {v1 : ByteArray} {Q : Value → WP} {w : World} (h : list_List_string_PushBack l0 v1 Q w) : Calls Try.prog id_list_List_string_PushBack #[.pointer l0, .string v1] w fun e w' => ∃ v, e = .returned v ∧ Q v w' :=
  funJ_calls mixed Try.func24 rfl h

-- (*hoard/list.List[string]).Len
def list_List_string_Len_kp : KP := ⟨[], []⟩
def list_List_string_Len (l0 : Option Addr) (Q : Value → WP) : WP := funJ idJ Try.prog list_List_string_Len_kp Try.f25 [.pointer l0] Q
theorem list_List_string_Len_raw (jn : Jn) (l0 : Option Addr) (Q : Value → WP) : funJ jn Try.prog list_List_string_Len_kp Try.f25 [.pointer l0] Q = (
  ite2 (Option.isNone l0) (
  Q (.int .i64 (0 : Int))) (
  nilck l0 fun b_1 o_2 =>
  ld (.int .i64) b_1 (o_2 + 2) fun (x_3 : Int) =>
  Q (.int .i64 x_3))) := by kernel_rfl
theorem list_List_string_Len_def (l0 : Option Addr) (Q : Value → WP) : list_List_string_Len l0 Q = funJ idJ Try.prog list_List_string_Len_kp Try.f25 [.pointer l0] Q := rfl
theorem list_List_string_Len_calls {l0 : Option Addr} {Q : Value → WP} {w : World} (h : list_List_string_Len l0 Q w) : Calls Try.prog id_list_List_string_Len #[.pointer l0] w fun e w' => ∃ v, e = .returned v ∧ Q v w' :=
  funJ_calls mixed Try.func25 rfl h

-- (*hoard/list.List[string]).Get
def list_List_string_Get_kp : KP := ⟨[], []⟩
def list_List_string_Get (l0 : Option Addr) (h1 : Int) (Q : Value → WP) : WP := funJ idJ Try.prog list_List_string_Get_kp Try.f26 [.pointer l0, .int .i64 h1] Q
theorem list_List_string_Get_raw (jn : Jn) (l0 : Option Addr) (h1 : Int) (Q : Value → WP) : funJ jn Try.prog list_List_string_Get_kp Try.f26 [.pointer l0, .int .i64 h1] Q = (
  call1 .bool Try.prog id_list_List_string_has [.pointer l0, .int .i64 h1] fun (x_1 : Bool) =>
  ite2 (!x_1) (
  Q (.tuple #[.string str_empty, .bool false])) (
  nilck l0 fun b_2 o_3 =>
  ld .slc b_2 o_3 fun (x_4 : Sl) =>
  idx x_4.a x_4.n h1 fun b_5 o_6 =>
  ld .str b_5 (o_6 + (h1).toNat * 4) fun (x_7 : ByteArray) =>
  Q (.tuple #[.string x_7, .bool true]))) := by kernel_rfl
theorem list_List_string_Get_def (l0 : Option Addr) (h1 : Int) (Q : Value → WP) : list_List_string_Get l0 h1 Q = funJ idJ Try.prog list_List_string_Get_kp Try.f26 [.pointer l0, .int .i64 h1] Q := rfl
theorem list_List_string_Get_calls {l0 : Option Addr} {h1 : Int} {Q : Value → WP} {w : World} (h : list_List_string_Get l0 h1 Q w) : Calls Try.prog id_list_List_string_Get #[.pointer l0, .int .i64 h1] w fun e w' => ∃ v, e = .returned v ∧ Q v w' :=
  funJ_calls mixed Try.func26 rfl h

-- (*hoard/list.List[string]).Front
def list_List_string_Front_kp : KP := ⟨[], []⟩
def list_List_string_Front (l0 : Option Addr) (Q : Value → WP) : WP := funJ idJ Try.prog list_List_string_Front_kp Try.f27 [.pointer l0] Q
theorem list_List_string_Front_raw (jn : Jn) (l0 : Option Addr) (Q : Value → WP) : funJ jn Try.prog list_List_string_Front_kp Try.f27 [.pointer l0] Q = (
  ite2 (Option.isNone l0) (
  Q (.int .i64 (0 : Int))) (
  nilck l0 fun b_1 o_2 =>
  ld .slc b_1 o_2 fun (x_3 : Sl) =>
  idx x_3.a x_3.n (0 : Int) fun b_4 o_5 =>
  ld (.int .i64) b_4 ((o_5 + ((0 : Int)).toNat * 4) + 2) fun (x_6 : Int) =>
  Q (.int .i64 x_6))) := by kernel_rfl
theorem list_List_string_Front_def (l0 : Option Addr) (Q : Value → WP) : list_List_string_Front l0 Q = funJ idJ Try.prog list_List_string_Front_kp Try.f27 [.pointer l0] Q := rfl
theorem list_List_string_Front_calls {l0 : Option Addr} {Q : Value → WP} {w : World} (h : list_List_string_Front l0 Q w) : Calls Try.prog id_list_List_string_Front #[.pointer l0] w fun e w' => ∃ v, e = .returned v ∧ Q v w' :=
  funJ_calls mixed Try.func27 rfl h

-- (*hoard/list.List[string]).All
def list_List_string_All_kp : KP := ⟨[(9, [0, 3, 4]), (14, [3])], []⟩
def list_List_string_All_j2 (jn : Jn) (Q : Value → WP)  (all3 : Sl) : WP := jn 14 (fun ρ => codeI Try.prog list_List_string_All_kp jn (cAt [true, true, true] (bodyOf Try.f28)) (retK Try.prog Try.f28 Q) noX (retK Try.prog Try.f28 Q) ρ) (us 3 ((.slice all3.a all3.n all3.c) :: us 20 []))
def list_List_string_All_l1 (jn : Jn) (Q : Value → WP)  (m1 : Nat) (l0 : Option Addr) (all3 : Sl) (h4 : Int) : WP := lop Try.prog list_List_string_All_kp jn (cAt [true, true, false, true, false, false] (bodyOf Try.f28)) (blkX 0 (seqK Try.prog list_List_string_All_kp jn (cAt [true, true, true] (bodyOf Try.f28)) (retK Try.prog Try.f28 Q) noX (retK Try.prog Try.f28 Q)) noX) (retK Try.prog Try.f28 Q) m1 ((.pointer l0) :: us 2 ((.slice all3.a all3.n all3.c) :: (.int .i64 h4) :: us 19 []))
def list_List_string_All (l0 : Option Addr) (Q : Value → WP) : WP := funJ idJ Try.prog list_List_string_All_kp Try.f28 [.pointer l0] Q
theorem list_List_string_All_j2_raw (jn : Jn) (Q : Value → WP)  (all3 : Sl) : codeI Try.prog list_List_string_All_kp jn (cAt [true, true, true] (bodyOf Try.f28)) (retK Try.prog Try.f28 Q) noX (retK Try.prog Try.f28 Q) (us 3 ((.slice all3.a all3.n all3.c) :: us 20 [])) = (
  Q (.slice all3.a all3.n all3.c)) := by kernel_rfl
theorem list_List_string_All_j2_def (Q : Value → WP)  (all3 : Sl) : list_List_string_All_j2 idJ Q  all3 = codeI Try.prog list_List_string_All_kp idJ (cAt [true, true, true] (bodyOf Try.f28)) (retK Try.prog Try.f28 Q) noX (retK Try.prog Try.f28 Q) (us 3 ((.slice all3.a all3.n all3.c) :: us 20 [])) := by kernel_rfl
theorem list_List_string_All_l1_raw (jn : Jn) (Q : Value → WP)  (m1 : Nat) (l0 : Option Addr) (all3 : Sl) (h4 : Int) : list_List_string_All_l1 jn Q  (m1 + 1) l0 all3 h4 = (
  ite2 (h4 != (0 : Int)) (
  nilck l0 fun b_2 o_3 =>
  ld .slc b_2 o_3 fun (x_4 : Sl) =>
  idx x_4.a x_4.n h4 fun b_5 o_6 =>
  ld .str b_5 (o_6 + (h4).toNat * 4) fun (x_7 : ByteArray) =>
  newB [.string x_7] ty_string fun b_8 =>
  appendC ty_string 1 16 [.string str_empty] ⟨all3.a, all3.n, all3.c⟩ 1 (fun w => rdA w (some ⟨b_8, 0, none⟩) (1 * 1)) fun s_9 =>
  call1 (.int .i64) Try.prog id_list_List_string_Next [.pointer l0, .int .i64 h4] fun (x_10 : Int) =>
  list_List_string_All_l1 jn Q  m1 l0 s_9 x_10) (
  list_List_string_All_j2 jn Q  all3)) := by kernel_rfl
theorem list_List_string_All_l1_zero (jn : Jn) (Q : Value → WP)  (l0 : Option Addr) (all3 : Sl) (h4 : Int) : list_List_string_All_l1 jn Q  0 l0 all3 h4 = bot := by kernel_rfl
theorem list_List_string_All_raw (jn : Jn) (l0 : Option Addr) (Q : Value → WP) : funJ jn Try.prog list_List_string_All_kp Try.f28 [.pointer l0] Q = (
  call1 (.int .i64) Try.prog id_list_List_string_Front [.pointer l0] fun (x_1 : Int) =>
  exM fun m => list_List_string_All_l1 jn Q  m l0 ⟨(none : Option Addr), 0, 0⟩ x_1) := by kernel_rfl
theorem list_List_string_All_def (l0 : Option Addr) (Q : Value → WP) : list_List_string_All l0 Q = funJ idJ Try.prog list_List_string_All_kp Try.f28 [.pointer l0] Q := rfl
theorem list_List_string_All_calls {l0 : Option Addr} {Q : Value → WP} {w : World} (h : list_List_string_All l0 Q w) : Calls Try.prog id_list_List_string_All #[.pointer l0] w fun e w' => ∃ v, e = .returned v ∧ Q v w' :=
  funJ_calls mixed Try.func28 rfl h

-- (*hoard/index.Index[int]).Get
def index_Index_int_Get_kp : KP := ⟨[], []⟩
def index_Index_int_Get (x0 : Option Addr) (key1 : ByteArray) (Q : Value → WP) : WP := funJ idJ Try.prog index_Index_int_Get_kp Try.f29 [.pointer x0, .string key1] Q
theorem index_Index_int_Get_raw (jn : Jn) (x0 : Option Addr) (key1 : ByteArray) (Q : Value → WP) : funJ jn Try.prog index_Index_int_Get_kp Try.f29 [.pointer x0, .string key1] Q = (
  ite2 (!Option.isNone x0) (
  call2 (.int .i64) .bool Try.prog id_index_Index_int_find [.pointer x0, .string key1] fun (x_1 : Int) (x_2 : Bool) =>
  ite2 x_2 (
  nilck x0 fun b_3 o_4 =>
  ld .slc b_3 (o_4 + 1) fun (x_5 : Sl) =>
  idx x_5.a x_5.n x_1 fun b_6 o_7 =>
  ld (.int .i64) b_6 ((o_7 + (x_1).toNat * 3) + 2) fun (x_8 : Int) =>
  Q (.tuple #[.int .i64 x_8, .bool true])) (
  Q (.tuple #[.int .i64 (0 : Int), .bool false]))) (
  Q (.tuple #[.int .i64 (0 : Int), .bool false]))) := by kernel_rfl
theorem index_Index_int_Get_def (x0 : Option Addr) (key1 : ByteArray) (Q : Value → WP) : index_Index_int_Get x0 key1 Q = funJ idJ Try.prog index_Index_int_Get_kp Try.f29 [.pointer x0, .string key1] Q := rfl
theorem index_Index_int_Get_calls {x0 : Option Addr} {key1 : ByteArray} {Q : Value → WP} {w : World} (h : index_Index_int_Get x0 key1 Q w) : Calls Try.prog id_index_Index_int_Get #[.pointer x0, .string key1] w fun e w' => ∃ v, e = .returned v ∧ Q v w' :=
  funJ_calls mixed Try.func29 rfl h

-- (*hoard/index.Index[int]).Delete
def index_Index_int_Delete_kp : KP := ⟨[], []⟩
def index_Index_int_Delete (x0 : Option Addr) (key1 : ByteArray) (Q : Value → WP) : WP := funJ idJ Try.prog index_Index_int_Delete_kp Try.f30 [.pointer x0, .string key1] Q
theorem index_Index_int_Delete_raw (jn : Jn) (x0 : Option Addr) (key1 : ByteArray) (Q : Value → WP) : funJ jn Try.prog index_Index_int_Delete_kp Try.f30 [.pointer x0, .string key1] Q = (
  call2 (.int .i64) .bool Try.prog id_index_Index_int_Get [.pointer x0, .string key1] fun (x_1 : Int) (x_2 : Bool) =>
  ite2 x_2 (
  call2 (.int .i64) .bool Try.prog id_index_Index_int_find [.pointer x0, .string key1] fun (x_3 : Int) (x_4 : Bool) =>
  nilck x0 fun b_5 o_6 =>
  ld .slc b_5 (o_6 + 1) fun (x_7 : Sl) =>
  idx x_7.a x_7.n x_3 fun b_8 o_9 =>
  st b_8 (o_9 + (x_3).toNat * 3) (.int .i64 (1 : Int)) <|
  st b_8 ((o_9 + (x_3).toNat * 3) + 1) (.string str_empty) <|
  st b_8 (((o_9 + (x_3).toNat * 3) + 1) + 1) (.int .i64 (0 : Int)) <|
  nilck x0 fun b_10 o_11 =>
  ld (.int .i64) b_10 (o_11 + 2) fun (x_12 : Int) =>
  nilck x0 fun b_13 o_14 =>
  st b_13 (o_14 + 2) (.int .i64 (IntKind.wrap .i64 (x_12 - (1 : Int)))) <|
  Q (.tuple #[.int .i64 x_1, .bool x_2])) (
  Q (.tuple #[.int .i64 x_1, .bool x_2]))) := by kernel_rfl
theorem index_Index_int_Delete_def (x0 : Option Addr) (key1 : ByteArray) (Q : Value → WP) : index_Index_int_Delete x0 key1 Q = funJ idJ Try.prog index_Index_int_Delete_kp Try.f30 [.pointer x0, .string key1] Q := rfl
theorem index_Index_int_Delete_calls {x0 : Option Addr} {key1 : ByteArray} {Q : Value → WP} {w : World} (h : index_Index_int_Delete x0 key1 Q w) : Calls Try.prog id_index_Index_int_Delete #[.pointer x0, .string key1] w fun e w' => ∃ v, e = .returned v ∧ Q v w' :=
  funJ_calls mixed Try.func30 rfl h

-- (*hoard/list.List[string]).Remove
def list_List_string_Remove_kp : KP := ⟨[], []⟩
def list_List_string_Remove (l0 : Option Addr) (h1 : Int) (Q : Value → WP) : WP := funJ idJ Try.prog list_List_string_Remove_kp Try.f31 [.pointer l0, .int .i64 h1] Q
theorem list_List_string_Remove_raw (jn : Jn) (l0 : Option Addr) (h1 : Int) (Q : Value → WP) : funJ jn Try.prog list_List_string_Remove_kp Try.f31 [.pointer l0, .int .i64 h1] Q = (
  call2 .str .bool Try.prog id_list_List_string_Get [.pointer l0, .int .i64 h1] fun (x_1 : ByteArray) (x_2 : Bool) =>
  ite2 x_2 (
  call0 Try.prog id_list_List_string_lifts [.pointer l0, .int .i64 h1] <|
  nilck l0 fun b_3 o_4 =>
  ld .slc b_3 o_4 fun (x_5 : Sl) =>
  idx x_5.a x_5.n h1 fun b_6 o_7 =>
  st b_6 (o_7 + (h1).toNat * 4) (.string str_empty) <|
  st b_6 ((o_7 + (h1).toNat * 4) + 1) (.int .i64 (0 : Int)) <|
  st b_6 (((o_7 + (h1).toNat * 4) + 1) + 1) (.int .i64 (0 : Int)) <|
  st b_6 ((((o_7 + (h1).toNat * 4) + 1) + 1) + 1) (.bool false) <|
  nilck l0 fun b_8 o_9 =>
  ld .slc b_8 (o_9 + 1) fun (x_10 : Sl) =>
  newB [.int .i64 h1] ty_int fun b_11 =>
  appendC ty_int 1 8 [.int .i64 (0 : Int)] ⟨x_10.a, x_10.n, x_10.c⟩ 1 (fun w => rdA w (some ⟨b_11, 0, none⟩) (1 * 1)) fun s_12 =>
  nilck l0 fun b_13 o_14 =>
  st b_13 (o_14 + 1) (.slice s_12.a s_12.n s_12.c) <|
  nilck l0 fun b_15 o_16 =>
  ld (.int .i64) b_15 (o_16 + 2) fun (x_17 : Int) =>
  nilck l0 fun b_18 o_19 =>
  st b_18 (o_19 + 2) (.int .i64 (IntKind.wrap .i64 (x_17 - (1 : Int)))) <|
  Q (.tuple #[.string x_1, .bool x_2])) (
  Q (.tuple #[.string x_1, .bool x_2]))) := by kernel_rfl
theorem list_List_string_Remove_def (l0 : Option Addr) (h1 : Int) (Q : Value → WP) : list_List_string_Remove l0 h1 Q = funJ idJ Try.prog list_List_string_Remove_kp Try.f31 [.pointer l0, .int .i64 h1] Q := rfl
theorem list_List_string_Remove_calls {l0 : Option Addr} {h1 : Int} {Q : Value → WP} {w : World} (h : list_List_string_Remove l0 h1 Q w) : Calls Try.prog id_list_List_string_Remove #[.pointer l0, .int .i64 h1] w fun e w' => ∃ v, e = .returned v ∧ Q v w' :=
  funJ_calls mixed Try.func31 rfl h

-- (*hoard/index.Index[int]).find
def index_Index_int_find_kp : KP := ⟨[(8, [0, 1, 6, 7]), (11, [0, 1, 6, 7]), (14, [0, 1, 6, 7, 8, 35]), (18, [0, 1, 6, 7, 8, 50]), (22, [0, 1, 6, 7, 8, 61])], [(2, [0, 1, 2, 3, 4, 6, 7, 8, 9, 10, 12])]⟩
def index_Index_int_find_j4 (jn : Jn) (Q : Value → WP) (m1 : Nat) (x0 : Option Addr) (key1 : ByteArray) (free6 : Int) (i7 : Int) : WP := jn 8 (fun ρ => codeI Try.prog index_Index_int_find_kp jn (cAt [true, true, true, false, false, true] (bodyOf Try.f32)) (lopK Try.prog index_Index_int_find_kp jn (cAt [true, true, true, false, false] (bodyOf Try.f32)) (blkX 0 (retK Try.prog Try.f32 Q) noX) (retK Try.prog Try.f32 Q) m1) (blkX 0 (retK Try.prog Try.f32 Q) noX) (retK Try.prog Try.f32 Q) ρ) ((.pointer x0) :: (.string key1) :: us 4 ((.int .i64 free6) :: (.int .i64 i7) :: us 71 []))
def index_Index_int_find_j5 (jn : Jn) (Q : Value → WP) (m1 : Nat) (x0 : Option Addr) (key1 : ByteArray) (free6 : Int) (i7 : Int) (p8_b : Nat) (p8_o : Nat) (t61 : Bool) : WP := jn 22 (fun ρ => codeI Try.prog index_Index_int_find_kp jn (cAt [true, true, true, false, false, false, false, true, false, true, true, true, true, true] (bodyOf Try.f32)) (seqK Try.prog index_Index_int_find_kp jn (cAt [true, true, true, false, false, true] (bodyOf Try.f32)) (lopK Try.prog index_Index_int_find_kp jn (cAt [true, true, true, false, false] (bodyOf Try.f32)) (blkX 0 (retK Try.prog Try.f32 Q) noX) (retK Try.prog Try.f32 Q) m1) (blkX 0 (retK Try.prog Try.f32 Q) noX) (retK Try.prog Try.f32 Q)) (blkX 2 (seqK Try.prog index_Index_int_find_kp jn (cAt [true, true, true, false, false, true] (bodyOf Try.f32)) (lopK Try.prog index_Index_int_find_kp jn (cAt [true, true, true, false, false] (bodyOf Try.f32)) (blkX 0 (retK Try.prog Try.f32 Q) noX) (retK Try.prog Try.f32 Q) m1) (blkX 0 (retK Try.prog Try.f32 Q) noX) (retK Try.prog Try.f32 Q)) (blkX 1 (seqK Try.prog index_Index_int_find_kp jn (cAt [true, true, true, false, false, true] (bodyOf Try.f32)) (lopK Try.prog index_Index_int_find_kp jn (cAt [true, true, true, false, false] (bodyOf Try.f32)) (blkX 0 (retK Try.prog Try.f32 Q) noX) (retK Try.prog Try.f32 Q) m1) (blkX 0 (retK Try.prog Try.f32 Q) noX) (retK Try.prog Try.f32 Q)) (blkX 0 (retK Try.prog Try.f32 Q) noX))) (retK Try.prog Try.f32 Q) ρ) ((.pointer x0) :: (.string key1) :: us 4 ((.int .i64 free6) :: (.int .i64 i7) :: (.pointer (some ⟨p8_b, p8_o, none⟩)) :: us 52 ((.bool t61) :: us 17 [])))
def index_Index_int_find_j3 (jn : Jn) (Q : Value → WP) (m1 : Nat) (x0 : Option Addr) (key1 : ByteArray) (free6 : Int) (i7 : Int) (p8_b : Nat) (p8_o : Nat) (t50 : Bool) : WP := jn 18 (fun ρ => codeI Try.prog index_Index_int_find_kp jn (cAt [true, true, true, false, false, false, false, true, false, true, true, true] (bodyOf Try.f32)) (seqK Try.prog index_Index_int_find_kp jn (cAt [true, true, true, false, false, true] (bodyOf Try.f32)) (lopK Try.prog index_Index_int_find_kp jn (cAt [true, true, true, false, false] (bodyOf Try.f32)) (blkX 0 (retK Try.prog Try.f32 Q) noX) (retK Try.prog Try.f32 Q) m1) (blkX 0 (retK Try.prog Try.f32 Q) noX) (retK Try.prog Try.f32 Q)) (blkX 2 (seqK Try.prog index_Index_int_find_kp jn (cAt [true, true, true, false, false, true] (bodyOf Try.f32)) (lopK Try.prog index_Index_int_find_kp jn (cAt [true, true, true, false, false] (bodyOf Try.f32)) (blkX 0 (retK Try.prog Try.f32 Q) noX) (retK Try.prog Try.f32 Q) m1) (blkX 0 (retK Try.prog Try.f32 Q) noX) (retK Try.prog Try.f32 Q)) (blkX 1 (seqK Try.prog index_Index_int_find_kp jn (cAt [true, true, true, false, false, true] (bodyOf Try.f32)) (lopK Try.prog index_Index_int_find_kp jn (cAt [true, true, true, false, false] (bodyOf Try.f32)) (blkX 0 (retK Try.prog Try.f32 Q) noX) (retK Try.prog Try.f32 Q) m1) (blkX 0 (retK Try.prog Try.f32 Q) noX) (retK Try.prog Try.f32 Q)) (blkX 0 (retK Try.prog Try.f32 Q) noX))) (retK Try.prog Try.f32 Q) ρ) ((.pointer x0) :: (.string key1) :: us 4 ((.int .i64 free6) :: (.int .i64 i7) :: (.pointer (some ⟨p8_b, p8_o, none⟩)) :: us 41 ((.bool t50) :: us 28 [])))
def index_Index_int_find_j2 (jn : Jn) (Q : Value → WP) (m1 : Nat) (x0 : Option Addr) (key1 : ByteArray) (free6 : Int) (i7 : Int) (p8_b : Nat) (p8_o : Nat) (t35 : Bool) : WP := jn 14 (fun ρ => codeI Try.prog index_Index_int_find_kp jn (cAt [true, true, true, false, false, false, false, true, false, true] (bodyOf Try.f32)) (seqK Try.prog index_Index_int_find_kp jn (cAt [true, true, true, false, false, true] (bodyOf Try.f32)) (lopK Try.prog index_Index_int_find_kp jn (cAt [true, true, true, false, false] (bodyOf Try.f32)) (blkX 0 (retK Try.prog Try.f32 Q) noX) (retK Try.prog Try.f32 Q) m1) (blkX 0 (retK Try.prog Try.f32 Q) noX) (retK Try.prog Try.f32 Q)) (blkX 2 (seqK Try.prog index_Index_int_find_kp jn (cAt [true, true, true, false, false, true] (bodyOf Try.f32)) (lopK Try.prog index_Index_int_find_kp jn (cAt [true, true, true, false, false] (bodyOf Try.f32)) (blkX 0 (retK Try.prog Try.f32 Q) noX) (retK Try.prog Try.f32 Q) m1) (blkX 0 (retK Try.prog Try.f32 Q) noX) (retK Try.prog Try.f32 Q)) (blkX 1 (seqK Try.prog index_Index_int_find_kp jn (cAt [true, true, true, false, false, true] (bodyOf Try.f32)) (lopK Try.prog index_Index_int_find_kp jn (cAt [true, true, true, false, false] (bodyOf Try.f32)) (blkX 0 (retK Try.prog Try.f32 Q) noX) (retK Try.prog Try.f32 Q) m1) (blkX 0 (retK Try.prog Try.f32 Q) noX) (retK Try.prog Try.f32 Q)) (blkX 0 (retK Try.prog Try.f32 Q) noX))) (retK Try.prog Try.f32 Q) ρ) ((.pointer x0) :: (.string key1) :: us 4 ((.int .i64 free6) :: (.int .i64 i7) :: (.pointer (some ⟨p8_b, p8_o, none⟩)) :: us 26 ((.bool t35) :: us 43 [])))
def index_Index_int_find_l1 (jn : Jn) (Q : Value → WP)  (m1 : Nat) (x0 : Option Addr) (key1 : ByteArray) (free6 : Int) (i7 : Int) : WP := lop Try.prog index_Index_int_find_kp jn (cAt [true, true, true, false, false] (bodyOf Try.f32)) (blkX 0 (retK Try.prog Try.f32 Q) noX) (retK Try.prog Try.f32 Q) m1 ((.pointer x0) :: (.string key1) :: us 4 ((.int .i64 free6) :: (.int .i64 i7) :: us 71 []))
def index_Index_int_find (x0 : Option Addr) (key1 : ByteArray) (Q : Value → WP) : WP := funJ idJ Try.prog index_Index_int_find_kp Try.f32 [.pointer x0, .string key1] Q
theorem index_Index_int_find_j4_raw (jn : Jn) (Q : Value → WP) (m1 : Nat) (x0 : Option Addr) (key1 : ByteArray) (free6 : Int) (i7 : Int) : codeI Try.prog index_Index_int_find_kp jn (cAt [true, true, true, false, false, true] (bodyOf Try.f32)) (lopK Try.prog index_Index_int_find_kp jn (cAt [true, true, true, false, false] (bodyOf Try.f32)) (blkX 0 (retK Try.prog Try.f32 Q) noX) (retK Try.prog Try.f32 Q) m1) (blkX 0 (retK Try.prog Try.f32 Q) noX) (retK Try.prog Try.f32 Q) ((.pointer x0) :: (.string key1) :: us 4 ((.int .i64 free6) :: (.int .i64 i7) :: us 71 [])) = (
  nilck x0 fun b_23 o_24 =>
  ld .slc b_23 (o_24 + 1) fun (x_25 : Sl) =>
  when ((x_25.n : Int) ≠ 0) <|
  index_Index_int_find_l1 jn Q  m1 x0 key1 free6 (Int.tmod (IntKind.wrap .i64 (i7 + (1 : Int))) (x_25.n : Int))) := by kernel_rfl
theorem index_Index_int_find_j4_def (Q : Value → WP) (m1 : Nat) (x0 : Option Addr) (key1 : ByteArray) (free6 : Int) (i7 : Int) : index_Index_int_find_j4 idJ Q m1 x0 key1 free6 i7 = codeI Try.prog index_Index_int_find_kp idJ (cAt [true, true, true, false, false, true] (bodyOf Try.f32)) (lopK Try.prog index_Index_int_find_kp idJ (cAt [true, true, true, false, false] (bodyOf Try.f32)) (blkX 0 (retK Try.prog Try.f32 Q) noX) (retK Try.prog Try.f32 Q) m1) (blkX 0 (retK Try.prog Try.f32 Q) noX) (retK Try.prog Try.f32 Q) ((.pointer x0) :: (.string key1) :: us 4 ((.int .i64 free6) :: (.int .i64 i7) :: us 71 [])) := by kernel_rfl
theorem index_Index_int_find_j5_raw (jn : Jn) (Q : Value → WP) (m1 : Nat) (x0 : Option Addr) (key1 : ByteArray) (free6 : Int) (i7 : Int) (p8_b : Nat) (p8_o : Nat) (t61 : Bool) : codeI Try.prog index_Index_int_find_kp jn (cAt [true, true, true, false, false, false, false, true, false, true, true, true, true, true] (bodyOf Try.f32)) (seqK Try.prog index_Index_int_find_kp jn (cAt [true, true, true, false, false, true] (bodyOf Try.f32)) (lopK Try.prog index_Index_int_find_kp jn (cAt [true, true, true, false, false] (bodyOf Try.f32)) (blkX 0 (retK Try.prog Try.f32 Q) noX) (retK Try.prog Try.f32 Q) m1) (blkX 0 (retK Try.prog Try.f32 Q) noX) (retK Try.prog Try.f32 Q)) (blkX 2 (seqK Try.prog index_Index_int_find_kp jn (cAt [true, true, true, false, false, true] (bodyOf Try.f32)) (lopK Try.prog index_Index_int_find_kp jn (cAt [true, true, true, false, false] (bodyOf Try.f32)) (blkX 0 (retK Try.prog Try.f32 Q) noX) (retK Try.prog Try.f32 Q) m1) (blkX 0 (retK Try.prog Try.f32 Q) noX) (retK Try.prog Try.f32 Q)) (blkX 1 (seqK Try.prog index_Index_int_find_kp jn (cAt [true, true, true, false, false, true] (bodyOf Try.f32)) (lopK Try.prog index_Index_int_find_kp jn (cAt [true, true, true, false, false] (bodyOf Try.f32)) (blkX 0 (retK Try.prog Try.f32 Q) noX) (retK Try.prog Try.f32 Q) m1) (blkX 0 (retK Try.prog Try.f32 Q) noX) (retK Try.prog Try.f32 Q)) (blkX 0 (retK Try.prog Try.f32 Q) noX))) (retK Try.prog Try.f32 Q) ((.pointer x0) :: (.string key1) :: us 4 ((.int .i64 free6) :: (.int .i64 i7) :: (.pointer (some ⟨p8_b, p8_o, none⟩)) :: us 52 ((.bool t61) :: us 17 []))) = (
  ite2 t61 (
  Q (.tuple #[.int .i64 i7, .bool false])) (
  nilck (some ⟨p8_b, p8_o, none⟩) fun b_29 o_30 =>
  ld (.int .i64) b_29 o_30 fun (x_31 : Int) =>
  ite2 (x_31 == (0 : Int)) (
  Q (.tuple #[.int .i64 free6, .bool false])) (
  index_Index_int_find_j4 jn Q m1 x0 key1 free6 i7))) := by kernel_rfl
theorem index_Index_int_find_j5_def (Q : Value → WP) (m1 : Nat) (x0 : Option Addr) (key1 : ByteArray) (free6 : Int) (i7 : Int) (p8_b : Nat) (p8_o : Nat) (t61 : Bool) : index_Index_int_find_j5 idJ Q m1 x0 key1 free6 i7 p8_b p8_o t61 = codeI Try.prog index_Index_int_find_kp idJ (cAt [true, true, true, false, false, false, false, true, false, true, true, true, true, true] (bodyOf Try.f32)) (seqK Try.prog index_Index_int_find_kp idJ (cAt [true, true, true, false, false, true] (bodyOf Try.f32)) (lopK Try.prog index_Index_int_find_kp idJ (cAt [true, true, true, false, false] (bodyOf Try.f32)) (blkX 0 (retK Try.prog Try.f32 Q) noX) (retK Try.prog Try.f32 Q) m1) (blkX 0 (retK Try.prog Try.f32 Q) noX) (retK Try.prog Try.f32 Q)) (blkX 2 (seqK Try.prog index_Index_int_find_kp idJ (cAt [true, true, true, false, false, true] (bodyOf Try.f32)) (lopK Try.prog index_Index_int_find_kp idJ (cAt [true, true, true, false, false] (bodyOf Try.f32)) (blkX 0 (retK Try.prog Try.f32 Q) noX) (retK Try.prog Try.f32 Q) m1) (blkX 0 (retK Try.prog Try.f32 Q) noX) (retK Try.prog Try.f32 Q)) (blkX 1 (seqK Try.prog index_Index_int_find_kp idJ (cAt [true, true, true, false, false, true] (bodyOf Try.f32)) (lopK Try.prog index_Index_int_find_kp idJ (cAt [true, true, true, false, false] (bodyOf Try.f32)) (blkX 0 (retK Try.prog Try.f32 Q) noX) (retK Try.prog Try.f32 Q) m1) (blkX 0 (retK Try.prog Try.f32 Q) noX) (retK Try.prog Try.f32 Q)) (blkX 0 (retK Try.prog Try.f32 Q) noX))) (retK Try.prog Try.f32 Q) ((.pointer x0) :: (.string key1) :: us 4 ((.int .i64 free6) :: (.int .i64 i7) :: (.pointer (some ⟨p8_b, p8_o, none⟩)) :: us 52 ((.bool t61) :: us 17 []))) := by kernel_rfl
theorem index_Index_int_find_j3_raw (jn : Jn) (Q : Value → WP) (m1 : Nat) (x0 : Option Addr) (key1 : ByteArray) (free6 : Int) (i7 : Int) (p8_b : Nat) (p8_o : Nat) (t50 : Bool) : codeI Try.prog index_Index_int_find_kp jn (cAt [true, true, true, false, false, false, false, true, false, true, true, true] (bodyOf Try.f32)) (seqK Try.prog index_Index_int_find_kp jn (cAt [true, true, true, false, false, true] (bodyOf Try.f32)) (lopK Try.prog index_Index_int_find_kp jn (cAt [true, true, true, false, false] (bodyOf Try.f32)) (blkX 0 (retK Try.prog Try.f32 Q) noX) (retK Try.prog Try.f32 Q) m1) (blkX 0 (retK Try.prog Try.f32 Q) noX) (retK Try.prog Try.f32 Q)) (blkX 2 (seqK Try.prog index_Index_int_find_kp jn (cAt [true, true, true, false, false, true] (bodyOf Try.f32)) (lopK Try.prog index_Index_int_find_kp jn (cAt [true, true, true, false, false] (bodyOf Try.f32)) (blkX 0 (retK Try.prog Try.f32 Q) noX) (retK Try.prog Try.f32 Q) m1) (blkX 0 (retK Try.prog Try.f32 Q) noX) (retK Try.prog Try.f32 Q)) (blkX 1 (seqK Try.prog index_Index_int_find_kp jn (cAt [true, true, true, false, false, true] (bodyOf Try.f32)) (lopK Try.prog index_Index_int_find_kp jn (cAt [true, true, true, false, false] (bodyOf Try.f32)) (blkX 0 (retK Try.prog Try.f32 Q) noX) (retK Try.prog Try.f32 Q) m1) (blkX 0 (retK Try.prog Try.f32 Q) noX) (retK Try.prog Try.f32 Q)) (blkX 0 (retK Try.prog Try.f32 Q) noX))) (retK Try.prog Try.f32 Q) ((.pointer x0) :: (.string key1) :: us 4 ((.int .i64 free6) :: (.int .i64 i7) :: (.pointer (some ⟨p8_b, p8_o, none⟩)) :: us 41 ((.bool t50) :: us 28 []))) = (
  ite2 t50 (
  index_Index_int_find_j4 jn Q m1 x0 key1 i7 i7) (
  nilck (some ⟨p8_b, p8_o, none⟩) fun b_26 o_27 =>
  ld (.int .i64) b_26 o_27 fun (x_28 : Int) =>
  ite2 (x_28 == (0 : Int)) (
  index_Index_int_find_j5 jn Q m1 x0 key1 free6 i7 p8_b p8_o (decide (free6 < (0 : Int)))) (
  index_Index_int_find_j5 jn Q m1 x0 key1 free6 i7 p8_b p8_o false))) := by kernel_rfl
theorem index_Index_int_find_j3_def (Q : Value → WP) (m1 : Nat) (x0 : Option Addr) (key1 : ByteArray) (free6 : Int) (i7 : Int) (p8_b : Nat) (p8_o : Nat) (t50 : Bool) : index_Index_int_find_j3 idJ Q m1 x0 key1 free6 i7 p8_b p8_o t50 = codeI Try.prog index_Index_int_find_kp idJ (cAt [true, true, true, false, false, false, false, true, false, true, true, true] (bodyOf Try.f32)) (seqK Try.prog index_Index_int_find_kp idJ (cAt [true, true, true, false, false, true] (bodyOf Try.f32)) (lopK Try.prog index_Index_int_find_kp idJ (cAt [true, true, true, false, false] (bodyOf Try.f32)) (blkX 0 (retK Try.prog Try.f32 Q) noX) (retK Try.prog Try.f32 Q) m1) (blkX 0 (retK Try.prog Try.f32 Q) noX) (retK Try.prog Try.f32 Q)) (blkX 2 (seqK Try.prog index_Index_int_find_kp idJ (cAt [true, true, true, false, false, true] (bodyOf Try.f32)) (lopK Try.prog index_Index_int_find_kp idJ (cAt [true, true, true, false, false] (bodyOf Try.f32)) (blkX 0 (retK Try.prog Try.f32 Q) noX) (retK Try.prog Try.f32 Q) m1) (blkX 0 (retK Try.prog Try.f32 Q) noX) (retK Try.prog Try.f32 Q)) (blkX 1 (seqK Try.prog index_Index_int_find_kp idJ (cAt [true, true, true, false, false, true] (bodyOf Try.f32)) (lopK Try.prog index_Index_int_find_kp idJ (cAt [true, true, true, false, false] (bodyOf Try.f32)) (blkX 0 (retK Try.prog Try.f32 Q) noX) (retK Try.prog Try.f32 Q) m1) (blkX 0 (retK Try.prog Try.f32 Q) noX) (retK Try.prog Try.f32 Q)) (blkX 0 (retK Try.prog Try.f32 Q) noX))) (retK Try.prog Try.f32 Q) ((.pointer x0) :: (.string key1) :: us 4 ((.int .i64 free6) :: (.int .i64 i7) :: (.pointer (some ⟨p8_b, p8_o, none⟩)) :: us 41 ((.bool t50) :: us 28 []))) := by kernel_rfl
theorem index_Index_int_find_j2_raw (jn : Jn) (Q : Value → WP) (m1 : Nat) (x0 : Option Addr) (key1 : ByteArray) (free6 : Int) (i7 : Int) (p8_b : Nat) (p8_o : Nat) (t35 : Bool) : codeI Try.prog index_Index_int_find_kp jn (cAt [true, true, true, false, false, false, false, true, false, true] (bodyOf Try.f32)) (seqK Try.prog index_Index_int_find_kp jn (cAt [true, true, true, false, false, true] (bodyOf Try.f32)) (lopK Try.prog index_Index_int_find_kp jn (cAt [true, true, true, false, false] (bodyOf Try.f32)) (blkX 0 (retK Try.prog Try.f32 Q) noX) (retK Try.prog Try.f32 Q) m1) (blkX 0 (retK Try.prog Try.f32 Q) noX) (retK Try.prog Try.f32 Q)) (blkX 2 (seqK Try.prog index_Index_int_find_kp jn (cAt [true, true, true, false, false, true] (bodyOf Try.f32)) (lopK Try.prog index_Index_int_find_kp jn (cAt [true, true, true, false, false] (bodyOf Try.f32)) (blkX 0 (retK Try.prog Try.f32 Q) noX) (retK Try.prog Try.f32 Q) m1) (blkX 0 (retK Try.prog Try.f32 Q) noX) (retK Try.prog Try.f32 Q)) (blkX 1 (seqK Try.prog index_Index_int_find_kp jn (cAt [true, true, true, false, false, true] (bodyOf Try.f32)) (lopK Try.prog index_Index_int_find_kp jn (cAt [true, true, true, false, false] (bodyOf Try.f32)) (blkX 0 (retK Try.prog Try.f32 Q) noX) (retK Try.prog Try.f32 Q) m1) (blkX 0 (retK Try.prog Try.f32 Q) noX) (retK Try.prog Try.f32 Q)) (blkX 0 (retK Try.prog Try.f32 Q) noX))) (retK Try.prog Try.f32 Q) ((.pointer x0) :: (.string key1) :: us 4 ((.int .i64 free6) :: (.int .i64 i7) :: (.pointer (some ⟨p8_b, p8_o, none⟩)) :: us 26 ((.bool t35) :: us 43 []))) = (
  ite2 t35 (
  Q (.tuple #[.int .i64 i7, .bool true])) (
  nilck (some ⟨p8_b, p8_o, none⟩) fun b_20 o_21 =>
  ld (.int .i64) b_20 o_21 fun (x_22 : Int) =>
  ite2 (x_22 == (1 : Int)) (
  index_Index_int_find_j3 jn Q m1 x0 key1 free6 i7 p8_b p8_o (decide (free6 < (0 : Int)))) (
  index_Index_int_find_j3 jn Q m1 x0 key1 free6 i7 p8_b p8_o false))) := by kernel_rfl
theorem index_Index_int_find_j2_def (Q : Value → WP) (m1 : Nat) (x0 : Option Addr) (key1 : ByteArray) (free6 : Int) (i7 : Int) (p8_b : Nat) (p8_o : Nat) (t35 : Bool) : index_Index_int_find_j2 idJ Q m1 x0 key1 free6 i7 p8_b p8_o t35 = codeI Try.prog index_Index_int_find_kp idJ (cAt [true, true, true, false, false, false, false, true, false, true] (bodyOf Try.f32)) (seqK Try.prog index_Index_int_find_kp idJ (cAt [true, true, true, false, false, true] (bodyOf Try.f32)) (lopK Try.prog index_Index_int_find_kp idJ (cAt [true, true, true, false, false] (bodyOf Try.f32)) (blkX 0 (retK Try.prog Try.f32 Q) noX) (retK Try.prog Try.f32 Q) m1) (blkX 0 (retK Try.prog Try.f32 Q) noX) (retK Try.prog Try.f32 Q)) (blkX 2 (seqK Try.prog index_Index_int_find_kp idJ (cAt [true, true, true, false, false, true] (bodyOf Try.f32)) (lopK Try.prog index_Index_int_find_kp idJ (cAt [true, true, true, false, false] (bodyOf Try.f32)) (blkX 0 (retK Try.prog Try.f32 Q) noX) (retK Try.prog Try.f32 Q) m1) (blkX 0 (retK Try.prog Try.f32 Q) noX) (retK Try.prog Try.f32 Q)) (blkX 1 (seqK Try.prog index_Index_int_find_kp idJ (cAt [true, true, true, false, false, true] (bodyOf Try.f32)) (lopK Try.prog index_Index_int_find_kp idJ (cAt [true, true, true, false, false] (bodyOf Try.f32)) (blkX 0 (retK Try.prog Try.f32 Q) noX) (retK Try.prog Try.f32 Q) m1) (blkX 0 (retK Try.prog Try.f32 Q) noX) (retK Try.prog Try.f32 Q)) (blkX 0 (retK Try.prog Try.f32 Q) noX))) (retK Try.prog Try.f32 Q) ((.pointer x0) :: (.string key1) :: us 4 ((.int .i64 free6) :: (.int .i64 i7) :: (.pointer (some ⟨p8_b, p8_o, none⟩)) :: us 26 ((.bool t35) :: us 43 []))) := by kernel_rfl
theorem index_Index_int_find_l1_raw (jn : Jn) (Q : Value → WP)  (m1 : Nat) (x0 : Option Addr) (key1 : ByteArray) (free6 : Int) (i7 : Int) : index_Index_int_find_l1 jn Q  (m1 + 1) x0 key1 free6 i7 = (
  nilck x0 fun b_9 o_10 =>
  ld .slc b_9 (o_10 + 1) fun (x_11 : Sl) =>
  idx x_11.a x_11.n i7 fun b_12 o_13 =>
  nilck (some ⟨b_12, (o_13 + (i7).toNat * 3), none⟩) fun b_14 o_15 =>
  ld (.int .i64) b_14 o_15 fun (x_16 : Int) =>
  ite2 (x_16 == (2 : Int)) (
  nilck (some ⟨b_12, (o_13 + (i7).toNat * 3), none⟩) fun b_17 o_18 =>
  ld .str b_17 (o_18 + 1) fun (x_19 : ByteArray) =>
  index_Index_int_find_j2 jn Q m1 x0 key1 free6 i7 b_12 (o_13 + (i7).toNat * 3) (sEq x_19 key1)) (
  index_Index_int_find_j2 jn Q m1 x0 key1 free6 i7 b_12 (o_13 + (i7).toNat * 3) false)) := by kernel_rfl
theorem index_Index_int_find_l1_zero (jn : Jn) (Q : Value → WP)  (x0 : Option Addr) (key1 : ByteArray) (free6 : Int) (i7 : Int) : index_Index_int_find_l1 jn Q  0 x0 key1 free6 i7 = bot := by kernel_rfl
theorem index_Index_int_find_raw (jn : Jn) (x0 : Option Addr) (key1 : ByteArray) (Q : Value → WP) : funJ jn Try.prog index_Index_int_find_kp Try.f32 [.pointer x0, .string key1] Q = (
  drawW fun S =>
  nilck x0 fun b_1 o_2 =>
  ldS S (.int .u64) b_1 o_2 fun (x_3 : Int) =>
  nilck x0 fun b_4 o_5 =>
  ldS S .slc b_4 (o_5 + 1) fun (x_6 : Sl) =>
  call1 (.int .u64) Try.prog id_mix_Hash [.int .u64 x_3, .string key1] fun (x_7 : Int) =>
  keepS true S <|
  call1 (.int .i64) Try.prog id_mix_Place [.int .u64 x_7, .int .i64 (x_6.n : Int)] fun (x_8 : Int) =>
  exM fun m => index_Index_int_find_l1 jn Q  m x0 key1 (-1 : Int) x_8) := by kernel_rfl
theorem index_Index_int_find_def (x0 : Option Addr) (key1 : ByteArray) (Q : Value → WP) : index_Index_int_find x0 key1 Q = funJ idJ Try.prog index_Index_int_find_kp Try.f32 [.pointer x0, .string key1] Q := rfl
theorem index_Index_int_find_calls {x0 : Option Addr} {key1 : ByteArray} {Q : Value → WP} {w : World} (h : index_Index_int_find x0 key1 Q w) : Calls Try.prog id_index_Index_int_find #[.pointer x0, .string key1] w fun e w' => ∃ v, e = .returned v ∧ Q v w' :=
  funJ_calls mixed Try.func32 rfl h

-- (*hoard/index.Index[int]).lays
def index_Index_int_lays_kp : KP := ⟨[(6, [0, 1, 2, 3])], []⟩
def index_Index_int_lays_j1 (jn : Jn) (Q : Value → WP)  (x0 : Option Addr) (i1 : Int) (key2 : ByteArray) (v3 : Int) : WP := jn 6 (fun ρ => codeI Try.prog index_Index_int_lays_kp jn (cAt [true] (bodyOf Try.f33)) (retK Try.prog Try.f33 Q) noX (retK Try.prog Try.f33 Q) ρ) ((.pointer x0) :: (.int .i64 i1) :: (.string key2) :: (.int .i64 v3) :: us 36 [])
def index_Index_int_lays (x0 : Option Addr) (i1 : Int) (key2 : ByteArray) (v3 : Int) (Q : Value → WP) : WP := funJ idJ Try.prog index_Index_int_lays_kp Try.f33 [.pointer x0, .int .i64 i1, .string key2, .int .i64 v3] Q
theorem index_Index_int_lays_j1_raw (jn : Jn) (Q : Value → WP)  (x0 : Option Addr) (i1 : Int) (key2 : ByteArray) (v3 : Int) : codeI Try.prog index_Index_int_lays_kp jn (cAt [true] (bodyOf Try.f33)) (retK Try.prog Try.f33 Q) noX (retK Try.prog Try.f33 Q) ((.pointer x0) :: (.int .i64 i1) :: (.string key2) :: (.int .i64 v3) :: us 36 []) = (
  nilck x0 fun b_12 o_13 =>
  ld .slc b_12 (o_13 + 1) fun (x_14 : Sl) =>
  idx x_14.a x_14.n i1 fun b_15 o_16 =>
  st b_15 (o_16 + (i1).toNat * 3) (.int .i64 (2 : Int)) <|
  st b_15 ((o_16 + (i1).toNat * 3) + 1) (.string key2) <|
  st b_15 (((o_16 + (i1).toNat * 3) + 1) + 1) (.int .i64 v3) <|
  nilck x0 fun b_17 o_18 =>
  ld (.int .i64) b_17 (o_18 + 2) fun (x_19 : Int) =>
  nilck x0 fun b_20 o_21 =>
  st b_20 (o_21 + 2) (.int .i64 (IntKind.wrap .i64 (x_19 + (1 : Int)))) <|
  Q (.tuple #[])) := by kernel_rfl
theorem index_Index_int_lays_j1_def (Q : Value → WP)  (x0 : Option Addr) (i1 : Int) (key2 : ByteArray) (v3 : Int) : index_Index_int_lays_j1 idJ Q  x0 i1 key2 v3 = codeI Try.prog index_Index_int_lays_kp idJ (cAt [true] (bodyOf Try.f33)) (retK Try.prog Try.f33 Q) noX (retK Try.prog Try.f33 Q) ((.pointer x0) :: (.int .i64 i1) :: (.string key2) :: (.int .i64 v3) :: us 36 []) := by kernel_rfl
theorem index_Index_int_lays_raw (jn : Jn) (x0 : Option Addr) (i1 : Int) (key2 : ByteArray) (v3 : Int) (Q : Value → WP) : funJ jn Try.prog index_Index_int_lays_kp Try.f33 [.pointer x0, .int .i64 i1, .string key2, .int .i64 v3] Q = (
  nilck x0 fun b_1 o_2 =>
  ld .slc b_1 (o_2 + 1) fun (x_3 : Sl) =>
  idx x_3.a x_3.n i1 fun b_4 o_5 =>
  ld (.int .i64) b_4 (o_5 + (i1).toNat * 3) fun (x_6 : Int) =>
  ite2 (x_6 == (0 : Int)) (
  nilck x0 fun b_7 o_8 =>
  ld (.int .i64) b_7 (o_8 + 3) fun (x_9 : Int) =>
  nilck x0 fun b_10 o_11 =>
  st b_10 (o_11 + 3) (.int .i64 (IntKind.wrap .i64 (x_9 + (1 : Int)))) <|
  index_Index_int_lays_j1 jn Q  x0 i1 key2 v3) (
  index_Index_int_lays_j1 jn Q  x0 i1 key2 v3)) := by kernel_rfl
theorem index_Index_int_lays_def (x0 : Option Addr) (i1 : Int) (key2 : ByteArray) (v3 : Int) (Q : Value → WP) : index_Index_int_lays x0 i1 key2 v3 Q = funJ idJ Try.prog index_Index_int_lays_kp Try.f33 [.pointer x0, .int .i64 i1, .string key2, .int .i64 v3] Q := rfl
theorem index_Index_int_lays_calls {x0 : Option Addr} {i1 : Int} {key2 : ByteArray} {v3 : Int} {Q : Value → WP} {w : World} (h : index_Index_int_lays x0 i1 key2 v3 Q w) : Calls Try.prog id_index_Index_int_lays #[.pointer x0, .int .i64 i1, .string key2, .int .i64 v3] w fun e w' => ∃ v, e = .returned v ∧ Q v w' :=
  funJ_calls mixed Try.func33 rfl h

-- (*hoard/index.Index[int]).grows
def index_Index_int_grows_kp : KP := ⟨[(9, [0, 28, 29, 30])], []⟩
def index_Index_int_grows_l1 (jn : Jn) (Q : Value → WP)  (m1 : Nat) (x0 : Option Addr) (t28 : Sl) (t29 : Int) (t30 : Int) : WP := lop Try.prog index_Index_int_grows_kp jn (cAt [true, true, true, false, false] (bodyOf Try.f34)) (blkX 0 (retK Try.prog Try.f34 Q) noX) (retK Try.prog Try.f34 Q) m1 ((.pointer x0) :: us 27 ((.slice t28.a t28.n t28.c) :: (.int .i64 t29) :: (.int .i64 t30) :: us 21 []))
def index_Index_int_grows (x0 : Option Addr) (Q : Value → WP) : WP := funJ idJ Try.prog index_Index_int_grows_kp Try.f34 [.pointer x0] Q
theorem index_Index_int_grows_l1_raw (jn : Jn) (Q : Value → WP)  (m1 : Nat) (x0 : Option Addr) (t28 : Sl) (t29 : Int) (t30 : Int) : index_Index_int_grows_l1 jn Q  (m1 + 1) x0 t28 t29 t30 = (
  ite2 (decide (t30 < t29)) (
  idx t28.a t28.n t30 fun b_14 o_15 =>
  ld (.int .i64) b_14 (o_15 + (t30).toNat * 3) fun (x_16 : Int) =>
  ld .str b_14 ((o_15 + (t30).toNat * 3) + 1) fun (x_17 : ByteArray) =>
  ld (.int .i64) b_14 (((o_15 + (t30).toNat * 3) + 1) + 1) fun (x_18 : Int) =>
  newB [.int .i64 (0 : Int), .string str_empty, .int .i64 (0 : Int)] ty_index_place_int fun b_19 =>
  st b_19 0 (.int .i64 x_16) <|
  st b_19 1 (.string x_17) <|
  st b_19 2 (.int .i64 x_18) <|
  ld (.int .i64) b_19 0 fun (x_20 : Int) =>
  ite2 (x_20 == (2 : Int)) (
  ld .str b_19 1 fun (x_21 : ByteArray) =>
  call2 (.int .i64) .bool Try.prog id_index_Index_int_find [.pointer x0, .string x_21] fun (x_22 : Int) (x_23 : Bool) =>
  ld .str b_19 1 fun (x_24 : ByteArray) =>
  ld (.int .i64) b_19 2 fun (x_25 : Int) =>
  call0 Try.prog id_index_Index_int_lays [.pointer x0, .int .i64 x_22, .string x_24, .int .i64 x_25] <|
  index_Index_int_grows_l1 jn Q  m1 x0 t28 t29 (IntKind.wrap .i64 (t30 + (1 : Int)))) (
  index_Index_int_grows_l1 jn Q  m1 x0 t28 t29 (IntKind.wrap .i64 (t30 + (1 : Int))))) (
  Q (.tuple #[]))) := by kernel_rfl
theorem index_Index_int_grows_l1_zero (jn : Jn) (Q : Value → WP)  (x0 : Option Addr) (t28 : Sl) (t29 : Int) (t30 : Int) : index_Index_int_grows_l1 jn Q  0 x0 t28 t29 t30 = bot := by kernel_rfl
theorem index_Index_int_grows_raw (jn : Jn) (x0 : Option Addr) (Q : Value → WP) : funJ jn Try.prog index_Index_int_grows_kp Try.f34 [.pointer x0] Q = (
  nilck x0 fun b_1 o_2 =>
  ld .slc b_1 (o_2 + 1) fun (x_3 : Sl) =>
  nilck x0 fun b_4 o_5 =>
  ld (.int .i64) b_4 (o_5 + 2) fun (x_6 : Int) =>
  makeC ty_index_place_int 32 [.int .i64 (0 : Int), .string str_empty, .int .i64 (0 : Int)] (if (IntKind.wrap .i64 ((4 : Int) * (IntKind.wrap .i64 (x_6 + (1 : Int))))) > (8 : Int) then (IntKind.wrap .i64 ((4 : Int) * (IntKind.wrap .i64 (x_6 + (1 : Int))))) else (8 : Int)) (if (IntKind.wrap .i64 ((4 : Int) * (IntKind.wrap .i64 (x_6 + (1 : Int))))) > (8 : Int) then (IntKind.wrap .i64 ((4 : Int) * (IntKind.wrap .i64 (x_6 + (1 : Int))))) else (8 : Int)) fun s_7 =>
  nilck x0 fun b_8 o_9 =>
  st b_8 (o_9 + 1) (.slice s_7.a s_7.n s_7.c) <|
  nilck x0 fun b_10 o_11 =>
  st b_10 (o_11 + 2) (.int .i64 (0 : Int)) <|
  nilck x0 fun b_12 o_13 =>
  st b_12 (o_13 + 3) (.int .i64 (0 : Int)) <|
  exM fun m => index_Index_int_grows_l1 jn Q  m x0 x_3 (x_3.n : Int) (0 : Int)) := by kernel_rfl
theorem index_Index_int_grows_def (x0 : Option Addr) (Q : Value → WP) : index_Index_int_grows x0 Q = funJ idJ Try.prog index_Index_int_grows_kp Try.f34 [.pointer x0] Q := rfl
theorem index_Index_int_grows_calls {x0 : Option Addr} {Q : Value → WP} {w : World} (h : index_Index_int_grows x0 Q w) : Calls Try.prog id_index_Index_int_grows #[.pointer x0] w fun e w' => ∃ v, e = .returned v ∧ Q v w' :=
  funJ_calls mixed Try.func34 rfl h

-- (*hoard/list.List[string]).take
def list_List_string_take_kp : KP := ⟨[(16, [0, 1, 5])], []⟩
def list_List_string_take_j1 (jn : Jn) (Q : Value → WP)  (l0 : Option Addr) (v1 : ByteArray) (h5 : Int) : WP := jn 16 (fun ρ => codeI Try.prog list_List_string_take_kp jn (cAt [true, true, true] (bodyOf Try.f35)) (retK Try.prog Try.f35 Q) noX (retK Try.prog Try.f35 Q) ρ) ((.pointer l0) :: (.string v1) :: us 3 ((.int .i64 h5) :: us 57 []))
def list_List_string_take (l0 : Option Addr) (v1 : ByteArray) (Q : Value → WP) : WP := funJ idJ Try.prog list_List_string_take_kp Try.f35 [.pointer l0, .string v1] Q
theorem list_List_string_take_j1_raw (jn : Jn) (Q : Value → WP)  (l0 : Option Addr) (v1 : ByteArray) (h5 : Int) : codeI Try.prog list_List_string_take_kp jn (cAt [true, true, true] (bodyOf Try.f35)) (retK Try.prog Try.f35 Q) noX (retK Try.prog Try.f35 Q) ((.pointer l0) :: (.string v1) :: us 3 ((.int .i64 h5) :: us 57 [])) = (
  nilck l0 fun b_18 o_19 =>
  ld .slc b_18 o_19 fun (x_20 : Sl) =>
  idx x_20.a x_20.n h5 fun b_21 o_22 =>
  st b_21 (o_22 + (h5).toNat * 4) (.string v1) <|
  st b_21 ((o_22 + (h5).toNat * 4) + 1) (.int .i64 (0 : Int)) <|
  st b_21 (((o_22 + (h5).toNat * 4) + 1) + 1) (.int .i64 (0 : Int)) <|
  st b_21 ((((o_22 + (h5).toNat * 4) + 1) + 1) + 1) (.bool true) <|
  nilck l0 fun b_23 o_24 =>
  ld (.int .i64) b_23 (o_24 + 2) fun (x_25 : Int) =>
  nilck l0 fun b_26 o_27 =>
  st b_26 (o_27 + 2) (.int .i64 (IntKind.wrap .i64 (x_25 + (1 : Int)))) <|
  Q (.int .i64 h5)) := by kernel_rfl
theorem list_List_string_take_j1_def (Q : Value → WP)  (l0 : Option Addr) (v1 : ByteArray) (h5 : Int) : list_List_string_take_j1 idJ Q  l0 v1 h5 = codeI Try.prog list_List_string_take_kp idJ (cAt [true, true, true] (bodyOf Try.f35)) (retK Try.prog Try.f35 Q) noX (retK Try.prog Try.f35 Q) ((.pointer l0) :: (.string v1) :: us 3 ((.int .i64 h5) :: us 57 [])) := by kernel_rfl
theorem list_List_string_take_raw (jn : Jn) (l0 : Option Addr) (v1 : ByteArray) (Q : Value → WP) : funJ jn Try.prog list_List_string_take_kp Try.f35 [.pointer l0, .string v1] Q = (
  nilck l0 fun b_1 o_2 =>
  ld .slc b_1 o_2 fun (x_3 : Sl) =>
  nilck l0 fun b_4 o_5 =>
  ld .slc b_4 (o_5 + 1) fun (x_6 : Sl) =>
  ite2 (decide ((x_6.n : Int) > (0 : Int))) (
  nilck l0 fun b_7 o_8 =>
  ld .slc b_7 (o_8 + 1) fun (x_9 : Sl) =>
  idx x_9.a x_9.n (IntKind.wrap .i64 ((x_6.n : Int) - (1 : Int))) fun b_10 o_11 =>
  ld (.int .i64) b_10 (o_11 + ((IntKind.wrap .i64 ((x_6.n : Int) - (1 : Int)))).toNat * 1) fun (x_12 : Int) =>
  nilck l0 fun b_13 o_14 =>
  ld .slc b_13 (o_14 + 1) fun (x_15 : Sl) =>
  when ((0 : Int) ≤ (IntKind.wrap .i64 ((x_6.n : Int) - (1 : Int))) ∧ (IntKind.wrap .i64 ((x_6.n : Int) - (1 : Int))) ≤ (x_15.c : Int)) <|
  nilck l0 fun b_16 o_17 =>
  st b_16 (o_17 + 1) (.slice (subA x_15.a 0 x_15.c 1) (((IntKind.wrap .i64 ((x_6.n : Int) - (1 : Int)))).toNat - 0) (x_15.c - 0)) <|
  list_List_string_take_j1 jn Q  l0 v1 x_12) (
  nilck l0 fun b_28 o_29 =>
  ld .slc b_28 o_29 fun (x_30 : Sl) =>
  newB [.string str_empty, .int .i64 (0 : Int), .int .i64 (0 : Int), .bool false] ty_list_link_string fun b_31 =>
  appendC ty_list_link_string 4 40 [.string str_empty, .int .i64 (0 : Int), .int .i64 (0 : Int), .bool false] ⟨x_30.a, x_30.n, x_30.c⟩ 1 (fun w => rdA w (some ⟨b_31, 0, none⟩) (1 * 4)) fun s_32 =>
  nilck l0 fun b_33 o_34 =>
  st b_33 o_34 (.slice s_32.a s_32.n s_32.c) <|
  list_List_string_take_j1 jn Q  l0 v1 (x_3.n : Int))) := by kernel_rfl
theorem list_List_string_take_def (l0 : Option Addr) (v1 : ByteArray) (Q : Value → WP) : list_List_string_take l0 v1 Q = funJ idJ Try.prog list_List_string_take_kp Try.f35 [.pointer l0, .string v1] Q := rfl
theorem list_List_string_take_calls {l0 : Option Addr} {v1 : ByteArray} {Q : Value → WP} {w : World} (h : list_List_string_take l0 v1 Q w) : Calls Try.prog id_list_List_string_take #[.pointer l0, .string v1] w fun e w' => ∃ v, e = .returned v ∧ Q v w' :=
  funJ_calls mixed Try.func35 rfl h

-- (*hoard/list.List[string]).lays
def list_List_string_lays_kp : KP := ⟨[], [(0, [0, 1, 2, 3, 4, 5, 6, 7, 9, 10, 11, 12, 13, 15, 16]), (1, [0, 1, 2, 3, 4, 5, 6, 7, 9, 10, 11, 12, 13, 15, 16])]⟩
def list_List_string_lays (l0 : Option Addr) (h1 : Int) (prev2 : Int) (next3 : Int) (Q : Value → WP) : WP := funJ idJ Try.prog list_List_string_lays_kp Try.f36 [.pointer l0, .int .i64 h1, .int .i64 prev2, .int .i64 next3] Q
theorem list_List_string_lays_raw (jn : Jn) (l0 : Option Addr) (h1 : Int) (prev2 : Int) (next3 : Int) (Q : Value → WP) : funJ jn Try.prog list_List_string_lays_kp Try.f36 [.pointer l0, .int .i64 h1, .int .i64 prev2, .int .i64 next3] Q = (
  drawW fun S =>
  nilck l0 fun b_1 o_2 =>
  ldS S .slc b_1 o_2 fun (x_3 : Sl) =>
  nilck l0 fun b_4 o_5 =>
  ld .slc b_4 o_5 fun (x_6 : Sl) =>
  keepS true S <|
  idx x_3.a x_3.n h1 fun b_7 o_8 =>
  st b_7 ((o_8 + (h1).toNat * 4) + 1) (.int .i64 prev2) <|
  idx x_6.a x_6.n h1 fun b_9 o_10 =>
  st b_9 ((o_10 + (h1).toNat * 4) + 2) (.int .i64 next3) <|
  drawW fun S =>
  nilck l0 fun b_11 o_12 =>
  ldS S .slc b_11 o_12 fun (x_13 : Sl) =>
  nilck l0 fun b_14 o_15 =>
  ld .slc b_14 o_15 fun (x_16 : Sl) =>
  keepS true S <|
  idx x_13.a x_13.n prev2 fun b_17 o_18 =>
  st b_17 ((o_18 + (prev2).toNat * 4) + 2) (.int .i64 h1) <|
  idx x_16.a x_16.n next3 fun b_19 o_20 =>
  st b_19 ((o_20 + (next3).toNat * 4) + 1) (.int .i64 h1) <|
  Q (.tuple #[])) := by kernel_rfl
theorem list_List_string_lays_def (l0 : Option Addr) (h1 : Int) (prev2 : Int) (next3 : Int) (Q : Value → WP) : list_List_string_lays l0 h1 prev2 next3 Q = funJ idJ Try.prog list_List_string_lays_kp Try.f36 [.pointer l0, .int .i64 h1, .int .i64 prev2, .int .i64 next3] Q := rfl
theorem list_List_string_lays_calls {l0 : Option Addr} {h1 : Int} {prev2 : Int} {next3 : Int} {Q : Value → WP} {w : World} (h : list_List_string_lays l0 h1 prev2 next3 Q w) : Calls Try.prog id_list_List_string_lays #[.pointer l0, .int .i64 h1, .int .i64 prev2, .int .i64 next3] w fun e w' => ∃ v, e = .returned v ∧ Q v w' :=
  funJ_calls mixed Try.func36 rfl h

-- (*hoard/list.List[string]).has
def list_List_string_has_kp : KP := ⟨[], []⟩
def list_List_string_has (l0 : Option Addr) (h1 : Int) (Q : Value → WP) : WP := funJ idJ Try.prog list_List_string_has_kp Try.f37 [.pointer l0, .int .i64 h1] Q
theorem list_List_string_has_raw (jn : Jn) (l0 : Option Addr) (h1 : Int) (Q : Value → WP) : funJ jn Try.prog list_List_string_has_kp Try.f37 [.pointer l0, .int .i64 h1] Q = (
  ite2 (!Option.isNone l0) (
  ite2 (decide (h1 > (0 : Int))) (
  nilck l0 fun b_1 o_2 =>
  ld .slc b_1 o_2 fun (x_3 : Sl) =>
  ite2 (decide (h1 < (x_3.n : Int))) (
  nilck l0 fun b_4 o_5 =>
  ld .slc b_4 o_5 fun (x_6 : Sl) =>
  idx x_6.a x_6.n h1 fun b_7 o_8 =>
  ld .bool b_7 ((o_8 + (h1).toNat * 4) + 3) fun (x_9 : Bool) =>
  Q (.bool x_9)) (
  Q (.bool false))) (
  Q (.bool false))) (
  Q (.bool false))) := by kernel_rfl
theorem list_List_string_has_def (l0 : Option Addr) (h1 : Int) (Q : Value → WP) : list_List_string_has l0 h1 Q = funJ idJ Try.prog list_List_string_has_kp Try.f37 [.pointer l0, .int .i64 h1] Q := rfl
theorem list_List_string_has_calls {l0 : Option Addr} {h1 : Int} {Q : Value → WP} {w : World} (h : list_List_string_has l0 h1 Q w) : Calls Try.prog id_list_List_string_has #[.pointer l0, .int .i64 h1] w fun e w' => ∃ v, e = .returned v ∧ Q v w' :=
  funJ_calls mixed Try.func37 rfl h

-- (*hoard/list.List[string]).Next
def list_List_string_Next_kp : KP := ⟨[], []⟩
def list_List_string_Next (l0 : Option Addr) (h1 : Int) (Q : Value → WP) : WP := funJ idJ Try.prog list_List_string_Next_kp Try.f38 [.pointer l0, .int .i64 h1] Q
theorem list_List_string_Next_raw (jn : Jn) (l0 : Option Addr) (h1 : Int) (Q : Value → WP) : funJ jn Try.prog list_List_string_Next_kp Try.f38 [.pointer l0, .int .i64 h1] Q = (
  call1 .bool Try.prog id_list_List_string_has [.pointer l0, .int .i64 h1] fun (x_1 : Bool) =>
  ite2 (!x_1) (
  Q (.int .i64 (0 : Int))) (
  nilck l0 fun b_2 o_3 =>
  ld .slc b_2 o_3 fun (x_4 : Sl) =>
  idx x_4.a x_4.n h1 fun b_5 o_6 =>
  ld (.int .i64) b_5 ((o_6 + (h1).toNat * 4) + 2) fun (x_7 : Int) =>
  Q (.int .i64 x_7))) := by kernel_rfl
theorem list_List_string_Next_def (l0 : Option Addr) (h1 : Int) (Q : Value → WP) : list_List_string_Next l0 h1 Q = funJ idJ Try.prog list_List_string_Next_kp Try.f38 [.pointer l0, .int .i64 h1] Q := rfl
theorem list_List_string_Next_calls {l0 : Option Addr} {h1 : Int} {Q : Value → WP} {w : World} (h : list_List_string_Next l0 h1 Q w) : Calls Try.prog id_list_List_string_Next #[.pointer l0, .int .i64 h1] w fun e w' => ∃ v, e = .returned v ∧ Q v w' :=
  funJ_calls mixed Try.func38 rfl h

-- (*hoard/list.List[string]).lifts
def list_List_string_lifts_kp : KP := ⟨[], [(0, [0, 1, 2, 3, 4, 5, 6, 7, 8, 9, 10, 12, 13, 14, 16, 17]), (1, [0, 1, 2, 3, 4, 5, 6, 7, 9, 10, 11, 12, 13, 15, 16])]⟩
def list_List_string_lifts (l0 : Option Addr) (h1 : Int) (Q : Value → WP) : WP := funJ idJ Try.prog list_List_string_lifts_kp Try.f39 [.pointer l0, .int .i64 h1] Q
theorem list_List_string_lifts_raw (jn : Jn) (l0 : Option Addr) (h1 : Int) (Q : Value → WP) : funJ jn Try.prog list_List_string_lifts_kp Try.f39 [.pointer l0, .int .i64 h1] Q = (
  drawW fun S =>
  nilck l0 fun b_1 o_2 =>
  ldS S .slc b_1 o_2 fun (x_3 : Sl) =>
  idx x_3.a x_3.n h1 fun b_4 o_5 =>
  ldS S (.int .i64) b_4 ((o_5 + (h1).toNat * 4) + 1) fun (x_6 : Int) =>
  nilck l0 fun b_7 o_8 =>
  ld .slc b_7 o_8 fun (x_9 : Sl) =>
  keepS true S <|
  idx x_9.a x_9.n h1 fun b_10 o_11 =>
  ld (.int .i64) b_10 ((o_11 + (h1).toNat * 4) + 2) fun (x_12 : Int) =>
  keepS true S <|
  drawW fun S =>
  nilck l0 fun b_13 o_14 =>
  ldS S .slc b_13 o_14 fun (x_15 : Sl) =>
  nilck l0 fun b_16 o_17 =>
  ld .slc b_16 o_17 fun (x_18 : Sl) =>
  keepS true S <|
  idx x_15.a x_15.n x_6 fun b_19 o_20 =>
  st b_19 ((o_20 + (x_6).toNat * 4) + 2) (.int .i64 x_12) <|
  idx x_18.a x_18.n x_12 fun b_21 o_22 =>
  st b_21 ((o_22 + (x_12).toNat * 4) + 1) (.int .i64 x_6) <|
  Q (.tuple #[])) := by kernel_rfl
theorem list_List_string_lifts_def (l0 : Option Addr) (h1 : Int) (Q : Value → WP) : list_List_string_lifts l0 h1 Q = funJ idJ Try.prog list_List_string_lifts_kp Try.f39 [.pointer l0, .int .i64 h1] Q := rfl
theorem list_List_string_lifts_calls {l0 : Option Addr} {h1 : Int} {Q : Value → WP} {w : World} (h : list_List_string_lifts l0 h1 Q w) : Calls Try.prog id_list_List_string_lifts #[.pointer l0, .int .i64 h1] w fun e w' => ∃ v, e = .returned v ∧ Q v w' :=
  funJ_calls mixed Try.func39 rfl h

-- hoard/mix.Place
def mix_Place_kp : KP := ⟨[], []⟩
def mix_Place (h0 : Int) (n1 : Int) (Q : Value → WP) : WP := funJ idJ Try.prog mix_Place_kp Try.f40 [.int .u64 h0, .int .i64 n1] Q
theorem mix_Place_raw (jn : Jn) (h0 : Int) (n1 : Int) (Q : Value → WP) : funJ jn Try.prog mix_Place_kp Try.f40 [.int .u64 h0, .int .i64 n1] Q = (
  ite2 (decide (n1 < (1 : Int))) (
  Q (.int .i64 (0 : Int))) (
  when ((IntKind.wrap .u64 n1) ≠ 0) <|
  Q (.int .i64 (IntKind.wrap .i64 (Int.tmod h0 (IntKind.wrap .u64 n1)))))) := by kernel_rfl
theorem mix_Place_def (h0 : Int) (n1 : Int) (Q : Value → WP) : mix_Place h0 n1 Q = funJ idJ Try.prog mix_Place_kp Try.f40 [.int .u64 h0, .int .i64 n1] Q := rfl
theorem mix_Place_calls {h0 : Int} {n1 : Int} {Q : Value → WP} {w : World} (h : mix_Place h0 n1 Q w) : Calls Try.prog id_mix_Place #[.int .u64 h0, .int .i64 n1] w fun e w' => ∃ v, e = .returned v ∧ Q v w' :=
  funJ_calls mixed Try.func40 rfl h

-- hoard/mix.Hash
def mix_Hash_kp : KP := ⟨[(9, [1, 5, 14, 15]), (16, [5])], []⟩
def mix_Hash_j2 (jn : Jn) (Q : Value → WP)  (h5 : Int) : WP := jn 16 (fun ρ => codeI Try.prog mix_Hash_kp jn (cAt [true, true, true] (bodyOf Try.f41)) (retK Try.prog Try.f41 Q) noX (retK Try.prog Try.f41 Q) ρ) (us 5 ((.int .u64 h5) :: us 22 []))
def mix_Hash_l1 (jn : Jn) (Q : Value → WP)  (m1 : Nat) (s1 : ByteArray) (h5 : Int) (t14 : Int) (t15 : Int) : WP := lop Try.prog mix_Hash_kp jn (cAt [true, true, false, true, false, false] (bodyOf Try.f41)) (blkX 0 (seqK Try.prog mix_Hash_kp jn (cAt [true, true, true] (bodyOf Try.f41)) (retK Try.prog Try.f41 Q) noX (retK Try.prog Try.f41 Q)) noX) (retK Try.prog Try.f41 Q) m1 (us 1 ((.string s1) :: us 3 ((.int .u64 h5) :: us 8 ((.int .i64 t14) :: (.int .i64 t15) :: us 12 []))))
def mix_Hash (seed0 : Int) (s1 : ByteArray) (Q : Value → WP) : WP := funJ idJ Try.prog mix_Hash_kp Try.f41 [.int .u64 seed0, .string s1] Q
theorem mix_Hash_j2_raw (jn : Jn) (Q : Value → WP)  (h5 : Int) : codeI Try.prog mix_Hash_kp jn (cAt [true, true, true] (bodyOf Try.f41)) (retK Try.prog Try.f41 Q) noX (retK Try.prog Try.f41 Q) (us 5 ((.int .u64 h5) :: us 22 [])) = (
  Q (.int .u64 h5)) := by kernel_rfl
theorem mix_Hash_j2_def (Q : Value → WP)  (h5 : Int) : mix_Hash_j2 idJ Q  h5 = codeI Try.prog mix_Hash_kp idJ (cAt [true, true, true] (bodyOf Try.f41)) (retK Try.prog Try.f41 Q) noX (retK Try.prog Try.f41 Q) (us 5 ((.int .u64 h5) :: us 22 [])) := by kernel_rfl
theorem mix_Hash_l1_raw (jn : Jn) (Q : Value → WP)  (m1 : Nat) (s1 : ByteArray) (h5 : Int) (t14 : Int) (t15 : Int) : mix_Hash_l1 jn Q  (m1 + 1) s1 h5 t14 t15 = (
  ite2 (decide (t15 < t14)) (
  when ((0 : Int) ≤ t15 ∧ t15 < (s1.size : Int)) <|
  call1 (.int .u64) Try.prog id_mix_Mix [.int .u64 (IntKind.wrap .u64 ((bits .xor .u64 h5 (IntKind.wrap .u64 (byteAt s1 (t15).toNat))) + (11400714819323198485 : Int)))] fun (x_2 : Int) =>
  mix_Hash_l1 jn Q  m1 s1 x_2 t14 (IntKind.wrap .i64 (t15 + (1 : Int)))) (
  mix_Hash_j2 jn Q  h5)) := by kernel_rfl
theorem mix_Hash_l1_zero (jn : Jn) (Q : Value → WP)  (s1 : ByteArray) (h5 : Int) (t14 : Int) (t15 : Int) : mix_Hash_l1 jn Q  0 s1 h5 t14 t15 = bot := by kernel_rfl
theorem mix_Hash_raw (jn : Jn) (seed0 : Int) (s1 : ByteArray) (Q : Value → WP) : funJ jn Try.prog mix_Hash_kp Try.f41 [.int .u64 seed0, .string s1] Q = (
  call1 (.int .u64) Try.prog id_mix_Mix [.int .u64 (bits .xor .u64 seed0 (IntKind.wrap .u64 (s1.size : Int)))] fun (x_1 : Int) =>
  exM fun m => mix_Hash_l1 jn Q  m s1 x_1 (s1.size : Int) (0 : Int)) := by kernel_rfl
theorem mix_Hash_def (seed0 : Int) (s1 : ByteArray) (Q : Value → WP) : mix_Hash seed0 s1 Q = funJ idJ Try.prog mix_Hash_kp Try.f41 [.int .u64 seed0, .string s1] Q := rfl
theorem mix_Hash_calls {seed0 : Int} {s1 : ByteArray} {Q : Value → WP} {w : World} (h : mix_Hash seed0 s1 Q w) : Calls Try.prog id_mix_Hash #[.int .u64 seed0, .string s1] w fun e w' => ∃ v, e = .returned v ∧ Q v w' :=
  funJ_calls mixed Try.func41 rfl h

-- hoard/mix.Mix
def mix_Mix_kp : KP := ⟨[], []⟩
def mix_Mix (x0 : Int) (Q : Value → WP) : WP := funJ idJ Try.prog mix_Mix_kp Try.f42 [.int .u64 x0] Q
theorem mix_Mix_raw (jn : Jn) (x0 : Int) (Q : Value → WP) : funJ jn Try.prog mix_Mix_kp Try.f42 [.int .u64 x0] Q = (
  when ((0 : Int) ≤ (30 : Int)) <|
  when ((0 : Int) ≤ (27 : Int)) <|
  when ((0 : Int) ≤ (31 : Int)) <|
  Q (.int .u64 (bits .xor .u64 (IntKind.wrap .u64 ((bits .xor .u64 (IntKind.wrap .u64 ((bits .xor .u64 x0 (shrV .u64 x0 (30 : Int))) * (13787848793156543929 : Int))) (shrV .u64 (IntKind.wrap .u64 ((bits .xor .u64 x0 (shrV .u64 x0 (30 : Int))) * (13787848793156543929 : Int))) (27 : Int))) * (10723151780598845931 : Int))) (shrV .u64 (IntKind.wrap .u64 ((bits .xor .u64 (IntKind.wrap .u64 ((bits .xor .u64 x0 (shrV .u64 x0 (30 : Int))) * (13787848793156543929 : Int))) (shrV .u64 (IntKind.wrap .u64 ((bits .xor .u64 x0 (shrV .u64 x0 (30 : Int))) * (13787848793156543929 : Int))) (27 : Int))) * (10723151780598845931 : Int))) (31 : Int))))) := by kernel_rfl
theorem mix_Mix_def (x0 : Int) (Q : Value → WP) : mix_Mix x0 Q = funJ idJ Try.prog mix_Mix_kp Try.f42 [.int .u64 x0] Q := rfl
theorem mix_Mix_calls {x0 : Int} {Q : Value → WP} {w : World} (h : mix_Mix x0 Q w) : Calls Try.prog id_mix_Mix #[.int .u64 x0] w fun e w' => ∃ v, e = .returned v ∧ Q v w' :=
  funJ_calls mixed Try.func42 rfl h

end Go.Proofs.Ytldohdiphcnjgaa
