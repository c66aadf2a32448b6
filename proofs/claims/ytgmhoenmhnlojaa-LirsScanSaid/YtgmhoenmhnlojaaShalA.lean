/- Printed by a program of mine (wip/tools/shal.py): the shallow texts of the loaded functions, each equal to the interpreter's reading by the kernel. -/
import Derived.Test.YtgmhoenmhnlojaaSound7
import Derived.Test.YtgmhoenmhnlojaaChecked
import Derived.KernelRfl
set_option linter.unusedVariables false
set_option maxRecDepth 100000
namespace Go.Proofs.Ytgmhoenmhnlojaa
open Go.Hb

theorem mixed : Try.prog.follows .mixedOrders = true := by kernel_rfl
abbrev ty_int : TypeId := 3
abbrev ty_uint8 : TypeId := 5
abbrev ty_string : TypeId := 9
abbrev ty_hoardlaw13_Act : TypeId := 43
abbrev ty_lirs_entry : TypeId := 56
abbrev ty_lirs_Engine : TypeId := 59
abbrev ty_hoardref13_Engine : TypeId := 66
abbrev ty_strings_Builder : TypeId := 73
abbrev ty_hoardref13_cell : TypeId := 80
abbrev ty_list_List_string : TypeId := 85
abbrev ty_index_Index_lirs_entry : TypeId := 88
abbrev ty_index_place_lirs_entry : TypeId := 92
abbrev ty_list_link_string : TypeId := 98
abbrev id_hoardlaw13_LirsFits : FuncId := 3
abbrev id_hoardlaw13_LirsCounts : FuncId := 4
abbrev id_hoardlaw13_LirsTold : FuncId := 5
abbrev id_hoardlaw13_LirsScan : FuncId := 6
abbrev id_hoardlaw13_LirsOne : FuncId := 7
abbrev id_hoardlaw13_LirsEmpties : FuncId := 8
abbrev id_hoardlaw13_LirsLoads : FuncId := 9
abbrev id_hoardlaw13_LirsRemoves : FuncId := 10
abbrev id_hoardlaw13_LirsOwn : FuncId := 11
abbrev id_hoardlaw13_LirsPlays : FuncId := 12
abbrev id_hoardlaw13_LirsBounds : FuncId := 13
abbrev id_hoardlaw13_LirsOfNothing : FuncId := 14
abbrev id_hoardlaw13_long : FuncId := 15
abbrev id_lirs_New : FuncId := 16
abbrev id_hoardlaw13_has : FuncId := 17
abbrev id_hoardlaw13_known : FuncId := 18
abbrev id_lirs_Engine_Access : FuncId := 19
abbrev id_lirs_Engine_Len : FuncId := 20
abbrev id_hoardlaw13_cut : FuncId := 21
abbrev id_lirs_Engine_Has : FuncId := 22
abbrev id_hoardlaw13_texts : FuncId := 23
abbrev id_lirs_Engine_Keys : FuncId := 24
abbrev id_hoardlaw13_heavy : FuncId := 25
abbrev id_hoardref13_New : FuncId := 26
abbrev id_hoardlaw13_act : FuncId := 27
abbrev id_lirs_Engine_Evict : FuncId := 28
abbrev id_lirs_Engine_Load : FuncId := 29
abbrev id_lirs_Engine_Room : FuncId := 30
abbrev id_lirs_Engine_Remove : FuncId := 31
abbrev id_lirs_Engine_Ghosts : FuncId := 32
abbrev id_lirs_Engine_State : FuncId := 33
abbrev id_hoardref13_Engine_State : FuncId := 34
abbrev id_hoardref13_Engine_Keys : FuncId := 35
abbrev id_hoardref13_Engine_Len : FuncId := 36
abbrev id_hoardref13_Engine_Ghosts : FuncId := 37
abbrev id_hoardref13_Engine_Room : FuncId := 38
abbrev id_hoardlaw13_bounded : FuncId := 39
abbrev id_list_New_string : FuncId := 40
abbrev id_index_New_lirs_entry : FuncId := 41
abbrev id_index_Index_lirs_entry_Get : FuncId := 42
abbrev id_lirs_Engine_heats : FuncId := 43
abbrev id_lirs_Engine_prunes : FuncId := 44
abbrev id_lirs_Engine_chills : FuncId := 45
abbrev id_lirs_Engine_forgets : FuncId := 46
abbrev id_list_List_string_Len : FuncId := 47
abbrev id_list_List_string_All : FuncId := 48
abbrev id_lirs_Engine_those : FuncId := 49
abbrev id_hoardref13_Engine_Access : FuncId := 50
abbrev id_hoardref13_Engine_Load : FuncId := 51
abbrev id_hoardref13_Engine_Remove : FuncId := 52
abbrev id_hoardref13_Engine_Evict : FuncId := 53
abbrev id_hoardref13_Engine_Has : FuncId := 54
abbrev id_lirs_Engine_cools : FuncId := 55
abbrev id_list_List_string_Get : FuncId := 56
abbrev id_list_List_string_Front : FuncId := 57
abbrev id_lirs_Engine_leaves : FuncId := 58
abbrev id_lirs_Engine_set : FuncId := 59
abbrev id_list_List_string_Remove : FuncId := 60
abbrev id_strings_Builder_WriteString : FuncId := 61
abbrev id_strings_Builder_String : FuncId := 62
abbrev id_hoardref13_Engine_count : FuncId := 63
abbrev id_hoardlaw13_plain : FuncId := 64
abbrev id_index_Index_lirs_entry_find : FuncId := 65
abbrev id_lirs_Engine_top : FuncId := 66
abbrev id_lirs_Engine_lifts : FuncId := 67
abbrev id_lirs_Engine_end : FuncId := 68
abbrev id_lirs_Engine_lowest : FuncId := 69
abbrev id_list_List_string_Next : FuncId := 70
abbrev id_hoardref13_Engine_is : FuncId := 71
abbrev id_hoardref13_Engine_top : FuncId := 72
abbrev id_hoardref13_Engine_warm : FuncId := 73
abbrev id_hoardref13_Engine_leave : FuncId := 74
abbrev id_hoardref13_Engine_most : FuncId := 75
abbrev id_hoardref13_Engine_forget : FuncId := 76
abbrev id_hoardref13_Engine_prune : FuncId := 77
abbrev id_hoardref13_Engine_out : FuncId := 78
abbrev id_hoardref13_Engine_cools : FuncId := 79
abbrev id_hoardref13_Engine_at : FuncId := 80
abbrev id_hoardref13_Engine_inQ : FuncId := 81
abbrev id_list_List_string_has : FuncId := 82
abbrev id_lirs_Engine_counts : FuncId := 83
abbrev id_index_Index_lirs_entry_Delete : FuncId := 84
abbrev id_index_Index_lirs_entry_Put : FuncId := 85
abbrev id_list_List_string_lifts : FuncId := 86
abbrev id_strings_Builder_copyCheck : FuncId := 87
abbrev id_mix_Place : FuncId := 88
abbrev id_mix_Hash : FuncId := 89
abbrev id_list_List_string_PushBack : FuncId := 90
abbrev id_index_Index_lirs_entry_lays : FuncId := 91
abbrev id_index_Index_lirs_entry_grows : FuncId := 92
abbrev id_mix_Mix : FuncId := 94
abbrev id_list_List_string_take : FuncId := 95
abbrev id_list_List_string_lays : FuncId := 96
def str_S_ : ByteArray := ⟨#[83, 58]⟩
def str_S__a_h_b_g_c_c_Q__c : ByteArray := ⟨#[83, 58, 32, 97, 47, 104, 32, 98, 47, 103, 32, 99, 47, 99, 59, 81, 58, 32, 99]⟩
def str__ : ByteArray := ⟨#[32]⟩
def str__Q_ : ByteArray := ⟨#[59, 81, 58]⟩
def str__c : ByteArray := ⟨#[47, 99]⟩
def str__g : ByteArray := ⟨#[47, 103]⟩
def str__h : ByteArray := ⟨#[47, 104]⟩
def str__x : ByteArray := ⟨#[47]⟩
def str_a : ByteArray := ⟨#[97]⟩
def str_b : ByteArray := ⟨#[98]⟩
def str_c : ByteArray := ⟨#[99]⟩
def str_empty : ByteArray := ⟨#[]⟩
def str_spoilt : ByteArray := ⟨#[115, 112, 111, 105, 108, 116]⟩

-- hoard/hoardlaw13.LirsFits
def hoardlaw13_LirsFits_kp : KP := ⟨[(8, [0, 1]), (19, [0, 1, 5, 6, 7]), (28, [0, 1, 5, 6, 7, 8]), (32, [0, 1, 5, 6, 7, 8]), (38, [])], []⟩
def hoardlaw13_LirsFits_j4 (jn : Jn) (Q : Value → WP) (m2 : Nat) (room0 : Int) (l1 : Sl) (e5 : Option Addr) (in6 : Sl) (i7 : Int) (was8 : Bool) : WP := jn 32 (fun ρ => codeI Try.prog hoardlaw13_LirsFits_kp jn (cAt [true, true, true, true, true, false, true, false, false, true, false, false, true, true, true] (bodyOf Try.f3)) (seqK Try.prog hoardlaw13_LirsFits_kp jn (cAt [true, true, true, true, true, false, true, false, false, true, true] (bodyOf Try.f3)) (lopK Try.prog hoardlaw13_LirsFits_kp jn (cAt [true, true, true, true, true, false, true, false, false] (bodyOf Try.f3)) (blkX 0 (seqK Try.prog hoardlaw13_LirsFits_kp jn (cAt [true, true, true, true, true, true] (bodyOf Try.f3)) (retK Try.prog Try.f3 Q) noX (retK Try.prog Try.f3 Q)) noX) (retK Try.prog Try.f3 Q) m2) (blkX 0 (seqK Try.prog hoardlaw13_LirsFits_kp jn (cAt [true, true, true, true, true, true] (bodyOf Try.f3)) (retK Try.prog Try.f3 Q) noX (retK Try.prog Try.f3 Q)) noX) (retK Try.prog Try.f3 Q)) (blkX 1 (seqK Try.prog hoardlaw13_LirsFits_kp jn (cAt [true, true, true, true, true, false, true, false, false, true, true] (bodyOf Try.f3)) (lopK Try.prog hoardlaw13_LirsFits_kp jn (cAt [true, true, true, true, true, false, true, false, false] (bodyOf Try.f3)) (blkX 0 (seqK Try.prog hoardlaw13_LirsFits_kp jn (cAt [true, true, true, true, true, true] (bodyOf Try.f3)) (retK Try.prog Try.f3 Q) noX (retK Try.prog Try.f3 Q)) noX) (retK Try.prog Try.f3 Q) m2) (blkX 0 (seqK Try.prog hoardlaw13_LirsFits_kp jn (cAt [true, true, true, true, true, true] (bodyOf Try.f3)) (retK Try.prog Try.f3 Q) noX (retK Try.prog Try.f3 Q)) noX) (retK Try.prog Try.f3 Q)) (blkX 0 (seqK Try.prog hoardlaw13_LirsFits_kp jn (cAt [true, true, true, true, true, true] (bodyOf Try.f3)) (retK Try.prog Try.f3 Q) noX (retK Try.prog Try.f3 Q)) noX)) (retK Try.prog Try.f3 Q) ρ) ((.int .i64 room0) :: (.slice l1.a l1.n l1.c) :: us 3 ((.pointer e5) :: (.slice in6.a in6.n in6.c) :: (.int .i64 i7) :: (.bool was8) :: us 71 []))
def hoardlaw13_LirsFits_j3 (jn : Jn) (Q : Value → WP) (m2 : Nat) (room0 : Int) (l1 : Sl) (e5 : Option Addr) (in6 : Sl) (i7 : Int) (was8 : Bool) : WP := jn 28 (fun ρ => codeI Try.prog hoardlaw13_LirsFits_kp jn (cAt [true, true, true, true, true, false, true, false, false, true, false, false, true, true] (bodyOf Try.f3)) (seqK Try.prog hoardlaw13_LirsFits_kp jn (cAt [true, true, true, true, true, false, true, false, false, true, true] (bodyOf Try.f3)) (lopK Try.prog hoardlaw13_LirsFits_kp jn (cAt [true, true, true, true, true, false, true, false, false] (bodyOf Try.f3)) (blkX 0 (seqK Try.prog hoardlaw13_LirsFits_kp jn (cAt [true, true, true, true, true, true] (bodyOf Try.f3)) (retK Try.prog Try.f3 Q) noX (retK Try.prog Try.f3 Q)) noX) (retK Try.prog Try.f3 Q) m2) (blkX 0 (seqK Try.prog hoardlaw13_LirsFits_kp jn (cAt [true, true, true, true, true, true] (bodyOf Try.f3)) (retK Try.prog Try.f3 Q) noX (retK Try.prog Try.f3 Q)) noX) (retK Try.prog Try.f3 Q)) (blkX 1 (seqK Try.prog hoardlaw13_LirsFits_kp jn (cAt [true, true, true, true, true, false, true, false, false, true, true] (bodyOf Try.f3)) (lopK Try.prog hoardlaw13_LirsFits_kp jn (cAt [true, true, true, true, true, false, true, false, false] (bodyOf Try.f3)) (blkX 0 (seqK Try.prog hoardlaw13_LirsFits_kp jn (cAt [true, true, true, true, true, true] (bodyOf Try.f3)) (retK Try.prog Try.f3 Q) noX (retK Try.prog Try.f3 Q)) noX) (retK Try.prog Try.f3 Q) m2) (blkX 0 (seqK Try.prog hoardlaw13_LirsFits_kp jn (cAt [true, true, true, true, true, true] (bodyOf Try.f3)) (retK Try.prog Try.f3 Q) noX (retK Try.prog Try.f3 Q)) noX) (retK Try.prog Try.f3 Q)) (blkX 0 (seqK Try.prog hoardlaw13_LirsFits_kp jn (cAt [true, true, true, true, true, true] (bodyOf Try.f3)) (retK Try.prog Try.f3 Q) noX (retK Try.prog Try.f3 Q)) noX)) (retK Try.prog Try.f3 Q) ρ) ((.int .i64 room0) :: (.slice l1.a l1.n l1.c) :: us 3 ((.pointer e5) :: (.slice in6.a in6.n in6.c) :: (.int .i64 i7) :: (.bool was8) :: us 71 []))
def hoardlaw13_LirsFits_j5 (jn : Jn) (Q : Value → WP)   : WP := jn 38 (fun ρ => codeI Try.prog hoardlaw13_LirsFits_kp jn (cAt [true, true, true, true, true, true] (bodyOf Try.f3)) (retK Try.prog Try.f3 Q) noX (retK Try.prog Try.f3 Q) ρ) (us 80 [])
def hoardlaw13_LirsFits_l2 (jn : Jn) (Q : Value → WP)  (m2 : Nat) (room0 : Int) (l1 : Sl) (e5 : Option Addr) (in6 : Sl) (i7 : Int) : WP := lop Try.prog hoardlaw13_LirsFits_kp jn (cAt [true, true, true, true, true, false, true, false, false] (bodyOf Try.f3)) (blkX 0 (seqK Try.prog hoardlaw13_LirsFits_kp jn (cAt [true, true, true, true, true, true] (bodyOf Try.f3)) (retK Try.prog Try.f3 Q) noX (retK Try.prog Try.f3 Q)) noX) (retK Try.prog Try.f3 Q) m2 ((.int .i64 room0) :: (.slice l1.a l1.n l1.c) :: us 3 ((.pointer e5) :: (.slice in6.a in6.n in6.c) :: (.int .i64 i7) :: us 72 []))
def hoardlaw13_LirsFits_j1 (jn : Jn) (Q : Value → WP)  (room0 : Int) (l1 : Sl) : WP := jn 8 (fun ρ => codeI Try.prog hoardlaw13_LirsFits_kp jn (cAt [true, true] (bodyOf Try.f3)) (retK Try.prog Try.f3 Q) noX (retK Try.prog Try.f3 Q) ρ) ((.int .i64 room0) :: (.slice l1.a l1.n l1.c) :: us 78 [])
def hoardlaw13_LirsFits (room0 : Int) (l1 : Sl) (Q : Value → WP) : WP := funJ idJ Try.prog hoardlaw13_LirsFits_kp Try.f3 [.int .i64 room0, .slice l1.a l1.n l1.c] Q
theorem hoardlaw13_LirsFits_j4_raw (jn : Jn) (Q : Value → WP) (m2 : Nat) (room0 : Int) (l1 : Sl) (e5 : Option Addr) (in6 : Sl) (i7 : Int) (was8 : Bool) : codeI Try.prog hoardlaw13_LirsFits_kp jn (cAt [true, true, true, true, true, false, true, false, false, true, false, false, true, true, true] (bodyOf Try.f3)) (seqK Try.prog hoardlaw13_LirsFits_kp jn (cAt [true, true, true, true, true, false, true, false, false, true, true] (bodyOf Try.f3)) (lopK Try.prog hoardlaw13_LirsFits_kp jn (cAt [true, true, true, true, true, false, true, false, false] (bodyOf Try.f3)) (blkX 0 (seqK Try.prog hoardlaw13_LirsFits_kp jn (cAt [true, true, true, true, true, true] (bodyOf Try.f3)) (retK Try.prog Try.f3 Q) noX (retK Try.prog Try.f3 Q)) noX) (retK Try.prog Try.f3 Q) m2) (blkX 0 (seqK Try.prog hoardlaw13_LirsFits_kp jn (cAt [true, true, true, true, true, true] (bodyOf Try.f3)) (retK Try.prog Try.f3 Q) noX (retK Try.prog Try.f3 Q)) noX) (retK Try.prog Try.f3 Q)) (blkX 1 (seqK Try.prog hoardlaw13_LirsFits_kp jn (cAt [true, true, true, true, true, false, true, false, false, true, true] (bodyOf Try.f3)) (lopK Try.prog hoardlaw13_LirsFits_kp jn (cAt [true, true, true, true, true, false, true, false, false] (bodyOf Try.f3)) (blkX 0 (seqK Try.prog hoardlaw13_LirsFits_kp jn (cAt [true, true, true, true, true, true] (bodyOf Try.f3)) (retK Try.prog Try.f3 Q) noX (retK Try.prog Try.f3 Q)) noX) (retK Try.prog Try.f3 Q) m2) (blkX 0 (seqK Try.prog hoardlaw13_LirsFits_kp jn (cAt [true, true, true, true, true, true] (bodyOf Try.f3)) (retK Try.prog Try.f3 Q) noX (retK Try.prog Try.f3 Q)) noX) (retK Try.prog Try.f3 Q)) (blkX 0 (seqK Try.prog hoardlaw13_LirsFits_kp jn (cAt [true, true, true, true, true, true] (bodyOf Try.f3)) (retK Try.prog Try.f3 Q) noX (retK Try.prog Try.f3 Q)) noX)) (retK Try.prog Try.f3 Q) ((.int .i64 room0) :: (.slice l1.a l1.n l1.c) :: us 3 ((.pointer e5) :: (.slice in6.a in6.n in6.c) :: (.int .i64 i7) :: (.bool was8) :: us 71 [])) = (
  idx l1.a l1.n i7 fun b_13 o_14 =>
  ld .str b_13 (o_14 + (i7).toNat * 1) fun (x_15 : ByteArray) =>
  call2 .bool .slc Try.prog id_lirs_Engine_Access [.pointer e5, .string x_15] fun (x_16 : Bool) (x_17 : Sl) =>
  ite2 (!(x_16 == was8)) (
  Q (.bool false)) (
  ite2 (decide ((x_17.n : Int) > (0 : Int))) (
  Q (.bool false)) (
  call1 (.int .i64) Try.prog id_lirs_Engine_Len [.pointer e5] fun (x_18 : Int) =>
  ite2 (x_18 != (in6.n : Int)) (
  Q (.bool false)) (
  hoardlaw13_LirsFits_l2 jn Q  m2 room0 l1 e5 in6 (IntKind.wrap .i64 (i7 + (1 : Int))))))) := by kernel_rfl
theorem hoardlaw13_LirsFits_j4_def (Q : Value → WP) (m2 : Nat) (room0 : Int) (l1 : Sl) (e5 : Option Addr) (in6 : Sl) (i7 : Int) (was8 : Bool) : hoardlaw13_LirsFits_j4 idJ Q m2 room0 l1 e5 in6 i7 was8 = codeI Try.prog hoardlaw13_LirsFits_kp idJ (cAt [true, true, true, true, true, false, true, false, false, true, false, false, true, true, true] (bodyOf Try.f3)) (seqK Try.prog hoardlaw13_LirsFits_kp idJ (cAt [true, true, true, true, true, false, true, false, false, true, true] (bodyOf Try.f3)) (lopK Try.prog hoardlaw13_LirsFits_kp idJ (cAt [true, true, true, true, true, false, true, false, false] (bodyOf Try.f3)) (blkX 0 (seqK Try.prog hoardlaw13_LirsFits_kp idJ (cAt [true, true, true, true, true, true] (bodyOf Try.f3)) (retK Try.prog Try.f3 Q) noX (retK Try.prog Try.f3 Q)) noX) (retK Try.prog Try.f3 Q) m2) (blkX 0 (seqK Try.prog hoardlaw13_LirsFits_kp idJ (cAt [true, true, true, true, true, true] (bodyOf Try.f3)) (retK Try.prog Try.f3 Q) noX (retK Try.prog Try.f3 Q)) noX) (retK Try.prog Try.f3 Q)) (blkX 1 (seqK Try.prog hoardlaw13_LirsFits_kp idJ (cAt [true, true, true, true, true, false, true, false, false, true, true] (bodyOf Try.f3)) (lopK Try.prog hoardlaw13_LirsFits_kp idJ (cAt [true, true, true, true, true, false, true, false, false] (bodyOf Try.f3)) (blkX 0 (seqK Try.prog hoardlaw13_LirsFits_kp idJ (cAt [true, true, true, true, true, true] (bodyOf Try.f3)) (retK Try.prog Try.f3 Q) noX (retK Try.prog Try.f3 Q)) noX) (retK Try.prog Try.f3 Q) m2) (blkX 0 (seqK Try.prog hoardlaw13_LirsFits_kp idJ (cAt [true, true, true, true, true, true] (bodyOf Try.f3)) (retK Try.prog Try.f3 Q) noX (retK Try.prog Try.f3 Q)) noX) (retK Try.prog Try.f3 Q)) (blkX 0 (seqK Try.prog hoardlaw13_LirsFits_kp idJ (cAt [true, true, true, true, true, true] (bodyOf Try.f3)) (retK Try.prog Try.f3 Q) noX (retK Try.prog Try.f3 Q)) noX)) (retK Try.prog Try.f3 Q) ((.int .i64 room0) :: (.slice l1.a l1.n l1.c) :: us 3 ((.pointer e5) :: (.slice in6.a in6.n in6.c) :: (.int .i64 i7) :: (.bool was8) :: us 71 [])) := by kernel_rfl
theorem hoardlaw13_LirsFits_j3_raw (jn : Jn) (Q : Value → WP) (m2 : Nat) (room0 : Int) (l1 : Sl) (e5 : Option Addr) (in6 : Sl) (i7 : Int) (was8 : Bool) : codeI Try.prog hoardlaw13_LirsFits_kp jn (cAt [true, true, true, true, true, false, true, false, false, true, false, false, true, true] (bodyOf Try.f3)) (seqK Try.prog hoardlaw13_LirsFits_kp jn (cAt [true, true, true, true, true, false, true, false, false, true, true] (bodyOf Try.f3)) (lopK Try.prog hoardlaw13_LirsFits_kp jn (cAt [true, true, true, true, true, false, true, false, false] (bodyOf Try.f3)) (blkX 0 (seqK Try.prog hoardlaw13_LirsFits_kp jn (cAt [true, true, true, true, true, true] (bodyOf Try.f3)) (retK Try.prog Try.f3 Q) noX (retK Try.prog Try.f3 Q)) noX) (retK Try.prog Try.f3 Q) m2) (blkX 0 (seqK Try.prog hoardlaw13_LirsFits_kp jn (cAt [true, true, true, true, true, true] (bodyOf Try.f3)) (retK Try.prog Try.f3 Q) noX (retK Try.prog Try.f3 Q)) noX) (retK Try.prog Try.f3 Q)) (blkX 1 (seqK Try.prog hoardlaw13_LirsFits_kp jn (cAt [true, true, true, true, true, false, true, false, false, true, true] (bodyOf Try.f3)) (lopK Try.prog hoardlaw13_LirsFits_kp jn (cAt [true, true, true, true, true, false, true, false, false] (bodyOf Try.f3)) (blkX 0 (seqK Try.prog hoardlaw13_LirsFits_kp jn (cAt [true, true, true, true, true, true] (bodyOf Try.f3)) (retK Try.prog Try.f3 Q) noX (retK Try.prog Try.f3 Q)) noX) (retK Try.prog Try.f3 Q) m2) (blkX 0 (seqK Try.prog hoardlaw13_LirsFits_kp jn (cAt [true, true, true, true, true, true] (bodyOf Try.f3)) (retK Try.prog Try.f3 Q) noX (retK Try.prog Try.f3 Q)) noX) (retK Try.prog Try.f3 Q)) (blkX 0 (seqK Try.prog hoardlaw13_LirsFits_kp jn (cAt [true, true, true, true, true, true] (bodyOf Try.f3)) (retK Try.prog Try.f3 Q) noX (retK Try.prog Try.f3 Q)) noX)) (retK Try.prog Try.f3 Q) ((.int .i64 room0) :: (.slice l1.a l1.n l1.c) :: us 3 ((.pointer e5) :: (.slice in6.a in6.n in6.c) :: (.int .i64 i7) :: (.bool was8) :: us 71 [])) = (
  ite2 (!was8) (
  idx l1.a l1.n i7 fun b_8 o_9 =>
  ld .str b_8 (o_9 + (i7).toNat * 1) fun (x_10 : ByteArray) =>
  newB [.string x_10] ty_string fun b_11 =>
  appendC ty_string 1 16 [.string str_empty] ⟨in6.a, in6.n, in6.c⟩ 1 (fun w => rdA w (some ⟨b_11, 0, none⟩) (1 * 1)) fun s_12 =>
  hoardlaw13_LirsFits_j4 jn Q m2 room0 l1 e5 s_12 i7 was8) (
  hoardlaw13_LirsFits_j4 jn Q m2 room0 l1 e5 in6 i7 was8)) := by kernel_rfl
theorem hoardlaw13_LirsFits_j3_def (Q : Value → WP) (m2 : Nat) (room0 : Int) (l1 : Sl) (e5 : Option Addr) (in6 : Sl) (i7 : Int) (was8 : Bool) : hoardlaw13_LirsFits_j3 idJ Q m2 room0 l1 e5 in6 i7 was8 = codeI Try.prog hoardlaw13_LirsFits_kp idJ (cAt [true, true, true, true, true, false, true, false, false, true, false, false, true, true] (bodyOf Try.f3)) (seqK Try.prog hoardlaw13_LirsFits_kp idJ (cAt [true, true, true, true, true, false, true, false, false, true, true] (bodyOf Try.f3)) (lopK Try.prog hoardlaw13_LirsFits_kp idJ (cAt [true, true, true, true, true, false, true, false, false] (bodyOf Try.f3)) (blkX 0 (seqK Try.prog hoardlaw13_LirsFits_kp idJ (cAt [true, true, true, true, true, true] (bodyOf Try.f3)) (retK Try.prog Try.f3 Q) noX (retK Try.prog Try.f3 Q)) noX) (retK Try.prog Try.f3 Q) m2) (blkX 0 (seqK Try.prog hoardlaw13_LirsFits_kp idJ (cAt [true, true, true, true, true, true] (bodyOf Try.f3)) (retK Try.prog Try.f3 Q) noX (retK Try.prog Try.f3 Q)) noX) (retK Try.prog Try.f3 Q)) (blkX 1 (seqK Try.prog hoardlaw13_LirsFits_kp idJ (cAt [true, true, true, true, true, false, true, false, false, true, true] (bodyOf Try.f3)) (lopK Try.prog hoardlaw13_LirsFits_kp idJ (cAt [true, true, true, true, true, false, true, false, false] (bodyOf Try.f3)) (blkX 0 (seqK Try.prog hoardlaw13_LirsFits_kp idJ (cAt [true, true, true, true, true, true] (bodyOf Try.f3)) (retK Try.prog Try.f3 Q) noX (retK Try.prog Try.f3 Q)) noX) (retK Try.prog Try.f3 Q) m2) (blkX 0 (seqK Try.prog hoardlaw13_LirsFits_kp idJ (cAt [true, true, true, true, true, true] (bodyOf Try.f3)) (retK Try.prog Try.f3 Q) noX (retK Try.prog Try.f3 Q)) noX) (retK Try.prog Try.f3 Q)) (blkX 0 (seqK Try.prog hoardlaw13_LirsFits_kp idJ (cAt [true, true, true, true, true, true] (bodyOf Try.f3)) (retK Try.prog Try.f3 Q) noX (retK Try.prog Try.f3 Q)) noX)) (retK Try.prog Try.f3 Q) ((.int .i64 room0) :: (.slice l1.a l1.n l1.c) :: us 3 ((.pointer e5) :: (.slice in6.a in6.n in6.c) :: (.int .i64 i7) :: (.bool was8) :: us 71 [])) := by kernel_rfl
theorem hoardlaw13_LirsFits_j5_raw (jn : Jn) (Q : Value → WP)   : codeI Try.prog hoardlaw13_LirsFits_kp jn (cAt [true, true, true, true, true, true] (bodyOf Try.f3)) (retK Try.prog Try.f3 Q) noX (retK Try.prog Try.f3 Q) (us 80 []) = (
  call1 .bool Try.prog id_hoardlaw13_known [] fun (x_19 : Bool) =>
  Q (.bool x_19)) := by kernel_rfl
theorem hoardlaw13_LirsFits_j5_def (Q : Value → WP)   : hoardlaw13_LirsFits_j5 idJ Q   = codeI Try.prog hoardlaw13_LirsFits_kp idJ (cAt [true, true, true, true, true, true] (bodyOf Try.f3)) (retK Try.prog Try.f3 Q) noX (retK Try.prog Try.f3 Q) (us 80 []) := by kernel_rfl
theorem hoardlaw13_LirsFits_l2_raw (jn : Jn) (Q : Value → WP)  (m2 : Nat) (room0 : Int) (l1 : Sl) (e5 : Option Addr) (in6 : Sl) (i7 : Int) : hoardlaw13_LirsFits_l2 jn Q  (m2 + 1) room0 l1 e5 in6 i7 = (
  ite2 (decide (i7 < (l1.n : Int))) (
  idx l1.a l1.n i7 fun b_3 o_4 =>
  ld .str b_3 (o_4 + (i7).toNat * 1) fun (x_5 : ByteArray) =>
  call1 .bool Try.prog id_hoardlaw13_has [.slice in6.a in6.n in6.c, .string x_5] fun (x_6 : Bool) =>
  ite2 (!x_6) (
  ite2 ((in6.n : Int) == room0) (
  call1 .bool Try.prog id_hoardlaw13_known [] fun (x_7 : Bool) =>
  Q (.bool x_7)) (
  hoardlaw13_LirsFits_j3 jn Q m2 room0 l1 e5 in6 i7 x_6)) (
  hoardlaw13_LirsFits_j3 jn Q m2 room0 l1 e5 in6 i7 x_6)) (
  hoardlaw13_LirsFits_j5 jn Q  )) := by kernel_rfl
theorem hoardlaw13_LirsFits_l2_zero (jn : Jn) (Q : Value → WP)  (room0 : Int) (l1 : Sl) (e5 : Option Addr) (in6 : Sl) (i7 : Int) : hoardlaw13_LirsFits_l2 jn Q  0 room0 l1 e5 in6 i7 = bot := by kernel_rfl
theorem hoardlaw13_LirsFits_j1_raw (jn : Jn) (Q : Value → WP)  (room0 : Int) (l1 : Sl) : codeI Try.prog hoardlaw13_LirsFits_kp jn (cAt [true, true] (bodyOf Try.f3)) (retK Try.prog Try.f3 Q) noX (retK Try.prog Try.f3 Q) ((.int .i64 room0) :: (.slice l1.a l1.n l1.c) :: us 78 []) = (
  call1 .ptr Try.prog id_lirs_New [.int .i64 room0] fun (x_2 : Option Addr) =>
  ite2 (Option.isNone x_2) (
  Q (.bool false)) (
  exM fun m => hoardlaw13_LirsFits_l2 jn Q  m room0 l1 x_2 ⟨(none : Option Addr), 0, 0⟩ (0 : Int))) := by kernel_rfl
theorem hoardlaw13_LirsFits_j1_def (Q : Value → WP)  (room0 : Int) (l1 : Sl) : hoardlaw13_LirsFits_j1 idJ Q  room0 l1 = codeI Try.prog hoardlaw13_LirsFits_kp idJ (cAt [true, true] (bodyOf Try.f3)) (retK Try.prog Try.f3 Q) noX (retK Try.prog Try.f3 Q) ((.int .i64 room0) :: (.slice l1.a l1.n l1.c) :: us 78 []) := by kernel_rfl
theorem hoardlaw13_LirsFits_raw (jn : Jn) (room0 : Int) (l1 : Sl) (Q : Value → WP) : funJ jn Try.prog hoardlaw13_LirsFits_kp Try.f3 [.int .i64 room0, .slice l1.a l1.n l1.c] Q = (
  ite2 (decide (room0 < (1 : Int))) (
  Q (.bool true)) (
  ite2 (decide (room0 > (100 : Int))) (
  Q (.bool true)) (
  call1 .bool Try.prog id_hoardlaw13_long [.slice l1.a l1.n l1.c] fun (x_1 : Bool) =>
  ite2 x_1 (
  Q (.bool true)) (
  hoardlaw13_LirsFits_j1 jn Q  room0 l1)))) := by kernel_rfl
theorem hoardlaw13_LirsFits_def (room0 : Int) (l1 : Sl) (Q : Value → WP) : hoardlaw13_LirsFits room0 l1 Q = funJ idJ Try.prog hoardlaw13_LirsFits_kp Try.f3 [.int .i64 room0, .slice l1.a l1.n l1.c] Q := rfl
theorem hoardlaw13_LirsFits_calls {room0 : Int} {l1 : Sl} {Q : Value → WP} {w : World} (h : hoardlaw13_LirsFits room0 l1 Q w) : Calls Try.prog id_hoardlaw13_LirsFits #[.int .i64 room0, .slice l1.a l1.n l1.c] w fun e w' => ∃ v, e = .returned v ∧ Q v w' :=
  funJ_calls mixed Try.func3 rfl h

-- hoard/hoardlaw13.LirsCounts
def hoardlaw13_LirsCounts_kp : KP := ⟨[(19, [1, 5, 6, 7, 8]), (28, [1, 5, 6, 7, 8, 9, 10]), (34, [])], []⟩
def hoardlaw13_LirsCounts_j2 (jn : Jn) (Q : Value → WP) (m1 : Nat) (l1 : Sl) (e5 : Option Addr) (came6 : Int) (went7 : Int) (i8 : Int) (hit9 : Bool) (gone10 : Sl) : WP := jn 28 (fun ρ => codeI Try.prog hoardlaw13_LirsCounts_kp jn (cAt [true, true, true, true, true, false, true, false, false, true, false, false, true, true] (bodyOf Try.f4)) (seqK Try.prog hoardlaw13_LirsCounts_kp jn (cAt [true, true, true, true, true, false, true, false, false, true, true] (bodyOf Try.f4)) (lopK Try.prog hoardlaw13_LirsCounts_kp jn (cAt [true, true, true, true, true, false, true, false, false] (bodyOf Try.f4)) (blkX 0 (seqK Try.prog hoardlaw13_LirsCounts_kp jn (cAt [true, true, true, true, true, true] (bodyOf Try.f4)) (retK Try.prog Try.f4 Q) noX (retK Try.prog Try.f4 Q)) noX) (retK Try.prog Try.f4 Q) m1) (blkX 0 (seqK Try.prog hoardlaw13_LirsCounts_kp jn (cAt [true, true, true, true, true, true] (bodyOf Try.f4)) (retK Try.prog Try.f4 Q) noX (retK Try.prog Try.f4 Q)) noX) (retK Try.prog Try.f4 Q)) (blkX 1 (seqK Try.prog hoardlaw13_LirsCounts_kp jn (cAt [true, true, true, true, true, false, true, false, false, true, true] (bodyOf Try.f4)) (lopK Try.prog hoardlaw13_LirsCounts_kp jn (cAt [true, true, true, true, true, false, true, false, false] (bodyOf Try.f4)) (blkX 0 (seqK Try.prog hoardlaw13_LirsCounts_kp jn (cAt [true, true, true, true, true, true] (bodyOf Try.f4)) (retK Try.prog Try.f4 Q) noX (retK Try.prog Try.f4 Q)) noX) (retK Try.prog Try.f4 Q) m1) (blkX 0 (seqK Try.prog hoardlaw13_LirsCounts_kp jn (cAt [true, true, true, true, true, true] (bodyOf Try.f4)) (retK Try.prog Try.f4 Q) noX (retK Try.prog Try.f4 Q)) noX) (retK Try.prog Try.f4 Q)) (blkX 0 (seqK Try.prog hoardlaw13_LirsCounts_kp jn (cAt [true, true, true, true, true, true] (bodyOf Try.f4)) (retK Try.prog Try.f4 Q) noX (retK Try.prog Try.f4 Q)) noX)) (retK Try.prog Try.f4 Q) ρ) (us 1 ((.slice l1.a l1.n l1.c) :: us 3 ((.pointer e5) :: (.int .i64 came6) :: (.int .i64 went7) :: (.int .i64 i8) :: (.bool hit9) :: (.slice gone10.a gone10.n gone10.c) :: us 44 [])))
def hoardlaw13_LirsCounts_j3 (jn : Jn) (Q : Value → WP)   : WP := jn 34 (fun ρ => codeI Try.prog hoardlaw13_LirsCounts_kp jn (cAt [true, true, true, true, true, true] (bodyOf Try.f4)) (retK Try.prog Try.f4 Q) noX (retK Try.prog Try.f4 Q) ρ) (us 55 [])
def hoardlaw13_LirsCounts_l1 (jn : Jn) (Q : Value → WP)  (m1 : Nat) (l1 : Sl) (e5 : Option Addr) (came6 : Int) (went7 : Int) (i8 : Int) : WP := lop Try.prog hoardlaw13_LirsCounts_kp jn (cAt [true, true, true, true, true, false, true, false, false] (bodyOf Try.f4)) (blkX 0 (seqK Try.prog hoardlaw13_LirsCounts_kp jn (cAt [true, true, true, true, true, true] (bodyOf Try.f4)) (retK Try.prog Try.f4 Q) noX (retK Try.prog Try.f4 Q)) noX) (retK Try.prog Try.f4 Q) m1 (us 1 ((.slice l1.a l1.n l1.c) :: us 3 ((.pointer e5) :: (.int .i64 came6) :: (.int .i64 went7) :: (.int .i64 i8) :: us 46 [])))
def hoardlaw13_LirsCounts (room0 : Int) (l1 : Sl) (Q : Value → WP) : WP := funJ idJ Try.prog hoardlaw13_LirsCounts_kp Try.f4 [.int .i64 room0, .slice l1.a l1.n l1.c] Q
theorem hoardlaw13_LirsCounts_j2_raw (jn : Jn) (Q : Value → WP) (m1 : Nat) (l1 : Sl) (e5 : Option Addr) (came6 : Int) (went7 : Int) (i8 : Int) (hit9 : Bool) (gone10 : Sl) : codeI Try.prog hoardlaw13_LirsCounts_kp jn (cAt [true, true, true, true, true, false, true, false, false, true, false, false, true, true] (bodyOf Try.f4)) (seqK Try.prog hoardlaw13_LirsCounts_kp jn (cAt [true, true, true, true, true, false, true, false, false, true, true] (bodyOf Try.f4)) (lopK Try.prog hoardlaw13_LirsCounts_kp jn (cAt [true, true, true, true, true, false, true, false, false] (bodyOf Try.f4)) (blkX 0 (seqK Try.prog hoardlaw13_LirsCounts_kp jn (cAt [true, true, true, true, true, true] (bodyOf Try.f4)) (retK Try.prog Try.f4 Q) noX (retK Try.prog Try.f4 Q)) noX) (retK Try.prog Try.f4 Q) m1) (blkX 0 (seqK Try.prog hoardlaw13_LirsCounts_kp jn (cAt [true, true, true, true, true, true] (bodyOf Try.f4)) (retK Try.prog Try.f4 Q) noX (retK Try.prog Try.f4 Q)) noX) (retK Try.prog Try.f4 Q)) (blkX 1 (seqK Try.prog hoardlaw13_LirsCounts_kp jn (cAt [true, true, true, true, true, false, true, false, false, true, true] (bodyOf Try.f4)) (lopK Try.prog hoardlaw13_LirsCounts_kp jn (cAt [true, true, true, true, true, false, true, false, false] (bodyOf Try.f4)) (blkX 0 (seqK Try.prog hoardlaw13_LirsCounts_kp jn (cAt [true, true, true, true, true, true] (bodyOf Try.f4)) (retK Try.prog Try.f4 Q) noX (retK Try.prog Try.f4 Q)) noX) (retK Try.prog Try.f4 Q) m1) (blkX 0 (seqK Try.prog hoardlaw13_LirsCounts_kp jn (cAt [true, true, true, true, true, true] (bodyOf Try.f4)) (retK Try.prog Try.f4 Q) noX (retK Try.prog Try.f4 Q)) noX) (retK Try.prog Try.f4 Q)) (blkX 0 (seqK Try.prog hoardlaw13_LirsCounts_kp jn (cAt [true, true, true, true, true, true] (bodyOf Try.f4)) (retK Try.prog Try.f4 Q) noX (retK Try.prog Try.f4 Q)) noX)) (retK Try.prog Try.f4 Q) (us 1 ((.slice l1.a l1.n l1.c) :: us 3 ((.pointer e5) :: (.int .i64 came6) :: (.int .i64 went7) :: (.int .i64 i8) :: (.bool hit9) :: (.slice gone10.a gone10.n gone10.c) :: us 44 []))) = (
  call1 (.int .i64) Try.prog id_lirs_Engine_Len [.pointer e5] fun (x_8 : Int) =>
  ite2 ((IntKind.wrap .i64 (came6 - (IntKind.wrap .i64 (went7 + (gone10.n : Int))))) != x_8) (
  Q (.bool false)) (
  ite2 hit9 (
  ite2 (decide ((gone10.n : Int) > (0 : Int))) (
  Q (.bool false)) (
  hoardlaw13_LirsCounts_l1 jn Q  m1 l1 e5 came6 (IntKind.wrap .i64 (went7 + (gone10.n : Int))) (IntKind.wrap .i64 (i8 + (1 : Int))))) (
  hoardlaw13_LirsCounts_l1 jn Q  m1 l1 e5 came6 (IntKind.wrap .i64 (went7 + (gone10.n : Int))) (IntKind.wrap .i64 (i8 + (1 : Int)))))) := by kernel_rfl
theorem hoardlaw13_LirsCounts_j2_def (Q : Value → WP) (m1 : Nat) (l1 : Sl) (e5 : Option Addr) (came6 : Int) (went7 : Int) (i8 : Int) (hit9 : Bool) (gone10 : Sl) : hoardlaw13_LirsCounts_j2 idJ Q m1 l1 e5 came6 went7 i8 hit9 gone10 = codeI Try.prog hoardlaw13_LirsCounts_kp idJ (cAt [true, true, true, true, true, false, true, false, false, true, false, false, true, true] (bodyOf Try.f4)) (seqK Try.prog hoardlaw13_LirsCounts_kp idJ (cAt [true, true, true, true, true, false, true, false, false, true, true] (bodyOf Try.f4)) (lopK Try.prog hoardlaw13_LirsCounts_kp idJ (cAt [true, true, true, true, true, false, true, false, false] (bodyOf Try.f4)) (blkX 0 (seqK Try.prog hoardlaw13_LirsCounts_kp idJ (cAt [true, true, true, true, true, true] (bodyOf Try.f4)) (retK Try.prog Try.f4 Q) noX (retK Try.prog Try.f4 Q)) noX) (retK Try.prog Try.f4 Q) m1) (blkX 0 (seqK Try.prog hoardlaw13_LirsCounts_kp idJ (cAt [true, true, true, true, true, true] (bodyOf Try.f4)) (retK Try.prog Try.f4 Q) noX (retK Try.prog Try.f4 Q)) noX) (retK Try.prog Try.f4 Q)) (blkX 1 (seqK Try.prog hoardlaw13_LirsCounts_kp idJ (cAt [true, true, true, true, true, false, true, false, false, true, true] (bodyOf Try.f4)) (lopK Try.prog hoardlaw13_LirsCounts_kp idJ (cAt [true, true, true, true, true, false, true, false, false] (bodyOf Try.f4)) (blkX 0 (seqK Try.prog hoardlaw13_LirsCounts_kp idJ (cAt [true, true, true, true, true, true] (bodyOf Try.f4)) (retK Try.prog Try.f4 Q) noX (retK Try.prog Try.f4 Q)) noX) (retK Try.prog Try.f4 Q) m1) (blkX 0 (seqK Try.prog hoardlaw13_LirsCounts_kp idJ (cAt [true, true, true, true, true, true] (bodyOf Try.f4)) (retK Try.prog Try.f4 Q) noX (retK Try.prog Try.f4 Q)) noX) (retK Try.prog Try.f4 Q)) (blkX 0 (seqK Try.prog hoardlaw13_LirsCounts_kp idJ (cAt [true, true, true, true, true, true] (bodyOf Try.f4)) (retK Try.prog Try.f4 Q) noX (retK Try.prog Try.f4 Q)) noX)) (retK Try.prog Try.f4 Q) (us 1 ((.slice l1.a l1.n l1.c) :: us 3 ((.pointer e5) :: (.int .i64 came6) :: (.int .i64 went7) :: (.int .i64 i8) :: (.bool hit9) :: (.slice gone10.a gone10.n gone10.c) :: us 44 []))) := by kernel_rfl
theorem hoardlaw13_LirsCounts_j3_raw (jn : Jn) (Q : Value → WP)   : codeI Try.prog hoardlaw13_LirsCounts_kp jn (cAt [true, true, true, true, true, true] (bodyOf Try.f4)) (retK Try.prog Try.f4 Q) noX (retK Try.prog Try.f4 Q) (us 55 []) = (
  call1 .bool Try.prog id_hoardlaw13_known [] fun (x_9 : Bool) =>
  Q (.bool x_9)) := by kernel_rfl
theorem hoardlaw13_LirsCounts_j3_def (Q : Value → WP)   : hoardlaw13_LirsCounts_j3 idJ Q   = codeI Try.prog hoardlaw13_LirsCounts_kp idJ (cAt [true, true, true, true, true, true] (bodyOf Try.f4)) (retK Try.prog Try.f4 Q) noX (retK Try.prog Try.f4 Q) (us 55 []) := by kernel_rfl
theorem hoardlaw13_LirsCounts_l1_raw (jn : Jn) (Q : Value → WP)  (m1 : Nat) (l1 : Sl) (e5 : Option Addr) (came6 : Int) (went7 : Int) (i8 : Int) : hoardlaw13_LirsCounts_l1 jn Q  (m1 + 1) l1 e5 came6 went7 i8 = (
  ite2 (decide (i8 < (l1.n : Int))) (
  idx l1.a l1.n i8 fun b_3 o_4 =>
  ld .str b_3 (o_4 + (i8).toNat * 1) fun (x_5 : ByteArray) =>
  call2 .bool .slc Try.prog id_lirs_Engine_Access [.pointer e5, .string x_5] fun (x_6 : Bool) (x_7 : Sl) =>
  ite2 (!x_6) (
  hoardlaw13_LirsCounts_j2 jn Q m1 l1 e5 (IntKind.wrap .i64 (came6 + (1 : Int))) went7 i8 x_6 x_7) (
  hoardlaw13_LirsCounts_j2 jn Q m1 l1 e5 came6 went7 i8 x_6 x_7)) (
  hoardlaw13_LirsCounts_j3 jn Q  )) := by kernel_rfl
theorem hoardlaw13_LirsCounts_l1_zero (jn : Jn) (Q : Value → WP)  (l1 : Sl) (e5 : Option Addr) (came6 : Int) (went7 : Int) (i8 : Int) : hoardlaw13_LirsCounts_l1 jn Q  0 l1 e5 came6 went7 i8 = bot := by kernel_rfl
theorem hoardlaw13_LirsCounts_raw (jn : Jn) (room0 : Int) (l1 : Sl) (Q : Value → WP) : funJ jn Try.prog hoardlaw13_LirsCounts_kp Try.f4 [.int .i64 room0, .slice l1.a l1.n l1.c] Q = (
  call1 .bool Try.prog id_hoardlaw13_long [.slice l1.a l1.n l1.c] fun (x_1 : Bool) =>
  ite2 x_1 (
  Q (.bool true)) (
  call1 .ptr Try.prog id_lirs_New [.int .i64 room0] fun (x_2 : Option Addr) =>
  ite2 (Option.isNone x_2) (
  Q (.bool false)) (
  exM fun m => hoardlaw13_LirsCounts_l1 jn Q  m l1 x_2 (0 : Int) (0 : Int) (0 : Int)))) := by kernel_rfl
theorem hoardlaw13_LirsCounts_def (room0 : Int) (l1 : Sl) (Q : Value → WP) : hoardlaw13_LirsCounts room0 l1 Q = funJ idJ Try.prog hoardlaw13_LirsCounts_kp Try.f4 [.int .i64 room0, .slice l1.a l1.n l1.c] Q := rfl
theorem hoardlaw13_LirsCounts_calls {room0 : Int} {l1 : Sl} {Q : Value → WP} {w : World} (h : hoardlaw13_LirsCounts room0 l1 Q w) : Calls Try.prog id_hoardlaw13_LirsCounts #[.int .i64 room0, .slice l1.a l1.n l1.c] w fun e w' => ∃ v, e = .returned v ∧ Q v w' :=
  funJ_calls mixed Try.func4 rfl h

-- hoard/hoardlaw13.LirsTold
def hoardlaw13_LirsTold_kp : KP := ⟨[(19, [1, 5, 6, 7]), (20, [1, 5, 6, 7]), (30, [1, 5, 6, 7, 8, 10]), (33, [1, 5, 6, 7, 8, 10, 11]), (42, [1, 5, 6, 7, 8]), (46, [1, 5, 6, 7]), (50, [5, 6]), (53, [5, 6, 12]), (60, [])], []⟩
def hoardlaw13_LirsTold_j6 (jn : Jn) (Q : Value → WP) (m1 : Nat) (l1 : Sl) (e5 : Option Addr) (in6 : Sl) (i7 : Int) : WP := jn 20 (fun ρ => codeI Try.prog hoardlaw13_LirsTold_kp jn (cAt [true, true, true, true, true, false, true, false, false, true, true] (bodyOf Try.f5)) (lopK Try.prog hoardlaw13_LirsTold_kp jn (cAt [true, true, true, true, true, false, true, false, false] (bodyOf Try.f5)) (blkX 0 (seqK Try.prog hoardlaw13_LirsTold_kp jn (cAt [true, true, true, true, true, true] (bodyOf Try.f5)) (retK Try.prog Try.f5 Q) noX (retK Try.prog Try.f5 Q)) noX) (retK Try.prog Try.f5 Q) m1) (blkX 0 (seqK Try.prog hoardlaw13_LirsTold_kp jn (cAt [true, true, true, true, true, true] (bodyOf Try.f5)) (retK Try.prog Try.f5 Q) noX (retK Try.prog Try.f5 Q)) noX) (retK Try.prog Try.f5 Q) ρ) (us 1 ((.slice l1.a l1.n l1.c) :: us 3 ((.pointer e5) :: (.slice in6.a in6.n in6.c) :: (.int .i64 i7) :: us 98 [])))
def hoardlaw13_LirsTold_j5 (jn : Jn) (Q : Value → WP) (m1 : Nat) (l1 : Sl) (e5 : Option Addr) (in6 : Sl) (i7 : Int) : WP := jn 46 (fun ρ => codeI Try.prog hoardlaw13_LirsTold_kp jn (cAt [true, true, true, true, true, false, true, false, false, true, false, false, true, true, true, true, true] (bodyOf Try.f5)) (seqK Try.prog hoardlaw13_LirsTold_kp jn (cAt [true, true, true, true, true, false, true, false, false, true, true] (bodyOf Try.f5)) (lopK Try.prog hoardlaw13_LirsTold_kp jn (cAt [true, true, true, true, true, false, true, false, false] (bodyOf Try.f5)) (blkX 0 (seqK Try.prog hoardlaw13_LirsTold_kp jn (cAt [true, true, true, true, true, true] (bodyOf Try.f5)) (retK Try.prog Try.f5 Q) noX (retK Try.prog Try.f5 Q)) noX) (retK Try.prog Try.f5 Q) m1) (blkX 0 (seqK Try.prog hoardlaw13_LirsTold_kp jn (cAt [true, true, true, true, true, true] (bodyOf Try.f5)) (retK Try.prog Try.f5 Q) noX (retK Try.prog Try.f5 Q)) noX) (retK Try.prog Try.f5 Q)) (blkX 1 (seqK Try.prog hoardlaw13_LirsTold_kp jn (cAt [true, true, true, true, true, false, true, false, false, true, true] (bodyOf Try.f5)) (lopK Try.prog hoardlaw13_LirsTold_kp jn (cAt [true, true, true, true, true, false, true, false, false] (bodyOf Try.f5)) (blkX 0 (seqK Try.prog hoardlaw13_LirsTold_kp jn (cAt [true, true, true, true, true, true] (bodyOf Try.f5)) (retK Try.prog Try.f5 Q) noX (retK Try.prog Try.f5 Q)) noX) (retK Try.prog Try.f5 Q) m1) (blkX 0 (seqK Try.prog hoardlaw13_LirsTold_kp jn (cAt [true, true, true, true, true, true] (bodyOf Try.f5)) (retK Try.prog Try.f5 Q) noX (retK Try.prog Try.f5 Q)) noX) (retK Try.prog Try.f5 Q)) (blkX 0 (seqK Try.prog hoardlaw13_LirsTold_kp jn (cAt [true, true, true, true, true, true] (bodyOf Try.f5)) (retK Try.prog Try.f5 Q) noX (retK Try.prog Try.f5 Q)) noX)) (retK Try.prog Try.f5 Q) ρ) (us 1 ((.slice l1.a l1.n l1.c) :: us 3 ((.pointer e5) :: (.slice in6.a in6.n in6.c) :: (.int .i64 i7) :: us 98 [])))
def hoardlaw13_LirsTold_j4 (jn : Jn) (Q : Value → WP) (m1 : Nat) (l1 : Sl) (e5 : Option Addr) (in6 : Sl) (i7 : Int) (was8 : Bool) : WP := jn 42 (fun ρ => codeI Try.prog hoardlaw13_LirsTold_kp jn (cAt [true, true, true, true, true, false, true, false, false, true, false, false, true, true, true, true] (bodyOf Try.f5)) (seqK Try.prog hoardlaw13_LirsTold_kp jn (cAt [true, true, true, true, true, false, true, false, false, true, true] (bodyOf Try.f5)) (lopK Try.prog hoardlaw13_LirsTold_kp jn (cAt [true, true, true, true, true, false, true, false, false] (bodyOf Try.f5)) (blkX 0 (seqK Try.prog hoardlaw13_LirsTold_kp jn (cAt [true, true, true, true, true, true] (bodyOf Try.f5)) (retK Try.prog Try.f5 Q) noX (retK Try.prog Try.f5 Q)) noX) (retK Try.prog Try.f5 Q) m1) (blkX 0 (seqK Try.prog hoardlaw13_LirsTold_kp jn (cAt [true, true, true, true, true, true] (bodyOf Try.f5)) (retK Try.prog Try.f5 Q) noX (retK Try.prog Try.f5 Q)) noX) (retK Try.prog Try.f5 Q)) (blkX 1 (seqK Try.prog hoardlaw13_LirsTold_kp jn (cAt [true, true, true, true, true, false, true, false, false, true, true] (bodyOf Try.f5)) (lopK Try.prog hoardlaw13_LirsTold_kp jn (cAt [true, true, true, true, true, false, true, false, false] (bodyOf Try.f5)) (blkX 0 (seqK Try.prog hoardlaw13_LirsTold_kp jn (cAt [true, true, true, true, true, true] (bodyOf Try.f5)) (retK Try.prog Try.f5 Q) noX (retK Try.prog Try.f5 Q)) noX) (retK Try.prog Try.f5 Q) m1) (blkX 0 (seqK Try.prog hoardlaw13_LirsTold_kp jn (cAt [true, true, true, true, true, true] (bodyOf Try.f5)) (retK Try.prog Try.f5 Q) noX (retK Try.prog Try.f5 Q)) noX) (retK Try.prog Try.f5 Q)) (blkX 0 (seqK Try.prog hoardlaw13_LirsTold_kp jn (cAt [true, true, true, true, true, true] (bodyOf Try.f5)) (retK Try.prog Try.f5 Q) noX (retK Try.prog Try.f5 Q)) noX)) (retK Try.prog Try.f5 Q) ρ) (us 1 ((.slice l1.a l1.n l1.c) :: us 3 ((.pointer e5) :: (.slice in6.a in6.n in6.c) :: (.int .i64 i7) :: (.bool was8) :: us 97 [])))
def hoardlaw13_LirsTold_l3 (jn : Jn) (Q : Value → WP) (m1 : Nat) (m3 : Nat) (l1 : Sl) (e5 : Option Addr) (in6 : Sl) (i7 : Int) (was8 : Bool) (gone10 : Sl) (k11 : Int) : WP := lop Try.prog hoardlaw13_LirsTold_kp jn (cAt [true, true, true, true, true, false, true, false, false, true, false, false, true, true, true, false, true, false, false] (bodyOf Try.f5)) (blkX 2 (seqK Try.prog hoardlaw13_LirsTold_kp jn (cAt [true, true, true, true, true, false, true, false, false, true, false, false, true, true, true, true] (bodyOf Try.f5)) (seqK Try.prog hoardlaw13_LirsTold_kp jn (cAt [true, true, true, true, true, false, true, false, false, true, true] (bodyOf Try.f5)) (lopK Try.prog hoardlaw13_LirsTold_kp jn (cAt [true, true, true, true, true, false, true, false, false] (bodyOf Try.f5)) (blkX 0 (seqK Try.prog hoardlaw13_LirsTold_kp jn (cAt [true, true, true, true, true, true] (bodyOf Try.f5)) (retK Try.prog Try.f5 Q) noX (retK Try.prog Try.f5 Q)) noX) (retK Try.prog Try.f5 Q) m1) (blkX 0 (seqK Try.prog hoardlaw13_LirsTold_kp jn (cAt [true, true, true, true, true, true] (bodyOf Try.f5)) (retK Try.prog Try.f5 Q) noX (retK Try.prog Try.f5 Q)) noX) (retK Try.prog Try.f5 Q)) (blkX 1 (seqK Try.prog hoardlaw13_LirsTold_kp jn (cAt [true, true, true, true, true, false, true, false, false, true, true] (bodyOf Try.f5)) (lopK Try.prog hoardlaw13_LirsTold_kp jn (cAt [true, true, true, true, true, false, true, false, false] (bodyOf Try.f5)) (blkX 0 (seqK Try.prog hoardlaw13_LirsTold_kp jn (cAt [true, true, true, true, true, true] (bodyOf Try.f5)) (retK Try.prog Try.f5 Q) noX (retK Try.prog Try.f5 Q)) noX) (retK Try.prog Try.f5 Q) m1) (blkX 0 (seqK Try.prog hoardlaw13_LirsTold_kp jn (cAt [true, true, true, true, true, true] (bodyOf Try.f5)) (retK Try.prog Try.f5 Q) noX (retK Try.prog Try.f5 Q)) noX) (retK Try.prog Try.f5 Q)) (blkX 0 (seqK Try.prog hoardlaw13_LirsTold_kp jn (cAt [true, true, true, true, true, true] (bodyOf Try.f5)) (retK Try.prog Try.f5 Q) noX (retK Try.prog Try.f5 Q)) noX)) (retK Try.prog Try.f5 Q)) (blkX 1 (seqK Try.prog hoardlaw13_LirsTold_kp jn (cAt [true, true, true, true, true, false, true, false, false, true, true] (bodyOf Try.f5)) (lopK Try.prog hoardlaw13_LirsTold_kp jn (cAt [true, true, true, true, true, false, true, false, false] (bodyOf Try.f5)) (blkX 0 (seqK Try.prog hoardlaw13_LirsTold_kp jn (cAt [true, true, true, true, true, true] (bodyOf Try.f5)) (retK Try.prog Try.f5 Q) noX (retK Try.prog Try.f5 Q)) noX) (retK Try.prog Try.f5 Q) m1) (blkX 0 (seqK Try.prog hoardlaw13_LirsTold_kp jn (cAt [true, true, true, true, true, true] (bodyOf Try.f5)) (retK Try.prog Try.f5 Q) noX (retK Try.prog Try.f5 Q)) noX) (retK Try.prog Try.f5 Q)) (blkX 0 (seqK Try.prog hoardlaw13_LirsTold_kp jn (cAt [true, true, true, true, true, true] (bodyOf Try.f5)) (retK Try.prog Try.f5 Q) noX (retK Try.prog Try.f5 Q)) noX))) (retK Try.prog Try.f5 Q) m3 (us 1 ((.slice l1.a l1.n l1.c) :: us 3 ((.pointer e5) :: (.slice in6.a in6.n in6.c) :: (.int .i64 i7) :: (.bool was8) :: us 1 ((.slice gone10.a gone10.n gone10.c) :: (.int .i64 k11) :: us 94 []))))
def hoardlaw13_LirsTold_j2 (jn : Jn) (Q : Value → WP) (m1 : Nat) (l1 : Sl) (e5 : Option Addr) (in6 : Sl) (i7 : Int) (was8 : Bool) (gone10 : Sl) : WP := jn 30 (fun ρ => codeI Try.prog hoardlaw13_LirsTold_kp jn (cAt [true, true, true, true, true, false, true, false, false, true, false, false, true, true, true] (bodyOf Try.f5)) (seqK Try.prog hoardlaw13_LirsTold_kp jn (cAt [true, true, true, true, true, false, true, false, false, true, true] (bodyOf Try.f5)) (lopK Try.prog hoardlaw13_LirsTold_kp jn (cAt [true, true, true, true, true, false, true, false, false] (bodyOf Try.f5)) (blkX 0 (seqK Try.prog hoardlaw13_LirsTold_kp jn (cAt [true, true, true, true, true, true] (bodyOf Try.f5)) (retK Try.prog Try.f5 Q) noX (retK Try.prog Try.f5 Q)) noX) (retK Try.prog Try.f5 Q) m1) (blkX 0 (seqK Try.prog hoardlaw13_LirsTold_kp jn (cAt [true, true, true, true, true, true] (bodyOf Try.f5)) (retK Try.prog Try.f5 Q) noX (retK Try.prog Try.f5 Q)) noX) (retK Try.prog Try.f5 Q)) (blkX 1 (seqK Try.prog hoardlaw13_LirsTold_kp jn (cAt [true, true, true, true, true, false, true, false, false, true, true] (bodyOf Try.f5)) (lopK Try.prog hoardlaw13_LirsTold_kp jn (cAt [true, true, true, true, true, false, true, false, false] (bodyOf Try.f5)) (blkX 0 (seqK Try.prog hoardlaw13_LirsTold_kp jn (cAt [true, true, true, true, true, true] (bodyOf Try.f5)) (retK Try.prog Try.f5 Q) noX (retK Try.prog Try.f5 Q)) noX) (retK Try.prog Try.f5 Q) m1) (blkX 0 (seqK Try.prog hoardlaw13_LirsTold_kp jn (cAt [true, true, true, true, true, true] (bodyOf Try.f5)) (retK Try.prog Try.f5 Q) noX (retK Try.prog Try.f5 Q)) noX) (retK Try.prog Try.f5 Q)) (blkX 0 (seqK Try.prog hoardlaw13_LirsTold_kp jn (cAt [true, true, true, true, true, true] (bodyOf Try.f5)) (retK Try.prog Try.f5 Q) noX (retK Try.prog Try.f5 Q)) noX)) (retK Try.prog Try.f5 Q) ρ) (us 1 ((.slice l1.a l1.n l1.c) :: us 3 ((.pointer e5) :: (.slice in6.a in6.n in6.c) :: (.int .i64 i7) :: (.bool was8) :: us 1 ((.slice gone10.a gone10.n gone10.c) :: us 95 []))))
def hoardlaw13_LirsTold_j9 (jn : Jn) (Q : Value → WP)   : WP := jn 60 (fun ρ => codeI Try.prog hoardlaw13_LirsTold_kp jn (cAt [true, true, true, true, true, true, true] (bodyOf Try.f5)) (retK Try.prog Try.f5 Q) noX (retK Try.prog Try.f5 Q) ρ) (us 106 [])
def hoardlaw13_LirsTold_l8 (jn : Jn) (Q : Value → WP)  (m8 : Nat) (e5 : Option Addr) (in6 : Sl) (i12 : Int) : WP := lop Try.prog hoardlaw13_LirsTold_kp jn (cAt [true, true, true, true, true, true, false, true, false, false] (bodyOf Try.f5)) (blkX 4 (seqK Try.prog hoardlaw13_LirsTold_kp jn (cAt [true, true, true, true, true, true, true] (bodyOf Try.f5)) (retK Try.prog Try.f5 Q) noX (retK Try.prog Try.f5 Q)) noX) (retK Try.prog Try.f5 Q) m8 (us 5 ((.pointer e5) :: (.slice in6.a in6.n in6.c) :: us 5 ((.int .i64 i12) :: us 93 [])))
def hoardlaw13_LirsTold_j7 (jn : Jn) (Q : Value → WP)  (e5 : Option Addr) (in6 : Sl) : WP := jn 50 (fun ρ => codeI Try.prog hoardlaw13_LirsTold_kp jn (cAt [true, true, true, true, true, true] (bodyOf Try.f5)) (retK Try.prog Try.f5 Q) noX (retK Try.prog Try.f5 Q) ρ) (us 5 ((.pointer e5) :: (.slice in6.a in6.n in6.c) :: us 99 []))
def hoardlaw13_LirsTold_l1 (jn : Jn) (Q : Value → WP)  (m1 : Nat) (l1 : Sl) (e5 : Option Addr) (in6 : Sl) (i7 : Int) : WP := lop Try.prog hoardlaw13_LirsTold_kp jn (cAt [true, true, true, true, true, false, true, false, false] (bodyOf Try.f5)) (blkX 0 (seqK Try.prog hoardlaw13_LirsTold_kp jn (cAt [true, true, true, true, true, true] (bodyOf Try.f5)) (retK Try.prog Try.f5 Q) noX (retK Try.prog Try.f5 Q)) noX) (retK Try.prog Try.f5 Q) m1 (us 1 ((.slice l1.a l1.n l1.c) :: us 3 ((.pointer e5) :: (.slice in6.a in6.n in6.c) :: (.int .i64 i7) :: us 98 [])))
def hoardlaw13_LirsTold (room0 : Int) (l1 : Sl) (Q : Value → WP) : WP := funJ idJ Try.prog hoardlaw13_LirsTold_kp Try.f5 [.int .i64 room0, .slice l1.a l1.n l1.c] Q
theorem hoardlaw13_LirsTold_j6_raw (jn : Jn) (Q : Value → WP) (m1 : Nat) (l1 : Sl) (e5 : Option Addr) (in6 : Sl) (i7 : Int) : codeI Try.prog hoardlaw13_LirsTold_kp jn (cAt [true, true, true, true, true, false, true, false, false, true, true] (bodyOf Try.f5)) (lopK Try.prog hoardlaw13_LirsTold_kp jn (cAt [true, true, true, true, true, false, true, false, false] (bodyOf Try.f5)) (blkX 0 (seqK Try.prog hoardlaw13_LirsTold_kp jn (cAt [true, true, true, true, true, true] (bodyOf Try.f5)) (retK Try.prog Try.f5 Q) noX (retK Try.prog Try.f5 Q)) noX) (retK Try.prog Try.f5 Q) m1) (blkX 0 (seqK Try.prog hoardlaw13_LirsTold_kp jn (cAt [true, true, true, true, true, true] (bodyOf Try.f5)) (retK Try.prog Try.f5 Q) noX (retK Try.prog Try.f5 Q)) noX) (retK Try.prog Try.f5 Q) (us 1 ((.slice l1.a l1.n l1.c) :: us 3 ((.pointer e5) :: (.slice in6.a in6.n in6.c) :: (.int .i64 i7) :: us 98 []))) = (
  hoardlaw13_LirsTold_l1 jn Q  m1 l1 e5 in6 (IntKind.wrap .i64 (i7 + (1 : Int)))) := by kernel_rfl
theorem hoardlaw13_LirsTold_j6_def (Q : Value → WP) (m1 : Nat) (l1 : Sl) (e5 : Option Addr) (in6 : Sl) (i7 : Int) : hoardlaw13_LirsTold_j6 idJ Q m1 l1 e5 in6 i7 = codeI Try.prog hoardlaw13_LirsTold_kp idJ (cAt [true, true, true, true, true, false, true, false, false, true, true] (bodyOf Try.f5)) (lopK Try.prog hoardlaw13_LirsTold_kp idJ (cAt [true, true, true, true, true, false, true, false, false] (bodyOf Try.f5)) (blkX 0 (seqK Try.prog hoardlaw13_LirsTold_kp idJ (cAt [true, true, true, true, true, true] (bodyOf Try.f5)) (retK Try.prog Try.f5 Q) noX (retK Try.prog Try.f5 Q)) noX) (retK Try.prog Try.f5 Q) m1) (blkX 0 (seqK Try.prog hoardlaw13_LirsTold_kp idJ (cAt [true, true, true, true, true, true] (bodyOf Try.f5)) (retK Try.prog Try.f5 Q) noX (retK Try.prog Try.f5 Q)) noX) (retK Try.prog Try.f5 Q) (us 1 ((.slice l1.a l1.n l1.c) :: us 3 ((.pointer e5) :: (.slice in6.a in6.n in6.c) :: (.int .i64 i7) :: us 98 []))) := by kernel_rfl
theorem hoardlaw13_LirsTold_j5_raw (jn : Jn) (Q : Value → WP) (m1 : Nat) (l1 : Sl) (e5 : Option Addr) (in6 : Sl) (i7 : Int) : codeI Try.prog hoardlaw13_LirsTold_kp jn (cAt [true, true, true, true, true, false, true, false, false, true, false, false, true, true, true, true, true] (bodyOf Try.f5)) (seqK Try.prog hoardlaw13_LirsTold_kp jn (cAt [true, true, true, true, true, false, true, false, false, true, true] (bodyOf Try.f5)) (lopK Try.prog hoardlaw13_LirsTold_kp jn (cAt [true, true, true, true, true, false, true, false, false] (bodyOf Try.f5)) (blkX 0 (seqK Try.prog hoardlaw13_LirsTold_kp jn (cAt [true, true, true, true, true, true] (bodyOf Try.f5)) (retK Try.prog Try.f5 Q) noX (retK Try.prog Try.f5 Q)) noX) (retK Try.prog Try.f5 Q) m1) (blkX 0 (seqK Try.prog hoardlaw13_LirsTold_kp jn (cAt [true, true, true, true, true, true] (bodyOf Try.f5)) (retK Try.prog Try.f5 Q) noX (retK Try.prog Try.f5 Q)) noX) (retK Try.prog Try.f5 Q)) (blkX 1 (seqK Try.prog hoardlaw13_LirsTold_kp jn (cAt [true, true, true, true, true, false, true, false, false, true, true] (bodyOf Try.f5)) (lopK Try.prog hoardlaw13_LirsTold_kp jn (cAt [true, true, true, true, true, false, true, false, false] (bodyOf Try.f5)) (blkX 0 (seqK Try.prog hoardlaw13_LirsTold_kp jn (cAt [true, true, true, true, true, true] (bodyOf Try.f5)) (retK Try.prog Try.f5 Q) noX (retK Try.prog Try.f5 Q)) noX) (retK Try.prog Try.f5 Q) m1) (blkX 0 (seqK Try.prog hoardlaw13_LirsTold_kp jn (cAt [true, true, true, true, true, true] (bodyOf Try.f5)) (retK Try.prog Try.f5 Q) noX (retK Try.prog Try.f5 Q)) noX) (retK Try.prog Try.f5 Q)) (blkX 0 (seqK Try.prog hoardlaw13_LirsTold_kp jn (cAt [true, true, true, true, true, true] (bodyOf Try.f5)) (retK Try.prog Try.f5 Q) noX (retK Try.prog Try.f5 Q)) noX)) (retK Try.prog Try.f5 Q) (us 1 ((.slice l1.a l1.n l1.c) :: us 3 ((.pointer e5) :: (.slice in6.a in6.n in6.c) :: (.int .i64 i7) :: us 98 []))) = (
  call1 (.int .i64) Try.prog id_lirs_Engine_Len [.pointer e5] fun (x_29 : Int) =>
  ite2 ((in6.n : Int) != x_29) (
  Q (.bool false)) (
  hoardlaw13_LirsTold_j6 jn Q m1 l1 e5 in6 i7)) := by kernel_rfl
theorem hoardlaw13_LirsTold_j5_def (Q : Value → WP) (m1 : Nat) (l1 : Sl) (e5 : Option Addr) (in6 : Sl) (i7 : Int) : hoardlaw13_LirsTold_j5 idJ Q m1 l1 e5 in6 i7 = codeI Try.prog hoardlaw13_LirsTold_kp idJ (cAt [true, true, true, true, true, false, true, false, false, true, false, false, true, true, true, true, true] (bodyOf Try.f5)) (seqK Try.prog hoardlaw13_LirsTold_kp idJ (cAt [true, true, true, true, true, false, true, false, false, true, true] (bodyOf Try.f5)) (lopK Try.prog hoardlaw13_LirsTold_kp idJ (cAt [true, true, true, true, true, false, true, false, false] (bodyOf Try.f5)) (blkX 0 (seqK Try.prog hoardlaw13_LirsTold_kp idJ (cAt [true, true, true, true, true, true] (bodyOf Try.f5)) (retK Try.prog Try.f5 Q) noX (retK Try.prog Try.f5 Q)) noX) (retK Try.prog Try.f5 Q) m1) (blkX 0 (seqK Try.prog hoardlaw13_LirsTold_kp idJ (cAt [true, true, true, true, true, true] (bodyOf Try.f5)) (retK Try.prog Try.f5 Q) noX (retK Try.prog Try.f5 Q)) noX) (retK Try.prog Try.f5 Q)) (blkX 1 (seqK Try.prog hoardlaw13_LirsTold_kp idJ (cAt [true, true, true, true, true, false, true, false, false, true, true] (bodyOf Try.f5)) (lopK Try.prog hoardlaw13_LirsTold_kp idJ (cAt [true, true, true, true, true, false, true, false, false] (bodyOf Try.f5)) (blkX 0 (seqK Try.prog hoardlaw13_LirsTold_kp idJ (cAt [true, true, true, true, true, true] (bodyOf Try.f5)) (retK Try.prog Try.f5 Q) noX (retK Try.prog Try.f5 Q)) noX) (retK Try.prog Try.f5 Q) m1) (blkX 0 (seqK Try.prog hoardlaw13_LirsTold_kp idJ (cAt [true, true, true, true, true, true] (bodyOf Try.f5)) (retK Try.prog Try.f5 Q) noX (retK Try.prog Try.f5 Q)) noX) (retK Try.prog Try.f5 Q)) (blkX 0 (seqK Try.prog hoardlaw13_LirsTold_kp idJ (cAt [true, true, true, true, true, true] (bodyOf Try.f5)) (retK Try.prog Try.f5 Q) noX (retK Try.prog Try.f5 Q)) noX)) (retK Try.prog Try.f5 Q) (us 1 ((.slice l1.a l1.n l1.c) :: us 3 ((.pointer e5) :: (.slice in6.a in6.n in6.c) :: (.int .i64 i7) :: us 98 []))) := by kernel_rfl
theorem hoardlaw13_LirsTold_j4_raw (jn : Jn) (Q : Value → WP) (m1 : Nat) (l1 : Sl) (e5 : Option Addr) (in6 : Sl) (i7 : Int) (was8 : Bool) : codeI Try.prog hoardlaw13_LirsTold_kp jn (cAt [true, true, true, true, true, false, true, false, false, true, false, false, true, true, true, true] (bodyOf Try.f5)) (seqK Try.prog hoardlaw13_LirsTold_kp jn (cAt [true, true, true, true, true, false, true, false, false, true, true] (bodyOf Try.f5)) (lopK Try.prog hoardlaw13_LirsTold_kp jn (cAt [true, true, true, true, true, false, true, false, false] (bodyOf Try.f5)) (blkX 0 (seqK Try.prog hoardlaw13_LirsTold_kp jn (cAt [true, true, true, true, true, true] (bodyOf Try.f5)) (retK Try.prog Try.f5 Q) noX (retK Try.prog Try.f5 Q)) noX) (retK Try.prog Try.f5 Q) m1) (blkX 0 (seqK Try.prog hoardlaw13_LirsTold_kp jn (cAt [true, true, true, true, true, true] (bodyOf Try.f5)) (retK Try.prog Try.f5 Q) noX (retK Try.prog Try.f5 Q)) noX) (retK Try.prog Try.f5 Q)) (blkX 1 (seqK Try.prog hoardlaw13_LirsTold_kp jn (cAt [true, true, true, true, true, false, true, false, false, true, true] (bodyOf Try.f5)) (lopK Try.prog hoardlaw13_LirsTold_kp jn (cAt [true, true, true, true, true, false, true, false, false] (bodyOf Try.f5)) (blkX 0 (seqK Try.prog hoardlaw13_LirsTold_kp jn (cAt [true, true, true, true, true, true] (bodyOf Try.f5)) (retK Try.prog Try.f5 Q) noX (retK Try.prog Try.f5 Q)) noX) (retK Try.prog Try.f5 Q) m1) (blkX 0 (seqK Try.prog hoardlaw13_LirsTold_kp jn (cAt [true, true, true, true, true, true] (bodyOf Try.f5)) (retK Try.prog Try.f5 Q) noX (retK Try.prog Try.f5 Q)) noX) (retK Try.prog Try.f5 Q)) (blkX 0 (seqK Try.prog hoardlaw13_LirsTold_kp jn (cAt [true, true, true, true, true, true] (bodyOf Try.f5)) (retK Try.prog Try.f5 Q) noX (retK Try.prog Try.f5 Q)) noX)) (retK Try.prog Try.f5 Q) (us 1 ((.slice l1.a l1.n l1.c) :: us 3 ((.pointer e5) :: (.slice in6.a in6.n in6.c) :: (.int .i64 i7) :: (.bool was8) :: us 97 []))) = (
  ite2 (!was8) (
  idx l1.a l1.n i7 fun b_24 o_25 =>
  ld .str b_24 (o_25 + (i7).toNat * 1) fun (x_26 : ByteArray) =>
  newB [.string x_26] ty_string fun b_27 =>
  appendC ty_string 1 16 [.string str_empty] ⟨in6.a, in6.n, in6.c⟩ 1 (fun w => rdA w (some ⟨b_27, 0, none⟩) (1 * 1)) fun s_28 =>
  hoardlaw13_LirsTold_j5 jn Q m1 l1 e5 s_28 i7) (
  hoardlaw13_LirsTold_j5 jn Q m1 l1 e5 in6 i7)) := by kernel_rfl
theorem hoardlaw13_LirsTold_j4_def (Q : Value → WP) (m1 : Nat) (l1 : Sl) (e5 : Option Addr) (in6 : Sl) (i7 : Int) (was8 : Bool) : hoardlaw13_LirsTold_j4 idJ Q m1 l1 e5 in6 i7 was8 = codeI Try.prog hoardlaw13_LirsTold_kp idJ (cAt [true, true, true, true, true, false, true, false, false, true, false, false, true, true, true, true] (bodyOf Try.f5)) (seqK Try.prog hoardlaw13_LirsTold_kp idJ (cAt [true, true, true, true, true, false, true, false, false, true, true] (bodyOf Try.f5)) (lopK Try.prog hoardlaw13_LirsTold_kp idJ (cAt [true, true, true, true, true, false, true, false, false] (bodyOf Try.f5)) (blkX 0 (seqK Try.prog hoardlaw13_LirsTold_kp idJ (cAt [true, true, true, true, true, true] (bodyOf Try.f5)) (retK Try.prog Try.f5 Q) noX (retK Try.prog Try.f5 Q)) noX) (retK Try.prog Try.f5 Q) m1) (blkX 0 (seqK Try.prog hoardlaw13_LirsTold_kp idJ (cAt [true, true, true, true, true, true] (bodyOf Try.f5)) (retK Try.prog Try.f5 Q) noX (retK Try.prog Try.f5 Q)) noX) (retK Try.prog Try.f5 Q)) (blkX 1 (seqK Try.prog hoardlaw13_LirsTold_kp idJ (cAt [true, true, true, true, true, false, true, false, false, true, true] (bodyOf Try.f5)) (lopK Try.prog hoardlaw13_LirsTold_kp idJ (cAt [true, true, true, true, true, false, true, false, false] (bodyOf Try.f5)) (blkX 0 (seqK Try.prog hoardlaw13_LirsTold_kp idJ (cAt [true, true, true, true, true, true] (bodyOf Try.f5)) (retK Try.prog Try.f5 Q) noX (retK Try.prog Try.f5 Q)) noX) (retK Try.prog Try.f5 Q) m1) (blkX 0 (seqK Try.prog hoardlaw13_LirsTold_kp idJ (cAt [true, true, true, true, true, true] (bodyOf Try.f5)) (retK Try.prog Try.f5 Q) noX (retK Try.prog Try.f5 Q)) noX) (retK Try.prog Try.f5 Q)) (blkX 0 (seqK Try.prog hoardlaw13_LirsTold_kp idJ (cAt [true, true, true, true, true, true] (bodyOf Try.f5)) (retK Try.prog Try.f5 Q) noX (retK Try.prog Try.f5 Q)) noX)) (retK Try.prog Try.f5 Q) (us 1 ((.slice l1.a l1.n l1.c) :: us 3 ((.pointer e5) :: (.slice in6.a in6.n in6.c) :: (.int .i64 i7) :: (.bool was8) :: us 97 []))) := by kernel_rfl
theorem hoardlaw13_LirsTold_l3_raw (jn : Jn) (Q : Value → WP) (m1 : Nat) (m3 : Nat) (l1 : Sl) (e5 : Option Addr) (in6 : Sl) (i7 : Int) (was8 : Bool) (gone10 : Sl) (k11 : Int) : hoardlaw13_LirsTold_l3 jn Q m1 (m3 + 1) l1 e5 in6 i7 was8 gone10 k11 = (
  ite2 (decide (k11 < (gone10.n : Int))) (
  idx gone10.a gone10.n k11 fun b_16 o_17 =>
  ld .str b_16 (o_17 + (k11).toNat * 1) fun (x_18 : ByteArray) =>
  call1 .bool Try.prog id_hoardlaw13_has [.slice in6.a in6.n in6.c, .string x_18] fun (x_19 : Bool) =>
  ite2 (!x_19) (
  Q (.bool false)) (
  idx gone10.a gone10.n k11 fun b_20 o_21 =>
  ld .str b_20 (o_21 + (k11).toNat * 1) fun (x_22 : ByteArray) =>
  call1 .slc Try.prog id_hoardlaw13_cut [.slice in6.a in6.n in6.c, .string x_22] fun (x_23 : Sl) =>
  hoardlaw13_LirsTold_l3 jn Q m1 m3 l1 e5 x_23 i7 was8 gone10 (IntKind.wrap .i64 (k11 + (1 : Int))))) (
  hoardlaw13_LirsTold_j4 jn Q m1 l1 e5 in6 i7 was8)) := by kernel_rfl
theorem hoardlaw13_LirsTold_l3_zero (jn : Jn) (Q : Value → WP) (m1 : Nat) (l1 : Sl) (e5 : Option Addr) (in6 : Sl) (i7 : Int) (was8 : Bool) (gone10 : Sl) (k11 : Int) : hoardlaw13_LirsTold_l3 jn Q m1 0 l1 e5 in6 i7 was8 gone10 k11 = bot := by kernel_rfl
theorem hoardlaw13_LirsTold_j2_raw (jn : Jn) (Q : Value → WP) (m1 : Nat) (l1 : Sl) (e5 : Option Addr) (in6 : Sl) (i7 : Int) (was8 : Bool) (gone10 : Sl) : codeI Try.prog hoardlaw13_LirsTold_kp jn (cAt [true, true, true, true, true, false, true, false, false, true, false, false, true, true, true] (bodyOf Try.f5)) (seqK Try.prog hoardlaw13_LirsTold_kp jn (cAt [true, true, true, true, true, false, true, false, false, true, true] (bodyOf Try.f5)) (lopK Try.prog hoardlaw13_LirsTold_kp jn (cAt [true, true, true, true, true, false, true, false, false] (bodyOf Try.f5)) (blkX 0 (seqK Try.prog hoardlaw13_LirsTold_kp jn (cAt [true, true, true, true, true, true] (bodyOf Try.f5)) (retK Try.prog Try.f5 Q) noX (retK Try.prog Try.f5 Q)) noX) (retK Try.prog Try.f5 Q) m1) (blkX 0 (seqK Try.prog hoardlaw13_LirsTold_kp jn (cAt [true, true, true, true, true, true] (bodyOf Try.f5)) (retK Try.prog Try.f5 Q) noX (retK Try.prog Try.f5 Q)) noX) (retK Try.prog Try.f5 Q)) (blkX 1 (seqK Try.prog hoardlaw13_LirsTold_kp jn (cAt [true, true, true, true, true, false, true, false, false, true, true] (bodyOf Try.f5)) (lopK Try.prog hoardlaw13_LirsTold_kp jn (cAt [true, true, true, true, true, false, true, false, false] (bodyOf Try.f5)) (blkX 0 (seqK Try.prog hoardlaw13_LirsTold_kp jn (cAt [true, true, true, true, true, true] (bodyOf Try.f5)) (retK Try.prog Try.f5 Q) noX (retK Try.prog Try.f5 Q)) noX) (retK Try.prog Try.f5 Q) m1) (blkX 0 (seqK Try.prog hoardlaw13_LirsTold_kp jn (cAt [true, true, true, true, true, true] (bodyOf Try.f5)) (retK Try.prog Try.f5 Q) noX (retK Try.prog Try.f5 Q)) noX) (retK Try.prog Try.f5 Q)) (blkX 0 (seqK Try.prog hoardlaw13_LirsTold_kp jn (cAt [true, true, true, true, true, true] (bodyOf Try.f5)) (retK Try.prog Try.f5 Q) noX (retK Try.prog Try.f5 Q)) noX)) (retK Try.prog Try.f5 Q) (us 1 ((.slice l1.a l1.n l1.c) :: us 3 ((.pointer e5) :: (.slice in6.a in6.n in6.c) :: (.int .i64 i7) :: (.bool was8) :: us 1 ((.slice gone10.a gone10.n gone10.c) :: us 95 [])))) = (
  exM fun m => hoardlaw13_LirsTold_l3 jn Q m1 m l1 e5 in6 i7 was8 gone10 (0 : Int)) := by kernel_rfl
theorem hoardlaw13_LirsTold_j2_def (Q : Value → WP) (m1 : Nat) (l1 : Sl) (e5 : Option Addr) (in6 : Sl) (i7 : Int) (was8 : Bool) (gone10 : Sl) : hoardlaw13_LirsTold_j2 idJ Q m1 l1 e5 in6 i7 was8 gone10 = codeI Try.prog hoardlaw13_LirsTold_kp idJ (cAt [true, true, true, true, true, false, true, false, false, true, false, false, true, true, true] (bodyOf Try.f5)) (seqK Try.prog hoardlaw13_LirsTold_kp idJ (cAt [true, true, true, true, true, false, true, false, false, true, true] (bodyOf Try.f5)) (lopK Try.prog hoardlaw13_LirsTold_kp idJ (cAt [true, true, true, true, true, false, true, false, false] (bodyOf Try.f5)) (blkX 0 (seqK Try.prog hoardlaw13_LirsTold_kp idJ (cAt [true, true, true, true, true, true] (bodyOf Try.f5)) (retK Try.prog Try.f5 Q) noX (retK Try.prog Try.f5 Q)) noX) (retK Try.prog Try.f5 Q) m1) (blkX 0 (seqK Try.prog hoardlaw13_LirsTold_kp idJ (cAt [true, true, true, true, true, true] (bodyOf Try.f5)) (retK Try.prog Try.f5 Q) noX (retK Try.prog Try.f5 Q)) noX) (retK Try.prog Try.f5 Q)) (blkX 1 (seqK Try.prog hoardlaw13_LirsTold_kp idJ (cAt [true, true, true, true, true, false, true, false, false, true, true] (bodyOf Try.f5)) (lopK Try.prog hoardlaw13_LirsTold_kp idJ (cAt [true, true, true, true, true, false, true, false, false] (bodyOf Try.f5)) (blkX 0 (seqK Try.prog hoardlaw13_LirsTold_kp idJ (cAt [true, true, true, true, true, true] (bodyOf Try.f5)) (retK Try.prog Try.f5 Q) noX (retK Try.prog Try.f5 Q)) noX) (retK Try.prog Try.f5 Q) m1) (blkX 0 (seqK Try.prog hoardlaw13_LirsTold_kp idJ (cAt [true, true, true, true, true, true] (bodyOf Try.f5)) (retK Try.prog Try.f5 Q) noX (retK Try.prog Try.f5 Q)) noX) (retK Try.prog Try.f5 Q)) (blkX 0 (seqK Try.prog hoardlaw13_LirsTold_kp idJ (cAt [true, true, true, true, true, true] (bodyOf Try.f5)) (retK Try.prog Try.f5 Q) noX (retK Try.prog Try.f5 Q)) noX)) (retK Try.prog Try.f5 Q) (us 1 ((.slice l1.a l1.n l1.c) :: us 3 ((.pointer e5) :: (.slice in6.a in6.n in6.c) :: (.int .i64 i7) :: (.bool was8) :: us 1 ((.slice gone10.a gone10.n gone10.c) :: us 95 [])))) := by kernel_rfl
theorem hoardlaw13_LirsTold_j9_raw (jn : Jn) (Q : Value → WP)   : codeI Try.prog hoardlaw13_LirsTold_kp jn (cAt [true, true, true, true, true, true, true] (bodyOf Try.f5)) (retK Try.prog Try.f5 Q) noX (retK Try.prog Try.f5 Q) (us 106 []) = (
  call1 .bool Try.prog id_hoardlaw13_known [] fun (x_38 : Bool) =>
  Q (.bool x_38)) := by kernel_rfl
theorem hoardlaw13_LirsTold_j9_def (Q : Value → WP)   : hoardlaw13_LirsTold_j9 idJ Q   = codeI Try.prog hoardlaw13_LirsTold_kp idJ (cAt [true, true, true, true, true, true, true] (bodyOf Try.f5)) (retK Try.prog Try.f5 Q) noX (retK Try.prog Try.f5 Q) (us 106 []) := by kernel_rfl
theorem hoardlaw13_LirsTold_l8_raw (jn : Jn) (Q : Value → WP)  (m8 : Nat) (e5 : Option Addr) (in6 : Sl) (i12 : Int) : hoardlaw13_LirsTold_l8 jn Q  (m8 + 1) e5 in6 i12 = (
  ite2 (decide (i12 < (in6.n : Int))) (
  idx in6.a in6.n i12 fun b_34 o_35 =>
  ld .str b_34 (o_35 + (i12).toNat * 1) fun (x_36 : ByteArray) =>
  call1 .bool Try.prog id_lirs_Engine_Has [.pointer e5, .string x_36] fun (x_37 : Bool) =>
  ite2 (!x_37) (
  Q (.bool false)) (
  hoardlaw13_LirsTold_l8 jn Q  m8 e5 in6 (IntKind.wrap .i64 (i12 + (1 : Int))))) (
  hoardlaw13_LirsTold_j9 jn Q  )) := by kernel_rfl
theorem hoardlaw13_LirsTold_l8_zero (jn : Jn) (Q : Value → WP)  (e5 : Option Addr) (in6 : Sl) (i12 : Int) : hoardlaw13_LirsTold_l8 jn Q  0 e5 in6 i12 = bot := by kernel_rfl
theorem hoardlaw13_LirsTold_j7_raw (jn : Jn) (Q : Value → WP)  (e5 : Option Addr) (in6 : Sl) : codeI Try.prog hoardlaw13_LirsTold_kp jn (cAt [true, true, true, true, true, true] (bodyOf Try.f5)) (retK Try.prog Try.f5 Q) noX (retK Try.prog Try.f5 Q) (us 5 ((.pointer e5) :: (.slice in6.a in6.n in6.c) :: us 99 [])) = (
  exM fun m => hoardlaw13_LirsTold_l8 jn Q  m e5 in6 (0 : Int)) := by kernel_rfl
theorem hoardlaw13_LirsTold_j7_def (Q : Value → WP)  (e5 : Option Addr) (in6 : Sl) : hoardlaw13_LirsTold_j7 idJ Q  e5 in6 = codeI Try.prog hoardlaw13_LirsTold_kp idJ (cAt [true, true, true, true, true, true] (bodyOf Try.f5)) (retK Try.prog Try.f5 Q) noX (retK Try.prog Try.f5 Q) (us 5 ((.pointer e5) :: (.slice in6.a in6.n in6.c) :: us 99 [])) := by kernel_rfl
theorem hoardlaw13_LirsTold_l1_raw (jn : Jn) (Q : Value → WP)  (m1 : Nat) (l1 : Sl) (e5 : Option Addr) (in6 : Sl) (i7 : Int) : hoardlaw13_LirsTold_l1 jn Q  (m1 + 1) l1 e5 in6 i7 = (
  ite2 (decide (i7 < (l1.n : Int))) (
  idx l1.a l1.n i7 fun b_3 o_4 =>
  ld .str b_3 (o_4 + (i7).toNat * 1) fun (x_5 : ByteArray) =>
  call1 .bool Try.prog id_hoardlaw13_has [.slice in6.a in6.n in6.c, .string x_5] fun (x_6 : Bool) =>
  idx l1.a l1.n i7 fun b_7 o_8 =>
  ld .str b_7 (o_8 + (i7).toNat * 1) fun (x_9 : ByteArray) =>
  call2 .bool .slc Try.prog id_lirs_Engine_Access [.pointer e5, .string x_9] fun (x_10 : Bool) (x_11 : Sl) =>
  ite2 (!(x_10 == x_6)) (
  Q (.bool false)) (
  ite2 x_10 (
  ite2 (decide ((x_11.n : Int) > (0 : Int))) (
  Q (.bool false)) (
  idx l1.a l1.n i7 fun b_12 o_13 =>
  ld .str b_12 (o_13 + (i7).toNat * 1) fun (x_14 : ByteArray) =>
  call1 .bool Try.prog id_hoardlaw13_has [.slice x_11.a x_11.n x_11.c, .string x_14] fun (x_15 : Bool) =>
  ite2 x_15 (
  Q (.bool false)) (
  hoardlaw13_LirsTold_j2 jn Q m1 l1 e5 in6 i7 x_6 x_11))) (
  idx l1.a l1.n i7 fun b_30 o_31 =>
  ld .str b_30 (o_31 + (i7).toNat * 1) fun (x_32 : ByteArray) =>
  call1 .bool Try.prog id_hoardlaw13_has [.slice x_11.a x_11.n x_11.c, .string x_32] fun (x_33 : Bool) =>
  ite2 x_33 (
  Q (.bool false)) (
  hoardlaw13_LirsTold_j2 jn Q m1 l1 e5 in6 i7 x_6 x_11)))) (
  hoardlaw13_LirsTold_j7 jn Q  e5 in6)) := by kernel_rfl
theorem hoardlaw13_LirsTold_l1_zero (jn : Jn) (Q : Value → WP)  (l1 : Sl) (e5 : Option Addr) (in6 : Sl) (i7 : Int) : hoardlaw13_LirsTold_l1 jn Q  0 l1 e5 in6 i7 = bot := by kernel_rfl
theorem hoardlaw13_LirsTold_raw (jn : Jn) (room0 : Int) (l1 : Sl) (Q : Value → WP) : funJ jn Try.prog hoardlaw13_LirsTold_kp Try.f5 [.int .i64 room0, .slice l1.a l1.n l1.c] Q = (
  call1 .bool Try.prog id_hoardlaw13_long [.slice l1.a l1.n l1.c] fun (x_1 : Bool) =>
  ite2 x_1 (
  Q (.bool true)) (
  call1 .ptr Try.prog id_lirs_New [.int .i64 room0] fun (x_2 : Option Addr) =>
  ite2 (Option.isNone x_2) (
  Q (.bool false)) (
  exM fun m => hoardlaw13_LirsTold_l1 jn Q  m l1 x_2 ⟨(none : Option Addr), 0, 0⟩ (0 : Int)))) := by kernel_rfl
theorem hoardlaw13_LirsTold_def (room0 : Int) (l1 : Sl) (Q : Value → WP) : hoardlaw13_LirsTold room0 l1 Q = funJ idJ Try.prog hoardlaw13_LirsTold_kp Try.f5 [.int .i64 room0, .slice l1.a l1.n l1.c] Q := rfl
theorem hoardlaw13_LirsTold_calls {room0 : Int} {l1 : Sl} {Q : Value → WP} {w : World} (h : hoardlaw13_LirsTold room0 l1 Q w) : Calls Try.prog id_hoardlaw13_LirsTold #[.int .i64 room0, .slice l1.a l1.n l1.c] w fun e w' => ∃ v, e = .returned v ∧ Q v w' :=
  funJ_calls mixed Try.func5 rfl h

-- hoard/hoardlaw13.LirsScan
def hoardlaw13_LirsScan_kp : KP := ⟨[(8, [0, 1]), (19, [0, 1, 5, 6, 7]), (28, [1, 5, 6]), (31, [1, 5, 6, 9]), (38, [1, 5, 6, 9]), (40, [5, 6]), (43, [5, 6, 10]), (50, [])], [(16, [0, 1, 2, 3, 6, 7, 8, 9, 10, 11, 12, 15])]⟩
def hoardlaw13_LirsScan_j5 (jn : Jn) (Q : Value → WP) (m4 : Nat) (scan1 : Sl) (e5 : Option Addr) (hot6 : Sl) (i9 : Int) : WP := jn 38 (fun ρ => codeI Try.prog hoardlaw13_LirsScan_kp jn (cAt [true, true, true, true, true, true, false, true, false, false, true, false, false, true] (bodyOf Try.f6)) (seqK Try.prog hoardlaw13_LirsScan_kp jn (cAt [true, true, true, true, true, true, false, true, false, false, true, true] (bodyOf Try.f6)) (lopK Try.prog hoardlaw13_LirsScan_kp jn (cAt [true, true, true, true, true, true, false, true, false, false] (bodyOf Try.f6)) (blkX 2 (seqK Try.prog hoardlaw13_LirsScan_kp jn (cAt [true, true, true, true, true, true, true] (bodyOf Try.f6)) (retK Try.prog Try.f6 Q) noX (retK Try.prog Try.f6 Q)) noX) (retK Try.prog Try.f6 Q) m4) (blkX 2 (seqK Try.prog hoardlaw13_LirsScan_kp jn (cAt [true, true, true, true, true, true, true] (bodyOf Try.f6)) (retK Try.prog Try.f6 Q) noX (retK Try.prog Try.f6 Q)) noX) (retK Try.prog Try.f6 Q)) (blkX 3 (seqK Try.prog hoardlaw13_LirsScan_kp jn (cAt [true, true, true, true, true, true, false, true, false, false, true, true] (bodyOf Try.f6)) (lopK Try.prog hoardlaw13_LirsScan_kp jn (cAt [true, true, true, true, true, true, false, true, false, false] (bodyOf Try.f6)) (blkX 2 (seqK Try.prog hoardlaw13_LirsScan_kp jn (cAt [true, true, true, true, true, true, true] (bodyOf Try.f6)) (retK Try.prog Try.f6 Q) noX (retK Try.prog Try.f6 Q)) noX) (retK Try.prog Try.f6 Q) m4) (blkX 2 (seqK Try.prog hoardlaw13_LirsScan_kp jn (cAt [true, true, true, true, true, true, true] (bodyOf Try.f6)) (retK Try.prog Try.f6 Q) noX (retK Try.prog Try.f6 Q)) noX) (retK Try.prog Try.f6 Q)) (blkX 2 (seqK Try.prog hoardlaw13_LirsScan_kp jn (cAt [true, true, true, true, true, true, true] (bodyOf Try.f6)) (retK Try.prog Try.f6 Q) noX (retK Try.prog Try.f6 Q)) noX)) (retK Try.prog Try.f6 Q) ρ) (us 1 ((.slice scan1.a scan1.n scan1.c) :: us 3 ((.pointer e5) :: (.slice hot6.a hot6.n hot6.c) :: us 2 ((.int .i64 i9) :: us 79 []))))
def hoardlaw13_LirsScan_j8 (jn : Jn) (Q : Value → WP)   : WP := jn 50 (fun ρ => codeI Try.prog hoardlaw13_LirsScan_kp jn (cAt [true, true, true, true, true, true, true, true] (bodyOf Try.f6)) (retK Try.prog Try.f6 Q) noX (retK Try.prog Try.f6 Q) ρ) (us 89 [])
def hoardlaw13_LirsScan_l7 (jn : Jn) (Q : Value → WP)  (m7 : Nat) (e5 : Option Addr) (hot6 : Sl) (i10 : Int) : WP := lop Try.prog hoardlaw13_LirsScan_kp jn (cAt [true, true, true, true, true, true, true, false, true, false, false] (bodyOf Try.f6)) (blkX 4 (seqK Try.prog hoardlaw13_LirsScan_kp jn (cAt [true, true, true, true, true, true, true, true] (bodyOf Try.f6)) (retK Try.prog Try.f6 Q) noX (retK Try.prog Try.f6 Q)) noX) (retK Try.prog Try.f6 Q) m7 (us 5 ((.pointer e5) :: (.slice hot6.a hot6.n hot6.c) :: us 3 ((.int .i64 i10) :: us 78 [])))
def hoardlaw13_LirsScan_j6 (jn : Jn) (Q : Value → WP)  (e5 : Option Addr) (hot6 : Sl) : WP := jn 40 (fun ρ => codeI Try.prog hoardlaw13_LirsScan_kp jn (cAt [true, true, true, true, true, true, true] (bodyOf Try.f6)) (retK Try.prog Try.f6 Q) noX (retK Try.prog Try.f6 Q) ρ) (us 5 ((.pointer e5) :: (.slice hot6.a hot6.n hot6.c) :: us 82 []))
def hoardlaw13_LirsScan_l4 (jn : Jn) (Q : Value → WP)  (m4 : Nat) (scan1 : Sl) (e5 : Option Addr) (hot6 : Sl) (i9 : Int) : WP := lop Try.prog hoardlaw13_LirsScan_kp jn (cAt [true, true, true, true, true, true, false, true, false, false] (bodyOf Try.f6)) (blkX 2 (seqK Try.prog hoardlaw13_LirsScan_kp jn (cAt [true, true, true, true, true, true, true] (bodyOf Try.f6)) (retK Try.prog Try.f6 Q) noX (retK Try.prog Try.f6 Q)) noX) (retK Try.prog Try.f6 Q) m4 (us 1 ((.slice scan1.a scan1.n scan1.c) :: us 3 ((.pointer e5) :: (.slice hot6.a hot6.n hot6.c) :: us 2 ((.int .i64 i9) :: us 79 []))))
def hoardlaw13_LirsScan_j3 (jn : Jn) (Q : Value → WP)  (scan1 : Sl) (e5 : Option Addr) (hot6 : Sl) : WP := jn 28 (fun ρ => codeI Try.prog hoardlaw13_LirsScan_kp jn (cAt [true, true, true, true, true, true] (bodyOf Try.f6)) (retK Try.prog Try.f6 Q) noX (retK Try.prog Try.f6 Q) ρ) (us 1 ((.slice scan1.a scan1.n scan1.c) :: us 3 ((.pointer e5) :: (.slice hot6.a hot6.n hot6.c) :: us 82 [])))
def hoardlaw13_LirsScan_l2 (jn : Jn) (Q : Value → WP)  (m2 : Nat) (room0 : Int) (scan1 : Sl) (e5 : Option Addr) (hot6 : Sl) (i7 : Int) : WP := lop Try.prog hoardlaw13_LirsScan_kp jn (cAt [true, true, true, true, true, false, true, false, false] (bodyOf Try.f6)) (blkX 0 (seqK Try.prog hoardlaw13_LirsScan_kp jn (cAt [true, true, true, true, true, true] (bodyOf Try.f6)) (retK Try.prog Try.f6 Q) noX (retK Try.prog Try.f6 Q)) noX) (retK Try.prog Try.f6 Q) m2 ((.int .i64 room0) :: (.slice scan1.a scan1.n scan1.c) :: us 3 ((.pointer e5) :: (.slice hot6.a hot6.n hot6.c) :: (.int .i64 i7) :: us 81 []))
def hoardlaw13_LirsScan_j1 (jn : Jn) (Q : Value → WP)  (room0 : Int) (scan1 : Sl) : WP := jn 8 (fun ρ => codeI Try.prog hoardlaw13_LirsScan_kp jn (cAt [true, true] (bodyOf Try.f6)) (retK Try.prog Try.f6 Q) noX (retK Try.prog Try.f6 Q) ρ) ((.int .i64 room0) :: (.slice scan1.a scan1.n scan1.c) :: us 87 [])
def hoardlaw13_LirsScan (room0 : Int) (scan1 : Sl) (Q : Value → WP) : WP := funJ idJ Try.prog hoardlaw13_LirsScan_kp Try.f6 [.int .i64 room0, .slice scan1.a scan1.n scan1.c] Q
theorem hoardlaw13_LirsScan_j5_raw (jn : Jn) (Q : Value → WP) (m4 : Nat) (scan1 : Sl) (e5 : Option Addr) (hot6 : Sl) (i9 : Int) : codeI Try.prog hoardlaw13_LirsScan_kp jn (cAt [true, true, true, true, true, true, false, true, false, false, true, false, false, true] (bodyOf Try.f6)) (seqK Try.prog hoardlaw13_LirsScan_kp jn (cAt [true, true, true, true, true, true, false, true, false, false, true, true] (bodyOf Try.f6)) (lopK Try.prog hoardlaw13_LirsScan_kp jn (cAt [true, true, true, true, true, true, false, true, false, false] (bodyOf Try.f6)) (blkX 2 (seqK Try.prog hoardlaw13_LirsScan_kp jn (cAt [true, true, true, true, true, true, true] (bodyOf Try.f6)) (retK Try.prog Try.f6 Q) noX (retK Try.prog Try.f6 Q)) noX) (retK Try.prog Try.f6 Q) m4) (blkX 2 (seqK Try.prog hoardlaw13_LirsScan_kp jn (cAt [true, true, true, true, true, true, true] (bodyOf Try.f6)) (retK Try.prog Try.f6 Q) noX (retK Try.prog Try.f6 Q)) noX) (retK Try.prog Try.f6 Q)) (blkX 3 (seqK Try.prog hoardlaw13_LirsScan_kp jn (cAt [true, true, true, true, true, true, false, true, false, false, true, true] (bodyOf Try.f6)) (lopK Try.prog hoardlaw13_LirsScan_kp jn (cAt [true, true, true, true, true, true, false, true, false, false] (bodyOf Try.f6)) (blkX 2 (seqK Try.prog hoardlaw13_LirsScan_kp jn (cAt [true, true, true, true, true, true, true] (bodyOf Try.f6)) (retK Try.prog Try.f6 Q) noX (retK Try.prog Try.f6 Q)) noX) (retK Try.prog Try.f6 Q) m4) (blkX 2 (seqK Try.prog hoardlaw13_LirsScan_kp jn (cAt [true, true, true, true, true, true, true] (bodyOf Try.f6)) (retK Try.prog Try.f6 Q) noX (retK Try.prog Try.f6 Q)) noX) (retK Try.prog Try.f6 Q)) (blkX 2 (seqK Try.prog hoardlaw13_LirsScan_kp jn (cAt [true, true, true, true, true, true, true] (bodyOf Try.f6)) (retK Try.prog Try.f6 Q) noX (retK Try.prog Try.f6 Q)) noX)) (retK Try.prog Try.f6 Q) (us 1 ((.slice scan1.a scan1.n scan1.c) :: us 3 ((.pointer e5) :: (.slice hot6.a hot6.n hot6.c) :: us 2 ((.int .i64 i9) :: us 79 [])))) = (
  idx scan1.a scan1.n i9 fun b_19 o_20 =>
  ld .str b_19 (o_20 + (i9).toNat * 1) fun (x_21 : ByteArray) =>
  call2 .bool .slc Try.prog id_lirs_Engine_Access [.pointer e5, .string x_21] fun (x_22 : Bool) (x_23 : Sl) =>
  hoardlaw13_LirsScan_l4 jn Q  m4 scan1 e5 hot6 (IntKind.wrap .i64 (i9 + (1 : Int)))) := by kernel_rfl
theorem hoardlaw13_LirsScan_j5_def (Q : Value → WP) (m4 : Nat) (scan1 : Sl) (e5 : Option Addr) (hot6 : Sl) (i9 : Int) : hoardlaw13_LirsScan_j5 idJ Q m4 scan1 e5 hot6 i9 = codeI Try.prog hoardlaw13_LirsScan_kp idJ (cAt [true, true, true, true, true, true, false, true, false, false, true, false, false, true] (bodyOf Try.f6)) (seqK Try.prog hoardlaw13_LirsScan_kp idJ (cAt [true, true, true, true, true, true, false, true, false, false, true, true] (bodyOf Try.f6)) (lopK Try.prog hoardlaw13_LirsScan_kp idJ (cAt [true, true, true, true, true, true, false, true, false, false] (bodyOf Try.f6)) (blkX 2 (seqK Try.prog hoardlaw13_LirsScan_kp idJ (cAt [true, true, true, true, true, true, true] (bodyOf Try.f6)) (retK Try.prog Try.f6 Q) noX (retK Try.prog Try.f6 Q)) noX) (retK Try.prog Try.f6 Q) m4) (blkX 2 (seqK Try.prog hoardlaw13_LirsScan_kp idJ (cAt [true, true, true, true, true, true, true] (bodyOf Try.f6)) (retK Try.prog Try.f6 Q) noX (retK Try.prog Try.f6 Q)) noX) (retK Try.prog Try.f6 Q)) (blkX 3 (seqK Try.prog hoardlaw13_LirsScan_kp idJ (cAt [true, true, true, true, true, true, false, true, false, false, true, true] (bodyOf Try.f6)) (lopK Try.prog hoardlaw13_LirsScan_kp idJ (cAt [true, true, true, true, true, true, false, true, false, false] (bodyOf Try.f6)) (blkX 2 (seqK Try.prog hoardlaw13_LirsScan_kp idJ (cAt [true, true, true, true, true, true, true] (bodyOf Try.f6)) (retK Try.prog Try.f6 Q) noX (retK Try.prog Try.f6 Q)) noX) (retK Try.prog Try.f6 Q) m4) (blkX 2 (seqK Try.prog hoardlaw13_LirsScan_kp idJ (cAt [true, true, true, true, true, true, true] (bodyOf Try.f6)) (retK Try.prog Try.f6 Q) noX (retK Try.prog Try.f6 Q)) noX) (retK Try.prog Try.f6 Q)) (blkX 2 (seqK Try.prog hoardlaw13_LirsScan_kp idJ (cAt [true, true, true, true, true, true, true] (bodyOf Try.f6)) (retK Try.prog Try.f6 Q) noX (retK Try.prog Try.f6 Q)) noX)) (retK Try.prog Try.f6 Q) (us 1 ((.slice scan1.a scan1.n scan1.c) :: us 3 ((.pointer e5) :: (.slice hot6.a hot6.n hot6.c) :: us 2 ((.int .i64 i9) :: us 79 [])))) := by kernel_rfl
theorem hoardlaw13_LirsScan_j8_raw (jn : Jn) (Q : Value → WP)   : codeI Try.prog hoardlaw13_LirsScan_kp jn (cAt [true, true, true, true, true, true, true, true] (bodyOf Try.f6)) (retK Try.prog Try.f6 Q) noX (retK Try.prog Try.f6 Q) (us 89 []) = (
  call1 .bool Try.prog id_hoardlaw13_known [] fun (x_28 : Bool) =>
  Q (.bool x_28)) := by kernel_rfl
theorem hoardlaw13_LirsScan_j8_def (Q : Value → WP)   : hoardlaw13_LirsScan_j8 idJ Q   = codeI Try.prog hoardlaw13_LirsScan_kp idJ (cAt [true, true, true, true, true, true, true, true] (bodyOf Try.f6)) (retK Try.prog Try.f6 Q) noX (retK Try.prog Try.f6 Q) (us 89 []) := by kernel_rfl
theorem hoardlaw13_LirsScan_l7_raw (jn : Jn) (Q : Value → WP)  (m7 : Nat) (e5 : Option Addr) (hot6 : Sl) (i10 : Int) : hoardlaw13_LirsScan_l7 jn Q  (m7 + 1) e5 hot6 i10 = (
  ite2 (decide (i10 < (hot6.n : Int))) (
  idx hot6.a hot6.n i10 fun b_24 o_25 =>
  ld .str b_24 (o_25 + (i10).toNat * 1) fun (x_26 : ByteArray) =>
  call1 .bool Try.prog id_lirs_Engine_Has [.pointer e5, .string x_26] fun (x_27 : Bool) =>
  ite2 (!x_27) (
  Q (.bool false)) (
  hoardlaw13_LirsScan_l7 jn Q  m7 e5 hot6 (IntKind.wrap .i64 (i10 + (1 : Int))))) (
  hoardlaw13_LirsScan_j8 jn Q  )) := by kernel_rfl
theorem hoardlaw13_LirsScan_l7_zero (jn : Jn) (Q : Value → WP)  (e5 : Option Addr) (hot6 : Sl) (i10 : Int) : hoardlaw13_LirsScan_l7 jn Q  0 e5 hot6 i10 = bot := by kernel_rfl
theorem hoardlaw13_LirsScan_j6_raw (jn : Jn) (Q : Value → WP)  (e5 : Option Addr) (hot6 : Sl) : codeI Try.prog hoardlaw13_LirsScan_kp jn (cAt [true, true, true, true, true, true, true] (bodyOf Try.f6)) (retK Try.prog Try.f6 Q) noX (retK Try.prog Try.f6 Q) (us 5 ((.pointer e5) :: (.slice hot6.a hot6.n hot6.c) :: us 82 [])) = (
  exM fun m => hoardlaw13_LirsScan_l7 jn Q  m e5 hot6 (0 : Int)) := by kernel_rfl
theorem hoardlaw13_LirsScan_j6_def (Q : Value → WP)  (e5 : Option Addr) (hot6 : Sl) : hoardlaw13_LirsScan_j6 idJ Q  e5 hot6 = codeI Try.prog hoardlaw13_LirsScan_kp idJ (cAt [true, true, true, true, true, true, true] (bodyOf Try.f6)) (retK Try.prog Try.f6 Q) noX (retK Try.prog Try.f6 Q) (us 5 ((.pointer e5) :: (.slice hot6.a hot6.n hot6.c) :: us 82 [])) := by kernel_rfl
theorem hoardlaw13_LirsScan_l4_raw (jn : Jn) (Q : Value → WP)  (m4 : Nat) (scan1 : Sl) (e5 : Option Addr) (hot6 : Sl) (i9 : Int) : hoardlaw13_LirsScan_l4 jn Q  (m4 + 1) scan1 e5 hot6 i9 = (
  ite2 (decide (i9 < (scan1.n : Int))) (
  drawW fun S =>
  idx scan1.a scan1.n i9 fun b_9 o_10 =>
  ld .str b_9 (o_10 + (i9).toNat * 1) fun (x_11 : ByteArray) =>
  call1 .bool Try.prog id_hoardlaw13_has [.slice hot6.a hot6.n hot6.c, .string x_11] fun (x_12 : Bool) =>
  ite2 x_12 (
  call1 .bool Try.prog id_hoardlaw13_known [] fun (x_13 : Bool) =>
  Q (.bool x_13)) (
  when ((0 : Int) ≤ i9 ∧ i9 ≤ (scan1.c : Int)) <|
  idx scan1.a scan1.n i9 fun b_14 o_15 =>
  ld .str b_14 (o_15 + (i9).toNat * 1) fun (x_16 : ByteArray) =>
  call1 .bool Try.prog id_hoardlaw13_has [.slice (subA scan1.a 0 scan1.c 1) ((i9).toNat - 0) (scan1.c - 0), .string x_16] fun (x_17 : Bool) =>
  ite2 x_17 (
  call1 .bool Try.prog id_hoardlaw13_known [] fun (x_18 : Bool) =>
  Q (.bool x_18)) (
  hoardlaw13_LirsScan_j5 jn Q m4 scan1 e5 hot6 i9))) (
  hoardlaw13_LirsScan_j6 jn Q  e5 hot6)) := by kernel_rfl
theorem hoardlaw13_LirsScan_l4_zero (jn : Jn) (Q : Value → WP)  (scan1 : Sl) (e5 : Option Addr) (hot6 : Sl) (i9 : Int) : hoardlaw13_LirsScan_l4 jn Q  0 scan1 e5 hot6 i9 = bot := by kernel_rfl
theorem hoardlaw13_LirsScan_j3_raw (jn : Jn) (Q : Value → WP)  (scan1 : Sl) (e5 : Option Addr) (hot6 : Sl) : codeI Try.prog hoardlaw13_LirsScan_kp jn (cAt [true, true, true, true, true, true] (bodyOf Try.f6)) (retK Try.prog Try.f6 Q) noX (retK Try.prog Try.f6 Q) (us 1 ((.slice scan1.a scan1.n scan1.c) :: us 3 ((.pointer e5) :: (.slice hot6.a hot6.n hot6.c) :: us 82 []))) = (
  exM fun m => hoardlaw13_LirsScan_l4 jn Q  m scan1 e5 hot6 (0 : Int)) := by kernel_rfl
theorem hoardlaw13_LirsScan_j3_def (Q : Value → WP)  (scan1 : Sl) (e5 : Option Addr) (hot6 : Sl) : hoardlaw13_LirsScan_j3 idJ Q  scan1 e5 hot6 = codeI Try.prog hoardlaw13_LirsScan_kp idJ (cAt [true, true, true, true, true, true] (bodyOf Try.f6)) (retK Try.prog Try.f6 Q) noX (retK Try.prog Try.f6 Q) (us 1 ((.slice scan1.a scan1.n scan1.c) :: us 3 ((.pointer e5) :: (.slice hot6.a hot6.n hot6.c) :: us 82 []))) := by kernel_rfl
theorem hoardlaw13_LirsScan_l2_raw (jn : Jn) (Q : Value → WP)  (m2 : Nat) (room0 : Int) (scan1 : Sl) (e5 : Option Addr) (hot6 : Sl) (i7 : Int) : hoardlaw13_LirsScan_l2 jn Q  (m2 + 1) room0 scan1 e5 hot6 i7 = (
  when ((10 : Int) ≠ 0) <|
  ite2 (decide (i7 < (IntKind.wrap .i64 (room0 - (if (IntKind.wrap .i64 (Int.tdiv room0 (10 : Int))) > (1 : Int) then (IntKind.wrap .i64 (Int.tdiv room0 (10 : Int))) else (1 : Int)))))) (
  newB [.int .u8 (35 : Int), .int .u8 (IntKind.wrap .u8 (IntKind.wrap .i64 ((48 : Int) + i7)))] ty_uint8 fun b_3 =>
  b2s (some ⟨b_3, 0, none⟩) 2 fun (x_4 : ByteArray) =>
  call2 .bool .slc Try.prog id_lirs_Engine_Access [.pointer e5, .string x_4] fun (x_5 : Bool) (x_6 : Sl) =>
  newB [.string x_4] ty_string fun b_7 =>
  appendC ty_string 1 16 [.string str_empty] ⟨hot6.a, hot6.n, hot6.c⟩ 1 (fun w => rdA w (some ⟨b_7, 0, none⟩) (1 * 1)) fun s_8 =>
  hoardlaw13_LirsScan_l2 jn Q  m2 room0 scan1 e5 s_8 (IntKind.wrap .i64 (i7 + (1 : Int)))) (
  hoardlaw13_LirsScan_j3 jn Q  scan1 e5 hot6)) := by kernel_rfl
theorem hoardlaw13_LirsScan_l2_zero (jn : Jn) (Q : Value → WP)  (room0 : Int) (scan1 : Sl) (e5 : Option Addr) (hot6 : Sl) (i7 : Int) : hoardlaw13_LirsScan_l2 jn Q  0 room0 scan1 e5 hot6 i7 = bot := by kernel_rfl
theorem hoardlaw13_LirsScan_j1_raw (jn : Jn) (Q : Value → WP)  (room0 : Int) (scan1 : Sl) : codeI Try.prog hoardlaw13_LirsScan_kp jn (cAt [true, true] (bodyOf Try.f6)) (retK Try.prog Try.f6 Q) noX (retK Try.prog Try.f6 Q) ((.int .i64 room0) :: (.slice scan1.a scan1.n scan1.c) :: us 87 []) = (
  call1 .ptr Try.prog id_lirs_New [.int .i64 room0] fun (x_2 : Option Addr) =>
  ite2 (Option.isNone x_2) (
  Q (.bool false)) (
  exM fun m => hoardlaw13_LirsScan_l2 jn Q  m room0 scan1 x_2 ⟨(none : Option Addr), 0, 0⟩ (0 : Int))) := by kernel_rfl
theorem hoardlaw13_LirsScan_j1_def (Q : Value → WP)  (room0 : Int) (scan1 : Sl) : hoardlaw13_LirsScan_j1 idJ Q  room0 scan1 = codeI Try.prog hoardlaw13_LirsScan_kp idJ (cAt [true, true] (bodyOf Try.f6)) (retK Try.prog Try.f6 Q) noX (retK Try.prog Try.f6 Q) ((.int .i64 room0) :: (.slice scan1.a scan1.n scan1.c) :: us 87 []) := by kernel_rfl
theorem hoardlaw13_LirsScan_raw (jn : Jn) (room0 : Int) (scan1 : Sl) (Q : Value → WP) : funJ jn Try.prog hoardlaw13_LirsScan_kp Try.f6 [.int .i64 room0, .slice scan1.a scan1.n scan1.c] Q = (
  ite2 (decide (room0 < (2 : Int))) (
  Q (.bool true)) (
  ite2 (decide (room0 > (60 : Int))) (
  Q (.bool true)) (
  call1 .bool Try.prog id_hoardlaw13_long [.slice scan1.a scan1.n scan1.c] fun (x_1 : Bool) =>
  ite2 x_1 (
  Q (.bool true)) (
  hoardlaw13_LirsScan_j1 jn Q  room0 scan1)))) := by kernel_rfl
theorem hoardlaw13_LirsScan_def (room0 : Int) (scan1 : Sl) (Q : Value → WP) : hoardlaw13_LirsScan room0 scan1 Q = funJ idJ Try.prog hoardlaw13_LirsScan_kp Try.f6 [.int .i64 room0, .slice scan1.a scan1.n scan1.c] Q := rfl
theorem hoardlaw13_LirsScan_calls {room0 : Int} {scan1 : Sl} {Q : Value → WP} {w : World} (h : hoardlaw13_LirsScan room0 scan1 Q w) : Calls Try.prog id_hoardlaw13_LirsScan #[.int .i64 room0, .slice scan1.a scan1.n scan1.c] w fun e w' => ∃ v, e = .returned v ∧ Q v w' :=
  funJ_calls mixed Try.func6 rfl h

-- hoard/hoardlaw13.LirsOne
def hoardlaw13_LirsOne_kp : KP := ⟨[(17, [0, 3, 4]), (24, [0, 3, 4, 5, 6, 7]), (28, [])], [(10, [0, 1, 2, 3, 4, 5, 6, 7, 8, 9, 10, 12, 13, 14]), (11, [0, 1, 2, 3, 4, 5, 6, 7, 8, 9, 10, 11, 12, 13, 14, 15, 16, 17, 18, 19, 20, 21, 23, 24, 25, 26, 27, 28, 30, 31, 32, 33, 36, 37])]⟩
def hoardlaw13_LirsOne_j2 (jn : Jn) (Q : Value → WP) (m1 : Nat) (l0 : Sl) (e3 : Option Addr) (i4 : Int) (hit5 : Bool) (gone6 : Sl) (again7 : Bool) : WP := jn 24 (fun ρ => codeI Try.prog hoardlaw13_LirsOne_kp jn (cAt [true, true, true, true, false, true, false, false, true, false, false, true, true] (bodyOf Try.f7)) (seqK Try.prog hoardlaw13_LirsOne_kp jn (cAt [true, true, true, true, false, true, false, false, true, true] (bodyOf Try.f7)) (lopK Try.prog hoardlaw13_LirsOne_kp jn (cAt [true, true, true, true, false, true, false, false] (bodyOf Try.f7)) (blkX 0 (seqK Try.prog hoardlaw13_LirsOne_kp jn (cAt [true, true, true, true, true] (bodyOf Try.f7)) (retK Try.prog Try.f7 Q) noX (retK Try.prog Try.f7 Q)) noX) (retK Try.prog Try.f7 Q) m1) (blkX 0 (seqK Try.prog hoardlaw13_LirsOne_kp jn (cAt [true, true, true, true, true] (bodyOf Try.f7)) (retK Try.prog Try.f7 Q) noX (retK Try.prog Try.f7 Q)) noX) (retK Try.prog Try.f7 Q)) (blkX 1 (seqK Try.prog hoardlaw13_LirsOne_kp jn (cAt [true, true, true, true, false, true, false, false, true, true] (bodyOf Try.f7)) (lopK Try.prog hoardlaw13_LirsOne_kp jn (cAt [true, true, true, true, false, true, false, false] (bodyOf Try.f7)) (blkX 0 (seqK Try.prog hoardlaw13_LirsOne_kp jn (cAt [true, true, true, true, true] (bodyOf Try.f7)) (retK Try.prog Try.f7 Q) noX (retK Try.prog Try.f7 Q)) noX) (retK Try.prog Try.f7 Q) m1) (blkX 0 (seqK Try.prog hoardlaw13_LirsOne_kp jn (cAt [true, true, true, true, true] (bodyOf Try.f7)) (retK Try.prog Try.f7 Q) noX (retK Try.prog Try.f7 Q)) noX) (retK Try.prog Try.f7 Q)) (blkX 0 (seqK Try.prog hoardlaw13_LirsOne_kp jn (cAt [true, true, true, true, true] (bodyOf Try.f7)) (retK Try.prog Try.f7 Q) noX (retK Try.prog Try.f7 Q)) noX)) (retK Try.prog Try.f7 Q) ρ) ((.slice l0.a l0.n l0.c) :: us 2 ((.pointer e3) :: (.int .i64 i4) :: (.bool hit5) :: (.slice gone6.a gone6.n gone6.c) :: (.bool again7) :: us 73 []))
def hoardlaw13_LirsOne_j3 (jn : Jn) (Q : Value → WP)   : WP := jn 28 (fun ρ => codeI Try.prog hoardlaw13_LirsOne_kp jn (cAt [true, true, true, true, true] (bodyOf Try.f7)) (retK Try.prog Try.f7 Q) noX (retK Try.prog Try.f7 Q) ρ) (us 81 [])
def hoardlaw13_LirsOne_l1 (jn : Jn) (Q : Value → WP)  (m1 : Nat) (l0 : Sl) (e3 : Option Addr) (i4 : Int) : WP := lop Try.prog hoardlaw13_LirsOne_kp jn (cAt [true, true, true, true, false, true, false, false] (bodyOf Try.f7)) (blkX 0 (seqK Try.prog hoardlaw13_LirsOne_kp jn (cAt [true, true, true, true, true] (bodyOf Try.f7)) (retK Try.prog Try.f7 Q) noX (retK Try.prog Try.f7 Q)) noX) (retK Try.prog Try.f7 Q) m1 ((.slice l0.a l0.n l0.c) :: us 2 ((.pointer e3) :: (.int .i64 i4) :: us 76 []))
def hoardlaw13_LirsOne (l0 : Sl) (Q : Value → WP) : WP := funJ idJ Try.prog hoardlaw13_LirsOne_kp Try.f7 [.slice l0.a l0.n l0.c] Q
theorem hoardlaw13_LirsOne_j2_raw (jn : Jn) (Q : Value → WP) (m1 : Nat) (l0 : Sl) (e3 : Option Addr) (i4 : Int) (hit5 : Bool) (gone6 : Sl) (again7 : Bool) : codeI Try.prog hoardlaw13_LirsOne_kp jn (cAt [true, true, true, true, false, true, false, false, true, false, false, true, true] (bodyOf Try.f7)) (seqK Try.prog hoardlaw13_LirsOne_kp jn (cAt [true, true, true, true, false, true, false, false, true, true] (bodyOf Try.f7)) (lopK Try.prog hoardlaw13_LirsOne_kp jn (cAt [true, true, true, true, false, true, false, false] (bodyOf Try.f7)) (blkX 0 (seqK Try.prog hoardlaw13_LirsOne_kp jn (cAt [true, true, true, true, true] (bodyOf Try.f7)) (retK Try.prog Try.f7 Q) noX (retK Try.prog Try.f7 Q)) noX) (retK Try.prog Try.f7 Q) m1) (blkX 0 (seqK Try.prog hoardlaw13_LirsOne_kp jn (cAt [true, true, true, true, true] (bodyOf Try.f7)) (retK Try.prog Try.f7 Q) noX (retK Try.prog Try.f7 Q)) noX) (retK Try.prog Try.f7 Q)) (blkX 1 (seqK Try.prog hoardlaw13_LirsOne_kp jn (cAt [true, true, true, true, false, true, false, false, true, true] (bodyOf Try.f7)) (lopK Try.prog hoardlaw13_LirsOne_kp jn (cAt [true, true, true, true, false, true, false, false] (bodyOf Try.f7)) (blkX 0 (seqK Try.prog hoardlaw13_LirsOne_kp jn (cAt [true, true, true, true, true] (bodyOf Try.f7)) (retK Try.prog Try.f7 Q) noX (retK Try.prog Try.f7 Q)) noX) (retK Try.prog Try.f7 Q) m1) (blkX 0 (seqK Try.prog hoardlaw13_LirsOne_kp jn (cAt [true, true, true, true, true] (bodyOf Try.f7)) (retK Try.prog Try.f7 Q) noX (retK Try.prog Try.f7 Q)) noX) (retK Try.prog Try.f7 Q)) (blkX 0 (seqK Try.prog hoardlaw13_LirsOne_kp jn (cAt [true, true, true, true, true] (bodyOf Try.f7)) (retK Try.prog Try.f7 Q) noX (retK Try.prog Try.f7 Q)) noX)) (retK Try.prog Try.f7 Q) ((.slice l0.a l0.n l0.c) :: us 2 ((.pointer e3) :: (.int .i64 i4) :: (.bool hit5) :: (.slice gone6.a gone6.n gone6.c) :: (.bool again7) :: us 73 [])) = (
  drawW fun S =>
  ite2 (!(hit5 == again7)) (
  keepS true S <|
  allW [
  (keepS true S <|
  Q (.bool false)),
  (keepS true S <|
  Q (.bool false))]) (
  ite2 (decide (i4 > (0 : Int))) (
  ite2 ((gone6.n : Int) == (1 : Int)) (
  idx gone6.a gone6.n (0 : Int) fun b_14 o_15 =>
  ldS S .str b_14 (o_15 + ((0 : Int)).toNat * 1) fun (x_16 : ByteArray) =>
  idx l0.a l0.n (if (IntKind.wrap .i64 (i4 - (1 : Int))) > (0 : Int) then (IntKind.wrap .i64 (i4 - (1 : Int))) else (0 : Int)) fun b_17 o_18 =>
  ld .str b_17 (o_18 + ((if (IntKind.wrap .i64 (i4 - (1 : Int))) > (0 : Int) then (IntKind.wrap .i64 (i4 - (1 : Int))) else (0 : Int))).toNat * 1) fun (x_19 : ByteArray) =>
  keepS true S <|
  ite2 (!((!again7) == (sEq x_16 x_19))) (
  allW [
  (keepS true S <|
  Q (.bool false)),
  (keepS true S <|
  Q (.bool false))]) (
  idx l0.a l0.n i4 fun b_20 o_21 =>
  ldS S .str b_20 (o_21 + (i4).toNat * 1) fun (x_22 : ByteArray) =>
  allW [
  (call1 .slc Try.prog id_lirs_Engine_Keys [.pointer e3] fun (x_23 : Sl) =>
  keepS true S <|
  newB [.string x_22] ty_string fun b_24 =>
  call1 .bool Try.prog id_hoardlaw13_texts [.slice x_23.a x_23.n x_23.c, .slice (some ⟨b_24, 0, none⟩) 1 1] fun (x_25 : Bool) =>
  ite2 (!x_25) (
  Q (.bool false)) (
  hoardlaw13_LirsOne_l1 jn Q  m1 l0 e3 (IntKind.wrap .i64 (i4 + (1 : Int))))),
  (newB [.string x_22] ty_string fun b_26 =>
  call1 .slc Try.prog id_lirs_Engine_Keys [.pointer e3] fun (x_27 : Sl) =>
  keepS true S <|
  call1 .bool Try.prog id_hoardlaw13_texts [.slice x_27.a x_27.n x_27.c, .slice (some ⟨b_26, 0, none⟩) 1 1] fun (x_28 : Bool) =>
  ite2 (!x_28) (
  Q (.bool false)) (
  hoardlaw13_LirsOne_l1 jn Q  m1 l0 e3 (IntKind.wrap .i64 (i4 + (1 : Int)))))])) (
  keepS true S <|
  ite2 (!((!again7) == false)) (
  allW [
  (keepS true S <|
  Q (.bool false)),
  (keepS true S <|
  Q (.bool false))]) (
  idx l0.a l0.n i4 fun b_29 o_30 =>
  ldS S .str b_29 (o_30 + (i4).toNat * 1) fun (x_31 : ByteArray) =>
  allW [
  (call1 .slc Try.prog id_lirs_Engine_Keys [.pointer e3] fun (x_32 : Sl) =>
  keepS true S <|
  newB [.string x_31] ty_string fun b_33 =>
  call1 .bool Try.prog id_hoardlaw13_texts [.slice x_32.a x_32.n x_32.c, .slice (some ⟨b_33, 0, none⟩) 1 1] fun (x_34 : Bool) =>
  ite2 (!x_34) (
  Q (.bool false)) (
  hoardlaw13_LirsOne_l1 jn Q  m1 l0 e3 (IntKind.wrap .i64 (i4 + (1 : Int))))),
  (newB [.string x_31] ty_string fun b_35 =>
  call1 .slc Try.prog id_lirs_Engine_Keys [.pointer e3] fun (x_36 : Sl) =>
  keepS true S <|
  call1 .bool Try.prog id_hoardlaw13_texts [.slice x_36.a x_36.n x_36.c, .slice (some ⟨b_35, 0, none⟩) 1 1] fun (x_37 : Bool) =>
  ite2 (!x_37) (
  Q (.bool false)) (
  hoardlaw13_LirsOne_l1 jn Q  m1 l0 e3 (IntKind.wrap .i64 (i4 + (1 : Int)))))]))) (
  ite2 ((gone6.n : Int) == (1 : Int)) (
  idx gone6.a gone6.n (0 : Int) fun b_38 o_39 =>
  ldS S .str b_38 (o_39 + ((0 : Int)).toNat * 1) fun (x_40 : ByteArray) =>
  idx l0.a l0.n (if (IntKind.wrap .i64 (i4 - (1 : Int))) > (0 : Int) then (IntKind.wrap .i64 (i4 - (1 : Int))) else (0 : Int)) fun b_41 o_42 =>
  ld .str b_41 (o_42 + ((if (IntKind.wrap .i64 (i4 - (1 : Int))) > (0 : Int) then (IntKind.wrap .i64 (i4 - (1 : Int))) else (0 : Int))).toNat * 1) fun (x_43 : ByteArray) =>
  keepS true S <|
  ite2 (!(false == (sEq x_40 x_43))) (
  allW [
  (keepS true S <|
  Q (.bool false)),
  (keepS true S <|
  Q (.bool false))]) (
  idx l0.a l0.n i4 fun b_44 o_45 =>
  ldS S .str b_44 (o_45 + (i4).toNat * 1) fun (x_46 : ByteArray) =>
  allW [
  (call1 .slc Try.prog id_lirs_Engine_Keys [.pointer e3] fun (x_47 : Sl) =>
  keepS true S <|
  newB [.string x_46] ty_string fun b_48 =>
  call1 .bool Try.prog id_hoardlaw13_texts [.slice x_47.a x_47.n x_47.c, .slice (some ⟨b_48, 0, none⟩) 1 1] fun (x_49 : Bool) =>
  ite2 (!x_49) (
  Q (.bool false)) (
  hoardlaw13_LirsOne_l1 jn Q  m1 l0 e3 (IntKind.wrap .i64 (i4 + (1 : Int))))),
  (newB [.string x_46] ty_string fun b_50 =>
  call1 .slc Try.prog id_lirs_Engine_Keys [.pointer e3] fun (x_51 : Sl) =>
  keepS true S <|
  call1 .bool Try.prog id_hoardlaw13_texts [.slice x_51.a x_51.n x_51.c, .slice (some ⟨b_50, 0, none⟩) 1 1] fun (x_52 : Bool) =>
  ite2 (!x_52) (
  Q (.bool false)) (
  hoardlaw13_LirsOne_l1 jn Q  m1 l0 e3 (IntKind.wrap .i64 (i4 + (1 : Int)))))])) (
  keepS true S <|
  ite2 (!(false == false)) (
  allW [
  (keepS true S <|
  Q (.bool false)),
  (keepS true S <|
  Q (.bool false))]) (
  idx l0.a l0.n i4 fun b_53 o_54 =>
  ldS S .str b_53 (o_54 + (i4).toNat * 1) fun (x_55 : ByteArray) =>
  allW [
  (call1 .slc Try.prog id_lirs_Engine_Keys [.pointer e3] fun (x_56 : Sl) =>
  keepS true S <|
  newB [.string x_55] ty_string fun b_57 =>
  call1 .bool Try.prog id_hoardlaw13_texts [.slice x_56.a x_56.n x_56.c, .slice (some ⟨b_57, 0, none⟩) 1 1] fun (x_58 : Bool) =>
  ite2 (!x_58) (
  Q (.bool false)) (
  hoardlaw13_LirsOne_l1 jn Q  m1 l0 e3 (IntKind.wrap .i64 (i4 + (1 : Int))))),
  (newB [.string x_55] ty_string fun b_59 =>
  call1 .slc Try.prog id_lirs_Engine_Keys [.pointer e3] fun (x_60 : Sl) =>
  keepS true S <|
  call1 .bool Try.prog id_hoardlaw13_texts [.slice x_60.a x_60.n x_60.c, .slice (some ⟨b_59, 0, none⟩) 1 1] fun (x_61 : Bool) =>
  ite2 (!x_61) (
  Q (.bool false)) (
  hoardlaw13_LirsOne_l1 jn Q  m1 l0 e3 (IntKind.wrap .i64 (i4 + (1 : Int)))))]))))) := by kernel_rfl
theorem hoardlaw13_LirsOne_j2_def (Q : Value → WP) (m1 : Nat) (l0 : Sl) (e3 : Option Addr) (i4 : Int) (hit5 : Bool) (gone6 : Sl) (again7 : Bool) : hoardlaw13_LirsOne_j2 idJ Q m1 l0 e3 i4 hit5 gone6 again7 = codeI Try.prog hoardlaw13_LirsOne_kp idJ (cAt [true, true, true, true, false, true, false, false, true, false, false, true, true] (bodyOf Try.f7)) (seqK Try.prog hoardlaw13_LirsOne_kp idJ (cAt [true, true, true, true, false, true, false, false, true, true] (bodyOf Try.f7)) (lopK Try.prog hoardlaw13_LirsOne_kp idJ (cAt [true, true, true, true, false, true, false, false] (bodyOf Try.f7)) (blkX 0 (seqK Try.prog hoardlaw13_LirsOne_kp idJ (cAt [true, true, true, true, true] (bodyOf Try.f7)) (retK Try.prog Try.f7 Q) noX (retK Try.prog Try.f7 Q)) noX) (retK Try.prog Try.f7 Q) m1) (blkX 0 (seqK Try.prog hoardlaw13_LirsOne_kp idJ (cAt [true, true, true, true, true] (bodyOf Try.f7)) (retK Try.prog Try.f7 Q) noX (retK Try.prog Try.f7 Q)) noX) (retK Try.prog Try.f7 Q)) (blkX 1 (seqK Try.prog hoardlaw13_LirsOne_kp idJ (cAt [true, true, true, true, false, true, false, false, true, true] (bodyOf Try.f7)) (lopK Try.prog hoardlaw13_LirsOne_kp idJ (cAt [true, true, true, true, false, true, false, false] (bodyOf Try.f7)) (blkX 0 (seqK Try.prog hoardlaw13_LirsOne_kp idJ (cAt [true, true, true, true, true] (bodyOf Try.f7)) (retK Try.prog Try.f7 Q) noX (retK Try.prog Try.f7 Q)) noX) (retK Try.prog Try.f7 Q) m1) (blkX 0 (seqK Try.prog hoardlaw13_LirsOne_kp idJ (cAt [true, true, true, true, true] (bodyOf Try.f7)) (retK Try.prog Try.f7 Q) noX (retK Try.prog Try.f7 Q)) noX) (retK Try.prog Try.f7 Q)) (blkX 0 (seqK Try.prog hoardlaw13_LirsOne_kp idJ (cAt [true, true, true, true, true] (bodyOf Try.f7)) (retK Try.prog Try.f7 Q) noX (retK Try.prog Try.f7 Q)) noX)) (retK Try.prog Try.f7 Q) ((.slice l0.a l0.n l0.c) :: us 2 ((.pointer e3) :: (.int .i64 i4) :: (.bool hit5) :: (.slice gone6.a gone6.n gone6.c) :: (.bool again7) :: us 73 [])) := by kernel_rfl
theorem hoardlaw13_LirsOne_j3_raw (jn : Jn) (Q : Value → WP)   : codeI Try.prog hoardlaw13_LirsOne_kp jn (cAt [true, true, true, true, true] (bodyOf Try.f7)) (retK Try.prog Try.f7 Q) noX (retK Try.prog Try.f7 Q) (us 81 []) = (
  call1 .bool Try.prog id_hoardlaw13_known [] fun (x_62 : Bool) =>
  Q (.bool x_62)) := by kernel_rfl
theorem hoardlaw13_LirsOne_j3_def (Q : Value → WP)   : hoardlaw13_LirsOne_j3 idJ Q   = codeI Try.prog hoardlaw13_LirsOne_kp idJ (cAt [true, true, true, true, true] (bodyOf Try.f7)) (retK Try.prog Try.f7 Q) noX (retK Try.prog Try.f7 Q) (us 81 []) := by kernel_rfl
theorem hoardlaw13_LirsOne_l1_raw (jn : Jn) (Q : Value → WP)  (m1 : Nat) (l0 : Sl) (e3 : Option Addr) (i4 : Int) : hoardlaw13_LirsOne_l1 jn Q  (m1 + 1) l0 e3 i4 = (
  ite2 (decide (i4 < (l0.n : Int))) (
  idx l0.a l0.n i4 fun b_3 o_4 =>
  ld .str b_3 (o_4 + (i4).toNat * 1) fun (x_5 : ByteArray) =>
  call2 .bool .slc Try.prog id_lirs_Engine_Access [.pointer e3, .string x_5] fun (x_6 : Bool) (x_7 : Sl) =>
  drawW fun S =>
  ite2 (decide (i4 > (0 : Int))) (
  idx l0.a l0.n (IntKind.wrap .i64 (i4 - (1 : Int))) fun b_8 o_9 =>
  ldS S .str b_8 (o_9 + ((IntKind.wrap .i64 (i4 - (1 : Int)))).toNat * 1) fun (x_10 : ByteArray) =>
  idx l0.a l0.n i4 fun b_11 o_12 =>
  ld .str b_11 (o_12 + (i4).toNat * 1) fun (x_13 : ByteArray) =>
  keepS true S <|
  hoardlaw13_LirsOne_j2 jn Q m1 l0 e3 i4 x_6 x_7 (sEq x_10 x_13)) (
  keepS true S <|
  hoardlaw13_LirsOne_j2 jn Q m1 l0 e3 i4 x_6 x_7 false)) (
  hoardlaw13_LirsOne_j3 jn Q  )) := by kernel_rfl
theorem hoardlaw13_LirsOne_l1_zero (jn : Jn) (Q : Value → WP)  (l0 : Sl) (e3 : Option Addr) (i4 : Int) : hoardlaw13_LirsOne_l1 jn Q  0 l0 e3 i4 = bot := by kernel_rfl
theorem hoardlaw13_LirsOne_raw (jn : Jn) (l0 : Sl) (Q : Value → WP) : funJ jn Try.prog hoardlaw13_LirsOne_kp Try.f7 [.slice l0.a l0.n l0.c] Q = (
  call1 .bool Try.prog id_hoardlaw13_long [.slice l0.a l0.n l0.c] fun (x_1 : Bool) =>
  ite2 x_1 (
  Q (.bool true)) (
  call1 .ptr Try.prog id_lirs_New [.int .i64 (1 : Int)] fun (x_2 : Option Addr) =>
  ite2 (Option.isNone x_2) (
  Q (.bool false)) (
  exM fun m => hoardlaw13_LirsOne_l1 jn Q  m l0 x_2 (0 : Int)))) := by kernel_rfl
theorem hoardlaw13_LirsOne_def (l0 : Sl) (Q : Value → WP) : hoardlaw13_LirsOne l0 Q = funJ idJ Try.prog hoardlaw13_LirsOne_kp Try.f7 [.slice l0.a l0.n l0.c] Q := rfl
theorem hoardlaw13_LirsOne_calls {l0 : Sl} {Q : Value → WP} {w : World} (h : hoardlaw13_LirsOne l0 Q w) : Calls Try.prog id_hoardlaw13_LirsOne #[.slice l0.a l0.n l0.c] w fun e w' => ∃ v, e = .returned v ∧ Q v w' :=
  funJ_calls mixed Try.func7 rfl h

-- hoard/hoardlaw13.LirsEmpties
def hoardlaw13_LirsEmpties_kp : KP := ⟨[(17, [1, 5, 6, 7]), (20, [1, 5, 6, 7]), (22, [5]), (27, [5, 8, 9]), (38, [5, 8])], []⟩
def hoardlaw13_LirsEmpties_j2 (jn : Jn) (Q : Value → WP) (m1 : Nat) (l1 : Sl) (e5 : Option Addr) (x6 : Option Addr) (i7 : Int) : WP := jn 20 (fun ρ => codeI Try.prog hoardlaw13_LirsEmpties_kp jn (cAt [true, true, true, true, false, true, false, false, true] (bodyOf Try.f8)) (lopK Try.prog hoardlaw13_LirsEmpties_kp jn (cAt [true, true, true, true, false, true, false, false] (bodyOf Try.f8)) (blkX 0 (seqK Try.prog hoardlaw13_LirsEmpties_kp jn (cAt [true, true, true, true, true] (bodyOf Try.f8)) (retK Try.prog Try.f8 Q) noX (retK Try.prog Try.f8 Q)) noX) (retK Try.prog Try.f8 Q) m1) (blkX 0 (seqK Try.prog hoardlaw13_LirsEmpties_kp jn (cAt [true, true, true, true, true] (bodyOf Try.f8)) (retK Try.prog Try.f8 Q) noX (retK Try.prog Try.f8 Q)) noX) (retK Try.prog Try.f8 Q) ρ) (us 1 ((.slice l1.a l1.n l1.c) :: us 3 ((.pointer e5) :: (.pointer x6) :: (.int .i64 i7) :: us 87 [])))
def hoardlaw13_LirsEmpties_j5 (jn : Jn) (Q : Value → WP)  (e5 : Option Addr) (in8 : Sl) : WP := jn 38 (fun ρ => codeI Try.prog hoardlaw13_LirsEmpties_kp jn (cAt [true, true, true, true, true, true, true] (bodyOf Try.f8)) (retK Try.prog Try.f8 Q) noX (retK Try.prog Try.f8 Q) ρ) (us 5 ((.pointer e5) :: us 2 ((.slice in8.a in8.n in8.c) :: us 86 [])))
def hoardlaw13_LirsEmpties_l4 (jn : Jn) (Q : Value → WP)  (m4 : Nat) (e5 : Option Addr) (in8 : Sl) (n9 : Int) : WP := lop Try.prog hoardlaw13_LirsEmpties_kp jn (cAt [true, true, true, true, true, true, false, true, false, false] (bodyOf Try.f8)) (blkX 2 (seqK Try.prog hoardlaw13_LirsEmpties_kp jn (cAt [true, true, true, true, true, true, true] (bodyOf Try.f8)) (retK Try.prog Try.f8 Q) noX (retK Try.prog Try.f8 Q)) noX) (retK Try.prog Try.f8 Q) m4 (us 5 ((.pointer e5) :: us 2 ((.slice in8.a in8.n in8.c) :: (.int .i64 n9) :: us 85 [])))
def hoardlaw13_LirsEmpties_j3 (jn : Jn) (Q : Value → WP)  (e5 : Option Addr) : WP := jn 22 (fun ρ => codeI Try.prog hoardlaw13_LirsEmpties_kp jn (cAt [true, true, true, true, true] (bodyOf Try.f8)) (retK Try.prog Try.f8 Q) noX (retK Try.prog Try.f8 Q) ρ) (us 5 ((.pointer e5) :: us 89 []))
def hoardlaw13_LirsEmpties_l1 (jn : Jn) (Q : Value → WP)  (m1 : Nat) (l1 : Sl) (e5 : Option Addr) (x6 : Option Addr) (i7 : Int) : WP := lop Try.prog hoardlaw13_LirsEmpties_kp jn (cAt [true, true, true, true, false, true, false, false] (bodyOf Try.f8)) (blkX 0 (seqK Try.prog hoardlaw13_LirsEmpties_kp jn (cAt [true, true, true, true, true] (bodyOf Try.f8)) (retK Try.prog Try.f8 Q) noX (retK Try.prog Try.f8 Q)) noX) (retK Try.prog Try.f8 Q) m1 (us 1 ((.slice l1.a l1.n l1.c) :: us 3 ((.pointer e5) :: (.pointer x6) :: (.int .i64 i7) :: us 87 [])))
def hoardlaw13_LirsEmpties (room0 : Int) (l1 : Sl) (Q : Value → WP) : WP := funJ idJ Try.prog hoardlaw13_LirsEmpties_kp Try.f8 [.int .i64 room0, .slice l1.a l1.n l1.c] Q
theorem hoardlaw13_LirsEmpties_j2_raw (jn : Jn) (Q : Value → WP) (m1 : Nat) (l1 : Sl) (e5 : Option Addr) (x6 : Option Addr) (i7 : Int) : codeI Try.prog hoardlaw13_LirsEmpties_kp jn (cAt [true, true, true, true, false, true, false, false, true] (bodyOf Try.f8)) (lopK Try.prog hoardlaw13_LirsEmpties_kp jn (cAt [true, true, true, true, false, true, false, false] (bodyOf Try.f8)) (blkX 0 (seqK Try.prog hoardlaw13_LirsEmpties_kp jn (cAt [true, true, true, true, true] (bodyOf Try.f8)) (retK Try.prog Try.f8 Q) noX (retK Try.prog Try.f8 Q)) noX) (retK Try.prog Try.f8 Q) m1) (blkX 0 (seqK Try.prog hoardlaw13_LirsEmpties_kp jn (cAt [true, true, true, true, true] (bodyOf Try.f8)) (retK Try.prog Try.f8 Q) noX (retK Try.prog Try.f8 Q)) noX) (retK Try.prog Try.f8 Q) (us 1 ((.slice l1.a l1.n l1.c) :: us 3 ((.pointer e5) :: (.pointer x6) :: (.int .i64 i7) :: us 87 []))) = (
  idx l1.a l1.n i7 fun b_4 o_5 =>
  ld (.int .i64) b_4 (o_5 + (i7).toNat * 2) fun (x_6 : Int) =>
  ld .str b_4 ((o_5 + (i7).toNat * 2) + 1) fun (x_7 : ByteArray) =>
  call1 .bool Try.prog id_hoardlaw13_act [.pointer e5, .pointer x6, .agg #[.int .i64 x_6, .string x_7]] fun (x_8 : Bool) =>
  hoardlaw13_LirsEmpties_l1 jn Q  m1 l1 e5 x6 (IntKind.wrap .i64 (i7 + (1 : Int)))) := by kernel_rfl
theorem hoardlaw13_LirsEmpties_j2_def (Q : Value → WP) (m1 : Nat) (l1 : Sl) (e5 : Option Addr) (x6 : Option Addr) (i7 : Int) : hoardlaw13_LirsEmpties_j2 idJ Q m1 l1 e5 x6 i7 = codeI Try.prog hoardlaw13_LirsEmpties_kp idJ (cAt [true, true, true, true, false, true, false, false, true] (bodyOf Try.f8)) (lopK Try.prog hoardlaw13_LirsEmpties_kp idJ (cAt [true, true, true, true, false, true, false, false] (bodyOf Try.f8)) (blkX 0 (seqK Try.prog hoardlaw13_LirsEmpties_kp idJ (cAt [true, true, true, true, true] (bodyOf Try.f8)) (retK Try.prog Try.f8 Q) noX (retK Try.prog Try.f8 Q)) noX) (retK Try.prog Try.f8 Q) m1) (blkX 0 (seqK Try.prog hoardlaw13_LirsEmpties_kp idJ (cAt [true, true, true, true, true] (bodyOf Try.f8)) (retK Try.prog Try.f8 Q) noX (retK Try.prog Try.f8 Q)) noX) (retK Try.prog Try.f8 Q) (us 1 ((.slice l1.a l1.n l1.c) :: us 3 ((.pointer e5) :: (.pointer x6) :: (.int .i64 i7) :: us 87 []))) := by kernel_rfl
theorem hoardlaw13_LirsEmpties_j5_raw (jn : Jn) (Q : Value → WP)  (e5 : Option Addr) (in8 : Sl) : codeI Try.prog hoardlaw13_LirsEmpties_kp jn (cAt [true, true, true, true, true, true, true] (bodyOf Try.f8)) (retK Try.prog Try.f8 Q) noX (retK Try.prog Try.f8 Q) (us 5 ((.pointer e5) :: us 2 ((.slice in8.a in8.n in8.c) :: us 86 []))) = (
  call2 .str .bool Try.prog id_lirs_Engine_Evict [.pointer e5] fun (x_16 : ByteArray) (x_17 : Bool) =>
  ite2 ((in8.n : Int) == (0 : Int)) (
  ite2 (!x_17) (
  call1 (.int .i64) Try.prog id_lirs_Engine_Len [.pointer e5] fun (x_18 : Int) =>
  ite2 (x_18 == (0 : Int)) (
  call1 .bool Try.prog id_hoardlaw13_known [] fun (x_19 : Bool) =>
  Q (.bool x_19)) (
  Q (.bool false))) (
  Q (.bool false))) (
  Q (.bool false))) := by kernel_rfl
theorem hoardlaw13_LirsEmpties_j5_def (Q : Value → WP)  (e5 : Option Addr) (in8 : Sl) : hoardlaw13_LirsEmpties_j5 idJ Q  e5 in8 = codeI Try.prog hoardlaw13_LirsEmpties_kp idJ (cAt [true, true, true, true, true, true, true] (bodyOf Try.f8)) (retK Try.prog Try.f8 Q) noX (retK Try.prog Try.f8 Q) (us 5 ((.pointer e5) :: us 2 ((.slice in8.a in8.n in8.c) :: us 86 []))) := by kernel_rfl
theorem hoardlaw13_LirsEmpties_l4_raw (jn : Jn) (Q : Value → WP)  (m4 : Nat) (e5 : Option Addr) (in8 : Sl) (n9 : Int) : hoardlaw13_LirsEmpties_l4 jn Q  (m4 + 1) e5 in8 n9 = (
  ite2 (decide (n9 > (0 : Int))) (
  call2 .str .bool Try.prog id_lirs_Engine_Evict [.pointer e5] fun (x_10 : ByteArray) (x_11 : Bool) =>
  ite2 (!x_11) (
  Q (.bool false)) (
  call1 .bool Try.prog id_hoardlaw13_has [.slice in8.a in8.n in8.c, .string x_10] fun (x_12 : Bool) =>
  ite2 (!x_12) (
  Q (.bool false)) (
  call1 .bool Try.prog id_lirs_Engine_Has [.pointer e5, .string x_10] fun (x_13 : Bool) =>
  ite2 x_13 (
  Q (.bool false)) (
  call1 (.int .i64) Try.prog id_lirs_Engine_Len [.pointer e5] fun (x_14 : Int) =>
  ite2 (x_14 != (IntKind.wrap .i64 (n9 - (1 : Int)))) (
  Q (.bool false)) (
  call1 .slc Try.prog id_hoardlaw13_cut [.slice in8.a in8.n in8.c, .string x_10] fun (x_15 : Sl) =>
  hoardlaw13_LirsEmpties_l4 jn Q  m4 e5 x_15 (IntKind.wrap .i64 (n9 - (1 : Int)))))))) (
  hoardlaw13_LirsEmpties_j5 jn Q  e5 in8)) := by kernel_rfl
theorem hoardlaw13_LirsEmpties_l4_zero (jn : Jn) (Q : Value → WP)  (e5 : Option Addr) (in8 : Sl) (n9 : Int) : hoardlaw13_LirsEmpties_l4 jn Q  0 e5 in8 n9 = bot := by kernel_rfl
theorem hoardlaw13_LirsEmpties_j3_raw (jn : Jn) (Q : Value → WP)  (e5 : Option Addr) : codeI Try.prog hoardlaw13_LirsEmpties_kp jn (cAt [true, true, true, true, true] (bodyOf Try.f8)) (retK Try.prog Try.f8 Q) noX (retK Try.prog Try.f8 Q) (us 5 ((.pointer e5) :: us 89 [])) = (
  call1 .slc Try.prog id_lirs_Engine_Keys [.pointer e5] fun (x_9 : Sl) =>
  exM fun m => hoardlaw13_LirsEmpties_l4 jn Q  m e5 x_9 (x_9.n : Int)) := by kernel_rfl
theorem hoardlaw13_LirsEmpties_j3_def (Q : Value → WP)  (e5 : Option Addr) : hoardlaw13_LirsEmpties_j3 idJ Q  e5 = codeI Try.prog hoardlaw13_LirsEmpties_kp idJ (cAt [true, true, true, true, true] (bodyOf Try.f8)) (retK Try.prog Try.f8 Q) noX (retK Try.prog Try.f8 Q) (us 5 ((.pointer e5) :: us 89 [])) := by kernel_rfl
theorem hoardlaw13_LirsEmpties_l1_raw (jn : Jn) (Q : Value → WP)  (m1 : Nat) (l1 : Sl) (e5 : Option Addr) (x6 : Option Addr) (i7 : Int) : hoardlaw13_LirsEmpties_l1 jn Q  (m1 + 1) l1 e5 x6 i7 = (
  ite2 (decide (i7 < (l1.n : Int))) (
  ite2 (decide (i7 < (200 : Int))) (
  hoardlaw13_LirsEmpties_j2 jn Q m1 l1 e5 x6 i7) (
  hoardlaw13_LirsEmpties_j3 jn Q  e5)) (
  hoardlaw13_LirsEmpties_j3 jn Q  e5)) := by kernel_rfl
theorem hoardlaw13_LirsEmpties_l1_zero (jn : Jn) (Q : Value → WP)  (l1 : Sl) (e5 : Option Addr) (x6 : Option Addr) (i7 : Int) : hoardlaw13_LirsEmpties_l1 jn Q  0 l1 e5 x6 i7 = bot := by kernel_rfl
theorem hoardlaw13_LirsEmpties_raw (jn : Jn) (room0 : Int) (l1 : Sl) (Q : Value → WP) : funJ jn Try.prog hoardlaw13_LirsEmpties_kp Try.f8 [.int .i64 room0, .slice l1.a l1.n l1.c] Q = (
  call1 .bool Try.prog id_hoardlaw13_heavy [.slice l1.a l1.n l1.c] fun (x_1 : Bool) =>
  ite2 x_1 (
  Q (.bool true)) (
  call1 .ptr Try.prog id_lirs_New [.int .i64 room0] fun (x_2 : Option Addr) =>
  call1 .ptr Try.prog id_hoardref13_New [.int .i64 room0] fun (x_3 : Option Addr) =>
  ite2 (Option.isNone x_2) (
  Q (.bool false)) (
  exM fun m => hoardlaw13_LirsEmpties_l1 jn Q  m l1 x_2 x_3 (0 : Int)))) := by kernel_rfl
theorem hoardlaw13_LirsEmpties_def (room0 : Int) (l1 : Sl) (Q : Value → WP) : hoardlaw13_LirsEmpties room0 l1 Q = funJ idJ Try.prog hoardlaw13_LirsEmpties_kp Try.f8 [.int .i64 room0, .slice l1.a l1.n l1.c] Q := rfl
theorem hoardlaw13_LirsEmpties_calls {room0 : Int} {l1 : Sl} {Q : Value → WP} {w : World} (h : hoardlaw13_LirsEmpties room0 l1 Q w) : Calls Try.prog id_hoardlaw13_LirsEmpties #[.int .i64 room0, .slice l1.a l1.n l1.c] w fun e w' => ∃ v, e = .returned v ∧ Q v w' :=
  funJ_calls mixed Try.func8 rfl h

-- hoard/hoardlaw13.LirsLoads
def hoardlaw13_LirsLoads_kp : KP := ⟨[(8, [0, 1, 2]), (17, [1, 2, 7, 8, 9]), (20, [1, 2, 7, 8, 9]), (22, [2, 7]), (25, [2, 7, 10]), (26, [2, 7, 10]), (38, [2, 7, 10, 13]), (41, [2, 7, 10, 13, 15]), (48, [])], []⟩
def hoardlaw13_LirsLoads_j3 (jn : Jn) (Q : Value → WP) (m2 : Nat) (l1 : Sl) (keys2 : Sl) (e7 : Option Addr) (x8 : Option Addr) (i9 : Int) : WP := jn 20 (fun ρ => codeI Try.prog hoardlaw13_LirsLoads_kp jn (cAt [true, true, true, true, false, true, false, false, true] (bodyOf Try.f9)) (lopK Try.prog hoardlaw13_LirsLoads_kp jn (cAt [true, true, true, true, false, true, false, false] (bodyOf Try.f9)) (blkX 0 (seqK Try.prog hoardlaw13_LirsLoads_kp jn (cAt [true, true, true, true, true] (bodyOf Try.f9)) (retK Try.prog Try.f9 Q) noX (retK Try.prog Try.f9 Q)) noX) (retK Try.prog Try.f9 Q) m2) (blkX 0 (seqK Try.prog hoardlaw13_LirsLoads_kp jn (cAt [true, true, true, true, true] (bodyOf Try.f9)) (retK Try.prog Try.f9 Q) noX (retK Try.prog Try.f9 Q)) noX) (retK Try.prog Try.f9 Q) ρ) (us 1 ((.slice l1.a l1.n l1.c) :: (.slice keys2.a keys2.n keys2.c) :: us 4 ((.pointer e7) :: (.pointer x8) :: (.int .i64 i9) :: us 110 [])))
def hoardlaw13_LirsLoads_j8 (jn : Jn) (Q : Value → WP) (m5 : Nat) (keys2 : Sl) (e7 : Option Addr) (i10 : Int) : WP := jn 26 (fun ρ => codeI Try.prog hoardlaw13_LirsLoads_kp jn (cAt [true, true, true, true, true, false, true, false, false, true, true] (bodyOf Try.f9)) (lopK Try.prog hoardlaw13_LirsLoads_kp jn (cAt [true, true, true, true, true, false, true, false, false] (bodyOf Try.f9)) (blkX 2 (seqK Try.prog hoardlaw13_LirsLoads_kp jn (cAt [true, true, true, true, true, true] (bodyOf Try.f9)) (retK Try.prog Try.f9 Q) noX (retK Try.prog Try.f9 Q)) noX) (retK Try.prog Try.f9 Q) m5) (blkX 2 (seqK Try.prog hoardlaw13_LirsLoads_kp jn (cAt [true, true, true, true, true, true] (bodyOf Try.f9)) (retK Try.prog Try.f9 Q) noX (retK Try.prog Try.f9 Q)) noX) (retK Try.prog Try.f9 Q) ρ) (us 2 ((.slice keys2.a keys2.n keys2.c) :: us 4 ((.pointer e7) :: us 2 ((.int .i64 i10) :: us 109 []))))
def hoardlaw13_LirsLoads_l7 (jn : Jn) (Q : Value → WP) (m5 : Nat) (m7 : Nat) (keys2 : Sl) (e7 : Option Addr) (i10 : Int) (in13 : Sl) (k15 : Int) : WP := lop Try.prog hoardlaw13_LirsLoads_kp jn (cAt [true, true, true, true, true, false, true, false, false, true, false, false, true, true, true, true, true, false, false] (bodyOf Try.f9)) (blkX 4 (seqK Try.prog hoardlaw13_LirsLoads_kp jn (cAt [true, true, true, true, true, false, true, false, false, true, true] (bodyOf Try.f9)) (lopK Try.prog hoardlaw13_LirsLoads_kp jn (cAt [true, true, true, true, true, false, true, false, false] (bodyOf Try.f9)) (blkX 2 (seqK Try.prog hoardlaw13_LirsLoads_kp jn (cAt [true, true, true, true, true, true] (bodyOf Try.f9)) (retK Try.prog Try.f9 Q) noX (retK Try.prog Try.f9 Q)) noX) (retK Try.prog Try.f9 Q) m5) (blkX 2 (seqK Try.prog hoardlaw13_LirsLoads_kp jn (cAt [true, true, true, true, true, true] (bodyOf Try.f9)) (retK Try.prog Try.f9 Q) noX (retK Try.prog Try.f9 Q)) noX) (retK Try.prog Try.f9 Q)) (blkX 3 (seqK Try.prog hoardlaw13_LirsLoads_kp jn (cAt [true, true, true, true, true, false, true, false, false, true, true] (bodyOf Try.f9)) (lopK Try.prog hoardlaw13_LirsLoads_kp jn (cAt [true, true, true, true, true, false, true, false, false] (bodyOf Try.f9)) (blkX 2 (seqK Try.prog hoardlaw13_LirsLoads_kp jn (cAt [true, true, true, true, true, true] (bodyOf Try.f9)) (retK Try.prog Try.f9 Q) noX (retK Try.prog Try.f9 Q)) noX) (retK Try.prog Try.f9 Q) m5) (blkX 2 (seqK Try.prog hoardlaw13_LirsLoads_kp jn (cAt [true, true, true, true, true, true] (bodyOf Try.f9)) (retK Try.prog Try.f9 Q) noX (retK Try.prog Try.f9 Q)) noX) (retK Try.prog Try.f9 Q)) (blkX 2 (seqK Try.prog hoardlaw13_LirsLoads_kp jn (cAt [true, true, true, true, true, true] (bodyOf Try.f9)) (retK Try.prog Try.f9 Q) noX (retK Try.prog Try.f9 Q)) noX))) (retK Try.prog Try.f9 Q) m7 (us 2 ((.slice keys2.a keys2.n keys2.c) :: us 4 ((.pointer e7) :: us 2 ((.int .i64 i10) :: us 2 ((.slice in13.a in13.n in13.c) :: us 1 ((.int .i64 k15) :: us 104 []))))))
def hoardlaw13_LirsLoads_j6 (jn : Jn) (Q : Value → WP) (m5 : Nat) (keys2 : Sl) (e7 : Option Addr) (i10 : Int) (in13 : Sl) : WP := jn 38 (fun ρ => codeI Try.prog hoardlaw13_LirsLoads_kp jn (cAt [true, true, true, true, true, false, true, false, false, true, false, false, true, true, true, true] (bodyOf Try.f9)) (seqK Try.prog hoardlaw13_LirsLoads_kp jn (cAt [true, true, true, true, true, false, true, false, false, true, true] (bodyOf Try.f9)) (lopK Try.prog hoardlaw13_LirsLoads_kp jn (cAt [true, true, true, true, true, false, true, false, false] (bodyOf Try.f9)) (blkX 2 (seqK Try.prog hoardlaw13_LirsLoads_kp jn (cAt [true, true, true, true, true, true] (bodyOf Try.f9)) (retK Try.prog Try.f9 Q) noX (retK Try.prog Try.f9 Q)) noX) (retK Try.prog Try.f9 Q) m5) (blkX 2 (seqK Try.prog hoardlaw13_LirsLoads_kp jn (cAt [true, true, true, true, true, true] (bodyOf Try.f9)) (retK Try.prog Try.f9 Q) noX (retK Try.prog Try.f9 Q)) noX) (retK Try.prog Try.f9 Q)) (blkX 3 (seqK Try.prog hoardlaw13_LirsLoads_kp jn (cAt [true, true, true, true, true, false, true, false, false, true, true] (bodyOf Try.f9)) (lopK Try.prog hoardlaw13_LirsLoads_kp jn (cAt [true, true, true, true, true, false, true, false, false] (bodyOf Try.f9)) (blkX 2 (seqK Try.prog hoardlaw13_LirsLoads_kp jn (cAt [true, true, true, true, true, true] (bodyOf Try.f9)) (retK Try.prog Try.f9 Q) noX (retK Try.prog Try.f9 Q)) noX) (retK Try.prog Try.f9 Q) m5) (blkX 2 (seqK Try.prog hoardlaw13_LirsLoads_kp jn (cAt [true, true, true, true, true, true] (bodyOf Try.f9)) (retK Try.prog Try.f9 Q) noX (retK Try.prog Try.f9 Q)) noX) (retK Try.prog Try.f9 Q)) (blkX 2 (seqK Try.prog hoardlaw13_LirsLoads_kp jn (cAt [true, true, true, true, true, true] (bodyOf Try.f9)) (retK Try.prog Try.f9 Q) noX (retK Try.prog Try.f9 Q)) noX)) (retK Try.prog Try.f9 Q) ρ) (us 2 ((.slice keys2.a keys2.n keys2.c) :: us 4 ((.pointer e7) :: us 2 ((.int .i64 i10) :: us 2 ((.slice in13.a in13.n in13.c) :: us 106 [])))))
def hoardlaw13_LirsLoads_j9 (jn : Jn) (Q : Value → WP)   : WP := jn 48 (fun ρ => codeI Try.prog hoardlaw13_LirsLoads_kp jn (cAt [true, true, true, true, true, true] (bodyOf Try.f9)) (retK Try.prog Try.f9 Q) noX (retK Try.prog Try.f9 Q) ρ) (us 120 [])
def hoardlaw13_LirsLoads_l5 (jn : Jn) (Q : Value → WP)  (m5 : Nat) (keys2 : Sl) (e7 : Option Addr) (i10 : Int) : WP := lop Try.prog hoardlaw13_LirsLoads_kp jn (cAt [true, true, true, true, true, false, true, false, false] (bodyOf Try.f9)) (blkX 2 (seqK Try.prog hoardlaw13_LirsLoads_kp jn (cAt [true, true, true, true, true, true] (bodyOf Try.f9)) (retK Try.prog Try.f9 Q) noX (retK Try.prog Try.f9 Q)) noX) (retK Try.prog Try.f9 Q) m5 (us 2 ((.slice keys2.a keys2.n keys2.c) :: us 4 ((.pointer e7) :: us 2 ((.int .i64 i10) :: us 109 []))))
def hoardlaw13_LirsLoads_j4 (jn : Jn) (Q : Value → WP)  (keys2 : Sl) (e7 : Option Addr) : WP := jn 22 (fun ρ => codeI Try.prog hoardlaw13_LirsLoads_kp jn (cAt [true, true, true, true, true] (bodyOf Try.f9)) (retK Try.prog Try.f9 Q) noX (retK Try.prog Try.f9 Q) ρ) (us 2 ((.slice keys2.a keys2.n keys2.c) :: us 4 ((.pointer e7) :: us 112 [])))
def hoardlaw13_LirsLoads_l2 (jn : Jn) (Q : Value → WP)  (m2 : Nat) (l1 : Sl) (keys2 : Sl) (e7 : Option Addr) (x8 : Option Addr) (i9 : Int) : WP := lop Try.prog hoardlaw13_LirsLoads_kp jn (cAt [true, true, true, true, false, true, false, false] (bodyOf Try.f9)) (blkX 0 (seqK Try.prog hoardlaw13_LirsLoads_kp jn (cAt [true, true, true, true, true] (bodyOf Try.f9)) (retK Try.prog Try.f9 Q) noX (retK Try.prog Try.f9 Q)) noX) (retK Try.prog Try.f9 Q) m2 (us 1 ((.slice l1.a l1.n l1.c) :: (.slice keys2.a keys2.n keys2.c) :: us 4 ((.pointer e7) :: (.pointer x8) :: (.int .i64 i9) :: us 110 [])))
def hoardlaw13_LirsLoads_j1 (jn : Jn) (Q : Value → WP)  (room0 : Int) (l1 : Sl) (keys2 : Sl) : WP := jn 8 (fun ρ => codeI Try.prog hoardlaw13_LirsLoads_kp jn (cAt [true, true] (bodyOf Try.f9)) (retK Try.prog Try.f9 Q) noX (retK Try.prog Try.f9 Q) ρ) ((.int .i64 room0) :: (.slice l1.a l1.n l1.c) :: (.slice keys2.a keys2.n keys2.c) :: us 117 [])
def hoardlaw13_LirsLoads (room0 : Int) (l1 : Sl) (keys2 : Sl) (Q : Value → WP) : WP := funJ idJ Try.prog hoardlaw13_LirsLoads_kp Try.f9 [.int .i64 room0, .slice l1.a l1.n l1.c, .slice keys2.a keys2.n keys2.c] Q
theorem hoardlaw13_LirsLoads_j3_raw (jn : Jn) (Q : Value → WP) (m2 : Nat) (l1 : Sl) (keys2 : Sl) (e7 : Option Addr) (x8 : Option Addr) (i9 : Int) : codeI Try.prog hoardlaw13_LirsLoads_kp jn (cAt [true, true, true, true, false, true, false, false, true] (bodyOf Try.f9)) (lopK Try.prog hoardlaw13_LirsLoads_kp jn (cAt [true, true, true, true, false, true, false, false] (bodyOf Try.f9)) (blkX 0 (seqK Try.prog hoardlaw13_LirsLoads_kp jn (cAt [true, true, true, true, true] (bodyOf Try.f9)) (retK Try.prog Try.f9 Q) noX (retK Try.prog Try.f9 Q)) noX) (retK Try.prog Try.f9 Q) m2) (blkX 0 (seqK Try.prog hoardlaw13_LirsLoads_kp jn (cAt [true, true, true, true, true] (bodyOf Try.f9)) (retK Try.prog Try.f9 Q) noX (retK Try.prog Try.f9 Q)) noX) (retK Try.prog Try.f9 Q) (us 1 ((.slice l1.a l1.n l1.c) :: (.slice keys2.a keys2.n keys2.c) :: us 4 ((.pointer e7) :: (.pointer x8) :: (.int .i64 i9) :: us 110 []))) = (
  idx l1.a l1.n i9 fun b_5 o_6 =>
  ld (.int .i64) b_5 (o_6 + (i9).toNat * 2) fun (x_7 : Int) =>
  ld .str b_5 ((o_6 + (i9).toNat * 2) + 1) fun (x_8 : ByteArray) =>
  call1 .bool Try.prog id_hoardlaw13_act [.pointer e7, .pointer x8, .agg #[.int .i64 x_7, .string x_8]] fun (x_9 : Bool) =>
  hoardlaw13_LirsLoads_l2 jn Q  m2 l1 keys2 e7 x8 (IntKind.wrap .i64 (i9 + (1 : Int)))) := by kernel_rfl
theorem hoardlaw13_LirsLoads_j3_def (Q : Value → WP) (m2 : Nat) (l1 : Sl) (keys2 : Sl) (e7 : Option Addr) (x8 : Option Addr) (i9 : Int) : hoardlaw13_LirsLoads_j3 idJ Q m2 l1 keys2 e7 x8 i9 = codeI Try.prog hoardlaw13_LirsLoads_kp idJ (cAt [true, true, true, true, false, true, false, false, true] (bodyOf Try.f9)) (lopK Try.prog hoardlaw13_LirsLoads_kp idJ (cAt [true, true, true, true, false, true, false, false] (bodyOf Try.f9)) (blkX 0 (seqK Try.prog hoardlaw13_LirsLoads_kp idJ (cAt [true, true, true, true, true] (bodyOf Try.f9)) (retK Try.prog Try.f9 Q) noX (retK Try.prog Try.f9 Q)) noX) (retK Try.prog Try.f9 Q) m2) (blkX 0 (seqK Try.prog hoardlaw13_LirsLoads_kp idJ (cAt [true, true, true, true, true] (bodyOf Try.f9)) (retK Try.prog Try.f9 Q) noX (retK Try.prog Try.f9 Q)) noX) (retK Try.prog Try.f9 Q) (us 1 ((.slice l1.a l1.n l1.c) :: (.slice keys2.a keys2.n keys2.c) :: us 4 ((.pointer e7) :: (.pointer x8) :: (.int .i64 i9) :: us 110 []))) := by kernel_rfl
theorem hoardlaw13_LirsLoads_j8_raw (jn : Jn) (Q : Value → WP) (m5 : Nat) (keys2 : Sl) (e7 : Option Addr) (i10 : Int) : codeI Try.prog hoardlaw13_LirsLoads_kp jn (cAt [true, true, true, true, true, false, true, false, false, true, true] (bodyOf Try.f9)) (lopK Try.prog hoardlaw13_LirsLoads_kp jn (cAt [true, true, true, true, true, false, true, false, false] (bodyOf Try.f9)) (blkX 2 (seqK Try.prog hoardlaw13_LirsLoads_kp jn (cAt [true, true, true, true, true, true] (bodyOf Try.f9)) (retK Try.prog Try.f9 Q) noX (retK Try.prog Try.f9 Q)) noX) (retK Try.prog Try.f9 Q) m5) (blkX 2 (seqK Try.prog hoardlaw13_LirsLoads_kp jn (cAt [true, true, true, true, true, true] (bodyOf Try.f9)) (retK Try.prog Try.f9 Q) noX (retK Try.prog Try.f9 Q)) noX) (retK Try.prog Try.f9 Q) (us 2 ((.slice keys2.a keys2.n keys2.c) :: us 4 ((.pointer e7) :: us 2 ((.int .i64 i10) :: us 109 [])))) = (
  hoardlaw13_LirsLoads_l5 jn Q  m5 keys2 e7 (IntKind.wrap .i64 (i10 + (1 : Int)))) := by kernel_rfl
theorem hoardlaw13_LirsLoads_j8_def (Q : Value → WP) (m5 : Nat) (keys2 : Sl) (e7 : Option Addr) (i10 : Int) : hoardlaw13_LirsLoads_j8 idJ Q m5 keys2 e7 i10 = codeI Try.prog hoardlaw13_LirsLoads_kp idJ (cAt [true, true, true, true, true, false, true, false, false, true, true] (bodyOf Try.f9)) (lopK Try.prog hoardlaw13_LirsLoads_kp idJ (cAt [true, true, true, true, true, false, true, false, false] (bodyOf Try.f9)) (blkX 2 (seqK Try.prog hoardlaw13_LirsLoads_kp idJ (cAt [true, true, true, true, true, true] (bodyOf Try.f9)) (retK Try.prog Try.f9 Q) noX (retK Try.prog Try.f9 Q)) noX) (retK Try.prog Try.f9 Q) m5) (blkX 2 (seqK Try.prog hoardlaw13_LirsLoads_kp idJ (cAt [true, true, true, true, true, true] (bodyOf Try.f9)) (retK Try.prog Try.f9 Q) noX (retK Try.prog Try.f9 Q)) noX) (retK Try.prog Try.f9 Q) (us 2 ((.slice keys2.a keys2.n keys2.c) :: us 4 ((.pointer e7) :: us 2 ((.int .i64 i10) :: us 109 [])))) := by kernel_rfl
theorem hoardlaw13_LirsLoads_l7_raw (jn : Jn) (Q : Value → WP) (m5 : Nat) (m7 : Nat) (keys2 : Sl) (e7 : Option Addr) (i10 : Int) (in13 : Sl) (k15 : Int) : hoardlaw13_LirsLoads_l7 jn Q m5 (m7 + 1) keys2 e7 i10 in13 k15 = (
  ite2 (decide (k15 < (in13.n : Int))) (
  idx in13.a in13.n k15 fun b_27 o_28 =>
  ld .str b_27 (o_28 + (k15).toNat * 1) fun (x_29 : ByteArray) =>
  call1 .bool Try.prog id_lirs_Engine_Has [.pointer e7, .string x_29] fun (x_30 : Bool) =>
  ite2 (!x_30) (
  Q (.bool false)) (
  hoardlaw13_LirsLoads_l7 jn Q m5 m7 keys2 e7 i10 in13 (IntKind.wrap .i64 (k15 + (1 : Int))))) (
  hoardlaw13_LirsLoads_j8 jn Q m5 keys2 e7 i10)) := by kernel_rfl
theorem hoardlaw13_LirsLoads_l7_zero (jn : Jn) (Q : Value → WP) (m5 : Nat) (keys2 : Sl) (e7 : Option Addr) (i10 : Int) (in13 : Sl) (k15 : Int) : hoardlaw13_LirsLoads_l7 jn Q m5 0 keys2 e7 i10 in13 k15 = bot := by kernel_rfl
theorem hoardlaw13_LirsLoads_j6_raw (jn : Jn) (Q : Value → WP) (m5 : Nat) (keys2 : Sl) (e7 : Option Addr) (i10 : Int) (in13 : Sl) : codeI Try.prog hoardlaw13_LirsLoads_kp jn (cAt [true, true, true, true, true, false, true, false, false, true, false, false, true, true, true, true] (bodyOf Try.f9)) (seqK Try.prog hoardlaw13_LirsLoads_kp jn (cAt [true, true, true, true, true, false, true, false, false, true, true] (bodyOf Try.f9)) (lopK Try.prog hoardlaw13_LirsLoads_kp jn (cAt [true, true, true, true, true, false, true, false, false] (bodyOf Try.f9)) (blkX 2 (seqK Try.prog hoardlaw13_LirsLoads_kp jn (cAt [true, true, true, true, true, true] (bodyOf Try.f9)) (retK Try.prog Try.f9 Q) noX (retK Try.prog Try.f9 Q)) noX) (retK Try.prog Try.f9 Q) m5) (blkX 2 (seqK Try.prog hoardlaw13_LirsLoads_kp jn (cAt [true, true, true, true, true, true] (bodyOf Try.f9)) (retK Try.prog Try.f9 Q) noX (retK Try.prog Try.f9 Q)) noX) (retK Try.prog Try.f9 Q)) (blkX 3 (seqK Try.prog hoardlaw13_LirsLoads_kp jn (cAt [true, true, true, true, true, false, true, false, false, true, true] (bodyOf Try.f9)) (lopK Try.prog hoardlaw13_LirsLoads_kp jn (cAt [true, true, true, true, true, false, true, false, false] (bodyOf Try.f9)) (blkX 2 (seqK Try.prog hoardlaw13_LirsLoads_kp jn (cAt [true, true, true, true, true, true] (bodyOf Try.f9)) (retK Try.prog Try.f9 Q) noX (retK Try.prog Try.f9 Q)) noX) (retK Try.prog Try.f9 Q) m5) (blkX 2 (seqK Try.prog hoardlaw13_LirsLoads_kp jn (cAt [true, true, true, true, true, true] (bodyOf Try.f9)) (retK Try.prog Try.f9 Q) noX (retK Try.prog Try.f9 Q)) noX) (retK Try.prog Try.f9 Q)) (blkX 2 (seqK Try.prog hoardlaw13_LirsLoads_kp jn (cAt [true, true, true, true, true, true] (bodyOf Try.f9)) (retK Try.prog Try.f9 Q) noX (retK Try.prog Try.f9 Q)) noX)) (retK Try.prog Try.f9 Q) (us 2 ((.slice keys2.a keys2.n keys2.c) :: us 4 ((.pointer e7) :: us 2 ((.int .i64 i10) :: us 2 ((.slice in13.a in13.n in13.c) :: us 106 []))))) = (
  exM fun m => hoardlaw13_LirsLoads_l7 jn Q m5 m keys2 e7 i10 in13 (0 : Int)) := by kernel_rfl
theorem hoardlaw13_LirsLoads_j6_def (Q : Value → WP) (m5 : Nat) (keys2 : Sl) (e7 : Option Addr) (i10 : Int) (in13 : Sl) : hoardlaw13_LirsLoads_j6 idJ Q m5 keys2 e7 i10 in13 = codeI Try.prog hoardlaw13_LirsLoads_kp idJ (cAt [true, true, true, true, true, false, true, false, false, true, false, false, true, true, true, true] (bodyOf Try.f9)) (seqK Try.prog hoardlaw13_LirsLoads_kp idJ (cAt [true, true, true, true, true, false, true, false, false, true, true] (bodyOf Try.f9)) (lopK Try.prog hoardlaw13_LirsLoads_kp idJ (cAt [true, true, true, true, true, false, true, false, false] (bodyOf Try.f9)) (blkX 2 (seqK Try.prog hoardlaw13_LirsLoads_kp idJ (cAt [true, true, true, true, true, true] (bodyOf Try.f9)) (retK Try.prog Try.f9 Q) noX (retK Try.prog Try.f9 Q)) noX) (retK Try.prog Try.f9 Q) m5) (blkX 2 (seqK Try.prog hoardlaw13_LirsLoads_kp idJ (cAt [true, true, true, true, true, true] (bodyOf Try.f9)) (retK Try.prog Try.f9 Q) noX (retK Try.prog Try.f9 Q)) noX) (retK Try.prog Try.f9 Q)) (blkX 3 (seqK Try.prog hoardlaw13_LirsLoads_kp idJ (cAt [true, true, true, true, true, false, true, false, false, true, true] (bodyOf Try.f9)) (lopK Try.prog hoardlaw13_LirsLoads_kp idJ (cAt [true, true, true, true, true, false, true, false, false] (bodyOf Try.f9)) (blkX 2 (seqK Try.prog hoardlaw13_LirsLoads_kp idJ (cAt [true, true, true, true, true, true] (bodyOf Try.f9)) (retK Try.prog Try.f9 Q) noX (retK Try.prog Try.f9 Q)) noX) (retK Try.prog Try.f9 Q) m5) (blkX 2 (seqK Try.prog hoardlaw13_LirsLoads_kp idJ (cAt [true, true, true, true, true, true] (bodyOf Try.f9)) (retK Try.prog Try.f9 Q) noX (retK Try.prog Try.f9 Q)) noX) (retK Try.prog Try.f9 Q)) (blkX 2 (seqK Try.prog hoardlaw13_LirsLoads_kp idJ (cAt [true, true, true, true, true, true] (bodyOf Try.f9)) (retK Try.prog Try.f9 Q) noX (retK Try.prog Try.f9 Q)) noX)) (retK Try.prog Try.f9 Q) (us 2 ((.slice keys2.a keys2.n keys2.c) :: us 4 ((.pointer e7) :: us 2 ((.int .i64 i10) :: us 2 ((.slice in13.a in13.n in13.c) :: us 106 []))))) := by kernel_rfl
theorem hoardlaw13_LirsLoads_j9_raw (jn : Jn) (Q : Value → WP)   : codeI Try.prog hoardlaw13_LirsLoads_kp jn (cAt [true, true, true, true, true, true] (bodyOf Try.f9)) (retK Try.prog Try.f9 Q) noX (retK Try.prog Try.f9 Q) (us 120 []) = (
  call1 .bool Try.prog id_hoardlaw13_known [] fun (x_39 : Bool) =>
  Q (.bool x_39)) := by kernel_rfl
theorem hoardlaw13_LirsLoads_j9_def (Q : Value → WP)   : hoardlaw13_LirsLoads_j9 idJ Q   = codeI Try.prog hoardlaw13_LirsLoads_kp idJ (cAt [true, true, true, true, true, true] (bodyOf Try.f9)) (retK Try.prog Try.f9 Q) noX (retK Try.prog Try.f9 Q) (us 120 []) := by kernel_rfl
theorem hoardlaw13_LirsLoads_l5_raw (jn : Jn) (Q : Value → WP)  (m5 : Nat) (keys2 : Sl) (e7 : Option Addr) (i10 : Int) : hoardlaw13_LirsLoads_l5 jn Q  (m5 + 1) keys2 e7 i10 = (
  ite2 (decide (i10 < (keys2.n : Int))) (
  idx keys2.a keys2.n i10 fun b_10 o_11 =>
  ld .str b_10 (o_11 + (i10).toNat * 1) fun (x_12 : ByteArray) =>
  call1 .bool Try.prog id_lirs_Engine_Has [.pointer e7, .string x_12] fun (x_13 : Bool) =>
  call1 (.int .i64) Try.prog id_lirs_Engine_Len [.pointer e7] fun (x_14 : Int) =>
  call1 .slc Try.prog id_lirs_Engine_Keys [.pointer e7] fun (x_15 : Sl) =>
  idx keys2.a keys2.n i10 fun b_16 o_17 =>
  ld .str b_16 (o_17 + (i10).toNat * 1) fun (x_18 : ByteArray) =>
  call1 .bool Try.prog id_lirs_Engine_Load [.pointer e7, .string x_18] fun (x_19 : Bool) =>
  ite2 (!x_13) (
  call1 (.int .i64) Try.prog id_lirs_Engine_Room [.pointer e7] fun (x_20 : Int) =>
  ite2 (!(x_19 == (decide (x_14 < x_20)))) (
  Q (.bool false)) (
  ite2 x_19 (
  idx keys2.a keys2.n i10 fun b_21 o_22 =>
  ld .str b_21 (o_22 + (i10).toNat * 1) fun (x_23 : ByteArray) =>
  call1 .bool Try.prog id_lirs_Engine_Has [.pointer e7, .string x_23] fun (x_24 : Bool) =>
  ite2 (!x_24) (
  Q (.bool false)) (
  call1 (.int .i64) Try.prog id_lirs_Engine_Len [.pointer e7] fun (x_25 : Int) =>
  ite2 (x_25 != (IntKind.wrap .i64 (x_14 + (1 : Int)))) (
  Q (.bool false)) (
  ite2 (!x_19) (
  call1 (.int .i64) Try.prog id_lirs_Engine_Len [.pointer e7] fun (x_26 : Int) =>
  ite2 (x_26 != x_14) (
  Q (.bool false)) (
  hoardlaw13_LirsLoads_j6 jn Q m5 keys2 e7 i10 x_15)) (
  hoardlaw13_LirsLoads_j6 jn Q m5 keys2 e7 i10 x_15)))) (
  ite2 (!x_19) (
  call1 (.int .i64) Try.prog id_lirs_Engine_Len [.pointer e7] fun (x_31 : Int) =>
  ite2 (x_31 != x_14) (
  Q (.bool false)) (
  hoardlaw13_LirsLoads_j6 jn Q m5 keys2 e7 i10 x_15)) (
  hoardlaw13_LirsLoads_j6 jn Q m5 keys2 e7 i10 x_15)))) (
  ite2 (!(x_19 == false)) (
  Q (.bool false)) (
  ite2 x_19 (
  idx keys2.a keys2.n i10 fun b_32 o_33 =>
  ld .str b_32 (o_33 + (i10).toNat * 1) fun (x_34 : ByteArray) =>
  call1 .bool Try.prog id_lirs_Engine_Has [.pointer e7, .string x_34] fun (x_35 : Bool) =>
  ite2 (!x_35) (
  Q (.bool false)) (
  call1 (.int .i64) Try.prog id_lirs_Engine_Len [.pointer e7] fun (x_36 : Int) =>
  ite2 (x_36 != (IntKind.wrap .i64 (x_14 + (1 : Int)))) (
  Q (.bool false)) (
  ite2 (!x_19) (
  call1 (.int .i64) Try.prog id_lirs_Engine_Len [.pointer e7] fun (x_37 : Int) =>
  ite2 (x_37 != x_14) (
  Q (.bool false)) (
  hoardlaw13_LirsLoads_j6 jn Q m5 keys2 e7 i10 x_15)) (
  hoardlaw13_LirsLoads_j6 jn Q m5 keys2 e7 i10 x_15)))) (
  ite2 (!x_19) (
  call1 (.int .i64) Try.prog id_lirs_Engine_Len [.pointer e7] fun (x_38 : Int) =>
  ite2 (x_38 != x_14) (
  Q (.bool false)) (
  hoardlaw13_LirsLoads_j6 jn Q m5 keys2 e7 i10 x_15)) (
  hoardlaw13_LirsLoads_j6 jn Q m5 keys2 e7 i10 x_15))))) (
  hoardlaw13_LirsLoads_j9 jn Q  )) := by kernel_rfl
theorem hoardlaw13_LirsLoads_l5_zero (jn : Jn) (Q : Value → WP)  (keys2 : Sl) (e7 : Option Addr) (i10 : Int) : hoardlaw13_LirsLoads_l5 jn Q  0 keys2 e7 i10 = bot := by kernel_rfl
theorem hoardlaw13_LirsLoads_j4_raw (jn : Jn) (Q : Value → WP)  (keys2 : Sl) (e7 : Option Addr) : codeI Try.prog hoardlaw13_LirsLoads_kp jn (cAt [true, true, true, true, true] (bodyOf Try.f9)) (retK Try.prog Try.f9 Q) noX (retK Try.prog Try.f9 Q) (us 2 ((.slice keys2.a keys2.n keys2.c) :: us 4 ((.pointer e7) :: us 112 []))) = (
  exM fun m => hoardlaw13_LirsLoads_l5 jn Q  m keys2 e7 (0 : Int)) := by kernel_rfl
theorem hoardlaw13_LirsLoads_j4_def (Q : Value → WP)  (keys2 : Sl) (e7 : Option Addr) : hoardlaw13_LirsLoads_j4 idJ Q  keys2 e7 = codeI Try.prog hoardlaw13_LirsLoads_kp idJ (cAt [true, true, true, true, true] (bodyOf Try.f9)) (retK Try.prog Try.f9 Q) noX (retK Try.prog Try.f9 Q) (us 2 ((.slice keys2.a keys2.n keys2.c) :: us 4 ((.pointer e7) :: us 112 []))) := by kernel_rfl
theorem hoardlaw13_LirsLoads_l2_raw (jn : Jn) (Q : Value → WP)  (m2 : Nat) (l1 : Sl) (keys2 : Sl) (e7 : Option Addr) (x8 : Option Addr) (i9 : Int) : hoardlaw13_LirsLoads_l2 jn Q  (m2 + 1) l1 keys2 e7 x8 i9 = (
  ite2 (decide (i9 < (l1.n : Int))) (
  ite2 (decide (i9 < (200 : Int))) (
  hoardlaw13_LirsLoads_j3 jn Q m2 l1 keys2 e7 x8 i9) (
  hoardlaw13_LirsLoads_j4 jn Q  keys2 e7)) (
  hoardlaw13_LirsLoads_j4 jn Q  keys2 e7)) := by kernel_rfl
theorem hoardlaw13_LirsLoads_l2_zero (jn : Jn) (Q : Value → WP)  (l1 : Sl) (keys2 : Sl) (e7 : Option Addr) (x8 : Option Addr) (i9 : Int) : hoardlaw13_LirsLoads_l2 jn Q  0 l1 keys2 e7 x8 i9 = bot := by kernel_rfl
theorem hoardlaw13_LirsLoads_j1_raw (jn : Jn) (Q : Value → WP)  (room0 : Int) (l1 : Sl) (keys2 : Sl) : codeI Try.prog hoardlaw13_LirsLoads_kp jn (cAt [true, true] (bodyOf Try.f9)) (retK Try.prog Try.f9 Q) noX (retK Try.prog Try.f9 Q) ((.int .i64 room0) :: (.slice l1.a l1.n l1.c) :: (.slice keys2.a keys2.n keys2.c) :: us 117 []) = (
  call1 .ptr Try.prog id_lirs_New [.int .i64 room0] fun (x_3 : Option Addr) =>
  call1 .ptr Try.prog id_hoardref13_New [.int .i64 room0] fun (x_4 : Option Addr) =>
  ite2 (Option.isNone x_3) (
  Q (.bool false)) (
  exM fun m => hoardlaw13_LirsLoads_l2 jn Q  m l1 keys2 x_3 x_4 (0 : Int))) := by kernel_rfl
theorem hoardlaw13_LirsLoads_j1_def (Q : Value → WP)  (room0 : Int) (l1 : Sl) (keys2 : Sl) : hoardlaw13_LirsLoads_j1 idJ Q  room0 l1 keys2 = codeI Try.prog hoardlaw13_LirsLoads_kp idJ (cAt [true, true] (bodyOf Try.f9)) (retK Try.prog Try.f9 Q) noX (retK Try.prog Try.f9 Q) ((.int .i64 room0) :: (.slice l1.a l1.n l1.c) :: (.slice keys2.a keys2.n keys2.c) :: us 117 []) := by kernel_rfl
theorem hoardlaw13_LirsLoads_raw (jn : Jn) (room0 : Int) (l1 : Sl) (keys2 : Sl) (Q : Value → WP) : funJ jn Try.prog hoardlaw13_LirsLoads_kp Try.f9 [.int .i64 room0, .slice l1.a l1.n l1.c, .slice keys2.a keys2.n keys2.c] Q = (
  call1 .bool Try.prog id_hoardlaw13_heavy [.slice l1.a l1.n l1.c] fun (x_1 : Bool) =>
  ite2 x_1 (
  Q (.bool true)) (
  call1 .bool Try.prog id_hoardlaw13_long [.slice keys2.a keys2.n keys2.c] fun (x_2 : Bool) =>
  ite2 x_2 (
  Q (.bool true)) (
  hoardlaw13_LirsLoads_j1 jn Q  room0 l1 keys2))) := by kernel_rfl
theorem hoardlaw13_LirsLoads_def (room0 : Int) (l1 : Sl) (keys2 : Sl) (Q : Value → WP) : hoardlaw13_LirsLoads room0 l1 keys2 Q = funJ idJ Try.prog hoardlaw13_LirsLoads_kp Try.f9 [.int .i64 room0, .slice l1.a l1.n l1.c, .slice keys2.a keys2.n keys2.c] Q := rfl
theorem hoardlaw13_LirsLoads_calls {room0 : Int} {l1 : Sl} {keys2 : Sl} {Q : Value → WP} {w : World} (h : hoardlaw13_LirsLoads room0 l1 keys2 Q w) : Calls Try.prog id_hoardlaw13_LirsLoads #[.int .i64 room0, .slice l1.a l1.n l1.c, .slice keys2.a keys2.n keys2.c] w fun e w' => ∃ v, e = .returned v ∧ Q v w' :=
  funJ_calls mixed Try.func9 rfl h

-- hoard/hoardlaw13.LirsRemoves
def hoardlaw13_LirsRemoves_kp : KP := ⟨[(8, [0, 1, 2]), (17, [1, 2, 7, 8, 9]), (20, [1, 2, 7, 8, 9]), (22, [2, 7]), (28, [2, 7, 10, 11]), (31, [2, 7, 10, 11, 12]), (38, [7, 10, 11]), (44, [7, 13])], []⟩
def hoardlaw13_LirsRemoves_j3 (jn : Jn) (Q : Value → WP) (m2 : Nat) (l1 : Sl) (key2 : ByteArray) (e7 : Option Addr) (x8 : Option Addr) (i9 : Int) : WP := jn 20 (fun ρ => codeI Try.prog hoardlaw13_LirsRemoves_kp jn (cAt [true, true, true, true, false, true, false, false, true] (bodyOf Try.f10)) (lopK Try.prog hoardlaw13_LirsRemoves_kp jn (cAt [true, true, true, true, false, true, false, false] (bodyOf Try.f10)) (blkX 0 (seqK Try.prog hoardlaw13_LirsRemoves_kp jn (cAt [true, true, true, true, true] (bodyOf Try.f10)) (retK Try.prog Try.f10 Q) noX (retK Try.prog Try.f10 Q)) noX) (retK Try.prog Try.f10 Q) m2) (blkX 0 (seqK Try.prog hoardlaw13_LirsRemoves_kp jn (cAt [true, true, true, true, true] (bodyOf Try.f10)) (retK Try.prog Try.f10 Q) noX (retK Try.prog Try.f10 Q)) noX) (retK Try.prog Try.f10 Q) ρ) (us 1 ((.slice l1.a l1.n l1.c) :: (.string key2) :: us 4 ((.pointer e7) :: (.pointer x8) :: (.int .i64 i9) :: us 91 [])))
def hoardlaw13_LirsRemoves_j8 (jn : Jn) (Q : Value → WP)  (e7 : Option Addr) (n13 : Int) : WP := jn 44 (fun ρ => codeI Try.prog hoardlaw13_LirsRemoves_kp jn (cAt [true, true, true, true, true, true, true, true, true, true] (bodyOf Try.f10)) (retK Try.prog Try.f10 Q) noX (retK Try.prog Try.f10 Q) ρ) (us 7 ((.pointer e7) :: us 5 ((.int .i64 n13) :: us 87 [])))
def hoardlaw13_LirsRemoves_j7 (jn : Jn) (Q : Value → WP)  (e7 : Option Addr) (in10 : Sl) (was11 : Bool) : WP := jn 38 (fun ρ => codeI Try.prog hoardlaw13_LirsRemoves_kp jn (cAt [true, true, true, true, true, true, true, true] (bodyOf Try.f10)) (retK Try.prog Try.f10 Q) noX (retK Try.prog Try.f10 Q) ρ) (us 7 ((.pointer e7) :: us 2 ((.slice in10.a in10.n in10.c) :: (.bool was11) :: us 89 [])))
def hoardlaw13_LirsRemoves_l6 (jn : Jn) (Q : Value → WP)  (m6 : Nat) (key2 : ByteArray) (e7 : Option Addr) (in10 : Sl) (was11 : Bool) (i12 : Int) : WP := lop Try.prog hoardlaw13_LirsRemoves_kp jn (cAt [true, true, true, true, true, true, true, false, true, false, false] (bodyOf Try.f10)) (blkX 2 (seqK Try.prog hoardlaw13_LirsRemoves_kp jn (cAt [true, true, true, true, true, true, true, true] (bodyOf Try.f10)) (retK Try.prog Try.f10 Q) noX (retK Try.prog Try.f10 Q)) noX) (retK Try.prog Try.f10 Q) m6 (us 2 ((.string key2) :: us 4 ((.pointer e7) :: us 2 ((.slice in10.a in10.n in10.c) :: (.bool was11) :: (.int .i64 i12) :: us 88 []))))
def hoardlaw13_LirsRemoves_j5 (jn : Jn) (Q : Value → WP)  (key2 : ByteArray) (e7 : Option Addr) (in10 : Sl) (was11 : Bool) : WP := jn 28 (fun ρ => codeI Try.prog hoardlaw13_LirsRemoves_kp jn (cAt [true, true, true, true, true, true, true] (bodyOf Try.f10)) (retK Try.prog Try.f10 Q) noX (retK Try.prog Try.f10 Q) ρ) (us 2 ((.string key2) :: us 4 ((.pointer e7) :: us 2 ((.slice in10.a in10.n in10.c) :: (.bool was11) :: us 89 []))))
def hoardlaw13_LirsRemoves_j4 (jn : Jn) (Q : Value → WP)  (key2 : ByteArray) (e7 : Option Addr) : WP := jn 22 (fun ρ => codeI Try.prog hoardlaw13_LirsRemoves_kp jn (cAt [true, true, true, true, true] (bodyOf Try.f10)) (retK Try.prog Try.f10 Q) noX (retK Try.prog Try.f10 Q) ρ) (us 2 ((.string key2) :: us 4 ((.pointer e7) :: us 93 [])))
def hoardlaw13_LirsRemoves_l2 (jn : Jn) (Q : Value → WP)  (m2 : Nat) (l1 : Sl) (key2 : ByteArray) (e7 : Option Addr) (x8 : Option Addr) (i9 : Int) : WP := lop Try.prog hoardlaw13_LirsRemoves_kp jn (cAt [true, true, true, true, false, true, false, false] (bodyOf Try.f10)) (blkX 0 (seqK Try.prog hoardlaw13_LirsRemoves_kp jn (cAt [true, true, true, true, true] (bodyOf Try.f10)) (retK Try.prog Try.f10 Q) noX (retK Try.prog Try.f10 Q)) noX) (retK Try.prog Try.f10 Q) m2 (us 1 ((.slice l1.a l1.n l1.c) :: (.string key2) :: us 4 ((.pointer e7) :: (.pointer x8) :: (.int .i64 i9) :: us 91 [])))
def hoardlaw13_LirsRemoves_j1 (jn : Jn) (Q : Value → WP)  (room0 : Int) (l1 : Sl) (key2 : ByteArray) : WP := jn 8 (fun ρ => codeI Try.prog hoardlaw13_LirsRemoves_kp jn (cAt [true, true] (bodyOf Try.f10)) (retK Try.prog Try.f10 Q) noX (retK Try.prog Try.f10 Q) ρ) ((.int .i64 room0) :: (.slice l1.a l1.n l1.c) :: (.string key2) :: us 98 [])
def hoardlaw13_LirsRemoves (room0 : Int) (l1 : Sl) (key2 : ByteArray) (Q : Value → WP) : WP := funJ idJ Try.prog hoardlaw13_LirsRemoves_kp Try.f10 [.int .i64 room0, .slice l1.a l1.n l1.c, .string key2] Q
theorem hoardlaw13_LirsRemoves_j3_raw (jn : Jn) (Q : Value → WP) (m2 : Nat) (l1 : Sl) (key2 : ByteArray) (e7 : Option Addr) (x8 : Option Addr) (i9 : Int) : codeI Try.prog hoardlaw13_LirsRemoves_kp jn (cAt [true, true, true, true, false, true, false, false, true] (bodyOf Try.f10)) (lopK Try.prog hoardlaw13_LirsRemoves_kp jn (cAt [true, true, true, true, false, true, false, false] (bodyOf Try.f10)) (blkX 0 (seqK Try.prog hoardlaw13_LirsRemoves_kp jn (cAt [true, true, true, true, true] (bodyOf Try.f10)) (retK Try.prog Try.f10 Q) noX (retK Try.prog Try.f10 Q)) noX) (retK Try.prog Try.f10 Q) m2) (blkX 0 (seqK Try.prog hoardlaw13_LirsRemoves_kp jn (cAt [true, true, true, true, true] (bodyOf Try.f10)) (retK Try.prog Try.f10 Q) noX (retK Try.prog Try.f10 Q)) noX) (retK Try.prog Try.f10 Q) (us 1 ((.slice l1.a l1.n l1.c) :: (.string key2) :: us 4 ((.pointer e7) :: (.pointer x8) :: (.int .i64 i9) :: us 91 []))) = (
  idx l1.a l1.n i9 fun b_4 o_5 =>
  ld (.int .i64) b_4 (o_5 + (i9).toNat * 2) fun (x_6 : Int) =>
  ld .str b_4 ((o_5 + (i9).toNat * 2) + 1) fun (x_7 : ByteArray) =>
  call1 .bool Try.prog id_hoardlaw13_act [.pointer e7, .pointer x8, .agg #[.int .i64 x_6, .string x_7]] fun (x_8 : Bool) =>
  hoardlaw13_LirsRemoves_l2 jn Q  m2 l1 key2 e7 x8 (IntKind.wrap .i64 (i9 + (1 : Int)))) := by kernel_rfl
theorem hoardlaw13_LirsRemoves_j3_def (Q : Value → WP) (m2 : Nat) (l1 : Sl) (key2 : ByteArray) (e7 : Option Addr) (x8 : Option Addr) (i9 : Int) : hoardlaw13_LirsRemoves_j3 idJ Q m2 l1 key2 e7 x8 i9 = codeI Try.prog hoardlaw13_LirsRemoves_kp idJ (cAt [true, true, true, true, false, true, false, false, true] (bodyOf Try.f10)) (lopK Try.prog hoardlaw13_LirsRemoves_kp idJ (cAt [true, true, true, true, false, true, false, false] (bodyOf Try.f10)) (blkX 0 (seqK Try.prog hoardlaw13_LirsRemoves_kp idJ (cAt [true, true, true, true, true] (bodyOf Try.f10)) (retK Try.prog Try.f10 Q) noX (retK Try.prog Try.f10 Q)) noX) (retK Try.prog Try.f10 Q) m2) (blkX 0 (seqK Try.prog hoardlaw13_LirsRemoves_kp idJ (cAt [true, true, true, true, true] (bodyOf Try.f10)) (retK Try.prog Try.f10 Q) noX (retK Try.prog Try.f10 Q)) noX) (retK Try.prog Try.f10 Q) (us 1 ((.slice l1.a l1.n l1.c) :: (.string key2) :: us 4 ((.pointer e7) :: (.pointer x8) :: (.int .i64 i9) :: us 91 []))) := by kernel_rfl
theorem hoardlaw13_LirsRemoves_j8_raw (jn : Jn) (Q : Value → WP)  (e7 : Option Addr) (n13 : Int) : codeI Try.prog hoardlaw13_LirsRemoves_kp jn (cAt [true, true, true, true, true, true, true, true, true, true] (bodyOf Try.f10)) (retK Try.prog Try.f10 Q) noX (retK Try.prog Try.f10 Q) (us 7 ((.pointer e7) :: us 5 ((.int .i64 n13) :: us 87 []))) = (
  call1 (.int .i64) Try.prog id_lirs_Engine_Len [.pointer e7] fun (x_22 : Int) =>
  ite2 (x_22 == n13) (
  call1 .bool Try.prog id_hoardlaw13_known [] fun (x_23 : Bool) =>
  Q (.bool x_23)) (
  Q (.bool false))) := by kernel_rfl
theorem hoardlaw13_LirsRemoves_j8_def (Q : Value → WP)  (e7 : Option Addr) (n13 : Int) : hoardlaw13_LirsRemoves_j8 idJ Q  e7 n13 = codeI Try.prog hoardlaw13_LirsRemoves_kp idJ (cAt [true, true, true, true, true, true, true, true, true, true] (bodyOf Try.f10)) (retK Try.prog Try.f10 Q) noX (retK Try.prog Try.f10 Q) (us 7 ((.pointer e7) :: us 5 ((.int .i64 n13) :: us 87 []))) := by kernel_rfl
theorem hoardlaw13_LirsRemoves_j7_raw (jn : Jn) (Q : Value → WP)  (e7 : Option Addr) (in10 : Sl) (was11 : Bool) : codeI Try.prog hoardlaw13_LirsRemoves_kp jn (cAt [true, true, true, true, true, true, true, true] (bodyOf Try.f10)) (retK Try.prog Try.f10 Q) noX (retK Try.prog Try.f10 Q) (us 7 ((.pointer e7) :: us 2 ((.slice in10.a in10.n in10.c) :: (.bool was11) :: us 89 []))) = (
  ite2 was11 (
  hoardlaw13_LirsRemoves_j8 jn Q  e7 (IntKind.wrap .i64 ((in10.n : Int) - (1 : Int)))) (
  hoardlaw13_LirsRemoves_j8 jn Q  e7 (in10.n : Int))) := by kernel_rfl
theorem hoardlaw13_LirsRemoves_j7_def (Q : Value → WP)  (e7 : Option Addr) (in10 : Sl) (was11 : Bool) : hoardlaw13_LirsRemoves_j7 idJ Q  e7 in10 was11 = codeI Try.prog hoardlaw13_LirsRemoves_kp idJ (cAt [true, true, true, true, true, true, true, true] (bodyOf Try.f10)) (retK Try.prog Try.f10 Q) noX (retK Try.prog Try.f10 Q) (us 7 ((.pointer e7) :: us 2 ((.slice in10.a in10.n in10.c) :: (.bool was11) :: us 89 []))) := by kernel_rfl
theorem hoardlaw13_LirsRemoves_l6_raw (jn : Jn) (Q : Value → WP)  (m6 : Nat) (key2 : ByteArray) (e7 : Option Addr) (in10 : Sl) (was11 : Bool) (i12 : Int) : hoardlaw13_LirsRemoves_l6 jn Q  (m6 + 1) key2 e7 in10 was11 i12 = (
  ite2 (decide (i12 < (in10.n : Int))) (
  idx in10.a in10.n i12 fun b_15 o_16 =>
  ld .str b_15 (o_16 + (i12).toNat * 1) fun (x_17 : ByteArray) =>
  ite2 (!sEq x_17 key2) (
  idx in10.a in10.n i12 fun b_18 o_19 =>
  ld .str b_18 (o_19 + (i12).toNat * 1) fun (x_20 : ByteArray) =>
  call1 .bool Try.prog id_lirs_Engine_Has [.pointer e7, .string x_20] fun (x_21 : Bool) =>
  ite2 (!x_21) (
  Q (.bool false)) (
  hoardlaw13_LirsRemoves_l6 jn Q  m6 key2 e7 in10 was11 (IntKind.wrap .i64 (i12 + (1 : Int))))) (
  hoardlaw13_LirsRemoves_l6 jn Q  m6 key2 e7 in10 was11 (IntKind.wrap .i64 (i12 + (1 : Int))))) (
  hoardlaw13_LirsRemoves_j7 jn Q  e7 in10 was11)) := by kernel_rfl
theorem hoardlaw13_LirsRemoves_l6_zero (jn : Jn) (Q : Value → WP)  (key2 : ByteArray) (e7 : Option Addr) (in10 : Sl) (was11 : Bool) (i12 : Int) : hoardlaw13_LirsRemoves_l6 jn Q  0 key2 e7 in10 was11 i12 = bot := by kernel_rfl
theorem hoardlaw13_LirsRemoves_j5_raw (jn : Jn) (Q : Value → WP)  (key2 : ByteArray) (e7 : Option Addr) (in10 : Sl) (was11 : Bool) : codeI Try.prog hoardlaw13_LirsRemoves_kp jn (cAt [true, true, true, true, true, true, true] (bodyOf Try.f10)) (retK Try.prog Try.f10 Q) noX (retK Try.prog Try.f10 Q) (us 2 ((.string key2) :: us 4 ((.pointer e7) :: us 2 ((.slice in10.a in10.n in10.c) :: (.bool was11) :: us 89 [])))) = (
  exM fun m => hoardlaw13_LirsRemoves_l6 jn Q  m key2 e7 in10 was11 (0 : Int)) := by kernel_rfl
theorem hoardlaw13_LirsRemoves_j5_def (Q : Value → WP)  (key2 : ByteArray) (e7 : Option Addr) (in10 : Sl) (was11 : Bool) : hoardlaw13_LirsRemoves_j5 idJ Q  key2 e7 in10 was11 = codeI Try.prog hoardlaw13_LirsRemoves_kp idJ (cAt [true, true, true, true, true, true, true] (bodyOf Try.f10)) (retK Try.prog Try.f10 Q) noX (retK Try.prog Try.f10 Q) (us 2 ((.string key2) :: us 4 ((.pointer e7) :: us 2 ((.slice in10.a in10.n in10.c) :: (.bool was11) :: us 89 [])))) := by kernel_rfl
theorem hoardlaw13_LirsRemoves_j4_raw (jn : Jn) (Q : Value → WP)  (key2 : ByteArray) (e7 : Option Addr) : codeI Try.prog hoardlaw13_LirsRemoves_kp jn (cAt [true, true, true, true, true] (bodyOf Try.f10)) (retK Try.prog Try.f10 Q) noX (retK Try.prog Try.f10 Q) (us 2 ((.string key2) :: us 4 ((.pointer e7) :: us 93 []))) = (
  call1 .slc Try.prog id_lirs_Engine_Keys [.pointer e7] fun (x_9 : Sl) =>
  call1 .bool Try.prog id_lirs_Engine_Has [.pointer e7, .string key2] fun (x_10 : Bool) =>
  call1 .bool Try.prog id_lirs_Engine_Remove [.pointer e7, .string key2] fun (x_11 : Bool) =>
  ite2 (!(x_11 == x_10)) (
  Q (.bool false)) (
  call1 .bool Try.prog id_lirs_Engine_Has [.pointer e7, .string key2] fun (x_12 : Bool) =>
  ite2 x_12 (
  Q (.bool false)) (
  ite2 x_10 (
  call1 .slc Try.prog id_lirs_Engine_Ghosts [.pointer e7] fun (x_13 : Sl) =>
  call1 .bool Try.prog id_hoardlaw13_has [.slice x_13.a x_13.n x_13.c, .string key2] fun (x_14 : Bool) =>
  ite2 x_14 (
  Q (.bool false)) (
  hoardlaw13_LirsRemoves_j5 jn Q  key2 e7 x_9 x_10)) (
  hoardlaw13_LirsRemoves_j5 jn Q  key2 e7 x_9 x_10)))) := by kernel_rfl
theorem hoardlaw13_LirsRemoves_j4_def (Q : Value → WP)  (key2 : ByteArray) (e7 : Option Addr) : hoardlaw13_LirsRemoves_j4 idJ Q  key2 e7 = codeI Try.prog hoardlaw13_LirsRemoves_kp idJ (cAt [true, true, true, true, true] (bodyOf Try.f10)) (retK Try.prog Try.f10 Q) noX (retK Try.prog Try.f10 Q) (us 2 ((.string key2) :: us 4 ((.pointer e7) :: us 93 []))) := by kernel_rfl
theorem hoardlaw13_LirsRemoves_l2_raw (jn : Jn) (Q : Value → WP)  (m2 : Nat) (l1 : Sl) (key2 : ByteArray) (e7 : Option Addr) (x8 : Option Addr) (i9 : Int) : hoardlaw13_LirsRemoves_l2 jn Q  (m2 + 1) l1 key2 e7 x8 i9 = (
  ite2 (decide (i9 < (l1.n : Int))) (
  ite2 (decide (i9 < (200 : Int))) (
  hoardlaw13_LirsRemoves_j3 jn Q m2 l1 key2 e7 x8 i9) (
  hoardlaw13_LirsRemoves_j4 jn Q  key2 e7)) (
  hoardlaw13_LirsRemoves_j4 jn Q  key2 e7)) := by kernel_rfl
theorem hoardlaw13_LirsRemoves_l2_zero (jn : Jn) (Q : Value → WP)  (l1 : Sl) (key2 : ByteArray) (e7 : Option Addr) (x8 : Option Addr) (i9 : Int) : hoardlaw13_LirsRemoves_l2 jn Q  0 l1 key2 e7 x8 i9 = bot := by kernel_rfl
theorem hoardlaw13_LirsRemoves_j1_raw (jn : Jn) (Q : Value → WP)  (room0 : Int) (l1 : Sl) (key2 : ByteArray) : codeI Try.prog hoardlaw13_LirsRemoves_kp jn (cAt [true, true] (bodyOf Try.f10)) (retK Try.prog Try.f10 Q) noX (retK Try.prog Try.f10 Q) ((.int .i64 room0) :: (.slice l1.a l1.n l1.c) :: (.string key2) :: us 98 []) = (
  call1 .ptr Try.prog id_lirs_New [.int .i64 room0] fun (x_2 : Option Addr) =>
  call1 .ptr Try.prog id_hoardref13_New [.int .i64 room0] fun (x_3 : Option Addr) =>
  ite2 (Option.isNone x_2) (
  Q (.bool false)) (
  exM fun m => hoardlaw13_LirsRemoves_l2 jn Q  m l1 key2 x_2 x_3 (0 : Int))) := by kernel_rfl
theorem hoardlaw13_LirsRemoves_j1_def (Q : Value → WP)  (room0 : Int) (l1 : Sl) (key2 : ByteArray) : hoardlaw13_LirsRemoves_j1 idJ Q  room0 l1 key2 = codeI Try.prog hoardlaw13_LirsRemoves_kp idJ (cAt [true, true] (bodyOf Try.f10)) (retK Try.prog Try.f10 Q) noX (retK Try.prog Try.f10 Q) ((.int .i64 room0) :: (.slice l1.a l1.n l1.c) :: (.string key2) :: us 98 []) := by kernel_rfl
theorem hoardlaw13_LirsRemoves_raw (jn : Jn) (room0 : Int) (l1 : Sl) (key2 : ByteArray) (Q : Value → WP) : funJ jn Try.prog hoardlaw13_LirsRemoves_kp Try.f10 [.int .i64 room0, .slice l1.a l1.n l1.c, .string key2] Q = (
  call1 .bool Try.prog id_hoardlaw13_heavy [.slice l1.a l1.n l1.c] fun (x_1 : Bool) =>
  ite2 x_1 (
  Q (.bool true)) (
  ite2 (decide ((key2.size : Int) > (40 : Int))) (
  Q (.bool true)) (
  hoardlaw13_LirsRemoves_j1 jn Q  room0 l1 key2))) := by kernel_rfl
theorem hoardlaw13_LirsRemoves_def (room0 : Int) (l1 : Sl) (key2 : ByteArray) (Q : Value → WP) : hoardlaw13_LirsRemoves room0 l1 key2 Q = funJ idJ Try.prog hoardlaw13_LirsRemoves_kp Try.f10 [.int .i64 room0, .slice l1.a l1.n l1.c, .string key2] Q := rfl
theorem hoardlaw13_LirsRemoves_calls {room0 : Int} {l1 : Sl} {key2 : ByteArray} {Q : Value → WP} {w : World} (h : hoardlaw13_LirsRemoves room0 l1 key2 Q w) : Calls Try.prog id_hoardlaw13_LirsRemoves #[.int .i64 room0, .slice l1.a l1.n l1.c, .string key2] w fun e w' => ∃ v, e = .returned v ∧ Q v w' :=
  funJ_calls mixed Try.func10 rfl h

-- hoard/hoardlaw13.LirsOwn
def hoardlaw13_LirsOwn_kp : KP := ⟨[(17, [1, 5, 6, 7]), (18, [1, 5, 6, 7]), (20, [1, 5, 6, 7]), (29, [1, 5, 6, 7, 8, 9, 10]), (34, [1, 5, 6, 7, 9]), (37, [1, 5, 6, 7, 9, 11]), (42, [5, 6])], []⟩
def hoardlaw13_LirsOwn_j6 (jn : Jn) (Q : Value → WP) (m1 : Nat) (l1 : Sl) (e5 : Option Addr) (x6 : Option Addr) (i7 : Int) : WP := jn 18 (fun ρ => codeI Try.prog hoardlaw13_LirsOwn_kp jn (cAt [true, true, true, true, false, true, false, false, true, true] (bodyOf Try.f11)) (lopK Try.prog hoardlaw13_LirsOwn_kp jn (cAt [true, true, true, true, false, true, false, false] (bodyOf Try.f11)) (blkX 0 (seqK Try.prog hoardlaw13_LirsOwn_kp jn (cAt [true, true, true, true, true] (bodyOf Try.f11)) (retK Try.prog Try.f11 Q) noX (retK Try.prog Try.f11 Q)) noX) (retK Try.prog Try.f11 Q) m1) (blkX 0 (seqK Try.prog hoardlaw13_LirsOwn_kp jn (cAt [true, true, true, true, true] (bodyOf Try.f11)) (retK Try.prog Try.f11 Q) noX (retK Try.prog Try.f11 Q)) noX) (retK Try.prog Try.f11 Q) ρ) (us 1 ((.slice l1.a l1.n l1.c) :: us 3 ((.pointer e5) :: (.pointer x6) :: (.int .i64 i7) :: us 67 [])))
def hoardlaw13_LirsOwn_l5 (jn : Jn) (Q : Value → WP) (m1 : Nat) (m5 : Nat) (l1 : Sl) (e5 : Option Addr) (x6 : Option Addr) (i7 : Int) (g9 : Sl) (j11 : Int) : WP := lop Try.prog hoardlaw13_LirsOwn_kp jn (cAt [true, true, true, true, false, true, false, false, true, false, false, true, true, true, true, false, false] (bodyOf Try.f11)) (blkX 4 (seqK Try.prog hoardlaw13_LirsOwn_kp jn (cAt [true, true, true, true, false, true, false, false, true, true] (bodyOf Try.f11)) (lopK Try.prog hoardlaw13_LirsOwn_kp jn (cAt [true, true, true, true, false, true, false, false] (bodyOf Try.f11)) (blkX 0 (seqK Try.prog hoardlaw13_LirsOwn_kp jn (cAt [true, true, true, true, true] (bodyOf Try.f11)) (retK Try.prog Try.f11 Q) noX (retK Try.prog Try.f11 Q)) noX) (retK Try.prog Try.f11 Q) m1) (blkX 0 (seqK Try.prog hoardlaw13_LirsOwn_kp jn (cAt [true, true, true, true, true] (bodyOf Try.f11)) (retK Try.prog Try.f11 Q) noX (retK Try.prog Try.f11 Q)) noX) (retK Try.prog Try.f11 Q)) (blkX 1 (seqK Try.prog hoardlaw13_LirsOwn_kp jn (cAt [true, true, true, true, false, true, false, false, true, true] (bodyOf Try.f11)) (lopK Try.prog hoardlaw13_LirsOwn_kp jn (cAt [true, true, true, true, false, true, false, false] (bodyOf Try.f11)) (blkX 0 (seqK Try.prog hoardlaw13_LirsOwn_kp jn (cAt [true, true, true, true, true] (bodyOf Try.f11)) (retK Try.prog Try.f11 Q) noX (retK Try.prog Try.f11 Q)) noX) (retK Try.prog Try.f11 Q) m1) (blkX 0 (seqK Try.prog hoardlaw13_LirsOwn_kp jn (cAt [true, true, true, true, true] (bodyOf Try.f11)) (retK Try.prog Try.f11 Q) noX (retK Try.prog Try.f11 Q)) noX) (retK Try.prog Try.f11 Q)) (blkX 0 (seqK Try.prog hoardlaw13_LirsOwn_kp jn (cAt [true, true, true, true, true] (bodyOf Try.f11)) (retK Try.prog Try.f11 Q) noX (retK Try.prog Try.f11 Q)) noX))) (retK Try.prog Try.f11 Q) m5 (us 1 ((.slice l1.a l1.n l1.c) :: us 3 ((.pointer e5) :: (.pointer x6) :: (.int .i64 i7) :: us 1 ((.slice g9.a g9.n g9.c) :: us 1 ((.int .i64 j11) :: us 63 [])))))
def hoardlaw13_LirsOwn_j4 (jn : Jn) (Q : Value → WP) (m1 : Nat) (l1 : Sl) (e5 : Option Addr) (x6 : Option Addr) (i7 : Int) (g9 : Sl) : WP := jn 34 (fun ρ => codeI Try.prog hoardlaw13_LirsOwn_kp jn (cAt [true, true, true, true, false, true, false, false, true, false, false, true, true, true] (bodyOf Try.f11)) (seqK Try.prog hoardlaw13_LirsOwn_kp jn (cAt [true, true, true, true, false, true, false, false, true, true] (bodyOf Try.f11)) (lopK Try.prog hoardlaw13_LirsOwn_kp jn (cAt [true, true, true, true, false, true, false, false] (bodyOf Try.f11)) (blkX 0 (seqK Try.prog hoardlaw13_LirsOwn_kp jn (cAt [true, true, true, true, true] (bodyOf Try.f11)) (retK Try.prog Try.f11 Q) noX (retK Try.prog Try.f11 Q)) noX) (retK Try.prog Try.f11 Q) m1) (blkX 0 (seqK Try.prog hoardlaw13_LirsOwn_kp jn (cAt [true, true, true, true, true] (bodyOf Try.f11)) (retK Try.prog Try.f11 Q) noX (retK Try.prog Try.f11 Q)) noX) (retK Try.prog Try.f11 Q)) (blkX 1 (seqK Try.prog hoardlaw13_LirsOwn_kp jn (cAt [true, true, true, true, false, true, false, false, true, true] (bodyOf Try.f11)) (lopK Try.prog hoardlaw13_LirsOwn_kp jn (cAt [true, true, true, true, false, true, false, false] (bodyOf Try.f11)) (blkX 0 (seqK Try.prog hoardlaw13_LirsOwn_kp jn (cAt [true, true, true, true, true] (bodyOf Try.f11)) (retK Try.prog Try.f11 Q) noX (retK Try.prog Try.f11 Q)) noX) (retK Try.prog Try.f11 Q) m1) (blkX 0 (seqK Try.prog hoardlaw13_LirsOwn_kp jn (cAt [true, true, true, true, true] (bodyOf Try.f11)) (retK Try.prog Try.f11 Q) noX (retK Try.prog Try.f11 Q)) noX) (retK Try.prog Try.f11 Q)) (blkX 0 (seqK Try.prog hoardlaw13_LirsOwn_kp jn (cAt [true, true, true, true, true] (bodyOf Try.f11)) (retK Try.prog Try.f11 Q) noX (retK Try.prog Try.f11 Q)) noX)) (retK Try.prog Try.f11 Q) ρ) (us 1 ((.slice l1.a l1.n l1.c) :: us 3 ((.pointer e5) :: (.pointer x6) :: (.int .i64 i7) :: us 1 ((.slice g9.a g9.n g9.c) :: us 65 []))))
def hoardlaw13_LirsOwn_l3 (jn : Jn) (Q : Value → WP) (m1 : Nat) (m3 : Nat) (l1 : Sl) (e5 : Option Addr) (x6 : Option Addr) (i7 : Int) (k8 : Sl) (g9 : Sl) (j10 : Int) : WP := lop Try.prog hoardlaw13_LirsOwn_kp jn (cAt [true, true, true, true, false, true, false, false, true, false, false, true, true, false, true, false, false] (bodyOf Try.f11)) (blkX 2 (seqK Try.prog hoardlaw13_LirsOwn_kp jn (cAt [true, true, true, true, false, true, false, false, true, false, false, true, true, true] (bodyOf Try.f11)) (seqK Try.prog hoardlaw13_LirsOwn_kp jn (cAt [true, true, true, true, false, true, false, false, true, true] (bodyOf Try.f11)) (lopK Try.prog hoardlaw13_LirsOwn_kp jn (cAt [true, true, true, true, false, true, false, false] (bodyOf Try.f11)) (blkX 0 (seqK Try.prog hoardlaw13_LirsOwn_kp jn (cAt [true, true, true, true, true] (bodyOf Try.f11)) (retK Try.prog Try.f11 Q) noX (retK Try.prog Try.f11 Q)) noX) (retK Try.prog Try.f11 Q) m1) (blkX 0 (seqK Try.prog hoardlaw13_LirsOwn_kp jn (cAt [true, true, true, true, true] (bodyOf Try.f11)) (retK Try.prog Try.f11 Q) noX (retK Try.prog Try.f11 Q)) noX) (retK Try.prog Try.f11 Q)) (blkX 1 (seqK Try.prog hoardlaw13_LirsOwn_kp jn (cAt [true, true, true, true, false, true, false, false, true, true] (bodyOf Try.f11)) (lopK Try.prog hoardlaw13_LirsOwn_kp jn (cAt [true, true, true, true, false, true, false, false] (bodyOf Try.f11)) (blkX 0 (seqK Try.prog hoardlaw13_LirsOwn_kp jn (cAt [true, true, true, true, true] (bodyOf Try.f11)) (retK Try.prog Try.f11 Q) noX (retK Try.prog Try.f11 Q)) noX) (retK Try.prog Try.f11 Q) m1) (blkX 0 (seqK Try.prog hoardlaw13_LirsOwn_kp jn (cAt [true, true, true, true, true] (bodyOf Try.f11)) (retK Try.prog Try.f11 Q) noX (retK Try.prog Try.f11 Q)) noX) (retK Try.prog Try.f11 Q)) (blkX 0 (seqK Try.prog hoardlaw13_LirsOwn_kp jn (cAt [true, true, true, true, true] (bodyOf Try.f11)) (retK Try.prog Try.f11 Q) noX (retK Try.prog Try.f11 Q)) noX)) (retK Try.prog Try.f11 Q)) (blkX 1 (seqK Try.prog hoardlaw13_LirsOwn_kp jn (cAt [true, true, true, true, false, true, false, false, true, true] (bodyOf Try.f11)) (lopK Try.prog hoardlaw13_LirsOwn_kp jn (cAt [true, true, true, true, false, true, false, false] (bodyOf Try.f11)) (blkX 0 (seqK Try.prog hoardlaw13_LirsOwn_kp jn (cAt [true, true, true, true, true] (bodyOf Try.f11)) (retK Try.prog Try.f11 Q) noX (retK Try.prog Try.f11 Q)) noX) (retK Try.prog Try.f11 Q) m1) (blkX 0 (seqK Try.prog hoardlaw13_LirsOwn_kp jn (cAt [true, true, true, true, true] (bodyOf Try.f11)) (retK Try.prog Try.f11 Q) noX (retK Try.prog Try.f11 Q)) noX) (retK Try.prog Try.f11 Q)) (blkX 0 (seqK Try.prog hoardlaw13_LirsOwn_kp jn (cAt [true, true, true, true, true] (bodyOf Try.f11)) (retK Try.prog Try.f11 Q) noX (retK Try.prog Try.f11 Q)) noX))) (retK Try.prog Try.f11 Q) m3 (us 1 ((.slice l1.a l1.n l1.c) :: us 3 ((.pointer e5) :: (.pointer x6) :: (.int .i64 i7) :: (.slice k8.a k8.n k8.c) :: (.slice g9.a g9.n g9.c) :: (.int .i64 j10) :: us 64 [])))
def hoardlaw13_LirsOwn_j2 (jn : Jn) (Q : Value → WP) (m1 : Nat) (l1 : Sl) (e5 : Option Addr) (x6 : Option Addr) (i7 : Int) : WP := jn 20 (fun ρ => codeI Try.prog hoardlaw13_LirsOwn_kp jn (cAt [true, true, true, true, false, true, false, false, true] (bodyOf Try.f11)) (lopK Try.prog hoardlaw13_LirsOwn_kp jn (cAt [true, true, true, true, false, true, false, false] (bodyOf Try.f11)) (blkX 0 (seqK Try.prog hoardlaw13_LirsOwn_kp jn (cAt [true, true, true, true, true] (bodyOf Try.f11)) (retK Try.prog Try.f11 Q) noX (retK Try.prog Try.f11 Q)) noX) (retK Try.prog Try.f11 Q) m1) (blkX 0 (seqK Try.prog hoardlaw13_LirsOwn_kp jn (cAt [true, true, true, true, true] (bodyOf Try.f11)) (retK Try.prog Try.f11 Q) noX (retK Try.prog Try.f11 Q)) noX) (retK Try.prog Try.f11 Q) ρ) (us 1 ((.slice l1.a l1.n l1.c) :: us 3 ((.pointer e5) :: (.pointer x6) :: (.int .i64 i7) :: us 67 [])))
def hoardlaw13_LirsOwn_j7 (jn : Jn) (Q : Value → WP)  (e5 : Option Addr) (x6 : Option Addr) : WP := jn 42 (fun ρ => codeI Try.prog hoardlaw13_LirsOwn_kp jn (cAt [true, true, true, true, true] (bodyOf Try.f11)) (retK Try.prog Try.f11 Q) noX (retK Try.prog Try.f11 Q) ρ) (us 5 ((.pointer e5) :: (.pointer x6) :: us 68 []))
def hoardlaw13_LirsOwn_l1 (jn : Jn) (Q : Value → WP)  (m1 : Nat) (l1 : Sl) (e5 : Option Addr) (x6 : Option Addr) (i7 : Int) : WP := lop Try.prog hoardlaw13_LirsOwn_kp jn (cAt [true, true, true, true, false, true, false, false] (bodyOf Try.f11)) (blkX 0 (seqK Try.prog hoardlaw13_LirsOwn_kp jn (cAt [true, true, true, true, true] (bodyOf Try.f11)) (retK Try.prog Try.f11 Q) noX (retK Try.prog Try.f11 Q)) noX) (retK Try.prog Try.f11 Q) m1 (us 1 ((.slice l1.a l1.n l1.c) :: us 3 ((.pointer e5) :: (.pointer x6) :: (.int .i64 i7) :: us 67 [])))
def hoardlaw13_LirsOwn (room0 : Int) (l1 : Sl) (Q : Value → WP) : WP := funJ idJ Try.prog hoardlaw13_LirsOwn_kp Try.f11 [.int .i64 room0, .slice l1.a l1.n l1.c] Q
theorem hoardlaw13_LirsOwn_j6_raw (jn : Jn) (Q : Value → WP) (m1 : Nat) (l1 : Sl) (e5 : Option Addr) (x6 : Option Addr) (i7 : Int) : codeI Try.prog hoardlaw13_LirsOwn_kp jn (cAt [true, true, true, true, false, true, false, false, true, true] (bodyOf Try.f11)) (lopK Try.prog hoardlaw13_LirsOwn_kp jn (cAt [true, true, true, true, false, true, false, false] (bodyOf Try.f11)) (blkX 0 (seqK Try.prog hoardlaw13_LirsOwn_kp jn (cAt [true, true, true, true, true] (bodyOf Try.f11)) (retK Try.prog Try.f11 Q) noX (retK Try.prog Try.f11 Q)) noX) (retK Try.prog Try.f11 Q) m1) (blkX 0 (seqK Try.prog hoardlaw13_LirsOwn_kp jn (cAt [true, true, true, true, true] (bodyOf Try.f11)) (retK Try.prog Try.f11 Q) noX (retK Try.prog Try.f11 Q)) noX) (retK Try.prog Try.f11 Q) (us 1 ((.slice l1.a l1.n l1.c) :: us 3 ((.pointer e5) :: (.pointer x6) :: (.int .i64 i7) :: us 67 []))) = (
  hoardlaw13_LirsOwn_l1 jn Q  m1 l1 e5 x6 (IntKind.wrap .i64 (i7 + (1 : Int)))) := by kernel_rfl
theorem hoardlaw13_LirsOwn_j6_def (Q : Value → WP) (m1 : Nat) (l1 : Sl) (e5 : Option Addr) (x6 : Option Addr) (i7 : Int) : hoardlaw13_LirsOwn_j6 idJ Q m1 l1 e5 x6 i7 = codeI Try.prog hoardlaw13_LirsOwn_kp idJ (cAt [true, true, true, true, false, true, false, false, true, true] (bodyOf Try.f11)) (lopK Try.prog hoardlaw13_LirsOwn_kp idJ (cAt [true, true, true, true, false, true, false, false] (bodyOf Try.f11)) (blkX 0 (seqK Try.prog hoardlaw13_LirsOwn_kp idJ (cAt [true, true, true, true, true] (bodyOf Try.f11)) (retK Try.prog Try.f11 Q) noX (retK Try.prog Try.f11 Q)) noX) (retK Try.prog Try.f11 Q) m1) (blkX 0 (seqK Try.prog hoardlaw13_LirsOwn_kp idJ (cAt [true, true, true, true, true] (bodyOf Try.f11)) (retK Try.prog Try.f11 Q) noX (retK Try.prog Try.f11 Q)) noX) (retK Try.prog Try.f11 Q) (us 1 ((.slice l1.a l1.n l1.c) :: us 3 ((.pointer e5) :: (.pointer x6) :: (.int .i64 i7) :: us 67 []))) := by kernel_rfl
theorem hoardlaw13_LirsOwn_l5_raw (jn : Jn) (Q : Value → WP) (m1 : Nat) (m5 : Nat) (l1 : Sl) (e5 : Option Addr) (x6 : Option Addr) (i7 : Int) (g9 : Sl) (j11 : Int) : hoardlaw13_LirsOwn_l5 jn Q m1 (m5 + 1) l1 e5 x6 i7 g9 j11 = (
  ite2 (decide (j11 < (g9.n : Int))) (
  idx g9.a g9.n j11 fun b_13 o_14 =>
  st b_13 (o_14 + (j11).toNat * 1) (.string str_spoilt) <|
  hoardlaw13_LirsOwn_l5 jn Q m1 m5 l1 e5 x6 i7 g9 (IntKind.wrap .i64 (j11 + (1 : Int)))) (
  hoardlaw13_LirsOwn_j6 jn Q m1 l1 e5 x6 i7)) := by kernel_rfl
theorem hoardlaw13_LirsOwn_l5_zero (jn : Jn) (Q : Value → WP) (m1 : Nat) (l1 : Sl) (e5 : Option Addr) (x6 : Option Addr) (i7 : Int) (g9 : Sl) (j11 : Int) : hoardlaw13_LirsOwn_l5 jn Q m1 0 l1 e5 x6 i7 g9 j11 = bot := by kernel_rfl
theorem hoardlaw13_LirsOwn_j4_raw (jn : Jn) (Q : Value → WP) (m1 : Nat) (l1 : Sl) (e5 : Option Addr) (x6 : Option Addr) (i7 : Int) (g9 : Sl) : codeI Try.prog hoardlaw13_LirsOwn_kp jn (cAt [true, true, true, true, false, true, false, false, true, false, false, true, true, true] (bodyOf Try.f11)) (seqK Try.prog hoardlaw13_LirsOwn_kp jn (cAt [true, true, true, true, false, true, false, false, true, true] (bodyOf Try.f11)) (lopK Try.prog hoardlaw13_LirsOwn_kp jn (cAt [true, true, true, true, false, true, false, false] (bodyOf Try.f11)) (blkX 0 (seqK Try.prog hoardlaw13_LirsOwn_kp jn (cAt [true, true, true, true, true] (bodyOf Try.f11)) (retK Try.prog Try.f11 Q) noX (retK Try.prog Try.f11 Q)) noX) (retK Try.prog Try.f11 Q) m1) (blkX 0 (seqK Try.prog hoardlaw13_LirsOwn_kp jn (cAt [true, true, true, true, true] (bodyOf Try.f11)) (retK Try.prog Try.f11 Q) noX (retK Try.prog Try.f11 Q)) noX) (retK Try.prog Try.f11 Q)) (blkX 1 (seqK Try.prog hoardlaw13_LirsOwn_kp jn (cAt [true, true, true, true, false, true, false, false, true, true] (bodyOf Try.f11)) (lopK Try.prog hoardlaw13_LirsOwn_kp jn (cAt [true, true, true, true, false, true, false, false] (bodyOf Try.f11)) (blkX 0 (seqK Try.prog hoardlaw13_LirsOwn_kp jn (cAt [true, true, true, true, true] (bodyOf Try.f11)) (retK Try.prog Try.f11 Q) noX (retK Try.prog Try.f11 Q)) noX) (retK Try.prog Try.f11 Q) m1) (blkX 0 (seqK Try.prog hoardlaw13_LirsOwn_kp jn (cAt [true, true, true, true, true] (bodyOf Try.f11)) (retK Try.prog Try.f11 Q) noX (retK Try.prog Try.f11 Q)) noX) (retK Try.prog Try.f11 Q)) (blkX 0 (seqK Try.prog hoardlaw13_LirsOwn_kp jn (cAt [true, true, true, true, true] (bodyOf Try.f11)) (retK Try.prog Try.f11 Q) noX (retK Try.prog Try.f11 Q)) noX)) (retK Try.prog Try.f11 Q) (us 1 ((.slice l1.a l1.n l1.c) :: us 3 ((.pointer e5) :: (.pointer x6) :: (.int .i64 i7) :: us 1 ((.slice g9.a g9.n g9.c) :: us 65 [])))) = (
  exM fun m => hoardlaw13_LirsOwn_l5 jn Q m1 m l1 e5 x6 i7 g9 (0 : Int)) := by kernel_rfl
theorem hoardlaw13_LirsOwn_j4_def (Q : Value → WP) (m1 : Nat) (l1 : Sl) (e5 : Option Addr) (x6 : Option Addr) (i7 : Int) (g9 : Sl) : hoardlaw13_LirsOwn_j4 idJ Q m1 l1 e5 x6 i7 g9 = codeI Try.prog hoardlaw13_LirsOwn_kp idJ (cAt [true, true, true, true, false, true, false, false, true, false, false, true, true, true] (bodyOf Try.f11)) (seqK Try.prog hoardlaw13_LirsOwn_kp idJ (cAt [true, true, true, true, false, true, false, false, true, true] (bodyOf Try.f11)) (lopK Try.prog hoardlaw13_LirsOwn_kp idJ (cAt [true, true, true, true, false, true, false, false] (bodyOf Try.f11)) (blkX 0 (seqK Try.prog hoardlaw13_LirsOwn_kp idJ (cAt [true, true, true, true, true] (bodyOf Try.f11)) (retK Try.prog Try.f11 Q) noX (retK Try.prog Try.f11 Q)) noX) (retK Try.prog Try.f11 Q) m1) (blkX 0 (seqK Try.prog hoardlaw13_LirsOwn_kp idJ (cAt [true, true, true, true, true] (bodyOf Try.f11)) (retK Try.prog Try.f11 Q) noX (retK Try.prog Try.f11 Q)) noX) (retK Try.prog Try.f11 Q)) (blkX 1 (seqK Try.prog hoardlaw13_LirsOwn_kp idJ (cAt [true, true, true, true, false, true, false, false, true, true] (bodyOf Try.f11)) (lopK Try.prog hoardlaw13_LirsOwn_kp idJ (cAt [true, true, true, true, false, true, false, false] (bodyOf Try.f11)) (blkX 0 (seqK Try.prog hoardlaw13_LirsOwn_kp idJ (cAt [true, true, true, true, true] (bodyOf Try.f11)) (retK Try.prog Try.f11 Q) noX (retK Try.prog Try.f11 Q)) noX) (retK Try.prog Try.f11 Q) m1) (blkX 0 (seqK Try.prog hoardlaw13_LirsOwn_kp idJ (cAt [true, true, true, true, true] (bodyOf Try.f11)) (retK Try.prog Try.f11 Q) noX (retK Try.prog Try.f11 Q)) noX) (retK Try.prog Try.f11 Q)) (blkX 0 (seqK Try.prog hoardlaw13_LirsOwn_kp idJ (cAt [true, true, true, true, true] (bodyOf Try.f11)) (retK Try.prog Try.f11 Q) noX (retK Try.prog Try.f11 Q)) noX)) (retK Try.prog Try.f11 Q) (us 1 ((.slice l1.a l1.n l1.c) :: us 3 ((.pointer e5) :: (.pointer x6) :: (.int .i64 i7) :: us 1 ((.slice g9.a g9.n g9.c) :: us 65 [])))) := by kernel_rfl
theorem hoardlaw13_LirsOwn_l3_raw (jn : Jn) (Q : Value → WP) (m1 : Nat) (m3 : Nat) (l1 : Sl) (e5 : Option Addr) (x6 : Option Addr) (i7 : Int) (k8 : Sl) (g9 : Sl) (j10 : Int) : hoardlaw13_LirsOwn_l3 jn Q m1 (m3 + 1) l1 e5 x6 i7 k8 g9 j10 = (
  ite2 (decide (j10 < (k8.n : Int))) (
  idx k8.a k8.n j10 fun b_11 o_12 =>
  st b_11 (o_12 + (j10).toNat * 1) (.string str_spoilt) <|
  hoardlaw13_LirsOwn_l3 jn Q m1 m3 l1 e5 x6 i7 k8 g9 (IntKind.wrap .i64 (j10 + (1 : Int)))) (
  hoardlaw13_LirsOwn_j4 jn Q m1 l1 e5 x6 i7 g9)) := by kernel_rfl
theorem hoardlaw13_LirsOwn_l3_zero (jn : Jn) (Q : Value → WP) (m1 : Nat) (l1 : Sl) (e5 : Option Addr) (x6 : Option Addr) (i7 : Int) (k8 : Sl) (g9 : Sl) (j10 : Int) : hoardlaw13_LirsOwn_l3 jn Q m1 0 l1 e5 x6 i7 k8 g9 j10 = bot := by kernel_rfl
theorem hoardlaw13_LirsOwn_j2_raw (jn : Jn) (Q : Value → WP) (m1 : Nat) (l1 : Sl) (e5 : Option Addr) (x6 : Option Addr) (i7 : Int) : codeI Try.prog hoardlaw13_LirsOwn_kp jn (cAt [true, true, true, true, false, true, false, false, true] (bodyOf Try.f11)) (lopK Try.prog hoardlaw13_LirsOwn_kp jn (cAt [true, true, true, true, false, true, false, false] (bodyOf Try.f11)) (blkX 0 (seqK Try.prog hoardlaw13_LirsOwn_kp jn (cAt [true, true, true, true, true] (bodyOf Try.f11)) (retK Try.prog Try.f11 Q) noX (retK Try.prog Try.f11 Q)) noX) (retK Try.prog Try.f11 Q) m1) (blkX 0 (seqK Try.prog hoardlaw13_LirsOwn_kp jn (cAt [true, true, true, true, true] (bodyOf Try.f11)) (retK Try.prog Try.f11 Q) noX (retK Try.prog Try.f11 Q)) noX) (retK Try.prog Try.f11 Q) (us 1 ((.slice l1.a l1.n l1.c) :: us 3 ((.pointer e5) :: (.pointer x6) :: (.int .i64 i7) :: us 67 []))) = (
  idx l1.a l1.n i7 fun b_4 o_5 =>
  ld (.int .i64) b_4 (o_5 + (i7).toNat * 2) fun (x_6 : Int) =>
  ld .str b_4 ((o_5 + (i7).toNat * 2) + 1) fun (x_7 : ByteArray) =>
  call1 .bool Try.prog id_hoardlaw13_act [.pointer e5, .pointer x6, .agg #[.int .i64 x_6, .string x_7]] fun (x_8 : Bool) =>
  ite2 (!x_8) (
  Q (.bool false)) (
  call1 .slc Try.prog id_lirs_Engine_Keys [.pointer e5] fun (x_9 : Sl) =>
  call1 .slc Try.prog id_lirs_Engine_Ghosts [.pointer e5] fun (x_10 : Sl) =>
  exM fun m => hoardlaw13_LirsOwn_l3 jn Q m1 m l1 e5 x6 i7 x_9 x_10 (0 : Int))) := by kernel_rfl
theorem hoardlaw13_LirsOwn_j2_def (Q : Value → WP) (m1 : Nat) (l1 : Sl) (e5 : Option Addr) (x6 : Option Addr) (i7 : Int) : hoardlaw13_LirsOwn_j2 idJ Q m1 l1 e5 x6 i7 = codeI Try.prog hoardlaw13_LirsOwn_kp idJ (cAt [true, true, true, true, false, true, false, false, true] (bodyOf Try.f11)) (lopK Try.prog hoardlaw13_LirsOwn_kp idJ (cAt [true, true, true, true, false, true, false, false] (bodyOf Try.f11)) (blkX 0 (seqK Try.prog hoardlaw13_LirsOwn_kp idJ (cAt [true, true, true, true, true] (bodyOf Try.f11)) (retK Try.prog Try.f11 Q) noX (retK Try.prog Try.f11 Q)) noX) (retK Try.prog Try.f11 Q) m1) (blkX 0 (seqK Try.prog hoardlaw13_LirsOwn_kp idJ (cAt [true, true, true, true, true] (bodyOf Try.f11)) (retK Try.prog Try.f11 Q) noX (retK Try.prog Try.f11 Q)) noX) (retK Try.prog Try.f11 Q) (us 1 ((.slice l1.a l1.n l1.c) :: us 3 ((.pointer e5) :: (.pointer x6) :: (.int .i64 i7) :: us 67 []))) := by kernel_rfl
theorem hoardlaw13_LirsOwn_j7_raw (jn : Jn) (Q : Value → WP)  (e5 : Option Addr) (x6 : Option Addr) : codeI Try.prog hoardlaw13_LirsOwn_kp jn (cAt [true, true, true, true, true] (bodyOf Try.f11)) (retK Try.prog Try.f11 Q) noX (retK Try.prog Try.f11 Q) (us 5 ((.pointer e5) :: (.pointer x6) :: us 68 [])) = (
  call1 .str Try.prog id_lirs_Engine_State [.pointer e5] fun (x_15 : ByteArray) =>
  call1 .str Try.prog id_hoardref13_Engine_State [.pointer x6] fun (x_16 : ByteArray) =>
  ite2 (sEq x_15 x_16) (
  call1 .slc Try.prog id_lirs_Engine_Keys [.pointer e5] fun (x_17 : Sl) =>
  call1 .slc Try.prog id_hoardref13_Engine_Keys [.pointer x6] fun (x_18 : Sl) =>
  call1 .bool Try.prog id_hoardlaw13_texts [.slice x_17.a x_17.n x_17.c, .slice x_18.a x_18.n x_18.c] fun (x_19 : Bool) =>
  ite2 x_19 (
  call1 .bool Try.prog id_hoardlaw13_known [] fun (x_20 : Bool) =>
  Q (.bool x_20)) (
  Q (.bool false))) (
  Q (.bool false))) := by kernel_rfl
theorem hoardlaw13_LirsOwn_j7_def (Q : Value → WP)  (e5 : Option Addr) (x6 : Option Addr) : hoardlaw13_LirsOwn_j7 idJ Q  e5 x6 = codeI Try.prog hoardlaw13_LirsOwn_kp idJ (cAt [true, true, true, true, true] (bodyOf Try.f11)) (retK Try.prog Try.f11 Q) noX (retK Try.prog Try.f11 Q) (us 5 ((.pointer e5) :: (.pointer x6) :: us 68 [])) := by kernel_rfl
theorem hoardlaw13_LirsOwn_l1_raw (jn : Jn) (Q : Value → WP)  (m1 : Nat) (l1 : Sl) (e5 : Option Addr) (x6 : Option Addr) (i7 : Int) : hoardlaw13_LirsOwn_l1 jn Q  (m1 + 1) l1 e5 x6 i7 = (
  ite2 (decide (i7 < (l1.n : Int))) (
  ite2 (decide (i7 < (200 : Int))) (
  hoardlaw13_LirsOwn_j2 jn Q m1 l1 e5 x6 i7) (
  hoardlaw13_LirsOwn_j7 jn Q  e5 x6)) (
  hoardlaw13_LirsOwn_j7 jn Q  e5 x6)) := by kernel_rfl
theorem hoardlaw13_LirsOwn_l1_zero (jn : Jn) (Q : Value → WP)  (l1 : Sl) (e5 : Option Addr) (x6 : Option Addr) (i7 : Int) : hoardlaw13_LirsOwn_l1 jn Q  0 l1 e5 x6 i7 = bot := by kernel_rfl
theorem hoardlaw13_LirsOwn_raw (jn : Jn) (room0 : Int) (l1 : Sl) (Q : Value → WP) : funJ jn Try.prog hoardlaw13_LirsOwn_kp Try.f11 [.int .i64 room0, .slice l1.a l1.n l1.c] Q = (
  call1 .bool Try.prog id_hoardlaw13_heavy [.slice l1.a l1.n l1.c] fun (x_1 : Bool) =>
  ite2 x_1 (
  Q (.bool true)) (
  call1 .ptr Try.prog id_lirs_New [.int .i64 room0] fun (x_2 : Option Addr) =>
  call1 .ptr Try.prog id_hoardref13_New [.int .i64 room0] fun (x_3 : Option Addr) =>
  ite2 (Option.isNone x_2) (
  Q (.bool false)) (
  exM fun m => hoardlaw13_LirsOwn_l1 jn Q  m l1 x_2 x_3 (0 : Int)))) := by kernel_rfl
theorem hoardlaw13_LirsOwn_def (room0 : Int) (l1 : Sl) (Q : Value → WP) : hoardlaw13_LirsOwn room0 l1 Q = funJ idJ Try.prog hoardlaw13_LirsOwn_kp Try.f11 [.int .i64 room0, .slice l1.a l1.n l1.c] Q := rfl
theorem hoardlaw13_LirsOwn_calls {room0 : Int} {l1 : Sl} {Q : Value → WP} {w : World} (h : hoardlaw13_LirsOwn room0 l1 Q w) : Calls Try.prog id_hoardlaw13_LirsOwn #[.int .i64 room0, .slice l1.a l1.n l1.c] w fun e w' => ∃ v, e = .returned v ∧ Q v w' :=
  funJ_calls mixed Try.func11 rfl h

-- hoard/hoardlaw13.LirsPlays
def hoardlaw13_LirsPlays_kp : KP := ⟨[(17, [1, 5, 6, 7]), (20, [1, 5, 6, 7]), (24, [5, 6])], []⟩
def hoardlaw13_LirsPlays_j2 (jn : Jn) (Q : Value → WP) (m1 : Nat) (l1 : Sl) (e5 : Option Addr) (x6 : Option Addr) (i7 : Int) : WP := jn 20 (fun ρ => codeI Try.prog hoardlaw13_LirsPlays_kp jn (cAt [true, true, true, true, false, true, false, false, true] (bodyOf Try.f12)) (lopK Try.prog hoardlaw13_LirsPlays_kp jn (cAt [true, true, true, true, false, true, false, false] (bodyOf Try.f12)) (blkX 0 (seqK Try.prog hoardlaw13_LirsPlays_kp jn (cAt [true, true, true, true, true] (bodyOf Try.f12)) (retK Try.prog Try.f12 Q) noX (retK Try.prog Try.f12 Q)) noX) (retK Try.prog Try.f12 Q) m1) (blkX 0 (seqK Try.prog hoardlaw13_LirsPlays_kp jn (cAt [true, true, true, true, true] (bodyOf Try.f12)) (retK Try.prog Try.f12 Q) noX (retK Try.prog Try.f12 Q)) noX) (retK Try.prog Try.f12 Q) ρ) (us 1 ((.slice l1.a l1.n l1.c) :: us 3 ((.pointer e5) :: (.pointer x6) :: (.int .i64 i7) :: us 62 [])))
def hoardlaw13_LirsPlays_j3 (jn : Jn) (Q : Value → WP)  (e5 : Option Addr) (x6 : Option Addr) : WP := jn 24 (fun ρ => codeI Try.prog hoardlaw13_LirsPlays_kp jn (cAt [true, true, true, true, true] (bodyOf Try.f12)) (retK Try.prog Try.f12 Q) noX (retK Try.prog Try.f12 Q) ρ) (us 5 ((.pointer e5) :: (.pointer x6) :: us 63 []))
def hoardlaw13_LirsPlays_l1 (jn : Jn) (Q : Value → WP)  (m1 : Nat) (l1 : Sl) (e5 : Option Addr) (x6 : Option Addr) (i7 : Int) : WP := lop Try.prog hoardlaw13_LirsPlays_kp jn (cAt [true, true, true, true, false, true, false, false] (bodyOf Try.f12)) (blkX 0 (seqK Try.prog hoardlaw13_LirsPlays_kp jn (cAt [true, true, true, true, true] (bodyOf Try.f12)) (retK Try.prog Try.f12 Q) noX (retK Try.prog Try.f12 Q)) noX) (retK Try.prog Try.f12 Q) m1 (us 1 ((.slice l1.a l1.n l1.c) :: us 3 ((.pointer e5) :: (.pointer x6) :: (.int .i64 i7) :: us 62 [])))
def hoardlaw13_LirsPlays (room0 : Int) (l1 : Sl) (Q : Value → WP) : WP := funJ idJ Try.prog hoardlaw13_LirsPlays_kp Try.f12 [.int .i64 room0, .slice l1.a l1.n l1.c] Q
theorem hoardlaw13_LirsPlays_j2_raw (jn : Jn) (Q : Value → WP) (m1 : Nat) (l1 : Sl) (e5 : Option Addr) (x6 : Option Addr) (i7 : Int) : codeI Try.prog hoardlaw13_LirsPlays_kp jn (cAt [true, true, true, true, false, true, false, false, true] (bodyOf Try.f12)) (lopK Try.prog hoardlaw13_LirsPlays_kp jn (cAt [true, true, true, true, false, true, false, false] (bodyOf Try.f12)) (blkX 0 (seqK Try.prog hoardlaw13_LirsPlays_kp jn (cAt [true, true, true, true, true] (bodyOf Try.f12)) (retK Try.prog Try.f12 Q) noX (retK Try.prog Try.f12 Q)) noX) (retK Try.prog Try.f12 Q) m1) (blkX 0 (seqK Try.prog hoardlaw13_LirsPlays_kp jn (cAt [true, true, true, true, true] (bodyOf Try.f12)) (retK Try.prog Try.f12 Q) noX (retK Try.prog Try.f12 Q)) noX) (retK Try.prog Try.f12 Q) (us 1 ((.slice l1.a l1.n l1.c) :: us 3 ((.pointer e5) :: (.pointer x6) :: (.int .i64 i7) :: us 62 []))) = (
  idx l1.a l1.n i7 fun b_4 o_5 =>
  ld (.int .i64) b_4 (o_5 + (i7).toNat * 2) fun (x_6 : Int) =>
  ld .str b_4 ((o_5 + (i7).toNat * 2) + 1) fun (x_7 : ByteArray) =>
  call1 .bool Try.prog id_hoardlaw13_act [.pointer e5, .pointer x6, .agg #[.int .i64 x_6, .string x_7]] fun (x_8 : Bool) =>
  ite2 (!x_8) (
  Q (.bool false)) (
  call1 .str Try.prog id_lirs_Engine_State [.pointer e5] fun (x_9 : ByteArray) =>
  call1 .str Try.prog id_hoardref13_Engine_State [.pointer x6] fun (x_10 : ByteArray) =>
  ite2 (!sEq x_9 x_10) (
  Q (.bool false)) (
  call1 (.int .i64) Try.prog id_lirs_Engine_Len [.pointer e5] fun (x_11 : Int) =>
  call1 (.int .i64) Try.prog id_hoardref13_Engine_Len [.pointer x6] fun (x_12 : Int) =>
  ite2 (x_11 != x_12) (
  Q (.bool false)) (
  hoardlaw13_LirsPlays_l1 jn Q  m1 l1 e5 x6 (IntKind.wrap .i64 (i7 + (1 : Int))))))) := by kernel_rfl
theorem hoardlaw13_LirsPlays_j2_def (Q : Value → WP) (m1 : Nat) (l1 : Sl) (e5 : Option Addr) (x6 : Option Addr) (i7 : Int) : hoardlaw13_LirsPlays_j2 idJ Q m1 l1 e5 x6 i7 = codeI Try.prog hoardlaw13_LirsPlays_kp idJ (cAt [true, true, true, true, false, true, false, false, true] (bodyOf Try.f12)) (lopK Try.prog hoardlaw13_LirsPlays_kp idJ (cAt [true, true, true, true, false, true, false, false] (bodyOf Try.f12)) (blkX 0 (seqK Try.prog hoardlaw13_LirsPlays_kp idJ (cAt [true, true, true, true, true] (bodyOf Try.f12)) (retK Try.prog Try.f12 Q) noX (retK Try.prog Try.f12 Q)) noX) (retK Try.prog Try.f12 Q) m1) (blkX 0 (seqK Try.prog hoardlaw13_LirsPlays_kp idJ (cAt [true, true, true, true, true] (bodyOf Try.f12)) (retK Try.prog Try.f12 Q) noX (retK Try.prog Try.f12 Q)) noX) (retK Try.prog Try.f12 Q) (us 1 ((.slice l1.a l1.n l1.c) :: us 3 ((.pointer e5) :: (.pointer x6) :: (.int .i64 i7) :: us 62 []))) := by kernel_rfl
theorem hoardlaw13_LirsPlays_j3_raw (jn : Jn) (Q : Value → WP)  (e5 : Option Addr) (x6 : Option Addr) : codeI Try.prog hoardlaw13_LirsPlays_kp jn (cAt [true, true, true, true, true] (bodyOf Try.f12)) (retK Try.prog Try.f12 Q) noX (retK Try.prog Try.f12 Q) (us 5 ((.pointer e5) :: (.pointer x6) :: us 63 [])) = (
  call1 .slc Try.prog id_lirs_Engine_Keys [.pointer e5] fun (x_13 : Sl) =>
  call1 .slc Try.prog id_hoardref13_Engine_Keys [.pointer x6] fun (x_14 : Sl) =>
  call1 .bool Try.prog id_hoardlaw13_texts [.slice x_13.a x_13.n x_13.c, .slice x_14.a x_14.n x_14.c] fun (x_15 : Bool) =>
  ite2 x_15 (
  call1 .slc Try.prog id_lirs_Engine_Ghosts [.pointer e5] fun (x_16 : Sl) =>
  call1 .slc Try.prog id_hoardref13_Engine_Ghosts [.pointer x6] fun (x_17 : Sl) =>
  call1 .bool Try.prog id_hoardlaw13_texts [.slice x_16.a x_16.n x_16.c, .slice x_17.a x_17.n x_17.c] fun (x_18 : Bool) =>
  ite2 x_18 (
  call1 (.int .i64) Try.prog id_lirs_Engine_Room [.pointer e5] fun (x_19 : Int) =>
  call1 (.int .i64) Try.prog id_hoardref13_Engine_Room [.pointer x6] fun (x_20 : Int) =>
  ite2 (x_19 == x_20) (
  call1 .bool Try.prog id_hoardlaw13_known [] fun (x_21 : Bool) =>
  Q (.bool x_21)) (
  Q (.bool false))) (
  Q (.bool false))) (
  Q (.bool false))) := by kernel_rfl
theorem hoardlaw13_LirsPlays_j3_def (Q : Value → WP)  (e5 : Option Addr) (x6 : Option Addr) : hoardlaw13_LirsPlays_j3 idJ Q  e5 x6 = codeI Try.prog hoardlaw13_LirsPlays_kp idJ (cAt [true, true, true, true, true] (bodyOf Try.f12)) (retK Try.prog Try.f12 Q) noX (retK Try.prog Try.f12 Q) (us 5 ((.pointer e5) :: (.pointer x6) :: us 63 [])) := by kernel_rfl
theorem hoardlaw13_LirsPlays_l1_raw (jn : Jn) (Q : Value → WP)  (m1 : Nat) (l1 : Sl) (e5 : Option Addr) (x6 : Option Addr) (i7 : Int) : hoardlaw13_LirsPlays_l1 jn Q  (m1 + 1) l1 e5 x6 i7 = (
  ite2 (decide (i7 < (l1.n : Int))) (
  ite2 (decide (i7 < (200 : Int))) (
  hoardlaw13_LirsPlays_j2 jn Q m1 l1 e5 x6 i7) (
  hoardlaw13_LirsPlays_j3 jn Q  e5 x6)) (
  hoardlaw13_LirsPlays_j3 jn Q  e5 x6)) := by kernel_rfl
theorem hoardlaw13_LirsPlays_l1_zero (jn : Jn) (Q : Value → WP)  (l1 : Sl) (e5 : Option Addr) (x6 : Option Addr) (i7 : Int) : hoardlaw13_LirsPlays_l1 jn Q  0 l1 e5 x6 i7 = bot := by kernel_rfl
theorem hoardlaw13_LirsPlays_raw (jn : Jn) (room0 : Int) (l1 : Sl) (Q : Value → WP) : funJ jn Try.prog hoardlaw13_LirsPlays_kp Try.f12 [.int .i64 room0, .slice l1.a l1.n l1.c] Q = (
  call1 .bool Try.prog id_hoardlaw13_heavy [.slice l1.a l1.n l1.c] fun (x_1 : Bool) =>
  ite2 x_1 (
  Q (.bool true)) (
  call1 .ptr Try.prog id_lirs_New [.int .i64 room0] fun (x_2 : Option Addr) =>
  call1 .ptr Try.prog id_hoardref13_New [.int .i64 room0] fun (x_3 : Option Addr) =>
  ite2 (Option.isNone x_2) (
  Q (.bool false)) (
  exM fun m => hoardlaw13_LirsPlays_l1 jn Q  m l1 x_2 x_3 (0 : Int)))) := by kernel_rfl
theorem hoardlaw13_LirsPlays_def (room0 : Int) (l1 : Sl) (Q : Value → WP) : hoardlaw13_LirsPlays room0 l1 Q = funJ idJ Try.prog hoardlaw13_LirsPlays_kp Try.f12 [.int .i64 room0, .slice l1.a l1.n l1.c] Q := rfl
theorem hoardlaw13_LirsPlays_calls {room0 : Int} {l1 : Sl} {Q : Value → WP} {w : World} (h : hoardlaw13_LirsPlays room0 l1 Q w) : Calls Try.prog id_hoardlaw13_LirsPlays #[.int .i64 room0, .slice l1.a l1.n l1.c] w fun e w' => ∃ v, e = .returned v ∧ Q v w' :=
  funJ_calls mixed Try.func12 rfl h

-- hoard/hoardlaw13.LirsBounds
def hoardlaw13_LirsBounds_kp : KP := ⟨[(17, [1, 5, 6, 7]), (20, [1, 5, 6, 7]), (26, [])], []⟩
def hoardlaw13_LirsBounds_j2 (jn : Jn) (Q : Value → WP) (m1 : Nat) (l1 : Sl) (e5 : Option Addr) (x6 : Option Addr) (i7 : Int) : WP := jn 20 (fun ρ => codeI Try.prog hoardlaw13_LirsBounds_kp jn (cAt [true, true, true, true, false, true, false, false, true] (bodyOf Try.f13)) (lopK Try.prog hoardlaw13_LirsBounds_kp jn (cAt [true, true, true, true, false, true, false, false] (bodyOf Try.f13)) (blkX 0 (seqK Try.prog hoardlaw13_LirsBounds_kp jn (cAt [true, true, true, true, true] (bodyOf Try.f13)) (retK Try.prog Try.f13 Q) noX (retK Try.prog Try.f13 Q)) noX) (retK Try.prog Try.f13 Q) m1) (blkX 0 (seqK Try.prog hoardlaw13_LirsBounds_kp jn (cAt [true, true, true, true, true] (bodyOf Try.f13)) (retK Try.prog Try.f13 Q) noX (retK Try.prog Try.f13 Q)) noX) (retK Try.prog Try.f13 Q) ρ) (us 1 ((.slice l1.a l1.n l1.c) :: us 3 ((.pointer e5) :: (.pointer x6) :: (.int .i64 i7) :: us 44 [])))
def hoardlaw13_LirsBounds_j3 (jn : Jn) (Q : Value → WP)   : WP := jn 26 (fun ρ => codeI Try.prog hoardlaw13_LirsBounds_kp jn (cAt [true, true, true, true, true] (bodyOf Try.f13)) (retK Try.prog Try.f13 Q) noX (retK Try.prog Try.f13 Q) ρ) (us 52 [])
def hoardlaw13_LirsBounds_l1 (jn : Jn) (Q : Value → WP)  (m1 : Nat) (l1 : Sl) (e5 : Option Addr) (x6 : Option Addr) (i7 : Int) : WP := lop Try.prog hoardlaw13_LirsBounds_kp jn (cAt [true, true, true, true, false, true, false, false] (bodyOf Try.f13)) (blkX 0 (seqK Try.prog hoardlaw13_LirsBounds_kp jn (cAt [true, true, true, true, true] (bodyOf Try.f13)) (retK Try.prog Try.f13 Q) noX (retK Try.prog Try.f13 Q)) noX) (retK Try.prog Try.f13 Q) m1 (us 1 ((.slice l1.a l1.n l1.c) :: us 3 ((.pointer e5) :: (.pointer x6) :: (.int .i64 i7) :: us 44 [])))
def hoardlaw13_LirsBounds (room0 : Int) (l1 : Sl) (Q : Value → WP) : WP := funJ idJ Try.prog hoardlaw13_LirsBounds_kp Try.f13 [.int .i64 room0, .slice l1.a l1.n l1.c] Q
theorem hoardlaw13_LirsBounds_j2_raw (jn : Jn) (Q : Value → WP) (m1 : Nat) (l1 : Sl) (e5 : Option Addr) (x6 : Option Addr) (i7 : Int) : codeI Try.prog hoardlaw13_LirsBounds_kp jn (cAt [true, true, true, true, false, true, false, false, true] (bodyOf Try.f13)) (lopK Try.prog hoardlaw13_LirsBounds_kp jn (cAt [true, true, true, true, false, true, false, false] (bodyOf Try.f13)) (blkX 0 (seqK Try.prog hoardlaw13_LirsBounds_kp jn (cAt [true, true, true, true, true] (bodyOf Try.f13)) (retK Try.prog Try.f13 Q) noX (retK Try.prog Try.f13 Q)) noX) (retK Try.prog Try.f13 Q) m1) (blkX 0 (seqK Try.prog hoardlaw13_LirsBounds_kp jn (cAt [true, true, true, true, true] (bodyOf Try.f13)) (retK Try.prog Try.f13 Q) noX (retK Try.prog Try.f13 Q)) noX) (retK Try.prog Try.f13 Q) (us 1 ((.slice l1.a l1.n l1.c) :: us 3 ((.pointer e5) :: (.pointer x6) :: (.int .i64 i7) :: us 44 []))) = (
  idx l1.a l1.n i7 fun b_4 o_5 =>
  ld (.int .i64) b_4 (o_5 + (i7).toNat * 2) fun (x_6 : Int) =>
  ld .str b_4 ((o_5 + (i7).toNat * 2) + 1) fun (x_7 : ByteArray) =>
  call1 .bool Try.prog id_hoardlaw13_act [.pointer e5, .pointer x6, .agg #[.int .i64 x_6, .string x_7]] fun (x_8 : Bool) =>
  call1 (.int .i64) Try.prog id_lirs_Engine_Len [.pointer e5] fun (x_9 : Int) =>
  call1 (.int .i64) Try.prog id_lirs_Engine_Room [.pointer e5] fun (x_10 : Int) =>
  ite2 (decide (x_9 > x_10)) (
  Q (.bool false)) (
  call1 .slc Try.prog id_lirs_Engine_Keys [.pointer e5] fun (x_11 : Sl) =>
  call1 (.int .i64) Try.prog id_lirs_Engine_Len [.pointer e5] fun (x_12 : Int) =>
  ite2 ((x_11.n : Int) != x_12) (
  Q (.bool false)) (
  call1 .bool Try.prog id_hoardlaw13_bounded [.pointer e5] fun (x_13 : Bool) =>
  ite2 (!x_13) (
  Q (.bool false)) (
  hoardlaw13_LirsBounds_l1 jn Q  m1 l1 e5 x6 (IntKind.wrap .i64 (i7 + (1 : Int))))))) := by kernel_rfl
theorem hoardlaw13_LirsBounds_j2_def (Q : Value → WP) (m1 : Nat) (l1 : Sl) (e5 : Option Addr) (x6 : Option Addr) (i7 : Int) : hoardlaw13_LirsBounds_j2 idJ Q m1 l1 e5 x6 i7 = codeI Try.prog hoardlaw13_LirsBounds_kp idJ (cAt [true, true, true, true, false, true, false, false, true] (bodyOf Try.f13)) (lopK Try.prog hoardlaw13_LirsBounds_kp idJ (cAt [true, true, true, true, false, true, false, false] (bodyOf Try.f13)) (blkX 0 (seqK Try.prog hoardlaw13_LirsBounds_kp idJ (cAt [true, true, true, true, true] (bodyOf Try.f13)) (retK Try.prog Try.f13 Q) noX (retK Try.prog Try.f13 Q)) noX) (retK Try.prog Try.f13 Q) m1) (blkX 0 (seqK Try.prog hoardlaw13_LirsBounds_kp idJ (cAt [true, true, true, true, true] (bodyOf Try.f13)) (retK Try.prog Try.f13 Q) noX (retK Try.prog Try.f13 Q)) noX) (retK Try.prog Try.f13 Q) (us 1 ((.slice l1.a l1.n l1.c) :: us 3 ((.pointer e5) :: (.pointer x6) :: (.int .i64 i7) :: us 44 []))) := by kernel_rfl
theorem hoardlaw13_LirsBounds_j3_raw (jn : Jn) (Q : Value → WP)   : codeI Try.prog hoardlaw13_LirsBounds_kp jn (cAt [true, true, true, true, true] (bodyOf Try.f13)) (retK Try.prog Try.f13 Q) noX (retK Try.prog Try.f13 Q) (us 52 []) = (
  call1 .bool Try.prog id_hoardlaw13_known [] fun (x_14 : Bool) =>
  Q (.bool x_14)) := by kernel_rfl
theorem hoardlaw13_LirsBounds_j3_def (Q : Value → WP)   : hoardlaw13_LirsBounds_j3 idJ Q   = codeI Try.prog hoardlaw13_LirsBounds_kp idJ (cAt [true, true, true, true, true] (bodyOf Try.f13)) (retK Try.prog Try.f13 Q) noX (retK Try.prog Try.f13 Q) (us 52 []) := by kernel_rfl
theorem hoardlaw13_LirsBounds_l1_raw (jn : Jn) (Q : Value → WP)  (m1 : Nat) (l1 : Sl) (e5 : Option Addr) (x6 : Option Addr) (i7 : Int) : hoardlaw13_LirsBounds_l1 jn Q  (m1 + 1) l1 e5 x6 i7 = (
  ite2 (decide (i7 < (l1.n : Int))) (
  ite2 (decide (i7 < (200 : Int))) (
  hoardlaw13_LirsBounds_j2 jn Q m1 l1 e5 x6 i7) (
  hoardlaw13_LirsBounds_j3 jn Q  )) (
  hoardlaw13_LirsBounds_j3 jn Q  )) := by kernel_rfl
theorem hoardlaw13_LirsBounds_l1_zero (jn : Jn) (Q : Value → WP)  (l1 : Sl) (e5 : Option Addr) (x6 : Option Addr) (i7 : Int) : hoardlaw13_LirsBounds_l1 jn Q  0 l1 e5 x6 i7 = bot := by kernel_rfl
theorem hoardlaw13_LirsBounds_raw (jn : Jn) (room0 : Int) (l1 : Sl) (Q : Value → WP) : funJ jn Try.prog hoardlaw13_LirsBounds_kp Try.f13 [.int .i64 room0, .slice l1.a l1.n l1.c] Q = (
  call1 .bool Try.prog id_hoardlaw13_heavy [.slice l1.a l1.n l1.c] fun (x_1 : Bool) =>
  ite2 x_1 (
  Q (.bool true)) (
  call1 .ptr Try.prog id_lirs_New [.int .i64 room0] fun (x_2 : Option Addr) =>
  call1 .ptr Try.prog id_hoardref13_New [.int .i64 room0] fun (x_3 : Option Addr) =>
  ite2 (Option.isNone x_2) (
  Q (.bool false)) (
  exM fun m => hoardlaw13_LirsBounds_l1 jn Q  m l1 x_2 x_3 (0 : Int)))) := by kernel_rfl
theorem hoardlaw13_LirsBounds_def (room0 : Int) (l1 : Sl) (Q : Value → WP) : hoardlaw13_LirsBounds room0 l1 Q = funJ idJ Try.prog hoardlaw13_LirsBounds_kp Try.f13 [.int .i64 room0, .slice l1.a l1.n l1.c] Q := rfl
theorem hoardlaw13_LirsBounds_calls {room0 : Int} {l1 : Sl} {Q : Value → WP} {w : World} (h : hoardlaw13_LirsBounds room0 l1 Q w) : Calls Try.prog id_hoardlaw13_LirsBounds #[.int .i64 room0, .slice l1.a l1.n l1.c] w fun e w' => ∃ v, e = .returned v ∧ Q v w' :=
  funJ_calls mixed Try.func13 rfl h

-- hoard/hoardlaw13.LirsOfNothing
def hoardlaw13_LirsOfNothing_kp : KP := ⟨[], []⟩
def hoardlaw13_LirsOfNothing (key0 : ByteArray) (Q : Value → WP) : WP := funJ idJ Try.prog hoardlaw13_LirsOfNothing_kp Try.f14 [.string key0] Q
theorem hoardlaw13_LirsOfNothing_raw (jn : Jn) (key0 : ByteArray) (Q : Value → WP) : funJ jn Try.prog hoardlaw13_LirsOfNothing_kp Try.f14 [.string key0] Q = (
  ite2 (decide ((key0.size : Int) > (40 : Int))) (
  Q (.bool true)) (
  call2 .bool .slc Try.prog id_lirs_Engine_Access [.pointer (none : Option Addr), .string key0] fun (x_1 : Bool) (x_2 : Sl) =>
  call2 .str .bool Try.prog id_lirs_Engine_Evict [.pointer (none : Option Addr)] fun (x_3 : ByteArray) (x_4 : Bool) =>
  ite2 (!x_1) (
  ite2 ((x_2.n : Int) == (0 : Int)) (
  call1 .bool Try.prog id_lirs_Engine_Load [.pointer (none : Option Addr), .string key0] fun (x_5 : Bool) =>
  ite2 (!x_5) (
  call1 .bool Try.prog id_lirs_Engine_Remove [.pointer (none : Option Addr), .string key0] fun (x_6 : Bool) =>
  ite2 (!x_6) (
  ite2 (sEq x_3 str_empty) (
  ite2 (!x_4) (
  call1 .bool Try.prog id_lirs_Engine_Has [.pointer (none : Option Addr), .string key0] fun (x_7 : Bool) =>
  ite2 (!x_7) (
  call1 .slc Try.prog id_lirs_Engine_Keys [.pointer (none : Option Addr)] fun (x_8 : Sl) =>
  ite2 ((x_8.n : Int) == (0 : Int)) (
  call1 .slc Try.prog id_lirs_Engine_Ghosts [.pointer (none : Option Addr)] fun (x_9 : Sl) =>
  ite2 ((x_9.n : Int) == (0 : Int)) (
  call1 .str Try.prog id_lirs_Engine_State [.pointer (none : Option Addr)] fun (x_10 : ByteArray) =>
  ite2 (sEq x_10 str_empty) (
  call1 (.int .i64) Try.prog id_lirs_Engine_Len [.pointer (none : Option Addr)] fun (x_11 : Int) =>
  ite2 (x_11 == (0 : Int)) (
  call1 (.int .i64) Try.prog id_lirs_Engine_Room [.pointer (none : Option Addr)] fun (x_12 : Int) =>
  ite2 (x_12 == (0 : Int)) (
  call1 .bool Try.prog id_hoardlaw13_known [] fun (x_13 : Bool) =>
  Q (.bool x_13)) (
  Q (.bool false))) (
  Q (.bool false))) (
  Q (.bool false))) (
  Q (.bool false))) (
  Q (.bool false))) (
  Q (.bool false))) (
  Q (.bool false))) (
  Q (.bool false))) (
  Q (.bool false))) (
  Q (.bool false))) (
  Q (.bool false))) (
  Q (.bool false)))) := by kernel_rfl
theorem hoardlaw13_LirsOfNothing_def (key0 : ByteArray) (Q : Value → WP) : hoardlaw13_LirsOfNothing key0 Q = funJ idJ Try.prog hoardlaw13_LirsOfNothing_kp Try.f14 [.string key0] Q := rfl
theorem hoardlaw13_LirsOfNothing_calls {key0 : ByteArray} {Q : Value → WP} {w : World} (h : hoardlaw13_LirsOfNothing key0 Q w) : Calls Try.prog id_hoardlaw13_LirsOfNothing #[.string key0] w fun e w' => ∃ v, e = .returned v ∧ Q v w' :=
  funJ_calls mixed Try.func14 rfl h

-- hoard/hoardlaw13.long
def hoardlaw13_long_kp : KP := ⟨[(11, [0, 3]), (18, [])], []⟩
def hoardlaw13_long_j2 (jn : Jn) (Q : Value → WP)   : WP := jn 18 (fun ρ => codeI Try.prog hoardlaw13_long_kp jn (cAt [true, true, true] (bodyOf Try.f15)) (retK Try.prog Try.f15 Q) noX (retK Try.prog Try.f15 Q) ρ) (us 19 [])
def hoardlaw13_long_l1 (jn : Jn) (Q : Value → WP)  (m1 : Nat) (l0 : Sl) (i3 : Int) : WP := lop Try.prog hoardlaw13_long_kp jn (cAt [true, true, false, true, false, false] (bodyOf Try.f15)) (blkX 0 (seqK Try.prog hoardlaw13_long_kp jn (cAt [true, true, true] (bodyOf Try.f15)) (retK Try.prog Try.f15 Q) noX (retK Try.prog Try.f15 Q)) noX) (retK Try.prog Try.f15 Q) m1 ((.slice l0.a l0.n l0.c) :: us 2 ((.int .i64 i3) :: us 15 []))
def hoardlaw13_long (l0 : Sl) (Q : Value → WP) : WP := funJ idJ Try.prog hoardlaw13_long_kp Try.f15 [.slice l0.a l0.n l0.c] Q
theorem hoardlaw13_long_j2_raw (jn : Jn) (Q : Value → WP)   : codeI Try.prog hoardlaw13_long_kp jn (cAt [true, true, true] (bodyOf Try.f15)) (retK Try.prog Try.f15 Q) noX (retK Try.prog Try.f15 Q) (us 19 []) = (
  Q (.bool false)) := by kernel_rfl
theorem hoardlaw13_long_j2_def (Q : Value → WP)   : hoardlaw13_long_j2 idJ Q   = codeI Try.prog hoardlaw13_long_kp idJ (cAt [true, true, true] (bodyOf Try.f15)) (retK Try.prog Try.f15 Q) noX (retK Try.prog Try.f15 Q) (us 19 []) := by kernel_rfl
theorem hoardlaw13_long_l1_raw (jn : Jn) (Q : Value → WP)  (m1 : Nat) (l0 : Sl) (i3 : Int) : hoardlaw13_long_l1 jn Q  (m1 + 1) l0 i3 = (
  ite2 (decide (i3 < (l0.n : Int))) (
  idx l0.a l0.n i3 fun b_1 o_2 =>
  ld .str b_1 (o_2 + (i3).toNat * 1) fun (x_3 : ByteArray) =>
  ite2 (decide ((x_3.size : Int) > (40 : Int))) (
  Q (.bool true)) (
  hoardlaw13_long_l1 jn Q  m1 l0 (IntKind.wrap .i64 (i3 + (1 : Int))))) (
  hoardlaw13_long_j2 jn Q  )) := by kernel_rfl
theorem hoardlaw13_long_l1_zero (jn : Jn) (Q : Value → WP)  (l0 : Sl) (i3 : Int) : hoardlaw13_long_l1 jn Q  0 l0 i3 = bot := by kernel_rfl
theorem hoardlaw13_long_raw (jn : Jn) (l0 : Sl) (Q : Value → WP) : funJ jn Try.prog hoardlaw13_long_kp Try.f15 [.slice l0.a l0.n l0.c] Q = (
  ite2 (decide ((l0.n : Int) > (200 : Int))) (
  Q (.bool true)) (
  exM fun m => hoardlaw13_long_l1 jn Q  m l0 (0 : Int))) := by kernel_rfl
theorem hoardlaw13_long_def (l0 : Sl) (Q : Value → WP) : hoardlaw13_long l0 Q = funJ idJ Try.prog hoardlaw13_long_kp Try.f15 [.slice l0.a l0.n l0.c] Q := rfl
theorem hoardlaw13_long_calls {l0 : Sl} {Q : Value → WP} {w : World} (h : hoardlaw13_long l0 Q w) : Calls Try.prog id_hoardlaw13_long #[.slice l0.a l0.n l0.c] w fun e w' => ∃ v, e = .returned v ∧ Q v w' :=
  funJ_calls mixed Try.func15 rfl h

-- hoard/lirs.New
def lirs_New_kp : KP := ⟨[], []⟩
def lirs_New (room0 : Int) (Q : Value → WP) : WP := funJ idJ Try.prog lirs_New_kp Try.f16 [.int .i64 room0] Q
theorem lirs_New_raw (jn : Jn) (room0 : Int) (Q : Value → WP) : funJ jn Try.prog lirs_New_kp Try.f16 [.int .i64 room0] Q = (
  when ((10 : Int) ≠ 0) <|
  call1 .ptr Try.prog id_list_New_string [] fun (x_1 : Option Addr) =>
  call1 .ptr Try.prog id_list_New_string [] fun (x_2 : Option Addr) =>
  call1 .ptr Try.prog id_index_New_lirs_entry [.int .u64 (0 : Int)] fun (x_3 : Option Addr) =>
  newB [.int .i64 (if (if (1024 : Int) < room0 then (1024 : Int) else room0) > (1 : Int) then (if (1024 : Int) < room0 then (1024 : Int) else room0) else (1 : Int)), .int .i64 (IntKind.wrap .i64 ((if (if (1024 : Int) < room0 then (1024 : Int) else room0) > (1 : Int) then (if (1024 : Int) < room0 then (1024 : Int) else room0) else (1 : Int)) - (if (IntKind.wrap .i64 (Int.tdiv (if (if (1024 : Int) < room0 then (1024 : Int) else room0) > (1 : Int) then (if (1024 : Int) < room0 then (1024 : Int) else room0) else (1 : Int)) (10 : Int))) > (1 : Int) then (IntKind.wrap .i64 (Int.tdiv (if (if (1024 : Int) < room0 then (1024 : Int) else room0) > (1 : Int) then (if (1024 : Int) < room0 then (1024 : Int) else room0) else (1 : Int)) (10 : Int))) else (1 : Int)))), .pointer x_1, .pointer x_2, .pointer x_3, .int .i64 (0 : Int), .int .i64 (0 : Int)] ty_lirs_Engine fun b_4 =>
  Q (.pointer (some ⟨b_4, 0, none⟩))) := by kernel_rfl
theorem lirs_New_def (room0 : Int) (Q : Value → WP) : lirs_New room0 Q = funJ idJ Try.prog lirs_New_kp Try.f16 [.int .i64 room0] Q := rfl
theorem lirs_New_calls {room0 : Int} {Q : Value → WP} {w : World} (h : lirs_New room0 Q w) : Calls Try.prog id_lirs_New #[.int .i64 room0] w fun e w' => ∃ v, e = .returned v ∧ Q v w' :=
  funJ_calls mixed Try.func16 rfl h

-- hoard/hoardlaw13.has
def hoardlaw13_has_kp : KP := ⟨[(7, [0, 1, 5]), (14, [])], []⟩
def hoardlaw13_has_j2 (jn : Jn) (Q : Value → WP)   : WP := jn 14 (fun ρ => codeI Try.prog hoardlaw13_has_kp jn (cAt [true, true] (bodyOf Try.f17)) (retK Try.prog Try.f17 Q) noX (retK Try.prog Try.f17 Q) ρ) (us 18 [])
def hoardlaw13_has_l1 (jn : Jn) (Q : Value → WP)  (m1 : Nat) (l0 : Sl) (key1 : ByteArray) (i5 : Int) : WP := lop Try.prog hoardlaw13_has_kp jn (cAt [true, false, true, false, false] (bodyOf Try.f17)) (blkX 0 (seqK Try.prog hoardlaw13_has_kp jn (cAt [true, true] (bodyOf Try.f17)) (retK Try.prog Try.f17 Q) noX (retK Try.prog Try.f17 Q)) noX) (retK Try.prog Try.f17 Q) m1 ((.slice l0.a l0.n l0.c) :: (.string key1) :: us 3 ((.int .i64 i5) :: us 12 []))
def hoardlaw13_has (l0 : Sl) (key1 : ByteArray) (Q : Value → WP) : WP := funJ idJ Try.prog hoardlaw13_has_kp Try.f17 [.slice l0.a l0.n l0.c, .string key1] Q
theorem hoardlaw13_has_j2_raw (jn : Jn) (Q : Value → WP)   : codeI Try.prog hoardlaw13_has_kp jn (cAt [true, true] (bodyOf Try.f17)) (retK Try.prog Try.f17 Q) noX (retK Try.prog Try.f17 Q) (us 18 []) = (
  Q (.bool false)) := by kernel_rfl
theorem hoardlaw13_has_j2_def (Q : Value → WP)   : hoardlaw13_has_j2 idJ Q   = codeI Try.prog hoardlaw13_has_kp idJ (cAt [true, true] (bodyOf Try.f17)) (retK Try.prog Try.f17 Q) noX (retK Try.prog Try.f17 Q) (us 18 []) := by kernel_rfl
theorem hoardlaw13_has_l1_raw (jn : Jn) (Q : Value → WP)  (m1 : Nat) (l0 : Sl) (key1 : ByteArray) (i5 : Int) : hoardlaw13_has_l1 jn Q  (m1 + 1) l0 key1 i5 = (
  ite2 (decide (i5 < (l0.n : Int))) (
  idx l0.a l0.n i5 fun b_1 o_2 =>
  ld .str b_1 (o_2 + (i5).toNat * 1) fun (x_3 : ByteArray) =>
  ite2 (sEq x_3 key1) (
  Q (.bool true)) (
  hoardlaw13_has_l1 jn Q  m1 l0 key1 (IntKind.wrap .i64 (i5 + (1 : Int))))) (
  hoardlaw13_has_j2 jn Q  )) := by kernel_rfl
theorem hoardlaw13_has_l1_zero (jn : Jn) (Q : Value → WP)  (l0 : Sl) (key1 : ByteArray) (i5 : Int) : hoardlaw13_has_l1 jn Q  0 l0 key1 i5 = bot := by kernel_rfl
theorem hoardlaw13_has_raw (jn : Jn) (l0 : Sl) (key1 : ByteArray) (Q : Value → WP) : funJ jn Try.prog hoardlaw13_has_kp Try.f17 [.slice l0.a l0.n l0.c, .string key1] Q = (
  exM fun m => hoardlaw13_has_l1 jn Q  m l0 key1 (0 : Int)) := by kernel_rfl
theorem hoardlaw13_has_def (l0 : Sl) (key1 : ByteArray) (Q : Value → WP) : hoardlaw13_has l0 key1 Q = funJ idJ Try.prog hoardlaw13_has_kp Try.f17 [.slice l0.a l0.n l0.c, .string key1] Q := rfl
theorem hoardlaw13_has_calls {l0 : Sl} {key1 : ByteArray} {Q : Value → WP} {w : World} (h : hoardlaw13_has l0 key1 Q w) : Calls Try.prog id_hoardlaw13_has #[.slice l0.a l0.n l0.c, .string key1] w fun e w' => ∃ v, e = .returned v ∧ Q v w' :=
  funJ_calls mixed Try.func17 rfl h

-- hoard/hoardlaw13.known
def hoardlaw13_known_kp : KP := ⟨[(15, [1, 2, 3]), (20, [1])], []⟩
def hoardlaw13_known_j2 (jn : Jn) (Q : Value → WP)  (e1 : Option Addr) : WP := jn 20 (fun ρ => codeI Try.prog hoardlaw13_known_kp jn (cAt [true, true, true, true, true] (bodyOf Try.f18)) (retK Try.prog Try.f18 Q) noX (retK Try.prog Try.f18 Q) ρ) (us 1 ((.pointer e1) :: us 21 []))
def hoardlaw13_known_l1 (jn : Jn) (Q : Value → WP)  (m1 : Nat) (e1 : Option Addr) (l2 : Sl) (i3 : Int) : WP := lop Try.prog hoardlaw13_known_kp jn (cAt [true, true, true, true, false, true, false, false] (bodyOf Try.f18)) (blkX 0 (seqK Try.prog hoardlaw13_known_kp jn (cAt [true, true, true, true, true] (bodyOf Try.f18)) (retK Try.prog Try.f18 Q) noX (retK Try.prog Try.f18 Q)) noX) (retK Try.prog Try.f18 Q) m1 (us 1 ((.pointer e1) :: (.slice l2.a l2.n l2.c) :: (.int .i64 i3) :: us 19 []))
def hoardlaw13_known  (Q : Value → WP) : WP := funJ idJ Try.prog hoardlaw13_known_kp Try.f18 [] Q
theorem hoardlaw13_known_j2_raw (jn : Jn) (Q : Value → WP)  (e1 : Option Addr) : codeI Try.prog hoardlaw13_known_kp jn (cAt [true, true, true, true, true] (bodyOf Try.f18)) (retK Try.prog Try.f18 Q) noX (retK Try.prog Try.f18 Q) (us 1 ((.pointer e1) :: us 21 [])) = (
  call1 .str Try.prog id_lirs_Engine_State [.pointer e1] fun (x_8 : ByteArray) =>
  Q (.bool (sEq x_8 str_S__a_h_b_g_c_c_Q__c))) := by kernel_rfl
theorem hoardlaw13_known_j2_def (Q : Value → WP)  (e1 : Option Addr) : hoardlaw13_known_j2 idJ Q  e1 = codeI Try.prog hoardlaw13_known_kp idJ (cAt [true, true, true, true, true] (bodyOf Try.f18)) (retK Try.prog Try.f18 Q) noX (retK Try.prog Try.f18 Q) (us 1 ((.pointer e1) :: us 21 [])) := by kernel_rfl
theorem hoardlaw13_known_l1_raw (jn : Jn) (Q : Value → WP)  (m1 : Nat) (e1 : Option Addr) (l2 : Sl) (i3 : Int) : hoardlaw13_known_l1 jn Q  (m1 + 1) e1 l2 i3 = (
  ite2 (decide (i3 < (l2.n : Int))) (
  idx l2.a l2.n i3 fun b_3 o_4 =>
  ld .str b_3 (o_4 + (i3).toNat * 1) fun (x_5 : ByteArray) =>
  call2 .bool .slc Try.prog id_lirs_Engine_Access [.pointer e1, .string x_5] fun (x_6 : Bool) (x_7 : Sl) =>
  hoardlaw13_known_l1 jn Q  m1 e1 l2 (IntKind.wrap .i64 (i3 + (1 : Int)))) (
  hoardlaw13_known_j2 jn Q  e1)) := by kernel_rfl
theorem hoardlaw13_known_l1_zero (jn : Jn) (Q : Value → WP)  (e1 : Option Addr) (l2 : Sl) (i3 : Int) : hoardlaw13_known_l1 jn Q  0 e1 l2 i3 = bot := by kernel_rfl
theorem hoardlaw13_known_raw (jn : Jn)  (Q : Value → WP) : funJ jn Try.prog hoardlaw13_known_kp Try.f18 [] Q = (
  call1 .ptr Try.prog id_lirs_New [.int .i64 (2 : Int)] fun (x_1 : Option Addr) =>
  ite2 (Option.isNone x_1) (
  Q (.bool false)) (
  newB [.string str_a, .string str_b, .string str_c] ty_string fun b_2 =>
  exM fun m => hoardlaw13_known_l1 jn Q  m x_1 ⟨(some ⟨b_2, 0, none⟩), 3, 3⟩ (0 : Int))) := by kernel_rfl
theorem hoardlaw13_known_def  (Q : Value → WP) : hoardlaw13_known  Q = funJ idJ Try.prog hoardlaw13_known_kp Try.f18 [] Q := rfl
theorem hoardlaw13_known_calls {Q : Value → WP} {w : World} (h : hoardlaw13_known Q w) : Calls Try.prog id_hoardlaw13_known #[] w fun e w' => ∃ v, e = .returned v ∧ Q v w' :=
  funJ_calls mixed Try.func18 rfl h

-- (*hoard/lirs.Engine).Access
def lirs_Engine_Access_kp : KP := ⟨[(14, [0, 1, 6, 22]), (28, [0, 1, 6]), (38, [0, 1, 6, 8]), (40, [0, 1, 6, 8, 88])], [(14, [0, 2, 3, 4, 5, 6]), (18, [0, 1, 2, 3, 4, 5, 6, 8, 9, 10, 12, 13])]⟩
def lirs_Engine_Access_j4 (jn : Jn) (Q : Value → WP)  (e0 : Option Addr) (key1 : ByteArray) (n6_b : Nat) (n6_o : Nat) (gone8 : Sl) (t88 : Bool) : WP := jn 40 (fun ρ => codeI Try.prog lirs_Engine_Access_kp jn (cAt [true, true, true, true, true, true, false, true] (bodyOf Try.f19)) (seqK Try.prog lirs_Engine_Access_kp jn (cAt [true, true, true, true, true, true, true] (bodyOf Try.f19)) (retK Try.prog Try.f19 Q) noX (retK Try.prog Try.f19 Q)) noX (retK Try.prog Try.f19 Q) ρ) ((.pointer e0) :: (.string key1) :: us 4 ((.pointer (some ⟨n6_b, n6_o, none⟩)) :: us 1 ((.slice gone8.a gone8.n gone8.c) :: us 79 ((.bool t88) :: us 13 []))))
def lirs_Engine_Access_j3 (jn : Jn) (Q : Value → WP)  (e0 : Option Addr) (key1 : ByteArray) (n6_b : Nat) (n6_o : Nat) (gone8 : Sl) : WP := jn 38 (fun ρ => codeI Try.prog lirs_Engine_Access_kp jn (cAt [true, true, true, true, true, true] (bodyOf Try.f19)) (retK Try.prog Try.f19 Q) noX (retK Try.prog Try.f19 Q) ρ) ((.pointer e0) :: (.string key1) :: us 4 ((.pointer (some ⟨n6_b, n6_o, none⟩)) :: us 1 ((.slice gone8.a gone8.n gone8.c) :: us 93 [])))
def lirs_Engine_Access_j2 (jn : Jn) (Q : Value → WP)  (e0 : Option Addr) (key1 : ByteArray) (n6_b : Nat) (n6_o : Nat) : WP := jn 28 (fun ρ => codeI Try.prog lirs_Engine_Access_kp jn (cAt [true, true, true, true] (bodyOf Try.f19)) (retK Try.prog Try.f19 Q) noX (retK Try.prog Try.f19 Q) ρ) ((.pointer e0) :: (.string key1) :: us 4 ((.pointer (some ⟨n6_b, n6_o, none⟩)) :: us 95 []))
def lirs_Engine_Access_j1 (jn : Jn) (Q : Value → WP)  (e0 : Option Addr) (key1 : ByteArray) (n6_b : Nat) (n6_o : Nat) (t22 : Bool) : WP := jn 14 (fun ρ => codeI Try.prog lirs_Engine_Access_kp jn (cAt [true, true, true, false, false, true] (bodyOf Try.f19)) (seqK Try.prog lirs_Engine_Access_kp jn (cAt [true, true, true, true] (bodyOf Try.f19)) (retK Try.prog Try.f19 Q) noX (retK Try.prog Try.f19 Q)) (blkX 0 (seqK Try.prog lirs_Engine_Access_kp jn (cAt [true, true, true, true] (bodyOf Try.f19)) (retK Try.prog Try.f19 Q) noX (retK Try.prog Try.f19 Q)) noX) (retK Try.prog Try.f19 Q) ρ) ((.pointer e0) :: (.string key1) :: us 4 ((.pointer (some ⟨n6_b, n6_o, none⟩)) :: us 15 ((.bool t22) :: us 79 [])))
def lirs_Engine_Access (e0 : Option Addr) (key1 : ByteArray) (Q : Value → WP) : WP := funJ idJ Try.prog lirs_Engine_Access_kp Try.f19 [.pointer e0, .string key1] Q
theorem lirs_Engine_Access_j4_raw (jn : Jn) (Q : Value → WP)  (e0 : Option Addr) (key1 : ByteArray) (n6_b : Nat) (n6_o : Nat) (gone8 : Sl) (t88 : Bool) : codeI Try.prog lirs_Engine_Access_kp jn (cAt [true, true, true, true, true, true, false, true] (bodyOf Try.f19)) (seqK Try.prog lirs_Engine_Access_kp jn (cAt [true, true, true, true, true, true, true] (bodyOf Try.f19)) (retK Try.prog Try.f19 Q) noX (retK Try.prog Try.f19 Q)) noX (retK Try.prog Try.f19 Q) ((.pointer e0) :: (.string key1) :: us 4 ((.pointer (some ⟨n6_b, n6_o, none⟩)) :: us 1 ((.slice gone8.a gone8.n gone8.c) :: us 79 ((.bool t88) :: us 13 [])))) = (
  ite2 t88 (
  ld (.int .i64) n6_b n6_o fun (x_38 : Int) =>
  ld (.int .i64) n6_b (n6_o + 1) fun (x_39 : Int) =>
  ld (.int .i64) n6_b ((n6_o + 1) + 1) fun (x_40 : Int) =>
  call0 Try.prog id_lirs_Engine_heats [.pointer e0, .agg #[.int .i64 x_38, .int .i64 x_39, .int .i64 x_40], .string key1] <|
  call0 Try.prog id_lirs_Engine_forgets [.pointer e0] <|
  call0 Try.prog id_lirs_Engine_prunes [.pointer e0] <|
  Q (.tuple #[.bool false, .slice gone8.a gone8.n gone8.c])) (
  ld (.int .i64) n6_b n6_o fun (x_41 : Int) =>
  ld (.int .i64) n6_b (n6_o + 1) fun (x_42 : Int) =>
  ld (.int .i64) n6_b ((n6_o + 1) + 1) fun (x_43 : Int) =>
  call0 Try.prog id_lirs_Engine_chills [.pointer e0, .agg #[.int .i64 x_41, .int .i64 x_42, .int .i64 x_43], .string key1] <|
  call0 Try.prog id_lirs_Engine_forgets [.pointer e0] <|
  call0 Try.prog id_lirs_Engine_prunes [.pointer e0] <|
  Q (.tuple #[.bool false, .slice gone8.a gone8.n gone8.c]))) := by kernel_rfl
theorem lirs_Engine_Access_j4_def (Q : Value → WP)  (e0 : Option Addr) (key1 : ByteArray) (n6_b : Nat) (n6_o : Nat) (gone8 : Sl) (t88 : Bool) : lirs_Engine_Access_j4 idJ Q  e0 key1 n6_b n6_o gone8 t88 = codeI Try.prog lirs_Engine_Access_kp idJ (cAt [true, true, true, true, true, true, false, true] (bodyOf Try.f19)) (seqK Try.prog lirs_Engine_Access_kp idJ (cAt [true, true, true, true, true, true, true] (bodyOf Try.f19)) (retK Try.prog Try.f19 Q) noX (retK Try.prog Try.f19 Q)) noX (retK Try.prog Try.f19 Q) ((.pointer e0) :: (.string key1) :: us 4 ((.pointer (some ⟨n6_b, n6_o, none⟩)) :: us 1 ((.slice gone8.a gone8.n gone8.c) :: us 79 ((.bool t88) :: us 13 [])))) := by kernel_rfl
theorem lirs_Engine_Access_j3_raw (jn : Jn) (Q : Value → WP)  (e0 : Option Addr) (key1 : ByteArray) (n6_b : Nat) (n6_o : Nat) (gone8 : Sl) : codeI Try.prog lirs_Engine_Access_kp jn (cAt [true, true, true, true, true, true] (bodyOf Try.f19)) (retK Try.prog Try.f19 Q) noX (retK Try.prog Try.f19 Q) ((.pointer e0) :: (.string key1) :: us 4 ((.pointer (some ⟨n6_b, n6_o, none⟩)) :: us 1 ((.slice gone8.a gone8.n gone8.c) :: us 93 []))) = (
  drawW fun S =>
  nilck e0 fun b_32 o_33 =>
  ldS S (.int .i64) b_32 (o_33 + 5) fun (x_34 : Int) =>
  nilck e0 fun b_35 o_36 =>
  ld (.int .i64) b_35 (o_36 + 1) fun (x_37 : Int) =>
  keepS true S <|
  ite2 (decide (x_34 < x_37)) (
  lirs_Engine_Access_j4 jn Q  e0 key1 n6_b n6_o gone8 true) (
  ld (.int .i64) n6_b n6_o fun (x_44 : Int) =>
  lirs_Engine_Access_j4 jn Q  e0 key1 n6_b n6_o gone8 (x_44 == (3 : Int)))) := by kernel_rfl
theorem lirs_Engine_Access_j3_def (Q : Value → WP)  (e0 : Option Addr) (key1 : ByteArray) (n6_b : Nat) (n6_o : Nat) (gone8 : Sl) : lirs_Engine_Access_j3 idJ Q  e0 key1 n6_b n6_o gone8 = codeI Try.prog lirs_Engine_Access_kp idJ (cAt [true, true, true, true, true, true] (bodyOf Try.f19)) (retK Try.prog Try.f19 Q) noX (retK Try.prog Try.f19 Q) ((.pointer e0) :: (.string key1) :: us 4 ((.pointer (some ⟨n6_b, n6_o, none⟩)) :: us 1 ((.slice gone8.a gone8.n gone8.c) :: us 93 []))) := by kernel_rfl
theorem lirs_Engine_Access_j2_raw (jn : Jn) (Q : Value → WP)  (e0 : Option Addr) (key1 : ByteArray) (n6_b : Nat) (n6_o : Nat) : codeI Try.prog lirs_Engine_Access_kp jn (cAt [true, true, true, true] (bodyOf Try.f19)) (retK Try.prog Try.f19 Q) noX (retK Try.prog Try.f19 Q) ((.pointer e0) :: (.string key1) :: us 4 ((.pointer (some ⟨n6_b, n6_o, none⟩)) :: us 95 [])) = (
  drawW fun S =>
  nilck e0 fun b_17 o_18 =>
  ldS S (.int .i64) b_17 o_18 fun (x_19 : Int) =>
  call1 (.int .i64) Try.prog id_lirs_Engine_Len [.pointer e0] fun (x_20 : Int) =>
  keepS true S <|
  ite2 (decide (x_20 ≥ x_19)) (
  call2 .str .bool Try.prog id_lirs_Engine_Evict [.pointer e0] fun (x_21 : ByteArray) (x_22 : Bool) =>
  newB [.string x_21] ty_string fun b_23 =>
  appendC ty_string 1 16 [.string str_empty] ⟨(none : Option Addr), 0, 0⟩ 1 (fun w => rdA w (some ⟨b_23, 0, none⟩) (1 * 1)) fun s_24 =>
  nilck e0 fun b_25 o_26 =>
  ld .ptr b_25 (o_26 + 4) fun (x_27 : Option Addr) =>
  fun w => Calls Try.prog id_index_Index_lirs_entry_Get #[.pointer x_27, .string key1] w fun e w' => ∃ x_28 : Int, ∃ x_29 : Int, ∃ x_30 : Int, ∃ x_31 : Bool, e = .returned (.tuple #[.agg #[.int .i64 x_28, .int .i64 x_29, .int .i64 x_30], .bool x_31]) ∧ (
  st n6_b n6_o (.int .i64 x_28) <|
  st n6_b (n6_o + 1) (.int .i64 x_29) <|
  st n6_b ((n6_o + 1) + 1) (.int .i64 x_30) <|
  lirs_Engine_Access_j3 jn Q  e0 key1 n6_b n6_o s_24) w') (
  lirs_Engine_Access_j3 jn Q  e0 key1 n6_b n6_o ⟨(none : Option Addr), 0, 0⟩)) := by kernel_rfl
theorem lirs_Engine_Access_j2_def (Q : Value → WP)  (e0 : Option Addr) (key1 : ByteArray) (n6_b : Nat) (n6_o : Nat) : lirs_Engine_Access_j2 idJ Q  e0 key1 n6_b n6_o = codeI Try.prog lirs_Engine_Access_kp idJ (cAt [true, true, true, true] (bodyOf Try.f19)) (retK Try.prog Try.f19 Q) noX (retK Try.prog Try.f19 Q) ((.pointer e0) :: (.string key1) :: us 4 ((.pointer (some ⟨n6_b, n6_o, none⟩)) :: us 95 [])) := by kernel_rfl
theorem lirs_Engine_Access_j1_raw (jn : Jn) (Q : Value → WP)  (e0 : Option Addr) (key1 : ByteArray) (n6_b : Nat) (n6_o : Nat) (t22 : Bool) : codeI Try.prog lirs_Engine_Access_kp jn (cAt [true, true, true, false, false, true] (bodyOf Try.f19)) (seqK Try.prog lirs_Engine_Access_kp jn (cAt [true, true, true, true] (bodyOf Try.f19)) (retK Try.prog Try.f19 Q) noX (retK Try.prog Try.f19 Q)) (blkX 0 (seqK Try.prog lirs_Engine_Access_kp jn (cAt [true, true, true, true] (bodyOf Try.f19)) (retK Try.prog Try.f19 Q) noX (retK Try.prog Try.f19 Q)) noX) (retK Try.prog Try.f19 Q) ((.pointer e0) :: (.string key1) :: us 4 ((.pointer (some ⟨n6_b, n6_o, none⟩)) :: us 15 ((.bool t22) :: us 79 []))) = (
  ite2 t22 (
  ld (.int .i64) n6_b n6_o fun (x_10 : Int) =>
  ld (.int .i64) n6_b (n6_o + 1) fun (x_11 : Int) =>
  ld (.int .i64) n6_b ((n6_o + 1) + 1) fun (x_12 : Int) =>
  call0 Try.prog id_lirs_Engine_heats [.pointer e0, .agg #[.int .i64 x_10, .int .i64 x_11, .int .i64 x_12], .string key1] <|
  call0 Try.prog id_lirs_Engine_prunes [.pointer e0] <|
  Q (.tuple #[.bool true, .slice (none : Option Addr) 0 0])) (
  ld (.int .i64) n6_b n6_o fun (x_13 : Int) =>
  ite2 (x_13 == (2 : Int)) (
  ld (.int .i64) n6_b n6_o fun (x_14 : Int) =>
  ld (.int .i64) n6_b (n6_o + 1) fun (x_15 : Int) =>
  ld (.int .i64) n6_b ((n6_o + 1) + 1) fun (x_16 : Int) =>
  call0 Try.prog id_lirs_Engine_chills [.pointer e0, .agg #[.int .i64 x_14, .int .i64 x_15, .int .i64 x_16], .string key1] <|
  call0 Try.prog id_lirs_Engine_prunes [.pointer e0] <|
  Q (.tuple #[.bool true, .slice (none : Option Addr) 0 0])) (
  lirs_Engine_Access_j2 jn Q  e0 key1 n6_b n6_o))) := by kernel_rfl
theorem lirs_Engine_Access_j1_def (Q : Value → WP)  (e0 : Option Addr) (key1 : ByteArray) (n6_b : Nat) (n6_o : Nat) (t22 : Bool) : lirs_Engine_Access_j1 idJ Q  e0 key1 n6_b n6_o t22 = codeI Try.prog lirs_Engine_Access_kp idJ (cAt [true, true, true, false, false, true] (bodyOf Try.f19)) (seqK Try.prog lirs_Engine_Access_kp idJ (cAt [true, true, true, true] (bodyOf Try.f19)) (retK Try.prog Try.f19 Q) noX (retK Try.prog Try.f19 Q)) (blkX 0 (seqK Try.prog lirs_Engine_Access_kp idJ (cAt [true, true, true, true] (bodyOf Try.f19)) (retK Try.prog Try.f19 Q) noX (retK Try.prog Try.f19 Q)) noX) (retK Try.prog Try.f19 Q) ((.pointer e0) :: (.string key1) :: us 4 ((.pointer (some ⟨n6_b, n6_o, none⟩)) :: us 15 ((.bool t22) :: us 79 []))) := by kernel_rfl
theorem lirs_Engine_Access_raw (jn : Jn) (e0 : Option Addr) (key1 : ByteArray) (Q : Value → WP) : funJ jn Try.prog lirs_Engine_Access_kp Try.f19 [.pointer e0, .string key1] Q = (
  ite2 (Option.isNone e0) (
  Q (.tuple #[.bool false, .slice (none : Option Addr) 0 0])) (
  nilck e0 fun b_1 o_2 =>
  ld .ptr b_1 (o_2 + 4) fun (x_3 : Option Addr) =>
  fun w => Calls Try.prog id_index_Index_lirs_entry_Get #[.pointer x_3, .string key1] w fun e w' => ∃ x_4 : Int, ∃ x_5 : Int, ∃ x_6 : Int, ∃ x_7 : Bool, e = .returned (.tuple #[.agg #[.int .i64 x_4, .int .i64 x_5, .int .i64 x_6], .bool x_7]) ∧ (
  newB [.int .i64 (0 : Int), .int .i64 (0 : Int), .int .i64 (0 : Int)] ty_lirs_entry fun b_8 =>
  st b_8 0 (.int .i64 x_4) <|
  st b_8 1 (.int .i64 x_5) <|
  st b_8 2 (.int .i64 x_6) <|
  ld (.int .i64) b_8 0 fun (x_9 : Int) =>
  ite2 (x_9 == (1 : Int)) (
  lirs_Engine_Access_j1 jn Q  e0 key1 b_8 0 (x_9 == (1 : Int))) (
  ld (.int .i64) b_8 0 fun (x_45 : Int) =>
  ite2 (x_45 == (2 : Int)) (
  ld (.int .i64) b_8 1 fun (x_46 : Int) =>
  lirs_Engine_Access_j1 jn Q  e0 key1 b_8 0 (x_46 != (0 : Int))) (
  lirs_Engine_Access_j1 jn Q  e0 key1 b_8 0 false))) w')) := by kernel_rfl
theorem lirs_Engine_Access_def (e0 : Option Addr) (key1 : ByteArray) (Q : Value → WP) : lirs_Engine_Access e0 key1 Q = funJ idJ Try.prog lirs_Engine_Access_kp Try.f19 [.pointer e0, .string key1] Q := rfl
theorem lirs_Engine_Access_calls {e0 : Option Addr} {key1 : ByteArray} {Q : Value → WP} {w : World} (h : lirs_Engine_Access e0 key1 Q w) : Calls Try.prog id_lirs_Engine_Access #[.pointer e0, .string key1] w fun e w' => ∃ v, e = .returned v ∧ Q v w' :=
  funJ_calls mixed Try.func19 rfl h

-- (*hoard/lirs.Engine).Len
def lirs_Engine_Len_kp : KP := ⟨[], [(3, [0, 1, 2, 3, 5, 6, 7, 8, 9, 10])]⟩
def lirs_Engine_Len (e0 : Option Addr) (Q : Value → WP) : WP := funJ idJ Try.prog lirs_Engine_Len_kp Try.f20 [.pointer e0] Q
theorem lirs_Engine_Len_raw (jn : Jn) (e0 : Option Addr) (Q : Value → WP) : funJ jn Try.prog lirs_Engine_Len_kp Try.f20 [.pointer e0] Q = (
  ite2 (Option.isNone e0) (
  Q (.int .i64 (0 : Int))) (
  drawW fun S =>
  nilck e0 fun b_1 o_2 =>
  ldS S .ptr b_1 (o_2 + 3) fun (x_3 : Option Addr) =>
  nilck e0 fun b_4 o_5 =>
  ldS S (.int .i64) b_4 (o_5 + 5) fun (x_6 : Int) =>
  call1 (.int .i64) Try.prog id_list_List_string_Len [.pointer x_3] fun (x_7 : Int) =>
  keepS true S <|
  Q (.int .i64 (IntKind.wrap .i64 (x_7 + x_6))))) := by kernel_rfl
theorem lirs_Engine_Len_def (e0 : Option Addr) (Q : Value → WP) : lirs_Engine_Len e0 Q = funJ idJ Try.prog lirs_Engine_Len_kp Try.f20 [.pointer e0] Q := rfl
theorem lirs_Engine_Len_calls {e0 : Option Addr} {Q : Value → WP} {w : World} (h : lirs_Engine_Len e0 Q w) : Calls Try.prog id_lirs_Engine_Len #[.pointer e0] w fun e w' => ∃ v, e = .returned v ∧ Q v w' :=
  funJ_calls mixed Try.func20 rfl h

-- hoard/hoardlaw13.cut
def hoardlaw13_cut_kp : KP := ⟨[(9, [0, 1, 5, 6]), (16, [5])], []⟩
def hoardlaw13_cut_j2 (jn : Jn) (Q : Value → WP)  (m5 : Sl) : WP := jn 16 (fun ρ => codeI Try.prog hoardlaw13_cut_kp jn (cAt [true, true, true] (bodyOf Try.f21)) (retK Try.prog Try.f21 Q) noX (retK Try.prog Try.f21 Q) ρ) (us 5 ((.slice m5.a m5.n m5.c) :: us 21 []))
def hoardlaw13_cut_l1 (jn : Jn) (Q : Value → WP)  (m1 : Nat) (l0 : Sl) (key1 : ByteArray) (m5 : Sl) (i6 : Int) : WP := lop Try.prog hoardlaw13_cut_kp jn (cAt [true, true, false, true, false, false] (bodyOf Try.f21)) (blkX 0 (seqK Try.prog hoardlaw13_cut_kp jn (cAt [true, true, true] (bodyOf Try.f21)) (retK Try.prog Try.f21 Q) noX (retK Try.prog Try.f21 Q)) noX) (retK Try.prog Try.f21 Q) m1 ((.slice l0.a l0.n l0.c) :: (.string key1) :: us 3 ((.slice m5.a m5.n m5.c) :: (.int .i64 i6) :: us 20 []))
def hoardlaw13_cut (l0 : Sl) (key1 : ByteArray) (Q : Value → WP) : WP := funJ idJ Try.prog hoardlaw13_cut_kp Try.f21 [.slice l0.a l0.n l0.c, .string key1] Q
theorem hoardlaw13_cut_j2_raw (jn : Jn) (Q : Value → WP)  (m5 : Sl) : codeI Try.prog hoardlaw13_cut_kp jn (cAt [true, true, true] (bodyOf Try.f21)) (retK Try.prog Try.f21 Q) noX (retK Try.prog Try.f21 Q) (us 5 ((.slice m5.a m5.n m5.c) :: us 21 [])) = (
  Q (.slice m5.a m5.n m5.c)) := by kernel_rfl
theorem hoardlaw13_cut_j2_def (Q : Value → WP)  (m5 : Sl) : hoardlaw13_cut_j2 idJ Q  m5 = codeI Try.prog hoardlaw13_cut_kp idJ (cAt [true, true, true] (bodyOf Try.f21)) (retK Try.prog Try.f21 Q) noX (retK Try.prog Try.f21 Q) (us 5 ((.slice m5.a m5.n m5.c) :: us 21 [])) := by kernel_rfl
theorem hoardlaw13_cut_l1_raw (jn : Jn) (Q : Value → WP)  (m1 : Nat) (l0 : Sl) (key1 : ByteArray) (m5 : Sl) (i6 : Int) : hoardlaw13_cut_l1 jn Q  (m1 + 1) l0 key1 m5 i6 = (
  ite2 (decide (i6 < (l0.n : Int))) (
  idx l0.a l0.n i6 fun b_1 o_2 =>
  ld .str b_1 (o_2 + (i6).toNat * 1) fun (x_3 : ByteArray) =>
  ite2 (!sEq x_3 key1) (
  idx l0.a l0.n i6 fun b_4 o_5 =>
  ld .str b_4 (o_5 + (i6).toNat * 1) fun (x_6 : ByteArray) =>
  newB [.string x_6] ty_string fun b_7 =>
  appendC ty_string 1 16 [.string str_empty] ⟨m5.a, m5.n, m5.c⟩ 1 (fun w => rdA w (some ⟨b_7, 0, none⟩) (1 * 1)) fun s_8 =>
  hoardlaw13_cut_l1 jn Q  m1 l0 key1 s_8 (IntKind.wrap .i64 (i6 + (1 : Int)))) (
  hoardlaw13_cut_l1 jn Q  m1 l0 key1 m5 (IntKind.wrap .i64 (i6 + (1 : Int))))) (
  hoardlaw13_cut_j2 jn Q  m5)) := by kernel_rfl
theorem hoardlaw13_cut_l1_zero (jn : Jn) (Q : Value → WP)  (l0 : Sl) (key1 : ByteArray) (m5 : Sl) (i6 : Int) : hoardlaw13_cut_l1 jn Q  0 l0 key1 m5 i6 = bot := by kernel_rfl
theorem hoardlaw13_cut_raw (jn : Jn) (l0 : Sl) (key1 : ByteArray) (Q : Value → WP) : funJ jn Try.prog hoardlaw13_cut_kp Try.f21 [.slice l0.a l0.n l0.c, .string key1] Q = (
  exM fun m => hoardlaw13_cut_l1 jn Q  m l0 key1 ⟨(none : Option Addr), 0, 0⟩ (0 : Int)) := by kernel_rfl
theorem hoardlaw13_cut_def (l0 : Sl) (key1 : ByteArray) (Q : Value → WP) : hoardlaw13_cut l0 key1 Q = funJ idJ Try.prog hoardlaw13_cut_kp Try.f21 [.slice l0.a l0.n l0.c, .string key1] Q := rfl
theorem hoardlaw13_cut_calls {l0 : Sl} {key1 : ByteArray} {Q : Value → WP} {w : World} (h : hoardlaw13_cut l0 key1 Q w) : Calls Try.prog id_hoardlaw13_cut #[.slice l0.a l0.n l0.c, .string key1] w fun e w' => ∃ v, e = .returned v ∧ Q v w' :=
  funJ_calls mixed Try.func21 rfl h

-- (*hoard/lirs.Engine).Has
def lirs_Engine_Has_kp : KP := ⟨[], []⟩
def lirs_Engine_Has (e0 : Option Addr) (key1 : ByteArray) (Q : Value → WP) : WP := funJ idJ Try.prog lirs_Engine_Has_kp Try.f22 [.pointer e0, .string key1] Q
theorem lirs_Engine_Has_raw (jn : Jn) (e0 : Option Addr) (key1 : ByteArray) (Q : Value → WP) : funJ jn Try.prog lirs_Engine_Has_kp Try.f22 [.pointer e0, .string key1] Q = (
  ite2 (Option.isNone e0) (
  Q (.bool false)) (
  nilck e0 fun b_1 o_2 =>
  ld .ptr b_1 (o_2 + 4) fun (x_3 : Option Addr) =>
  fun w => Calls Try.prog id_index_Index_lirs_entry_Get #[.pointer x_3, .string key1] w fun e w' => ∃ x_4 : Int, ∃ x_5 : Int, ∃ x_6 : Int, ∃ x_7 : Bool, e = .returned (.tuple #[.agg #[.int .i64 x_4, .int .i64 x_5, .int .i64 x_6], .bool x_7]) ∧ (
  newB [.int .i64 (0 : Int), .int .i64 (0 : Int), .int .i64 (0 : Int)] ty_lirs_entry fun b_8 =>
  st b_8 0 (.int .i64 x_4) <|
  st b_8 1 (.int .i64 x_5) <|
  st b_8 2 (.int .i64 x_6) <|
  ld (.int .i64) b_8 0 fun (x_9 : Int) =>
  ite2 (x_9 == (1 : Int)) (
  Q (.bool true)) (
  ld (.int .i64) b_8 0 fun (x_10 : Int) =>
  Q (.bool (x_10 == (2 : Int))))) w')) := by kernel_rfl
theorem lirs_Engine_Has_def (e0 : Option Addr) (key1 : ByteArray) (Q : Value → WP) : lirs_Engine_Has e0 key1 Q = funJ idJ Try.prog lirs_Engine_Has_kp Try.f22 [.pointer e0, .string key1] Q := rfl
theorem lirs_Engine_Has_calls {e0 : Option Addr} {key1 : ByteArray} {Q : Value → WP} {w : World} (h : lirs_Engine_Has e0 key1 Q w) : Calls Try.prog id_lirs_Engine_Has #[.pointer e0, .string key1] w fun e w' => ∃ v, e = .returned v ∧ Q v w' :=
  funJ_calls mixed Try.func22 rfl h

-- hoard/hoardlaw13.texts
def hoardlaw13_texts_kp : KP := ⟨[(11, [0, 1, 5]), (18, [])], [(6, [0, 1, 2, 3, 4, 5, 6, 8])]⟩
def hoardlaw13_texts_j2 (jn : Jn) (Q : Value → WP)   : WP := jn 18 (fun ρ => codeI Try.prog hoardlaw13_texts_kp jn (cAt [true, true, true] (bodyOf Try.f23)) (retK Try.prog Try.f23 Q) noX (retK Try.prog Try.f23 Q) ρ) (us 26 [])
def hoardlaw13_texts_l1 (jn : Jn) (Q : Value → WP)  (m1 : Nat) (a0 : Sl) (b1 : Sl) (i5 : Int) : WP := lop Try.prog hoardlaw13_texts_kp jn (cAt [true, true, false, true, false, false] (bodyOf Try.f23)) (blkX 0 (seqK Try.prog hoardlaw13_texts_kp jn (cAt [true, true, true] (bodyOf Try.f23)) (retK Try.prog Try.f23 Q) noX (retK Try.prog Try.f23 Q)) noX) (retK Try.prog Try.f23 Q) m1 ((.slice a0.a a0.n a0.c) :: (.slice b1.a b1.n b1.c) :: us 3 ((.int .i64 i5) :: us 20 []))
def hoardlaw13_texts (a0 : Sl) (b1 : Sl) (Q : Value → WP) : WP := funJ idJ Try.prog hoardlaw13_texts_kp Try.f23 [.slice a0.a a0.n a0.c, .slice b1.a b1.n b1.c] Q
theorem hoardlaw13_texts_j2_raw (jn : Jn) (Q : Value → WP)   : codeI Try.prog hoardlaw13_texts_kp jn (cAt [true, true, true] (bodyOf Try.f23)) (retK Try.prog Try.f23 Q) noX (retK Try.prog Try.f23 Q) (us 26 []) = (
  Q (.bool true)) := by kernel_rfl
theorem hoardlaw13_texts_j2_def (Q : Value → WP)   : hoardlaw13_texts_j2 idJ Q   = codeI Try.prog hoardlaw13_texts_kp idJ (cAt [true, true, true] (bodyOf Try.f23)) (retK Try.prog Try.f23 Q) noX (retK Try.prog Try.f23 Q) (us 26 []) := by kernel_rfl
theorem hoardlaw13_texts_l1_raw (jn : Jn) (Q : Value → WP)  (m1 : Nat) (a0 : Sl) (b1 : Sl) (i5 : Int) : hoardlaw13_texts_l1 jn Q  (m1 + 1) a0 b1 i5 = (
  ite2 (decide (i5 < (a0.n : Int))) (
  drawW fun S =>
  idx a0.a a0.n i5 fun b_1 o_2 =>
  ldS S .str b_1 (o_2 + (i5).toNat * 1) fun (x_3 : ByteArray) =>
  idx b1.a b1.n i5 fun b_4 o_5 =>
  ld .str b_4 (o_5 + (i5).toNat * 1) fun (x_6 : ByteArray) =>
  keepS true S <|
  ite2 (!sEq x_3 x_6) (
  Q (.bool false)) (
  hoardlaw13_texts_l1 jn Q  m1 a0 b1 (IntKind.wrap .i64 (i5 + (1 : Int))))) (
  hoardlaw13_texts_j2 jn Q  )) := by kernel_rfl
theorem hoardlaw13_texts_l1_zero (jn : Jn) (Q : Value → WP)  (a0 : Sl) (b1 : Sl) (i5 : Int) : hoardlaw13_texts_l1 jn Q  0 a0 b1 i5 = bot := by kernel_rfl
theorem hoardlaw13_texts_raw (jn : Jn) (a0 : Sl) (b1 : Sl) (Q : Value → WP) : funJ jn Try.prog hoardlaw13_texts_kp Try.f23 [.slice a0.a a0.n a0.c, .slice b1.a b1.n b1.c] Q = (
  ite2 ((a0.n : Int) != (b1.n : Int)) (
  Q (.bool false)) (
  exM fun m => hoardlaw13_texts_l1 jn Q  m a0 b1 (0 : Int))) := by kernel_rfl
theorem hoardlaw13_texts_def (a0 : Sl) (b1 : Sl) (Q : Value → WP) : hoardlaw13_texts a0 b1 Q = funJ idJ Try.prog hoardlaw13_texts_kp Try.f23 [.slice a0.a a0.n a0.c, .slice b1.a b1.n b1.c] Q := rfl
theorem hoardlaw13_texts_calls {a0 : Sl} {b1 : Sl} {Q : Value → WP} {w : World} (h : hoardlaw13_texts a0 b1 Q w) : Calls Try.prog id_hoardlaw13_texts #[.slice a0.a a0.n a0.c, .slice b1.a b1.n b1.c] w fun e w' => ∃ v, e = .returned v ∧ Q v w' :=
  funJ_calls mixed Try.func23 rfl h

-- (*hoard/lirs.Engine).Keys
def lirs_Engine_Keys_kp : KP := ⟨[], []⟩
def lirs_Engine_Keys (e0 : Option Addr) (Q : Value → WP) : WP := funJ idJ Try.prog lirs_Engine_Keys_kp Try.f24 [.pointer e0] Q
theorem lirs_Engine_Keys_raw (jn : Jn) (e0 : Option Addr) (Q : Value → WP) : funJ jn Try.prog lirs_Engine_Keys_kp Try.f24 [.pointer e0] Q = (
  ite2 (Option.isNone e0) (
  Q (.slice (none : Option Addr) 0 0)) (
  nilck e0 fun b_1 o_2 =>
  ld .ptr b_1 (o_2 + 3) fun (x_3 : Option Addr) =>
  call1 .slc Try.prog id_list_List_string_All [.pointer x_3] fun (x_4 : Sl) =>
  call1 .slc Try.prog id_lirs_Engine_those [.pointer e0, .int .i64 (1 : Int)] fun (x_5 : Sl) =>
  appendC ty_string 1 16 [.string str_empty] ⟨x_4.a, x_4.n, x_4.c⟩ x_5.n (fun w => rdA w x_5.a (x_5.n * 1)) fun s_6 =>
  Q (.slice s_6.a s_6.n s_6.c))) := by kernel_rfl
theorem lirs_Engine_Keys_def (e0 : Option Addr) (Q : Value → WP) : lirs_Engine_Keys e0 Q = funJ idJ Try.prog lirs_Engine_Keys_kp Try.f24 [.pointer e0] Q := rfl
theorem lirs_Engine_Keys_calls {e0 : Option Addr} {Q : Value → WP} {w : World} (h : lirs_Engine_Keys e0 Q w) : Calls Try.prog id_lirs_Engine_Keys #[.pointer e0] w fun e w' => ∃ v, e = .returned v ∧ Q v w' :=
  funJ_calls mixed Try.func24 rfl h

-- hoard/hoardlaw13.heavy
def hoardlaw13_heavy_kp : KP := ⟨[(7, [0, 3]), (10, [0, 3]), (14, [])], []⟩
def hoardlaw13_heavy_j2 (jn : Jn) (Q : Value → WP) (m1 : Nat) (l0 : Sl) (i3 : Int) : WP := jn 10 (fun ρ => codeI Try.prog hoardlaw13_heavy_kp jn (cAt [true, false, true, false, false, true] (bodyOf Try.f25)) (lopK Try.prog hoardlaw13_heavy_kp jn (cAt [true, false, true, false, false] (bodyOf Try.f25)) (blkX 0 (seqK Try.prog hoardlaw13_heavy_kp jn (cAt [true, true] (bodyOf Try.f25)) (retK Try.prog Try.f25 Q) noX (retK Try.prog Try.f25 Q)) noX) (retK Try.prog Try.f25 Q) m1) (blkX 0 (seqK Try.prog hoardlaw13_heavy_kp jn (cAt [true, true] (bodyOf Try.f25)) (retK Try.prog Try.f25 Q) noX (retK Try.prog Try.f25 Q)) noX) (retK Try.prog Try.f25 Q) ρ) ((.slice l0.a l0.n l0.c) :: us 2 ((.int .i64 i3) :: us 17 []))
def hoardlaw13_heavy_j3 (jn : Jn) (Q : Value → WP)   : WP := jn 14 (fun ρ => codeI Try.prog hoardlaw13_heavy_kp jn (cAt [true, true] (bodyOf Try.f25)) (retK Try.prog Try.f25 Q) noX (retK Try.prog Try.f25 Q) ρ) (us 21 [])
def hoardlaw13_heavy_l1 (jn : Jn) (Q : Value → WP)  (m1 : Nat) (l0 : Sl) (i3 : Int) : WP := lop Try.prog hoardlaw13_heavy_kp jn (cAt [true, false, true, false, false] (bodyOf Try.f25)) (blkX 0 (seqK Try.prog hoardlaw13_heavy_kp jn (cAt [true, true] (bodyOf Try.f25)) (retK Try.prog Try.f25 Q) noX (retK Try.prog Try.f25 Q)) noX) (retK Try.prog Try.f25 Q) m1 ((.slice l0.a l0.n l0.c) :: us 2 ((.int .i64 i3) :: us 17 []))
def hoardlaw13_heavy (l0 : Sl) (Q : Value → WP) : WP := funJ idJ Try.prog hoardlaw13_heavy_kp Try.f25 [.slice l0.a l0.n l0.c] Q
theorem hoardlaw13_heavy_j2_raw (jn : Jn) (Q : Value → WP) (m1 : Nat) (l0 : Sl) (i3 : Int) : codeI Try.prog hoardlaw13_heavy_kp jn (cAt [true, false, true, false, false, true] (bodyOf Try.f25)) (lopK Try.prog hoardlaw13_heavy_kp jn (cAt [true, false, true, false, false] (bodyOf Try.f25)) (blkX 0 (seqK Try.prog hoardlaw13_heavy_kp jn (cAt [true, true] (bodyOf Try.f25)) (retK Try.prog Try.f25 Q) noX (retK Try.prog Try.f25 Q)) noX) (retK Try.prog Try.f25 Q) m1) (blkX 0 (seqK Try.prog hoardlaw13_heavy_kp jn (cAt [true, true] (bodyOf Try.f25)) (retK Try.prog Try.f25 Q) noX (retK Try.prog Try.f25 Q)) noX) (retK Try.prog Try.f25 Q) ((.slice l0.a l0.n l0.c) :: us 2 ((.int .i64 i3) :: us 17 [])) = (
  idx l0.a l0.n i3 fun b_1 o_2 =>
  ld .str b_1 ((o_2 + (i3).toNat * 2) + 1) fun (x_3 : ByteArray) =>
  ite2 (decide ((x_3.size : Int) > (40 : Int))) (
  Q (.bool true)) (
  hoardlaw13_heavy_l1 jn Q  m1 l0 (IntKind.wrap .i64 (i3 + (1 : Int))))) := by kernel_rfl
theorem hoardlaw13_heavy_j2_def (Q : Value → WP) (m1 : Nat) (l0 : Sl) (i3 : Int) : hoardlaw13_heavy_j2 idJ Q m1 l0 i3 = codeI Try.prog hoardlaw13_heavy_kp idJ (cAt [true, false, true, false, false, true] (bodyOf Try.f25)) (lopK Try.prog hoardlaw13_heavy_kp idJ (cAt [true, false, true, false, false] (bodyOf Try.f25)) (blkX 0 (seqK Try.prog hoardlaw13_heavy_kp idJ (cAt [true, true] (bodyOf Try.f25)) (retK Try.prog Try.f25 Q) noX (retK Try.prog Try.f25 Q)) noX) (retK Try.prog Try.f25 Q) m1) (blkX 0 (seqK Try.prog hoardlaw13_heavy_kp idJ (cAt [true, true] (bodyOf Try.f25)) (retK Try.prog Try.f25 Q) noX (retK Try.prog Try.f25 Q)) noX) (retK Try.prog Try.f25 Q) ((.slice l0.a l0.n l0.c) :: us 2 ((.int .i64 i3) :: us 17 [])) := by kernel_rfl
theorem hoardlaw13_heavy_j3_raw (jn : Jn) (Q : Value → WP)   : codeI Try.prog hoardlaw13_heavy_kp jn (cAt [true, true] (bodyOf Try.f25)) (retK Try.prog Try.f25 Q) noX (retK Try.prog Try.f25 Q) (us 21 []) = (
  Q (.bool false)) := by kernel_rfl
theorem hoardlaw13_heavy_j3_def (Q : Value → WP)   : hoardlaw13_heavy_j3 idJ Q   = codeI Try.prog hoardlaw13_heavy_kp idJ (cAt [true, true] (bodyOf Try.f25)) (retK Try.prog Try.f25 Q) noX (retK Try.prog Try.f25 Q) (us 21 []) := by kernel_rfl
theorem hoardlaw13_heavy_l1_raw (jn : Jn) (Q : Value → WP)  (m1 : Nat) (l0 : Sl) (i3 : Int) : hoardlaw13_heavy_l1 jn Q  (m1 + 1) l0 i3 = (
  ite2 (decide (i3 < (l0.n : Int))) (
  ite2 (decide (i3 < (200 : Int))) (
  hoardlaw13_heavy_j2 jn Q m1 l0 i3) (
  hoardlaw13_heavy_j3 jn Q  )) (
  hoardlaw13_heavy_j3 jn Q  )) := by kernel_rfl
theorem hoardlaw13_heavy_l1_zero (jn : Jn) (Q : Value → WP)  (l0 : Sl) (i3 : Int) : hoardlaw13_heavy_l1 jn Q  0 l0 i3 = bot := by kernel_rfl
theorem hoardlaw13_heavy_raw (jn : Jn) (l0 : Sl) (Q : Value → WP) : funJ jn Try.prog hoardlaw13_heavy_kp Try.f25 [.slice l0.a l0.n l0.c] Q = (
  exM fun m => hoardlaw13_heavy_l1 jn Q  m l0 (0 : Int)) := by kernel_rfl
theorem hoardlaw13_heavy_def (l0 : Sl) (Q : Value → WP) : hoardlaw13_heavy l0 Q = funJ idJ Try.prog hoardlaw13_heavy_kp Try.f25 [.slice l0.a l0.n l0.c] Q := rfl
theorem hoardlaw13_heavy_calls {l0 : Sl} {Q : Value → WP} {w : World} (h : hoardlaw13_heavy l0 Q w) : Calls Try.prog id_hoardlaw13_heavy #[.slice l0.a l0.n l0.c] w fun e w' => ∃ v, e = .returned v ∧ Q v w' :=
  funJ_calls mixed Try.func25 rfl h

-- hoard/hoardref13.New
def hoardref13_New_kp : KP := ⟨[], []⟩
def hoardref13_New (room0 : Int) (Q : Value → WP) : WP := funJ idJ Try.prog hoardref13_New_kp Try.f26 [.int .i64 room0] Q
theorem hoardref13_New_raw (jn : Jn) (room0 : Int) (Q : Value → WP) : funJ jn Try.prog hoardref13_New_kp Try.f26 [.int .i64 room0] Q = (
  newB [.slice (none : Option Addr) 0 0, .slice (none : Option Addr) 0 0, .int .i64 (if (1024 : Int) < (if (1 : Int) > room0 then (1 : Int) else room0) then (1024 : Int) else (if (1 : Int) > room0 then (1 : Int) else room0))] ty_hoardref13_Engine fun b_1 =>
  Q (.pointer (some ⟨b_1, 0, none⟩))) := by kernel_rfl
theorem hoardref13_New_def (room0 : Int) (Q : Value → WP) : hoardref13_New room0 Q = funJ idJ Try.prog hoardref13_New_kp Try.f26 [.int .i64 room0] Q := rfl
theorem hoardref13_New_calls {room0 : Int} {Q : Value → WP} {w : World} (h : hoardref13_New room0 Q w) : Calls Try.prog id_hoardref13_New #[.int .i64 room0] w fun e w' => ∃ v, e = .returned v ∧ Q v w' :=
  funJ_calls mixed Try.func26 rfl h

-- hoard/hoardlaw13.act
def hoardlaw13_act_kp : KP := ⟨[], [(7, [0, 1, 2, 4, 5, 6, 8, 9]), (9, [0, 1, 2, 4, 5, 6, 8, 9]), (14, [0, 1, 2, 4, 5, 6, 8, 9])]⟩
def hoardlaw13_act (e0 : Option Addr) (x1 : Option Addr) (a2_0 : Int) (a2_1 : ByteArray) (Q : Value → WP) : WP := funJ idJ Try.prog hoardlaw13_act_kp Try.f27 [.pointer e0, .pointer x1, .agg #[.int .i64 a2_0, .string a2_1]] Q
theorem hoardlaw13_act_raw (jn : Jn) (e0 : Option Addr) (x1 : Option Addr) (a2_0 : Int) (a2_1 : ByteArray) (Q : Value → WP) : funJ jn Try.prog hoardlaw13_act_kp Try.f27 [.pointer e0, .pointer x1, .agg #[.int .i64 a2_0, .string a2_1]] Q = (
  newB [.int .i64 a2_0, .string a2_1] ty_hoardlaw13_Act fun b_1 =>
  ld (.int .i64) b_1 0 fun (x_2 : Int) =>
  ite2 (x_2 == (1 : Int)) (
  ld .str b_1 1 fun (x_3 : ByteArray) =>
  call2 .bool .slc Try.prog id_lirs_Engine_Access [.pointer e0, .string x_3] fun (x_4 : Bool) (x_5 : Sl) =>
  ld .str b_1 1 fun (x_6 : ByteArray) =>
  call2 .bool .slc Try.prog id_hoardref13_Engine_Access [.pointer x1, .string x_6] fun (x_7 : Bool) (x_8 : Sl) =>
  ite2 (x_4 == x_7) (
  call1 .bool Try.prog id_hoardlaw13_texts [.slice x_5.a x_5.n x_5.c, .slice x_8.a x_8.n x_8.c] fun (x_9 : Bool) =>
  Q (.bool x_9)) (
  Q (.bool false))) (
  ite2 (x_2 == (2 : Int)) (
  drawW fun S =>
  ldS S .str b_1 1 fun (x_10 : ByteArray) =>
  ldS S .str b_1 1 fun (x_11 : ByteArray) =>
  call1 .bool Try.prog id_lirs_Engine_Load [.pointer e0, .string x_10] fun (x_12 : Bool) =>
  keepS true S <|
  call1 .bool Try.prog id_hoardref13_Engine_Load [.pointer x1, .string x_11] fun (x_13 : Bool) =>
  Q (.bool (x_12 == x_13))) (
  ite2 (x_2 == (3 : Int)) (
  drawW fun S =>
  ldS S .str b_1 1 fun (x_14 : ByteArray) =>
  ldS S .str b_1 1 fun (x_15 : ByteArray) =>
  call1 .bool Try.prog id_lirs_Engine_Remove [.pointer e0, .string x_14] fun (x_16 : Bool) =>
  keepS true S <|
  call1 .bool Try.prog id_hoardref13_Engine_Remove [.pointer x1, .string x_15] fun (x_17 : Bool) =>
  Q (.bool (x_16 == x_17))) (
  ite2 (x_2 == (4 : Int)) (
  call2 .str .bool Try.prog id_lirs_Engine_Evict [.pointer e0] fun (x_18 : ByteArray) (x_19 : Bool) =>
  call2 .str .bool Try.prog id_hoardref13_Engine_Evict [.pointer x1] fun (x_20 : ByteArray) (x_21 : Bool) =>
  ite2 (sEq x_18 x_20) (
  Q (.bool (x_19 == x_21))) (
  Q (.bool false))) (
  drawW fun S =>
  ldS S .str b_1 1 fun (x_22 : ByteArray) =>
  ldS S .str b_1 1 fun (x_23 : ByteArray) =>
  call1 .bool Try.prog id_lirs_Engine_Has [.pointer e0, .string x_22] fun (x_24 : Bool) =>
  keepS true S <|
  call1 .bool Try.prog id_hoardref13_Engine_Has [.pointer x1, .string x_23] fun (x_25 : Bool) =>
  Q (.bool (x_24 == x_25))))))) := by kernel_rfl
theorem hoardlaw13_act_def (e0 : Option Addr) (x1 : Option Addr) (a2_0 : Int) (a2_1 : ByteArray) (Q : Value → WP) : hoardlaw13_act e0 x1 a2_0 a2_1 Q = funJ idJ Try.prog hoardlaw13_act_kp Try.f27 [.pointer e0, .pointer x1, .agg #[.int .i64 a2_0, .string a2_1]] Q := rfl
theorem hoardlaw13_act_calls {e0 : Option Addr} {x1 : Option Addr} {a2_0 : Int} {a2_1 : ByteArray} {Q : Value → WP} {w : World} (h : hoardlaw13_act e0 x1 a2_0 a2_1 Q w) : Calls Try.prog id_hoardlaw13_act #[.pointer e0, .pointer x1, .agg #[.int .i64 a2_0, .string a2_1]] w fun e w' => ∃ v, e = .returned v ∧ Q v w' :=
  funJ_calls mixed Try.func27 rfl h

-- (*hoard/lirs.Engine).Evict
def lirs_Engine_Evict_kp : KP := ⟨[(12, [0]), (24, [0, 4, 6])], [(5, [0, 1, 2, 3, 4, 5, 6, 10, 11, 12, 13, 14])]⟩
def lirs_Engine_Evict_j2 (jn : Jn) (Q : Value → WP)  (e0 : Option Addr) (key4 : ByteArray) (n6_b : Nat) (n6_o : Nat) : WP := jn 24 (fun ρ => codeI Try.prog lirs_Engine_Evict_kp jn (cAt [true, true, true, true, true, true, true, true] (bodyOf Try.f28)) (retK Try.prog Try.f28 Q) noX (retK Try.prog Try.f28 Q) ρ) ((.pointer e0) :: us 3 ((.string key4) :: us 1 ((.pointer (some ⟨n6_b, n6_o, none⟩)) :: us 50 [])))
def lirs_Engine_Evict_j1 (jn : Jn) (Q : Value → WP)  (e0 : Option Addr) : WP := jn 12 (fun ρ => codeI Try.prog lirs_Engine_Evict_kp jn (cAt [true, true, true] (bodyOf Try.f28)) (retK Try.prog Try.f28 Q) noX (retK Try.prog Try.f28 Q) ρ) ((.pointer e0) :: us 56 [])
def lirs_Engine_Evict (e0 : Option Addr) (Q : Value → WP) : WP := funJ idJ Try.prog lirs_Engine_Evict_kp Try.f28 [.pointer e0] Q
theorem lirs_Engine_Evict_j2_raw (jn : Jn) (Q : Value → WP)  (e0 : Option Addr) (key4 : ByteArray) (n6_b : Nat) (n6_o : Nat) : codeI Try.prog lirs_Engine_Evict_kp jn (cAt [true, true, true, true, true, true, true, true] (bodyOf Try.f28)) (retK Try.prog Try.f28 Q) noX (retK Try.prog Try.f28 Q) ((.pointer e0) :: us 3 ((.string key4) :: us 1 ((.pointer (some ⟨n6_b, n6_o, none⟩)) :: us 50 []))) = (
  ld (.int .i64) n6_b n6_o fun (x_24 : Int) =>
  ld (.int .i64) n6_b (n6_o + 1) fun (x_25 : Int) =>
  ld (.int .i64) n6_b ((n6_o + 1) + 1) fun (x_26 : Int) =>
  call0 Try.prog id_lirs_Engine_set [.pointer e0, .string key4, .agg #[.int .i64 x_24, .int .i64 x_25, .int .i64 x_26]] <|
  call0 Try.prog id_lirs_Engine_forgets [.pointer e0] <|
  call0 Try.prog id_lirs_Engine_prunes [.pointer e0] <|
  Q (.tuple #[.string key4, .bool true])) := by kernel_rfl
theorem lirs_Engine_Evict_j2_def (Q : Value → WP)  (e0 : Option Addr) (key4 : ByteArray) (n6_b : Nat) (n6_o : Nat) : lirs_Engine_Evict_j2 idJ Q  e0 key4 n6_b n6_o = codeI Try.prog lirs_Engine_Evict_kp idJ (cAt [true, true, true, true, true, true, true, true] (bodyOf Try.f28)) (retK Try.prog Try.f28 Q) noX (retK Try.prog Try.f28 Q) ((.pointer e0) :: us 3 ((.string key4) :: us 1 ((.pointer (some ⟨n6_b, n6_o, none⟩)) :: us 50 []))) := by kernel_rfl
theorem lirs_Engine_Evict_j1_raw (jn : Jn) (Q : Value → WP)  (e0 : Option Addr) : codeI Try.prog lirs_Engine_Evict_kp jn (cAt [true, true, true] (bodyOf Try.f28)) (retK Try.prog Try.f28 Q) noX (retK Try.prog Try.f28 Q) ((.pointer e0) :: us 56 []) = (
  drawW fun S =>
  nilck e0 fun b_6 o_7 =>
  ldS S .ptr b_6 (o_7 + 3) fun (x_8 : Option Addr) =>
  nilck e0 fun b_9 o_10 =>
  ld .ptr b_9 (o_10 + 3) fun (x_11 : Option Addr) =>
  keepS true S <|
  call1 (.int .i64) Try.prog id_list_List_string_Front [.pointer x_11] fun (x_12 : Int) =>
  keepS true S <|
  call2 .str .bool Try.prog id_list_List_string_Get [.pointer x_8, .int .i64 x_12] fun (x_13 : ByteArray) (x_14 : Bool) =>
  nilck e0 fun b_15 o_16 =>
  ld .ptr b_15 (o_16 + 4) fun (x_17 : Option Addr) =>
  fun w => Calls Try.prog id_index_Index_lirs_entry_Get #[.pointer x_17, .string x_13] w fun e w' => ∃ x_18 : Int, ∃ x_19 : Int, ∃ x_20 : Int, ∃ x_21 : Bool, e = .returned (.tuple #[.agg #[.int .i64 x_18, .int .i64 x_19, .int .i64 x_20], .bool x_21]) ∧ (
  newB [.int .i64 (0 : Int), .int .i64 (0 : Int), .int .i64 (0 : Int)] ty_lirs_entry fun b_22 =>
  st b_22 0 (.int .i64 x_18) <|
  st b_22 1 (.int .i64 x_19) <|
  st b_22 2 (.int .i64 x_20) <|
  call0 Try.prog id_lirs_Engine_leaves [.pointer e0, .pointer (some ⟨b_22, 0, none⟩)] <|
  st b_22 0 (.int .i64 (3 : Int)) <|
  ld (.int .i64) b_22 1 fun (x_23 : Int) =>
  ite2 (x_23 == (0 : Int)) (
  st b_22 0 (.int .i64 (0 : Int)) <|
  lirs_Engine_Evict_j2 jn Q  e0 x_13 b_22 0) (
  lirs_Engine_Evict_j2 jn Q  e0 x_13 b_22 0)) w') := by kernel_rfl
theorem lirs_Engine_Evict_j1_def (Q : Value → WP)  (e0 : Option Addr) : lirs_Engine_Evict_j1 idJ Q  e0 = codeI Try.prog lirs_Engine_Evict_kp idJ (cAt [true, true, true] (bodyOf Try.f28)) (retK Try.prog Try.f28 Q) noX (retK Try.prog Try.f28 Q) ((.pointer e0) :: us 56 []) := by kernel_rfl
theorem lirs_Engine_Evict_raw (jn : Jn) (e0 : Option Addr) (Q : Value → WP) : funJ jn Try.prog lirs_Engine_Evict_kp Try.f28 [.pointer e0] Q = (
  call1 (.int .i64) Try.prog id_lirs_Engine_Len [.pointer e0] fun (x_1 : Int) =>
  ite2 (x_1 == (0 : Int)) (
  Q (.tuple #[.string str_empty, .bool false])) (
  nilck e0 fun b_2 o_3 =>
  ld .ptr b_2 (o_3 + 3) fun (x_4 : Option Addr) =>
  call1 (.int .i64) Try.prog id_list_List_string_Len [.pointer x_4] fun (x_5 : Int) =>
  ite2 (x_5 == (0 : Int)) (
  call0 Try.prog id_lirs_Engine_cools [.pointer e0] <|
  lirs_Engine_Evict_j1 jn Q  e0) (
  lirs_Engine_Evict_j1 jn Q  e0))) := by kernel_rfl
theorem lirs_Engine_Evict_def (e0 : Option Addr) (Q : Value → WP) : lirs_Engine_Evict e0 Q = funJ idJ Try.prog lirs_Engine_Evict_kp Try.f28 [.pointer e0] Q := rfl
theorem lirs_Engine_Evict_calls {e0 : Option Addr} {Q : Value → WP} {w : World} (h : lirs_Engine_Evict e0 Q w) : Calls Try.prog id_lirs_Engine_Evict #[.pointer e0] w fun e w' => ∃ v, e = .returned v ∧ Q v w' :=
  funJ_calls mixed Try.func28 rfl h

end Go.Proofs.Ytgmhoenmhnlojaa
