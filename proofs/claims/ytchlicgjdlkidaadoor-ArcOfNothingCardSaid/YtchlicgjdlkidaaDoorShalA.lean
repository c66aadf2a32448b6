/- Printed by a program of mine (wip/tools/shal.py): the shallow texts of the loaded functions, each equal to the interpreter's reading by the kernel. -/
import Derived.Test.YtchlicgjdlkidaaDoorSound7
import Derived.Test.YtchlicgjdlkidaaDoorChecked
import Derived.KernelRfl
set_option linter.unusedVariables false
set_option maxRecDepth 100000
namespace Go.Proofs.YtchlicgjdlkidaaDoor
open Go.Hb

theorem mixed : Tryd.prog.follows .mixedOrders = true := by kernel_rfl
abbrev ty_int : TypeId := 3
abbrev ty_uint8 : TypeId := 5
abbrev ty_string : TypeId := 9
abbrev ty_hoardlaw10_Act : TypeId := 43
abbrev ty_arc_rows : TypeId := 54
abbrev ty_arc_Engine : TypeId := 57
abbrev ty_hoardref10_Engine : TypeId := 64
abbrev ty_arc_place : TypeId := 71
abbrev ty_p_list_List_string : TypeId := 73
abbrev ty_index_Index_arc_place : TypeId := 94
abbrev ty_list_List_string : TypeId := 97
abbrev ty_index_place_arc_place : TypeId := 101
abbrev ty_list_link_string : TypeId := 105
abbrev ty_24_uint8 : TypeId := 116
abbrev id_hoardlaw10_ArcFits : FuncId := 3
abbrev id_hoardlaw10_ArcOne : FuncId := 4
abbrev id_hoardlaw10_ArcCounts : FuncId := 5
abbrev id_hoardlaw10_ArcOften : FuncId := 6
abbrev id_hoardlaw10_ArcTold : FuncId := 7
abbrev id_hoardlaw10_ArcEmpties : FuncId := 8
abbrev id_hoardlaw10_ArcLoads : FuncId := 9
abbrev id_hoardlaw10_ArcRemoves : FuncId := 10
abbrev id_hoardlaw10_ArcOwn : FuncId := 11
abbrev id_hoardlaw10_ArcPlays : FuncId := 12
abbrev id_hoardlaw10_ArcBounds : FuncId := 13
abbrev id_hoardlaw10_ArcOfNothing : FuncId := 14
abbrev id_hoardlaw10_long : FuncId := 15
abbrev id_arc_New : FuncId := 16
abbrev id_hoardlaw10_has : FuncId := 17
abbrev id_hoardlaw10_known : FuncId := 18
abbrev id_arc_Engine_Access : FuncId := 19
abbrev id_arc_Engine_Len : FuncId := 20
abbrev id_hoardlaw10_texts : FuncId := 21
abbrev id_arc_Engine_Keys : FuncId := 22
abbrev id_arc_Engine_Has : FuncId := 23
abbrev id_hoardlaw10_cut : FuncId := 24
abbrev id_hoardlaw10_heavy : FuncId := 25
abbrev id_hoardref10_New : FuncId := 26
abbrev id_hoardlaw10_act : FuncId := 27
abbrev id_arc_Engine_Evict : FuncId := 28
abbrev id_arc_Engine_Load : FuncId := 29
abbrev id_arc_Engine_Room : FuncId := 30
abbrev id_arc_Engine_Remove : FuncId := 31
abbrev id_arc_Engine_Ghosts : FuncId := 32
abbrev id_arc_Engine_State : FuncId := 33
abbrev id_hoardref10_Engine_State : FuncId := 34
abbrev id_hoardref10_Engine_Keys : FuncId := 35
abbrev id_hoardref10_Engine_Len : FuncId := 36
abbrev id_hoardref10_Engine_Ghosts : FuncId := 37
abbrev id_hoardref10_Engine_Room : FuncId := 38
abbrev id_hoardlaw10_bounded : FuncId := 39
abbrev id_arc_newRows : FuncId := 40
abbrev id_arc_rows_where : FuncId := 41
abbrev id_arc_rows_push : FuncId := 42
abbrev id_arc_rows_many : FuncId := 43
abbrev id_arc_Engine_replaces : FuncId := 44
abbrev id_arc_Engine_comes : FuncId := 45
abbrev id_arc_rows_keys : FuncId := 46
abbrev id_hoardref10_Engine_Access : FuncId := 47
abbrev id_hoardref10_Engine_Load : FuncId := 48
abbrev id_hoardref10_Engine_Remove : FuncId := 49
abbrev id_hoardref10_Engine_Evict : FuncId := 50
abbrev id_hoardref10_Engine_Has : FuncId := 51
abbrev id_arc_Engine_ousts : FuncId := 52
abbrev id_arc_rows_drop : FuncId := 53
abbrev id_arc_rows_oldest : FuncId := 54
abbrev id_strings_Join : FuncId := 55
abbrev id_arc_text : FuncId := 56
abbrev id_strconv_Itoa : FuncId := 57
abbrev id_hoardref10_text : FuncId := 58
abbrev id_hoardref10_digits : FuncId := 59
abbrev id_index_New_arc_place : FuncId := 60
abbrev id_list_New_string : FuncId := 61
abbrev id_index_Index_arc_place_Get : FuncId := 62
abbrev id_index_Index_arc_place_Put : FuncId := 63
abbrev id_list_List_string_PushBack : FuncId := 64
abbrev id_list_List_string_Len : FuncId := 65
abbrev id_list_List_string_All : FuncId := 66
abbrev id_hoardref10_cut : FuncId := 67
abbrev id_hoardref10_has : FuncId := 68
abbrev id_hoardref10_Engine_known : FuncId := 69
abbrev id_hoardref10_Engine_fresh : FuncId := 70
abbrev id_hoardref10_Engine_goes : FuncId := 71
abbrev id_index_Index_arc_place_Delete : FuncId := 72
abbrev id_list_List_string_Remove : FuncId := 73
abbrev id_list_List_string_Get : FuncId := 74
abbrev id_list_List_string_Front : FuncId := 75
abbrev id_strings_Builder_WriteString : FuncId := 77
abbrev id_internal_strconv_Itoa : FuncId := 79
abbrev id_index_Index_arc_place_find : FuncId := 80
abbrev id_index_Index_arc_place_lays : FuncId := 81
abbrev id_index_Index_arc_place_grows : FuncId := 82
abbrev id_list_List_string_take : FuncId := 83
abbrev id_list_List_string_lays : FuncId := 84
abbrev id_list_List_string_Next : FuncId := 85
abbrev id_hoardref10_Engine_replace : FuncId := 86
abbrev id_list_List_string_lifts : FuncId := 87
abbrev id_list_List_string_has : FuncId := 88
abbrev id_strings_Builder_copyCheck : FuncId := 89
abbrev id_internal_strconv_FormatInt : FuncId := 91
abbrev id_mix_Place : FuncId := 92
abbrev id_mix_Hash : FuncId := 93
abbrev id_internal_strconv_small : FuncId := 96
abbrev id_internal_strconv_numDigits : FuncId := 97
abbrev id_internal_strconv_formatBase10 : FuncId := 98
abbrev id_mix_Mix : FuncId := 100
abbrev id_internal_strconv_log10Pow2 : FuncId := 101
abbrev id_math_bits_Len64 : FuncId := 102
abbrev id_internal_strconv_bool2_int : FuncId := 103
abbrev id_internal_strconv_isPowerOfTwo : FuncId := 104
abbrev id_math_bits_TrailingZeros : FuncId := 105
abbrev id_math_bits_TrailingZeros32 : FuncId := 106
abbrev id_math_bits_TrailingZeros64 : FuncId := 107
def str_00010203040506070809 : ByteArray := ⟨#[48, 48, 48, 49, 48, 50, 48, 51, 48, 52, 48, 53, 48, 54, 48, 55, 48, 56, 48, 57, 49, 48, 49, 49, 49, 50, 49, 51, 49, 52, 49, 53, 49, 54, 49, 55, 49, 56, 49, 57, 50, 48, 50, 49, 50, 50, 50, 51, 50, 52, 50, 53, 50, 54, 50, 55, 50, 56, 50, 57, 51, 48, 51, 49, 51, 50, 51, 51, 51, 52, 51, 53, 51, 54, 51, 55, 51, 56, 51, 57, 52, 48, 52, 49, 52, 50, 52, 51, 52, 52, 52, 53, 52, 54, 52, 55, 52, 56, 52, 57, 53, 48, 53, 49, 53, 50, 53, 51, 53, 52, 53, 53, 53, 54, 53, 55, 53, 56, 53, 57, 54, 48, 54, 49, 54, 50, 54, 51, 54, 52, 54, 53, 54, 54, 54, 55, 54, 56, 54, 57, 55, 48, 55, 49, 55, 50, 55, 51, 55, 52, 55, 53, 55, 54, 55, 55, 55, 56, 55, 57, 56, 48, 56, 49, 56, 50, 56, 51, 56, 52, 56, 53, 56, 54, 56, 55, 56, 56, 56, 57, 57, 48, 57, 49, 57, 50, 57, 51, 57, 52, 57, 53, 57, 54, 57, 55, 57, 56, 57, 57]⟩
def str_0123456789abcdefghij : ByteArray := ⟨#[48, 49, 50, 51, 52, 53, 54, 55, 56, 57, 97, 98, 99, 100, 101, 102, 103, 104, 105, 106, 107, 108, 109, 110, 111, 112, 113, 114, 115, 116, 117, 118, 119, 120, 121, 122]⟩
def str_B1 : ByteArray := ⟨#[66, 49]⟩
def str_B2 : ByteArray := ⟨#[66, 50]⟩
def str_T1 : ByteArray := ⟨#[84, 49]⟩
def str_T1__c_T2__a_B1__b_B2 : ByteArray := ⟨#[84, 49, 58, 32, 99, 59, 84, 50, 58, 32, 97, 59, 66, 49, 58, 32, 98, 59, 66, 50, 58, 59, 112, 58, 32, 48]⟩
def str_T2 : ByteArray := ⟨#[84, 50]⟩
def str__ : ByteArray := ⟨#[59]⟩
def str_____________________ : ByteArray := ⟨#[0, 1, 2, 2, 3, 3, 3, 3, 4, 4, 4, 4, 4, 4, 4, 4, 5, 5, 5, 5, 5, 5, 5, 5, 5, 5, 5, 5, 5, 5, 5, 5, 6, 6, 6, 6, 6, 6, 6, 6, 6, 6, 6, 6, 6, 6, 6, 6, 6, 6, 6, 6, 6, 6, 6, 6, 6, 6, 6, 6, 6, 6, 6, 6, 7, 7, 7, 7, 7, 7, 7, 7, 7, 7, 7, 7, 7, 7, 7, 7, 7, 7, 7, 7, 7, 7, 7, 7, 7, 7, 7, 7, 7, 7, 7, 7, 7, 7, 7, 7, 7, 7, 7, 7, 7, 7, 7, 7, 7, 7, 7, 7, 7, 7, 7, 7, 7, 7, 7, 7, 7, 7, 7, 7, 7, 7, 7, 7, 8, 8, 8, 8, 8, 8, 8, 8, 8, 8, 8, 8, 8, 8, 8, 8, 8, 8, 8, 8, 8, 8, 8, 8, 8, 8, 8, 8, 8, 8, 8, 8, 8, 8, 8, 8, 8, 8, 8, 8, 8, 8, 8, 8, 8, 8, 8, 8, 8, 8, 8, 8, 8, 8, 8, 8, 8, 8, 8, 8, 8, 8, 8, 8, 8, 8, 8, 8, 8, 8, 8, 8, 8, 8, 8, 8, 8, 8, 8, 8, 8, 8, 8, 8, 8, 8, 8, 8, 8, 8, 8, 8, 8, 8, 8, 8, 8, 8, 8, 8, 8, 8, 8, 8, 8, 8, 8, 8, 8, 8, 8, 8, 8, 8, 8, 8, 8, 8, 8, 8, 8, 8, 8, 8, 8, 8, 8, 8]⟩
def str__p__ : ByteArray := ⟨#[59, 112, 58, 32]⟩
def str__x : ByteArray := ⟨#[58]⟩
def str__xx : ByteArray := ⟨#[32]⟩
def str_a : ByteArray := ⟨#[97]⟩
def str_b : ByteArray := ⟨#[98]⟩
def str_c : ByteArray := ⟨#[99]⟩
def str_empty : ByteArray := ⟨#[]⟩
def str_p__ : ByteArray := ⟨#[112, 58, 32]⟩
def str_spoilt : ByteArray := ⟨#[115, 112, 111, 105, 108, 116]⟩
/-- a drawn region behind who is done -/
def drS (P : Program) (kp : KP) (c : Code) (S : World → Prop) (n : Nat) (done : List Nat) (ρ : Env) (K : Env → WP) : WP := match c with
  | .region id ops _ => drawI P ops.toList S (ordOf kp id) (loadsOf ops.toList (ordOf kp id)) (mkTab ops.toList []) n done ρ K
  | _ => bot

-- hoard/hoardlaw10.long
def hoardlaw10_long_kp : KP := ⟨[(11, [0, 3]), (18, [])], []⟩
def hoardlaw10_long_j2 (jn : Jn) (Q : Value → WP)   : WP := jn 18 (fun ρ => codeI Tryd.prog hoardlaw10_long_kp jn (cAt [true, true, true] (bodyOf Tryd.f15)) (retK Tryd.prog Tryd.f15 Q) noX (retK Tryd.prog Tryd.f15 Q) ρ) (us 19 [])
def hoardlaw10_long_l1 (jn : Jn) (Q : Value → WP)  (m1 : Nat) (l0 : Sl) (i3 : Int) : WP := lop Tryd.prog hoardlaw10_long_kp jn (cAt [true, true, false, true, false, false] (bodyOf Tryd.f15)) (blkX 0 (seqK Tryd.prog hoardlaw10_long_kp jn (cAt [true, true, true] (bodyOf Tryd.f15)) (retK Tryd.prog Tryd.f15 Q) noX (retK Tryd.prog Tryd.f15 Q)) noX) (retK Tryd.prog Tryd.f15 Q) m1 ((.slice l0.a l0.n l0.c) :: us 2 ((.int .i64 i3) :: us 15 []))
def hoardlaw10_long (l0 : Sl) (Q : Value → WP) : WP := funJ idJ Tryd.prog hoardlaw10_long_kp Tryd.f15 [.slice l0.a l0.n l0.c] Q
theorem hoardlaw10_long_j2_raw (jn : Jn) (Q : Value → WP)   : codeI Tryd.prog hoardlaw10_long_kp jn (cAt [true, true, true] (bodyOf Tryd.f15)) (retK Tryd.prog Tryd.f15 Q) noX (retK Tryd.prog Tryd.f15 Q) (us 19 []) = (
  Q (.bool false)) := by kernel_rfl
theorem hoardlaw10_long_j2_def (Q : Value → WP)   : hoardlaw10_long_j2 idJ Q   = codeI Tryd.prog hoardlaw10_long_kp idJ (cAt [true, true, true] (bodyOf Tryd.f15)) (retK Tryd.prog Tryd.f15 Q) noX (retK Tryd.prog Tryd.f15 Q) (us 19 []) := by kernel_rfl
theorem hoardlaw10_long_l1_raw (jn : Jn) (Q : Value → WP)  (m1 : Nat) (l0 : Sl) (i3 : Int) : hoardlaw10_long_l1 jn Q  (m1 + 1) l0 i3 = (
  ite2 (decide (i3 < (l0.n : Int))) (
  idx l0.a l0.n i3 fun b_1 o_2 =>
  ld .str b_1 (o_2 + (i3).toNat * 1) fun (x_3 : ByteArray) =>
  ite2 (decide ((x_3.size : Int) > (40 : Int))) (
  Q (.bool true)) (
  hoardlaw10_long_l1 jn Q  m1 l0 (IntKind.wrap .i64 (i3 + (1 : Int))))) (
  hoardlaw10_long_j2 jn Q  )) := by kernel_rfl
theorem hoardlaw10_long_l1_zero (jn : Jn) (Q : Value → WP)  (l0 : Sl) (i3 : Int) : hoardlaw10_long_l1 jn Q  0 l0 i3 = bot := by kernel_rfl
theorem hoardlaw10_long_raw (jn : Jn) (l0 : Sl) (Q : Value → WP) : funJ jn Tryd.prog hoardlaw10_long_kp Tryd.f15 [.slice l0.a l0.n l0.c] Q = (
  ite2 (decide ((l0.n : Int) > (200 : Int))) (
  Q (.bool true)) (
  exM fun m => hoardlaw10_long_l1 jn Q  m l0 (0 : Int))) := by kernel_rfl
theorem hoardlaw10_long_def (l0 : Sl) (Q : Value → WP) : hoardlaw10_long l0 Q = funJ idJ Tryd.prog hoardlaw10_long_kp Tryd.f15 [.slice l0.a l0.n l0.c] Q := rfl
theorem hoardlaw10_long_calls {l0 : Sl} {Q : Value → WP} {w : World} (h : hoardlaw10_long l0 Q w) : Calls Tryd.prog id_hoardlaw10_long #[.slice l0.a l0.n l0.c] w fun e w' => ∃ v, e = .returned v ∧ Q v w' :=
  funJ_calls mixed Tryd.func15 rfl h

-- hoard/arc.New
def arc_New_kp : KP := ⟨[], []⟩
def arc_New (room0 : Int) (Q : Value → WP) : WP := funJ idJ Tryd.prog arc_New_kp Tryd.f16 [.int .i64 room0] Q
theorem arc_New_raw (jn : Jn) (room0 : Int) (Q : Value → WP) : funJ jn Tryd.prog arc_New_kp Tryd.f16 [.int .i64 room0] Q = (
  fun w => Calls Tryd.prog id_arc_newRows #[.int .i64 (4 : Int)] w fun e w' => ∃ x_1 : Sl, ∃ x_2 : Option Addr, e = .returned (.agg #[.slice x_1.a x_1.n x_1.c, .pointer x_2]) ∧ (
  newB [.slice x_1.a x_1.n x_1.c, .pointer x_2, .int .i64 (if (if (1024 : Int) < room0 then (1024 : Int) else room0) > (1 : Int) then (if (1024 : Int) < room0 then (1024 : Int) else room0) else (1 : Int)), .int .i64 (0 : Int)] ty_arc_Engine fun b_3 =>
  Q (.pointer (some ⟨b_3, 0, none⟩))) w') := by kernel_rfl
theorem arc_New_def (room0 : Int) (Q : Value → WP) : arc_New room0 Q = funJ idJ Tryd.prog arc_New_kp Tryd.f16 [.int .i64 room0] Q := rfl
theorem arc_New_calls {room0 : Int} {Q : Value → WP} {w : World} (h : arc_New room0 Q w) : Calls Tryd.prog id_arc_New #[.int .i64 room0] w fun e w' => ∃ v, e = .returned v ∧ Q v w' :=
  funJ_calls mixed Tryd.func16 rfl h

-- hoard/hoardlaw10.has
def hoardlaw10_has_kp : KP := ⟨[(7, [0, 1, 5]), (14, [])], []⟩
def hoardlaw10_has_j2 (jn : Jn) (Q : Value → WP)   : WP := jn 14 (fun ρ => codeI Tryd.prog hoardlaw10_has_kp jn (cAt [true, true] (bodyOf Tryd.f17)) (retK Tryd.prog Tryd.f17 Q) noX (retK Tryd.prog Tryd.f17 Q) ρ) (us 18 [])
def hoardlaw10_has_l1 (jn : Jn) (Q : Value → WP)  (m1 : Nat) (l0 : Sl) (key1 : ByteArray) (i5 : Int) : WP := lop Tryd.prog hoardlaw10_has_kp jn (cAt [true, false, true, false, false] (bodyOf Tryd.f17)) (blkX 0 (seqK Tryd.prog hoardlaw10_has_kp jn (cAt [true, true] (bodyOf Tryd.f17)) (retK Tryd.prog Tryd.f17 Q) noX (retK Tryd.prog Tryd.f17 Q)) noX) (retK Tryd.prog Tryd.f17 Q) m1 ((.slice l0.a l0.n l0.c) :: (.string key1) :: us 3 ((.int .i64 i5) :: us 12 []))
def hoardlaw10_has (l0 : Sl) (key1 : ByteArray) (Q : Value → WP) : WP := funJ idJ Tryd.prog hoardlaw10_has_kp Tryd.f17 [.slice l0.a l0.n l0.c, .string key1] Q
theorem hoardlaw10_has_j2_raw (jn : Jn) (Q : Value → WP)   : codeI Tryd.prog hoardlaw10_has_kp jn (cAt [true, true] (bodyOf Tryd.f17)) (retK Tryd.prog Tryd.f17 Q) noX (retK Tryd.prog Tryd.f17 Q) (us 18 []) = (
  Q (.bool false)) := by kernel_rfl
theorem hoardlaw10_has_j2_def (Q : Value → WP)   : hoardlaw10_has_j2 idJ Q   = codeI Tryd.prog hoardlaw10_has_kp idJ (cAt [true, true] (bodyOf Tryd.f17)) (retK Tryd.prog Tryd.f17 Q) noX (retK Tryd.prog Tryd.f17 Q) (us 18 []) := by kernel_rfl
theorem hoardlaw10_has_l1_raw (jn : Jn) (Q : Value → WP)  (m1 : Nat) (l0 : Sl) (key1 : ByteArray) (i5 : Int) : hoardlaw10_has_l1 jn Q  (m1 + 1) l0 key1 i5 = (
  ite2 (decide (i5 < (l0.n : Int))) (
  idx l0.a l0.n i5 fun b_1 o_2 =>
  ld .str b_1 (o_2 + (i5).toNat * 1) fun (x_3 : ByteArray) =>
  ite2 (sEq x_3 key1) (
  Q (.bool true)) (
  hoardlaw10_has_l1 jn Q  m1 l0 key1 (IntKind.wrap .i64 (i5 + (1 : Int))))) (
  hoardlaw10_has_j2 jn Q  )) := by kernel_rfl
theorem hoardlaw10_has_l1_zero (jn : Jn) (Q : Value → WP)  (l0 : Sl) (key1 : ByteArray) (i5 : Int) : hoardlaw10_has_l1 jn Q  0 l0 key1 i5 = bot := by kernel_rfl
theorem hoardlaw10_has_raw (jn : Jn) (l0 : Sl) (key1 : ByteArray) (Q : Value → WP) : funJ jn Tryd.prog hoardlaw10_has_kp Tryd.f17 [.slice l0.a l0.n l0.c, .string key1] Q = (
  exM fun m => hoardlaw10_has_l1 jn Q  m l0 key1 (0 : Int)) := by kernel_rfl
theorem hoardlaw10_has_def (l0 : Sl) (key1 : ByteArray) (Q : Value → WP) : hoardlaw10_has l0 key1 Q = funJ idJ Tryd.prog hoardlaw10_has_kp Tryd.f17 [.slice l0.a l0.n l0.c, .string key1] Q := rfl
theorem hoardlaw10_has_calls {l0 : Sl} {key1 : ByteArray} {Q : Value → WP} {w : World} (h : hoardlaw10_has l0 key1 Q w) : Calls Tryd.prog id_hoardlaw10_has #[.slice l0.a l0.n l0.c, .string key1] w fun e w' => ∃ v, e = .returned v ∧ Q v w' :=
  funJ_calls mixed Tryd.func17 rfl h

-- hoard/hoardlaw10.known
def hoardlaw10_known_kp : KP := ⟨[(15, [1, 2, 3]), (20, [1])], []⟩
def hoardlaw10_known_j2 (jn : Jn) (Q : Value → WP)  (e1 : Option Addr) : WP := jn 20 (fun ρ => codeI Tryd.prog hoardlaw10_known_kp jn (cAt [true, true, true, true, true] (bodyOf Tryd.f18)) (retK Tryd.prog Tryd.f18 Q) noX (retK Tryd.prog Tryd.f18 Q) ρ) (us 1 ((.pointer e1) :: us 21 []))
def hoardlaw10_known_l1 (jn : Jn) (Q : Value → WP)  (m1 : Nat) (e1 : Option Addr) (l2 : Sl) (i3 : Int) : WP := lop Tryd.prog hoardlaw10_known_kp jn (cAt [true, true, true, true, false, true, false, false] (bodyOf Tryd.f18)) (blkX 0 (seqK Tryd.prog hoardlaw10_known_kp jn (cAt [true, true, true, true, true] (bodyOf Tryd.f18)) (retK Tryd.prog Tryd.f18 Q) noX (retK Tryd.prog Tryd.f18 Q)) noX) (retK Tryd.prog Tryd.f18 Q) m1 (us 1 ((.pointer e1) :: (.slice l2.a l2.n l2.c) :: (.int .i64 i3) :: us 19 []))
def hoardlaw10_known  (Q : Value → WP) : WP := funJ idJ Tryd.prog hoardlaw10_known_kp Tryd.f18 [] Q
theorem hoardlaw10_known_j2_raw (jn : Jn) (Q : Value → WP)  (e1 : Option Addr) : codeI Tryd.prog hoardlaw10_known_kp jn (cAt [true, true, true, true, true] (bodyOf Tryd.f18)) (retK Tryd.prog Tryd.f18 Q) noX (retK Tryd.prog Tryd.f18 Q) (us 1 ((.pointer e1) :: us 21 [])) = (
  call1 .str Tryd.prog id_arc_Engine_State [.pointer e1] fun (x_8 : ByteArray) =>
  Q (.bool (sEq x_8 str_T1__c_T2__a_B1__b_B2))) := by kernel_rfl
theorem hoardlaw10_known_j2_def (Q : Value → WP)  (e1 : Option Addr) : hoardlaw10_known_j2 idJ Q  e1 = codeI Tryd.prog hoardlaw10_known_kp idJ (cAt [true, true, true, true, true] (bodyOf Tryd.f18)) (retK Tryd.prog Tryd.f18 Q) noX (retK Tryd.prog Tryd.f18 Q) (us 1 ((.pointer e1) :: us 21 [])) := by kernel_rfl
theorem hoardlaw10_known_l1_raw (jn : Jn) (Q : Value → WP)  (m1 : Nat) (e1 : Option Addr) (l2 : Sl) (i3 : Int) : hoardlaw10_known_l1 jn Q  (m1 + 1) e1 l2 i3 = (
  ite2 (decide (i3 < (l2.n : Int))) (
  idx l2.a l2.n i3 fun b_3 o_4 =>
  ld .str b_3 (o_4 + (i3).toNat * 1) fun (x_5 : ByteArray) =>
  call2 .bool .slc Tryd.prog id_arc_Engine_Access [.pointer e1, .string x_5] fun (x_6 : Bool) (x_7 : Sl) =>
  hoardlaw10_known_l1 jn Q  m1 e1 l2 (IntKind.wrap .i64 (i3 + (1 : Int)))) (
  hoardlaw10_known_j2 jn Q  e1)) := by kernel_rfl
theorem hoardlaw10_known_l1_zero (jn : Jn) (Q : Value → WP)  (e1 : Option Addr) (l2 : Sl) (i3 : Int) : hoardlaw10_known_l1 jn Q  0 e1 l2 i3 = bot := by kernel_rfl
theorem hoardlaw10_known_raw (jn : Jn)  (Q : Value → WP) : funJ jn Tryd.prog hoardlaw10_known_kp Tryd.f18 [] Q = (
  call1 .ptr Tryd.prog id_arc_New [.int .i64 (2 : Int)] fun (x_1 : Option Addr) =>
  ite2 (Option.isNone x_1) (
  Q (.bool false)) (
  newB [.string str_a, .string str_a, .string str_b, .string str_c] ty_string fun b_2 =>
  exM fun m => hoardlaw10_known_l1 jn Q  m x_1 ⟨(some ⟨b_2, 0, none⟩), 4, 4⟩ (0 : Int))) := by kernel_rfl
theorem hoardlaw10_known_def  (Q : Value → WP) : hoardlaw10_known  Q = funJ idJ Tryd.prog hoardlaw10_known_kp Tryd.f18 [] Q := rfl
theorem hoardlaw10_known_calls {Q : Value → WP} {w : World} (h : hoardlaw10_known Q w) : Calls Tryd.prog id_hoardlaw10_known #[] w fun e w' => ∃ v, e = .returned v ∧ Q v w' :=
  funJ_calls mixed Tryd.func18 rfl h

-- (*hoard/arc.Engine).Access
def arc_Engine_Access_kp : KP := ⟨[(24, [0, 1, 16, 26]), (40, [0, 1, 6])], [(14, [0, 1, 2, 3, 4, 5, 6, 7, 8, 9, 10, 11, 12, 15, 16, 17, 18, 21, 22, 23, 24, 25, 26]), (17, [0, 1, 2, 3, 4, 5, 6, 7, 8, 11, 12, 13, 14, 17, 18, 19, 20, 21, 22])]⟩
def arc_Engine_Access_j2 (jn : Jn) (Q : Value → WP)  (e0 : Option Addr) (key1 : ByteArray) (gone6 : Sl) : WP := jn 40 (fun ρ => codeI Tryd.prog arc_Engine_Access_kp jn (cAt [true, true, true, true, true] (bodyOf Tryd.f19)) (retK Tryd.prog Tryd.f19 Q) noX (retK Tryd.prog Tryd.f19 Q) ρ) ((.pointer e0) :: (.string key1) :: us 4 ((.slice gone6.a gone6.n gone6.c) :: us 93 []))
def arc_Engine_Access_j1 (jn : Jn) (Q : Value → WP)  (e0 : Option Addr) (key1 : ByteArray) (t16 : Int) (t26 : Bool) : WP := jn 24 (fun ρ => codeI Tryd.prog arc_Engine_Access_kp jn (cAt [true, true, true, true, false, true, false, true] (bodyOf Tryd.f19)) (seqK Tryd.prog arc_Engine_Access_kp jn (cAt [true, true, true, true, true] (bodyOf Tryd.f19)) (retK Tryd.prog Tryd.f19 Q) noX (retK Tryd.prog Tryd.f19 Q)) (blkX 0 (seqK Tryd.prog arc_Engine_Access_kp jn (cAt [true, true, true, true, true] (bodyOf Tryd.f19)) (retK Tryd.prog Tryd.f19 Q) noX (retK Tryd.prog Tryd.f19 Q)) noX) (retK Tryd.prog Tryd.f19 Q) ρ) ((.pointer e0) :: (.string key1) :: us 14 ((.int .i64 t16) :: us 9 ((.bool t26) :: us 73 [])))
def arc_Engine_Access (e0 : Option Addr) (key1 : ByteArray) (Q : Value → WP) : WP := funJ idJ Tryd.prog arc_Engine_Access_kp Tryd.f19 [.pointer e0, .string key1] Q
theorem arc_Engine_Access_j2_raw (jn : Jn) (Q : Value → WP)  (e0 : Option Addr) (key1 : ByteArray) (gone6 : Sl) : codeI Tryd.prog arc_Engine_Access_kp jn (cAt [true, true, true, true, true] (bodyOf Tryd.f19)) (retK Tryd.prog Tryd.f19 Q) noX (retK Tryd.prog Tryd.f19 Q) ((.pointer e0) :: (.string key1) :: us 4 ((.slice gone6.a gone6.n gone6.c) :: us 93 [])) = (
  nilck e0 fun b_31 o_32 =>
  ld .slc b_31 o_32 fun (x_33 : Sl) =>
  ld .ptr b_31 (o_32 + 1) fun (x_34 : Option Addr) =>
  call0 Tryd.prog id_arc_rows_push [.agg #[.slice x_33.a x_33.n x_33.c, .pointer x_34], .int .i64 (1 : Int), .string key1] <|
  Q (.tuple #[.bool false, .slice gone6.a gone6.n gone6.c])) := by kernel_rfl
theorem arc_Engine_Access_j2_def (Q : Value → WP)  (e0 : Option Addr) (key1 : ByteArray) (gone6 : Sl) : arc_Engine_Access_j2 idJ Q  e0 key1 gone6 = codeI Tryd.prog arc_Engine_Access_kp idJ (cAt [true, true, true, true, true] (bodyOf Tryd.f19)) (retK Tryd.prog Tryd.f19 Q) noX (retK Tryd.prog Tryd.f19 Q) ((.pointer e0) :: (.string key1) :: us 4 ((.slice gone6.a gone6.n gone6.c) :: us 93 [])) := by kernel_rfl
theorem arc_Engine_Access_j1_raw (jn : Jn) (Q : Value → WP)  (e0 : Option Addr) (key1 : ByteArray) (t16 : Int) (t26 : Bool) : codeI Tryd.prog arc_Engine_Access_kp jn (cAt [true, true, true, true, false, true, false, true] (bodyOf Tryd.f19)) (seqK Tryd.prog arc_Engine_Access_kp jn (cAt [true, true, true, true, true] (bodyOf Tryd.f19)) (retK Tryd.prog Tryd.f19 Q) noX (retK Tryd.prog Tryd.f19 Q)) (blkX 0 (seqK Tryd.prog arc_Engine_Access_kp jn (cAt [true, true, true, true, true] (bodyOf Tryd.f19)) (retK Tryd.prog Tryd.f19 Q) noX (retK Tryd.prog Tryd.f19 Q)) noX) (retK Tryd.prog Tryd.f19 Q) ((.pointer e0) :: (.string key1) :: us 14 ((.int .i64 t16) :: us 9 ((.bool t26) :: us 73 []))) = (
  ite2 t26 (
  nilck e0 fun b_6 o_7 =>
  ld .slc b_6 o_7 fun (x_8 : Sl) =>
  ld .ptr b_6 (o_7 + 1) fun (x_9 : Option Addr) =>
  call0 Tryd.prog id_arc_rows_push [.agg #[.slice x_8.a x_8.n x_8.c, .pointer x_9], .int .i64 (1 : Int), .string key1] <|
  Q (.tuple #[.bool true, .slice (none : Option Addr) 0 0])) (
  ite2 (t16 == (2 : Int)) (
  drawW fun S =>
  nilck e0 fun b_10 o_11 =>
  ldS S (.int .i64) b_10 (o_11 + 2) fun (x_12 : Int) =>
  nilck e0 fun b_13 o_14 =>
  ldS S (.int .i64) b_13 (o_14 + 3) fun (x_15 : Int) =>
  nilck e0 fun b_16 o_17 =>
  ldS S .slc b_16 o_17 fun (x_18 : Sl) =>
  ldS S .ptr b_16 (o_17 + 1) fun (x_19 : Option Addr) =>
  nilck e0 fun b_20 o_21 =>
  ldS S .slc b_20 o_21 fun (x_22 : Sl) =>
  ldS S .ptr b_20 (o_21 + 1) fun (x_23 : Option Addr) =>
  allW [
  (newB [.int .i64 (3 : Int)] ty_int fun b_24 =>
  keepS true S <|
  allW [
  (call1 (.int .i64) Tryd.prog id_arc_rows_many [.agg #[.slice x_18.a x_18.n x_18.c, .pointer x_19], .slice (some ⟨b_24, 0, none⟩) 1 1] fun (x_25 : Int) =>
  keepS true S <|
  newB [.int .i64 (2 : Int)] ty_int fun b_26 =>
  keepS true S <|
  call1 (.int .i64) Tryd.prog id_arc_rows_many [.agg #[.slice x_22.a x_22.n x_22.c, .pointer x_23], .slice (some ⟨b_26, 0, none⟩) 1 1] fun (x_27 : Int) =>
  keepS true S <|
  when (x_27 ≠ 0) <|
  nilck e0 fun b_28 o_29 =>
  st b_28 (o_29 + 3) (.int .i64 (if (IntKind.wrap .i64 (x_15 + (if (IntKind.wrap .i64 (Int.tdiv x_25 x_27)) > (1 : Int) then (IntKind.wrap .i64 (Int.tdiv x_25 x_27)) else (1 : Int)))) < x_12 then (IntKind.wrap .i64 (x_15 + (if (IntKind.wrap .i64 (Int.tdiv x_25 x_27)) > (1 : Int) then (IntKind.wrap .i64 (Int.tdiv x_25 x_27)) else (1 : Int)))) else x_12)) <|
  call1 .slc Tryd.prog id_arc_Engine_replaces [.pointer e0, .bool false] fun (x_30 : Sl) =>
  arc_Engine_Access_j2 jn Q  e0 key1 x_30),
  (newB [.int .i64 (2 : Int)] ty_int fun b_35 =>
  keepS true S <|
  call1 (.int .i64) Tryd.prog id_arc_rows_many [.agg #[.slice x_18.a x_18.n x_18.c, .pointer x_19], .slice (some ⟨b_24, 0, none⟩) 1 1] fun (x_36 : Int) =>
  keepS true S <|
  call1 (.int .i64) Tryd.prog id_arc_rows_many [.agg #[.slice x_22.a x_22.n x_22.c, .pointer x_23], .slice (some ⟨b_35, 0, none⟩) 1 1] fun (x_37 : Int) =>
  keepS true S <|
  when (x_37 ≠ 0) <|
  nilck e0 fun b_38 o_39 =>
  st b_38 (o_39 + 3) (.int .i64 (if (IntKind.wrap .i64 (x_15 + (if (IntKind.wrap .i64 (Int.tdiv x_36 x_37)) > (1 : Int) then (IntKind.wrap .i64 (Int.tdiv x_36 x_37)) else (1 : Int)))) < x_12 then (IntKind.wrap .i64 (x_15 + (if (IntKind.wrap .i64 (Int.tdiv x_36 x_37)) > (1 : Int) then (IntKind.wrap .i64 (Int.tdiv x_36 x_37)) else (1 : Int)))) else x_12)) <|
  call1 .slc Tryd.prog id_arc_Engine_replaces [.pointer e0, .bool false] fun (x_40 : Sl) =>
  arc_Engine_Access_j2 jn Q  e0 key1 x_40)]),
  (newB [.int .i64 (2 : Int)] ty_int fun b_41 =>
  keepS true S <|
  newB [.int .i64 (3 : Int)] ty_int fun b_42 =>
  keepS true S <|
  call1 (.int .i64) Tryd.prog id_arc_rows_many [.agg #[.slice x_18.a x_18.n x_18.c, .pointer x_19], .slice (some ⟨b_42, 0, none⟩) 1 1] fun (x_43 : Int) =>
  keepS true S <|
  call1 (.int .i64) Tryd.prog id_arc_rows_many [.agg #[.slice x_22.a x_22.n x_22.c, .pointer x_23], .slice (some ⟨b_41, 0, none⟩) 1 1] fun (x_44 : Int) =>
  keepS true S <|
  when (x_44 ≠ 0) <|
  nilck e0 fun b_45 o_46 =>
  st b_45 (o_46 + 3) (.int .i64 (if (IntKind.wrap .i64 (x_15 + (if (IntKind.wrap .i64 (Int.tdiv x_43 x_44)) > (1 : Int) then (IntKind.wrap .i64 (Int.tdiv x_43 x_44)) else (1 : Int)))) < x_12 then (IntKind.wrap .i64 (x_15 + (if (IntKind.wrap .i64 (Int.tdiv x_43 x_44)) > (1 : Int) then (IntKind.wrap .i64 (Int.tdiv x_43 x_44)) else (1 : Int)))) else x_12)) <|
  call1 .slc Tryd.prog id_arc_Engine_replaces [.pointer e0, .bool false] fun (x_47 : Sl) =>
  arc_Engine_Access_j2 jn Q  e0 key1 x_47)]) (
  ite2 (t16 == (3 : Int)) (
  drawW fun S =>
  nilck e0 fun b_48 o_49 =>
  ldS S (.int .i64) b_48 (o_49 + 3) fun (x_50 : Int) =>
  nilck e0 fun b_51 o_52 =>
  ldS S .slc b_51 o_52 fun (x_53 : Sl) =>
  ldS S .ptr b_51 (o_52 + 1) fun (x_54 : Option Addr) =>
  nilck e0 fun b_55 o_56 =>
  ldS S .slc b_55 o_56 fun (x_57 : Sl) =>
  ldS S .ptr b_55 (o_56 + 1) fun (x_58 : Option Addr) =>
  allW [
  (newB [.int .i64 (2 : Int)] ty_int fun b_59 =>
  keepS true S <|
  allW [
  (call1 (.int .i64) Tryd.prog id_arc_rows_many [.agg #[.slice x_53.a x_53.n x_53.c, .pointer x_54], .slice (some ⟨b_59, 0, none⟩) 1 1] fun (x_60 : Int) =>
  keepS true S <|
  newB [.int .i64 (3 : Int)] ty_int fun b_61 =>
  keepS true S <|
  call1 (.int .i64) Tryd.prog id_arc_rows_many [.agg #[.slice x_57.a x_57.n x_57.c, .pointer x_58], .slice (some ⟨b_61, 0, none⟩) 1 1] fun (x_62 : Int) =>
  keepS true S <|
  when (x_62 ≠ 0) <|
  nilck e0 fun b_63 o_64 =>
  st b_63 (o_64 + 3) (.int .i64 (if (IntKind.wrap .i64 (x_50 - (if (IntKind.wrap .i64 (Int.tdiv x_60 x_62)) > (1 : Int) then (IntKind.wrap .i64 (Int.tdiv x_60 x_62)) else (1 : Int)))) > (0 : Int) then (IntKind.wrap .i64 (x_50 - (if (IntKind.wrap .i64 (Int.tdiv x_60 x_62)) > (1 : Int) then (IntKind.wrap .i64 (Int.tdiv x_60 x_62)) else (1 : Int)))) else (0 : Int))) <|
  call1 .slc Tryd.prog id_arc_Engine_replaces [.pointer e0, .bool true] fun (x_65 : Sl) =>
  arc_Engine_Access_j2 jn Q  e0 key1 x_65),
  (newB [.int .i64 (3 : Int)] ty_int fun b_66 =>
  keepS true S <|
  call1 (.int .i64) Tryd.prog id_arc_rows_many [.agg #[.slice x_53.a x_53.n x_53.c, .pointer x_54], .slice (some ⟨b_59, 0, none⟩) 1 1] fun (x_67 : Int) =>
  keepS true S <|
  call1 (.int .i64) Tryd.prog id_arc_rows_many [.agg #[.slice x_57.a x_57.n x_57.c, .pointer x_58], .slice (some ⟨b_66, 0, none⟩) 1 1] fun (x_68 : Int) =>
  keepS true S <|
  when (x_68 ≠ 0) <|
  nilck e0 fun b_69 o_70 =>
  st b_69 (o_70 + 3) (.int .i64 (if (IntKind.wrap .i64 (x_50 - (if (IntKind.wrap .i64 (Int.tdiv x_67 x_68)) > (1 : Int) then (IntKind.wrap .i64 (Int.tdiv x_67 x_68)) else (1 : Int)))) > (0 : Int) then (IntKind.wrap .i64 (x_50 - (if (IntKind.wrap .i64 (Int.tdiv x_67 x_68)) > (1 : Int) then (IntKind.wrap .i64 (Int.tdiv x_67 x_68)) else (1 : Int)))) else (0 : Int))) <|
  call1 .slc Tryd.prog id_arc_Engine_replaces [.pointer e0, .bool true] fun (x_71 : Sl) =>
  arc_Engine_Access_j2 jn Q  e0 key1 x_71)]),
  (newB [.int .i64 (3 : Int)] ty_int fun b_72 =>
  keepS true S <|
  newB [.int .i64 (2 : Int)] ty_int fun b_73 =>
  keepS true S <|
  call1 (.int .i64) Tryd.prog id_arc_rows_many [.agg #[.slice x_53.a x_53.n x_53.c, .pointer x_54], .slice (some ⟨b_73, 0, none⟩) 1 1] fun (x_74 : Int) =>
  keepS true S <|
  call1 (.int .i64) Tryd.prog id_arc_rows_many [.agg #[.slice x_57.a x_57.n x_57.c, .pointer x_58], .slice (some ⟨b_72, 0, none⟩) 1 1] fun (x_75 : Int) =>
  keepS true S <|
  when (x_75 ≠ 0) <|
  nilck e0 fun b_76 o_77 =>
  st b_76 (o_77 + 3) (.int .i64 (if (IntKind.wrap .i64 (x_50 - (if (IntKind.wrap .i64 (Int.tdiv x_74 x_75)) > (1 : Int) then (IntKind.wrap .i64 (Int.tdiv x_74 x_75)) else (1 : Int)))) > (0 : Int) then (IntKind.wrap .i64 (x_50 - (if (IntKind.wrap .i64 (Int.tdiv x_74 x_75)) > (1 : Int) then (IntKind.wrap .i64 (Int.tdiv x_74 x_75)) else (1 : Int)))) else (0 : Int))) <|
  call1 .slc Tryd.prog id_arc_Engine_replaces [.pointer e0, .bool true] fun (x_78 : Sl) =>
  arc_Engine_Access_j2 jn Q  e0 key1 x_78)]) (
  call1 .slc Tryd.prog id_arc_Engine_comes [.pointer e0] fun (x_79 : Sl) =>
  nilck e0 fun b_80 o_81 =>
  ld .slc b_80 o_81 fun (x_82 : Sl) =>
  ld .ptr b_80 (o_81 + 1) fun (x_83 : Option Addr) =>
  call0 Tryd.prog id_arc_rows_push [.agg #[.slice x_82.a x_82.n x_82.c, .pointer x_83], .int .i64 (0 : Int), .string key1] <|
  Q (.tuple #[.bool false, .slice x_79.a x_79.n x_79.c]))))) := by kernel_rfl
theorem arc_Engine_Access_j1_def (Q : Value → WP)  (e0 : Option Addr) (key1 : ByteArray) (t16 : Int) (t26 : Bool) : arc_Engine_Access_j1 idJ Q  e0 key1 t16 t26 = codeI Tryd.prog arc_Engine_Access_kp idJ (cAt [true, true, true, true, false, true, false, true] (bodyOf Tryd.f19)) (seqK Tryd.prog arc_Engine_Access_kp idJ (cAt [true, true, true, true, true] (bodyOf Tryd.f19)) (retK Tryd.prog Tryd.f19 Q) noX (retK Tryd.prog Tryd.f19 Q)) (blkX 0 (seqK Tryd.prog arc_Engine_Access_kp idJ (cAt [true, true, true, true, true] (bodyOf Tryd.f19)) (retK Tryd.prog Tryd.f19 Q) noX (retK Tryd.prog Tryd.f19 Q)) noX) (retK Tryd.prog Tryd.f19 Q) ((.pointer e0) :: (.string key1) :: us 14 ((.int .i64 t16) :: us 9 ((.bool t26) :: us 73 []))) := by kernel_rfl
theorem arc_Engine_Access_raw (jn : Jn) (e0 : Option Addr) (key1 : ByteArray) (Q : Value → WP) : funJ jn Tryd.prog arc_Engine_Access_kp Tryd.f19 [.pointer e0, .string key1] Q = (
  ite2 (Option.isNone e0) (
  Q (.tuple #[.bool false, .slice (none : Option Addr) 0 0])) (
  nilck e0 fun b_1 o_2 =>
  ld .slc b_1 o_2 fun (x_3 : Sl) =>
  ld .ptr b_1 (o_2 + 1) fun (x_4 : Option Addr) =>
  call1 (.int .i64) Tryd.prog id_arc_rows_where [.agg #[.slice x_3.a x_3.n x_3.c, .pointer x_4], .string key1] fun (x_5 : Int) =>
  ite2 (x_5 == (0 : Int)) (
  arc_Engine_Access_j1 jn Q  e0 key1 x_5 (x_5 == (0 : Int))) (
  arc_Engine_Access_j1 jn Q  e0 key1 x_5 (x_5 == (1 : Int))))) := by kernel_rfl
theorem arc_Engine_Access_def (e0 : Option Addr) (key1 : ByteArray) (Q : Value → WP) : arc_Engine_Access e0 key1 Q = funJ idJ Tryd.prog arc_Engine_Access_kp Tryd.f19 [.pointer e0, .string key1] Q := rfl
theorem arc_Engine_Access_calls {e0 : Option Addr} {key1 : ByteArray} {Q : Value → WP} {w : World} (h : arc_Engine_Access e0 key1 Q w) : Calls Tryd.prog id_arc_Engine_Access #[.pointer e0, .string key1] w fun e w' => ∃ v, e = .returned v ∧ Q v w' :=
  funJ_calls mixed Tryd.func19 rfl h

-- (*hoard/arc.Engine).Len
def arc_Engine_Len_kp : KP := ⟨[], []⟩
def arc_Engine_Len (e0 : Option Addr) (Q : Value → WP) : WP := funJ idJ Tryd.prog arc_Engine_Len_kp Tryd.f20 [.pointer e0] Q
theorem arc_Engine_Len_raw (jn : Jn) (e0 : Option Addr) (Q : Value → WP) : funJ jn Tryd.prog arc_Engine_Len_kp Tryd.f20 [.pointer e0] Q = (
  ite2 (Option.isNone e0) (
  Q (.int .i64 (0 : Int))) (
  nilck e0 fun b_1 o_2 =>
  ld .slc b_1 o_2 fun (x_3 : Sl) =>
  ld .ptr b_1 (o_2 + 1) fun (x_4 : Option Addr) =>
  newB [.int .i64 (0 : Int), .int .i64 (1 : Int)] ty_int fun b_5 =>
  call1 (.int .i64) Tryd.prog id_arc_rows_many [.agg #[.slice x_3.a x_3.n x_3.c, .pointer x_4], .slice (some ⟨b_5, 0, none⟩) 2 2] fun (x_6 : Int) =>
  Q (.int .i64 x_6))) := by kernel_rfl
theorem arc_Engine_Len_def (e0 : Option Addr) (Q : Value → WP) : arc_Engine_Len e0 Q = funJ idJ Tryd.prog arc_Engine_Len_kp Tryd.f20 [.pointer e0] Q := rfl
theorem arc_Engine_Len_calls {e0 : Option Addr} {Q : Value → WP} {w : World} (h : arc_Engine_Len e0 Q w) : Calls Tryd.prog id_arc_Engine_Len #[.pointer e0] w fun e w' => ∃ v, e = .returned v ∧ Q v w' :=
  funJ_calls mixed Tryd.func20 rfl h

-- hoard/hoardlaw10.texts
def hoardlaw10_texts_kp : KP := ⟨[(11, [0, 1, 5]), (18, [])], [(6, [0, 1, 2, 3, 4, 5, 6, 8])]⟩
def hoardlaw10_texts_j2 (jn : Jn) (Q : Value → WP)   : WP := jn 18 (fun ρ => codeI Tryd.prog hoardlaw10_texts_kp jn (cAt [true, true, true] (bodyOf Tryd.f21)) (retK Tryd.prog Tryd.f21 Q) noX (retK Tryd.prog Tryd.f21 Q) ρ) (us 26 [])
def hoardlaw10_texts_l1 (jn : Jn) (Q : Value → WP)  (m1 : Nat) (a0 : Sl) (b1 : Sl) (i5 : Int) : WP := lop Tryd.prog hoardlaw10_texts_kp jn (cAt [true, true, false, true, false, false] (bodyOf Tryd.f21)) (blkX 0 (seqK Tryd.prog hoardlaw10_texts_kp jn (cAt [true, true, true] (bodyOf Tryd.f21)) (retK Tryd.prog Tryd.f21 Q) noX (retK Tryd.prog Tryd.f21 Q)) noX) (retK Tryd.prog Tryd.f21 Q) m1 ((.slice a0.a a0.n a0.c) :: (.slice b1.a b1.n b1.c) :: us 3 ((.int .i64 i5) :: us 20 []))
def hoardlaw10_texts (a0 : Sl) (b1 : Sl) (Q : Value → WP) : WP := funJ idJ Tryd.prog hoardlaw10_texts_kp Tryd.f21 [.slice a0.a a0.n a0.c, .slice b1.a b1.n b1.c] Q
theorem hoardlaw10_texts_j2_raw (jn : Jn) (Q : Value → WP)   : codeI Tryd.prog hoardlaw10_texts_kp jn (cAt [true, true, true] (bodyOf Tryd.f21)) (retK Tryd.prog Tryd.f21 Q) noX (retK Tryd.prog Tryd.f21 Q) (us 26 []) = (
  Q (.bool true)) := by kernel_rfl
theorem hoardlaw10_texts_j2_def (Q : Value → WP)   : hoardlaw10_texts_j2 idJ Q   = codeI Tryd.prog hoardlaw10_texts_kp idJ (cAt [true, true, true] (bodyOf Tryd.f21)) (retK Tryd.prog Tryd.f21 Q) noX (retK Tryd.prog Tryd.f21 Q) (us 26 []) := by kernel_rfl
theorem hoardlaw10_texts_l1_raw (jn : Jn) (Q : Value → WP)  (m1 : Nat) (a0 : Sl) (b1 : Sl) (i5 : Int) : hoardlaw10_texts_l1 jn Q  (m1 + 1) a0 b1 i5 = (
  ite2 (decide (i5 < (a0.n : Int))) (
  drawW fun S =>
  idx a0.a a0.n i5 fun b_1 o_2 =>
  ldS S .str b_1 (o_2 + (i5).toNat * 1) fun (x_3 : ByteArray) =>
  idx b1.a b1.n i5 fun b_4 o_5 =>
  ld .str b_4 (o_5 + (i5).toNat * 1) fun (x_6 : ByteArray) =>
  keepS true S <|
  ite2 (!sEq x_3 x_6) (
  Q (.bool false)) (
  hoardlaw10_texts_l1 jn Q  m1 a0 b1 (IntKind.wrap .i64 (i5 + (1 : Int))))) (
  hoardlaw10_texts_j2 jn Q  )) := by kernel_rfl
theorem hoardlaw10_texts_l1_zero (jn : Jn) (Q : Value → WP)  (a0 : Sl) (b1 : Sl) (i5 : Int) : hoardlaw10_texts_l1 jn Q  0 a0 b1 i5 = bot := by kernel_rfl
theorem hoardlaw10_texts_raw (jn : Jn) (a0 : Sl) (b1 : Sl) (Q : Value → WP) : funJ jn Tryd.prog hoardlaw10_texts_kp Tryd.f21 [.slice a0.a a0.n a0.c, .slice b1.a b1.n b1.c] Q = (
  ite2 ((a0.n : Int) != (b1.n : Int)) (
  Q (.bool false)) (
  exM fun m => hoardlaw10_texts_l1 jn Q  m a0 b1 (0 : Int))) := by kernel_rfl
theorem hoardlaw10_texts_def (a0 : Sl) (b1 : Sl) (Q : Value → WP) : hoardlaw10_texts a0 b1 Q = funJ idJ Tryd.prog hoardlaw10_texts_kp Tryd.f21 [.slice a0.a a0.n a0.c, .slice b1.a b1.n b1.c] Q := rfl
theorem hoardlaw10_texts_calls {a0 : Sl} {b1 : Sl} {Q : Value → WP} {w : World} (h : hoardlaw10_texts a0 b1 Q w) : Calls Tryd.prog id_hoardlaw10_texts #[.slice a0.a a0.n a0.c, .slice b1.a b1.n b1.c] w fun e w' => ∃ v, e = .returned v ∧ Q v w' :=
  funJ_calls mixed Tryd.func21 rfl h

-- (*hoard/arc.Engine).Keys
def arc_Engine_Keys_kp : KP := ⟨[], []⟩
def arc_Engine_Keys (e0 : Option Addr) (Q : Value → WP) : WP := funJ idJ Tryd.prog arc_Engine_Keys_kp Tryd.f22 [.pointer e0] Q
theorem arc_Engine_Keys_raw (jn : Jn) (e0 : Option Addr) (Q : Value → WP) : funJ jn Tryd.prog arc_Engine_Keys_kp Tryd.f22 [.pointer e0] Q = (
  ite2 (Option.isNone e0) (
  Q (.slice (none : Option Addr) 0 0)) (
  nilck e0 fun b_1 o_2 =>
  ld .slc b_1 o_2 fun (x_3 : Sl) =>
  ld .ptr b_1 (o_2 + 1) fun (x_4 : Option Addr) =>
  newB [.int .i64 (0 : Int), .int .i64 (1 : Int)] ty_int fun b_5 =>
  call1 .slc Tryd.prog id_arc_rows_keys [.agg #[.slice x_3.a x_3.n x_3.c, .pointer x_4], .slice (some ⟨b_5, 0, none⟩) 2 2] fun (x_6 : Sl) =>
  Q (.slice x_6.a x_6.n x_6.c))) := by kernel_rfl
theorem arc_Engine_Keys_def (e0 : Option Addr) (Q : Value → WP) : arc_Engine_Keys e0 Q = funJ idJ Tryd.prog arc_Engine_Keys_kp Tryd.f22 [.pointer e0] Q := rfl
theorem arc_Engine_Keys_calls {e0 : Option Addr} {Q : Value → WP} {w : World} (h : arc_Engine_Keys e0 Q w) : Calls Tryd.prog id_arc_Engine_Keys #[.pointer e0] w fun e w' => ∃ v, e = .returned v ∧ Q v w' :=
  funJ_calls mixed Tryd.func22 rfl h

-- (*hoard/arc.Engine).Has
def arc_Engine_Has_kp : KP := ⟨[], []⟩
def arc_Engine_Has (e0 : Option Addr) (key1 : ByteArray) (Q : Value → WP) : WP := funJ idJ Tryd.prog arc_Engine_Has_kp Tryd.f23 [.pointer e0, .string key1] Q
theorem arc_Engine_Has_raw (jn : Jn) (e0 : Option Addr) (key1 : ByteArray) (Q : Value → WP) : funJ jn Tryd.prog arc_Engine_Has_kp Tryd.f23 [.pointer e0, .string key1] Q = (
  ite2 (Option.isNone e0) (
  Q (.bool false)) (
  nilck e0 fun b_1 o_2 =>
  ld .slc b_1 o_2 fun (x_3 : Sl) =>
  ld .ptr b_1 (o_2 + 1) fun (x_4 : Option Addr) =>
  call1 (.int .i64) Tryd.prog id_arc_rows_where [.agg #[.slice x_3.a x_3.n x_3.c, .pointer x_4], .string key1] fun (x_5 : Int) =>
  ite2 (x_5 == (0 : Int)) (
  Q (.bool true)) (
  Q (.bool (x_5 == (1 : Int)))))) := by kernel_rfl
theorem arc_Engine_Has_def (e0 : Option Addr) (key1 : ByteArray) (Q : Value → WP) : arc_Engine_Has e0 key1 Q = funJ idJ Tryd.prog arc_Engine_Has_kp Tryd.f23 [.pointer e0, .string key1] Q := rfl
theorem arc_Engine_Has_calls {e0 : Option Addr} {key1 : ByteArray} {Q : Value → WP} {w : World} (h : arc_Engine_Has e0 key1 Q w) : Calls Tryd.prog id_arc_Engine_Has #[.pointer e0, .string key1] w fun e w' => ∃ v, e = .returned v ∧ Q v w' :=
  funJ_calls mixed Tryd.func23 rfl h

-- hoard/hoardlaw10.cut
def hoardlaw10_cut_kp : KP := ⟨[(9, [0, 1, 5, 6]), (16, [5])], []⟩
def hoardlaw10_cut_j2 (jn : Jn) (Q : Value → WP)  (m5 : Sl) : WP := jn 16 (fun ρ => codeI Tryd.prog hoardlaw10_cut_kp jn (cAt [true, true, true] (bodyOf Tryd.f24)) (retK Tryd.prog Tryd.f24 Q) noX (retK Tryd.prog Tryd.f24 Q) ρ) (us 5 ((.slice m5.a m5.n m5.c) :: us 21 []))
def hoardlaw10_cut_l1 (jn : Jn) (Q : Value → WP)  (m1 : Nat) (l0 : Sl) (key1 : ByteArray) (m5 : Sl) (i6 : Int) : WP := lop Tryd.prog hoardlaw10_cut_kp jn (cAt [true, true, false, true, false, false] (bodyOf Tryd.f24)) (blkX 0 (seqK Tryd.prog hoardlaw10_cut_kp jn (cAt [true, true, true] (bodyOf Tryd.f24)) (retK Tryd.prog Tryd.f24 Q) noX (retK Tryd.prog Tryd.f24 Q)) noX) (retK Tryd.prog Tryd.f24 Q) m1 ((.slice l0.a l0.n l0.c) :: (.string key1) :: us 3 ((.slice m5.a m5.n m5.c) :: (.int .i64 i6) :: us 20 []))
def hoardlaw10_cut (l0 : Sl) (key1 : ByteArray) (Q : Value → WP) : WP := funJ idJ Tryd.prog hoardlaw10_cut_kp Tryd.f24 [.slice l0.a l0.n l0.c, .string key1] Q
theorem hoardlaw10_cut_j2_raw (jn : Jn) (Q : Value → WP)  (m5 : Sl) : codeI Tryd.prog hoardlaw10_cut_kp jn (cAt [true, true, true] (bodyOf Tryd.f24)) (retK Tryd.prog Tryd.f24 Q) noX (retK Tryd.prog Tryd.f24 Q) (us 5 ((.slice m5.a m5.n m5.c) :: us 21 [])) = (
  Q (.slice m5.a m5.n m5.c)) := by kernel_rfl
theorem hoardlaw10_cut_j2_def (Q : Value → WP)  (m5 : Sl) : hoardlaw10_cut_j2 idJ Q  m5 = codeI Tryd.prog hoardlaw10_cut_kp idJ (cAt [true, true, true] (bodyOf Tryd.f24)) (retK Tryd.prog Tryd.f24 Q) noX (retK Tryd.prog Tryd.f24 Q) (us 5 ((.slice m5.a m5.n m5.c) :: us 21 [])) := by kernel_rfl
theorem hoardlaw10_cut_l1_raw (jn : Jn) (Q : Value → WP)  (m1 : Nat) (l0 : Sl) (key1 : ByteArray) (m5 : Sl) (i6 : Int) : hoardlaw10_cut_l1 jn Q  (m1 + 1) l0 key1 m5 i6 = (
  ite2 (decide (i6 < (l0.n : Int))) (
  idx l0.a l0.n i6 fun b_1 o_2 =>
  ld .str b_1 (o_2 + (i6).toNat * 1) fun (x_3 : ByteArray) =>
  ite2 (!sEq x_3 key1) (
  idx l0.a l0.n i6 fun b_4 o_5 =>
  ld .str b_4 (o_5 + (i6).toNat * 1) fun (x_6 : ByteArray) =>
  newB [.string x_6] ty_string fun b_7 =>
  appendC ty_string 1 16 [.string str_empty] ⟨m5.a, m5.n, m5.c⟩ 1 (fun w => rdA w (some ⟨b_7, 0, none⟩) (1 * 1)) fun s_8 =>
  hoardlaw10_cut_l1 jn Q  m1 l0 key1 s_8 (IntKind.wrap .i64 (i6 + (1 : Int)))) (
  hoardlaw10_cut_l1 jn Q  m1 l0 key1 m5 (IntKind.wrap .i64 (i6 + (1 : Int))))) (
  hoardlaw10_cut_j2 jn Q  m5)) := by kernel_rfl
theorem hoardlaw10_cut_l1_zero (jn : Jn) (Q : Value → WP)  (l0 : Sl) (key1 : ByteArray) (m5 : Sl) (i6 : Int) : hoardlaw10_cut_l1 jn Q  0 l0 key1 m5 i6 = bot := by kernel_rfl
theorem hoardlaw10_cut_raw (jn : Jn) (l0 : Sl) (key1 : ByteArray) (Q : Value → WP) : funJ jn Tryd.prog hoardlaw10_cut_kp Tryd.f24 [.slice l0.a l0.n l0.c, .string key1] Q = (
  exM fun m => hoardlaw10_cut_l1 jn Q  m l0 key1 ⟨(none : Option Addr), 0, 0⟩ (0 : Int)) := by kernel_rfl
theorem hoardlaw10_cut_def (l0 : Sl) (key1 : ByteArray) (Q : Value → WP) : hoardlaw10_cut l0 key1 Q = funJ idJ Tryd.prog hoardlaw10_cut_kp Tryd.f24 [.slice l0.a l0.n l0.c, .string key1] Q := rfl
theorem hoardlaw10_cut_calls {l0 : Sl} {key1 : ByteArray} {Q : Value → WP} {w : World} (h : hoardlaw10_cut l0 key1 Q w) : Calls Tryd.prog id_hoardlaw10_cut #[.slice l0.a l0.n l0.c, .string key1] w fun e w' => ∃ v, e = .returned v ∧ Q v w' :=
  funJ_calls mixed Tryd.func24 rfl h

-- hoard/hoardlaw10.heavy
def hoardlaw10_heavy_kp : KP := ⟨[(7, [0, 3]), (10, [0, 3]), (14, [])], []⟩
def hoardlaw10_heavy_j2 (jn : Jn) (Q : Value → WP) (m1 : Nat) (l0 : Sl) (i3 : Int) : WP := jn 10 (fun ρ => codeI Tryd.prog hoardlaw10_heavy_kp jn (cAt [true, false, true, false, false, true] (bodyOf Tryd.f25)) (lopK Tryd.prog hoardlaw10_heavy_kp jn (cAt [true, false, true, false, false] (bodyOf Tryd.f25)) (blkX 0 (seqK Tryd.prog hoardlaw10_heavy_kp jn (cAt [true, true] (bodyOf Tryd.f25)) (retK Tryd.prog Tryd.f25 Q) noX (retK Tryd.prog Tryd.f25 Q)) noX) (retK Tryd.prog Tryd.f25 Q) m1) (blkX 0 (seqK Tryd.prog hoardlaw10_heavy_kp jn (cAt [true, true] (bodyOf Tryd.f25)) (retK Tryd.prog Tryd.f25 Q) noX (retK Tryd.prog Tryd.f25 Q)) noX) (retK Tryd.prog Tryd.f25 Q) ρ) ((.slice l0.a l0.n l0.c) :: us 2 ((.int .i64 i3) :: us 17 []))
def hoardlaw10_heavy_j3 (jn : Jn) (Q : Value → WP)   : WP := jn 14 (fun ρ => codeI Tryd.prog hoardlaw10_heavy_kp jn (cAt [true, true] (bodyOf Tryd.f25)) (retK Tryd.prog Tryd.f25 Q) noX (retK Tryd.prog Tryd.f25 Q) ρ) (us 21 [])
def hoardlaw10_heavy_l1 (jn : Jn) (Q : Value → WP)  (m1 : Nat) (l0 : Sl) (i3 : Int) : WP := lop Tryd.prog hoardlaw10_heavy_kp jn (cAt [true, false, true, false, false] (bodyOf Tryd.f25)) (blkX 0 (seqK Tryd.prog hoardlaw10_heavy_kp jn (cAt [true, true] (bodyOf Tryd.f25)) (retK Tryd.prog Tryd.f25 Q) noX (retK Tryd.prog Tryd.f25 Q)) noX) (retK Tryd.prog Tryd.f25 Q) m1 ((.slice l0.a l0.n l0.c) :: us 2 ((.int .i64 i3) :: us 17 []))
def hoardlaw10_heavy (l0 : Sl) (Q : Value → WP) : WP := funJ idJ Tryd.prog hoardlaw10_heavy_kp Tryd.f25 [.slice l0.a l0.n l0.c] Q
theorem hoardlaw10_heavy_j2_raw (jn : Jn) (Q : Value → WP) (m1 : Nat) (l0 : Sl) (i3 : Int) : codeI Tryd.prog hoardlaw10_heavy_kp jn (cAt [true, false, true, false, false, true] (bodyOf Tryd.f25)) (lopK Tryd.prog hoardlaw10_heavy_kp jn (cAt [true, false, true, false, false] (bodyOf Tryd.f25)) (blkX 0 (seqK Tryd.prog hoardlaw10_heavy_kp jn (cAt [true, true] (bodyOf Tryd.f25)) (retK Tryd.prog Tryd.f25 Q) noX (retK Tryd.prog Tryd.f25 Q)) noX) (retK Tryd.prog Tryd.f25 Q) m1) (blkX 0 (seqK Tryd.prog hoardlaw10_heavy_kp jn (cAt [true, true] (bodyOf Tryd.f25)) (retK Tryd.prog Tryd.f25 Q) noX (retK Tryd.prog Tryd.f25 Q)) noX) (retK Tryd.prog Tryd.f25 Q) ((.slice l0.a l0.n l0.c) :: us 2 ((.int .i64 i3) :: us 17 [])) = (
  idx l0.a l0.n i3 fun b_1 o_2 =>
  ld .str b_1 ((o_2 + (i3).toNat * 2) + 1) fun (x_3 : ByteArray) =>
  ite2 (decide ((x_3.size : Int) > (40 : Int))) (
  Q (.bool true)) (
  hoardlaw10_heavy_l1 jn Q  m1 l0 (IntKind.wrap .i64 (i3 + (1 : Int))))) := by kernel_rfl
theorem hoardlaw10_heavy_j2_def (Q : Value → WP) (m1 : Nat) (l0 : Sl) (i3 : Int) : hoardlaw10_heavy_j2 idJ Q m1 l0 i3 = codeI Tryd.prog hoardlaw10_heavy_kp idJ (cAt [true, false, true, false, false, true] (bodyOf Tryd.f25)) (lopK Tryd.prog hoardlaw10_heavy_kp idJ (cAt [true, false, true, false, false] (bodyOf Tryd.f25)) (blkX 0 (seqK Tryd.prog hoardlaw10_heavy_kp idJ (cAt [true, true] (bodyOf Tryd.f25)) (retK Tryd.prog Tryd.f25 Q) noX (retK Tryd.prog Tryd.f25 Q)) noX) (retK Tryd.prog Tryd.f25 Q) m1) (blkX 0 (seqK Tryd.prog hoardlaw10_heavy_kp idJ (cAt [true, true] (bodyOf Tryd.f25)) (retK Tryd.prog Tryd.f25 Q) noX (retK Tryd.prog Tryd.f25 Q)) noX) (retK Tryd.prog Tryd.f25 Q) ((.slice l0.a l0.n l0.c) :: us 2 ((.int .i64 i3) :: us 17 [])) := by kernel_rfl
theorem hoardlaw10_heavy_j3_raw (jn : Jn) (Q : Value → WP)   : codeI Tryd.prog hoardlaw10_heavy_kp jn (cAt [true, true] (bodyOf Tryd.f25)) (retK Tryd.prog Tryd.f25 Q) noX (retK Tryd.prog Tryd.f25 Q) (us 21 []) = (
  Q (.bool false)) := by kernel_rfl
theorem hoardlaw10_heavy_j3_def (Q : Value → WP)   : hoardlaw10_heavy_j3 idJ Q   = codeI Tryd.prog hoardlaw10_heavy_kp idJ (cAt [true, true] (bodyOf Tryd.f25)) (retK Tryd.prog Tryd.f25 Q) noX (retK Tryd.prog Tryd.f25 Q) (us 21 []) := by kernel_rfl
theorem hoardlaw10_heavy_l1_raw (jn : Jn) (Q : Value → WP)  (m1 : Nat) (l0 : Sl) (i3 : Int) : hoardlaw10_heavy_l1 jn Q  (m1 + 1) l0 i3 = (
  ite2 (decide (i3 < (l0.n : Int))) (
  ite2 (decide (i3 < (200 : Int))) (
  hoardlaw10_heavy_j2 jn Q m1 l0 i3) (
  hoardlaw10_heavy_j3 jn Q  )) (
  hoardlaw10_heavy_j3 jn Q  )) := by kernel_rfl
theorem hoardlaw10_heavy_l1_zero (jn : Jn) (Q : Value → WP)  (l0 : Sl) (i3 : Int) : hoardlaw10_heavy_l1 jn Q  0 l0 i3 = bot := by kernel_rfl
theorem hoardlaw10_heavy_raw (jn : Jn) (l0 : Sl) (Q : Value → WP) : funJ jn Tryd.prog hoardlaw10_heavy_kp Tryd.f25 [.slice l0.a l0.n l0.c] Q = (
  exM fun m => hoardlaw10_heavy_l1 jn Q  m l0 (0 : Int)) := by kernel_rfl
theorem hoardlaw10_heavy_def (l0 : Sl) (Q : Value → WP) : hoardlaw10_heavy l0 Q = funJ idJ Tryd.prog hoardlaw10_heavy_kp Tryd.f25 [.slice l0.a l0.n l0.c] Q := rfl
theorem hoardlaw10_heavy_calls {l0 : Sl} {Q : Value → WP} {w : World} (h : hoardlaw10_heavy l0 Q w) : Calls Tryd.prog id_hoardlaw10_heavy #[.slice l0.a l0.n l0.c] w fun e w' => ∃ v, e = .returned v ∧ Q v w' :=
  funJ_calls mixed Tryd.func25 rfl h

-- hoard/hoardref10.New
def hoardref10_New_kp : KP := ⟨[], []⟩
def hoardref10_New (room0 : Int) (Q : Value → WP) : WP := funJ idJ Tryd.prog hoardref10_New_kp Tryd.f26 [.int .i64 room0] Q
theorem hoardref10_New_raw (jn : Jn) (room0 : Int) (Q : Value → WP) : funJ jn Tryd.prog hoardref10_New_kp Tryd.f26 [.int .i64 room0] Q = (
  newB [.slice (none : Option Addr) 0 0, .slice (none : Option Addr) 0 0, .slice (none : Option Addr) 0 0, .slice (none : Option Addr) 0 0, .int .i64 (0 : Int), .int .i64 (if (1024 : Int) < (if (1 : Int) > room0 then (1 : Int) else room0) then (1024 : Int) else (if (1 : Int) > room0 then (1 : Int) else room0))] ty_hoardref10_Engine fun b_1 =>
  Q (.pointer (some ⟨b_1, 0, none⟩))) := by kernel_rfl
theorem hoardref10_New_def (room0 : Int) (Q : Value → WP) : hoardref10_New room0 Q = funJ idJ Tryd.prog hoardref10_New_kp Tryd.f26 [.int .i64 room0] Q := rfl
theorem hoardref10_New_calls {room0 : Int} {Q : Value → WP} {w : World} (h : hoardref10_New room0 Q w) : Calls Tryd.prog id_hoardref10_New #[.int .i64 room0] w fun e w' => ∃ v, e = .returned v ∧ Q v w' :=
  funJ_calls mixed Tryd.func26 rfl h

-- hoard/hoardlaw10.act
def hoardlaw10_act_kp : KP := ⟨[], [(7, [0, 1, 2, 4, 5, 6, 8, 9]), (9, [0, 1, 2, 4, 5, 6, 8, 9]), (14, [0, 1, 2, 4, 5, 6, 8, 9])]⟩
def hoardlaw10_act (e0 : Option Addr) (x1 : Option Addr) (a2_0 : Int) (a2_1 : ByteArray) (Q : Value → WP) : WP := funJ idJ Tryd.prog hoardlaw10_act_kp Tryd.f27 [.pointer e0, .pointer x1, .agg #[.int .i64 a2_0, .string a2_1]] Q
theorem hoardlaw10_act_raw (jn : Jn) (e0 : Option Addr) (x1 : Option Addr) (a2_0 : Int) (a2_1 : ByteArray) (Q : Value → WP) : funJ jn Tryd.prog hoardlaw10_act_kp Tryd.f27 [.pointer e0, .pointer x1, .agg #[.int .i64 a2_0, .string a2_1]] Q = (
  newB [.int .i64 a2_0, .string a2_1] ty_hoardlaw10_Act fun b_1 =>
  ld (.int .i64) b_1 0 fun (x_2 : Int) =>
  ite2 (x_2 == (1 : Int)) (
  ld .str b_1 1 fun (x_3 : ByteArray) =>
  call2 .bool .slc Tryd.prog id_arc_Engine_Access [.pointer e0, .string x_3] fun (x_4 : Bool) (x_5 : Sl) =>
  ld .str b_1 1 fun (x_6 : ByteArray) =>
  call2 .bool .slc Tryd.prog id_hoardref10_Engine_Access [.pointer x1, .string x_6] fun (x_7 : Bool) (x_8 : Sl) =>
  ite2 (x_4 == x_7) (
  call1 .bool Tryd.prog id_hoardlaw10_texts [.slice x_5.a x_5.n x_5.c, .slice x_8.a x_8.n x_8.c] fun (x_9 : Bool) =>
  Q (.bool x_9)) (
  Q (.bool false))) (
  ite2 (x_2 == (2 : Int)) (
  drawW fun S =>
  ldS S .str b_1 1 fun (x_10 : ByteArray) =>
  ldS S .str b_1 1 fun (x_11 : ByteArray) =>
  call1 .bool Tryd.prog id_arc_Engine_Load [.pointer e0, .string x_10] fun (x_12 : Bool) =>
  keepS true S <|
  call1 .bool Tryd.prog id_hoardref10_Engine_Load [.pointer x1, .string x_11] fun (x_13 : Bool) =>
  Q (.bool (x_12 == x_13))) (
  ite2 (x_2 == (3 : Int)) (
  drawW fun S =>
  ldS S .str b_1 1 fun (x_14 : ByteArray) =>
  ldS S .str b_1 1 fun (x_15 : ByteArray) =>
  call1 .bool Tryd.prog id_arc_Engine_Remove [.pointer e0, .string x_14] fun (x_16 : Bool) =>
  keepS true S <|
  call1 .bool Tryd.prog id_hoardref10_Engine_Remove [.pointer x1, .string x_15] fun (x_17 : Bool) =>
  Q (.bool (x_16 == x_17))) (
  ite2 (x_2 == (4 : Int)) (
  call2 .str .bool Tryd.prog id_arc_Engine_Evict [.pointer e0] fun (x_18 : ByteArray) (x_19 : Bool) =>
  call2 .str .bool Tryd.prog id_hoardref10_Engine_Evict [.pointer x1] fun (x_20 : ByteArray) (x_21 : Bool) =>
  ite2 (sEq x_18 x_20) (
  Q (.bool (x_19 == x_21))) (
  Q (.bool false))) (
  drawW fun S =>
  ldS S .str b_1 1 fun (x_22 : ByteArray) =>
  ldS S .str b_1 1 fun (x_23 : ByteArray) =>
  call1 .bool Tryd.prog id_arc_Engine_Has [.pointer e0, .string x_22] fun (x_24 : Bool) =>
  keepS true S <|
  call1 .bool Tryd.prog id_hoardref10_Engine_Has [.pointer x1, .string x_23] fun (x_25 : Bool) =>
  Q (.bool (x_24 == x_25))))))) := by kernel_rfl
theorem hoardlaw10_act_def (e0 : Option Addr) (x1 : Option Addr) (a2_0 : Int) (a2_1 : ByteArray) (Q : Value → WP) : hoardlaw10_act e0 x1 a2_0 a2_1 Q = funJ idJ Tryd.prog hoardlaw10_act_kp Tryd.f27 [.pointer e0, .pointer x1, .agg #[.int .i64 a2_0, .string a2_1]] Q := rfl
theorem hoardlaw10_act_calls {e0 : Option Addr} {x1 : Option Addr} {a2_0 : Int} {a2_1 : ByteArray} {Q : Value → WP} {w : World} (h : hoardlaw10_act e0 x1 a2_0 a2_1 Q w) : Calls Tryd.prog id_hoardlaw10_act #[.pointer e0, .pointer x1, .agg #[.int .i64 a2_0, .string a2_1]] w fun e w' => ∃ v, e = .returned v ∧ Q v w' :=
  funJ_calls mixed Tryd.func27 rfl h

-- (*hoard/arc.Engine).Evict
def arc_Engine_Evict_kp : KP := ⟨[], []⟩
def arc_Engine_Evict (e0 : Option Addr) (Q : Value → WP) : WP := funJ idJ Tryd.prog arc_Engine_Evict_kp Tryd.f28 [.pointer e0] Q
theorem arc_Engine_Evict_raw (jn : Jn) (e0 : Option Addr) (Q : Value → WP) : funJ jn Tryd.prog arc_Engine_Evict_kp Tryd.f28 [.pointer e0] Q = (
  call1 (.int .i64) Tryd.prog id_arc_Engine_Len [.pointer e0] fun (x_1 : Int) =>
  ite2 (x_1 == (0 : Int)) (
  Q (.tuple #[.string str_empty, .bool false])) (
  nilck e0 fun b_2 o_3 =>
  ld .slc b_2 o_3 fun (x_4 : Sl) =>
  ld .ptr b_2 (o_3 + 1) fun (x_5 : Option Addr) =>
  newB [.int .i64 (0 : Int)] ty_int fun b_6 =>
  call1 (.int .i64) Tryd.prog id_arc_rows_many [.agg #[.slice x_4.a x_4.n x_4.c, .pointer x_5], .slice (some ⟨b_6, 0, none⟩) 1 1] fun (x_7 : Int) =>
  ite2 (decide (x_7 > (0 : Int))) (
  nilck e0 fun b_8 o_9 =>
  ld (.int .i64) b_8 (o_9 + 3) fun (x_10 : Int) =>
  ite2 (decide (x_7 > x_10)) (
  call1 .slc Tryd.prog id_arc_Engine_ousts [.pointer e0, .bool true] fun (x_11 : Sl) =>
  idx x_11.a x_11.n (0 : Int) fun b_12 o_13 =>
  ld .str b_12 (o_13 + ((0 : Int)).toNat * 1) fun (x_14 : ByteArray) =>
  Q (.tuple #[.string x_14, .bool true])) (
  nilck e0 fun b_15 o_16 =>
  ld .slc b_15 o_16 fun (x_17 : Sl) =>
  ld .ptr b_15 (o_16 + 1) fun (x_18 : Option Addr) =>
  newB [.int .i64 (1 : Int)] ty_int fun b_19 =>
  call1 (.int .i64) Tryd.prog id_arc_rows_many [.agg #[.slice x_17.a x_17.n x_17.c, .pointer x_18], .slice (some ⟨b_19, 0, none⟩) 1 1] fun (x_20 : Int) =>
  call1 .slc Tryd.prog id_arc_Engine_ousts [.pointer e0, .bool (x_20 == (0 : Int))] fun (x_21 : Sl) =>
  idx x_21.a x_21.n (0 : Int) fun b_22 o_23 =>
  ld .str b_22 (o_23 + ((0 : Int)).toNat * 1) fun (x_24 : ByteArray) =>
  Q (.tuple #[.string x_24, .bool true]))) (
  call1 .slc Tryd.prog id_arc_Engine_ousts [.pointer e0, .bool false] fun (x_25 : Sl) =>
  idx x_25.a x_25.n (0 : Int) fun b_26 o_27 =>
  ld .str b_26 (o_27 + ((0 : Int)).toNat * 1) fun (x_28 : ByteArray) =>
  Q (.tuple #[.string x_28, .bool true])))) := by kernel_rfl
theorem arc_Engine_Evict_def (e0 : Option Addr) (Q : Value → WP) : arc_Engine_Evict e0 Q = funJ idJ Tryd.prog arc_Engine_Evict_kp Tryd.f28 [.pointer e0] Q := rfl
theorem arc_Engine_Evict_calls {e0 : Option Addr} {Q : Value → WP} {w : World} (h : arc_Engine_Evict e0 Q w) : Calls Tryd.prog id_arc_Engine_Evict #[.pointer e0] w fun e w' => ∃ v, e = .returned v ∧ Q v w' :=
  funJ_calls mixed Tryd.func28 rfl h

-- (*hoard/arc.Engine).Load
def arc_Engine_Load_kp : KP := ⟨[(8, [0, 1]), (11, [0]), (14, [0]), (15, [0]), (18, [])], [(1, [0, 1, 2, 3, 4, 6, 7, 8, 10, 11, 12, 13, 14, 15]), (4, [0, 1, 2, 3, 6, 7, 8, 9, 10]), (5, [0, 1, 2, 3, 4, 5, 6]), (6, [0, 1, 2, 3, 6, 7, 8, 9, 10, 11]), (7, [0, 1, 2, 3, 4, 5, 6])]⟩
def arc_Engine_Load_j5 (jn : Jn) (Q : Value → WP)   : WP := jn 18 (fun ρ => codeI Tryd.prog arc_Engine_Load_kp jn (cAt [true, true, true, true, true] (bodyOf Tryd.f29)) (retK Tryd.prog Tryd.f29 Q) noX (retK Tryd.prog Tryd.f29 Q) ρ) (us 70 [])
def arc_Engine_Load_l4 (jn : Jn) (Q : Value → WP)  (m4 : Nat) (e0 : Option Addr) : WP := lop Tryd.prog arc_Engine_Load_kp jn (cAt [true, true, true, true, false, false, false] (bodyOf Tryd.f29)) (blkX 2 (seqK Tryd.prog arc_Engine_Load_kp jn (cAt [true, true, true, true, true] (bodyOf Tryd.f29)) (retK Tryd.prog Tryd.f29 Q) noX (retK Tryd.prog Tryd.f29 Q)) noX) (retK Tryd.prog Tryd.f29 Q) m4 ((.pointer e0) :: us 69 [])
def arc_Engine_Load_j3 (jn : Jn) (Q : Value → WP)  (e0 : Option Addr) : WP := jn 14 (fun ρ => codeI Tryd.prog arc_Engine_Load_kp jn (cAt [true, true, true, true] (bodyOf Tryd.f29)) (retK Tryd.prog Tryd.f29 Q) noX (retK Tryd.prog Tryd.f29 Q) ρ) ((.pointer e0) :: us 69 [])
def arc_Engine_Load_l2 (jn : Jn) (Q : Value → WP)  (m2 : Nat) (e0 : Option Addr) : WP := lop Tryd.prog arc_Engine_Load_kp jn (cAt [true, true, true, false, false, false] (bodyOf Tryd.f29)) (blkX 0 (seqK Tryd.prog arc_Engine_Load_kp jn (cAt [true, true, true, true] (bodyOf Tryd.f29)) (retK Tryd.prog Tryd.f29 Q) noX (retK Tryd.prog Tryd.f29 Q)) noX) (retK Tryd.prog Tryd.f29 Q) m2 ((.pointer e0) :: us 69 [])
def arc_Engine_Load_j1 (jn : Jn) (Q : Value → WP)  (e0 : Option Addr) (key1 : ByteArray) : WP := jn 8 (fun ρ => codeI Tryd.prog arc_Engine_Load_kp jn (cAt [true, true] (bodyOf Tryd.f29)) (retK Tryd.prog Tryd.f29 Q) noX (retK Tryd.prog Tryd.f29 Q) ρ) ((.pointer e0) :: (.string key1) :: us 68 [])
def arc_Engine_Load (e0 : Option Addr) (key1 : ByteArray) (Q : Value → WP) : WP := funJ idJ Tryd.prog arc_Engine_Load_kp Tryd.f29 [.pointer e0, .string key1] Q
theorem arc_Engine_Load_j5_raw (jn : Jn) (Q : Value → WP)   : codeI Tryd.prog arc_Engine_Load_kp jn (cAt [true, true, true, true, true] (bodyOf Tryd.f29)) (retK Tryd.prog Tryd.f29 Q) noX (retK Tryd.prog Tryd.f29 Q) (us 70 []) = (
  Q (.bool true)) := by kernel_rfl
theorem arc_Engine_Load_j5_def (Q : Value → WP)   : arc_Engine_Load_j5 idJ Q   = codeI Tryd.prog arc_Engine_Load_kp idJ (cAt [true, true, true, true, true] (bodyOf Tryd.f29)) (retK Tryd.prog Tryd.f29 Q) noX (retK Tryd.prog Tryd.f29 Q) (us 70 []) := by kernel_rfl
theorem arc_Engine_Load_l4_raw (jn : Jn) (Q : Value → WP)  (m4 : Nat) (e0 : Option Addr) : arc_Engine_Load_l4 jn Q  (m4 + 1) e0 = (
  drawW fun S =>
  nilck e0 fun b_28 o_29 =>
  ldS S .slc b_28 o_29 fun (x_30 : Sl) =>
  ldS S .ptr b_28 (o_29 + 1) fun (x_31 : Option Addr) =>
  nilck e0 fun b_32 o_33 =>
  ldS S (.int .i64) b_32 (o_33 + 2) fun (x_34 : Int) =>
  newB [.int .i64 (0 : Int), .int .i64 (1 : Int), .int .i64 (2 : Int), .int .i64 (3 : Int)] ty_int fun b_35 =>
  keepS true S <|
  call1 (.int .i64) Tryd.prog id_arc_rows_many [.agg #[.slice x_30.a x_30.n x_30.c, .pointer x_31], .slice (some ⟨b_35, 0, none⟩) 4 4] fun (x_36 : Int) =>
  keepS true S <|
  ite2 (decide (x_36 > (IntKind.wrap .i64 ((2 : Int) * x_34)))) (
  drawW fun S =>
  nilck e0 fun b_37 o_38 =>
  ldS S .slc b_37 o_38 fun (x_39 : Sl) =>
  ldS S .ptr b_37 (o_38 + 1) fun (x_40 : Option Addr) =>
  nilck e0 fun b_41 o_42 =>
  ld .slc b_41 o_42 fun (x_43 : Sl) =>
  ld .ptr b_41 (o_42 + 1) fun (x_44 : Option Addr) =>
  keepS true S <|
  call1 .str Tryd.prog id_arc_rows_oldest [.agg #[.slice x_43.a x_43.n x_43.c, .pointer x_44], .int .i64 (3 : Int)] fun (x_45 : ByteArray) =>
  keepS true S <|
  call0 Tryd.prog id_arc_rows_drop [.agg #[.slice x_39.a x_39.n x_39.c, .pointer x_40], .string x_45] <|
  arc_Engine_Load_l4 jn Q  m4 e0) (
  arc_Engine_Load_j5 jn Q  )) := by kernel_rfl
theorem arc_Engine_Load_l4_zero (jn : Jn) (Q : Value → WP)  (e0 : Option Addr) : arc_Engine_Load_l4 jn Q  0 e0 = bot := by kernel_rfl
theorem arc_Engine_Load_j3_raw (jn : Jn) (Q : Value → WP)  (e0 : Option Addr) : codeI Tryd.prog arc_Engine_Load_kp jn (cAt [true, true, true, true] (bodyOf Tryd.f29)) (retK Tryd.prog Tryd.f29 Q) noX (retK Tryd.prog Tryd.f29 Q) ((.pointer e0) :: us 69 []) = (
  exM fun m => arc_Engine_Load_l4 jn Q  m e0) := by kernel_rfl
theorem arc_Engine_Load_j3_def (Q : Value → WP)  (e0 : Option Addr) : arc_Engine_Load_j3 idJ Q  e0 = codeI Tryd.prog arc_Engine_Load_kp idJ (cAt [true, true, true, true] (bodyOf Tryd.f29)) (retK Tryd.prog Tryd.f29 Q) noX (retK Tryd.prog Tryd.f29 Q) ((.pointer e0) :: us 69 []) := by kernel_rfl
theorem arc_Engine_Load_l2_raw (jn : Jn) (Q : Value → WP)  (m2 : Nat) (e0 : Option Addr) : arc_Engine_Load_l2 jn Q  (m2 + 1) e0 = (
  drawW fun S =>
  nilck e0 fun b_10 o_11 =>
  ldS S .slc b_10 o_11 fun (x_12 : Sl) =>
  ldS S .ptr b_10 (o_11 + 1) fun (x_13 : Option Addr) =>
  nilck e0 fun b_14 o_15 =>
  ldS S (.int .i64) b_14 (o_15 + 2) fun (x_16 : Int) =>
  newB [.int .i64 (0 : Int), .int .i64 (2 : Int)] ty_int fun b_17 =>
  keepS true S <|
  call1 (.int .i64) Tryd.prog id_arc_rows_many [.agg #[.slice x_12.a x_12.n x_12.c, .pointer x_13], .slice (some ⟨b_17, 0, none⟩) 2 2] fun (x_18 : Int) =>
  keepS true S <|
  ite2 (decide (x_18 > x_16)) (
  drawW fun S =>
  nilck e0 fun b_19 o_20 =>
  ldS S .slc b_19 o_20 fun (x_21 : Sl) =>
  ldS S .ptr b_19 (o_20 + 1) fun (x_22 : Option Addr) =>
  nilck e0 fun b_23 o_24 =>
  ld .slc b_23 o_24 fun (x_25 : Sl) =>
  ld .ptr b_23 (o_24 + 1) fun (x_26 : Option Addr) =>
  keepS true S <|
  call1 .str Tryd.prog id_arc_rows_oldest [.agg #[.slice x_25.a x_25.n x_25.c, .pointer x_26], .int .i64 (2 : Int)] fun (x_27 : ByteArray) =>
  keepS true S <|
  call0 Tryd.prog id_arc_rows_drop [.agg #[.slice x_21.a x_21.n x_21.c, .pointer x_22], .string x_27] <|
  arc_Engine_Load_l2 jn Q  m2 e0) (
  arc_Engine_Load_j3 jn Q  e0)) := by kernel_rfl
theorem arc_Engine_Load_l2_zero (jn : Jn) (Q : Value → WP)  (e0 : Option Addr) : arc_Engine_Load_l2 jn Q  0 e0 = bot := by kernel_rfl
theorem arc_Engine_Load_j1_raw (jn : Jn) (Q : Value → WP)  (e0 : Option Addr) (key1 : ByteArray) : codeI Tryd.prog arc_Engine_Load_kp jn (cAt [true, true] (bodyOf Tryd.f29)) (retK Tryd.prog Tryd.f29 Q) noX (retK Tryd.prog Tryd.f29 Q) ((.pointer e0) :: (.string key1) :: us 68 []) = (
  nilck e0 fun b_6 o_7 =>
  ld .slc b_6 o_7 fun (x_8 : Sl) =>
  ld .ptr b_6 (o_7 + 1) fun (x_9 : Option Addr) =>
  call0 Tryd.prog id_arc_rows_push [.agg #[.slice x_8.a x_8.n x_8.c, .pointer x_9], .int .i64 (0 : Int), .string key1] <|
  exM fun m => arc_Engine_Load_l2 jn Q  m e0) := by kernel_rfl
theorem arc_Engine_Load_j1_def (Q : Value → WP)  (e0 : Option Addr) (key1 : ByteArray) : arc_Engine_Load_j1 idJ Q  e0 key1 = codeI Tryd.prog arc_Engine_Load_kp idJ (cAt [true, true] (bodyOf Tryd.f29)) (retK Tryd.prog Tryd.f29 Q) noX (retK Tryd.prog Tryd.f29 Q) ((.pointer e0) :: (.string key1) :: us 68 []) := by kernel_rfl
theorem arc_Engine_Load_raw (jn : Jn) (e0 : Option Addr) (key1 : ByteArray) (Q : Value → WP) : funJ jn Tryd.prog arc_Engine_Load_kp Tryd.f29 [.pointer e0, .string key1] Q = (
  drawW fun S =>
  ite2 (Option.isNone e0) (
  keepS true S <|
  keepS true S <|
  Q (.bool false)) (
  call1 .bool Tryd.prog id_arc_Engine_Has [.pointer e0, .string key1] fun (x_1 : Bool) =>
  keepS true S <|
  ite2 x_1 (
  keepS true S <|
  Q (.bool false)) (
  nilck e0 fun b_2 o_3 =>
  ldS S (.int .i64) b_2 (o_3 + 2) fun (x_4 : Int) =>
  call1 (.int .i64) Tryd.prog id_arc_Engine_Len [.pointer e0] fun (x_5 : Int) =>
  keepS true S <|
  ite2 (x_5 == x_4) (
  Q (.bool false)) (
  arc_Engine_Load_j1 jn Q  e0 key1)))) := by kernel_rfl
theorem arc_Engine_Load_def (e0 : Option Addr) (key1 : ByteArray) (Q : Value → WP) : arc_Engine_Load e0 key1 Q = funJ idJ Tryd.prog arc_Engine_Load_kp Tryd.f29 [.pointer e0, .string key1] Q := rfl
theorem arc_Engine_Load_calls {e0 : Option Addr} {key1 : ByteArray} {Q : Value → WP} {w : World} (h : arc_Engine_Load e0 key1 Q w) : Calls Tryd.prog id_arc_Engine_Load #[.pointer e0, .string key1] w fun e w' => ∃ v, e = .returned v ∧ Q v w' :=
  funJ_calls mixed Tryd.func29 rfl h

-- (*hoard/arc.Engine).Room
def arc_Engine_Room_kp : KP := ⟨[], []⟩
def arc_Engine_Room (e0 : Option Addr) (Q : Value → WP) : WP := funJ idJ Tryd.prog arc_Engine_Room_kp Tryd.f30 [.pointer e0] Q
theorem arc_Engine_Room_raw (jn : Jn) (e0 : Option Addr) (Q : Value → WP) : funJ jn Tryd.prog arc_Engine_Room_kp Tryd.f30 [.pointer e0] Q = (
  ite2 (Option.isNone e0) (
  Q (.int .i64 (0 : Int))) (
  nilck e0 fun b_1 o_2 =>
  ld (.int .i64) b_1 (o_2 + 2) fun (x_3 : Int) =>
  Q (.int .i64 x_3))) := by kernel_rfl
theorem arc_Engine_Room_def (e0 : Option Addr) (Q : Value → WP) : arc_Engine_Room e0 Q = funJ idJ Tryd.prog arc_Engine_Room_kp Tryd.f30 [.pointer e0] Q := rfl
theorem arc_Engine_Room_calls {e0 : Option Addr} {Q : Value → WP} {w : World} (h : arc_Engine_Room e0 Q w) : Calls Tryd.prog id_arc_Engine_Room #[.pointer e0] w fun e w' => ∃ v, e = .returned v ∧ Q v w' :=
  funJ_calls mixed Tryd.func30 rfl h

-- (*hoard/arc.Engine).Remove
def arc_Engine_Remove_kp : KP := ⟨[], []⟩
def arc_Engine_Remove (e0 : Option Addr) (key1 : ByteArray) (Q : Value → WP) : WP := funJ idJ Tryd.prog arc_Engine_Remove_kp Tryd.f31 [.pointer e0, .string key1] Q
theorem arc_Engine_Remove_raw (jn : Jn) (e0 : Option Addr) (key1 : ByteArray) (Q : Value → WP) : funJ jn Tryd.prog arc_Engine_Remove_kp Tryd.f31 [.pointer e0, .string key1] Q = (
  call1 .bool Tryd.prog id_arc_Engine_Has [.pointer e0, .string key1] fun (x_1 : Bool) =>
  ite2 (!x_1) (
  Q (.bool false)) (
  nilck e0 fun b_2 o_3 =>
  ld .slc b_2 o_3 fun (x_4 : Sl) =>
  ld .ptr b_2 (o_3 + 1) fun (x_5 : Option Addr) =>
  call0 Tryd.prog id_arc_rows_drop [.agg #[.slice x_4.a x_4.n x_4.c, .pointer x_5], .string key1] <|
  Q (.bool true))) := by kernel_rfl
theorem arc_Engine_Remove_def (e0 : Option Addr) (key1 : ByteArray) (Q : Value → WP) : arc_Engine_Remove e0 key1 Q = funJ idJ Tryd.prog arc_Engine_Remove_kp Tryd.f31 [.pointer e0, .string key1] Q := rfl
theorem arc_Engine_Remove_calls {e0 : Option Addr} {key1 : ByteArray} {Q : Value → WP} {w : World} (h : arc_Engine_Remove e0 key1 Q w) : Calls Tryd.prog id_arc_Engine_Remove #[.pointer e0, .string key1] w fun e w' => ∃ v, e = .returned v ∧ Q v w' :=
  funJ_calls mixed Tryd.func31 rfl h

-- (*hoard/arc.Engine).Ghosts
def arc_Engine_Ghosts_kp : KP := ⟨[], []⟩
def arc_Engine_Ghosts (e0 : Option Addr) (Q : Value → WP) : WP := funJ idJ Tryd.prog arc_Engine_Ghosts_kp Tryd.f32 [.pointer e0] Q
theorem arc_Engine_Ghosts_raw (jn : Jn) (e0 : Option Addr) (Q : Value → WP) : funJ jn Tryd.prog arc_Engine_Ghosts_kp Tryd.f32 [.pointer e0] Q = (
  ite2 (Option.isNone e0) (
  Q (.slice (none : Option Addr) 0 0)) (
  nilck e0 fun b_1 o_2 =>
  ld .slc b_1 o_2 fun (x_3 : Sl) =>
  ld .ptr b_1 (o_2 + 1) fun (x_4 : Option Addr) =>
  newB [.int .i64 (2 : Int), .int .i64 (3 : Int)] ty_int fun b_5 =>
  call1 .slc Tryd.prog id_arc_rows_keys [.agg #[.slice x_3.a x_3.n x_3.c, .pointer x_4], .slice (some ⟨b_5, 0, none⟩) 2 2] fun (x_6 : Sl) =>
  Q (.slice x_6.a x_6.n x_6.c))) := by kernel_rfl
theorem arc_Engine_Ghosts_def (e0 : Option Addr) (Q : Value → WP) : arc_Engine_Ghosts e0 Q = funJ idJ Tryd.prog arc_Engine_Ghosts_kp Tryd.f32 [.pointer e0] Q := rfl
theorem arc_Engine_Ghosts_calls {e0 : Option Addr} {Q : Value → WP} {w : World} (h : arc_Engine_Ghosts e0 Q w) : Calls Tryd.prog id_arc_Engine_Ghosts #[.pointer e0] w fun e w' => ∃ v, e = .returned v ∧ Q v w' :=
  funJ_calls mixed Tryd.func32 rfl h

-- (*hoard/hoardref10.Engine).State
def hoardref10_Engine_State_kp : KP := ⟨[], [(1, [0, 1, 2, 3, 5, 6, 7, 8, 9, 11, 12, 13, 14, 15, 16, 18, 19, 20, 21, 22, 23, 25, 26, 27, 28, 29, 30, 32, 33])]⟩
def hoardref10_Engine_State (e0 : Option Addr) (Q : Value → WP) : WP := funJ idJ Tryd.prog hoardref10_Engine_State_kp Tryd.f34 [.pointer e0] Q
theorem hoardref10_Engine_State_raw (jn : Jn) (e0 : Option Addr) (Q : Value → WP) : funJ jn Tryd.prog hoardref10_Engine_State_kp Tryd.f34 [.pointer e0] Q = (
  drawW fun S =>
  nilck e0 fun b_1 o_2 =>
  ldS S .slc b_1 o_2 fun (x_3 : Sl) =>
  nilck e0 fun b_4 o_5 =>
  ldS S .slc b_4 (o_5 + 1) fun (x_6 : Sl) =>
  nilck e0 fun b_7 o_8 =>
  ldS S .slc b_7 (o_8 + 2) fun (x_9 : Sl) =>
  nilck e0 fun b_10 o_11 =>
  ldS S .slc b_10 (o_11 + 3) fun (x_12 : Sl) =>
  nilck e0 fun b_13 o_14 =>
  ldS S (.int .i64) b_13 (o_14 + 4) fun (x_15 : Int) =>
  call1 .str Tryd.prog id_hoardref10_text [.string str_T1, .slice x_3.a x_3.n x_3.c] fun (x_16 : ByteArray) =>
  keepS true S <|
  when (x_16.size + str__.size ≤ 9223372036854775807) <|
  call1 .str Tryd.prog id_hoardref10_text [.string str_T2, .slice x_6.a x_6.n x_6.c] fun (x_17 : ByteArray) =>
  keepS true S <|
  when ((x_16 ++ str__).size + x_17.size ≤ 9223372036854775807) <|
  when (((x_16 ++ str__) ++ x_17).size + str__.size ≤ 9223372036854775807) <|
  call1 .str Tryd.prog id_hoardref10_text [.string str_B1, .slice x_9.a x_9.n x_9.c] fun (x_18 : ByteArray) =>
  keepS true S <|
  when ((((x_16 ++ str__) ++ x_17) ++ str__).size + x_18.size ≤ 9223372036854775807) <|
  when (((((x_16 ++ str__) ++ x_17) ++ str__) ++ x_18).size + str__.size ≤ 9223372036854775807) <|
  call1 .str Tryd.prog id_hoardref10_text [.string str_B2, .slice x_12.a x_12.n x_12.c] fun (x_19 : ByteArray) =>
  keepS true S <|
  when ((((((x_16 ++ str__) ++ x_17) ++ str__) ++ x_18) ++ str__).size + x_19.size ≤ 9223372036854775807) <|
  when (((((((x_16 ++ str__) ++ x_17) ++ str__) ++ x_18) ++ str__) ++ x_19).size + str__p__.size ≤ 9223372036854775807) <|
  call1 .str Tryd.prog id_hoardref10_digits [.int .i64 x_15] fun (x_20 : ByteArray) =>
  when ((((((((x_16 ++ str__) ++ x_17) ++ str__) ++ x_18) ++ str__) ++ x_19) ++ str__p__).size + x_20.size ≤ 9223372036854775807) <|
  Q (.string ((((((((x_16 ++ str__) ++ x_17) ++ str__) ++ x_18) ++ str__) ++ x_19) ++ str__p__) ++ x_20))) := by kernel_rfl
theorem hoardref10_Engine_State_def (e0 : Option Addr) (Q : Value → WP) : hoardref10_Engine_State e0 Q = funJ idJ Tryd.prog hoardref10_Engine_State_kp Tryd.f34 [.pointer e0] Q := rfl
theorem hoardref10_Engine_State_calls {e0 : Option Addr} {Q : Value → WP} {w : World} (h : hoardref10_Engine_State e0 Q w) : Calls Tryd.prog id_hoardref10_Engine_State #[.pointer e0] w fun e w' => ∃ v, e = .returned v ∧ Q v w' :=
  funJ_calls mixed Tryd.func34 rfl h

-- (*hoard/hoardref10.Engine).Keys
def hoardref10_Engine_Keys_kp : KP := ⟨[], [(1, [1, 2, 3, 4, 6, 7, 8, 9, 11])]⟩
def hoardref10_Engine_Keys (e0 : Option Addr) (Q : Value → WP) : WP := funJ idJ Tryd.prog hoardref10_Engine_Keys_kp Tryd.f35 [.pointer e0] Q
theorem hoardref10_Engine_Keys_raw (jn : Jn) (e0 : Option Addr) (Q : Value → WP) : funJ jn Tryd.prog hoardref10_Engine_Keys_kp Tryd.f35 [.pointer e0] Q = (
  drawW fun S =>
  nilck e0 fun b_1 o_2 =>
  ldS S .slc b_1 o_2 fun (x_3 : Sl) =>
  nilck e0 fun b_4 o_5 =>
  ldS S .slc b_4 (o_5 + 1) fun (x_6 : Sl) =>
  newB [] ty_string fun b_7 =>
  keepS true S <|
  appendC ty_string 1 16 [.string str_empty] ⟨(some ⟨b_7, 0, none⟩), 0, 0⟩ x_3.n (fun w => rdA w x_3.a (x_3.n * 1)) fun s_8 =>
  keepS true S <|
  appendC ty_string 1 16 [.string str_empty] ⟨s_8.a, s_8.n, s_8.c⟩ x_6.n (fun w => rdA w x_6.a (x_6.n * 1)) fun s_9 =>
  Q (.slice s_9.a s_9.n s_9.c)) := by kernel_rfl
theorem hoardref10_Engine_Keys_def (e0 : Option Addr) (Q : Value → WP) : hoardref10_Engine_Keys e0 Q = funJ idJ Tryd.prog hoardref10_Engine_Keys_kp Tryd.f35 [.pointer e0] Q := rfl
theorem hoardref10_Engine_Keys_calls {e0 : Option Addr} {Q : Value → WP} {w : World} (h : hoardref10_Engine_Keys e0 Q w) : Calls Tryd.prog id_hoardref10_Engine_Keys #[.pointer e0] w fun e w' => ∃ v, e = .returned v ∧ Q v w' :=
  funJ_calls mixed Tryd.func35 rfl h

-- (*hoard/hoardref10.Engine).Len
def hoardref10_Engine_Len_kp : KP := ⟨[], [(1, [0, 1, 2, 3, 4, 5, 6, 7, 9, 10, 11])]⟩
def hoardref10_Engine_Len (e0 : Option Addr) (Q : Value → WP) : WP := funJ idJ Tryd.prog hoardref10_Engine_Len_kp Tryd.f36 [.pointer e0] Q
theorem hoardref10_Engine_Len_raw (jn : Jn) (e0 : Option Addr) (Q : Value → WP) : funJ jn Tryd.prog hoardref10_Engine_Len_kp Tryd.f36 [.pointer e0] Q = (
  drawW fun S =>
  nilck e0 fun b_1 o_2 =>
  ldS S .slc b_1 o_2 fun (x_3 : Sl) =>
  nilck e0 fun b_4 o_5 =>
  ld .slc b_4 (o_5 + 1) fun (x_6 : Sl) =>
  keepS true S <|
  Q (.int .i64 (IntKind.wrap .i64 ((x_3.n : Int) + (x_6.n : Int))))) := by kernel_rfl
theorem hoardref10_Engine_Len_def (e0 : Option Addr) (Q : Value → WP) : hoardref10_Engine_Len e0 Q = funJ idJ Tryd.prog hoardref10_Engine_Len_kp Tryd.f36 [.pointer e0] Q := rfl
theorem hoardref10_Engine_Len_calls {e0 : Option Addr} {Q : Value → WP} {w : World} (h : hoardref10_Engine_Len e0 Q w) : Calls Tryd.prog id_hoardref10_Engine_Len #[.pointer e0] w fun e w' => ∃ v, e = .returned v ∧ Q v w' :=
  funJ_calls mixed Tryd.func36 rfl h

-- (*hoard/hoardref10.Engine).Ghosts
def hoardref10_Engine_Ghosts_kp : KP := ⟨[], [(1, [1, 2, 3, 4, 6, 7, 8, 9, 11])]⟩
def hoardref10_Engine_Ghosts (e0 : Option Addr) (Q : Value → WP) : WP := funJ idJ Tryd.prog hoardref10_Engine_Ghosts_kp Tryd.f37 [.pointer e0] Q
theorem hoardref10_Engine_Ghosts_raw (jn : Jn) (e0 : Option Addr) (Q : Value → WP) : funJ jn Tryd.prog hoardref10_Engine_Ghosts_kp Tryd.f37 [.pointer e0] Q = (
  drawW fun S =>
  nilck e0 fun b_1 o_2 =>
  ldS S .slc b_1 (o_2 + 2) fun (x_3 : Sl) =>
  nilck e0 fun b_4 o_5 =>
  ldS S .slc b_4 (o_5 + 3) fun (x_6 : Sl) =>
  newB [] ty_string fun b_7 =>
  keepS true S <|
  appendC ty_string 1 16 [.string str_empty] ⟨(some ⟨b_7, 0, none⟩), 0, 0⟩ x_3.n (fun w => rdA w x_3.a (x_3.n * 1)) fun s_8 =>
  keepS true S <|
  appendC ty_string 1 16 [.string str_empty] ⟨s_8.a, s_8.n, s_8.c⟩ x_6.n (fun w => rdA w x_6.a (x_6.n * 1)) fun s_9 =>
  Q (.slice s_9.a s_9.n s_9.c)) := by kernel_rfl
theorem hoardref10_Engine_Ghosts_def (e0 : Option Addr) (Q : Value → WP) : hoardref10_Engine_Ghosts e0 Q = funJ idJ Tryd.prog hoardref10_Engine_Ghosts_kp Tryd.f37 [.pointer e0] Q := rfl
theorem hoardref10_Engine_Ghosts_calls {e0 : Option Addr} {Q : Value → WP} {w : World} (h : hoardref10_Engine_Ghosts e0 Q w) : Calls Tryd.prog id_hoardref10_Engine_Ghosts #[.pointer e0] w fun e w' => ∃ v, e = .returned v ∧ Q v w' :=
  funJ_calls mixed Tryd.func37 rfl h

-- (*hoard/hoardref10.Engine).Room
def hoardref10_Engine_Room_kp : KP := ⟨[], []⟩
def hoardref10_Engine_Room (e0 : Option Addr) (Q : Value → WP) : WP := funJ idJ Tryd.prog hoardref10_Engine_Room_kp Tryd.f38 [.pointer e0] Q
theorem hoardref10_Engine_Room_raw (jn : Jn) (e0 : Option Addr) (Q : Value → WP) : funJ jn Tryd.prog hoardref10_Engine_Room_kp Tryd.f38 [.pointer e0] Q = (
  nilck e0 fun b_1 o_2 =>
  ld (.int .i64) b_1 (o_2 + 5) fun (x_3 : Int) =>
  Q (.int .i64 x_3)) := by kernel_rfl
theorem hoardref10_Engine_Room_def (e0 : Option Addr) (Q : Value → WP) : hoardref10_Engine_Room e0 Q = funJ idJ Tryd.prog hoardref10_Engine_Room_kp Tryd.f38 [.pointer e0] Q := rfl
theorem hoardref10_Engine_Room_calls {e0 : Option Addr} {Q : Value → WP} {w : World} (h : hoardref10_Engine_Room e0 Q w) : Calls Tryd.prog id_hoardref10_Engine_Room #[.pointer e0] w fun e w' => ∃ v, e = .returned v ∧ Q v w' :=
  funJ_calls mixed Tryd.func38 rfl h

-- hoard/hoardlaw10.bounded
def hoardlaw10_bounded_kp : KP := ⟨[(9, [0, 3, 4, 5]), (16, [0, 3, 4])], []⟩
def hoardlaw10_bounded_j2 (jn : Jn) (Q : Value → WP)  (e0 : Option Addr) (k3 : Sl) (g4 : Sl) : WP := jn 16 (fun ρ => codeI Tryd.prog hoardlaw10_bounded_kp jn (cAt [true, true, true] (bodyOf Tryd.f39)) (retK Tryd.prog Tryd.f39 Q) noX (retK Tryd.prog Tryd.f39 Q) ρ) ((.pointer e0) :: us 2 ((.slice k3.a k3.n k3.c) :: (.slice g4.a g4.n g4.c) :: us 26 []))
def hoardlaw10_bounded_l1 (jn : Jn) (Q : Value → WP)  (m1 : Nat) (e0 : Option Addr) (k3 : Sl) (g4 : Sl) (i5 : Int) : WP := lop Tryd.prog hoardlaw10_bounded_kp jn (cAt [true, true, false, true, false, false] (bodyOf Tryd.f39)) (blkX 0 (seqK Tryd.prog hoardlaw10_bounded_kp jn (cAt [true, true, true] (bodyOf Tryd.f39)) (retK Tryd.prog Tryd.f39 Q) noX (retK Tryd.prog Tryd.f39 Q)) noX) (retK Tryd.prog Tryd.f39 Q) m1 ((.pointer e0) :: us 2 ((.slice k3.a k3.n k3.c) :: (.slice g4.a g4.n g4.c) :: (.int .i64 i5) :: us 25 []))
def hoardlaw10_bounded (e0 : Option Addr) (Q : Value → WP) : WP := funJ idJ Tryd.prog hoardlaw10_bounded_kp Tryd.f39 [.pointer e0] Q
theorem hoardlaw10_bounded_j2_raw (jn : Jn) (Q : Value → WP)  (e0 : Option Addr) (k3 : Sl) (g4 : Sl) : codeI Tryd.prog hoardlaw10_bounded_kp jn (cAt [true, true, true] (bodyOf Tryd.f39)) (retK Tryd.prog Tryd.f39 Q) noX (retK Tryd.prog Tryd.f39 Q) ((.pointer e0) :: us 2 ((.slice k3.a k3.n k3.c) :: (.slice g4.a g4.n g4.c) :: us 26 [])) = (
  call1 (.int .i64) Tryd.prog id_arc_Engine_Room [.pointer e0] fun (x_7 : Int) =>
  Q (.bool (decide ((IntKind.wrap .i64 ((k3.n : Int) + (g4.n : Int))) ≤ (IntKind.wrap .i64 ((2 : Int) * x_7)))))) := by kernel_rfl
theorem hoardlaw10_bounded_j2_def (Q : Value → WP)  (e0 : Option Addr) (k3 : Sl) (g4 : Sl) : hoardlaw10_bounded_j2 idJ Q  e0 k3 g4 = codeI Tryd.prog hoardlaw10_bounded_kp idJ (cAt [true, true, true] (bodyOf Tryd.f39)) (retK Tryd.prog Tryd.f39 Q) noX (retK Tryd.prog Tryd.f39 Q) ((.pointer e0) :: us 2 ((.slice k3.a k3.n k3.c) :: (.slice g4.a g4.n g4.c) :: us 26 [])) := by kernel_rfl
theorem hoardlaw10_bounded_l1_raw (jn : Jn) (Q : Value → WP)  (m1 : Nat) (e0 : Option Addr) (k3 : Sl) (g4 : Sl) (i5 : Int) : hoardlaw10_bounded_l1 jn Q  (m1 + 1) e0 k3 g4 i5 = (
  ite2 (decide (i5 < (g4.n : Int))) (
  idx g4.a g4.n i5 fun b_3 o_4 =>
  ld .str b_3 (o_4 + (i5).toNat * 1) fun (x_5 : ByteArray) =>
  call1 .bool Tryd.prog id_hoardlaw10_has [.slice k3.a k3.n k3.c, .string x_5] fun (x_6 : Bool) =>
  ite2 x_6 (
  Q (.bool false)) (
  hoardlaw10_bounded_l1 jn Q  m1 e0 k3 g4 (IntKind.wrap .i64 (i5 + (1 : Int))))) (
  hoardlaw10_bounded_j2 jn Q  e0 k3 g4)) := by kernel_rfl
theorem hoardlaw10_bounded_l1_zero (jn : Jn) (Q : Value → WP)  (e0 : Option Addr) (k3 : Sl) (g4 : Sl) (i5 : Int) : hoardlaw10_bounded_l1 jn Q  0 e0 k3 g4 i5 = bot := by kernel_rfl
theorem hoardlaw10_bounded_raw (jn : Jn) (e0 : Option Addr) (Q : Value → WP) : funJ jn Tryd.prog hoardlaw10_bounded_kp Tryd.f39 [.pointer e0] Q = (
  call1 .slc Tryd.prog id_arc_Engine_Keys [.pointer e0] fun (x_1 : Sl) =>
  call1 .slc Tryd.prog id_arc_Engine_Ghosts [.pointer e0] fun (x_2 : Sl) =>
  exM fun m => hoardlaw10_bounded_l1 jn Q  m e0 x_1 x_2 (0 : Int)) := by kernel_rfl
theorem hoardlaw10_bounded_def (e0 : Option Addr) (Q : Value → WP) : hoardlaw10_bounded e0 Q = funJ idJ Tryd.prog hoardlaw10_bounded_kp Tryd.f39 [.pointer e0] Q := rfl
theorem hoardlaw10_bounded_calls {e0 : Option Addr} {Q : Value → WP} {w : World} (h : hoardlaw10_bounded e0 Q w) : Calls Tryd.prog id_hoardlaw10_bounded #[.pointer e0] w fun e w' => ∃ v, e = .returned v ∧ Q v w' :=
  funJ_calls mixed Tryd.func39 rfl h

-- hoard/arc.newRows
def arc_newRows_kp : KP := ⟨[(9, [2, 3, 6, 7]), (14, [2, 3])], [(4, [0, 1, 5])]⟩
def arc_newRows_j2 (jn : Jn) (Q : Value → WP)  (t2_b : Nat) (t2_o : Nat) (r3_b : Nat) (r3_o : Nat) : WP := jn 14 (fun ρ => codeI Tryd.prog arc_newRows_kp jn (cAt [true, true, true] (bodyOf Tryd.f40)) (retK Tryd.prog Tryd.f40 Q) noX (retK Tryd.prog Tryd.f40 Q) ρ) (us 2 ((.pointer (some ⟨t2_b, t2_o, none⟩)) :: (.pointer (some ⟨r3_b, r3_o, none⟩)) :: us 13 []))
def arc_newRows_l1 (jn : Jn) (Q : Value → WP)  (m1 : Nat) (t2_b : Nat) (t2_o : Nat) (r3_b : Nat) (r3_o : Nat) (t6 : Int) (t7 : Int) : WP := lop Tryd.prog arc_newRows_kp jn (cAt [true, true, false, true, false, false] (bodyOf Tryd.f40)) (blkX 0 (seqK Tryd.prog arc_newRows_kp jn (cAt [true, true, true] (bodyOf Tryd.f40)) (retK Tryd.prog Tryd.f40 Q) noX (retK Tryd.prog Tryd.f40 Q)) noX) (retK Tryd.prog Tryd.f40 Q) m1 (us 2 ((.pointer (some ⟨t2_b, t2_o, none⟩)) :: (.pointer (some ⟨r3_b, r3_o, none⟩)) :: us 2 ((.int .i64 t6) :: (.int .i64 t7) :: us 9 [])))
def arc_newRows (n0 : Int) (Q : Value → WP) : WP := funJ idJ Tryd.prog arc_newRows_kp Tryd.f40 [.int .i64 n0] Q
theorem arc_newRows_j2_raw (jn : Jn) (Q : Value → WP)  (t2_b : Nat) (t2_o : Nat) (r3_b : Nat) (r3_o : Nat) : codeI Tryd.prog arc_newRows_kp jn (cAt [true, true, true] (bodyOf Tryd.f40)) (retK Tryd.prog Tryd.f40 Q) noX (retK Tryd.prog Tryd.f40 Q) (us 2 ((.pointer (some ⟨t2_b, t2_o, none⟩)) :: (.pointer (some ⟨r3_b, r3_o, none⟩)) :: us 13 [])) = (
  ld .slc r3_b r3_o fun (x_8 : Sl) =>
  ld .ptr r3_b (r3_o + 1) fun (x_9 : Option Addr) =>
  st t2_b t2_o (.slice x_8.a x_8.n x_8.c) <|
  st t2_b (t2_o + 1) (.pointer x_9) <|
  ld .slc t2_b t2_o fun (x_10 : Sl) =>
  ld .ptr t2_b (t2_o + 1) fun (x_11 : Option Addr) =>
  Q (.agg #[.slice x_10.a x_10.n x_10.c, .pointer x_11])) := by kernel_rfl
theorem arc_newRows_j2_def (Q : Value → WP)  (t2_b : Nat) (t2_o : Nat) (r3_b : Nat) (r3_o : Nat) : arc_newRows_j2 idJ Q  t2_b t2_o r3_b r3_o = codeI Tryd.prog arc_newRows_kp idJ (cAt [true, true, true] (bodyOf Tryd.f40)) (retK Tryd.prog Tryd.f40 Q) noX (retK Tryd.prog Tryd.f40 Q) (us 2 ((.pointer (some ⟨t2_b, t2_o, none⟩)) :: (.pointer (some ⟨r3_b, r3_o, none⟩)) :: us 13 [])) := by kernel_rfl
theorem arc_newRows_l1_raw (jn : Jn) (Q : Value → WP)  (m1 : Nat) (t2_b : Nat) (t2_o : Nat) (r3_b : Nat) (r3_o : Nat) (t6 : Int) (t7 : Int) : arc_newRows_l1 jn Q  (m1 + 1) t2_b t2_o r3_b r3_o t6 t7 = (
  ite2 (decide (t7 < t6)) (
  drawW fun S =>
  ldS S .slc r3_b r3_o fun (x_4 : Sl) =>
  call1 .ptr Tryd.prog id_list_New_string [] fun (x_5 : Option Addr) =>
  keepS true S <|
  newB [.pointer x_5] ty_p_list_List_string fun b_6 =>
  keepS true S <|
  appendC ty_p_list_List_string 1 8 [.pointer (none : Option Addr)] ⟨x_4.a, x_4.n, x_4.c⟩ 1 (fun w => rdA w (some ⟨b_6, 0, none⟩) (1 * 1)) fun s_7 =>
  st r3_b r3_o (.slice s_7.a s_7.n s_7.c) <|
  arc_newRows_l1 jn Q  m1 t2_b t2_o r3_b r3_o t6 (IntKind.wrap .i64 (t7 + (1 : Int)))) (
  arc_newRows_j2 jn Q  t2_b t2_o r3_b r3_o)) := by kernel_rfl
theorem arc_newRows_l1_zero (jn : Jn) (Q : Value → WP)  (t2_b : Nat) (t2_o : Nat) (r3_b : Nat) (r3_o : Nat) (t6 : Int) (t7 : Int) : arc_newRows_l1 jn Q  0 t2_b t2_o r3_b r3_o t6 t7 = bot := by kernel_rfl
theorem arc_newRows_raw (jn : Jn) (n0 : Int) (Q : Value → WP) : funJ jn Tryd.prog arc_newRows_kp Tryd.f40 [.int .i64 n0] Q = (
  newB [.slice (none : Option Addr) 0 0, .pointer (none : Option Addr)] ty_arc_rows fun b_1 =>
  call1 .ptr Tryd.prog id_index_New_arc_place [.int .u64 (0 : Int)] fun (x_2 : Option Addr) =>
  newB [.slice (none : Option Addr) 0 0, .pointer (none : Option Addr)] ty_arc_rows fun b_3 =>
  st b_3 0 (.slice (none : Option Addr) 0 0) <|
  st b_3 1 (.pointer x_2) <|
  exM fun m => arc_newRows_l1 jn Q  m b_1 0 b_3 0 n0 (0 : Int)) := by kernel_rfl
theorem arc_newRows_def (n0 : Int) (Q : Value → WP) : arc_newRows n0 Q = funJ idJ Tryd.prog arc_newRows_kp Tryd.f40 [.int .i64 n0] Q := rfl
theorem arc_newRows_calls {n0 : Int} {Q : Value → WP} {w : World} (h : arc_newRows n0 Q w) : Calls Tryd.prog id_arc_newRows #[.int .i64 n0] w fun e w' => ∃ v, e = .returned v ∧ Q v w' :=
  funJ_calls mixed Tryd.func40 rfl h

-- (hoard/arc.rows).where
def arc_rows_where_kp : KP := ⟨[], []⟩
def arc_rows_where (r0_0 : Sl) (r0_1 : Option Addr) (key1 : ByteArray) (Q : Value → WP) : WP := funJ idJ Tryd.prog arc_rows_where_kp Tryd.f41 [.agg #[.slice r0_0.a r0_0.n r0_0.c, .pointer r0_1], .string key1] Q
theorem arc_rows_where_raw (jn : Jn) (r0_0 : Sl) (r0_1 : Option Addr) (key1 : ByteArray) (Q : Value → WP) : funJ jn Tryd.prog arc_rows_where_kp Tryd.f41 [.agg #[.slice r0_0.a r0_0.n r0_0.c, .pointer r0_1], .string key1] Q = (
  newB [.slice r0_0.a r0_0.n r0_0.c, .pointer r0_1] ty_arc_rows fun b_1 =>
  ld .ptr b_1 1 fun (x_2 : Option Addr) =>
  fun w => Calls Tryd.prog id_index_Index_arc_place_Get #[.pointer x_2, .string key1] w fun e w' => ∃ x_3 : Int, ∃ x_4 : Int, ∃ x_5 : Bool, e = .returned (.tuple #[.agg #[.int .i64 x_3, .int .i64 x_4], .bool x_5]) ∧ (
  newB [.int .i64 (0 : Int), .int .i64 (0 : Int)] ty_arc_place fun b_6 =>
  st b_6 0 (.int .i64 x_3) <|
  st b_6 1 (.int .i64 x_4) <|
  ite2 (!x_5) (
  Q (.int .i64 (-1 : Int))) (
  ld (.int .i64) b_6 0 fun (x_7 : Int) =>
  Q (.int .i64 x_7))) w') := by kernel_rfl
theorem arc_rows_where_def (r0_0 : Sl) (r0_1 : Option Addr) (key1 : ByteArray) (Q : Value → WP) : arc_rows_where r0_0 r0_1 key1 Q = funJ idJ Tryd.prog arc_rows_where_kp Tryd.f41 [.agg #[.slice r0_0.a r0_0.n r0_0.c, .pointer r0_1], .string key1] Q := rfl
theorem arc_rows_where_calls {r0_0 : Sl} {r0_1 : Option Addr} {key1 : ByteArray} {Q : Value → WP} {w : World} (h : arc_rows_where r0_0 r0_1 key1 Q w) : Calls Tryd.prog id_arc_rows_where #[.agg #[.slice r0_0.a r0_0.n r0_0.c, .pointer r0_1], .string key1] w fun e w' => ∃ v, e = .returned v ∧ Q v w' :=
  funJ_calls mixed Tryd.func41 rfl h

-- (hoard/arc.rows).push
def arc_rows_push_kp : KP := ⟨[], [(2, [0, 1, 2, 3, 4, 6, 7, 9, 11])]⟩
def arc_rows_push (r0_0 : Sl) (r0_1 : Option Addr) (row1 : Int) (key2 : ByteArray) (Q : Value → WP) : WP := funJ idJ Tryd.prog arc_rows_push_kp Tryd.f42 [.agg #[.slice r0_0.a r0_0.n r0_0.c, .pointer r0_1], .int .i64 row1, .string key2] Q
theorem arc_rows_push_raw (jn : Jn) (r0_0 : Sl) (r0_1 : Option Addr) (row1 : Int) (key2 : ByteArray) (Q : Value → WP) : funJ jn Tryd.prog arc_rows_push_kp Tryd.f42 [.agg #[.slice r0_0.a r0_0.n r0_0.c, .pointer r0_1], .int .i64 row1, .string key2] Q = (
  newB [.slice r0_0.a r0_0.n r0_0.c, .pointer r0_1] ty_arc_rows fun b_1 =>
  ld .slc b_1 0 fun (x_2 : Sl) =>
  ld .ptr b_1 1 fun (x_3 : Option Addr) =>
  call0 Tryd.prog id_arc_rows_drop [.agg #[.slice x_2.a x_2.n x_2.c, .pointer x_3], .string key2] <|
  drawW fun S =>
  ldS S .ptr b_1 1 fun (x_4 : Option Addr) =>
  ld .slc b_1 0 fun (x_5 : Sl) =>
  keepS true S <|
  idx x_5.a x_5.n row1 fun b_6 o_7 =>
  ld .ptr b_6 (o_7 + (row1).toNat * 1) fun (x_8 : Option Addr) =>
  keepS true S <|
  call1 (.int .i64) Tryd.prog id_list_List_string_PushBack [.pointer x_8, .string key2] fun (x_9 : Int) =>
  keepS true S <|
  call1 .bool Tryd.prog id_index_Index_arc_place_Put [.pointer x_4, .string key2, .agg #[.int .i64 row1, .int .i64 x_9]] fun (x_10 : Bool) =>
  Q (.tuple #[])) := by kernel_rfl
theorem arc_rows_push_def (r0_0 : Sl) (r0_1 : Option Addr) (row1 : Int) (key2 : ByteArray) (Q : Value → WP) : arc_rows_push r0_0 r0_1 row1 key2 Q = funJ idJ Tryd.prog arc_rows_push_kp Tryd.f42 [.agg #[.slice r0_0.a r0_0.n r0_0.c, .pointer r0_1], .int .i64 row1, .string key2] Q := rfl
theorem arc_rows_push_calls {r0_0 : Sl} {r0_1 : Option Addr} {row1 : Int} {key2 : ByteArray} {Q : Value → WP} {w : World} (h : arc_rows_push r0_0 r0_1 row1 key2 Q w) : Calls Tryd.prog id_arc_rows_push #[.agg #[.slice r0_0.a r0_0.n r0_0.c, .pointer r0_1], .int .i64 row1, .string key2] w fun e w' => ∃ v, e = .returned v ∧ Q v w' :=
  funJ_calls mixed Tryd.func42 rfl h

-- (hoard/arc.rows).many
def arc_rows_many_kp : KP := ⟨[(9, [2, 5, 8, 9, 10]), (16, [5])], []⟩
def arc_rows_many_j2 (jn : Jn) (Q : Value → WP)  (n5 : Int) : WP := jn 16 (fun ρ => codeI Tryd.prog arc_rows_many_kp jn (cAt [true, true, true] (bodyOf Tryd.f43)) (retK Tryd.prog Tryd.f43 Q) noX (retK Tryd.prog Tryd.f43 Q) ρ) (us 5 ((.int .i64 n5) :: us 18 []))
def arc_rows_many_l1 (jn : Jn) (Q : Value → WP)  (m1 : Nat) (r2_b : Nat) (r2_o : Nat) (n5 : Int) (t8 : Sl) (t9 : Int) (t10 : Int) : WP := lop Tryd.prog arc_rows_many_kp jn (cAt [true, true, false, true, false, false] (bodyOf Tryd.f43)) (blkX 0 (seqK Tryd.prog arc_rows_many_kp jn (cAt [true, true, true] (bodyOf Tryd.f43)) (retK Tryd.prog Tryd.f43 Q) noX (retK Tryd.prog Tryd.f43 Q)) noX) (retK Tryd.prog Tryd.f43 Q) m1 (us 2 ((.pointer (some ⟨r2_b, r2_o, none⟩)) :: us 2 ((.int .i64 n5) :: us 2 ((.slice t8.a t8.n t8.c) :: (.int .i64 t9) :: (.int .i64 t10) :: us 13 []))))
def arc_rows_many (r0_0 : Sl) (r0_1 : Option Addr) (of1 : Sl) (Q : Value → WP) : WP := funJ idJ Tryd.prog arc_rows_many_kp Tryd.f43 [.agg #[.slice r0_0.a r0_0.n r0_0.c, .pointer r0_1], .slice of1.a of1.n of1.c] Q
theorem arc_rows_many_j2_raw (jn : Jn) (Q : Value → WP)  (n5 : Int) : codeI Tryd.prog arc_rows_many_kp jn (cAt [true, true, true] (bodyOf Tryd.f43)) (retK Tryd.prog Tryd.f43 Q) noX (retK Tryd.prog Tryd.f43 Q) (us 5 ((.int .i64 n5) :: us 18 [])) = (
  Q (.int .i64 n5)) := by kernel_rfl
theorem arc_rows_many_j2_def (Q : Value → WP)  (n5 : Int) : arc_rows_many_j2 idJ Q  n5 = codeI Tryd.prog arc_rows_many_kp idJ (cAt [true, true, true] (bodyOf Tryd.f43)) (retK Tryd.prog Tryd.f43 Q) noX (retK Tryd.prog Tryd.f43 Q) (us 5 ((.int .i64 n5) :: us 18 [])) := by kernel_rfl
theorem arc_rows_many_l1_raw (jn : Jn) (Q : Value → WP)  (m1 : Nat) (r2_b : Nat) (r2_o : Nat) (n5 : Int) (t8 : Sl) (t9 : Int) (t10 : Int) : arc_rows_many_l1 jn Q  (m1 + 1) r2_b r2_o n5 t8 t9 t10 = (
  ite2 (decide (t10 < t9)) (
  idx t8.a t8.n t10 fun b_2 o_3 =>
  ld (.int .i64) b_2 (o_3 + (t10).toNat * 1) fun (x_4 : Int) =>
  ld .slc r2_b r2_o fun (x_5 : Sl) =>
  idx x_5.a x_5.n x_4 fun b_6 o_7 =>
  ld .ptr b_6 (o_7 + (x_4).toNat * 1) fun (x_8 : Option Addr) =>
  call1 (.int .i64) Tryd.prog id_list_List_string_Len [.pointer x_8] fun (x_9 : Int) =>
  arc_rows_many_l1 jn Q  m1 r2_b r2_o (IntKind.wrap .i64 (n5 + x_9)) t8 t9 (IntKind.wrap .i64 (t10 + (1 : Int)))) (
  arc_rows_many_j2 jn Q  n5)) := by kernel_rfl
theorem arc_rows_many_l1_zero (jn : Jn) (Q : Value → WP)  (r2_b : Nat) (r2_o : Nat) (n5 : Int) (t8 : Sl) (t9 : Int) (t10 : Int) : arc_rows_many_l1 jn Q  0 r2_b r2_o n5 t8 t9 t10 = bot := by kernel_rfl
theorem arc_rows_many_raw (jn : Jn) (r0_0 : Sl) (r0_1 : Option Addr) (of1 : Sl) (Q : Value → WP) : funJ jn Tryd.prog arc_rows_many_kp Tryd.f43 [.agg #[.slice r0_0.a r0_0.n r0_0.c, .pointer r0_1], .slice of1.a of1.n of1.c] Q = (
  newB [.slice r0_0.a r0_0.n r0_0.c, .pointer r0_1] ty_arc_rows fun b_1 =>
  exM fun m => arc_rows_many_l1 jn Q  m b_1 0 (0 : Int) of1 (of1.n : Int) (0 : Int)) := by kernel_rfl
theorem arc_rows_many_def (r0_0 : Sl) (r0_1 : Option Addr) (of1 : Sl) (Q : Value → WP) : arc_rows_many r0_0 r0_1 of1 Q = funJ idJ Tryd.prog arc_rows_many_kp Tryd.f43 [.agg #[.slice r0_0.a r0_0.n r0_0.c, .pointer r0_1], .slice of1.a of1.n of1.c] Q := rfl
theorem arc_rows_many_calls {r0_0 : Sl} {r0_1 : Option Addr} {of1 : Sl} {Q : Value → WP} {w : World} (h : arc_rows_many r0_0 r0_1 of1 Q w) : Calls Tryd.prog id_arc_rows_many #[.agg #[.slice r0_0.a r0_0.n r0_0.c, .pointer r0_1], .slice of1.a of1.n of1.c] w fun e w' => ∃ v, e = .returned v ∧ Q v w' :=
  funJ_calls mixed Tryd.func43 rfl h

-- (*hoard/arc.Engine).replaces
def arc_Engine_replaces_kp : KP := ⟨[], [(1, [0, 1, 2, 3, 6, 7, 8, 9, 10])]⟩
def arc_Engine_replaces (e0 : Option Addr) (again1 : Bool) (Q : Value → WP) : WP := funJ idJ Tryd.prog arc_Engine_replaces_kp Tryd.f44 [.pointer e0, .bool again1] Q
theorem arc_Engine_replaces_raw (jn : Jn) (e0 : Option Addr) (again1 : Bool) (Q : Value → WP) : funJ jn Tryd.prog arc_Engine_replaces_kp Tryd.f44 [.pointer e0, .bool again1] Q = (
  drawW fun S =>
  nilck e0 fun b_1 o_2 =>
  ldS S .slc b_1 o_2 fun (x_3 : Sl) =>
  ldS S .ptr b_1 (o_2 + 1) fun (x_4 : Option Addr) =>
  nilck e0 fun b_5 o_6 =>
  ldS S (.int .i64) b_5 (o_6 + 2) fun (x_7 : Int) =>
  newB [.int .i64 (0 : Int), .int .i64 (1 : Int)] ty_int fun b_8 =>
  keepS true S <|
  call1 (.int .i64) Tryd.prog id_arc_rows_many [.agg #[.slice x_3.a x_3.n x_3.c, .pointer x_4], .slice (some ⟨b_8, 0, none⟩) 2 2] fun (x_9 : Int) =>
  keepS true S <|
  ite2 (decide (x_9 < x_7)) (
  Q (.slice (none : Option Addr) 0 0)) (
  nilck e0 fun b_10 o_11 =>
  ld .slc b_10 o_11 fun (x_12 : Sl) =>
  ld .ptr b_10 (o_11 + 1) fun (x_13 : Option Addr) =>
  newB [.int .i64 (0 : Int)] ty_int fun b_14 =>
  call1 (.int .i64) Tryd.prog id_arc_rows_many [.agg #[.slice x_12.a x_12.n x_12.c, .pointer x_13], .slice (some ⟨b_14, 0, none⟩) 1 1] fun (x_15 : Int) =>
  ite2 (decide (x_15 > (0 : Int))) (
  nilck e0 fun b_16 o_17 =>
  ld (.int .i64) b_16 (o_17 + 3) fun (x_18 : Int) =>
  ite2 (decide (x_15 > x_18)) (
  call1 .slc Tryd.prog id_arc_Engine_ousts [.pointer e0, .bool true] fun (x_19 : Sl) =>
  Q (.slice x_19.a x_19.n x_19.c)) (
  nilck e0 fun b_20 o_21 =>
  ld (.int .i64) b_20 (o_21 + 3) fun (x_22 : Int) =>
  ite2 (x_15 == x_22) (
  ite2 again1 (
  call1 .slc Tryd.prog id_arc_Engine_ousts [.pointer e0, .bool true] fun (x_23 : Sl) =>
  Q (.slice x_23.a x_23.n x_23.c)) (
  nilck e0 fun b_24 o_25 =>
  ld .slc b_24 o_25 fun (x_26 : Sl) =>
  ld .ptr b_24 (o_25 + 1) fun (x_27 : Option Addr) =>
  newB [.int .i64 (1 : Int)] ty_int fun b_28 =>
  call1 (.int .i64) Tryd.prog id_arc_rows_many [.agg #[.slice x_26.a x_26.n x_26.c, .pointer x_27], .slice (some ⟨b_28, 0, none⟩) 1 1] fun (x_29 : Int) =>
  call1 .slc Tryd.prog id_arc_Engine_ousts [.pointer e0, .bool (x_29 == (0 : Int))] fun (x_30 : Sl) =>
  Q (.slice x_30.a x_30.n x_30.c))) (
  nilck e0 fun b_31 o_32 =>
  ld .slc b_31 o_32 fun (x_33 : Sl) =>
  ld .ptr b_31 (o_32 + 1) fun (x_34 : Option Addr) =>
  newB [.int .i64 (1 : Int)] ty_int fun b_35 =>
  call1 (.int .i64) Tryd.prog id_arc_rows_many [.agg #[.slice x_33.a x_33.n x_33.c, .pointer x_34], .slice (some ⟨b_35, 0, none⟩) 1 1] fun (x_36 : Int) =>
  call1 .slc Tryd.prog id_arc_Engine_ousts [.pointer e0, .bool (x_36 == (0 : Int))] fun (x_37 : Sl) =>
  Q (.slice x_37.a x_37.n x_37.c)))) (
  call1 .slc Tryd.prog id_arc_Engine_ousts [.pointer e0, .bool false] fun (x_38 : Sl) =>
  Q (.slice x_38.a x_38.n x_38.c)))) := by kernel_rfl
theorem arc_Engine_replaces_def (e0 : Option Addr) (again1 : Bool) (Q : Value → WP) : arc_Engine_replaces e0 again1 Q = funJ idJ Tryd.prog arc_Engine_replaces_kp Tryd.f44 [.pointer e0, .bool again1] Q := rfl
theorem arc_Engine_replaces_calls {e0 : Option Addr} {again1 : Bool} {Q : Value → WP} {w : World} (h : arc_Engine_replaces e0 again1 Q w) : Calls Tryd.prog id_arc_Engine_replaces #[.pointer e0, .bool again1] w fun e w' => ∃ v, e = .returned v ∧ Q v w' :=
  funJ_calls mixed Tryd.func44 rfl h

-- (*hoard/arc.Engine).comes
def arc_Engine_comes_kp : KP := ⟨[(6, [0, 4])], [(1, [0, 1, 2, 3, 6, 7, 8, 9, 10, 11, 12, 13, 14, 15, 18, 19, 20, 21, 22, 23, 24]), (2, [0, 1, 2, 3, 4, 5, 6]), (3, [0, 1, 2, 3, 6, 7, 8, 9, 10, 11]), (7, [0, 1, 2, 3, 6, 7, 8, 9, 10, 11]), (9, [0, 1, 2, 3, 6, 7, 8, 9, 10, 11, 12]), (10, [0, 1, 2, 3, 4, 5, 6])]⟩
def arc_Engine_comes_j1 (jn : Jn) (Q : Value → WP)  (e0 : Option Addr) (t4 : Bool) : WP := jn 6 (fun ρ => codeI Tryd.prog arc_Engine_comes_kp jn (cAt [true, false, false, true] (bodyOf Tryd.f45)) (seqK Tryd.prog arc_Engine_comes_kp jn (cAt [true, true] (bodyOf Tryd.f45)) (retK Tryd.prog Tryd.f45 Q) noX (retK Tryd.prog Tryd.f45 Q)) (blkX 0 (seqK Tryd.prog arc_Engine_comes_kp jn (cAt [true, true] (bodyOf Tryd.f45)) (retK Tryd.prog Tryd.f45 Q) noX (retK Tryd.prog Tryd.f45 Q)) noX) (retK Tryd.prog Tryd.f45 Q) ρ) ((.pointer e0) :: us 3 ((.bool t4) :: us 96 []))
def arc_Engine_comes (e0 : Option Addr) (Q : Value → WP) : WP := funJ idJ Tryd.prog arc_Engine_comes_kp Tryd.f45 [.pointer e0] Q
theorem arc_Engine_comes_j1_raw (jn : Jn) (Q : Value → WP)  (e0 : Option Addr) (t4 : Bool) : codeI Tryd.prog arc_Engine_comes_kp jn (cAt [true, false, false, true] (bodyOf Tryd.f45)) (seqK Tryd.prog arc_Engine_comes_kp jn (cAt [true, true] (bodyOf Tryd.f45)) (retK Tryd.prog Tryd.f45 Q) noX (retK Tryd.prog Tryd.f45 Q)) (blkX 0 (seqK Tryd.prog arc_Engine_comes_kp jn (cAt [true, true] (bodyOf Tryd.f45)) (retK Tryd.prog Tryd.f45 Q) noX (retK Tryd.prog Tryd.f45 Q)) noX) (retK Tryd.prog Tryd.f45 Q) ((.pointer e0) :: us 3 ((.bool t4) :: us 96 [])) = (
  ite2 t4 (
  drawW fun S =>
  nilck e0 fun b_19 o_20 =>
  ldS S .slc b_19 o_20 fun (x_21 : Sl) =>
  ldS S .ptr b_19 (o_20 + 1) fun (x_22 : Option Addr) =>
  nilck e0 fun b_23 o_24 =>
  ld .slc b_23 o_24 fun (x_25 : Sl) =>
  ld .ptr b_23 (o_24 + 1) fun (x_26 : Option Addr) =>
  keepS true S <|
  call1 .str Tryd.prog id_arc_rows_oldest [.agg #[.slice x_25.a x_25.n x_25.c, .pointer x_26], .int .i64 (2 : Int)] fun (x_27 : ByteArray) =>
  keepS true S <|
  call0 Tryd.prog id_arc_rows_drop [.agg #[.slice x_21.a x_21.n x_21.c, .pointer x_22], .string x_27] <|
  call1 .slc Tryd.prog id_arc_Engine_replaces [.pointer e0, .bool false] fun (x_28 : Sl) =>
  Q (.slice x_28.a x_28.n x_28.c)) (
  drawW fun S =>
  nilck e0 fun b_29 o_30 =>
  ldS S .slc b_29 o_30 fun (x_31 : Sl) =>
  ldS S .ptr b_29 (o_30 + 1) fun (x_32 : Option Addr) =>
  nilck e0 fun b_33 o_34 =>
  ldS S (.int .i64) b_33 (o_34 + 2) fun (x_35 : Int) =>
  newB [.int .i64 (0 : Int), .int .i64 (2 : Int)] ty_int fun b_36 =>
  keepS true S <|
  call1 (.int .i64) Tryd.prog id_arc_rows_many [.agg #[.slice x_31.a x_31.n x_31.c, .pointer x_32], .slice (some ⟨b_36, 0, none⟩) 2 2] fun (x_37 : Int) =>
  keepS true S <|
  ite2 (decide (x_37 ≥ x_35)) (
  nilck e0 fun b_38 o_39 =>
  ld .slc b_38 o_39 fun (x_40 : Sl) =>
  ld .ptr b_38 (o_39 + 1) fun (x_41 : Option Addr) =>
  call1 .str Tryd.prog id_arc_rows_oldest [.agg #[.slice x_40.a x_40.n x_40.c, .pointer x_41], .int .i64 (0 : Int)] fun (x_42 : ByteArray) =>
  nilck e0 fun b_43 o_44 =>
  ld .slc b_43 o_44 fun (x_45 : Sl) =>
  ld .ptr b_43 (o_44 + 1) fun (x_46 : Option Addr) =>
  call0 Tryd.prog id_arc_rows_drop [.agg #[.slice x_45.a x_45.n x_45.c, .pointer x_46], .string x_42] <|
  newB [.string x_42] ty_string fun b_47 =>
  Q (.slice (some ⟨b_47, 0, none⟩) 1 1)) (
  drawW fun S =>
  nilck e0 fun b_48 o_49 =>
  ldS S .slc b_48 o_49 fun (x_50 : Sl) =>
  ldS S .ptr b_48 (o_49 + 1) fun (x_51 : Option Addr) =>
  nilck e0 fun b_52 o_53 =>
  ldS S (.int .i64) b_52 (o_53 + 2) fun (x_54 : Int) =>
  newB [.int .i64 (0 : Int), .int .i64 (1 : Int), .int .i64 (2 : Int), .int .i64 (3 : Int)] ty_int fun b_55 =>
  keepS true S <|
  call1 (.int .i64) Tryd.prog id_arc_rows_many [.agg #[.slice x_50.a x_50.n x_50.c, .pointer x_51], .slice (some ⟨b_55, 0, none⟩) 4 4] fun (x_56 : Int) =>
  keepS true S <|
  ite2 (decide (x_56 < x_54)) (
  Q (.slice (none : Option Addr) 0 0)) (
  drawW fun S =>
  nilck e0 fun b_57 o_58 =>
  ldS S .slc b_57 o_58 fun (x_59 : Sl) =>
  ldS S .ptr b_57 (o_58 + 1) fun (x_60 : Option Addr) =>
  nilck e0 fun b_61 o_62 =>
  ldS S (.int .i64) b_61 (o_62 + 2) fun (x_63 : Int) =>
  newB [.int .i64 (0 : Int), .int .i64 (1 : Int), .int .i64 (2 : Int), .int .i64 (3 : Int)] ty_int fun b_64 =>
  keepS true S <|
  call1 (.int .i64) Tryd.prog id_arc_rows_many [.agg #[.slice x_59.a x_59.n x_59.c, .pointer x_60], .slice (some ⟨b_64, 0, none⟩) 4 4] fun (x_65 : Int) =>
  keepS true S <|
  ite2 (decide (x_65 ≥ (IntKind.wrap .i64 ((2 : Int) * x_63)))) (
  drawW fun S =>
  nilck e0 fun b_66 o_67 =>
  ldS S .slc b_66 o_67 fun (x_68 : Sl) =>
  ldS S .ptr b_66 (o_67 + 1) fun (x_69 : Option Addr) =>
  nilck e0 fun b_70 o_71 =>
  ld .slc b_70 o_71 fun (x_72 : Sl) =>
  ld .ptr b_70 (o_71 + 1) fun (x_73 : Option Addr) =>
  keepS true S <|
  call1 .str Tryd.prog id_arc_rows_oldest [.agg #[.slice x_72.a x_72.n x_72.c, .pointer x_73], .int .i64 (3 : Int)] fun (x_74 : ByteArray) =>
  keepS true S <|
  call0 Tryd.prog id_arc_rows_drop [.agg #[.slice x_68.a x_68.n x_68.c, .pointer x_69], .string x_74] <|
  call1 .slc Tryd.prog id_arc_Engine_replaces [.pointer e0, .bool false] fun (x_75 : Sl) =>
  Q (.slice x_75.a x_75.n x_75.c)) (
  call1 .slc Tryd.prog id_arc_Engine_replaces [.pointer e0, .bool false] fun (x_76 : Sl) =>
  Q (.slice x_76.a x_76.n x_76.c)))))) := by kernel_rfl
theorem arc_Engine_comes_j1_def (Q : Value → WP)  (e0 : Option Addr) (t4 : Bool) : arc_Engine_comes_j1 idJ Q  e0 t4 = codeI Tryd.prog arc_Engine_comes_kp idJ (cAt [true, false, false, true] (bodyOf Tryd.f45)) (seqK Tryd.prog arc_Engine_comes_kp idJ (cAt [true, true] (bodyOf Tryd.f45)) (retK Tryd.prog Tryd.f45 Q) noX (retK Tryd.prog Tryd.f45 Q)) (blkX 0 (seqK Tryd.prog arc_Engine_comes_kp idJ (cAt [true, true] (bodyOf Tryd.f45)) (retK Tryd.prog Tryd.f45 Q) noX (retK Tryd.prog Tryd.f45 Q)) noX) (retK Tryd.prog Tryd.f45 Q) ((.pointer e0) :: us 3 ((.bool t4) :: us 96 [])) := by kernel_rfl
theorem arc_Engine_comes_raw (jn : Jn) (e0 : Option Addr) (Q : Value → WP) : funJ jn Tryd.prog arc_Engine_comes_kp Tryd.f45 [.pointer e0] Q = (
  drawW fun S =>
  nilck e0 fun b_1 o_2 =>
  ldS S .slc b_1 o_2 fun (x_3 : Sl) =>
  ldS S .ptr b_1 (o_2 + 1) fun (x_4 : Option Addr) =>
  nilck e0 fun b_5 o_6 =>
  ldS S (.int .i64) b_5 (o_6 + 2) fun (x_7 : Int) =>
  newB [.int .i64 (0 : Int), .int .i64 (2 : Int)] ty_int fun b_8 =>
  keepS true S <|
  call1 (.int .i64) Tryd.prog id_arc_rows_many [.agg #[.slice x_3.a x_3.n x_3.c, .pointer x_4], .slice (some ⟨b_8, 0, none⟩) 2 2] fun (x_9 : Int) =>
  keepS true S <|
  ite2 (decide (x_9 ≥ x_7)) (
  nilck e0 fun b_10 o_11 =>
  ldS S .slc b_10 o_11 fun (x_12 : Sl) =>
  ldS S .ptr b_10 (o_11 + 1) fun (x_13 : Option Addr) =>
  nilck e0 fun b_14 o_15 =>
  ldS S (.int .i64) b_14 (o_15 + 2) fun (x_16 : Int) =>
  newB [.int .i64 (0 : Int)] ty_int fun b_17 =>
  keepS true S <|
  call1 (.int .i64) Tryd.prog id_arc_rows_many [.agg #[.slice x_12.a x_12.n x_12.c, .pointer x_13], .slice (some ⟨b_17, 0, none⟩) 1 1] fun (x_18 : Int) =>
  keepS true S <|
  arc_Engine_comes_j1 jn Q  e0 (decide (x_18 < x_16))) (
  keepS true S <|
  keepS true S <|
  arc_Engine_comes_j1 jn Q  e0 false)) := by kernel_rfl
theorem arc_Engine_comes_def (e0 : Option Addr) (Q : Value → WP) : arc_Engine_comes e0 Q = funJ idJ Tryd.prog arc_Engine_comes_kp Tryd.f45 [.pointer e0] Q := rfl
theorem arc_Engine_comes_calls {e0 : Option Addr} {Q : Value → WP} {w : World} (h : arc_Engine_comes e0 Q w) : Calls Tryd.prog id_arc_Engine_comes #[.pointer e0] w fun e w' => ∃ v, e = .returned v ∧ Q v w' :=
  funJ_calls mixed Tryd.func45 rfl h

-- (hoard/arc.rows).keys
def arc_rows_keys_kp : KP := ⟨[(9, [2, 5, 8, 9, 10]), (16, [5])], []⟩
def arc_rows_keys_j2 (jn : Jn) (Q : Value → WP)  (l5 : Sl) : WP := jn 16 (fun ρ => codeI Tryd.prog arc_rows_keys_kp jn (cAt [true, true, true] (bodyOf Tryd.f46)) (retK Tryd.prog Tryd.f46 Q) noX (retK Tryd.prog Tryd.f46 Q) ρ) (us 5 ((.slice l5.a l5.n l5.c) :: us 18 []))
def arc_rows_keys_l1 (jn : Jn) (Q : Value → WP)  (m1 : Nat) (r2_b : Nat) (r2_o : Nat) (l5 : Sl) (t8 : Sl) (t9 : Int) (t10 : Int) : WP := lop Tryd.prog arc_rows_keys_kp jn (cAt [true, true, false, true, false, false] (bodyOf Tryd.f46)) (blkX 0 (seqK Tryd.prog arc_rows_keys_kp jn (cAt [true, true, true] (bodyOf Tryd.f46)) (retK Tryd.prog Tryd.f46 Q) noX (retK Tryd.prog Tryd.f46 Q)) noX) (retK Tryd.prog Tryd.f46 Q) m1 (us 2 ((.pointer (some ⟨r2_b, r2_o, none⟩)) :: us 2 ((.slice l5.a l5.n l5.c) :: us 2 ((.slice t8.a t8.n t8.c) :: (.int .i64 t9) :: (.int .i64 t10) :: us 13 []))))
def arc_rows_keys (r0_0 : Sl) (r0_1 : Option Addr) (of1 : Sl) (Q : Value → WP) : WP := funJ idJ Tryd.prog arc_rows_keys_kp Tryd.f46 [.agg #[.slice r0_0.a r0_0.n r0_0.c, .pointer r0_1], .slice of1.a of1.n of1.c] Q
theorem arc_rows_keys_j2_raw (jn : Jn) (Q : Value → WP)  (l5 : Sl) : codeI Tryd.prog arc_rows_keys_kp jn (cAt [true, true, true] (bodyOf Tryd.f46)) (retK Tryd.prog Tryd.f46 Q) noX (retK Tryd.prog Tryd.f46 Q) (us 5 ((.slice l5.a l5.n l5.c) :: us 18 [])) = (
  Q (.slice l5.a l5.n l5.c)) := by kernel_rfl
theorem arc_rows_keys_j2_def (Q : Value → WP)  (l5 : Sl) : arc_rows_keys_j2 idJ Q  l5 = codeI Tryd.prog arc_rows_keys_kp idJ (cAt [true, true, true] (bodyOf Tryd.f46)) (retK Tryd.prog Tryd.f46 Q) noX (retK Tryd.prog Tryd.f46 Q) (us 5 ((.slice l5.a l5.n l5.c) :: us 18 [])) := by kernel_rfl
theorem arc_rows_keys_l1_raw (jn : Jn) (Q : Value → WP)  (m1 : Nat) (r2_b : Nat) (r2_o : Nat) (l5 : Sl) (t8 : Sl) (t9 : Int) (t10 : Int) : arc_rows_keys_l1 jn Q  (m1 + 1) r2_b r2_o l5 t8 t9 t10 = (
  ite2 (decide (t10 < t9)) (
  idx t8.a t8.n t10 fun b_2 o_3 =>
  ld (.int .i64) b_2 (o_3 + (t10).toNat * 1) fun (x_4 : Int) =>
  ld .slc r2_b r2_o fun (x_5 : Sl) =>
  idx x_5.a x_5.n x_4 fun b_6 o_7 =>
  ld .ptr b_6 (o_7 + (x_4).toNat * 1) fun (x_8 : Option Addr) =>
  call1 .slc Tryd.prog id_list_List_string_All [.pointer x_8] fun (x_9 : Sl) =>
  appendC ty_string 1 16 [.string str_empty] ⟨l5.a, l5.n, l5.c⟩ x_9.n (fun w => rdA w x_9.a (x_9.n * 1)) fun s_10 =>
  arc_rows_keys_l1 jn Q  m1 r2_b r2_o s_10 t8 t9 (IntKind.wrap .i64 (t10 + (1 : Int)))) (
  arc_rows_keys_j2 jn Q  l5)) := by kernel_rfl
theorem arc_rows_keys_l1_zero (jn : Jn) (Q : Value → WP)  (r2_b : Nat) (r2_o : Nat) (l5 : Sl) (t8 : Sl) (t9 : Int) (t10 : Int) : arc_rows_keys_l1 jn Q  0 r2_b r2_o l5 t8 t9 t10 = bot := by kernel_rfl
theorem arc_rows_keys_raw (jn : Jn) (r0_0 : Sl) (r0_1 : Option Addr) (of1 : Sl) (Q : Value → WP) : funJ jn Tryd.prog arc_rows_keys_kp Tryd.f46 [.agg #[.slice r0_0.a r0_0.n r0_0.c, .pointer r0_1], .slice of1.a of1.n of1.c] Q = (
  newB [.slice r0_0.a r0_0.n r0_0.c, .pointer r0_1] ty_arc_rows fun b_1 =>
  exM fun m => arc_rows_keys_l1 jn Q  m b_1 0 ⟨(none : Option Addr), 0, 0⟩ of1 (of1.n : Int) (0 : Int)) := by kernel_rfl
theorem arc_rows_keys_def (r0_0 : Sl) (r0_1 : Option Addr) (of1 : Sl) (Q : Value → WP) : arc_rows_keys r0_0 r0_1 of1 Q = funJ idJ Tryd.prog arc_rows_keys_kp Tryd.f46 [.agg #[.slice r0_0.a r0_0.n r0_0.c, .pointer r0_1], .slice of1.a of1.n of1.c] Q := rfl
theorem arc_rows_keys_calls {r0_0 : Sl} {r0_1 : Option Addr} {of1 : Sl} {Q : Value → WP} {w : World} (h : arc_rows_keys r0_0 r0_1 of1 Q w) : Calls Tryd.prog id_arc_rows_keys #[.agg #[.slice r0_0.a r0_0.n r0_0.c, .pointer r0_1], .slice of1.a of1.n of1.c] w fun e w' => ∃ v, e = .returned v ∧ Q v w' :=
  funJ_calls mixed Tryd.func46 rfl h

-- (*hoard/hoardref10.Engine).Access
def hoardref10_Engine_Access_kp : KP := ⟨[], [(2, [0, 1, 2, 3, 4, 5, 6, 8, 9, 10, 11, 12, 14, 17, 18, 20, 21])]⟩
def hoardref10_Engine_Access (e0 : Option Addr) (key1 : ByteArray) (Q : Value → WP) : WP := funJ idJ Tryd.prog hoardref10_Engine_Access_kp Tryd.f47 [.pointer e0, .string key1] Q
theorem hoardref10_Engine_Access_raw (jn : Jn) (e0 : Option Addr) (key1 : ByteArray) (Q : Value → WP) : funJ jn Tryd.prog hoardref10_Engine_Access_kp Tryd.f47 [.pointer e0, .string key1] Q = (
  call1 .bool Tryd.prog id_hoardref10_Engine_Has [.pointer e0, .string key1] fun (x_1 : Bool) =>
  ite2 x_1 (
  drawW fun S =>
  nilck e0 fun b_2 o_3 =>
  ldS S .slc b_2 o_3 fun (x_4 : Sl) =>
  nilck e0 fun b_5 o_6 =>
  ldS S .slc b_5 (o_6 + 1) fun (x_7 : Sl) =>
  allW [
  (call1 .slc Tryd.prog id_hoardref10_cut [.slice x_4.a x_4.n x_4.c, .string key1] fun (x_8 : Sl) =>
  keepS true S <|
  allW [
  (call1 .slc Tryd.prog id_hoardref10_cut [.slice x_7.a x_7.n x_7.c, .string key1] fun (x_9 : Sl) =>
  newB [.string key1] ty_string fun b_10 =>
  keepS true S <|
  appendC ty_string 1 16 [.string str_empty] ⟨x_9.a, x_9.n, x_9.c⟩ 1 (fun w => rdA w (some ⟨b_10, 0, none⟩) (1 * 1)) fun s_11 =>
  nilck e0 fun b_12 o_13 =>
  st b_12 o_13 (.slice x_8.a x_8.n x_8.c) <|
  nilck e0 fun b_14 o_15 =>
  st b_14 (o_15 + 1) (.slice s_11.a s_11.n s_11.c) <|
  Q (.tuple #[.bool true, .slice (none : Option Addr) 0 0])),
  (newB [.string key1] ty_string fun b_16 =>
  keepS true S <|
  call1 .slc Tryd.prog id_hoardref10_cut [.slice x_7.a x_7.n x_7.c, .string key1] fun (x_17 : Sl) =>
  appendC ty_string 1 16 [.string str_empty] ⟨x_17.a, x_17.n, x_17.c⟩ 1 (fun w => rdA w (some ⟨b_16, 0, none⟩) (1 * 1)) fun s_18 =>
  nilck e0 fun b_19 o_20 =>
  st b_19 o_20 (.slice x_8.a x_8.n x_8.c) <|
  nilck e0 fun b_21 o_22 =>
  st b_21 (o_22 + 1) (.slice s_18.a s_18.n s_18.c) <|
  Q (.tuple #[.bool true, .slice (none : Option Addr) 0 0]))]),
  (newB [.string key1] ty_string fun b_23 =>
  keepS true S <|
  call1 .slc Tryd.prog id_hoardref10_cut [.slice x_4.a x_4.n x_4.c, .string key1] fun (x_24 : Sl) =>
  keepS true S <|
  call1 .slc Tryd.prog id_hoardref10_cut [.slice x_7.a x_7.n x_7.c, .string key1] fun (x_25 : Sl) =>
  appendC ty_string 1 16 [.string str_empty] ⟨x_25.a, x_25.n, x_25.c⟩ 1 (fun w => rdA w (some ⟨b_23, 0, none⟩) (1 * 1)) fun s_26 =>
  nilck e0 fun b_27 o_28 =>
  st b_27 o_28 (.slice x_24.a x_24.n x_24.c) <|
  nilck e0 fun b_29 o_30 =>
  st b_29 (o_30 + 1) (.slice s_26.a s_26.n s_26.c) <|
  Q (.tuple #[.bool true, .slice (none : Option Addr) 0 0]))]) (
  nilck e0 fun b_31 o_32 =>
  ld .slc b_31 (o_32 + 2) fun (x_33 : Sl) =>
  call1 (.int .i64) Tryd.prog id_hoardref10_has [.slice x_33.a x_33.n x_33.c, .string key1] fun (x_34 : Int) =>
  ite2 (decide (x_34 ≥ (0 : Int))) (
  call1 .slc Tryd.prog id_hoardref10_Engine_known [.pointer e0, .string key1] fun (x_35 : Sl) =>
  Q (.tuple #[.bool false, .slice x_35.a x_35.n x_35.c])) (
  nilck e0 fun b_36 o_37 =>
  ld .slc b_36 (o_37 + 3) fun (x_38 : Sl) =>
  call1 (.int .i64) Tryd.prog id_hoardref10_has [.slice x_38.a x_38.n x_38.c, .string key1] fun (x_39 : Int) =>
  ite2 (decide (x_39 ≥ (0 : Int))) (
  call1 .slc Tryd.prog id_hoardref10_Engine_known [.pointer e0, .string key1] fun (x_40 : Sl) =>
  Q (.tuple #[.bool false, .slice x_40.a x_40.n x_40.c])) (
  call1 .slc Tryd.prog id_hoardref10_Engine_fresh [.pointer e0, .string key1] fun (x_41 : Sl) =>
  Q (.tuple #[.bool false, .slice x_41.a x_41.n x_41.c]))))) := by kernel_rfl
theorem hoardref10_Engine_Access_def (e0 : Option Addr) (key1 : ByteArray) (Q : Value → WP) : hoardref10_Engine_Access e0 key1 Q = funJ idJ Tryd.prog hoardref10_Engine_Access_kp Tryd.f47 [.pointer e0, .string key1] Q := rfl
theorem hoardref10_Engine_Access_calls {e0 : Option Addr} {key1 : ByteArray} {Q : Value → WP} {w : World} (h : hoardref10_Engine_Access e0 key1 Q w) : Calls Tryd.prog id_hoardref10_Engine_Access #[.pointer e0, .string key1] w fun e w' => ∃ v, e = .returned v ∧ Q v w' :=
  funJ_calls mixed Tryd.func47 rfl h

-- (*hoard/hoardref10.Engine).Load
def hoardref10_Engine_Load_kp : KP := ⟨[(8, [0, 1]), (13, [0]), (16, [0]), (17, [0]), (20, [])], [(1, [0, 1, 3, 4, 6, 7, 8, 9, 10, 11]), (3, [0, 1, 2, 3, 4, 5, 6, 8, 9, 10, 11, 12, 14, 15, 17, 18]), (5, [0, 1, 2, 3, 4, 5, 6, 7, 8, 9, 10, 11, 12, 13, 15]), (7, [0, 2, 3, 4, 5, 6, 7, 8, 9, 10, 11, 12, 13, 14, 15, 16, 17, 18, 19])]⟩
def hoardref10_Engine_Load_j5 (jn : Jn) (Q : Value → WP)   : WP := jn 20 (fun ρ => codeI Tryd.prog hoardref10_Engine_Load_kp jn (cAt [true, true, true, true, true, true] (bodyOf Tryd.f48)) (retK Tryd.prog Tryd.f48 Q) noX (retK Tryd.prog Tryd.f48 Q) ρ) (us 99 [])
def hoardref10_Engine_Load_l4 (jn : Jn) (Q : Value → WP)  (m4 : Nat) (e0 : Option Addr) : WP := lop Tryd.prog hoardref10_Engine_Load_kp jn (cAt [true, true, true, true, true, false, false, false] (bodyOf Tryd.f48)) (blkX 2 (seqK Tryd.prog hoardref10_Engine_Load_kp jn (cAt [true, true, true, true, true, true] (bodyOf Tryd.f48)) (retK Tryd.prog Tryd.f48 Q) noX (retK Tryd.prog Tryd.f48 Q)) noX) (retK Tryd.prog Tryd.f48 Q) m4 ((.pointer e0) :: us 98 [])
def hoardref10_Engine_Load_j3 (jn : Jn) (Q : Value → WP)  (e0 : Option Addr) : WP := jn 16 (fun ρ => codeI Tryd.prog hoardref10_Engine_Load_kp jn (cAt [true, true, true, true, true] (bodyOf Tryd.f48)) (retK Tryd.prog Tryd.f48 Q) noX (retK Tryd.prog Tryd.f48 Q) ρ) ((.pointer e0) :: us 98 [])
def hoardref10_Engine_Load_l2 (jn : Jn) (Q : Value → WP)  (m2 : Nat) (e0 : Option Addr) : WP := lop Tryd.prog hoardref10_Engine_Load_kp jn (cAt [true, true, true, true, false, false, false] (bodyOf Tryd.f48)) (blkX 0 (seqK Tryd.prog hoardref10_Engine_Load_kp jn (cAt [true, true, true, true, true] (bodyOf Tryd.f48)) (retK Tryd.prog Tryd.f48 Q) noX (retK Tryd.prog Tryd.f48 Q)) noX) (retK Tryd.prog Tryd.f48 Q) m2 ((.pointer e0) :: us 98 [])
def hoardref10_Engine_Load_j1 (jn : Jn) (Q : Value → WP)  (e0 : Option Addr) (key1 : ByteArray) : WP := jn 8 (fun ρ => codeI Tryd.prog hoardref10_Engine_Load_kp jn (cAt [true, true] (bodyOf Tryd.f48)) (retK Tryd.prog Tryd.f48 Q) noX (retK Tryd.prog Tryd.f48 Q) ρ) ((.pointer e0) :: (.string key1) :: us 97 [])
def hoardref10_Engine_Load (e0 : Option Addr) (key1 : ByteArray) (Q : Value → WP) : WP := funJ idJ Tryd.prog hoardref10_Engine_Load_kp Tryd.f48 [.pointer e0, .string key1] Q
theorem hoardref10_Engine_Load_j5_raw (jn : Jn) (Q : Value → WP)   : codeI Tryd.prog hoardref10_Engine_Load_kp jn (cAt [true, true, true, true, true, true] (bodyOf Tryd.f48)) (retK Tryd.prog Tryd.f48 Q) noX (retK Tryd.prog Tryd.f48 Q) (us 99 []) = (
  Q (.bool true)) := by kernel_rfl
theorem hoardref10_Engine_Load_j5_def (Q : Value → WP)   : hoardref10_Engine_Load_j5 idJ Q   = codeI Tryd.prog hoardref10_Engine_Load_kp idJ (cAt [true, true, true, true, true, true] (bodyOf Tryd.f48)) (retK Tryd.prog Tryd.f48 Q) noX (retK Tryd.prog Tryd.f48 Q) (us 99 []) := by kernel_rfl
theorem hoardref10_Engine_Load_l4_raw (jn : Jn) (Q : Value → WP)  (m4 : Nat) (e0 : Option Addr) : hoardref10_Engine_Load_l4 jn Q  (m4 + 1) e0 = (
  drawW fun S =>
  nilck e0 fun b_41 o_42 =>
  ldS S .slc b_41 (o_42 + 2) fun (x_43 : Sl) =>
  nilck e0 fun b_44 o_45 =>
  ldS S .slc b_44 (o_45 + 3) fun (x_46 : Sl) =>
  nilck e0 fun b_47 o_48 =>
  ldS S (.int .i64) b_47 (o_48 + 5) fun (x_49 : Int) =>
  call1 (.int .i64) Tryd.prog id_hoardref10_Engine_Len [.pointer e0] fun (x_50 : Int) =>
  keepS true S <|
  ite2 (decide ((IntKind.wrap .i64 ((IntKind.wrap .i64 (x_50 + (x_43.n : Int))) + (x_46.n : Int))) > (IntKind.wrap .i64 ((2 : Int) * x_49)))) (
  nilck e0 fun b_51 o_52 =>
  ld .slc b_51 (o_52 + 3) fun (x_53 : Sl) =>
  when ((0 : Int) ≤ (1 : Int) ∧ (1 : Int) ≤ (x_53.n : Int)) <|
  nilck e0 fun b_54 o_55 =>
  st b_54 (o_55 + 3) (.slice (subA x_53.a (((1 : Int)).toNat) x_53.c 1) (x_53.n - ((1 : Int)).toNat) (x_53.c - ((1 : Int)).toNat)) <|
  hoardref10_Engine_Load_l4 jn Q  m4 e0) (
  hoardref10_Engine_Load_j5 jn Q  )) := by kernel_rfl
theorem hoardref10_Engine_Load_l4_zero (jn : Jn) (Q : Value → WP)  (e0 : Option Addr) : hoardref10_Engine_Load_l4 jn Q  0 e0 = bot := by kernel_rfl
theorem hoardref10_Engine_Load_j3_raw (jn : Jn) (Q : Value → WP)  (e0 : Option Addr) : codeI Tryd.prog hoardref10_Engine_Load_kp jn (cAt [true, true, true, true, true] (bodyOf Tryd.f48)) (retK Tryd.prog Tryd.f48 Q) noX (retK Tryd.prog Tryd.f48 Q) ((.pointer e0) :: us 98 []) = (
  exM fun m => hoardref10_Engine_Load_l4 jn Q  m e0) := by kernel_rfl
theorem hoardref10_Engine_Load_j3_def (Q : Value → WP)  (e0 : Option Addr) : hoardref10_Engine_Load_j3 idJ Q  e0 = codeI Tryd.prog hoardref10_Engine_Load_kp idJ (cAt [true, true, true, true, true] (bodyOf Tryd.f48)) (retK Tryd.prog Tryd.f48 Q) noX (retK Tryd.prog Tryd.f48 Q) ((.pointer e0) :: us 98 []) := by kernel_rfl
theorem hoardref10_Engine_Load_l2_raw (jn : Jn) (Q : Value → WP)  (m2 : Nat) (e0 : Option Addr) : hoardref10_Engine_Load_l2 jn Q  (m2 + 1) e0 = (
  drawW fun S =>
  nilck e0 fun b_27 o_28 =>
  ldS S .slc b_27 o_28 fun (x_29 : Sl) =>
  nilck e0 fun b_30 o_31 =>
  ldS S .slc b_30 (o_31 + 2) fun (x_32 : Sl) =>
  nilck e0 fun b_33 o_34 =>
  ld (.int .i64) b_33 (o_34 + 5) fun (x_35 : Int) =>
  keepS true S <|
  ite2 (decide ((IntKind.wrap .i64 ((x_29.n : Int) + (x_32.n : Int))) > x_35)) (
  nilck e0 fun b_36 o_37 =>
  ld .slc b_36 (o_37 + 2) fun (x_38 : Sl) =>
  when ((0 : Int) ≤ (1 : Int) ∧ (1 : Int) ≤ (x_38.n : Int)) <|
  nilck e0 fun b_39 o_40 =>
  st b_39 (o_40 + 2) (.slice (subA x_38.a (((1 : Int)).toNat) x_38.c 1) (x_38.n - ((1 : Int)).toNat) (x_38.c - ((1 : Int)).toNat)) <|
  hoardref10_Engine_Load_l2 jn Q  m2 e0) (
  hoardref10_Engine_Load_j3 jn Q  e0)) := by kernel_rfl
theorem hoardref10_Engine_Load_l2_zero (jn : Jn) (Q : Value → WP)  (e0 : Option Addr) : hoardref10_Engine_Load_l2 jn Q  0 e0 = bot := by kernel_rfl
theorem hoardref10_Engine_Load_j1_raw (jn : Jn) (Q : Value → WP)  (e0 : Option Addr) (key1 : ByteArray) : codeI Tryd.prog hoardref10_Engine_Load_kp jn (cAt [true, true] (bodyOf Tryd.f48)) (retK Tryd.prog Tryd.f48 Q) noX (retK Tryd.prog Tryd.f48 Q) ((.pointer e0) :: (.string key1) :: us 97 []) = (
  drawW fun S =>
  nilck e0 fun b_6 o_7 =>
  ldS S .slc b_6 (o_7 + 2) fun (x_8 : Sl) =>
  nilck e0 fun b_9 o_10 =>
  ldS S .slc b_9 (o_10 + 3) fun (x_11 : Sl) =>
  call1 .slc Tryd.prog id_hoardref10_cut [.slice x_8.a x_8.n x_8.c, .string key1] fun (x_12 : Sl) =>
  keepS true S <|
  call1 .slc Tryd.prog id_hoardref10_cut [.slice x_11.a x_11.n x_11.c, .string key1] fun (x_13 : Sl) =>
  nilck e0 fun b_14 o_15 =>
  st b_14 (o_15 + 2) (.slice x_12.a x_12.n x_12.c) <|
  nilck e0 fun b_16 o_17 =>
  st b_16 (o_17 + 3) (.slice x_13.a x_13.n x_13.c) <|
  newB [] ty_string fun b_18 =>
  nilck e0 fun b_19 o_20 =>
  ld .slc b_19 o_20 fun (x_21 : Sl) =>
  appendC ty_string 1 16 [.string str_empty] ⟨(some ⟨b_18, 0, none⟩), 0, 0⟩ x_21.n (fun w => rdA w x_21.a (x_21.n * 1)) fun s_22 =>
  newB [.string key1] ty_string fun b_23 =>
  appendC ty_string 1 16 [.string str_empty] ⟨s_22.a, s_22.n, s_22.c⟩ 1 (fun w => rdA w (some ⟨b_23, 0, none⟩) (1 * 1)) fun s_24 =>
  nilck e0 fun b_25 o_26 =>
  st b_25 o_26 (.slice s_24.a s_24.n s_24.c) <|
  exM fun m => hoardref10_Engine_Load_l2 jn Q  m e0) := by kernel_rfl
theorem hoardref10_Engine_Load_j1_def (Q : Value → WP)  (e0 : Option Addr) (key1 : ByteArray) : hoardref10_Engine_Load_j1 idJ Q  e0 key1 = codeI Tryd.prog hoardref10_Engine_Load_kp idJ (cAt [true, true] (bodyOf Tryd.f48)) (retK Tryd.prog Tryd.f48 Q) noX (retK Tryd.prog Tryd.f48 Q) ((.pointer e0) :: (.string key1) :: us 97 []) := by kernel_rfl
theorem hoardref10_Engine_Load_raw (jn : Jn) (e0 : Option Addr) (key1 : ByteArray) (Q : Value → WP) : funJ jn Tryd.prog hoardref10_Engine_Load_kp Tryd.f48 [.pointer e0, .string key1] Q = (
  drawW fun S =>
  call1 .bool Tryd.prog id_hoardref10_Engine_Has [.pointer e0, .string key1] fun (x_1 : Bool) =>
  keepS true S <|
  ite2 x_1 (
  keepS true S <|
  Q (.bool false)) (
  nilck e0 fun b_2 o_3 =>
  ldS S (.int .i64) b_2 (o_3 + 5) fun (x_4 : Int) =>
  call1 (.int .i64) Tryd.prog id_hoardref10_Engine_Len [.pointer e0] fun (x_5 : Int) =>
  keepS true S <|
  ite2 (decide (x_5 ≥ x_4)) (
  Q (.bool false)) (
  hoardref10_Engine_Load_j1 jn Q  e0 key1))) := by kernel_rfl
theorem hoardref10_Engine_Load_def (e0 : Option Addr) (key1 : ByteArray) (Q : Value → WP) : hoardref10_Engine_Load e0 key1 Q = funJ idJ Tryd.prog hoardref10_Engine_Load_kp Tryd.f48 [.pointer e0, .string key1] Q := rfl
theorem hoardref10_Engine_Load_calls {e0 : Option Addr} {key1 : ByteArray} {Q : Value → WP} {w : World} (h : hoardref10_Engine_Load e0 key1 Q w) : Calls Tryd.prog id_hoardref10_Engine_Load #[.pointer e0, .string key1] w fun e w' => ∃ v, e = .returned v ∧ Q v w' :=
  funJ_calls mixed Tryd.func48 rfl h

-- (*hoard/hoardref10.Engine).Remove
def hoardref10_Engine_Remove_kp : KP := ⟨[], [(3, [0, 1, 2, 3, 4, 5, 6, 8, 9, 10, 11, 12, 14, 15, 17, 18])]⟩
def hoardref10_Engine_Remove (e0 : Option Addr) (key1 : ByteArray) (Q : Value → WP) : WP := funJ idJ Tryd.prog hoardref10_Engine_Remove_kp Tryd.f49 [.pointer e0, .string key1] Q
theorem hoardref10_Engine_Remove_raw (jn : Jn) (e0 : Option Addr) (key1 : ByteArray) (Q : Value → WP) : funJ jn Tryd.prog hoardref10_Engine_Remove_kp Tryd.f49 [.pointer e0, .string key1] Q = (
  call1 .bool Tryd.prog id_hoardref10_Engine_Has [.pointer e0, .string key1] fun (x_1 : Bool) =>
  ite2 (!x_1) (
  Q (.bool false)) (
  drawW fun S =>
  nilck e0 fun b_2 o_3 =>
  ldS S .slc b_2 o_3 fun (x_4 : Sl) =>
  nilck e0 fun b_5 o_6 =>
  ldS S .slc b_5 (o_6 + 1) fun (x_7 : Sl) =>
  call1 .slc Tryd.prog id_hoardref10_cut [.slice x_4.a x_4.n x_4.c, .string key1] fun (x_8 : Sl) =>
  keepS true S <|
  call1 .slc Tryd.prog id_hoardref10_cut [.slice x_7.a x_7.n x_7.c, .string key1] fun (x_9 : Sl) =>
  nilck e0 fun b_10 o_11 =>
  st b_10 o_11 (.slice x_8.a x_8.n x_8.c) <|
  nilck e0 fun b_12 o_13 =>
  st b_12 (o_13 + 1) (.slice x_9.a x_9.n x_9.c) <|
  Q (.bool true))) := by kernel_rfl
theorem hoardref10_Engine_Remove_def (e0 : Option Addr) (key1 : ByteArray) (Q : Value → WP) : hoardref10_Engine_Remove e0 key1 Q = funJ idJ Tryd.prog hoardref10_Engine_Remove_kp Tryd.f49 [.pointer e0, .string key1] Q := rfl
theorem hoardref10_Engine_Remove_calls {e0 : Option Addr} {key1 : ByteArray} {Q : Value → WP} {w : World} (h : hoardref10_Engine_Remove e0 key1 Q w) : Calls Tryd.prog id_hoardref10_Engine_Remove #[.pointer e0, .string key1] w fun e w' => ∃ v, e = .returned v ∧ Q v w' :=
  funJ_calls mixed Tryd.func49 rfl h

-- (*hoard/hoardref10.Engine).Evict
def hoardref10_Engine_Evict_kp : KP := ⟨[], [(3, [0, 1, 2, 3, 5, 6, 7, 8, 9, 10, 11, 12, 13, 14, 15, 17, 18, 19, 20, 21, 23, 24, 25, 26, 28, 29])]⟩
def hoardref10_Engine_Evict (e0 : Option Addr) (Q : Value → WP) : WP := funJ idJ Tryd.prog hoardref10_Engine_Evict_kp Tryd.f50 [.pointer e0] Q
theorem hoardref10_Engine_Evict_raw (jn : Jn) (e0 : Option Addr) (Q : Value → WP) : funJ jn Tryd.prog hoardref10_Engine_Evict_kp Tryd.f50 [.pointer e0] Q = (
  call1 (.int .i64) Tryd.prog id_hoardref10_Engine_Len [.pointer e0] fun (x_1 : Int) =>
  ite2 (x_1 == (0 : Int)) (
  Q (.tuple #[.string str_empty, .bool false])) (
  drawW fun S =>
  nilck e0 fun b_2 o_3 =>
  ld .slc b_2 o_3 fun (x_4 : Sl) =>
  keepS true S <|
  ite2 (decide ((x_4.n : Int) > (0 : Int))) (
  nilck e0 fun b_5 o_6 =>
  ldS S .slc b_5 o_6 fun (x_7 : Sl) =>
  nilck e0 fun b_8 o_9 =>
  ld (.int .i64) b_8 (o_9 + 4) fun (x_10 : Int) =>
  keepS true S <|
  ite2 (decide ((x_7.n : Int) > x_10)) (
  call1 .str Tryd.prog id_hoardref10_Engine_goes [.pointer e0, .bool true] fun (x_11 : ByteArray) =>
  Q (.tuple #[.string x_11, .bool true])) (
  nilck e0 fun b_12 o_13 =>
  ld .slc b_12 (o_13 + 1) fun (x_14 : Sl) =>
  call1 .str Tryd.prog id_hoardref10_Engine_goes [.pointer e0, .bool ((x_14.n : Int) == (0 : Int))] fun (x_15 : ByteArray) =>
  Q (.tuple #[.string x_15, .bool true]))) (
  keepS true S <|
  call1 .str Tryd.prog id_hoardref10_Engine_goes [.pointer e0, .bool false] fun (x_16 : ByteArray) =>
  Q (.tuple #[.string x_16, .bool true])))) := by kernel_rfl
theorem hoardref10_Engine_Evict_def (e0 : Option Addr) (Q : Value → WP) : hoardref10_Engine_Evict e0 Q = funJ idJ Tryd.prog hoardref10_Engine_Evict_kp Tryd.f50 [.pointer e0] Q := rfl
theorem hoardref10_Engine_Evict_calls {e0 : Option Addr} {Q : Value → WP} {w : World} (h : hoardref10_Engine_Evict e0 Q w) : Calls Tryd.prog id_hoardref10_Engine_Evict #[.pointer e0] w fun e w' => ∃ v, e = .returned v ∧ Q v w' :=
  funJ_calls mixed Tryd.func50 rfl h

-- (*hoard/hoardref10.Engine).Has
def hoardref10_Engine_Has_kp : KP := ⟨[], []⟩
def hoardref10_Engine_Has (e0 : Option Addr) (key1 : ByteArray) (Q : Value → WP) : WP := funJ idJ Tryd.prog hoardref10_Engine_Has_kp Tryd.f51 [.pointer e0, .string key1] Q
theorem hoardref10_Engine_Has_raw (jn : Jn) (e0 : Option Addr) (key1 : ByteArray) (Q : Value → WP) : funJ jn Tryd.prog hoardref10_Engine_Has_kp Tryd.f51 [.pointer e0, .string key1] Q = (
  nilck e0 fun b_1 o_2 =>
  ld .slc b_1 o_2 fun (x_3 : Sl) =>
  call1 (.int .i64) Tryd.prog id_hoardref10_has [.slice x_3.a x_3.n x_3.c, .string key1] fun (x_4 : Int) =>
  ite2 (decide (x_4 ≥ (0 : Int))) (
  Q (.bool true)) (
  nilck e0 fun b_5 o_6 =>
  ld .slc b_5 (o_6 + 1) fun (x_7 : Sl) =>
  call1 (.int .i64) Tryd.prog id_hoardref10_has [.slice x_7.a x_7.n x_7.c, .string key1] fun (x_8 : Int) =>
  Q (.bool (decide (x_8 ≥ (0 : Int)))))) := by kernel_rfl
theorem hoardref10_Engine_Has_def (e0 : Option Addr) (key1 : ByteArray) (Q : Value → WP) : hoardref10_Engine_Has e0 key1 Q = funJ idJ Tryd.prog hoardref10_Engine_Has_kp Tryd.f51 [.pointer e0, .string key1] Q := rfl
theorem hoardref10_Engine_Has_calls {e0 : Option Addr} {key1 : ByteArray} {Q : Value → WP} {w : World} (h : hoardref10_Engine_Has e0 key1 Q w) : Calls Tryd.prog id_hoardref10_Engine_Has #[.pointer e0, .string key1] w fun e w' => ∃ v, e = .returned v ∧ Q v w' :=
  funJ_calls mixed Tryd.func51 rfl h

-- (*hoard/arc.Engine).ousts
def arc_Engine_ousts_kp : KP := ⟨[(10, [0, 5, 6])], []⟩
def arc_Engine_ousts_j1 (jn : Jn) (Q : Value → WP)  (e0 : Option Addr) (from5 : Int) (to6 : Int) : WP := jn 10 (fun ρ => codeI Tryd.prog arc_Engine_ousts_kp jn (cAt [true, true, true] (bodyOf Tryd.f52)) (retK Tryd.prog Tryd.f52 Q) noX (retK Tryd.prog Tryd.f52 Q) ρ) ((.pointer e0) :: us 4 ((.int .i64 from5) :: (.int .i64 to6) :: us 17 []))
def arc_Engine_ousts (e0 : Option Addr) (recent1 : Bool) (Q : Value → WP) : WP := funJ idJ Tryd.prog arc_Engine_ousts_kp Tryd.f52 [.pointer e0, .bool recent1] Q
theorem arc_Engine_ousts_j1_raw (jn : Jn) (Q : Value → WP)  (e0 : Option Addr) (from5 : Int) (to6 : Int) : codeI Tryd.prog arc_Engine_ousts_kp jn (cAt [true, true, true] (bodyOf Tryd.f52)) (retK Tryd.prog Tryd.f52 Q) noX (retK Tryd.prog Tryd.f52 Q) ((.pointer e0) :: us 4 ((.int .i64 from5) :: (.int .i64 to6) :: us 17 [])) = (
  nilck e0 fun b_1 o_2 =>
  ld .slc b_1 o_2 fun (x_3 : Sl) =>
  ld .ptr b_1 (o_2 + 1) fun (x_4 : Option Addr) =>
  call1 .str Tryd.prog id_arc_rows_oldest [.agg #[.slice x_3.a x_3.n x_3.c, .pointer x_4], .int .i64 from5] fun (x_5 : ByteArray) =>
  nilck e0 fun b_6 o_7 =>
  ld .slc b_6 o_7 fun (x_8 : Sl) =>
  ld .ptr b_6 (o_7 + 1) fun (x_9 : Option Addr) =>
  call0 Tryd.prog id_arc_rows_push [.agg #[.slice x_8.a x_8.n x_8.c, .pointer x_9], .int .i64 to6, .string x_5] <|
  newB [.string x_5] ty_string fun b_10 =>
  Q (.slice (some ⟨b_10, 0, none⟩) 1 1)) := by kernel_rfl
theorem arc_Engine_ousts_j1_def (Q : Value → WP)  (e0 : Option Addr) (from5 : Int) (to6 : Int) : arc_Engine_ousts_j1 idJ Q  e0 from5 to6 = codeI Tryd.prog arc_Engine_ousts_kp idJ (cAt [true, true, true] (bodyOf Tryd.f52)) (retK Tryd.prog Tryd.f52 Q) noX (retK Tryd.prog Tryd.f52 Q) ((.pointer e0) :: us 4 ((.int .i64 from5) :: (.int .i64 to6) :: us 17 [])) := by kernel_rfl
theorem arc_Engine_ousts_raw (jn : Jn) (e0 : Option Addr) (recent1 : Bool) (Q : Value → WP) : funJ jn Tryd.prog arc_Engine_ousts_kp Tryd.f52 [.pointer e0, .bool recent1] Q = (
  ite2 recent1 (
  arc_Engine_ousts_j1 jn Q  e0 (0 : Int) (2 : Int)) (
  arc_Engine_ousts_j1 jn Q  e0 (1 : Int) (3 : Int))) := by kernel_rfl
theorem arc_Engine_ousts_def (e0 : Option Addr) (recent1 : Bool) (Q : Value → WP) : arc_Engine_ousts e0 recent1 Q = funJ idJ Tryd.prog arc_Engine_ousts_kp Tryd.f52 [.pointer e0, .bool recent1] Q := rfl
theorem arc_Engine_ousts_calls {e0 : Option Addr} {recent1 : Bool} {Q : Value → WP} {w : World} (h : arc_Engine_ousts e0 recent1 Q w) : Calls Tryd.prog id_arc_Engine_ousts #[.pointer e0, .bool recent1] w fun e w' => ∃ v, e = .returned v ∧ Q v w' :=
  funJ_calls mixed Tryd.func52 rfl h

-- (hoard/arc.rows).drop
def arc_rows_drop_kp : KP := ⟨[], [(3, [0, 1, 2, 3, 4, 5, 6])]⟩
def arc_rows_drop (r0_0 : Sl) (r0_1 : Option Addr) (key1 : ByteArray) (Q : Value → WP) : WP := funJ idJ Tryd.prog arc_rows_drop_kp Tryd.f53 [.agg #[.slice r0_0.a r0_0.n r0_0.c, .pointer r0_1], .string key1] Q
theorem arc_rows_drop_raw (jn : Jn) (r0_0 : Sl) (r0_1 : Option Addr) (key1 : ByteArray) (Q : Value → WP) : funJ jn Tryd.prog arc_rows_drop_kp Tryd.f53 [.agg #[.slice r0_0.a r0_0.n r0_0.c, .pointer r0_1], .string key1] Q = (
  newB [.slice r0_0.a r0_0.n r0_0.c, .pointer r0_1] ty_arc_rows fun b_1 =>
  ld .ptr b_1 1 fun (x_2 : Option Addr) =>
  fun w => Calls Tryd.prog id_index_Index_arc_place_Delete #[.pointer x_2, .string key1] w fun e w' => ∃ x_3 : Int, ∃ x_4 : Int, ∃ x_5 : Bool, e = .returned (.tuple #[.agg #[.int .i64 x_3, .int .i64 x_4], .bool x_5]) ∧ (
  newB [.int .i64 (0 : Int), .int .i64 (0 : Int)] ty_arc_place fun b_6 =>
  st b_6 0 (.int .i64 x_3) <|
  st b_6 1 (.int .i64 x_4) <|
  ite2 x_5 (
  drawW fun S =>
  ldS S .slc b_1 0 fun (x_7 : Sl) =>
  ldS S (.int .i64) b_6 0 fun (x_8 : Int) =>
  idx x_7.a x_7.n x_8 fun b_9 o_10 =>
  ldS S .ptr b_9 (o_10 + (x_8).toNat * 1) fun (x_11 : Option Addr) =>
  ld (.int .i64) b_6 1 fun (x_12 : Int) =>
  keepS true S <|
  call2 .str .bool Tryd.prog id_list_List_string_Remove [.pointer x_11, .int .i64 x_12] fun (x_13 : ByteArray) (x_14 : Bool) =>
  Q (.tuple #[])) (
  Q (.tuple #[]))) w') := by kernel_rfl
theorem arc_rows_drop_def (r0_0 : Sl) (r0_1 : Option Addr) (key1 : ByteArray) (Q : Value → WP) : arc_rows_drop r0_0 r0_1 key1 Q = funJ idJ Tryd.prog arc_rows_drop_kp Tryd.f53 [.agg #[.slice r0_0.a r0_0.n r0_0.c, .pointer r0_1], .string key1] Q := rfl
theorem arc_rows_drop_calls {r0_0 : Sl} {r0_1 : Option Addr} {key1 : ByteArray} {Q : Value → WP} {w : World} (h : arc_rows_drop r0_0 r0_1 key1 Q w) : Calls Tryd.prog id_arc_rows_drop #[.agg #[.slice r0_0.a r0_0.n r0_0.c, .pointer r0_1], .string key1] w fun e w' => ∃ v, e = .returned v ∧ Q v w' :=
  funJ_calls mixed Tryd.func53 rfl h

-- (hoard/arc.rows).oldest
def arc_rows_oldest_kp : KP := ⟨[], [(1, [0, 1, 2, 3, 4, 5, 7, 8, 12, 13, 14, 15, 16])]⟩
def arc_rows_oldest (r0_0 : Sl) (r0_1 : Option Addr) (row1 : Int) (Q : Value → WP) : WP := funJ idJ Tryd.prog arc_rows_oldest_kp Tryd.f54 [.agg #[.slice r0_0.a r0_0.n r0_0.c, .pointer r0_1], .int .i64 row1] Q
theorem arc_rows_oldest_raw (jn : Jn) (r0_0 : Sl) (r0_1 : Option Addr) (row1 : Int) (Q : Value → WP) : funJ jn Tryd.prog arc_rows_oldest_kp Tryd.f54 [.agg #[.slice r0_0.a r0_0.n r0_0.c, .pointer r0_1], .int .i64 row1] Q = (
  newB [.slice r0_0.a r0_0.n r0_0.c, .pointer r0_1] ty_arc_rows fun b_1 =>
  drawW fun S =>
  ldS S .slc b_1 0 fun (x_2 : Sl) =>
  idx x_2.a x_2.n row1 fun b_3 o_4 =>
  ldS S .ptr b_3 (o_4 + (row1).toNat * 1) fun (x_5 : Option Addr) =>
  ld .slc b_1 0 fun (x_6 : Sl) =>
  keepS true S <|
  idx x_6.a x_6.n row1 fun b_7 o_8 =>
  ld .ptr b_7 (o_8 + (row1).toNat * 1) fun (x_9 : Option Addr) =>
  keepS true S <|
  call1 (.int .i64) Tryd.prog id_list_List_string_Front [.pointer x_9] fun (x_10 : Int) =>
  keepS true S <|
  call2 .str .bool Tryd.prog id_list_List_string_Get [.pointer x_5, .int .i64 x_10] fun (x_11 : ByteArray) (x_12 : Bool) =>
  Q (.string x_11)) := by kernel_rfl
theorem arc_rows_oldest_def (r0_0 : Sl) (r0_1 : Option Addr) (row1 : Int) (Q : Value → WP) : arc_rows_oldest r0_0 r0_1 row1 Q = funJ idJ Tryd.prog arc_rows_oldest_kp Tryd.f54 [.agg #[.slice r0_0.a r0_0.n r0_0.c, .pointer r0_1], .int .i64 row1] Q := rfl
theorem arc_rows_oldest_calls {r0_0 : Sl} {r0_1 : Option Addr} {row1 : Int} {Q : Value → WP} {w : World} (h : arc_rows_oldest r0_0 r0_1 row1 Q w) : Calls Tryd.prog id_arc_rows_oldest #[.agg #[.slice r0_0.a r0_0.n r0_0.c, .pointer r0_1], .int .i64 row1] w fun e w' => ∃ v, e = .returned v ∧ Q v w' :=
  funJ_calls mixed Tryd.func54 rfl h

-- hoard/arc.text
def arc_text_kp : KP := ⟨[], []⟩
def arc_text (name0 : ByteArray) (keys1 : Sl) (Q : Value → WP) : WP := funJ idJ Tryd.prog arc_text_kp Tryd.f56 [.string name0, .slice keys1.a keys1.n keys1.c] Q
theorem arc_text_raw (jn : Jn) (name0 : ByteArray) (keys1 : Sl) (Q : Value → WP) : funJ jn Tryd.prog arc_text_kp Tryd.f56 [.string name0, .slice keys1.a keys1.n keys1.c] Q = (
  when (name0.size + str__x.size ≤ 9223372036854775807) <|
  newB [.string str_empty] ty_string fun b_1 =>
  appendC ty_string 1 16 [.string str_empty] ⟨(some ⟨b_1, 0, none⟩), 1, 1⟩ keys1.n (fun w => rdA w keys1.a (keys1.n * 1)) fun s_2 =>
  call1 .str Tryd.prog id_strings_Join [.slice s_2.a s_2.n s_2.c, .string str__xx] fun (x_3 : ByteArray) =>
  when ((name0 ++ str__x).size + x_3.size ≤ 9223372036854775807) <|
  Q (.string ((name0 ++ str__x) ++ x_3))) := by kernel_rfl
theorem arc_text_def (name0 : ByteArray) (keys1 : Sl) (Q : Value → WP) : arc_text name0 keys1 Q = funJ idJ Tryd.prog arc_text_kp Tryd.f56 [.string name0, .slice keys1.a keys1.n keys1.c] Q := rfl
theorem arc_text_calls {name0 : ByteArray} {keys1 : Sl} {Q : Value → WP} {w : World} (h : arc_text name0 keys1 Q w) : Calls Tryd.prog id_arc_text #[.string name0, .slice keys1.a keys1.n keys1.c] w fun e w' => ∃ v, e = .returned v ∧ Q v w' :=
  funJ_calls mixed Tryd.func56 rfl h

-- strconv.Itoa
def strconv_Itoa_kp : KP := ⟨[], []⟩
def strconv_Itoa (i0 : Int) (Q : Value → WP) : WP := funJ idJ Tryd.prog strconv_Itoa_kp Tryd.f57 [.int .i64 i0] Q
theorem strconv_Itoa_raw (jn : Jn) (i0 : Int) (Q : Value → WP) : funJ jn Tryd.prog strconv_Itoa_kp Tryd.f57 [.int .i64 i0] Q = (
  call1 .str Tryd.prog id_internal_strconv_Itoa [.int .i64 i0] fun (x_1 : ByteArray) =>
  Q (.string x_1)) := by kernel_rfl
theorem strconv_Itoa_def (i0 : Int) (Q : Value → WP) : strconv_Itoa i0 Q = funJ idJ Tryd.prog strconv_Itoa_kp Tryd.f57 [.int .i64 i0] Q := rfl
theorem strconv_Itoa_calls {i0 : Int} {Q : Value → WP} {w : World} (h : strconv_Itoa i0 Q w) : Calls Tryd.prog id_strconv_Itoa #[.int .i64 i0] w fun e w' => ∃ v, e = .returned v ∧ Q v w' :=
  funJ_calls mixed Tryd.func57 rfl h

-- hoard/hoardref10.text
def hoardref10_text_kp : KP := ⟨[(9, [1, 5, 6]), (14, [5])], []⟩
def hoardref10_text_j2 (jn : Jn) (Q : Value → WP)  (s5 : ByteArray) : WP := jn 14 (fun ρ => codeI Tryd.prog hoardref10_text_kp jn (cAt [true, true, true] (bodyOf Tryd.f58)) (retK Tryd.prog Tryd.f58 Q) noX (retK Tryd.prog Tryd.f58 Q) ρ) (us 5 ((.string s5) :: us 17 []))
def hoardref10_text_l1 (jn : Jn) (Q : Value → WP)  (m1 : Nat) (l1 : Sl) (s5 : ByteArray) (i6 : Int) : WP := lop Tryd.prog hoardref10_text_kp jn (cAt [true, true, false, true, false, false] (bodyOf Tryd.f58)) (blkX 0 (seqK Tryd.prog hoardref10_text_kp jn (cAt [true, true, true] (bodyOf Tryd.f58)) (retK Tryd.prog Tryd.f58 Q) noX (retK Tryd.prog Tryd.f58 Q)) noX) (retK Tryd.prog Tryd.f58 Q) m1 (us 1 ((.slice l1.a l1.n l1.c) :: us 3 ((.string s5) :: (.int .i64 i6) :: us 16 [])))
def hoardref10_text (name0 : ByteArray) (l1 : Sl) (Q : Value → WP) : WP := funJ idJ Tryd.prog hoardref10_text_kp Tryd.f58 [.string name0, .slice l1.a l1.n l1.c] Q
theorem hoardref10_text_j2_raw (jn : Jn) (Q : Value → WP)  (s5 : ByteArray) : codeI Tryd.prog hoardref10_text_kp jn (cAt [true, true, true] (bodyOf Tryd.f58)) (retK Tryd.prog Tryd.f58 Q) noX (retK Tryd.prog Tryd.f58 Q) (us 5 ((.string s5) :: us 17 [])) = (
  Q (.string s5)) := by kernel_rfl
theorem hoardref10_text_j2_def (Q : Value → WP)  (s5 : ByteArray) : hoardref10_text_j2 idJ Q  s5 = codeI Tryd.prog hoardref10_text_kp idJ (cAt [true, true, true] (bodyOf Tryd.f58)) (retK Tryd.prog Tryd.f58 Q) noX (retK Tryd.prog Tryd.f58 Q) (us 5 ((.string s5) :: us 17 [])) := by kernel_rfl
theorem hoardref10_text_l1_raw (jn : Jn) (Q : Value → WP)  (m1 : Nat) (l1 : Sl) (s5 : ByteArray) (i6 : Int) : hoardref10_text_l1 jn Q  (m1 + 1) l1 s5 i6 = (
  ite2 (decide (i6 < (l1.n : Int))) (
  when (s5.size + str__xx.size ≤ 9223372036854775807) <|
  idx l1.a l1.n i6 fun b_1 o_2 =>
  ld .str b_1 (o_2 + (i6).toNat * 1) fun (x_3 : ByteArray) =>
  when ((s5 ++ str__xx).size + x_3.size ≤ 9223372036854775807) <|
  hoardref10_text_l1 jn Q  m1 l1 ((s5 ++ str__xx) ++ x_3) (IntKind.wrap .i64 (i6 + (1 : Int)))) (
  hoardref10_text_j2 jn Q  s5)) := by kernel_rfl
theorem hoardref10_text_l1_zero (jn : Jn) (Q : Value → WP)  (l1 : Sl) (s5 : ByteArray) (i6 : Int) : hoardref10_text_l1 jn Q  0 l1 s5 i6 = bot := by kernel_rfl
theorem hoardref10_text_raw (jn : Jn) (name0 : ByteArray) (l1 : Sl) (Q : Value → WP) : funJ jn Tryd.prog hoardref10_text_kp Tryd.f58 [.string name0, .slice l1.a l1.n l1.c] Q = (
  when (name0.size + str__x.size ≤ 9223372036854775807) <|
  exM fun m => hoardref10_text_l1 jn Q  m l1 (name0 ++ str__x) (0 : Int)) := by kernel_rfl
theorem hoardref10_text_def (name0 : ByteArray) (l1 : Sl) (Q : Value → WP) : hoardref10_text name0 l1 Q = funJ idJ Tryd.prog hoardref10_text_kp Tryd.f58 [.string name0, .slice l1.a l1.n l1.c] Q := rfl
theorem hoardref10_text_calls {name0 : ByteArray} {l1 : Sl} {Q : Value → WP} {w : World} (h : hoardref10_text name0 l1 Q w) : Calls Tryd.prog id_hoardref10_text #[.string name0, .slice l1.a l1.n l1.c] w fun e w' => ∃ v, e = .returned v ∧ Q v w' :=
  funJ_calls mixed Tryd.func58 rfl h

-- hoard/hoardref10.digits
def hoardref10_digits_kp : KP := ⟨[], [(3, [0, 1, 3, 4, 5, 6, 9, 10])]⟩
def hoardref10_digits (n0 : Int) (Q : Value → WP) : WP := funJ idJ Tryd.prog hoardref10_digits_kp Tryd.f59 [.int .i64 n0] Q
theorem hoardref10_digits_raw (jn : Jn) (n0 : Int) (Q : Value → WP) : funJ jn Tryd.prog hoardref10_digits_kp Tryd.f59 [.int .i64 n0] Q = (
  ite2 (decide (n0 < (10 : Int))) (
  newB [.int .u8 (IntKind.wrap .u8 (IntKind.wrap .i64 ((48 : Int) + n0)))] ty_uint8 fun b_1 =>
  b2s (some ⟨b_1, 0, none⟩) 1 fun (x_2 : ByteArray) =>
  Q (.string x_2)) (
  drawW fun S =>
  when ((10 : Int) ≠ 0) <|
  when ((10 : Int) ≠ 0) <|
  allW [
  (call1 .str Tryd.prog id_hoardref10_digits [.int .i64 (IntKind.wrap .i64 (Int.tdiv n0 (10 : Int)))] fun (x_3 : ByteArray) =>
  newB [.int .u8 (IntKind.wrap .u8 (IntKind.wrap .i64 ((48 : Int) + (Int.tmod n0 (10 : Int)))))] ty_uint8 fun b_4 =>
  b2s (some ⟨b_4, 0, none⟩) 1 fun (x_5 : ByteArray) =>
  when (x_3.size + x_5.size ≤ 9223372036854775807) <|
  Q (.string (x_3 ++ x_5))),
  (newB [.int .u8 (IntKind.wrap .u8 (IntKind.wrap .i64 ((48 : Int) + (Int.tmod n0 (10 : Int)))))] ty_uint8 fun b_6 =>
  allW [
  (call1 .str Tryd.prog id_hoardref10_digits [.int .i64 (IntKind.wrap .i64 (Int.tdiv n0 (10 : Int)))] fun (x_7 : ByteArray) =>
  b2s (some ⟨b_6, 0, none⟩) 1 fun (x_8 : ByteArray) =>
  when (x_7.size + x_8.size ≤ 9223372036854775807) <|
  Q (.string (x_7 ++ x_8))),
  (b2s (some ⟨b_6, 0, none⟩) 1 fun (x_9 : ByteArray) =>
  call1 .str Tryd.prog id_hoardref10_digits [.int .i64 (IntKind.wrap .i64 (Int.tdiv n0 (10 : Int)))] fun (x_10 : ByteArray) =>
  when (x_10.size + x_9.size ≤ 9223372036854775807) <|
  Q (.string (x_10 ++ x_9)))])])) := by kernel_rfl
theorem hoardref10_digits_def (n0 : Int) (Q : Value → WP) : hoardref10_digits n0 Q = funJ idJ Tryd.prog hoardref10_digits_kp Tryd.f59 [.int .i64 n0] Q := rfl
theorem hoardref10_digits_calls {n0 : Int} {Q : Value → WP} {w : World} (h : hoardref10_digits n0 Q w) : Calls Tryd.prog id_hoardref10_digits #[.int .i64 n0] w fun e w' => ∃ v, e = .returned v ∧ Q v w' :=
  funJ_calls mixed Tryd.func59 rfl h

-- hoard/index.New[hoard/arc.place]
def index_New_arc_place_kp : KP := ⟨[], []⟩
def index_New_arc_place (seed0 : Int) (Q : Value → WP) : WP := funJ idJ Tryd.prog index_New_arc_place_kp Tryd.f60 [.int .u64 seed0] Q
theorem index_New_arc_place_raw (jn : Jn) (seed0 : Int) (Q : Value → WP) : funJ jn Tryd.prog index_New_arc_place_kp Tryd.f60 [.int .u64 seed0] Q = (
  makeC ty_index_place_arc_place 40 [.int .i64 (0 : Int), .string str_empty, .int .i64 (0 : Int), .int .i64 (0 : Int)] (8 : Int) (8 : Int) fun s_1 =>
  newB [.int .u64 seed0, .slice s_1.a s_1.n s_1.c, .int .i64 (0 : Int), .int .i64 (0 : Int)] ty_index_Index_arc_place fun b_2 =>
  Q (.pointer (some ⟨b_2, 0, none⟩))) := by kernel_rfl
theorem index_New_arc_place_def (seed0 : Int) (Q : Value → WP) : index_New_arc_place seed0 Q = funJ idJ Tryd.prog index_New_arc_place_kp Tryd.f60 [.int .u64 seed0] Q := rfl
theorem index_New_arc_place_calls {seed0 : Int} {Q : Value → WP} {w : World} (h : index_New_arc_place seed0 Q w) : Calls Tryd.prog id_index_New_arc_place #[.int .u64 seed0] w fun e w' => ∃ v, e = .returned v ∧ Q v w' :=
  funJ_calls mixed Tryd.func60 rfl h

-- hoard/list.New[string]
def list_New_string_kp : KP := ⟨[], []⟩
def list_New_string  (Q : Value → WP) : WP := funJ idJ Tryd.prog list_New_string_kp Tryd.f61 [] Q
theorem list_New_string_raw (jn : Jn)  (Q : Value → WP) : funJ jn Tryd.prog list_New_string_kp Tryd.f61 [] Q = (
  makeC ty_list_link_string 40 [.string str_empty, .int .i64 (0 : Int), .int .i64 (0 : Int), .bool false] (1 : Int) (1 : Int) fun s_1 =>
  newB [.slice s_1.a s_1.n s_1.c, .slice (none : Option Addr) 0 0, .int .i64 (0 : Int)] ty_list_List_string fun b_2 =>
  Q (.pointer (some ⟨b_2, 0, none⟩))) := by kernel_rfl
theorem list_New_string_def  (Q : Value → WP) : list_New_string  Q = funJ idJ Tryd.prog list_New_string_kp Tryd.f61 [] Q := rfl
theorem list_New_string_calls {Q : Value → WP} {w : World} (h : list_New_string Q w) : Calls Tryd.prog id_list_New_string #[] w fun e w' => ∃ v, e = .returned v ∧ Q v w' :=
  funJ_calls mixed Tryd.func61 rfl h

-- (*hoard/index.Index[hoard/arc.place]).Get
def index_Index_arc_place_Get_kp : KP := ⟨[(12, [4])], []⟩
def index_Index_arc_place_Get_j1 (jn : Jn) (Q : Value → WP)  (t4_b : Nat) (t4_o : Nat) : WP := jn 12 (fun ρ => codeI Tryd.prog index_Index_arc_place_Get_kp jn (cAt [true, true] (bodyOf Tryd.f62)) (retK Tryd.prog Tryd.f62 Q) noX (retK Tryd.prog Tryd.f62 Q) ρ) (us 4 ((.pointer (some ⟨t4_b, t4_o, none⟩)) :: us 22 []))
def index_Index_arc_place_Get (x0 : Option Addr) (key1 : ByteArray) (Q : Value → WP) : WP := funJ idJ Tryd.prog index_Index_arc_place_Get_kp Tryd.f62 [.pointer x0, .string key1] Q
theorem index_Index_arc_place_Get_j1_raw (jn : Jn) (Q : Value → WP)  (t4_b : Nat) (t4_o : Nat) : codeI Tryd.prog index_Index_arc_place_Get_kp jn (cAt [true, true] (bodyOf Tryd.f62)) (retK Tryd.prog Tryd.f62 Q) noX (retK Tryd.prog Tryd.f62 Q) (us 4 ((.pointer (some ⟨t4_b, t4_o, none⟩)) :: us 22 [])) = (
  newB [.int .i64 (0 : Int), .int .i64 (0 : Int)] ty_arc_place fun b_13 =>
  ld (.int .i64) b_13 0 fun (x_14 : Int) =>
  ld (.int .i64) b_13 1 fun (x_15 : Int) =>
  st t4_b t4_o (.int .i64 x_14) <|
  st t4_b (t4_o + 1) (.int .i64 x_15) <|
  ld (.int .i64) t4_b t4_o fun (x_16 : Int) =>
  ld (.int .i64) t4_b (t4_o + 1) fun (x_17 : Int) =>
  Q (.tuple #[.agg #[.int .i64 x_16, .int .i64 x_17], .bool false])) := by kernel_rfl
theorem index_Index_arc_place_Get_j1_def (Q : Value → WP)  (t4_b : Nat) (t4_o : Nat) : index_Index_arc_place_Get_j1 idJ Q  t4_b t4_o = codeI Tryd.prog index_Index_arc_place_Get_kp idJ (cAt [true, true] (bodyOf Tryd.f62)) (retK Tryd.prog Tryd.f62 Q) noX (retK Tryd.prog Tryd.f62 Q) (us 4 ((.pointer (some ⟨t4_b, t4_o, none⟩)) :: us 22 [])) := by kernel_rfl
theorem index_Index_arc_place_Get_raw (jn : Jn) (x0 : Option Addr) (key1 : ByteArray) (Q : Value → WP) : funJ jn Tryd.prog index_Index_arc_place_Get_kp Tryd.f62 [.pointer x0, .string key1] Q = (
  newB [.int .i64 (0 : Int), .int .i64 (0 : Int)] ty_arc_place fun b_1 =>
  ite2 (!Option.isNone x0) (
  call2 (.int .i64) .bool Tryd.prog id_index_Index_arc_place_find [.pointer x0, .string key1] fun (x_2 : Int) (x_3 : Bool) =>
  ite2 x_3 (
  nilck x0 fun b_4 o_5 =>
  ld .slc b_4 (o_5 + 1) fun (x_6 : Sl) =>
  idx x_6.a x_6.n x_2 fun b_7 o_8 =>
  ld (.int .i64) b_7 ((o_8 + (x_2).toNat * 4) + 2) fun (x_9 : Int) =>
  ld (.int .i64) b_7 (((o_8 + (x_2).toNat * 4) + 2) + 1) fun (x_10 : Int) =>
  st b_1 0 (.int .i64 x_9) <|
  st b_1 1 (.int .i64 x_10) <|
  ld (.int .i64) b_1 0 fun (x_11 : Int) =>
  ld (.int .i64) b_1 1 fun (x_12 : Int) =>
  Q (.tuple #[.agg #[.int .i64 x_11, .int .i64 x_12], .bool true])) (
  index_Index_arc_place_Get_j1 jn Q  b_1 0)) (
  index_Index_arc_place_Get_j1 jn Q  b_1 0)) := by kernel_rfl
theorem index_Index_arc_place_Get_def (x0 : Option Addr) (key1 : ByteArray) (Q : Value → WP) : index_Index_arc_place_Get x0 key1 Q = funJ idJ Tryd.prog index_Index_arc_place_Get_kp Tryd.f62 [.pointer x0, .string key1] Q := rfl
theorem index_Index_arc_place_Get_calls {x0 : Option Addr} {key1 : ByteArray} {Q : Value → WP} {w : World} (h : index_Index_arc_place_Get x0 key1 Q w) : Calls Tryd.prog id_index_Index_arc_place_Get #[.pointer x0, .string key1] w fun e w' => ∃ v, e = .returned v ∧ Q v w' :=
  funJ_calls mixed Tryd.func62 rfl h

-- (*hoard/index.Index[hoard/arc.place]).Put
def index_Index_arc_place_Put_kp : KP := ⟨[], [(5, [0, 1, 2, 3, 4, 6, 7]), (8, [0, 1, 2, 3, 4, 5, 6, 7, 9, 10])]⟩
def index_Index_arc_place_Put (x0 : Option Addr) (key1 : ByteArray) (v2_0 : Int) (v2_1 : Int) (Q : Value → WP) : WP := funJ idJ Tryd.prog index_Index_arc_place_Put_kp Tryd.f63 [.pointer x0, .string key1, .agg #[.int .i64 v2_0, .int .i64 v2_1]] Q
theorem index_Index_arc_place_Put_raw (jn : Jn) (x0 : Option Addr) (key1 : ByteArray) (v2_0 : Int) (v2_1 : Int) (Q : Value → WP) : funJ jn Tryd.prog index_Index_arc_place_Put_kp Tryd.f63 [.pointer x0, .string key1, .agg #[.int .i64 v2_0, .int .i64 v2_1]] Q = (
  newB [.int .i64 v2_0, .int .i64 v2_1] ty_arc_place fun b_1 =>
  ite2 (Option.isNone x0) (
  Q (.bool false)) (
  call2 (.int .i64) .bool Tryd.prog id_index_Index_arc_place_find [.pointer x0, .string key1] fun (x_2 : Int) (x_3 : Bool) =>
  ite2 x_3 (
  drawW fun S =>
  nilck x0 fun b_4 o_5 =>
  ldS S .slc b_4 (o_5 + 1) fun (x_6 : Sl) =>
  ld (.int .i64) b_1 0 fun (x_7 : Int) =>
  ld (.int .i64) b_1 1 fun (x_8 : Int) =>
  keepS true S <|
  idx x_6.a x_6.n x_2 fun b_9 o_10 =>
  st b_9 ((o_10 + (x_2).toNat * 4) + 2) (.int .i64 x_7) <|
  st b_9 (((o_10 + (x_2).toNat * 4) + 2) + 1) (.int .i64 x_8) <|
  Q (.bool false)) (
  ld (.int .i64) b_1 0 fun (x_11 : Int) =>
  ld (.int .i64) b_1 1 fun (x_12 : Int) =>
  call0 Tryd.prog id_index_Index_arc_place_lays [.pointer x0, .int .i64 x_2, .string key1, .agg #[.int .i64 x_11, .int .i64 x_12]] <|
  drawW fun S =>
  nilck x0 fun b_13 o_14 =>
  ldS S (.int .i64) b_13 (o_14 + 3) fun (x_15 : Int) =>
  nilck x0 fun b_16 o_17 =>
  ld .slc b_16 (o_17 + 1) fun (x_18 : Sl) =>
  keepS true S <|
  ite2 (decide ((IntKind.wrap .i64 ((2 : Int) * x_15)) > (x_18.n : Int))) (
  call0 Tryd.prog id_index_Index_arc_place_grows [.pointer x0] <|
  Q (.bool true)) (
  Q (.bool true))))) := by kernel_rfl
theorem index_Index_arc_place_Put_def (x0 : Option Addr) (key1 : ByteArray) (v2_0 : Int) (v2_1 : Int) (Q : Value → WP) : index_Index_arc_place_Put x0 key1 v2_0 v2_1 Q = funJ idJ Tryd.prog index_Index_arc_place_Put_kp Tryd.f63 [.pointer x0, .string key1, .agg #[.int .i64 v2_0, .int .i64 v2_1]] Q := rfl
theorem index_Index_arc_place_Put_calls {x0 : Option Addr} {key1 : ByteArray} {v2_0 : Int} {v2_1 : Int} {Q : Value → WP} {w : World} (h : index_Index_arc_place_Put x0 key1 v2_0 v2_1 Q w) : Calls Tryd.prog id_index_Index_arc_place_Put #[.pointer x0, .string key1, .agg #[.int .i64 v2_0, .int .i64 v2_1]] w fun e w' => ∃ v, e = .returned v ∧ Q v w' :=
  funJ_calls mixed Tryd.func63 rfl h

-- (*hoard/list.List[string]).PushBack
def list_List_string_PushBack_kp : KP := ⟨[], []⟩
def list_List_string_PushBack (l0 : Option Addr) (v1 : ByteArray) (Q : Value → WP) : WP := funJ idJ Tryd.prog list_List_string_PushBack_kp Tryd.f64 [.pointer l0, .string v1] Q
theorem list_List_string_PushBack_raw (jn : Jn) (l0 : Option Addr) (v1 : ByteArray) (Q : Value → WP) : funJ jn Tryd.prog list_List_string_PushBack_kp Tryd.f64 [.pointer l0, .string v1] Q = (
  ite2 (Option.isNone l0) (
  Q (.int .i64 (0 : Int))) (
  call1 (.int .i64) Tryd.prog id_list_List_string_take [.pointer l0, .string v1] fun (x_1 : Int) =>
  nilck l0 fun b_2 o_3 =>
  ld .slc b_2 o_3 fun (x_4 : Sl) =>
  idx x_4.a x_4.n (0 : Int) fun b_5 o_6 =>
  ld (.int .i64) b_5 ((o_6 + ((0 : Int)).toNat * 4) + 1) fun (x_7 : Int) =>
  call0 Tryd.prog id_list_List_string_lays [.pointer l0, .int .i64 x_1, .int .i64 x_7, .int .i64 (0 : Int)] <|
  Q (.int .i64 x_1))) := by kernel_rfl
theorem list_List_string_PushBack_def (l0 : Option Addr) (v1 : ByteArray) (Q : Value → WP) : list_List_string_PushBack l0 v1 Q = funJ idJ Tryd.prog list_List_string_PushBack_kp Tryd.f64 [.pointer l0, .string v1] Q := rfl
theorem list_List_string_PushBack_calls {l0 : Option Addr} {v1 : ByteArray} {Q : Value → WP} {w : World} (h : list_List_string_PushBack l0 v1 Q w) : Calls Tryd.prog id_list_List_string_PushBack #[.pointer l0, .string v1] w fun e w' => ∃ v, e = .returned v ∧ Q v w' :=
  funJ_calls mixed Tryd.func64 rfl h

-- (*hoard/list.List[string]).Len
def list_List_string_Len_kp : KP := ⟨[], []⟩
def list_List_string_Len (l0 : Option Addr) (Q : Value → WP) : WP := funJ idJ Tryd.prog list_List_string_Len_kp Tryd.f65 [.pointer l0] Q
theorem list_List_string_Len_raw (jn : Jn) (l0 : Option Addr) (Q : Value → WP) : funJ jn Tryd.prog list_List_string_Len_kp Tryd.f65 [.pointer l0] Q = (
  ite2 (Option.isNone l0) (
  Q (.int .i64 (0 : Int))) (
  nilck l0 fun b_1 o_2 =>
  ld (.int .i64) b_1 (o_2 + 2) fun (x_3 : Int) =>
  Q (.int .i64 x_3))) := by kernel_rfl
theorem list_List_string_Len_def (l0 : Option Addr) (Q : Value → WP) : list_List_string_Len l0 Q = funJ idJ Tryd.prog list_List_string_Len_kp Tryd.f65 [.pointer l0] Q := rfl
theorem list_List_string_Len_calls {l0 : Option Addr} {Q : Value → WP} {w : World} (h : list_List_string_Len l0 Q w) : Calls Tryd.prog id_list_List_string_Len #[.pointer l0] w fun e w' => ∃ v, e = .returned v ∧ Q v w' :=
  funJ_calls mixed Tryd.func65 rfl h

-- (*hoard/list.List[string]).All
def list_List_string_All_kp : KP := ⟨[(9, [0, 3, 4]), (14, [3])], []⟩
def list_List_string_All_j2 (jn : Jn) (Q : Value → WP)  (all3 : Sl) : WP := jn 14 (fun ρ => codeI Tryd.prog list_List_string_All_kp jn (cAt [true, true, true] (bodyOf Tryd.f66)) (retK Tryd.prog Tryd.f66 Q) noX (retK Tryd.prog Tryd.f66 Q) ρ) (us 3 ((.slice all3.a all3.n all3.c) :: us 20 []))
def list_List_string_All_l1 (jn : Jn) (Q : Value → WP)  (m1 : Nat) (l0 : Option Addr) (all3 : Sl) (h4 : Int) : WP := lop Tryd.prog list_List_string_All_kp jn (cAt [true, true, false, true, false, false] (bodyOf Tryd.f66)) (blkX 0 (seqK Tryd.prog list_List_string_All_kp jn (cAt [true, true, true] (bodyOf Tryd.f66)) (retK Tryd.prog Tryd.f66 Q) noX (retK Tryd.prog Tryd.f66 Q)) noX) (retK Tryd.prog Tryd.f66 Q) m1 ((.pointer l0) :: us 2 ((.slice all3.a all3.n all3.c) :: (.int .i64 h4) :: us 19 []))
def list_List_string_All (l0 : Option Addr) (Q : Value → WP) : WP := funJ idJ Tryd.prog list_List_string_All_kp Tryd.f66 [.pointer l0] Q
theorem list_List_string_All_j2_raw (jn : Jn) (Q : Value → WP)  (all3 : Sl) : codeI Tryd.prog list_List_string_All_kp jn (cAt [true, true, true] (bodyOf Tryd.f66)) (retK Tryd.prog Tryd.f66 Q) noX (retK Tryd.prog Tryd.f66 Q) (us 3 ((.slice all3.a all3.n all3.c) :: us 20 [])) = (
  Q (.slice all3.a all3.n all3.c)) := by kernel_rfl
theorem list_List_string_All_j2_def (Q : Value → WP)  (all3 : Sl) : list_List_string_All_j2 idJ Q  all3 = codeI Tryd.prog list_List_string_All_kp idJ (cAt [true, true, true] (bodyOf Tryd.f66)) (retK Tryd.prog Tryd.f66 Q) noX (retK Tryd.prog Tryd.f66 Q) (us 3 ((.slice all3.a all3.n all3.c) :: us 20 [])) := by kernel_rfl
theorem list_List_string_All_l1_raw (jn : Jn) (Q : Value → WP)  (m1 : Nat) (l0 : Option Addr) (all3 : Sl) (h4 : Int) : list_List_string_All_l1 jn Q  (m1 + 1) l0 all3 h4 = (
  ite2 (h4 != (0 : Int)) (
  nilck l0 fun b_2 o_3 =>
  ld .slc b_2 o_3 fun (x_4 : Sl) =>
  idx x_4.a x_4.n h4 fun b_5 o_6 =>
  ld .str b_5 (o_6 + (h4).toNat * 4) fun (x_7 : ByteArray) =>
  newB [.string x_7] ty_string fun b_8 =>
  appendC ty_string 1 16 [.string str_empty] ⟨all3.a, all3.n, all3.c⟩ 1 (fun w => rdA w (some ⟨b_8, 0, none⟩) (1 * 1)) fun s_9 =>
  call1 (.int .i64) Tryd.prog id_list_List_string_Next [.pointer l0, .int .i64 h4] fun (x_10 : Int) =>
  list_List_string_All_l1 jn Q  m1 l0 s_9 x_10) (
  list_List_string_All_j2 jn Q  all3)) := by kernel_rfl
theorem list_List_string_All_l1_zero (jn : Jn) (Q : Value → WP)  (l0 : Option Addr) (all3 : Sl) (h4 : Int) : list_List_string_All_l1 jn Q  0 l0 all3 h4 = bot := by kernel_rfl
theorem list_List_string_All_raw (jn : Jn) (l0 : Option Addr) (Q : Value → WP) : funJ jn Tryd.prog list_List_string_All_kp Tryd.f66 [.pointer l0] Q = (
  call1 (.int .i64) Tryd.prog id_list_List_string_Front [.pointer l0] fun (x_1 : Int) =>
  exM fun m => list_List_string_All_l1 jn Q  m l0 ⟨(none : Option Addr), 0, 0⟩ x_1) := by kernel_rfl
theorem list_List_string_All_def (l0 : Option Addr) (Q : Value → WP) : list_List_string_All l0 Q = funJ idJ Tryd.prog list_List_string_All_kp Tryd.f66 [.pointer l0] Q := rfl
theorem list_List_string_All_calls {l0 : Option Addr} {Q : Value → WP} {w : World} (h : list_List_string_All l0 Q w) : Calls Tryd.prog id_list_List_string_All #[.pointer l0] w fun e w' => ∃ v, e = .returned v ∧ Q v w' :=
  funJ_calls mixed Tryd.func66 rfl h

-- hoard/hoardref10.cut
def hoardref10_cut_kp : KP := ⟨[(9, [0, 1, 5, 6]), (16, [5])], []⟩
def hoardref10_cut_j2 (jn : Jn) (Q : Value → WP)  (m5 : Sl) : WP := jn 16 (fun ρ => codeI Tryd.prog hoardref10_cut_kp jn (cAt [true, true, true] (bodyOf Tryd.f67)) (retK Tryd.prog Tryd.f67 Q) noX (retK Tryd.prog Tryd.f67 Q) ρ) (us 5 ((.slice m5.a m5.n m5.c) :: us 21 []))
def hoardref10_cut_l1 (jn : Jn) (Q : Value → WP)  (m1 : Nat) (l0 : Sl) (key1 : ByteArray) (m5 : Sl) (i6 : Int) : WP := lop Tryd.prog hoardref10_cut_kp jn (cAt [true, true, false, true, false, false] (bodyOf Tryd.f67)) (blkX 0 (seqK Tryd.prog hoardref10_cut_kp jn (cAt [true, true, true] (bodyOf Tryd.f67)) (retK Tryd.prog Tryd.f67 Q) noX (retK Tryd.prog Tryd.f67 Q)) noX) (retK Tryd.prog Tryd.f67 Q) m1 ((.slice l0.a l0.n l0.c) :: (.string key1) :: us 3 ((.slice m5.a m5.n m5.c) :: (.int .i64 i6) :: us 20 []))
def hoardref10_cut (l0 : Sl) (key1 : ByteArray) (Q : Value → WP) : WP := funJ idJ Tryd.prog hoardref10_cut_kp Tryd.f67 [.slice l0.a l0.n l0.c, .string key1] Q
theorem hoardref10_cut_j2_raw (jn : Jn) (Q : Value → WP)  (m5 : Sl) : codeI Tryd.prog hoardref10_cut_kp jn (cAt [true, true, true] (bodyOf Tryd.f67)) (retK Tryd.prog Tryd.f67 Q) noX (retK Tryd.prog Tryd.f67 Q) (us 5 ((.slice m5.a m5.n m5.c) :: us 21 [])) = (
  Q (.slice m5.a m5.n m5.c)) := by kernel_rfl
theorem hoardref10_cut_j2_def (Q : Value → WP)  (m5 : Sl) : hoardref10_cut_j2 idJ Q  m5 = codeI Tryd.prog hoardref10_cut_kp idJ (cAt [true, true, true] (bodyOf Tryd.f67)) (retK Tryd.prog Tryd.f67 Q) noX (retK Tryd.prog Tryd.f67 Q) (us 5 ((.slice m5.a m5.n m5.c) :: us 21 [])) := by kernel_rfl
theorem hoardref10_cut_l1_raw (jn : Jn) (Q : Value → WP)  (m1 : Nat) (l0 : Sl) (key1 : ByteArray) (m5 : Sl) (i6 : Int) : hoardref10_cut_l1 jn Q  (m1 + 1) l0 key1 m5 i6 = (
  ite2 (decide (i6 < (l0.n : Int))) (
  idx l0.a l0.n i6 fun b_1 o_2 =>
  ld .str b_1 (o_2 + (i6).toNat * 1) fun (x_3 : ByteArray) =>
  ite2 (!sEq x_3 key1) (
  idx l0.a l0.n i6 fun b_4 o_5 =>
  ld .str b_4 (o_5 + (i6).toNat * 1) fun (x_6 : ByteArray) =>
  newB [.string x_6] ty_string fun b_7 =>
  appendC ty_string 1 16 [.string str_empty] ⟨m5.a, m5.n, m5.c⟩ 1 (fun w => rdA w (some ⟨b_7, 0, none⟩) (1 * 1)) fun s_8 =>
  hoardref10_cut_l1 jn Q  m1 l0 key1 s_8 (IntKind.wrap .i64 (i6 + (1 : Int)))) (
  hoardref10_cut_l1 jn Q  m1 l0 key1 m5 (IntKind.wrap .i64 (i6 + (1 : Int))))) (
  hoardref10_cut_j2 jn Q  m5)) := by kernel_rfl
theorem hoardref10_cut_l1_zero (jn : Jn) (Q : Value → WP)  (l0 : Sl) (key1 : ByteArray) (m5 : Sl) (i6 : Int) : hoardref10_cut_l1 jn Q  0 l0 key1 m5 i6 = bot := by kernel_rfl
theorem hoardref10_cut_raw (jn : Jn) (l0 : Sl) (key1 : ByteArray) (Q : Value → WP) : funJ jn Tryd.prog hoardref10_cut_kp Tryd.f67 [.slice l0.a l0.n l0.c, .string key1] Q = (
  exM fun m => hoardref10_cut_l1 jn Q  m l0 key1 ⟨(none : Option Addr), 0, 0⟩ (0 : Int)) := by kernel_rfl
theorem hoardref10_cut_def (l0 : Sl) (key1 : ByteArray) (Q : Value → WP) : hoardref10_cut l0 key1 Q = funJ idJ Tryd.prog hoardref10_cut_kp Tryd.f67 [.slice l0.a l0.n l0.c, .string key1] Q := rfl
theorem hoardref10_cut_calls {l0 : Sl} {key1 : ByteArray} {Q : Value → WP} {w : World} (h : hoardref10_cut l0 key1 Q w) : Calls Tryd.prog id_hoardref10_cut #[.slice l0.a l0.n l0.c, .string key1] w fun e w' => ∃ v, e = .returned v ∧ Q v w' :=
  funJ_calls mixed Tryd.func67 rfl h

-- hoard/hoardref10.has
def hoardref10_has_kp : KP := ⟨[(7, [0, 1, 5]), (14, [])], []⟩
def hoardref10_has_j2 (jn : Jn) (Q : Value → WP)   : WP := jn 14 (fun ρ => codeI Tryd.prog hoardref10_has_kp jn (cAt [true, true] (bodyOf Tryd.f68)) (retK Tryd.prog Tryd.f68 Q) noX (retK Tryd.prog Tryd.f68 Q) ρ) (us 19 [])
def hoardref10_has_l1 (jn : Jn) (Q : Value → WP)  (m1 : Nat) (l0 : Sl) (key1 : ByteArray) (i5 : Int) : WP := lop Tryd.prog hoardref10_has_kp jn (cAt [true, false, true, false, false] (bodyOf Tryd.f68)) (blkX 0 (seqK Tryd.prog hoardref10_has_kp jn (cAt [true, true] (bodyOf Tryd.f68)) (retK Tryd.prog Tryd.f68 Q) noX (retK Tryd.prog Tryd.f68 Q)) noX) (retK Tryd.prog Tryd.f68 Q) m1 ((.slice l0.a l0.n l0.c) :: (.string key1) :: us 3 ((.int .i64 i5) :: us 13 []))
def hoardref10_has (l0 : Sl) (key1 : ByteArray) (Q : Value → WP) : WP := funJ idJ Tryd.prog hoardref10_has_kp Tryd.f68 [.slice l0.a l0.n l0.c, .string key1] Q
theorem hoardref10_has_j2_raw (jn : Jn) (Q : Value → WP)   : codeI Tryd.prog hoardref10_has_kp jn (cAt [true, true] (bodyOf Tryd.f68)) (retK Tryd.prog Tryd.f68 Q) noX (retK Tryd.prog Tryd.f68 Q) (us 19 []) = (
  Q (.int .i64 (-1 : Int))) := by kernel_rfl
theorem hoardref10_has_j2_def (Q : Value → WP)   : hoardref10_has_j2 idJ Q   = codeI Tryd.prog hoardref10_has_kp idJ (cAt [true, true] (bodyOf Tryd.f68)) (retK Tryd.prog Tryd.f68 Q) noX (retK Tryd.prog Tryd.f68 Q) (us 19 []) := by kernel_rfl
theorem hoardref10_has_l1_raw (jn : Jn) (Q : Value → WP)  (m1 : Nat) (l0 : Sl) (key1 : ByteArray) (i5 : Int) : hoardref10_has_l1 jn Q  (m1 + 1) l0 key1 i5 = (
  ite2 (decide (i5 < (l0.n : Int))) (
  idx l0.a l0.n i5 fun b_1 o_2 =>
  ld .str b_1 (o_2 + (i5).toNat * 1) fun (x_3 : ByteArray) =>
  ite2 (sEq x_3 key1) (
  Q (.int .i64 i5)) (
  hoardref10_has_l1 jn Q  m1 l0 key1 (IntKind.wrap .i64 (i5 + (1 : Int))))) (
  hoardref10_has_j2 jn Q  )) := by kernel_rfl
theorem hoardref10_has_l1_zero (jn : Jn) (Q : Value → WP)  (l0 : Sl) (key1 : ByteArray) (i5 : Int) : hoardref10_has_l1 jn Q  0 l0 key1 i5 = bot := by kernel_rfl
theorem hoardref10_has_raw (jn : Jn) (l0 : Sl) (key1 : ByteArray) (Q : Value → WP) : funJ jn Tryd.prog hoardref10_has_kp Tryd.f68 [.slice l0.a l0.n l0.c, .string key1] Q = (
  exM fun m => hoardref10_has_l1 jn Q  m l0 key1 (0 : Int)) := by kernel_rfl
theorem hoardref10_has_def (l0 : Sl) (key1 : ByteArray) (Q : Value → WP) : hoardref10_has l0 key1 Q = funJ idJ Tryd.prog hoardref10_has_kp Tryd.f68 [.slice l0.a l0.n l0.c, .string key1] Q := rfl
theorem hoardref10_has_calls {l0 : Sl} {key1 : ByteArray} {Q : Value → WP} {w : World} (h : hoardref10_has l0 key1 Q w) : Calls Tryd.prog id_hoardref10_has #[.slice l0.a l0.n l0.c, .string key1] w fun e w' => ∃ v, e = .returned v ∧ Q v w' :=
  funJ_calls mixed Tryd.func68 rfl h

-- (*hoard/hoardref10.Engine).known
def hoardref10_Engine_known_kp : KP := ⟨[], [(2, [0, 1, 2, 3, 4, 5, 6, 7, 8, 9, 10, 11, 12, 13, 14, 15, 16, 18, 19, 20, 21, 22, 23, 24]), (7, [0, 1, 2, 3, 4, 5, 6, 7, 8, 9, 10, 11, 12, 14, 15, 16, 17, 18, 19, 20])]⟩
def hoardref10_Engine_known (e0 : Option Addr) (key1 : ByteArray) (Q : Value → WP) : WP := funJ idJ Tryd.prog hoardref10_Engine_known_kp Tryd.f69 [.pointer e0, .string key1] Q
theorem hoardref10_Engine_known_raw (jn : Jn) (e0 : Option Addr) (key1 : ByteArray) (Q : Value → WP) : funJ jn Tryd.prog hoardref10_Engine_known_kp Tryd.f69 [.pointer e0, .string key1] Q = (
  nilck e0 fun b_1 o_2 =>
  ld .slc b_1 (o_2 + 2) fun (x_3 : Sl) =>
  call1 (.int .i64) Tryd.prog id_hoardref10_has [.slice x_3.a x_3.n x_3.c, .string key1] fun (x_4 : Int) =>
  ite2 (decide (x_4 ≥ (0 : Int))) (
  drawW fun S =>
  nilck e0 fun b_5 o_6 =>
  ldS S (.int .i64) b_5 (o_6 + 5) fun (x_7 : Int) =>
  nilck e0 fun b_8 o_9 =>
  ldS S (.int .i64) b_8 (o_9 + 4) fun (x_10 : Int) =>
  nilck e0 fun b_11 o_12 =>
  ldS S .slc b_11 (o_12 + 3) fun (x_13 : Sl) =>
  nilck e0 fun b_14 o_15 =>
  ld .slc b_14 (o_15 + 2) fun (x_16 : Sl) =>
  keepS true S <|
  when ((x_16.n : Int) ≠ 0) <|
  nilck e0 fun b_17 o_18 =>
  st b_17 (o_18 + 4) (.int .i64 (if (IntKind.wrap .i64 (x_10 + (if (IntKind.wrap .i64 (Int.tdiv (x_13.n : Int) (x_16.n : Int))) > (1 : Int) then (IntKind.wrap .i64 (Int.tdiv (x_13.n : Int) (x_16.n : Int))) else (1 : Int)))) < x_7 then (IntKind.wrap .i64 (x_10 + (if (IntKind.wrap .i64 (Int.tdiv (x_13.n : Int) (x_16.n : Int))) > (1 : Int) then (IntKind.wrap .i64 (Int.tdiv (x_13.n : Int) (x_16.n : Int))) else (1 : Int)))) else x_7)) <|
  call1 .slc Tryd.prog id_hoardref10_Engine_replace [.pointer e0, .string key1] fun (x_19 : Sl) =>
  nilck e0 fun b_20 o_21 =>
  ld .slc b_20 (o_21 + 2) fun (x_22 : Sl) =>
  call1 .slc Tryd.prog id_hoardref10_cut [.slice x_22.a x_22.n x_22.c, .string key1] fun (x_23 : Sl) =>
  nilck e0 fun b_24 o_25 =>
  st b_24 (o_25 + 2) (.slice x_23.a x_23.n x_23.c) <|
  nilck e0 fun b_26 o_27 =>
  ld .slc b_26 (o_27 + 1) fun (x_28 : Sl) =>
  newB [.string key1] ty_string fun b_29 =>
  appendC ty_string 1 16 [.string str_empty] ⟨x_28.a, x_28.n, x_28.c⟩ 1 (fun w => rdA w (some ⟨b_29, 0, none⟩) (1 * 1)) fun s_30 =>
  nilck e0 fun b_31 o_32 =>
  st b_31 (o_32 + 1) (.slice s_30.a s_30.n s_30.c) <|
  Q (.slice x_19.a x_19.n x_19.c)) (
  drawW fun S =>
  nilck e0 fun b_33 o_34 =>
  ldS S (.int .i64) b_33 (o_34 + 4) fun (x_35 : Int) =>
  nilck e0 fun b_36 o_37 =>
  ldS S .slc b_36 (o_37 + 2) fun (x_38 : Sl) =>
  nilck e0 fun b_39 o_40 =>
  ld .slc b_39 (o_40 + 3) fun (x_41 : Sl) =>
  keepS true S <|
  when ((x_41.n : Int) ≠ 0) <|
  nilck e0 fun b_42 o_43 =>
  st b_42 (o_43 + 4) (.int .i64 (if (IntKind.wrap .i64 (x_35 - (if (IntKind.wrap .i64 (Int.tdiv (x_38.n : Int) (x_41.n : Int))) > (1 : Int) then (IntKind.wrap .i64 (Int.tdiv (x_38.n : Int) (x_41.n : Int))) else (1 : Int)))) > (0 : Int) then (IntKind.wrap .i64 (x_35 - (if (IntKind.wrap .i64 (Int.tdiv (x_38.n : Int) (x_41.n : Int))) > (1 : Int) then (IntKind.wrap .i64 (Int.tdiv (x_38.n : Int) (x_41.n : Int))) else (1 : Int)))) else (0 : Int))) <|
  call1 .slc Tryd.prog id_hoardref10_Engine_replace [.pointer e0, .string key1] fun (x_44 : Sl) =>
  nilck e0 fun b_45 o_46 =>
  ld .slc b_45 (o_46 + 3) fun (x_47 : Sl) =>
  call1 .slc Tryd.prog id_hoardref10_cut [.slice x_47.a x_47.n x_47.c, .string key1] fun (x_48 : Sl) =>
  nilck e0 fun b_49 o_50 =>
  st b_49 (o_50 + 3) (.slice x_48.a x_48.n x_48.c) <|
  nilck e0 fun b_51 o_52 =>
  ld .slc b_51 (o_52 + 1) fun (x_53 : Sl) =>
  newB [.string key1] ty_string fun b_54 =>
  appendC ty_string 1 16 [.string str_empty] ⟨x_53.a, x_53.n, x_53.c⟩ 1 (fun w => rdA w (some ⟨b_54, 0, none⟩) (1 * 1)) fun s_55 =>
  nilck e0 fun b_56 o_57 =>
  st b_56 (o_57 + 1) (.slice s_55.a s_55.n s_55.c) <|
  Q (.slice x_44.a x_44.n x_44.c))) := by kernel_rfl
theorem hoardref10_Engine_known_def (e0 : Option Addr) (key1 : ByteArray) (Q : Value → WP) : hoardref10_Engine_known e0 key1 Q = funJ idJ Tryd.prog hoardref10_Engine_known_kp Tryd.f69 [.pointer e0, .string key1] Q := rfl
theorem hoardref10_Engine_known_calls {e0 : Option Addr} {key1 : ByteArray} {Q : Value → WP} {w : World} (h : hoardref10_Engine_known e0 key1 Q w) : Calls Tryd.prog id_hoardref10_Engine_known #[.pointer e0, .string key1] w fun e w' => ∃ v, e = .returned v ∧ Q v w' :=
  funJ_calls mixed Tryd.func69 rfl h

-- (*hoard/hoardref10.Engine).fresh
def hoardref10_Engine_fresh_kp : KP := ⟨[(10, [0, 1, 5, 6, 21]), (28, [0, 1, 5])], [(2, [0, 2, 3, 4, 5, 6, 7, 8, 9, 10, 11, 12, 13, 14]), (3, [0, 1, 2, 3, 4, 5, 6, 7, 8, 9, 10, 11, 12, 13, 15, 16, 17, 18, 19, 20, 21, 22, 23, 24, 26, 27, 28]), (6, [0, 1, 2, 3, 4, 5, 6, 7, 8, 9, 10, 11, 12, 13, 15, 16])]⟩
def hoardref10_Engine_fresh_j2 (jn : Jn) (Q : Value → WP)  (e0 : Option Addr) (key1 : ByteArray) (l5 : Sl) : WP := jn 28 (fun ρ => codeI Tryd.prog hoardref10_Engine_fresh_kp jn (cAt [true, true, true, true] (bodyOf Tryd.f70)) (retK Tryd.prog Tryd.f70 Q) noX (retK Tryd.prog Tryd.f70 Q) ρ) ((.pointer e0) :: (.string key1) :: us 3 ((.slice l5.a l5.n l5.c) :: us 125 []))
def hoardref10_Engine_fresh_j1 (jn : Jn) (Q : Value → WP)  (e0 : Option Addr) (key1 : ByteArray) (l5 : Sl) (all6 : Int) (t21 : Bool) : WP := jn 10 (fun ρ => codeI Tryd.prog hoardref10_Engine_fresh_kp jn (cAt [true, true, true, false, false, true] (bodyOf Tryd.f70)) (seqK Tryd.prog hoardref10_Engine_fresh_kp jn (cAt [true, true, true, true] (bodyOf Tryd.f70)) (retK Tryd.prog Tryd.f70 Q) noX (retK Tryd.prog Tryd.f70 Q)) (blkX 0 (seqK Tryd.prog hoardref10_Engine_fresh_kp jn (cAt [true, true, true, true] (bodyOf Tryd.f70)) (retK Tryd.prog Tryd.f70 Q) noX (retK Tryd.prog Tryd.f70 Q)) noX) (retK Tryd.prog Tryd.f70 Q) ρ) ((.pointer e0) :: (.string key1) :: us 3 ((.slice l5.a l5.n l5.c) :: (.int .i64 all6) :: us 14 ((.bool t21) :: us 109 [])))
def hoardref10_Engine_fresh (e0 : Option Addr) (key1 : ByteArray) (Q : Value → WP) : WP := funJ idJ Tryd.prog hoardref10_Engine_fresh_kp Tryd.f70 [.pointer e0, .string key1] Q
theorem hoardref10_Engine_fresh_j2_raw (jn : Jn) (Q : Value → WP)  (e0 : Option Addr) (key1 : ByteArray) (l5 : Sl) : codeI Tryd.prog hoardref10_Engine_fresh_kp jn (cAt [true, true, true, true] (bodyOf Tryd.f70)) (retK Tryd.prog Tryd.f70 Q) noX (retK Tryd.prog Tryd.f70 Q) ((.pointer e0) :: (.string key1) :: us 3 ((.slice l5.a l5.n l5.c) :: us 125 [])) = (
  newB [] ty_string fun b_29 =>
  nilck e0 fun b_30 o_31 =>
  ld .slc b_30 o_31 fun (x_32 : Sl) =>
  appendC ty_string 1 16 [.string str_empty] ⟨(some ⟨b_29, 0, none⟩), 0, 0⟩ x_32.n (fun w => rdA w x_32.a (x_32.n * 1)) fun s_33 =>
  newB [.string key1] ty_string fun b_34 =>
  appendC ty_string 1 16 [.string str_empty] ⟨s_33.a, s_33.n, s_33.c⟩ 1 (fun w => rdA w (some ⟨b_34, 0, none⟩) (1 * 1)) fun s_35 =>
  nilck e0 fun b_36 o_37 =>
  st b_36 o_37 (.slice s_35.a s_35.n s_35.c) <|
  Q (.slice l5.a l5.n l5.c)) := by kernel_rfl
theorem hoardref10_Engine_fresh_j2_def (Q : Value → WP)  (e0 : Option Addr) (key1 : ByteArray) (l5 : Sl) : hoardref10_Engine_fresh_j2 idJ Q  e0 key1 l5 = codeI Tryd.prog hoardref10_Engine_fresh_kp idJ (cAt [true, true, true, true] (bodyOf Tryd.f70)) (retK Tryd.prog Tryd.f70 Q) noX (retK Tryd.prog Tryd.f70 Q) ((.pointer e0) :: (.string key1) :: us 3 ((.slice l5.a l5.n l5.c) :: us 125 [])) := by kernel_rfl
theorem hoardref10_Engine_fresh_j1_raw (jn : Jn) (Q : Value → WP)  (e0 : Option Addr) (key1 : ByteArray) (l5 : Sl) (all6 : Int) (t21 : Bool) : codeI Tryd.prog hoardref10_Engine_fresh_kp jn (cAt [true, true, true, false, false, true] (bodyOf Tryd.f70)) (seqK Tryd.prog hoardref10_Engine_fresh_kp jn (cAt [true, true, true, true] (bodyOf Tryd.f70)) (retK Tryd.prog Tryd.f70 Q) noX (retK Tryd.prog Tryd.f70 Q)) (blkX 0 (seqK Tryd.prog hoardref10_Engine_fresh_kp jn (cAt [true, true, true, true] (bodyOf Tryd.f70)) (retK Tryd.prog Tryd.f70 Q) noX (retK Tryd.prog Tryd.f70 Q)) noX) (retK Tryd.prog Tryd.f70 Q) ((.pointer e0) :: (.string key1) :: us 3 ((.slice l5.a l5.n l5.c) :: (.int .i64 all6) :: us 14 ((.bool t21) :: us 109 []))) = (
  ite2 t21 (
  nilck e0 fun b_23 o_24 =>
  ld .slc b_23 (o_24 + 2) fun (x_25 : Sl) =>
  when ((0 : Int) ≤ (1 : Int) ∧ (1 : Int) ≤ (x_25.n : Int)) <|
  nilck e0 fun b_26 o_27 =>
  st b_26 (o_27 + 2) (.slice (subA x_25.a (((1 : Int)).toNat) x_25.c 1) (x_25.n - ((1 : Int)).toNat) (x_25.c - ((1 : Int)).toNat)) <|
  call1 .slc Tryd.prog id_hoardref10_Engine_replace [.pointer e0, .string key1] fun (x_28 : Sl) =>
  hoardref10_Engine_fresh_j2 jn Q  e0 key1 x_28) (
  drawW fun S =>
  nilck e0 fun b_38 o_39 =>
  ldS S .slc b_38 o_39 fun (x_40 : Sl) =>
  nilck e0 fun b_41 o_42 =>
  ldS S .slc b_41 (o_42 + 2) fun (x_43 : Sl) =>
  nilck e0 fun b_44 o_45 =>
  ld (.int .i64) b_44 (o_45 + 5) fun (x_46 : Int) =>
  keepS true S <|
  ite2 (decide ((IntKind.wrap .i64 ((x_40.n : Int) + (x_43.n : Int))) ≥ x_46)) (
  nilck e0 fun b_47 o_48 =>
  ld .slc b_47 o_48 fun (x_49 : Sl) =>
  idx x_49.a x_49.n (0 : Int) fun b_50 o_51 =>
  ld .str b_50 (o_51 + ((0 : Int)).toNat * 1) fun (x_52 : ByteArray) =>
  newB [.string x_52] ty_string fun b_53 =>
  nilck e0 fun b_54 o_55 =>
  ld .slc b_54 o_55 fun (x_56 : Sl) =>
  when ((0 : Int) ≤ (1 : Int) ∧ (1 : Int) ≤ (x_56.n : Int)) <|
  nilck e0 fun b_57 o_58 =>
  st b_57 o_58 (.slice (subA x_56.a (((1 : Int)).toNat) x_56.c 1) (x_56.n - ((1 : Int)).toNat) (x_56.c - ((1 : Int)).toNat)) <|
  hoardref10_Engine_fresh_j2 jn Q  e0 key1 ⟨(some ⟨b_53, 0, none⟩), 1, 1⟩) (
  nilck e0 fun b_59 o_60 =>
  ld (.int .i64) b_59 (o_60 + 5) fun (x_61 : Int) =>
  ite2 (decide (all6 ≥ x_61)) (
  nilck e0 fun b_62 o_63 =>
  ld (.int .i64) b_62 (o_63 + 5) fun (x_64 : Int) =>
  ite2 (decide (all6 ≥ (IntKind.wrap .i64 ((2 : Int) * x_64)))) (
  nilck e0 fun b_65 o_66 =>
  ld .slc b_65 (o_66 + 3) fun (x_67 : Sl) =>
  when ((0 : Int) ≤ (1 : Int) ∧ (1 : Int) ≤ (x_67.n : Int)) <|
  nilck e0 fun b_68 o_69 =>
  st b_68 (o_69 + 3) (.slice (subA x_67.a (((1 : Int)).toNat) x_67.c 1) (x_67.n - ((1 : Int)).toNat) (x_67.c - ((1 : Int)).toNat)) <|
  call1 .slc Tryd.prog id_hoardref10_Engine_replace [.pointer e0, .string key1] fun (x_70 : Sl) =>
  hoardref10_Engine_fresh_j2 jn Q  e0 key1 x_70) (
  call1 .slc Tryd.prog id_hoardref10_Engine_replace [.pointer e0, .string key1] fun (x_71 : Sl) =>
  hoardref10_Engine_fresh_j2 jn Q  e0 key1 x_71)) (
  hoardref10_Engine_fresh_j2 jn Q  e0 key1 l5)))) := by kernel_rfl
theorem hoardref10_Engine_fresh_j1_def (Q : Value → WP)  (e0 : Option Addr) (key1 : ByteArray) (l5 : Sl) (all6 : Int) (t21 : Bool) : hoardref10_Engine_fresh_j1 idJ Q  e0 key1 l5 all6 t21 = codeI Tryd.prog hoardref10_Engine_fresh_kp idJ (cAt [true, true, true, false, false, true] (bodyOf Tryd.f70)) (seqK Tryd.prog hoardref10_Engine_fresh_kp idJ (cAt [true, true, true, true] (bodyOf Tryd.f70)) (retK Tryd.prog Tryd.f70 Q) noX (retK Tryd.prog Tryd.f70 Q)) (blkX 0 (seqK Tryd.prog hoardref10_Engine_fresh_kp idJ (cAt [true, true, true, true] (bodyOf Tryd.f70)) (retK Tryd.prog Tryd.f70 Q) noX (retK Tryd.prog Tryd.f70 Q)) noX) (retK Tryd.prog Tryd.f70 Q) ((.pointer e0) :: (.string key1) :: us 3 ((.slice l5.a l5.n l5.c) :: (.int .i64 all6) :: us 14 ((.bool t21) :: us 109 []))) := by kernel_rfl
theorem hoardref10_Engine_fresh_raw (jn : Jn) (e0 : Option Addr) (key1 : ByteArray) (Q : Value → WP) : funJ jn Tryd.prog hoardref10_Engine_fresh_kp Tryd.f70 [.pointer e0, .string key1] Q = (
  drawW fun S =>
  nilck e0 fun b_1 o_2 =>
  ldS S .slc b_1 (o_2 + 2) fun (x_3 : Sl) =>
  nilck e0 fun b_4 o_5 =>
  ldS S .slc b_4 (o_5 + 3) fun (x_6 : Sl) =>
  call1 (.int .i64) Tryd.prog id_hoardref10_Engine_Len [.pointer e0] fun (x_7 : Int) =>
  keepS true S <|
  drawW fun S =>
  nilck e0 fun b_8 o_9 =>
  ldS S .slc b_8 o_9 fun (x_10 : Sl) =>
  nilck e0 fun b_11 o_12 =>
  ldS S .slc b_11 (o_12 + 2) fun (x_13 : Sl) =>
  nilck e0 fun b_14 o_15 =>
  ld (.int .i64) b_14 (o_15 + 5) fun (x_16 : Int) =>
  keepS true S <|
  ite2 (decide ((IntKind.wrap .i64 ((x_10.n : Int) + (x_13.n : Int))) ≥ x_16)) (
  nilck e0 fun b_17 o_18 =>
  ldS S .slc b_17 o_18 fun (x_19 : Sl) =>
  nilck e0 fun b_20 o_21 =>
  ld (.int .i64) b_20 (o_21 + 5) fun (x_22 : Int) =>
  keepS true S <|
  hoardref10_Engine_fresh_j1 jn Q  e0 key1 ⟨(none : Option Addr), 0, 0⟩ (IntKind.wrap .i64 ((IntKind.wrap .i64 (x_7 + (x_3.n : Int))) + (x_6.n : Int))) (decide ((x_19.n : Int) < x_22))) (
  keepS true S <|
  hoardref10_Engine_fresh_j1 jn Q  e0 key1 ⟨(none : Option Addr), 0, 0⟩ (IntKind.wrap .i64 ((IntKind.wrap .i64 (x_7 + (x_3.n : Int))) + (x_6.n : Int))) false)) := by kernel_rfl
theorem hoardref10_Engine_fresh_def (e0 : Option Addr) (key1 : ByteArray) (Q : Value → WP) : hoardref10_Engine_fresh e0 key1 Q = funJ idJ Tryd.prog hoardref10_Engine_fresh_kp Tryd.f70 [.pointer e0, .string key1] Q := rfl
theorem hoardref10_Engine_fresh_calls {e0 : Option Addr} {key1 : ByteArray} {Q : Value → WP} {w : World} (h : hoardref10_Engine_fresh e0 key1 Q w) : Calls Tryd.prog id_hoardref10_Engine_fresh #[.pointer e0, .string key1] w fun e w' => ∃ v, e = .returned v ∧ Q v w' :=
  funJ_calls mixed Tryd.func70 rfl h

-- (*hoard/hoardref10.Engine).goes
def hoardref10_Engine_goes_kp : KP := ⟨[], []⟩
def hoardref10_Engine_goes (e0 : Option Addr) (first1 : Bool) (Q : Value → WP) : WP := funJ idJ Tryd.prog hoardref10_Engine_goes_kp Tryd.f71 [.pointer e0, .bool first1] Q
theorem hoardref10_Engine_goes_raw (jn : Jn) (e0 : Option Addr) (first1 : Bool) (Q : Value → WP) : funJ jn Tryd.prog hoardref10_Engine_goes_kp Tryd.f71 [.pointer e0, .bool first1] Q = (
  ite2 first1 (
  nilck e0 fun b_1 o_2 =>
  ld .slc b_1 o_2 fun (x_3 : Sl) =>
  idx x_3.a x_3.n (0 : Int) fun b_4 o_5 =>
  ld .str b_4 (o_5 + ((0 : Int)).toNat * 1) fun (x_6 : ByteArray) =>
  nilck e0 fun b_7 o_8 =>
  ld .slc b_7 o_8 fun (x_9 : Sl) =>
  call1 .slc Tryd.prog id_hoardref10_cut [.slice x_9.a x_9.n x_9.c, .string x_6] fun (x_10 : Sl) =>
  nilck e0 fun b_11 o_12 =>
  st b_11 o_12 (.slice x_10.a x_10.n x_10.c) <|
  nilck e0 fun b_13 o_14 =>
  ld .slc b_13 (o_14 + 2) fun (x_15 : Sl) =>
  newB [.string x_6] ty_string fun b_16 =>
  appendC ty_string 1 16 [.string str_empty] ⟨x_15.a, x_15.n, x_15.c⟩ 1 (fun w => rdA w (some ⟨b_16, 0, none⟩) (1 * 1)) fun s_17 =>
  nilck e0 fun b_18 o_19 =>
  st b_18 (o_19 + 2) (.slice s_17.a s_17.n s_17.c) <|
  Q (.string x_6)) (
  nilck e0 fun b_20 o_21 =>
  ld .slc b_20 (o_21 + 1) fun (x_22 : Sl) =>
  idx x_22.a x_22.n (0 : Int) fun b_23 o_24 =>
  ld .str b_23 (o_24 + ((0 : Int)).toNat * 1) fun (x_25 : ByteArray) =>
  nilck e0 fun b_26 o_27 =>
  ld .slc b_26 (o_27 + 1) fun (x_28 : Sl) =>
  call1 .slc Tryd.prog id_hoardref10_cut [.slice x_28.a x_28.n x_28.c, .string x_25] fun (x_29 : Sl) =>
  nilck e0 fun b_30 o_31 =>
  st b_30 (o_31 + 1) (.slice x_29.a x_29.n x_29.c) <|
  nilck e0 fun b_32 o_33 =>
  ld .slc b_32 (o_33 + 3) fun (x_34 : Sl) =>
  newB [.string x_25] ty_string fun b_35 =>
  appendC ty_string 1 16 [.string str_empty] ⟨x_34.a, x_34.n, x_34.c⟩ 1 (fun w => rdA w (some ⟨b_35, 0, none⟩) (1 * 1)) fun s_36 =>
  nilck e0 fun b_37 o_38 =>
  st b_37 (o_38 + 3) (.slice s_36.a s_36.n s_36.c) <|
  Q (.string x_25))) := by kernel_rfl
theorem hoardref10_Engine_goes_def (e0 : Option Addr) (first1 : Bool) (Q : Value → WP) : hoardref10_Engine_goes e0 first1 Q = funJ idJ Tryd.prog hoardref10_Engine_goes_kp Tryd.f71 [.pointer e0, .bool first1] Q := rfl
theorem hoardref10_Engine_goes_calls {e0 : Option Addr} {first1 : Bool} {Q : Value → WP} {w : World} (h : hoardref10_Engine_goes e0 first1 Q w) : Calls Tryd.prog id_hoardref10_Engine_goes #[.pointer e0, .bool first1] w fun e w' => ∃ v, e = .returned v ∧ Q v w' :=
  funJ_calls mixed Tryd.func71 rfl h

-- (*hoard/index.Index[hoard/arc.place]).Delete
def index_Index_arc_place_Delete_kp : KP := ⟨[], []⟩
def index_Index_arc_place_Delete (x0 : Option Addr) (key1 : ByteArray) (Q : Value → WP) : WP := funJ idJ Tryd.prog index_Index_arc_place_Delete_kp Tryd.f72 [.pointer x0, .string key1] Q
theorem index_Index_arc_place_Delete_raw (jn : Jn) (x0 : Option Addr) (key1 : ByteArray) (Q : Value → WP) : funJ jn Tryd.prog index_Index_arc_place_Delete_kp Tryd.f72 [.pointer x0, .string key1] Q = (
  newB [.int .i64 (0 : Int), .int .i64 (0 : Int)] ty_arc_place fun b_1 =>
  fun w => Calls Tryd.prog id_index_Index_arc_place_Get #[.pointer x0, .string key1] w fun e w' => ∃ x_2 : Int, ∃ x_3 : Int, ∃ x_4 : Bool, e = .returned (.tuple #[.agg #[.int .i64 x_2, .int .i64 x_3], .bool x_4]) ∧ (
  newB [.int .i64 (0 : Int), .int .i64 (0 : Int)] ty_arc_place fun b_5 =>
  st b_5 0 (.int .i64 x_2) <|
  st b_5 1 (.int .i64 x_3) <|
  ite2 x_4 (
  call2 (.int .i64) .bool Tryd.prog id_index_Index_arc_place_find [.pointer x0, .string key1] fun (x_6 : Int) (x_7 : Bool) =>
  nilck x0 fun b_8 o_9 =>
  ld .slc b_8 (o_9 + 1) fun (x_10 : Sl) =>
  idx x_10.a x_10.n x_6 fun b_11 o_12 =>
  st b_11 (o_12 + (x_6).toNat * 4) (.int .i64 (1 : Int)) <|
  st b_11 ((o_12 + (x_6).toNat * 4) + 1) (.string str_empty) <|
  st b_11 (((o_12 + (x_6).toNat * 4) + 1) + 1) (.int .i64 (0 : Int)) <|
  st b_11 ((((o_12 + (x_6).toNat * 4) + 1) + 1) + 1) (.int .i64 (0 : Int)) <|
  nilck x0 fun b_13 o_14 =>
  ld (.int .i64) b_13 (o_14 + 2) fun (x_15 : Int) =>
  nilck x0 fun b_16 o_17 =>
  st b_16 (o_17 + 2) (.int .i64 (IntKind.wrap .i64 (x_15 - (1 : Int)))) <|
  ld (.int .i64) b_5 0 fun (x_18 : Int) =>
  ld (.int .i64) b_5 1 fun (x_19 : Int) =>
  st b_1 0 (.int .i64 x_18) <|
  st b_1 1 (.int .i64 x_19) <|
  ld (.int .i64) b_1 0 fun (x_20 : Int) =>
  ld (.int .i64) b_1 1 fun (x_21 : Int) =>
  Q (.tuple #[.agg #[.int .i64 x_20, .int .i64 x_21], .bool x_4])) (
  ld (.int .i64) b_5 0 fun (x_22 : Int) =>
  ld (.int .i64) b_5 1 fun (x_23 : Int) =>
  st b_1 0 (.int .i64 x_22) <|
  st b_1 1 (.int .i64 x_23) <|
  ld (.int .i64) b_1 0 fun (x_24 : Int) =>
  ld (.int .i64) b_1 1 fun (x_25 : Int) =>
  Q (.tuple #[.agg #[.int .i64 x_24, .int .i64 x_25], .bool x_4]))) w') := by kernel_rfl
theorem index_Index_arc_place_Delete_def (x0 : Option Addr) (key1 : ByteArray) (Q : Value → WP) : index_Index_arc_place_Delete x0 key1 Q = funJ idJ Tryd.prog index_Index_arc_place_Delete_kp Tryd.f72 [.pointer x0, .string key1] Q := rfl
theorem index_Index_arc_place_Delete_calls {x0 : Option Addr} {key1 : ByteArray} {Q : Value → WP} {w : World} (h : index_Index_arc_place_Delete x0 key1 Q w) : Calls Tryd.prog id_index_Index_arc_place_Delete #[.pointer x0, .string key1] w fun e w' => ∃ v, e = .returned v ∧ Q v w' :=
  funJ_calls mixed Tryd.func72 rfl h

-- (*hoard/list.List[string]).Remove
def list_List_string_Remove_kp : KP := ⟨[], []⟩
def list_List_string_Remove (l0 : Option Addr) (h1 : Int) (Q : Value → WP) : WP := funJ idJ Tryd.prog list_List_string_Remove_kp Tryd.f73 [.pointer l0, .int .i64 h1] Q
theorem list_List_string_Remove_raw (jn : Jn) (l0 : Option Addr) (h1 : Int) (Q : Value → WP) : funJ jn Tryd.prog list_List_string_Remove_kp Tryd.f73 [.pointer l0, .int .i64 h1] Q = (
  call2 .str .bool Tryd.prog id_list_List_string_Get [.pointer l0, .int .i64 h1] fun (x_1 : ByteArray) (x_2 : Bool) =>
  ite2 x_2 (
  call0 Tryd.prog id_list_List_string_lifts [.pointer l0, .int .i64 h1] <|
  nilck l0 fun b_3 o_4 =>
  ld .slc b_3 o_4 fun (x_5 : Sl) =>
  idx x_5.a x_5.n h1 fun b_6 o_7 =>
  st b_6 (o_7 + (h1).toNat * 4) (.string str_empty) <|
  st b_6 ((o_7 + (h1).toNat * 4) + 1) (.int .i64 (0 : Int)) <|
  st b_6 (((o_7 + (h1).toNat * 4) + 1) + 1) (.int .i64 (0 : Int)) <|
  st b_6 ((((o_7 + (h1).toNat * 4) + 1) + 1) + 1) (.bool false) <|
  nilck l0 fun b_8 o_9 =>
  ld .slc b_8 (o_9 + 1) fun (x_10 : Sl) =>
  newB [.int .i64 h1] ty_int fun b_11 =>
  appendC ty_int 1 8 [.int .i64 (0 : Int)] ⟨x_10.a, x_10.n, x_10.c⟩ 1 (fun w => rdA w (some ⟨b_11, 0, none⟩) (1 * 1)) fun s_12 =>
  nilck l0 fun b_13 o_14 =>
  st b_13 (o_14 + 1) (.slice s_12.a s_12.n s_12.c) <|
  nilck l0 fun b_15 o_16 =>
  ld (.int .i64) b_15 (o_16 + 2) fun (x_17 : Int) =>
  nilck l0 fun b_18 o_19 =>
  st b_18 (o_19 + 2) (.int .i64 (IntKind.wrap .i64 (x_17 - (1 : Int)))) <|
  Q (.tuple #[.string x_1, .bool x_2])) (
  Q (.tuple #[.string x_1, .bool x_2]))) := by kernel_rfl
theorem list_List_string_Remove_def (l0 : Option Addr) (h1 : Int) (Q : Value → WP) : list_List_string_Remove l0 h1 Q = funJ idJ Tryd.prog list_List_string_Remove_kp Tryd.f73 [.pointer l0, .int .i64 h1] Q := rfl
theorem list_List_string_Remove_calls {l0 : Option Addr} {h1 : Int} {Q : Value → WP} {w : World} (h : list_List_string_Remove l0 h1 Q w) : Calls Tryd.prog id_list_List_string_Remove #[.pointer l0, .int .i64 h1] w fun e w' => ∃ v, e = .returned v ∧ Q v w' :=
  funJ_calls mixed Tryd.func73 rfl h

-- (*hoard/list.List[string]).Get
def list_List_string_Get_kp : KP := ⟨[], []⟩
def list_List_string_Get (l0 : Option Addr) (h1 : Int) (Q : Value → WP) : WP := funJ idJ Tryd.prog list_List_string_Get_kp Tryd.f74 [.pointer l0, .int .i64 h1] Q
theorem list_List_string_Get_raw (jn : Jn) (l0 : Option Addr) (h1 : Int) (Q : Value → WP) : funJ jn Tryd.prog list_List_string_Get_kp Tryd.f74 [.pointer l0, .int .i64 h1] Q = (
  call1 .bool Tryd.prog id_list_List_string_has [.pointer l0, .int .i64 h1] fun (x_1 : Bool) =>
  ite2 (!x_1) (
  Q (.tuple #[.string str_empty, .bool false])) (
  nilck l0 fun b_2 o_3 =>
  ld .slc b_2 o_3 fun (x_4 : Sl) =>
  idx x_4.a x_4.n h1 fun b_5 o_6 =>
  ld .str b_5 (o_6 + (h1).toNat * 4) fun (x_7 : ByteArray) =>
  Q (.tuple #[.string x_7, .bool true]))) := by kernel_rfl
theorem list_List_string_Get_def (l0 : Option Addr) (h1 : Int) (Q : Value → WP) : list_List_string_Get l0 h1 Q = funJ idJ Tryd.prog list_List_string_Get_kp Tryd.f74 [.pointer l0, .int .i64 h1] Q := rfl
theorem list_List_string_Get_calls {l0 : Option Addr} {h1 : Int} {Q : Value → WP} {w : World} (h : list_List_string_Get l0 h1 Q w) : Calls Tryd.prog id_list_List_string_Get #[.pointer l0, .int .i64 h1] w fun e w' => ∃ v, e = .returned v ∧ Q v w' :=
  funJ_calls mixed Tryd.func74 rfl h

-- (*hoard/list.List[string]).Front
def list_List_string_Front_kp : KP := ⟨[], []⟩
def list_List_string_Front (l0 : Option Addr) (Q : Value → WP) : WP := funJ idJ Tryd.prog list_List_string_Front_kp Tryd.f75 [.pointer l0] Q
theorem list_List_string_Front_raw (jn : Jn) (l0 : Option Addr) (Q : Value → WP) : funJ jn Tryd.prog list_List_string_Front_kp Tryd.f75 [.pointer l0] Q = (
  ite2 (Option.isNone l0) (
  Q (.int .i64 (0 : Int))) (
  nilck l0 fun b_1 o_2 =>
  ld .slc b_1 o_2 fun (x_3 : Sl) =>
  idx x_3.a x_3.n (0 : Int) fun b_4 o_5 =>
  ld (.int .i64) b_4 ((o_5 + ((0 : Int)).toNat * 4) + 2) fun (x_6 : Int) =>
  Q (.int .i64 x_6))) := by kernel_rfl
theorem list_List_string_Front_def (l0 : Option Addr) (Q : Value → WP) : list_List_string_Front l0 Q = funJ idJ Tryd.prog list_List_string_Front_kp Tryd.f75 [.pointer l0] Q := rfl
theorem list_List_string_Front_calls {l0 : Option Addr} {Q : Value → WP} {w : World} (h : list_List_string_Front l0 Q w) : Calls Tryd.prog id_list_List_string_Front #[.pointer l0] w fun e w' => ∃ v, e = .returned v ∧ Q v w' :=
  funJ_calls mixed Tryd.func75 rfl h

-- (*strings.Builder).WriteString
def strings_Builder_WriteString_kp : KP := ⟨[], []⟩
def strings_Builder_WriteString (b0 : Option Addr) (s1 : ByteArray) (Q : Value → WP) : WP := funJ idJ Tryd.prog strings_Builder_WriteString_kp Tryd.f77 [.pointer b0, .string s1] Q
theorem strings_Builder_WriteString_raw (jn : Jn) (b0 : Option Addr) (s1 : ByteArray) (Q : Value → WP) : funJ jn Tryd.prog strings_Builder_WriteString_kp Tryd.f77 [.pointer b0, .string s1] Q = (
  call0 Tryd.prog id_strings_Builder_copyCheck [.pointer b0] <|
  nilck b0 fun b_1 o_2 =>
  ld .slc b_1 (o_2 + 1) fun (x_3 : Sl) =>
  appendC ty_uint8 1 1 [.int .u8 (0 : Int)] ⟨x_3.a, x_3.n, x_3.c⟩ s1.size (fun _ => some (bytesL s1)) fun s_4 =>
  nilck b0 fun b_5 o_6 =>
  st b_5 (o_6 + 1) (.slice s_4.a s_4.n s_4.c) <|
  Q (.tuple #[.int .i64 (s1.size : Int), .nilIface])) := by kernel_rfl
theorem strings_Builder_WriteString_def (b0 : Option Addr) (s1 : ByteArray) (Q : Value → WP) : strings_Builder_WriteString b0 s1 Q = funJ idJ Tryd.prog strings_Builder_WriteString_kp Tryd.f77 [.pointer b0, .string s1] Q := rfl
theorem strings_Builder_WriteString_calls {b0 : Option Addr} {s1 : ByteArray} {Q : Value → WP} {w : World} (h : strings_Builder_WriteString b0 s1 Q w) : Calls Tryd.prog id_strings_Builder_WriteString #[.pointer b0, .string s1] w fun e w' => ∃ v, e = .returned v ∧ Q v w' :=
  funJ_calls mixed Tryd.func77 rfl h

-- internal/strconv.Itoa
def internal_strconv_Itoa_kp : KP := ⟨[], []⟩
def internal_strconv_Itoa (i0 : Int) (Q : Value → WP) : WP := funJ idJ Tryd.prog internal_strconv_Itoa_kp Tryd.f79 [.int .i64 i0] Q
theorem internal_strconv_Itoa_raw (jn : Jn) (i0 : Int) (Q : Value → WP) : funJ jn Tryd.prog internal_strconv_Itoa_kp Tryd.f79 [.int .i64 i0] Q = (
  call1 .str Tryd.prog id_internal_strconv_FormatInt [.int .i64 i0, .int .i64 (10 : Int)] fun (x_1 : ByteArray) =>
  Q (.string x_1)) := by kernel_rfl
theorem internal_strconv_Itoa_def (i0 : Int) (Q : Value → WP) : internal_strconv_Itoa i0 Q = funJ idJ Tryd.prog internal_strconv_Itoa_kp Tryd.f79 [.int .i64 i0] Q := rfl
theorem internal_strconv_Itoa_calls {i0 : Int} {Q : Value → WP} {w : World} (h : internal_strconv_Itoa i0 Q w) : Calls Tryd.prog id_internal_strconv_Itoa #[.int .i64 i0] w fun e w' => ∃ v, e = .returned v ∧ Q v w' :=
  funJ_calls mixed Tryd.func79 rfl h

-- (*hoard/index.Index[hoard/arc.place]).find
def index_Index_arc_place_find_kp : KP := ⟨[(8, [0, 1, 6, 7]), (11, [0, 1, 6, 7]), (14, [0, 1, 6, 7, 8, 35]), (18, [0, 1, 6, 7, 8, 50]), (22, [0, 1, 6, 7, 8, 61])], [(2, [0, 1, 2, 3, 4, 6, 7, 8, 9, 10, 12])]⟩
def index_Index_arc_place_find_j4 (jn : Jn) (Q : Value → WP) (m1 : Nat) (x0 : Option Addr) (key1 : ByteArray) (free6 : Int) (i7 : Int) : WP := jn 8 (fun ρ => codeI Tryd.prog index_Index_arc_place_find_kp jn (cAt [true, true, true, false, false, true] (bodyOf Tryd.f80)) (lopK Tryd.prog index_Index_arc_place_find_kp jn (cAt [true, true, true, false, false] (bodyOf Tryd.f80)) (blkX 0 (retK Tryd.prog Tryd.f80 Q) noX) (retK Tryd.prog Tryd.f80 Q) m1) (blkX 0 (retK Tryd.prog Tryd.f80 Q) noX) (retK Tryd.prog Tryd.f80 Q) ρ) ((.pointer x0) :: (.string key1) :: us 4 ((.int .i64 free6) :: (.int .i64 i7) :: us 71 []))
def index_Index_arc_place_find_j5 (jn : Jn) (Q : Value → WP) (m1 : Nat) (x0 : Option Addr) (key1 : ByteArray) (free6 : Int) (i7 : Int) (p8_b : Nat) (p8_o : Nat) (t61 : Bool) : WP := jn 22 (fun ρ => codeI Tryd.prog index_Index_arc_place_find_kp jn (cAt [true, true, true, false, false, false, false, true, false, true, true, true, true, true] (bodyOf Tryd.f80)) (seqK Tryd.prog index_Index_arc_place_find_kp jn (cAt [true, true, true, false, false, true] (bodyOf Tryd.f80)) (lopK Tryd.prog index_Index_arc_place_find_kp jn (cAt [true, true, true, false, false] (bodyOf Tryd.f80)) (blkX 0 (retK Tryd.prog Tryd.f80 Q) noX) (retK Tryd.prog Tryd.f80 Q) m1) (blkX 0 (retK Tryd.prog Tryd.f80 Q) noX) (retK Tryd.prog Tryd.f80 Q)) (blkX 2 (seqK Tryd.prog index_Index_arc_place_find_kp jn (cAt [true, true, true, false, false, true] (bodyOf Tryd.f80)) (lopK Tryd.prog index_Index_arc_place_find_kp jn (cAt [true, true, true, false, false] (bodyOf Tryd.f80)) (blkX 0 (retK Tryd.prog Tryd.f80 Q) noX) (retK Tryd.prog Tryd.f80 Q) m1) (blkX 0 (retK Tryd.prog Tryd.f80 Q) noX) (retK Tryd.prog Tryd.f80 Q)) (blkX 1 (seqK Tryd.prog index_Index_arc_place_find_kp jn (cAt [true, true, true, false, false, true] (bodyOf Tryd.f80)) (lopK Tryd.prog index_Index_arc_place_find_kp jn (cAt [true, true, true, false, false] (bodyOf Tryd.f80)) (blkX 0 (retK Tryd.prog Tryd.f80 Q) noX) (retK Tryd.prog Tryd.f80 Q) m1) (blkX 0 (retK Tryd.prog Tryd.f80 Q) noX) (retK Tryd.prog Tryd.f80 Q)) (blkX 0 (retK Tryd.prog Tryd.f80 Q) noX))) (retK Tryd.prog Tryd.f80 Q) ρ) ((.pointer x0) :: (.string key1) :: us 4 ((.int .i64 free6) :: (.int .i64 i7) :: (.pointer (some ⟨p8_b, p8_o, none⟩)) :: us 52 ((.bool t61) :: us 17 [])))
def index_Index_arc_place_find_j3 (jn : Jn) (Q : Value → WP) (m1 : Nat) (x0 : Option Addr) (key1 : ByteArray) (free6 : Int) (i7 : Int) (p8_b : Nat) (p8_o : Nat) (t50 : Bool) : WP := jn 18 (fun ρ => codeI Tryd.prog index_Index_arc_place_find_kp jn (cAt [true, true, true, false, false, false, false, true, false, true, true, true] (bodyOf Tryd.f80)) (seqK Tryd.prog index_Index_arc_place_find_kp jn (cAt [true, true, true, false, false, true] (bodyOf Tryd.f80)) (lopK Tryd.prog index_Index_arc_place_find_kp jn (cAt [true, true, true, false, false] (bodyOf Tryd.f80)) (blkX 0 (retK Tryd.prog Tryd.f80 Q) noX) (retK Tryd.prog Tryd.f80 Q) m1) (blkX 0 (retK Tryd.prog Tryd.f80 Q) noX) (retK Tryd.prog Tryd.f80 Q)) (blkX 2 (seqK Tryd.prog index_Index_arc_place_find_kp jn (cAt [true, true, true, false, false, true] (bodyOf Tryd.f80)) (lopK Tryd.prog index_Index_arc_place_find_kp jn (cAt [true, true, true, false, false] (bodyOf Tryd.f80)) (blkX 0 (retK Tryd.prog Tryd.f80 Q) noX) (retK Tryd.prog Tryd.f80 Q) m1) (blkX 0 (retK Tryd.prog Tryd.f80 Q) noX) (retK Tryd.prog Tryd.f80 Q)) (blkX 1 (seqK Tryd.prog index_Index_arc_place_find_kp jn (cAt [true, true, true, false, false, true] (bodyOf Tryd.f80)) (lopK Tryd.prog index_Index_arc_place_find_kp jn (cAt [true, true, true, false, false] (bodyOf Tryd.f80)) (blkX 0 (retK Tryd.prog Tryd.f80 Q) noX) (retK Tryd.prog Tryd.f80 Q) m1) (blkX 0 (retK Tryd.prog Tryd.f80 Q) noX) (retK Tryd.prog Tryd.f80 Q)) (blkX 0 (retK Tryd.prog Tryd.f80 Q) noX))) (retK Tryd.prog Tryd.f80 Q) ρ) ((.pointer x0) :: (.string key1) :: us 4 ((.int .i64 free6) :: (.int .i64 i7) :: (.pointer (some ⟨p8_b, p8_o, none⟩)) :: us 41 ((.bool t50) :: us 28 [])))
def index_Index_arc_place_find_j2 (jn : Jn) (Q : Value → WP) (m1 : Nat) (x0 : Option Addr) (key1 : ByteArray) (free6 : Int) (i7 : Int) (p8_b : Nat) (p8_o : Nat) (t35 : Bool) : WP := jn 14 (fun ρ => codeI Tryd.prog index_Index_arc_place_find_kp jn (cAt [true, true, true, false, false, false, false, true, false, true] (bodyOf Tryd.f80)) (seqK Tryd.prog index_Index_arc_place_find_kp jn (cAt [true, true, true, false, false, true] (bodyOf Tryd.f80)) (lopK Tryd.prog index_Index_arc_place_find_kp jn (cAt [true, true, true, false, false] (bodyOf Tryd.f80)) (blkX 0 (retK Tryd.prog Tryd.f80 Q) noX) (retK Tryd.prog Tryd.f80 Q) m1) (blkX 0 (retK Tryd.prog Tryd.f80 Q) noX) (retK Tryd.prog Tryd.f80 Q)) (blkX 2 (seqK Tryd.prog index_Index_arc_place_find_kp jn (cAt [true, true, true, false, false, true] (bodyOf Tryd.f80)) (lopK Tryd.prog index_Index_arc_place_find_kp jn (cAt [true, true, true, false, false] (bodyOf Tryd.f80)) (blkX 0 (retK Tryd.prog Tryd.f80 Q) noX) (retK Tryd.prog Tryd.f80 Q) m1) (blkX 0 (retK Tryd.prog Tryd.f80 Q) noX) (retK Tryd.prog Tryd.f80 Q)) (blkX 1 (seqK Tryd.prog index_Index_arc_place_find_kp jn (cAt [true, true, true, false, false, true] (bodyOf Tryd.f80)) (lopK Tryd.prog index_Index_arc_place_find_kp jn (cAt [true, true, true, false, false] (bodyOf Tryd.f80)) (blkX 0 (retK Tryd.prog Tryd.f80 Q) noX) (retK Tryd.prog Tryd.f80 Q) m1) (blkX 0 (retK Tryd.prog Tryd.f80 Q) noX) (retK Tryd.prog Tryd.f80 Q)) (blkX 0 (retK Tryd.prog Tryd.f80 Q) noX))) (retK Tryd.prog Tryd.f80 Q) ρ) ((.pointer x0) :: (.string key1) :: us 4 ((.int .i64 free6) :: (.int .i64 i7) :: (.pointer (some ⟨p8_b, p8_o, none⟩)) :: us 26 ((.bool t35) :: us 43 [])))
def index_Index_arc_place_find_l1 (jn : Jn) (Q : Value → WP)  (m1 : Nat) (x0 : Option Addr) (key1 : ByteArray) (free6 : Int) (i7 : Int) : WP := lop Tryd.prog index_Index_arc_place_find_kp jn (cAt [true, true, true, false, false] (bodyOf Tryd.f80)) (blkX 0 (retK Tryd.prog Tryd.f80 Q) noX) (retK Tryd.prog Tryd.f80 Q) m1 ((.pointer x0) :: (.string key1) :: us 4 ((.int .i64 free6) :: (.int .i64 i7) :: us 71 []))
def index_Index_arc_place_find (x0 : Option Addr) (key1 : ByteArray) (Q : Value → WP) : WP := funJ idJ Tryd.prog index_Index_arc_place_find_kp Tryd.f80 [.pointer x0, .string key1] Q
theorem index_Index_arc_place_find_j4_raw (jn : Jn) (Q : Value → WP) (m1 : Nat) (x0 : Option Addr) (key1 : ByteArray) (free6 : Int) (i7 : Int) : codeI Tryd.prog index_Index_arc_place_find_kp jn (cAt [true, true, true, false, false, true] (bodyOf Tryd.f80)) (lopK Tryd.prog index_Index_arc_place_find_kp jn (cAt [true, true, true, false, false] (bodyOf Tryd.f80)) (blkX 0 (retK Tryd.prog Tryd.f80 Q) noX) (retK Tryd.prog Tryd.f80 Q) m1) (blkX 0 (retK Tryd.prog Tryd.f80 Q) noX) (retK Tryd.prog Tryd.f80 Q) ((.pointer x0) :: (.string key1) :: us 4 ((.int .i64 free6) :: (.int .i64 i7) :: us 71 [])) = (
  nilck x0 fun b_23 o_24 =>
  ld .slc b_23 (o_24 + 1) fun (x_25 : Sl) =>
  when ((x_25.n : Int) ≠ 0) <|
  index_Index_arc_place_find_l1 jn Q  m1 x0 key1 free6 (Int.tmod (IntKind.wrap .i64 (i7 + (1 : Int))) (x_25.n : Int))) := by kernel_rfl
theorem index_Index_arc_place_find_j4_def (Q : Value → WP) (m1 : Nat) (x0 : Option Addr) (key1 : ByteArray) (free6 : Int) (i7 : Int) : index_Index_arc_place_find_j4 idJ Q m1 x0 key1 free6 i7 = codeI Tryd.prog index_Index_arc_place_find_kp idJ (cAt [true, true, true, false, false, true] (bodyOf Tryd.f80)) (lopK Tryd.prog index_Index_arc_place_find_kp idJ (cAt [true, true, true, false, false] (bodyOf Tryd.f80)) (blkX 0 (retK Tryd.prog Tryd.f80 Q) noX) (retK Tryd.prog Tryd.f80 Q) m1) (blkX 0 (retK Tryd.prog Tryd.f80 Q) noX) (retK Tryd.prog Tryd.f80 Q) ((.pointer x0) :: (.string key1) :: us 4 ((.int .i64 free6) :: (.int .i64 i7) :: us 71 [])) := by kernel_rfl
theorem index_Index_arc_place_find_j5_raw (jn : Jn) (Q : Value → WP) (m1 : Nat) (x0 : Option Addr) (key1 : ByteArray) (free6 : Int) (i7 : Int) (p8_b : Nat) (p8_o : Nat) (t61 : Bool) : codeI Tryd.prog index_Index_arc_place_find_kp jn (cAt [true, true, true, false, false, false, false, true, false, true, true, true, true, true] (bodyOf Tryd.f80)) (seqK Tryd.prog index_Index_arc_place_find_kp jn (cAt [true, true, true, false, false, true] (bodyOf Tryd.f80)) (lopK Tryd.prog index_Index_arc_place_find_kp jn (cAt [true, true, true, false, false] (bodyOf Tryd.f80)) (blkX 0 (retK Tryd.prog Tryd.f80 Q) noX) (retK Tryd.prog Tryd.f80 Q) m1) (blkX 0 (retK Tryd.prog Tryd.f80 Q) noX) (retK Tryd.prog Tryd.f80 Q)) (blkX 2 (seqK Tryd.prog index_Index_arc_place_find_kp jn (cAt [true, true, true, false, false, true] (bodyOf Tryd.f80)) (lopK Tryd.prog index_Index_arc_place_find_kp jn (cAt [true, true, true, false, false] (bodyOf Tryd.f80)) (blkX 0 (retK Tryd.prog Tryd.f80 Q) noX) (retK Tryd.prog Tryd.f80 Q) m1) (blkX 0 (retK Tryd.prog Tryd.f80 Q) noX) (retK Tryd.prog Tryd.f80 Q)) (blkX 1 (seqK Tryd.prog index_Index_arc_place_find_kp jn (cAt [true, true, true, false, false, true] (bodyOf Tryd.f80)) (lopK Tryd.prog index_Index_arc_place_find_kp jn (cAt [true, true, true, false, false] (bodyOf Tryd.f80)) (blkX 0 (retK Tryd.prog Tryd.f80 Q) noX) (retK Tryd.prog Tryd.f80 Q) m1) (blkX 0 (retK Tryd.prog Tryd.f80 Q) noX) (retK Tryd.prog Tryd.f80 Q)) (blkX 0 (retK Tryd.prog Tryd.f80 Q) noX))) (retK Tryd.prog Tryd.f80 Q) ((.pointer x0) :: (.string key1) :: us 4 ((.int .i64 free6) :: (.int .i64 i7) :: (.pointer (some ⟨p8_b, p8_o, none⟩)) :: us 52 ((.bool t61) :: us 17 []))) = (
  ite2 t61 (
  Q (.tuple #[.int .i64 i7, .bool false])) (
  nilck (some ⟨p8_b, p8_o, none⟩) fun b_29 o_30 =>
  ld (.int .i64) b_29 o_30 fun (x_31 : Int) =>
  ite2 (x_31 == (0 : Int)) (
  Q (.tuple #[.int .i64 free6, .bool false])) (
  index_Index_arc_place_find_j4 jn Q m1 x0 key1 free6 i7))) := by kernel_rfl
theorem index_Index_arc_place_find_j5_def (Q : Value → WP) (m1 : Nat) (x0 : Option Addr) (key1 : ByteArray) (free6 : Int) (i7 : Int) (p8_b : Nat) (p8_o : Nat) (t61 : Bool) : index_Index_arc_place_find_j5 idJ Q m1 x0 key1 free6 i7 p8_b p8_o t61 = codeI Tryd.prog index_Index_arc_place_find_kp idJ (cAt [true, true, true, false, false, false, false, true, false, true, true, true, true, true] (bodyOf Tryd.f80)) (seqK Tryd.prog index_Index_arc_place_find_kp idJ (cAt [true, true, true, false, false, true] (bodyOf Tryd.f80)) (lopK Tryd.prog index_Index_arc_place_find_kp idJ (cAt [true, true, true, false, false] (bodyOf Tryd.f80)) (blkX 0 (retK Tryd.prog Tryd.f80 Q) noX) (retK Tryd.prog Tryd.f80 Q) m1) (blkX 0 (retK Tryd.prog Tryd.f80 Q) noX) (retK Tryd.prog Tryd.f80 Q)) (blkX 2 (seqK Tryd.prog index_Index_arc_place_find_kp idJ (cAt [true, true, true, false, false, true] (bodyOf Tryd.f80)) (lopK Tryd.prog index_Index_arc_place_find_kp idJ (cAt [true, true, true, false, false] (bodyOf Tryd.f80)) (blkX 0 (retK Tryd.prog Tryd.f80 Q) noX) (retK Tryd.prog Tryd.f80 Q) m1) (blkX 0 (retK Tryd.prog Tryd.f80 Q) noX) (retK Tryd.prog Tryd.f80 Q)) (blkX 1 (seqK Tryd.prog index_Index_arc_place_find_kp idJ (cAt [true, true, true, false, false, true] (bodyOf Tryd.f80)) (lopK Tryd.prog index_Index_arc_place_find_kp idJ (cAt [true, true, true, false, false] (bodyOf Tryd.f80)) (blkX 0 (retK Tryd.prog Tryd.f80 Q) noX) (retK Tryd.prog Tryd.f80 Q) m1) (blkX 0 (retK Tryd.prog Tryd.f80 Q) noX) (retK Tryd.prog Tryd.f80 Q)) (blkX 0 (retK Tryd.prog Tryd.f80 Q) noX))) (retK Tryd.prog Tryd.f80 Q) ((.pointer x0) :: (.string key1) :: us 4 ((.int .i64 free6) :: (.int .i64 i7) :: (.pointer (some ⟨p8_b, p8_o, none⟩)) :: us 52 ((.bool t61) :: us 17 []))) := by kernel_rfl
theorem index_Index_arc_place_find_j3_raw (jn : Jn) (Q : Value → WP) (m1 : Nat) (x0 : Option Addr) (key1 : ByteArray) (free6 : Int) (i7 : Int) (p8_b : Nat) (p8_o : Nat) (t50 : Bool) : codeI Tryd.prog index_Index_arc_place_find_kp jn (cAt [true, true, true, false, false, false, false, true, false, true, true, true] (bodyOf Tryd.f80)) (seqK Tryd.prog index_Index_arc_place_find_kp jn (cAt [true, true, true, false, false, true] (bodyOf Tryd.f80)) (lopK Tryd.prog index_Index_arc_place_find_kp jn (cAt [true, true, true, false, false] (bodyOf Tryd.f80)) (blkX 0 (retK Tryd.prog Tryd.f80 Q) noX) (retK Tryd.prog Tryd.f80 Q) m1) (blkX 0 (retK Tryd.prog Tryd.f80 Q) noX) (retK Tryd.prog Tryd.f80 Q)) (blkX 2 (seqK Tryd.prog index_Index_arc_place_find_kp jn (cAt [true, true, true, false, false, true] (bodyOf Tryd.f80)) (lopK Tryd.prog index_Index_arc_place_find_kp jn (cAt [true, true, true, false, false] (bodyOf Tryd.f80)) (blkX 0 (retK Tryd.prog Tryd.f80 Q) noX) (retK Tryd.prog Tryd.f80 Q) m1) (blkX 0 (retK Tryd.prog Tryd.f80 Q) noX) (retK Tryd.prog Tryd.f80 Q)) (blkX 1 (seqK Tryd.prog index_Index_arc_place_find_kp jn (cAt [true, true, true, false, false, true] (bodyOf Tryd.f80)) (lopK Tryd.prog index_Index_arc_place_find_kp jn (cAt [true, true, true, false, false] (bodyOf Tryd.f80)) (blkX 0 (retK Tryd.prog Tryd.f80 Q) noX) (retK Tryd.prog Tryd.f80 Q) m1) (blkX 0 (retK Tryd.prog Tryd.f80 Q) noX) (retK Tryd.prog Tryd.f80 Q)) (blkX 0 (retK Tryd.prog Tryd.f80 Q) noX))) (retK Tryd.prog Tryd.f80 Q) ((.pointer x0) :: (.string key1) :: us 4 ((.int .i64 free6) :: (.int .i64 i7) :: (.pointer (some ⟨p8_b, p8_o, none⟩)) :: us 41 ((.bool t50) :: us 28 []))) = (
  ite2 t50 (
  index_Index_arc_place_find_j4 jn Q m1 x0 key1 i7 i7) (
  nilck (some ⟨p8_b, p8_o, none⟩) fun b_26 o_27 =>
  ld (.int .i64) b_26 o_27 fun (x_28 : Int) =>
  ite2 (x_28 == (0 : Int)) (
  index_Index_arc_place_find_j5 jn Q m1 x0 key1 free6 i7 p8_b p8_o (decide (free6 < (0 : Int)))) (
  index_Index_arc_place_find_j5 jn Q m1 x0 key1 free6 i7 p8_b p8_o false))) := by kernel_rfl
theorem index_Index_arc_place_find_j3_def (Q : Value → WP) (m1 : Nat) (x0 : Option Addr) (key1 : ByteArray) (free6 : Int) (i7 : Int) (p8_b : Nat) (p8_o : Nat) (t50 : Bool) : index_Index_arc_place_find_j3 idJ Q m1 x0 key1 free6 i7 p8_b p8_o t50 = codeI Tryd.prog index_Index_arc_place_find_kp idJ (cAt [true, true, true, false, false, false, false, true, false, true, true, true] (bodyOf Tryd.f80)) (seqK Tryd.prog index_Index_arc_place_find_kp idJ (cAt [true, true, true, false, false, true] (bodyOf Tryd.f80)) (lopK Tryd.prog index_Index_arc_place_find_kp idJ (cAt [true, true, true, false, false] (bodyOf Tryd.f80)) (blkX 0 (retK Tryd.prog Tryd.f80 Q) noX) (retK Tryd.prog Tryd.f80 Q) m1) (blkX 0 (retK Tryd.prog Tryd.f80 Q) noX) (retK Tryd.prog Tryd.f80 Q)) (blkX 2 (seqK Tryd.prog index_Index_arc_place_find_kp idJ (cAt [true, true, true, false, false, true] (bodyOf Tryd.f80)) (lopK Tryd.prog index_Index_arc_place_find_kp idJ (cAt [true, true, true, false, false] (bodyOf Tryd.f80)) (blkX 0 (retK Tryd.prog Tryd.f80 Q) noX) (retK Tryd.prog Tryd.f80 Q) m1) (blkX 0 (retK Tryd.prog Tryd.f80 Q) noX) (retK Tryd.prog Tryd.f80 Q)) (blkX 1 (seqK Tryd.prog index_Index_arc_place_find_kp idJ (cAt [true, true, true, false, false, true] (bodyOf Tryd.f80)) (lopK Tryd.prog index_Index_arc_place_find_kp idJ (cAt [true, true, true, false, false] (bodyOf Tryd.f80)) (blkX 0 (retK Tryd.prog Tryd.f80 Q) noX) (retK Tryd.prog Tryd.f80 Q) m1) (blkX 0 (retK Tryd.prog Tryd.f80 Q) noX) (retK Tryd.prog Tryd.f80 Q)) (blkX 0 (retK Tryd.prog Tryd.f80 Q) noX))) (retK Tryd.prog Tryd.f80 Q) ((.pointer x0) :: (.string key1) :: us 4 ((.int .i64 free6) :: (.int .i64 i7) :: (.pointer (some ⟨p8_b, p8_o, none⟩)) :: us 41 ((.bool t50) :: us 28 []))) := by kernel_rfl
theorem index_Index_arc_place_find_j2_raw (jn : Jn) (Q : Value → WP) (m1 : Nat) (x0 : Option Addr) (key1 : ByteArray) (free6 : Int) (i7 : Int) (p8_b : Nat) (p8_o : Nat) (t35 : Bool) : codeI Tryd.prog index_Index_arc_place_find_kp jn (cAt [true, true, true, false, false, false, false, true, false, true] (bodyOf Tryd.f80)) (seqK Tryd.prog index_Index_arc_place_find_kp jn (cAt [true, true, true, false, false, true] (bodyOf Tryd.f80)) (lopK Tryd.prog index_Index_arc_place_find_kp jn (cAt [true, true, true, false, false] (bodyOf Tryd.f80)) (blkX 0 (retK Tryd.prog Tryd.f80 Q) noX) (retK Tryd.prog Tryd.f80 Q) m1) (blkX 0 (retK Tryd.prog Tryd.f80 Q) noX) (retK Tryd.prog Tryd.f80 Q)) (blkX 2 (seqK Tryd.prog index_Index_arc_place_find_kp jn (cAt [true, true, true, false, false, true] (bodyOf Tryd.f80)) (lopK Tryd.prog index_Index_arc_place_find_kp jn (cAt [true, true, true, false, false] (bodyOf Tryd.f80)) (blkX 0 (retK Tryd.prog Tryd.f80 Q) noX) (retK Tryd.prog Tryd.f80 Q) m1) (blkX 0 (retK Tryd.prog Tryd.f80 Q) noX) (retK Tryd.prog Tryd.f80 Q)) (blkX 1 (seqK Tryd.prog index_Index_arc_place_find_kp jn (cAt [true, true, true, false, false, true] (bodyOf Tryd.f80)) (lopK Tryd.prog index_Index_arc_place_find_kp jn (cAt [true, true, true, false, false] (bodyOf Tryd.f80)) (blkX 0 (retK Tryd.prog Tryd.f80 Q) noX) (retK Tryd.prog Tryd.f80 Q) m1) (blkX 0 (retK Tryd.prog Tryd.f80 Q) noX) (retK Tryd.prog Tryd.f80 Q)) (blkX 0 (retK Tryd.prog Tryd.f80 Q) noX))) (retK Tryd.prog Tryd.f80 Q) ((.pointer x0) :: (.string key1) :: us 4 ((.int .i64 free6) :: (.int .i64 i7) :: (.pointer (some ⟨p8_b, p8_o, none⟩)) :: us 26 ((.bool t35) :: us 43 []))) = (
  ite2 t35 (
  Q (.tuple #[.int .i64 i7, .bool true])) (
  nilck (some ⟨p8_b, p8_o, none⟩) fun b_20 o_21 =>
  ld (.int .i64) b_20 o_21 fun (x_22 : Int) =>
  ite2 (x_22 == (1 : Int)) (
  index_Index_arc_place_find_j3 jn Q m1 x0 key1 free6 i7 p8_b p8_o (decide (free6 < (0 : Int)))) (
  index_Index_arc_place_find_j3 jn Q m1 x0 key1 free6 i7 p8_b p8_o false))) := by kernel_rfl
theorem index_Index_arc_place_find_j2_def (Q : Value → WP) (m1 : Nat) (x0 : Option Addr) (key1 : ByteArray) (free6 : Int) (i7 : Int) (p8_b : Nat) (p8_o : Nat) (t35 : Bool) : index_Index_arc_place_find_j2 idJ Q m1 x0 key1 free6 i7 p8_b p8_o t35 = codeI Tryd.prog index_Index_arc_place_find_kp idJ (cAt [true, true, true, false, false, false, false, true, false, true] (bodyOf Tryd.f80)) (seqK Tryd.prog index_Index_arc_place_find_kp idJ (cAt [true, true, true, false, false, true] (bodyOf Tryd.f80)) (lopK Tryd.prog index_Index_arc_place_find_kp idJ (cAt [true, true, true, false, false] (bodyOf Tryd.f80)) (blkX 0 (retK Tryd.prog Tryd.f80 Q) noX) (retK Tryd.prog Tryd.f80 Q) m1) (blkX 0 (retK Tryd.prog Tryd.f80 Q) noX) (retK Tryd.prog Tryd.f80 Q)) (blkX 2 (seqK Tryd.prog index_Index_arc_place_find_kp idJ (cAt [true, true, true, false, false, true] (bodyOf Tryd.f80)) (lopK Tryd.prog index_Index_arc_place_find_kp idJ (cAt [true, true, true, false, false] (bodyOf Tryd.f80)) (blkX 0 (retK Tryd.prog Tryd.f80 Q) noX) (retK Tryd.prog Tryd.f80 Q) m1) (blkX 0 (retK Tryd.prog Tryd.f80 Q) noX) (retK Tryd.prog Tryd.f80 Q)) (blkX 1 (seqK Tryd.prog index_Index_arc_place_find_kp idJ (cAt [true, true, true, false, false, true] (bodyOf Tryd.f80)) (lopK Tryd.prog index_Index_arc_place_find_kp idJ (cAt [true, true, true, false, false] (bodyOf Tryd.f80)) (blkX 0 (retK Tryd.prog Tryd.f80 Q) noX) (retK Tryd.prog Tryd.f80 Q) m1) (blkX 0 (retK Tryd.prog Tryd.f80 Q) noX) (retK Tryd.prog Tryd.f80 Q)) (blkX 0 (retK Tryd.prog Tryd.f80 Q) noX))) (retK Tryd.prog Tryd.f80 Q) ((.pointer x0) :: (.string key1) :: us 4 ((.int .i64 free6) :: (.int .i64 i7) :: (.pointer (some ⟨p8_b, p8_o, none⟩)) :: us 26 ((.bool t35) :: us 43 []))) := by kernel_rfl
theorem index_Index_arc_place_find_l1_raw (jn : Jn) (Q : Value → WP)  (m1 : Nat) (x0 : Option Addr) (key1 : ByteArray) (free6 : Int) (i7 : Int) : index_Index_arc_place_find_l1 jn Q  (m1 + 1) x0 key1 free6 i7 = (
  nilck x0 fun b_9 o_10 =>
  ld .slc b_9 (o_10 + 1) fun (x_11 : Sl) =>
  idx x_11.a x_11.n i7 fun b_12 o_13 =>
  nilck (some ⟨b_12, (o_13 + (i7).toNat * 4), none⟩) fun b_14 o_15 =>
  ld (.int .i64) b_14 o_15 fun (x_16 : Int) =>
  ite2 (x_16 == (2 : Int)) (
  nilck (some ⟨b_12, (o_13 + (i7).toNat * 4), none⟩) fun b_17 o_18 =>
  ld .str b_17 (o_18 + 1) fun (x_19 : ByteArray) =>
  index_Index_arc_place_find_j2 jn Q m1 x0 key1 free6 i7 b_12 (o_13 + (i7).toNat * 4) (sEq x_19 key1)) (
  index_Index_arc_place_find_j2 jn Q m1 x0 key1 free6 i7 b_12 (o_13 + (i7).toNat * 4) false)) := by kernel_rfl
theorem index_Index_arc_place_find_l1_zero (jn : Jn) (Q : Value → WP)  (x0 : Option Addr) (key1 : ByteArray) (free6 : Int) (i7 : Int) : index_Index_arc_place_find_l1 jn Q  0 x0 key1 free6 i7 = bot := by kernel_rfl
theorem index_Index_arc_place_find_raw (jn : Jn) (x0 : Option Addr) (key1 : ByteArray) (Q : Value → WP) : funJ jn Tryd.prog index_Index_arc_place_find_kp Tryd.f80 [.pointer x0, .string key1] Q = (
  drawW fun S =>
  nilck x0 fun b_1 o_2 =>
  ldS S (.int .u64) b_1 o_2 fun (x_3 : Int) =>
  nilck x0 fun b_4 o_5 =>
  ldS S .slc b_4 (o_5 + 1) fun (x_6 : Sl) =>
  call1 (.int .u64) Tryd.prog id_mix_Hash [.int .u64 x_3, .string key1] fun (x_7 : Int) =>
  keepS true S <|
  call1 (.int .i64) Tryd.prog id_mix_Place [.int .u64 x_7, .int .i64 (x_6.n : Int)] fun (x_8 : Int) =>
  exM fun m => index_Index_arc_place_find_l1 jn Q  m x0 key1 (-1 : Int) x_8) := by kernel_rfl
theorem index_Index_arc_place_find_def (x0 : Option Addr) (key1 : ByteArray) (Q : Value → WP) : index_Index_arc_place_find x0 key1 Q = funJ idJ Tryd.prog index_Index_arc_place_find_kp Tryd.f80 [.pointer x0, .string key1] Q := rfl
theorem index_Index_arc_place_find_calls {x0 : Option Addr} {key1 : ByteArray} {Q : Value → WP} {w : World} (h : index_Index_arc_place_find x0 key1 Q w) : Calls Tryd.prog id_index_Index_arc_place_find #[.pointer x0, .string key1] w fun e w' => ∃ v, e = .returned v ∧ Q v w' :=
  funJ_calls mixed Tryd.func80 rfl h

-- (*hoard/index.Index[hoard/arc.place]).lays
def index_Index_arc_place_lays_kp : KP := ⟨[(8, [0, 1, 2, 7])], [(3, [0, 1, 2, 3, 4, 5, 7, 8])]⟩
def index_Index_arc_place_lays_j1 (jn : Jn) (Q : Value → WP)  (x0 : Option Addr) (i1 : Int) (key2 : ByteArray) (v7_b : Nat) (v7_o : Nat) : WP := jn 8 (fun ρ => codeI Tryd.prog index_Index_arc_place_lays_kp jn (cAt [true, true] (bodyOf Tryd.f81)) (retK Tryd.prog Tryd.f81 Q) noX (retK Tryd.prog Tryd.f81 Q) ρ) ((.pointer x0) :: (.int .i64 i1) :: (.string key2) :: us 4 ((.pointer (some ⟨v7_b, v7_o, none⟩)) :: us 32 []))
def index_Index_arc_place_lays (x0 : Option Addr) (i1 : Int) (key2 : ByteArray) (v3_0 : Int) (v3_1 : Int) (Q : Value → WP) : WP := funJ idJ Tryd.prog index_Index_arc_place_lays_kp Tryd.f81 [.pointer x0, .int .i64 i1, .string key2, .agg #[.int .i64 v3_0, .int .i64 v3_1]] Q
theorem index_Index_arc_place_lays_j1_raw (jn : Jn) (Q : Value → WP)  (x0 : Option Addr) (i1 : Int) (key2 : ByteArray) (v7_b : Nat) (v7_o : Nat) : codeI Tryd.prog index_Index_arc_place_lays_kp jn (cAt [true, true] (bodyOf Tryd.f81)) (retK Tryd.prog Tryd.f81 Q) noX (retK Tryd.prog Tryd.f81 Q) ((.pointer x0) :: (.int .i64 i1) :: (.string key2) :: us 4 ((.pointer (some ⟨v7_b, v7_o, none⟩)) :: us 32 [])) = (
  drawW fun S =>
  nilck x0 fun b_13 o_14 =>
  ldS S .slc b_13 (o_14 + 1) fun (x_15 : Sl) =>
  ld (.int .i64) v7_b v7_o fun (x_16 : Int) =>
  ld (.int .i64) v7_b (v7_o + 1) fun (x_17 : Int) =>
  keepS true S <|
  idx x_15.a x_15.n i1 fun b_18 o_19 =>
  st b_18 (o_19 + (i1).toNat * 4) (.int .i64 (2 : Int)) <|
  st b_18 ((o_19 + (i1).toNat * 4) + 1) (.string key2) <|
  st b_18 (((o_19 + (i1).toNat * 4) + 1) + 1) (.int .i64 x_16) <|
  st b_18 ((((o_19 + (i1).toNat * 4) + 1) + 1) + 1) (.int .i64 x_17) <|
  nilck x0 fun b_20 o_21 =>
  ld (.int .i64) b_20 (o_21 + 2) fun (x_22 : Int) =>
  nilck x0 fun b_23 o_24 =>
  st b_23 (o_24 + 2) (.int .i64 (IntKind.wrap .i64 (x_22 + (1 : Int)))) <|
  Q (.tuple #[])) := by kernel_rfl
theorem index_Index_arc_place_lays_j1_def (Q : Value → WP)  (x0 : Option Addr) (i1 : Int) (key2 : ByteArray) (v7_b : Nat) (v7_o : Nat) : index_Index_arc_place_lays_j1 idJ Q  x0 i1 key2 v7_b v7_o = codeI Tryd.prog index_Index_arc_place_lays_kp idJ (cAt [true, true] (bodyOf Tryd.f81)) (retK Tryd.prog Tryd.f81 Q) noX (retK Tryd.prog Tryd.f81 Q) ((.pointer x0) :: (.int .i64 i1) :: (.string key2) :: us 4 ((.pointer (some ⟨v7_b, v7_o, none⟩)) :: us 32 [])) := by kernel_rfl
theorem index_Index_arc_place_lays_raw (jn : Jn) (x0 : Option Addr) (i1 : Int) (key2 : ByteArray) (v3_0 : Int) (v3_1 : Int) (Q : Value → WP) : funJ jn Tryd.prog index_Index_arc_place_lays_kp Tryd.f81 [.pointer x0, .int .i64 i1, .string key2, .agg #[.int .i64 v3_0, .int .i64 v3_1]] Q = (
  newB [.int .i64 v3_0, .int .i64 v3_1] ty_arc_place fun b_1 =>
  nilck x0 fun b_2 o_3 =>
  ld .slc b_2 (o_3 + 1) fun (x_4 : Sl) =>
  idx x_4.a x_4.n i1 fun b_5 o_6 =>
  ld (.int .i64) b_5 (o_6 + (i1).toNat * 4) fun (x_7 : Int) =>
  ite2 (x_7 == (0 : Int)) (
  nilck x0 fun b_8 o_9 =>
  ld (.int .i64) b_8 (o_9 + 3) fun (x_10 : Int) =>
  nilck x0 fun b_11 o_12 =>
  st b_11 (o_12 + 3) (.int .i64 (IntKind.wrap .i64 (x_10 + (1 : Int)))) <|
  index_Index_arc_place_lays_j1 jn Q  x0 i1 key2 b_1 0) (
  index_Index_arc_place_lays_j1 jn Q  x0 i1 key2 b_1 0)) := by kernel_rfl
theorem index_Index_arc_place_lays_def (x0 : Option Addr) (i1 : Int) (key2 : ByteArray) (v3_0 : Int) (v3_1 : Int) (Q : Value → WP) : index_Index_arc_place_lays x0 i1 key2 v3_0 v3_1 Q = funJ idJ Tryd.prog index_Index_arc_place_lays_kp Tryd.f81 [.pointer x0, .int .i64 i1, .string key2, .agg #[.int .i64 v3_0, .int .i64 v3_1]] Q := rfl
theorem index_Index_arc_place_lays_calls {x0 : Option Addr} {i1 : Int} {key2 : ByteArray} {v3_0 : Int} {v3_1 : Int} {Q : Value → WP} {w : World} (h : index_Index_arc_place_lays x0 i1 key2 v3_0 v3_1 Q w) : Calls Tryd.prog id_index_Index_arc_place_lays #[.pointer x0, .int .i64 i1, .string key2, .agg #[.int .i64 v3_0, .int .i64 v3_1]] w fun e w' => ∃ v, e = .returned v ∧ Q v w' :=
  funJ_calls mixed Tryd.func81 rfl h

-- (*hoard/index.Index[hoard/arc.place]).grows
def index_Index_arc_place_grows_kp : KP := ⟨[(9, [0, 28, 29, 30])], []⟩
def index_Index_arc_place_grows_l1 (jn : Jn) (Q : Value → WP)  (m1 : Nat) (x0 : Option Addr) (t28 : Sl) (t29 : Int) (t30 : Int) : WP := lop Tryd.prog index_Index_arc_place_grows_kp jn (cAt [true, true, true, false, false] (bodyOf Tryd.f82)) (blkX 0 (retK Tryd.prog Tryd.f82 Q) noX) (retK Tryd.prog Tryd.f82 Q) m1 ((.pointer x0) :: us 27 ((.slice t28.a t28.n t28.c) :: (.int .i64 t29) :: (.int .i64 t30) :: us 21 []))
def index_Index_arc_place_grows (x0 : Option Addr) (Q : Value → WP) : WP := funJ idJ Tryd.prog index_Index_arc_place_grows_kp Tryd.f82 [.pointer x0] Q
theorem index_Index_arc_place_grows_l1_raw (jn : Jn) (Q : Value → WP)  (m1 : Nat) (x0 : Option Addr) (t28 : Sl) (t29 : Int) (t30 : Int) : index_Index_arc_place_grows_l1 jn Q  (m1 + 1) x0 t28 t29 t30 = (
  ite2 (decide (t30 < t29)) (
  idx t28.a t28.n t30 fun b_14 o_15 =>
  ld (.int .i64) b_14 (o_15 + (t30).toNat * 4) fun (x_16 : Int) =>
  ld .str b_14 ((o_15 + (t30).toNat * 4) + 1) fun (x_17 : ByteArray) =>
  ld (.int .i64) b_14 (((o_15 + (t30).toNat * 4) + 1) + 1) fun (x_18 : Int) =>
  ld (.int .i64) b_14 ((((o_15 + (t30).toNat * 4) + 1) + 1) + 1) fun (x_19 : Int) =>
  newB [.int .i64 (0 : Int), .string str_empty, .int .i64 (0 : Int), .int .i64 (0 : Int)] ty_index_place_arc_place fun b_20 =>
  st b_20 0 (.int .i64 x_16) <|
  st b_20 1 (.string x_17) <|
  st b_20 2 (.int .i64 x_18) <|
  st b_20 3 (.int .i64 x_19) <|
  ld (.int .i64) b_20 0 fun (x_21 : Int) =>
  ite2 (x_21 == (2 : Int)) (
  ld .str b_20 1 fun (x_22 : ByteArray) =>
  call2 (.int .i64) .bool Tryd.prog id_index_Index_arc_place_find [.pointer x0, .string x_22] fun (x_23 : Int) (x_24 : Bool) =>
  ld .str b_20 1 fun (x_25 : ByteArray) =>
  ld (.int .i64) b_20 2 fun (x_26 : Int) =>
  ld (.int .i64) b_20 3 fun (x_27 : Int) =>
  call0 Tryd.prog id_index_Index_arc_place_lays [.pointer x0, .int .i64 x_23, .string x_25, .agg #[.int .i64 x_26, .int .i64 x_27]] <|
  index_Index_arc_place_grows_l1 jn Q  m1 x0 t28 t29 (IntKind.wrap .i64 (t30 + (1 : Int)))) (
  index_Index_arc_place_grows_l1 jn Q  m1 x0 t28 t29 (IntKind.wrap .i64 (t30 + (1 : Int))))) (
  Q (.tuple #[]))) := by kernel_rfl
theorem index_Index_arc_place_grows_l1_zero (jn : Jn) (Q : Value → WP)  (x0 : Option Addr) (t28 : Sl) (t29 : Int) (t30 : Int) : index_Index_arc_place_grows_l1 jn Q  0 x0 t28 t29 t30 = bot := by kernel_rfl
theorem index_Index_arc_place_grows_raw (jn : Jn) (x0 : Option Addr) (Q : Value → WP) : funJ jn Tryd.prog index_Index_arc_place_grows_kp Tryd.f82 [.pointer x0] Q = (
  nilck x0 fun b_1 o_2 =>
  ld .slc b_1 (o_2 + 1) fun (x_3 : Sl) =>
  nilck x0 fun b_4 o_5 =>
  ld (.int .i64) b_4 (o_5 + 2) fun (x_6 : Int) =>
  makeC ty_index_place_arc_place 40 [.int .i64 (0 : Int), .string str_empty, .int .i64 (0 : Int), .int .i64 (0 : Int)] (if (IntKind.wrap .i64 ((4 : Int) * (IntKind.wrap .i64 (x_6 + (1 : Int))))) > (8 : Int) then (IntKind.wrap .i64 ((4 : Int) * (IntKind.wrap .i64 (x_6 + (1 : Int))))) else (8 : Int)) (if (IntKind.wrap .i64 ((4 : Int) * (IntKind.wrap .i64 (x_6 + (1 : Int))))) > (8 : Int) then (IntKind.wrap .i64 ((4 : Int) * (IntKind.wrap .i64 (x_6 + (1 : Int))))) else (8 : Int)) fun s_7 =>
  nilck x0 fun b_8 o_9 =>
  st b_8 (o_9 + 1) (.slice s_7.a s_7.n s_7.c) <|
  nilck x0 fun b_10 o_11 =>
  st b_10 (o_11 + 2) (.int .i64 (0 : Int)) <|
  nilck x0 fun b_12 o_13 =>
  st b_12 (o_13 + 3) (.int .i64 (0 : Int)) <|
  exM fun m => index_Index_arc_place_grows_l1 jn Q  m x0 x_3 (x_3.n : Int) (0 : Int)) := by kernel_rfl
theorem index_Index_arc_place_grows_def (x0 : Option Addr) (Q : Value → WP) : index_Index_arc_place_grows x0 Q = funJ idJ Tryd.prog index_Index_arc_place_grows_kp Tryd.f82 [.pointer x0] Q := rfl
theorem index_Index_arc_place_grows_calls {x0 : Option Addr} {Q : Value → WP} {w : World} (h : index_Index_arc_place_grows x0 Q w) : Calls Tryd.prog id_index_Index_arc_place_grows #[.pointer x0] w fun e w' => ∃ v, e = .returned v ∧ Q v w' :=
  funJ_calls mixed Tryd.func82 rfl h

-- (*hoard/list.List[string]).take
def list_List_string_take_kp : KP := ⟨[(16, [0, 1, 5])], []⟩
def list_List_string_take_j1 (jn : Jn) (Q : Value → WP)  (l0 : Option Addr) (v1 : ByteArray) (h5 : Int) : WP := jn 16 (fun ρ => codeI Tryd.prog list_List_string_take_kp jn (cAt [true, true, true] (bodyOf Tryd.f83)) (retK Tryd.prog Tryd.f83 Q) noX (retK Tryd.prog Tryd.f83 Q) ρ) ((.pointer l0) :: (.string v1) :: us 3 ((.int .i64 h5) :: us 57 []))
def list_List_string_take (l0 : Option Addr) (v1 : ByteArray) (Q : Value → WP) : WP := funJ idJ Tryd.prog list_List_string_take_kp Tryd.f83 [.pointer l0, .string v1] Q
theorem list_List_string_take_j1_raw (jn : Jn) (Q : Value → WP)  (l0 : Option Addr) (v1 : ByteArray) (h5 : Int) : codeI Tryd.prog list_List_string_take_kp jn (cAt [true, true, true] (bodyOf Tryd.f83)) (retK Tryd.prog Tryd.f83 Q) noX (retK Tryd.prog Tryd.f83 Q) ((.pointer l0) :: (.string v1) :: us 3 ((.int .i64 h5) :: us 57 [])) = (
  nilck l0 fun b_18 o_19 =>
  ld .slc b_18 o_19 fun (x_20 : Sl) =>
  idx x_20.a x_20.n h5 fun b_21 o_22 =>
  st b_21 (o_22 + (h5).toNat * 4) (.string v1) <|
  st b_21 ((o_22 + (h5).toNat * 4) + 1) (.int .i64 (0 : Int)) <|
  st b_21 (((o_22 + (h5).toNat * 4) + 1) + 1) (.int .i64 (0 : Int)) <|
  st b_21 ((((o_22 + (h5).toNat * 4) + 1) + 1) + 1) (.bool true) <|
  nilck l0 fun b_23 o_24 =>
  ld (.int .i64) b_23 (o_24 + 2) fun (x_25 : Int) =>
  nilck l0 fun b_26 o_27 =>
  st b_26 (o_27 + 2) (.int .i64 (IntKind.wrap .i64 (x_25 + (1 : Int)))) <|
  Q (.int .i64 h5)) := by kernel_rfl
theorem list_List_string_take_j1_def (Q : Value → WP)  (l0 : Option Addr) (v1 : ByteArray) (h5 : Int) : list_List_string_take_j1 idJ Q  l0 v1 h5 = codeI Tryd.prog list_List_string_take_kp idJ (cAt [true, true, true] (bodyOf Tryd.f83)) (retK Tryd.prog Tryd.f83 Q) noX (retK Tryd.prog Tryd.f83 Q) ((.pointer l0) :: (.string v1) :: us 3 ((.int .i64 h5) :: us 57 [])) := by kernel_rfl
theorem list_List_string_take_raw (jn : Jn) (l0 : Option Addr) (v1 : ByteArray) (Q : Value → WP) : funJ jn Tryd.prog list_List_string_take_kp Tryd.f83 [.pointer l0, .string v1] Q = (
  nilck l0 fun b_1 o_2 =>
  ld .slc b_1 o_2 fun (x_3 : Sl) =>
  nilck l0 fun b_4 o_5 =>
  ld .slc b_4 (o_5 + 1) fun (x_6 : Sl) =>
  ite2 (decide ((x_6.n : Int) > (0 : Int))) (
  nilck l0 fun b_7 o_8 =>
  ld .slc b_7 (o_8 + 1) fun (x_9 : Sl) =>
  idx x_9.a x_9.n (IntKind.wrap .i64 ((x_6.n : Int) - (1 : Int))) fun b_10 o_11 =>
  ld (.int .i64) b_10 (o_11 + ((IntKind.wrap .i64 ((x_6.n : Int) - (1 : Int)))).toNat * 1) fun (x_12 : Int) =>
  nilck l0 fun b_13 o_14 =>
  ld .slc b_13 (o_14 + 1) fun (x_15 : Sl) =>
  when ((0 : Int) ≤ (IntKind.wrap .i64 ((x_6.n : Int) - (1 : Int))) ∧ (IntKind.wrap .i64 ((x_6.n : Int) - (1 : Int))) ≤ (x_15.c : Int)) <|
  nilck l0 fun b_16 o_17 =>
  st b_16 (o_17 + 1) (.slice (subA x_15.a 0 x_15.c 1) (((IntKind.wrap .i64 ((x_6.n : Int) - (1 : Int)))).toNat - 0) (x_15.c - 0)) <|
  list_List_string_take_j1 jn Q  l0 v1 x_12) (
  nilck l0 fun b_28 o_29 =>
  ld .slc b_28 o_29 fun (x_30 : Sl) =>
  newB [.string str_empty, .int .i64 (0 : Int), .int .i64 (0 : Int), .bool false] ty_list_link_string fun b_31 =>
  appendC ty_list_link_string 4 40 [.string str_empty, .int .i64 (0 : Int), .int .i64 (0 : Int), .bool false] ⟨x_30.a, x_30.n, x_30.c⟩ 1 (fun w => rdA w (some ⟨b_31, 0, none⟩) (1 * 4)) fun s_32 =>
  nilck l0 fun b_33 o_34 =>
  st b_33 o_34 (.slice s_32.a s_32.n s_32.c) <|
  list_List_string_take_j1 jn Q  l0 v1 (x_3.n : Int))) := by kernel_rfl
theorem list_List_string_take_def (l0 : Option Addr) (v1 : ByteArray) (Q : Value → WP) : list_List_string_take l0 v1 Q = funJ idJ Tryd.prog list_List_string_take_kp Tryd.f83 [.pointer l0, .string v1] Q := rfl
theorem list_List_string_take_calls {l0 : Option Addr} {v1 : ByteArray} {Q : Value → WP} {w : World} (h : list_List_string_take l0 v1 Q w) : Calls Tryd.prog id_list_List_string_take #[.pointer l0, .string v1] w fun e w' => ∃ v, e = .returned v ∧ Q v w' :=
  funJ_calls mixed Tryd.func83 rfl h

-- (*hoard/list.List[string]).lays
def list_List_string_lays_kp : KP := ⟨[], [(0, [0, 1, 2, 3, 4, 5, 6, 7, 9, 10, 11, 12, 13, 15, 16]), (1, [0, 1, 2, 3, 4, 5, 6, 7, 9, 10, 11, 12, 13, 15, 16])]⟩
def list_List_string_lays (l0 : Option Addr) (h1 : Int) (prev2 : Int) (next3 : Int) (Q : Value → WP) : WP := funJ idJ Tryd.prog list_List_string_lays_kp Tryd.f84 [.pointer l0, .int .i64 h1, .int .i64 prev2, .int .i64 next3] Q
theorem list_List_string_lays_raw (jn : Jn) (l0 : Option Addr) (h1 : Int) (prev2 : Int) (next3 : Int) (Q : Value → WP) : funJ jn Tryd.prog list_List_string_lays_kp Tryd.f84 [.pointer l0, .int .i64 h1, .int .i64 prev2, .int .i64 next3] Q = (
  drawW fun S =>
  nilck l0 fun b_1 o_2 =>
  ldS S .slc b_1 o_2 fun (x_3 : Sl) =>
  nilck l0 fun b_4 o_5 =>
  ld .slc b_4 o_5 fun (x_6 : Sl) =>
  keepS true S <|
  idx x_3.a x_3.n h1 fun b_7 o_8 =>
  st b_7 ((o_8 + (h1).toNat * 4) + 1) (.int .i64 prev2) <|
  idx x_6.a x_6.n h1 fun b_9 o_10 =>
  st b_9 ((o_10 + (h1).toNat * 4) + 2) (.int .i64 next3) <|
  drawW fun S =>
  nilck l0 fun b_11 o_12 =>
  ldS S .slc b_11 o_12 fun (x_13 : Sl) =>
  nilck l0 fun b_14 o_15 =>
  ld .slc b_14 o_15 fun (x_16 : Sl) =>
  keepS true S <|
  idx x_13.a x_13.n prev2 fun b_17 o_18 =>
  st b_17 ((o_18 + (prev2).toNat * 4) + 2) (.int .i64 h1) <|
  idx x_16.a x_16.n next3 fun b_19 o_20 =>
  st b_19 ((o_20 + (next3).toNat * 4) + 1) (.int .i64 h1) <|
  Q (.tuple #[])) := by kernel_rfl
theorem list_List_string_lays_def (l0 : Option Addr) (h1 : Int) (prev2 : Int) (next3 : Int) (Q : Value → WP) : list_List_string_lays l0 h1 prev2 next3 Q = funJ idJ Tryd.prog list_List_string_lays_kp Tryd.f84 [.pointer l0, .int .i64 h1, .int .i64 prev2, .int .i64 next3] Q := rfl
theorem list_List_string_lays_calls {l0 : Option Addr} {h1 : Int} {prev2 : Int} {next3 : Int} {Q : Value → WP} {w : World} (h : list_List_string_lays l0 h1 prev2 next3 Q w) : Calls Tryd.prog id_list_List_string_lays #[.pointer l0, .int .i64 h1, .int .i64 prev2, .int .i64 next3] w fun e w' => ∃ v, e = .returned v ∧ Q v w' :=
  funJ_calls mixed Tryd.func84 rfl h

-- (*hoard/list.List[string]).Next
def list_List_string_Next_kp : KP := ⟨[], []⟩
def list_List_string_Next (l0 : Option Addr) (h1 : Int) (Q : Value → WP) : WP := funJ idJ Tryd.prog list_List_string_Next_kp Tryd.f85 [.pointer l0, .int .i64 h1] Q
theorem list_List_string_Next_raw (jn : Jn) (l0 : Option Addr) (h1 : Int) (Q : Value → WP) : funJ jn Tryd.prog list_List_string_Next_kp Tryd.f85 [.pointer l0, .int .i64 h1] Q = (
  call1 .bool Tryd.prog id_list_List_string_has [.pointer l0, .int .i64 h1] fun (x_1 : Bool) =>
  ite2 (!x_1) (
  Q (.int .i64 (0 : Int))) (
  nilck l0 fun b_2 o_3 =>
  ld .slc b_2 o_3 fun (x_4 : Sl) =>
  idx x_4.a x_4.n h1 fun b_5 o_6 =>
  ld (.int .i64) b_5 ((o_6 + (h1).toNat * 4) + 2) fun (x_7 : Int) =>
  Q (.int .i64 x_7))) := by kernel_rfl
theorem list_List_string_Next_def (l0 : Option Addr) (h1 : Int) (Q : Value → WP) : list_List_string_Next l0 h1 Q = funJ idJ Tryd.prog list_List_string_Next_kp Tryd.f85 [.pointer l0, .int .i64 h1] Q := rfl
theorem list_List_string_Next_calls {l0 : Option Addr} {h1 : Int} {Q : Value → WP} {w : World} (h : list_List_string_Next l0 h1 Q w) : Calls Tryd.prog id_list_List_string_Next #[.pointer l0, .int .i64 h1] w fun e w' => ∃ v, e = .returned v ∧ Q v w' :=
  funJ_calls mixed Tryd.func85 rfl h

-- (*hoard/hoardref10.Engine).replace
def hoardref10_Engine_replace_kp : KP := ⟨[], [(1, [0, 2, 3, 4, 5, 6])]⟩
def hoardref10_Engine_replace (e0 : Option Addr) (key1 : ByteArray) (Q : Value → WP) : WP := funJ idJ Tryd.prog hoardref10_Engine_replace_kp Tryd.f86 [.pointer e0, .string key1] Q
theorem hoardref10_Engine_replace_raw (jn : Jn) (e0 : Option Addr) (key1 : ByteArray) (Q : Value → WP) : funJ jn Tryd.prog hoardref10_Engine_replace_kp Tryd.f86 [.pointer e0, .string key1] Q = (
  drawW fun S =>
  nilck e0 fun b_1 o_2 =>
  ldS S (.int .i64) b_1 (o_2 + 5) fun (x_3 : Int) =>
  call1 (.int .i64) Tryd.prog id_hoardref10_Engine_Len [.pointer e0] fun (x_4 : Int) =>
  keepS true S <|
  ite2 (decide (x_4 < x_3)) (
  Q (.slice (none : Option Addr) 0 0)) (
  nilck e0 fun b_5 o_6 =>
  ld .slc b_5 o_6 fun (x_7 : Sl) =>
  ite2 (decide ((x_7.n : Int) > (0 : Int))) (
  nilck e0 fun b_8 o_9 =>
  ld (.int .i64) b_8 (o_9 + 4) fun (x_10 : Int) =>
  ite2 (decide ((x_7.n : Int) > x_10)) (
  call1 .str Tryd.prog id_hoardref10_Engine_goes [.pointer e0, .bool true] fun (x_11 : ByteArray) =>
  newB [.string x_11] ty_string fun b_12 =>
  Q (.slice (some ⟨b_12, 0, none⟩) 1 1)) (
  nilck e0 fun b_13 o_14 =>
  ld (.int .i64) b_13 (o_14 + 4) fun (x_15 : Int) =>
  ite2 ((x_7.n : Int) == x_15) (
  nilck e0 fun b_16 o_17 =>
  ld .slc b_16 (o_17 + 3) fun (x_18 : Sl) =>
  call1 (.int .i64) Tryd.prog id_hoardref10_has [.slice x_18.a x_18.n x_18.c, .string key1] fun (x_19 : Int) =>
  ite2 (decide (x_19 ≥ (0 : Int))) (
  call1 .str Tryd.prog id_hoardref10_Engine_goes [.pointer e0, .bool true] fun (x_20 : ByteArray) =>
  newB [.string x_20] ty_string fun b_21 =>
  Q (.slice (some ⟨b_21, 0, none⟩) 1 1)) (
  nilck e0 fun b_22 o_23 =>
  ld .slc b_22 (o_23 + 1) fun (x_24 : Sl) =>
  call1 .str Tryd.prog id_hoardref10_Engine_goes [.pointer e0, .bool ((x_24.n : Int) == (0 : Int))] fun (x_25 : ByteArray) =>
  newB [.string x_25] ty_string fun b_26 =>
  Q (.slice (some ⟨b_26, 0, none⟩) 1 1))) (
  nilck e0 fun b_27 o_28 =>
  ld .slc b_27 (o_28 + 1) fun (x_29 : Sl) =>
  call1 .str Tryd.prog id_hoardref10_Engine_goes [.pointer e0, .bool ((x_29.n : Int) == (0 : Int))] fun (x_30 : ByteArray) =>
  newB [.string x_30] ty_string fun b_31 =>
  Q (.slice (some ⟨b_31, 0, none⟩) 1 1)))) (
  call1 .str Tryd.prog id_hoardref10_Engine_goes [.pointer e0, .bool false] fun (x_32 : ByteArray) =>
  newB [.string x_32] ty_string fun b_33 =>
  Q (.slice (some ⟨b_33, 0, none⟩) 1 1)))) := by kernel_rfl
theorem hoardref10_Engine_replace_def (e0 : Option Addr) (key1 : ByteArray) (Q : Value → WP) : hoardref10_Engine_replace e0 key1 Q = funJ idJ Tryd.prog hoardref10_Engine_replace_kp Tryd.f86 [.pointer e0, .string key1] Q := rfl
theorem hoardref10_Engine_replace_calls {e0 : Option Addr} {key1 : ByteArray} {Q : Value → WP} {w : World} (h : hoardref10_Engine_replace e0 key1 Q w) : Calls Tryd.prog id_hoardref10_Engine_replace #[.pointer e0, .string key1] w fun e w' => ∃ v, e = .returned v ∧ Q v w' :=
  funJ_calls mixed Tryd.func86 rfl h

-- (*hoard/list.List[string]).lifts
def list_List_string_lifts_kp : KP := ⟨[], [(0, [0, 1, 2, 3, 4, 5, 6, 7, 8, 9, 10, 12, 13, 14, 16, 17]), (1, [0, 1, 2, 3, 4, 5, 6, 7, 9, 10, 11, 12, 13, 15, 16])]⟩
def list_List_string_lifts (l0 : Option Addr) (h1 : Int) (Q : Value → WP) : WP := funJ idJ Tryd.prog list_List_string_lifts_kp Tryd.f87 [.pointer l0, .int .i64 h1] Q
theorem list_List_string_lifts_raw (jn : Jn) (l0 : Option Addr) (h1 : Int) (Q : Value → WP) : funJ jn Tryd.prog list_List_string_lifts_kp Tryd.f87 [.pointer l0, .int .i64 h1] Q = (
  drawW fun S =>
  nilck l0 fun b_1 o_2 =>
  ldS S .slc b_1 o_2 fun (x_3 : Sl) =>
  idx x_3.a x_3.n h1 fun b_4 o_5 =>
  ldS S (.int .i64) b_4 ((o_5 + (h1).toNat * 4) + 1) fun (x_6 : Int) =>
  nilck l0 fun b_7 o_8 =>
  ld .slc b_7 o_8 fun (x_9 : Sl) =>
  keepS true S <|
  idx x_9.a x_9.n h1 fun b_10 o_11 =>
  ld (.int .i64) b_10 ((o_11 + (h1).toNat * 4) + 2) fun (x_12 : Int) =>
  keepS true S <|
  drawW fun S =>
  nilck l0 fun b_13 o_14 =>
  ldS S .slc b_13 o_14 fun (x_15 : Sl) =>
  nilck l0 fun b_16 o_17 =>
  ld .slc b_16 o_17 fun (x_18 : Sl) =>
  keepS true S <|
  idx x_15.a x_15.n x_6 fun b_19 o_20 =>
  st b_19 ((o_20 + (x_6).toNat * 4) + 2) (.int .i64 x_12) <|
  idx x_18.a x_18.n x_12 fun b_21 o_22 =>
  st b_21 ((o_22 + (x_12).toNat * 4) + 1) (.int .i64 x_6) <|
  Q (.tuple #[])) := by kernel_rfl
theorem list_List_string_lifts_def (l0 : Option Addr) (h1 : Int) (Q : Value → WP) : list_List_string_lifts l0 h1 Q = funJ idJ Tryd.prog list_List_string_lifts_kp Tryd.f87 [.pointer l0, .int .i64 h1] Q := rfl
theorem list_List_string_lifts_calls {l0 : Option Addr} {h1 : Int} {Q : Value → WP} {w : World} (h : list_List_string_lifts l0 h1 Q w) : Calls Tryd.prog id_list_List_string_lifts #[.pointer l0, .int .i64 h1] w fun e w' => ∃ v, e = .returned v ∧ Q v w' :=
  funJ_calls mixed Tryd.func87 rfl h

-- (*hoard/list.List[string]).has
def list_List_string_has_kp : KP := ⟨[], []⟩
def list_List_string_has (l0 : Option Addr) (h1 : Int) (Q : Value → WP) : WP := funJ idJ Tryd.prog list_List_string_has_kp Tryd.f88 [.pointer l0, .int .i64 h1] Q
theorem list_List_string_has_raw (jn : Jn) (l0 : Option Addr) (h1 : Int) (Q : Value → WP) : funJ jn Tryd.prog list_List_string_has_kp Tryd.f88 [.pointer l0, .int .i64 h1] Q = (
  ite2 (!Option.isNone l0) (
  ite2 (decide (h1 > (0 : Int))) (
  nilck l0 fun b_1 o_2 =>
  ld .slc b_1 o_2 fun (x_3 : Sl) =>
  ite2 (decide (h1 < (x_3.n : Int))) (
  nilck l0 fun b_4 o_5 =>
  ld .slc b_4 o_5 fun (x_6 : Sl) =>
  idx x_6.a x_6.n h1 fun b_7 o_8 =>
  ld .bool b_7 ((o_8 + (h1).toNat * 4) + 3) fun (x_9 : Bool) =>
  Q (.bool x_9)) (
  Q (.bool false))) (
  Q (.bool false))) (
  Q (.bool false))) := by kernel_rfl
theorem list_List_string_has_def (l0 : Option Addr) (h1 : Int) (Q : Value → WP) : list_List_string_has l0 h1 Q = funJ idJ Tryd.prog list_List_string_has_kp Tryd.f88 [.pointer l0, .int .i64 h1] Q := rfl
theorem list_List_string_has_calls {l0 : Option Addr} {h1 : Int} {Q : Value → WP} {w : World} (h : list_List_string_has l0 h1 Q w) : Calls Tryd.prog id_list_List_string_has #[.pointer l0, .int .i64 h1] w fun e w' => ∃ v, e = .returned v ∧ Q v w' :=
  funJ_calls mixed Tryd.func88 rfl h

-- hoard/mix.Place
def mix_Place_kp : KP := ⟨[], []⟩
def mix_Place (h0 : Int) (n1 : Int) (Q : Value → WP) : WP := funJ idJ Tryd.prog mix_Place_kp Tryd.f92 [.int .u64 h0, .int .i64 n1] Q
theorem mix_Place_raw (jn : Jn) (h0 : Int) (n1 : Int) (Q : Value → WP) : funJ jn Tryd.prog mix_Place_kp Tryd.f92 [.int .u64 h0, .int .i64 n1] Q = (
  ite2 (decide (n1 < (1 : Int))) (
  Q (.int .i64 (0 : Int))) (
  when ((IntKind.wrap .u64 n1) ≠ 0) <|
  Q (.int .i64 (IntKind.wrap .i64 (Int.tmod h0 (IntKind.wrap .u64 n1)))))) := by kernel_rfl
theorem mix_Place_def (h0 : Int) (n1 : Int) (Q : Value → WP) : mix_Place h0 n1 Q = funJ idJ Tryd.prog mix_Place_kp Tryd.f92 [.int .u64 h0, .int .i64 n1] Q := rfl
theorem mix_Place_calls {h0 : Int} {n1 : Int} {Q : Value → WP} {w : World} (h : mix_Place h0 n1 Q w) : Calls Tryd.prog id_mix_Place #[.int .u64 h0, .int .i64 n1] w fun e w' => ∃ v, e = .returned v ∧ Q v w' :=
  funJ_calls mixed Tryd.func92 rfl h

-- hoard/mix.Hash
def mix_Hash_kp : KP := ⟨[(9, [1, 5, 14, 15]), (16, [5])], []⟩
def mix_Hash_j2 (jn : Jn) (Q : Value → WP)  (h5 : Int) : WP := jn 16 (fun ρ => codeI Tryd.prog mix_Hash_kp jn (cAt [true, true, true] (bodyOf Tryd.f93)) (retK Tryd.prog Tryd.f93 Q) noX (retK Tryd.prog Tryd.f93 Q) ρ) (us 5 ((.int .u64 h5) :: us 22 []))
def mix_Hash_l1 (jn : Jn) (Q : Value → WP)  (m1 : Nat) (s1 : ByteArray) (h5 : Int) (t14 : Int) (t15 : Int) : WP := lop Tryd.prog mix_Hash_kp jn (cAt [true, true, false, true, false, false] (bodyOf Tryd.f93)) (blkX 0 (seqK Tryd.prog mix_Hash_kp jn (cAt [true, true, true] (bodyOf Tryd.f93)) (retK Tryd.prog Tryd.f93 Q) noX (retK Tryd.prog Tryd.f93 Q)) noX) (retK Tryd.prog Tryd.f93 Q) m1 (us 1 ((.string s1) :: us 3 ((.int .u64 h5) :: us 8 ((.int .i64 t14) :: (.int .i64 t15) :: us 12 []))))
def mix_Hash (seed0 : Int) (s1 : ByteArray) (Q : Value → WP) : WP := funJ idJ Tryd.prog mix_Hash_kp Tryd.f93 [.int .u64 seed0, .string s1] Q
theorem mix_Hash_j2_raw (jn : Jn) (Q : Value → WP)  (h5 : Int) : codeI Tryd.prog mix_Hash_kp jn (cAt [true, true, true] (bodyOf Tryd.f93)) (retK Tryd.prog Tryd.f93 Q) noX (retK Tryd.prog Tryd.f93 Q) (us 5 ((.int .u64 h5) :: us 22 [])) = (
  Q (.int .u64 h5)) := by kernel_rfl
theorem mix_Hash_j2_def (Q : Value → WP)  (h5 : Int) : mix_Hash_j2 idJ Q  h5 = codeI Tryd.prog mix_Hash_kp idJ (cAt [true, true, true] (bodyOf Tryd.f93)) (retK Tryd.prog Tryd.f93 Q) noX (retK Tryd.prog Tryd.f93 Q) (us 5 ((.int .u64 h5) :: us 22 [])) := by kernel_rfl
theorem mix_Hash_l1_raw (jn : Jn) (Q : Value → WP)  (m1 : Nat) (s1 : ByteArray) (h5 : Int) (t14 : Int) (t15 : Int) : mix_Hash_l1 jn Q  (m1 + 1) s1 h5 t14 t15 = (
  ite2 (decide (t15 < t14)) (
  when ((0 : Int) ≤ t15 ∧ t15 < (s1.size : Int)) <|
  call1 (.int .u64) Tryd.prog id_mix_Mix [.int .u64 (IntKind.wrap .u64 ((bits .xor .u64 h5 (IntKind.wrap .u64 (byteAt s1 (t15).toNat))) + (11400714819323198485 : Int)))] fun (x_2 : Int) =>
  mix_Hash_l1 jn Q  m1 s1 x_2 t14 (IntKind.wrap .i64 (t15 + (1 : Int)))) (
  mix_Hash_j2 jn Q  h5)) := by kernel_rfl
theorem mix_Hash_l1_zero (jn : Jn) (Q : Value → WP)  (s1 : ByteArray) (h5 : Int) (t14 : Int) (t15 : Int) : mix_Hash_l1 jn Q  0 s1 h5 t14 t15 = bot := by kernel_rfl
theorem mix_Hash_raw (jn : Jn) (seed0 : Int) (s1 : ByteArray) (Q : Value → WP) : funJ jn Tryd.prog mix_Hash_kp Tryd.f93 [.int .u64 seed0, .string s1] Q = (
  call1 (.int .u64) Tryd.prog id_mix_Mix [.int .u64 (bits .xor .u64 seed0 (IntKind.wrap .u64 (s1.size : Int)))] fun (x_1 : Int) =>
  exM fun m => mix_Hash_l1 jn Q  m s1 x_1 (s1.size : Int) (0 : Int)) := by kernel_rfl
theorem mix_Hash_def (seed0 : Int) (s1 : ByteArray) (Q : Value → WP) : mix_Hash seed0 s1 Q = funJ idJ Tryd.prog mix_Hash_kp Tryd.f93 [.int .u64 seed0, .string s1] Q := rfl
theorem mix_Hash_calls {seed0 : Int} {s1 : ByteArray} {Q : Value → WP} {w : World} (h : mix_Hash seed0 s1 Q w) : Calls Tryd.prog id_mix_Hash #[.int .u64 seed0, .string s1] w fun e w' => ∃ v, e = .returned v ∧ Q v w' :=
  funJ_calls mixed Tryd.func93 rfl h

-- internal/strconv.small
def internal_strconv_small_kp : KP := ⟨[], []⟩
def internal_strconv_small (i0 : Int) (Q : Value → WP) : WP := funJ idJ Tryd.prog internal_strconv_small_kp Tryd.f96 [.int .i64 i0] Q
theorem internal_strconv_small_raw (jn : Jn) (i0 : Int) (Q : Value → WP) : funJ jn Tryd.prog internal_strconv_small_kp Tryd.f96 [.int .i64 i0] Q = (
  ite2 (decide (i0 < (10 : Int))) (
  when ((0 : Int) ≤ (IntKind.wrap .i64 (i0 + (1 : Int))) ∧ (IntKind.wrap .i64 (i0 + (1 : Int))) ≤ (str_0123456789abcdefghij.size : Int)) <|
  when ((0 : Int) ≤ i0 ∧ i0 ≤ (((IntKind.wrap .i64 (i0 + (1 : Int)))).toNat : Int)) <|
  Q (.string (ByteArray.extract str_0123456789abcdefghij ((i0).toNat) (((IntKind.wrap .i64 (i0 + (1 : Int)))).toNat)))) (
  when ((0 : Int) ≤ (IntKind.wrap .i64 ((IntKind.wrap .i64 (i0 * (2 : Int))) + (2 : Int))) ∧ (IntKind.wrap .i64 ((IntKind.wrap .i64 (i0 * (2 : Int))) + (2 : Int))) ≤ (str_00010203040506070809.size : Int)) <|
  when ((0 : Int) ≤ (IntKind.wrap .i64 (i0 * (2 : Int))) ∧ (IntKind.wrap .i64 (i0 * (2 : Int))) ≤ (((IntKind.wrap .i64 ((IntKind.wrap .i64 (i0 * (2 : Int))) + (2 : Int)))).toNat : Int)) <|
  Q (.string (ByteArray.extract str_00010203040506070809 (((IntKind.wrap .i64 (i0 * (2 : Int)))).toNat) (((IntKind.wrap .i64 ((IntKind.wrap .i64 (i0 * (2 : Int))) + (2 : Int)))).toNat))))) := by kernel_rfl
theorem internal_strconv_small_def (i0 : Int) (Q : Value → WP) : internal_strconv_small i0 Q = funJ idJ Tryd.prog internal_strconv_small_kp Tryd.f96 [.int .i64 i0] Q := rfl
theorem internal_strconv_small_calls {i0 : Int} {Q : Value → WP} {w : World} (h : internal_strconv_small i0 Q w) : Calls Tryd.prog id_internal_strconv_small #[.int .i64 i0] w fun e w' => ∃ v, e = .returned v ∧ Q v w' :=
  funJ_calls mixed Tryd.func96 rfl h

-- internal/strconv.numDigits
def internal_strconv_numDigits_kp : KP := ⟨[], []⟩
def internal_strconv_numDigits (d0 : Int) (Q : Value → WP) : WP := funJ idJ Tryd.prog internal_strconv_numDigits_kp Tryd.f97 [.int .u64 d0] Q
theorem internal_strconv_numDigits_raw (jn : Jn) (d0 : Int) (Q : Value → WP) : funJ jn Tryd.prog internal_strconv_numDigits_kp Tryd.f97 [.int .u64 d0] Q = (
  call1 (.int .i64) Tryd.prog id_math_bits_Len64 [.int .u64 d0] fun (x_1 : Int) =>
  call1 (.int .i64) Tryd.prog id_internal_strconv_log10Pow2 [.int .i64 x_1] fun (x_2 : Int) =>
  when ((0 : Int) ≤ x_2 ∧ x_2 < ((20 : Nat) : Int)) <|
  ld (.int .u64) 1 (0 + (x_2).toNat * 1) fun (x_3 : Int) =>
  call1 (.int .i64) Tryd.prog id_internal_strconv_bool2_int [.bool (decide (d0 ≥ x_3))] fun (x_4 : Int) =>
  Q (.int .i64 (IntKind.wrap .i64 (x_2 + x_4)))) := by kernel_rfl
theorem internal_strconv_numDigits_def (d0 : Int) (Q : Value → WP) : internal_strconv_numDigits d0 Q = funJ idJ Tryd.prog internal_strconv_numDigits_kp Tryd.f97 [.int .u64 d0] Q := rfl
theorem internal_strconv_numDigits_calls {d0 : Int} {Q : Value → WP} {w : World} (h : internal_strconv_numDigits d0 Q w) : Calls Tryd.prog id_internal_strconv_numDigits #[.int .u64 d0] w fun e w' => ∃ v, e = .returned v ∧ Q v w' :=
  funJ_calls mixed Tryd.func97 rfl h

end Go.Proofs.YtchlicgjdlkidaaDoor
