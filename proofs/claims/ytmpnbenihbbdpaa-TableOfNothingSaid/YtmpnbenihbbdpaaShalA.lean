/- Printed by a program of mine (wip/tools/shal.py): the shallow texts of the loaded functions, each equal to the interpreter's reading by the kernel. -/
import Derived.Test.YtmpnbenihbbdpaaSound7
import Derived.Test.YtmpnbenihbbdpaaChecked
import Derived.KernelRfl
set_option linter.unusedVariables false
set_option maxRecDepth 100000
namespace Go.Proofs.Ytmpnbenihbbdpaa
open Go.Hb

theorem mixed : Try.prog.follows .mixedOrders = true := by kernel_rfl
abbrev ty_int : TypeId := 3
abbrev ty_string : TypeId := 9
abbrev ty_hoardlaw21_Act : TypeId := 36
abbrev ty_hoardref21_Table : TypeId := 48
abbrev ty_table_value : TypeId := 54
abbrev ty_table_Table : TypeId := 57
abbrev ty_hoardref21_Entry : TypeId := 67
abbrev ty_index_Index_table_value : TypeId := 70
abbrev ty_index_place_table_value : TypeId := 73
abbrev ty_slices_xorshift : TypeId := 95
abbrev id_hoardlaw21_TableLives : FuncId := 3
abbrev id_hoardlaw21_TableErrors : FuncId := 4
abbrev id_hoardlaw21_TableLast : FuncId := 5
abbrev id_hoardlaw21_TableDue : FuncId := 6
abbrev id_hoardlaw21_TablePlays : FuncId := 7
abbrev id_hoardlaw21_TableOfNothing : FuncId := 8
abbrev id_hoardref1_Key : FuncId := 9
abbrev id_hoardlaw21_known : FuncId := 10
abbrev id_table_New : FuncId := 11
abbrev id_table_Table_Put : FuncId := 12
abbrev id_table_Table_Get : FuncId := 13
abbrev id_table_Table_Due : FuncId := 14
abbrev id_table_Table_Has : FuncId := 15
abbrev id_hoardlaw21_heavy : FuncId := 16
abbrev id_table_Table_Keys : FuncId := 17
abbrev id_table_Table_End : FuncId := 18
abbrev id_hoardlaw21_texts : FuncId := 19
abbrev id_table_Table_Len : FuncId := 20
abbrev id_hoardlaw21_act : FuncId := 21
abbrev id_hoardref21_Table_Has : FuncId := 22
abbrev id_hoardref21_Table_End : FuncId := 23
abbrev id_hoardref21_Table_Keys : FuncId := 24
abbrev id_table_Table_Delete : FuncId := 25
abbrev id_index_New_table_value : FuncId := 26
abbrev id_mix_Key : FuncId := 27
abbrev id_index_Index_table_value_Put : FuncId := 28
abbrev id_index_Index_table_value_Get : FuncId := 29
abbrev id_table_value_over : FuncId := 30
abbrev id_index_Index_table_value_Keys : FuncId := 31
abbrev id_index_Index_table_value_Len : FuncId := 32
abbrev id_hoardref21_Table_Put : FuncId := 33
abbrev id_hoardref21_Table_Get : FuncId := 34
abbrev id_hoardref21_Table_Delete : FuncId := 35
abbrev id_hoardref21_Table_Due : FuncId := 36
abbrev id_hoardref21_Table_at : FuncId := 37
abbrev id_index_Index_table_value_Delete : FuncId := 38
abbrev id_strings_IndexByte : FuncId := 39
abbrev id_index_Index_table_value_find : FuncId := 40
abbrev id_index_Index_table_value_lays : FuncId := 41
abbrev id_index_Index_table_value_grows : FuncId := 42
abbrev id_slices_Sort_s_string_string : FuncId := 43
abbrev id_hoardref21_over : FuncId := 44
abbrev id_internal_stringslite_IndexByte : FuncId := 45
abbrev id_mix_Place : FuncId := 46
abbrev id_mix_Hash : FuncId := 47
abbrev id_slices_pdqsortOrdered_string : FuncId := 48
abbrev id_math_bits_Len : FuncId := 49
abbrev id_mix_Mix : FuncId := 51
abbrev id_slices_insertionSortOrdered_string : FuncId := 52
abbrev id_slices_heapSortOrdered_string : FuncId := 53
abbrev id_slices_breakPatternsOrdered_string : FuncId := 54
abbrev id_slices_choosePivotOrdered_string : FuncId := 55
abbrev id_slices_reverseRangeOrdered_string : FuncId := 56
abbrev id_slices_partialInsertionSortOrdered_string : FuncId := 57
abbrev id_cmp_Less_string : FuncId := 58
abbrev id_slices_partitionEqualOrdered_string : FuncId := 59
abbrev id_slices_partitionOrdered_string : FuncId := 60
abbrev id_math_bits_Len32 : FuncId := 61
abbrev id_math_bits_Len64 : FuncId := 62
abbrev id_slices_siftDownOrdered_string : FuncId := 63
abbrev id_slices_nextPowerOfTwo : FuncId := 64
abbrev id_slices_xorshift_Next : FuncId := 65
abbrev id_slices_medianAdjacentOrdered_string : FuncId := 66
abbrev id_slices_medianOrdered_string : FuncId := 67
abbrev id_cmp_isNaN_string : FuncId := 68
abbrev id_slices_order2Ordered_string : FuncId := 69
def str______ : ByteArray := ⟨#[95, 45, 46, 47, 58]⟩
def str_____________________ : ByteArray := ⟨#[0, 1, 2, 2, 3, 3, 3, 3, 4, 4, 4, 4, 4, 4, 4, 4, 5, 5, 5, 5, 5, 5, 5, 5, 5, 5, 5, 5, 5, 5, 5, 5, 6, 6, 6, 6, 6, 6, 6, 6, 6, 6, 6, 6, 6, 6, 6, 6, 6, 6, 6, 6, 6, 6, 6, 6, 6, 6, 6, 6, 6, 6, 6, 6, 7, 7, 7, 7, 7, 7, 7, 7, 7, 7, 7, 7, 7, 7, 7, 7, 7, 7, 7, 7, 7, 7, 7, 7, 7, 7, 7, 7, 7, 7, 7, 7, 7, 7, 7, 7, 7, 7, 7, 7, 7, 7, 7, 7, 7, 7, 7, 7, 7, 7, 7, 7, 7, 7, 7, 7, 7, 7, 7, 7, 7, 7, 7, 7, 8, 8, 8, 8, 8, 8, 8, 8, 8, 8, 8, 8, 8, 8, 8, 8, 8, 8, 8, 8, 8, 8, 8, 8, 8, 8, 8, 8, 8, 8, 8, 8, 8, 8, 8, 8, 8, 8, 8, 8, 8, 8, 8, 8, 8, 8, 8, 8, 8, 8, 8, 8, 8, 8, 8, 8, 8, 8, 8, 8, 8, 8, 8, 8, 8, 8, 8, 8, 8, 8, 8, 8, 8, 8, 8, 8, 8, 8, 8, 8, 8, 8, 8, 8, 8, 8, 8, 8, 8, 8, 8, 8, 8, 8, 8, 8, 8, 8, 8, 8, 8, 8, 8, 8, 8, 8, 8, 8, 8, 8, 8, 8, 8, 8, 8, 8, 8, 8, 8, 8, 8, 8, 8, 8, 8, 8, 8, 8]⟩
def str_a : ByteArray := ⟨#[97]⟩
def str_empty : ByteArray := ⟨#[]⟩
def str_x : ByteArray := ⟨#[120]⟩

-- hoard/hoardlaw21.TableLives
def hoardlaw21_TableLives_kp : KP := ⟨[(8, [0, 1, 2, 3, 4]), (20, [0, 1, 2, 4, 11, 12, 13, 14, 15, 16])], []⟩
def hoardlaw21_TableLives_j2 (jn : Jn) (Q : Value → WP)  (key0 : ByteArray) (val1 : ByteArray) (now2 : Int) (later4 : Int) (t11 : Option Addr) (ok12 : Bool) (e13 : Int) (v14 : ByteArray) (is15 : Bool) (want16 : Bool) : WP := jn 20 (fun ρ => codeI Try.prog hoardlaw21_TableLives_kp jn (cAt [true, true, true, true, true, true, true] (bodyOf Try.f3)) (retK Try.prog Try.f3 Q) noX (retK Try.prog Try.f3 Q) ρ) ((.string key0) :: (.string val1) :: (.int .i64 now2) :: us 1 ((.int .i64 later4) :: us 6 ((.pointer t11) :: (.bool ok12) :: (.int .i64 e13) :: (.string v14) :: (.bool is15) :: (.bool want16) :: us 108 [])))
def hoardlaw21_TableLives_j1 (jn : Jn) (Q : Value → WP)  (key0 : ByteArray) (val1 : ByteArray) (now2 : Int) (life3 : Int) (later4 : Int) : WP := jn 8 (fun ρ => codeI Try.prog hoardlaw21_TableLives_kp jn (cAt [true, true] (bodyOf Try.f3)) (retK Try.prog Try.f3 Q) noX (retK Try.prog Try.f3 Q) ρ) ((.string key0) :: (.string val1) :: (.int .i64 now2) :: (.int .i64 life3) :: (.int .i64 later4) :: us 120 [])
def hoardlaw21_TableLives (key0 : ByteArray) (val1 : ByteArray) (now2 : Int) (life3 : Int) (later4 : Int) (Q : Value → WP) : WP := funJ idJ Try.prog hoardlaw21_TableLives_kp Try.f3 [.string key0, .string val1, .int .i64 now2, .int .i64 life3, .int .i64 later4] Q
theorem hoardlaw21_TableLives_j2_raw (jn : Jn) (Q : Value → WP)  (key0 : ByteArray) (val1 : ByteArray) (now2 : Int) (later4 : Int) (t11 : Option Addr) (ok12 : Bool) (e13 : Int) (v14 : ByteArray) (is15 : Bool) (want16 : Bool) : codeI Try.prog hoardlaw21_TableLives_kp jn (cAt [true, true, true, true, true, true, true] (bodyOf Try.f3)) (retK Try.prog Try.f3 Q) noX (retK Try.prog Try.f3 Q) ((.string key0) :: (.string val1) :: (.int .i64 now2) :: us 1 ((.int .i64 later4) :: us 6 ((.pointer t11) :: (.bool ok12) :: (.int .i64 e13) :: (.string v14) :: (.bool is15) :: (.bool want16) :: us 108 []))) = (
  call1 .slc Try.prog id_table_Table_Due [.pointer t11, .int .i64 (IntKind.wrap .i64 (now2 + later4))] fun (x_15 : Sl) =>
  ite2 ok12 (
  ite2 (e13 == (0 : Int)) (
  ite2 (is15 == want16) (
  ite2 (!want16) (
  ite2 want16 (
  ite2 (((x_15.n : Int) == (0 : Int)) == want16) (
  call1 .bool Try.prog id_table_Table_Has [.pointer t11, .string key0] fun (x_16 : Bool) =>
  ite2 x_16 (
  call1 .bool Try.prog id_hoardlaw21_known [] fun (x_17 : Bool) =>
  Q (.bool x_17)) (
  Q (.bool false))) (
  Q (.bool false))) (
  ite2 (sEq v14 str_empty) (
  ite2 (((x_15.n : Int) == (0 : Int)) == want16) (
  call1 .bool Try.prog id_table_Table_Has [.pointer t11, .string key0] fun (x_18 : Bool) =>
  ite2 x_18 (
  call1 .bool Try.prog id_hoardlaw21_known [] fun (x_19 : Bool) =>
  Q (.bool x_19)) (
  Q (.bool false))) (
  Q (.bool false))) (
  Q (.bool false)))) (
  ite2 (sEq v14 val1) (
  ite2 want16 (
  ite2 (((x_15.n : Int) == (0 : Int)) == want16) (
  call1 .bool Try.prog id_table_Table_Has [.pointer t11, .string key0] fun (x_20 : Bool) =>
  ite2 x_20 (
  call1 .bool Try.prog id_hoardlaw21_known [] fun (x_21 : Bool) =>
  Q (.bool x_21)) (
  Q (.bool false))) (
  Q (.bool false))) (
  ite2 (sEq v14 str_empty) (
  ite2 (((x_15.n : Int) == (0 : Int)) == want16) (
  call1 .bool Try.prog id_table_Table_Has [.pointer t11, .string key0] fun (x_22 : Bool) =>
  ite2 x_22 (
  call1 .bool Try.prog id_hoardlaw21_known [] fun (x_23 : Bool) =>
  Q (.bool x_23)) (
  Q (.bool false))) (
  Q (.bool false))) (
  Q (.bool false)))) (
  Q (.bool false)))) (
  Q (.bool false))) (
  Q (.bool false))) (
  Q (.bool false))) := by kernel_rfl
theorem hoardlaw21_TableLives_j2_def (Q : Value → WP)  (key0 : ByteArray) (val1 : ByteArray) (now2 : Int) (later4 : Int) (t11 : Option Addr) (ok12 : Bool) (e13 : Int) (v14 : ByteArray) (is15 : Bool) (want16 : Bool) : hoardlaw21_TableLives_j2 idJ Q  key0 val1 now2 later4 t11 ok12 e13 v14 is15 want16 = codeI Try.prog hoardlaw21_TableLives_kp idJ (cAt [true, true, true, true, true, true, true] (bodyOf Try.f3)) (retK Try.prog Try.f3 Q) noX (retK Try.prog Try.f3 Q) ((.string key0) :: (.string val1) :: (.int .i64 now2) :: us 1 ((.int .i64 later4) :: us 6 ((.pointer t11) :: (.bool ok12) :: (.int .i64 e13) :: (.string v14) :: (.bool is15) :: (.bool want16) :: us 108 []))) := by kernel_rfl
theorem hoardlaw21_TableLives_j1_raw (jn : Jn) (Q : Value → WP)  (key0 : ByteArray) (val1 : ByteArray) (now2 : Int) (life3 : Int) (later4 : Int) : codeI Try.prog hoardlaw21_TableLives_kp jn (cAt [true, true] (bodyOf Try.f3)) (retK Try.prog Try.f3 Q) noX (retK Try.prog Try.f3 Q) ((.string key0) :: (.string val1) :: (.int .i64 now2) :: (.int .i64 life3) :: (.int .i64 later4) :: us 120 []) = (
  call1 .ptr Try.prog id_table_New [] fun (x_10 : Option Addr) =>
  ite2 (Option.isNone x_10) (
  Q (.bool false)) (
  call2 .bool (.int .i64) Try.prog id_table_Table_Put [.pointer x_10, .string key0, .string val1, .int .i64 now2, .int .i64 life3] fun (x_11 : Bool) (x_12 : Int) =>
  call2 .str .bool Try.prog id_table_Table_Get [.pointer x_10, .string key0, .int .i64 (IntKind.wrap .i64 (now2 + later4))] fun (x_13 : ByteArray) (x_14 : Bool) =>
  ite2 (life3 == (0 : Int)) (
  hoardlaw21_TableLives_j2 jn Q  key0 val1 now2 later4 x_10 x_11 x_12 x_13 x_14 true) (
  hoardlaw21_TableLives_j2 jn Q  key0 val1 now2 later4 x_10 x_11 x_12 x_13 x_14 (decide (later4 < life3))))) := by kernel_rfl
theorem hoardlaw21_TableLives_j1_def (Q : Value → WP)  (key0 : ByteArray) (val1 : ByteArray) (now2 : Int) (life3 : Int) (later4 : Int) : hoardlaw21_TableLives_j1 idJ Q  key0 val1 now2 life3 later4 = codeI Try.prog hoardlaw21_TableLives_kp idJ (cAt [true, true] (bodyOf Try.f3)) (retK Try.prog Try.f3 Q) noX (retK Try.prog Try.f3 Q) ((.string key0) :: (.string val1) :: (.int .i64 now2) :: (.int .i64 life3) :: (.int .i64 later4) :: us 120 []) := by kernel_rfl
theorem hoardlaw21_TableLives_raw (jn : Jn) (key0 : ByteArray) (val1 : ByteArray) (now2 : Int) (life3 : Int) (later4 : Int) (Q : Value → WP) : funJ jn Try.prog hoardlaw21_TableLives_kp Try.f3 [.string key0, .string val1, .int .i64 now2, .int .i64 life3, .int .i64 later4] Q = (
  call1 .bool Try.prog id_hoardref1_Key [.string key0] fun (x_1 : Bool) =>
  ite2 (!x_1) (
  call1 .bool Try.prog id_hoardlaw21_known [] fun (x_2 : Bool) =>
  Q (.bool x_2)) (
  ite2 (decide ((val1.size : Int) > (64 : Int))) (
  call1 .bool Try.prog id_hoardlaw21_known [] fun (x_3 : Bool) =>
  Q (.bool x_3)) (
  ite2 (decide (now2 < (0 : Int))) (
  call1 .bool Try.prog id_hoardlaw21_known [] fun (x_4 : Bool) =>
  Q (.bool x_4)) (
  ite2 (decide (now2 > (1125899906842624 : Int))) (
  call1 .bool Try.prog id_hoardlaw21_known [] fun (x_5 : Bool) =>
  Q (.bool x_5)) (
  ite2 (decide (life3 < (0 : Int))) (
  call1 .bool Try.prog id_hoardlaw21_known [] fun (x_6 : Bool) =>
  Q (.bool x_6)) (
  ite2 (decide (life3 > (1099511627776 : Int))) (
  call1 .bool Try.prog id_hoardlaw21_known [] fun (x_7 : Bool) =>
  Q (.bool x_7)) (
  ite2 (decide (later4 < (0 : Int))) (
  call1 .bool Try.prog id_hoardlaw21_known [] fun (x_8 : Bool) =>
  Q (.bool x_8)) (
  ite2 (decide (later4 > (1125899906842624 : Int))) (
  call1 .bool Try.prog id_hoardlaw21_known [] fun (x_9 : Bool) =>
  Q (.bool x_9)) (
  hoardlaw21_TableLives_j1 jn Q  key0 val1 now2 life3 later4))))))))) := by kernel_rfl
theorem hoardlaw21_TableLives_def (key0 : ByteArray) (val1 : ByteArray) (now2 : Int) (life3 : Int) (later4 : Int) (Q : Value → WP) : hoardlaw21_TableLives key0 val1 now2 life3 later4 Q = funJ idJ Try.prog hoardlaw21_TableLives_kp Try.f3 [.string key0, .string val1, .int .i64 now2, .int .i64 life3, .int .i64 later4] Q := rfl
theorem hoardlaw21_TableLives_calls {key0 : ByteArray} {val1 : ByteArray} {now2 : Int} {life3 : Int} {later4 : Int} {Q : Value → WP} {w : World} (h : hoardlaw21_TableLives key0 val1 now2 life3 later4 Q w) : Calls Try.prog id_hoardlaw21_TableLives #[.string key0, .string val1, .int .i64 now2, .int .i64 life3, .int .i64 later4] w fun e w' => ∃ v, e = .returned v ∧ Q v w' :=
  funJ_calls mixed Try.func3 rfl h

-- hoard/hoardlaw21.TableErrors
def hoardlaw21_TableErrors_kp : KP := ⟨[(8, [0, 3]), (17, [0, 3, 5, 6]), (20, [0, 3, 5, 6]), (22, [3, 5])], [(9, [0, 1, 2, 3, 4, 5, 6, 7, 8, 9, 10, 11, 12, 13, 14, 15, 16, 17, 18, 19]), (10, [0, 2, 3, 4, 6, 7])]⟩
def hoardlaw21_TableErrors_j3 (jn : Jn) (Q : Value → WP) (m2 : Nat) (l0 : Sl) (a3_b : Nat) (a3_o : Nat) (t5 : Option Addr) (i6 : Int) : WP := jn 20 (fun ρ => codeI Try.prog hoardlaw21_TableErrors_kp jn (cAt [true, true, true, true, false, true, false, false, true] (bodyOf Try.f4)) (lopK Try.prog hoardlaw21_TableErrors_kp jn (cAt [true, true, true, true, false, true, false, false] (bodyOf Try.f4)) (blkX 0 (seqK Try.prog hoardlaw21_TableErrors_kp jn (cAt [true, true, true, true, true] (bodyOf Try.f4)) (retK Try.prog Try.f4 Q) noX (retK Try.prog Try.f4 Q)) noX) (retK Try.prog Try.f4 Q) m2) (blkX 0 (seqK Try.prog hoardlaw21_TableErrors_kp jn (cAt [true, true, true, true, true] (bodyOf Try.f4)) (retK Try.prog Try.f4 Q) noX (retK Try.prog Try.f4 Q)) noX) (retK Try.prog Try.f4 Q) ρ) ((.slice l0.a l0.n l0.c) :: us 2 ((.pointer (some ⟨a3_b, a3_o, none⟩)) :: us 1 ((.pointer t5) :: (.int .i64 i6) :: us 89 [])))
def hoardlaw21_TableErrors_j4 (jn : Jn) (Q : Value → WP)  (a3_b : Nat) (a3_o : Nat) (t5 : Option Addr) : WP := jn 22 (fun ρ => codeI Try.prog hoardlaw21_TableErrors_kp jn (cAt [true, true, true, true, true] (bodyOf Try.f4)) (retK Try.prog Try.f4 Q) noX (retK Try.prog Try.f4 Q) ρ) (us 3 ((.pointer (some ⟨a3_b, a3_o, none⟩)) :: us 1 ((.pointer t5) :: us 90 [])))
def hoardlaw21_TableErrors_l2 (jn : Jn) (Q : Value → WP)  (m2 : Nat) (l0 : Sl) (a3_b : Nat) (a3_o : Nat) (t5 : Option Addr) (i6 : Int) : WP := lop Try.prog hoardlaw21_TableErrors_kp jn (cAt [true, true, true, true, false, true, false, false] (bodyOf Try.f4)) (blkX 0 (seqK Try.prog hoardlaw21_TableErrors_kp jn (cAt [true, true, true, true, true] (bodyOf Try.f4)) (retK Try.prog Try.f4 Q) noX (retK Try.prog Try.f4 Q)) noX) (retK Try.prog Try.f4 Q) m2 ((.slice l0.a l0.n l0.c) :: us 2 ((.pointer (some ⟨a3_b, a3_o, none⟩)) :: us 1 ((.pointer t5) :: (.int .i64 i6) :: us 89 [])))
def hoardlaw21_TableErrors_j1 (jn : Jn) (Q : Value → WP)  (l0 : Sl) (a3_b : Nat) (a3_o : Nat) : WP := jn 8 (fun ρ => codeI Try.prog hoardlaw21_TableErrors_kp jn (cAt [true, true] (bodyOf Try.f4)) (retK Try.prog Try.f4 Q) noX (retK Try.prog Try.f4 Q) ρ) ((.slice l0.a l0.n l0.c) :: us 2 ((.pointer (some ⟨a3_b, a3_o, none⟩)) :: us 92 []))
def hoardlaw21_TableErrors (l0 : Sl) (a1_0 : Int) (a1_1 : Int) (a1_2 : Int) (a1_3 : ByteArray) (a1_4 : ByteArray) (Q : Value → WP) : WP := funJ idJ Try.prog hoardlaw21_TableErrors_kp Try.f4 [.slice l0.a l0.n l0.c, .agg #[.int .i64 a1_0, .int .i64 a1_1, .int .i64 a1_2, .string a1_3, .string a1_4]] Q
theorem hoardlaw21_TableErrors_j3_raw (jn : Jn) (Q : Value → WP) (m2 : Nat) (l0 : Sl) (a3_b : Nat) (a3_o : Nat) (t5 : Option Addr) (i6 : Int) : codeI Try.prog hoardlaw21_TableErrors_kp jn (cAt [true, true, true, true, false, true, false, false, true] (bodyOf Try.f4)) (lopK Try.prog hoardlaw21_TableErrors_kp jn (cAt [true, true, true, true, false, true, false, false] (bodyOf Try.f4)) (blkX 0 (seqK Try.prog hoardlaw21_TableErrors_kp jn (cAt [true, true, true, true, true] (bodyOf Try.f4)) (retK Try.prog Try.f4 Q) noX (retK Try.prog Try.f4 Q)) noX) (retK Try.prog Try.f4 Q) m2) (blkX 0 (seqK Try.prog hoardlaw21_TableErrors_kp jn (cAt [true, true, true, true, true] (bodyOf Try.f4)) (retK Try.prog Try.f4 Q) noX (retK Try.prog Try.f4 Q)) noX) (retK Try.prog Try.f4 Q) ((.slice l0.a l0.n l0.c) :: us 2 ((.pointer (some ⟨a3_b, a3_o, none⟩)) :: us 1 ((.pointer t5) :: (.int .i64 i6) :: us 89 []))) = (
  drawW fun S =>
  idx l0.a l0.n i6 fun b_11 o_12 =>
  ldS S .str b_11 ((o_12 + (i6).toNat * 5) + 3) fun (x_13 : ByteArray) =>
  idx l0.a l0.n i6 fun b_14 o_15 =>
  ldS S .str b_14 ((o_15 + (i6).toNat * 5) + 4) fun (x_16 : ByteArray) =>
  idx l0.a l0.n i6 fun b_17 o_18 =>
  ldS S (.int .i64) b_17 ((o_18 + (i6).toNat * 5) + 1) fun (x_19 : Int) =>
  idx l0.a l0.n i6 fun b_20 o_21 =>
  ld (.int .i64) b_20 ((o_21 + (i6).toNat * 5) + 2) fun (x_22 : Int) =>
  keepS true S <|
  call2 .bool (.int .i64) Try.prog id_table_Table_Put [.pointer t5, .string x_13, .string x_16, .int .i64 x_19, .int .i64 x_22] fun (x_23 : Bool) (x_24 : Int) =>
  hoardlaw21_TableErrors_l2 jn Q  m2 l0 a3_b a3_o t5 (IntKind.wrap .i64 (i6 + (1 : Int)))) := by kernel_rfl
theorem hoardlaw21_TableErrors_j3_def (Q : Value → WP) (m2 : Nat) (l0 : Sl) (a3_b : Nat) (a3_o : Nat) (t5 : Option Addr) (i6 : Int) : hoardlaw21_TableErrors_j3 idJ Q m2 l0 a3_b a3_o t5 i6 = codeI Try.prog hoardlaw21_TableErrors_kp idJ (cAt [true, true, true, true, false, true, false, false, true] (bodyOf Try.f4)) (lopK Try.prog hoardlaw21_TableErrors_kp idJ (cAt [true, true, true, true, false, true, false, false] (bodyOf Try.f4)) (blkX 0 (seqK Try.prog hoardlaw21_TableErrors_kp idJ (cAt [true, true, true, true, true] (bodyOf Try.f4)) (retK Try.prog Try.f4 Q) noX (retK Try.prog Try.f4 Q)) noX) (retK Try.prog Try.f4 Q) m2) (blkX 0 (seqK Try.prog hoardlaw21_TableErrors_kp idJ (cAt [true, true, true, true, true] (bodyOf Try.f4)) (retK Try.prog Try.f4 Q) noX (retK Try.prog Try.f4 Q)) noX) (retK Try.prog Try.f4 Q) ((.slice l0.a l0.n l0.c) :: us 2 ((.pointer (some ⟨a3_b, a3_o, none⟩)) :: us 1 ((.pointer t5) :: (.int .i64 i6) :: us 89 []))) := by kernel_rfl
theorem hoardlaw21_TableErrors_j4_raw (jn : Jn) (Q : Value → WP)  (a3_b : Nat) (a3_o : Nat) (t5 : Option Addr) : codeI Try.prog hoardlaw21_TableErrors_kp jn (cAt [true, true, true, true, true] (bodyOf Try.f4)) (retK Try.prog Try.f4 Q) noX (retK Try.prog Try.f4 Q) (us 3 ((.pointer (some ⟨a3_b, a3_o, none⟩)) :: us 1 ((.pointer t5) :: us 90 []))) = (
  drawW fun S =>
  ldS S .str a3_b (a3_o + 3) fun (x_25 : ByteArray) =>
  call1 .slc Try.prog id_table_Table_Keys [.pointer t5] fun (x_26 : Sl) =>
  keepS true S <|
  call1 (.int .i64) Try.prog id_table_Table_End [.pointer t5, .string x_25] fun (x_27 : Int) =>
  ld .str a3_b (a3_o + 3) fun (x_28 : ByteArray) =>
  ld .str a3_b (a3_o + 4) fun (x_29 : ByteArray) =>
  ld (.int .i64) a3_b (a3_o + 1) fun (x_30 : Int) =>
  ld (.int .i64) a3_b (a3_o + 2) fun (x_31 : Int) =>
  call2 .bool (.int .i64) Try.prog id_table_Table_Put [.pointer t5, .string x_28, .string x_29, .int .i64 x_30, .int .i64 x_31] fun (x_32 : Bool) (x_33 : Int) =>
  ite2 (x_33 == (0 : Int)) (
  ld .str a3_b (a3_o + 3) fun (x_34 : ByteArray) =>
  call1 .bool Try.prog id_table_Table_Has [.pointer t5, .string x_34] fun (x_35 : Bool) =>
  ite2 x_35 (
  call1 .bool Try.prog id_hoardlaw21_known [] fun (x_36 : Bool) =>
  Q (.bool x_36)) (
  Q (.bool false))) (
  call1 .slc Try.prog id_table_Table_Keys [.pointer t5] fun (x_37 : Sl) =>
  call1 .bool Try.prog id_hoardlaw21_texts [.slice x_37.a x_37.n x_37.c, .slice x_26.a x_26.n x_26.c] fun (x_38 : Bool) =>
  ite2 x_38 (
  ld .str a3_b (a3_o + 3) fun (x_39 : ByteArray) =>
  call1 (.int .i64) Try.prog id_table_Table_End [.pointer t5, .string x_39] fun (x_40 : Int) =>
  ite2 (x_40 == x_27) (
  call1 .bool Try.prog id_hoardlaw21_known [] fun (x_41 : Bool) =>
  Q (.bool x_41)) (
  Q (.bool false))) (
  Q (.bool false)))) := by kernel_rfl
theorem hoardlaw21_TableErrors_j4_def (Q : Value → WP)  (a3_b : Nat) (a3_o : Nat) (t5 : Option Addr) : hoardlaw21_TableErrors_j4 idJ Q  a3_b a3_o t5 = codeI Try.prog hoardlaw21_TableErrors_kp idJ (cAt [true, true, true, true, true] (bodyOf Try.f4)) (retK Try.prog Try.f4 Q) noX (retK Try.prog Try.f4 Q) (us 3 ((.pointer (some ⟨a3_b, a3_o, none⟩)) :: us 1 ((.pointer t5) :: us 90 []))) := by kernel_rfl
theorem hoardlaw21_TableErrors_l2_raw (jn : Jn) (Q : Value → WP)  (m2 : Nat) (l0 : Sl) (a3_b : Nat) (a3_o : Nat) (t5 : Option Addr) (i6 : Int) : hoardlaw21_TableErrors_l2 jn Q  (m2 + 1) l0 a3_b a3_o t5 i6 = (
  ite2 (decide (i6 < (l0.n : Int))) (
  ite2 (decide (i6 < (150 : Int))) (
  hoardlaw21_TableErrors_j3 jn Q m2 l0 a3_b a3_o t5 i6) (
  hoardlaw21_TableErrors_j4 jn Q  a3_b a3_o t5)) (
  hoardlaw21_TableErrors_j4 jn Q  a3_b a3_o t5)) := by kernel_rfl
theorem hoardlaw21_TableErrors_l2_zero (jn : Jn) (Q : Value → WP)  (l0 : Sl) (a3_b : Nat) (a3_o : Nat) (t5 : Option Addr) (i6 : Int) : hoardlaw21_TableErrors_l2 jn Q  0 l0 a3_b a3_o t5 i6 = bot := by kernel_rfl
theorem hoardlaw21_TableErrors_j1_raw (jn : Jn) (Q : Value → WP)  (l0 : Sl) (a3_b : Nat) (a3_o : Nat) : codeI Try.prog hoardlaw21_TableErrors_kp jn (cAt [true, true] (bodyOf Try.f4)) (retK Try.prog Try.f4 Q) noX (retK Try.prog Try.f4 Q) ((.slice l0.a l0.n l0.c) :: us 2 ((.pointer (some ⟨a3_b, a3_o, none⟩)) :: us 92 [])) = (
  call1 .ptr Try.prog id_table_New [] fun (x_10 : Option Addr) =>
  ite2 (Option.isNone x_10) (
  Q (.bool false)) (
  exM fun m => hoardlaw21_TableErrors_l2 jn Q  m l0 a3_b a3_o x_10 (0 : Int))) := by kernel_rfl
theorem hoardlaw21_TableErrors_j1_def (Q : Value → WP)  (l0 : Sl) (a3_b : Nat) (a3_o : Nat) : hoardlaw21_TableErrors_j1 idJ Q  l0 a3_b a3_o = codeI Try.prog hoardlaw21_TableErrors_kp idJ (cAt [true, true] (bodyOf Try.f4)) (retK Try.prog Try.f4 Q) noX (retK Try.prog Try.f4 Q) ((.slice l0.a l0.n l0.c) :: us 2 ((.pointer (some ⟨a3_b, a3_o, none⟩)) :: us 92 [])) := by kernel_rfl
theorem hoardlaw21_TableErrors_raw (jn : Jn) (l0 : Sl) (a1_0 : Int) (a1_1 : Int) (a1_2 : Int) (a1_3 : ByteArray) (a1_4 : ByteArray) (Q : Value → WP) : funJ jn Try.prog hoardlaw21_TableErrors_kp Try.f4 [.slice l0.a l0.n l0.c, .agg #[.int .i64 a1_0, .int .i64 a1_1, .int .i64 a1_2, .string a1_3, .string a1_4]] Q = (
  newB [.int .i64 a1_0, .int .i64 a1_1, .int .i64 a1_2, .string a1_3, .string a1_4] ty_hoardlaw21_Act fun b_1 =>
  call1 .bool Try.prog id_hoardlaw21_heavy [.slice l0.a l0.n l0.c] fun (x_2 : Bool) =>
  ite2 x_2 (
  Q (.bool true)) (
  ld (.int .i64) b_1 0 fun (x_3 : Int) =>
  ld (.int .i64) b_1 1 fun (x_4 : Int) =>
  ld (.int .i64) b_1 2 fun (x_5 : Int) =>
  ld .str b_1 3 fun (x_6 : ByteArray) =>
  ld .str b_1 4 fun (x_7 : ByteArray) =>
  newB [.int .i64 x_3, .int .i64 x_4, .int .i64 x_5, .string x_6, .string x_7] ty_hoardlaw21_Act fun b_8 =>
  call1 .bool Try.prog id_hoardlaw21_heavy [.slice (some ⟨b_8, 0, none⟩) 1 1] fun (x_9 : Bool) =>
  ite2 x_9 (
  Q (.bool true)) (
  hoardlaw21_TableErrors_j1 jn Q  l0 b_1 0))) := by kernel_rfl
theorem hoardlaw21_TableErrors_def (l0 : Sl) (a1_0 : Int) (a1_1 : Int) (a1_2 : Int) (a1_3 : ByteArray) (a1_4 : ByteArray) (Q : Value → WP) : hoardlaw21_TableErrors l0 a1_0 a1_1 a1_2 a1_3 a1_4 Q = funJ idJ Try.prog hoardlaw21_TableErrors_kp Try.f4 [.slice l0.a l0.n l0.c, .agg #[.int .i64 a1_0, .int .i64 a1_1, .int .i64 a1_2, .string a1_3, .string a1_4]] Q := rfl
theorem hoardlaw21_TableErrors_calls {l0 : Sl} {a1_0 : Int} {a1_1 : Int} {a1_2 : Int} {a1_3 : ByteArray} {a1_4 : ByteArray} {Q : Value → WP} {w : World} (h : hoardlaw21_TableErrors l0 a1_0 a1_1 a1_2 a1_3 a1_4 Q w) : Calls Try.prog id_hoardlaw21_TableErrors #[.slice l0.a l0.n l0.c, .agg #[.int .i64 a1_0, .int .i64 a1_1, .int .i64 a1_2, .string a1_3, .string a1_4]] w fun e w' => ∃ v, e = .returned v ∧ Q v w' :=
  funJ_calls mixed Try.func4 rfl h

-- hoard/hoardlaw21.TableLast
def hoardlaw21_TableLast_kp : KP := ⟨[(8, [0, 1, 2]), (17, [0, 1, 2, 7, 8]), (30, [0, 1, 2, 7])], []⟩
def hoardlaw21_TableLast_j3 (jn : Jn) (Q : Value → WP)  (key0 : ByteArray) (vals1 : Sl) (now2 : Int) (t7 : Option Addr) : WP := jn 30 (fun ρ => codeI Try.prog hoardlaw21_TableLast_kp jn (cAt [true, true, true, true, true] (bodyOf Try.f5)) (retK Try.prog Try.f5 Q) noX (retK Try.prog Try.f5 Q) ρ) ((.string key0) :: (.slice vals1.a vals1.n vals1.c) :: (.int .i64 now2) :: us 4 ((.pointer t7) :: us 100 []))
def hoardlaw21_TableLast_l2 (jn : Jn) (Q : Value → WP)  (m2 : Nat) (key0 : ByteArray) (vals1 : Sl) (now2 : Int) (t7 : Option Addr) (i8 : Int) : WP := lop Try.prog hoardlaw21_TableLast_kp jn (cAt [true, true, true, true, false, true, false, false] (bodyOf Try.f5)) (blkX 0 (seqK Try.prog hoardlaw21_TableLast_kp jn (cAt [true, true, true, true, true] (bodyOf Try.f5)) (retK Try.prog Try.f5 Q) noX (retK Try.prog Try.f5 Q)) noX) (retK Try.prog Try.f5 Q) m2 ((.string key0) :: (.slice vals1.a vals1.n vals1.c) :: (.int .i64 now2) :: us 4 ((.pointer t7) :: (.int .i64 i8) :: us 99 []))
def hoardlaw21_TableLast_j1 (jn : Jn) (Q : Value → WP)  (key0 : ByteArray) (vals1 : Sl) (now2 : Int) : WP := jn 8 (fun ρ => codeI Try.prog hoardlaw21_TableLast_kp jn (cAt [true, true] (bodyOf Try.f5)) (retK Try.prog Try.f5 Q) noX (retK Try.prog Try.f5 Q) ρ) ((.string key0) :: (.slice vals1.a vals1.n vals1.c) :: (.int .i64 now2) :: us 105 [])
def hoardlaw21_TableLast (key0 : ByteArray) (vals1 : Sl) (now2 : Int) (Q : Value → WP) : WP := funJ idJ Try.prog hoardlaw21_TableLast_kp Try.f5 [.string key0, .slice vals1.a vals1.n vals1.c, .int .i64 now2] Q
theorem hoardlaw21_TableLast_j3_raw (jn : Jn) (Q : Value → WP)  (key0 : ByteArray) (vals1 : Sl) (now2 : Int) (t7 : Option Addr) : codeI Try.prog hoardlaw21_TableLast_kp jn (cAt [true, true, true, true, true] (bodyOf Try.f5)) (retK Try.prog Try.f5 Q) noX (retK Try.prog Try.f5 Q) ((.string key0) :: (.slice vals1.a vals1.n vals1.c) :: (.int .i64 now2) :: us 4 ((.pointer t7) :: us 100 [])) = (
  call2 .str .bool Try.prog id_table_Table_Get [.pointer t7, .string key0, .int .i64 now2] fun (x_17 : ByteArray) (x_18 : Bool) =>
  ite2 x_18 (
  idx vals1.a vals1.n (IntKind.wrap .i64 ((vals1.n : Int) - (1 : Int))) fun b_19 o_20 =>
  ld .str b_19 (o_20 + ((IntKind.wrap .i64 ((vals1.n : Int) - (1 : Int)))).toNat * 1) fun (x_21 : ByteArray) =>
  ite2 (sEq x_17 x_21) (
  call1 (.int .i64) Try.prog id_table_Table_End [.pointer t7, .string key0] fun (x_22 : Int) =>
  ite2 (x_22 == (IntKind.wrap .i64 (now2 + (vals1.n : Int)))) (
  call1 (.int .i64) Try.prog id_table_Table_Len [.pointer t7] fun (x_23 : Int) =>
  ite2 (x_23 == (1 : Int)) (
  call1 .bool Try.prog id_hoardlaw21_known [] fun (x_24 : Bool) =>
  Q (.bool x_24)) (
  Q (.bool false))) (
  Q (.bool false))) (
  Q (.bool false))) (
  Q (.bool false))) := by kernel_rfl
theorem hoardlaw21_TableLast_j3_def (Q : Value → WP)  (key0 : ByteArray) (vals1 : Sl) (now2 : Int) (t7 : Option Addr) : hoardlaw21_TableLast_j3 idJ Q  key0 vals1 now2 t7 = codeI Try.prog hoardlaw21_TableLast_kp idJ (cAt [true, true, true, true, true] (bodyOf Try.f5)) (retK Try.prog Try.f5 Q) noX (retK Try.prog Try.f5 Q) ((.string key0) :: (.slice vals1.a vals1.n vals1.c) :: (.int .i64 now2) :: us 4 ((.pointer t7) :: us 100 [])) := by kernel_rfl
theorem hoardlaw21_TableLast_l2_raw (jn : Jn) (Q : Value → WP)  (m2 : Nat) (key0 : ByteArray) (vals1 : Sl) (now2 : Int) (t7 : Option Addr) (i8 : Int) : hoardlaw21_TableLast_l2 jn Q  (m2 + 1) key0 vals1 now2 t7 i8 = (
  ite2 (decide (i8 < (vals1.n : Int))) (
  idx vals1.a vals1.n i8 fun b_8 o_9 =>
  ld .str b_8 (o_9 + (i8).toNat * 1) fun (x_10 : ByteArray) =>
  ite2 (decide ((x_10.size : Int) > (64 : Int))) (
  call1 .bool Try.prog id_hoardlaw21_known [] fun (x_11 : Bool) =>
  Q (.bool x_11)) (
  idx vals1.a vals1.n i8 fun b_12 o_13 =>
  ld .str b_12 (o_13 + (i8).toNat * 1) fun (x_14 : ByteArray) =>
  call2 .bool (.int .i64) Try.prog id_table_Table_Put [.pointer t7, .string key0, .string x_14, .int .i64 now2, .int .i64 (IntKind.wrap .i64 (i8 + (1 : Int)))] fun (x_15 : Bool) (x_16 : Int) =>
  ite2 (x_16 != (0 : Int)) (
  Q (.bool false)) (
  ite2 (!(x_15 == (i8 == (0 : Int)))) (
  Q (.bool false)) (
  hoardlaw21_TableLast_l2 jn Q  m2 key0 vals1 now2 t7 (IntKind.wrap .i64 (i8 + (1 : Int))))))) (
  hoardlaw21_TableLast_j3 jn Q  key0 vals1 now2 t7)) := by kernel_rfl
theorem hoardlaw21_TableLast_l2_zero (jn : Jn) (Q : Value → WP)  (key0 : ByteArray) (vals1 : Sl) (now2 : Int) (t7 : Option Addr) (i8 : Int) : hoardlaw21_TableLast_l2 jn Q  0 key0 vals1 now2 t7 i8 = bot := by kernel_rfl
theorem hoardlaw21_TableLast_j1_raw (jn : Jn) (Q : Value → WP)  (key0 : ByteArray) (vals1 : Sl) (now2 : Int) : codeI Try.prog hoardlaw21_TableLast_kp jn (cAt [true, true] (bodyOf Try.f5)) (retK Try.prog Try.f5 Q) noX (retK Try.prog Try.f5 Q) ((.string key0) :: (.slice vals1.a vals1.n vals1.c) :: (.int .i64 now2) :: us 105 []) = (
  call1 .ptr Try.prog id_table_New [] fun (x_7 : Option Addr) =>
  ite2 (Option.isNone x_7) (
  Q (.bool false)) (
  exM fun m => hoardlaw21_TableLast_l2 jn Q  m key0 vals1 now2 x_7 (0 : Int))) := by kernel_rfl
theorem hoardlaw21_TableLast_j1_def (Q : Value → WP)  (key0 : ByteArray) (vals1 : Sl) (now2 : Int) : hoardlaw21_TableLast_j1 idJ Q  key0 vals1 now2 = codeI Try.prog hoardlaw21_TableLast_kp idJ (cAt [true, true] (bodyOf Try.f5)) (retK Try.prog Try.f5 Q) noX (retK Try.prog Try.f5 Q) ((.string key0) :: (.slice vals1.a vals1.n vals1.c) :: (.int .i64 now2) :: us 105 []) := by kernel_rfl
theorem hoardlaw21_TableLast_raw (jn : Jn) (key0 : ByteArray) (vals1 : Sl) (now2 : Int) (Q : Value → WP) : funJ jn Try.prog hoardlaw21_TableLast_kp Try.f5 [.string key0, .slice vals1.a vals1.n vals1.c, .int .i64 now2] Q = (
  call1 .bool Try.prog id_hoardref1_Key [.string key0] fun (x_1 : Bool) =>
  ite2 (!x_1) (
  call1 .bool Try.prog id_hoardlaw21_known [] fun (x_2 : Bool) =>
  Q (.bool x_2)) (
  ite2 (decide ((vals1.n : Int) < (1 : Int))) (
  call1 .bool Try.prog id_hoardlaw21_known [] fun (x_3 : Bool) =>
  Q (.bool x_3)) (
  ite2 (decide ((vals1.n : Int) > (50 : Int))) (
  call1 .bool Try.prog id_hoardlaw21_known [] fun (x_4 : Bool) =>
  Q (.bool x_4)) (
  ite2 (decide (now2 < (0 : Int))) (
  call1 .bool Try.prog id_hoardlaw21_known [] fun (x_5 : Bool) =>
  Q (.bool x_5)) (
  ite2 (decide (now2 > (1099511627776 : Int))) (
  call1 .bool Try.prog id_hoardlaw21_known [] fun (x_6 : Bool) =>
  Q (.bool x_6)) (
  hoardlaw21_TableLast_j1 jn Q  key0 vals1 now2)))))) := by kernel_rfl
theorem hoardlaw21_TableLast_def (key0 : ByteArray) (vals1 : Sl) (now2 : Int) (Q : Value → WP) : hoardlaw21_TableLast key0 vals1 now2 Q = funJ idJ Try.prog hoardlaw21_TableLast_kp Try.f5 [.string key0, .slice vals1.a vals1.n vals1.c, .int .i64 now2] Q := rfl
theorem hoardlaw21_TableLast_calls {key0 : ByteArray} {vals1 : Sl} {now2 : Int} {Q : Value → WP} {w : World} (h : hoardlaw21_TableLast key0 vals1 now2 Q w) : Calls Try.prog id_hoardlaw21_TableLast #[.string key0, .slice vals1.a vals1.n vals1.c, .int .i64 now2] w fun e w' => ∃ v, e = .returned v ∧ Q v w' :=
  funJ_calls mixed Try.func5 rfl h

-- hoard/hoardlaw21.TableDue
def hoardlaw21_TableDue_kp : KP := ⟨[(17, [0, 1, 5, 6]), (20, [0, 1, 5, 6]), (22, [1, 5]), (29, [1, 5, 7, 8, 9, 10]), (42, [5, 7, 8, 9])], [(9, [0, 1, 2, 3, 4, 5, 6, 7, 8, 9, 10, 11, 12, 13, 14, 15, 16, 17, 18, 19]), (17, [0, 1, 2, 3, 4, 5, 6, 7, 8, 9, 10, 11, 13, 14, 15, 16, 17, 18, 19, 22, 23, 24, 25, 26, 27, 28, 29, 32, 33])]⟩
def hoardlaw21_TableDue_j2 (jn : Jn) (Q : Value → WP) (m1 : Nat) (l0 : Sl) (now1 : Int) (t5 : Option Addr) (i6 : Int) : WP := jn 20 (fun ρ => codeI Try.prog hoardlaw21_TableDue_kp jn (cAt [true, true, true, true, false, true, false, false, true] (bodyOf Try.f6)) (lopK Try.prog hoardlaw21_TableDue_kp jn (cAt [true, true, true, true, false, true, false, false] (bodyOf Try.f6)) (blkX 0 (seqK Try.prog hoardlaw21_TableDue_kp jn (cAt [true, true, true, true, true] (bodyOf Try.f6)) (retK Try.prog Try.f6 Q) noX (retK Try.prog Try.f6 Q)) noX) (retK Try.prog Try.f6 Q) m1) (blkX 0 (seqK Try.prog hoardlaw21_TableDue_kp jn (cAt [true, true, true, true, true] (bodyOf Try.f6)) (retK Try.prog Try.f6 Q) noX (retK Try.prog Try.f6 Q)) noX) (retK Try.prog Try.f6 Q) ρ) ((.slice l0.a l0.n l0.c) :: (.int .i64 now1) :: us 3 ((.pointer t5) :: (.int .i64 i6) :: us 115 []))
def hoardlaw21_TableDue_j5 (jn : Jn) (Q : Value → WP)  (t5 : Option Addr) (k7 : Sl) (d8 : Sl) (n9 : Int) : WP := jn 42 (fun ρ => codeI Try.prog hoardlaw21_TableDue_kp jn (cAt [true, true, true, true, true, true, true, true] (bodyOf Try.f6)) (retK Try.prog Try.f6 Q) noX (retK Try.prog Try.f6 Q) ρ) (us 5 ((.pointer t5) :: us 1 ((.slice k7.a k7.n k7.c) :: (.slice d8.a d8.n d8.c) :: (.int .i64 n9) :: us 112 [])))
def hoardlaw21_TableDue_l4 (jn : Jn) (Q : Value → WP)  (m4 : Nat) (now1 : Int) (t5 : Option Addr) (k7 : Sl) (d8 : Sl) (n9 : Int) (i10 : Int) : WP := lop Try.prog hoardlaw21_TableDue_kp jn (cAt [true, true, true, true, true, true, true, false, true, false, false] (bodyOf Try.f6)) (blkX 2 (seqK Try.prog hoardlaw21_TableDue_kp jn (cAt [true, true, true, true, true, true, true, true] (bodyOf Try.f6)) (retK Try.prog Try.f6 Q) noX (retK Try.prog Try.f6 Q)) noX) (retK Try.prog Try.f6 Q) m4 (us 1 ((.int .i64 now1) :: us 3 ((.pointer t5) :: us 1 ((.slice k7.a k7.n k7.c) :: (.slice d8.a d8.n d8.c) :: (.int .i64 n9) :: (.int .i64 i10) :: us 111 []))))
def hoardlaw21_TableDue_j3 (jn : Jn) (Q : Value → WP)  (now1 : Int) (t5 : Option Addr) : WP := jn 22 (fun ρ => codeI Try.prog hoardlaw21_TableDue_kp jn (cAt [true, true, true, true, true] (bodyOf Try.f6)) (retK Try.prog Try.f6 Q) noX (retK Try.prog Try.f6 Q) ρ) (us 1 ((.int .i64 now1) :: us 3 ((.pointer t5) :: us 116 [])))
def hoardlaw21_TableDue_l1 (jn : Jn) (Q : Value → WP)  (m1 : Nat) (l0 : Sl) (now1 : Int) (t5 : Option Addr) (i6 : Int) : WP := lop Try.prog hoardlaw21_TableDue_kp jn (cAt [true, true, true, true, false, true, false, false] (bodyOf Try.f6)) (blkX 0 (seqK Try.prog hoardlaw21_TableDue_kp jn (cAt [true, true, true, true, true] (bodyOf Try.f6)) (retK Try.prog Try.f6 Q) noX (retK Try.prog Try.f6 Q)) noX) (retK Try.prog Try.f6 Q) m1 ((.slice l0.a l0.n l0.c) :: (.int .i64 now1) :: us 3 ((.pointer t5) :: (.int .i64 i6) :: us 115 []))
def hoardlaw21_TableDue (l0 : Sl) (now1 : Int) (Q : Value → WP) : WP := funJ idJ Try.prog hoardlaw21_TableDue_kp Try.f6 [.slice l0.a l0.n l0.c, .int .i64 now1] Q
theorem hoardlaw21_TableDue_j2_raw (jn : Jn) (Q : Value → WP) (m1 : Nat) (l0 : Sl) (now1 : Int) (t5 : Option Addr) (i6 : Int) : codeI Try.prog hoardlaw21_TableDue_kp jn (cAt [true, true, true, true, false, true, false, false, true] (bodyOf Try.f6)) (lopK Try.prog hoardlaw21_TableDue_kp jn (cAt [true, true, true, true, false, true, false, false] (bodyOf Try.f6)) (blkX 0 (seqK Try.prog hoardlaw21_TableDue_kp jn (cAt [true, true, true, true, true] (bodyOf Try.f6)) (retK Try.prog Try.f6 Q) noX (retK Try.prog Try.f6 Q)) noX) (retK Try.prog Try.f6 Q) m1) (blkX 0 (seqK Try.prog hoardlaw21_TableDue_kp jn (cAt [true, true, true, true, true] (bodyOf Try.f6)) (retK Try.prog Try.f6 Q) noX (retK Try.prog Try.f6 Q)) noX) (retK Try.prog Try.f6 Q) ((.slice l0.a l0.n l0.c) :: (.int .i64 now1) :: us 3 ((.pointer t5) :: (.int .i64 i6) :: us 115 [])) = (
  drawW fun S =>
  idx l0.a l0.n i6 fun b_3 o_4 =>
  ldS S .str b_3 ((o_4 + (i6).toNat * 5) + 3) fun (x_5 : ByteArray) =>
  idx l0.a l0.n i6 fun b_6 o_7 =>
  ldS S .str b_6 ((o_7 + (i6).toNat * 5) + 4) fun (x_8 : ByteArray) =>
  idx l0.a l0.n i6 fun b_9 o_10 =>
  ldS S (.int .i64) b_9 ((o_10 + (i6).toNat * 5) + 1) fun (x_11 : Int) =>
  idx l0.a l0.n i6 fun b_12 o_13 =>
  ld (.int .i64) b_12 ((o_13 + (i6).toNat * 5) + 2) fun (x_14 : Int) =>
  keepS true S <|
  call2 .bool (.int .i64) Try.prog id_table_Table_Put [.pointer t5, .string x_5, .string x_8, .int .i64 x_11, .int .i64 x_14] fun (x_15 : Bool) (x_16 : Int) =>
  hoardlaw21_TableDue_l1 jn Q  m1 l0 now1 t5 (IntKind.wrap .i64 (i6 + (1 : Int)))) := by kernel_rfl
theorem hoardlaw21_TableDue_j2_def (Q : Value → WP) (m1 : Nat) (l0 : Sl) (now1 : Int) (t5 : Option Addr) (i6 : Int) : hoardlaw21_TableDue_j2 idJ Q m1 l0 now1 t5 i6 = codeI Try.prog hoardlaw21_TableDue_kp idJ (cAt [true, true, true, true, false, true, false, false, true] (bodyOf Try.f6)) (lopK Try.prog hoardlaw21_TableDue_kp idJ (cAt [true, true, true, true, false, true, false, false] (bodyOf Try.f6)) (blkX 0 (seqK Try.prog hoardlaw21_TableDue_kp idJ (cAt [true, true, true, true, true] (bodyOf Try.f6)) (retK Try.prog Try.f6 Q) noX (retK Try.prog Try.f6 Q)) noX) (retK Try.prog Try.f6 Q) m1) (blkX 0 (seqK Try.prog hoardlaw21_TableDue_kp idJ (cAt [true, true, true, true, true] (bodyOf Try.f6)) (retK Try.prog Try.f6 Q) noX (retK Try.prog Try.f6 Q)) noX) (retK Try.prog Try.f6 Q) ((.slice l0.a l0.n l0.c) :: (.int .i64 now1) :: us 3 ((.pointer t5) :: (.int .i64 i6) :: us 115 [])) := by kernel_rfl
theorem hoardlaw21_TableDue_j5_raw (jn : Jn) (Q : Value → WP)  (t5 : Option Addr) (k7 : Sl) (d8 : Sl) (n9 : Int) : codeI Try.prog hoardlaw21_TableDue_kp jn (cAt [true, true, true, true, true, true, true, true] (bodyOf Try.f6)) (retK Try.prog Try.f6 Q) noX (retK Try.prog Try.f6 Q) (us 5 ((.pointer t5) :: us 1 ((.slice k7.a k7.n k7.c) :: (.slice d8.a d8.n d8.c) :: (.int .i64 n9) :: us 112 []))) = (
  ite2 (n9 == (d8.n : Int)) (
  call1 (.int .i64) Try.prog id_table_Table_Len [.pointer t5] fun (x_38 : Int) =>
  ite2 (x_38 == (k7.n : Int)) (
  call1 .bool Try.prog id_hoardlaw21_known [] fun (x_39 : Bool) =>
  Q (.bool x_39)) (
  Q (.bool false))) (
  Q (.bool false))) := by kernel_rfl
theorem hoardlaw21_TableDue_j5_def (Q : Value → WP)  (t5 : Option Addr) (k7 : Sl) (d8 : Sl) (n9 : Int) : hoardlaw21_TableDue_j5 idJ Q  t5 k7 d8 n9 = codeI Try.prog hoardlaw21_TableDue_kp idJ (cAt [true, true, true, true, true, true, true, true] (bodyOf Try.f6)) (retK Try.prog Try.f6 Q) noX (retK Try.prog Try.f6 Q) (us 5 ((.pointer t5) :: us 1 ((.slice k7.a k7.n k7.c) :: (.slice d8.a d8.n d8.c) :: (.int .i64 n9) :: us 112 []))) := by kernel_rfl
theorem hoardlaw21_TableDue_l4_raw (jn : Jn) (Q : Value → WP)  (m4 : Nat) (now1 : Int) (t5 : Option Addr) (k7 : Sl) (d8 : Sl) (n9 : Int) (i10 : Int) : hoardlaw21_TableDue_l4 jn Q  (m4 + 1) now1 t5 k7 d8 n9 i10 = (
  ite2 (decide (i10 < (k7.n : Int))) (
  idx k7.a k7.n i10 fun b_19 o_20 =>
  ld .str b_19 (o_20 + (i10).toNat * 1) fun (x_21 : ByteArray) =>
  call2 .str .bool Try.prog id_table_Table_Get [.pointer t5, .string x_21, .int .i64 now1] fun (x_22 : ByteArray) (x_23 : Bool) =>
  ite2 x_23 (
  hoardlaw21_TableDue_l4 jn Q  m4 now1 t5 k7 d8 n9 (IntKind.wrap .i64 (i10 + (1 : Int)))) (
  drawW fun S =>
  ite2 (decide (n9 ≥ (d8.n : Int))) (
  keepS true S <|
  Q (.bool false)) (
  idx d8.a d8.n n9 fun b_24 o_25 =>
  ldS S .str b_24 (o_25 + (n9).toNat * 1) fun (x_26 : ByteArray) =>
  idx k7.a k7.n i10 fun b_27 o_28 =>
  ld .str b_27 (o_28 + (i10).toNat * 1) fun (x_29 : ByteArray) =>
  keepS true S <|
  ite2 (!sEq x_26 x_29) (
  Q (.bool false)) (
  idx k7.a k7.n i10 fun b_30 o_31 =>
  ld .str b_30 (o_31 + (i10).toNat * 1) fun (x_32 : ByteArray) =>
  call1 (.int .i64) Try.prog id_table_Table_End [.pointer t5, .string x_32] fun (x_33 : Int) =>
  ite2 (decide (x_33 > now1)) (
  Q (.bool false)) (
  idx k7.a k7.n i10 fun b_34 o_35 =>
  ld .str b_34 (o_35 + (i10).toNat * 1) fun (x_36 : ByteArray) =>
  call1 (.int .i64) Try.prog id_table_Table_End [.pointer t5, .string x_36] fun (x_37 : Int) =>
  ite2 (x_37 == (0 : Int)) (
  Q (.bool false)) (
  hoardlaw21_TableDue_l4 jn Q  m4 now1 t5 k7 d8 (IntKind.wrap .i64 (n9 + (1 : Int))) (IntKind.wrap .i64 (i10 + (1 : Int))))))))) (
  hoardlaw21_TableDue_j5 jn Q  t5 k7 d8 n9)) := by kernel_rfl
theorem hoardlaw21_TableDue_l4_zero (jn : Jn) (Q : Value → WP)  (now1 : Int) (t5 : Option Addr) (k7 : Sl) (d8 : Sl) (n9 : Int) (i10 : Int) : hoardlaw21_TableDue_l4 jn Q  0 now1 t5 k7 d8 n9 i10 = bot := by kernel_rfl
theorem hoardlaw21_TableDue_j3_raw (jn : Jn) (Q : Value → WP)  (now1 : Int) (t5 : Option Addr) : codeI Try.prog hoardlaw21_TableDue_kp jn (cAt [true, true, true, true, true] (bodyOf Try.f6)) (retK Try.prog Try.f6 Q) noX (retK Try.prog Try.f6 Q) (us 1 ((.int .i64 now1) :: us 3 ((.pointer t5) :: us 116 []))) = (
  call1 .slc Try.prog id_table_Table_Keys [.pointer t5] fun (x_17 : Sl) =>
  call1 .slc Try.prog id_table_Table_Due [.pointer t5, .int .i64 now1] fun (x_18 : Sl) =>
  exM fun m => hoardlaw21_TableDue_l4 jn Q  m now1 t5 x_17 x_18 (0 : Int) (0 : Int)) := by kernel_rfl
theorem hoardlaw21_TableDue_j3_def (Q : Value → WP)  (now1 : Int) (t5 : Option Addr) : hoardlaw21_TableDue_j3 idJ Q  now1 t5 = codeI Try.prog hoardlaw21_TableDue_kp idJ (cAt [true, true, true, true, true] (bodyOf Try.f6)) (retK Try.prog Try.f6 Q) noX (retK Try.prog Try.f6 Q) (us 1 ((.int .i64 now1) :: us 3 ((.pointer t5) :: us 116 []))) := by kernel_rfl
theorem hoardlaw21_TableDue_l1_raw (jn : Jn) (Q : Value → WP)  (m1 : Nat) (l0 : Sl) (now1 : Int) (t5 : Option Addr) (i6 : Int) : hoardlaw21_TableDue_l1 jn Q  (m1 + 1) l0 now1 t5 i6 = (
  ite2 (decide (i6 < (l0.n : Int))) (
  ite2 (decide (i6 < (150 : Int))) (
  hoardlaw21_TableDue_j2 jn Q m1 l0 now1 t5 i6) (
  hoardlaw21_TableDue_j3 jn Q  now1 t5)) (
  hoardlaw21_TableDue_j3 jn Q  now1 t5)) := by kernel_rfl
theorem hoardlaw21_TableDue_l1_zero (jn : Jn) (Q : Value → WP)  (l0 : Sl) (now1 : Int) (t5 : Option Addr) (i6 : Int) : hoardlaw21_TableDue_l1 jn Q  0 l0 now1 t5 i6 = bot := by kernel_rfl
theorem hoardlaw21_TableDue_raw (jn : Jn) (l0 : Sl) (now1 : Int) (Q : Value → WP) : funJ jn Try.prog hoardlaw21_TableDue_kp Try.f6 [.slice l0.a l0.n l0.c, .int .i64 now1] Q = (
  call1 .bool Try.prog id_hoardlaw21_heavy [.slice l0.a l0.n l0.c] fun (x_1 : Bool) =>
  ite2 x_1 (
  Q (.bool true)) (
  call1 .ptr Try.prog id_table_New [] fun (x_2 : Option Addr) =>
  ite2 (Option.isNone x_2) (
  Q (.bool false)) (
  exM fun m => hoardlaw21_TableDue_l1 jn Q  m l0 now1 x_2 (0 : Int)))) := by kernel_rfl
theorem hoardlaw21_TableDue_def (l0 : Sl) (now1 : Int) (Q : Value → WP) : hoardlaw21_TableDue l0 now1 Q = funJ idJ Try.prog hoardlaw21_TableDue_kp Try.f6 [.slice l0.a l0.n l0.c, .int .i64 now1] Q := rfl
theorem hoardlaw21_TableDue_calls {l0 : Sl} {now1 : Int} {Q : Value → WP} {w : World} (h : hoardlaw21_TableDue l0 now1 Q w) : Calls Try.prog id_hoardlaw21_TableDue #[.slice l0.a l0.n l0.c, .int .i64 now1] w fun e w' => ∃ v, e = .returned v ∧ Q v w' :=
  funJ_calls mixed Try.func6 rfl h

-- hoard/hoardlaw21.TablePlays
def hoardlaw21_TablePlays_kp : KP := ⟨[(17, [0, 3, 4, 5]), (20, [0, 3, 4, 5]), (24, [3, 4])], [(9, [0, 1, 2, 3, 4, 7, 8, 9, 10, 11, 12, 13, 14, 16, 17, 18, 19, 20, 21, 23, 24, 25, 26, 27, 28, 29, 30, 31, 33, 34, 35, 36, 37, 38, 40, 41, 42, 43, 45, 46, 47, 49, 50, 51])]⟩
def hoardlaw21_TablePlays_j2 (jn : Jn) (Q : Value → WP) (m1 : Nat) (l0 : Sl) (t3 : Option Addr) (x4_b : Nat) (x4_o : Nat) (i5 : Int) : WP := jn 20 (fun ρ => codeI Try.prog hoardlaw21_TablePlays_kp jn (cAt [true, true, true, true, false, true, false, false, true] (bodyOf Try.f7)) (lopK Try.prog hoardlaw21_TablePlays_kp jn (cAt [true, true, true, true, false, true, false, false] (bodyOf Try.f7)) (blkX 0 (seqK Try.prog hoardlaw21_TablePlays_kp jn (cAt [true, true, true, true, true] (bodyOf Try.f7)) (retK Try.prog Try.f7 Q) noX (retK Try.prog Try.f7 Q)) noX) (retK Try.prog Try.f7 Q) m1) (blkX 0 (seqK Try.prog hoardlaw21_TablePlays_kp jn (cAt [true, true, true, true, true] (bodyOf Try.f7)) (retK Try.prog Try.f7 Q) noX (retK Try.prog Try.f7 Q)) noX) (retK Try.prog Try.f7 Q) ρ) ((.slice l0.a l0.n l0.c) :: us 2 ((.pointer t3) :: (.pointer (some ⟨x4_b, x4_o, none⟩)) :: (.int .i64 i5) :: us 77 []))
def hoardlaw21_TablePlays_j3 (jn : Jn) (Q : Value → WP)  (t3 : Option Addr) (x4_b : Nat) (x4_o : Nat) : WP := jn 24 (fun ρ => codeI Try.prog hoardlaw21_TablePlays_kp jn (cAt [true, true, true, true, true] (bodyOf Try.f7)) (retK Try.prog Try.f7 Q) noX (retK Try.prog Try.f7 Q) ρ) (us 3 ((.pointer t3) :: (.pointer (some ⟨x4_b, x4_o, none⟩)) :: us 78 []))
def hoardlaw21_TablePlays_l1 (jn : Jn) (Q : Value → WP)  (m1 : Nat) (l0 : Sl) (t3 : Option Addr) (x4_b : Nat) (x4_o : Nat) (i5 : Int) : WP := lop Try.prog hoardlaw21_TablePlays_kp jn (cAt [true, true, true, true, false, true, false, false] (bodyOf Try.f7)) (blkX 0 (seqK Try.prog hoardlaw21_TablePlays_kp jn (cAt [true, true, true, true, true] (bodyOf Try.f7)) (retK Try.prog Try.f7 Q) noX (retK Try.prog Try.f7 Q)) noX) (retK Try.prog Try.f7 Q) m1 ((.slice l0.a l0.n l0.c) :: us 2 ((.pointer t3) :: (.pointer (some ⟨x4_b, x4_o, none⟩)) :: (.int .i64 i5) :: us 77 []))
def hoardlaw21_TablePlays (l0 : Sl) (Q : Value → WP) : WP := funJ idJ Try.prog hoardlaw21_TablePlays_kp Try.f7 [.slice l0.a l0.n l0.c] Q
theorem hoardlaw21_TablePlays_j2_raw (jn : Jn) (Q : Value → WP) (m1 : Nat) (l0 : Sl) (t3 : Option Addr) (x4_b : Nat) (x4_o : Nat) (i5 : Int) : codeI Try.prog hoardlaw21_TablePlays_kp jn (cAt [true, true, true, true, false, true, false, false, true] (bodyOf Try.f7)) (lopK Try.prog hoardlaw21_TablePlays_kp jn (cAt [true, true, true, true, false, true, false, false] (bodyOf Try.f7)) (blkX 0 (seqK Try.prog hoardlaw21_TablePlays_kp jn (cAt [true, true, true, true, true] (bodyOf Try.f7)) (retK Try.prog Try.f7 Q) noX (retK Try.prog Try.f7 Q)) noX) (retK Try.prog Try.f7 Q) m1) (blkX 0 (seqK Try.prog hoardlaw21_TablePlays_kp jn (cAt [true, true, true, true, true] (bodyOf Try.f7)) (retK Try.prog Try.f7 Q) noX (retK Try.prog Try.f7 Q)) noX) (retK Try.prog Try.f7 Q) ((.slice l0.a l0.n l0.c) :: us 2 ((.pointer t3) :: (.pointer (some ⟨x4_b, x4_o, none⟩)) :: (.int .i64 i5) :: us 77 [])) = (
  drawW fun S =>
  idx l0.a l0.n i5 fun b_4 o_5 =>
  ld (.int .i64) b_4 (o_5 + (i5).toNat * 5) fun (x_6 : Int) =>
  ld (.int .i64) b_4 ((o_5 + (i5).toNat * 5) + 1) fun (x_7 : Int) =>
  ld (.int .i64) b_4 (((o_5 + (i5).toNat * 5) + 1) + 1) fun (x_8 : Int) =>
  ld .str b_4 ((((o_5 + (i5).toNat * 5) + 1) + 1) + 1) fun (x_9 : ByteArray) =>
  ld .str b_4 (((((o_5 + (i5).toNat * 5) + 1) + 1) + 1) + 1) fun (x_10 : ByteArray) =>
  keepS true S <|
  call1 .bool Try.prog id_hoardlaw21_act [.pointer t3, .pointer (some ⟨x4_b, x4_o, none⟩), .agg #[.int .i64 x_6, .int .i64 x_7, .int .i64 x_8, .string x_9, .string x_10]] fun (x_11 : Bool) =>
  keepS true S <|
  ite2 (!x_11) (
  keepS true S <|
  keepS true S <|
  keepS true S <|
  allW [
  (Q (.bool false)),
  (Q (.bool false))]) (
  idx l0.a l0.n i5 fun b_12 o_13 =>
  ldS S .str b_12 ((o_13 + (i5).toNat * 5) + 3) fun (x_14 : ByteArray) =>
  idx l0.a l0.n i5 fun b_15 o_16 =>
  ldS S .str b_15 ((o_16 + (i5).toNat * 5) + 3) fun (x_17 : ByteArray) =>
  call1 .bool Try.prog id_table_Table_Has [.pointer t3, .string x_14] fun (x_18 : Bool) =>
  keepS true S <|
  call1 .bool Try.prog id_hoardref21_Table_Has [.pointer (some ⟨x4_b, x4_o, none⟩), .string x_17] fun (x_19 : Bool) =>
  keepS true S <|
  ite2 (!(x_18 == x_19)) (
  keepS true S <|
  allW [
  (Q (.bool false)),
  (Q (.bool false))]) (
  idx l0.a l0.n i5 fun b_20 o_21 =>
  ldS S .str b_20 ((o_21 + (i5).toNat * 5) + 3) fun (x_22 : ByteArray) =>
  idx l0.a l0.n i5 fun b_23 o_24 =>
  ldS S .str b_23 ((o_24 + (i5).toNat * 5) + 3) fun (x_25 : ByteArray) =>
  call1 (.int .i64) Try.prog id_table_Table_End [.pointer t3, .string x_22] fun (x_26 : Int) =>
  keepS true S <|
  call1 (.int .i64) Try.prog id_hoardref21_Table_End [.pointer (some ⟨x4_b, x4_o, none⟩), .string x_25] fun (x_27 : Int) =>
  ite2 (x_26 != x_27) (
  allW [
  (Q (.bool false)),
  (Q (.bool false))]) (
  nilck (some ⟨x4_b, x4_o, none⟩) fun b_28 o_29 =>
  allW [
  (call1 (.int .i64) Try.prog id_table_Table_Len [.pointer t3] fun (x_30 : Int) =>
  ld .slc b_28 o_29 fun (x_31 : Sl) =>
  ite2 (x_30 != (x_31.n : Int)) (
  Q (.bool false)) (
  hoardlaw21_TablePlays_l1 jn Q  m1 l0 t3 x4_b x4_o (IntKind.wrap .i64 (i5 + (1 : Int))))),
  (ld .slc b_28 o_29 fun (x_32 : Sl) =>
  call1 (.int .i64) Try.prog id_table_Table_Len [.pointer t3] fun (x_33 : Int) =>
  ite2 (x_33 != (x_32.n : Int)) (
  Q (.bool false)) (
  hoardlaw21_TablePlays_l1 jn Q  m1 l0 t3 x4_b x4_o (IntKind.wrap .i64 (i5 + (1 : Int)))))])))) := by kernel_rfl
theorem hoardlaw21_TablePlays_j2_def (Q : Value → WP) (m1 : Nat) (l0 : Sl) (t3 : Option Addr) (x4_b : Nat) (x4_o : Nat) (i5 : Int) : hoardlaw21_TablePlays_j2 idJ Q m1 l0 t3 x4_b x4_o i5 = codeI Try.prog hoardlaw21_TablePlays_kp idJ (cAt [true, true, true, true, false, true, false, false, true] (bodyOf Try.f7)) (lopK Try.prog hoardlaw21_TablePlays_kp idJ (cAt [true, true, true, true, false, true, false, false] (bodyOf Try.f7)) (blkX 0 (seqK Try.prog hoardlaw21_TablePlays_kp idJ (cAt [true, true, true, true, true] (bodyOf Try.f7)) (retK Try.prog Try.f7 Q) noX (retK Try.prog Try.f7 Q)) noX) (retK Try.prog Try.f7 Q) m1) (blkX 0 (seqK Try.prog hoardlaw21_TablePlays_kp idJ (cAt [true, true, true, true, true] (bodyOf Try.f7)) (retK Try.prog Try.f7 Q) noX (retK Try.prog Try.f7 Q)) noX) (retK Try.prog Try.f7 Q) ((.slice l0.a l0.n l0.c) :: us 2 ((.pointer t3) :: (.pointer (some ⟨x4_b, x4_o, none⟩)) :: (.int .i64 i5) :: us 77 [])) := by kernel_rfl
theorem hoardlaw21_TablePlays_j3_raw (jn : Jn) (Q : Value → WP)  (t3 : Option Addr) (x4_b : Nat) (x4_o : Nat) : codeI Try.prog hoardlaw21_TablePlays_kp jn (cAt [true, true, true, true, true] (bodyOf Try.f7)) (retK Try.prog Try.f7 Q) noX (retK Try.prog Try.f7 Q) (us 3 ((.pointer t3) :: (.pointer (some ⟨x4_b, x4_o, none⟩)) :: us 78 [])) = (
  call1 .slc Try.prog id_table_Table_Keys [.pointer t3] fun (x_34 : Sl) =>
  call1 .slc Try.prog id_hoardref21_Table_Keys [.pointer (some ⟨x4_b, x4_o, none⟩)] fun (x_35 : Sl) =>
  call1 .bool Try.prog id_hoardlaw21_texts [.slice x_34.a x_34.n x_34.c, .slice x_35.a x_35.n x_35.c] fun (x_36 : Bool) =>
  ite2 x_36 (
  call1 .bool Try.prog id_hoardlaw21_known [] fun (x_37 : Bool) =>
  Q (.bool x_37)) (
  Q (.bool false))) := by kernel_rfl
theorem hoardlaw21_TablePlays_j3_def (Q : Value → WP)  (t3 : Option Addr) (x4_b : Nat) (x4_o : Nat) : hoardlaw21_TablePlays_j3 idJ Q  t3 x4_b x4_o = codeI Try.prog hoardlaw21_TablePlays_kp idJ (cAt [true, true, true, true, true] (bodyOf Try.f7)) (retK Try.prog Try.f7 Q) noX (retK Try.prog Try.f7 Q) (us 3 ((.pointer t3) :: (.pointer (some ⟨x4_b, x4_o, none⟩)) :: us 78 [])) := by kernel_rfl
theorem hoardlaw21_TablePlays_l1_raw (jn : Jn) (Q : Value → WP)  (m1 : Nat) (l0 : Sl) (t3 : Option Addr) (x4_b : Nat) (x4_o : Nat) (i5 : Int) : hoardlaw21_TablePlays_l1 jn Q  (m1 + 1) l0 t3 x4_b x4_o i5 = (
  ite2 (decide (i5 < (l0.n : Int))) (
  ite2 (decide (i5 < (150 : Int))) (
  hoardlaw21_TablePlays_j2 jn Q m1 l0 t3 x4_b x4_o i5) (
  hoardlaw21_TablePlays_j3 jn Q  t3 x4_b x4_o)) (
  hoardlaw21_TablePlays_j3 jn Q  t3 x4_b x4_o)) := by kernel_rfl
theorem hoardlaw21_TablePlays_l1_zero (jn : Jn) (Q : Value → WP)  (l0 : Sl) (t3 : Option Addr) (x4_b : Nat) (x4_o : Nat) (i5 : Int) : hoardlaw21_TablePlays_l1 jn Q  0 l0 t3 x4_b x4_o i5 = bot := by kernel_rfl
theorem hoardlaw21_TablePlays_raw (jn : Jn) (l0 : Sl) (Q : Value → WP) : funJ jn Try.prog hoardlaw21_TablePlays_kp Try.f7 [.slice l0.a l0.n l0.c] Q = (
  call1 .bool Try.prog id_hoardlaw21_heavy [.slice l0.a l0.n l0.c] fun (x_1 : Bool) =>
  ite2 x_1 (
  Q (.bool true)) (
  call1 .ptr Try.prog id_table_New [] fun (x_2 : Option Addr) =>
  newB [.slice (none : Option Addr) 0 0] ty_hoardref21_Table fun b_3 =>
  ite2 (Option.isNone x_2) (
  Q (.bool false)) (
  exM fun m => hoardlaw21_TablePlays_l1 jn Q  m l0 x_2 b_3 0 (0 : Int)))) := by kernel_rfl
theorem hoardlaw21_TablePlays_def (l0 : Sl) (Q : Value → WP) : hoardlaw21_TablePlays l0 Q = funJ idJ Try.prog hoardlaw21_TablePlays_kp Try.f7 [.slice l0.a l0.n l0.c] Q := rfl
theorem hoardlaw21_TablePlays_calls {l0 : Sl} {Q : Value → WP} {w : World} (h : hoardlaw21_TablePlays l0 Q w) : Calls Try.prog id_hoardlaw21_TablePlays #[.slice l0.a l0.n l0.c] w fun e w' => ∃ v, e = .returned v ∧ Q v w' :=
  funJ_calls mixed Try.func7 rfl h

-- hoard/hoardlaw21.TableOfNothing
def hoardlaw21_TableOfNothing_kp : KP := ⟨[], []⟩
def hoardlaw21_TableOfNothing (key0 : ByteArray) (now1 : Int) (Q : Value → WP) : WP := funJ idJ Try.prog hoardlaw21_TableOfNothing_kp Try.f8 [.string key0, .int .i64 now1] Q
theorem hoardlaw21_TableOfNothing_raw (jn : Jn) (key0 : ByteArray) (now1 : Int) (Q : Value → WP) : funJ jn Try.prog hoardlaw21_TableOfNothing_kp Try.f8 [.string key0, .int .i64 now1] Q = (
  ite2 (decide ((key0.size : Int) > (60 : Int))) (
  Q (.bool true)) (
  call2 .bool (.int .i64) Try.prog id_table_Table_Put [.pointer (none : Option Addr), .string key0, .string str_x, .int .i64 now1, .int .i64 (0 : Int)] fun (x_1 : Bool) (x_2 : Int) =>
  call2 .str .bool Try.prog id_table_Table_Get [.pointer (none : Option Addr), .string key0, .int .i64 now1] fun (x_3 : ByteArray) (x_4 : Bool) =>
  ite2 (!x_1) (
  ite2 (x_2 == (1 : Int)) (
  ite2 (sEq x_3 str_empty) (
  ite2 (!x_4) (
  call1 .bool Try.prog id_table_Table_Has [.pointer (none : Option Addr), .string key0] fun (x_5 : Bool) =>
  ite2 (!x_5) (
  call1 .bool Try.prog id_table_Table_Delete [.pointer (none : Option Addr), .string key0] fun (x_6 : Bool) =>
  ite2 (!x_6) (
  call1 .slc Try.prog id_table_Table_Due [.pointer (none : Option Addr), .int .i64 now1] fun (x_7 : Sl) =>
  ite2 ((x_7.n : Int) == (0 : Int)) (
  call1 (.int .i64) Try.prog id_table_Table_End [.pointer (none : Option Addr), .string key0] fun (x_8 : Int) =>
  ite2 (x_8 == (0 : Int)) (
  call1 .slc Try.prog id_table_Table_Keys [.pointer (none : Option Addr)] fun (x_9 : Sl) =>
  ite2 ((x_9.n : Int) == (0 : Int)) (
  call1 (.int .i64) Try.prog id_table_Table_Len [.pointer (none : Option Addr)] fun (x_10 : Int) =>
  ite2 (x_10 == (0 : Int)) (
  call1 .bool Try.prog id_hoardlaw21_known [] fun (x_11 : Bool) =>
  Q (.bool x_11)) (
  Q (.bool false))) (
  Q (.bool false))) (
  Q (.bool false))) (
  Q (.bool false))) (
  Q (.bool false))) (
  Q (.bool false))) (
  Q (.bool false))) (
  Q (.bool false))) (
  Q (.bool false))) (
  Q (.bool false)))) := by kernel_rfl
theorem hoardlaw21_TableOfNothing_def (key0 : ByteArray) (now1 : Int) (Q : Value → WP) : hoardlaw21_TableOfNothing key0 now1 Q = funJ idJ Try.prog hoardlaw21_TableOfNothing_kp Try.f8 [.string key0, .int .i64 now1] Q := rfl
theorem hoardlaw21_TableOfNothing_calls {key0 : ByteArray} {now1 : Int} {Q : Value → WP} {w : World} (h : hoardlaw21_TableOfNothing key0 now1 Q w) : Calls Try.prog id_hoardlaw21_TableOfNothing #[.string key0, .int .i64 now1] w fun e w' => ∃ v, e = .returned v ∧ Q v w' :=
  funJ_calls mixed Try.func8 rfl h

-- hoard/hoardref1.Key
def hoardref1_Key_kp : KP := ⟨[(7, [0, 3]), (10, [0, 3]), (14, [0, 3, 4, 5]), (18, [0])], []⟩
def hoardref1_Key_j3 (jn : Jn) (Q : Value → WP) (m1 : Nat) (s0 : ByteArray) (i3 : Int) (c4 : Int) (ok5 : Bool) : WP := jn 14 (fun ρ => codeI Try.prog hoardref1_Key_kp jn (cAt [true, false, true, false, false, true, false, false, true, true] (bodyOf Try.f9)) (seqK Try.prog hoardref1_Key_kp jn (cAt [true, false, true, false, false, true, true] (bodyOf Try.f9)) (lopK Try.prog hoardref1_Key_kp jn (cAt [true, false, true, false, false] (bodyOf Try.f9)) (blkX 0 (seqK Try.prog hoardref1_Key_kp jn (cAt [true, true] (bodyOf Try.f9)) (retK Try.prog Try.f9 Q) noX (retK Try.prog Try.f9 Q)) noX) (retK Try.prog Try.f9 Q) m1) (blkX 0 (seqK Try.prog hoardref1_Key_kp jn (cAt [true, true] (bodyOf Try.f9)) (retK Try.prog Try.f9 Q) noX (retK Try.prog Try.f9 Q)) noX) (retK Try.prog Try.f9 Q)) (blkX 1 (seqK Try.prog hoardref1_Key_kp jn (cAt [true, false, true, false, false, true, true] (bodyOf Try.f9)) (lopK Try.prog hoardref1_Key_kp jn (cAt [true, false, true, false, false] (bodyOf Try.f9)) (blkX 0 (seqK Try.prog hoardref1_Key_kp jn (cAt [true, true] (bodyOf Try.f9)) (retK Try.prog Try.f9 Q) noX (retK Try.prog Try.f9 Q)) noX) (retK Try.prog Try.f9 Q) m1) (blkX 0 (seqK Try.prog hoardref1_Key_kp jn (cAt [true, true] (bodyOf Try.f9)) (retK Try.prog Try.f9 Q) noX (retK Try.prog Try.f9 Q)) noX) (retK Try.prog Try.f9 Q)) (blkX 0 (seqK Try.prog hoardref1_Key_kp jn (cAt [true, true] (bodyOf Try.f9)) (retK Try.prog Try.f9 Q) noX (retK Try.prog Try.f9 Q)) noX)) (retK Try.prog Try.f9 Q) ρ) ((.string s0) :: us 2 ((.int .i64 i3) :: (.int .u8 c4) :: (.bool ok5) :: us 65 []))
def hoardref1_Key_j2 (jn : Jn) (Q : Value → WP) (m1 : Nat) (s0 : ByteArray) (i3 : Int) : WP := jn 10 (fun ρ => codeI Try.prog hoardref1_Key_kp jn (cAt [true, false, true, false, false, true] (bodyOf Try.f9)) (lopK Try.prog hoardref1_Key_kp jn (cAt [true, false, true, false, false] (bodyOf Try.f9)) (blkX 0 (seqK Try.prog hoardref1_Key_kp jn (cAt [true, true] (bodyOf Try.f9)) (retK Try.prog Try.f9 Q) noX (retK Try.prog Try.f9 Q)) noX) (retK Try.prog Try.f9 Q) m1) (blkX 0 (seqK Try.prog hoardref1_Key_kp jn (cAt [true, true] (bodyOf Try.f9)) (retK Try.prog Try.f9 Q) noX (retK Try.prog Try.f9 Q)) noX) (retK Try.prog Try.f9 Q) ρ) ((.string s0) :: us 2 ((.int .i64 i3) :: us 67 []))
def hoardref1_Key_j4 (jn : Jn) (Q : Value → WP)  (s0 : ByteArray) : WP := jn 18 (fun ρ => codeI Try.prog hoardref1_Key_kp jn (cAt [true, true] (bodyOf Try.f9)) (retK Try.prog Try.f9 Q) noX (retK Try.prog Try.f9 Q) ρ) ((.string s0) :: us 70 [])
def hoardref1_Key_l1 (jn : Jn) (Q : Value → WP)  (m1 : Nat) (s0 : ByteArray) (i3 : Int) : WP := lop Try.prog hoardref1_Key_kp jn (cAt [true, false, true, false, false] (bodyOf Try.f9)) (blkX 0 (seqK Try.prog hoardref1_Key_kp jn (cAt [true, true] (bodyOf Try.f9)) (retK Try.prog Try.f9 Q) noX (retK Try.prog Try.f9 Q)) noX) (retK Try.prog Try.f9 Q) m1 ((.string s0) :: us 2 ((.int .i64 i3) :: us 67 []))
def hoardref1_Key (s0 : ByteArray) (Q : Value → WP) : WP := funJ idJ Try.prog hoardref1_Key_kp Try.f9 [.string s0] Q
theorem hoardref1_Key_j3_raw (jn : Jn) (Q : Value → WP) (m1 : Nat) (s0 : ByteArray) (i3 : Int) (c4 : Int) (ok5 : Bool) : codeI Try.prog hoardref1_Key_kp jn (cAt [true, false, true, false, false, true, false, false, true, true] (bodyOf Try.f9)) (seqK Try.prog hoardref1_Key_kp jn (cAt [true, false, true, false, false, true, true] (bodyOf Try.f9)) (lopK Try.prog hoardref1_Key_kp jn (cAt [true, false, true, false, false] (bodyOf Try.f9)) (blkX 0 (seqK Try.prog hoardref1_Key_kp jn (cAt [true, true] (bodyOf Try.f9)) (retK Try.prog Try.f9 Q) noX (retK Try.prog Try.f9 Q)) noX) (retK Try.prog Try.f9 Q) m1) (blkX 0 (seqK Try.prog hoardref1_Key_kp jn (cAt [true, true] (bodyOf Try.f9)) (retK Try.prog Try.f9 Q) noX (retK Try.prog Try.f9 Q)) noX) (retK Try.prog Try.f9 Q)) (blkX 1 (seqK Try.prog hoardref1_Key_kp jn (cAt [true, false, true, false, false, true, true] (bodyOf Try.f9)) (lopK Try.prog hoardref1_Key_kp jn (cAt [true, false, true, false, false] (bodyOf Try.f9)) (blkX 0 (seqK Try.prog hoardref1_Key_kp jn (cAt [true, true] (bodyOf Try.f9)) (retK Try.prog Try.f9 Q) noX (retK Try.prog Try.f9 Q)) noX) (retK Try.prog Try.f9 Q) m1) (blkX 0 (seqK Try.prog hoardref1_Key_kp jn (cAt [true, true] (bodyOf Try.f9)) (retK Try.prog Try.f9 Q) noX (retK Try.prog Try.f9 Q)) noX) (retK Try.prog Try.f9 Q)) (blkX 0 (seqK Try.prog hoardref1_Key_kp jn (cAt [true, true] (bodyOf Try.f9)) (retK Try.prog Try.f9 Q) noX (retK Try.prog Try.f9 Q)) noX)) (retK Try.prog Try.f9 Q) ((.string s0) :: us 2 ((.int .i64 i3) :: (.int .u8 c4) :: (.bool ok5) :: us 65 [])) = (
  ite2 (!ok5) (
  ite2 (c4 != (95 : Int)) (
  ite2 (c4 != (45 : Int)) (
  ite2 (c4 != (46 : Int)) (
  ite2 (c4 != (47 : Int)) (
  ite2 (c4 != (58 : Int)) (
  Q (.bool false)) (
  hoardref1_Key_l1 jn Q  m1 s0 (IntKind.wrap .i64 (i3 + (1 : Int))))) (
  hoardref1_Key_l1 jn Q  m1 s0 (IntKind.wrap .i64 (i3 + (1 : Int))))) (
  hoardref1_Key_l1 jn Q  m1 s0 (IntKind.wrap .i64 (i3 + (1 : Int))))) (
  hoardref1_Key_l1 jn Q  m1 s0 (IntKind.wrap .i64 (i3 + (1 : Int))))) (
  hoardref1_Key_l1 jn Q  m1 s0 (IntKind.wrap .i64 (i3 + (1 : Int))))) (
  hoardref1_Key_l1 jn Q  m1 s0 (IntKind.wrap .i64 (i3 + (1 : Int))))) := by kernel_rfl
theorem hoardref1_Key_j3_def (Q : Value → WP) (m1 : Nat) (s0 : ByteArray) (i3 : Int) (c4 : Int) (ok5 : Bool) : hoardref1_Key_j3 idJ Q m1 s0 i3 c4 ok5 = codeI Try.prog hoardref1_Key_kp idJ (cAt [true, false, true, false, false, true, false, false, true, true] (bodyOf Try.f9)) (seqK Try.prog hoardref1_Key_kp idJ (cAt [true, false, true, false, false, true, true] (bodyOf Try.f9)) (lopK Try.prog hoardref1_Key_kp idJ (cAt [true, false, true, false, false] (bodyOf Try.f9)) (blkX 0 (seqK Try.prog hoardref1_Key_kp idJ (cAt [true, true] (bodyOf Try.f9)) (retK Try.prog Try.f9 Q) noX (retK Try.prog Try.f9 Q)) noX) (retK Try.prog Try.f9 Q) m1) (blkX 0 (seqK Try.prog hoardref1_Key_kp idJ (cAt [true, true] (bodyOf Try.f9)) (retK Try.prog Try.f9 Q) noX (retK Try.prog Try.f9 Q)) noX) (retK Try.prog Try.f9 Q)) (blkX 1 (seqK Try.prog hoardref1_Key_kp idJ (cAt [true, false, true, false, false, true, true] (bodyOf Try.f9)) (lopK Try.prog hoardref1_Key_kp idJ (cAt [true, false, true, false, false] (bodyOf Try.f9)) (blkX 0 (seqK Try.prog hoardref1_Key_kp idJ (cAt [true, true] (bodyOf Try.f9)) (retK Try.prog Try.f9 Q) noX (retK Try.prog Try.f9 Q)) noX) (retK Try.prog Try.f9 Q) m1) (blkX 0 (seqK Try.prog hoardref1_Key_kp idJ (cAt [true, true] (bodyOf Try.f9)) (retK Try.prog Try.f9 Q) noX (retK Try.prog Try.f9 Q)) noX) (retK Try.prog Try.f9 Q)) (blkX 0 (seqK Try.prog hoardref1_Key_kp idJ (cAt [true, true] (bodyOf Try.f9)) (retK Try.prog Try.f9 Q) noX (retK Try.prog Try.f9 Q)) noX)) (retK Try.prog Try.f9 Q) ((.string s0) :: us 2 ((.int .i64 i3) :: (.int .u8 c4) :: (.bool ok5) :: us 65 [])) := by kernel_rfl
theorem hoardref1_Key_j2_raw (jn : Jn) (Q : Value → WP) (m1 : Nat) (s0 : ByteArray) (i3 : Int) : codeI Try.prog hoardref1_Key_kp jn (cAt [true, false, true, false, false, true] (bodyOf Try.f9)) (lopK Try.prog hoardref1_Key_kp jn (cAt [true, false, true, false, false] (bodyOf Try.f9)) (blkX 0 (seqK Try.prog hoardref1_Key_kp jn (cAt [true, true] (bodyOf Try.f9)) (retK Try.prog Try.f9 Q) noX (retK Try.prog Try.f9 Q)) noX) (retK Try.prog Try.f9 Q) m1) (blkX 0 (seqK Try.prog hoardref1_Key_kp jn (cAt [true, true] (bodyOf Try.f9)) (retK Try.prog Try.f9 Q) noX (retK Try.prog Try.f9 Q)) noX) (retK Try.prog Try.f9 Q) ((.string s0) :: us 2 ((.int .i64 i3) :: us 67 [])) = (
  when ((0 : Int) ≤ i3 ∧ i3 < (s0.size : Int)) <|
  ite2 (decide ((byteAt s0 (i3).toNat) ≥ (97 : Int))) (
  ite2 (decide ((byteAt s0 (i3).toNat) ≤ (122 : Int))) (
  hoardref1_Key_j3 jn Q m1 s0 i3 (byteAt s0 (i3).toNat) true) (
  ite2 (decide ((byteAt s0 (i3).toNat) ≥ (65 : Int))) (
  ite2 (decide ((byteAt s0 (i3).toNat) ≤ (90 : Int))) (
  hoardref1_Key_j3 jn Q m1 s0 i3 (byteAt s0 (i3).toNat) true) (
  ite2 (decide ((byteAt s0 (i3).toNat) ≥ (48 : Int))) (
  hoardref1_Key_j3 jn Q m1 s0 i3 (byteAt s0 (i3).toNat) (decide ((byteAt s0 (i3).toNat) ≤ (57 : Int)))) (
  hoardref1_Key_j3 jn Q m1 s0 i3 (byteAt s0 (i3).toNat) false))) (
  ite2 (decide ((byteAt s0 (i3).toNat) ≥ (48 : Int))) (
  hoardref1_Key_j3 jn Q m1 s0 i3 (byteAt s0 (i3).toNat) (decide ((byteAt s0 (i3).toNat) ≤ (57 : Int)))) (
  hoardref1_Key_j3 jn Q m1 s0 i3 (byteAt s0 (i3).toNat) false)))) (
  ite2 (decide ((byteAt s0 (i3).toNat) ≥ (65 : Int))) (
  ite2 (decide ((byteAt s0 (i3).toNat) ≤ (90 : Int))) (
  hoardref1_Key_j3 jn Q m1 s0 i3 (byteAt s0 (i3).toNat) true) (
  ite2 (decide ((byteAt s0 (i3).toNat) ≥ (48 : Int))) (
  hoardref1_Key_j3 jn Q m1 s0 i3 (byteAt s0 (i3).toNat) (decide ((byteAt s0 (i3).toNat) ≤ (57 : Int)))) (
  hoardref1_Key_j3 jn Q m1 s0 i3 (byteAt s0 (i3).toNat) false))) (
  ite2 (decide ((byteAt s0 (i3).toNat) ≥ (48 : Int))) (
  hoardref1_Key_j3 jn Q m1 s0 i3 (byteAt s0 (i3).toNat) (decide ((byteAt s0 (i3).toNat) ≤ (57 : Int)))) (
  hoardref1_Key_j3 jn Q m1 s0 i3 (byteAt s0 (i3).toNat) false)))) := by kernel_rfl
theorem hoardref1_Key_j2_def (Q : Value → WP) (m1 : Nat) (s0 : ByteArray) (i3 : Int) : hoardref1_Key_j2 idJ Q m1 s0 i3 = codeI Try.prog hoardref1_Key_kp idJ (cAt [true, false, true, false, false, true] (bodyOf Try.f9)) (lopK Try.prog hoardref1_Key_kp idJ (cAt [true, false, true, false, false] (bodyOf Try.f9)) (blkX 0 (seqK Try.prog hoardref1_Key_kp idJ (cAt [true, true] (bodyOf Try.f9)) (retK Try.prog Try.f9 Q) noX (retK Try.prog Try.f9 Q)) noX) (retK Try.prog Try.f9 Q) m1) (blkX 0 (seqK Try.prog hoardref1_Key_kp idJ (cAt [true, true] (bodyOf Try.f9)) (retK Try.prog Try.f9 Q) noX (retK Try.prog Try.f9 Q)) noX) (retK Try.prog Try.f9 Q) ((.string s0) :: us 2 ((.int .i64 i3) :: us 67 [])) := by kernel_rfl
theorem hoardref1_Key_j4_raw (jn : Jn) (Q : Value → WP)  (s0 : ByteArray) : codeI Try.prog hoardref1_Key_kp jn (cAt [true, true] (bodyOf Try.f9)) (retK Try.prog Try.f9 Q) noX (retK Try.prog Try.f9 Q) ((.string s0) :: us 70 []) = (
  ite2 (decide ((s0.size : Int) ≥ (1 : Int))) (
  Q (.bool (decide ((s0.size : Int) ≤ (24 : Int))))) (
  Q (.bool false))) := by kernel_rfl
theorem hoardref1_Key_j4_def (Q : Value → WP)  (s0 : ByteArray) : hoardref1_Key_j4 idJ Q  s0 = codeI Try.prog hoardref1_Key_kp idJ (cAt [true, true] (bodyOf Try.f9)) (retK Try.prog Try.f9 Q) noX (retK Try.prog Try.f9 Q) ((.string s0) :: us 70 []) := by kernel_rfl
theorem hoardref1_Key_l1_raw (jn : Jn) (Q : Value → WP)  (m1 : Nat) (s0 : ByteArray) (i3 : Int) : hoardref1_Key_l1 jn Q  (m1 + 1) s0 i3 = (
  ite2 (decide (i3 < (s0.size : Int))) (
  ite2 (decide (i3 ≤ (24 : Int))) (
  hoardref1_Key_j2 jn Q m1 s0 i3) (
  hoardref1_Key_j4 jn Q  s0)) (
  hoardref1_Key_j4 jn Q  s0)) := by kernel_rfl
theorem hoardref1_Key_l1_zero (jn : Jn) (Q : Value → WP)  (s0 : ByteArray) (i3 : Int) : hoardref1_Key_l1 jn Q  0 s0 i3 = bot := by kernel_rfl
theorem hoardref1_Key_raw (jn : Jn) (s0 : ByteArray) (Q : Value → WP) : funJ jn Try.prog hoardref1_Key_kp Try.f9 [.string s0] Q = (
  exM fun m => hoardref1_Key_l1 jn Q  m s0 (0 : Int)) := by kernel_rfl
theorem hoardref1_Key_def (s0 : ByteArray) (Q : Value → WP) : hoardref1_Key s0 Q = funJ idJ Try.prog hoardref1_Key_kp Try.f9 [.string s0] Q := rfl
theorem hoardref1_Key_calls {s0 : ByteArray} {Q : Value → WP} {w : World} (h : hoardref1_Key s0 Q w) : Calls Try.prog id_hoardref1_Key #[.string s0] w fun e w' => ∃ v, e = .returned v ∧ Q v w' :=
  funJ_calls mixed Try.func9 rfl h

-- hoard/hoardlaw21.known
def hoardlaw21_known_kp : KP := ⟨[], []⟩
def hoardlaw21_known  (Q : Value → WP) : WP := funJ idJ Try.prog hoardlaw21_known_kp Try.f10 [] Q
theorem hoardlaw21_known_raw (jn : Jn)  (Q : Value → WP) : funJ jn Try.prog hoardlaw21_known_kp Try.f10 [] Q = (
  call1 .ptr Try.prog id_table_New [] fun (x_1 : Option Addr) =>
  ite2 (Option.isNone x_1) (
  Q (.bool false)) (
  call2 .bool (.int .i64) Try.prog id_table_Table_Put [.pointer x_1, .string str_a, .string str_x, .int .i64 (5 : Int), .int .i64 (3 : Int)] fun (x_2 : Bool) (x_3 : Int) =>
  call2 .str .bool Try.prog id_table_Table_Get [.pointer x_1, .string str_a, .int .i64 (7 : Int)] fun (x_4 : ByteArray) (x_5 : Bool) =>
  call2 .str .bool Try.prog id_table_Table_Get [.pointer x_1, .string str_a, .int .i64 (8 : Int)] fun (x_6 : ByteArray) (x_7 : Bool) =>
  ite2 x_2 (
  ite2 (x_3 == (0 : Int)) (
  ite2 x_5 (
  ite2 (sEq x_4 str_x) (
  ite2 (!x_7) (
  call1 .slc Try.prog id_table_Table_Due [.pointer x_1, .int .i64 (8 : Int)] fun (x_8 : Sl) =>
  newB [.string str_a] ty_string fun b_9 =>
  call1 .bool Try.prog id_hoardlaw21_texts [.slice x_8.a x_8.n x_8.c, .slice (some ⟨b_9, 0, none⟩) 1 1] fun (x_10 : Bool) =>
  Q (.bool x_10)) (
  Q (.bool false))) (
  Q (.bool false))) (
  Q (.bool false))) (
  Q (.bool false))) (
  Q (.bool false)))) := by kernel_rfl
theorem hoardlaw21_known_def  (Q : Value → WP) : hoardlaw21_known  Q = funJ idJ Try.prog hoardlaw21_known_kp Try.f10 [] Q := rfl
theorem hoardlaw21_known_calls {Q : Value → WP} {w : World} (h : hoardlaw21_known Q w) : Calls Try.prog id_hoardlaw21_known #[] w fun e w' => ∃ v, e = .returned v ∧ Q v w' :=
  funJ_calls mixed Try.func10 rfl h

-- hoard/table.New
def table_New_kp : KP := ⟨[], []⟩
def table_New  (Q : Value → WP) : WP := funJ idJ Try.prog table_New_kp Try.f11 [] Q
theorem table_New_raw (jn : Jn)  (Q : Value → WP) : funJ jn Try.prog table_New_kp Try.f11 [] Q = (
  call1 .ptr Try.prog id_index_New_table_value [.int .u64 (0 : Int)] fun (x_1 : Option Addr) =>
  newB [.pointer x_1] ty_table_Table fun b_2 =>
  Q (.pointer (some ⟨b_2, 0, none⟩))) := by kernel_rfl
theorem table_New_def  (Q : Value → WP) : table_New  Q = funJ idJ Try.prog table_New_kp Try.f11 [] Q := rfl
theorem table_New_calls {Q : Value → WP} {w : World} (h : table_New Q w) : Calls Try.prog id_table_New #[] w fun e w' => ∃ v, e = .returned v ∧ Q v w' :=
  funJ_calls mixed Try.func11 rfl h

-- (*hoard/table.Table).Put
def table_Table_Put_kp : KP := ⟨[(20, [0, 1, 2, 3, 4]), (26, [0, 1, 12])], [(12, [0, 1, 2, 3, 4, 7, 8])]⟩
def table_Table_Put_j2 (jn : Jn) (Q : Value → WP)  (t0 : Option Addr) (key1 : ByteArray) (v12_b : Nat) (v12_o : Nat) : WP := jn 26 (fun ρ => codeI Try.prog table_Table_Put_kp jn (cAt [true, true, true, true] (bodyOf Try.f12)) (retK Try.prog Try.f12 Q) noX (retK Try.prog Try.f12 Q) ρ) ((.pointer t0) :: (.string key1) :: us 10 ((.pointer (some ⟨v12_b, v12_o, none⟩)) :: us 41 []))
def table_Table_Put_j1 (jn : Jn) (Q : Value → WP)  (t0 : Option Addr) (key1 : ByteArray) (val2 : ByteArray) (now3 : Int) (life4 : Int) : WP := jn 20 (fun ρ => codeI Try.prog table_Table_Put_kp jn (cAt [true, true] (bodyOf Try.f12)) (retK Try.prog Try.f12 Q) noX (retK Try.prog Try.f12 Q) ρ) ((.pointer t0) :: (.string key1) :: (.string val2) :: (.int .i64 now3) :: (.int .i64 life4) :: us 49 [])
def table_Table_Put (t0 : Option Addr) (key1 : ByteArray) (val2 : ByteArray) (now3 : Int) (life4 : Int) (Q : Value → WP) : WP := funJ idJ Try.prog table_Table_Put_kp Try.f12 [.pointer t0, .string key1, .string val2, .int .i64 now3, .int .i64 life4] Q
theorem table_Table_Put_j2_raw (jn : Jn) (Q : Value → WP)  (t0 : Option Addr) (key1 : ByteArray) (v12_b : Nat) (v12_o : Nat) : codeI Try.prog table_Table_Put_kp jn (cAt [true, true, true, true] (bodyOf Try.f12)) (retK Try.prog Try.f12 Q) noX (retK Try.prog Try.f12 Q) ((.pointer t0) :: (.string key1) :: us 10 ((.pointer (some ⟨v12_b, v12_o, none⟩)) :: us 41 [])) = (
  drawW fun S =>
  nilck t0 fun b_3 o_4 =>
  ldS S .ptr b_3 o_4 fun (x_5 : Option Addr) =>
  ld .str v12_b v12_o fun (x_6 : ByteArray) =>
  ld (.int .i64) v12_b (v12_o + 1) fun (x_7 : Int) =>
  keepS true S <|
  call1 .bool Try.prog id_index_Index_table_value_Put [.pointer x_5, .string key1, .agg #[.string x_6, .int .i64 x_7]] fun (x_8 : Bool) =>
  Q (.tuple #[.bool x_8, .int .i64 (0 : Int)])) := by kernel_rfl
theorem table_Table_Put_j2_def (Q : Value → WP)  (t0 : Option Addr) (key1 : ByteArray) (v12_b : Nat) (v12_o : Nat) : table_Table_Put_j2 idJ Q  t0 key1 v12_b v12_o = codeI Try.prog table_Table_Put_kp idJ (cAt [true, true, true, true] (bodyOf Try.f12)) (retK Try.prog Try.f12 Q) noX (retK Try.prog Try.f12 Q) ((.pointer t0) :: (.string key1) :: us 10 ((.pointer (some ⟨v12_b, v12_o, none⟩)) :: us 41 [])) := by kernel_rfl
theorem table_Table_Put_j1_raw (jn : Jn) (Q : Value → WP)  (t0 : Option Addr) (key1 : ByteArray) (val2 : ByteArray) (now3 : Int) (life4 : Int) : codeI Try.prog table_Table_Put_kp jn (cAt [true, true] (bodyOf Try.f12)) (retK Try.prog Try.f12 Q) noX (retK Try.prog Try.f12 Q) ((.pointer t0) :: (.string key1) :: (.string val2) :: (.int .i64 now3) :: (.int .i64 life4) :: us 49 []) = (
  newB [.string str_empty, .int .i64 (0 : Int)] ty_table_value fun b_2 =>
  st b_2 0 (.string val2) <|
  st b_2 1 (.int .i64 (0 : Int)) <|
  ite2 (decide (life4 > (0 : Int))) (
  st b_2 1 (.int .i64 (IntKind.wrap .i64 (now3 + life4))) <|
  table_Table_Put_j2 jn Q  t0 key1 b_2 0) (
  table_Table_Put_j2 jn Q  t0 key1 b_2 0)) := by kernel_rfl
theorem table_Table_Put_j1_def (Q : Value → WP)  (t0 : Option Addr) (key1 : ByteArray) (val2 : ByteArray) (now3 : Int) (life4 : Int) : table_Table_Put_j1 idJ Q  t0 key1 val2 now3 life4 = codeI Try.prog table_Table_Put_kp idJ (cAt [true, true] (bodyOf Try.f12)) (retK Try.prog Try.f12 Q) noX (retK Try.prog Try.f12 Q) ((.pointer t0) :: (.string key1) :: (.string val2) :: (.int .i64 now3) :: (.int .i64 life4) :: us 49 []) := by kernel_rfl
theorem table_Table_Put_raw (jn : Jn) (t0 : Option Addr) (key1 : ByteArray) (val2 : ByteArray) (now3 : Int) (life4 : Int) (Q : Value → WP) : funJ jn Try.prog table_Table_Put_kp Try.f12 [.pointer t0, .string key1, .string val2, .int .i64 now3, .int .i64 life4] Q = (
  ite2 (Option.isNone t0) (
  Q (.tuple #[.bool false, .int .i64 (1 : Int)])) (
  call1 .bool Try.prog id_mix_Key [.string key1] fun (x_1 : Bool) =>
  ite2 (!x_1) (
  Q (.tuple #[.bool false, .int .i64 (2 : Int)])) (
  ite2 (decide ((val2.size : Int) > (64 : Int))) (
  Q (.tuple #[.bool false, .int .i64 (3 : Int)])) (
  ite2 (decide (now3 < (0 : Int))) (
  Q (.tuple #[.bool false, .int .i64 (1 : Int)])) (
  ite2 (decide (now3 > (1125899906842624 : Int))) (
  Q (.tuple #[.bool false, .int .i64 (1 : Int)])) (
  ite2 (decide (life4 < (0 : Int))) (
  Q (.tuple #[.bool false, .int .i64 (1 : Int)])) (
  ite2 (decide (life4 > (1099511627776 : Int))) (
  Q (.tuple #[.bool false, .int .i64 (1 : Int)])) (
  table_Table_Put_j1 jn Q  t0 key1 val2 now3 life4)))))))) := by kernel_rfl
theorem table_Table_Put_def (t0 : Option Addr) (key1 : ByteArray) (val2 : ByteArray) (now3 : Int) (life4 : Int) (Q : Value → WP) : table_Table_Put t0 key1 val2 now3 life4 Q = funJ idJ Try.prog table_Table_Put_kp Try.f12 [.pointer t0, .string key1, .string val2, .int .i64 now3, .int .i64 life4] Q := rfl
theorem table_Table_Put_calls {t0 : Option Addr} {key1 : ByteArray} {val2 : ByteArray} {now3 : Int} {life4 : Int} {Q : Value → WP} {w : World} (h : table_Table_Put t0 key1 val2 now3 life4 Q w) : Calls Try.prog id_table_Table_Put #[.pointer t0, .string key1, .string val2, .int .i64 now3, .int .i64 life4] w fun e w' => ∃ v, e = .returned v ∧ Q v w' :=
  funJ_calls mixed Try.func12 rfl h

-- (*hoard/table.Table).Get
def table_Table_Get_kp : KP := ⟨[], []⟩
def table_Table_Get (t0 : Option Addr) (key1 : ByteArray) (now2 : Int) (Q : Value → WP) : WP := funJ idJ Try.prog table_Table_Get_kp Try.f13 [.pointer t0, .string key1, .int .i64 now2] Q
theorem table_Table_Get_raw (jn : Jn) (t0 : Option Addr) (key1 : ByteArray) (now2 : Int) (Q : Value → WP) : funJ jn Try.prog table_Table_Get_kp Try.f13 [.pointer t0, .string key1, .int .i64 now2] Q = (
  ite2 (Option.isNone t0) (
  Q (.tuple #[.string str_empty, .bool false])) (
  nilck t0 fun b_1 o_2 =>
  ld .ptr b_1 o_2 fun (x_3 : Option Addr) =>
  fun w => Calls Try.prog id_index_Index_table_value_Get #[.pointer x_3, .string key1] w fun e w' => ∃ x_4 : ByteArray, ∃ x_5 : Int, ∃ x_6 : Bool, e = .returned (.tuple #[.agg #[.string x_4, .int .i64 x_5], .bool x_6]) ∧ (
  newB [.string str_empty, .int .i64 (0 : Int)] ty_table_value fun b_7 =>
  st b_7 0 (.string x_4) <|
  st b_7 1 (.int .i64 x_5) <|
  ite2 (!x_6) (
  Q (.tuple #[.string str_empty, .bool false])) (
  ld .str b_7 0 fun (x_8 : ByteArray) =>
  ld (.int .i64) b_7 1 fun (x_9 : Int) =>
  call1 .bool Try.prog id_table_value_over [.agg #[.string x_8, .int .i64 x_9], .int .i64 now2] fun (x_10 : Bool) =>
  ite2 x_10 (
  Q (.tuple #[.string str_empty, .bool false])) (
  ld .str b_7 0 fun (x_11 : ByteArray) =>
  Q (.tuple #[.string x_11, .bool true])))) w')) := by kernel_rfl
theorem table_Table_Get_def (t0 : Option Addr) (key1 : ByteArray) (now2 : Int) (Q : Value → WP) : table_Table_Get t0 key1 now2 Q = funJ idJ Try.prog table_Table_Get_kp Try.f13 [.pointer t0, .string key1, .int .i64 now2] Q := rfl
theorem table_Table_Get_calls {t0 : Option Addr} {key1 : ByteArray} {now2 : Int} {Q : Value → WP} {w : World} (h : table_Table_Get t0 key1 now2 Q w) : Calls Try.prog id_table_Table_Get #[.pointer t0, .string key1, .int .i64 now2] w fun e w' => ∃ v, e = .returned v ∧ Q v w' :=
  funJ_calls mixed Try.func13 rfl h

-- (*hoard/table.Table).Due
def table_Table_Due_kp : KP := ⟨[(9, [0, 1, 5, 11, 12, 13]), (20, [5])], []⟩
def table_Table_Due_j2 (jn : Jn) (Q : Value → WP)  (l5 : Sl) : WP := jn 20 (fun ρ => codeI Try.prog table_Table_Due_kp jn (cAt [true, true, true] (bodyOf Try.f14)) (retK Try.prog Try.f14 Q) noX (retK Try.prog Try.f14 Q) ρ) (us 5 ((.slice l5.a l5.n l5.c) :: us 29 []))
def table_Table_Due_l1 (jn : Jn) (Q : Value → WP)  (m1 : Nat) (t0 : Option Addr) (now1 : Int) (l5 : Sl) (t11 : Sl) (t12 : Int) (t13 : Int) : WP := lop Try.prog table_Table_Due_kp jn (cAt [true, true, false, true, false, false] (bodyOf Try.f14)) (blkX 0 (seqK Try.prog table_Table_Due_kp jn (cAt [true, true, true] (bodyOf Try.f14)) (retK Try.prog Try.f14 Q) noX (retK Try.prog Try.f14 Q)) noX) (retK Try.prog Try.f14 Q) m1 ((.pointer t0) :: (.int .i64 now1) :: us 3 ((.slice l5.a l5.n l5.c) :: us 5 ((.slice t11.a t11.n t11.c) :: (.int .i64 t12) :: (.int .i64 t13) :: us 21 [])))
def table_Table_Due (t0 : Option Addr) (now1 : Int) (Q : Value → WP) : WP := funJ idJ Try.prog table_Table_Due_kp Try.f14 [.pointer t0, .int .i64 now1] Q
theorem table_Table_Due_j2_raw (jn : Jn) (Q : Value → WP)  (l5 : Sl) : codeI Try.prog table_Table_Due_kp jn (cAt [true, true, true] (bodyOf Try.f14)) (retK Try.prog Try.f14 Q) noX (retK Try.prog Try.f14 Q) (us 5 ((.slice l5.a l5.n l5.c) :: us 29 [])) = (
  Q (.slice l5.a l5.n l5.c)) := by kernel_rfl
theorem table_Table_Due_j2_def (Q : Value → WP)  (l5 : Sl) : table_Table_Due_j2 idJ Q  l5 = codeI Try.prog table_Table_Due_kp idJ (cAt [true, true, true] (bodyOf Try.f14)) (retK Try.prog Try.f14 Q) noX (retK Try.prog Try.f14 Q) (us 5 ((.slice l5.a l5.n l5.c) :: us 29 [])) := by kernel_rfl
theorem table_Table_Due_l1_raw (jn : Jn) (Q : Value → WP)  (m1 : Nat) (t0 : Option Addr) (now1 : Int) (l5 : Sl) (t11 : Sl) (t12 : Int) (t13 : Int) : table_Table_Due_l1 jn Q  (m1 + 1) t0 now1 l5 t11 t12 t13 = (
  ite2 (decide (t13 < t12)) (
  idx t11.a t11.n t13 fun b_2 o_3 =>
  ld .str b_2 (o_3 + (t13).toNat * 1) fun (x_4 : ByteArray) =>
  nilck t0 fun b_5 o_6 =>
  ld .ptr b_5 o_6 fun (x_7 : Option Addr) =>
  fun w => Calls Try.prog id_index_Index_table_value_Get #[.pointer x_7, .string x_4] w fun e w' => ∃ x_8 : ByteArray, ∃ x_9 : Int, ∃ x_10 : Bool, e = .returned (.tuple #[.agg #[.string x_8, .int .i64 x_9], .bool x_10]) ∧ (
  newB [.string str_empty, .int .i64 (0 : Int)] ty_table_value fun b_11 =>
  st b_11 0 (.string x_8) <|
  st b_11 1 (.int .i64 x_9) <|
  ld .str b_11 0 fun (x_12 : ByteArray) =>
  ld (.int .i64) b_11 1 fun (x_13 : Int) =>
  call1 .bool Try.prog id_table_value_over [.agg #[.string x_12, .int .i64 x_13], .int .i64 now1] fun (x_14 : Bool) =>
  ite2 x_14 (
  newB [.string x_4] ty_string fun b_15 =>
  appendC ty_string 1 16 [.string str_empty] ⟨l5.a, l5.n, l5.c⟩ 1 (fun w => rdA w (some ⟨b_15, 0, none⟩) (1 * 1)) fun s_16 =>
  table_Table_Due_l1 jn Q  m1 t0 now1 s_16 t11 t12 (IntKind.wrap .i64 (t13 + (1 : Int)))) (
  table_Table_Due_l1 jn Q  m1 t0 now1 l5 t11 t12 (IntKind.wrap .i64 (t13 + (1 : Int))))) w') (
  table_Table_Due_j2 jn Q  l5)) := by kernel_rfl
theorem table_Table_Due_l1_zero (jn : Jn) (Q : Value → WP)  (t0 : Option Addr) (now1 : Int) (l5 : Sl) (t11 : Sl) (t12 : Int) (t13 : Int) : table_Table_Due_l1 jn Q  0 t0 now1 l5 t11 t12 t13 = bot := by kernel_rfl
theorem table_Table_Due_raw (jn : Jn) (t0 : Option Addr) (now1 : Int) (Q : Value → WP) : funJ jn Try.prog table_Table_Due_kp Try.f14 [.pointer t0, .int .i64 now1] Q = (
  call1 .slc Try.prog id_table_Table_Keys [.pointer t0] fun (x_1 : Sl) =>
  exM fun m => table_Table_Due_l1 jn Q  m t0 now1 ⟨(none : Option Addr), 0, 0⟩ x_1 (x_1.n : Int) (0 : Int)) := by kernel_rfl
theorem table_Table_Due_def (t0 : Option Addr) (now1 : Int) (Q : Value → WP) : table_Table_Due t0 now1 Q = funJ idJ Try.prog table_Table_Due_kp Try.f14 [.pointer t0, .int .i64 now1] Q := rfl
theorem table_Table_Due_calls {t0 : Option Addr} {now1 : Int} {Q : Value → WP} {w : World} (h : table_Table_Due t0 now1 Q w) : Calls Try.prog id_table_Table_Due #[.pointer t0, .int .i64 now1] w fun e w' => ∃ v, e = .returned v ∧ Q v w' :=
  funJ_calls mixed Try.func14 rfl h

-- (*hoard/table.Table).Has
def table_Table_Has_kp : KP := ⟨[], []⟩
def table_Table_Has (t0 : Option Addr) (key1 : ByteArray) (Q : Value → WP) : WP := funJ idJ Try.prog table_Table_Has_kp Try.f15 [.pointer t0, .string key1] Q
theorem table_Table_Has_raw (jn : Jn) (t0 : Option Addr) (key1 : ByteArray) (Q : Value → WP) : funJ jn Try.prog table_Table_Has_kp Try.f15 [.pointer t0, .string key1] Q = (
  ite2 (Option.isNone t0) (
  Q (.bool false)) (
  nilck t0 fun b_1 o_2 =>
  ld .ptr b_1 o_2 fun (x_3 : Option Addr) =>
  fun w => Calls Try.prog id_index_Index_table_value_Get #[.pointer x_3, .string key1] w fun e w' => ∃ x_4 : ByteArray, ∃ x_5 : Int, ∃ x_6 : Bool, e = .returned (.tuple #[.agg #[.string x_4, .int .i64 x_5], .bool x_6]) ∧ (
  newB [.string str_empty, .int .i64 (0 : Int)] ty_table_value fun b_7 =>
  st b_7 0 (.string x_4) <|
  st b_7 1 (.int .i64 x_5) <|
  Q (.bool x_6)) w')) := by kernel_rfl
theorem table_Table_Has_def (t0 : Option Addr) (key1 : ByteArray) (Q : Value → WP) : table_Table_Has t0 key1 Q = funJ idJ Try.prog table_Table_Has_kp Try.f15 [.pointer t0, .string key1] Q := rfl
theorem table_Table_Has_calls {t0 : Option Addr} {key1 : ByteArray} {Q : Value → WP} {w : World} (h : table_Table_Has t0 key1 Q w) : Calls Try.prog id_table_Table_Has #[.pointer t0, .string key1] w fun e w' => ∃ v, e = .returned v ∧ Q v w' :=
  funJ_calls mixed Try.func15 rfl h

-- hoard/hoardlaw21.heavy
def hoardlaw21_heavy_kp : KP := ⟨[(7, [0, 3]), (10, [0, 3]), (14, [])], []⟩
def hoardlaw21_heavy_j2 (jn : Jn) (Q : Value → WP) (m1 : Nat) (l0 : Sl) (i3 : Int) : WP := jn 10 (fun ρ => codeI Try.prog hoardlaw21_heavy_kp jn (cAt [true, false, true, false, false, true] (bodyOf Try.f16)) (lopK Try.prog hoardlaw21_heavy_kp jn (cAt [true, false, true, false, false] (bodyOf Try.f16)) (blkX 0 (seqK Try.prog hoardlaw21_heavy_kp jn (cAt [true, true] (bodyOf Try.f16)) (retK Try.prog Try.f16 Q) noX (retK Try.prog Try.f16 Q)) noX) (retK Try.prog Try.f16 Q) m1) (blkX 0 (seqK Try.prog hoardlaw21_heavy_kp jn (cAt [true, true] (bodyOf Try.f16)) (retK Try.prog Try.f16 Q) noX (retK Try.prog Try.f16 Q)) noX) (retK Try.prog Try.f16 Q) ρ) ((.slice l0.a l0.n l0.c) :: us 2 ((.int .i64 i3) :: us 26 []))
def hoardlaw21_heavy_j3 (jn : Jn) (Q : Value → WP)   : WP := jn 14 (fun ρ => codeI Try.prog hoardlaw21_heavy_kp jn (cAt [true, true] (bodyOf Try.f16)) (retK Try.prog Try.f16 Q) noX (retK Try.prog Try.f16 Q) ρ) (us 30 [])
def hoardlaw21_heavy_l1 (jn : Jn) (Q : Value → WP)  (m1 : Nat) (l0 : Sl) (i3 : Int) : WP := lop Try.prog hoardlaw21_heavy_kp jn (cAt [true, false, true, false, false] (bodyOf Try.f16)) (blkX 0 (seqK Try.prog hoardlaw21_heavy_kp jn (cAt [true, true] (bodyOf Try.f16)) (retK Try.prog Try.f16 Q) noX (retK Try.prog Try.f16 Q)) noX) (retK Try.prog Try.f16 Q) m1 ((.slice l0.a l0.n l0.c) :: us 2 ((.int .i64 i3) :: us 26 []))
def hoardlaw21_heavy (l0 : Sl) (Q : Value → WP) : WP := funJ idJ Try.prog hoardlaw21_heavy_kp Try.f16 [.slice l0.a l0.n l0.c] Q
theorem hoardlaw21_heavy_j2_raw (jn : Jn) (Q : Value → WP) (m1 : Nat) (l0 : Sl) (i3 : Int) : codeI Try.prog hoardlaw21_heavy_kp jn (cAt [true, false, true, false, false, true] (bodyOf Try.f16)) (lopK Try.prog hoardlaw21_heavy_kp jn (cAt [true, false, true, false, false] (bodyOf Try.f16)) (blkX 0 (seqK Try.prog hoardlaw21_heavy_kp jn (cAt [true, true] (bodyOf Try.f16)) (retK Try.prog Try.f16 Q) noX (retK Try.prog Try.f16 Q)) noX) (retK Try.prog Try.f16 Q) m1) (blkX 0 (seqK Try.prog hoardlaw21_heavy_kp jn (cAt [true, true] (bodyOf Try.f16)) (retK Try.prog Try.f16 Q) noX (retK Try.prog Try.f16 Q)) noX) (retK Try.prog Try.f16 Q) ((.slice l0.a l0.n l0.c) :: us 2 ((.int .i64 i3) :: us 26 [])) = (
  idx l0.a l0.n i3 fun b_1 o_2 =>
  ld .str b_1 ((o_2 + (i3).toNat * 5) + 3) fun (x_3 : ByteArray) =>
  ite2 (decide ((x_3.size : Int) > (60 : Int))) (
  Q (.bool true)) (
  idx l0.a l0.n i3 fun b_4 o_5 =>
  ld .str b_4 ((o_5 + (i3).toNat * 5) + 4) fun (x_6 : ByteArray) =>
  ite2 (decide ((x_6.size : Int) > (100 : Int))) (
  Q (.bool true)) (
  hoardlaw21_heavy_l1 jn Q  m1 l0 (IntKind.wrap .i64 (i3 + (1 : Int)))))) := by kernel_rfl
theorem hoardlaw21_heavy_j2_def (Q : Value → WP) (m1 : Nat) (l0 : Sl) (i3 : Int) : hoardlaw21_heavy_j2 idJ Q m1 l0 i3 = codeI Try.prog hoardlaw21_heavy_kp idJ (cAt [true, false, true, false, false, true] (bodyOf Try.f16)) (lopK Try.prog hoardlaw21_heavy_kp idJ (cAt [true, false, true, false, false] (bodyOf Try.f16)) (blkX 0 (seqK Try.prog hoardlaw21_heavy_kp idJ (cAt [true, true] (bodyOf Try.f16)) (retK Try.prog Try.f16 Q) noX (retK Try.prog Try.f16 Q)) noX) (retK Try.prog Try.f16 Q) m1) (blkX 0 (seqK Try.prog hoardlaw21_heavy_kp idJ (cAt [true, true] (bodyOf Try.f16)) (retK Try.prog Try.f16 Q) noX (retK Try.prog Try.f16 Q)) noX) (retK Try.prog Try.f16 Q) ((.slice l0.a l0.n l0.c) :: us 2 ((.int .i64 i3) :: us 26 [])) := by kernel_rfl
theorem hoardlaw21_heavy_j3_raw (jn : Jn) (Q : Value → WP)   : codeI Try.prog hoardlaw21_heavy_kp jn (cAt [true, true] (bodyOf Try.f16)) (retK Try.prog Try.f16 Q) noX (retK Try.prog Try.f16 Q) (us 30 []) = (
  Q (.bool false)) := by kernel_rfl
theorem hoardlaw21_heavy_j3_def (Q : Value → WP)   : hoardlaw21_heavy_j3 idJ Q   = codeI Try.prog hoardlaw21_heavy_kp idJ (cAt [true, true] (bodyOf Try.f16)) (retK Try.prog Try.f16 Q) noX (retK Try.prog Try.f16 Q) (us 30 []) := by kernel_rfl
theorem hoardlaw21_heavy_l1_raw (jn : Jn) (Q : Value → WP)  (m1 : Nat) (l0 : Sl) (i3 : Int) : hoardlaw21_heavy_l1 jn Q  (m1 + 1) l0 i3 = (
  ite2 (decide (i3 < (l0.n : Int))) (
  ite2 (decide (i3 < (150 : Int))) (
  hoardlaw21_heavy_j2 jn Q m1 l0 i3) (
  hoardlaw21_heavy_j3 jn Q  )) (
  hoardlaw21_heavy_j3 jn Q  )) := by kernel_rfl
theorem hoardlaw21_heavy_l1_zero (jn : Jn) (Q : Value → WP)  (l0 : Sl) (i3 : Int) : hoardlaw21_heavy_l1 jn Q  0 l0 i3 = bot := by kernel_rfl
theorem hoardlaw21_heavy_raw (jn : Jn) (l0 : Sl) (Q : Value → WP) : funJ jn Try.prog hoardlaw21_heavy_kp Try.f16 [.slice l0.a l0.n l0.c] Q = (
  exM fun m => hoardlaw21_heavy_l1 jn Q  m l0 (0 : Int)) := by kernel_rfl
theorem hoardlaw21_heavy_def (l0 : Sl) (Q : Value → WP) : hoardlaw21_heavy l0 Q = funJ idJ Try.prog hoardlaw21_heavy_kp Try.f16 [.slice l0.a l0.n l0.c] Q := rfl
theorem hoardlaw21_heavy_calls {l0 : Sl} {Q : Value → WP} {w : World} (h : hoardlaw21_heavy l0 Q w) : Calls Try.prog id_hoardlaw21_heavy #[.slice l0.a l0.n l0.c] w fun e w' => ∃ v, e = .returned v ∧ Q v w' :=
  funJ_calls mixed Try.func16 rfl h

-- (*hoard/table.Table).Keys
def table_Table_Keys_kp : KP := ⟨[], []⟩
def table_Table_Keys (t0 : Option Addr) (Q : Value → WP) : WP := funJ idJ Try.prog table_Table_Keys_kp Try.f17 [.pointer t0] Q
theorem table_Table_Keys_raw (jn : Jn) (t0 : Option Addr) (Q : Value → WP) : funJ jn Try.prog table_Table_Keys_kp Try.f17 [.pointer t0] Q = (
  ite2 (Option.isNone t0) (
  Q (.slice (none : Option Addr) 0 0)) (
  nilck t0 fun b_1 o_2 =>
  ld .ptr b_1 o_2 fun (x_3 : Option Addr) =>
  call1 .slc Try.prog id_index_Index_table_value_Keys [.pointer x_3] fun (x_4 : Sl) =>
  Q (.slice x_4.a x_4.n x_4.c))) := by kernel_rfl
theorem table_Table_Keys_def (t0 : Option Addr) (Q : Value → WP) : table_Table_Keys t0 Q = funJ idJ Try.prog table_Table_Keys_kp Try.f17 [.pointer t0] Q := rfl
theorem table_Table_Keys_calls {t0 : Option Addr} {Q : Value → WP} {w : World} (h : table_Table_Keys t0 Q w) : Calls Try.prog id_table_Table_Keys #[.pointer t0] w fun e w' => ∃ v, e = .returned v ∧ Q v w' :=
  funJ_calls mixed Try.func17 rfl h

-- (*hoard/table.Table).End
def table_Table_End_kp : KP := ⟨[], []⟩
def table_Table_End (t0 : Option Addr) (key1 : ByteArray) (Q : Value → WP) : WP := funJ idJ Try.prog table_Table_End_kp Try.f18 [.pointer t0, .string key1] Q
theorem table_Table_End_raw (jn : Jn) (t0 : Option Addr) (key1 : ByteArray) (Q : Value → WP) : funJ jn Try.prog table_Table_End_kp Try.f18 [.pointer t0, .string key1] Q = (
  ite2 (Option.isNone t0) (
  Q (.int .i64 (0 : Int))) (
  nilck t0 fun b_1 o_2 =>
  ld .ptr b_1 o_2 fun (x_3 : Option Addr) =>
  fun w => Calls Try.prog id_index_Index_table_value_Get #[.pointer x_3, .string key1] w fun e w' => ∃ x_4 : ByteArray, ∃ x_5 : Int, ∃ x_6 : Bool, e = .returned (.tuple #[.agg #[.string x_4, .int .i64 x_5], .bool x_6]) ∧ (
  newB [.string str_empty, .int .i64 (0 : Int)] ty_table_value fun b_7 =>
  st b_7 0 (.string x_4) <|
  st b_7 1 (.int .i64 x_5) <|
  ld (.int .i64) b_7 1 fun (x_8 : Int) =>
  Q (.int .i64 x_8)) w')) := by kernel_rfl
theorem table_Table_End_def (t0 : Option Addr) (key1 : ByteArray) (Q : Value → WP) : table_Table_End t0 key1 Q = funJ idJ Try.prog table_Table_End_kp Try.f18 [.pointer t0, .string key1] Q := rfl
theorem table_Table_End_calls {t0 : Option Addr} {key1 : ByteArray} {Q : Value → WP} {w : World} (h : table_Table_End t0 key1 Q w) : Calls Try.prog id_table_Table_End #[.pointer t0, .string key1] w fun e w' => ∃ v, e = .returned v ∧ Q v w' :=
  funJ_calls mixed Try.func18 rfl h

-- hoard/hoardlaw21.texts
def hoardlaw21_texts_kp : KP := ⟨[(11, [0, 1, 5]), (18, [])], [(6, [0, 1, 2, 3, 4, 5, 6, 8])]⟩
def hoardlaw21_texts_j2 (jn : Jn) (Q : Value → WP)   : WP := jn 18 (fun ρ => codeI Try.prog hoardlaw21_texts_kp jn (cAt [true, true, true] (bodyOf Try.f19)) (retK Try.prog Try.f19 Q) noX (retK Try.prog Try.f19 Q) ρ) (us 26 [])
def hoardlaw21_texts_l1 (jn : Jn) (Q : Value → WP)  (m1 : Nat) (a0 : Sl) (b1 : Sl) (i5 : Int) : WP := lop Try.prog hoardlaw21_texts_kp jn (cAt [true, true, false, true, false, false] (bodyOf Try.f19)) (blkX 0 (seqK Try.prog hoardlaw21_texts_kp jn (cAt [true, true, true] (bodyOf Try.f19)) (retK Try.prog Try.f19 Q) noX (retK Try.prog Try.f19 Q)) noX) (retK Try.prog Try.f19 Q) m1 ((.slice a0.a a0.n a0.c) :: (.slice b1.a b1.n b1.c) :: us 3 ((.int .i64 i5) :: us 20 []))
def hoardlaw21_texts (a0 : Sl) (b1 : Sl) (Q : Value → WP) : WP := funJ idJ Try.prog hoardlaw21_texts_kp Try.f19 [.slice a0.a a0.n a0.c, .slice b1.a b1.n b1.c] Q
theorem hoardlaw21_texts_j2_raw (jn : Jn) (Q : Value → WP)   : codeI Try.prog hoardlaw21_texts_kp jn (cAt [true, true, true] (bodyOf Try.f19)) (retK Try.prog Try.f19 Q) noX (retK Try.prog Try.f19 Q) (us 26 []) = (
  Q (.bool true)) := by kernel_rfl
theorem hoardlaw21_texts_j2_def (Q : Value → WP)   : hoardlaw21_texts_j2 idJ Q   = codeI Try.prog hoardlaw21_texts_kp idJ (cAt [true, true, true] (bodyOf Try.f19)) (retK Try.prog Try.f19 Q) noX (retK Try.prog Try.f19 Q) (us 26 []) := by kernel_rfl
theorem hoardlaw21_texts_l1_raw (jn : Jn) (Q : Value → WP)  (m1 : Nat) (a0 : Sl) (b1 : Sl) (i5 : Int) : hoardlaw21_texts_l1 jn Q  (m1 + 1) a0 b1 i5 = (
  ite2 (decide (i5 < (a0.n : Int))) (
  drawW fun S =>
  idx a0.a a0.n i5 fun b_1 o_2 =>
  ldS S .str b_1 (o_2 + (i5).toNat * 1) fun (x_3 : ByteArray) =>
  idx b1.a b1.n i5 fun b_4 o_5 =>
  ld .str b_4 (o_5 + (i5).toNat * 1) fun (x_6 : ByteArray) =>
  keepS true S <|
  ite2 (!sEq x_3 x_6) (
  Q (.bool false)) (
  hoardlaw21_texts_l1 jn Q  m1 a0 b1 (IntKind.wrap .i64 (i5 + (1 : Int))))) (
  hoardlaw21_texts_j2 jn Q  )) := by kernel_rfl
theorem hoardlaw21_texts_l1_zero (jn : Jn) (Q : Value → WP)  (a0 : Sl) (b1 : Sl) (i5 : Int) : hoardlaw21_texts_l1 jn Q  0 a0 b1 i5 = bot := by kernel_rfl
theorem hoardlaw21_texts_raw (jn : Jn) (a0 : Sl) (b1 : Sl) (Q : Value → WP) : funJ jn Try.prog hoardlaw21_texts_kp Try.f19 [.slice a0.a a0.n a0.c, .slice b1.a b1.n b1.c] Q = (
  ite2 ((a0.n : Int) != (b1.n : Int)) (
  Q (.bool false)) (
  exM fun m => hoardlaw21_texts_l1 jn Q  m a0 b1 (0 : Int))) := by kernel_rfl
theorem hoardlaw21_texts_def (a0 : Sl) (b1 : Sl) (Q : Value → WP) : hoardlaw21_texts a0 b1 Q = funJ idJ Try.prog hoardlaw21_texts_kp Try.f19 [.slice a0.a a0.n a0.c, .slice b1.a b1.n b1.c] Q := rfl
theorem hoardlaw21_texts_calls {a0 : Sl} {b1 : Sl} {Q : Value → WP} {w : World} (h : hoardlaw21_texts a0 b1 Q w) : Calls Try.prog id_hoardlaw21_texts #[.slice a0.a a0.n a0.c, .slice b1.a b1.n b1.c] w fun e w' => ∃ v, e = .returned v ∧ Q v w' :=
  funJ_calls mixed Try.func19 rfl h

-- (*hoard/table.Table).Len
def table_Table_Len_kp : KP := ⟨[], []⟩
def table_Table_Len (t0 : Option Addr) (Q : Value → WP) : WP := funJ idJ Try.prog table_Table_Len_kp Try.f20 [.pointer t0] Q
theorem table_Table_Len_raw (jn : Jn) (t0 : Option Addr) (Q : Value → WP) : funJ jn Try.prog table_Table_Len_kp Try.f20 [.pointer t0] Q = (
  ite2 (Option.isNone t0) (
  Q (.int .i64 (0 : Int))) (
  nilck t0 fun b_1 o_2 =>
  ld .ptr b_1 o_2 fun (x_3 : Option Addr) =>
  call1 (.int .i64) Try.prog id_index_Index_table_value_Len [.pointer x_3] fun (x_4 : Int) =>
  Q (.int .i64 x_4))) := by kernel_rfl
theorem table_Table_Len_def (t0 : Option Addr) (Q : Value → WP) : table_Table_Len t0 Q = funJ idJ Try.prog table_Table_Len_kp Try.f20 [.pointer t0] Q := rfl
theorem table_Table_Len_calls {t0 : Option Addr} {Q : Value → WP} {w : World} (h : table_Table_Len t0 Q w) : Calls Try.prog id_table_Table_Len #[.pointer t0] w fun e w' => ∃ v, e = .returned v ∧ Q v w' :=
  funJ_calls mixed Try.func20 rfl h

-- hoard/hoardlaw21.act
def hoardlaw21_act_kp : KP := ⟨[], [(11, [0, 1, 2, 4, 5, 6, 8, 9]), (12, [0, 1, 2, 4, 5, 6, 9])]⟩
def hoardlaw21_act (t0 : Option Addr) (x1 : Option Addr) (a2_0 : Int) (a2_1 : Int) (a2_2 : Int) (a2_3 : ByteArray) (a2_4 : ByteArray) (Q : Value → WP) : WP := funJ idJ Try.prog hoardlaw21_act_kp Try.f21 [.pointer t0, .pointer x1, .agg #[.int .i64 a2_0, .int .i64 a2_1, .int .i64 a2_2, .string a2_3, .string a2_4]] Q
theorem hoardlaw21_act_raw (jn : Jn) (t0 : Option Addr) (x1 : Option Addr) (a2_0 : Int) (a2_1 : Int) (a2_2 : Int) (a2_3 : ByteArray) (a2_4 : ByteArray) (Q : Value → WP) : funJ jn Try.prog hoardlaw21_act_kp Try.f21 [.pointer t0, .pointer x1, .agg #[.int .i64 a2_0, .int .i64 a2_1, .int .i64 a2_2, .string a2_3, .string a2_4]] Q = (
  newB [.int .i64 a2_0, .int .i64 a2_1, .int .i64 a2_2, .string a2_3, .string a2_4] ty_hoardlaw21_Act fun b_1 =>
  ld (.int .i64) b_1 0 fun (x_2 : Int) =>
  ite2 (x_2 == (1 : Int)) (
  ld .str b_1 3 fun (x_3 : ByteArray) =>
  ld .str b_1 4 fun (x_4 : ByteArray) =>
  ld (.int .i64) b_1 1 fun (x_5 : Int) =>
  ld (.int .i64) b_1 2 fun (x_6 : Int) =>
  call2 .bool (.int .i64) Try.prog id_table_Table_Put [.pointer t0, .string x_3, .string x_4, .int .i64 x_5, .int .i64 x_6] fun (x_7 : Bool) (x_8 : Int) =>
  ld .str b_1 3 fun (x_9 : ByteArray) =>
  ld .str b_1 4 fun (x_10 : ByteArray) =>
  ld (.int .i64) b_1 1 fun (x_11 : Int) =>
  ld (.int .i64) b_1 2 fun (x_12 : Int) =>
  call2 .bool (.int .i64) Try.prog id_hoardref21_Table_Put [.pointer x1, .string x_9, .string x_10, .int .i64 x_11, .int .i64 x_12] fun (x_13 : Bool) (x_14 : Int) =>
  ite2 (x_7 == x_13) (
  Q (.bool (x_8 == x_14))) (
  Q (.bool false))) (
  ite2 (x_2 == (2 : Int)) (
  ld .str b_1 3 fun (x_15 : ByteArray) =>
  ld (.int .i64) b_1 1 fun (x_16 : Int) =>
  call2 .str .bool Try.prog id_table_Table_Get [.pointer t0, .string x_15, .int .i64 x_16] fun (x_17 : ByteArray) (x_18 : Bool) =>
  ld .str b_1 3 fun (x_19 : ByteArray) =>
  ld (.int .i64) b_1 1 fun (x_20 : Int) =>
  call2 .str .bool Try.prog id_hoardref21_Table_Get [.pointer x1, .string x_19, .int .i64 x_20] fun (x_21 : ByteArray) (x_22 : Bool) =>
  ite2 (sEq x_17 x_21) (
  Q (.bool (x_18 == x_22))) (
  Q (.bool false))) (
  ite2 (x_2 == (3 : Int)) (
  drawW fun S =>
  ldS S .str b_1 3 fun (x_23 : ByteArray) =>
  ldS S .str b_1 3 fun (x_24 : ByteArray) =>
  call1 .bool Try.prog id_table_Table_Delete [.pointer t0, .string x_23] fun (x_25 : Bool) =>
  keepS true S <|
  call1 .bool Try.prog id_hoardref21_Table_Delete [.pointer x1, .string x_24] fun (x_26 : Bool) =>
  Q (.bool (x_25 == x_26))) (
  drawW fun S =>
  ldS S (.int .i64) b_1 1 fun (x_27 : Int) =>
  ldS S (.int .i64) b_1 1 fun (x_28 : Int) =>
  call1 .slc Try.prog id_table_Table_Due [.pointer t0, .int .i64 x_27] fun (x_29 : Sl) =>
  keepS true S <|
  call1 .slc Try.prog id_hoardref21_Table_Due [.pointer x1, .int .i64 x_28] fun (x_30 : Sl) =>
  call1 .bool Try.prog id_hoardlaw21_texts [.slice x_29.a x_29.n x_29.c, .slice x_30.a x_30.n x_30.c] fun (x_31 : Bool) =>
  Q (.bool x_31))))) := by kernel_rfl
theorem hoardlaw21_act_def (t0 : Option Addr) (x1 : Option Addr) (a2_0 : Int) (a2_1 : Int) (a2_2 : Int) (a2_3 : ByteArray) (a2_4 : ByteArray) (Q : Value → WP) : hoardlaw21_act t0 x1 a2_0 a2_1 a2_2 a2_3 a2_4 Q = funJ idJ Try.prog hoardlaw21_act_kp Try.f21 [.pointer t0, .pointer x1, .agg #[.int .i64 a2_0, .int .i64 a2_1, .int .i64 a2_2, .string a2_3, .string a2_4]] Q := rfl
theorem hoardlaw21_act_calls {t0 : Option Addr} {x1 : Option Addr} {a2_0 : Int} {a2_1 : Int} {a2_2 : Int} {a2_3 : ByteArray} {a2_4 : ByteArray} {Q : Value → WP} {w : World} (h : hoardlaw21_act t0 x1 a2_0 a2_1 a2_2 a2_3 a2_4 Q w) : Calls Try.prog id_hoardlaw21_act #[.pointer t0, .pointer x1, .agg #[.int .i64 a2_0, .int .i64 a2_1, .int .i64 a2_2, .string a2_3, .string a2_4]] w fun e w' => ∃ v, e = .returned v ∧ Q v w' :=
  funJ_calls mixed Try.func21 rfl h

-- (*hoard/hoardref21.Table).Has
def hoardref21_Table_Has_kp : KP := ⟨[], []⟩
def hoardref21_Table_Has (t0 : Option Addr) (key1 : ByteArray) (Q : Value → WP) : WP := funJ idJ Try.prog hoardref21_Table_Has_kp Try.f22 [.pointer t0, .string key1] Q
theorem hoardref21_Table_Has_raw (jn : Jn) (t0 : Option Addr) (key1 : ByteArray) (Q : Value → WP) : funJ jn Try.prog hoardref21_Table_Has_kp Try.f22 [.pointer t0, .string key1] Q = (
  call2 (.int .i64) .bool Try.prog id_hoardref21_Table_at [.pointer t0, .string key1] fun (x_1 : Int) (x_2 : Bool) =>
  Q (.bool x_2)) := by kernel_rfl
theorem hoardref21_Table_Has_def (t0 : Option Addr) (key1 : ByteArray) (Q : Value → WP) : hoardref21_Table_Has t0 key1 Q = funJ idJ Try.prog hoardref21_Table_Has_kp Try.f22 [.pointer t0, .string key1] Q := rfl
theorem hoardref21_Table_Has_calls {t0 : Option Addr} {key1 : ByteArray} {Q : Value → WP} {w : World} (h : hoardref21_Table_Has t0 key1 Q w) : Calls Try.prog id_hoardref21_Table_Has #[.pointer t0, .string key1] w fun e w' => ∃ v, e = .returned v ∧ Q v w' :=
  funJ_calls mixed Try.func22 rfl h

-- (*hoard/hoardref21.Table).End
def hoardref21_Table_End_kp : KP := ⟨[], []⟩
def hoardref21_Table_End (t0 : Option Addr) (key1 : ByteArray) (Q : Value → WP) : WP := funJ idJ Try.prog hoardref21_Table_End_kp Try.f23 [.pointer t0, .string key1] Q
theorem hoardref21_Table_End_raw (jn : Jn) (t0 : Option Addr) (key1 : ByteArray) (Q : Value → WP) : funJ jn Try.prog hoardref21_Table_End_kp Try.f23 [.pointer t0, .string key1] Q = (
  call2 (.int .i64) .bool Try.prog id_hoardref21_Table_at [.pointer t0, .string key1] fun (x_1 : Int) (x_2 : Bool) =>
  ite2 (!x_2) (
  Q (.int .i64 (0 : Int))) (
  nilck t0 fun b_3 o_4 =>
  ld .slc b_3 o_4 fun (x_5 : Sl) =>
  idx x_5.a x_5.n x_1 fun b_6 o_7 =>
  ld (.int .i64) b_6 ((o_7 + (x_1).toNat * 3) + 2) fun (x_8 : Int) =>
  Q (.int .i64 x_8))) := by kernel_rfl
theorem hoardref21_Table_End_def (t0 : Option Addr) (key1 : ByteArray) (Q : Value → WP) : hoardref21_Table_End t0 key1 Q = funJ idJ Try.prog hoardref21_Table_End_kp Try.f23 [.pointer t0, .string key1] Q := rfl
theorem hoardref21_Table_End_calls {t0 : Option Addr} {key1 : ByteArray} {Q : Value → WP} {w : World} (h : hoardref21_Table_End t0 key1 Q w) : Calls Try.prog id_hoardref21_Table_End #[.pointer t0, .string key1] w fun e w' => ∃ v, e = .returned v ∧ Q v w' :=
  funJ_calls mixed Try.func23 rfl h

-- (*hoard/hoardref21.Table).Keys
def hoardref21_Table_Keys_kp : KP := ⟨[(9, [0, 3, 4]), (14, [3])], []⟩
def hoardref21_Table_Keys_j2 (jn : Jn) (Q : Value → WP)  (l3 : Sl) : WP := jn 14 (fun ρ => codeI Try.prog hoardref21_Table_Keys_kp jn (cAt [true, true, true] (bodyOf Try.f24)) (retK Try.prog Try.f24 Q) noX (retK Try.prog Try.f24 Q) ρ) (us 3 ((.slice l3.a l3.n l3.c) :: us 22 []))
def hoardref21_Table_Keys_l1 (jn : Jn) (Q : Value → WP)  (m1 : Nat) (t0 : Option Addr) (l3 : Sl) (i4 : Int) : WP := lop Try.prog hoardref21_Table_Keys_kp jn (cAt [true, true, false, true, false, false] (bodyOf Try.f24)) (blkX 0 (seqK Try.prog hoardref21_Table_Keys_kp jn (cAt [true, true, true] (bodyOf Try.f24)) (retK Try.prog Try.f24 Q) noX (retK Try.prog Try.f24 Q)) noX) (retK Try.prog Try.f24 Q) m1 ((.pointer t0) :: us 2 ((.slice l3.a l3.n l3.c) :: (.int .i64 i4) :: us 21 []))
def hoardref21_Table_Keys (t0 : Option Addr) (Q : Value → WP) : WP := funJ idJ Try.prog hoardref21_Table_Keys_kp Try.f24 [.pointer t0] Q
theorem hoardref21_Table_Keys_j2_raw (jn : Jn) (Q : Value → WP)  (l3 : Sl) : codeI Try.prog hoardref21_Table_Keys_kp jn (cAt [true, true, true] (bodyOf Try.f24)) (retK Try.prog Try.f24 Q) noX (retK Try.prog Try.f24 Q) (us 3 ((.slice l3.a l3.n l3.c) :: us 22 [])) = (
  Q (.slice l3.a l3.n l3.c)) := by kernel_rfl
theorem hoardref21_Table_Keys_j2_def (Q : Value → WP)  (l3 : Sl) : hoardref21_Table_Keys_j2 idJ Q  l3 = codeI Try.prog hoardref21_Table_Keys_kp idJ (cAt [true, true, true] (bodyOf Try.f24)) (retK Try.prog Try.f24 Q) noX (retK Try.prog Try.f24 Q) (us 3 ((.slice l3.a l3.n l3.c) :: us 22 [])) := by kernel_rfl
theorem hoardref21_Table_Keys_l1_raw (jn : Jn) (Q : Value → WP)  (m1 : Nat) (t0 : Option Addr) (l3 : Sl) (i4 : Int) : hoardref21_Table_Keys_l1 jn Q  (m1 + 1) t0 l3 i4 = (
  nilck t0 fun b_1 o_2 =>
  ld .slc b_1 o_2 fun (x_3 : Sl) =>
  ite2 (decide (i4 < (x_3.n : Int))) (
  nilck t0 fun b_4 o_5 =>
  ld .slc b_4 o_5 fun (x_6 : Sl) =>
  idx x_6.a x_6.n i4 fun b_7 o_8 =>
  ld .str b_7 (o_8 + (i4).toNat * 3) fun (x_9 : ByteArray) =>
  newB [.string x_9] ty_string fun b_10 =>
  appendC ty_string 1 16 [.string str_empty] ⟨l3.a, l3.n, l3.c⟩ 1 (fun w => rdA w (some ⟨b_10, 0, none⟩) (1 * 1)) fun s_11 =>
  hoardref21_Table_Keys_l1 jn Q  m1 t0 s_11 (IntKind.wrap .i64 (i4 + (1 : Int)))) (
  hoardref21_Table_Keys_j2 jn Q  l3)) := by kernel_rfl
theorem hoardref21_Table_Keys_l1_zero (jn : Jn) (Q : Value → WP)  (t0 : Option Addr) (l3 : Sl) (i4 : Int) : hoardref21_Table_Keys_l1 jn Q  0 t0 l3 i4 = bot := by kernel_rfl
theorem hoardref21_Table_Keys_raw (jn : Jn) (t0 : Option Addr) (Q : Value → WP) : funJ jn Try.prog hoardref21_Table_Keys_kp Try.f24 [.pointer t0] Q = (
  exM fun m => hoardref21_Table_Keys_l1 jn Q  m t0 ⟨(none : Option Addr), 0, 0⟩ (0 : Int)) := by kernel_rfl
theorem hoardref21_Table_Keys_def (t0 : Option Addr) (Q : Value → WP) : hoardref21_Table_Keys t0 Q = funJ idJ Try.prog hoardref21_Table_Keys_kp Try.f24 [.pointer t0] Q := rfl
theorem hoardref21_Table_Keys_calls {t0 : Option Addr} {Q : Value → WP} {w : World} (h : hoardref21_Table_Keys t0 Q w) : Calls Try.prog id_hoardref21_Table_Keys #[.pointer t0] w fun e w' => ∃ v, e = .returned v ∧ Q v w' :=
  funJ_calls mixed Try.func24 rfl h

-- (*hoard/table.Table).Delete
def table_Table_Delete_kp : KP := ⟨[], []⟩
def table_Table_Delete (t0 : Option Addr) (key1 : ByteArray) (Q : Value → WP) : WP := funJ idJ Try.prog table_Table_Delete_kp Try.f25 [.pointer t0, .string key1] Q
theorem table_Table_Delete_raw (jn : Jn) (t0 : Option Addr) (key1 : ByteArray) (Q : Value → WP) : funJ jn Try.prog table_Table_Delete_kp Try.f25 [.pointer t0, .string key1] Q = (
  ite2 (Option.isNone t0) (
  Q (.bool false)) (
  nilck t0 fun b_1 o_2 =>
  ld .ptr b_1 o_2 fun (x_3 : Option Addr) =>
  fun w => Calls Try.prog id_index_Index_table_value_Delete #[.pointer x_3, .string key1] w fun e w' => ∃ x_4 : ByteArray, ∃ x_5 : Int, ∃ x_6 : Bool, e = .returned (.tuple #[.agg #[.string x_4, .int .i64 x_5], .bool x_6]) ∧ (
  newB [.string str_empty, .int .i64 (0 : Int)] ty_table_value fun b_7 =>
  st b_7 0 (.string x_4) <|
  st b_7 1 (.int .i64 x_5) <|
  Q (.bool x_6)) w')) := by kernel_rfl
theorem table_Table_Delete_def (t0 : Option Addr) (key1 : ByteArray) (Q : Value → WP) : table_Table_Delete t0 key1 Q = funJ idJ Try.prog table_Table_Delete_kp Try.f25 [.pointer t0, .string key1] Q := rfl
theorem table_Table_Delete_calls {t0 : Option Addr} {key1 : ByteArray} {Q : Value → WP} {w : World} (h : table_Table_Delete t0 key1 Q w) : Calls Try.prog id_table_Table_Delete #[.pointer t0, .string key1] w fun e w' => ∃ v, e = .returned v ∧ Q v w' :=
  funJ_calls mixed Try.func25 rfl h

-- hoard/index.New[hoard/table.value]
def index_New_table_value_kp : KP := ⟨[], []⟩
def index_New_table_value (seed0 : Int) (Q : Value → WP) : WP := funJ idJ Try.prog index_New_table_value_kp Try.f26 [.int .u64 seed0] Q
theorem index_New_table_value_raw (jn : Jn) (seed0 : Int) (Q : Value → WP) : funJ jn Try.prog index_New_table_value_kp Try.f26 [.int .u64 seed0] Q = (
  makeC ty_index_place_table_value 48 [.int .i64 (0 : Int), .string str_empty, .string str_empty, .int .i64 (0 : Int)] (8 : Int) (8 : Int) fun s_1 =>
  newB [.int .u64 seed0, .slice s_1.a s_1.n s_1.c, .int .i64 (0 : Int), .int .i64 (0 : Int)] ty_index_Index_table_value fun b_2 =>
  Q (.pointer (some ⟨b_2, 0, none⟩))) := by kernel_rfl
theorem index_New_table_value_def (seed0 : Int) (Q : Value → WP) : index_New_table_value seed0 Q = funJ idJ Try.prog index_New_table_value_kp Try.f26 [.int .u64 seed0] Q := rfl
theorem index_New_table_value_calls {seed0 : Int} {Q : Value → WP} {w : World} (h : index_New_table_value seed0 Q w) : Calls Try.prog id_index_New_table_value #[.int .u64 seed0] w fun e w' => ∃ v, e = .returned v ∧ Q v w' :=
  funJ_calls mixed Try.func26 rfl h

-- hoard/mix.Key
def mix_Key_kp : KP := ⟨[(8, [0]), (11, [0, 14, 15]), (22, [])], []⟩
def mix_Key_j3 (jn : Jn) (Q : Value → WP)   : WP := jn 22 (fun ρ => codeI Try.prog mix_Key_kp jn (cAt [true, true, true] (bodyOf Try.f27)) (retK Try.prog Try.f27 Q) noX (retK Try.prog Try.f27 Q) ρ) (us 49 [])
def mix_Key_l2 (jn : Jn) (Q : Value → WP)  (m2 : Nat) (s0 : ByteArray) (t14 : Int) (t15 : Int) : WP := lop Try.prog mix_Key_kp jn (cAt [true, true, false, true, false, false] (bodyOf Try.f27)) (blkX 0 (seqK Try.prog mix_Key_kp jn (cAt [true, true, true] (bodyOf Try.f27)) (retK Try.prog Try.f27 Q) noX (retK Try.prog Try.f27 Q)) noX) (retK Try.prog Try.f27 Q) m2 ((.string s0) :: us 13 ((.int .i64 t14) :: (.int .i64 t15) :: us 33 []))
def mix_Key_j1 (jn : Jn) (Q : Value → WP)  (s0 : ByteArray) : WP := jn 8 (fun ρ => codeI Try.prog mix_Key_kp jn (cAt [true, true] (bodyOf Try.f27)) (retK Try.prog Try.f27 Q) noX (retK Try.prog Try.f27 Q) ρ) ((.string s0) :: us 48 [])
def mix_Key (s0 : ByteArray) (Q : Value → WP) : WP := funJ idJ Try.prog mix_Key_kp Try.f27 [.string s0] Q
theorem mix_Key_j3_raw (jn : Jn) (Q : Value → WP)   : codeI Try.prog mix_Key_kp jn (cAt [true, true, true] (bodyOf Try.f27)) (retK Try.prog Try.f27 Q) noX (retK Try.prog Try.f27 Q) (us 49 []) = (
  Q (.bool true)) := by kernel_rfl
theorem mix_Key_j3_def (Q : Value → WP)   : mix_Key_j3 idJ Q   = codeI Try.prog mix_Key_kp idJ (cAt [true, true, true] (bodyOf Try.f27)) (retK Try.prog Try.f27 Q) noX (retK Try.prog Try.f27 Q) (us 49 []) := by kernel_rfl
theorem mix_Key_l2_raw (jn : Jn) (Q : Value → WP)  (m2 : Nat) (s0 : ByteArray) (t14 : Int) (t15 : Int) : mix_Key_l2 jn Q  (m2 + 1) s0 t14 t15 = (
  ite2 (decide (t15 < t14)) (
  when ((0 : Int) ≤ t15 ∧ t15 < (s0.size : Int)) <|
  ite2 (decide ((byteAt s0 (t15).toNat) < (97 : Int))) (
  ite2 (decide ((byteAt s0 (t15).toNat) < (65 : Int))) (
  ite2 (decide ((byteAt s0 (t15).toNat) < (48 : Int))) (
  call1 (.int .i64) Try.prog id_strings_IndexByte [.string str______, .int .u8 (byteAt s0 (t15).toNat)] fun (x_1 : Int) =>
  ite2 (decide (x_1 < (0 : Int))) (
  Q (.bool false)) (
  mix_Key_l2 jn Q  m2 s0 t14 (IntKind.wrap .i64 (t15 + (1 : Int))))) (
  ite2 (decide ((byteAt s0 (t15).toNat) > (57 : Int))) (
  call1 (.int .i64) Try.prog id_strings_IndexByte [.string str______, .int .u8 (byteAt s0 (t15).toNat)] fun (x_2 : Int) =>
  ite2 (decide (x_2 < (0 : Int))) (
  Q (.bool false)) (
  mix_Key_l2 jn Q  m2 s0 t14 (IntKind.wrap .i64 (t15 + (1 : Int))))) (
  mix_Key_l2 jn Q  m2 s0 t14 (IntKind.wrap .i64 (t15 + (1 : Int)))))) (
  ite2 (decide ((byteAt s0 (t15).toNat) > (90 : Int))) (
  ite2 (decide ((byteAt s0 (t15).toNat) < (48 : Int))) (
  call1 (.int .i64) Try.prog id_strings_IndexByte [.string str______, .int .u8 (byteAt s0 (t15).toNat)] fun (x_3 : Int) =>
  ite2 (decide (x_3 < (0 : Int))) (
  Q (.bool false)) (
  mix_Key_l2 jn Q  m2 s0 t14 (IntKind.wrap .i64 (t15 + (1 : Int))))) (
  ite2 (decide ((byteAt s0 (t15).toNat) > (57 : Int))) (
  call1 (.int .i64) Try.prog id_strings_IndexByte [.string str______, .int .u8 (byteAt s0 (t15).toNat)] fun (x_4 : Int) =>
  ite2 (decide (x_4 < (0 : Int))) (
  Q (.bool false)) (
  mix_Key_l2 jn Q  m2 s0 t14 (IntKind.wrap .i64 (t15 + (1 : Int))))) (
  mix_Key_l2 jn Q  m2 s0 t14 (IntKind.wrap .i64 (t15 + (1 : Int)))))) (
  mix_Key_l2 jn Q  m2 s0 t14 (IntKind.wrap .i64 (t15 + (1 : Int)))))) (
  ite2 (decide ((byteAt s0 (t15).toNat) > (122 : Int))) (
  ite2 (decide ((byteAt s0 (t15).toNat) < (65 : Int))) (
  ite2 (decide ((byteAt s0 (t15).toNat) < (48 : Int))) (
  call1 (.int .i64) Try.prog id_strings_IndexByte [.string str______, .int .u8 (byteAt s0 (t15).toNat)] fun (x_5 : Int) =>
  ite2 (decide (x_5 < (0 : Int))) (
  Q (.bool false)) (
  mix_Key_l2 jn Q  m2 s0 t14 (IntKind.wrap .i64 (t15 + (1 : Int))))) (
  ite2 (decide ((byteAt s0 (t15).toNat) > (57 : Int))) (
  call1 (.int .i64) Try.prog id_strings_IndexByte [.string str______, .int .u8 (byteAt s0 (t15).toNat)] fun (x_6 : Int) =>
  ite2 (decide (x_6 < (0 : Int))) (
  Q (.bool false)) (
  mix_Key_l2 jn Q  m2 s0 t14 (IntKind.wrap .i64 (t15 + (1 : Int))))) (
  mix_Key_l2 jn Q  m2 s0 t14 (IntKind.wrap .i64 (t15 + (1 : Int)))))) (
  ite2 (decide ((byteAt s0 (t15).toNat) > (90 : Int))) (
  ite2 (decide ((byteAt s0 (t15).toNat) < (48 : Int))) (
  call1 (.int .i64) Try.prog id_strings_IndexByte [.string str______, .int .u8 (byteAt s0 (t15).toNat)] fun (x_7 : Int) =>
  ite2 (decide (x_7 < (0 : Int))) (
  Q (.bool false)) (
  mix_Key_l2 jn Q  m2 s0 t14 (IntKind.wrap .i64 (t15 + (1 : Int))))) (
  ite2 (decide ((byteAt s0 (t15).toNat) > (57 : Int))) (
  call1 (.int .i64) Try.prog id_strings_IndexByte [.string str______, .int .u8 (byteAt s0 (t15).toNat)] fun (x_8 : Int) =>
  ite2 (decide (x_8 < (0 : Int))) (
  Q (.bool false)) (
  mix_Key_l2 jn Q  m2 s0 t14 (IntKind.wrap .i64 (t15 + (1 : Int))))) (
  mix_Key_l2 jn Q  m2 s0 t14 (IntKind.wrap .i64 (t15 + (1 : Int)))))) (
  mix_Key_l2 jn Q  m2 s0 t14 (IntKind.wrap .i64 (t15 + (1 : Int)))))) (
  mix_Key_l2 jn Q  m2 s0 t14 (IntKind.wrap .i64 (t15 + (1 : Int)))))) (
  mix_Key_j3 jn Q  )) := by kernel_rfl
theorem mix_Key_l2_zero (jn : Jn) (Q : Value → WP)  (s0 : ByteArray) (t14 : Int) (t15 : Int) : mix_Key_l2 jn Q  0 s0 t14 t15 = bot := by kernel_rfl
theorem mix_Key_j1_raw (jn : Jn) (Q : Value → WP)  (s0 : ByteArray) : codeI Try.prog mix_Key_kp jn (cAt [true, true] (bodyOf Try.f27)) (retK Try.prog Try.f27 Q) noX (retK Try.prog Try.f27 Q) ((.string s0) :: us 48 []) = (
  exM fun m => mix_Key_l2 jn Q  m s0 (s0.size : Int) (0 : Int)) := by kernel_rfl
theorem mix_Key_j1_def (Q : Value → WP)  (s0 : ByteArray) : mix_Key_j1 idJ Q  s0 = codeI Try.prog mix_Key_kp idJ (cAt [true, true] (bodyOf Try.f27)) (retK Try.prog Try.f27 Q) noX (retK Try.prog Try.f27 Q) ((.string s0) :: us 48 []) := by kernel_rfl
theorem mix_Key_raw (jn : Jn) (s0 : ByteArray) (Q : Value → WP) : funJ jn Try.prog mix_Key_kp Try.f27 [.string s0] Q = (
  ite2 (decide ((s0.size : Int) < (1 : Int))) (
  Q (.bool false)) (
  ite2 (decide ((s0.size : Int) > (24 : Int))) (
  Q (.bool false)) (
  mix_Key_j1 jn Q  s0))) := by kernel_rfl
theorem mix_Key_def (s0 : ByteArray) (Q : Value → WP) : mix_Key s0 Q = funJ idJ Try.prog mix_Key_kp Try.f27 [.string s0] Q := rfl
theorem mix_Key_calls {s0 : ByteArray} {Q : Value → WP} {w : World} (h : mix_Key s0 Q w) : Calls Try.prog id_mix_Key #[.string s0] w fun e w' => ∃ v, e = .returned v ∧ Q v w' :=
  funJ_calls mixed Try.func27 rfl h

-- (*hoard/index.Index[hoard/table.value]).Put
def index_Index_table_value_Put_kp : KP := ⟨[], [(5, [0, 1, 2, 3, 4, 6, 7]), (8, [0, 1, 2, 3, 4, 5, 6, 7, 9, 10])]⟩
def index_Index_table_value_Put (x0 : Option Addr) (key1 : ByteArray) (v2_0 : ByteArray) (v2_1 : Int) (Q : Value → WP) : WP := funJ idJ Try.prog index_Index_table_value_Put_kp Try.f28 [.pointer x0, .string key1, .agg #[.string v2_0, .int .i64 v2_1]] Q
theorem index_Index_table_value_Put_raw (jn : Jn) (x0 : Option Addr) (key1 : ByteArray) (v2_0 : ByteArray) (v2_1 : Int) (Q : Value → WP) : funJ jn Try.prog index_Index_table_value_Put_kp Try.f28 [.pointer x0, .string key1, .agg #[.string v2_0, .int .i64 v2_1]] Q = (
  newB [.string v2_0, .int .i64 v2_1] ty_table_value fun b_1 =>
  ite2 (Option.isNone x0) (
  Q (.bool false)) (
  call2 (.int .i64) .bool Try.prog id_index_Index_table_value_find [.pointer x0, .string key1] fun (x_2 : Int) (x_3 : Bool) =>
  ite2 x_3 (
  drawW fun S =>
  nilck x0 fun b_4 o_5 =>
  ldS S .slc b_4 (o_5 + 1) fun (x_6 : Sl) =>
  ld .str b_1 0 fun (x_7 : ByteArray) =>
  ld (.int .i64) b_1 1 fun (x_8 : Int) =>
  keepS true S <|
  idx x_6.a x_6.n x_2 fun b_9 o_10 =>
  st b_9 ((o_10 + (x_2).toNat * 4) + 2) (.string x_7) <|
  st b_9 (((o_10 + (x_2).toNat * 4) + 2) + 1) (.int .i64 x_8) <|
  Q (.bool false)) (
  ld .str b_1 0 fun (x_11 : ByteArray) =>
  ld (.int .i64) b_1 1 fun (x_12 : Int) =>
  call0 Try.prog id_index_Index_table_value_lays [.pointer x0, .int .i64 x_2, .string key1, .agg #[.string x_11, .int .i64 x_12]] <|
  drawW fun S =>
  nilck x0 fun b_13 o_14 =>
  ldS S (.int .i64) b_13 (o_14 + 3) fun (x_15 : Int) =>
  nilck x0 fun b_16 o_17 =>
  ld .slc b_16 (o_17 + 1) fun (x_18 : Sl) =>
  keepS true S <|
  ite2 (decide ((IntKind.wrap .i64 ((2 : Int) * x_15)) > (x_18.n : Int))) (
  call0 Try.prog id_index_Index_table_value_grows [.pointer x0] <|
  Q (.bool true)) (
  Q (.bool true))))) := by kernel_rfl
theorem index_Index_table_value_Put_def (x0 : Option Addr) (key1 : ByteArray) (v2_0 : ByteArray) (v2_1 : Int) (Q : Value → WP) : index_Index_table_value_Put x0 key1 v2_0 v2_1 Q = funJ idJ Try.prog index_Index_table_value_Put_kp Try.f28 [.pointer x0, .string key1, .agg #[.string v2_0, .int .i64 v2_1]] Q := rfl
theorem index_Index_table_value_Put_calls {x0 : Option Addr} {key1 : ByteArray} {v2_0 : ByteArray} {v2_1 : Int} {Q : Value → WP} {w : World} (h : index_Index_table_value_Put x0 key1 v2_0 v2_1 Q w) : Calls Try.prog id_index_Index_table_value_Put #[.pointer x0, .string key1, .agg #[.string v2_0, .int .i64 v2_1]] w fun e w' => ∃ v, e = .returned v ∧ Q v w' :=
  funJ_calls mixed Try.func28 rfl h

-- (*hoard/index.Index[hoard/table.value]).Get
def index_Index_table_value_Get_kp : KP := ⟨[(12, [4])], []⟩
def index_Index_table_value_Get_j1 (jn : Jn) (Q : Value → WP)  (t4_b : Nat) (t4_o : Nat) : WP := jn 12 (fun ρ => codeI Try.prog index_Index_table_value_Get_kp jn (cAt [true, true] (bodyOf Try.f29)) (retK Try.prog Try.f29 Q) noX (retK Try.prog Try.f29 Q) ρ) (us 4 ((.pointer (some ⟨t4_b, t4_o, none⟩)) :: us 22 []))
def index_Index_table_value_Get (x0 : Option Addr) (key1 : ByteArray) (Q : Value → WP) : WP := funJ idJ Try.prog index_Index_table_value_Get_kp Try.f29 [.pointer x0, .string key1] Q
theorem index_Index_table_value_Get_j1_raw (jn : Jn) (Q : Value → WP)  (t4_b : Nat) (t4_o : Nat) : codeI Try.prog index_Index_table_value_Get_kp jn (cAt [true, true] (bodyOf Try.f29)) (retK Try.prog Try.f29 Q) noX (retK Try.prog Try.f29 Q) (us 4 ((.pointer (some ⟨t4_b, t4_o, none⟩)) :: us 22 [])) = (
  newB [.string str_empty, .int .i64 (0 : Int)] ty_table_value fun b_13 =>
  ld .str b_13 0 fun (x_14 : ByteArray) =>
  ld (.int .i64) b_13 1 fun (x_15 : Int) =>
  st t4_b t4_o (.string x_14) <|
  st t4_b (t4_o + 1) (.int .i64 x_15) <|
  ld .str t4_b t4_o fun (x_16 : ByteArray) =>
  ld (.int .i64) t4_b (t4_o + 1) fun (x_17 : Int) =>
  Q (.tuple #[.agg #[.string x_16, .int .i64 x_17], .bool false])) := by kernel_rfl
theorem index_Index_table_value_Get_j1_def (Q : Value → WP)  (t4_b : Nat) (t4_o : Nat) : index_Index_table_value_Get_j1 idJ Q  t4_b t4_o = codeI Try.prog index_Index_table_value_Get_kp idJ (cAt [true, true] (bodyOf Try.f29)) (retK Try.prog Try.f29 Q) noX (retK Try.prog Try.f29 Q) (us 4 ((.pointer (some ⟨t4_b, t4_o, none⟩)) :: us 22 [])) := by kernel_rfl
theorem index_Index_table_value_Get_raw (jn : Jn) (x0 : Option Addr) (key1 : ByteArray) (Q : Value → WP) : funJ jn Try.prog index_Index_table_value_Get_kp Try.f29 [.pointer x0, .string key1] Q = (
  newB [.string str_empty, .int .i64 (0 : Int)] ty_table_value fun b_1 =>
  ite2 (!Option.isNone x0) (
  call2 (.int .i64) .bool Try.prog id_index_Index_table_value_find [.pointer x0, .string key1] fun (x_2 : Int) (x_3 : Bool) =>
  ite2 x_3 (
  nilck x0 fun b_4 o_5 =>
  ld .slc b_4 (o_5 + 1) fun (x_6 : Sl) =>
  idx x_6.a x_6.n x_2 fun b_7 o_8 =>
  ld .str b_7 ((o_8 + (x_2).toNat * 4) + 2) fun (x_9 : ByteArray) =>
  ld (.int .i64) b_7 (((o_8 + (x_2).toNat * 4) + 2) + 1) fun (x_10 : Int) =>
  st b_1 0 (.string x_9) <|
  st b_1 1 (.int .i64 x_10) <|
  ld .str b_1 0 fun (x_11 : ByteArray) =>
  ld (.int .i64) b_1 1 fun (x_12 : Int) =>
  Q (.tuple #[.agg #[.string x_11, .int .i64 x_12], .bool true])) (
  index_Index_table_value_Get_j1 jn Q  b_1 0)) (
  index_Index_table_value_Get_j1 jn Q  b_1 0)) := by kernel_rfl
theorem index_Index_table_value_Get_def (x0 : Option Addr) (key1 : ByteArray) (Q : Value → WP) : index_Index_table_value_Get x0 key1 Q = funJ idJ Try.prog index_Index_table_value_Get_kp Try.f29 [.pointer x0, .string key1] Q := rfl
theorem index_Index_table_value_Get_calls {x0 : Option Addr} {key1 : ByteArray} {Q : Value → WP} {w : World} (h : index_Index_table_value_Get x0 key1 Q w) : Calls Try.prog id_index_Index_table_value_Get #[.pointer x0, .string key1] w fun e w' => ∃ v, e = .returned v ∧ Q v w' :=
  funJ_calls mixed Try.func29 rfl h

-- (hoard/table.value).over
def table_value_over_kp : KP := ⟨[], []⟩
def table_value_over (v0_0 : ByteArray) (v0_1 : Int) (now1 : Int) (Q : Value → WP) : WP := funJ idJ Try.prog table_value_over_kp Try.f30 [.agg #[.string v0_0, .int .i64 v0_1], .int .i64 now1] Q
theorem table_value_over_raw (jn : Jn) (v0_0 : ByteArray) (v0_1 : Int) (now1 : Int) (Q : Value → WP) : funJ jn Try.prog table_value_over_kp Try.f30 [.agg #[.string v0_0, .int .i64 v0_1], .int .i64 now1] Q = (
  newB [.string v0_0, .int .i64 v0_1] ty_table_value fun b_1 =>
  ld (.int .i64) b_1 1 fun (x_2 : Int) =>
  ite2 (x_2 != (0 : Int)) (
  ld (.int .i64) b_1 1 fun (x_3 : Int) =>
  Q (.bool (decide (x_3 ≤ now1)))) (
  Q (.bool false))) := by kernel_rfl
theorem table_value_over_def (v0_0 : ByteArray) (v0_1 : Int) (now1 : Int) (Q : Value → WP) : table_value_over v0_0 v0_1 now1 Q = funJ idJ Try.prog table_value_over_kp Try.f30 [.agg #[.string v0_0, .int .i64 v0_1], .int .i64 now1] Q := rfl
theorem table_value_over_calls {v0_0 : ByteArray} {v0_1 : Int} {now1 : Int} {Q : Value → WP} {w : World} (h : table_value_over v0_0 v0_1 now1 Q w) : Calls Try.prog id_table_value_over #[.agg #[.string v0_0, .int .i64 v0_1], .int .i64 now1] w fun e w' => ∃ v, e = .returned v ∧ Q v w' :=
  funJ_calls mixed Try.func30 rfl h

-- (*hoard/index.Index[hoard/table.value]).Keys
def index_Index_table_value_Keys_kp : KP := ⟨[(13, [3, 11, 12, 13]), (22, [3])], []⟩
def index_Index_table_value_Keys_j2 (jn : Jn) (Q : Value → WP)  (l3 : Sl) : WP := jn 22 (fun ρ => codeI Try.prog index_Index_table_value_Keys_kp jn (cAt [true, true, true, true] (bodyOf Try.f31)) (retK Try.prog Try.f31 Q) noX (retK Try.prog Try.f31 Q) ρ) (us 3 ((.slice l3.a l3.n l3.c) :: us 25 []))
def index_Index_table_value_Keys_l1 (jn : Jn) (Q : Value → WP)  (m1 : Nat) (l3 : Sl) (t11 : Sl) (t12 : Int) (t13 : Int) : WP := lop Try.prog index_Index_table_value_Keys_kp jn (cAt [true, true, true, false, true, false, false] (bodyOf Try.f31)) (blkX 0 (seqK Try.prog index_Index_table_value_Keys_kp jn (cAt [true, true, true, true] (bodyOf Try.f31)) (retK Try.prog Try.f31 Q) noX (retK Try.prog Try.f31 Q)) noX) (retK Try.prog Try.f31 Q) m1 (us 3 ((.slice l3.a l3.n l3.c) :: us 7 ((.slice t11.a t11.n t11.c) :: (.int .i64 t12) :: (.int .i64 t13) :: us 15 [])))
def index_Index_table_value_Keys (x0 : Option Addr) (Q : Value → WP) : WP := funJ idJ Try.prog index_Index_table_value_Keys_kp Try.f31 [.pointer x0] Q
theorem index_Index_table_value_Keys_j2_raw (jn : Jn) (Q : Value → WP)  (l3 : Sl) : codeI Try.prog index_Index_table_value_Keys_kp jn (cAt [true, true, true, true] (bodyOf Try.f31)) (retK Try.prog Try.f31 Q) noX (retK Try.prog Try.f31 Q) (us 3 ((.slice l3.a l3.n l3.c) :: us 25 [])) = (
  call0 Try.prog id_slices_Sort_s_string_string [.slice l3.a l3.n l3.c] <|
  Q (.slice l3.a l3.n l3.c)) := by kernel_rfl
theorem index_Index_table_value_Keys_j2_def (Q : Value → WP)  (l3 : Sl) : index_Index_table_value_Keys_j2 idJ Q  l3 = codeI Try.prog index_Index_table_value_Keys_kp idJ (cAt [true, true, true, true] (bodyOf Try.f31)) (retK Try.prog Try.f31 Q) noX (retK Try.prog Try.f31 Q) (us 3 ((.slice l3.a l3.n l3.c) :: us 25 [])) := by kernel_rfl
theorem index_Index_table_value_Keys_l1_raw (jn : Jn) (Q : Value → WP)  (m1 : Nat) (l3 : Sl) (t11 : Sl) (t12 : Int) (t13 : Int) : index_Index_table_value_Keys_l1 jn Q  (m1 + 1) l3 t11 t12 t13 = (
  ite2 (decide (t13 < t12)) (
  idx t11.a t11.n t13 fun b_4 o_5 =>
  ld (.int .i64) b_4 (o_5 + (t13).toNat * 4) fun (x_6 : Int) =>
  ld .str b_4 ((o_5 + (t13).toNat * 4) + 1) fun (x_7 : ByteArray) =>
  ld .str b_4 (((o_5 + (t13).toNat * 4) + 1) + 1) fun (x_8 : ByteArray) =>
  ld (.int .i64) b_4 ((((o_5 + (t13).toNat * 4) + 1) + 1) + 1) fun (x_9 : Int) =>
  newB [.int .i64 (0 : Int), .string str_empty, .string str_empty, .int .i64 (0 : Int)] ty_index_place_table_value fun b_10 =>
  st b_10 0 (.int .i64 x_6) <|
  st b_10 1 (.string x_7) <|
  st b_10 2 (.string x_8) <|
  st b_10 3 (.int .i64 x_9) <|
  ld (.int .i64) b_10 0 fun (x_11 : Int) =>
  ite2 (x_11 == (2 : Int)) (
  ld .str b_10 1 fun (x_12 : ByteArray) =>
  newB [.string x_12] ty_string fun b_13 =>
  appendC ty_string 1 16 [.string str_empty] ⟨l3.a, l3.n, l3.c⟩ 1 (fun w => rdA w (some ⟨b_13, 0, none⟩) (1 * 1)) fun s_14 =>
  index_Index_table_value_Keys_l1 jn Q  m1 s_14 t11 t12 (IntKind.wrap .i64 (t13 + (1 : Int)))) (
  index_Index_table_value_Keys_l1 jn Q  m1 l3 t11 t12 (IntKind.wrap .i64 (t13 + (1 : Int))))) (
  index_Index_table_value_Keys_j2 jn Q  l3)) := by kernel_rfl
theorem index_Index_table_value_Keys_l1_zero (jn : Jn) (Q : Value → WP)  (l3 : Sl) (t11 : Sl) (t12 : Int) (t13 : Int) : index_Index_table_value_Keys_l1 jn Q  0 l3 t11 t12 t13 = bot := by kernel_rfl
theorem index_Index_table_value_Keys_raw (jn : Jn) (x0 : Option Addr) (Q : Value → WP) : funJ jn Try.prog index_Index_table_value_Keys_kp Try.f31 [.pointer x0] Q = (
  ite2 (Option.isNone x0) (
  Q (.slice (none : Option Addr) 0 0)) (
  nilck x0 fun b_1 o_2 =>
  ld .slc b_1 (o_2 + 1) fun (x_3 : Sl) =>
  exM fun m => index_Index_table_value_Keys_l1 jn Q  m ⟨(none : Option Addr), 0, 0⟩ x_3 (x_3.n : Int) (0 : Int))) := by kernel_rfl
theorem index_Index_table_value_Keys_def (x0 : Option Addr) (Q : Value → WP) : index_Index_table_value_Keys x0 Q = funJ idJ Try.prog index_Index_table_value_Keys_kp Try.f31 [.pointer x0] Q := rfl
theorem index_Index_table_value_Keys_calls {x0 : Option Addr} {Q : Value → WP} {w : World} (h : index_Index_table_value_Keys x0 Q w) : Calls Try.prog id_index_Index_table_value_Keys #[.pointer x0] w fun e w' => ∃ v, e = .returned v ∧ Q v w' :=
  funJ_calls mixed Try.func31 rfl h

-- (*hoard/index.Index[hoard/table.value]).Len
def index_Index_table_value_Len_kp : KP := ⟨[], []⟩
def index_Index_table_value_Len (x0 : Option Addr) (Q : Value → WP) : WP := funJ idJ Try.prog index_Index_table_value_Len_kp Try.f32 [.pointer x0] Q
theorem index_Index_table_value_Len_raw (jn : Jn) (x0 : Option Addr) (Q : Value → WP) : funJ jn Try.prog index_Index_table_value_Len_kp Try.f32 [.pointer x0] Q = (
  ite2 (Option.isNone x0) (
  Q (.int .i64 (0 : Int))) (
  nilck x0 fun b_1 o_2 =>
  ld (.int .i64) b_1 (o_2 + 2) fun (x_3 : Int) =>
  Q (.int .i64 x_3))) := by kernel_rfl
theorem index_Index_table_value_Len_def (x0 : Option Addr) (Q : Value → WP) : index_Index_table_value_Len x0 Q = funJ idJ Try.prog index_Index_table_value_Len_kp Try.f32 [.pointer x0] Q := rfl
theorem index_Index_table_value_Len_calls {x0 : Option Addr} {Q : Value → WP} {w : World} (h : index_Index_table_value_Len x0 Q w) : Calls Try.prog id_index_Index_table_value_Len #[.pointer x0] w fun e w' => ∃ v, e = .returned v ∧ Q v w' :=
  funJ_calls mixed Try.func32 rfl h

-- (*hoard/hoardref21.Table).Put
def hoardref21_Table_Put_kp : KP := ⟨[(16, [0, 1, 2, 3, 4]), (22, [0, 1, 12])], [(12, [0, 1, 2, 3, 4, 6]), (14, [1, 2, 3, 4, 5, 6, 8, 11])]⟩
def hoardref21_Table_Put_j2 (jn : Jn) (Q : Value → WP)  (t0 : Option Addr) (key1 : ByteArray) (e12_b : Nat) (e12_o : Nat) : WP := jn 22 (fun ρ => codeI Try.prog hoardref21_Table_Put_kp jn (cAt [true, true, true, true] (bodyOf Try.f33)) (retK Try.prog Try.f33 Q) noX (retK Try.prog Try.f33 Q) ρ) ((.pointer t0) :: (.string key1) :: us 10 ((.pointer (some ⟨e12_b, e12_o, none⟩)) :: us 71 []))
def hoardref21_Table_Put_j1 (jn : Jn) (Q : Value → WP)  (t0 : Option Addr) (key1 : ByteArray) (val2 : ByteArray) (now3 : Int) (life4 : Int) : WP := jn 16 (fun ρ => codeI Try.prog hoardref21_Table_Put_kp jn (cAt [true, true] (bodyOf Try.f33)) (retK Try.prog Try.f33 Q) noX (retK Try.prog Try.f33 Q) ρ) ((.pointer t0) :: (.string key1) :: (.string val2) :: (.int .i64 now3) :: (.int .i64 life4) :: us 79 [])
def hoardref21_Table_Put (t0 : Option Addr) (key1 : ByteArray) (val2 : ByteArray) (now3 : Int) (life4 : Int) (Q : Value → WP) : WP := funJ idJ Try.prog hoardref21_Table_Put_kp Try.f33 [.pointer t0, .string key1, .string val2, .int .i64 now3, .int .i64 life4] Q
theorem hoardref21_Table_Put_j2_raw (jn : Jn) (Q : Value → WP)  (t0 : Option Addr) (key1 : ByteArray) (e12_b : Nat) (e12_o : Nat) : codeI Try.prog hoardref21_Table_Put_kp jn (cAt [true, true, true, true] (bodyOf Try.f33)) (retK Try.prog Try.f33 Q) noX (retK Try.prog Try.f33 Q) ((.pointer t0) :: (.string key1) :: us 10 ((.pointer (some ⟨e12_b, e12_o, none⟩)) :: us 71 [])) = (
  call2 (.int .i64) .bool Try.prog id_hoardref21_Table_at [.pointer t0, .string key1] fun (x_3 : Int) (x_4 : Bool) =>
  ite2 x_4 (
  drawW fun S =>
  nilck t0 fun b_5 o_6 =>
  ldS S .slc b_5 o_6 fun (x_7 : Sl) =>
  ld .str e12_b e12_o fun (x_8 : ByteArray) =>
  ld .str e12_b (e12_o + 1) fun (x_9 : ByteArray) =>
  ld (.int .i64) e12_b ((e12_o + 1) + 1) fun (x_10 : Int) =>
  keepS true S <|
  idx x_7.a x_7.n x_3 fun b_11 o_12 =>
  st b_11 (o_12 + (x_3).toNat * 3) (.string x_8) <|
  st b_11 ((o_12 + (x_3).toNat * 3) + 1) (.string x_9) <|
  st b_11 (((o_12 + (x_3).toNat * 3) + 1) + 1) (.int .i64 x_10) <|
  Q (.tuple #[.bool false, .int .i64 (0 : Int)])) (
  drawW fun S =>
  nilck t0 fun b_13 o_14 =>
  ldS S .slc b_13 o_14 fun (x_15 : Sl) =>
  when ((0 : Int) ≤ x_3 ∧ x_3 ≤ (x_15.c : Int)) <|
  ldS S .str e12_b e12_o fun (x_16 : ByteArray) =>
  ldS S .str e12_b (e12_o + 1) fun (x_17 : ByteArray) =>
  ldS S (.int .i64) e12_b ((e12_o + 1) + 1) fun (x_18 : Int) =>
  allW [
  (newB [] ty_hoardref21_Entry fun b_19 =>
  keepS true S <|
  allW [
  (appendC ty_hoardref21_Entry 3 40 [.string str_empty, .string str_empty, .int .i64 (0 : Int)] ⟨(some ⟨b_19, 0, none⟩), 0, 0⟩ ((x_3).toNat - 0) (fun w => rdA w (subA x_15.a 0 x_15.c 3) (((x_3).toNat - 0) * 3)) fun s_20 =>
  keepS true S <|
  newB [.string x_16, .string x_17, .int .i64 x_18] ty_hoardref21_Entry fun b_21 =>
  keepS true S <|
  appendC ty_hoardref21_Entry 3 40 [.string str_empty, .string str_empty, .int .i64 (0 : Int)] ⟨s_20.a, s_20.n, s_20.c⟩ 1 (fun w => rdA w (some ⟨b_21, 0, none⟩) (1 * 3)) fun s_22 =>
  nilck t0 fun b_23 o_24 =>
  ld .slc b_23 o_24 fun (x_25 : Sl) =>
  when ((0 : Int) ≤ x_3 ∧ x_3 ≤ (x_25.n : Int)) <|
  appendC ty_hoardref21_Entry 3 40 [.string str_empty, .string str_empty, .int .i64 (0 : Int)] ⟨s_22.a, s_22.n, s_22.c⟩ (x_25.n - (x_3).toNat) (fun w => rdA w (subA x_25.a ((x_3).toNat) x_25.c 3) ((x_25.n - (x_3).toNat) * 3)) fun s_26 =>
  nilck t0 fun b_27 o_28 =>
  st b_27 o_28 (.slice s_26.a s_26.n s_26.c) <|
  Q (.tuple #[.bool true, .int .i64 (0 : Int)])),
  (newB [.string x_16, .string x_17, .int .i64 x_18] ty_hoardref21_Entry fun b_29 =>
  keepS true S <|
  appendC ty_hoardref21_Entry 3 40 [.string str_empty, .string str_empty, .int .i64 (0 : Int)] ⟨(some ⟨b_19, 0, none⟩), 0, 0⟩ ((x_3).toNat - 0) (fun w => rdA w (subA x_15.a 0 x_15.c 3) (((x_3).toNat - 0) * 3)) fun s_30 =>
  keepS true S <|
  appendC ty_hoardref21_Entry 3 40 [.string str_empty, .string str_empty, .int .i64 (0 : Int)] ⟨s_30.a, s_30.n, s_30.c⟩ 1 (fun w => rdA w (some ⟨b_29, 0, none⟩) (1 * 3)) fun s_31 =>
  nilck t0 fun b_32 o_33 =>
  ld .slc b_32 o_33 fun (x_34 : Sl) =>
  when ((0 : Int) ≤ x_3 ∧ x_3 ≤ (x_34.n : Int)) <|
  appendC ty_hoardref21_Entry 3 40 [.string str_empty, .string str_empty, .int .i64 (0 : Int)] ⟨s_31.a, s_31.n, s_31.c⟩ (x_34.n - (x_3).toNat) (fun w => rdA w (subA x_34.a ((x_3).toNat) x_34.c 3) ((x_34.n - (x_3).toNat) * 3)) fun s_35 =>
  nilck t0 fun b_36 o_37 =>
  st b_36 o_37 (.slice s_35.a s_35.n s_35.c) <|
  Q (.tuple #[.bool true, .int .i64 (0 : Int)]))]),
  (newB [.string x_16, .string x_17, .int .i64 x_18] ty_hoardref21_Entry fun b_38 =>
  keepS true S <|
  newB [] ty_hoardref21_Entry fun b_39 =>
  keepS true S <|
  appendC ty_hoardref21_Entry 3 40 [.string str_empty, .string str_empty, .int .i64 (0 : Int)] ⟨(some ⟨b_39, 0, none⟩), 0, 0⟩ ((x_3).toNat - 0) (fun w => rdA w (subA x_15.a 0 x_15.c 3) (((x_3).toNat - 0) * 3)) fun s_40 =>
  keepS true S <|
  appendC ty_hoardref21_Entry 3 40 [.string str_empty, .string str_empty, .int .i64 (0 : Int)] ⟨s_40.a, s_40.n, s_40.c⟩ 1 (fun w => rdA w (some ⟨b_38, 0, none⟩) (1 * 3)) fun s_41 =>
  nilck t0 fun b_42 o_43 =>
  ld .slc b_42 o_43 fun (x_44 : Sl) =>
  when ((0 : Int) ≤ x_3 ∧ x_3 ≤ (x_44.n : Int)) <|
  appendC ty_hoardref21_Entry 3 40 [.string str_empty, .string str_empty, .int .i64 (0 : Int)] ⟨s_41.a, s_41.n, s_41.c⟩ (x_44.n - (x_3).toNat) (fun w => rdA w (subA x_44.a ((x_3).toNat) x_44.c 3) ((x_44.n - (x_3).toNat) * 3)) fun s_45 =>
  nilck t0 fun b_46 o_47 =>
  st b_46 o_47 (.slice s_45.a s_45.n s_45.c) <|
  Q (.tuple #[.bool true, .int .i64 (0 : Int)]))])) := by kernel_rfl
theorem hoardref21_Table_Put_j2_def (Q : Value → WP)  (t0 : Option Addr) (key1 : ByteArray) (e12_b : Nat) (e12_o : Nat) : hoardref21_Table_Put_j2 idJ Q  t0 key1 e12_b e12_o = codeI Try.prog hoardref21_Table_Put_kp idJ (cAt [true, true, true, true] (bodyOf Try.f33)) (retK Try.prog Try.f33 Q) noX (retK Try.prog Try.f33 Q) ((.pointer t0) :: (.string key1) :: us 10 ((.pointer (some ⟨e12_b, e12_o, none⟩)) :: us 71 [])) := by kernel_rfl
theorem hoardref21_Table_Put_j1_raw (jn : Jn) (Q : Value → WP)  (t0 : Option Addr) (key1 : ByteArray) (val2 : ByteArray) (now3 : Int) (life4 : Int) : codeI Try.prog hoardref21_Table_Put_kp jn (cAt [true, true] (bodyOf Try.f33)) (retK Try.prog Try.f33 Q) noX (retK Try.prog Try.f33 Q) ((.pointer t0) :: (.string key1) :: (.string val2) :: (.int .i64 now3) :: (.int .i64 life4) :: us 79 []) = (
  newB [.string str_empty, .string str_empty, .int .i64 (0 : Int)] ty_hoardref21_Entry fun b_2 =>
  st b_2 0 (.string key1) <|
  st b_2 1 (.string val2) <|
  st b_2 2 (.int .i64 (0 : Int)) <|
  ite2 (decide (life4 > (0 : Int))) (
  st b_2 2 (.int .i64 (IntKind.wrap .i64 (now3 + life4))) <|
  hoardref21_Table_Put_j2 jn Q  t0 key1 b_2 0) (
  hoardref21_Table_Put_j2 jn Q  t0 key1 b_2 0)) := by kernel_rfl
theorem hoardref21_Table_Put_j1_def (Q : Value → WP)  (t0 : Option Addr) (key1 : ByteArray) (val2 : ByteArray) (now3 : Int) (life4 : Int) : hoardref21_Table_Put_j1 idJ Q  t0 key1 val2 now3 life4 = codeI Try.prog hoardref21_Table_Put_kp idJ (cAt [true, true] (bodyOf Try.f33)) (retK Try.prog Try.f33 Q) noX (retK Try.prog Try.f33 Q) ((.pointer t0) :: (.string key1) :: (.string val2) :: (.int .i64 now3) :: (.int .i64 life4) :: us 79 []) := by kernel_rfl
theorem hoardref21_Table_Put_raw (jn : Jn) (t0 : Option Addr) (key1 : ByteArray) (val2 : ByteArray) (now3 : Int) (life4 : Int) (Q : Value → WP) : funJ jn Try.prog hoardref21_Table_Put_kp Try.f33 [.pointer t0, .string key1, .string val2, .int .i64 now3, .int .i64 life4] Q = (
  call1 .bool Try.prog id_hoardref1_Key [.string key1] fun (x_1 : Bool) =>
  ite2 (!x_1) (
  Q (.tuple #[.bool false, .int .i64 (2 : Int)])) (
  ite2 (decide ((val2.size : Int) > (64 : Int))) (
  Q (.tuple #[.bool false, .int .i64 (3 : Int)])) (
  ite2 (decide (now3 < (0 : Int))) (
  Q (.tuple #[.bool false, .int .i64 (1 : Int)])) (
  ite2 (decide (now3 > (1125899906842624 : Int))) (
  Q (.tuple #[.bool false, .int .i64 (1 : Int)])) (
  ite2 (decide (life4 < (0 : Int))) (
  Q (.tuple #[.bool false, .int .i64 (1 : Int)])) (
  ite2 (decide (life4 > (1099511627776 : Int))) (
  Q (.tuple #[.bool false, .int .i64 (1 : Int)])) (
  hoardref21_Table_Put_j1 jn Q  t0 key1 val2 now3 life4))))))) := by kernel_rfl
theorem hoardref21_Table_Put_def (t0 : Option Addr) (key1 : ByteArray) (val2 : ByteArray) (now3 : Int) (life4 : Int) (Q : Value → WP) : hoardref21_Table_Put t0 key1 val2 now3 life4 Q = funJ idJ Try.prog hoardref21_Table_Put_kp Try.f33 [.pointer t0, .string key1, .string val2, .int .i64 now3, .int .i64 life4] Q := rfl
theorem hoardref21_Table_Put_calls {t0 : Option Addr} {key1 : ByteArray} {val2 : ByteArray} {now3 : Int} {life4 : Int} {Q : Value → WP} {w : World} (h : hoardref21_Table_Put t0 key1 val2 now3 life4 Q w) : Calls Try.prog id_hoardref21_Table_Put #[.pointer t0, .string key1, .string val2, .int .i64 now3, .int .i64 life4] w fun e w' => ∃ v, e = .returned v ∧ Q v w' :=
  funJ_calls mixed Try.func33 rfl h

-- (*hoard/hoardref21.Table).Get
def hoardref21_Table_Get_kp : KP := ⟨[(10, [0, 8])], []⟩
def hoardref21_Table_Get_j1 (jn : Jn) (Q : Value → WP)  (t0 : Option Addr) (i8 : Int) : WP := jn 10 (fun ρ => codeI Try.prog hoardref21_Table_Get_kp jn (cAt [true, true, true] (bodyOf Try.f34)) (retK Try.prog Try.f34 Q) noX (retK Try.prog Try.f34 Q) ρ) ((.pointer t0) :: us 7 ((.int .i64 i8) :: us 28 []))
def hoardref21_Table_Get (t0 : Option Addr) (key1 : ByteArray) (now2 : Int) (Q : Value → WP) : WP := funJ idJ Try.prog hoardref21_Table_Get_kp Try.f34 [.pointer t0, .string key1, .int .i64 now2] Q
theorem hoardref21_Table_Get_j1_raw (jn : Jn) (Q : Value → WP)  (t0 : Option Addr) (i8 : Int) : codeI Try.prog hoardref21_Table_Get_kp jn (cAt [true, true, true] (bodyOf Try.f34)) (retK Try.prog Try.f34 Q) noX (retK Try.prog Try.f34 Q) ((.pointer t0) :: us 7 ((.int .i64 i8) :: us 28 [])) = (
  nilck t0 fun b_12 o_13 =>
  ld .slc b_12 o_13 fun (x_14 : Sl) =>
  idx x_14.a x_14.n i8 fun b_15 o_16 =>
  ld .str b_15 ((o_16 + (i8).toNat * 3) + 1) fun (x_17 : ByteArray) =>
  Q (.tuple #[.string x_17, .bool true])) := by kernel_rfl
theorem hoardref21_Table_Get_j1_def (Q : Value → WP)  (t0 : Option Addr) (i8 : Int) : hoardref21_Table_Get_j1 idJ Q  t0 i8 = codeI Try.prog hoardref21_Table_Get_kp idJ (cAt [true, true, true] (bodyOf Try.f34)) (retK Try.prog Try.f34 Q) noX (retK Try.prog Try.f34 Q) ((.pointer t0) :: us 7 ((.int .i64 i8) :: us 28 [])) := by kernel_rfl
theorem hoardref21_Table_Get_raw (jn : Jn) (t0 : Option Addr) (key1 : ByteArray) (now2 : Int) (Q : Value → WP) : funJ jn Try.prog hoardref21_Table_Get_kp Try.f34 [.pointer t0, .string key1, .int .i64 now2] Q = (
  call2 (.int .i64) .bool Try.prog id_hoardref21_Table_at [.pointer t0, .string key1] fun (x_1 : Int) (x_2 : Bool) =>
  ite2 (!x_2) (
  Q (.tuple #[.string str_empty, .bool false])) (
  nilck t0 fun b_3 o_4 =>
  ld .slc b_3 o_4 fun (x_5 : Sl) =>
  idx x_5.a x_5.n x_1 fun b_6 o_7 =>
  ld .str b_6 (o_7 + (x_1).toNat * 3) fun (x_8 : ByteArray) =>
  ld .str b_6 ((o_7 + (x_1).toNat * 3) + 1) fun (x_9 : ByteArray) =>
  ld (.int .i64) b_6 (((o_7 + (x_1).toNat * 3) + 1) + 1) fun (x_10 : Int) =>
  call1 .bool Try.prog id_hoardref21_over [.agg #[.string x_8, .string x_9, .int .i64 x_10], .int .i64 now2] fun (x_11 : Bool) =>
  ite2 x_11 (
  Q (.tuple #[.string str_empty, .bool false])) (
  hoardref21_Table_Get_j1 jn Q  t0 x_1))) := by kernel_rfl
theorem hoardref21_Table_Get_def (t0 : Option Addr) (key1 : ByteArray) (now2 : Int) (Q : Value → WP) : hoardref21_Table_Get t0 key1 now2 Q = funJ idJ Try.prog hoardref21_Table_Get_kp Try.f34 [.pointer t0, .string key1, .int .i64 now2] Q := rfl
theorem hoardref21_Table_Get_calls {t0 : Option Addr} {key1 : ByteArray} {now2 : Int} {Q : Value → WP} {w : World} (h : hoardref21_Table_Get t0 key1 now2 Q w) : Calls Try.prog id_hoardref21_Table_Get #[.pointer t0, .string key1, .int .i64 now2] w fun e w' => ∃ v, e = .returned v ∧ Q v w' :=
  funJ_calls mixed Try.func34 rfl h

-- (*hoard/hoardref21.Table).Delete
def hoardref21_Table_Delete_kp : KP := ⟨[], [(3, [0, 2, 3, 4, 5, 6, 7, 9, 10, 11, 12, 13, 14, 15, 17, 18])]⟩
def hoardref21_Table_Delete (t0 : Option Addr) (key1 : ByteArray) (Q : Value → WP) : WP := funJ idJ Try.prog hoardref21_Table_Delete_kp Try.f35 [.pointer t0, .string key1] Q
theorem hoardref21_Table_Delete_raw (jn : Jn) (t0 : Option Addr) (key1 : ByteArray) (Q : Value → WP) : funJ jn Try.prog hoardref21_Table_Delete_kp Try.f35 [.pointer t0, .string key1] Q = (
  call2 (.int .i64) .bool Try.prog id_hoardref21_Table_at [.pointer t0, .string key1] fun (x_1 : Int) (x_2 : Bool) =>
  ite2 x_2 (
  drawW fun S =>
  nilck t0 fun b_3 o_4 =>
  ldS S .slc b_3 o_4 fun (x_5 : Sl) =>
  when ((0 : Int) ≤ x_1 ∧ x_1 ≤ (x_5.c : Int)) <|
  nilck t0 fun b_6 o_7 =>
  ldS S .slc b_6 o_7 fun (x_8 : Sl) =>
  when ((0 : Int) ≤ (IntKind.wrap .i64 (x_1 + (1 : Int))) ∧ (IntKind.wrap .i64 (x_1 + (1 : Int))) ≤ (x_8.n : Int)) <|
  newB [] ty_hoardref21_Entry fun b_9 =>
  keepS true S <|
  appendC ty_hoardref21_Entry 3 40 [.string str_empty, .string str_empty, .int .i64 (0 : Int)] ⟨(some ⟨b_9, 0, none⟩), 0, 0⟩ ((x_1).toNat - 0) (fun w => rdA w (subA x_5.a 0 x_5.c 3) (((x_1).toNat - 0) * 3)) fun s_10 =>
  keepS true S <|
  appendC ty_hoardref21_Entry 3 40 [.string str_empty, .string str_empty, .int .i64 (0 : Int)] ⟨s_10.a, s_10.n, s_10.c⟩ (x_8.n - ((IntKind.wrap .i64 (x_1 + (1 : Int)))).toNat) (fun w => rdA w (subA x_8.a (((IntKind.wrap .i64 (x_1 + (1 : Int)))).toNat) x_8.c 3) ((x_8.n - ((IntKind.wrap .i64 (x_1 + (1 : Int)))).toNat) * 3)) fun s_11 =>
  nilck t0 fun b_12 o_13 =>
  st b_12 o_13 (.slice s_11.a s_11.n s_11.c) <|
  Q (.bool x_2)) (
  Q (.bool x_2))) := by kernel_rfl
theorem hoardref21_Table_Delete_def (t0 : Option Addr) (key1 : ByteArray) (Q : Value → WP) : hoardref21_Table_Delete t0 key1 Q = funJ idJ Try.prog hoardref21_Table_Delete_kp Try.f35 [.pointer t0, .string key1] Q := rfl
theorem hoardref21_Table_Delete_calls {t0 : Option Addr} {key1 : ByteArray} {Q : Value → WP} {w : World} (h : hoardref21_Table_Delete t0 key1 Q w) : Calls Try.prog id_hoardref21_Table_Delete #[.pointer t0, .string key1] w fun e w' => ∃ v, e = .returned v ∧ Q v w' :=
  funJ_calls mixed Try.func35 rfl h

-- (*hoard/hoardref21.Table).Due
def hoardref21_Table_Due_kp : KP := ⟨[(9, [0, 1, 5, 6]), (16, [5])], []⟩
def hoardref21_Table_Due_j2 (jn : Jn) (Q : Value → WP)  (l5 : Sl) : WP := jn 16 (fun ρ => codeI Try.prog hoardref21_Table_Due_kp jn (cAt [true, true, true] (bodyOf Try.f36)) (retK Try.prog Try.f36 Q) noX (retK Try.prog Try.f36 Q) ρ) (us 5 ((.slice l5.a l5.n l5.c) :: us 31 []))
def hoardref21_Table_Due_l1 (jn : Jn) (Q : Value → WP)  (m1 : Nat) (t0 : Option Addr) (now1 : Int) (l5 : Sl) (i6 : Int) : WP := lop Try.prog hoardref21_Table_Due_kp jn (cAt [true, true, false, true, false, false] (bodyOf Try.f36)) (blkX 0 (seqK Try.prog hoardref21_Table_Due_kp jn (cAt [true, true, true] (bodyOf Try.f36)) (retK Try.prog Try.f36 Q) noX (retK Try.prog Try.f36 Q)) noX) (retK Try.prog Try.f36 Q) m1 ((.pointer t0) :: (.int .i64 now1) :: us 3 ((.slice l5.a l5.n l5.c) :: (.int .i64 i6) :: us 30 []))
def hoardref21_Table_Due (t0 : Option Addr) (now1 : Int) (Q : Value → WP) : WP := funJ idJ Try.prog hoardref21_Table_Due_kp Try.f36 [.pointer t0, .int .i64 now1] Q
theorem hoardref21_Table_Due_j2_raw (jn : Jn) (Q : Value → WP)  (l5 : Sl) : codeI Try.prog hoardref21_Table_Due_kp jn (cAt [true, true, true] (bodyOf Try.f36)) (retK Try.prog Try.f36 Q) noX (retK Try.prog Try.f36 Q) (us 5 ((.slice l5.a l5.n l5.c) :: us 31 [])) = (
  Q (.slice l5.a l5.n l5.c)) := by kernel_rfl
theorem hoardref21_Table_Due_j2_def (Q : Value → WP)  (l5 : Sl) : hoardref21_Table_Due_j2 idJ Q  l5 = codeI Try.prog hoardref21_Table_Due_kp idJ (cAt [true, true, true] (bodyOf Try.f36)) (retK Try.prog Try.f36 Q) noX (retK Try.prog Try.f36 Q) (us 5 ((.slice l5.a l5.n l5.c) :: us 31 [])) := by kernel_rfl
theorem hoardref21_Table_Due_l1_raw (jn : Jn) (Q : Value → WP)  (m1 : Nat) (t0 : Option Addr) (now1 : Int) (l5 : Sl) (i6 : Int) : hoardref21_Table_Due_l1 jn Q  (m1 + 1) t0 now1 l5 i6 = (
  nilck t0 fun b_1 o_2 =>
  ld .slc b_1 o_2 fun (x_3 : Sl) =>
  ite2 (decide (i6 < (x_3.n : Int))) (
  nilck t0 fun b_4 o_5 =>
  ld .slc b_4 o_5 fun (x_6 : Sl) =>
  idx x_6.a x_6.n i6 fun b_7 o_8 =>
  ld .str b_7 (o_8 + (i6).toNat * 3) fun (x_9 : ByteArray) =>
  ld .str b_7 ((o_8 + (i6).toNat * 3) + 1) fun (x_10 : ByteArray) =>
  ld (.int .i64) b_7 (((o_8 + (i6).toNat * 3) + 1) + 1) fun (x_11 : Int) =>
  call1 .bool Try.prog id_hoardref21_over [.agg #[.string x_9, .string x_10, .int .i64 x_11], .int .i64 now1] fun (x_12 : Bool) =>
  ite2 x_12 (
  nilck t0 fun b_13 o_14 =>
  ld .slc b_13 o_14 fun (x_15 : Sl) =>
  idx x_15.a x_15.n i6 fun b_16 o_17 =>
  ld .str b_16 (o_17 + (i6).toNat * 3) fun (x_18 : ByteArray) =>
  newB [.string x_18] ty_string fun b_19 =>
  appendC ty_string 1 16 [.string str_empty] ⟨l5.a, l5.n, l5.c⟩ 1 (fun w => rdA w (some ⟨b_19, 0, none⟩) (1 * 1)) fun s_20 =>
  hoardref21_Table_Due_l1 jn Q  m1 t0 now1 s_20 (IntKind.wrap .i64 (i6 + (1 : Int)))) (
  hoardref21_Table_Due_l1 jn Q  m1 t0 now1 l5 (IntKind.wrap .i64 (i6 + (1 : Int))))) (
  hoardref21_Table_Due_j2 jn Q  l5)) := by kernel_rfl
theorem hoardref21_Table_Due_l1_zero (jn : Jn) (Q : Value → WP)  (t0 : Option Addr) (now1 : Int) (l5 : Sl) (i6 : Int) : hoardref21_Table_Due_l1 jn Q  0 t0 now1 l5 i6 = bot := by kernel_rfl
theorem hoardref21_Table_Due_raw (jn : Jn) (t0 : Option Addr) (now1 : Int) (Q : Value → WP) : funJ jn Try.prog hoardref21_Table_Due_kp Try.f36 [.pointer t0, .int .i64 now1] Q = (
  exM fun m => hoardref21_Table_Due_l1 jn Q  m t0 now1 ⟨(none : Option Addr), 0, 0⟩ (0 : Int)) := by kernel_rfl
theorem hoardref21_Table_Due_def (t0 : Option Addr) (now1 : Int) (Q : Value → WP) : hoardref21_Table_Due t0 now1 Q = funJ idJ Try.prog hoardref21_Table_Due_kp Try.f36 [.pointer t0, .int .i64 now1] Q := rfl
theorem hoardref21_Table_Due_calls {t0 : Option Addr} {now1 : Int} {Q : Value → WP} {w : World} (h : hoardref21_Table_Due t0 now1 Q w) : Calls Try.prog id_hoardref21_Table_Due #[.pointer t0, .int .i64 now1] w fun e w' => ∃ v, e = .returned v ∧ Q v w' :=
  funJ_calls mixed Try.func36 rfl h

-- (*hoard/hoardref21.Table).at
def hoardref21_Table_at_kp : KP := ⟨[(7, [0, 1, 6]), (10, [0, 1, 6])], [(4, [0, 1, 2, 3, 4, 6, 7, 8, 9, 10, 11, 13, 14, 15, 17, 18, 19, 20, 21])]⟩
def hoardref21_Table_at_j2 (jn : Jn) (Q : Value → WP)  (t0 : Option Addr) (key1 : ByteArray) (i6 : Int) : WP := jn 10 (fun ρ => codeI Try.prog hoardref21_Table_at_kp jn (cAt [true, true, true] (bodyOf Try.f37)) (retK Try.prog Try.f37 Q) noX (retK Try.prog Try.f37 Q) ρ) ((.pointer t0) :: (.string key1) :: us 4 ((.int .i64 i6) :: us 41 []))
def hoardref21_Table_at_l1 (jn : Jn) (Q : Value → WP)  (m1 : Nat) (t0 : Option Addr) (key1 : ByteArray) (i6 : Int) : WP := lop Try.prog hoardref21_Table_at_kp jn (cAt [true, true, false, false, false] (bodyOf Try.f37)) (blkX 0 (seqK Try.prog hoardref21_Table_at_kp jn (cAt [true, true, true] (bodyOf Try.f37)) (retK Try.prog Try.f37 Q) noX (retK Try.prog Try.f37 Q)) noX) (retK Try.prog Try.f37 Q) m1 ((.pointer t0) :: (.string key1) :: us 4 ((.int .i64 i6) :: us 41 []))
def hoardref21_Table_at (t0 : Option Addr) (key1 : ByteArray) (Q : Value → WP) : WP := funJ idJ Try.prog hoardref21_Table_at_kp Try.f37 [.pointer t0, .string key1] Q
theorem hoardref21_Table_at_j2_raw (jn : Jn) (Q : Value → WP)  (t0 : Option Addr) (key1 : ByteArray) (i6 : Int) : codeI Try.prog hoardref21_Table_at_kp jn (cAt [true, true, true] (bodyOf Try.f37)) (retK Try.prog Try.f37 Q) noX (retK Try.prog Try.f37 Q) ((.pointer t0) :: (.string key1) :: us 4 ((.int .i64 i6) :: us 41 [])) = (
  drawW fun S =>
  nilck t0 fun b_10 o_11 =>
  ld .slc b_10 o_11 fun (x_12 : Sl) =>
  ite2 (decide (i6 < (x_12.n : Int))) (
  nilck t0 fun b_13 o_14 =>
  ld .slc b_13 o_14 fun (x_15 : Sl) =>
  idx x_15.a x_15.n i6 fun b_16 o_17 =>
  ld .str b_16 (o_17 + (i6).toNat * 3) fun (x_18 : ByteArray) =>
  Q (.tuple #[.int .i64 i6, .bool (sEq x_18 key1)])) (
  Q (.tuple #[.int .i64 i6, .bool false]))) := by kernel_rfl
theorem hoardref21_Table_at_j2_def (Q : Value → WP)  (t0 : Option Addr) (key1 : ByteArray) (i6 : Int) : hoardref21_Table_at_j2 idJ Q  t0 key1 i6 = codeI Try.prog hoardref21_Table_at_kp idJ (cAt [true, true, true] (bodyOf Try.f37)) (retK Try.prog Try.f37 Q) noX (retK Try.prog Try.f37 Q) ((.pointer t0) :: (.string key1) :: us 4 ((.int .i64 i6) :: us 41 [])) := by kernel_rfl
theorem hoardref21_Table_at_l1_raw (jn : Jn) (Q : Value → WP)  (m1 : Nat) (t0 : Option Addr) (key1 : ByteArray) (i6 : Int) : hoardref21_Table_at_l1 jn Q  (m1 + 1) t0 key1 i6 = (
  nilck t0 fun b_1 o_2 =>
  ld .slc b_1 o_2 fun (x_3 : Sl) =>
  ite2 (decide (i6 < (x_3.n : Int))) (
  nilck t0 fun b_4 o_5 =>
  ld .slc b_4 o_5 fun (x_6 : Sl) =>
  idx x_6.a x_6.n i6 fun b_7 o_8 =>
  ld .str b_7 (o_8 + (i6).toNat * 3) fun (x_9 : ByteArray) =>
  ite2 (sLt x_9 key1) (
  hoardref21_Table_at_l1 jn Q  m1 t0 key1 (IntKind.wrap .i64 (i6 + (1 : Int)))) (
  hoardref21_Table_at_j2 jn Q  t0 key1 i6)) (
  hoardref21_Table_at_j2 jn Q  t0 key1 i6)) := by kernel_rfl
theorem hoardref21_Table_at_l1_zero (jn : Jn) (Q : Value → WP)  (t0 : Option Addr) (key1 : ByteArray) (i6 : Int) : hoardref21_Table_at_l1 jn Q  0 t0 key1 i6 = bot := by kernel_rfl
theorem hoardref21_Table_at_raw (jn : Jn) (t0 : Option Addr) (key1 : ByteArray) (Q : Value → WP) : funJ jn Try.prog hoardref21_Table_at_kp Try.f37 [.pointer t0, .string key1] Q = (
  exM fun m => hoardref21_Table_at_l1 jn Q  m t0 key1 (0 : Int)) := by kernel_rfl
theorem hoardref21_Table_at_def (t0 : Option Addr) (key1 : ByteArray) (Q : Value → WP) : hoardref21_Table_at t0 key1 Q = funJ idJ Try.prog hoardref21_Table_at_kp Try.f37 [.pointer t0, .string key1] Q := rfl
theorem hoardref21_Table_at_calls {t0 : Option Addr} {key1 : ByteArray} {Q : Value → WP} {w : World} (h : hoardref21_Table_at t0 key1 Q w) : Calls Try.prog id_hoardref21_Table_at #[.pointer t0, .string key1] w fun e w' => ∃ v, e = .returned v ∧ Q v w' :=
  funJ_calls mixed Try.func37 rfl h

-- (*hoard/index.Index[hoard/table.value]).Delete
def index_Index_table_value_Delete_kp : KP := ⟨[], []⟩
def index_Index_table_value_Delete (x0 : Option Addr) (key1 : ByteArray) (Q : Value → WP) : WP := funJ idJ Try.prog index_Index_table_value_Delete_kp Try.f38 [.pointer x0, .string key1] Q
theorem index_Index_table_value_Delete_raw (jn : Jn) (x0 : Option Addr) (key1 : ByteArray) (Q : Value → WP) : funJ jn Try.prog index_Index_table_value_Delete_kp Try.f38 [.pointer x0, .string key1] Q = (
  newB [.string str_empty, .int .i64 (0 : Int)] ty_table_value fun b_1 =>
  fun w => Calls Try.prog id_index_Index_table_value_Get #[.pointer x0, .string key1] w fun e w' => ∃ x_2 : ByteArray, ∃ x_3 : Int, ∃ x_4 : Bool, e = .returned (.tuple #[.agg #[.string x_2, .int .i64 x_3], .bool x_4]) ∧ (
  newB [.string str_empty, .int .i64 (0 : Int)] ty_table_value fun b_5 =>
  st b_5 0 (.string x_2) <|
  st b_5 1 (.int .i64 x_3) <|
  ite2 x_4 (
  call2 (.int .i64) .bool Try.prog id_index_Index_table_value_find [.pointer x0, .string key1] fun (x_6 : Int) (x_7 : Bool) =>
  nilck x0 fun b_8 o_9 =>
  ld .slc b_8 (o_9 + 1) fun (x_10 : Sl) =>
  idx x_10.a x_10.n x_6 fun b_11 o_12 =>
  st b_11 (o_12 + (x_6).toNat * 4) (.int .i64 (1 : Int)) <|
  st b_11 ((o_12 + (x_6).toNat * 4) + 1) (.string str_empty) <|
  st b_11 (((o_12 + (x_6).toNat * 4) + 1) + 1) (.string str_empty) <|
  st b_11 ((((o_12 + (x_6).toNat * 4) + 1) + 1) + 1) (.int .i64 (0 : Int)) <|
  nilck x0 fun b_13 o_14 =>
  ld (.int .i64) b_13 (o_14 + 2) fun (x_15 : Int) =>
  nilck x0 fun b_16 o_17 =>
  st b_16 (o_17 + 2) (.int .i64 (IntKind.wrap .i64 (x_15 - (1 : Int)))) <|
  ld .str b_5 0 fun (x_18 : ByteArray) =>
  ld (.int .i64) b_5 1 fun (x_19 : Int) =>
  st b_1 0 (.string x_18) <|
  st b_1 1 (.int .i64 x_19) <|
  ld .str b_1 0 fun (x_20 : ByteArray) =>
  ld (.int .i64) b_1 1 fun (x_21 : Int) =>
  Q (.tuple #[.agg #[.string x_20, .int .i64 x_21], .bool x_4])) (
  ld .str b_5 0 fun (x_22 : ByteArray) =>
  ld (.int .i64) b_5 1 fun (x_23 : Int) =>
  st b_1 0 (.string x_22) <|
  st b_1 1 (.int .i64 x_23) <|
  ld .str b_1 0 fun (x_24 : ByteArray) =>
  ld (.int .i64) b_1 1 fun (x_25 : Int) =>
  Q (.tuple #[.agg #[.string x_24, .int .i64 x_25], .bool x_4]))) w') := by kernel_rfl
theorem index_Index_table_value_Delete_def (x0 : Option Addr) (key1 : ByteArray) (Q : Value → WP) : index_Index_table_value_Delete x0 key1 Q = funJ idJ Try.prog index_Index_table_value_Delete_kp Try.f38 [.pointer x0, .string key1] Q := rfl
theorem index_Index_table_value_Delete_calls {x0 : Option Addr} {key1 : ByteArray} {Q : Value → WP} {w : World} (h : index_Index_table_value_Delete x0 key1 Q w) : Calls Try.prog id_index_Index_table_value_Delete #[.pointer x0, .string key1] w fun e w' => ∃ v, e = .returned v ∧ Q v w' :=
  funJ_calls mixed Try.func38 rfl h

-- strings.IndexByte
def strings_IndexByte_kp : KP := ⟨[], []⟩
def strings_IndexByte (s0 : ByteArray) (c1 : Int) (Q : Value → WP) : WP := funJ idJ Try.prog strings_IndexByte_kp Try.f39 [.string s0, .int .u8 c1] Q
theorem strings_IndexByte_raw (jn : Jn) (s0 : ByteArray) (c1 : Int) (Q : Value → WP) : funJ jn Try.prog strings_IndexByte_kp Try.f39 [.string s0, .int .u8 c1] Q = (
  call1 (.int .i64) Try.prog id_internal_stringslite_IndexByte [.string s0, .int .u8 c1] fun (x_1 : Int) =>
  Q (.int .i64 x_1)) := by kernel_rfl
theorem strings_IndexByte_def (s0 : ByteArray) (c1 : Int) (Q : Value → WP) : strings_IndexByte s0 c1 Q = funJ idJ Try.prog strings_IndexByte_kp Try.f39 [.string s0, .int .u8 c1] Q := rfl
theorem strings_IndexByte_calls {s0 : ByteArray} {c1 : Int} {Q : Value → WP} {w : World} (h : strings_IndexByte s0 c1 Q w) : Calls Try.prog id_strings_IndexByte #[.string s0, .int .u8 c1] w fun e w' => ∃ v, e = .returned v ∧ Q v w' :=
  funJ_calls mixed Try.func39 rfl h

-- (*hoard/index.Index[hoard/table.value]).find
def index_Index_table_value_find_kp : KP := ⟨[(8, [0, 1, 6, 7]), (11, [0, 1, 6, 7]), (14, [0, 1, 6, 7, 8, 35]), (18, [0, 1, 6, 7, 8, 50]), (22, [0, 1, 6, 7, 8, 61])], [(2, [0, 1, 2, 3, 4, 6, 7, 8, 9, 10, 12])]⟩
def index_Index_table_value_find_j4 (jn : Jn) (Q : Value → WP) (m1 : Nat) (x0 : Option Addr) (key1 : ByteArray) (free6 : Int) (i7 : Int) : WP := jn 8 (fun ρ => codeI Try.prog index_Index_table_value_find_kp jn (cAt [true, true, true, false, false, true] (bodyOf Try.f40)) (lopK Try.prog index_Index_table_value_find_kp jn (cAt [true, true, true, false, false] (bodyOf Try.f40)) (blkX 0 (retK Try.prog Try.f40 Q) noX) (retK Try.prog Try.f40 Q) m1) (blkX 0 (retK Try.prog Try.f40 Q) noX) (retK Try.prog Try.f40 Q) ρ) ((.pointer x0) :: (.string key1) :: us 4 ((.int .i64 free6) :: (.int .i64 i7) :: us 71 []))
def index_Index_table_value_find_j5 (jn : Jn) (Q : Value → WP) (m1 : Nat) (x0 : Option Addr) (key1 : ByteArray) (free6 : Int) (i7 : Int) (p8_b : Nat) (p8_o : Nat) (t61 : Bool) : WP := jn 22 (fun ρ => codeI Try.prog index_Index_table_value_find_kp jn (cAt [true, true, true, false, false, false, false, true, false, true, true, true, true, true] (bodyOf Try.f40)) (seqK Try.prog index_Index_table_value_find_kp jn (cAt [true, true, true, false, false, true] (bodyOf Try.f40)) (lopK Try.prog index_Index_table_value_find_kp jn (cAt [true, true, true, false, false] (bodyOf Try.f40)) (blkX 0 (retK Try.prog Try.f40 Q) noX) (retK Try.prog Try.f40 Q) m1) (blkX 0 (retK Try.prog Try.f40 Q) noX) (retK Try.prog Try.f40 Q)) (blkX 2 (seqK Try.prog index_Index_table_value_find_kp jn (cAt [true, true, true, false, false, true] (bodyOf Try.f40)) (lopK Try.prog index_Index_table_value_find_kp jn (cAt [true, true, true, false, false] (bodyOf Try.f40)) (blkX 0 (retK Try.prog Try.f40 Q) noX) (retK Try.prog Try.f40 Q) m1) (blkX 0 (retK Try.prog Try.f40 Q) noX) (retK Try.prog Try.f40 Q)) (blkX 1 (seqK Try.prog index_Index_table_value_find_kp jn (cAt [true, true, true, false, false, true] (bodyOf Try.f40)) (lopK Try.prog index_Index_table_value_find_kp jn (cAt [true, true, true, false, false] (bodyOf Try.f40)) (blkX 0 (retK Try.prog Try.f40 Q) noX) (retK Try.prog Try.f40 Q) m1) (blkX 0 (retK Try.prog Try.f40 Q) noX) (retK Try.prog Try.f40 Q)) (blkX 0 (retK Try.prog Try.f40 Q) noX))) (retK Try.prog Try.f40 Q) ρ) ((.pointer x0) :: (.string key1) :: us 4 ((.int .i64 free6) :: (.int .i64 i7) :: (.pointer (some ⟨p8_b, p8_o, none⟩)) :: us 52 ((.bool t61) :: us 17 [])))
def index_Index_table_value_find_j3 (jn : Jn) (Q : Value → WP) (m1 : Nat) (x0 : Option Addr) (key1 : ByteArray) (free6 : Int) (i7 : Int) (p8_b : Nat) (p8_o : Nat) (t50 : Bool) : WP := jn 18 (fun ρ => codeI Try.prog index_Index_table_value_find_kp jn (cAt [true, true, true, false, false, false, false, true, false, true, true, true] (bodyOf Try.f40)) (seqK Try.prog index_Index_table_value_find_kp jn (cAt [true, true, true, false, false, true] (bodyOf Try.f40)) (lopK Try.prog index_Index_table_value_find_kp jn (cAt [true, true, true, false, false] (bodyOf Try.f40)) (blkX 0 (retK Try.prog Try.f40 Q) noX) (retK Try.prog Try.f40 Q) m1) (blkX 0 (retK Try.prog Try.f40 Q) noX) (retK Try.prog Try.f40 Q)) (blkX 2 (seqK Try.prog index_Index_table_value_find_kp jn (cAt [true, true, true, false, false, true] (bodyOf Try.f40)) (lopK Try.prog index_Index_table_value_find_kp jn (cAt [true, true, true, false, false] (bodyOf Try.f40)) (blkX 0 (retK Try.prog Try.f40 Q) noX) (retK Try.prog Try.f40 Q) m1) (blkX 0 (retK Try.prog Try.f40 Q) noX) (retK Try.prog Try.f40 Q)) (blkX 1 (seqK Try.prog index_Index_table_value_find_kp jn (cAt [true, true, true, false, false, true] (bodyOf Try.f40)) (lopK Try.prog index_Index_table_value_find_kp jn (cAt [true, true, true, false, false] (bodyOf Try.f40)) (blkX 0 (retK Try.prog Try.f40 Q) noX) (retK Try.prog Try.f40 Q) m1) (blkX 0 (retK Try.prog Try.f40 Q) noX) (retK Try.prog Try.f40 Q)) (blkX 0 (retK Try.prog Try.f40 Q) noX))) (retK Try.prog Try.f40 Q) ρ) ((.pointer x0) :: (.string key1) :: us 4 ((.int .i64 free6) :: (.int .i64 i7) :: (.pointer (some ⟨p8_b, p8_o, none⟩)) :: us 41 ((.bool t50) :: us 28 [])))
def index_Index_table_value_find_j2 (jn : Jn) (Q : Value → WP) (m1 : Nat) (x0 : Option Addr) (key1 : ByteArray) (free6 : Int) (i7 : Int) (p8_b : Nat) (p8_o : Nat) (t35 : Bool) : WP := jn 14 (fun ρ => codeI Try.prog index_Index_table_value_find_kp jn (cAt [true, true, true, false, false, false, false, true, false, true] (bodyOf Try.f40)) (seqK Try.prog index_Index_table_value_find_kp jn (cAt [true, true, true, false, false, true] (bodyOf Try.f40)) (lopK Try.prog index_Index_table_value_find_kp jn (cAt [true, true, true, false, false] (bodyOf Try.f40)) (blkX 0 (retK Try.prog Try.f40 Q) noX) (retK Try.prog Try.f40 Q) m1) (blkX 0 (retK Try.prog Try.f40 Q) noX) (retK Try.prog Try.f40 Q)) (blkX 2 (seqK Try.prog index_Index_table_value_find_kp jn (cAt [true, true, true, false, false, true] (bodyOf Try.f40)) (lopK Try.prog index_Index_table_value_find_kp jn (cAt [true, true, true, false, false] (bodyOf Try.f40)) (blkX 0 (retK Try.prog Try.f40 Q) noX) (retK Try.prog Try.f40 Q) m1) (blkX 0 (retK Try.prog Try.f40 Q) noX) (retK Try.prog Try.f40 Q)) (blkX 1 (seqK Try.prog index_Index_table_value_find_kp jn (cAt [true, true, true, false, false, true] (bodyOf Try.f40)) (lopK Try.prog index_Index_table_value_find_kp jn (cAt [true, true, true, false, false] (bodyOf Try.f40)) (blkX 0 (retK Try.prog Try.f40 Q) noX) (retK Try.prog Try.f40 Q) m1) (blkX 0 (retK Try.prog Try.f40 Q) noX) (retK Try.prog Try.f40 Q)) (blkX 0 (retK Try.prog Try.f40 Q) noX))) (retK Try.prog Try.f40 Q) ρ) ((.pointer x0) :: (.string key1) :: us 4 ((.int .i64 free6) :: (.int .i64 i7) :: (.pointer (some ⟨p8_b, p8_o, none⟩)) :: us 26 ((.bool t35) :: us 43 [])))
def index_Index_table_value_find_l1 (jn : Jn) (Q : Value → WP)  (m1 : Nat) (x0 : Option Addr) (key1 : ByteArray) (free6 : Int) (i7 : Int) : WP := lop Try.prog index_Index_table_value_find_kp jn (cAt [true, true, true, false, false] (bodyOf Try.f40)) (blkX 0 (retK Try.prog Try.f40 Q) noX) (retK Try.prog Try.f40 Q) m1 ((.pointer x0) :: (.string key1) :: us 4 ((.int .i64 free6) :: (.int .i64 i7) :: us 71 []))
def index_Index_table_value_find (x0 : Option Addr) (key1 : ByteArray) (Q : Value → WP) : WP := funJ idJ Try.prog index_Index_table_value_find_kp Try.f40 [.pointer x0, .string key1] Q
theorem index_Index_table_value_find_j4_raw (jn : Jn) (Q : Value → WP) (m1 : Nat) (x0 : Option Addr) (key1 : ByteArray) (free6 : Int) (i7 : Int) : codeI Try.prog index_Index_table_value_find_kp jn (cAt [true, true, true, false, false, true] (bodyOf Try.f40)) (lopK Try.prog index_Index_table_value_find_kp jn (cAt [true, true, true, false, false] (bodyOf Try.f40)) (blkX 0 (retK Try.prog Try.f40 Q) noX) (retK Try.prog Try.f40 Q) m1) (blkX 0 (retK Try.prog Try.f40 Q) noX) (retK Try.prog Try.f40 Q) ((.pointer x0) :: (.string key1) :: us 4 ((.int .i64 free6) :: (.int .i64 i7) :: us 71 [])) = (
  nilck x0 fun b_23 o_24 =>
  ld .slc b_23 (o_24 + 1) fun (x_25 : Sl) =>
  when ((x_25.n : Int) ≠ 0) <|
  index_Index_table_value_find_l1 jn Q  m1 x0 key1 free6 (Int.tmod (IntKind.wrap .i64 (i7 + (1 : Int))) (x_25.n : Int))) := by kernel_rfl
theorem index_Index_table_value_find_j4_def (Q : Value → WP) (m1 : Nat) (x0 : Option Addr) (key1 : ByteArray) (free6 : Int) (i7 : Int) : index_Index_table_value_find_j4 idJ Q m1 x0 key1 free6 i7 = codeI Try.prog index_Index_table_value_find_kp idJ (cAt [true, true, true, false, false, true] (bodyOf Try.f40)) (lopK Try.prog index_Index_table_value_find_kp idJ (cAt [true, true, true, false, false] (bodyOf Try.f40)) (blkX 0 (retK Try.prog Try.f40 Q) noX) (retK Try.prog Try.f40 Q) m1) (blkX 0 (retK Try.prog Try.f40 Q) noX) (retK Try.prog Try.f40 Q) ((.pointer x0) :: (.string key1) :: us 4 ((.int .i64 free6) :: (.int .i64 i7) :: us 71 [])) := by kernel_rfl
theorem index_Index_table_value_find_j5_raw (jn : Jn) (Q : Value → WP) (m1 : Nat) (x0 : Option Addr) (key1 : ByteArray) (free6 : Int) (i7 : Int) (p8_b : Nat) (p8_o : Nat) (t61 : Bool) : codeI Try.prog index_Index_table_value_find_kp jn (cAt [true, true, true, false, false, false, false, true, false, true, true, true, true, true] (bodyOf Try.f40)) (seqK Try.prog index_Index_table_value_find_kp jn (cAt [true, true, true, false, false, true] (bodyOf Try.f40)) (lopK Try.prog index_Index_table_value_find_kp jn (cAt [true, true, true, false, false] (bodyOf Try.f40)) (blkX 0 (retK Try.prog Try.f40 Q) noX) (retK Try.prog Try.f40 Q) m1) (blkX 0 (retK Try.prog Try.f40 Q) noX) (retK Try.prog Try.f40 Q)) (blkX 2 (seqK Try.prog index_Index_table_value_find_kp jn (cAt [true, true, true, false, false, true] (bodyOf Try.f40)) (lopK Try.prog index_Index_table_value_find_kp jn (cAt [true, true, true, false, false] (bodyOf Try.f40)) (blkX 0 (retK Try.prog Try.f40 Q) noX) (retK Try.prog Try.f40 Q) m1) (blkX 0 (retK Try.prog Try.f40 Q) noX) (retK Try.prog Try.f40 Q)) (blkX 1 (seqK Try.prog index_Index_table_value_find_kp jn (cAt [true, true, true, false, false, true] (bodyOf Try.f40)) (lopK Try.prog index_Index_table_value_find_kp jn (cAt [true, true, true, false, false] (bodyOf Try.f40)) (blkX 0 (retK Try.prog Try.f40 Q) noX) (retK Try.prog Try.f40 Q) m1) (blkX 0 (retK Try.prog Try.f40 Q) noX) (retK Try.prog Try.f40 Q)) (blkX 0 (retK Try.prog Try.f40 Q) noX))) (retK Try.prog Try.f40 Q) ((.pointer x0) :: (.string key1) :: us 4 ((.int .i64 free6) :: (.int .i64 i7) :: (.pointer (some ⟨p8_b, p8_o, none⟩)) :: us 52 ((.bool t61) :: us 17 []))) = (
  ite2 t61 (
  Q (.tuple #[.int .i64 i7, .bool false])) (
  nilck (some ⟨p8_b, p8_o, none⟩) fun b_29 o_30 =>
  ld (.int .i64) b_29 o_30 fun (x_31 : Int) =>
  ite2 (x_31 == (0 : Int)) (
  Q (.tuple #[.int .i64 free6, .bool false])) (
  index_Index_table_value_find_j4 jn Q m1 x0 key1 free6 i7))) := by kernel_rfl
theorem index_Index_table_value_find_j5_def (Q : Value → WP) (m1 : Nat) (x0 : Option Addr) (key1 : ByteArray) (free6 : Int) (i7 : Int) (p8_b : Nat) (p8_o : Nat) (t61 : Bool) : index_Index_table_value_find_j5 idJ Q m1 x0 key1 free6 i7 p8_b p8_o t61 = codeI Try.prog index_Index_table_value_find_kp idJ (cAt [true, true, true, false, false, false, false, true, false, true, true, true, true, true] (bodyOf Try.f40)) (seqK Try.prog index_Index_table_value_find_kp idJ (cAt [true, true, true, false, false, true] (bodyOf Try.f40)) (lopK Try.prog index_Index_table_value_find_kp idJ (cAt [true, true, true, false, false] (bodyOf Try.f40)) (blkX 0 (retK Try.prog Try.f40 Q) noX) (retK Try.prog Try.f40 Q) m1) (blkX 0 (retK Try.prog Try.f40 Q) noX) (retK Try.prog Try.f40 Q)) (blkX 2 (seqK Try.prog index_Index_table_value_find_kp idJ (cAt [true, true, true, false, false, true] (bodyOf Try.f40)) (lopK Try.prog index_Index_table_value_find_kp idJ (cAt [true, true, true, false, false] (bodyOf Try.f40)) (blkX 0 (retK Try.prog Try.f40 Q) noX) (retK Try.prog Try.f40 Q) m1) (blkX 0 (retK Try.prog Try.f40 Q) noX) (retK Try.prog Try.f40 Q)) (blkX 1 (seqK Try.prog index_Index_table_value_find_kp idJ (cAt [true, true, true, false, false, true] (bodyOf Try.f40)) (lopK Try.prog index_Index_table_value_find_kp idJ (cAt [true, true, true, false, false] (bodyOf Try.f40)) (blkX 0 (retK Try.prog Try.f40 Q) noX) (retK Try.prog Try.f40 Q) m1) (blkX 0 (retK Try.prog Try.f40 Q) noX) (retK Try.prog Try.f40 Q)) (blkX 0 (retK Try.prog Try.f40 Q) noX))) (retK Try.prog Try.f40 Q) ((.pointer x0) :: (.string key1) :: us 4 ((.int .i64 free6) :: (.int .i64 i7) :: (.pointer (some ⟨p8_b, p8_o, none⟩)) :: us 52 ((.bool t61) :: us 17 []))) := by kernel_rfl
theorem index_Index_table_value_find_j3_raw (jn : Jn) (Q : Value → WP) (m1 : Nat) (x0 : Option Addr) (key1 : ByteArray) (free6 : Int) (i7 : Int) (p8_b : Nat) (p8_o : Nat) (t50 : Bool) : codeI Try.prog index_Index_table_value_find_kp jn (cAt [true, true, true, false, false, false, false, true, false, true, true, true] (bodyOf Try.f40)) (seqK Try.prog index_Index_table_value_find_kp jn (cAt [true, true, true, false, false, true] (bodyOf Try.f40)) (lopK Try.prog index_Index_table_value_find_kp jn (cAt [true, true, true, false, false] (bodyOf Try.f40)) (blkX 0 (retK Try.prog Try.f40 Q) noX) (retK Try.prog Try.f40 Q) m1) (blkX 0 (retK Try.prog Try.f40 Q) noX) (retK Try.prog Try.f40 Q)) (blkX 2 (seqK Try.prog index_Index_table_value_find_kp jn (cAt [true, true, true, false, false, true] (bodyOf Try.f40)) (lopK Try.prog index_Index_table_value_find_kp jn (cAt [true, true, true, false, false] (bodyOf Try.f40)) (blkX 0 (retK Try.prog Try.f40 Q) noX) (retK Try.prog Try.f40 Q) m1) (blkX 0 (retK Try.prog Try.f40 Q) noX) (retK Try.prog Try.f40 Q)) (blkX 1 (seqK Try.prog index_Index_table_value_find_kp jn (cAt [true, true, true, false, false, true] (bodyOf Try.f40)) (lopK Try.prog index_Index_table_value_find_kp jn (cAt [true, true, true, false, false] (bodyOf Try.f40)) (blkX 0 (retK Try.prog Try.f40 Q) noX) (retK Try.prog Try.f40 Q) m1) (blkX 0 (retK Try.prog Try.f40 Q) noX) (retK Try.prog Try.f40 Q)) (blkX 0 (retK Try.prog Try.f40 Q) noX))) (retK Try.prog Try.f40 Q) ((.pointer x0) :: (.string key1) :: us 4 ((.int .i64 free6) :: (.int .i64 i7) :: (.pointer (some ⟨p8_b, p8_o, none⟩)) :: us 41 ((.bool t50) :: us 28 []))) = (
  ite2 t50 (
  index_Index_table_value_find_j4 jn Q m1 x0 key1 i7 i7) (
  nilck (some ⟨p8_b, p8_o, none⟩) fun b_26 o_27 =>
  ld (.int .i64) b_26 o_27 fun (x_28 : Int) =>
  ite2 (x_28 == (0 : Int)) (
  index_Index_table_value_find_j5 jn Q m1 x0 key1 free6 i7 p8_b p8_o (decide (free6 < (0 : Int)))) (
  index_Index_table_value_find_j5 jn Q m1 x0 key1 free6 i7 p8_b p8_o false))) := by kernel_rfl
theorem index_Index_table_value_find_j3_def (Q : Value → WP) (m1 : Nat) (x0 : Option Addr) (key1 : ByteArray) (free6 : Int) (i7 : Int) (p8_b : Nat) (p8_o : Nat) (t50 : Bool) : index_Index_table_value_find_j3 idJ Q m1 x0 key1 free6 i7 p8_b p8_o t50 = codeI Try.prog index_Index_table_value_find_kp idJ (cAt [true, true, true, false, false, false, false, true, false, true, true, true] (bodyOf Try.f40)) (seqK Try.prog index_Index_table_value_find_kp idJ (cAt [true, true, true, false, false, true] (bodyOf Try.f40)) (lopK Try.prog index_Index_table_value_find_kp idJ (cAt [true, true, true, false, false] (bodyOf Try.f40)) (blkX 0 (retK Try.prog Try.f40 Q) noX) (retK Try.prog Try.f40 Q) m1) (blkX 0 (retK Try.prog Try.f40 Q) noX) (retK Try.prog Try.f40 Q)) (blkX 2 (seqK Try.prog index_Index_table_value_find_kp idJ (cAt [true, true, true, false, false, true] (bodyOf Try.f40)) (lopK Try.prog index_Index_table_value_find_kp idJ (cAt [true, true, true, false, false] (bodyOf Try.f40)) (blkX 0 (retK Try.prog Try.f40 Q) noX) (retK Try.prog Try.f40 Q) m1) (blkX 0 (retK Try.prog Try.f40 Q) noX) (retK Try.prog Try.f40 Q)) (blkX 1 (seqK Try.prog index_Index_table_value_find_kp idJ (cAt [true, true, true, false, false, true] (bodyOf Try.f40)) (lopK Try.prog index_Index_table_value_find_kp idJ (cAt [true, true, true, false, false] (bodyOf Try.f40)) (blkX 0 (retK Try.prog Try.f40 Q) noX) (retK Try.prog Try.f40 Q) m1) (blkX 0 (retK Try.prog Try.f40 Q) noX) (retK Try.prog Try.f40 Q)) (blkX 0 (retK Try.prog Try.f40 Q) noX))) (retK Try.prog Try.f40 Q) ((.pointer x0) :: (.string key1) :: us 4 ((.int .i64 free6) :: (.int .i64 i7) :: (.pointer (some ⟨p8_b, p8_o, none⟩)) :: us 41 ((.bool t50) :: us 28 []))) := by kernel_rfl
theorem index_Index_table_value_find_j2_raw (jn : Jn) (Q : Value → WP) (m1 : Nat) (x0 : Option Addr) (key1 : ByteArray) (free6 : Int) (i7 : Int) (p8_b : Nat) (p8_o : Nat) (t35 : Bool) : codeI Try.prog index_Index_table_value_find_kp jn (cAt [true, true, true, false, false, false, false, true, false, true] (bodyOf Try.f40)) (seqK Try.prog index_Index_table_value_find_kp jn (cAt [true, true, true, false, false, true] (bodyOf Try.f40)) (lopK Try.prog index_Index_table_value_find_kp jn (cAt [true, true, true, false, false] (bodyOf Try.f40)) (blkX 0 (retK Try.prog Try.f40 Q) noX) (retK Try.prog Try.f40 Q) m1) (blkX 0 (retK Try.prog Try.f40 Q) noX) (retK Try.prog Try.f40 Q)) (blkX 2 (seqK Try.prog index_Index_table_value_find_kp jn (cAt [true, true, true, false, false, true] (bodyOf Try.f40)) (lopK Try.prog index_Index_table_value_find_kp jn (cAt [true, true, true, false, false] (bodyOf Try.f40)) (blkX 0 (retK Try.prog Try.f40 Q) noX) (retK Try.prog Try.f40 Q) m1) (blkX 0 (retK Try.prog Try.f40 Q) noX) (retK Try.prog Try.f40 Q)) (blkX 1 (seqK Try.prog index_Index_table_value_find_kp jn (cAt [true, true, true, false, false, true] (bodyOf Try.f40)) (lopK Try.prog index_Index_table_value_find_kp jn (cAt [true, true, true, false, false] (bodyOf Try.f40)) (blkX 0 (retK Try.prog Try.f40 Q) noX) (retK Try.prog Try.f40 Q) m1) (blkX 0 (retK Try.prog Try.f40 Q) noX) (retK Try.prog Try.f40 Q)) (blkX 0 (retK Try.prog Try.f40 Q) noX))) (retK Try.prog Try.f40 Q) ((.pointer x0) :: (.string key1) :: us 4 ((.int .i64 free6) :: (.int .i64 i7) :: (.pointer (some ⟨p8_b, p8_o, none⟩)) :: us 26 ((.bool t35) :: us 43 []))) = (
  ite2 t35 (
  Q (.tuple #[.int .i64 i7, .bool true])) (
  nilck (some ⟨p8_b, p8_o, none⟩) fun b_20 o_21 =>
  ld (.int .i64) b_20 o_21 fun (x_22 : Int) =>
  ite2 (x_22 == (1 : Int)) (
  index_Index_table_value_find_j3 jn Q m1 x0 key1 free6 i7 p8_b p8_o (decide (free6 < (0 : Int)))) (
  index_Index_table_value_find_j3 jn Q m1 x0 key1 free6 i7 p8_b p8_o false))) := by kernel_rfl
theorem index_Index_table_value_find_j2_def (Q : Value → WP) (m1 : Nat) (x0 : Option Addr) (key1 : ByteArray) (free6 : Int) (i7 : Int) (p8_b : Nat) (p8_o : Nat) (t35 : Bool) : index_Index_table_value_find_j2 idJ Q m1 x0 key1 free6 i7 p8_b p8_o t35 = codeI Try.prog index_Index_table_value_find_kp idJ (cAt [true, true, true, false, false, false, false, true, false, true] (bodyOf Try.f40)) (seqK Try.prog index_Index_table_value_find_kp idJ (cAt [true, true, true, false, false, true] (bodyOf Try.f40)) (lopK Try.prog index_Index_table_value_find_kp idJ (cAt [true, true, true, false, false] (bodyOf Try.f40)) (blkX 0 (retK Try.prog Try.f40 Q) noX) (retK Try.prog Try.f40 Q) m1) (blkX 0 (retK Try.prog Try.f40 Q) noX) (retK Try.prog Try.f40 Q)) (blkX 2 (seqK Try.prog index_Index_table_value_find_kp idJ (cAt [true, true, true, false, false, true] (bodyOf Try.f40)) (lopK Try.prog index_Index_table_value_find_kp idJ (cAt [true, true, true, false, false] (bodyOf Try.f40)) (blkX 0 (retK Try.prog Try.f40 Q) noX) (retK Try.prog Try.f40 Q) m1) (blkX 0 (retK Try.prog Try.f40 Q) noX) (retK Try.prog Try.f40 Q)) (blkX 1 (seqK Try.prog index_Index_table_value_find_kp idJ (cAt [true, true, true, false, false, true] (bodyOf Try.f40)) (lopK Try.prog index_Index_table_value_find_kp idJ (cAt [true, true, true, false, false] (bodyOf Try.f40)) (blkX 0 (retK Try.prog Try.f40 Q) noX) (retK Try.prog Try.f40 Q) m1) (blkX 0 (retK Try.prog Try.f40 Q) noX) (retK Try.prog Try.f40 Q)) (blkX 0 (retK Try.prog Try.f40 Q) noX))) (retK Try.prog Try.f40 Q) ((.pointer x0) :: (.string key1) :: us 4 ((.int .i64 free6) :: (.int .i64 i7) :: (.pointer (some ⟨p8_b, p8_o, none⟩)) :: us 26 ((.bool t35) :: us 43 []))) := by kernel_rfl
theorem index_Index_table_value_find_l1_raw (jn : Jn) (Q : Value → WP)  (m1 : Nat) (x0 : Option Addr) (key1 : ByteArray) (free6 : Int) (i7 : Int) : index_Index_table_value_find_l1 jn Q  (m1 + 1) x0 key1 free6 i7 = (
  nilck x0 fun b_9 o_10 =>
  ld .slc b_9 (o_10 + 1) fun (x_11 : Sl) =>
  idx x_11.a x_11.n i7 fun b_12 o_13 =>
  nilck (some ⟨b_12, (o_13 + (i7).toNat * 4), none⟩) fun b_14 o_15 =>
  ld (.int .i64) b_14 o_15 fun (x_16 : Int) =>
  ite2 (x_16 == (2 : Int)) (
  nilck (some ⟨b_12, (o_13 + (i7).toNat * 4), none⟩) fun b_17 o_18 =>
  ld .str b_17 (o_18 + 1) fun (x_19 : ByteArray) =>
  index_Index_table_value_find_j2 jn Q m1 x0 key1 free6 i7 b_12 (o_13 + (i7).toNat * 4) (sEq x_19 key1)) (
  index_Index_table_value_find_j2 jn Q m1 x0 key1 free6 i7 b_12 (o_13 + (i7).toNat * 4) false)) := by kernel_rfl
theorem index_Index_table_value_find_l1_zero (jn : Jn) (Q : Value → WP)  (x0 : Option Addr) (key1 : ByteArray) (free6 : Int) (i7 : Int) : index_Index_table_value_find_l1 jn Q  0 x0 key1 free6 i7 = bot := by kernel_rfl
theorem index_Index_table_value_find_raw (jn : Jn) (x0 : Option Addr) (key1 : ByteArray) (Q : Value → WP) : funJ jn Try.prog index_Index_table_value_find_kp Try.f40 [.pointer x0, .string key1] Q = (
  drawW fun S =>
  nilck x0 fun b_1 o_2 =>
  ldS S (.int .u64) b_1 o_2 fun (x_3 : Int) =>
  nilck x0 fun b_4 o_5 =>
  ldS S .slc b_4 (o_5 + 1) fun (x_6 : Sl) =>
  call1 (.int .u64) Try.prog id_mix_Hash [.int .u64 x_3, .string key1] fun (x_7 : Int) =>
  keepS true S <|
  call1 (.int .i64) Try.prog id_mix_Place [.int .u64 x_7, .int .i64 (x_6.n : Int)] fun (x_8 : Int) =>
  exM fun m => index_Index_table_value_find_l1 jn Q  m x0 key1 (-1 : Int) x_8) := by kernel_rfl
theorem index_Index_table_value_find_def (x0 : Option Addr) (key1 : ByteArray) (Q : Value → WP) : index_Index_table_value_find x0 key1 Q = funJ idJ Try.prog index_Index_table_value_find_kp Try.f40 [.pointer x0, .string key1] Q := rfl
theorem index_Index_table_value_find_calls {x0 : Option Addr} {key1 : ByteArray} {Q : Value → WP} {w : World} (h : index_Index_table_value_find x0 key1 Q w) : Calls Try.prog id_index_Index_table_value_find #[.pointer x0, .string key1] w fun e w' => ∃ v, e = .returned v ∧ Q v w' :=
  funJ_calls mixed Try.func40 rfl h

-- (*hoard/index.Index[hoard/table.value]).lays
def index_Index_table_value_lays_kp : KP := ⟨[(8, [0, 1, 2, 7])], [(3, [0, 1, 2, 3, 4, 5, 7, 8])]⟩
def index_Index_table_value_lays_j1 (jn : Jn) (Q : Value → WP)  (x0 : Option Addr) (i1 : Int) (key2 : ByteArray) (v7_b : Nat) (v7_o : Nat) : WP := jn 8 (fun ρ => codeI Try.prog index_Index_table_value_lays_kp jn (cAt [true, true] (bodyOf Try.f41)) (retK Try.prog Try.f41 Q) noX (retK Try.prog Try.f41 Q) ρ) ((.pointer x0) :: (.int .i64 i1) :: (.string key2) :: us 4 ((.pointer (some ⟨v7_b, v7_o, none⟩)) :: us 32 []))
def index_Index_table_value_lays (x0 : Option Addr) (i1 : Int) (key2 : ByteArray) (v3_0 : ByteArray) (v3_1 : Int) (Q : Value → WP) : WP := funJ idJ Try.prog index_Index_table_value_lays_kp Try.f41 [.pointer x0, .int .i64 i1, .string key2, .agg #[.string v3_0, .int .i64 v3_1]] Q
theorem index_Index_table_value_lays_j1_raw (jn : Jn) (Q : Value → WP)  (x0 : Option Addr) (i1 : Int) (key2 : ByteArray) (v7_b : Nat) (v7_o : Nat) : codeI Try.prog index_Index_table_value_lays_kp jn (cAt [true, true] (bodyOf Try.f41)) (retK Try.prog Try.f41 Q) noX (retK Try.prog Try.f41 Q) ((.pointer x0) :: (.int .i64 i1) :: (.string key2) :: us 4 ((.pointer (some ⟨v7_b, v7_o, none⟩)) :: us 32 [])) = (
  drawW fun S =>
  nilck x0 fun b_13 o_14 =>
  ldS S .slc b_13 (o_14 + 1) fun (x_15 : Sl) =>
  ld .str v7_b v7_o fun (x_16 : ByteArray) =>
  ld (.int .i64) v7_b (v7_o + 1) fun (x_17 : Int) =>
  keepS true S <|
  idx x_15.a x_15.n i1 fun b_18 o_19 =>
  st b_18 (o_19 + (i1).toNat * 4) (.int .i64 (2 : Int)) <|
  st b_18 ((o_19 + (i1).toNat * 4) + 1) (.string key2) <|
  st b_18 (((o_19 + (i1).toNat * 4) + 1) + 1) (.string x_16) <|
  st b_18 ((((o_19 + (i1).toNat * 4) + 1) + 1) + 1) (.int .i64 x_17) <|
  nilck x0 fun b_20 o_21 =>
  ld (.int .i64) b_20 (o_21 + 2) fun (x_22 : Int) =>
  nilck x0 fun b_23 o_24 =>
  st b_23 (o_24 + 2) (.int .i64 (IntKind.wrap .i64 (x_22 + (1 : Int)))) <|
  Q (.tuple #[])) := by kernel_rfl
theorem index_Index_table_value_lays_j1_def (Q : Value → WP)  (x0 : Option Addr) (i1 : Int) (key2 : ByteArray) (v7_b : Nat) (v7_o : Nat) : index_Index_table_value_lays_j1 idJ Q  x0 i1 key2 v7_b v7_o = codeI Try.prog index_Index_table_value_lays_kp idJ (cAt [true, true] (bodyOf Try.f41)) (retK Try.prog Try.f41 Q) noX (retK Try.prog Try.f41 Q) ((.pointer x0) :: (.int .i64 i1) :: (.string key2) :: us 4 ((.pointer (some ⟨v7_b, v7_o, none⟩)) :: us 32 [])) := by kernel_rfl
theorem index_Index_table_value_lays_raw (jn : Jn) (x0 : Option Addr) (i1 : Int) (key2 : ByteArray) (v3_0 : ByteArray) (v3_1 : Int) (Q : Value → WP) : funJ jn Try.prog index_Index_table_value_lays_kp Try.f41 [.pointer x0, .int .i64 i1, .string key2, .agg #[.string v3_0, .int .i64 v3_1]] Q = (
  newB [.string v3_0, .int .i64 v3_1] ty_table_value fun b_1 =>
  nilck x0 fun b_2 o_3 =>
  ld .slc b_2 (o_3 + 1) fun (x_4 : Sl) =>
  idx x_4.a x_4.n i1 fun b_5 o_6 =>
  ld (.int .i64) b_5 (o_6 + (i1).toNat * 4) fun (x_7 : Int) =>
  ite2 (x_7 == (0 : Int)) (
  nilck x0 fun b_8 o_9 =>
  ld (.int .i64) b_8 (o_9 + 3) fun (x_10 : Int) =>
  nilck x0 fun b_11 o_12 =>
  st b_11 (o_12 + 3) (.int .i64 (IntKind.wrap .i64 (x_10 + (1 : Int)))) <|
  index_Index_table_value_lays_j1 jn Q  x0 i1 key2 b_1 0) (
  index_Index_table_value_lays_j1 jn Q  x0 i1 key2 b_1 0)) := by kernel_rfl
theorem index_Index_table_value_lays_def (x0 : Option Addr) (i1 : Int) (key2 : ByteArray) (v3_0 : ByteArray) (v3_1 : Int) (Q : Value → WP) : index_Index_table_value_lays x0 i1 key2 v3_0 v3_1 Q = funJ idJ Try.prog index_Index_table_value_lays_kp Try.f41 [.pointer x0, .int .i64 i1, .string key2, .agg #[.string v3_0, .int .i64 v3_1]] Q := rfl
theorem index_Index_table_value_lays_calls {x0 : Option Addr} {i1 : Int} {key2 : ByteArray} {v3_0 : ByteArray} {v3_1 : Int} {Q : Value → WP} {w : World} (h : index_Index_table_value_lays x0 i1 key2 v3_0 v3_1 Q w) : Calls Try.prog id_index_Index_table_value_lays #[.pointer x0, .int .i64 i1, .string key2, .agg #[.string v3_0, .int .i64 v3_1]] w fun e w' => ∃ v, e = .returned v ∧ Q v w' :=
  funJ_calls mixed Try.func41 rfl h

-- (*hoard/index.Index[hoard/table.value]).grows
def index_Index_table_value_grows_kp : KP := ⟨[(9, [0, 28, 29, 30])], []⟩
def index_Index_table_value_grows_l1 (jn : Jn) (Q : Value → WP)  (m1 : Nat) (x0 : Option Addr) (t28 : Sl) (t29 : Int) (t30 : Int) : WP := lop Try.prog index_Index_table_value_grows_kp jn (cAt [true, true, true, false, false] (bodyOf Try.f42)) (blkX 0 (retK Try.prog Try.f42 Q) noX) (retK Try.prog Try.f42 Q) m1 ((.pointer x0) :: us 27 ((.slice t28.a t28.n t28.c) :: (.int .i64 t29) :: (.int .i64 t30) :: us 21 []))
def index_Index_table_value_grows (x0 : Option Addr) (Q : Value → WP) : WP := funJ idJ Try.prog index_Index_table_value_grows_kp Try.f42 [.pointer x0] Q
theorem index_Index_table_value_grows_l1_raw (jn : Jn) (Q : Value → WP)  (m1 : Nat) (x0 : Option Addr) (t28 : Sl) (t29 : Int) (t30 : Int) : index_Index_table_value_grows_l1 jn Q  (m1 + 1) x0 t28 t29 t30 = (
  ite2 (decide (t30 < t29)) (
  idx t28.a t28.n t30 fun b_14 o_15 =>
  ld (.int .i64) b_14 (o_15 + (t30).toNat * 4) fun (x_16 : Int) =>
  ld .str b_14 ((o_15 + (t30).toNat * 4) + 1) fun (x_17 : ByteArray) =>
  ld .str b_14 (((o_15 + (t30).toNat * 4) + 1) + 1) fun (x_18 : ByteArray) =>
  ld (.int .i64) b_14 ((((o_15 + (t30).toNat * 4) + 1) + 1) + 1) fun (x_19 : Int) =>
  newB [.int .i64 (0 : Int), .string str_empty, .string str_empty, .int .i64 (0 : Int)] ty_index_place_table_value fun b_20 =>
  st b_20 0 (.int .i64 x_16) <|
  st b_20 1 (.string x_17) <|
  st b_20 2 (.string x_18) <|
  st b_20 3 (.int .i64 x_19) <|
  ld (.int .i64) b_20 0 fun (x_21 : Int) =>
  ite2 (x_21 == (2 : Int)) (
  ld .str b_20 1 fun (x_22 : ByteArray) =>
  call2 (.int .i64) .bool Try.prog id_index_Index_table_value_find [.pointer x0, .string x_22] fun (x_23 : Int) (x_24 : Bool) =>
  ld .str b_20 1 fun (x_25 : ByteArray) =>
  ld .str b_20 2 fun (x_26 : ByteArray) =>
  ld (.int .i64) b_20 3 fun (x_27 : Int) =>
  call0 Try.prog id_index_Index_table_value_lays [.pointer x0, .int .i64 x_23, .string x_25, .agg #[.string x_26, .int .i64 x_27]] <|
  index_Index_table_value_grows_l1 jn Q  m1 x0 t28 t29 (IntKind.wrap .i64 (t30 + (1 : Int)))) (
  index_Index_table_value_grows_l1 jn Q  m1 x0 t28 t29 (IntKind.wrap .i64 (t30 + (1 : Int))))) (
  Q (.tuple #[]))) := by kernel_rfl
theorem index_Index_table_value_grows_l1_zero (jn : Jn) (Q : Value → WP)  (x0 : Option Addr) (t28 : Sl) (t29 : Int) (t30 : Int) : index_Index_table_value_grows_l1 jn Q  0 x0 t28 t29 t30 = bot := by kernel_rfl
theorem index_Index_table_value_grows_raw (jn : Jn) (x0 : Option Addr) (Q : Value → WP) : funJ jn Try.prog index_Index_table_value_grows_kp Try.f42 [.pointer x0] Q = (
  nilck x0 fun b_1 o_2 =>
  ld .slc b_1 (o_2 + 1) fun (x_3 : Sl) =>
  nilck x0 fun b_4 o_5 =>
  ld (.int .i64) b_4 (o_5 + 2) fun (x_6 : Int) =>
  makeC ty_index_place_table_value 48 [.int .i64 (0 : Int), .string str_empty, .string str_empty, .int .i64 (0 : Int)] (if (IntKind.wrap .i64 ((4 : Int) * (IntKind.wrap .i64 (x_6 + (1 : Int))))) > (8 : Int) then (IntKind.wrap .i64 ((4 : Int) * (IntKind.wrap .i64 (x_6 + (1 : Int))))) else (8 : Int)) (if (IntKind.wrap .i64 ((4 : Int) * (IntKind.wrap .i64 (x_6 + (1 : Int))))) > (8 : Int) then (IntKind.wrap .i64 ((4 : Int) * (IntKind.wrap .i64 (x_6 + (1 : Int))))) else (8 : Int)) fun s_7 =>
  nilck x0 fun b_8 o_9 =>
  st b_8 (o_9 + 1) (.slice s_7.a s_7.n s_7.c) <|
  nilck x0 fun b_10 o_11 =>
  st b_10 (o_11 + 2) (.int .i64 (0 : Int)) <|
  nilck x0 fun b_12 o_13 =>
  st b_12 (o_13 + 3) (.int .i64 (0 : Int)) <|
  exM fun m => index_Index_table_value_grows_l1 jn Q  m x0 x_3 (x_3.n : Int) (0 : Int)) := by kernel_rfl
theorem index_Index_table_value_grows_def (x0 : Option Addr) (Q : Value → WP) : index_Index_table_value_grows x0 Q = funJ idJ Try.prog index_Index_table_value_grows_kp Try.f42 [.pointer x0] Q := rfl
theorem index_Index_table_value_grows_calls {x0 : Option Addr} {Q : Value → WP} {w : World} (h : index_Index_table_value_grows x0 Q w) : Calls Try.prog id_index_Index_table_value_grows #[.pointer x0] w fun e w' => ∃ v, e = .returned v ∧ Q v w' :=
  funJ_calls mixed Try.func42 rfl h

-- slices.Sort[[]string,string]
def slices_Sort_s_string_string_kp : KP := ⟨[], []⟩
def slices_Sort_s_string_string (x0 : Sl) (Q : Value → WP) : WP := funJ idJ Try.prog slices_Sort_s_string_string_kp Try.f43 [.slice x0.a x0.n x0.c] Q
theorem slices_Sort_s_string_string_raw (jn : Jn) (x0 : Sl) (Q : Value → WP) : funJ jn Try.prog slices_Sort_s_string_string_kp Try.f43 [.slice x0.a x0.n x0.c] Q = (
  call1 (.int .i64) Try.prog id_math_bits_Len [.int .u64 (IntKind.wrap .u64 (x0.n : Int))] fun (x_1 : Int) =>
  call0 Try.prog id_slices_pdqsortOrdered_string [.slice x0.a x0.n x0.c, .int .i64 (0 : Int), .int .i64 (x0.n : Int), .int .i64 x_1] <|
  Q (.tuple #[])) := by kernel_rfl
theorem slices_Sort_s_string_string_def (x0 : Sl) (Q : Value → WP) : slices_Sort_s_string_string x0 Q = funJ idJ Try.prog slices_Sort_s_string_string_kp Try.f43 [.slice x0.a x0.n x0.c] Q := rfl
theorem slices_Sort_s_string_string_calls {x0 : Sl} {Q : Value → WP} {w : World} (h : slices_Sort_s_string_string x0 Q w) : Calls Try.prog id_slices_Sort_s_string_string #[.slice x0.a x0.n x0.c] w fun e w' => ∃ v, e = .returned v ∧ Q v w' :=
  funJ_calls mixed Try.func43 rfl h

-- hoard/hoardref21.over
def hoardref21_over_kp : KP := ⟨[], []⟩
def hoardref21_over (e0_0 : ByteArray) (e0_1 : ByteArray) (e0_2 : Int) (now1 : Int) (Q : Value → WP) : WP := funJ idJ Try.prog hoardref21_over_kp Try.f44 [.agg #[.string e0_0, .string e0_1, .int .i64 e0_2], .int .i64 now1] Q
theorem hoardref21_over_raw (jn : Jn) (e0_0 : ByteArray) (e0_1 : ByteArray) (e0_2 : Int) (now1 : Int) (Q : Value → WP) : funJ jn Try.prog hoardref21_over_kp Try.f44 [.agg #[.string e0_0, .string e0_1, .int .i64 e0_2], .int .i64 now1] Q = (
  newB [.string e0_0, .string e0_1, .int .i64 e0_2] ty_hoardref21_Entry fun b_1 =>
  ld (.int .i64) b_1 2 fun (x_2 : Int) =>
  ite2 (decide (x_2 > (0 : Int))) (
  ld (.int .i64) b_1 2 fun (x_3 : Int) =>
  Q (.bool (decide (x_3 ≤ now1)))) (
  Q (.bool false))) := by kernel_rfl
theorem hoardref21_over_def (e0_0 : ByteArray) (e0_1 : ByteArray) (e0_2 : Int) (now1 : Int) (Q : Value → WP) : hoardref21_over e0_0 e0_1 e0_2 now1 Q = funJ idJ Try.prog hoardref21_over_kp Try.f44 [.agg #[.string e0_0, .string e0_1, .int .i64 e0_2], .int .i64 now1] Q := rfl
theorem hoardref21_over_calls {e0_0 : ByteArray} {e0_1 : ByteArray} {e0_2 : Int} {now1 : Int} {Q : Value → WP} {w : World} (h : hoardref21_over e0_0 e0_1 e0_2 now1 Q w) : Calls Try.prog id_hoardref21_over #[.agg #[.string e0_0, .string e0_1, .int .i64 e0_2], .int .i64 now1] w fun e w' => ∃ v, e = .returned v ∧ Q v w' :=
  funJ_calls mixed Try.func44 rfl h

-- hoard/mix.Place
def mix_Place_kp : KP := ⟨[], []⟩
def mix_Place (h0 : Int) (n1 : Int) (Q : Value → WP) : WP := funJ idJ Try.prog mix_Place_kp Try.f46 [.int .u64 h0, .int .i64 n1] Q
theorem mix_Place_raw (jn : Jn) (h0 : Int) (n1 : Int) (Q : Value → WP) : funJ jn Try.prog mix_Place_kp Try.f46 [.int .u64 h0, .int .i64 n1] Q = (
  ite2 (decide (n1 < (1 : Int))) (
  Q (.int .i64 (0 : Int))) (
  when ((IntKind.wrap .u64 n1) ≠ 0) <|
  Q (.int .i64 (IntKind.wrap .i64 (Int.tmod h0 (IntKind.wrap .u64 n1)))))) := by kernel_rfl
theorem mix_Place_def (h0 : Int) (n1 : Int) (Q : Value → WP) : mix_Place h0 n1 Q = funJ idJ Try.prog mix_Place_kp Try.f46 [.int .u64 h0, .int .i64 n1] Q := rfl
theorem mix_Place_calls {h0 : Int} {n1 : Int} {Q : Value → WP} {w : World} (h : mix_Place h0 n1 Q w) : Calls Try.prog id_mix_Place #[.int .u64 h0, .int .i64 n1] w fun e w' => ∃ v, e = .returned v ∧ Q v w' :=
  funJ_calls mixed Try.func46 rfl h

-- hoard/mix.Hash
def mix_Hash_kp : KP := ⟨[(9, [1, 5, 14, 15]), (16, [5])], []⟩
def mix_Hash_j2 (jn : Jn) (Q : Value → WP)  (h5 : Int) : WP := jn 16 (fun ρ => codeI Try.prog mix_Hash_kp jn (cAt [true, true, true] (bodyOf Try.f47)) (retK Try.prog Try.f47 Q) noX (retK Try.prog Try.f47 Q) ρ) (us 5 ((.int .u64 h5) :: us 22 []))
def mix_Hash_l1 (jn : Jn) (Q : Value → WP)  (m1 : Nat) (s1 : ByteArray) (h5 : Int) (t14 : Int) (t15 : Int) : WP := lop Try.prog mix_Hash_kp jn (cAt [true, true, false, true, false, false] (bodyOf Try.f47)) (blkX 0 (seqK Try.prog mix_Hash_kp jn (cAt [true, true, true] (bodyOf Try.f47)) (retK Try.prog Try.f47 Q) noX (retK Try.prog Try.f47 Q)) noX) (retK Try.prog Try.f47 Q) m1 (us 1 ((.string s1) :: us 3 ((.int .u64 h5) :: us 8 ((.int .i64 t14) :: (.int .i64 t15) :: us 12 []))))
def mix_Hash (seed0 : Int) (s1 : ByteArray) (Q : Value → WP) : WP := funJ idJ Try.prog mix_Hash_kp Try.f47 [.int .u64 seed0, .string s1] Q
theorem mix_Hash_j2_raw (jn : Jn) (Q : Value → WP)  (h5 : Int) : codeI Try.prog mix_Hash_kp jn (cAt [true, true, true] (bodyOf Try.f47)) (retK Try.prog Try.f47 Q) noX (retK Try.prog Try.f47 Q) (us 5 ((.int .u64 h5) :: us 22 [])) = (
  Q (.int .u64 h5)) := by kernel_rfl
theorem mix_Hash_j2_def (Q : Value → WP)  (h5 : Int) : mix_Hash_j2 idJ Q  h5 = codeI Try.prog mix_Hash_kp idJ (cAt [true, true, true] (bodyOf Try.f47)) (retK Try.prog Try.f47 Q) noX (retK Try.prog Try.f47 Q) (us 5 ((.int .u64 h5) :: us 22 [])) := by kernel_rfl
theorem mix_Hash_l1_raw (jn : Jn) (Q : Value → WP)  (m1 : Nat) (s1 : ByteArray) (h5 : Int) (t14 : Int) (t15 : Int) : mix_Hash_l1 jn Q  (m1 + 1) s1 h5 t14 t15 = (
  ite2 (decide (t15 < t14)) (
  when ((0 : Int) ≤ t15 ∧ t15 < (s1.size : Int)) <|
  call1 (.int .u64) Try.prog id_mix_Mix [.int .u64 (IntKind.wrap .u64 ((bits .xor .u64 h5 (IntKind.wrap .u64 (byteAt s1 (t15).toNat))) + (11400714819323198485 : Int)))] fun (x_2 : Int) =>
  mix_Hash_l1 jn Q  m1 s1 x_2 t14 (IntKind.wrap .i64 (t15 + (1 : Int)))) (
  mix_Hash_j2 jn Q  h5)) := by kernel_rfl
theorem mix_Hash_l1_zero (jn : Jn) (Q : Value → WP)  (s1 : ByteArray) (h5 : Int) (t14 : Int) (t15 : Int) : mix_Hash_l1 jn Q  0 s1 h5 t14 t15 = bot := by kernel_rfl
theorem mix_Hash_raw (jn : Jn) (seed0 : Int) (s1 : ByteArray) (Q : Value → WP) : funJ jn Try.prog mix_Hash_kp Try.f47 [.int .u64 seed0, .string s1] Q = (
  call1 (.int .u64) Try.prog id_mix_Mix [.int .u64 (bits .xor .u64 seed0 (IntKind.wrap .u64 (s1.size : Int)))] fun (x_1 : Int) =>
  exM fun m => mix_Hash_l1 jn Q  m s1 x_1 (s1.size : Int) (0 : Int)) := by kernel_rfl
theorem mix_Hash_def (seed0 : Int) (s1 : ByteArray) (Q : Value → WP) : mix_Hash seed0 s1 Q = funJ idJ Try.prog mix_Hash_kp Try.f47 [.int .u64 seed0, .string s1] Q := rfl
theorem mix_Hash_calls {seed0 : Int} {s1 : ByteArray} {Q : Value → WP} {w : World} (h : mix_Hash seed0 s1 Q w) : Calls Try.prog id_mix_Hash #[.int .u64 seed0, .string s1] w fun e w' => ∃ v, e = .returned v ∧ Q v w' :=
  funJ_calls mixed Try.func47 rfl h

-- slices.pdqsortOrdered[string]
def slices_pdqsortOrdered_string_kp : KP := ⟨[(7, [0, 1, 2, 3, 8, 9]), (22, [0, 1, 2, 3, 8, 9, 10]), (32, [0, 1, 2, 3, 8, 9, 10, 11, 12]), (34, [0, 1, 2, 3, 8, 9, 10, 11, 68]), (36, [0, 1, 2, 3, 8, 9, 10, 11]), (42, [0, 1, 2, 3, 10, 11])], [(17, [0, 1, 2, 3, 4, 5, 6, 7, 8, 9, 10, 13, 14])]⟩
def slices_pdqsortOrdered_string_j6 (jn : Jn) (Q : Value → WP) (m1 : Nat) (data0 : Sl) (a1 : Int) (b2 : Int) (limit3 : Int) (length10 : Int) (pivot11 : Int) : WP := jn 42 (fun ρ => codeI Try.prog slices_pdqsortOrdered_string_kp jn (cAt [true, true, false, false, false, true, true, true, true, true, true, true, true] (bodyOf Try.f48)) (lopK Try.prog slices_pdqsortOrdered_string_kp jn (cAt [true, true, false, false] (bodyOf Try.f48)) (blkX 0 (retK Try.prog Try.f48 Q) noX) (retK Try.prog Try.f48 Q) m1) (blkX 1 (lopK Try.prog slices_pdqsortOrdered_string_kp jn (cAt [true, true, false, false] (bodyOf Try.f48)) (blkX 0 (retK Try.prog Try.f48 Q) noX) (retK Try.prog Try.f48 Q) m1) (blkX 0 (retK Try.prog Try.f48 Q) noX)) (retK Try.prog Try.f48 Q) ρ) ((.slice data0.a data0.n data0.c) :: (.int .i64 a1) :: (.int .i64 b2) :: (.int .i64 limit3) :: us 6 ((.int .i64 length10) :: (.int .i64 pivot11) :: us 122 []))
def slices_pdqsortOrdered_string_j5 (jn : Jn) (Q : Value → WP) (m1 : Nat) (data0 : Sl) (a1 : Int) (b2 : Int) (limit3 : Int) (wasBalanced8 : Bool) (wasPartitioned9 : Bool) (length10 : Int) (pivot11 : Int) : WP := jn 36 (fun ρ => codeI Try.prog slices_pdqsortOrdered_string_kp jn (cAt [true, true, false, false, false, true, true, true, true, true, true, true] (bodyOf Try.f48)) (lopK Try.prog slices_pdqsortOrdered_string_kp jn (cAt [true, true, false, false] (bodyOf Try.f48)) (blkX 0 (retK Try.prog Try.f48 Q) noX) (retK Try.prog Try.f48 Q) m1) (blkX 1 (lopK Try.prog slices_pdqsortOrdered_string_kp jn (cAt [true, true, false, false] (bodyOf Try.f48)) (blkX 0 (retK Try.prog Try.f48 Q) noX) (retK Try.prog Try.f48 Q) m1) (blkX 0 (retK Try.prog Try.f48 Q) noX)) (retK Try.prog Try.f48 Q) ρ) ((.slice data0.a data0.n data0.c) :: (.int .i64 a1) :: (.int .i64 b2) :: (.int .i64 limit3) :: us 4 ((.bool wasBalanced8) :: (.bool wasPartitioned9) :: (.int .i64 length10) :: (.int .i64 pivot11) :: us 122 []))
def slices_pdqsortOrdered_string_j4 (jn : Jn) (Q : Value → WP) (m1 : Nat) (data0 : Sl) (a1 : Int) (b2 : Int) (limit3 : Int) (wasBalanced8 : Bool) (wasPartitioned9 : Bool) (length10 : Int) (pivot11 : Int) (t68 : Bool) : WP := jn 34 (fun ρ => codeI Try.prog slices_pdqsortOrdered_string_kp jn (cAt [true, true, false, false, false, true, true, true, true, true, true, false, true] (bodyOf Try.f48)) (seqK Try.prog slices_pdqsortOrdered_string_kp jn (cAt [true, true, false, false, false, true, true, true, true, true, true, true] (bodyOf Try.f48)) (lopK Try.prog slices_pdqsortOrdered_string_kp jn (cAt [true, true, false, false] (bodyOf Try.f48)) (blkX 0 (retK Try.prog Try.f48 Q) noX) (retK Try.prog Try.f48 Q) m1) (blkX 1 (lopK Try.prog slices_pdqsortOrdered_string_kp jn (cAt [true, true, false, false] (bodyOf Try.f48)) (blkX 0 (retK Try.prog Try.f48 Q) noX) (retK Try.prog Try.f48 Q) m1) (blkX 0 (retK Try.prog Try.f48 Q) noX)) (retK Try.prog Try.f48 Q)) (blkX 1 (lopK Try.prog slices_pdqsortOrdered_string_kp jn (cAt [true, true, false, false] (bodyOf Try.f48)) (blkX 0 (retK Try.prog Try.f48 Q) noX) (retK Try.prog Try.f48 Q) m1) (blkX 0 (retK Try.prog Try.f48 Q) noX)) (retK Try.prog Try.f48 Q) ρ) ((.slice data0.a data0.n data0.c) :: (.int .i64 a1) :: (.int .i64 b2) :: (.int .i64 limit3) :: us 4 ((.bool wasBalanced8) :: (.bool wasPartitioned9) :: (.int .i64 length10) :: (.int .i64 pivot11) :: us 56 ((.bool t68) :: us 65 [])))
def slices_pdqsortOrdered_string_j3 (jn : Jn) (Q : Value → WP) (m1 : Nat) (data0 : Sl) (a1 : Int) (b2 : Int) (limit3 : Int) (wasBalanced8 : Bool) (wasPartitioned9 : Bool) (length10 : Int) (pivot11 : Int) (hint12 : Int) : WP := jn 32 (fun ρ => codeI Try.prog slices_pdqsortOrdered_string_kp jn (cAt [true, true, false, false, false, true, true, true, true, true, true] (bodyOf Try.f48)) (lopK Try.prog slices_pdqsortOrdered_string_kp jn (cAt [true, true, false, false] (bodyOf Try.f48)) (blkX 0 (retK Try.prog Try.f48 Q) noX) (retK Try.prog Try.f48 Q) m1) (blkX 1 (lopK Try.prog slices_pdqsortOrdered_string_kp jn (cAt [true, true, false, false] (bodyOf Try.f48)) (blkX 0 (retK Try.prog Try.f48 Q) noX) (retK Try.prog Try.f48 Q) m1) (blkX 0 (retK Try.prog Try.f48 Q) noX)) (retK Try.prog Try.f48 Q) ρ) ((.slice data0.a data0.n data0.c) :: (.int .i64 a1) :: (.int .i64 b2) :: (.int .i64 limit3) :: us 4 ((.bool wasBalanced8) :: (.bool wasPartitioned9) :: (.int .i64 length10) :: (.int .i64 pivot11) :: (.int .i64 hint12) :: us 121 []))
def slices_pdqsortOrdered_string_j2 (jn : Jn) (Q : Value → WP) (m1 : Nat) (data0 : Sl) (a1 : Int) (b2 : Int) (limit3 : Int) (wasBalanced8 : Bool) (wasPartitioned9 : Bool) (length10 : Int) : WP := jn 22 (fun ρ => codeI Try.prog slices_pdqsortOrdered_string_kp jn (cAt [true, true, false, false, false, true, true, true, true] (bodyOf Try.f48)) (lopK Try.prog slices_pdqsortOrdered_string_kp jn (cAt [true, true, false, false] (bodyOf Try.f48)) (blkX 0 (retK Try.prog Try.f48 Q) noX) (retK Try.prog Try.f48 Q) m1) (blkX 1 (lopK Try.prog slices_pdqsortOrdered_string_kp jn (cAt [true, true, false, false] (bodyOf Try.f48)) (blkX 0 (retK Try.prog Try.f48 Q) noX) (retK Try.prog Try.f48 Q) m1) (blkX 0 (retK Try.prog Try.f48 Q) noX)) (retK Try.prog Try.f48 Q) ρ) ((.slice data0.a data0.n data0.c) :: (.int .i64 a1) :: (.int .i64 b2) :: (.int .i64 limit3) :: us 4 ((.bool wasBalanced8) :: (.bool wasPartitioned9) :: (.int .i64 length10) :: us 123 []))
def slices_pdqsortOrdered_string_l1 (jn : Jn) (Q : Value → WP)  (m1 : Nat) (data0 : Sl) (a1 : Int) (b2 : Int) (limit3 : Int) (wasBalanced8 : Bool) (wasPartitioned9 : Bool) : WP := lop Try.prog slices_pdqsortOrdered_string_kp jn (cAt [true, true, false, false] (bodyOf Try.f48)) (blkX 0 (retK Try.prog Try.f48 Q) noX) (retK Try.prog Try.f48 Q) m1 ((.slice data0.a data0.n data0.c) :: (.int .i64 a1) :: (.int .i64 b2) :: (.int .i64 limit3) :: us 4 ((.bool wasBalanced8) :: (.bool wasPartitioned9) :: us 124 []))
def slices_pdqsortOrdered_string (data0 : Sl) (a1 : Int) (b2 : Int) (limit3 : Int) (Q : Value → WP) : WP := funJ idJ Try.prog slices_pdqsortOrdered_string_kp Try.f48 [.slice data0.a data0.n data0.c, .int .i64 a1, .int .i64 b2, .int .i64 limit3] Q
theorem slices_pdqsortOrdered_string_j6_raw (jn : Jn) (Q : Value → WP) (m1 : Nat) (data0 : Sl) (a1 : Int) (b2 : Int) (limit3 : Int) (length10 : Int) (pivot11 : Int) : codeI Try.prog slices_pdqsortOrdered_string_kp jn (cAt [true, true, false, false, false, true, true, true, true, true, true, true, true] (bodyOf Try.f48)) (lopK Try.prog slices_pdqsortOrdered_string_kp jn (cAt [true, true, false, false] (bodyOf Try.f48)) (blkX 0 (retK Try.prog Try.f48 Q) noX) (retK Try.prog Try.f48 Q) m1) (blkX 1 (lopK Try.prog slices_pdqsortOrdered_string_kp jn (cAt [true, true, false, false] (bodyOf Try.f48)) (blkX 0 (retK Try.prog Try.f48 Q) noX) (retK Try.prog Try.f48 Q) m1) (blkX 0 (retK Try.prog Try.f48 Q) noX)) (retK Try.prog Try.f48 Q) ((.slice data0.a data0.n data0.c) :: (.int .i64 a1) :: (.int .i64 b2) :: (.int .i64 limit3) :: us 6 ((.int .i64 length10) :: (.int .i64 pivot11) :: us 122 [])) = (
  call2 (.int .i64) .bool Try.prog id_slices_partitionOrdered_string [.slice data0.a data0.n data0.c, .int .i64 a1, .int .i64 b2, .int .i64 pivot11] fun (x_12 : Int) (x_13 : Bool) =>
  when ((8 : Int) ≠ 0) <|
  ite2 (decide ((IntKind.wrap .i64 (x_12 - a1)) < (IntKind.wrap .i64 (b2 - x_12)))) (
  call0 Try.prog id_slices_pdqsortOrdered_string [.slice data0.a data0.n data0.c, .int .i64 a1, .int .i64 x_12, .int .i64 limit3] <|
  slices_pdqsortOrdered_string_l1 jn Q  m1 data0 (IntKind.wrap .i64 (x_12 + (1 : Int))) b2 limit3 (decide ((IntKind.wrap .i64 (x_12 - a1)) ≥ (IntKind.wrap .i64 (Int.tdiv length10 (8 : Int))))) x_13) (
  call0 Try.prog id_slices_pdqsortOrdered_string [.slice data0.a data0.n data0.c, .int .i64 (IntKind.wrap .i64 (x_12 + (1 : Int))), .int .i64 b2, .int .i64 limit3] <|
  slices_pdqsortOrdered_string_l1 jn Q  m1 data0 a1 x_12 limit3 (decide ((IntKind.wrap .i64 (b2 - x_12)) ≥ (IntKind.wrap .i64 (Int.tdiv length10 (8 : Int))))) x_13)) := by kernel_rfl
theorem slices_pdqsortOrdered_string_j6_def (Q : Value → WP) (m1 : Nat) (data0 : Sl) (a1 : Int) (b2 : Int) (limit3 : Int) (length10 : Int) (pivot11 : Int) : slices_pdqsortOrdered_string_j6 idJ Q m1 data0 a1 b2 limit3 length10 pivot11 = codeI Try.prog slices_pdqsortOrdered_string_kp idJ (cAt [true, true, false, false, false, true, true, true, true, true, true, true, true] (bodyOf Try.f48)) (lopK Try.prog slices_pdqsortOrdered_string_kp idJ (cAt [true, true, false, false] (bodyOf Try.f48)) (blkX 0 (retK Try.prog Try.f48 Q) noX) (retK Try.prog Try.f48 Q) m1) (blkX 1 (lopK Try.prog slices_pdqsortOrdered_string_kp idJ (cAt [true, true, false, false] (bodyOf Try.f48)) (blkX 0 (retK Try.prog Try.f48 Q) noX) (retK Try.prog Try.f48 Q) m1) (blkX 0 (retK Try.prog Try.f48 Q) noX)) (retK Try.prog Try.f48 Q) ((.slice data0.a data0.n data0.c) :: (.int .i64 a1) :: (.int .i64 b2) :: (.int .i64 limit3) :: us 6 ((.int .i64 length10) :: (.int .i64 pivot11) :: us 122 [])) := by kernel_rfl
theorem slices_pdqsortOrdered_string_j5_raw (jn : Jn) (Q : Value → WP) (m1 : Nat) (data0 : Sl) (a1 : Int) (b2 : Int) (limit3 : Int) (wasBalanced8 : Bool) (wasPartitioned9 : Bool) (length10 : Int) (pivot11 : Int) : codeI Try.prog slices_pdqsortOrdered_string_kp jn (cAt [true, true, false, false, false, true, true, true, true, true, true, true] (bodyOf Try.f48)) (lopK Try.prog slices_pdqsortOrdered_string_kp jn (cAt [true, true, false, false] (bodyOf Try.f48)) (blkX 0 (retK Try.prog Try.f48 Q) noX) (retK Try.prog Try.f48 Q) m1) (blkX 1 (lopK Try.prog slices_pdqsortOrdered_string_kp jn (cAt [true, true, false, false] (bodyOf Try.f48)) (blkX 0 (retK Try.prog Try.f48 Q) noX) (retK Try.prog Try.f48 Q) m1) (blkX 0 (retK Try.prog Try.f48 Q) noX)) (retK Try.prog Try.f48 Q) ((.slice data0.a data0.n data0.c) :: (.int .i64 a1) :: (.int .i64 b2) :: (.int .i64 limit3) :: us 4 ((.bool wasBalanced8) :: (.bool wasPartitioned9) :: (.int .i64 length10) :: (.int .i64 pivot11) :: us 122 [])) = (
  drawW fun S =>
  ite2 (decide (a1 > (0 : Int))) (
  idx data0.a data0.n (IntKind.wrap .i64 (a1 - (1 : Int))) fun b_4 o_5 =>
  ldS S .str b_4 (o_5 + ((IntKind.wrap .i64 (a1 - (1 : Int)))).toNat * 1) fun (x_6 : ByteArray) =>
  idx data0.a data0.n pivot11 fun b_7 o_8 =>
  ld .str b_7 (o_8 + (pivot11).toNat * 1) fun (x_9 : ByteArray) =>
  keepS true S <|
  call1 .bool Try.prog id_cmp_Less_string [.string x_6, .string x_9] fun (x_10 : Bool) =>
  ite2 (!x_10) (
  call1 (.int .i64) Try.prog id_slices_partitionEqualOrdered_string [.slice data0.a data0.n data0.c, .int .i64 a1, .int .i64 b2, .int .i64 pivot11] fun (x_11 : Int) =>
  slices_pdqsortOrdered_string_l1 jn Q  m1 data0 x_11 b2 limit3 wasBalanced8 wasPartitioned9) (
  slices_pdqsortOrdered_string_j6 jn Q m1 data0 a1 b2 limit3 length10 pivot11)) (
  keepS true S <|
  slices_pdqsortOrdered_string_j6 jn Q m1 data0 a1 b2 limit3 length10 pivot11)) := by kernel_rfl
theorem slices_pdqsortOrdered_string_j5_def (Q : Value → WP) (m1 : Nat) (data0 : Sl) (a1 : Int) (b2 : Int) (limit3 : Int) (wasBalanced8 : Bool) (wasPartitioned9 : Bool) (length10 : Int) (pivot11 : Int) : slices_pdqsortOrdered_string_j5 idJ Q m1 data0 a1 b2 limit3 wasBalanced8 wasPartitioned9 length10 pivot11 = codeI Try.prog slices_pdqsortOrdered_string_kp idJ (cAt [true, true, false, false, false, true, true, true, true, true, true, true] (bodyOf Try.f48)) (lopK Try.prog slices_pdqsortOrdered_string_kp idJ (cAt [true, true, false, false] (bodyOf Try.f48)) (blkX 0 (retK Try.prog Try.f48 Q) noX) (retK Try.prog Try.f48 Q) m1) (blkX 1 (lopK Try.prog slices_pdqsortOrdered_string_kp idJ (cAt [true, true, false, false] (bodyOf Try.f48)) (blkX 0 (retK Try.prog Try.f48 Q) noX) (retK Try.prog Try.f48 Q) m1) (blkX 0 (retK Try.prog Try.f48 Q) noX)) (retK Try.prog Try.f48 Q) ((.slice data0.a data0.n data0.c) :: (.int .i64 a1) :: (.int .i64 b2) :: (.int .i64 limit3) :: us 4 ((.bool wasBalanced8) :: (.bool wasPartitioned9) :: (.int .i64 length10) :: (.int .i64 pivot11) :: us 122 [])) := by kernel_rfl
theorem slices_pdqsortOrdered_string_j4_raw (jn : Jn) (Q : Value → WP) (m1 : Nat) (data0 : Sl) (a1 : Int) (b2 : Int) (limit3 : Int) (wasBalanced8 : Bool) (wasPartitioned9 : Bool) (length10 : Int) (pivot11 : Int) (t68 : Bool) : codeI Try.prog slices_pdqsortOrdered_string_kp jn (cAt [true, true, false, false, false, true, true, true, true, true, true, false, true] (bodyOf Try.f48)) (seqK Try.prog slices_pdqsortOrdered_string_kp jn (cAt [true, true, false, false, false, true, true, true, true, true, true, true] (bodyOf Try.f48)) (lopK Try.prog slices_pdqsortOrdered_string_kp jn (cAt [true, true, false, false] (bodyOf Try.f48)) (blkX 0 (retK Try.prog Try.f48 Q) noX) (retK Try.prog Try.f48 Q) m1) (blkX 1 (lopK Try.prog slices_pdqsortOrdered_string_kp jn (cAt [true, true, false, false] (bodyOf Try.f48)) (blkX 0 (retK Try.prog Try.f48 Q) noX) (retK Try.prog Try.f48 Q) m1) (blkX 0 (retK Try.prog Try.f48 Q) noX)) (retK Try.prog Try.f48 Q)) (blkX 1 (lopK Try.prog slices_pdqsortOrdered_string_kp jn (cAt [true, true, false, false] (bodyOf Try.f48)) (blkX 0 (retK Try.prog Try.f48 Q) noX) (retK Try.prog Try.f48 Q) m1) (blkX 0 (retK Try.prog Try.f48 Q) noX)) (retK Try.prog Try.f48 Q) ((.slice data0.a data0.n data0.c) :: (.int .i64 a1) :: (.int .i64 b2) :: (.int .i64 limit3) :: us 4 ((.bool wasBalanced8) :: (.bool wasPartitioned9) :: (.int .i64 length10) :: (.int .i64 pivot11) :: us 56 ((.bool t68) :: us 65 []))) = (
  ite2 t68 (
  call1 .bool Try.prog id_slices_partialInsertionSortOrdered_string [.slice data0.a data0.n data0.c, .int .i64 a1, .int .i64 b2] fun (x_3 : Bool) =>
  ite2 x_3 (
  Q (.tuple #[])) (
  slices_pdqsortOrdered_string_j5 jn Q m1 data0 a1 b2 limit3 wasBalanced8 wasPartitioned9 length10 pivot11)) (
  slices_pdqsortOrdered_string_j5 jn Q m1 data0 a1 b2 limit3 wasBalanced8 wasPartitioned9 length10 pivot11)) := by kernel_rfl
theorem slices_pdqsortOrdered_string_j4_def (Q : Value → WP) (m1 : Nat) (data0 : Sl) (a1 : Int) (b2 : Int) (limit3 : Int) (wasBalanced8 : Bool) (wasPartitioned9 : Bool) (length10 : Int) (pivot11 : Int) (t68 : Bool) : slices_pdqsortOrdered_string_j4 idJ Q m1 data0 a1 b2 limit3 wasBalanced8 wasPartitioned9 length10 pivot11 t68 = codeI Try.prog slices_pdqsortOrdered_string_kp idJ (cAt [true, true, false, false, false, true, true, true, true, true, true, false, true] (bodyOf Try.f48)) (seqK Try.prog slices_pdqsortOrdered_string_kp idJ (cAt [true, true, false, false, false, true, true, true, true, true, true, true] (bodyOf Try.f48)) (lopK Try.prog slices_pdqsortOrdered_string_kp idJ (cAt [true, true, false, false] (bodyOf Try.f48)) (blkX 0 (retK Try.prog Try.f48 Q) noX) (retK Try.prog Try.f48 Q) m1) (blkX 1 (lopK Try.prog slices_pdqsortOrdered_string_kp idJ (cAt [true, true, false, false] (bodyOf Try.f48)) (blkX 0 (retK Try.prog Try.f48 Q) noX) (retK Try.prog Try.f48 Q) m1) (blkX 0 (retK Try.prog Try.f48 Q) noX)) (retK Try.prog Try.f48 Q)) (blkX 1 (lopK Try.prog slices_pdqsortOrdered_string_kp idJ (cAt [true, true, false, false] (bodyOf Try.f48)) (blkX 0 (retK Try.prog Try.f48 Q) noX) (retK Try.prog Try.f48 Q) m1) (blkX 0 (retK Try.prog Try.f48 Q) noX)) (retK Try.prog Try.f48 Q) ((.slice data0.a data0.n data0.c) :: (.int .i64 a1) :: (.int .i64 b2) :: (.int .i64 limit3) :: us 4 ((.bool wasBalanced8) :: (.bool wasPartitioned9) :: (.int .i64 length10) :: (.int .i64 pivot11) :: us 56 ((.bool t68) :: us 65 []))) := by kernel_rfl
theorem slices_pdqsortOrdered_string_j3_raw (jn : Jn) (Q : Value → WP) (m1 : Nat) (data0 : Sl) (a1 : Int) (b2 : Int) (limit3 : Int) (wasBalanced8 : Bool) (wasPartitioned9 : Bool) (length10 : Int) (pivot11 : Int) (hint12 : Int) : codeI Try.prog slices_pdqsortOrdered_string_kp jn (cAt [true, true, false, false, false, true, true, true, true, true, true] (bodyOf Try.f48)) (lopK Try.prog slices_pdqsortOrdered_string_kp jn (cAt [true, true, false, false] (bodyOf Try.f48)) (blkX 0 (retK Try.prog Try.f48 Q) noX) (retK Try.prog Try.f48 Q) m1) (blkX 1 (lopK Try.prog slices_pdqsortOrdered_string_kp jn (cAt [true, true, false, false] (bodyOf Try.f48)) (blkX 0 (retK Try.prog Try.f48 Q) noX) (retK Try.prog Try.f48 Q) m1) (blkX 0 (retK Try.prog Try.f48 Q) noX)) (retK Try.prog Try.f48 Q) ((.slice data0.a data0.n data0.c) :: (.int .i64 a1) :: (.int .i64 b2) :: (.int .i64 limit3) :: us 4 ((.bool wasBalanced8) :: (.bool wasPartitioned9) :: (.int .i64 length10) :: (.int .i64 pivot11) :: (.int .i64 hint12) :: us 121 [])) = (
  ite2 wasBalanced8 (
  ite2 wasPartitioned9 (
  slices_pdqsortOrdered_string_j4 jn Q m1 data0 a1 b2 limit3 wasBalanced8 wasPartitioned9 length10 pivot11 (hint12 == (1 : Int))) (
  slices_pdqsortOrdered_string_j4 jn Q m1 data0 a1 b2 limit3 wasBalanced8 wasPartitioned9 length10 pivot11 false)) (
  slices_pdqsortOrdered_string_j4 jn Q m1 data0 a1 b2 limit3 wasBalanced8 wasPartitioned9 length10 pivot11 false)) := by kernel_rfl
theorem slices_pdqsortOrdered_string_j3_def (Q : Value → WP) (m1 : Nat) (data0 : Sl) (a1 : Int) (b2 : Int) (limit3 : Int) (wasBalanced8 : Bool) (wasPartitioned9 : Bool) (length10 : Int) (pivot11 : Int) (hint12 : Int) : slices_pdqsortOrdered_string_j3 idJ Q m1 data0 a1 b2 limit3 wasBalanced8 wasPartitioned9 length10 pivot11 hint12 = codeI Try.prog slices_pdqsortOrdered_string_kp idJ (cAt [true, true, false, false, false, true, true, true, true, true, true] (bodyOf Try.f48)) (lopK Try.prog slices_pdqsortOrdered_string_kp idJ (cAt [true, true, false, false] (bodyOf Try.f48)) (blkX 0 (retK Try.prog Try.f48 Q) noX) (retK Try.prog Try.f48 Q) m1) (blkX 1 (lopK Try.prog slices_pdqsortOrdered_string_kp idJ (cAt [true, true, false, false] (bodyOf Try.f48)) (blkX 0 (retK Try.prog Try.f48 Q) noX) (retK Try.prog Try.f48 Q) m1) (blkX 0 (retK Try.prog Try.f48 Q) noX)) (retK Try.prog Try.f48 Q) ((.slice data0.a data0.n data0.c) :: (.int .i64 a1) :: (.int .i64 b2) :: (.int .i64 limit3) :: us 4 ((.bool wasBalanced8) :: (.bool wasPartitioned9) :: (.int .i64 length10) :: (.int .i64 pivot11) :: (.int .i64 hint12) :: us 121 [])) := by kernel_rfl
theorem slices_pdqsortOrdered_string_j2_raw (jn : Jn) (Q : Value → WP) (m1 : Nat) (data0 : Sl) (a1 : Int) (b2 : Int) (limit3 : Int) (wasBalanced8 : Bool) (wasPartitioned9 : Bool) (length10 : Int) : codeI Try.prog slices_pdqsortOrdered_string_kp jn (cAt [true, true, false, false, false, true, true, true, true] (bodyOf Try.f48)) (lopK Try.prog slices_pdqsortOrdered_string_kp jn (cAt [true, true, false, false] (bodyOf Try.f48)) (blkX 0 (retK Try.prog Try.f48 Q) noX) (retK Try.prog Try.f48 Q) m1) (blkX 1 (lopK Try.prog slices_pdqsortOrdered_string_kp jn (cAt [true, true, false, false] (bodyOf Try.f48)) (blkX 0 (retK Try.prog Try.f48 Q) noX) (retK Try.prog Try.f48 Q) m1) (blkX 0 (retK Try.prog Try.f48 Q) noX)) (retK Try.prog Try.f48 Q) ((.slice data0.a data0.n data0.c) :: (.int .i64 a1) :: (.int .i64 b2) :: (.int .i64 limit3) :: us 4 ((.bool wasBalanced8) :: (.bool wasPartitioned9) :: (.int .i64 length10) :: us 123 [])) = (
  call2 (.int .i64) (.int .i64) Try.prog id_slices_choosePivotOrdered_string [.slice data0.a data0.n data0.c, .int .i64 a1, .int .i64 b2] fun (x_1 : Int) (x_2 : Int) =>
  ite2 (x_2 == (2 : Int)) (
  call0 Try.prog id_slices_reverseRangeOrdered_string [.slice data0.a data0.n data0.c, .int .i64 a1, .int .i64 b2] <|
  slices_pdqsortOrdered_string_j3 jn Q m1 data0 a1 b2 limit3 wasBalanced8 wasPartitioned9 length10 (IntKind.wrap .i64 ((IntKind.wrap .i64 (b2 - (1 : Int))) - (IntKind.wrap .i64 (x_1 - a1)))) (1 : Int)) (
  slices_pdqsortOrdered_string_j3 jn Q m1 data0 a1 b2 limit3 wasBalanced8 wasPartitioned9 length10 x_1 x_2)) := by kernel_rfl
theorem slices_pdqsortOrdered_string_j2_def (Q : Value → WP) (m1 : Nat) (data0 : Sl) (a1 : Int) (b2 : Int) (limit3 : Int) (wasBalanced8 : Bool) (wasPartitioned9 : Bool) (length10 : Int) : slices_pdqsortOrdered_string_j2 idJ Q m1 data0 a1 b2 limit3 wasBalanced8 wasPartitioned9 length10 = codeI Try.prog slices_pdqsortOrdered_string_kp idJ (cAt [true, true, false, false, false, true, true, true, true] (bodyOf Try.f48)) (lopK Try.prog slices_pdqsortOrdered_string_kp idJ (cAt [true, true, false, false] (bodyOf Try.f48)) (blkX 0 (retK Try.prog Try.f48 Q) noX) (retK Try.prog Try.f48 Q) m1) (blkX 1 (lopK Try.prog slices_pdqsortOrdered_string_kp idJ (cAt [true, true, false, false] (bodyOf Try.f48)) (blkX 0 (retK Try.prog Try.f48 Q) noX) (retK Try.prog Try.f48 Q) m1) (blkX 0 (retK Try.prog Try.f48 Q) noX)) (retK Try.prog Try.f48 Q) ((.slice data0.a data0.n data0.c) :: (.int .i64 a1) :: (.int .i64 b2) :: (.int .i64 limit3) :: us 4 ((.bool wasBalanced8) :: (.bool wasPartitioned9) :: (.int .i64 length10) :: us 123 [])) := by kernel_rfl
theorem slices_pdqsortOrdered_string_l1_raw (jn : Jn) (Q : Value → WP)  (m1 : Nat) (data0 : Sl) (a1 : Int) (b2 : Int) (limit3 : Int) (wasBalanced8 : Bool) (wasPartitioned9 : Bool) : slices_pdqsortOrdered_string_l1 jn Q  (m1 + 1) data0 a1 b2 limit3 wasBalanced8 wasPartitioned9 = (
  ite2 (decide ((IntKind.wrap .i64 (b2 - a1)) ≤ (12 : Int))) (
  call0 Try.prog id_slices_insertionSortOrdered_string [.slice data0.a data0.n data0.c, .int .i64 a1, .int .i64 b2] <|
  Q (.tuple #[])) (
  ite2 (limit3 == (0 : Int)) (
  call0 Try.prog id_slices_heapSortOrdered_string [.slice data0.a data0.n data0.c, .int .i64 a1, .int .i64 b2] <|
  Q (.tuple #[])) (
  ite2 (!wasBalanced8) (
  call0 Try.prog id_slices_breakPatternsOrdered_string [.slice data0.a data0.n data0.c, .int .i64 a1, .int .i64 b2] <|
  slices_pdqsortOrdered_string_j2 jn Q m1 data0 a1 b2 (IntKind.wrap .i64 (limit3 - (1 : Int))) wasBalanced8 wasPartitioned9 (IntKind.wrap .i64 (b2 - a1))) (
  slices_pdqsortOrdered_string_j2 jn Q m1 data0 a1 b2 limit3 wasBalanced8 wasPartitioned9 (IntKind.wrap .i64 (b2 - a1)))))) := by kernel_rfl
theorem slices_pdqsortOrdered_string_l1_zero (jn : Jn) (Q : Value → WP)  (data0 : Sl) (a1 : Int) (b2 : Int) (limit3 : Int) (wasBalanced8 : Bool) (wasPartitioned9 : Bool) : slices_pdqsortOrdered_string_l1 jn Q  0 data0 a1 b2 limit3 wasBalanced8 wasPartitioned9 = bot := by kernel_rfl
theorem slices_pdqsortOrdered_string_raw (jn : Jn) (data0 : Sl) (a1 : Int) (b2 : Int) (limit3 : Int) (Q : Value → WP) : funJ jn Try.prog slices_pdqsortOrdered_string_kp Try.f48 [.slice data0.a data0.n data0.c, .int .i64 a1, .int .i64 b2, .int .i64 limit3] Q = (
  exM fun m => slices_pdqsortOrdered_string_l1 jn Q  m data0 a1 b2 limit3 true true) := by kernel_rfl
theorem slices_pdqsortOrdered_string_def (data0 : Sl) (a1 : Int) (b2 : Int) (limit3 : Int) (Q : Value → WP) : slices_pdqsortOrdered_string data0 a1 b2 limit3 Q = funJ idJ Try.prog slices_pdqsortOrdered_string_kp Try.f48 [.slice data0.a data0.n data0.c, .int .i64 a1, .int .i64 b2, .int .i64 limit3] Q := rfl
theorem slices_pdqsortOrdered_string_calls {data0 : Sl} {a1 : Int} {b2 : Int} {limit3 : Int} {Q : Value → WP} {w : World} (h : slices_pdqsortOrdered_string data0 a1 b2 limit3 Q w) : Calls Try.prog id_slices_pdqsortOrdered_string #[.slice data0.a data0.n data0.c, .int .i64 a1, .int .i64 b2, .int .i64 limit3] w fun e w' => ∃ v, e = .returned v ∧ Q v w' :=
  funJ_calls mixed Try.func48 rfl h

-- math/bits.Len
def math_bits_Len_kp : KP := ⟨[], []⟩
def math_bits_Len (x0 : Int) (Q : Value → WP) : WP := funJ idJ Try.prog math_bits_Len_kp Try.f49 [.int .u64 x0] Q
theorem math_bits_Len_raw (jn : Jn) (x0 : Int) (Q : Value → WP) : funJ jn Try.prog math_bits_Len_kp Try.f49 [.int .u64 x0] Q = (
  call1 (.int .i64) Try.prog id_math_bits_Len64 [.int .u64 x0] fun (x_1 : Int) =>
  Q (.int .i64 x_1)) := by kernel_rfl
theorem math_bits_Len_def (x0 : Int) (Q : Value → WP) : math_bits_Len x0 Q = funJ idJ Try.prog math_bits_Len_kp Try.f49 [.int .u64 x0] Q := rfl
theorem math_bits_Len_calls {x0 : Int} {Q : Value → WP} {w : World} (h : math_bits_Len x0 Q w) : Calls Try.prog id_math_bits_Len #[.int .u64 x0] w fun e w' => ∃ v, e = .returned v ∧ Q v w' :=
  funJ_calls mixed Try.func49 rfl h

-- hoard/mix.Mix
def mix_Mix_kp : KP := ⟨[], []⟩
def mix_Mix (x0 : Int) (Q : Value → WP) : WP := funJ idJ Try.prog mix_Mix_kp Try.f51 [.int .u64 x0] Q
theorem mix_Mix_raw (jn : Jn) (x0 : Int) (Q : Value → WP) : funJ jn Try.prog mix_Mix_kp Try.f51 [.int .u64 x0] Q = (
  when ((0 : Int) ≤ (30 : Int)) <|
  when ((0 : Int) ≤ (27 : Int)) <|
  when ((0 : Int) ≤ (31 : Int)) <|
  Q (.int .u64 (bits .xor .u64 (IntKind.wrap .u64 ((bits .xor .u64 (IntKind.wrap .u64 ((bits .xor .u64 x0 (shrV .u64 x0 (30 : Int))) * (13787848793156543929 : Int))) (shrV .u64 (IntKind.wrap .u64 ((bits .xor .u64 x0 (shrV .u64 x0 (30 : Int))) * (13787848793156543929 : Int))) (27 : Int))) * (10723151780598845931 : Int))) (shrV .u64 (IntKind.wrap .u64 ((bits .xor .u64 (IntKind.wrap .u64 ((bits .xor .u64 x0 (shrV .u64 x0 (30 : Int))) * (13787848793156543929 : Int))) (shrV .u64 (IntKind.wrap .u64 ((bits .xor .u64 x0 (shrV .u64 x0 (30 : Int))) * (13787848793156543929 : Int))) (27 : Int))) * (10723151780598845931 : Int))) (31 : Int))))) := by kernel_rfl
theorem mix_Mix_def (x0 : Int) (Q : Value → WP) : mix_Mix x0 Q = funJ idJ Try.prog mix_Mix_kp Try.f51 [.int .u64 x0] Q := rfl
theorem mix_Mix_calls {x0 : Int} {Q : Value → WP} {w : World} (h : mix_Mix x0 Q w) : Calls Try.prog id_mix_Mix #[.int .u64 x0] w fun e w' => ∃ v, e = .returned v ∧ Q v w' :=
  funJ_calls mixed Try.func51 rfl h

-- slices.insertionSortOrdered[string]
def slices_insertionSortOrdered_string_kp : KP := ⟨[(5, [0, 1, 2, 6]), (6, [0, 1, 2, 6]), (11, [0, 1, 2, 6, 7]), (14, [0, 1, 2, 6, 7])], [(4, [0, 1, 2, 3, 4, 5, 6, 7, 8, 9, 10, 11, 14]), (6, [0, 1, 2, 3, 4, 5, 6, 7, 8, 9, 10, 11, 12, 14, 16])]⟩
def slices_insertionSortOrdered_string_j3 (jn : Jn) (Q : Value → WP) (m1 : Nat) (m2 : Nat) (data0 : Sl) (a1 : Int) (b2 : Int) (i6 : Int) (j7 : Int) : WP := jn 14 (fun ρ => codeI Try.prog slices_insertionSortOrdered_string_kp jn (cAt [true, false, false, true, false, false, true, false, false, true] (bodyOf Try.f52)) (lopK Try.prog slices_insertionSortOrdered_string_kp jn (cAt [true, false, false, true, false, false, true, false, false] (bodyOf Try.f52)) (blkX 2 (seqK Try.prog slices_insertionSortOrdered_string_kp jn (cAt [true, false, false, true, true] (bodyOf Try.f52)) (lopK Try.prog slices_insertionSortOrdered_string_kp jn (cAt [true, false, false] (bodyOf Try.f52)) (blkX 0 (retK Try.prog Try.f52 Q) noX) (retK Try.prog Try.f52 Q) m1) (blkX 0 (retK Try.prog Try.f52 Q) noX) (retK Try.prog Try.f52 Q)) (blkX 1 (seqK Try.prog slices_insertionSortOrdered_string_kp jn (cAt [true, false, false, true, true] (bodyOf Try.f52)) (lopK Try.prog slices_insertionSortOrdered_string_kp jn (cAt [true, false, false] (bodyOf Try.f52)) (blkX 0 (retK Try.prog Try.f52 Q) noX) (retK Try.prog Try.f52 Q) m1) (blkX 0 (retK Try.prog Try.f52 Q) noX) (retK Try.prog Try.f52 Q)) (blkX 0 (retK Try.prog Try.f52 Q) noX))) (retK Try.prog Try.f52 Q) m2) (blkX 2 (seqK Try.prog slices_insertionSortOrdered_string_kp jn (cAt [true, false, false, true, true] (bodyOf Try.f52)) (lopK Try.prog slices_insertionSortOrdered_string_kp jn (cAt [true, false, false] (bodyOf Try.f52)) (blkX 0 (retK Try.prog Try.f52 Q) noX) (retK Try.prog Try.f52 Q) m1) (blkX 0 (retK Try.prog Try.f52 Q) noX) (retK Try.prog Try.f52 Q)) (blkX 1 (seqK Try.prog slices_insertionSortOrdered_string_kp jn (cAt [true, false, false, true, true] (bodyOf Try.f52)) (lopK Try.prog slices_insertionSortOrdered_string_kp jn (cAt [true, false, false] (bodyOf Try.f52)) (blkX 0 (retK Try.prog Try.f52 Q) noX) (retK Try.prog Try.f52 Q) m1) (blkX 0 (retK Try.prog Try.f52 Q) noX) (retK Try.prog Try.f52 Q)) (blkX 0 (retK Try.prog Try.f52 Q) noX))) (retK Try.prog Try.f52 Q) ρ) ((.slice data0.a data0.n data0.c) :: (.int .i64 a1) :: (.int .i64 b2) :: us 3 ((.int .i64 i6) :: (.int .i64 j7) :: us 41 []))
def slices_insertionSortOrdered_string_j4 (jn : Jn) (Q : Value → WP) (m1 : Nat) (data0 : Sl) (a1 : Int) (b2 : Int) (i6 : Int) : WP := jn 6 (fun ρ => codeI Try.prog slices_insertionSortOrdered_string_kp jn (cAt [true, false, false, true, true] (bodyOf Try.f52)) (lopK Try.prog slices_insertionSortOrdered_string_kp jn (cAt [true, false, false] (bodyOf Try.f52)) (blkX 0 (retK Try.prog Try.f52 Q) noX) (retK Try.prog Try.f52 Q) m1) (blkX 0 (retK Try.prog Try.f52 Q) noX) (retK Try.prog Try.f52 Q) ρ) ((.slice data0.a data0.n data0.c) :: (.int .i64 a1) :: (.int .i64 b2) :: us 3 ((.int .i64 i6) :: us 42 []))
def slices_insertionSortOrdered_string_l2 (jn : Jn) (Q : Value → WP) (m1 : Nat) (m2 : Nat) (data0 : Sl) (a1 : Int) (b2 : Int) (i6 : Int) (j7 : Int) : WP := lop Try.prog slices_insertionSortOrdered_string_kp jn (cAt [true, false, false, true, false, false, true, false, false] (bodyOf Try.f52)) (blkX 2 (seqK Try.prog slices_insertionSortOrdered_string_kp jn (cAt [true, false, false, true, true] (bodyOf Try.f52)) (lopK Try.prog slices_insertionSortOrdered_string_kp jn (cAt [true, false, false] (bodyOf Try.f52)) (blkX 0 (retK Try.prog Try.f52 Q) noX) (retK Try.prog Try.f52 Q) m1) (blkX 0 (retK Try.prog Try.f52 Q) noX) (retK Try.prog Try.f52 Q)) (blkX 1 (seqK Try.prog slices_insertionSortOrdered_string_kp jn (cAt [true, false, false, true, true] (bodyOf Try.f52)) (lopK Try.prog slices_insertionSortOrdered_string_kp jn (cAt [true, false, false] (bodyOf Try.f52)) (blkX 0 (retK Try.prog Try.f52 Q) noX) (retK Try.prog Try.f52 Q) m1) (blkX 0 (retK Try.prog Try.f52 Q) noX) (retK Try.prog Try.f52 Q)) (blkX 0 (retK Try.prog Try.f52 Q) noX))) (retK Try.prog Try.f52 Q) m2 ((.slice data0.a data0.n data0.c) :: (.int .i64 a1) :: (.int .i64 b2) :: us 3 ((.int .i64 i6) :: (.int .i64 j7) :: us 41 []))
def slices_insertionSortOrdered_string_l1 (jn : Jn) (Q : Value → WP)  (m1 : Nat) (data0 : Sl) (a1 : Int) (b2 : Int) (i6 : Int) : WP := lop Try.prog slices_insertionSortOrdered_string_kp jn (cAt [true, false, false] (bodyOf Try.f52)) (blkX 0 (retK Try.prog Try.f52 Q) noX) (retK Try.prog Try.f52 Q) m1 ((.slice data0.a data0.n data0.c) :: (.int .i64 a1) :: (.int .i64 b2) :: us 3 ((.int .i64 i6) :: us 42 []))
def slices_insertionSortOrdered_string (data0 : Sl) (a1 : Int) (b2 : Int) (Q : Value → WP) : WP := funJ idJ Try.prog slices_insertionSortOrdered_string_kp Try.f52 [.slice data0.a data0.n data0.c, .int .i64 a1, .int .i64 b2] Q
theorem slices_insertionSortOrdered_string_j3_raw (jn : Jn) (Q : Value → WP) (m1 : Nat) (m2 : Nat) (data0 : Sl) (a1 : Int) (b2 : Int) (i6 : Int) (j7 : Int) : codeI Try.prog slices_insertionSortOrdered_string_kp jn (cAt [true, false, false, true, false, false, true, false, false, true] (bodyOf Try.f52)) (lopK Try.prog slices_insertionSortOrdered_string_kp jn (cAt [true, false, false, true, false, false, true, false, false] (bodyOf Try.f52)) (blkX 2 (seqK Try.prog slices_insertionSortOrdered_string_kp jn (cAt [true, false, false, true, true] (bodyOf Try.f52)) (lopK Try.prog slices_insertionSortOrdered_string_kp jn (cAt [true, false, false] (bodyOf Try.f52)) (blkX 0 (retK Try.prog Try.f52 Q) noX) (retK Try.prog Try.f52 Q) m1) (blkX 0 (retK Try.prog Try.f52 Q) noX) (retK Try.prog Try.f52 Q)) (blkX 1 (seqK Try.prog slices_insertionSortOrdered_string_kp jn (cAt [true, false, false, true, true] (bodyOf Try.f52)) (lopK Try.prog slices_insertionSortOrdered_string_kp jn (cAt [true, false, false] (bodyOf Try.f52)) (blkX 0 (retK Try.prog Try.f52 Q) noX) (retK Try.prog Try.f52 Q) m1) (blkX 0 (retK Try.prog Try.f52 Q) noX) (retK Try.prog Try.f52 Q)) (blkX 0 (retK Try.prog Try.f52 Q) noX))) (retK Try.prog Try.f52 Q) m2) (blkX 2 (seqK Try.prog slices_insertionSortOrdered_string_kp jn (cAt [true, false, false, true, true] (bodyOf Try.f52)) (lopK Try.prog slices_insertionSortOrdered_string_kp jn (cAt [true, false, false] (bodyOf Try.f52)) (blkX 0 (retK Try.prog Try.f52 Q) noX) (retK Try.prog Try.f52 Q) m1) (blkX 0 (retK Try.prog Try.f52 Q) noX) (retK Try.prog Try.f52 Q)) (blkX 1 (seqK Try.prog slices_insertionSortOrdered_string_kp jn (cAt [true, false, false, true, true] (bodyOf Try.f52)) (lopK Try.prog slices_insertionSortOrdered_string_kp jn (cAt [true, false, false] (bodyOf Try.f52)) (blkX 0 (retK Try.prog Try.f52 Q) noX) (retK Try.prog Try.f52 Q) m1) (blkX 0 (retK Try.prog Try.f52 Q) noX) (retK Try.prog Try.f52 Q)) (blkX 0 (retK Try.prog Try.f52 Q) noX))) (retK Try.prog Try.f52 Q) ((.slice data0.a data0.n data0.c) :: (.int .i64 a1) :: (.int .i64 b2) :: us 3 ((.int .i64 i6) :: (.int .i64 j7) :: us 41 [])) = (
  drawW fun S =>
  idx data0.a data0.n (IntKind.wrap .i64 (j7 - (1 : Int))) fun b_8 o_9 =>
  ldS S .str b_8 (o_9 + ((IntKind.wrap .i64 (j7 - (1 : Int)))).toNat * 1) fun (x_10 : ByteArray) =>
  idx data0.a data0.n j7 fun b_11 o_12 =>
  ld .str b_11 (o_12 + (j7).toNat * 1) fun (x_13 : ByteArray) =>
  keepS true S <|
  idx data0.a data0.n j7 fun b_14 o_15 =>
  st b_14 (o_15 + (j7).toNat * 1) (.string x_10) <|
  idx data0.a data0.n (IntKind.wrap .i64 (j7 - (1 : Int))) fun b_16 o_17 =>
  st b_16 (o_17 + ((IntKind.wrap .i64 (j7 - (1 : Int)))).toNat * 1) (.string x_13) <|
  slices_insertionSortOrdered_string_l2 jn Q m1 m2 data0 a1 b2 i6 (IntKind.wrap .i64 (j7 - (1 : Int)))) := by kernel_rfl
theorem slices_insertionSortOrdered_string_j3_def (Q : Value → WP) (m1 : Nat) (m2 : Nat) (data0 : Sl) (a1 : Int) (b2 : Int) (i6 : Int) (j7 : Int) : slices_insertionSortOrdered_string_j3 idJ Q m1 m2 data0 a1 b2 i6 j7 = codeI Try.prog slices_insertionSortOrdered_string_kp idJ (cAt [true, false, false, true, false, false, true, false, false, true] (bodyOf Try.f52)) (lopK Try.prog slices_insertionSortOrdered_string_kp idJ (cAt [true, false, false, true, false, false, true, false, false] (bodyOf Try.f52)) (blkX 2 (seqK Try.prog slices_insertionSortOrdered_string_kp idJ (cAt [true, false, false, true, true] (bodyOf Try.f52)) (lopK Try.prog slices_insertionSortOrdered_string_kp idJ (cAt [true, false, false] (bodyOf Try.f52)) (blkX 0 (retK Try.prog Try.f52 Q) noX) (retK Try.prog Try.f52 Q) m1) (blkX 0 (retK Try.prog Try.f52 Q) noX) (retK Try.prog Try.f52 Q)) (blkX 1 (seqK Try.prog slices_insertionSortOrdered_string_kp idJ (cAt [true, false, false, true, true] (bodyOf Try.f52)) (lopK Try.prog slices_insertionSortOrdered_string_kp idJ (cAt [true, false, false] (bodyOf Try.f52)) (blkX 0 (retK Try.prog Try.f52 Q) noX) (retK Try.prog Try.f52 Q) m1) (blkX 0 (retK Try.prog Try.f52 Q) noX) (retK Try.prog Try.f52 Q)) (blkX 0 (retK Try.prog Try.f52 Q) noX))) (retK Try.prog Try.f52 Q) m2) (blkX 2 (seqK Try.prog slices_insertionSortOrdered_string_kp idJ (cAt [true, false, false, true, true] (bodyOf Try.f52)) (lopK Try.prog slices_insertionSortOrdered_string_kp idJ (cAt [true, false, false] (bodyOf Try.f52)) (blkX 0 (retK Try.prog Try.f52 Q) noX) (retK Try.prog Try.f52 Q) m1) (blkX 0 (retK Try.prog Try.f52 Q) noX) (retK Try.prog Try.f52 Q)) (blkX 1 (seqK Try.prog slices_insertionSortOrdered_string_kp idJ (cAt [true, false, false, true, true] (bodyOf Try.f52)) (lopK Try.prog slices_insertionSortOrdered_string_kp idJ (cAt [true, false, false] (bodyOf Try.f52)) (blkX 0 (retK Try.prog Try.f52 Q) noX) (retK Try.prog Try.f52 Q) m1) (blkX 0 (retK Try.prog Try.f52 Q) noX) (retK Try.prog Try.f52 Q)) (blkX 0 (retK Try.prog Try.f52 Q) noX))) (retK Try.prog Try.f52 Q) ((.slice data0.a data0.n data0.c) :: (.int .i64 a1) :: (.int .i64 b2) :: us 3 ((.int .i64 i6) :: (.int .i64 j7) :: us 41 [])) := by kernel_rfl
theorem slices_insertionSortOrdered_string_j4_raw (jn : Jn) (Q : Value → WP) (m1 : Nat) (data0 : Sl) (a1 : Int) (b2 : Int) (i6 : Int) : codeI Try.prog slices_insertionSortOrdered_string_kp jn (cAt [true, false, false, true, true] (bodyOf Try.f52)) (lopK Try.prog slices_insertionSortOrdered_string_kp jn (cAt [true, false, false] (bodyOf Try.f52)) (blkX 0 (retK Try.prog Try.f52 Q) noX) (retK Try.prog Try.f52 Q) m1) (blkX 0 (retK Try.prog Try.f52 Q) noX) (retK Try.prog Try.f52 Q) ((.slice data0.a data0.n data0.c) :: (.int .i64 a1) :: (.int .i64 b2) :: us 3 ((.int .i64 i6) :: us 42 [])) = (
  slices_insertionSortOrdered_string_l1 jn Q  m1 data0 a1 b2 (IntKind.wrap .i64 (i6 + (1 : Int)))) := by kernel_rfl
theorem slices_insertionSortOrdered_string_j4_def (Q : Value → WP) (m1 : Nat) (data0 : Sl) (a1 : Int) (b2 : Int) (i6 : Int) : slices_insertionSortOrdered_string_j4 idJ Q m1 data0 a1 b2 i6 = codeI Try.prog slices_insertionSortOrdered_string_kp idJ (cAt [true, false, false, true, true] (bodyOf Try.f52)) (lopK Try.prog slices_insertionSortOrdered_string_kp idJ (cAt [true, false, false] (bodyOf Try.f52)) (blkX 0 (retK Try.prog Try.f52 Q) noX) (retK Try.prog Try.f52 Q) m1) (blkX 0 (retK Try.prog Try.f52 Q) noX) (retK Try.prog Try.f52 Q) ((.slice data0.a data0.n data0.c) :: (.int .i64 a1) :: (.int .i64 b2) :: us 3 ((.int .i64 i6) :: us 42 [])) := by kernel_rfl
theorem slices_insertionSortOrdered_string_l2_raw (jn : Jn) (Q : Value → WP) (m1 : Nat) (m2 : Nat) (data0 : Sl) (a1 : Int) (b2 : Int) (i6 : Int) (j7 : Int) : slices_insertionSortOrdered_string_l2 jn Q m1 (m2 + 1) data0 a1 b2 i6 j7 = (
  drawW fun S =>
  ite2 (decide (j7 > a1)) (
  idx data0.a data0.n j7 fun b_1 o_2 =>
  ldS S .str b_1 (o_2 + (j7).toNat * 1) fun (x_3 : ByteArray) =>
  idx data0.a data0.n (IntKind.wrap .i64 (j7 - (1 : Int))) fun b_4 o_5 =>
  ld .str b_4 (o_5 + ((IntKind.wrap .i64 (j7 - (1 : Int)))).toNat * 1) fun (x_6 : ByteArray) =>
  keepS true S <|
  call1 .bool Try.prog id_cmp_Less_string [.string x_3, .string x_6] fun (x_7 : Bool) =>
  ite2 x_7 (
  slices_insertionSortOrdered_string_j3 jn Q m1 m2 data0 a1 b2 i6 j7) (
  slices_insertionSortOrdered_string_j4 jn Q m1 data0 a1 b2 i6)) (
  keepS true S <|
  slices_insertionSortOrdered_string_j4 jn Q m1 data0 a1 b2 i6)) := by kernel_rfl
theorem slices_insertionSortOrdered_string_l2_zero (jn : Jn) (Q : Value → WP) (m1 : Nat) (data0 : Sl) (a1 : Int) (b2 : Int) (i6 : Int) (j7 : Int) : slices_insertionSortOrdered_string_l2 jn Q m1 0 data0 a1 b2 i6 j7 = bot := by kernel_rfl
theorem slices_insertionSortOrdered_string_l1_raw (jn : Jn) (Q : Value → WP)  (m1 : Nat) (data0 : Sl) (a1 : Int) (b2 : Int) (i6 : Int) : slices_insertionSortOrdered_string_l1 jn Q  (m1 + 1) data0 a1 b2 i6 = (
  ite2 (decide (i6 < b2)) (
  exM fun m => slices_insertionSortOrdered_string_l2 jn Q m1 m data0 a1 b2 i6 i6) (
  Q (.tuple #[]))) := by kernel_rfl
theorem slices_insertionSortOrdered_string_l1_zero (jn : Jn) (Q : Value → WP)  (data0 : Sl) (a1 : Int) (b2 : Int) (i6 : Int) : slices_insertionSortOrdered_string_l1 jn Q  0 data0 a1 b2 i6 = bot := by kernel_rfl
theorem slices_insertionSortOrdered_string_raw (jn : Jn) (data0 : Sl) (a1 : Int) (b2 : Int) (Q : Value → WP) : funJ jn Try.prog slices_insertionSortOrdered_string_kp Try.f52 [.slice data0.a data0.n data0.c, .int .i64 a1, .int .i64 b2] Q = (
  exM fun m => slices_insertionSortOrdered_string_l1 jn Q  m data0 a1 b2 (IntKind.wrap .i64 (a1 + (1 : Int)))) := by kernel_rfl
theorem slices_insertionSortOrdered_string_def (data0 : Sl) (a1 : Int) (b2 : Int) (Q : Value → WP) : slices_insertionSortOrdered_string data0 a1 b2 Q = funJ idJ Try.prog slices_insertionSortOrdered_string_kp Try.f52 [.slice data0.a data0.n data0.c, .int .i64 a1, .int .i64 b2] Q := rfl
theorem slices_insertionSortOrdered_string_calls {data0 : Sl} {a1 : Int} {b2 : Int} {Q : Value → WP} {w : World} (h : slices_insertionSortOrdered_string data0 a1 b2 Q w) : Calls Try.prog id_slices_insertionSortOrdered_string #[.slice data0.a data0.n data0.c, .int .i64 a1, .int .i64 b2] w fun e w' => ∃ v, e = .returned v ∧ Q v w' :=
  funJ_calls mixed Try.func52 rfl h

-- slices.heapSortOrdered[string]
def slices_heapSortOrdered_string_kp : KP := ⟨[(11, [0, 6, 7, 8, 9]), (16, [0, 6, 7, 8]), (19, [0, 6, 7, 10])], [(10, [0, 1, 2, 3, 4, 5, 6, 7, 8, 9, 10, 11, 12, 13, 14, 16, 18])]⟩
def slices_heapSortOrdered_string_l3 (jn : Jn) (Q : Value → WP)  (m3 : Nat) (data0 : Sl) (first6 : Int) (lo7 : Int) (i10 : Int) : WP := lop Try.prog slices_heapSortOrdered_string_kp jn (cAt [true, true, true, true, true, false, false] (bodyOf Try.f53)) (blkX 2 (retK Try.prog Try.f53 Q) noX) (retK Try.prog Try.f53 Q) m3 ((.slice data0.a data0.n data0.c) :: us 5 ((.int .i64 first6) :: (.int .i64 lo7) :: us 2 ((.int .i64 i10) :: us 45 [])))
def slices_heapSortOrdered_string_j2 (jn : Jn) (Q : Value → WP)  (data0 : Sl) (first6 : Int) (lo7 : Int) (hi8 : Int) : WP := jn 16 (fun ρ => codeI Try.prog slices_heapSortOrdered_string_kp jn (cAt [true, true, true, true] (bodyOf Try.f53)) (retK Try.prog Try.f53 Q) noX (retK Try.prog Try.f53 Q) ρ) ((.slice data0.a data0.n data0.c) :: us 5 ((.int .i64 first6) :: (.int .i64 lo7) :: (.int .i64 hi8) :: us 47 []))
def slices_heapSortOrdered_string_l1 (jn : Jn) (Q : Value → WP)  (m1 : Nat) (data0 : Sl) (first6 : Int) (lo7 : Int) (hi8 : Int) (i9 : Int) : WP := lop Try.prog slices_heapSortOrdered_string_kp jn (cAt [true, true, true, false, true, false, false] (bodyOf Try.f53)) (blkX 0 (seqK Try.prog slices_heapSortOrdered_string_kp jn (cAt [true, true, true, true] (bodyOf Try.f53)) (retK Try.prog Try.f53 Q) noX (retK Try.prog Try.f53 Q)) noX) (retK Try.prog Try.f53 Q) m1 ((.slice data0.a data0.n data0.c) :: us 5 ((.int .i64 first6) :: (.int .i64 lo7) :: (.int .i64 hi8) :: (.int .i64 i9) :: us 46 []))
def slices_heapSortOrdered_string (data0 : Sl) (a1 : Int) (b2 : Int) (Q : Value → WP) : WP := funJ idJ Try.prog slices_heapSortOrdered_string_kp Try.f53 [.slice data0.a data0.n data0.c, .int .i64 a1, .int .i64 b2] Q
theorem slices_heapSortOrdered_string_l3_raw (jn : Jn) (Q : Value → WP)  (m3 : Nat) (data0 : Sl) (first6 : Int) (lo7 : Int) (i10 : Int) : slices_heapSortOrdered_string_l3 jn Q  (m3 + 1) data0 first6 lo7 i10 = (
  ite2 (decide (i10 ≥ (0 : Int))) (
  drawW fun S =>
  idx data0.a data0.n (IntKind.wrap .i64 (first6 + i10)) fun b_1 o_2 =>
  ldS S .str b_1 (o_2 + ((IntKind.wrap .i64 (first6 + i10))).toNat * 1) fun (x_3 : ByteArray) =>
  idx data0.a data0.n first6 fun b_4 o_5 =>
  ld .str b_4 (o_5 + (first6).toNat * 1) fun (x_6 : ByteArray) =>
  keepS true S <|
  idx data0.a data0.n first6 fun b_7 o_8 =>
  st b_7 (o_8 + (first6).toNat * 1) (.string x_3) <|
  idx data0.a data0.n (IntKind.wrap .i64 (first6 + i10)) fun b_9 o_10 =>
  st b_9 (o_10 + ((IntKind.wrap .i64 (first6 + i10))).toNat * 1) (.string x_6) <|
  call0 Try.prog id_slices_siftDownOrdered_string [.slice data0.a data0.n data0.c, .int .i64 lo7, .int .i64 i10, .int .i64 first6] <|
  slices_heapSortOrdered_string_l3 jn Q  m3 data0 first6 lo7 (IntKind.wrap .i64 (i10 - (1 : Int)))) (
  Q (.tuple #[]))) := by kernel_rfl
theorem slices_heapSortOrdered_string_l3_zero (jn : Jn) (Q : Value → WP)  (data0 : Sl) (first6 : Int) (lo7 : Int) (i10 : Int) : slices_heapSortOrdered_string_l3 jn Q  0 data0 first6 lo7 i10 = bot := by kernel_rfl
theorem slices_heapSortOrdered_string_j2_raw (jn : Jn) (Q : Value → WP)  (data0 : Sl) (first6 : Int) (lo7 : Int) (hi8 : Int) : codeI Try.prog slices_heapSortOrdered_string_kp jn (cAt [true, true, true, true] (bodyOf Try.f53)) (retK Try.prog Try.f53 Q) noX (retK Try.prog Try.f53 Q) ((.slice data0.a data0.n data0.c) :: us 5 ((.int .i64 first6) :: (.int .i64 lo7) :: (.int .i64 hi8) :: us 47 [])) = (
  exM fun m => slices_heapSortOrdered_string_l3 jn Q  m data0 first6 lo7 (IntKind.wrap .i64 (hi8 - (1 : Int)))) := by kernel_rfl
theorem slices_heapSortOrdered_string_j2_def (Q : Value → WP)  (data0 : Sl) (first6 : Int) (lo7 : Int) (hi8 : Int) : slices_heapSortOrdered_string_j2 idJ Q  data0 first6 lo7 hi8 = codeI Try.prog slices_heapSortOrdered_string_kp idJ (cAt [true, true, true, true] (bodyOf Try.f53)) (retK Try.prog Try.f53 Q) noX (retK Try.prog Try.f53 Q) ((.slice data0.a data0.n data0.c) :: us 5 ((.int .i64 first6) :: (.int .i64 lo7) :: (.int .i64 hi8) :: us 47 [])) := by kernel_rfl
theorem slices_heapSortOrdered_string_l1_raw (jn : Jn) (Q : Value → WP)  (m1 : Nat) (data0 : Sl) (first6 : Int) (lo7 : Int) (hi8 : Int) (i9 : Int) : slices_heapSortOrdered_string_l1 jn Q  (m1 + 1) data0 first6 lo7 hi8 i9 = (
  ite2 (decide (i9 ≥ (0 : Int))) (
  call0 Try.prog id_slices_siftDownOrdered_string [.slice data0.a data0.n data0.c, .int .i64 i9, .int .i64 hi8, .int .i64 first6] <|
  slices_heapSortOrdered_string_l1 jn Q  m1 data0 first6 lo7 hi8 (IntKind.wrap .i64 (i9 - (1 : Int)))) (
  slices_heapSortOrdered_string_j2 jn Q  data0 first6 lo7 hi8)) := by kernel_rfl
theorem slices_heapSortOrdered_string_l1_zero (jn : Jn) (Q : Value → WP)  (data0 : Sl) (first6 : Int) (lo7 : Int) (hi8 : Int) (i9 : Int) : slices_heapSortOrdered_string_l1 jn Q  0 data0 first6 lo7 hi8 i9 = bot := by kernel_rfl
theorem slices_heapSortOrdered_string_raw (jn : Jn) (data0 : Sl) (a1 : Int) (b2 : Int) (Q : Value → WP) : funJ jn Try.prog slices_heapSortOrdered_string_kp Try.f53 [.slice data0.a data0.n data0.c, .int .i64 a1, .int .i64 b2] Q = (
  when ((2 : Int) ≠ 0) <|
  exM fun m => slices_heapSortOrdered_string_l1 jn Q  m data0 a1 (0 : Int) (IntKind.wrap .i64 (b2 - a1)) (IntKind.wrap .i64 (Int.tdiv (IntKind.wrap .i64 ((IntKind.wrap .i64 (b2 - a1)) - (1 : Int))) (2 : Int)))) := by kernel_rfl
theorem slices_heapSortOrdered_string_def (data0 : Sl) (a1 : Int) (b2 : Int) (Q : Value → WP) : slices_heapSortOrdered_string data0 a1 b2 Q = funJ idJ Try.prog slices_heapSortOrdered_string_kp Try.f53 [.slice data0.a data0.n data0.c, .int .i64 a1, .int .i64 b2] Q := rfl
theorem slices_heapSortOrdered_string_calls {data0 : Sl} {a1 : Int} {b2 : Int} {Q : Value → WP} {w : World} (h : slices_heapSortOrdered_string data0 a1 b2 Q w) : Calls Try.prog id_slices_heapSortOrdered_string #[.slice data0.a data0.n data0.c, .int .i64 a1, .int .i64 b2] w fun e w' => ∃ v, e = .returned v ∧ Q v w' :=
  funJ_calls mixed Try.func53 rfl h

end Go.Proofs.Ytmpnbenihbbdpaa
