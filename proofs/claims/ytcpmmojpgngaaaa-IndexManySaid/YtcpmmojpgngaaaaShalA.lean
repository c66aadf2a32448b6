/- Printed by a program of mine (wip/tools/shal.py): the shallow texts of the loaded functions, each equal to the interpreter's reading by the kernel. -/
import Derived.Test.YtcpmmojpgngaaaaSound7
import Derived.Test.YtcpmmojpgngaaaaChecked
import Derived.KernelRfl
set_option linter.unusedVariables false
set_option maxRecDepth 100000
namespace Go.Proofs.Ytcpmmojpgngaaaa
open Go.Hb

theorem mixed : Try.prog.follows .mixedOrders = true := by kernel_rfl
abbrev ty_int : TypeId := 3
abbrev ty_uint8 : TypeId := 5
abbrev ty_string : TypeId := 9
abbrev ty_hoardref6_Index : TypeId := 41
abbrev ty_hoardlaw6_Act : TypeId := 44
abbrev ty_index_Index_string : TypeId := 54
abbrev ty_index_place_string : TypeId := 56
abbrev ty_index_Index_int : TypeId := 61
abbrev ty_index_place_int : TypeId := 63
abbrev ty_hoardref6_pair : TypeId := 66
abbrev ty_slices_xorshift : TypeId := 86
abbrev id_hoardlaw6_IndexMany : FuncId := 3
abbrev id_hoardlaw6_IndexTexts : FuncId := 4
abbrev id_hoardlaw6_IndexPlays : FuncId := 5
abbrev id_hoardlaw6_IndexSeeds : FuncId := 6
abbrev id_hoardlaw6_IndexOfNothing : FuncId := 7
abbrev id_hoardlaw6_IndexOwn : FuncId := 8
abbrev id_hoardlaw6_known : FuncId := 9
abbrev id_index_New_string : FuncId := 10
abbrev id_index_Index_string_Put : FuncId := 11
abbrev id_hoardlaw6_key : FuncId := 12
abbrev id_index_Index_string_Delete : FuncId := 13
abbrev id_index_Index_string_Get : FuncId := 14
abbrev id_index_Index_string_Len : FuncId := 15
abbrev id_hoardlaw6_heavy : FuncId := 16
abbrev id_index_New_int : FuncId := 17
abbrev id_hoardlaw6_act : FuncId := 18
abbrev id_index_Index_int_Len : FuncId := 19
abbrev id_hoardref6_Index_Len : FuncId := 20
abbrev id_hoardlaw6_texts : FuncId := 21
abbrev id_index_Index_int_Keys : FuncId := 22
abbrev id_hoardref6_Index_Keys : FuncId := 23
abbrev id_index_Index_int_Put : FuncId := 24
abbrev id_index_Index_int_Delete : FuncId := 25
abbrev id_index_Index_int_Get : FuncId := 26
abbrev id_index_Index_string_find : FuncId := 27
abbrev id_index_Index_string_lays : FuncId := 28
abbrev id_index_Index_string_grows : FuncId := 29
abbrev id_hoardref6_Index_Put : FuncId := 30
abbrev id_hoardref6_Index_Get : FuncId := 31
abbrev id_hoardref6_Index_Delete : FuncId := 32
abbrev id_slices_Sort_s_string_string : FuncId := 33
abbrev id_index_Index_int_find : FuncId := 34
abbrev id_index_Index_int_lays : FuncId := 35
abbrev id_index_Index_int_grows : FuncId := 36
abbrev id_mix_Place : FuncId := 37
abbrev id_mix_Hash : FuncId := 38
abbrev id_hoardref6_Index_at : FuncId := 39
abbrev id_slices_pdqsortOrdered_string : FuncId := 40
abbrev id_math_bits_Len : FuncId := 41
abbrev id_mix_Mix : FuncId := 42
abbrev id_slices_insertionSortOrdered_string : FuncId := 43
abbrev id_slices_heapSortOrdered_string : FuncId := 44
abbrev id_slices_breakPatternsOrdered_string : FuncId := 45
abbrev id_slices_choosePivotOrdered_string : FuncId := 46
abbrev id_slices_reverseRangeOrdered_string : FuncId := 47
abbrev id_slices_partialInsertionSortOrdered_string : FuncId := 48
abbrev id_cmp_Less_string : FuncId := 49
abbrev id_slices_partitionEqualOrdered_string : FuncId := 50
abbrev id_slices_partitionOrdered_string : FuncId := 51
abbrev id_math_bits_Len32 : FuncId := 52
abbrev id_math_bits_Len64 : FuncId := 53
abbrev id_slices_siftDownOrdered_string : FuncId := 54
abbrev id_slices_nextPowerOfTwo : FuncId := 55
abbrev id_slices_xorshift_Next : FuncId := 56
abbrev id_slices_medianAdjacentOrdered_string : FuncId := 57
abbrev id_slices_medianOrdered_string : FuncId := 58
abbrev id_cmp_isNaN_string : FuncId := 59
abbrev id_slices_order2Ordered_string : FuncId := 60
def str_____________________ : ByteArray := ⟨#[0, 1, 2, 2, 3, 3, 3, 3, 4, 4, 4, 4, 4, 4, 4, 4, 5, 5, 5, 5, 5, 5, 5, 5, 5, 5, 5, 5, 5, 5, 5, 5, 6, 6, 6, 6, 6, 6, 6, 6, 6, 6, 6, 6, 6, 6, 6, 6, 6, 6, 6, 6, 6, 6, 6, 6, 6, 6, 6, 6, 6, 6, 6, 6, 7, 7, 7, 7, 7, 7, 7, 7, 7, 7, 7, 7, 7, 7, 7, 7, 7, 7, 7, 7, 7, 7, 7, 7, 7, 7, 7, 7, 7, 7, 7, 7, 7, 7, 7, 7, 7, 7, 7, 7, 7, 7, 7, 7, 7, 7, 7, 7, 7, 7, 7, 7, 7, 7, 7, 7, 7, 7, 7, 7, 7, 7, 7, 7, 8, 8, 8, 8, 8, 8, 8, 8, 8, 8, 8, 8, 8, 8, 8, 8, 8, 8, 8, 8, 8, 8, 8, 8, 8, 8, 8, 8, 8, 8, 8, 8, 8, 8, 8, 8, 8, 8, 8, 8, 8, 8, 8, 8, 8, 8, 8, 8, 8, 8, 8, 8, 8, 8, 8, 8, 8, 8, 8, 8, 8, 8, 8, 8, 8, 8, 8, 8, 8, 8, 8, 8, 8, 8, 8, 8, 8, 8, 8, 8, 8, 8, 8, 8, 8, 8, 8, 8, 8, 8, 8, 8, 8, 8, 8, 8, 8, 8, 8, 8, 8, 8, 8, 8, 8, 8, 8, 8, 8, 8, 8, 8, 8, 8, 8, 8, 8, 8, 8, 8, 8, 8, 8, 8, 8, 8, 8, 8]⟩
def str_a : ByteArray := ⟨#[97]⟩
def str_empty : ByteArray := ⟨#[]⟩
def str_spoilt : ByteArray := ⟨#[115, 112, 111, 105, 108, 116]⟩

-- hoard/hoardlaw6.IndexMany
def hoardlaw6_IndexMany_kp : KP := ⟨[(8, [0, 1, 2]), (13, [1, 2, 7, 8]), (20, [1, 2, 7]), (23, [1, 2, 7, 9]), (32, [1, 2, 7]), (37, [1, 2, 7, 12, 13]), (44, [1, 2, 7, 12, 13, 14, 15, 16]), (52, [7, 12])], []⟩
def hoardlaw6_IndexMany_j7 (jn : Jn) (Q : Value → WP) (m6 : Nat) (n1 : Int) (gone2 : Int) (x7 : Option Addr) (left12 : Int) (i13 : Int) (v14 : ByteArray) (ok15 : Bool) (want16 : Bool) : WP := jn 44 (fun ρ => codeI Try.prog hoardlaw6_IndexMany_kp jn (cAt [true, true, true, true, true, true, false, true, false, false, true, false, false, true, true] (bodyOf Try.f3)) (seqK Try.prog hoardlaw6_IndexMany_kp jn (cAt [true, true, true, true, true, true, false, true, false, false, true, true] (bodyOf Try.f3)) (lopK Try.prog hoardlaw6_IndexMany_kp jn (cAt [true, true, true, true, true, true, false, true, false, false] (bodyOf Try.f3)) (blkX 4 (seqK Try.prog hoardlaw6_IndexMany_kp jn (cAt [true, true, true, true, true, true, true] (bodyOf Try.f3)) (retK Try.prog Try.f3 Q) noX (retK Try.prog Try.f3 Q)) noX) (retK Try.prog Try.f3 Q) m6) (blkX 4 (seqK Try.prog hoardlaw6_IndexMany_kp jn (cAt [true, true, true, true, true, true, true] (bodyOf Try.f3)) (retK Try.prog Try.f3 Q) noX (retK Try.prog Try.f3 Q)) noX) (retK Try.prog Try.f3 Q)) (blkX 5 (seqK Try.prog hoardlaw6_IndexMany_kp jn (cAt [true, true, true, true, true, true, false, true, false, false, true, true] (bodyOf Try.f3)) (lopK Try.prog hoardlaw6_IndexMany_kp jn (cAt [true, true, true, true, true, true, false, true, false, false] (bodyOf Try.f3)) (blkX 4 (seqK Try.prog hoardlaw6_IndexMany_kp jn (cAt [true, true, true, true, true, true, true] (bodyOf Try.f3)) (retK Try.prog Try.f3 Q) noX (retK Try.prog Try.f3 Q)) noX) (retK Try.prog Try.f3 Q) m6) (blkX 4 (seqK Try.prog hoardlaw6_IndexMany_kp jn (cAt [true, true, true, true, true, true, true] (bodyOf Try.f3)) (retK Try.prog Try.f3 Q) noX (retK Try.prog Try.f3 Q)) noX) (retK Try.prog Try.f3 Q)) (blkX 4 (seqK Try.prog hoardlaw6_IndexMany_kp jn (cAt [true, true, true, true, true, true, true] (bodyOf Try.f3)) (retK Try.prog Try.f3 Q) noX (retK Try.prog Try.f3 Q)) noX)) (retK Try.prog Try.f3 Q) ρ) (us 1 ((.int .i64 n1) :: (.int .i64 gone2) :: us 4 ((.pointer x7) :: us 4 ((.int .i64 left12) :: (.int .i64 i13) :: (.string v14) :: (.bool ok15) :: (.bool want16) :: us 105 []))))
def hoardlaw6_IndexMany_j8 (jn : Jn) (Q : Value → WP)  (x7 : Option Addr) (left12 : Int) : WP := jn 52 (fun ρ => codeI Try.prog hoardlaw6_IndexMany_kp jn (cAt [true, true, true, true, true, true, true] (bodyOf Try.f3)) (retK Try.prog Try.f3 Q) noX (retK Try.prog Try.f3 Q) ρ) (us 7 ((.pointer x7) :: us 4 ((.int .i64 left12) :: us 109 [])))
def hoardlaw6_IndexMany_l6 (jn : Jn) (Q : Value → WP)  (m6 : Nat) (n1 : Int) (gone2 : Int) (x7 : Option Addr) (left12 : Int) (i13 : Int) : WP := lop Try.prog hoardlaw6_IndexMany_kp jn (cAt [true, true, true, true, true, true, false, true, false, false] (bodyOf Try.f3)) (blkX 4 (seqK Try.prog hoardlaw6_IndexMany_kp jn (cAt [true, true, true, true, true, true, true] (bodyOf Try.f3)) (retK Try.prog Try.f3 Q) noX (retK Try.prog Try.f3 Q)) noX) (retK Try.prog Try.f3 Q) m6 (us 1 ((.int .i64 n1) :: (.int .i64 gone2) :: us 4 ((.pointer x7) :: us 4 ((.int .i64 left12) :: (.int .i64 i13) :: us 108 []))))
def hoardlaw6_IndexMany_j5 (jn : Jn) (Q : Value → WP)  (n1 : Int) (gone2 : Int) (x7 : Option Addr) : WP := jn 32 (fun ρ => codeI Try.prog hoardlaw6_IndexMany_kp jn (cAt [true, true, true, true, true] (bodyOf Try.f3)) (retK Try.prog Try.f3 Q) noX (retK Try.prog Try.f3 Q) ρ) (us 1 ((.int .i64 n1) :: (.int .i64 gone2) :: us 4 ((.pointer x7) :: us 114 [])))
def hoardlaw6_IndexMany_l4 (jn : Jn) (Q : Value → WP)  (m4 : Nat) (n1 : Int) (gone2 : Int) (x7 : Option Addr) (i9 : Int) : WP := lop Try.prog hoardlaw6_IndexMany_kp jn (cAt [true, true, true, true, false, true, false, false] (bodyOf Try.f3)) (blkX 2 (seqK Try.prog hoardlaw6_IndexMany_kp jn (cAt [true, true, true, true, true] (bodyOf Try.f3)) (retK Try.prog Try.f3 Q) noX (retK Try.prog Try.f3 Q)) noX) (retK Try.prog Try.f3 Q) m4 (us 1 ((.int .i64 n1) :: (.int .i64 gone2) :: us 4 ((.pointer x7) :: us 1 ((.int .i64 i9) :: us 112 []))))
def hoardlaw6_IndexMany_j3 (jn : Jn) (Q : Value → WP)  (n1 : Int) (gone2 : Int) (x7 : Option Addr) : WP := jn 20 (fun ρ => codeI Try.prog hoardlaw6_IndexMany_kp jn (cAt [true, true, true, true] (bodyOf Try.f3)) (retK Try.prog Try.f3 Q) noX (retK Try.prog Try.f3 Q) ρ) (us 1 ((.int .i64 n1) :: (.int .i64 gone2) :: us 4 ((.pointer x7) :: us 114 [])))
def hoardlaw6_IndexMany_l2 (jn : Jn) (Q : Value → WP)  (m2 : Nat) (n1 : Int) (gone2 : Int) (x7 : Option Addr) (i8 : Int) : WP := lop Try.prog hoardlaw6_IndexMany_kp jn (cAt [true, true, true, false, true, false, false] (bodyOf Try.f3)) (blkX 0 (seqK Try.prog hoardlaw6_IndexMany_kp jn (cAt [true, true, true, true] (bodyOf Try.f3)) (retK Try.prog Try.f3 Q) noX (retK Try.prog Try.f3 Q)) noX) (retK Try.prog Try.f3 Q) m2 (us 1 ((.int .i64 n1) :: (.int .i64 gone2) :: us 4 ((.pointer x7) :: (.int .i64 i8) :: us 113 [])))
def hoardlaw6_IndexMany_j1 (jn : Jn) (Q : Value → WP)  (seed0 : Int) (n1 : Int) (gone2 : Int) : WP := jn 8 (fun ρ => codeI Try.prog hoardlaw6_IndexMany_kp jn (cAt [true, true] (bodyOf Try.f3)) (retK Try.prog Try.f3 Q) noX (retK Try.prog Try.f3 Q) ρ) ((.int .u64 seed0) :: (.int .i64 n1) :: (.int .i64 gone2) :: us 119 [])
def hoardlaw6_IndexMany (seed0 : Int) (n1 : Int) (gone2 : Int) (Q : Value → WP) : WP := funJ idJ Try.prog hoardlaw6_IndexMany_kp Try.f3 [.int .u64 seed0, .int .i64 n1, .int .i64 gone2] Q
theorem hoardlaw6_IndexMany_j7_raw (jn : Jn) (Q : Value → WP) (m6 : Nat) (n1 : Int) (gone2 : Int) (x7 : Option Addr) (left12 : Int) (i13 : Int) (v14 : ByteArray) (ok15 : Bool) (want16 : Bool) : codeI Try.prog hoardlaw6_IndexMany_kp jn (cAt [true, true, true, true, true, true, false, true, false, false, true, false, false, true, true] (bodyOf Try.f3)) (seqK Try.prog hoardlaw6_IndexMany_kp jn (cAt [true, true, true, true, true, true, false, true, false, false, true, true] (bodyOf Try.f3)) (lopK Try.prog hoardlaw6_IndexMany_kp jn (cAt [true, true, true, true, true, true, false, true, false, false] (bodyOf Try.f3)) (blkX 4 (seqK Try.prog hoardlaw6_IndexMany_kp jn (cAt [true, true, true, true, true, true, true] (bodyOf Try.f3)) (retK Try.prog Try.f3 Q) noX (retK Try.prog Try.f3 Q)) noX) (retK Try.prog Try.f3 Q) m6) (blkX 4 (seqK Try.prog hoardlaw6_IndexMany_kp jn (cAt [true, true, true, true, true, true, true] (bodyOf Try.f3)) (retK Try.prog Try.f3 Q) noX (retK Try.prog Try.f3 Q)) noX) (retK Try.prog Try.f3 Q)) (blkX 5 (seqK Try.prog hoardlaw6_IndexMany_kp jn (cAt [true, true, true, true, true, true, false, true, false, false, true, true] (bodyOf Try.f3)) (lopK Try.prog hoardlaw6_IndexMany_kp jn (cAt [true, true, true, true, true, true, false, true, false, false] (bodyOf Try.f3)) (blkX 4 (seqK Try.prog hoardlaw6_IndexMany_kp jn (cAt [true, true, true, true, true, true, true] (bodyOf Try.f3)) (retK Try.prog Try.f3 Q) noX (retK Try.prog Try.f3 Q)) noX) (retK Try.prog Try.f3 Q) m6) (blkX 4 (seqK Try.prog hoardlaw6_IndexMany_kp jn (cAt [true, true, true, true, true, true, true] (bodyOf Try.f3)) (retK Try.prog Try.f3 Q) noX (retK Try.prog Try.f3 Q)) noX) (retK Try.prog Try.f3 Q)) (blkX 4 (seqK Try.prog hoardlaw6_IndexMany_kp jn (cAt [true, true, true, true, true, true, true] (bodyOf Try.f3)) (retK Try.prog Try.f3 Q) noX (retK Try.prog Try.f3 Q)) noX)) (retK Try.prog Try.f3 Q) (us 1 ((.int .i64 n1) :: (.int .i64 gone2) :: us 4 ((.pointer x7) :: us 4 ((.int .i64 left12) :: (.int .i64 i13) :: (.string v14) :: (.bool ok15) :: (.bool want16) :: us 105 [])))) = (
  ite2 (!(ok15 == want16)) (
  Q (.bool false)) (
  ite2 ok15 (
  call1 .str Try.prog id_hoardlaw6_key [.int .i64 (IntKind.wrap .i64 (i13 + (1 : Int)))] fun (x_16 : ByteArray) =>
  ite2 (!sEq v14 x_16) (
  Q (.bool false)) (
  ite2 (!ok15) (
  ite2 (!sEq v14 str_empty) (
  Q (.bool false)) (
  ite2 ok15 (
  hoardlaw6_IndexMany_l6 jn Q  m6 n1 gone2 x7 (IntKind.wrap .i64 (left12 + (1 : Int))) (IntKind.wrap .i64 (i13 + (1 : Int)))) (
  hoardlaw6_IndexMany_l6 jn Q  m6 n1 gone2 x7 left12 (IntKind.wrap .i64 (i13 + (1 : Int)))))) (
  ite2 ok15 (
  hoardlaw6_IndexMany_l6 jn Q  m6 n1 gone2 x7 (IntKind.wrap .i64 (left12 + (1 : Int))) (IntKind.wrap .i64 (i13 + (1 : Int)))) (
  hoardlaw6_IndexMany_l6 jn Q  m6 n1 gone2 x7 left12 (IntKind.wrap .i64 (i13 + (1 : Int))))))) (
  ite2 (!ok15) (
  ite2 (!sEq v14 str_empty) (
  Q (.bool false)) (
  ite2 ok15 (
  hoardlaw6_IndexMany_l6 jn Q  m6 n1 gone2 x7 (IntKind.wrap .i64 (left12 + (1 : Int))) (IntKind.wrap .i64 (i13 + (1 : Int)))) (
  hoardlaw6_IndexMany_l6 jn Q  m6 n1 gone2 x7 left12 (IntKind.wrap .i64 (i13 + (1 : Int)))))) (
  ite2 ok15 (
  hoardlaw6_IndexMany_l6 jn Q  m6 n1 gone2 x7 (IntKind.wrap .i64 (left12 + (1 : Int))) (IntKind.wrap .i64 (i13 + (1 : Int)))) (
  hoardlaw6_IndexMany_l6 jn Q  m6 n1 gone2 x7 left12 (IntKind.wrap .i64 (i13 + (1 : Int)))))))) := by kernel_rfl
theorem hoardlaw6_IndexMany_j7_def (Q : Value → WP) (m6 : Nat) (n1 : Int) (gone2 : Int) (x7 : Option Addr) (left12 : Int) (i13 : Int) (v14 : ByteArray) (ok15 : Bool) (want16 : Bool) : hoardlaw6_IndexMany_j7 idJ Q m6 n1 gone2 x7 left12 i13 v14 ok15 want16 = codeI Try.prog hoardlaw6_IndexMany_kp idJ (cAt [true, true, true, true, true, true, false, true, false, false, true, false, false, true, true] (bodyOf Try.f3)) (seqK Try.prog hoardlaw6_IndexMany_kp idJ (cAt [true, true, true, true, true, true, false, true, false, false, true, true] (bodyOf Try.f3)) (lopK Try.prog hoardlaw6_IndexMany_kp idJ (cAt [true, true, true, true, true, true, false, true, false, false] (bodyOf Try.f3)) (blkX 4 (seqK Try.prog hoardlaw6_IndexMany_kp idJ (cAt [true, true, true, true, true, true, true] (bodyOf Try.f3)) (retK Try.prog Try.f3 Q) noX (retK Try.prog Try.f3 Q)) noX) (retK Try.prog Try.f3 Q) m6) (blkX 4 (seqK Try.prog hoardlaw6_IndexMany_kp idJ (cAt [true, true, true, true, true, true, true] (bodyOf Try.f3)) (retK Try.prog Try.f3 Q) noX (retK Try.prog Try.f3 Q)) noX) (retK Try.prog Try.f3 Q)) (blkX 5 (seqK Try.prog hoardlaw6_IndexMany_kp idJ (cAt [true, true, true, true, true, true, false, true, false, false, true, true] (bodyOf Try.f3)) (lopK Try.prog hoardlaw6_IndexMany_kp idJ (cAt [true, true, true, true, true, true, false, true, false, false] (bodyOf Try.f3)) (blkX 4 (seqK Try.prog hoardlaw6_IndexMany_kp idJ (cAt [true, true, true, true, true, true, true] (bodyOf Try.f3)) (retK Try.prog Try.f3 Q) noX (retK Try.prog Try.f3 Q)) noX) (retK Try.prog Try.f3 Q) m6) (blkX 4 (seqK Try.prog hoardlaw6_IndexMany_kp idJ (cAt [true, true, true, true, true, true, true] (bodyOf Try.f3)) (retK Try.prog Try.f3 Q) noX (retK Try.prog Try.f3 Q)) noX) (retK Try.prog Try.f3 Q)) (blkX 4 (seqK Try.prog hoardlaw6_IndexMany_kp idJ (cAt [true, true, true, true, true, true, true] (bodyOf Try.f3)) (retK Try.prog Try.f3 Q) noX (retK Try.prog Try.f3 Q)) noX)) (retK Try.prog Try.f3 Q) (us 1 ((.int .i64 n1) :: (.int .i64 gone2) :: us 4 ((.pointer x7) :: us 4 ((.int .i64 left12) :: (.int .i64 i13) :: (.string v14) :: (.bool ok15) :: (.bool want16) :: us 105 [])))) := by kernel_rfl
theorem hoardlaw6_IndexMany_j8_raw (jn : Jn) (Q : Value → WP)  (x7 : Option Addr) (left12 : Int) : codeI Try.prog hoardlaw6_IndexMany_kp jn (cAt [true, true, true, true, true, true, true] (bodyOf Try.f3)) (retK Try.prog Try.f3 Q) noX (retK Try.prog Try.f3 Q) (us 7 ((.pointer x7) :: us 4 ((.int .i64 left12) :: us 109 []))) = (
  call1 (.int .i64) Try.prog id_index_Index_string_Len [.pointer x7] fun (x_17 : Int) =>
  ite2 (x_17 == left12) (
  call1 .bool Try.prog id_hoardlaw6_known [] fun (x_18 : Bool) =>
  Q (.bool x_18)) (
  Q (.bool false))) := by kernel_rfl
theorem hoardlaw6_IndexMany_j8_def (Q : Value → WP)  (x7 : Option Addr) (left12 : Int) : hoardlaw6_IndexMany_j8 idJ Q  x7 left12 = codeI Try.prog hoardlaw6_IndexMany_kp idJ (cAt [true, true, true, true, true, true, true] (bodyOf Try.f3)) (retK Try.prog Try.f3 Q) noX (retK Try.prog Try.f3 Q) (us 7 ((.pointer x7) :: us 4 ((.int .i64 left12) :: us 109 []))) := by kernel_rfl
theorem hoardlaw6_IndexMany_l6_raw (jn : Jn) (Q : Value → WP)  (m6 : Nat) (n1 : Int) (gone2 : Int) (x7 : Option Addr) (left12 : Int) (i13 : Int) : hoardlaw6_IndexMany_l6 jn Q  (m6 + 1) n1 gone2 x7 left12 i13 = (
  ite2 (decide (i13 < (IntKind.wrap .i64 (n1 + (5 : Int))))) (
  call1 .str Try.prog id_hoardlaw6_key [.int .i64 i13] fun (x_13 : ByteArray) =>
  call2 .str .bool Try.prog id_index_Index_string_Get [.pointer x7, .string x_13] fun (x_14 : ByteArray) (x_15 : Bool) =>
  ite2 (decide (i13 < n1)) (
  when (gone2 ≠ 0) <|
  hoardlaw6_IndexMany_j7 jn Q m6 n1 gone2 x7 left12 i13 x_14 x_15 ((Int.tmod i13 gone2) != (0 : Int))) (
  hoardlaw6_IndexMany_j7 jn Q m6 n1 gone2 x7 left12 i13 x_14 x_15 false)) (
  hoardlaw6_IndexMany_j8 jn Q  x7 left12)) := by kernel_rfl
theorem hoardlaw6_IndexMany_l6_zero (jn : Jn) (Q : Value → WP)  (n1 : Int) (gone2 : Int) (x7 : Option Addr) (left12 : Int) (i13 : Int) : hoardlaw6_IndexMany_l6 jn Q  0 n1 gone2 x7 left12 i13 = bot := by kernel_rfl
theorem hoardlaw6_IndexMany_j5_raw (jn : Jn) (Q : Value → WP)  (n1 : Int) (gone2 : Int) (x7 : Option Addr) : codeI Try.prog hoardlaw6_IndexMany_kp jn (cAt [true, true, true, true, true] (bodyOf Try.f3)) (retK Try.prog Try.f3 Q) noX (retK Try.prog Try.f3 Q) (us 1 ((.int .i64 n1) :: (.int .i64 gone2) :: us 4 ((.pointer x7) :: us 114 []))) = (
  exM fun m => hoardlaw6_IndexMany_l6 jn Q  m n1 gone2 x7 (0 : Int) (0 : Int)) := by kernel_rfl
theorem hoardlaw6_IndexMany_j5_def (Q : Value → WP)  (n1 : Int) (gone2 : Int) (x7 : Option Addr) : hoardlaw6_IndexMany_j5 idJ Q  n1 gone2 x7 = codeI Try.prog hoardlaw6_IndexMany_kp idJ (cAt [true, true, true, true, true] (bodyOf Try.f3)) (retK Try.prog Try.f3 Q) noX (retK Try.prog Try.f3 Q) (us 1 ((.int .i64 n1) :: (.int .i64 gone2) :: us 4 ((.pointer x7) :: us 114 []))) := by kernel_rfl
theorem hoardlaw6_IndexMany_l4_raw (jn : Jn) (Q : Value → WP)  (m4 : Nat) (n1 : Int) (gone2 : Int) (x7 : Option Addr) (i9 : Int) : hoardlaw6_IndexMany_l4 jn Q  (m4 + 1) n1 gone2 x7 i9 = (
  ite2 (decide (i9 < n1)) (
  call1 .str Try.prog id_hoardlaw6_key [.int .i64 i9] fun (x_9 : ByteArray) =>
  call2 .str .bool Try.prog id_index_Index_string_Delete [.pointer x7, .string x_9] fun (x_10 : ByteArray) (x_11 : Bool) =>
  ite2 (!x_11) (
  Q (.bool false)) (
  call1 .str Try.prog id_hoardlaw6_key [.int .i64 (IntKind.wrap .i64 (i9 + (1 : Int)))] fun (x_12 : ByteArray) =>
  ite2 (!sEq x_10 x_12) (
  Q (.bool false)) (
  hoardlaw6_IndexMany_l4 jn Q  m4 n1 gone2 x7 (IntKind.wrap .i64 (i9 + gone2))))) (
  hoardlaw6_IndexMany_j5 jn Q  n1 gone2 x7)) := by kernel_rfl
theorem hoardlaw6_IndexMany_l4_zero (jn : Jn) (Q : Value → WP)  (n1 : Int) (gone2 : Int) (x7 : Option Addr) (i9 : Int) : hoardlaw6_IndexMany_l4 jn Q  0 n1 gone2 x7 i9 = bot := by kernel_rfl
theorem hoardlaw6_IndexMany_j3_raw (jn : Jn) (Q : Value → WP)  (n1 : Int) (gone2 : Int) (x7 : Option Addr) : codeI Try.prog hoardlaw6_IndexMany_kp jn (cAt [true, true, true, true] (bodyOf Try.f3)) (retK Try.prog Try.f3 Q) noX (retK Try.prog Try.f3 Q) (us 1 ((.int .i64 n1) :: (.int .i64 gone2) :: us 4 ((.pointer x7) :: us 114 []))) = (
  exM fun m => hoardlaw6_IndexMany_l4 jn Q  m n1 gone2 x7 (0 : Int)) := by kernel_rfl
theorem hoardlaw6_IndexMany_j3_def (Q : Value → WP)  (n1 : Int) (gone2 : Int) (x7 : Option Addr) : hoardlaw6_IndexMany_j3 idJ Q  n1 gone2 x7 = codeI Try.prog hoardlaw6_IndexMany_kp idJ (cAt [true, true, true, true] (bodyOf Try.f3)) (retK Try.prog Try.f3 Q) noX (retK Try.prog Try.f3 Q) (us 1 ((.int .i64 n1) :: (.int .i64 gone2) :: us 4 ((.pointer x7) :: us 114 []))) := by kernel_rfl
theorem hoardlaw6_IndexMany_l2_raw (jn : Jn) (Q : Value → WP)  (m2 : Nat) (n1 : Int) (gone2 : Int) (x7 : Option Addr) (i8 : Int) : hoardlaw6_IndexMany_l2 jn Q  (m2 + 1) n1 gone2 x7 i8 = (
  ite2 (decide (i8 < n1)) (
  call1 .str Try.prog id_hoardlaw6_key [.int .i64 i8] fun (x_6 : ByteArray) =>
  call1 .str Try.prog id_hoardlaw6_key [.int .i64 (IntKind.wrap .i64 (i8 + (1 : Int)))] fun (x_7 : ByteArray) =>
  call1 .bool Try.prog id_index_Index_string_Put [.pointer x7, .string x_6, .string x_7] fun (x_8 : Bool) =>
  ite2 (!x_8) (
  Q (.bool false)) (
  hoardlaw6_IndexMany_l2 jn Q  m2 n1 gone2 x7 (IntKind.wrap .i64 (i8 + (1 : Int))))) (
  hoardlaw6_IndexMany_j3 jn Q  n1 gone2 x7)) := by kernel_rfl
theorem hoardlaw6_IndexMany_l2_zero (jn : Jn) (Q : Value → WP)  (n1 : Int) (gone2 : Int) (x7 : Option Addr) (i8 : Int) : hoardlaw6_IndexMany_l2 jn Q  0 n1 gone2 x7 i8 = bot := by kernel_rfl
theorem hoardlaw6_IndexMany_j1_raw (jn : Jn) (Q : Value → WP)  (seed0 : Int) (n1 : Int) (gone2 : Int) : codeI Try.prog hoardlaw6_IndexMany_kp jn (cAt [true, true] (bodyOf Try.f3)) (retK Try.prog Try.f3 Q) noX (retK Try.prog Try.f3 Q) ((.int .u64 seed0) :: (.int .i64 n1) :: (.int .i64 gone2) :: us 119 []) = (
  call1 .ptr Try.prog id_index_New_string [.int .u64 seed0] fun (x_5 : Option Addr) =>
  exM fun m => hoardlaw6_IndexMany_l2 jn Q  m n1 gone2 x_5 (0 : Int)) := by kernel_rfl
theorem hoardlaw6_IndexMany_j1_def (Q : Value → WP)  (seed0 : Int) (n1 : Int) (gone2 : Int) : hoardlaw6_IndexMany_j1 idJ Q  seed0 n1 gone2 = codeI Try.prog hoardlaw6_IndexMany_kp idJ (cAt [true, true] (bodyOf Try.f3)) (retK Try.prog Try.f3 Q) noX (retK Try.prog Try.f3 Q) ((.int .u64 seed0) :: (.int .i64 n1) :: (.int .i64 gone2) :: us 119 []) := by kernel_rfl
theorem hoardlaw6_IndexMany_raw (jn : Jn) (seed0 : Int) (n1 : Int) (gone2 : Int) (Q : Value → WP) : funJ jn Try.prog hoardlaw6_IndexMany_kp Try.f3 [.int .u64 seed0, .int .i64 n1, .int .i64 gone2] Q = (
  ite2 (decide (n1 < (0 : Int))) (
  call1 .bool Try.prog id_hoardlaw6_known [] fun (x_1 : Bool) =>
  Q (.bool x_1)) (
  ite2 (decide (n1 > (400 : Int))) (
  call1 .bool Try.prog id_hoardlaw6_known [] fun (x_2 : Bool) =>
  Q (.bool x_2)) (
  ite2 (decide (gone2 < (1 : Int))) (
  call1 .bool Try.prog id_hoardlaw6_known [] fun (x_3 : Bool) =>
  Q (.bool x_3)) (
  ite2 (decide (gone2 > (20 : Int))) (
  call1 .bool Try.prog id_hoardlaw6_known [] fun (x_4 : Bool) =>
  Q (.bool x_4)) (
  hoardlaw6_IndexMany_j1 jn Q  seed0 n1 gone2))))) := by kernel_rfl
theorem hoardlaw6_IndexMany_def (seed0 : Int) (n1 : Int) (gone2 : Int) (Q : Value → WP) : hoardlaw6_IndexMany seed0 n1 gone2 Q = funJ idJ Try.prog hoardlaw6_IndexMany_kp Try.f3 [.int .u64 seed0, .int .i64 n1, .int .i64 gone2] Q := rfl
theorem hoardlaw6_IndexMany_calls {seed0 : Int} {n1 : Int} {gone2 : Int} {Q : Value → WP} {w : World} (h : hoardlaw6_IndexMany seed0 n1 gone2 Q w) : Calls Try.prog id_hoardlaw6_IndexMany #[.int .u64 seed0, .int .i64 n1, .int .i64 gone2] w fun e w' => ∃ v, e = .returned v ∧ Q v w' :=
  funJ_calls mixed Try.func3 rfl h

-- hoard/hoardlaw6.IndexTexts
def hoardlaw6_IndexTexts_kp : KP := ⟨[(8, [0, 1, 2]), (13, [1, 2, 7, 8]), (16, [1, 2, 7, 8]), (20, [1, 2, 7, 8]), (22, [1, 2, 7]), (25, [1, 2, 7, 9]), (26, [1, 2, 7, 9]), (28, [1, 2, 7, 9]), (33, [1, 2, 7, 9, 10, 11]), (36, [1, 2, 7, 9, 10, 11]), (40, [1, 2, 7, 9, 10]), (46, [])], [(9, [0, 1, 2, 3, 4, 5, 6, 7]), (17, [0, 1, 2, 3, 4, 5, 6, 8])]⟩
def hoardlaw6_IndexTexts_j4 (jn : Jn) (Q : Value → WP) (m2 : Nat) (keys1 : Sl) (vals2 : Sl) (x7 : Option Addr) (i8 : Int) : WP := jn 20 (fun ρ => codeI Try.prog hoardlaw6_IndexTexts_kp jn (cAt [true, true, true, false, true, false, false, true, false, false, true] (bodyOf Try.f4)) (seqK Try.prog hoardlaw6_IndexTexts_kp jn (cAt [true, true, true, false, true, false, false, true, true] (bodyOf Try.f4)) (lopK Try.prog hoardlaw6_IndexTexts_kp jn (cAt [true, true, true, false, true, false, false] (bodyOf Try.f4)) (blkX 0 (seqK Try.prog hoardlaw6_IndexTexts_kp jn (cAt [true, true, true, true] (bodyOf Try.f4)) (retK Try.prog Try.f4 Q) noX (retK Try.prog Try.f4 Q)) noX) (retK Try.prog Try.f4 Q) m2) (blkX 0 (seqK Try.prog hoardlaw6_IndexTexts_kp jn (cAt [true, true, true, true] (bodyOf Try.f4)) (retK Try.prog Try.f4 Q) noX (retK Try.prog Try.f4 Q)) noX) (retK Try.prog Try.f4 Q)) (blkX 1 (seqK Try.prog hoardlaw6_IndexTexts_kp jn (cAt [true, true, true, false, true, false, false, true, true] (bodyOf Try.f4)) (lopK Try.prog hoardlaw6_IndexTexts_kp jn (cAt [true, true, true, false, true, false, false] (bodyOf Try.f4)) (blkX 0 (seqK Try.prog hoardlaw6_IndexTexts_kp jn (cAt [true, true, true, true] (bodyOf Try.f4)) (retK Try.prog Try.f4 Q) noX (retK Try.prog Try.f4 Q)) noX) (retK Try.prog Try.f4 Q) m2) (blkX 0 (seqK Try.prog hoardlaw6_IndexTexts_kp jn (cAt [true, true, true, true] (bodyOf Try.f4)) (retK Try.prog Try.f4 Q) noX (retK Try.prog Try.f4 Q)) noX) (retK Try.prog Try.f4 Q)) (blkX 0 (seqK Try.prog hoardlaw6_IndexTexts_kp jn (cAt [true, true, true, true] (bodyOf Try.f4)) (retK Try.prog Try.f4 Q) noX (retK Try.prog Try.f4 Q)) noX)) (retK Try.prog Try.f4 Q) ρ) (us 1 ((.slice keys1.a keys1.n keys1.c) :: (.slice vals2.a vals2.n vals2.c) :: us 4 ((.pointer x7) :: (.int .i64 i8) :: us 110 [])))
def hoardlaw6_IndexTexts_j3 (jn : Jn) (Q : Value → WP) (m2 : Nat) (keys1 : Sl) (vals2 : Sl) (x7 : Option Addr) (i8 : Int) : WP := jn 16 (fun ρ => codeI Try.prog hoardlaw6_IndexTexts_kp jn (cAt [true, true, true, false, true, false, false, true] (bodyOf Try.f4)) (lopK Try.prog hoardlaw6_IndexTexts_kp jn (cAt [true, true, true, false, true, false, false] (bodyOf Try.f4)) (blkX 0 (seqK Try.prog hoardlaw6_IndexTexts_kp jn (cAt [true, true, true, true] (bodyOf Try.f4)) (retK Try.prog Try.f4 Q) noX (retK Try.prog Try.f4 Q)) noX) (retK Try.prog Try.f4 Q) m2) (blkX 0 (seqK Try.prog hoardlaw6_IndexTexts_kp jn (cAt [true, true, true, true] (bodyOf Try.f4)) (retK Try.prog Try.f4 Q) noX (retK Try.prog Try.f4 Q)) noX) (retK Try.prog Try.f4 Q) ρ) (us 1 ((.slice keys1.a keys1.n keys1.c) :: (.slice vals2.a vals2.n vals2.c) :: us 4 ((.pointer x7) :: (.int .i64 i8) :: us 110 [])))
def hoardlaw6_IndexTexts_j9 (jn : Jn) (Q : Value → WP) (m6 : Nat) (m8 : Nat) (keys1 : Sl) (vals2 : Sl) (x7 : Option Addr) (i9 : Int) (want10 : ByteArray) (k11 : Int) : WP := jn 36 (fun ρ => codeI Try.prog hoardlaw6_IndexTexts_kp jn (cAt [true, true, true, true, false, true, false, false, true, false, false, true, false, true, false, false, true] (bodyOf Try.f4)) (lopK Try.prog hoardlaw6_IndexTexts_kp jn (cAt [true, true, true, true, false, true, false, false, true, false, false, true, false, true, false, false] (bodyOf Try.f4)) (blkX 4 (seqK Try.prog hoardlaw6_IndexTexts_kp jn (cAt [true, true, true, true, false, true, false, false, true, false, false, true, true] (bodyOf Try.f4)) (seqK Try.prog hoardlaw6_IndexTexts_kp jn (cAt [true, true, true, true, false, true, false, false, true, true] (bodyOf Try.f4)) (lopK Try.prog hoardlaw6_IndexTexts_kp jn (cAt [true, true, true, true, false, true, false, false] (bodyOf Try.f4)) (blkX 2 (seqK Try.prog hoardlaw6_IndexTexts_kp jn (cAt [true, true, true, true, true] (bodyOf Try.f4)) (retK Try.prog Try.f4 Q) noX (retK Try.prog Try.f4 Q)) noX) (retK Try.prog Try.f4 Q) m6) (blkX 2 (seqK Try.prog hoardlaw6_IndexTexts_kp jn (cAt [true, true, true, true, true] (bodyOf Try.f4)) (retK Try.prog Try.f4 Q) noX (retK Try.prog Try.f4 Q)) noX) (retK Try.prog Try.f4 Q)) (blkX 3 (seqK Try.prog hoardlaw6_IndexTexts_kp jn (cAt [true, true, true, true, false, true, false, false, true, true] (bodyOf Try.f4)) (lopK Try.prog hoardlaw6_IndexTexts_kp jn (cAt [true, true, true, true, false, true, false, false] (bodyOf Try.f4)) (blkX 2 (seqK Try.prog hoardlaw6_IndexTexts_kp jn (cAt [true, true, true, true, true] (bodyOf Try.f4)) (retK Try.prog Try.f4 Q) noX (retK Try.prog Try.f4 Q)) noX) (retK Try.prog Try.f4 Q) m6) (blkX 2 (seqK Try.prog hoardlaw6_IndexTexts_kp jn (cAt [true, true, true, true, true] (bodyOf Try.f4)) (retK Try.prog Try.f4 Q) noX (retK Try.prog Try.f4 Q)) noX) (retK Try.prog Try.f4 Q)) (blkX 2 (seqK Try.prog hoardlaw6_IndexTexts_kp jn (cAt [true, true, true, true, true] (bodyOf Try.f4)) (retK Try.prog Try.f4 Q) noX (retK Try.prog Try.f4 Q)) noX)) (retK Try.prog Try.f4 Q)) (blkX 3 (seqK Try.prog hoardlaw6_IndexTexts_kp jn (cAt [true, true, true, true, false, true, false, false, true, true] (bodyOf Try.f4)) (lopK Try.prog hoardlaw6_IndexTexts_kp jn (cAt [true, true, true, true, false, true, false, false] (bodyOf Try.f4)) (blkX 2 (seqK Try.prog hoardlaw6_IndexTexts_kp jn (cAt [true, true, true, true, true] (bodyOf Try.f4)) (retK Try.prog Try.f4 Q) noX (retK Try.prog Try.f4 Q)) noX) (retK Try.prog Try.f4 Q) m6) (blkX 2 (seqK Try.prog hoardlaw6_IndexTexts_kp jn (cAt [true, true, true, true, true] (bodyOf Try.f4)) (retK Try.prog Try.f4 Q) noX (retK Try.prog Try.f4 Q)) noX) (retK Try.prog Try.f4 Q)) (blkX 2 (seqK Try.prog hoardlaw6_IndexTexts_kp jn (cAt [true, true, true, true, true] (bodyOf Try.f4)) (retK Try.prog Try.f4 Q) noX (retK Try.prog Try.f4 Q)) noX))) (retK Try.prog Try.f4 Q) m8) (blkX 4 (seqK Try.prog hoardlaw6_IndexTexts_kp jn (cAt [true, true, true, true, false, true, false, false, true, false, false, true, true] (bodyOf Try.f4)) (seqK Try.prog hoardlaw6_IndexTexts_kp jn (cAt [true, true, true, true, false, true, false, false, true, true] (bodyOf Try.f4)) (lopK Try.prog hoardlaw6_IndexTexts_kp jn (cAt [true, true, true, true, false, true, false, false] (bodyOf Try.f4)) (blkX 2 (seqK Try.prog hoardlaw6_IndexTexts_kp jn (cAt [true, true, true, true, true] (bodyOf Try.f4)) (retK Try.prog Try.f4 Q) noX (retK Try.prog Try.f4 Q)) noX) (retK Try.prog Try.f4 Q) m6) (blkX 2 (seqK Try.prog hoardlaw6_IndexTexts_kp jn (cAt [true, true, true, true, true] (bodyOf Try.f4)) (retK Try.prog Try.f4 Q) noX (retK Try.prog Try.f4 Q)) noX) (retK Try.prog Try.f4 Q)) (blkX 3 (seqK Try.prog hoardlaw6_IndexTexts_kp jn (cAt [true, true, true, true, false, true, false, false, true, true] (bodyOf Try.f4)) (lopK Try.prog hoardlaw6_IndexTexts_kp jn (cAt [true, true, true, true, false, true, false, false] (bodyOf Try.f4)) (blkX 2 (seqK Try.prog hoardlaw6_IndexTexts_kp jn (cAt [true, true, true, true, true] (bodyOf Try.f4)) (retK Try.prog Try.f4 Q) noX (retK Try.prog Try.f4 Q)) noX) (retK Try.prog Try.f4 Q) m6) (blkX 2 (seqK Try.prog hoardlaw6_IndexTexts_kp jn (cAt [true, true, true, true, true] (bodyOf Try.f4)) (retK Try.prog Try.f4 Q) noX (retK Try.prog Try.f4 Q)) noX) (retK Try.prog Try.f4 Q)) (blkX 2 (seqK Try.prog hoardlaw6_IndexTexts_kp jn (cAt [true, true, true, true, true] (bodyOf Try.f4)) (retK Try.prog Try.f4 Q) noX (retK Try.prog Try.f4 Q)) noX)) (retK Try.prog Try.f4 Q)) (blkX 3 (seqK Try.prog hoardlaw6_IndexTexts_kp jn (cAt [true, true, true, true, false, true, false, false, true, true] (bodyOf Try.f4)) (lopK Try.prog hoardlaw6_IndexTexts_kp jn (cAt [true, true, true, true, false, true, false, false] (bodyOf Try.f4)) (blkX 2 (seqK Try.prog hoardlaw6_IndexTexts_kp jn (cAt [true, true, true, true, true] (bodyOf Try.f4)) (retK Try.prog Try.f4 Q) noX (retK Try.prog Try.f4 Q)) noX) (retK Try.prog Try.f4 Q) m6) (blkX 2 (seqK Try.prog hoardlaw6_IndexTexts_kp jn (cAt [true, true, true, true, true] (bodyOf Try.f4)) (retK Try.prog Try.f4 Q) noX (retK Try.prog Try.f4 Q)) noX) (retK Try.prog Try.f4 Q)) (blkX 2 (seqK Try.prog hoardlaw6_IndexTexts_kp jn (cAt [true, true, true, true, true] (bodyOf Try.f4)) (retK Try.prog Try.f4 Q) noX (retK Try.prog Try.f4 Q)) noX))) (retK Try.prog Try.f4 Q) ρ) (us 1 ((.slice keys1.a keys1.n keys1.c) :: (.slice vals2.a vals2.n vals2.c) :: us 4 ((.pointer x7) :: us 1 ((.int .i64 i9) :: (.string want10) :: (.int .i64 k11) :: us 107 []))))
def hoardlaw6_IndexTexts_j11 (jn : Jn) (Q : Value → WP) (m6 : Nat) (keys1 : Sl) (vals2 : Sl) (x7 : Option Addr) (i9 : Int) : WP := jn 26 (fun ρ => codeI Try.prog hoardlaw6_IndexTexts_kp jn (cAt [true, true, true, true, false, true, false, false, true, true] (bodyOf Try.f4)) (lopK Try.prog hoardlaw6_IndexTexts_kp jn (cAt [true, true, true, true, false, true, false, false] (bodyOf Try.f4)) (blkX 2 (seqK Try.prog hoardlaw6_IndexTexts_kp jn (cAt [true, true, true, true, true] (bodyOf Try.f4)) (retK Try.prog Try.f4 Q) noX (retK Try.prog Try.f4 Q)) noX) (retK Try.prog Try.f4 Q) m6) (blkX 2 (seqK Try.prog hoardlaw6_IndexTexts_kp jn (cAt [true, true, true, true, true] (bodyOf Try.f4)) (retK Try.prog Try.f4 Q) noX (retK Try.prog Try.f4 Q)) noX) (retK Try.prog Try.f4 Q) ρ) (us 1 ((.slice keys1.a keys1.n keys1.c) :: (.slice vals2.a vals2.n vals2.c) :: us 4 ((.pointer x7) :: us 1 ((.int .i64 i9) :: us 109 []))))
def hoardlaw6_IndexTexts_j10 (jn : Jn) (Q : Value → WP) (m6 : Nat) (keys1 : Sl) (vals2 : Sl) (x7 : Option Addr) (i9 : Int) (want10 : ByteArray) : WP := jn 40 (fun ρ => codeI Try.prog hoardlaw6_IndexTexts_kp jn (cAt [true, true, true, true, false, true, false, false, true, false, false, true, true] (bodyOf Try.f4)) (seqK Try.prog hoardlaw6_IndexTexts_kp jn (cAt [true, true, true, true, false, true, false, false, true, true] (bodyOf Try.f4)) (lopK Try.prog hoardlaw6_IndexTexts_kp jn (cAt [true, true, true, true, false, true, false, false] (bodyOf Try.f4)) (blkX 2 (seqK Try.prog hoardlaw6_IndexTexts_kp jn (cAt [true, true, true, true, true] (bodyOf Try.f4)) (retK Try.prog Try.f4 Q) noX (retK Try.prog Try.f4 Q)) noX) (retK Try.prog Try.f4 Q) m6) (blkX 2 (seqK Try.prog hoardlaw6_IndexTexts_kp jn (cAt [true, true, true, true, true] (bodyOf Try.f4)) (retK Try.prog Try.f4 Q) noX (retK Try.prog Try.f4 Q)) noX) (retK Try.prog Try.f4 Q)) (blkX 3 (seqK Try.prog hoardlaw6_IndexTexts_kp jn (cAt [true, true, true, true, false, true, false, false, true, true] (bodyOf Try.f4)) (lopK Try.prog hoardlaw6_IndexTexts_kp jn (cAt [true, true, true, true, false, true, false, false] (bodyOf Try.f4)) (blkX 2 (seqK Try.prog hoardlaw6_IndexTexts_kp jn (cAt [true, true, true, true, true] (bodyOf Try.f4)) (retK Try.prog Try.f4 Q) noX (retK Try.prog Try.f4 Q)) noX) (retK Try.prog Try.f4 Q) m6) (blkX 2 (seqK Try.prog hoardlaw6_IndexTexts_kp jn (cAt [true, true, true, true, true] (bodyOf Try.f4)) (retK Try.prog Try.f4 Q) noX (retK Try.prog Try.f4 Q)) noX) (retK Try.prog Try.f4 Q)) (blkX 2 (seqK Try.prog hoardlaw6_IndexTexts_kp jn (cAt [true, true, true, true, true] (bodyOf Try.f4)) (retK Try.prog Try.f4 Q) noX (retK Try.prog Try.f4 Q)) noX)) (retK Try.prog Try.f4 Q) ρ) (us 1 ((.slice keys1.a keys1.n keys1.c) :: (.slice vals2.a vals2.n vals2.c) :: us 4 ((.pointer x7) :: us 1 ((.int .i64 i9) :: (.string want10) :: us 108 []))))
def hoardlaw6_IndexTexts_l8 (jn : Jn) (Q : Value → WP) (m6 : Nat) (m8 : Nat) (keys1 : Sl) (vals2 : Sl) (x7 : Option Addr) (i9 : Int) (want10 : ByteArray) (k11 : Int) : WP := lop Try.prog hoardlaw6_IndexTexts_kp jn (cAt [true, true, true, true, false, true, false, false, true, false, false, true, false, true, false, false] (bodyOf Try.f4)) (blkX 4 (seqK Try.prog hoardlaw6_IndexTexts_kp jn (cAt [true, true, true, true, false, true, false, false, true, false, false, true, true] (bodyOf Try.f4)) (seqK Try.prog hoardlaw6_IndexTexts_kp jn (cAt [true, true, true, true, false, true, false, false, true, true] (bodyOf Try.f4)) (lopK Try.prog hoardlaw6_IndexTexts_kp jn (cAt [true, true, true, true, false, true, false, false] (bodyOf Try.f4)) (blkX 2 (seqK Try.prog hoardlaw6_IndexTexts_kp jn (cAt [true, true, true, true, true] (bodyOf Try.f4)) (retK Try.prog Try.f4 Q) noX (retK Try.prog Try.f4 Q)) noX) (retK Try.prog Try.f4 Q) m6) (blkX 2 (seqK Try.prog hoardlaw6_IndexTexts_kp jn (cAt [true, true, true, true, true] (bodyOf Try.f4)) (retK Try.prog Try.f4 Q) noX (retK Try.prog Try.f4 Q)) noX) (retK Try.prog Try.f4 Q)) (blkX 3 (seqK Try.prog hoardlaw6_IndexTexts_kp jn (cAt [true, true, true, true, false, true, false, false, true, true] (bodyOf Try.f4)) (lopK Try.prog hoardlaw6_IndexTexts_kp jn (cAt [true, true, true, true, false, true, false, false] (bodyOf Try.f4)) (blkX 2 (seqK Try.prog hoardlaw6_IndexTexts_kp jn (cAt [true, true, true, true, true] (bodyOf Try.f4)) (retK Try.prog Try.f4 Q) noX (retK Try.prog Try.f4 Q)) noX) (retK Try.prog Try.f4 Q) m6) (blkX 2 (seqK Try.prog hoardlaw6_IndexTexts_kp jn (cAt [true, true, true, true, true] (bodyOf Try.f4)) (retK Try.prog Try.f4 Q) noX (retK Try.prog Try.f4 Q)) noX) (retK Try.prog Try.f4 Q)) (blkX 2 (seqK Try.prog hoardlaw6_IndexTexts_kp jn (cAt [true, true, true, true, true] (bodyOf Try.f4)) (retK Try.prog Try.f4 Q) noX (retK Try.prog Try.f4 Q)) noX)) (retK Try.prog Try.f4 Q)) (blkX 3 (seqK Try.prog hoardlaw6_IndexTexts_kp jn (cAt [true, true, true, true, false, true, false, false, true, true] (bodyOf Try.f4)) (lopK Try.prog hoardlaw6_IndexTexts_kp jn (cAt [true, true, true, true, false, true, false, false] (bodyOf Try.f4)) (blkX 2 (seqK Try.prog hoardlaw6_IndexTexts_kp jn (cAt [true, true, true, true, true] (bodyOf Try.f4)) (retK Try.prog Try.f4 Q) noX (retK Try.prog Try.f4 Q)) noX) (retK Try.prog Try.f4 Q) m6) (blkX 2 (seqK Try.prog hoardlaw6_IndexTexts_kp jn (cAt [true, true, true, true, true] (bodyOf Try.f4)) (retK Try.prog Try.f4 Q) noX (retK Try.prog Try.f4 Q)) noX) (retK Try.prog Try.f4 Q)) (blkX 2 (seqK Try.prog hoardlaw6_IndexTexts_kp jn (cAt [true, true, true, true, true] (bodyOf Try.f4)) (retK Try.prog Try.f4 Q) noX (retK Try.prog Try.f4 Q)) noX))) (retK Try.prog Try.f4 Q) m8 (us 1 ((.slice keys1.a keys1.n keys1.c) :: (.slice vals2.a vals2.n vals2.c) :: us 4 ((.pointer x7) :: us 1 ((.int .i64 i9) :: (.string want10) :: (.int .i64 k11) :: us 107 []))))
def hoardlaw6_IndexTexts_j7 (jn : Jn) (Q : Value → WP) (m6 : Nat) (keys1 : Sl) (vals2 : Sl) (x7 : Option Addr) (i9 : Int) : WP := jn 28 (fun ρ => codeI Try.prog hoardlaw6_IndexTexts_kp jn (cAt [true, true, true, true, false, true, false, false, true] (bodyOf Try.f4)) (lopK Try.prog hoardlaw6_IndexTexts_kp jn (cAt [true, true, true, true, false, true, false, false] (bodyOf Try.f4)) (blkX 2 (seqK Try.prog hoardlaw6_IndexTexts_kp jn (cAt [true, true, true, true, true] (bodyOf Try.f4)) (retK Try.prog Try.f4 Q) noX (retK Try.prog Try.f4 Q)) noX) (retK Try.prog Try.f4 Q) m6) (blkX 2 (seqK Try.prog hoardlaw6_IndexTexts_kp jn (cAt [true, true, true, true, true] (bodyOf Try.f4)) (retK Try.prog Try.f4 Q) noX (retK Try.prog Try.f4 Q)) noX) (retK Try.prog Try.f4 Q) ρ) (us 1 ((.slice keys1.a keys1.n keys1.c) :: (.slice vals2.a vals2.n vals2.c) :: us 4 ((.pointer x7) :: us 1 ((.int .i64 i9) :: us 109 []))))
def hoardlaw6_IndexTexts_j12 (jn : Jn) (Q : Value → WP)   : WP := jn 46 (fun ρ => codeI Try.prog hoardlaw6_IndexTexts_kp jn (cAt [true, true, true, true, true] (bodyOf Try.f4)) (retK Try.prog Try.f4 Q) noX (retK Try.prog Try.f4 Q) ρ) (us 119 [])
def hoardlaw6_IndexTexts_l6 (jn : Jn) (Q : Value → WP)  (m6 : Nat) (keys1 : Sl) (vals2 : Sl) (x7 : Option Addr) (i9 : Int) : WP := lop Try.prog hoardlaw6_IndexTexts_kp jn (cAt [true, true, true, true, false, true, false, false] (bodyOf Try.f4)) (blkX 2 (seqK Try.prog hoardlaw6_IndexTexts_kp jn (cAt [true, true, true, true, true] (bodyOf Try.f4)) (retK Try.prog Try.f4 Q) noX (retK Try.prog Try.f4 Q)) noX) (retK Try.prog Try.f4 Q) m6 (us 1 ((.slice keys1.a keys1.n keys1.c) :: (.slice vals2.a vals2.n vals2.c) :: us 4 ((.pointer x7) :: us 1 ((.int .i64 i9) :: us 109 []))))
def hoardlaw6_IndexTexts_j5 (jn : Jn) (Q : Value → WP)  (keys1 : Sl) (vals2 : Sl) (x7 : Option Addr) : WP := jn 22 (fun ρ => codeI Try.prog hoardlaw6_IndexTexts_kp jn (cAt [true, true, true, true] (bodyOf Try.f4)) (retK Try.prog Try.f4 Q) noX (retK Try.prog Try.f4 Q) ρ) (us 1 ((.slice keys1.a keys1.n keys1.c) :: (.slice vals2.a vals2.n vals2.c) :: us 4 ((.pointer x7) :: us 111 [])))
def hoardlaw6_IndexTexts_l2 (jn : Jn) (Q : Value → WP)  (m2 : Nat) (keys1 : Sl) (vals2 : Sl) (x7 : Option Addr) (i8 : Int) : WP := lop Try.prog hoardlaw6_IndexTexts_kp jn (cAt [true, true, true, false, true, false, false] (bodyOf Try.f4)) (blkX 0 (seqK Try.prog hoardlaw6_IndexTexts_kp jn (cAt [true, true, true, true] (bodyOf Try.f4)) (retK Try.prog Try.f4 Q) noX (retK Try.prog Try.f4 Q)) noX) (retK Try.prog Try.f4 Q) m2 (us 1 ((.slice keys1.a keys1.n keys1.c) :: (.slice vals2.a vals2.n vals2.c) :: us 4 ((.pointer x7) :: (.int .i64 i8) :: us 110 [])))
def hoardlaw6_IndexTexts_j1 (jn : Jn) (Q : Value → WP)  (seed0 : Int) (keys1 : Sl) (vals2 : Sl) : WP := jn 8 (fun ρ => codeI Try.prog hoardlaw6_IndexTexts_kp jn (cAt [true, true] (bodyOf Try.f4)) (retK Try.prog Try.f4 Q) noX (retK Try.prog Try.f4 Q) ρ) ((.int .u64 seed0) :: (.slice keys1.a keys1.n keys1.c) :: (.slice vals2.a vals2.n vals2.c) :: us 116 [])
def hoardlaw6_IndexTexts (seed0 : Int) (keys1 : Sl) (vals2 : Sl) (Q : Value → WP) : WP := funJ idJ Try.prog hoardlaw6_IndexTexts_kp Try.f4 [.int .u64 seed0, .slice keys1.a keys1.n keys1.c, .slice vals2.a vals2.n vals2.c] Q
theorem hoardlaw6_IndexTexts_j4_raw (jn : Jn) (Q : Value → WP) (m2 : Nat) (keys1 : Sl) (vals2 : Sl) (x7 : Option Addr) (i8 : Int) : codeI Try.prog hoardlaw6_IndexTexts_kp jn (cAt [true, true, true, false, true, false, false, true, false, false, true] (bodyOf Try.f4)) (seqK Try.prog hoardlaw6_IndexTexts_kp jn (cAt [true, true, true, false, true, false, false, true, true] (bodyOf Try.f4)) (lopK Try.prog hoardlaw6_IndexTexts_kp jn (cAt [true, true, true, false, true, false, false] (bodyOf Try.f4)) (blkX 0 (seqK Try.prog hoardlaw6_IndexTexts_kp jn (cAt [true, true, true, true] (bodyOf Try.f4)) (retK Try.prog Try.f4 Q) noX (retK Try.prog Try.f4 Q)) noX) (retK Try.prog Try.f4 Q) m2) (blkX 0 (seqK Try.prog hoardlaw6_IndexTexts_kp jn (cAt [true, true, true, true] (bodyOf Try.f4)) (retK Try.prog Try.f4 Q) noX (retK Try.prog Try.f4 Q)) noX) (retK Try.prog Try.f4 Q)) (blkX 1 (seqK Try.prog hoardlaw6_IndexTexts_kp jn (cAt [true, true, true, false, true, false, false, true, true] (bodyOf Try.f4)) (lopK Try.prog hoardlaw6_IndexTexts_kp jn (cAt [true, true, true, false, true, false, false] (bodyOf Try.f4)) (blkX 0 (seqK Try.prog hoardlaw6_IndexTexts_kp jn (cAt [true, true, true, true] (bodyOf Try.f4)) (retK Try.prog Try.f4 Q) noX (retK Try.prog Try.f4 Q)) noX) (retK Try.prog Try.f4 Q) m2) (blkX 0 (seqK Try.prog hoardlaw6_IndexTexts_kp jn (cAt [true, true, true, true] (bodyOf Try.f4)) (retK Try.prog Try.f4 Q) noX (retK Try.prog Try.f4 Q)) noX) (retK Try.prog Try.f4 Q)) (blkX 0 (seqK Try.prog hoardlaw6_IndexTexts_kp jn (cAt [true, true, true, true] (bodyOf Try.f4)) (retK Try.prog Try.f4 Q) noX (retK Try.prog Try.f4 Q)) noX)) (retK Try.prog Try.f4 Q) (us 1 ((.slice keys1.a keys1.n keys1.c) :: (.slice vals2.a vals2.n vals2.c) :: us 4 ((.pointer x7) :: (.int .i64 i8) :: us 110 []))) = (
  drawW fun S =>
  idx keys1.a keys1.n i8 fun b_8 o_9 =>
  ldS S .str b_8 (o_9 + (i8).toNat * 1) fun (x_10 : ByteArray) =>
  idx vals2.a vals2.n i8 fun b_11 o_12 =>
  ld .str b_11 (o_12 + (i8).toNat * 1) fun (x_13 : ByteArray) =>
  keepS true S <|
  call1 .bool Try.prog id_index_Index_string_Put [.pointer x7, .string x_10, .string x_13] fun (x_14 : Bool) =>
  hoardlaw6_IndexTexts_l2 jn Q  m2 keys1 vals2 x7 (IntKind.wrap .i64 (i8 + (1 : Int)))) := by kernel_rfl
theorem hoardlaw6_IndexTexts_j4_def (Q : Value → WP) (m2 : Nat) (keys1 : Sl) (vals2 : Sl) (x7 : Option Addr) (i8 : Int) : hoardlaw6_IndexTexts_j4 idJ Q m2 keys1 vals2 x7 i8 = codeI Try.prog hoardlaw6_IndexTexts_kp idJ (cAt [true, true, true, false, true, false, false, true, false, false, true] (bodyOf Try.f4)) (seqK Try.prog hoardlaw6_IndexTexts_kp idJ (cAt [true, true, true, false, true, false, false, true, true] (bodyOf Try.f4)) (lopK Try.prog hoardlaw6_IndexTexts_kp idJ (cAt [true, true, true, false, true, false, false] (bodyOf Try.f4)) (blkX 0 (seqK Try.prog hoardlaw6_IndexTexts_kp idJ (cAt [true, true, true, true] (bodyOf Try.f4)) (retK Try.prog Try.f4 Q) noX (retK Try.prog Try.f4 Q)) noX) (retK Try.prog Try.f4 Q) m2) (blkX 0 (seqK Try.prog hoardlaw6_IndexTexts_kp idJ (cAt [true, true, true, true] (bodyOf Try.f4)) (retK Try.prog Try.f4 Q) noX (retK Try.prog Try.f4 Q)) noX) (retK Try.prog Try.f4 Q)) (blkX 1 (seqK Try.prog hoardlaw6_IndexTexts_kp idJ (cAt [true, true, true, false, true, false, false, true, true] (bodyOf Try.f4)) (lopK Try.prog hoardlaw6_IndexTexts_kp idJ (cAt [true, true, true, false, true, false, false] (bodyOf Try.f4)) (blkX 0 (seqK Try.prog hoardlaw6_IndexTexts_kp idJ (cAt [true, true, true, true] (bodyOf Try.f4)) (retK Try.prog Try.f4 Q) noX (retK Try.prog Try.f4 Q)) noX) (retK Try.prog Try.f4 Q) m2) (blkX 0 (seqK Try.prog hoardlaw6_IndexTexts_kp idJ (cAt [true, true, true, true] (bodyOf Try.f4)) (retK Try.prog Try.f4 Q) noX (retK Try.prog Try.f4 Q)) noX) (retK Try.prog Try.f4 Q)) (blkX 0 (seqK Try.prog hoardlaw6_IndexTexts_kp idJ (cAt [true, true, true, true] (bodyOf Try.f4)) (retK Try.prog Try.f4 Q) noX (retK Try.prog Try.f4 Q)) noX)) (retK Try.prog Try.f4 Q) (us 1 ((.slice keys1.a keys1.n keys1.c) :: (.slice vals2.a vals2.n vals2.c) :: us 4 ((.pointer x7) :: (.int .i64 i8) :: us 110 []))) := by kernel_rfl
theorem hoardlaw6_IndexTexts_j3_raw (jn : Jn) (Q : Value → WP) (m2 : Nat) (keys1 : Sl) (vals2 : Sl) (x7 : Option Addr) (i8 : Int) : codeI Try.prog hoardlaw6_IndexTexts_kp jn (cAt [true, true, true, false, true, false, false, true] (bodyOf Try.f4)) (lopK Try.prog hoardlaw6_IndexTexts_kp jn (cAt [true, true, true, false, true, false, false] (bodyOf Try.f4)) (blkX 0 (seqK Try.prog hoardlaw6_IndexTexts_kp jn (cAt [true, true, true, true] (bodyOf Try.f4)) (retK Try.prog Try.f4 Q) noX (retK Try.prog Try.f4 Q)) noX) (retK Try.prog Try.f4 Q) m2) (blkX 0 (seqK Try.prog hoardlaw6_IndexTexts_kp jn (cAt [true, true, true, true] (bodyOf Try.f4)) (retK Try.prog Try.f4 Q) noX (retK Try.prog Try.f4 Q)) noX) (retK Try.prog Try.f4 Q) (us 1 ((.slice keys1.a keys1.n keys1.c) :: (.slice vals2.a vals2.n vals2.c) :: us 4 ((.pointer x7) :: (.int .i64 i8) :: us 110 []))) = (
  idx keys1.a keys1.n i8 fun b_2 o_3 =>
  ld .str b_2 (o_3 + (i8).toNat * 1) fun (x_4 : ByteArray) =>
  ite2 (decide ((x_4.size : Int) > (60 : Int))) (
  Q (.bool true)) (
  idx vals2.a vals2.n i8 fun b_5 o_6 =>
  ld .str b_5 (o_6 + (i8).toNat * 1) fun (x_7 : ByteArray) =>
  ite2 (decide ((x_7.size : Int) > (60 : Int))) (
  Q (.bool true)) (
  hoardlaw6_IndexTexts_j4 jn Q m2 keys1 vals2 x7 i8))) := by kernel_rfl
theorem hoardlaw6_IndexTexts_j3_def (Q : Value → WP) (m2 : Nat) (keys1 : Sl) (vals2 : Sl) (x7 : Option Addr) (i8 : Int) : hoardlaw6_IndexTexts_j3 idJ Q m2 keys1 vals2 x7 i8 = codeI Try.prog hoardlaw6_IndexTexts_kp idJ (cAt [true, true, true, false, true, false, false, true] (bodyOf Try.f4)) (lopK Try.prog hoardlaw6_IndexTexts_kp idJ (cAt [true, true, true, false, true, false, false] (bodyOf Try.f4)) (blkX 0 (seqK Try.prog hoardlaw6_IndexTexts_kp idJ (cAt [true, true, true, true] (bodyOf Try.f4)) (retK Try.prog Try.f4 Q) noX (retK Try.prog Try.f4 Q)) noX) (retK Try.prog Try.f4 Q) m2) (blkX 0 (seqK Try.prog hoardlaw6_IndexTexts_kp idJ (cAt [true, true, true, true] (bodyOf Try.f4)) (retK Try.prog Try.f4 Q) noX (retK Try.prog Try.f4 Q)) noX) (retK Try.prog Try.f4 Q) (us 1 ((.slice keys1.a keys1.n keys1.c) :: (.slice vals2.a vals2.n vals2.c) :: us 4 ((.pointer x7) :: (.int .i64 i8) :: us 110 []))) := by kernel_rfl
theorem hoardlaw6_IndexTexts_j9_raw (jn : Jn) (Q : Value → WP) (m6 : Nat) (m8 : Nat) (keys1 : Sl) (vals2 : Sl) (x7 : Option Addr) (i9 : Int) (want10 : ByteArray) (k11 : Int) : codeI Try.prog hoardlaw6_IndexTexts_kp jn (cAt [true, true, true, true, false, true, false, false, true, false, false, true, false, true, false, false, true] (bodyOf Try.f4)) (lopK Try.prog hoardlaw6_IndexTexts_kp jn (cAt [true, true, true, true, false, true, false, false, true, false, false, true, false, true, false, false] (bodyOf Try.f4)) (blkX 4 (seqK Try.prog hoardlaw6_IndexTexts_kp jn (cAt [true, true, true, true, false, true, false, false, true, false, false, true, true] (bodyOf Try.f4)) (seqK Try.prog hoardlaw6_IndexTexts_kp jn (cAt [true, true, true, true, false, true, false, false, true, true] (bodyOf Try.f4)) (lopK Try.prog hoardlaw6_IndexTexts_kp jn (cAt [true, true, true, true, false, true, false, false] (bodyOf Try.f4)) (blkX 2 (seqK Try.prog hoardlaw6_IndexTexts_kp jn (cAt [true, true, true, true, true] (bodyOf Try.f4)) (retK Try.prog Try.f4 Q) noX (retK Try.prog Try.f4 Q)) noX) (retK Try.prog Try.f4 Q) m6) (blkX 2 (seqK Try.prog hoardlaw6_IndexTexts_kp jn (cAt [true, true, true, true, true] (bodyOf Try.f4)) (retK Try.prog Try.f4 Q) noX (retK Try.prog Try.f4 Q)) noX) (retK Try.prog Try.f4 Q)) (blkX 3 (seqK Try.prog hoardlaw6_IndexTexts_kp jn (cAt [true, true, true, true, false, true, false, false, true, true] (bodyOf Try.f4)) (lopK Try.prog hoardlaw6_IndexTexts_kp jn (cAt [true, true, true, true, false, true, false, false] (bodyOf Try.f4)) (blkX 2 (seqK Try.prog hoardlaw6_IndexTexts_kp jn (cAt [true, true, true, true, true] (bodyOf Try.f4)) (retK Try.prog Try.f4 Q) noX (retK Try.prog Try.f4 Q)) noX) (retK Try.prog Try.f4 Q) m6) (blkX 2 (seqK Try.prog hoardlaw6_IndexTexts_kp jn (cAt [true, true, true, true, true] (bodyOf Try.f4)) (retK Try.prog Try.f4 Q) noX (retK Try.prog Try.f4 Q)) noX) (retK Try.prog Try.f4 Q)) (blkX 2 (seqK Try.prog hoardlaw6_IndexTexts_kp jn (cAt [true, true, true, true, true] (bodyOf Try.f4)) (retK Try.prog Try.f4 Q) noX (retK Try.prog Try.f4 Q)) noX)) (retK Try.prog Try.f4 Q)) (blkX 3 (seqK Try.prog hoardlaw6_IndexTexts_kp jn (cAt [true, true, true, true, false, true, false, false, true, true] (bodyOf Try.f4)) (lopK Try.prog hoardlaw6_IndexTexts_kp jn (cAt [true, true, true, true, false, true, false, false] (bodyOf Try.f4)) (blkX 2 (seqK Try.prog hoardlaw6_IndexTexts_kp jn (cAt [true, true, true, true, true] (bodyOf Try.f4)) (retK Try.prog Try.f4 Q) noX (retK Try.prog Try.f4 Q)) noX) (retK Try.prog Try.f4 Q) m6) (blkX 2 (seqK Try.prog hoardlaw6_IndexTexts_kp jn (cAt [true, true, true, true, true] (bodyOf Try.f4)) (retK Try.prog Try.f4 Q) noX (retK Try.prog Try.f4 Q)) noX) (retK Try.prog Try.f4 Q)) (blkX 2 (seqK Try.prog hoardlaw6_IndexTexts_kp jn (cAt [true, true, true, true, true] (bodyOf Try.f4)) (retK Try.prog Try.f4 Q) noX (retK Try.prog Try.f4 Q)) noX))) (retK Try.prog Try.f4 Q) m8) (blkX 4 (seqK Try.prog hoardlaw6_IndexTexts_kp jn (cAt [true, true, true, true, false, true, false, false, true, false, false, true, true] (bodyOf Try.f4)) (seqK Try.prog hoardlaw6_IndexTexts_kp jn (cAt [true, true, true, true, false, true, false, false, true, true] (bodyOf Try.f4)) (lopK Try.prog hoardlaw6_IndexTexts_kp jn (cAt [true, true, true, true, false, true, false, false] (bodyOf Try.f4)) (blkX 2 (seqK Try.prog hoardlaw6_IndexTexts_kp jn (cAt [true, true, true, true, true] (bodyOf Try.f4)) (retK Try.prog Try.f4 Q) noX (retK Try.prog Try.f4 Q)) noX) (retK Try.prog Try.f4 Q) m6) (blkX 2 (seqK Try.prog hoardlaw6_IndexTexts_kp jn (cAt [true, true, true, true, true] (bodyOf Try.f4)) (retK Try.prog Try.f4 Q) noX (retK Try.prog Try.f4 Q)) noX) (retK Try.prog Try.f4 Q)) (blkX 3 (seqK Try.prog hoardlaw6_IndexTexts_kp jn (cAt [true, true, true, true, false, true, false, false, true, true] (bodyOf Try.f4)) (lopK Try.prog hoardlaw6_IndexTexts_kp jn (cAt [true, true, true, true, false, true, false, false] (bodyOf Try.f4)) (blkX 2 (seqK Try.prog hoardlaw6_IndexTexts_kp jn (cAt [true, true, true, true, true] (bodyOf Try.f4)) (retK Try.prog Try.f4 Q) noX (retK Try.prog Try.f4 Q)) noX) (retK Try.prog Try.f4 Q) m6) (blkX 2 (seqK Try.prog hoardlaw6_IndexTexts_kp jn (cAt [true, true, true, true, true] (bodyOf Try.f4)) (retK Try.prog Try.f4 Q) noX (retK Try.prog Try.f4 Q)) noX) (retK Try.prog Try.f4 Q)) (blkX 2 (seqK Try.prog hoardlaw6_IndexTexts_kp jn (cAt [true, true, true, true, true] (bodyOf Try.f4)) (retK Try.prog Try.f4 Q) noX (retK Try.prog Try.f4 Q)) noX)) (retK Try.prog Try.f4 Q)) (blkX 3 (seqK Try.prog hoardlaw6_IndexTexts_kp jn (cAt [true, true, true, true, false, true, false, false, true, true] (bodyOf Try.f4)) (lopK Try.prog hoardlaw6_IndexTexts_kp jn (cAt [true, true, true, true, false, true, false, false] (bodyOf Try.f4)) (blkX 2 (seqK Try.prog hoardlaw6_IndexTexts_kp jn (cAt [true, true, true, true, true] (bodyOf Try.f4)) (retK Try.prog Try.f4 Q) noX (retK Try.prog Try.f4 Q)) noX) (retK Try.prog Try.f4 Q) m6) (blkX 2 (seqK Try.prog hoardlaw6_IndexTexts_kp jn (cAt [true, true, true, true, true] (bodyOf Try.f4)) (retK Try.prog Try.f4 Q) noX (retK Try.prog Try.f4 Q)) noX) (retK Try.prog Try.f4 Q)) (blkX 2 (seqK Try.prog hoardlaw6_IndexTexts_kp jn (cAt [true, true, true, true, true] (bodyOf Try.f4)) (retK Try.prog Try.f4 Q) noX (retK Try.prog Try.f4 Q)) noX))) (retK Try.prog Try.f4 Q) (us 1 ((.slice keys1.a keys1.n keys1.c) :: (.slice vals2.a vals2.n vals2.c) :: us 4 ((.pointer x7) :: us 1 ((.int .i64 i9) :: (.string want10) :: (.int .i64 k11) :: us 107 [])))) = (
  drawW fun S =>
  idx keys1.a keys1.n k11 fun b_18 o_19 =>
  ldS S .str b_18 (o_19 + (k11).toNat * 1) fun (x_20 : ByteArray) =>
  idx keys1.a keys1.n i9 fun b_21 o_22 =>
  ld .str b_21 (o_22 + (i9).toNat * 1) fun (x_23 : ByteArray) =>
  keepS true S <|
  ite2 (sEq x_20 x_23) (
  idx vals2.a vals2.n k11 fun b_24 o_25 =>
  ld .str b_24 (o_25 + (k11).toNat * 1) fun (x_26 : ByteArray) =>
  hoardlaw6_IndexTexts_l8 jn Q m6 m8 keys1 vals2 x7 i9 x_26 (IntKind.wrap .i64 (k11 + (1 : Int)))) (
  hoardlaw6_IndexTexts_l8 jn Q m6 m8 keys1 vals2 x7 i9 want10 (IntKind.wrap .i64 (k11 + (1 : Int))))) := by kernel_rfl
theorem hoardlaw6_IndexTexts_j9_def (Q : Value → WP) (m6 : Nat) (m8 : Nat) (keys1 : Sl) (vals2 : Sl) (x7 : Option Addr) (i9 : Int) (want10 : ByteArray) (k11 : Int) : hoardlaw6_IndexTexts_j9 idJ Q m6 m8 keys1 vals2 x7 i9 want10 k11 = codeI Try.prog hoardlaw6_IndexTexts_kp idJ (cAt [true, true, true, true, false, true, false, false, true, false, false, true, false, true, false, false, true] (bodyOf Try.f4)) (lopK Try.prog hoardlaw6_IndexTexts_kp idJ (cAt [true, true, true, true, false, true, false, false, true, false, false, true, false, true, false, false] (bodyOf Try.f4)) (blkX 4 (seqK Try.prog hoardlaw6_IndexTexts_kp idJ (cAt [true, true, true, true, false, true, false, false, true, false, false, true, true] (bodyOf Try.f4)) (seqK Try.prog hoardlaw6_IndexTexts_kp idJ (cAt [true, true, true, true, false, true, false, false, true, true] (bodyOf Try.f4)) (lopK Try.prog hoardlaw6_IndexTexts_kp idJ (cAt [true, true, true, true, false, true, false, false] (bodyOf Try.f4)) (blkX 2 (seqK Try.prog hoardlaw6_IndexTexts_kp idJ (cAt [true, true, true, true, true] (bodyOf Try.f4)) (retK Try.prog Try.f4 Q) noX (retK Try.prog Try.f4 Q)) noX) (retK Try.prog Try.f4 Q) m6) (blkX 2 (seqK Try.prog hoardlaw6_IndexTexts_kp idJ (cAt [true, true, true, true, true] (bodyOf Try.f4)) (retK Try.prog Try.f4 Q) noX (retK Try.prog Try.f4 Q)) noX) (retK Try.prog Try.f4 Q)) (blkX 3 (seqK Try.prog hoardlaw6_IndexTexts_kp idJ (cAt [true, true, true, true, false, true, false, false, true, true] (bodyOf Try.f4)) (lopK Try.prog hoardlaw6_IndexTexts_kp idJ (cAt [true, true, true, true, false, true, false, false] (bodyOf Try.f4)) (blkX 2 (seqK Try.prog hoardlaw6_IndexTexts_kp idJ (cAt [true, true, true, true, true] (bodyOf Try.f4)) (retK Try.prog Try.f4 Q) noX (retK Try.prog Try.f4 Q)) noX) (retK Try.prog Try.f4 Q) m6) (blkX 2 (seqK Try.prog hoardlaw6_IndexTexts_kp idJ (cAt [true, true, true, true, true] (bodyOf Try.f4)) (retK Try.prog Try.f4 Q) noX (retK Try.prog Try.f4 Q)) noX) (retK Try.prog Try.f4 Q)) (blkX 2 (seqK Try.prog hoardlaw6_IndexTexts_kp idJ (cAt [true, true, true, true, true] (bodyOf Try.f4)) (retK Try.prog Try.f4 Q) noX (retK Try.prog Try.f4 Q)) noX)) (retK Try.prog Try.f4 Q)) (blkX 3 (seqK Try.prog hoardlaw6_IndexTexts_kp idJ (cAt [true, true, true, true, false, true, false, false, true, true] (bodyOf Try.f4)) (lopK Try.prog hoardlaw6_IndexTexts_kp idJ (cAt [true, true, true, true, false, true, false, false] (bodyOf Try.f4)) (blkX 2 (seqK Try.prog hoardlaw6_IndexTexts_kp idJ (cAt [true, true, true, true, true] (bodyOf Try.f4)) (retK Try.prog Try.f4 Q) noX (retK Try.prog Try.f4 Q)) noX) (retK Try.prog Try.f4 Q) m6) (blkX 2 (seqK Try.prog hoardlaw6_IndexTexts_kp idJ (cAt [true, true, true, true, true] (bodyOf Try.f4)) (retK Try.prog Try.f4 Q) noX (retK Try.prog Try.f4 Q)) noX) (retK Try.prog Try.f4 Q)) (blkX 2 (seqK Try.prog hoardlaw6_IndexTexts_kp idJ (cAt [true, true, true, true, true] (bodyOf Try.f4)) (retK Try.prog Try.f4 Q) noX (retK Try.prog Try.f4 Q)) noX))) (retK Try.prog Try.f4 Q) m8) (blkX 4 (seqK Try.prog hoardlaw6_IndexTexts_kp idJ (cAt [true, true, true, true, false, true, false, false, true, false, false, true, true] (bodyOf Try.f4)) (seqK Try.prog hoardlaw6_IndexTexts_kp idJ (cAt [true, true, true, true, false, true, false, false, true, true] (bodyOf Try.f4)) (lopK Try.prog hoardlaw6_IndexTexts_kp idJ (cAt [true, true, true, true, false, true, false, false] (bodyOf Try.f4)) (blkX 2 (seqK Try.prog hoardlaw6_IndexTexts_kp idJ (cAt [true, true, true, true, true] (bodyOf Try.f4)) (retK Try.prog Try.f4 Q) noX (retK Try.prog Try.f4 Q)) noX) (retK Try.prog Try.f4 Q) m6) (blkX 2 (seqK Try.prog hoardlaw6_IndexTexts_kp idJ (cAt [true, true, true, true, true] (bodyOf Try.f4)) (retK Try.prog Try.f4 Q) noX (retK Try.prog Try.f4 Q)) noX) (retK Try.prog Try.f4 Q)) (blkX 3 (seqK Try.prog hoardlaw6_IndexTexts_kp idJ (cAt [true, true, true, true, false, true, false, false, true, true] (bodyOf Try.f4)) (lopK Try.prog hoardlaw6_IndexTexts_kp idJ (cAt [true, true, true, true, false, true, false, false] (bodyOf Try.f4)) (blkX 2 (seqK Try.prog hoardlaw6_IndexTexts_kp idJ (cAt [true, true, true, true, true] (bodyOf Try.f4)) (retK Try.prog Try.f4 Q) noX (retK Try.prog Try.f4 Q)) noX) (retK Try.prog Try.f4 Q) m6) (blkX 2 (seqK Try.prog hoardlaw6_IndexTexts_kp idJ (cAt [true, true, true, true, true] (bodyOf Try.f4)) (retK Try.prog Try.f4 Q) noX (retK Try.prog Try.f4 Q)) noX) (retK Try.prog Try.f4 Q)) (blkX 2 (seqK Try.prog hoardlaw6_IndexTexts_kp idJ (cAt [true, true, true, true, true] (bodyOf Try.f4)) (retK Try.prog Try.f4 Q) noX (retK Try.prog Try.f4 Q)) noX)) (retK Try.prog Try.f4 Q)) (blkX 3 (seqK Try.prog hoardlaw6_IndexTexts_kp idJ (cAt [true, true, true, true, false, true, false, false, true, true] (bodyOf Try.f4)) (lopK Try.prog hoardlaw6_IndexTexts_kp idJ (cAt [true, true, true, true, false, true, false, false] (bodyOf Try.f4)) (blkX 2 (seqK Try.prog hoardlaw6_IndexTexts_kp idJ (cAt [true, true, true, true, true] (bodyOf Try.f4)) (retK Try.prog Try.f4 Q) noX (retK Try.prog Try.f4 Q)) noX) (retK Try.prog Try.f4 Q) m6) (blkX 2 (seqK Try.prog hoardlaw6_IndexTexts_kp idJ (cAt [true, true, true, true, true] (bodyOf Try.f4)) (retK Try.prog Try.f4 Q) noX (retK Try.prog Try.f4 Q)) noX) (retK Try.prog Try.f4 Q)) (blkX 2 (seqK Try.prog hoardlaw6_IndexTexts_kp idJ (cAt [true, true, true, true, true] (bodyOf Try.f4)) (retK Try.prog Try.f4 Q) noX (retK Try.prog Try.f4 Q)) noX))) (retK Try.prog Try.f4 Q) (us 1 ((.slice keys1.a keys1.n keys1.c) :: (.slice vals2.a vals2.n vals2.c) :: us 4 ((.pointer x7) :: us 1 ((.int .i64 i9) :: (.string want10) :: (.int .i64 k11) :: us 107 [])))) := by kernel_rfl
theorem hoardlaw6_IndexTexts_j11_raw (jn : Jn) (Q : Value → WP) (m6 : Nat) (keys1 : Sl) (vals2 : Sl) (x7 : Option Addr) (i9 : Int) : codeI Try.prog hoardlaw6_IndexTexts_kp jn (cAt [true, true, true, true, false, true, false, false, true, true] (bodyOf Try.f4)) (lopK Try.prog hoardlaw6_IndexTexts_kp jn (cAt [true, true, true, true, false, true, false, false] (bodyOf Try.f4)) (blkX 2 (seqK Try.prog hoardlaw6_IndexTexts_kp jn (cAt [true, true, true, true, true] (bodyOf Try.f4)) (retK Try.prog Try.f4 Q) noX (retK Try.prog Try.f4 Q)) noX) (retK Try.prog Try.f4 Q) m6) (blkX 2 (seqK Try.prog hoardlaw6_IndexTexts_kp jn (cAt [true, true, true, true, true] (bodyOf Try.f4)) (retK Try.prog Try.f4 Q) noX (retK Try.prog Try.f4 Q)) noX) (retK Try.prog Try.f4 Q) (us 1 ((.slice keys1.a keys1.n keys1.c) :: (.slice vals2.a vals2.n vals2.c) :: us 4 ((.pointer x7) :: us 1 ((.int .i64 i9) :: us 109 [])))) = (
  hoardlaw6_IndexTexts_l6 jn Q  m6 keys1 vals2 x7 (IntKind.wrap .i64 (i9 + (1 : Int)))) := by kernel_rfl
theorem hoardlaw6_IndexTexts_j11_def (Q : Value → WP) (m6 : Nat) (keys1 : Sl) (vals2 : Sl) (x7 : Option Addr) (i9 : Int) : hoardlaw6_IndexTexts_j11 idJ Q m6 keys1 vals2 x7 i9 = codeI Try.prog hoardlaw6_IndexTexts_kp idJ (cAt [true, true, true, true, false, true, false, false, true, true] (bodyOf Try.f4)) (lopK Try.prog hoardlaw6_IndexTexts_kp idJ (cAt [true, true, true, true, false, true, false, false] (bodyOf Try.f4)) (blkX 2 (seqK Try.prog hoardlaw6_IndexTexts_kp idJ (cAt [true, true, true, true, true] (bodyOf Try.f4)) (retK Try.prog Try.f4 Q) noX (retK Try.prog Try.f4 Q)) noX) (retK Try.prog Try.f4 Q) m6) (blkX 2 (seqK Try.prog hoardlaw6_IndexTexts_kp idJ (cAt [true, true, true, true, true] (bodyOf Try.f4)) (retK Try.prog Try.f4 Q) noX (retK Try.prog Try.f4 Q)) noX) (retK Try.prog Try.f4 Q) (us 1 ((.slice keys1.a keys1.n keys1.c) :: (.slice vals2.a vals2.n vals2.c) :: us 4 ((.pointer x7) :: us 1 ((.int .i64 i9) :: us 109 [])))) := by kernel_rfl
theorem hoardlaw6_IndexTexts_j10_raw (jn : Jn) (Q : Value → WP) (m6 : Nat) (keys1 : Sl) (vals2 : Sl) (x7 : Option Addr) (i9 : Int) (want10 : ByteArray) : codeI Try.prog hoardlaw6_IndexTexts_kp jn (cAt [true, true, true, true, false, true, false, false, true, false, false, true, true] (bodyOf Try.f4)) (seqK Try.prog hoardlaw6_IndexTexts_kp jn (cAt [true, true, true, true, false, true, false, false, true, true] (bodyOf Try.f4)) (lopK Try.prog hoardlaw6_IndexTexts_kp jn (cAt [true, true, true, true, false, true, false, false] (bodyOf Try.f4)) (blkX 2 (seqK Try.prog hoardlaw6_IndexTexts_kp jn (cAt [true, true, true, true, true] (bodyOf Try.f4)) (retK Try.prog Try.f4 Q) noX (retK Try.prog Try.f4 Q)) noX) (retK Try.prog Try.f4 Q) m6) (blkX 2 (seqK Try.prog hoardlaw6_IndexTexts_kp jn (cAt [true, true, true, true, true] (bodyOf Try.f4)) (retK Try.prog Try.f4 Q) noX (retK Try.prog Try.f4 Q)) noX) (retK Try.prog Try.f4 Q)) (blkX 3 (seqK Try.prog hoardlaw6_IndexTexts_kp jn (cAt [true, true, true, true, false, true, false, false, true, true] (bodyOf Try.f4)) (lopK Try.prog hoardlaw6_IndexTexts_kp jn (cAt [true, true, true, true, false, true, false, false] (bodyOf Try.f4)) (blkX 2 (seqK Try.prog hoardlaw6_IndexTexts_kp jn (cAt [true, true, true, true, true] (bodyOf Try.f4)) (retK Try.prog Try.f4 Q) noX (retK Try.prog Try.f4 Q)) noX) (retK Try.prog Try.f4 Q) m6) (blkX 2 (seqK Try.prog hoardlaw6_IndexTexts_kp jn (cAt [true, true, true, true, true] (bodyOf Try.f4)) (retK Try.prog Try.f4 Q) noX (retK Try.prog Try.f4 Q)) noX) (retK Try.prog Try.f4 Q)) (blkX 2 (seqK Try.prog hoardlaw6_IndexTexts_kp jn (cAt [true, true, true, true, true] (bodyOf Try.f4)) (retK Try.prog Try.f4 Q) noX (retK Try.prog Try.f4 Q)) noX)) (retK Try.prog Try.f4 Q) (us 1 ((.slice keys1.a keys1.n keys1.c) :: (.slice vals2.a vals2.n vals2.c) :: us 4 ((.pointer x7) :: us 1 ((.int .i64 i9) :: (.string want10) :: us 108 [])))) = (
  idx keys1.a keys1.n i9 fun b_27 o_28 =>
  ld .str b_27 (o_28 + (i9).toNat * 1) fun (x_29 : ByteArray) =>
  call2 .str .bool Try.prog id_index_Index_string_Get [.pointer x7, .string x_29] fun (x_30 : ByteArray) (x_31 : Bool) =>
  ite2 (!x_31) (
  Q (.bool false)) (
  ite2 (!sEq x_30 want10) (
  Q (.bool false)) (
  hoardlaw6_IndexTexts_j11 jn Q m6 keys1 vals2 x7 i9))) := by kernel_rfl
theorem hoardlaw6_IndexTexts_j10_def (Q : Value → WP) (m6 : Nat) (keys1 : Sl) (vals2 : Sl) (x7 : Option Addr) (i9 : Int) (want10 : ByteArray) : hoardlaw6_IndexTexts_j10 idJ Q m6 keys1 vals2 x7 i9 want10 = codeI Try.prog hoardlaw6_IndexTexts_kp idJ (cAt [true, true, true, true, false, true, false, false, true, false, false, true, true] (bodyOf Try.f4)) (seqK Try.prog hoardlaw6_IndexTexts_kp idJ (cAt [true, true, true, true, false, true, false, false, true, true] (bodyOf Try.f4)) (lopK Try.prog hoardlaw6_IndexTexts_kp idJ (cAt [true, true, true, true, false, true, false, false] (bodyOf Try.f4)) (blkX 2 (seqK Try.prog hoardlaw6_IndexTexts_kp idJ (cAt [true, true, true, true, true] (bodyOf Try.f4)) (retK Try.prog Try.f4 Q) noX (retK Try.prog Try.f4 Q)) noX) (retK Try.prog Try.f4 Q) m6) (blkX 2 (seqK Try.prog hoardlaw6_IndexTexts_kp idJ (cAt [true, true, true, true, true] (bodyOf Try.f4)) (retK Try.prog Try.f4 Q) noX (retK Try.prog Try.f4 Q)) noX) (retK Try.prog Try.f4 Q)) (blkX 3 (seqK Try.prog hoardlaw6_IndexTexts_kp idJ (cAt [true, true, true, true, false, true, false, false, true, true] (bodyOf Try.f4)) (lopK Try.prog hoardlaw6_IndexTexts_kp idJ (cAt [true, true, true, true, false, true, false, false] (bodyOf Try.f4)) (blkX 2 (seqK Try.prog hoardlaw6_IndexTexts_kp idJ (cAt [true, true, true, true, true] (bodyOf Try.f4)) (retK Try.prog Try.f4 Q) noX (retK Try.prog Try.f4 Q)) noX) (retK Try.prog Try.f4 Q) m6) (blkX 2 (seqK Try.prog hoardlaw6_IndexTexts_kp idJ (cAt [true, true, true, true, true] (bodyOf Try.f4)) (retK Try.prog Try.f4 Q) noX (retK Try.prog Try.f4 Q)) noX) (retK Try.prog Try.f4 Q)) (blkX 2 (seqK Try.prog hoardlaw6_IndexTexts_kp idJ (cAt [true, true, true, true, true] (bodyOf Try.f4)) (retK Try.prog Try.f4 Q) noX (retK Try.prog Try.f4 Q)) noX)) (retK Try.prog Try.f4 Q) (us 1 ((.slice keys1.a keys1.n keys1.c) :: (.slice vals2.a vals2.n vals2.c) :: us 4 ((.pointer x7) :: us 1 ((.int .i64 i9) :: (.string want10) :: us 108 [])))) := by kernel_rfl
theorem hoardlaw6_IndexTexts_l8_raw (jn : Jn) (Q : Value → WP) (m6 : Nat) (m8 : Nat) (keys1 : Sl) (vals2 : Sl) (x7 : Option Addr) (i9 : Int) (want10 : ByteArray) (k11 : Int) : hoardlaw6_IndexTexts_l8 jn Q m6 (m8 + 1) keys1 vals2 x7 i9 want10 k11 = (
  ite2 (decide (k11 < (keys1.n : Int))) (
  ite2 (decide (k11 < (vals2.n : Int))) (
  hoardlaw6_IndexTexts_j9 jn Q m6 m8 keys1 vals2 x7 i9 want10 k11) (
  hoardlaw6_IndexTexts_j10 jn Q m6 keys1 vals2 x7 i9 want10)) (
  hoardlaw6_IndexTexts_j10 jn Q m6 keys1 vals2 x7 i9 want10)) := by kernel_rfl
theorem hoardlaw6_IndexTexts_l8_zero (jn : Jn) (Q : Value → WP) (m6 : Nat) (keys1 : Sl) (vals2 : Sl) (x7 : Option Addr) (i9 : Int) (want10 : ByteArray) (k11 : Int) : hoardlaw6_IndexTexts_l8 jn Q m6 0 keys1 vals2 x7 i9 want10 k11 = bot := by kernel_rfl
theorem hoardlaw6_IndexTexts_j7_raw (jn : Jn) (Q : Value → WP) (m6 : Nat) (keys1 : Sl) (vals2 : Sl) (x7 : Option Addr) (i9 : Int) : codeI Try.prog hoardlaw6_IndexTexts_kp jn (cAt [true, true, true, true, false, true, false, false, true] (bodyOf Try.f4)) (lopK Try.prog hoardlaw6_IndexTexts_kp jn (cAt [true, true, true, true, false, true, false, false] (bodyOf Try.f4)) (blkX 2 (seqK Try.prog hoardlaw6_IndexTexts_kp jn (cAt [true, true, true, true, true] (bodyOf Try.f4)) (retK Try.prog Try.f4 Q) noX (retK Try.prog Try.f4 Q)) noX) (retK Try.prog Try.f4 Q) m6) (blkX 2 (seqK Try.prog hoardlaw6_IndexTexts_kp jn (cAt [true, true, true, true, true] (bodyOf Try.f4)) (retK Try.prog Try.f4 Q) noX (retK Try.prog Try.f4 Q)) noX) (retK Try.prog Try.f4 Q) (us 1 ((.slice keys1.a keys1.n keys1.c) :: (.slice vals2.a vals2.n vals2.c) :: us 4 ((.pointer x7) :: us 1 ((.int .i64 i9) :: us 109 [])))) = (
  idx vals2.a vals2.n i9 fun b_15 o_16 =>
  ld .str b_15 (o_16 + (i9).toNat * 1) fun (x_17 : ByteArray) =>
  exM fun m => hoardlaw6_IndexTexts_l8 jn Q m6 m keys1 vals2 x7 i9 x_17 i9) := by kernel_rfl
theorem hoardlaw6_IndexTexts_j7_def (Q : Value → WP) (m6 : Nat) (keys1 : Sl) (vals2 : Sl) (x7 : Option Addr) (i9 : Int) : hoardlaw6_IndexTexts_j7 idJ Q m6 keys1 vals2 x7 i9 = codeI Try.prog hoardlaw6_IndexTexts_kp idJ (cAt [true, true, true, true, false, true, false, false, true] (bodyOf Try.f4)) (lopK Try.prog hoardlaw6_IndexTexts_kp idJ (cAt [true, true, true, true, false, true, false, false] (bodyOf Try.f4)) (blkX 2 (seqK Try.prog hoardlaw6_IndexTexts_kp idJ (cAt [true, true, true, true, true] (bodyOf Try.f4)) (retK Try.prog Try.f4 Q) noX (retK Try.prog Try.f4 Q)) noX) (retK Try.prog Try.f4 Q) m6) (blkX 2 (seqK Try.prog hoardlaw6_IndexTexts_kp idJ (cAt [true, true, true, true, true] (bodyOf Try.f4)) (retK Try.prog Try.f4 Q) noX (retK Try.prog Try.f4 Q)) noX) (retK Try.prog Try.f4 Q) (us 1 ((.slice keys1.a keys1.n keys1.c) :: (.slice vals2.a vals2.n vals2.c) :: us 4 ((.pointer x7) :: us 1 ((.int .i64 i9) :: us 109 [])))) := by kernel_rfl
theorem hoardlaw6_IndexTexts_j12_raw (jn : Jn) (Q : Value → WP)   : codeI Try.prog hoardlaw6_IndexTexts_kp jn (cAt [true, true, true, true, true] (bodyOf Try.f4)) (retK Try.prog Try.f4 Q) noX (retK Try.prog Try.f4 Q) (us 119 []) = (
  call1 .bool Try.prog id_hoardlaw6_known [] fun (x_32 : Bool) =>
  Q (.bool x_32)) := by kernel_rfl
theorem hoardlaw6_IndexTexts_j12_def (Q : Value → WP)   : hoardlaw6_IndexTexts_j12 idJ Q   = codeI Try.prog hoardlaw6_IndexTexts_kp idJ (cAt [true, true, true, true, true] (bodyOf Try.f4)) (retK Try.prog Try.f4 Q) noX (retK Try.prog Try.f4 Q) (us 119 []) := by kernel_rfl
theorem hoardlaw6_IndexTexts_l6_raw (jn : Jn) (Q : Value → WP)  (m6 : Nat) (keys1 : Sl) (vals2 : Sl) (x7 : Option Addr) (i9 : Int) : hoardlaw6_IndexTexts_l6 jn Q  (m6 + 1) keys1 vals2 x7 i9 = (
  ite2 (decide (i9 < (keys1.n : Int))) (
  ite2 (decide (i9 < (vals2.n : Int))) (
  hoardlaw6_IndexTexts_j7 jn Q m6 keys1 vals2 x7 i9) (
  hoardlaw6_IndexTexts_j12 jn Q  )) (
  hoardlaw6_IndexTexts_j12 jn Q  )) := by kernel_rfl
theorem hoardlaw6_IndexTexts_l6_zero (jn : Jn) (Q : Value → WP)  (keys1 : Sl) (vals2 : Sl) (x7 : Option Addr) (i9 : Int) : hoardlaw6_IndexTexts_l6 jn Q  0 keys1 vals2 x7 i9 = bot := by kernel_rfl
theorem hoardlaw6_IndexTexts_j5_raw (jn : Jn) (Q : Value → WP)  (keys1 : Sl) (vals2 : Sl) (x7 : Option Addr) : codeI Try.prog hoardlaw6_IndexTexts_kp jn (cAt [true, true, true, true] (bodyOf Try.f4)) (retK Try.prog Try.f4 Q) noX (retK Try.prog Try.f4 Q) (us 1 ((.slice keys1.a keys1.n keys1.c) :: (.slice vals2.a vals2.n vals2.c) :: us 4 ((.pointer x7) :: us 111 []))) = (
  exM fun m => hoardlaw6_IndexTexts_l6 jn Q  m keys1 vals2 x7 (0 : Int)) := by kernel_rfl
theorem hoardlaw6_IndexTexts_j5_def (Q : Value → WP)  (keys1 : Sl) (vals2 : Sl) (x7 : Option Addr) : hoardlaw6_IndexTexts_j5 idJ Q  keys1 vals2 x7 = codeI Try.prog hoardlaw6_IndexTexts_kp idJ (cAt [true, true, true, true] (bodyOf Try.f4)) (retK Try.prog Try.f4 Q) noX (retK Try.prog Try.f4 Q) (us 1 ((.slice keys1.a keys1.n keys1.c) :: (.slice vals2.a vals2.n vals2.c) :: us 4 ((.pointer x7) :: us 111 []))) := by kernel_rfl
theorem hoardlaw6_IndexTexts_l2_raw (jn : Jn) (Q : Value → WP)  (m2 : Nat) (keys1 : Sl) (vals2 : Sl) (x7 : Option Addr) (i8 : Int) : hoardlaw6_IndexTexts_l2 jn Q  (m2 + 1) keys1 vals2 x7 i8 = (
  ite2 (decide (i8 < (keys1.n : Int))) (
  ite2 (decide (i8 < (vals2.n : Int))) (
  hoardlaw6_IndexTexts_j3 jn Q m2 keys1 vals2 x7 i8) (
  hoardlaw6_IndexTexts_j5 jn Q  keys1 vals2 x7)) (
  hoardlaw6_IndexTexts_j5 jn Q  keys1 vals2 x7)) := by kernel_rfl
theorem hoardlaw6_IndexTexts_l2_zero (jn : Jn) (Q : Value → WP)  (keys1 : Sl) (vals2 : Sl) (x7 : Option Addr) (i8 : Int) : hoardlaw6_IndexTexts_l2 jn Q  0 keys1 vals2 x7 i8 = bot := by kernel_rfl
theorem hoardlaw6_IndexTexts_j1_raw (jn : Jn) (Q : Value → WP)  (seed0 : Int) (keys1 : Sl) (vals2 : Sl) : codeI Try.prog hoardlaw6_IndexTexts_kp jn (cAt [true, true] (bodyOf Try.f4)) (retK Try.prog Try.f4 Q) noX (retK Try.prog Try.f4 Q) ((.int .u64 seed0) :: (.slice keys1.a keys1.n keys1.c) :: (.slice vals2.a vals2.n vals2.c) :: us 116 []) = (
  call1 .ptr Try.prog id_index_New_string [.int .u64 seed0] fun (x_1 : Option Addr) =>
  exM fun m => hoardlaw6_IndexTexts_l2 jn Q  m keys1 vals2 x_1 (0 : Int)) := by kernel_rfl
theorem hoardlaw6_IndexTexts_j1_def (Q : Value → WP)  (seed0 : Int) (keys1 : Sl) (vals2 : Sl) : hoardlaw6_IndexTexts_j1 idJ Q  seed0 keys1 vals2 = codeI Try.prog hoardlaw6_IndexTexts_kp idJ (cAt [true, true] (bodyOf Try.f4)) (retK Try.prog Try.f4 Q) noX (retK Try.prog Try.f4 Q) ((.int .u64 seed0) :: (.slice keys1.a keys1.n keys1.c) :: (.slice vals2.a vals2.n vals2.c) :: us 116 []) := by kernel_rfl
theorem hoardlaw6_IndexTexts_raw (jn : Jn) (seed0 : Int) (keys1 : Sl) (vals2 : Sl) (Q : Value → WP) : funJ jn Try.prog hoardlaw6_IndexTexts_kp Try.f4 [.int .u64 seed0, .slice keys1.a keys1.n keys1.c, .slice vals2.a vals2.n vals2.c] Q = (
  ite2 (decide ((keys1.n : Int) > (100 : Int))) (
  Q (.bool true)) (
  ite2 (decide ((vals2.n : Int) > (100 : Int))) (
  Q (.bool true)) (
  hoardlaw6_IndexTexts_j1 jn Q  seed0 keys1 vals2))) := by kernel_rfl
theorem hoardlaw6_IndexTexts_def (seed0 : Int) (keys1 : Sl) (vals2 : Sl) (Q : Value → WP) : hoardlaw6_IndexTexts seed0 keys1 vals2 Q = funJ idJ Try.prog hoardlaw6_IndexTexts_kp Try.f4 [.int .u64 seed0, .slice keys1.a keys1.n keys1.c, .slice vals2.a vals2.n vals2.c] Q := rfl
theorem hoardlaw6_IndexTexts_calls {seed0 : Int} {keys1 : Sl} {vals2 : Sl} {Q : Value → WP} {w : World} (h : hoardlaw6_IndexTexts seed0 keys1 vals2 Q w) : Calls Try.prog id_hoardlaw6_IndexTexts #[.int .u64 seed0, .slice keys1.a keys1.n keys1.c, .slice vals2.a vals2.n vals2.c] w fun e w' => ∃ v, e = .returned v ∧ Q v w' :=
  funJ_calls mixed Try.func4 rfl h

-- hoard/hoardlaw6.IndexPlays
def hoardlaw6_IndexPlays_kp : KP := ⟨[(13, [1, 5, 6, 7]), (16, [1, 5, 6, 7]), (20, [1, 5, 6, 7]), (24, [5, 6])], []⟩
def hoardlaw6_IndexPlays_j3 (jn : Jn) (Q : Value → WP) (m1 : Nat) (l1 : Sl) (x5 : Option Addr) (y6_b : Nat) (y6_o : Nat) (i7 : Int) : WP := jn 20 (fun ρ => codeI Try.prog hoardlaw6_IndexPlays_kp jn (cAt [true, true, true, false, true, false, false, true, false, false, true] (bodyOf Try.f5)) (seqK Try.prog hoardlaw6_IndexPlays_kp jn (cAt [true, true, true, false, true, false, false, true, true] (bodyOf Try.f5)) (lopK Try.prog hoardlaw6_IndexPlays_kp jn (cAt [true, true, true, false, true, false, false] (bodyOf Try.f5)) (blkX 0 (seqK Try.prog hoardlaw6_IndexPlays_kp jn (cAt [true, true, true, true] (bodyOf Try.f5)) (retK Try.prog Try.f5 Q) noX (retK Try.prog Try.f5 Q)) noX) (retK Try.prog Try.f5 Q) m1) (blkX 0 (seqK Try.prog hoardlaw6_IndexPlays_kp jn (cAt [true, true, true, true] (bodyOf Try.f5)) (retK Try.prog Try.f5 Q) noX (retK Try.prog Try.f5 Q)) noX) (retK Try.prog Try.f5 Q)) (blkX 1 (seqK Try.prog hoardlaw6_IndexPlays_kp jn (cAt [true, true, true, false, true, false, false, true, true] (bodyOf Try.f5)) (lopK Try.prog hoardlaw6_IndexPlays_kp jn (cAt [true, true, true, false, true, false, false] (bodyOf Try.f5)) (blkX 0 (seqK Try.prog hoardlaw6_IndexPlays_kp jn (cAt [true, true, true, true] (bodyOf Try.f5)) (retK Try.prog Try.f5 Q) noX (retK Try.prog Try.f5 Q)) noX) (retK Try.prog Try.f5 Q) m1) (blkX 0 (seqK Try.prog hoardlaw6_IndexPlays_kp jn (cAt [true, true, true, true] (bodyOf Try.f5)) (retK Try.prog Try.f5 Q) noX (retK Try.prog Try.f5 Q)) noX) (retK Try.prog Try.f5 Q)) (blkX 0 (seqK Try.prog hoardlaw6_IndexPlays_kp jn (cAt [true, true, true, true] (bodyOf Try.f5)) (retK Try.prog Try.f5 Q) noX (retK Try.prog Try.f5 Q)) noX)) (retK Try.prog Try.f5 Q) ρ) (us 1 ((.slice l1.a l1.n l1.c) :: us 3 ((.pointer x5) :: (.pointer (some ⟨y6_b, y6_o, none⟩)) :: (.int .i64 i7) :: us 50 [])))
def hoardlaw6_IndexPlays_j2 (jn : Jn) (Q : Value → WP) (m1 : Nat) (l1 : Sl) (x5 : Option Addr) (y6_b : Nat) (y6_o : Nat) (i7 : Int) : WP := jn 16 (fun ρ => codeI Try.prog hoardlaw6_IndexPlays_kp jn (cAt [true, true, true, false, true, false, false, true] (bodyOf Try.f5)) (lopK Try.prog hoardlaw6_IndexPlays_kp jn (cAt [true, true, true, false, true, false, false] (bodyOf Try.f5)) (blkX 0 (seqK Try.prog hoardlaw6_IndexPlays_kp jn (cAt [true, true, true, true] (bodyOf Try.f5)) (retK Try.prog Try.f5 Q) noX (retK Try.prog Try.f5 Q)) noX) (retK Try.prog Try.f5 Q) m1) (blkX 0 (seqK Try.prog hoardlaw6_IndexPlays_kp jn (cAt [true, true, true, true] (bodyOf Try.f5)) (retK Try.prog Try.f5 Q) noX (retK Try.prog Try.f5 Q)) noX) (retK Try.prog Try.f5 Q) ρ) (us 1 ((.slice l1.a l1.n l1.c) :: us 3 ((.pointer x5) :: (.pointer (some ⟨y6_b, y6_o, none⟩)) :: (.int .i64 i7) :: us 50 [])))
def hoardlaw6_IndexPlays_j4 (jn : Jn) (Q : Value → WP)  (x5 : Option Addr) (y6_b : Nat) (y6_o : Nat) : WP := jn 24 (fun ρ => codeI Try.prog hoardlaw6_IndexPlays_kp jn (cAt [true, true, true, true] (bodyOf Try.f5)) (retK Try.prog Try.f5 Q) noX (retK Try.prog Try.f5 Q) ρ) (us 5 ((.pointer x5) :: (.pointer (some ⟨y6_b, y6_o, none⟩)) :: us 51 []))
def hoardlaw6_IndexPlays_l1 (jn : Jn) (Q : Value → WP)  (m1 : Nat) (l1 : Sl) (x5 : Option Addr) (y6_b : Nat) (y6_o : Nat) (i7 : Int) : WP := lop Try.prog hoardlaw6_IndexPlays_kp jn (cAt [true, true, true, false, true, false, false] (bodyOf Try.f5)) (blkX 0 (seqK Try.prog hoardlaw6_IndexPlays_kp jn (cAt [true, true, true, true] (bodyOf Try.f5)) (retK Try.prog Try.f5 Q) noX (retK Try.prog Try.f5 Q)) noX) (retK Try.prog Try.f5 Q) m1 (us 1 ((.slice l1.a l1.n l1.c) :: us 3 ((.pointer x5) :: (.pointer (some ⟨y6_b, y6_o, none⟩)) :: (.int .i64 i7) :: us 50 [])))
def hoardlaw6_IndexPlays (seed0 : Int) (l1 : Sl) (Q : Value → WP) : WP := funJ idJ Try.prog hoardlaw6_IndexPlays_kp Try.f5 [.int .u64 seed0, .slice l1.a l1.n l1.c] Q
theorem hoardlaw6_IndexPlays_j3_raw (jn : Jn) (Q : Value → WP) (m1 : Nat) (l1 : Sl) (x5 : Option Addr) (y6_b : Nat) (y6_o : Nat) (i7 : Int) : codeI Try.prog hoardlaw6_IndexPlays_kp jn (cAt [true, true, true, false, true, false, false, true, false, false, true] (bodyOf Try.f5)) (seqK Try.prog hoardlaw6_IndexPlays_kp jn (cAt [true, true, true, false, true, false, false, true, true] (bodyOf Try.f5)) (lopK Try.prog hoardlaw6_IndexPlays_kp jn (cAt [true, true, true, false, true, false, false] (bodyOf Try.f5)) (blkX 0 (seqK Try.prog hoardlaw6_IndexPlays_kp jn (cAt [true, true, true, true] (bodyOf Try.f5)) (retK Try.prog Try.f5 Q) noX (retK Try.prog Try.f5 Q)) noX) (retK Try.prog Try.f5 Q) m1) (blkX 0 (seqK Try.prog hoardlaw6_IndexPlays_kp jn (cAt [true, true, true, true] (bodyOf Try.f5)) (retK Try.prog Try.f5 Q) noX (retK Try.prog Try.f5 Q)) noX) (retK Try.prog Try.f5 Q)) (blkX 1 (seqK Try.prog hoardlaw6_IndexPlays_kp jn (cAt [true, true, true, false, true, false, false, true, true] (bodyOf Try.f5)) (lopK Try.prog hoardlaw6_IndexPlays_kp jn (cAt [true, true, true, false, true, false, false] (bodyOf Try.f5)) (blkX 0 (seqK Try.prog hoardlaw6_IndexPlays_kp jn (cAt [true, true, true, true] (bodyOf Try.f5)) (retK Try.prog Try.f5 Q) noX (retK Try.prog Try.f5 Q)) noX) (retK Try.prog Try.f5 Q) m1) (blkX 0 (seqK Try.prog hoardlaw6_IndexPlays_kp jn (cAt [true, true, true, true] (bodyOf Try.f5)) (retK Try.prog Try.f5 Q) noX (retK Try.prog Try.f5 Q)) noX) (retK Try.prog Try.f5 Q)) (blkX 0 (seqK Try.prog hoardlaw6_IndexPlays_kp jn (cAt [true, true, true, true] (bodyOf Try.f5)) (retK Try.prog Try.f5 Q) noX (retK Try.prog Try.f5 Q)) noX)) (retK Try.prog Try.f5 Q) (us 1 ((.slice l1.a l1.n l1.c) :: us 3 ((.pointer x5) :: (.pointer (some ⟨y6_b, y6_o, none⟩)) :: (.int .i64 i7) :: us 50 []))) = (
  when ((16 : Int) ≠ 0) <|
  ite2 ((Int.tmod i7 (16 : Int)) == (0 : Int)) (
  call1 .slc Try.prog id_index_Index_int_Keys [.pointer x5] fun (x_12 : Sl) =>
  call1 .slc Try.prog id_hoardref6_Index_Keys [.pointer (some ⟨y6_b, y6_o, none⟩)] fun (x_13 : Sl) =>
  call1 .bool Try.prog id_hoardlaw6_texts [.slice x_12.a x_12.n x_12.c, .slice x_13.a x_13.n x_13.c] fun (x_14 : Bool) =>
  ite2 (!x_14) (
  Q (.bool false)) (
  hoardlaw6_IndexPlays_l1 jn Q  m1 l1 x5 y6_b y6_o (IntKind.wrap .i64 (i7 + (1 : Int))))) (
  hoardlaw6_IndexPlays_l1 jn Q  m1 l1 x5 y6_b y6_o (IntKind.wrap .i64 (i7 + (1 : Int))))) := by kernel_rfl
theorem hoardlaw6_IndexPlays_j3_def (Q : Value → WP) (m1 : Nat) (l1 : Sl) (x5 : Option Addr) (y6_b : Nat) (y6_o : Nat) (i7 : Int) : hoardlaw6_IndexPlays_j3 idJ Q m1 l1 x5 y6_b y6_o i7 = codeI Try.prog hoardlaw6_IndexPlays_kp idJ (cAt [true, true, true, false, true, false, false, true, false, false, true] (bodyOf Try.f5)) (seqK Try.prog hoardlaw6_IndexPlays_kp idJ (cAt [true, true, true, false, true, false, false, true, true] (bodyOf Try.f5)) (lopK Try.prog hoardlaw6_IndexPlays_kp idJ (cAt [true, true, true, false, true, false, false] (bodyOf Try.f5)) (blkX 0 (seqK Try.prog hoardlaw6_IndexPlays_kp idJ (cAt [true, true, true, true] (bodyOf Try.f5)) (retK Try.prog Try.f5 Q) noX (retK Try.prog Try.f5 Q)) noX) (retK Try.prog Try.f5 Q) m1) (blkX 0 (seqK Try.prog hoardlaw6_IndexPlays_kp idJ (cAt [true, true, true, true] (bodyOf Try.f5)) (retK Try.prog Try.f5 Q) noX (retK Try.prog Try.f5 Q)) noX) (retK Try.prog Try.f5 Q)) (blkX 1 (seqK Try.prog hoardlaw6_IndexPlays_kp idJ (cAt [true, true, true, false, true, false, false, true, true] (bodyOf Try.f5)) (lopK Try.prog hoardlaw6_IndexPlays_kp idJ (cAt [true, true, true, false, true, false, false] (bodyOf Try.f5)) (blkX 0 (seqK Try.prog hoardlaw6_IndexPlays_kp idJ (cAt [true, true, true, true] (bodyOf Try.f5)) (retK Try.prog Try.f5 Q) noX (retK Try.prog Try.f5 Q)) noX) (retK Try.prog Try.f5 Q) m1) (blkX 0 (seqK Try.prog hoardlaw6_IndexPlays_kp idJ (cAt [true, true, true, true] (bodyOf Try.f5)) (retK Try.prog Try.f5 Q) noX (retK Try.prog Try.f5 Q)) noX) (retK Try.prog Try.f5 Q)) (blkX 0 (seqK Try.prog hoardlaw6_IndexPlays_kp idJ (cAt [true, true, true, true] (bodyOf Try.f5)) (retK Try.prog Try.f5 Q) noX (retK Try.prog Try.f5 Q)) noX)) (retK Try.prog Try.f5 Q) (us 1 ((.slice l1.a l1.n l1.c) :: us 3 ((.pointer x5) :: (.pointer (some ⟨y6_b, y6_o, none⟩)) :: (.int .i64 i7) :: us 50 []))) := by kernel_rfl
theorem hoardlaw6_IndexPlays_j2_raw (jn : Jn) (Q : Value → WP) (m1 : Nat) (l1 : Sl) (x5 : Option Addr) (y6_b : Nat) (y6_o : Nat) (i7 : Int) : codeI Try.prog hoardlaw6_IndexPlays_kp jn (cAt [true, true, true, false, true, false, false, true] (bodyOf Try.f5)) (lopK Try.prog hoardlaw6_IndexPlays_kp jn (cAt [true, true, true, false, true, false, false] (bodyOf Try.f5)) (blkX 0 (seqK Try.prog hoardlaw6_IndexPlays_kp jn (cAt [true, true, true, true] (bodyOf Try.f5)) (retK Try.prog Try.f5 Q) noX (retK Try.prog Try.f5 Q)) noX) (retK Try.prog Try.f5 Q) m1) (blkX 0 (seqK Try.prog hoardlaw6_IndexPlays_kp jn (cAt [true, true, true, true] (bodyOf Try.f5)) (retK Try.prog Try.f5 Q) noX (retK Try.prog Try.f5 Q)) noX) (retK Try.prog Try.f5 Q) (us 1 ((.slice l1.a l1.n l1.c) :: us 3 ((.pointer x5) :: (.pointer (some ⟨y6_b, y6_o, none⟩)) :: (.int .i64 i7) :: us 50 []))) = (
  idx l1.a l1.n i7 fun b_4 o_5 =>
  ld (.int .i64) b_4 (o_5 + (i7).toNat * 3) fun (x_6 : Int) =>
  ld (.int .i64) b_4 ((o_5 + (i7).toNat * 3) + 1) fun (x_7 : Int) =>
  ld .str b_4 (((o_5 + (i7).toNat * 3) + 1) + 1) fun (x_8 : ByteArray) =>
  call1 .bool Try.prog id_hoardlaw6_act [.pointer x5, .pointer (some ⟨y6_b, y6_o, none⟩), .agg #[.int .i64 x_6, .int .i64 x_7, .string x_8]] fun (x_9 : Bool) =>
  ite2 (!x_9) (
  Q (.bool false)) (
  call1 (.int .i64) Try.prog id_index_Index_int_Len [.pointer x5] fun (x_10 : Int) =>
  call1 (.int .i64) Try.prog id_hoardref6_Index_Len [.pointer (some ⟨y6_b, y6_o, none⟩)] fun (x_11 : Int) =>
  ite2 (x_10 != x_11) (
  Q (.bool false)) (
  hoardlaw6_IndexPlays_j3 jn Q m1 l1 x5 y6_b y6_o i7))) := by kernel_rfl
theorem hoardlaw6_IndexPlays_j2_def (Q : Value → WP) (m1 : Nat) (l1 : Sl) (x5 : Option Addr) (y6_b : Nat) (y6_o : Nat) (i7 : Int) : hoardlaw6_IndexPlays_j2 idJ Q m1 l1 x5 y6_b y6_o i7 = codeI Try.prog hoardlaw6_IndexPlays_kp idJ (cAt [true, true, true, false, true, false, false, true] (bodyOf Try.f5)) (lopK Try.prog hoardlaw6_IndexPlays_kp idJ (cAt [true, true, true, false, true, false, false] (bodyOf Try.f5)) (blkX 0 (seqK Try.prog hoardlaw6_IndexPlays_kp idJ (cAt [true, true, true, true] (bodyOf Try.f5)) (retK Try.prog Try.f5 Q) noX (retK Try.prog Try.f5 Q)) noX) (retK Try.prog Try.f5 Q) m1) (blkX 0 (seqK Try.prog hoardlaw6_IndexPlays_kp idJ (cAt [true, true, true, true] (bodyOf Try.f5)) (retK Try.prog Try.f5 Q) noX (retK Try.prog Try.f5 Q)) noX) (retK Try.prog Try.f5 Q) (us 1 ((.slice l1.a l1.n l1.c) :: us 3 ((.pointer x5) :: (.pointer (some ⟨y6_b, y6_o, none⟩)) :: (.int .i64 i7) :: us 50 []))) := by kernel_rfl
theorem hoardlaw6_IndexPlays_j4_raw (jn : Jn) (Q : Value → WP)  (x5 : Option Addr) (y6_b : Nat) (y6_o : Nat) : codeI Try.prog hoardlaw6_IndexPlays_kp jn (cAt [true, true, true, true] (bodyOf Try.f5)) (retK Try.prog Try.f5 Q) noX (retK Try.prog Try.f5 Q) (us 5 ((.pointer x5) :: (.pointer (some ⟨y6_b, y6_o, none⟩)) :: us 51 [])) = (
  call1 .slc Try.prog id_index_Index_int_Keys [.pointer x5] fun (x_15 : Sl) =>
  call1 .slc Try.prog id_hoardref6_Index_Keys [.pointer (some ⟨y6_b, y6_o, none⟩)] fun (x_16 : Sl) =>
  call1 .bool Try.prog id_hoardlaw6_texts [.slice x_15.a x_15.n x_15.c, .slice x_16.a x_16.n x_16.c] fun (x_17 : Bool) =>
  ite2 x_17 (
  call1 .bool Try.prog id_hoardlaw6_known [] fun (x_18 : Bool) =>
  Q (.bool x_18)) (
  Q (.bool false))) := by kernel_rfl
theorem hoardlaw6_IndexPlays_j4_def (Q : Value → WP)  (x5 : Option Addr) (y6_b : Nat) (y6_o : Nat) : hoardlaw6_IndexPlays_j4 idJ Q  x5 y6_b y6_o = codeI Try.prog hoardlaw6_IndexPlays_kp idJ (cAt [true, true, true, true] (bodyOf Try.f5)) (retK Try.prog Try.f5 Q) noX (retK Try.prog Try.f5 Q) (us 5 ((.pointer x5) :: (.pointer (some ⟨y6_b, y6_o, none⟩)) :: us 51 [])) := by kernel_rfl
theorem hoardlaw6_IndexPlays_l1_raw (jn : Jn) (Q : Value → WP)  (m1 : Nat) (l1 : Sl) (x5 : Option Addr) (y6_b : Nat) (y6_o : Nat) (i7 : Int) : hoardlaw6_IndexPlays_l1 jn Q  (m1 + 1) l1 x5 y6_b y6_o i7 = (
  ite2 (decide (i7 < (l1.n : Int))) (
  ite2 (decide (i7 < (200 : Int))) (
  hoardlaw6_IndexPlays_j2 jn Q m1 l1 x5 y6_b y6_o i7) (
  hoardlaw6_IndexPlays_j4 jn Q  x5 y6_b y6_o)) (
  hoardlaw6_IndexPlays_j4 jn Q  x5 y6_b y6_o)) := by kernel_rfl
theorem hoardlaw6_IndexPlays_l1_zero (jn : Jn) (Q : Value → WP)  (l1 : Sl) (x5 : Option Addr) (y6_b : Nat) (y6_o : Nat) (i7 : Int) : hoardlaw6_IndexPlays_l1 jn Q  0 l1 x5 y6_b y6_o i7 = bot := by kernel_rfl
theorem hoardlaw6_IndexPlays_raw (jn : Jn) (seed0 : Int) (l1 : Sl) (Q : Value → WP) : funJ jn Try.prog hoardlaw6_IndexPlays_kp Try.f5 [.int .u64 seed0, .slice l1.a l1.n l1.c] Q = (
  call1 .bool Try.prog id_hoardlaw6_heavy [.slice l1.a l1.n l1.c] fun (x_1 : Bool) =>
  ite2 x_1 (
  Q (.bool true)) (
  call1 .ptr Try.prog id_index_New_int [.int .u64 seed0] fun (x_2 : Option Addr) =>
  newB [.slice (none : Option Addr) 0 0] ty_hoardref6_Index fun b_3 =>
  exM fun m => hoardlaw6_IndexPlays_l1 jn Q  m l1 x_2 b_3 0 (0 : Int))) := by kernel_rfl
theorem hoardlaw6_IndexPlays_def (seed0 : Int) (l1 : Sl) (Q : Value → WP) : hoardlaw6_IndexPlays seed0 l1 Q = funJ idJ Try.prog hoardlaw6_IndexPlays_kp Try.f5 [.int .u64 seed0, .slice l1.a l1.n l1.c] Q := rfl
theorem hoardlaw6_IndexPlays_calls {seed0 : Int} {l1 : Sl} {Q : Value → WP} {w : World} (h : hoardlaw6_IndexPlays seed0 l1 Q w) : Calls Try.prog id_hoardlaw6_IndexPlays #[.int .u64 seed0, .slice l1.a l1.n l1.c] w fun e w' => ∃ v, e = .returned v ∧ Q v w' :=
  funJ_calls mixed Try.func5 rfl h

-- hoard/hoardlaw6.IndexSeeds
def hoardlaw6_IndexSeeds_kp : KP := ⟨[(13, [2, 7, 8, 9]), (16, [2, 7, 8, 9]), (30, [7, 8])], [(8, [0, 1, 2, 3, 4, 5, 6, 7, 8, 9, 10, 12, 13, 14, 15, 16, 17, 18, 19, 20, 21, 22, 24])]⟩
def hoardlaw6_IndexSeeds_j2 (jn : Jn) (Q : Value → WP) (m1 : Nat) (l2 : Sl) (x7 : Option Addr) (y8 : Option Addr) (i9 : Int) : WP := jn 16 (fun ρ => codeI Try.prog hoardlaw6_IndexSeeds_kp jn (cAt [true, true, true, false, true, false, false, true] (bodyOf Try.f6)) (lopK Try.prog hoardlaw6_IndexSeeds_kp jn (cAt [true, true, true, false, true, false, false] (bodyOf Try.f6)) (blkX 0 (seqK Try.prog hoardlaw6_IndexSeeds_kp jn (cAt [true, true, true, true] (bodyOf Try.f6)) (retK Try.prog Try.f6 Q) noX (retK Try.prog Try.f6 Q)) noX) (retK Try.prog Try.f6 Q) m1) (blkX 0 (seqK Try.prog hoardlaw6_IndexSeeds_kp jn (cAt [true, true, true, true] (bodyOf Try.f6)) (retK Try.prog Try.f6 Q) noX (retK Try.prog Try.f6 Q)) noX) (retK Try.prog Try.f6 Q) ρ) (us 2 ((.slice l2.a l2.n l2.c) :: us 4 ((.pointer x7) :: (.pointer y8) :: (.int .i64 i9) :: us 94 [])))
def hoardlaw6_IndexSeeds_j3 (jn : Jn) (Q : Value → WP)  (x7 : Option Addr) (y8 : Option Addr) : WP := jn 30 (fun ρ => codeI Try.prog hoardlaw6_IndexSeeds_kp jn (cAt [true, true, true, true] (bodyOf Try.f6)) (retK Try.prog Try.f6 Q) noX (retK Try.prog Try.f6 Q) ρ) (us 7 ((.pointer x7) :: (.pointer y8) :: us 95 []))
def hoardlaw6_IndexSeeds_l1 (jn : Jn) (Q : Value → WP)  (m1 : Nat) (l2 : Sl) (x7 : Option Addr) (y8 : Option Addr) (i9 : Int) : WP := lop Try.prog hoardlaw6_IndexSeeds_kp jn (cAt [true, true, true, false, true, false, false] (bodyOf Try.f6)) (blkX 0 (seqK Try.prog hoardlaw6_IndexSeeds_kp jn (cAt [true, true, true, true] (bodyOf Try.f6)) (retK Try.prog Try.f6 Q) noX (retK Try.prog Try.f6 Q)) noX) (retK Try.prog Try.f6 Q) m1 (us 2 ((.slice l2.a l2.n l2.c) :: us 4 ((.pointer x7) :: (.pointer y8) :: (.int .i64 i9) :: us 94 [])))
def hoardlaw6_IndexSeeds (a0 : Int) (b1 : Int) (l2 : Sl) (Q : Value → WP) : WP := funJ idJ Try.prog hoardlaw6_IndexSeeds_kp Try.f6 [.int .u64 a0, .int .u64 b1, .slice l2.a l2.n l2.c] Q
theorem hoardlaw6_IndexSeeds_j2_raw (jn : Jn) (Q : Value → WP) (m1 : Nat) (l2 : Sl) (x7 : Option Addr) (y8 : Option Addr) (i9 : Int) : codeI Try.prog hoardlaw6_IndexSeeds_kp jn (cAt [true, true, true, false, true, false, false, true] (bodyOf Try.f6)) (lopK Try.prog hoardlaw6_IndexSeeds_kp jn (cAt [true, true, true, false, true, false, false] (bodyOf Try.f6)) (blkX 0 (seqK Try.prog hoardlaw6_IndexSeeds_kp jn (cAt [true, true, true, true] (bodyOf Try.f6)) (retK Try.prog Try.f6 Q) noX (retK Try.prog Try.f6 Q)) noX) (retK Try.prog Try.f6 Q) m1) (blkX 0 (seqK Try.prog hoardlaw6_IndexSeeds_kp jn (cAt [true, true, true, true] (bodyOf Try.f6)) (retK Try.prog Try.f6 Q) noX (retK Try.prog Try.f6 Q)) noX) (retK Try.prog Try.f6 Q) (us 2 ((.slice l2.a l2.n l2.c) :: us 4 ((.pointer x7) :: (.pointer y8) :: (.int .i64 i9) :: us 94 []))) = (
  idx l2.a l2.n i9 fun b_4 o_5 =>
  ld (.int .i64) b_4 (o_5 + (i9).toNat * 3) fun (x_6 : Int) =>
  ite2 (x_6 == (1 : Int)) (
  drawW fun S =>
  idx l2.a l2.n i9 fun b_7 o_8 =>
  ldS S .str b_7 ((o_8 + (i9).toNat * 3) + 2) fun (x_9 : ByteArray) =>
  idx l2.a l2.n i9 fun b_10 o_11 =>
  ldS S (.int .i64) b_10 ((o_11 + (i9).toNat * 3) + 1) fun (x_12 : Int) =>
  idx l2.a l2.n i9 fun b_13 o_14 =>
  ldS S .str b_13 ((o_14 + (i9).toNat * 3) + 2) fun (x_15 : ByteArray) =>
  idx l2.a l2.n i9 fun b_16 o_17 =>
  ldS S (.int .i64) b_16 ((o_17 + (i9).toNat * 3) + 1) fun (x_18 : Int) =>
  call1 .bool Try.prog id_index_Index_int_Put [.pointer x7, .string x_9, .int .i64 x_12] fun (x_19 : Bool) =>
  keepS true S <|
  call1 .bool Try.prog id_index_Index_int_Put [.pointer y8, .string x_15, .int .i64 x_18] fun (x_20 : Bool) =>
  ite2 (!(x_19 == x_20)) (
  Q (.bool false)) (
  hoardlaw6_IndexSeeds_l1 jn Q  m1 l2 x7 y8 (IntKind.wrap .i64 (i9 + (1 : Int))))) (
  idx l2.a l2.n i9 fun b_21 o_22 =>
  ld .str b_21 ((o_22 + (i9).toNat * 3) + 2) fun (x_23 : ByteArray) =>
  call2 (.int .i64) .bool Try.prog id_index_Index_int_Delete [.pointer x7, .string x_23] fun (x_24 : Int) (x_25 : Bool) =>
  idx l2.a l2.n i9 fun b_26 o_27 =>
  ld .str b_26 ((o_27 + (i9).toNat * 3) + 2) fun (x_28 : ByteArray) =>
  call2 (.int .i64) .bool Try.prog id_index_Index_int_Delete [.pointer y8, .string x_28] fun (x_29 : Int) (x_30 : Bool) =>
  ite2 (x_24 != x_29) (
  Q (.bool false)) (
  ite2 (!(x_25 == x_30)) (
  Q (.bool false)) (
  hoardlaw6_IndexSeeds_l1 jn Q  m1 l2 x7 y8 (IntKind.wrap .i64 (i9 + (1 : Int))))))) := by kernel_rfl
theorem hoardlaw6_IndexSeeds_j2_def (Q : Value → WP) (m1 : Nat) (l2 : Sl) (x7 : Option Addr) (y8 : Option Addr) (i9 : Int) : hoardlaw6_IndexSeeds_j2 idJ Q m1 l2 x7 y8 i9 = codeI Try.prog hoardlaw6_IndexSeeds_kp idJ (cAt [true, true, true, false, true, false, false, true] (bodyOf Try.f6)) (lopK Try.prog hoardlaw6_IndexSeeds_kp idJ (cAt [true, true, true, false, true, false, false] (bodyOf Try.f6)) (blkX 0 (seqK Try.prog hoardlaw6_IndexSeeds_kp idJ (cAt [true, true, true, true] (bodyOf Try.f6)) (retK Try.prog Try.f6 Q) noX (retK Try.prog Try.f6 Q)) noX) (retK Try.prog Try.f6 Q) m1) (blkX 0 (seqK Try.prog hoardlaw6_IndexSeeds_kp idJ (cAt [true, true, true, true] (bodyOf Try.f6)) (retK Try.prog Try.f6 Q) noX (retK Try.prog Try.f6 Q)) noX) (retK Try.prog Try.f6 Q) (us 2 ((.slice l2.a l2.n l2.c) :: us 4 ((.pointer x7) :: (.pointer y8) :: (.int .i64 i9) :: us 94 []))) := by kernel_rfl
theorem hoardlaw6_IndexSeeds_j3_raw (jn : Jn) (Q : Value → WP)  (x7 : Option Addr) (y8 : Option Addr) : codeI Try.prog hoardlaw6_IndexSeeds_kp jn (cAt [true, true, true, true] (bodyOf Try.f6)) (retK Try.prog Try.f6 Q) noX (retK Try.prog Try.f6 Q) (us 7 ((.pointer x7) :: (.pointer y8) :: us 95 [])) = (
  call1 .slc Try.prog id_index_Index_int_Keys [.pointer x7] fun (x_31 : Sl) =>
  call1 .slc Try.prog id_index_Index_int_Keys [.pointer y8] fun (x_32 : Sl) =>
  call1 .bool Try.prog id_hoardlaw6_texts [.slice x_31.a x_31.n x_31.c, .slice x_32.a x_32.n x_32.c] fun (x_33 : Bool) =>
  ite2 x_33 (
  call1 (.int .i64) Try.prog id_index_Index_int_Len [.pointer x7] fun (x_34 : Int) =>
  call1 (.int .i64) Try.prog id_index_Index_int_Len [.pointer y8] fun (x_35 : Int) =>
  ite2 (x_34 == x_35) (
  call1 .bool Try.prog id_hoardlaw6_known [] fun (x_36 : Bool) =>
  Q (.bool x_36)) (
  Q (.bool false))) (
  Q (.bool false))) := by kernel_rfl
theorem hoardlaw6_IndexSeeds_j3_def (Q : Value → WP)  (x7 : Option Addr) (y8 : Option Addr) : hoardlaw6_IndexSeeds_j3 idJ Q  x7 y8 = codeI Try.prog hoardlaw6_IndexSeeds_kp idJ (cAt [true, true, true, true] (bodyOf Try.f6)) (retK Try.prog Try.f6 Q) noX (retK Try.prog Try.f6 Q) (us 7 ((.pointer x7) :: (.pointer y8) :: us 95 [])) := by kernel_rfl
theorem hoardlaw6_IndexSeeds_l1_raw (jn : Jn) (Q : Value → WP)  (m1 : Nat) (l2 : Sl) (x7 : Option Addr) (y8 : Option Addr) (i9 : Int) : hoardlaw6_IndexSeeds_l1 jn Q  (m1 + 1) l2 x7 y8 i9 = (
  ite2 (decide (i9 < (l2.n : Int))) (
  ite2 (decide (i9 < (200 : Int))) (
  hoardlaw6_IndexSeeds_j2 jn Q m1 l2 x7 y8 i9) (
  hoardlaw6_IndexSeeds_j3 jn Q  x7 y8)) (
  hoardlaw6_IndexSeeds_j3 jn Q  x7 y8)) := by kernel_rfl
theorem hoardlaw6_IndexSeeds_l1_zero (jn : Jn) (Q : Value → WP)  (l2 : Sl) (x7 : Option Addr) (y8 : Option Addr) (i9 : Int) : hoardlaw6_IndexSeeds_l1 jn Q  0 l2 x7 y8 i9 = bot := by kernel_rfl
theorem hoardlaw6_IndexSeeds_raw (jn : Jn) (a0 : Int) (b1 : Int) (l2 : Sl) (Q : Value → WP) : funJ jn Try.prog hoardlaw6_IndexSeeds_kp Try.f6 [.int .u64 a0, .int .u64 b1, .slice l2.a l2.n l2.c] Q = (
  call1 .bool Try.prog id_hoardlaw6_heavy [.slice l2.a l2.n l2.c] fun (x_1 : Bool) =>
  ite2 x_1 (
  Q (.bool true)) (
  call1 .ptr Try.prog id_index_New_int [.int .u64 a0] fun (x_2 : Option Addr) =>
  call1 .ptr Try.prog id_index_New_int [.int .u64 b1] fun (x_3 : Option Addr) =>
  exM fun m => hoardlaw6_IndexSeeds_l1 jn Q  m l2 x_2 x_3 (0 : Int))) := by kernel_rfl
theorem hoardlaw6_IndexSeeds_def (a0 : Int) (b1 : Int) (l2 : Sl) (Q : Value → WP) : hoardlaw6_IndexSeeds a0 b1 l2 Q = funJ idJ Try.prog hoardlaw6_IndexSeeds_kp Try.f6 [.int .u64 a0, .int .u64 b1, .slice l2.a l2.n l2.c] Q := rfl
theorem hoardlaw6_IndexSeeds_calls {a0 : Int} {b1 : Int} {l2 : Sl} {Q : Value → WP} {w : World} (h : hoardlaw6_IndexSeeds a0 b1 l2 Q w) : Calls Try.prog id_hoardlaw6_IndexSeeds #[.int .u64 a0, .int .u64 b1, .slice l2.a l2.n l2.c] w fun e w' => ∃ v, e = .returned v ∧ Q v w' :=
  funJ_calls mixed Try.func6 rfl h

-- hoard/hoardlaw6.IndexOfNothing
def hoardlaw6_IndexOfNothing_kp : KP := ⟨[], []⟩
def hoardlaw6_IndexOfNothing (s0 : ByteArray) (n1 : Int) (Q : Value → WP) : WP := funJ idJ Try.prog hoardlaw6_IndexOfNothing_kp Try.f7 [.string s0, .int .i64 n1] Q
theorem hoardlaw6_IndexOfNothing_raw (jn : Jn) (s0 : ByteArray) (n1 : Int) (Q : Value → WP) : funJ jn Try.prog hoardlaw6_IndexOfNothing_kp Try.f7 [.string s0, .int .i64 n1] Q = (
  ite2 (decide ((s0.size : Int) > (100 : Int))) (
  Q (.bool true)) (
  call2 (.int .i64) .bool Try.prog id_index_Index_int_Get [.pointer (none : Option Addr), .string s0] fun (x_1 : Int) (x_2 : Bool) =>
  call2 (.int .i64) .bool Try.prog id_index_Index_int_Delete [.pointer (none : Option Addr), .string s0] fun (x_3 : Int) (x_4 : Bool) =>
  call1 .bool Try.prog id_index_Index_int_Put [.pointer (none : Option Addr), .string s0, .int .i64 n1] fun (x_5 : Bool) =>
  ite2 (!x_5) (
  ite2 (x_1 == (0 : Int)) (
  ite2 (!x_2) (
  ite2 (x_3 == (0 : Int)) (
  ite2 (!x_4) (
  call1 (.int .i64) Try.prog id_index_Index_int_Len [.pointer (none : Option Addr)] fun (x_6 : Int) =>
  ite2 (x_6 == (0 : Int)) (
  call1 .slc Try.prog id_index_Index_int_Keys [.pointer (none : Option Addr)] fun (x_7 : Sl) =>
  ite2 ((x_7.n : Int) == (0 : Int)) (
  call1 .bool Try.prog id_hoardlaw6_known [] fun (x_8 : Bool) =>
  Q (.bool x_8)) (
  Q (.bool false))) (
  Q (.bool false))) (
  Q (.bool false))) (
  Q (.bool false))) (
  Q (.bool false))) (
  Q (.bool false))) (
  Q (.bool false)))) := by kernel_rfl
theorem hoardlaw6_IndexOfNothing_def (s0 : ByteArray) (n1 : Int) (Q : Value → WP) : hoardlaw6_IndexOfNothing s0 n1 Q = funJ idJ Try.prog hoardlaw6_IndexOfNothing_kp Try.f7 [.string s0, .int .i64 n1] Q := rfl
theorem hoardlaw6_IndexOfNothing_calls {s0 : ByteArray} {n1 : Int} {Q : Value → WP} {w : World} (h : hoardlaw6_IndexOfNothing s0 n1 Q w) : Calls Try.prog id_hoardlaw6_IndexOfNothing #[.string s0, .int .i64 n1] w fun e w' => ∃ v, e = .returned v ∧ Q v w' :=
  funJ_calls mixed Try.func7 rfl h

-- hoard/hoardlaw6.IndexOwn
def hoardlaw6_IndexOwn_kp : KP := ⟨[(13, [1, 5, 6]), (16, [1, 5, 6]), (18, [5]), (23, [5, 7, 8]), (30, [5, 7]), (35, [5, 7, 9, 10]), (40, [5, 9])], [(7, [0, 1, 2, 3, 4, 5, 6, 7, 8, 9]), (12, [0, 1, 2, 3, 4, 5, 6, 7, 8, 9, 10, 12, 13])]⟩
def hoardlaw6_IndexOwn_j2 (jn : Jn) (Q : Value → WP) (m1 : Nat) (l1 : Sl) (x5 : Option Addr) (i6 : Int) : WP := jn 16 (fun ρ => codeI Try.prog hoardlaw6_IndexOwn_kp jn (cAt [true, true, true, false, true, false, false, true] (bodyOf Try.f8)) (lopK Try.prog hoardlaw6_IndexOwn_kp jn (cAt [true, true, true, false, true, false, false] (bodyOf Try.f8)) (blkX 0 (seqK Try.prog hoardlaw6_IndexOwn_kp jn (cAt [true, true, true, true] (bodyOf Try.f8)) (retK Try.prog Try.f8 Q) noX (retK Try.prog Try.f8 Q)) noX) (retK Try.prog Try.f8 Q) m1) (blkX 0 (seqK Try.prog hoardlaw6_IndexOwn_kp jn (cAt [true, true, true, true] (bodyOf Try.f8)) (retK Try.prog Try.f8 Q) noX (retK Try.prog Try.f8 Q)) noX) (retK Try.prog Try.f8 Q) ρ) (us 1 ((.slice l1.a l1.n l1.c) :: us 3 ((.pointer x5) :: (.int .i64 i6) :: us 78 [])))
def hoardlaw6_IndexOwn_j7 (jn : Jn) (Q : Value → WP)  (x5 : Option Addr) (was9 : Sl) : WP := jn 40 (fun ρ => codeI Try.prog hoardlaw6_IndexOwn_kp jn (cAt [true, true, true, true, true, true, true, true] (bodyOf Try.f8)) (retK Try.prog Try.f8 Q) noX (retK Try.prog Try.f8 Q) ρ) (us 5 ((.pointer x5) :: us 3 ((.slice was9.a was9.n was9.c) :: us 75 [])))
def hoardlaw6_IndexOwn_l6 (jn : Jn) (Q : Value → WP)  (m6 : Nat) (x5 : Option Addr) (k7 : Sl) (was9 : Sl) (i10 : Int) : WP := lop Try.prog hoardlaw6_IndexOwn_kp jn (cAt [true, true, true, true, true, true, true, false, true, false, false] (bodyOf Try.f8)) (blkX 4 (seqK Try.prog hoardlaw6_IndexOwn_kp jn (cAt [true, true, true, true, true, true, true, true] (bodyOf Try.f8)) (retK Try.prog Try.f8 Q) noX (retK Try.prog Try.f8 Q)) noX) (retK Try.prog Try.f8 Q) m6 (us 5 ((.pointer x5) :: us 1 ((.slice k7.a k7.n k7.c) :: us 1 ((.slice was9.a was9.n was9.c) :: (.int .i64 i10) :: us 74 []))))
def hoardlaw6_IndexOwn_j5 (jn : Jn) (Q : Value → WP)  (x5 : Option Addr) (k7 : Sl) : WP := jn 30 (fun ρ => codeI Try.prog hoardlaw6_IndexOwn_kp jn (cAt [true, true, true, true, true, true] (bodyOf Try.f8)) (retK Try.prog Try.f8 Q) noX (retK Try.prog Try.f8 Q) ρ) (us 5 ((.pointer x5) :: us 1 ((.slice k7.a k7.n k7.c) :: us 77 [])))
def hoardlaw6_IndexOwn_l4 (jn : Jn) (Q : Value → WP)  (m4 : Nat) (x5 : Option Addr) (k7 : Sl) (i8 : Int) : WP := lop Try.prog hoardlaw6_IndexOwn_kp jn (cAt [true, true, true, true, true, false, true, false, false] (bodyOf Try.f8)) (blkX 2 (seqK Try.prog hoardlaw6_IndexOwn_kp jn (cAt [true, true, true, true, true, true] (bodyOf Try.f8)) (retK Try.prog Try.f8 Q) noX (retK Try.prog Try.f8 Q)) noX) (retK Try.prog Try.f8 Q) m4 (us 5 ((.pointer x5) :: us 1 ((.slice k7.a k7.n k7.c) :: (.int .i64 i8) :: us 76 [])))
def hoardlaw6_IndexOwn_j3 (jn : Jn) (Q : Value → WP)  (x5 : Option Addr) : WP := jn 18 (fun ρ => codeI Try.prog hoardlaw6_IndexOwn_kp jn (cAt [true, true, true, true] (bodyOf Try.f8)) (retK Try.prog Try.f8 Q) noX (retK Try.prog Try.f8 Q) ρ) (us 5 ((.pointer x5) :: us 79 []))
def hoardlaw6_IndexOwn_l1 (jn : Jn) (Q : Value → WP)  (m1 : Nat) (l1 : Sl) (x5 : Option Addr) (i6 : Int) : WP := lop Try.prog hoardlaw6_IndexOwn_kp jn (cAt [true, true, true, false, true, false, false] (bodyOf Try.f8)) (blkX 0 (seqK Try.prog hoardlaw6_IndexOwn_kp jn (cAt [true, true, true, true] (bodyOf Try.f8)) (retK Try.prog Try.f8 Q) noX (retK Try.prog Try.f8 Q)) noX) (retK Try.prog Try.f8 Q) m1 (us 1 ((.slice l1.a l1.n l1.c) :: us 3 ((.pointer x5) :: (.int .i64 i6) :: us 78 [])))
def hoardlaw6_IndexOwn (seed0 : Int) (l1 : Sl) (Q : Value → WP) : WP := funJ idJ Try.prog hoardlaw6_IndexOwn_kp Try.f8 [.int .u64 seed0, .slice l1.a l1.n l1.c] Q
theorem hoardlaw6_IndexOwn_j2_raw (jn : Jn) (Q : Value → WP) (m1 : Nat) (l1 : Sl) (x5 : Option Addr) (i6 : Int) : codeI Try.prog hoardlaw6_IndexOwn_kp jn (cAt [true, true, true, false, true, false, false, true] (bodyOf Try.f8)) (lopK Try.prog hoardlaw6_IndexOwn_kp jn (cAt [true, true, true, false, true, false, false] (bodyOf Try.f8)) (blkX 0 (seqK Try.prog hoardlaw6_IndexOwn_kp jn (cAt [true, true, true, true] (bodyOf Try.f8)) (retK Try.prog Try.f8 Q) noX (retK Try.prog Try.f8 Q)) noX) (retK Try.prog Try.f8 Q) m1) (blkX 0 (seqK Try.prog hoardlaw6_IndexOwn_kp jn (cAt [true, true, true, true] (bodyOf Try.f8)) (retK Try.prog Try.f8 Q) noX (retK Try.prog Try.f8 Q)) noX) (retK Try.prog Try.f8 Q) (us 1 ((.slice l1.a l1.n l1.c) :: us 3 ((.pointer x5) :: (.int .i64 i6) :: us 78 []))) = (
  drawW fun S =>
  idx l1.a l1.n i6 fun b_3 o_4 =>
  ldS S .str b_3 ((o_4 + (i6).toNat * 3) + 2) fun (x_5 : ByteArray) =>
  idx l1.a l1.n i6 fun b_6 o_7 =>
  ld (.int .i64) b_6 ((o_7 + (i6).toNat * 3) + 1) fun (x_8 : Int) =>
  keepS true S <|
  call1 .bool Try.prog id_index_Index_int_Put [.pointer x5, .string x_5, .int .i64 x_8] fun (x_9 : Bool) =>
  hoardlaw6_IndexOwn_l1 jn Q  m1 l1 x5 (IntKind.wrap .i64 (i6 + (1 : Int)))) := by kernel_rfl
theorem hoardlaw6_IndexOwn_j2_def (Q : Value → WP) (m1 : Nat) (l1 : Sl) (x5 : Option Addr) (i6 : Int) : hoardlaw6_IndexOwn_j2 idJ Q m1 l1 x5 i6 = codeI Try.prog hoardlaw6_IndexOwn_kp idJ (cAt [true, true, true, false, true, false, false, true] (bodyOf Try.f8)) (lopK Try.prog hoardlaw6_IndexOwn_kp idJ (cAt [true, true, true, false, true, false, false] (bodyOf Try.f8)) (blkX 0 (seqK Try.prog hoardlaw6_IndexOwn_kp idJ (cAt [true, true, true, true] (bodyOf Try.f8)) (retK Try.prog Try.f8 Q) noX (retK Try.prog Try.f8 Q)) noX) (retK Try.prog Try.f8 Q) m1) (blkX 0 (seqK Try.prog hoardlaw6_IndexOwn_kp idJ (cAt [true, true, true, true] (bodyOf Try.f8)) (retK Try.prog Try.f8 Q) noX (retK Try.prog Try.f8 Q)) noX) (retK Try.prog Try.f8 Q) (us 1 ((.slice l1.a l1.n l1.c) :: us 3 ((.pointer x5) :: (.int .i64 i6) :: us 78 []))) := by kernel_rfl
theorem hoardlaw6_IndexOwn_j7_raw (jn : Jn) (Q : Value → WP)  (x5 : Option Addr) (was9 : Sl) : codeI Try.prog hoardlaw6_IndexOwn_kp jn (cAt [true, true, true, true, true, true, true, true] (bodyOf Try.f8)) (retK Try.prog Try.f8 Q) noX (retK Try.prog Try.f8 Q) (us 5 ((.pointer x5) :: us 3 ((.slice was9.a was9.n was9.c) :: us 75 []))) = (
  call1 .slc Try.prog id_index_Index_int_Keys [.pointer x5] fun (x_21 : Sl) =>
  call1 .bool Try.prog id_hoardlaw6_texts [.slice x_21.a x_21.n x_21.c, .slice was9.a was9.n was9.c] fun (x_22 : Bool) =>
  ite2 x_22 (
  call1 (.int .i64) Try.prog id_index_Index_int_Len [.pointer x5] fun (x_23 : Int) =>
  ite2 (x_23 == (was9.n : Int)) (
  call1 .bool Try.prog id_hoardlaw6_known [] fun (x_24 : Bool) =>
  Q (.bool x_24)) (
  Q (.bool false))) (
  Q (.bool false))) := by kernel_rfl
theorem hoardlaw6_IndexOwn_j7_def (Q : Value → WP)  (x5 : Option Addr) (was9 : Sl) : hoardlaw6_IndexOwn_j7 idJ Q  x5 was9 = codeI Try.prog hoardlaw6_IndexOwn_kp idJ (cAt [true, true, true, true, true, true, true, true] (bodyOf Try.f8)) (retK Try.prog Try.f8 Q) noX (retK Try.prog Try.f8 Q) (us 5 ((.pointer x5) :: us 3 ((.slice was9.a was9.n was9.c) :: us 75 []))) := by kernel_rfl
theorem hoardlaw6_IndexOwn_l6_raw (jn : Jn) (Q : Value → WP)  (m6 : Nat) (x5 : Option Addr) (k7 : Sl) (was9 : Sl) (i10 : Int) : hoardlaw6_IndexOwn_l6 jn Q  (m6 + 1) x5 k7 was9 i10 = (
  ite2 (decide (i10 < (k7.n : Int))) (
  idx k7.a k7.n i10 fun b_19 o_20 =>
  st b_19 (o_20 + (i10).toNat * 1) (.string str_spoilt) <|
  hoardlaw6_IndexOwn_l6 jn Q  m6 x5 k7 was9 (IntKind.wrap .i64 (i10 + (1 : Int)))) (
  hoardlaw6_IndexOwn_j7 jn Q  x5 was9)) := by kernel_rfl
theorem hoardlaw6_IndexOwn_l6_zero (jn : Jn) (Q : Value → WP)  (x5 : Option Addr) (k7 : Sl) (was9 : Sl) (i10 : Int) : hoardlaw6_IndexOwn_l6 jn Q  0 x5 k7 was9 i10 = bot := by kernel_rfl
theorem hoardlaw6_IndexOwn_j5_raw (jn : Jn) (Q : Value → WP)  (x5 : Option Addr) (k7 : Sl) : codeI Try.prog hoardlaw6_IndexOwn_kp jn (cAt [true, true, true, true, true, true] (bodyOf Try.f8)) (retK Try.prog Try.f8 Q) noX (retK Try.prog Try.f8 Q) (us 5 ((.pointer x5) :: us 1 ((.slice k7.a k7.n k7.c) :: us 77 []))) = (
  newB [] ty_string fun b_17 =>
  appendC ty_string 1 16 [.string str_empty] ⟨(some ⟨b_17, 0, none⟩), 0, 0⟩ k7.n (fun w => rdA w k7.a (k7.n * 1)) fun s_18 =>
  exM fun m => hoardlaw6_IndexOwn_l6 jn Q  m x5 k7 s_18 (0 : Int)) := by kernel_rfl
theorem hoardlaw6_IndexOwn_j5_def (Q : Value → WP)  (x5 : Option Addr) (k7 : Sl) : hoardlaw6_IndexOwn_j5 idJ Q  x5 k7 = codeI Try.prog hoardlaw6_IndexOwn_kp idJ (cAt [true, true, true, true, true, true] (bodyOf Try.f8)) (retK Try.prog Try.f8 Q) noX (retK Try.prog Try.f8 Q) (us 5 ((.pointer x5) :: us 1 ((.slice k7.a k7.n k7.c) :: us 77 []))) := by kernel_rfl
theorem hoardlaw6_IndexOwn_l4_raw (jn : Jn) (Q : Value → WP)  (m4 : Nat) (x5 : Option Addr) (k7 : Sl) (i8 : Int) : hoardlaw6_IndexOwn_l4 jn Q  (m4 + 1) x5 k7 i8 = (
  ite2 (decide (i8 < (k7.n : Int))) (
  drawW fun S =>
  ite2 (decide (i8 > (0 : Int))) (
  idx k7.a k7.n (IntKind.wrap .i64 (i8 - (1 : Int))) fun b_11 o_12 =>
  ldS S .str b_11 (o_12 + ((IntKind.wrap .i64 (i8 - (1 : Int)))).toNat * 1) fun (x_13 : ByteArray) =>
  idx k7.a k7.n i8 fun b_14 o_15 =>
  ld .str b_14 (o_15 + (i8).toNat * 1) fun (x_16 : ByteArray) =>
  keepS true S <|
  ite2 (!sLt x_13 x_16) (
  Q (.bool false)) (
  hoardlaw6_IndexOwn_l4 jn Q  m4 x5 k7 (IntKind.wrap .i64 (i8 + (1 : Int))))) (
  keepS true S <|
  hoardlaw6_IndexOwn_l4 jn Q  m4 x5 k7 (IntKind.wrap .i64 (i8 + (1 : Int))))) (
  hoardlaw6_IndexOwn_j5 jn Q  x5 k7)) := by kernel_rfl
theorem hoardlaw6_IndexOwn_l4_zero (jn : Jn) (Q : Value → WP)  (x5 : Option Addr) (k7 : Sl) (i8 : Int) : hoardlaw6_IndexOwn_l4 jn Q  0 x5 k7 i8 = bot := by kernel_rfl
theorem hoardlaw6_IndexOwn_j3_raw (jn : Jn) (Q : Value → WP)  (x5 : Option Addr) : codeI Try.prog hoardlaw6_IndexOwn_kp jn (cAt [true, true, true, true] (bodyOf Try.f8)) (retK Try.prog Try.f8 Q) noX (retK Try.prog Try.f8 Q) (us 5 ((.pointer x5) :: us 79 [])) = (
  call1 .slc Try.prog id_index_Index_int_Keys [.pointer x5] fun (x_10 : Sl) =>
  exM fun m => hoardlaw6_IndexOwn_l4 jn Q  m x5 x_10 (0 : Int)) := by kernel_rfl
theorem hoardlaw6_IndexOwn_j3_def (Q : Value → WP)  (x5 : Option Addr) : hoardlaw6_IndexOwn_j3 idJ Q  x5 = codeI Try.prog hoardlaw6_IndexOwn_kp idJ (cAt [true, true, true, true] (bodyOf Try.f8)) (retK Try.prog Try.f8 Q) noX (retK Try.prog Try.f8 Q) (us 5 ((.pointer x5) :: us 79 [])) := by kernel_rfl
theorem hoardlaw6_IndexOwn_l1_raw (jn : Jn) (Q : Value → WP)  (m1 : Nat) (l1 : Sl) (x5 : Option Addr) (i6 : Int) : hoardlaw6_IndexOwn_l1 jn Q  (m1 + 1) l1 x5 i6 = (
  ite2 (decide (i6 < (l1.n : Int))) (
  ite2 (decide (i6 < (200 : Int))) (
  hoardlaw6_IndexOwn_j2 jn Q m1 l1 x5 i6) (
  hoardlaw6_IndexOwn_j3 jn Q  x5)) (
  hoardlaw6_IndexOwn_j3 jn Q  x5)) := by kernel_rfl
theorem hoardlaw6_IndexOwn_l1_zero (jn : Jn) (Q : Value → WP)  (l1 : Sl) (x5 : Option Addr) (i6 : Int) : hoardlaw6_IndexOwn_l1 jn Q  0 l1 x5 i6 = bot := by kernel_rfl
theorem hoardlaw6_IndexOwn_raw (jn : Jn) (seed0 : Int) (l1 : Sl) (Q : Value → WP) : funJ jn Try.prog hoardlaw6_IndexOwn_kp Try.f8 [.int .u64 seed0, .slice l1.a l1.n l1.c] Q = (
  call1 .bool Try.prog id_hoardlaw6_heavy [.slice l1.a l1.n l1.c] fun (x_1 : Bool) =>
  ite2 x_1 (
  Q (.bool true)) (
  call1 .ptr Try.prog id_index_New_int [.int .u64 seed0] fun (x_2 : Option Addr) =>
  exM fun m => hoardlaw6_IndexOwn_l1 jn Q  m l1 x_2 (0 : Int))) := by kernel_rfl
theorem hoardlaw6_IndexOwn_def (seed0 : Int) (l1 : Sl) (Q : Value → WP) : hoardlaw6_IndexOwn seed0 l1 Q = funJ idJ Try.prog hoardlaw6_IndexOwn_kp Try.f8 [.int .u64 seed0, .slice l1.a l1.n l1.c] Q := rfl
theorem hoardlaw6_IndexOwn_calls {seed0 : Int} {l1 : Sl} {Q : Value → WP} {w : World} (h : hoardlaw6_IndexOwn seed0 l1 Q w) : Calls Try.prog id_hoardlaw6_IndexOwn #[.int .u64 seed0, .slice l1.a l1.n l1.c] w fun e w' => ∃ v, e = .returned v ∧ Q v w' :=
  funJ_calls mixed Try.func8 rfl h

-- hoard/hoardlaw6.known
def hoardlaw6_known_kp : KP := ⟨[], []⟩
def hoardlaw6_known  (Q : Value → WP) : WP := funJ idJ Try.prog hoardlaw6_known_kp Try.f9 [] Q
theorem hoardlaw6_known_raw (jn : Jn)  (Q : Value → WP) : funJ jn Try.prog hoardlaw6_known_kp Try.f9 [] Q = (
  call1 .ptr Try.prog id_index_New_int [.int .u64 (1 : Int)] fun (x_1 : Option Addr) =>
  call1 .bool Try.prog id_index_Index_int_Put [.pointer x_1, .string str_a, .int .i64 (1 : Int)] fun (x_2 : Bool) =>
  call1 .bool Try.prog id_index_Index_int_Put [.pointer x_1, .string str_a, .int .i64 (2 : Int)] fun (x_3 : Bool) =>
  call2 (.int .i64) .bool Try.prog id_index_Index_int_Get [.pointer x_1, .string str_a] fun (x_4 : Int) (x_5 : Bool) =>
  call2 (.int .i64) .bool Try.prog id_index_Index_int_Delete [.pointer x_1, .string str_a] fun (x_6 : Int) (x_7 : Bool) =>
  ite2 x_2 (
  ite2 (!x_3) (
  ite2 x_5 (
  ite2 (x_4 == (2 : Int)) (
  ite2 x_7 (
  ite2 (x_6 == (2 : Int)) (
  call1 (.int .i64) Try.prog id_index_Index_int_Len [.pointer x_1] fun (x_8 : Int) =>
  Q (.bool (x_8 == (0 : Int)))) (
  Q (.bool false))) (
  Q (.bool false))) (
  Q (.bool false))) (
  Q (.bool false))) (
  Q (.bool false))) (
  Q (.bool false))) := by kernel_rfl
theorem hoardlaw6_known_def  (Q : Value → WP) : hoardlaw6_known  Q = funJ idJ Try.prog hoardlaw6_known_kp Try.f9 [] Q := rfl
theorem hoardlaw6_known_calls {Q : Value → WP} {w : World} (h : hoardlaw6_known Q w) : Calls Try.prog id_hoardlaw6_known #[] w fun e w' => ∃ v, e = .returned v ∧ Q v w' :=
  funJ_calls mixed Try.func9 rfl h

-- hoard/index.New[string]
def index_New_string_kp : KP := ⟨[], []⟩
def index_New_string (seed0 : Int) (Q : Value → WP) : WP := funJ idJ Try.prog index_New_string_kp Try.f10 [.int .u64 seed0] Q
theorem index_New_string_raw (jn : Jn) (seed0 : Int) (Q : Value → WP) : funJ jn Try.prog index_New_string_kp Try.f10 [.int .u64 seed0] Q = (
  makeC ty_index_place_string 40 [.int .i64 (0 : Int), .string str_empty, .string str_empty] (8 : Int) (8 : Int) fun s_1 =>
  newB [.int .u64 seed0, .slice s_1.a s_1.n s_1.c, .int .i64 (0 : Int), .int .i64 (0 : Int)] ty_index_Index_string fun b_2 =>
  Q (.pointer (some ⟨b_2, 0, none⟩))) := by kernel_rfl
theorem index_New_string_def (seed0 : Int) (Q : Value → WP) : index_New_string seed0 Q = funJ idJ Try.prog index_New_string_kp Try.f10 [.int .u64 seed0] Q := rfl
theorem index_New_string_calls {seed0 : Int} {Q : Value → WP} {w : World} (h : index_New_string seed0 Q w) : Calls Try.prog id_index_New_string #[.int .u64 seed0] w fun e w' => ∃ v, e = .returned v ∧ Q v w' :=
  funJ_calls mixed Try.func10 rfl h

-- (*hoard/index.Index[string]).Put
def index_Index_string_Put_kp : KP := ⟨[], [(8, [0, 1, 2, 3, 4, 5, 6, 7, 9, 10])]⟩
def index_Index_string_Put (x0 : Option Addr) (key1 : ByteArray) (v2 : ByteArray) (Q : Value → WP) : WP := funJ idJ Try.prog index_Index_string_Put_kp Try.f11 [.pointer x0, .string key1, .string v2] Q
theorem index_Index_string_Put_raw (jn : Jn) (x0 : Option Addr) (key1 : ByteArray) (v2 : ByteArray) (Q : Value → WP) : funJ jn Try.prog index_Index_string_Put_kp Try.f11 [.pointer x0, .string key1, .string v2] Q = (
  ite2 (Option.isNone x0) (
  Q (.bool false)) (
  call2 (.int .i64) .bool Try.prog id_index_Index_string_find [.pointer x0, .string key1] fun (x_1 : Int) (x_2 : Bool) =>
  ite2 x_2 (
  nilck x0 fun b_3 o_4 =>
  ld .slc b_3 (o_4 + 1) fun (x_5 : Sl) =>
  idx x_5.a x_5.n x_1 fun b_6 o_7 =>
  st b_6 ((o_7 + (x_1).toNat * 3) + 2) (.string v2) <|
  Q (.bool false)) (
  call0 Try.prog id_index_Index_string_lays [.pointer x0, .int .i64 x_1, .string key1, .string v2] <|
  drawW fun S =>
  nilck x0 fun b_8 o_9 =>
  ldS S (.int .i64) b_8 (o_9 + 3) fun (x_10 : Int) =>
  nilck x0 fun b_11 o_12 =>
  ld .slc b_11 (o_12 + 1) fun (x_13 : Sl) =>
  keepS true S <|
  ite2 (decide ((IntKind.wrap .i64 ((2 : Int) * x_10)) > (x_13.n : Int))) (
  call0 Try.prog id_index_Index_string_grows [.pointer x0] <|
  Q (.bool true)) (
  Q (.bool true))))) := by kernel_rfl
theorem index_Index_string_Put_def (x0 : Option Addr) (key1 : ByteArray) (v2 : ByteArray) (Q : Value → WP) : index_Index_string_Put x0 key1 v2 Q = funJ idJ Try.prog index_Index_string_Put_kp Try.f11 [.pointer x0, .string key1, .string v2] Q := rfl
theorem index_Index_string_Put_calls {x0 : Option Addr} {key1 : ByteArray} {v2 : ByteArray} {Q : Value → WP} {w : World} (h : index_Index_string_Put x0 key1 v2 Q w) : Calls Try.prog id_index_Index_string_Put #[.pointer x0, .string key1, .string v2] w fun e w' => ∃ v, e = .returned v ∧ Q v w' :=
  funJ_calls mixed Try.func11 rfl h

-- hoard/hoardlaw6.key
def hoardlaw6_key_kp : KP := ⟨[], []⟩
def hoardlaw6_key (n0 : Int) (Q : Value → WP) : WP := funJ idJ Try.prog hoardlaw6_key_kp Try.f12 [.int .i64 n0] Q
theorem hoardlaw6_key_raw (jn : Jn) (n0 : Int) (Q : Value → WP) : funJ jn Try.prog hoardlaw6_key_kp Try.f12 [.int .i64 n0] Q = (
  when ((26 : Int) ≠ 0) <|
  when ((26 : Int) ≠ 0) <|
  when ((26 : Int) ≠ 0) <|
  when ((676 : Int) ≠ 0) <|
  when ((26 : Int) ≠ 0) <|
  newB [.int .u8 (107 : Int), .int .u8 (IntKind.wrap .u8 (IntKind.wrap .i64 ((97 : Int) + (Int.tmod n0 (26 : Int))))), .int .u8 (IntKind.wrap .u8 (IntKind.wrap .i64 ((97 : Int) + (Int.tmod (IntKind.wrap .i64 (Int.tdiv n0 (26 : Int))) (26 : Int))))), .int .u8 (IntKind.wrap .u8 (IntKind.wrap .i64 ((97 : Int) + (Int.tmod (IntKind.wrap .i64 (Int.tdiv n0 (676 : Int))) (26 : Int)))))] ty_uint8 fun b_1 =>
  b2s (some ⟨b_1, 0, none⟩) 4 fun (x_2 : ByteArray) =>
  Q (.string x_2)) := by kernel_rfl
theorem hoardlaw6_key_def (n0 : Int) (Q : Value → WP) : hoardlaw6_key n0 Q = funJ idJ Try.prog hoardlaw6_key_kp Try.f12 [.int .i64 n0] Q := rfl
theorem hoardlaw6_key_calls {n0 : Int} {Q : Value → WP} {w : World} (h : hoardlaw6_key n0 Q w) : Calls Try.prog id_hoardlaw6_key #[.int .i64 n0] w fun e w' => ∃ v, e = .returned v ∧ Q v w' :=
  funJ_calls mixed Try.func12 rfl h

-- (*hoard/index.Index[string]).Delete
def index_Index_string_Delete_kp : KP := ⟨[], []⟩
def index_Index_string_Delete (x0 : Option Addr) (key1 : ByteArray) (Q : Value → WP) : WP := funJ idJ Try.prog index_Index_string_Delete_kp Try.f13 [.pointer x0, .string key1] Q
theorem index_Index_string_Delete_raw (jn : Jn) (x0 : Option Addr) (key1 : ByteArray) (Q : Value → WP) : funJ jn Try.prog index_Index_string_Delete_kp Try.f13 [.pointer x0, .string key1] Q = (
  call2 .str .bool Try.prog id_index_Index_string_Get [.pointer x0, .string key1] fun (x_1 : ByteArray) (x_2 : Bool) =>
  ite2 x_2 (
  call2 (.int .i64) .bool Try.prog id_index_Index_string_find [.pointer x0, .string key1] fun (x_3 : Int) (x_4 : Bool) =>
  nilck x0 fun b_5 o_6 =>
  ld .slc b_5 (o_6 + 1) fun (x_7 : Sl) =>
  idx x_7.a x_7.n x_3 fun b_8 o_9 =>
  st b_8 (o_9 + (x_3).toNat * 3) (.int .i64 (1 : Int)) <|
  st b_8 ((o_9 + (x_3).toNat * 3) + 1) (.string str_empty) <|
  st b_8 (((o_9 + (x_3).toNat * 3) + 1) + 1) (.string str_empty) <|
  nilck x0 fun b_10 o_11 =>
  ld (.int .i64) b_10 (o_11 + 2) fun (x_12 : Int) =>
  nilck x0 fun b_13 o_14 =>
  st b_13 (o_14 + 2) (.int .i64 (IntKind.wrap .i64 (x_12 - (1 : Int)))) <|
  Q (.tuple #[.string x_1, .bool x_2])) (
  Q (.tuple #[.string x_1, .bool x_2]))) := by kernel_rfl
theorem index_Index_string_Delete_def (x0 : Option Addr) (key1 : ByteArray) (Q : Value → WP) : index_Index_string_Delete x0 key1 Q = funJ idJ Try.prog index_Index_string_Delete_kp Try.f13 [.pointer x0, .string key1] Q := rfl
theorem index_Index_string_Delete_calls {x0 : Option Addr} {key1 : ByteArray} {Q : Value → WP} {w : World} (h : index_Index_string_Delete x0 key1 Q w) : Calls Try.prog id_index_Index_string_Delete #[.pointer x0, .string key1] w fun e w' => ∃ v, e = .returned v ∧ Q v w' :=
  funJ_calls mixed Try.func13 rfl h

-- (*hoard/index.Index[string]).Get
def index_Index_string_Get_kp : KP := ⟨[], []⟩
def index_Index_string_Get (x0 : Option Addr) (key1 : ByteArray) (Q : Value → WP) : WP := funJ idJ Try.prog index_Index_string_Get_kp Try.f14 [.pointer x0, .string key1] Q
theorem index_Index_string_Get_raw (jn : Jn) (x0 : Option Addr) (key1 : ByteArray) (Q : Value → WP) : funJ jn Try.prog index_Index_string_Get_kp Try.f14 [.pointer x0, .string key1] Q = (
  ite2 (!Option.isNone x0) (
  call2 (.int .i64) .bool Try.prog id_index_Index_string_find [.pointer x0, .string key1] fun (x_1 : Int) (x_2 : Bool) =>
  ite2 x_2 (
  nilck x0 fun b_3 o_4 =>
  ld .slc b_3 (o_4 + 1) fun (x_5 : Sl) =>
  idx x_5.a x_5.n x_1 fun b_6 o_7 =>
  ld .str b_6 ((o_7 + (x_1).toNat * 3) + 2) fun (x_8 : ByteArray) =>
  Q (.tuple #[.string x_8, .bool true])) (
  Q (.tuple #[.string str_empty, .bool false]))) (
  Q (.tuple #[.string str_empty, .bool false]))) := by kernel_rfl
theorem index_Index_string_Get_def (x0 : Option Addr) (key1 : ByteArray) (Q : Value → WP) : index_Index_string_Get x0 key1 Q = funJ idJ Try.prog index_Index_string_Get_kp Try.f14 [.pointer x0, .string key1] Q := rfl
theorem index_Index_string_Get_calls {x0 : Option Addr} {key1 : ByteArray} {Q : Value → WP} {w : World} (h : index_Index_string_Get x0 key1 Q w) : Calls Try.prog id_index_Index_string_Get #[.pointer x0, .string key1] w fun e w' => ∃ v, e = .returned v ∧ Q v w' :=
  funJ_calls mixed Try.func14 rfl h

-- (*hoard/index.Index[string]).Len
def index_Index_string_Len_kp : KP := ⟨[], []⟩
def index_Index_string_Len (x0 : Option Addr) (Q : Value → WP) : WP := funJ idJ Try.prog index_Index_string_Len_kp Try.f15 [.pointer x0] Q
theorem index_Index_string_Len_raw (jn : Jn) (x0 : Option Addr) (Q : Value → WP) : funJ jn Try.prog index_Index_string_Len_kp Try.f15 [.pointer x0] Q = (
  ite2 (Option.isNone x0) (
  Q (.int .i64 (0 : Int))) (
  nilck x0 fun b_1 o_2 =>
  ld (.int .i64) b_1 (o_2 + 2) fun (x_3 : Int) =>
  Q (.int .i64 x_3))) := by kernel_rfl
theorem index_Index_string_Len_def (x0 : Option Addr) (Q : Value → WP) : index_Index_string_Len x0 Q = funJ idJ Try.prog index_Index_string_Len_kp Try.f15 [.pointer x0] Q := rfl
theorem index_Index_string_Len_calls {x0 : Option Addr} {Q : Value → WP} {w : World} (h : index_Index_string_Len x0 Q w) : Calls Try.prog id_index_Index_string_Len #[.pointer x0] w fun e w' => ∃ v, e = .returned v ∧ Q v w' :=
  funJ_calls mixed Try.func15 rfl h

-- hoard/hoardlaw6.heavy
def hoardlaw6_heavy_kp : KP := ⟨[(7, [0, 3]), (10, [0, 3]), (14, [])], []⟩
def hoardlaw6_heavy_j2 (jn : Jn) (Q : Value → WP) (m1 : Nat) (l0 : Sl) (i3 : Int) : WP := jn 10 (fun ρ => codeI Try.prog hoardlaw6_heavy_kp jn (cAt [true, false, true, false, false, true] (bodyOf Try.f16)) (lopK Try.prog hoardlaw6_heavy_kp jn (cAt [true, false, true, false, false] (bodyOf Try.f16)) (blkX 0 (seqK Try.prog hoardlaw6_heavy_kp jn (cAt [true, true] (bodyOf Try.f16)) (retK Try.prog Try.f16 Q) noX (retK Try.prog Try.f16 Q)) noX) (retK Try.prog Try.f16 Q) m1) (blkX 0 (seqK Try.prog hoardlaw6_heavy_kp jn (cAt [true, true] (bodyOf Try.f16)) (retK Try.prog Try.f16 Q) noX (retK Try.prog Try.f16 Q)) noX) (retK Try.prog Try.f16 Q) ρ) ((.slice l0.a l0.n l0.c) :: us 2 ((.int .i64 i3) :: us 17 []))
def hoardlaw6_heavy_j3 (jn : Jn) (Q : Value → WP)   : WP := jn 14 (fun ρ => codeI Try.prog hoardlaw6_heavy_kp jn (cAt [true, true] (bodyOf Try.f16)) (retK Try.prog Try.f16 Q) noX (retK Try.prog Try.f16 Q) ρ) (us 21 [])
def hoardlaw6_heavy_l1 (jn : Jn) (Q : Value → WP)  (m1 : Nat) (l0 : Sl) (i3 : Int) : WP := lop Try.prog hoardlaw6_heavy_kp jn (cAt [true, false, true, false, false] (bodyOf Try.f16)) (blkX 0 (seqK Try.prog hoardlaw6_heavy_kp jn (cAt [true, true] (bodyOf Try.f16)) (retK Try.prog Try.f16 Q) noX (retK Try.prog Try.f16 Q)) noX) (retK Try.prog Try.f16 Q) m1 ((.slice l0.a l0.n l0.c) :: us 2 ((.int .i64 i3) :: us 17 []))
def hoardlaw6_heavy (l0 : Sl) (Q : Value → WP) : WP := funJ idJ Try.prog hoardlaw6_heavy_kp Try.f16 [.slice l0.a l0.n l0.c] Q
theorem hoardlaw6_heavy_j2_raw (jn : Jn) (Q : Value → WP) (m1 : Nat) (l0 : Sl) (i3 : Int) : codeI Try.prog hoardlaw6_heavy_kp jn (cAt [true, false, true, false, false, true] (bodyOf Try.f16)) (lopK Try.prog hoardlaw6_heavy_kp jn (cAt [true, false, true, false, false] (bodyOf Try.f16)) (blkX 0 (seqK Try.prog hoardlaw6_heavy_kp jn (cAt [true, true] (bodyOf Try.f16)) (retK Try.prog Try.f16 Q) noX (retK Try.prog Try.f16 Q)) noX) (retK Try.prog Try.f16 Q) m1) (blkX 0 (seqK Try.prog hoardlaw6_heavy_kp jn (cAt [true, true] (bodyOf Try.f16)) (retK Try.prog Try.f16 Q) noX (retK Try.prog Try.f16 Q)) noX) (retK Try.prog Try.f16 Q) ((.slice l0.a l0.n l0.c) :: us 2 ((.int .i64 i3) :: us 17 [])) = (
  idx l0.a l0.n i3 fun b_1 o_2 =>
  ld .str b_1 ((o_2 + (i3).toNat * 3) + 2) fun (x_3 : ByteArray) =>
  ite2 (decide ((x_3.size : Int) > (100 : Int))) (
  Q (.bool true)) (
  hoardlaw6_heavy_l1 jn Q  m1 l0 (IntKind.wrap .i64 (i3 + (1 : Int))))) := by kernel_rfl
theorem hoardlaw6_heavy_j2_def (Q : Value → WP) (m1 : Nat) (l0 : Sl) (i3 : Int) : hoardlaw6_heavy_j2 idJ Q m1 l0 i3 = codeI Try.prog hoardlaw6_heavy_kp idJ (cAt [true, false, true, false, false, true] (bodyOf Try.f16)) (lopK Try.prog hoardlaw6_heavy_kp idJ (cAt [true, false, true, false, false] (bodyOf Try.f16)) (blkX 0 (seqK Try.prog hoardlaw6_heavy_kp idJ (cAt [true, true] (bodyOf Try.f16)) (retK Try.prog Try.f16 Q) noX (retK Try.prog Try.f16 Q)) noX) (retK Try.prog Try.f16 Q) m1) (blkX 0 (seqK Try.prog hoardlaw6_heavy_kp idJ (cAt [true, true] (bodyOf Try.f16)) (retK Try.prog Try.f16 Q) noX (retK Try.prog Try.f16 Q)) noX) (retK Try.prog Try.f16 Q) ((.slice l0.a l0.n l0.c) :: us 2 ((.int .i64 i3) :: us 17 [])) := by kernel_rfl
theorem hoardlaw6_heavy_j3_raw (jn : Jn) (Q : Value → WP)   : codeI Try.prog hoardlaw6_heavy_kp jn (cAt [true, true] (bodyOf Try.f16)) (retK Try.prog Try.f16 Q) noX (retK Try.prog Try.f16 Q) (us 21 []) = (
  Q (.bool false)) := by kernel_rfl
theorem hoardlaw6_heavy_j3_def (Q : Value → WP)   : hoardlaw6_heavy_j3 idJ Q   = codeI Try.prog hoardlaw6_heavy_kp idJ (cAt [true, true] (bodyOf Try.f16)) (retK Try.prog Try.f16 Q) noX (retK Try.prog Try.f16 Q) (us 21 []) := by kernel_rfl
theorem hoardlaw6_heavy_l1_raw (jn : Jn) (Q : Value → WP)  (m1 : Nat) (l0 : Sl) (i3 : Int) : hoardlaw6_heavy_l1 jn Q  (m1 + 1) l0 i3 = (
  ite2 (decide (i3 < (l0.n : Int))) (
  ite2 (decide (i3 < (200 : Int))) (
  hoardlaw6_heavy_j2 jn Q m1 l0 i3) (
  hoardlaw6_heavy_j3 jn Q  )) (
  hoardlaw6_heavy_j3 jn Q  )) := by kernel_rfl
theorem hoardlaw6_heavy_l1_zero (jn : Jn) (Q : Value → WP)  (l0 : Sl) (i3 : Int) : hoardlaw6_heavy_l1 jn Q  0 l0 i3 = bot := by kernel_rfl
theorem hoardlaw6_heavy_raw (jn : Jn) (l0 : Sl) (Q : Value → WP) : funJ jn Try.prog hoardlaw6_heavy_kp Try.f16 [.slice l0.a l0.n l0.c] Q = (
  exM fun m => hoardlaw6_heavy_l1 jn Q  m l0 (0 : Int)) := by kernel_rfl
theorem hoardlaw6_heavy_def (l0 : Sl) (Q : Value → WP) : hoardlaw6_heavy l0 Q = funJ idJ Try.prog hoardlaw6_heavy_kp Try.f16 [.slice l0.a l0.n l0.c] Q := rfl
theorem hoardlaw6_heavy_calls {l0 : Sl} {Q : Value → WP} {w : World} (h : hoardlaw6_heavy l0 Q w) : Calls Try.prog id_hoardlaw6_heavy #[.slice l0.a l0.n l0.c] w fun e w' => ∃ v, e = .returned v ∧ Q v w' :=
  funJ_calls mixed Try.func16 rfl h

-- hoard/index.New[int]
def index_New_int_kp : KP := ⟨[], []⟩
def index_New_int (seed0 : Int) (Q : Value → WP) : WP := funJ idJ Try.prog index_New_int_kp Try.f17 [.int .u64 seed0] Q
theorem index_New_int_raw (jn : Jn) (seed0 : Int) (Q : Value → WP) : funJ jn Try.prog index_New_int_kp Try.f17 [.int .u64 seed0] Q = (
  makeC ty_index_place_int 32 [.int .i64 (0 : Int), .string str_empty, .int .i64 (0 : Int)] (8 : Int) (8 : Int) fun s_1 =>
  newB [.int .u64 seed0, .slice s_1.a s_1.n s_1.c, .int .i64 (0 : Int), .int .i64 (0 : Int)] ty_index_Index_int fun b_2 =>
  Q (.pointer (some ⟨b_2, 0, none⟩))) := by kernel_rfl
theorem index_New_int_def (seed0 : Int) (Q : Value → WP) : index_New_int seed0 Q = funJ idJ Try.prog index_New_int_kp Try.f17 [.int .u64 seed0] Q := rfl
theorem index_New_int_calls {seed0 : Int} {Q : Value → WP} {w : World} (h : index_New_int seed0 Q w) : Calls Try.prog id_index_New_int #[.int .u64 seed0] w fun e w' => ∃ v, e = .returned v ∧ Q v w' :=
  funJ_calls mixed Try.func17 rfl h

-- hoard/hoardlaw6.act
def hoardlaw6_act_kp : KP := ⟨[], [(3, [0, 1, 2, 3, 4, 6, 7, 8, 9, 10, 12, 13])]⟩
def hoardlaw6_act (x0 : Option Addr) (y1 : Option Addr) (a2_0 : Int) (a2_1 : Int) (a2_2 : ByteArray) (Q : Value → WP) : WP := funJ idJ Try.prog hoardlaw6_act_kp Try.f18 [.pointer x0, .pointer y1, .agg #[.int .i64 a2_0, .int .i64 a2_1, .string a2_2]] Q
theorem hoardlaw6_act_raw (jn : Jn) (x0 : Option Addr) (y1 : Option Addr) (a2_0 : Int) (a2_1 : Int) (a2_2 : ByteArray) (Q : Value → WP) : funJ jn Try.prog hoardlaw6_act_kp Try.f18 [.pointer x0, .pointer y1, .agg #[.int .i64 a2_0, .int .i64 a2_1, .string a2_2]] Q = (
  newB [.int .i64 a2_0, .int .i64 a2_1, .string a2_2] ty_hoardlaw6_Act fun b_1 =>
  ld (.int .i64) b_1 0 fun (x_2 : Int) =>
  ite2 (x_2 == (1 : Int)) (
  drawW fun S =>
  ldS S .str b_1 2 fun (x_3 : ByteArray) =>
  ldS S (.int .i64) b_1 1 fun (x_4 : Int) =>
  ldS S .str b_1 2 fun (x_5 : ByteArray) =>
  ldS S (.int .i64) b_1 1 fun (x_6 : Int) =>
  call1 .bool Try.prog id_index_Index_int_Put [.pointer x0, .string x_3, .int .i64 x_4] fun (x_7 : Bool) =>
  keepS true S <|
  call1 .bool Try.prog id_hoardref6_Index_Put [.pointer y1, .string x_5, .int .i64 x_6] fun (x_8 : Bool) =>
  Q (.bool (x_7 == x_8))) (
  ite2 (x_2 == (2 : Int)) (
  ld .str b_1 2 fun (x_9 : ByteArray) =>
  call2 (.int .i64) .bool Try.prog id_index_Index_int_Get [.pointer x0, .string x_9] fun (x_10 : Int) (x_11 : Bool) =>
  ld .str b_1 2 fun (x_12 : ByteArray) =>
  call2 (.int .i64) .bool Try.prog id_hoardref6_Index_Get [.pointer y1, .string x_12] fun (x_13 : Int) (x_14 : Bool) =>
  ite2 (x_10 == x_13) (
  Q (.bool (x_11 == x_14))) (
  Q (.bool false))) (
  ld .str b_1 2 fun (x_15 : ByteArray) =>
  call2 (.int .i64) .bool Try.prog id_index_Index_int_Delete [.pointer x0, .string x_15] fun (x_16 : Int) (x_17 : Bool) =>
  ld .str b_1 2 fun (x_18 : ByteArray) =>
  call2 (.int .i64) .bool Try.prog id_hoardref6_Index_Delete [.pointer y1, .string x_18] fun (x_19 : Int) (x_20 : Bool) =>
  ite2 (x_16 == x_19) (
  Q (.bool (x_17 == x_20))) (
  Q (.bool false))))) := by kernel_rfl
theorem hoardlaw6_act_def (x0 : Option Addr) (y1 : Option Addr) (a2_0 : Int) (a2_1 : Int) (a2_2 : ByteArray) (Q : Value → WP) : hoardlaw6_act x0 y1 a2_0 a2_1 a2_2 Q = funJ idJ Try.prog hoardlaw6_act_kp Try.f18 [.pointer x0, .pointer y1, .agg #[.int .i64 a2_0, .int .i64 a2_1, .string a2_2]] Q := rfl
theorem hoardlaw6_act_calls {x0 : Option Addr} {y1 : Option Addr} {a2_0 : Int} {a2_1 : Int} {a2_2 : ByteArray} {Q : Value → WP} {w : World} (h : hoardlaw6_act x0 y1 a2_0 a2_1 a2_2 Q w) : Calls Try.prog id_hoardlaw6_act #[.pointer x0, .pointer y1, .agg #[.int .i64 a2_0, .int .i64 a2_1, .string a2_2]] w fun e w' => ∃ v, e = .returned v ∧ Q v w' :=
  funJ_calls mixed Try.func18 rfl h

-- (*hoard/index.Index[int]).Len
def index_Index_int_Len_kp : KP := ⟨[], []⟩
def index_Index_int_Len (x0 : Option Addr) (Q : Value → WP) : WP := funJ idJ Try.prog index_Index_int_Len_kp Try.f19 [.pointer x0] Q
theorem index_Index_int_Len_raw (jn : Jn) (x0 : Option Addr) (Q : Value → WP) : funJ jn Try.prog index_Index_int_Len_kp Try.f19 [.pointer x0] Q = (
  ite2 (Option.isNone x0) (
  Q (.int .i64 (0 : Int))) (
  nilck x0 fun b_1 o_2 =>
  ld (.int .i64) b_1 (o_2 + 2) fun (x_3 : Int) =>
  Q (.int .i64 x_3))) := by kernel_rfl
theorem index_Index_int_Len_def (x0 : Option Addr) (Q : Value → WP) : index_Index_int_Len x0 Q = funJ idJ Try.prog index_Index_int_Len_kp Try.f19 [.pointer x0] Q := rfl
theorem index_Index_int_Len_calls {x0 : Option Addr} {Q : Value → WP} {w : World} (h : index_Index_int_Len x0 Q w) : Calls Try.prog id_index_Index_int_Len #[.pointer x0] w fun e w' => ∃ v, e = .returned v ∧ Q v w' :=
  funJ_calls mixed Try.func19 rfl h

-- (*hoard/hoardref6.Index).Len
def hoardref6_Index_Len_kp : KP := ⟨[], []⟩
def hoardref6_Index_Len (x0 : Option Addr) (Q : Value → WP) : WP := funJ idJ Try.prog hoardref6_Index_Len_kp Try.f20 [.pointer x0] Q
theorem hoardref6_Index_Len_raw (jn : Jn) (x0 : Option Addr) (Q : Value → WP) : funJ jn Try.prog hoardref6_Index_Len_kp Try.f20 [.pointer x0] Q = (
  nilck x0 fun b_1 o_2 =>
  ld .slc b_1 o_2 fun (x_3 : Sl) =>
  Q (.int .i64 (x_3.n : Int))) := by kernel_rfl
theorem hoardref6_Index_Len_def (x0 : Option Addr) (Q : Value → WP) : hoardref6_Index_Len x0 Q = funJ idJ Try.prog hoardref6_Index_Len_kp Try.f20 [.pointer x0] Q := rfl
theorem hoardref6_Index_Len_calls {x0 : Option Addr} {Q : Value → WP} {w : World} (h : hoardref6_Index_Len x0 Q w) : Calls Try.prog id_hoardref6_Index_Len #[.pointer x0] w fun e w' => ∃ v, e = .returned v ∧ Q v w' :=
  funJ_calls mixed Try.func20 rfl h

-- hoard/hoardlaw6.texts
def hoardlaw6_texts_kp : KP := ⟨[(11, [0, 1, 5]), (18, [])], [(6, [0, 1, 2, 3, 4, 5, 6, 8])]⟩
def hoardlaw6_texts_j2 (jn : Jn) (Q : Value → WP)   : WP := jn 18 (fun ρ => codeI Try.prog hoardlaw6_texts_kp jn (cAt [true, true, true] (bodyOf Try.f21)) (retK Try.prog Try.f21 Q) noX (retK Try.prog Try.f21 Q) ρ) (us 26 [])
def hoardlaw6_texts_l1 (jn : Jn) (Q : Value → WP)  (m1 : Nat) (a0 : Sl) (b1 : Sl) (i5 : Int) : WP := lop Try.prog hoardlaw6_texts_kp jn (cAt [true, true, false, true, false, false] (bodyOf Try.f21)) (blkX 0 (seqK Try.prog hoardlaw6_texts_kp jn (cAt [true, true, true] (bodyOf Try.f21)) (retK Try.prog Try.f21 Q) noX (retK Try.prog Try.f21 Q)) noX) (retK Try.prog Try.f21 Q) m1 ((.slice a0.a a0.n a0.c) :: (.slice b1.a b1.n b1.c) :: us 3 ((.int .i64 i5) :: us 20 []))
def hoardlaw6_texts (a0 : Sl) (b1 : Sl) (Q : Value → WP) : WP := funJ idJ Try.prog hoardlaw6_texts_kp Try.f21 [.slice a0.a a0.n a0.c, .slice b1.a b1.n b1.c] Q
theorem hoardlaw6_texts_j2_raw (jn : Jn) (Q : Value → WP)   : codeI Try.prog hoardlaw6_texts_kp jn (cAt [true, true, true] (bodyOf Try.f21)) (retK Try.prog Try.f21 Q) noX (retK Try.prog Try.f21 Q) (us 26 []) = (
  Q (.bool true)) := by kernel_rfl
theorem hoardlaw6_texts_j2_def (Q : Value → WP)   : hoardlaw6_texts_j2 idJ Q   = codeI Try.prog hoardlaw6_texts_kp idJ (cAt [true, true, true] (bodyOf Try.f21)) (retK Try.prog Try.f21 Q) noX (retK Try.prog Try.f21 Q) (us 26 []) := by kernel_rfl
theorem hoardlaw6_texts_l1_raw (jn : Jn) (Q : Value → WP)  (m1 : Nat) (a0 : Sl) (b1 : Sl) (i5 : Int) : hoardlaw6_texts_l1 jn Q  (m1 + 1) a0 b1 i5 = (
  ite2 (decide (i5 < (a0.n : Int))) (
  drawW fun S =>
  idx a0.a a0.n i5 fun b_1 o_2 =>
  ldS S .str b_1 (o_2 + (i5).toNat * 1) fun (x_3 : ByteArray) =>
  idx b1.a b1.n i5 fun b_4 o_5 =>
  ld .str b_4 (o_5 + (i5).toNat * 1) fun (x_6 : ByteArray) =>
  keepS true S <|
  ite2 (!sEq x_3 x_6) (
  Q (.bool false)) (
  hoardlaw6_texts_l1 jn Q  m1 a0 b1 (IntKind.wrap .i64 (i5 + (1 : Int))))) (
  hoardlaw6_texts_j2 jn Q  )) := by kernel_rfl
theorem hoardlaw6_texts_l1_zero (jn : Jn) (Q : Value → WP)  (a0 : Sl) (b1 : Sl) (i5 : Int) : hoardlaw6_texts_l1 jn Q  0 a0 b1 i5 = bot := by kernel_rfl
theorem hoardlaw6_texts_raw (jn : Jn) (a0 : Sl) (b1 : Sl) (Q : Value → WP) : funJ jn Try.prog hoardlaw6_texts_kp Try.f21 [.slice a0.a a0.n a0.c, .slice b1.a b1.n b1.c] Q = (
  ite2 ((a0.n : Int) != (b1.n : Int)) (
  Q (.bool false)) (
  exM fun m => hoardlaw6_texts_l1 jn Q  m a0 b1 (0 : Int))) := by kernel_rfl
theorem hoardlaw6_texts_def (a0 : Sl) (b1 : Sl) (Q : Value → WP) : hoardlaw6_texts a0 b1 Q = funJ idJ Try.prog hoardlaw6_texts_kp Try.f21 [.slice a0.a a0.n a0.c, .slice b1.a b1.n b1.c] Q := rfl
theorem hoardlaw6_texts_calls {a0 : Sl} {b1 : Sl} {Q : Value → WP} {w : World} (h : hoardlaw6_texts a0 b1 Q w) : Calls Try.prog id_hoardlaw6_texts #[.slice a0.a a0.n a0.c, .slice b1.a b1.n b1.c] w fun e w' => ∃ v, e = .returned v ∧ Q v w' :=
  funJ_calls mixed Try.func21 rfl h

-- (*hoard/index.Index[int]).Keys
def index_Index_int_Keys_kp : KP := ⟨[(13, [3, 11, 12, 13]), (22, [3])], []⟩
def index_Index_int_Keys_j2 (jn : Jn) (Q : Value → WP)  (l3 : Sl) : WP := jn 22 (fun ρ => codeI Try.prog index_Index_int_Keys_kp jn (cAt [true, true, true, true] (bodyOf Try.f22)) (retK Try.prog Try.f22 Q) noX (retK Try.prog Try.f22 Q) ρ) (us 3 ((.slice l3.a l3.n l3.c) :: us 25 []))
def index_Index_int_Keys_l1 (jn : Jn) (Q : Value → WP)  (m1 : Nat) (l3 : Sl) (t11 : Sl) (t12 : Int) (t13 : Int) : WP := lop Try.prog index_Index_int_Keys_kp jn (cAt [true, true, true, false, true, false, false] (bodyOf Try.f22)) (blkX 0 (seqK Try.prog index_Index_int_Keys_kp jn (cAt [true, true, true, true] (bodyOf Try.f22)) (retK Try.prog Try.f22 Q) noX (retK Try.prog Try.f22 Q)) noX) (retK Try.prog Try.f22 Q) m1 (us 3 ((.slice l3.a l3.n l3.c) :: us 7 ((.slice t11.a t11.n t11.c) :: (.int .i64 t12) :: (.int .i64 t13) :: us 15 [])))
def index_Index_int_Keys (x0 : Option Addr) (Q : Value → WP) : WP := funJ idJ Try.prog index_Index_int_Keys_kp Try.f22 [.pointer x0] Q
theorem index_Index_int_Keys_j2_raw (jn : Jn) (Q : Value → WP)  (l3 : Sl) : codeI Try.prog index_Index_int_Keys_kp jn (cAt [true, true, true, true] (bodyOf Try.f22)) (retK Try.prog Try.f22 Q) noX (retK Try.prog Try.f22 Q) (us 3 ((.slice l3.a l3.n l3.c) :: us 25 [])) = (
  call0 Try.prog id_slices_Sort_s_string_string [.slice l3.a l3.n l3.c] <|
  Q (.slice l3.a l3.n l3.c)) := by kernel_rfl
theorem index_Index_int_Keys_j2_def (Q : Value → WP)  (l3 : Sl) : index_Index_int_Keys_j2 idJ Q  l3 = codeI Try.prog index_Index_int_Keys_kp idJ (cAt [true, true, true, true] (bodyOf Try.f22)) (retK Try.prog Try.f22 Q) noX (retK Try.prog Try.f22 Q) (us 3 ((.slice l3.a l3.n l3.c) :: us 25 [])) := by kernel_rfl
theorem index_Index_int_Keys_l1_raw (jn : Jn) (Q : Value → WP)  (m1 : Nat) (l3 : Sl) (t11 : Sl) (t12 : Int) (t13 : Int) : index_Index_int_Keys_l1 jn Q  (m1 + 1) l3 t11 t12 t13 = (
  ite2 (decide (t13 < t12)) (
  idx t11.a t11.n t13 fun b_4 o_5 =>
  ld (.int .i64) b_4 (o_5 + (t13).toNat * 3) fun (x_6 : Int) =>
  ld .str b_4 ((o_5 + (t13).toNat * 3) + 1) fun (x_7 : ByteArray) =>
  ld (.int .i64) b_4 (((o_5 + (t13).toNat * 3) + 1) + 1) fun (x_8 : Int) =>
  newB [.int .i64 (0 : Int), .string str_empty, .int .i64 (0 : Int)] ty_index_place_int fun b_9 =>
  st b_9 0 (.int .i64 x_6) <|
  st b_9 1 (.string x_7) <|
  st b_9 2 (.int .i64 x_8) <|
  ld (.int .i64) b_9 0 fun (x_10 : Int) =>
  ite2 (x_10 == (2 : Int)) (
  ld .str b_9 1 fun (x_11 : ByteArray) =>
  newB [.string x_11] ty_string fun b_12 =>
  appendC ty_string 1 16 [.string str_empty] ⟨l3.a, l3.n, l3.c⟩ 1 (fun w => rdA w (some ⟨b_12, 0, none⟩) (1 * 1)) fun s_13 =>
  index_Index_int_Keys_l1 jn Q  m1 s_13 t11 t12 (IntKind.wrap .i64 (t13 + (1 : Int)))) (
  index_Index_int_Keys_l1 jn Q  m1 l3 t11 t12 (IntKind.wrap .i64 (t13 + (1 : Int))))) (
  index_Index_int_Keys_j2 jn Q  l3)) := by kernel_rfl
theorem index_Index_int_Keys_l1_zero (jn : Jn) (Q : Value → WP)  (l3 : Sl) (t11 : Sl) (t12 : Int) (t13 : Int) : index_Index_int_Keys_l1 jn Q  0 l3 t11 t12 t13 = bot := by kernel_rfl
theorem index_Index_int_Keys_raw (jn : Jn) (x0 : Option Addr) (Q : Value → WP) : funJ jn Try.prog index_Index_int_Keys_kp Try.f22 [.pointer x0] Q = (
  ite2 (Option.isNone x0) (
  Q (.slice (none : Option Addr) 0 0)) (
  nilck x0 fun b_1 o_2 =>
  ld .slc b_1 (o_2 + 1) fun (x_3 : Sl) =>
  exM fun m => index_Index_int_Keys_l1 jn Q  m ⟨(none : Option Addr), 0, 0⟩ x_3 (x_3.n : Int) (0 : Int))) := by kernel_rfl
theorem index_Index_int_Keys_def (x0 : Option Addr) (Q : Value → WP) : index_Index_int_Keys x0 Q = funJ idJ Try.prog index_Index_int_Keys_kp Try.f22 [.pointer x0] Q := rfl
theorem index_Index_int_Keys_calls {x0 : Option Addr} {Q : Value → WP} {w : World} (h : index_Index_int_Keys x0 Q w) : Calls Try.prog id_index_Index_int_Keys #[.pointer x0] w fun e w' => ∃ v, e = .returned v ∧ Q v w' :=
  funJ_calls mixed Try.func22 rfl h

-- (*hoard/hoardref6.Index).Keys
def hoardref6_Index_Keys_kp : KP := ⟨[(9, [0, 3, 4]), (14, [3])], []⟩
def hoardref6_Index_Keys_j2 (jn : Jn) (Q : Value → WP)  (l3 : Sl) : WP := jn 14 (fun ρ => codeI Try.prog hoardref6_Index_Keys_kp jn (cAt [true, true, true] (bodyOf Try.f23)) (retK Try.prog Try.f23 Q) noX (retK Try.prog Try.f23 Q) ρ) (us 3 ((.slice l3.a l3.n l3.c) :: us 22 []))
def hoardref6_Index_Keys_l1 (jn : Jn) (Q : Value → WP)  (m1 : Nat) (x0 : Option Addr) (l3 : Sl) (i4 : Int) : WP := lop Try.prog hoardref6_Index_Keys_kp jn (cAt [true, true, false, true, false, false] (bodyOf Try.f23)) (blkX 0 (seqK Try.prog hoardref6_Index_Keys_kp jn (cAt [true, true, true] (bodyOf Try.f23)) (retK Try.prog Try.f23 Q) noX (retK Try.prog Try.f23 Q)) noX) (retK Try.prog Try.f23 Q) m1 ((.pointer x0) :: us 2 ((.slice l3.a l3.n l3.c) :: (.int .i64 i4) :: us 21 []))
def hoardref6_Index_Keys (x0 : Option Addr) (Q : Value → WP) : WP := funJ idJ Try.prog hoardref6_Index_Keys_kp Try.f23 [.pointer x0] Q
theorem hoardref6_Index_Keys_j2_raw (jn : Jn) (Q : Value → WP)  (l3 : Sl) : codeI Try.prog hoardref6_Index_Keys_kp jn (cAt [true, true, true] (bodyOf Try.f23)) (retK Try.prog Try.f23 Q) noX (retK Try.prog Try.f23 Q) (us 3 ((.slice l3.a l3.n l3.c) :: us 22 [])) = (
  Q (.slice l3.a l3.n l3.c)) := by kernel_rfl
theorem hoardref6_Index_Keys_j2_def (Q : Value → WP)  (l3 : Sl) : hoardref6_Index_Keys_j2 idJ Q  l3 = codeI Try.prog hoardref6_Index_Keys_kp idJ (cAt [true, true, true] (bodyOf Try.f23)) (retK Try.prog Try.f23 Q) noX (retK Try.prog Try.f23 Q) (us 3 ((.slice l3.a l3.n l3.c) :: us 22 [])) := by kernel_rfl
theorem hoardref6_Index_Keys_l1_raw (jn : Jn) (Q : Value → WP)  (m1 : Nat) (x0 : Option Addr) (l3 : Sl) (i4 : Int) : hoardref6_Index_Keys_l1 jn Q  (m1 + 1) x0 l3 i4 = (
  nilck x0 fun b_1 o_2 =>
  ld .slc b_1 o_2 fun (x_3 : Sl) =>
  ite2 (decide (i4 < (x_3.n : Int))) (
  nilck x0 fun b_4 o_5 =>
  ld .slc b_4 o_5 fun (x_6 : Sl) =>
  idx x_6.a x_6.n i4 fun b_7 o_8 =>
  ld .str b_7 (o_8 + (i4).toNat * 2) fun (x_9 : ByteArray) =>
  newB [.string x_9] ty_string fun b_10 =>
  appendC ty_string 1 16 [.string str_empty] ⟨l3.a, l3.n, l3.c⟩ 1 (fun w => rdA w (some ⟨b_10, 0, none⟩) (1 * 1)) fun s_11 =>
  hoardref6_Index_Keys_l1 jn Q  m1 x0 s_11 (IntKind.wrap .i64 (i4 + (1 : Int)))) (
  hoardref6_Index_Keys_j2 jn Q  l3)) := by kernel_rfl
theorem hoardref6_Index_Keys_l1_zero (jn : Jn) (Q : Value → WP)  (x0 : Option Addr) (l3 : Sl) (i4 : Int) : hoardref6_Index_Keys_l1 jn Q  0 x0 l3 i4 = bot := by kernel_rfl
theorem hoardref6_Index_Keys_raw (jn : Jn) (x0 : Option Addr) (Q : Value → WP) : funJ jn Try.prog hoardref6_Index_Keys_kp Try.f23 [.pointer x0] Q = (
  exM fun m => hoardref6_Index_Keys_l1 jn Q  m x0 ⟨(none : Option Addr), 0, 0⟩ (0 : Int)) := by kernel_rfl
theorem hoardref6_Index_Keys_def (x0 : Option Addr) (Q : Value → WP) : hoardref6_Index_Keys x0 Q = funJ idJ Try.prog hoardref6_Index_Keys_kp Try.f23 [.pointer x0] Q := rfl
theorem hoardref6_Index_Keys_calls {x0 : Option Addr} {Q : Value → WP} {w : World} (h : hoardref6_Index_Keys x0 Q w) : Calls Try.prog id_hoardref6_Index_Keys #[.pointer x0] w fun e w' => ∃ v, e = .returned v ∧ Q v w' :=
  funJ_calls mixed Try.func23 rfl h

-- (*hoard/index.Index[int]).Put
def index_Index_int_Put_kp : KP := ⟨[], [(8, [0, 1, 2, 3, 4, 5, 6, 7, 9, 10])]⟩
def index_Index_int_Put (x0 : Option Addr) (key1 : ByteArray) (v2 : Int) (Q : Value → WP) : WP := funJ idJ Try.prog index_Index_int_Put_kp Try.f24 [.pointer x0, .string key1, .int .i64 v2] Q
theorem index_Index_int_Put_raw (jn : Jn) (x0 : Option Addr) (key1 : ByteArray) (v2 : Int) (Q : Value → WP) : funJ jn Try.prog index_Index_int_Put_kp Try.f24 [.pointer x0, .string key1, .int .i64 v2] Q = (
  ite2 (Option.isNone x0) (
  Q (.bool false)) (
  call2 (.int .i64) .bool Try.prog id_index_Index_int_find [.pointer x0, .string key1] fun (x_1 : Int) (x_2 : Bool) =>
  ite2 x_2 (
  nilck x0 fun b_3 o_4 =>
  ld .slc b_3 (o_4 + 1) fun (x_5 : Sl) =>
  idx x_5.a x_5.n x_1 fun b_6 o_7 =>
  st b_6 ((o_7 + (x_1).toNat * 3) + 2) (.int .i64 v2) <|
  Q (.bool false)) (
  call0 Try.prog id_index_Index_int_lays [.pointer x0, .int .i64 x_1, .string key1, .int .i64 v2] <|
  drawW fun S =>
  nilck x0 fun b_8 o_9 =>
  ldS S (.int .i64) b_8 (o_9 + 3) fun (x_10 : Int) =>
  nilck x0 fun b_11 o_12 =>
  ld .slc b_11 (o_12 + 1) fun (x_13 : Sl) =>
  keepS true S <|
  ite2 (decide ((IntKind.wrap .i64 ((2 : Int) * x_10)) > (x_13.n : Int))) (
  call0 Try.prog id_index_Index_int_grows [.pointer x0] <|
  Q (.bool true)) (
  Q (.bool true))))) := by kernel_rfl
theorem index_Index_int_Put_def (x0 : Option Addr) (key1 : ByteArray) (v2 : Int) (Q : Value → WP) : index_Index_int_Put x0 key1 v2 Q = funJ idJ Try.prog index_Index_int_Put_kp Try.f24 [.pointer x0, .string key1, .int .i64 v2] Q := rfl
theorem index_Index_int_Put_calls {x0 : Option Addr} {key1 : ByteArray} {v2 : Int} {Q : Value → WP} {w : World} (h : index_Index_int_Put x0 key1 v2 Q w) : Calls Try.prog id_index_Index_int_Put #[.pointer x0, .string key1, .int .i64 v2] w fun e w' => ∃ v, e = .returned v ∧ Q v w' :=
  funJ_calls mixed Try.func24 rfl h

-- (*hoard/index.Index[int]).Delete
def index_Index_int_Delete_kp : KP := ⟨[], []⟩
def index_Index_int_Delete (x0 : Option Addr) (key1 : ByteArray) (Q : Value → WP) : WP := funJ idJ Try.prog index_Index_int_Delete_kp Try.f25 [.pointer x0, .string key1] Q
theorem index_Index_int_Delete_raw (jn : Jn) (x0 : Option Addr) (key1 : ByteArray) (Q : Value → WP) : funJ jn Try.prog index_Index_int_Delete_kp Try.f25 [.pointer x0, .string key1] Q = (
  call2 (.int .i64) .bool Try.prog id_index_Index_int_Get [.pointer x0, .string key1] fun (x_1 : Int) (x_2 : Bool) =>
  ite2 x_2 (
  call2 (.int .i64) .bool Try.prog id_index_Index_int_find [.pointer x0, .string key1] fun (x_3 : Int) (x_4 : Bool) =>
  nilck x0 fun b_5 o_6 =>
  ld .slc b_5 (o_6 + 1) fun (x_7 : Sl) =>
  idx x_7.a x_7.n x_3 fun b_8 o_9 =>
  st b_8 (o_9 + (x_3).toNat * 3) (.int .i64 (1 : Int)) <|
  st b_8 ((o_9 + (x_3).toNat * 3) + 1) (.string str_empty) <|
  st b_8 (((o_9 + (x_3).toNat * 3) + 1) + 1) (.int .i64 (0 : Int)) <|
  nilck x0 fun b_10 o_11 =>
  ld (.int .i64) b_10 (o_11 + 2) fun (x_12 : Int) =>
  nilck x0 fun b_13 o_14 =>
  st b_13 (o_14 + 2) (.int .i64 (IntKind.wrap .i64 (x_12 - (1 : Int)))) <|
  Q (.tuple #[.int .i64 x_1, .bool x_2])) (
  Q (.tuple #[.int .i64 x_1, .bool x_2]))) := by kernel_rfl
theorem index_Index_int_Delete_def (x0 : Option Addr) (key1 : ByteArray) (Q : Value → WP) : index_Index_int_Delete x0 key1 Q = funJ idJ Try.prog index_Index_int_Delete_kp Try.f25 [.pointer x0, .string key1] Q := rfl
theorem index_Index_int_Delete_calls {x0 : Option Addr} {key1 : ByteArray} {Q : Value → WP} {w : World} (h : index_Index_int_Delete x0 key1 Q w) : Calls Try.prog id_index_Index_int_Delete #[.pointer x0, .string key1] w fun e w' => ∃ v, e = .returned v ∧ Q v w' :=
  funJ_calls mixed Try.func25 rfl h

-- (*hoard/index.Index[int]).Get
def index_Index_int_Get_kp : KP := ⟨[], []⟩
def index_Index_int_Get (x0 : Option Addr) (key1 : ByteArray) (Q : Value → WP) : WP := funJ idJ Try.prog index_Index_int_Get_kp Try.f26 [.pointer x0, .string key1] Q
theorem index_Index_int_Get_raw (jn : Jn) (x0 : Option Addr) (key1 : ByteArray) (Q : Value → WP) : funJ jn Try.prog index_Index_int_Get_kp Try.f26 [.pointer x0, .string key1] Q = (
  ite2 (!Option.isNone x0) (
  call2 (.int .i64) .bool Try.prog id_index_Index_int_find [.pointer x0, .string key1] fun (x_1 : Int) (x_2 : Bool) =>
  ite2 x_2 (
  nilck x0 fun b_3 o_4 =>
  ld .slc b_3 (o_4 + 1) fun (x_5 : Sl) =>
  idx x_5.a x_5.n x_1 fun b_6 o_7 =>
  ld (.int .i64) b_6 ((o_7 + (x_1).toNat * 3) + 2) fun (x_8 : Int) =>
  Q (.tuple #[.int .i64 x_8, .bool true])) (
  Q (.tuple #[.int .i64 (0 : Int), .bool false]))) (
  Q (.tuple #[.int .i64 (0 : Int), .bool false]))) := by kernel_rfl
theorem index_Index_int_Get_def (x0 : Option Addr) (key1 : ByteArray) (Q : Value → WP) : index_Index_int_Get x0 key1 Q = funJ idJ Try.prog index_Index_int_Get_kp Try.f26 [.pointer x0, .string key1] Q := rfl
theorem index_Index_int_Get_calls {x0 : Option Addr} {key1 : ByteArray} {Q : Value → WP} {w : World} (h : index_Index_int_Get x0 key1 Q w) : Calls Try.prog id_index_Index_int_Get #[.pointer x0, .string key1] w fun e w' => ∃ v, e = .returned v ∧ Q v w' :=
  funJ_calls mixed Try.func26 rfl h

-- (*hoard/index.Index[string]).find
def index_Index_string_find_kp : KP := ⟨[(8, [0, 1, 6, 7]), (11, [0, 1, 6, 7]), (14, [0, 1, 6, 7, 8, 35]), (18, [0, 1, 6, 7, 8, 50]), (22, [0, 1, 6, 7, 8, 61])], [(2, [0, 1, 2, 3, 4, 6, 7, 8, 9, 10, 12])]⟩
def index_Index_string_find_j4 (jn : Jn) (Q : Value → WP) (m1 : Nat) (x0 : Option Addr) (key1 : ByteArray) (free6 : Int) (i7 : Int) : WP := jn 8 (fun ρ => codeI Try.prog index_Index_string_find_kp jn (cAt [true, true, true, false, false, true] (bodyOf Try.f27)) (lopK Try.prog index_Index_string_find_kp jn (cAt [true, true, true, false, false] (bodyOf Try.f27)) (blkX 0 (retK Try.prog Try.f27 Q) noX) (retK Try.prog Try.f27 Q) m1) (blkX 0 (retK Try.prog Try.f27 Q) noX) (retK Try.prog Try.f27 Q) ρ) ((.pointer x0) :: (.string key1) :: us 4 ((.int .i64 free6) :: (.int .i64 i7) :: us 71 []))
def index_Index_string_find_j5 (jn : Jn) (Q : Value → WP) (m1 : Nat) (x0 : Option Addr) (key1 : ByteArray) (free6 : Int) (i7 : Int) (p8_b : Nat) (p8_o : Nat) (t61 : Bool) : WP := jn 22 (fun ρ => codeI Try.prog index_Index_string_find_kp jn (cAt [true, true, true, false, false, false, false, true, false, true, true, true, true, true] (bodyOf Try.f27)) (seqK Try.prog index_Index_string_find_kp jn (cAt [true, true, true, false, false, true] (bodyOf Try.f27)) (lopK Try.prog index_Index_string_find_kp jn (cAt [true, true, true, false, false] (bodyOf Try.f27)) (blkX 0 (retK Try.prog Try.f27 Q) noX) (retK Try.prog Try.f27 Q) m1) (blkX 0 (retK Try.prog Try.f27 Q) noX) (retK Try.prog Try.f27 Q)) (blkX 2 (seqK Try.prog index_Index_string_find_kp jn (cAt [true, true, true, false, false, true] (bodyOf Try.f27)) (lopK Try.prog index_Index_string_find_kp jn (cAt [true, true, true, false, false] (bodyOf Try.f27)) (blkX 0 (retK Try.prog Try.f27 Q) noX) (retK Try.prog Try.f27 Q) m1) (blkX 0 (retK Try.prog Try.f27 Q) noX) (retK Try.prog Try.f27 Q)) (blkX 1 (seqK Try.prog index_Index_string_find_kp jn (cAt [true, true, true, false, false, true] (bodyOf Try.f27)) (lopK Try.prog index_Index_string_find_kp jn (cAt [true, true, true, false, false] (bodyOf Try.f27)) (blkX 0 (retK Try.prog Try.f27 Q) noX) (retK Try.prog Try.f27 Q) m1) (blkX 0 (retK Try.prog Try.f27 Q) noX) (retK Try.prog Try.f27 Q)) (blkX 0 (retK Try.prog Try.f27 Q) noX))) (retK Try.prog Try.f27 Q) ρ) ((.pointer x0) :: (.string key1) :: us 4 ((.int .i64 free6) :: (.int .i64 i7) :: (.pointer (some ⟨p8_b, p8_o, none⟩)) :: us 52 ((.bool t61) :: us 17 [])))
def index_Index_string_find_j3 (jn : Jn) (Q : Value → WP) (m1 : Nat) (x0 : Option Addr) (key1 : ByteArray) (free6 : Int) (i7 : Int) (p8_b : Nat) (p8_o : Nat) (t50 : Bool) : WP := jn 18 (fun ρ => codeI Try.prog index_Index_string_find_kp jn (cAt [true, true, true, false, false, false, false, true, false, true, true, true] (bodyOf Try.f27)) (seqK Try.prog index_Index_string_find_kp jn (cAt [true, true, true, false, false, true] (bodyOf Try.f27)) (lopK Try.prog index_Index_string_find_kp jn (cAt [true, true, true, false, false] (bodyOf Try.f27)) (blkX 0 (retK Try.prog Try.f27 Q) noX) (retK Try.prog Try.f27 Q) m1) (blkX 0 (retK Try.prog Try.f27 Q) noX) (retK Try.prog Try.f27 Q)) (blkX 2 (seqK Try.prog index_Index_string_find_kp jn (cAt [true, true, true, false, false, true] (bodyOf Try.f27)) (lopK Try.prog index_Index_string_find_kp jn (cAt [true, true, true, false, false] (bodyOf Try.f27)) (blkX 0 (retK Try.prog Try.f27 Q) noX) (retK Try.prog Try.f27 Q) m1) (blkX 0 (retK Try.prog Try.f27 Q) noX) (retK Try.prog Try.f27 Q)) (blkX 1 (seqK Try.prog index_Index_string_find_kp jn (cAt [true, true, true, false, false, true] (bodyOf Try.f27)) (lopK Try.prog index_Index_string_find_kp jn (cAt [true, true, true, false, false] (bodyOf Try.f27)) (blkX 0 (retK Try.prog Try.f27 Q) noX) (retK Try.prog Try.f27 Q) m1) (blkX 0 (retK Try.prog Try.f27 Q) noX) (retK Try.prog Try.f27 Q)) (blkX 0 (retK Try.prog Try.f27 Q) noX))) (retK Try.prog Try.f27 Q) ρ) ((.pointer x0) :: (.string key1) :: us 4 ((.int .i64 free6) :: (.int .i64 i7) :: (.pointer (some ⟨p8_b, p8_o, none⟩)) :: us 41 ((.bool t50) :: us 28 [])))
def index_Index_string_find_j2 (jn : Jn) (Q : Value → WP) (m1 : Nat) (x0 : Option Addr) (key1 : ByteArray) (free6 : Int) (i7 : Int) (p8_b : Nat) (p8_o : Nat) (t35 : Bool) : WP := jn 14 (fun ρ => codeI Try.prog index_Index_string_find_kp jn (cAt [true, true, true, false, false, false, false, true, false, true] (bodyOf Try.f27)) (seqK Try.prog index_Index_string_find_kp jn (cAt [true, true, true, false, false, true] (bodyOf Try.f27)) (lopK Try.prog index_Index_string_find_kp jn (cAt [true, true, true, false, false] (bodyOf Try.f27)) (blkX 0 (retK Try.prog Try.f27 Q) noX) (retK Try.prog Try.f27 Q) m1) (blkX 0 (retK Try.prog Try.f27 Q) noX) (retK Try.prog Try.f27 Q)) (blkX 2 (seqK Try.prog index_Index_string_find_kp jn (cAt [true, true, true, false, false, true] (bodyOf Try.f27)) (lopK Try.prog index_Index_string_find_kp jn (cAt [true, true, true, false, false] (bodyOf Try.f27)) (blkX 0 (retK Try.prog Try.f27 Q) noX) (retK Try.prog Try.f27 Q) m1) (blkX 0 (retK Try.prog Try.f27 Q) noX) (retK Try.prog Try.f27 Q)) (blkX 1 (seqK Try.prog index_Index_string_find_kp jn (cAt [true, true, true, false, false, true] (bodyOf Try.f27)) (lopK Try.prog index_Index_string_find_kp jn (cAt [true, true, true, false, false] (bodyOf Try.f27)) (blkX 0 (retK Try.prog Try.f27 Q) noX) (retK Try.prog Try.f27 Q) m1) (blkX 0 (retK Try.prog Try.f27 Q) noX) (retK Try.prog Try.f27 Q)) (blkX 0 (retK Try.prog Try.f27 Q) noX))) (retK Try.prog Try.f27 Q) ρ) ((.pointer x0) :: (.string key1) :: us 4 ((.int .i64 free6) :: (.int .i64 i7) :: (.pointer (some ⟨p8_b, p8_o, none⟩)) :: us 26 ((.bool t35) :: us 43 [])))
def index_Index_string_find_l1 (jn : Jn) (Q : Value → WP)  (m1 : Nat) (x0 : Option Addr) (key1 : ByteArray) (free6 : Int) (i7 : Int) : WP := lop Try.prog index_Index_string_find_kp jn (cAt [true, true, true, false, false] (bodyOf Try.f27)) (blkX 0 (retK Try.prog Try.f27 Q) noX) (retK Try.prog Try.f27 Q) m1 ((.pointer x0) :: (.string key1) :: us 4 ((.int .i64 free6) :: (.int .i64 i7) :: us 71 []))
def index_Index_string_find (x0 : Option Addr) (key1 : ByteArray) (Q : Value → WP) : WP := funJ idJ Try.prog index_Index_string_find_kp Try.f27 [.pointer x0, .string key1] Q
theorem index_Index_string_find_j4_raw (jn : Jn) (Q : Value → WP) (m1 : Nat) (x0 : Option Addr) (key1 : ByteArray) (free6 : Int) (i7 : Int) : codeI Try.prog index_Index_string_find_kp jn (cAt [true, true, true, false, false, true] (bodyOf Try.f27)) (lopK Try.prog index_Index_string_find_kp jn (cAt [true, true, true, false, false] (bodyOf Try.f27)) (blkX 0 (retK Try.prog Try.f27 Q) noX) (retK Try.prog Try.f27 Q) m1) (blkX 0 (retK Try.prog Try.f27 Q) noX) (retK Try.prog Try.f27 Q) ((.pointer x0) :: (.string key1) :: us 4 ((.int .i64 free6) :: (.int .i64 i7) :: us 71 [])) = (
  nilck x0 fun b_23 o_24 =>
  ld .slc b_23 (o_24 + 1) fun (x_25 : Sl) =>
  when ((x_25.n : Int) ≠ 0) <|
  index_Index_string_find_l1 jn Q  m1 x0 key1 free6 (Int.tmod (IntKind.wrap .i64 (i7 + (1 : Int))) (x_25.n : Int))) := by kernel_rfl
theorem index_Index_string_find_j4_def (Q : Value → WP) (m1 : Nat) (x0 : Option Addr) (key1 : ByteArray) (free6 : Int) (i7 : Int) : index_Index_string_find_j4 idJ Q m1 x0 key1 free6 i7 = codeI Try.prog index_Index_string_find_kp idJ (cAt [true, true, true, false, false, true] (bodyOf Try.f27)) (lopK Try.prog index_Index_string_find_kp idJ (cAt [true, true, true, false, false] (bodyOf Try.f27)) (blkX 0 (retK Try.prog Try.f27 Q) noX) (retK Try.prog Try.f27 Q) m1) (blkX 0 (retK Try.prog Try.f27 Q) noX) (retK Try.prog Try.f27 Q) ((.pointer x0) :: (.string key1) :: us 4 ((.int .i64 free6) :: (.int .i64 i7) :: us 71 [])) := by kernel_rfl
theorem index_Index_string_find_j5_raw (jn : Jn) (Q : Value → WP) (m1 : Nat) (x0 : Option Addr) (key1 : ByteArray) (free6 : Int) (i7 : Int) (p8_b : Nat) (p8_o : Nat) (t61 : Bool) : codeI Try.prog index_Index_string_find_kp jn (cAt [true, true, true, false, false, false, false, true, false, true, true, true, true, true] (bodyOf Try.f27)) (seqK Try.prog index_Index_string_find_kp jn (cAt [true, true, true, false, false, true] (bodyOf Try.f27)) (lopK Try.prog index_Index_string_find_kp jn (cAt [true, true, true, false, false] (bodyOf Try.f27)) (blkX 0 (retK Try.prog Try.f27 Q) noX) (retK Try.prog Try.f27 Q) m1) (blkX 0 (retK Try.prog Try.f27 Q) noX) (retK Try.prog Try.f27 Q)) (blkX 2 (seqK Try.prog index_Index_string_find_kp jn (cAt [true, true, true, false, false, true] (bodyOf Try.f27)) (lopK Try.prog index_Index_string_find_kp jn (cAt [true, true, true, false, false] (bodyOf Try.f27)) (blkX 0 (retK Try.prog Try.f27 Q) noX) (retK Try.prog Try.f27 Q) m1) (blkX 0 (retK Try.prog Try.f27 Q) noX) (retK Try.prog Try.f27 Q)) (blkX 1 (seqK Try.prog index_Index_string_find_kp jn (cAt [true, true, true, false, false, true] (bodyOf Try.f27)) (lopK Try.prog index_Index_string_find_kp jn (cAt [true, true, true, false, false] (bodyOf Try.f27)) (blkX 0 (retK Try.prog Try.f27 Q) noX) (retK Try.prog Try.f27 Q) m1) (blkX 0 (retK Try.prog Try.f27 Q) noX) (retK Try.prog Try.f27 Q)) (blkX 0 (retK Try.prog Try.f27 Q) noX))) (retK Try.prog Try.f27 Q) ((.pointer x0) :: (.string key1) :: us 4 ((.int .i64 free6) :: (.int .i64 i7) :: (.pointer (some ⟨p8_b, p8_o, none⟩)) :: us 52 ((.bool t61) :: us 17 []))) = (
  ite2 t61 (
  Q (.tuple #[.int .i64 i7, .bool false])) (
  nilck (some ⟨p8_b, p8_o, none⟩) fun b_29 o_30 =>
  ld (.int .i64) b_29 o_30 fun (x_31 : Int) =>
  ite2 (x_31 == (0 : Int)) (
  Q (.tuple #[.int .i64 free6, .bool false])) (
  index_Index_string_find_j4 jn Q m1 x0 key1 free6 i7))) := by kernel_rfl
theorem index_Index_string_find_j5_def (Q : Value → WP) (m1 : Nat) (x0 : Option Addr) (key1 : ByteArray) (free6 : Int) (i7 : Int) (p8_b : Nat) (p8_o : Nat) (t61 : Bool) : index_Index_string_find_j5 idJ Q m1 x0 key1 free6 i7 p8_b p8_o t61 = codeI Try.prog index_Index_string_find_kp idJ (cAt [true, true, true, false, false, false, false, true, false, true, true, true, true, true] (bodyOf Try.f27)) (seqK Try.prog index_Index_string_find_kp idJ (cAt [true, true, true, false, false, true] (bodyOf Try.f27)) (lopK Try.prog index_Index_string_find_kp idJ (cAt [true, true, true, false, false] (bodyOf Try.f27)) (blkX 0 (retK Try.prog Try.f27 Q) noX) (retK Try.prog Try.f27 Q) m1) (blkX 0 (retK Try.prog Try.f27 Q) noX) (retK Try.prog Try.f27 Q)) (blkX 2 (seqK Try.prog index_Index_string_find_kp idJ (cAt [true, true, true, false, false, true] (bodyOf Try.f27)) (lopK Try.prog index_Index_string_find_kp idJ (cAt [true, true, true, false, false] (bodyOf Try.f27)) (blkX 0 (retK Try.prog Try.f27 Q) noX) (retK Try.prog Try.f27 Q) m1) (blkX 0 (retK Try.prog Try.f27 Q) noX) (retK Try.prog Try.f27 Q)) (blkX 1 (seqK Try.prog index_Index_string_find_kp idJ (cAt [true, true, true, false, false, true] (bodyOf Try.f27)) (lopK Try.prog index_Index_string_find_kp idJ (cAt [true, true, true, false, false] (bodyOf Try.f27)) (blkX 0 (retK Try.prog Try.f27 Q) noX) (retK Try.prog Try.f27 Q) m1) (blkX 0 (retK Try.prog Try.f27 Q) noX) (retK Try.prog Try.f27 Q)) (blkX 0 (retK Try.prog Try.f27 Q) noX))) (retK Try.prog Try.f27 Q) ((.pointer x0) :: (.string key1) :: us 4 ((.int .i64 free6) :: (.int .i64 i7) :: (.pointer (some ⟨p8_b, p8_o, none⟩)) :: us 52 ((.bool t61) :: us 17 []))) := by kernel_rfl
theorem index_Index_string_find_j3_raw (jn : Jn) (Q : Value → WP) (m1 : Nat) (x0 : Option Addr) (key1 : ByteArray) (free6 : Int) (i7 : Int) (p8_b : Nat) (p8_o : Nat) (t50 : Bool) : codeI Try.prog index_Index_string_find_kp jn (cAt [true, true, true, false, false, false, false, true, false, true, true, true] (bodyOf Try.f27)) (seqK Try.prog index_Index_string_find_kp jn (cAt [true, true, true, false, false, true] (bodyOf Try.f27)) (lopK Try.prog index_Index_string_find_kp jn (cAt [true, true, true, false, false] (bodyOf Try.f27)) (blkX 0 (retK Try.prog Try.f27 Q) noX) (retK Try.prog Try.f27 Q) m1) (blkX 0 (retK Try.prog Try.f27 Q) noX) (retK Try.prog Try.f27 Q)) (blkX 2 (seqK Try.prog index_Index_string_find_kp jn (cAt [true, true, true, false, false, true] (bodyOf Try.f27)) (lopK Try.prog index_Index_string_find_kp jn (cAt [true, true, true, false, false] (bodyOf Try.f27)) (blkX 0 (retK Try.prog Try.f27 Q) noX) (retK Try.prog Try.f27 Q) m1) (blkX 0 (retK Try.prog Try.f27 Q) noX) (retK Try.prog Try.f27 Q)) (blkX 1 (seqK Try.prog index_Index_string_find_kp jn (cAt [true, true, true, false, false, true] (bodyOf Try.f27)) (lopK Try.prog index_Index_string_find_kp jn (cAt [true, true, true, false, false] (bodyOf Try.f27)) (blkX 0 (retK Try.prog Try.f27 Q) noX) (retK Try.prog Try.f27 Q) m1) (blkX 0 (retK Try.prog Try.f27 Q) noX) (retK Try.prog Try.f27 Q)) (blkX 0 (retK Try.prog Try.f27 Q) noX))) (retK Try.prog Try.f27 Q) ((.pointer x0) :: (.string key1) :: us 4 ((.int .i64 free6) :: (.int .i64 i7) :: (.pointer (some ⟨p8_b, p8_o, none⟩)) :: us 41 ((.bool t50) :: us 28 []))) = (
  ite2 t50 (
  index_Index_string_find_j4 jn Q m1 x0 key1 i7 i7) (
  nilck (some ⟨p8_b, p8_o, none⟩) fun b_26 o_27 =>
  ld (.int .i64) b_26 o_27 fun (x_28 : Int) =>
  ite2 (x_28 == (0 : Int)) (
  index_Index_string_find_j5 jn Q m1 x0 key1 free6 i7 p8_b p8_o (decide (free6 < (0 : Int)))) (
  index_Index_string_find_j5 jn Q m1 x0 key1 free6 i7 p8_b p8_o false))) := by kernel_rfl
theorem index_Index_string_find_j3_def (Q : Value → WP) (m1 : Nat) (x0 : Option Addr) (key1 : ByteArray) (free6 : Int) (i7 : Int) (p8_b : Nat) (p8_o : Nat) (t50 : Bool) : index_Index_string_find_j3 idJ Q m1 x0 key1 free6 i7 p8_b p8_o t50 = codeI Try.prog index_Index_string_find_kp idJ (cAt [true, true, true, false, false, false, false, true, false, true, true, true] (bodyOf Try.f27)) (seqK Try.prog index_Index_string_find_kp idJ (cAt [true, true, true, false, false, true] (bodyOf Try.f27)) (lopK Try.prog index_Index_string_find_kp idJ (cAt [true, true, true, false, false] (bodyOf Try.f27)) (blkX 0 (retK Try.prog Try.f27 Q) noX) (retK Try.prog Try.f27 Q) m1) (blkX 0 (retK Try.prog Try.f27 Q) noX) (retK Try.prog Try.f27 Q)) (blkX 2 (seqK Try.prog index_Index_string_find_kp idJ (cAt [true, true, true, false, false, true] (bodyOf Try.f27)) (lopK Try.prog index_Index_string_find_kp idJ (cAt [true, true, true, false, false] (bodyOf Try.f27)) (blkX 0 (retK Try.prog Try.f27 Q) noX) (retK Try.prog Try.f27 Q) m1) (blkX 0 (retK Try.prog Try.f27 Q) noX) (retK Try.prog Try.f27 Q)) (blkX 1 (seqK Try.prog index_Index_string_find_kp idJ (cAt [true, true, true, false, false, true] (bodyOf Try.f27)) (lopK Try.prog index_Index_string_find_kp idJ (cAt [true, true, true, false, false] (bodyOf Try.f27)) (blkX 0 (retK Try.prog Try.f27 Q) noX) (retK Try.prog Try.f27 Q) m1) (blkX 0 (retK Try.prog Try.f27 Q) noX) (retK Try.prog Try.f27 Q)) (blkX 0 (retK Try.prog Try.f27 Q) noX))) (retK Try.prog Try.f27 Q) ((.pointer x0) :: (.string key1) :: us 4 ((.int .i64 free6) :: (.int .i64 i7) :: (.pointer (some ⟨p8_b, p8_o, none⟩)) :: us 41 ((.bool t50) :: us 28 []))) := by kernel_rfl
theorem index_Index_string_find_j2_raw (jn : Jn) (Q : Value → WP) (m1 : Nat) (x0 : Option Addr) (key1 : ByteArray) (free6 : Int) (i7 : Int) (p8_b : Nat) (p8_o : Nat) (t35 : Bool) : codeI Try.prog index_Index_string_find_kp jn (cAt [true, true, true, false, false, false, false, true, false, true] (bodyOf Try.f27)) (seqK Try.prog index_Index_string_find_kp jn (cAt [true, true, true, false, false, true] (bodyOf Try.f27)) (lopK Try.prog index_Index_string_find_kp jn (cAt [true, true, true, false, false] (bodyOf Try.f27)) (blkX 0 (retK Try.prog Try.f27 Q) noX) (retK Try.prog Try.f27 Q) m1) (blkX 0 (retK Try.prog Try.f27 Q) noX) (retK Try.prog Try.f27 Q)) (blkX 2 (seqK Try.prog index_Index_string_find_kp jn (cAt [true, true, true, false, false, true] (bodyOf Try.f27)) (lopK Try.prog index_Index_string_find_kp jn (cAt [true, true, true, false, false] (bodyOf Try.f27)) (blkX 0 (retK Try.prog Try.f27 Q) noX) (retK Try.prog Try.f27 Q) m1) (blkX 0 (retK Try.prog Try.f27 Q) noX) (retK Try.prog Try.f27 Q)) (blkX 1 (seqK Try.prog index_Index_string_find_kp jn (cAt [true, true, true, false, false, true] (bodyOf Try.f27)) (lopK Try.prog index_Index_string_find_kp jn (cAt [true, true, true, false, false] (bodyOf Try.f27)) (blkX 0 (retK Try.prog Try.f27 Q) noX) (retK Try.prog Try.f27 Q) m1) (blkX 0 (retK Try.prog Try.f27 Q) noX) (retK Try.prog Try.f27 Q)) (blkX 0 (retK Try.prog Try.f27 Q) noX))) (retK Try.prog Try.f27 Q) ((.pointer x0) :: (.string key1) :: us 4 ((.int .i64 free6) :: (.int .i64 i7) :: (.pointer (some ⟨p8_b, p8_o, none⟩)) :: us 26 ((.bool t35) :: us 43 []))) = (
  ite2 t35 (
  Q (.tuple #[.int .i64 i7, .bool true])) (
  nilck (some ⟨p8_b, p8_o, none⟩) fun b_20 o_21 =>
  ld (.int .i64) b_20 o_21 fun (x_22 : Int) =>
  ite2 (x_22 == (1 : Int)) (
  index_Index_string_find_j3 jn Q m1 x0 key1 free6 i7 p8_b p8_o (decide (free6 < (0 : Int)))) (
  index_Index_string_find_j3 jn Q m1 x0 key1 free6 i7 p8_b p8_o false))) := by kernel_rfl
theorem index_Index_string_find_j2_def (Q : Value → WP) (m1 : Nat) (x0 : Option Addr) (key1 : ByteArray) (free6 : Int) (i7 : Int) (p8_b : Nat) (p8_o : Nat) (t35 : Bool) : index_Index_string_find_j2 idJ Q m1 x0 key1 free6 i7 p8_b p8_o t35 = codeI Try.prog index_Index_string_find_kp idJ (cAt [true, true, true, false, false, false, false, true, false, true] (bodyOf Try.f27)) (seqK Try.prog index_Index_string_find_kp idJ (cAt [true, true, true, false, false, true] (bodyOf Try.f27)) (lopK Try.prog index_Index_string_find_kp idJ (cAt [true, true, true, false, false] (bodyOf Try.f27)) (blkX 0 (retK Try.prog Try.f27 Q) noX) (retK Try.prog Try.f27 Q) m1) (blkX 0 (retK Try.prog Try.f27 Q) noX) (retK Try.prog Try.f27 Q)) (blkX 2 (seqK Try.prog index_Index_string_find_kp idJ (cAt [true, true, true, false, false, true] (bodyOf Try.f27)) (lopK Try.prog index_Index_string_find_kp idJ (cAt [true, true, true, false, false] (bodyOf Try.f27)) (blkX 0 (retK Try.prog Try.f27 Q) noX) (retK Try.prog Try.f27 Q) m1) (blkX 0 (retK Try.prog Try.f27 Q) noX) (retK Try.prog Try.f27 Q)) (blkX 1 (seqK Try.prog index_Index_string_find_kp idJ (cAt [true, true, true, false, false, true] (bodyOf Try.f27)) (lopK Try.prog index_Index_string_find_kp idJ (cAt [true, true, true, false, false] (bodyOf Try.f27)) (blkX 0 (retK Try.prog Try.f27 Q) noX) (retK Try.prog Try.f27 Q) m1) (blkX 0 (retK Try.prog Try.f27 Q) noX) (retK Try.prog Try.f27 Q)) (blkX 0 (retK Try.prog Try.f27 Q) noX))) (retK Try.prog Try.f27 Q) ((.pointer x0) :: (.string key1) :: us 4 ((.int .i64 free6) :: (.int .i64 i7) :: (.pointer (some ⟨p8_b, p8_o, none⟩)) :: us 26 ((.bool t35) :: us 43 []))) := by kernel_rfl
theorem index_Index_string_find_l1_raw (jn : Jn) (Q : Value → WP)  (m1 : Nat) (x0 : Option Addr) (key1 : ByteArray) (free6 : Int) (i7 : Int) : index_Index_string_find_l1 jn Q  (m1 + 1) x0 key1 free6 i7 = (
  nilck x0 fun b_9 o_10 =>
  ld .slc b_9 (o_10 + 1) fun (x_11 : Sl) =>
  idx x_11.a x_11.n i7 fun b_12 o_13 =>
  nilck (some ⟨b_12, (o_13 + (i7).toNat * 3), none⟩) fun b_14 o_15 =>
  ld (.int .i64) b_14 o_15 fun (x_16 : Int) =>
  ite2 (x_16 == (2 : Int)) (
  nilck (some ⟨b_12, (o_13 + (i7).toNat * 3), none⟩) fun b_17 o_18 =>
  ld .str b_17 (o_18 + 1) fun (x_19 : ByteArray) =>
  index_Index_string_find_j2 jn Q m1 x0 key1 free6 i7 b_12 (o_13 + (i7).toNat * 3) (sEq x_19 key1)) (
  index_Index_string_find_j2 jn Q m1 x0 key1 free6 i7 b_12 (o_13 + (i7).toNat * 3) false)) := by kernel_rfl
theorem index_Index_string_find_l1_zero (jn : Jn) (Q : Value → WP)  (x0 : Option Addr) (key1 : ByteArray) (free6 : Int) (i7 : Int) : index_Index_string_find_l1 jn Q  0 x0 key1 free6 i7 = bot := by kernel_rfl
theorem index_Index_string_find_raw (jn : Jn) (x0 : Option Addr) (key1 : ByteArray) (Q : Value → WP) : funJ jn Try.prog index_Index_string_find_kp Try.f27 [.pointer x0, .string key1] Q = (
  drawW fun S =>
  nilck x0 fun b_1 o_2 =>
  ldS S (.int .u64) b_1 o_2 fun (x_3 : Int) =>
  nilck x0 fun b_4 o_5 =>
  ldS S .slc b_4 (o_5 + 1) fun (x_6 : Sl) =>
  call1 (.int .u64) Try.prog id_mix_Hash [.int .u64 x_3, .string key1] fun (x_7 : Int) =>
  keepS true S <|
  call1 (.int .i64) Try.prog id_mix_Place [.int .u64 x_7, .int .i64 (x_6.n : Int)] fun (x_8 : Int) =>
  exM fun m => index_Index_string_find_l1 jn Q  m x0 key1 (-1 : Int) x_8) := by kernel_rfl
theorem index_Index_string_find_def (x0 : Option Addr) (key1 : ByteArray) (Q : Value → WP) : index_Index_string_find x0 key1 Q = funJ idJ Try.prog index_Index_string_find_kp Try.f27 [.pointer x0, .string key1] Q := rfl
theorem index_Index_string_find_calls {x0 : Option Addr} {key1 : ByteArray} {Q : Value → WP} {w : World} (h : index_Index_string_find x0 key1 Q w) : Calls Try.prog id_index_Index_string_find #[.pointer x0, .string key1] w fun e w' => ∃ v, e = .returned v ∧ Q v w' :=
  funJ_calls mixed Try.func27 rfl h

-- (*hoard/index.Index[string]).lays
def index_Index_string_lays_kp : KP := ⟨[(6, [0, 1, 2, 3])], []⟩
def index_Index_string_lays_j1 (jn : Jn) (Q : Value → WP)  (x0 : Option Addr) (i1 : Int) (key2 : ByteArray) (v3 : ByteArray) : WP := jn 6 (fun ρ => codeI Try.prog index_Index_string_lays_kp jn (cAt [true] (bodyOf Try.f28)) (retK Try.prog Try.f28 Q) noX (retK Try.prog Try.f28 Q) ρ) ((.pointer x0) :: (.int .i64 i1) :: (.string key2) :: (.string v3) :: us 36 [])
def index_Index_string_lays (x0 : Option Addr) (i1 : Int) (key2 : ByteArray) (v3 : ByteArray) (Q : Value → WP) : WP := funJ idJ Try.prog index_Index_string_lays_kp Try.f28 [.pointer x0, .int .i64 i1, .string key2, .string v3] Q
theorem index_Index_string_lays_j1_raw (jn : Jn) (Q : Value → WP)  (x0 : Option Addr) (i1 : Int) (key2 : ByteArray) (v3 : ByteArray) : codeI Try.prog index_Index_string_lays_kp jn (cAt [true] (bodyOf Try.f28)) (retK Try.prog Try.f28 Q) noX (retK Try.prog Try.f28 Q) ((.pointer x0) :: (.int .i64 i1) :: (.string key2) :: (.string v3) :: us 36 []) = (
  nilck x0 fun b_12 o_13 =>
  ld .slc b_12 (o_13 + 1) fun (x_14 : Sl) =>
  idx x_14.a x_14.n i1 fun b_15 o_16 =>
  st b_15 (o_16 + (i1).toNat * 3) (.int .i64 (2 : Int)) <|
  st b_15 ((o_16 + (i1).toNat * 3) + 1) (.string key2) <|
  st b_15 (((o_16 + (i1).toNat * 3) + 1) + 1) (.string v3) <|
  nilck x0 fun b_17 o_18 =>
  ld (.int .i64) b_17 (o_18 + 2) fun (x_19 : Int) =>
  nilck x0 fun b_20 o_21 =>
  st b_20 (o_21 + 2) (.int .i64 (IntKind.wrap .i64 (x_19 + (1 : Int)))) <|
  Q (.tuple #[])) := by kernel_rfl
theorem index_Index_string_lays_j1_def (Q : Value → WP)  (x0 : Option Addr) (i1 : Int) (key2 : ByteArray) (v3 : ByteArray) : index_Index_string_lays_j1 idJ Q  x0 i1 key2 v3 = codeI Try.prog index_Index_string_lays_kp idJ (cAt [true] (bodyOf Try.f28)) (retK Try.prog Try.f28 Q) noX (retK Try.prog Try.f28 Q) ((.pointer x0) :: (.int .i64 i1) :: (.string key2) :: (.string v3) :: us 36 []) := by kernel_rfl
theorem index_Index_string_lays_raw (jn : Jn) (x0 : Option Addr) (i1 : Int) (key2 : ByteArray) (v3 : ByteArray) (Q : Value → WP) : funJ jn Try.prog index_Index_string_lays_kp Try.f28 [.pointer x0, .int .i64 i1, .string key2, .string v3] Q = (
  nilck x0 fun b_1 o_2 =>
  ld .slc b_1 (o_2 + 1) fun (x_3 : Sl) =>
  idx x_3.a x_3.n i1 fun b_4 o_5 =>
  ld (.int .i64) b_4 (o_5 + (i1).toNat * 3) fun (x_6 : Int) =>
  ite2 (x_6 == (0 : Int)) (
  nilck x0 fun b_7 o_8 =>
  ld (.int .i64) b_7 (o_8 + 3) fun (x_9 : Int) =>
  nilck x0 fun b_10 o_11 =>
  st b_10 (o_11 + 3) (.int .i64 (IntKind.wrap .i64 (x_9 + (1 : Int)))) <|
  index_Index_string_lays_j1 jn Q  x0 i1 key2 v3) (
  index_Index_string_lays_j1 jn Q  x0 i1 key2 v3)) := by kernel_rfl
theorem index_Index_string_lays_def (x0 : Option Addr) (i1 : Int) (key2 : ByteArray) (v3 : ByteArray) (Q : Value → WP) : index_Index_string_lays x0 i1 key2 v3 Q = funJ idJ Try.prog index_Index_string_lays_kp Try.f28 [.pointer x0, .int .i64 i1, .string key2, .string v3] Q := rfl
theorem index_Index_string_lays_calls {x0 : Option Addr} {i1 : Int} {key2 : ByteArray} {v3 : ByteArray} {Q : Value → WP} {w : World} (h : index_Index_string_lays x0 i1 key2 v3 Q w) : Calls Try.prog id_index_Index_string_lays #[.pointer x0, .int .i64 i1, .string key2, .string v3] w fun e w' => ∃ v, e = .returned v ∧ Q v w' :=
  funJ_calls mixed Try.func28 rfl h

-- (*hoard/index.Index[string]).grows
def index_Index_string_grows_kp : KP := ⟨[(9, [0, 28, 29, 30])], []⟩
def index_Index_string_grows_l1 (jn : Jn) (Q : Value → WP)  (m1 : Nat) (x0 : Option Addr) (t28 : Sl) (t29 : Int) (t30 : Int) : WP := lop Try.prog index_Index_string_grows_kp jn (cAt [true, true, true, false, false] (bodyOf Try.f29)) (blkX 0 (retK Try.prog Try.f29 Q) noX) (retK Try.prog Try.f29 Q) m1 ((.pointer x0) :: us 27 ((.slice t28.a t28.n t28.c) :: (.int .i64 t29) :: (.int .i64 t30) :: us 21 []))
def index_Index_string_grows (x0 : Option Addr) (Q : Value → WP) : WP := funJ idJ Try.prog index_Index_string_grows_kp Try.f29 [.pointer x0] Q
theorem index_Index_string_grows_l1_raw (jn : Jn) (Q : Value → WP)  (m1 : Nat) (x0 : Option Addr) (t28 : Sl) (t29 : Int) (t30 : Int) : index_Index_string_grows_l1 jn Q  (m1 + 1) x0 t28 t29 t30 = (
  ite2 (decide (t30 < t29)) (
  idx t28.a t28.n t30 fun b_14 o_15 =>
  ld (.int .i64) b_14 (o_15 + (t30).toNat * 3) fun (x_16 : Int) =>
  ld .str b_14 ((o_15 + (t30).toNat * 3) + 1) fun (x_17 : ByteArray) =>
  ld .str b_14 (((o_15 + (t30).toNat * 3) + 1) + 1) fun (x_18 : ByteArray) =>
  newB [.int .i64 (0 : Int), .string str_empty, .string str_empty] ty_index_place_string fun b_19 =>
  st b_19 0 (.int .i64 x_16) <|
  st b_19 1 (.string x_17) <|
  st b_19 2 (.string x_18) <|
  ld (.int .i64) b_19 0 fun (x_20 : Int) =>
  ite2 (x_20 == (2 : Int)) (
  ld .str b_19 1 fun (x_21 : ByteArray) =>
  call2 (.int .i64) .bool Try.prog id_index_Index_string_find [.pointer x0, .string x_21] fun (x_22 : Int) (x_23 : Bool) =>
  ld .str b_19 1 fun (x_24 : ByteArray) =>
  ld .str b_19 2 fun (x_25 : ByteArray) =>
  call0 Try.prog id_index_Index_string_lays [.pointer x0, .int .i64 x_22, .string x_24, .string x_25] <|
  index_Index_string_grows_l1 jn Q  m1 x0 t28 t29 (IntKind.wrap .i64 (t30 + (1 : Int)))) (
  index_Index_string_grows_l1 jn Q  m1 x0 t28 t29 (IntKind.wrap .i64 (t30 + (1 : Int))))) (
  Q (.tuple #[]))) := by kernel_rfl
theorem index_Index_string_grows_l1_zero (jn : Jn) (Q : Value → WP)  (x0 : Option Addr) (t28 : Sl) (t29 : Int) (t30 : Int) : index_Index_string_grows_l1 jn Q  0 x0 t28 t29 t30 = bot := by kernel_rfl
theorem index_Index_string_grows_raw (jn : Jn) (x0 : Option Addr) (Q : Value → WP) : funJ jn Try.prog index_Index_string_grows_kp Try.f29 [.pointer x0] Q = (
  nilck x0 fun b_1 o_2 =>
  ld .slc b_1 (o_2 + 1) fun (x_3 : Sl) =>
  nilck x0 fun b_4 o_5 =>
  ld (.int .i64) b_4 (o_5 + 2) fun (x_6 : Int) =>
  makeC ty_index_place_string 40 [.int .i64 (0 : Int), .string str_empty, .string str_empty] (if (IntKind.wrap .i64 ((4 : Int) * (IntKind.wrap .i64 (x_6 + (1 : Int))))) > (8 : Int) then (IntKind.wrap .i64 ((4 : Int) * (IntKind.wrap .i64 (x_6 + (1 : Int))))) else (8 : Int)) (if (IntKind.wrap .i64 ((4 : Int) * (IntKind.wrap .i64 (x_6 + (1 : Int))))) > (8 : Int) then (IntKind.wrap .i64 ((4 : Int) * (IntKind.wrap .i64 (x_6 + (1 : Int))))) else (8 : Int)) fun s_7 =>
  nilck x0 fun b_8 o_9 =>
  st b_8 (o_9 + 1) (.slice s_7.a s_7.n s_7.c) <|
  nilck x0 fun b_10 o_11 =>
  st b_10 (o_11 + 2) (.int .i64 (0 : Int)) <|
  nilck x0 fun b_12 o_13 =>
  st b_12 (o_13 + 3) (.int .i64 (0 : Int)) <|
  exM fun m => index_Index_string_grows_l1 jn Q  m x0 x_3 (x_3.n : Int) (0 : Int)) := by kernel_rfl
theorem index_Index_string_grows_def (x0 : Option Addr) (Q : Value → WP) : index_Index_string_grows x0 Q = funJ idJ Try.prog index_Index_string_grows_kp Try.f29 [.pointer x0] Q := rfl
theorem index_Index_string_grows_calls {x0 : Option Addr} {Q : Value → WP} {w : World} (h : index_Index_string_grows x0 Q w) : Calls Try.prog id_index_Index_string_grows #[.pointer x0] w fun e w' => ∃ v, e = .returned v ∧ Q v w' :=
  funJ_calls mixed Try.func29 rfl h

-- (*hoard/hoardref6.Index).Put
def hoardref6_Index_Put_kp : KP := ⟨[], []⟩
def hoardref6_Index_Put (x0 : Option Addr) (key1 : ByteArray) (v2 : Int) (Q : Value → WP) : WP := funJ idJ Try.prog hoardref6_Index_Put_kp Try.f30 [.pointer x0, .string key1, .int .i64 v2] Q
theorem hoardref6_Index_Put_raw (jn : Jn) (x0 : Option Addr) (key1 : ByteArray) (v2 : Int) (Q : Value → WP) : funJ jn Try.prog hoardref6_Index_Put_kp Try.f30 [.pointer x0, .string key1, .int .i64 v2] Q = (
  call2 (.int .i64) .bool Try.prog id_hoardref6_Index_at [.pointer x0, .string key1] fun (x_1 : Int) (x_2 : Bool) =>
  ite2 x_2 (
  nilck x0 fun b_3 o_4 =>
  ld .slc b_3 o_4 fun (x_5 : Sl) =>
  idx x_5.a x_5.n x_1 fun b_6 o_7 =>
  st b_6 ((o_7 + (x_1).toNat * 2) + 1) (.int .i64 v2) <|
  Q (.bool false)) (
  newB [] ty_hoardref6_pair fun b_8 =>
  nilck x0 fun b_9 o_10 =>
  ld .slc b_9 o_10 fun (x_11 : Sl) =>
  when ((0 : Int) ≤ x_1 ∧ x_1 ≤ (x_11.c : Int)) <|
  appendC ty_hoardref6_pair 2 24 [.string str_empty, .int .i64 (0 : Int)] ⟨(some ⟨b_8, 0, none⟩), 0, 0⟩ ((x_1).toNat - 0) (fun w => rdA w (subA x_11.a 0 x_11.c 2) (((x_1).toNat - 0) * 2)) fun s_12 =>
  newB [.string key1, .int .i64 v2] ty_hoardref6_pair fun b_13 =>
  appendC ty_hoardref6_pair 2 24 [.string str_empty, .int .i64 (0 : Int)] ⟨s_12.a, s_12.n, s_12.c⟩ 1 (fun w => rdA w (some ⟨b_13, 0, none⟩) (1 * 2)) fun s_14 =>
  nilck x0 fun b_15 o_16 =>
  ld .slc b_15 o_16 fun (x_17 : Sl) =>
  when ((0 : Int) ≤ x_1 ∧ x_1 ≤ (x_17.n : Int)) <|
  appendC ty_hoardref6_pair 2 24 [.string str_empty, .int .i64 (0 : Int)] ⟨s_14.a, s_14.n, s_14.c⟩ (x_17.n - (x_1).toNat) (fun w => rdA w (subA x_17.a ((x_1).toNat) x_17.c 2) ((x_17.n - (x_1).toNat) * 2)) fun s_18 =>
  nilck x0 fun b_19 o_20 =>
  st b_19 o_20 (.slice s_18.a s_18.n s_18.c) <|
  Q (.bool true))) := by kernel_rfl
theorem hoardref6_Index_Put_def (x0 : Option Addr) (key1 : ByteArray) (v2 : Int) (Q : Value → WP) : hoardref6_Index_Put x0 key1 v2 Q = funJ idJ Try.prog hoardref6_Index_Put_kp Try.f30 [.pointer x0, .string key1, .int .i64 v2] Q := rfl
theorem hoardref6_Index_Put_calls {x0 : Option Addr} {key1 : ByteArray} {v2 : Int} {Q : Value → WP} {w : World} (h : hoardref6_Index_Put x0 key1 v2 Q w) : Calls Try.prog id_hoardref6_Index_Put #[.pointer x0, .string key1, .int .i64 v2] w fun e w' => ∃ v, e = .returned v ∧ Q v w' :=
  funJ_calls mixed Try.func30 rfl h

-- (*hoard/hoardref6.Index).Get
def hoardref6_Index_Get_kp : KP := ⟨[], []⟩
def hoardref6_Index_Get (x0 : Option Addr) (key1 : ByteArray) (Q : Value → WP) : WP := funJ idJ Try.prog hoardref6_Index_Get_kp Try.f31 [.pointer x0, .string key1] Q
theorem hoardref6_Index_Get_raw (jn : Jn) (x0 : Option Addr) (key1 : ByteArray) (Q : Value → WP) : funJ jn Try.prog hoardref6_Index_Get_kp Try.f31 [.pointer x0, .string key1] Q = (
  call2 (.int .i64) .bool Try.prog id_hoardref6_Index_at [.pointer x0, .string key1] fun (x_1 : Int) (x_2 : Bool) =>
  ite2 (!x_2) (
  Q (.tuple #[.int .i64 (0 : Int), .bool false])) (
  nilck x0 fun b_3 o_4 =>
  ld .slc b_3 o_4 fun (x_5 : Sl) =>
  idx x_5.a x_5.n x_1 fun b_6 o_7 =>
  ld (.int .i64) b_6 ((o_7 + (x_1).toNat * 2) + 1) fun (x_8 : Int) =>
  Q (.tuple #[.int .i64 x_8, .bool true]))) := by kernel_rfl
theorem hoardref6_Index_Get_def (x0 : Option Addr) (key1 : ByteArray) (Q : Value → WP) : hoardref6_Index_Get x0 key1 Q = funJ idJ Try.prog hoardref6_Index_Get_kp Try.f31 [.pointer x0, .string key1] Q := rfl
theorem hoardref6_Index_Get_calls {x0 : Option Addr} {key1 : ByteArray} {Q : Value → WP} {w : World} (h : hoardref6_Index_Get x0 key1 Q w) : Calls Try.prog id_hoardref6_Index_Get #[.pointer x0, .string key1] w fun e w' => ∃ v, e = .returned v ∧ Q v w' :=
  funJ_calls mixed Try.func31 rfl h

-- (*hoard/hoardref6.Index).Delete
def hoardref6_Index_Delete_kp : KP := ⟨[], [(6, [0, 2, 3, 4, 5, 6, 7, 9, 10, 11, 12, 13, 14, 15, 17, 18])]⟩
def hoardref6_Index_Delete (x0 : Option Addr) (key1 : ByteArray) (Q : Value → WP) : WP := funJ idJ Try.prog hoardref6_Index_Delete_kp Try.f32 [.pointer x0, .string key1] Q
theorem hoardref6_Index_Delete_raw (jn : Jn) (x0 : Option Addr) (key1 : ByteArray) (Q : Value → WP) : funJ jn Try.prog hoardref6_Index_Delete_kp Try.f32 [.pointer x0, .string key1] Q = (
  call2 (.int .i64) .bool Try.prog id_hoardref6_Index_at [.pointer x0, .string key1] fun (x_1 : Int) (x_2 : Bool) =>
  ite2 (!x_2) (
  Q (.tuple #[.int .i64 (0 : Int), .bool false])) (
  nilck x0 fun b_3 o_4 =>
  ld .slc b_3 o_4 fun (x_5 : Sl) =>
  idx x_5.a x_5.n x_1 fun b_6 o_7 =>
  ld (.int .i64) b_6 ((o_7 + (x_1).toNat * 2) + 1) fun (x_8 : Int) =>
  drawW fun S =>
  nilck x0 fun b_9 o_10 =>
  ldS S .slc b_9 o_10 fun (x_11 : Sl) =>
  when ((0 : Int) ≤ x_1 ∧ x_1 ≤ (x_11.c : Int)) <|
  nilck x0 fun b_12 o_13 =>
  ldS S .slc b_12 o_13 fun (x_14 : Sl) =>
  when ((0 : Int) ≤ (IntKind.wrap .i64 (x_1 + (1 : Int))) ∧ (IntKind.wrap .i64 (x_1 + (1 : Int))) ≤ (x_14.n : Int)) <|
  newB [] ty_hoardref6_pair fun b_15 =>
  keepS true S <|
  appendC ty_hoardref6_pair 2 24 [.string str_empty, .int .i64 (0 : Int)] ⟨(some ⟨b_15, 0, none⟩), 0, 0⟩ ((x_1).toNat - 0) (fun w => rdA w (subA x_11.a 0 x_11.c 2) (((x_1).toNat - 0) * 2)) fun s_16 =>
  keepS true S <|
  appendC ty_hoardref6_pair 2 24 [.string str_empty, .int .i64 (0 : Int)] ⟨s_16.a, s_16.n, s_16.c⟩ (x_14.n - ((IntKind.wrap .i64 (x_1 + (1 : Int)))).toNat) (fun w => rdA w (subA x_14.a (((IntKind.wrap .i64 (x_1 + (1 : Int)))).toNat) x_14.c 2) ((x_14.n - ((IntKind.wrap .i64 (x_1 + (1 : Int)))).toNat) * 2)) fun s_17 =>
  nilck x0 fun b_18 o_19 =>
  st b_18 o_19 (.slice s_17.a s_17.n s_17.c) <|
  Q (.tuple #[.int .i64 x_8, .bool true]))) := by kernel_rfl
theorem hoardref6_Index_Delete_def (x0 : Option Addr) (key1 : ByteArray) (Q : Value → WP) : hoardref6_Index_Delete x0 key1 Q = funJ idJ Try.prog hoardref6_Index_Delete_kp Try.f32 [.pointer x0, .string key1] Q := rfl
theorem hoardref6_Index_Delete_calls {x0 : Option Addr} {key1 : ByteArray} {Q : Value → WP} {w : World} (h : hoardref6_Index_Delete x0 key1 Q w) : Calls Try.prog id_hoardref6_Index_Delete #[.pointer x0, .string key1] w fun e w' => ∃ v, e = .returned v ∧ Q v w' :=
  funJ_calls mixed Try.func32 rfl h

-- slices.Sort[[]string,string]
def slices_Sort_s_string_string_kp : KP := ⟨[], []⟩
def slices_Sort_s_string_string (x0 : Sl) (Q : Value → WP) : WP := funJ idJ Try.prog slices_Sort_s_string_string_kp Try.f33 [.slice x0.a x0.n x0.c] Q
theorem slices_Sort_s_string_string_raw (jn : Jn) (x0 : Sl) (Q : Value → WP) : funJ jn Try.prog slices_Sort_s_string_string_kp Try.f33 [.slice x0.a x0.n x0.c] Q = (
  call1 (.int .i64) Try.prog id_math_bits_Len [.int .u64 (IntKind.wrap .u64 (x0.n : Int))] fun (x_1 : Int) =>
  call0 Try.prog id_slices_pdqsortOrdered_string [.slice x0.a x0.n x0.c, .int .i64 (0 : Int), .int .i64 (x0.n : Int), .int .i64 x_1] <|
  Q (.tuple #[])) := by kernel_rfl
theorem slices_Sort_s_string_string_def (x0 : Sl) (Q : Value → WP) : slices_Sort_s_string_string x0 Q = funJ idJ Try.prog slices_Sort_s_string_string_kp Try.f33 [.slice x0.a x0.n x0.c] Q := rfl
theorem slices_Sort_s_string_string_calls {x0 : Sl} {Q : Value → WP} {w : World} (h : slices_Sort_s_string_string x0 Q w) : Calls Try.prog id_slices_Sort_s_string_string #[.slice x0.a x0.n x0.c] w fun e w' => ∃ v, e = .returned v ∧ Q v w' :=
  funJ_calls mixed Try.func33 rfl h

-- (*hoard/index.Index[int]).find
def index_Index_int_find_kp : KP := ⟨[(8, [0, 1, 6, 7]), (11, [0, 1, 6, 7]), (14, [0, 1, 6, 7, 8, 35]), (18, [0, 1, 6, 7, 8, 50]), (22, [0, 1, 6, 7, 8, 61])], [(2, [0, 1, 2, 3, 4, 6, 7, 8, 9, 10, 12])]⟩
def index_Index_int_find_j4 (jn : Jn) (Q : Value → WP) (m1 : Nat) (x0 : Option Addr) (key1 : ByteArray) (free6 : Int) (i7 : Int) : WP := jn 8 (fun ρ => codeI Try.prog index_Index_int_find_kp jn (cAt [true, true, true, false, false, true] (bodyOf Try.f34)) (lopK Try.prog index_Index_int_find_kp jn (cAt [true, true, true, false, false] (bodyOf Try.f34)) (blkX 0 (retK Try.prog Try.f34 Q) noX) (retK Try.prog Try.f34 Q) m1) (blkX 0 (retK Try.prog Try.f34 Q) noX) (retK Try.prog Try.f34 Q) ρ) ((.pointer x0) :: (.string key1) :: us 4 ((.int .i64 free6) :: (.int .i64 i7) :: us 71 []))
def index_Index_int_find_j5 (jn : Jn) (Q : Value → WP) (m1 : Nat) (x0 : Option Addr) (key1 : ByteArray) (free6 : Int) (i7 : Int) (p8_b : Nat) (p8_o : Nat) (t61 : Bool) : WP := jn 22 (fun ρ => codeI Try.prog index_Index_int_find_kp jn (cAt [true, true, true, false, false, false, false, true, false, true, true, true, true, true] (bodyOf Try.f34)) (seqK Try.prog index_Index_int_find_kp jn (cAt [true, true, true, false, false, true] (bodyOf Try.f34)) (lopK Try.prog index_Index_int_find_kp jn (cAt [true, true, true, false, false] (bodyOf Try.f34)) (blkX 0 (retK Try.prog Try.f34 Q) noX) (retK Try.prog Try.f34 Q) m1) (blkX 0 (retK Try.prog Try.f34 Q) noX) (retK Try.prog Try.f34 Q)) (blkX 2 (seqK Try.prog index_Index_int_find_kp jn (cAt [true, true, true, false, false, true] (bodyOf Try.f34)) (lopK Try.prog index_Index_int_find_kp jn (cAt [true, true, true, false, false] (bodyOf Try.f34)) (blkX 0 (retK Try.prog Try.f34 Q) noX) (retK Try.prog Try.f34 Q) m1) (blkX 0 (retK Try.prog Try.f34 Q) noX) (retK Try.prog Try.f34 Q)) (blkX 1 (seqK Try.prog index_Index_int_find_kp jn (cAt [true, true, true, false, false, true] (bodyOf Try.f34)) (lopK Try.prog index_Index_int_find_kp jn (cAt [true, true, true, false, false] (bodyOf Try.f34)) (blkX 0 (retK Try.prog Try.f34 Q) noX) (retK Try.prog Try.f34 Q) m1) (blkX 0 (retK Try.prog Try.f34 Q) noX) (retK Try.prog Try.f34 Q)) (blkX 0 (retK Try.prog Try.f34 Q) noX))) (retK Try.prog Try.f34 Q) ρ) ((.pointer x0) :: (.string key1) :: us 4 ((.int .i64 free6) :: (.int .i64 i7) :: (.pointer (some ⟨p8_b, p8_o, none⟩)) :: us 52 ((.bool t61) :: us 17 [])))
def index_Index_int_find_j3 (jn : Jn) (Q : Value → WP) (m1 : Nat) (x0 : Option Addr) (key1 : ByteArray) (free6 : Int) (i7 : Int) (p8_b : Nat) (p8_o : Nat) (t50 : Bool) : WP := jn 18 (fun ρ => codeI Try.prog index_Index_int_find_kp jn (cAt [true, true, true, false, false, false, false, true, false, true, true, true] (bodyOf Try.f34)) (seqK Try.prog index_Index_int_find_kp jn (cAt [true, true, true, false, false, true] (bodyOf Try.f34)) (lopK Try.prog index_Index_int_find_kp jn (cAt [true, true, true, false, false] (bodyOf Try.f34)) (blkX 0 (retK Try.prog Try.f34 Q) noX) (retK Try.prog Try.f34 Q) m1) (blkX 0 (retK Try.prog Try.f34 Q) noX) (retK Try.prog Try.f34 Q)) (blkX 2 (seqK Try.prog index_Index_int_find_kp jn (cAt [true, true, true, false, false, true] (bodyOf Try.f34)) (lopK Try.prog index_Index_int_find_kp jn (cAt [true, true, true, false, false] (bodyOf Try.f34)) (blkX 0 (retK Try.prog Try.f34 Q) noX) (retK Try.prog Try.f34 Q) m1) (blkX 0 (retK Try.prog Try.f34 Q) noX) (retK Try.prog Try.f34 Q)) (blkX 1 (seqK Try.prog index_Index_int_find_kp jn (cAt [true, true, true, false, false, true] (bodyOf Try.f34)) (lopK Try.prog index_Index_int_find_kp jn (cAt [true, true, true, false, false] (bodyOf Try.f34)) (blkX 0 (retK Try.prog Try.f34 Q) noX) (retK Try.prog Try.f34 Q) m1) (blkX 0 (retK Try.prog Try.f34 Q) noX) (retK Try.prog Try.f34 Q)) (blkX 0 (retK Try.prog Try.f34 Q) noX))) (retK Try.prog Try.f34 Q) ρ) ((.pointer x0) :: (.string key1) :: us 4 ((.int .i64 free6) :: (.int .i64 i7) :: (.pointer (some ⟨p8_b, p8_o, none⟩)) :: us 41 ((.bool t50) :: us 28 [])))
def index_Index_int_find_j2 (jn : Jn) (Q : Value → WP) (m1 : Nat) (x0 : Option Addr) (key1 : ByteArray) (free6 : Int) (i7 : Int) (p8_b : Nat) (p8_o : Nat) (t35 : Bool) : WP := jn 14 (fun ρ => codeI Try.prog index_Index_int_find_kp jn (cAt [true, true, true, false, false, false, false, true, false, true] (bodyOf Try.f34)) (seqK Try.prog index_Index_int_find_kp jn (cAt [true, true, true, false, false, true] (bodyOf Try.f34)) (lopK Try.prog index_Index_int_find_kp jn (cAt [true, true, true, false, false] (bodyOf Try.f34)) (blkX 0 (retK Try.prog Try.f34 Q) noX) (retK Try.prog Try.f34 Q) m1) (blkX 0 (retK Try.prog Try.f34 Q) noX) (retK Try.prog Try.f34 Q)) (blkX 2 (seqK Try.prog index_Index_int_find_kp jn (cAt [true, true, true, false, false, true] (bodyOf Try.f34)) (lopK Try.prog index_Index_int_find_kp jn (cAt [true, true, true, false, false] (bodyOf Try.f34)) (blkX 0 (retK Try.prog Try.f34 Q) noX) (retK Try.prog Try.f34 Q) m1) (blkX 0 (retK Try.prog Try.f34 Q) noX) (retK Try.prog Try.f34 Q)) (blkX 1 (seqK Try.prog index_Index_int_find_kp jn (cAt [true, true, true, false, false, true] (bodyOf Try.f34)) (lopK Try.prog index_Index_int_find_kp jn (cAt [true, true, true, false, false] (bodyOf Try.f34)) (blkX 0 (retK Try.prog Try.f34 Q) noX) (retK Try.prog Try.f34 Q) m1) (blkX 0 (retK Try.prog Try.f34 Q) noX) (retK Try.prog Try.f34 Q)) (blkX 0 (retK Try.prog Try.f34 Q) noX))) (retK Try.prog Try.f34 Q) ρ) ((.pointer x0) :: (.string key1) :: us 4 ((.int .i64 free6) :: (.int .i64 i7) :: (.pointer (some ⟨p8_b, p8_o, none⟩)) :: us 26 ((.bool t35) :: us 43 [])))
def index_Index_int_find_l1 (jn : Jn) (Q : Value → WP)  (m1 : Nat) (x0 : Option Addr) (key1 : ByteArray) (free6 : Int) (i7 : Int) : WP := lop Try.prog index_Index_int_find_kp jn (cAt [true, true, true, false, false] (bodyOf Try.f34)) (blkX 0 (retK Try.prog Try.f34 Q) noX) (retK Try.prog Try.f34 Q) m1 ((.pointer x0) :: (.string key1) :: us 4 ((.int .i64 free6) :: (.int .i64 i7) :: us 71 []))
def index_Index_int_find (x0 : Option Addr) (key1 : ByteArray) (Q : Value → WP) : WP := funJ idJ Try.prog index_Index_int_find_kp Try.f34 [.pointer x0, .string key1] Q
theorem index_Index_int_find_j4_raw (jn : Jn) (Q : Value → WP) (m1 : Nat) (x0 : Option Addr) (key1 : ByteArray) (free6 : Int) (i7 : Int) : codeI Try.prog index_Index_int_find_kp jn (cAt [true, true, true, false, false, true] (bodyOf Try.f34)) (lopK Try.prog index_Index_int_find_kp jn (cAt [true, true, true, false, false] (bodyOf Try.f34)) (blkX 0 (retK Try.prog Try.f34 Q) noX) (retK Try.prog Try.f34 Q) m1) (blkX 0 (retK Try.prog Try.f34 Q) noX) (retK Try.prog Try.f34 Q) ((.pointer x0) :: (.string key1) :: us 4 ((.int .i64 free6) :: (.int .i64 i7) :: us 71 [])) = (
  nilck x0 fun b_23 o_24 =>
  ld .slc b_23 (o_24 + 1) fun (x_25 : Sl) =>
  when ((x_25.n : Int) ≠ 0) <|
  index_Index_int_find_l1 jn Q  m1 x0 key1 free6 (Int.tmod (IntKind.wrap .i64 (i7 + (1 : Int))) (x_25.n : Int))) := by kernel_rfl
theorem index_Index_int_find_j4_def (Q : Value → WP) (m1 : Nat) (x0 : Option Addr) (key1 : ByteArray) (free6 : Int) (i7 : Int) : index_Index_int_find_j4 idJ Q m1 x0 key1 free6 i7 = codeI Try.prog index_Index_int_find_kp idJ (cAt [true, true, true, false, false, true] (bodyOf Try.f34)) (lopK Try.prog index_Index_int_find_kp idJ (cAt [true, true, true, false, false] (bodyOf Try.f34)) (blkX 0 (retK Try.prog Try.f34 Q) noX) (retK Try.prog Try.f34 Q) m1) (blkX 0 (retK Try.prog Try.f34 Q) noX) (retK Try.prog Try.f34 Q) ((.pointer x0) :: (.string key1) :: us 4 ((.int .i64 free6) :: (.int .i64 i7) :: us 71 [])) := by kernel_rfl
theorem index_Index_int_find_j5_raw (jn : Jn) (Q : Value → WP) (m1 : Nat) (x0 : Option Addr) (key1 : ByteArray) (free6 : Int) (i7 : Int) (p8_b : Nat) (p8_o : Nat) (t61 : Bool) : codeI Try.prog index_Index_int_find_kp jn (cAt [true, true, true, false, false, false, false, true, false, true, true, true, true, true] (bodyOf Try.f34)) (seqK Try.prog index_Index_int_find_kp jn (cAt [true, true, true, false, false, true] (bodyOf Try.f34)) (lopK Try.prog index_Index_int_find_kp jn (cAt [true, true, true, false, false] (bodyOf Try.f34)) (blkX 0 (retK Try.prog Try.f34 Q) noX) (retK Try.prog Try.f34 Q) m1) (blkX 0 (retK Try.prog Try.f34 Q) noX) (retK Try.prog Try.f34 Q)) (blkX 2 (seqK Try.prog index_Index_int_find_kp jn (cAt [true, true, true, false, false, true] (bodyOf Try.f34)) (lopK Try.prog index_Index_int_find_kp jn (cAt [true, true, true, false, false] (bodyOf Try.f34)) (blkX 0 (retK Try.prog Try.f34 Q) noX) (retK Try.prog Try.f34 Q) m1) (blkX 0 (retK Try.prog Try.f34 Q) noX) (retK Try.prog Try.f34 Q)) (blkX 1 (seqK Try.prog index_Index_int_find_kp jn (cAt [true, true, true, false, false, true] (bodyOf Try.f34)) (lopK Try.prog index_Index_int_find_kp jn (cAt [true, true, true, false, false] (bodyOf Try.f34)) (blkX 0 (retK Try.prog Try.f34 Q) noX) (retK Try.prog Try.f34 Q) m1) (blkX 0 (retK Try.prog Try.f34 Q) noX) (retK Try.prog Try.f34 Q)) (blkX 0 (retK Try.prog Try.f34 Q) noX))) (retK Try.prog Try.f34 Q) ((.pointer x0) :: (.string key1) :: us 4 ((.int .i64 free6) :: (.int .i64 i7) :: (.pointer (some ⟨p8_b, p8_o, none⟩)) :: us 52 ((.bool t61) :: us 17 []))) = (
  ite2 t61 (
  Q (.tuple #[.int .i64 i7, .bool false])) (
  nilck (some ⟨p8_b, p8_o, none⟩) fun b_29 o_30 =>
  ld (.int .i64) b_29 o_30 fun (x_31 : Int) =>
  ite2 (x_31 == (0 : Int)) (
  Q (.tuple #[.int .i64 free6, .bool false])) (
  index_Index_int_find_j4 jn Q m1 x0 key1 free6 i7))) := by kernel_rfl
theorem index_Index_int_find_j5_def (Q : Value → WP) (m1 : Nat) (x0 : Option Addr) (key1 : ByteArray) (free6 : Int) (i7 : Int) (p8_b : Nat) (p8_o : Nat) (t61 : Bool) : index_Index_int_find_j5 idJ Q m1 x0 key1 free6 i7 p8_b p8_o t61 = codeI Try.prog index_Index_int_find_kp idJ (cAt [true, true, true, false, false, false, false, true, false, true, true, true, true, true] (bodyOf Try.f34)) (seqK Try.prog index_Index_int_find_kp idJ (cAt [true, true, true, false, false, true] (bodyOf Try.f34)) (lopK Try.prog index_Index_int_find_kp idJ (cAt [true, true, true, false, false] (bodyOf Try.f34)) (blkX 0 (retK Try.prog Try.f34 Q) noX) (retK Try.prog Try.f34 Q) m1) (blkX 0 (retK Try.prog Try.f34 Q) noX) (retK Try.prog Try.f34 Q)) (blkX 2 (seqK Try.prog index_Index_int_find_kp idJ (cAt [true, true, true, false, false, true] (bodyOf Try.f34)) (lopK Try.prog index_Index_int_find_kp idJ (cAt [true, true, true, false, false] (bodyOf Try.f34)) (blkX 0 (retK Try.prog Try.f34 Q) noX) (retK Try.prog Try.f34 Q) m1) (blkX 0 (retK Try.prog Try.f34 Q) noX) (retK Try.prog Try.f34 Q)) (blkX 1 (seqK Try.prog index_Index_int_find_kp idJ (cAt [true, true, true, false, false, true] (bodyOf Try.f34)) (lopK Try.prog index_Index_int_find_kp idJ (cAt [true, true, true, false, false] (bodyOf Try.f34)) (blkX 0 (retK Try.prog Try.f34 Q) noX) (retK Try.prog Try.f34 Q) m1) (blkX 0 (retK Try.prog Try.f34 Q) noX) (retK Try.prog Try.f34 Q)) (blkX 0 (retK Try.prog Try.f34 Q) noX))) (retK Try.prog Try.f34 Q) ((.pointer x0) :: (.string key1) :: us 4 ((.int .i64 free6) :: (.int .i64 i7) :: (.pointer (some ⟨p8_b, p8_o, none⟩)) :: us 52 ((.bool t61) :: us 17 []))) := by kernel_rfl
theorem index_Index_int_find_j3_raw (jn : Jn) (Q : Value → WP) (m1 : Nat) (x0 : Option Addr) (key1 : ByteArray) (free6 : Int) (i7 : Int) (p8_b : Nat) (p8_o : Nat) (t50 : Bool) : codeI Try.prog index_Index_int_find_kp jn (cAt [true, true, true, false, false, false, false, true, false, true, true, true] (bodyOf Try.f34)) (seqK Try.prog index_Index_int_find_kp jn (cAt [true, true, true, false, false, true] (bodyOf Try.f34)) (lopK Try.prog index_Index_int_find_kp jn (cAt [true, true, true, false, false] (bodyOf Try.f34)) (blkX 0 (retK Try.prog Try.f34 Q) noX) (retK Try.prog Try.f34 Q) m1) (blkX 0 (retK Try.prog Try.f34 Q) noX) (retK Try.prog Try.f34 Q)) (blkX 2 (seqK Try.prog index_Index_int_find_kp jn (cAt [true, true, true, false, false, true] (bodyOf Try.f34)) (lopK Try.prog index_Index_int_find_kp jn (cAt [true, true, true, false, false] (bodyOf Try.f34)) (blkX 0 (retK Try.prog Try.f34 Q) noX) (retK Try.prog Try.f34 Q) m1) (blkX 0 (retK Try.prog Try.f34 Q) noX) (retK Try.prog Try.f34 Q)) (blkX 1 (seqK Try.prog index_Index_int_find_kp jn (cAt [true, true, true, false, false, true] (bodyOf Try.f34)) (lopK Try.prog index_Index_int_find_kp jn (cAt [true, true, true, false, false] (bodyOf Try.f34)) (blkX 0 (retK Try.prog Try.f34 Q) noX) (retK Try.prog Try.f34 Q) m1) (blkX 0 (retK Try.prog Try.f34 Q) noX) (retK Try.prog Try.f34 Q)) (blkX 0 (retK Try.prog Try.f34 Q) noX))) (retK Try.prog Try.f34 Q) ((.pointer x0) :: (.string key1) :: us 4 ((.int .i64 free6) :: (.int .i64 i7) :: (.pointer (some ⟨p8_b, p8_o, none⟩)) :: us 41 ((.bool t50) :: us 28 []))) = (
  ite2 t50 (
  index_Index_int_find_j4 jn Q m1 x0 key1 i7 i7) (
  nilck (some ⟨p8_b, p8_o, none⟩) fun b_26 o_27 =>
  ld (.int .i64) b_26 o_27 fun (x_28 : Int) =>
  ite2 (x_28 == (0 : Int)) (
  index_Index_int_find_j5 jn Q m1 x0 key1 free6 i7 p8_b p8_o (decide (free6 < (0 : Int)))) (
  index_Index_int_find_j5 jn Q m1 x0 key1 free6 i7 p8_b p8_o false))) := by kernel_rfl
theorem index_Index_int_find_j3_def (Q : Value → WP) (m1 : Nat) (x0 : Option Addr) (key1 : ByteArray) (free6 : Int) (i7 : Int) (p8_b : Nat) (p8_o : Nat) (t50 : Bool) : index_Index_int_find_j3 idJ Q m1 x0 key1 free6 i7 p8_b p8_o t50 = codeI Try.prog index_Index_int_find_kp idJ (cAt [true, true, true, false, false, false, false, true, false, true, true, true] (bodyOf Try.f34)) (seqK Try.prog index_Index_int_find_kp idJ (cAt [true, true, true, false, false, true] (bodyOf Try.f34)) (lopK Try.prog index_Index_int_find_kp idJ (cAt [true, true, true, false, false] (bodyOf Try.f34)) (blkX 0 (retK Try.prog Try.f34 Q) noX) (retK Try.prog Try.f34 Q) m1) (blkX 0 (retK Try.prog Try.f34 Q) noX) (retK Try.prog Try.f34 Q)) (blkX 2 (seqK Try.prog index_Index_int_find_kp idJ (cAt [true, true, true, false, false, true] (bodyOf Try.f34)) (lopK Try.prog index_Index_int_find_kp idJ (cAt [true, true, true, false, false] (bodyOf Try.f34)) (blkX 0 (retK Try.prog Try.f34 Q) noX) (retK Try.prog Try.f34 Q) m1) (blkX 0 (retK Try.prog Try.f34 Q) noX) (retK Try.prog Try.f34 Q)) (blkX 1 (seqK Try.prog index_Index_int_find_kp idJ (cAt [true, true, true, false, false, true] (bodyOf Try.f34)) (lopK Try.prog index_Index_int_find_kp idJ (cAt [true, true, true, false, false] (bodyOf Try.f34)) (blkX 0 (retK Try.prog Try.f34 Q) noX) (retK Try.prog Try.f34 Q) m1) (blkX 0 (retK Try.prog Try.f34 Q) noX) (retK Try.prog Try.f34 Q)) (blkX 0 (retK Try.prog Try.f34 Q) noX))) (retK Try.prog Try.f34 Q) ((.pointer x0) :: (.string key1) :: us 4 ((.int .i64 free6) :: (.int .i64 i7) :: (.pointer (some ⟨p8_b, p8_o, none⟩)) :: us 41 ((.bool t50) :: us 28 []))) := by kernel_rfl
theorem index_Index_int_find_j2_raw (jn : Jn) (Q : Value → WP) (m1 : Nat) (x0 : Option Addr) (key1 : ByteArray) (free6 : Int) (i7 : Int) (p8_b : Nat) (p8_o : Nat) (t35 : Bool) : codeI Try.prog index_Index_int_find_kp jn (cAt [true, true, true, false, false, false, false, true, false, true] (bodyOf Try.f34)) (seqK Try.prog index_Index_int_find_kp jn (cAt [true, true, true, false, false, true] (bodyOf Try.f34)) (lopK Try.prog index_Index_int_find_kp jn (cAt [true, true, true, false, false] (bodyOf Try.f34)) (blkX 0 (retK Try.prog Try.f34 Q) noX) (retK Try.prog Try.f34 Q) m1) (blkX 0 (retK Try.prog Try.f34 Q) noX) (retK Try.prog Try.f34 Q)) (blkX 2 (seqK Try.prog index_Index_int_find_kp jn (cAt [true, true, true, false, false, true] (bodyOf Try.f34)) (lopK Try.prog index_Index_int_find_kp jn (cAt [true, true, true, false, false] (bodyOf Try.f34)) (blkX 0 (retK Try.prog Try.f34 Q) noX) (retK Try.prog Try.f34 Q) m1) (blkX 0 (retK Try.prog Try.f34 Q) noX) (retK Try.prog Try.f34 Q)) (blkX 1 (seqK Try.prog index_Index_int_find_kp jn (cAt [true, true, true, false, false, true] (bodyOf Try.f34)) (lopK Try.prog index_Index_int_find_kp jn (cAt [true, true, true, false, false] (bodyOf Try.f34)) (blkX 0 (retK Try.prog Try.f34 Q) noX) (retK Try.prog Try.f34 Q) m1) (blkX 0 (retK Try.prog Try.f34 Q) noX) (retK Try.prog Try.f34 Q)) (blkX 0 (retK Try.prog Try.f34 Q) noX))) (retK Try.prog Try.f34 Q) ((.pointer x0) :: (.string key1) :: us 4 ((.int .i64 free6) :: (.int .i64 i7) :: (.pointer (some ⟨p8_b, p8_o, none⟩)) :: us 26 ((.bool t35) :: us 43 []))) = (
  ite2 t35 (
  Q (.tuple #[.int .i64 i7, .bool true])) (
  nilck (some ⟨p8_b, p8_o, none⟩) fun b_20 o_21 =>
  ld (.int .i64) b_20 o_21 fun (x_22 : Int) =>
  ite2 (x_22 == (1 : Int)) (
  index_Index_int_find_j3 jn Q m1 x0 key1 free6 i7 p8_b p8_o (decide (free6 < (0 : Int)))) (
  index_Index_int_find_j3 jn Q m1 x0 key1 free6 i7 p8_b p8_o false))) := by kernel_rfl
theorem index_Index_int_find_j2_def (Q : Value → WP) (m1 : Nat) (x0 : Option Addr) (key1 : ByteArray) (free6 : Int) (i7 : Int) (p8_b : Nat) (p8_o : Nat) (t35 : Bool) : index_Index_int_find_j2 idJ Q m1 x0 key1 free6 i7 p8_b p8_o t35 = codeI Try.prog index_Index_int_find_kp idJ (cAt [true, true, true, false, false, false, false, true, false, true] (bodyOf Try.f34)) (seqK Try.prog index_Index_int_find_kp idJ (cAt [true, true, true, false, false, true] (bodyOf Try.f34)) (lopK Try.prog index_Index_int_find_kp idJ (cAt [true, true, true, false, false] (bodyOf Try.f34)) (blkX 0 (retK Try.prog Try.f34 Q) noX) (retK Try.prog Try.f34 Q) m1) (blkX 0 (retK Try.prog Try.f34 Q) noX) (retK Try.prog Try.f34 Q)) (blkX 2 (seqK Try.prog index_Index_int_find_kp idJ (cAt [true, true, true, false, false, true] (bodyOf Try.f34)) (lopK Try.prog index_Index_int_find_kp idJ (cAt [true, true, true, false, false] (bodyOf Try.f34)) (blkX 0 (retK Try.prog Try.f34 Q) noX) (retK Try.prog Try.f34 Q) m1) (blkX 0 (retK Try.prog Try.f34 Q) noX) (retK Try.prog Try.f34 Q)) (blkX 1 (seqK Try.prog index_Index_int_find_kp idJ (cAt [true, true, true, false, false, true] (bodyOf Try.f34)) (lopK Try.prog index_Index_int_find_kp idJ (cAt [true, true, true, false, false] (bodyOf Try.f34)) (blkX 0 (retK Try.prog Try.f34 Q) noX) (retK Try.prog Try.f34 Q) m1) (blkX 0 (retK Try.prog Try.f34 Q) noX) (retK Try.prog Try.f34 Q)) (blkX 0 (retK Try.prog Try.f34 Q) noX))) (retK Try.prog Try.f34 Q) ((.pointer x0) :: (.string key1) :: us 4 ((.int .i64 free6) :: (.int .i64 i7) :: (.pointer (some ⟨p8_b, p8_o, none⟩)) :: us 26 ((.bool t35) :: us 43 []))) := by kernel_rfl
theorem index_Index_int_find_l1_raw (jn : Jn) (Q : Value → WP)  (m1 : Nat) (x0 : Option Addr) (key1 : ByteArray) (free6 : Int) (i7 : Int) : index_Index_int_find_l1 jn Q  (m1 + 1) x0 key1 free6 i7 = (
  nilck x0 fun b_9 o_10 =>
  ld .slc b_9 (o_10 + 1) fun (x_11 : Sl) =>
  idx x_11.a x_11.n i7 fun b_12 o_13 =>
  nilck (some ⟨b_12, (o_13 + (i7).toNat * 3), none⟩) fun b_14 o_15 =>
  ld (.int .i64) b_14 o_15 fun (x_16 : Int) =>
  ite2 (x_16 == (2 : Int)) (
  nilck (some ⟨b_12, (o_13 + (i7).toNat * 3), none⟩) fun b_17 o_18 =>
  ld .str b_17 (o_18 + 1) fun (x_19 : ByteArray) =>
  index_Index_int_find_j2 jn Q m1 x0 key1 free6 i7 b_12 (o_13 + (i7).toNat * 3) (sEq x_19 key1)) (
  index_Index_int_find_j2 jn Q m1 x0 key1 free6 i7 b_12 (o_13 + (i7).toNat * 3) false)) := by kernel_rfl
theorem index_Index_int_find_l1_zero (jn : Jn) (Q : Value → WP)  (x0 : Option Addr) (key1 : ByteArray) (free6 : Int) (i7 : Int) : index_Index_int_find_l1 jn Q  0 x0 key1 free6 i7 = bot := by kernel_rfl
theorem index_Index_int_find_raw (jn : Jn) (x0 : Option Addr) (key1 : ByteArray) (Q : Value → WP) : funJ jn Try.prog index_Index_int_find_kp Try.f34 [.pointer x0, .string key1] Q = (
  drawW fun S =>
  nilck x0 fun b_1 o_2 =>
  ldS S (.int .u64) b_1 o_2 fun (x_3 : Int) =>
  nilck x0 fun b_4 o_5 =>
  ldS S .slc b_4 (o_5 + 1) fun (x_6 : Sl) =>
  call1 (.int .u64) Try.prog id_mix_Hash [.int .u64 x_3, .string key1] fun (x_7 : Int) =>
  keepS true S <|
  call1 (.int .i64) Try.prog id_mix_Place [.int .u64 x_7, .int .i64 (x_6.n : Int)] fun (x_8 : Int) =>
  exM fun m => index_Index_int_find_l1 jn Q  m x0 key1 (-1 : Int) x_8) := by kernel_rfl
theorem index_Index_int_find_def (x0 : Option Addr) (key1 : ByteArray) (Q : Value → WP) : index_Index_int_find x0 key1 Q = funJ idJ Try.prog index_Index_int_find_kp Try.f34 [.pointer x0, .string key1] Q := rfl
theorem index_Index_int_find_calls {x0 : Option Addr} {key1 : ByteArray} {Q : Value → WP} {w : World} (h : index_Index_int_find x0 key1 Q w) : Calls Try.prog id_index_Index_int_find #[.pointer x0, .string key1] w fun e w' => ∃ v, e = .returned v ∧ Q v w' :=
  funJ_calls mixed Try.func34 rfl h

-- (*hoard/index.Index[int]).lays
def index_Index_int_lays_kp : KP := ⟨[(6, [0, 1, 2, 3])], []⟩
def index_Index_int_lays_j1 (jn : Jn) (Q : Value → WP)  (x0 : Option Addr) (i1 : Int) (key2 : ByteArray) (v3 : Int) : WP := jn 6 (fun ρ => codeI Try.prog index_Index_int_lays_kp jn (cAt [true] (bodyOf Try.f35)) (retK Try.prog Try.f35 Q) noX (retK Try.prog Try.f35 Q) ρ) ((.pointer x0) :: (.int .i64 i1) :: (.string key2) :: (.int .i64 v3) :: us 36 [])
def index_Index_int_lays (x0 : Option Addr) (i1 : Int) (key2 : ByteArray) (v3 : Int) (Q : Value → WP) : WP := funJ idJ Try.prog index_Index_int_lays_kp Try.f35 [.pointer x0, .int .i64 i1, .string key2, .int .i64 v3] Q
theorem index_Index_int_lays_j1_raw (jn : Jn) (Q : Value → WP)  (x0 : Option Addr) (i1 : Int) (key2 : ByteArray) (v3 : Int) : codeI Try.prog index_Index_int_lays_kp jn (cAt [true] (bodyOf Try.f35)) (retK Try.prog Try.f35 Q) noX (retK Try.prog Try.f35 Q) ((.pointer x0) :: (.int .i64 i1) :: (.string key2) :: (.int .i64 v3) :: us 36 []) = (
  nilck x0 fun b_12 o_13 =>
  ld .slc b_12 (o_13 + 1) fun (x_14 : Sl) =>
  idx x_14.a x_14.n i1 fun b_15 o_16 =>
  st b_15 (o_16 + (i1).toNat * 3) (.int .i64 (2 : Int)) <|
  st b_15 ((o_16 + (i1).toNat * 3) + 1) (.string key2) <|
  st b_15 (((o_16 + (i1).toNat * 3) + 1) + 1) (.int .i64 v3) <|
  nilck x0 fun b_17 o_18 =>
  ld (.int .i64) b_17 (o_18 + 2) fun (x_19 : Int) =>
  nilck x0 fun b_20 o_21 =>
  st b_20 (o_21 + 2) (.int .i64 (IntKind.wrap .i64 (x_19 + (1 : Int)))) <|
  Q (.tuple #[])) := by kernel_rfl
theorem index_Index_int_lays_j1_def (Q : Value → WP)  (x0 : Option Addr) (i1 : Int) (key2 : ByteArray) (v3 : Int) : index_Index_int_lays_j1 idJ Q  x0 i1 key2 v3 = codeI Try.prog index_Index_int_lays_kp idJ (cAt [true] (bodyOf Try.f35)) (retK Try.prog Try.f35 Q) noX (retK Try.prog Try.f35 Q) ((.pointer x0) :: (.int .i64 i1) :: (.string key2) :: (.int .i64 v3) :: us 36 []) := by kernel_rfl
theorem index_Index_int_lays_raw (jn : Jn) (x0 : Option Addr) (i1 : Int) (key2 : ByteArray) (v3 : Int) (Q : Value → WP) : funJ jn Try.prog index_Index_int_lays_kp Try.f35 [.pointer x0, .int .i64 i1, .string key2, .int .i64 v3] Q = (
  nilck x0 fun b_1 o_2 =>
  ld .slc b_1 (o_2 + 1) fun (x_3 : Sl) =>
  idx x_3.a x_3.n i1 fun b_4 o_5 =>
  ld (.int .i64) b_4 (o_5 + (i1).toNat * 3) fun (x_6 : Int) =>
  ite2 (x_6 == (0 : Int)) (
  nilck x0 fun b_7 o_8 =>
  ld (.int .i64) b_7 (o_8 + 3) fun (x_9 : Int) =>
  nilck x0 fun b_10 o_11 =>
  st b_10 (o_11 + 3) (.int .i64 (IntKind.wrap .i64 (x_9 + (1 : Int)))) <|
  index_Index_int_lays_j1 jn Q  x0 i1 key2 v3) (
  index_Index_int_lays_j1 jn Q  x0 i1 key2 v3)) := by kernel_rfl
theorem index_Index_int_lays_def (x0 : Option Addr) (i1 : Int) (key2 : ByteArray) (v3 : Int) (Q : Value → WP) : index_Index_int_lays x0 i1 key2 v3 Q = funJ idJ Try.prog index_Index_int_lays_kp Try.f35 [.pointer x0, .int .i64 i1, .string key2, .int .i64 v3] Q := rfl
theorem index_Index_int_lays_calls {x0 : Option Addr} {i1 : Int} {key2 : ByteArray} {v3 : Int} {Q : Value → WP} {w : World} (h : index_Index_int_lays x0 i1 key2 v3 Q w) : Calls Try.prog id_index_Index_int_lays #[.pointer x0, .int .i64 i1, .string key2, .int .i64 v3] w fun e w' => ∃ v, e = .returned v ∧ Q v w' :=
  funJ_calls mixed Try.func35 rfl h

-- (*hoard/index.Index[int]).grows
def index_Index_int_grows_kp : KP := ⟨[(9, [0, 28, 29, 30])], []⟩
def index_Index_int_grows_l1 (jn : Jn) (Q : Value → WP)  (m1 : Nat) (x0 : Option Addr) (t28 : Sl) (t29 : Int) (t30 : Int) : WP := lop Try.prog index_Index_int_grows_kp jn (cAt [true, true, true, false, false] (bodyOf Try.f36)) (blkX 0 (retK Try.prog Try.f36 Q) noX) (retK Try.prog Try.f36 Q) m1 ((.pointer x0) :: us 27 ((.slice t28.a t28.n t28.c) :: (.int .i64 t29) :: (.int .i64 t30) :: us 21 []))
def index_Index_int_grows (x0 : Option Addr) (Q : Value → WP) : WP := funJ idJ Try.prog index_Index_int_grows_kp Try.f36 [.pointer x0] Q
theorem index_Index_int_grows_l1_raw (jn : Jn) (Q : Value → WP)  (m1 : Nat) (x0 : Option Addr) (t28 : Sl) (t29 : Int) (t30 : Int) : index_Index_int_grows_l1 jn Q  (m1 + 1) x0 t28 t29 t30 = (
  ite2 (decide (t30 < t29)) (
  idx t28.a t28.n t30 fun b_14 o_15 =>
  ld (.int .i64) b_14 (o_15 + (t30).toNat * 3) fun (x_16 : Int) =>
  ld .str b_14 ((o_15 + (t30).toNat * 3) + 1) fun (x_17 : ByteArray) =>
  ld (.int .i64) b_14 (((o_15 + (t30).toNat * 3) + 1) + 1) fun (x_18 : Int) =>
  newB [.int .i64 (0 : Int), .string str_empty, .int .i64 (0 : Int)] ty_index_place_int fun b_19 =>
  st b_19 0 (.int .i64 x_16) <|
  st b_19 1 (.string x_17) <|
  st b_19 2 (.int .i64 x_18) <|
  ld (.int .i64) b_19 0 fun (x_20 : Int) =>
  ite2 (x_20 == (2 : Int)) (
  ld .str b_19 1 fun (x_21 : ByteArray) =>
  call2 (.int .i64) .bool Try.prog id_index_Index_int_find [.pointer x0, .string x_21] fun (x_22 : Int) (x_23 : Bool) =>
  ld .str b_19 1 fun (x_24 : ByteArray) =>
  ld (.int .i64) b_19 2 fun (x_25 : Int) =>
  call0 Try.prog id_index_Index_int_lays [.pointer x0, .int .i64 x_22, .string x_24, .int .i64 x_25] <|
  index_Index_int_grows_l1 jn Q  m1 x0 t28 t29 (IntKind.wrap .i64 (t30 + (1 : Int)))) (
  index_Index_int_grows_l1 jn Q  m1 x0 t28 t29 (IntKind.wrap .i64 (t30 + (1 : Int))))) (
  Q (.tuple #[]))) := by kernel_rfl
theorem index_Index_int_grows_l1_zero (jn : Jn) (Q : Value → WP)  (x0 : Option Addr) (t28 : Sl) (t29 : Int) (t30 : Int) : index_Index_int_grows_l1 jn Q  0 x0 t28 t29 t30 = bot := by kernel_rfl
theorem index_Index_int_grows_raw (jn : Jn) (x0 : Option Addr) (Q : Value → WP) : funJ jn Try.prog index_Index_int_grows_kp Try.f36 [.pointer x0] Q = (
  nilck x0 fun b_1 o_2 =>
  ld .slc b_1 (o_2 + 1) fun (x_3 : Sl) =>
  nilck x0 fun b_4 o_5 =>
  ld (.int .i64) b_4 (o_5 + 2) fun (x_6 : Int) =>
  makeC ty_index_place_int 32 [.int .i64 (0 : Int), .string str_empty, .int .i64 (0 : Int)] (if (IntKind.wrap .i64 ((4 : Int) * (IntKind.wrap .i64 (x_6 + (1 : Int))))) > (8 : Int) then (IntKind.wrap .i64 ((4 : Int) * (IntKind.wrap .i64 (x_6 + (1 : Int))))) else (8 : Int)) (if (IntKind.wrap .i64 ((4 : Int) * (IntKind.wrap .i64 (x_6 + (1 : Int))))) > (8 : Int) then (IntKind.wrap .i64 ((4 : Int) * (IntKind.wrap .i64 (x_6 + (1 : Int))))) else (8 : Int)) fun s_7 =>
  nilck x0 fun b_8 o_9 =>
  st b_8 (o_9 + 1) (.slice s_7.a s_7.n s_7.c) <|
  nilck x0 fun b_10 o_11 =>
  st b_10 (o_11 + 2) (.int .i64 (0 : Int)) <|
  nilck x0 fun b_12 o_13 =>
  st b_12 (o_13 + 3) (.int .i64 (0 : Int)) <|
  exM fun m => index_Index_int_grows_l1 jn Q  m x0 x_3 (x_3.n : Int) (0 : Int)) := by kernel_rfl
theorem index_Index_int_grows_def (x0 : Option Addr) (Q : Value → WP) : index_Index_int_grows x0 Q = funJ idJ Try.prog index_Index_int_grows_kp Try.f36 [.pointer x0] Q := rfl
theorem index_Index_int_grows_calls {x0 : Option Addr} {Q : Value → WP} {w : World} (h : index_Index_int_grows x0 Q w) : Calls Try.prog id_index_Index_int_grows #[.pointer x0] w fun e w' => ∃ v, e = .returned v ∧ Q v w' :=
  funJ_calls mixed Try.func36 rfl h

-- hoard/mix.Place
def mix_Place_kp : KP := ⟨[], []⟩
def mix_Place (h0 : Int) (n1 : Int) (Q : Value → WP) : WP := funJ idJ Try.prog mix_Place_kp Try.f37 [.int .u64 h0, .int .i64 n1] Q
theorem mix_Place_raw (jn : Jn) (h0 : Int) (n1 : Int) (Q : Value → WP) : funJ jn Try.prog mix_Place_kp Try.f37 [.int .u64 h0, .int .i64 n1] Q = (
  ite2 (decide (n1 < (1 : Int))) (
  Q (.int .i64 (0 : Int))) (
  when ((IntKind.wrap .u64 n1) ≠ 0) <|
  Q (.int .i64 (IntKind.wrap .i64 (Int.tmod h0 (IntKind.wrap .u64 n1)))))) := by kernel_rfl
theorem mix_Place_def (h0 : Int) (n1 : Int) (Q : Value → WP) : mix_Place h0 n1 Q = funJ idJ Try.prog mix_Place_kp Try.f37 [.int .u64 h0, .int .i64 n1] Q := rfl
theorem mix_Place_calls {h0 : Int} {n1 : Int} {Q : Value → WP} {w : World} (h : mix_Place h0 n1 Q w) : Calls Try.prog id_mix_Place #[.int .u64 h0, .int .i64 n1] w fun e w' => ∃ v, e = .returned v ∧ Q v w' :=
  funJ_calls mixed Try.func37 rfl h

-- hoard/mix.Hash
def mix_Hash_kp : KP := ⟨[(9, [1, 5, 14, 15]), (16, [5])], []⟩
def mix_Hash_j2 (jn : Jn) (Q : Value → WP)  (h5 : Int) : WP := jn 16 (fun ρ => codeI Try.prog mix_Hash_kp jn (cAt [true, true, true] (bodyOf Try.f38)) (retK Try.prog Try.f38 Q) noX (retK Try.prog Try.f38 Q) ρ) (us 5 ((.int .u64 h5) :: us 22 []))
def mix_Hash_l1 (jn : Jn) (Q : Value → WP)  (m1 : Nat) (s1 : ByteArray) (h5 : Int) (t14 : Int) (t15 : Int) : WP := lop Try.prog mix_Hash_kp jn (cAt [true, true, false, true, false, false] (bodyOf Try.f38)) (blkX 0 (seqK Try.prog mix_Hash_kp jn (cAt [true, true, true] (bodyOf Try.f38)) (retK Try.prog Try.f38 Q) noX (retK Try.prog Try.f38 Q)) noX) (retK Try.prog Try.f38 Q) m1 (us 1 ((.string s1) :: us 3 ((.int .u64 h5) :: us 8 ((.int .i64 t14) :: (.int .i64 t15) :: us 12 []))))
def mix_Hash (seed0 : Int) (s1 : ByteArray) (Q : Value → WP) : WP := funJ idJ Try.prog mix_Hash_kp Try.f38 [.int .u64 seed0, .string s1] Q
theorem mix_Hash_j2_raw (jn : Jn) (Q : Value → WP)  (h5 : Int) : codeI Try.prog mix_Hash_kp jn (cAt [true, true, true] (bodyOf Try.f38)) (retK Try.prog Try.f38 Q) noX (retK Try.prog Try.f38 Q) (us 5 ((.int .u64 h5) :: us 22 [])) = (
  Q (.int .u64 h5)) := by kernel_rfl
theorem mix_Hash_j2_def (Q : Value → WP)  (h5 : Int) : mix_Hash_j2 idJ Q  h5 = codeI Try.prog mix_Hash_kp idJ (cAt [true, true, true] (bodyOf Try.f38)) (retK Try.prog Try.f38 Q) noX (retK Try.prog Try.f38 Q) (us 5 ((.int .u64 h5) :: us 22 [])) := by kernel_rfl
theorem mix_Hash_l1_raw (jn : Jn) (Q : Value → WP)  (m1 : Nat) (s1 : ByteArray) (h5 : Int) (t14 : Int) (t15 : Int) : mix_Hash_l1 jn Q  (m1 + 1) s1 h5 t14 t15 = (
  ite2 (decide (t15 < t14)) (
  when ((0 : Int) ≤ t15 ∧ t15 < (s1.size : Int)) <|
  call1 (.int .u64) Try.prog id_mix_Mix [.int .u64 (IntKind.wrap .u64 ((bits .xor .u64 h5 (IntKind.wrap .u64 (byteAt s1 (t15).toNat))) + (11400714819323198485 : Int)))] fun (x_2 : Int) =>
  mix_Hash_l1 jn Q  m1 s1 x_2 t14 (IntKind.wrap .i64 (t15 + (1 : Int)))) (
  mix_Hash_j2 jn Q  h5)) := by kernel_rfl
theorem mix_Hash_l1_zero (jn : Jn) (Q : Value → WP)  (s1 : ByteArray) (h5 : Int) (t14 : Int) (t15 : Int) : mix_Hash_l1 jn Q  0 s1 h5 t14 t15 = bot := by kernel_rfl
theorem mix_Hash_raw (jn : Jn) (seed0 : Int) (s1 : ByteArray) (Q : Value → WP) : funJ jn Try.prog mix_Hash_kp Try.f38 [.int .u64 seed0, .string s1] Q = (
  call1 (.int .u64) Try.prog id_mix_Mix [.int .u64 (bits .xor .u64 seed0 (IntKind.wrap .u64 (s1.size : Int)))] fun (x_1 : Int) =>
  exM fun m => mix_Hash_l1 jn Q  m s1 x_1 (s1.size : Int) (0 : Int)) := by kernel_rfl
theorem mix_Hash_def (seed0 : Int) (s1 : ByteArray) (Q : Value → WP) : mix_Hash seed0 s1 Q = funJ idJ Try.prog mix_Hash_kp Try.f38 [.int .u64 seed0, .string s1] Q := rfl
theorem mix_Hash_calls {seed0 : Int} {s1 : ByteArray} {Q : Value → WP} {w : World} (h : mix_Hash seed0 s1 Q w) : Calls Try.prog id_mix_Hash #[.int .u64 seed0, .string s1] w fun e w' => ∃ v, e = .returned v ∧ Q v w' :=
  funJ_calls mixed Try.func38 rfl h

-- (*hoard/hoardref6.Index).at
def hoardref6_Index_at_kp : KP := ⟨[(7, [0, 1, 6]), (10, [0, 1, 6])], [(4, [0, 1, 2, 3, 4, 6, 7, 8, 9, 10, 11, 13, 14, 15, 17, 18, 19, 20, 21])]⟩
def hoardref6_Index_at_j2 (jn : Jn) (Q : Value → WP)  (x0 : Option Addr) (key1 : ByteArray) (i6 : Int) : WP := jn 10 (fun ρ => codeI Try.prog hoardref6_Index_at_kp jn (cAt [true, true, true] (bodyOf Try.f39)) (retK Try.prog Try.f39 Q) noX (retK Try.prog Try.f39 Q) ρ) ((.pointer x0) :: (.string key1) :: us 4 ((.int .i64 i6) :: us 41 []))
def hoardref6_Index_at_l1 (jn : Jn) (Q : Value → WP)  (m1 : Nat) (x0 : Option Addr) (key1 : ByteArray) (i6 : Int) : WP := lop Try.prog hoardref6_Index_at_kp jn (cAt [true, true, false, false, false] (bodyOf Try.f39)) (blkX 0 (seqK Try.prog hoardref6_Index_at_kp jn (cAt [true, true, true] (bodyOf Try.f39)) (retK Try.prog Try.f39 Q) noX (retK Try.prog Try.f39 Q)) noX) (retK Try.prog Try.f39 Q) m1 ((.pointer x0) :: (.string key1) :: us 4 ((.int .i64 i6) :: us 41 []))
def hoardref6_Index_at (x0 : Option Addr) (key1 : ByteArray) (Q : Value → WP) : WP := funJ idJ Try.prog hoardref6_Index_at_kp Try.f39 [.pointer x0, .string key1] Q
theorem hoardref6_Index_at_j2_raw (jn : Jn) (Q : Value → WP)  (x0 : Option Addr) (key1 : ByteArray) (i6 : Int) : codeI Try.prog hoardref6_Index_at_kp jn (cAt [true, true, true] (bodyOf Try.f39)) (retK Try.prog Try.f39 Q) noX (retK Try.prog Try.f39 Q) ((.pointer x0) :: (.string key1) :: us 4 ((.int .i64 i6) :: us 41 [])) = (
  drawW fun S =>
  nilck x0 fun b_10 o_11 =>
  ld .slc b_10 o_11 fun (x_12 : Sl) =>
  ite2 (decide (i6 < (x_12.n : Int))) (
  nilck x0 fun b_13 o_14 =>
  ld .slc b_13 o_14 fun (x_15 : Sl) =>
  idx x_15.a x_15.n i6 fun b_16 o_17 =>
  ld .str b_16 (o_17 + (i6).toNat * 2) fun (x_18 : ByteArray) =>
  Q (.tuple #[.int .i64 i6, .bool (sEq x_18 key1)])) (
  Q (.tuple #[.int .i64 i6, .bool false]))) := by kernel_rfl
theorem hoardref6_Index_at_j2_def (Q : Value → WP)  (x0 : Option Addr) (key1 : ByteArray) (i6 : Int) : hoardref6_Index_at_j2 idJ Q  x0 key1 i6 = codeI Try.prog hoardref6_Index_at_kp idJ (cAt [true, true, true] (bodyOf Try.f39)) (retK Try.prog Try.f39 Q) noX (retK Try.prog Try.f39 Q) ((.pointer x0) :: (.string key1) :: us 4 ((.int .i64 i6) :: us 41 [])) := by kernel_rfl
theorem hoardref6_Index_at_l1_raw (jn : Jn) (Q : Value → WP)  (m1 : Nat) (x0 : Option Addr) (key1 : ByteArray) (i6 : Int) : hoardref6_Index_at_l1 jn Q  (m1 + 1) x0 key1 i6 = (
  nilck x0 fun b_1 o_2 =>
  ld .slc b_1 o_2 fun (x_3 : Sl) =>
  ite2 (decide (i6 < (x_3.n : Int))) (
  nilck x0 fun b_4 o_5 =>
  ld .slc b_4 o_5 fun (x_6 : Sl) =>
  idx x_6.a x_6.n i6 fun b_7 o_8 =>
  ld .str b_7 (o_8 + (i6).toNat * 2) fun (x_9 : ByteArray) =>
  ite2 (sLt x_9 key1) (
  hoardref6_Index_at_l1 jn Q  m1 x0 key1 (IntKind.wrap .i64 (i6 + (1 : Int)))) (
  hoardref6_Index_at_j2 jn Q  x0 key1 i6)) (
  hoardref6_Index_at_j2 jn Q  x0 key1 i6)) := by kernel_rfl
theorem hoardref6_Index_at_l1_zero (jn : Jn) (Q : Value → WP)  (x0 : Option Addr) (key1 : ByteArray) (i6 : Int) : hoardref6_Index_at_l1 jn Q  0 x0 key1 i6 = bot := by kernel_rfl
theorem hoardref6_Index_at_raw (jn : Jn) (x0 : Option Addr) (key1 : ByteArray) (Q : Value → WP) : funJ jn Try.prog hoardref6_Index_at_kp Try.f39 [.pointer x0, .string key1] Q = (
  exM fun m => hoardref6_Index_at_l1 jn Q  m x0 key1 (0 : Int)) := by kernel_rfl
theorem hoardref6_Index_at_def (x0 : Option Addr) (key1 : ByteArray) (Q : Value → WP) : hoardref6_Index_at x0 key1 Q = funJ idJ Try.prog hoardref6_Index_at_kp Try.f39 [.pointer x0, .string key1] Q := rfl
theorem hoardref6_Index_at_calls {x0 : Option Addr} {key1 : ByteArray} {Q : Value → WP} {w : World} (h : hoardref6_Index_at x0 key1 Q w) : Calls Try.prog id_hoardref6_Index_at #[.pointer x0, .string key1] w fun e w' => ∃ v, e = .returned v ∧ Q v w' :=
  funJ_calls mixed Try.func39 rfl h

-- slices.pdqsortOrdered[string]
def slices_pdqsortOrdered_string_kp : KP := ⟨[(7, [0, 1, 2, 3, 8, 9]), (22, [0, 1, 2, 3, 8, 9, 10]), (32, [0, 1, 2, 3, 8, 9, 10, 11, 12]), (34, [0, 1, 2, 3, 8, 9, 10, 11, 68]), (36, [0, 1, 2, 3, 8, 9, 10, 11]), (42, [0, 1, 2, 3, 10, 11])], [(17, [0, 1, 2, 3, 4, 5, 6, 7, 8, 9, 10, 13, 14])]⟩
def slices_pdqsortOrdered_string_j6 (jn : Jn) (Q : Value → WP) (m1 : Nat) (data0 : Sl) (a1 : Int) (b2 : Int) (limit3 : Int) (length10 : Int) (pivot11 : Int) : WP := jn 42 (fun ρ => codeI Try.prog slices_pdqsortOrdered_string_kp jn (cAt [true, true, false, false, false, true, true, true, true, true, true, true, true] (bodyOf Try.f40)) (lopK Try.prog slices_pdqsortOrdered_string_kp jn (cAt [true, true, false, false] (bodyOf Try.f40)) (blkX 0 (retK Try.prog Try.f40 Q) noX) (retK Try.prog Try.f40 Q) m1) (blkX 1 (lopK Try.prog slices_pdqsortOrdered_string_kp jn (cAt [true, true, false, false] (bodyOf Try.f40)) (blkX 0 (retK Try.prog Try.f40 Q) noX) (retK Try.prog Try.f40 Q) m1) (blkX 0 (retK Try.prog Try.f40 Q) noX)) (retK Try.prog Try.f40 Q) ρ) ((.slice data0.a data0.n data0.c) :: (.int .i64 a1) :: (.int .i64 b2) :: (.int .i64 limit3) :: us 6 ((.int .i64 length10) :: (.int .i64 pivot11) :: us 122 []))
def slices_pdqsortOrdered_string_j5 (jn : Jn) (Q : Value → WP) (m1 : Nat) (data0 : Sl) (a1 : Int) (b2 : Int) (limit3 : Int) (wasBalanced8 : Bool) (wasPartitioned9 : Bool) (length10 : Int) (pivot11 : Int) : WP := jn 36 (fun ρ => codeI Try.prog slices_pdqsortOrdered_string_kp jn (cAt [true, true, false, false, false, true, true, true, true, true, true, true] (bodyOf Try.f40)) (lopK Try.prog slices_pdqsortOrdered_string_kp jn (cAt [true, true, false, false] (bodyOf Try.f40)) (blkX 0 (retK Try.prog Try.f40 Q) noX) (retK Try.prog Try.f40 Q) m1) (blkX 1 (lopK Try.prog slices_pdqsortOrdered_string_kp jn (cAt [true, true, false, false] (bodyOf Try.f40)) (blkX 0 (retK Try.prog Try.f40 Q) noX) (retK Try.prog Try.f40 Q) m1) (blkX 0 (retK Try.prog Try.f40 Q) noX)) (retK Try.prog Try.f40 Q) ρ) ((.slice data0.a data0.n data0.c) :: (.int .i64 a1) :: (.int .i64 b2) :: (.int .i64 limit3) :: us 4 ((.bool wasBalanced8) :: (.bool wasPartitioned9) :: (.int .i64 length10) :: (.int .i64 pivot11) :: us 122 []))
def slices_pdqsortOrdered_string_j4 (jn : Jn) (Q : Value → WP) (m1 : Nat) (data0 : Sl) (a1 : Int) (b2 : Int) (limit3 : Int) (wasBalanced8 : Bool) (wasPartitioned9 : Bool) (length10 : Int) (pivot11 : Int) (t68 : Bool) : WP := jn 34 (fun ρ => codeI Try.prog slices_pdqsortOrdered_string_kp jn (cAt [true, true, false, false, false, true, true, true, true, true, true, false, true] (bodyOf Try.f40)) (seqK Try.prog slices_pdqsortOrdered_string_kp jn (cAt [true, true, false, false, false, true, true, true, true, true, true, true] (bodyOf Try.f40)) (lopK Try.prog slices_pdqsortOrdered_string_kp jn (cAt [true, true, false, false] (bodyOf Try.f40)) (blkX 0 (retK Try.prog Try.f40 Q) noX) (retK Try.prog Try.f40 Q) m1) (blkX 1 (lopK Try.prog slices_pdqsortOrdered_string_kp jn (cAt [true, true, false, false] (bodyOf Try.f40)) (blkX 0 (retK Try.prog Try.f40 Q) noX) (retK Try.prog Try.f40 Q) m1) (blkX 0 (retK Try.prog Try.f40 Q) noX)) (retK Try.prog Try.f40 Q)) (blkX 1 (lopK Try.prog slices_pdqsortOrdered_string_kp jn (cAt [true, true, false, false] (bodyOf Try.f40)) (blkX 0 (retK Try.prog Try.f40 Q) noX) (retK Try.prog Try.f40 Q) m1) (blkX 0 (retK Try.prog Try.f40 Q) noX)) (retK Try.prog Try.f40 Q) ρ) ((.slice data0.a data0.n data0.c) :: (.int .i64 a1) :: (.int .i64 b2) :: (.int .i64 limit3) :: us 4 ((.bool wasBalanced8) :: (.bool wasPartitioned9) :: (.int .i64 length10) :: (.int .i64 pivot11) :: us 56 ((.bool t68) :: us 65 [])))
def slices_pdqsortOrdered_string_j3 (jn : Jn) (Q : Value → WP) (m1 : Nat) (data0 : Sl) (a1 : Int) (b2 : Int) (limit3 : Int) (wasBalanced8 : Bool) (wasPartitioned9 : Bool) (length10 : Int) (pivot11 : Int) (hint12 : Int) : WP := jn 32 (fun ρ => codeI Try.prog slices_pdqsortOrdered_string_kp jn (cAt [true, true, false, false, false, true, true, true, true, true, true] (bodyOf Try.f40)) (lopK Try.prog slices_pdqsortOrdered_string_kp jn (cAt [true, true, false, false] (bodyOf Try.f40)) (blkX 0 (retK Try.prog Try.f40 Q) noX) (retK Try.prog Try.f40 Q) m1) (blkX 1 (lopK Try.prog slices_pdqsortOrdered_string_kp jn (cAt [true, true, false, false] (bodyOf Try.f40)) (blkX 0 (retK Try.prog Try.f40 Q) noX) (retK Try.prog Try.f40 Q) m1) (blkX 0 (retK Try.prog Try.f40 Q) noX)) (retK Try.prog Try.f40 Q) ρ) ((.slice data0.a data0.n data0.c) :: (.int .i64 a1) :: (.int .i64 b2) :: (.int .i64 limit3) :: us 4 ((.bool wasBalanced8) :: (.bool wasPartitioned9) :: (.int .i64 length10) :: (.int .i64 pivot11) :: (.int .i64 hint12) :: us 121 []))
def slices_pdqsortOrdered_string_j2 (jn : Jn) (Q : Value → WP) (m1 : Nat) (data0 : Sl) (a1 : Int) (b2 : Int) (limit3 : Int) (wasBalanced8 : Bool) (wasPartitioned9 : Bool) (length10 : Int) : WP := jn 22 (fun ρ => codeI Try.prog slices_pdqsortOrdered_string_kp jn (cAt [true, true, false, false, false, true, true, true, true] (bodyOf Try.f40)) (lopK Try.prog slices_pdqsortOrdered_string_kp jn (cAt [true, true, false, false] (bodyOf Try.f40)) (blkX 0 (retK Try.prog Try.f40 Q) noX) (retK Try.prog Try.f40 Q) m1) (blkX 1 (lopK Try.prog slices_pdqsortOrdered_string_kp jn (cAt [true, true, false, false] (bodyOf Try.f40)) (blkX 0 (retK Try.prog Try.f40 Q) noX) (retK Try.prog Try.f40 Q) m1) (blkX 0 (retK Try.prog Try.f40 Q) noX)) (retK Try.prog Try.f40 Q) ρ) ((.slice data0.a data0.n data0.c) :: (.int .i64 a1) :: (.int .i64 b2) :: (.int .i64 limit3) :: us 4 ((.bool wasBalanced8) :: (.bool wasPartitioned9) :: (.int .i64 length10) :: us 123 []))
def slices_pdqsortOrdered_string_l1 (jn : Jn) (Q : Value → WP)  (m1 : Nat) (data0 : Sl) (a1 : Int) (b2 : Int) (limit3 : Int) (wasBalanced8 : Bool) (wasPartitioned9 : Bool) : WP := lop Try.prog slices_pdqsortOrdered_string_kp jn (cAt [true, true, false, false] (bodyOf Try.f40)) (blkX 0 (retK Try.prog Try.f40 Q) noX) (retK Try.prog Try.f40 Q) m1 ((.slice data0.a data0.n data0.c) :: (.int .i64 a1) :: (.int .i64 b2) :: (.int .i64 limit3) :: us 4 ((.bool wasBalanced8) :: (.bool wasPartitioned9) :: us 124 []))
def slices_pdqsortOrdered_string (data0 : Sl) (a1 : Int) (b2 : Int) (limit3 : Int) (Q : Value → WP) : WP := funJ idJ Try.prog slices_pdqsortOrdered_string_kp Try.f40 [.slice data0.a data0.n data0.c, .int .i64 a1, .int .i64 b2, .int .i64 limit3] Q
theorem slices_pdqsortOrdered_string_j6_raw (jn : Jn) (Q : Value → WP) (m1 : Nat) (data0 : Sl) (a1 : Int) (b2 : Int) (limit3 : Int) (length10 : Int) (pivot11 : Int) : codeI Try.prog slices_pdqsortOrdered_string_kp jn (cAt [true, true, false, false, false, true, true, true, true, true, true, true, true] (bodyOf Try.f40)) (lopK Try.prog slices_pdqsortOrdered_string_kp jn (cAt [true, true, false, false] (bodyOf Try.f40)) (blkX 0 (retK Try.prog Try.f40 Q) noX) (retK Try.prog Try.f40 Q) m1) (blkX 1 (lopK Try.prog slices_pdqsortOrdered_string_kp jn (cAt [true, true, false, false] (bodyOf Try.f40)) (blkX 0 (retK Try.prog Try.f40 Q) noX) (retK Try.prog Try.f40 Q) m1) (blkX 0 (retK Try.prog Try.f40 Q) noX)) (retK Try.prog Try.f40 Q) ((.slice data0.a data0.n data0.c) :: (.int .i64 a1) :: (.int .i64 b2) :: (.int .i64 limit3) :: us 6 ((.int .i64 length10) :: (.int .i64 pivot11) :: us 122 [])) = (
  call2 (.int .i64) .bool Try.prog id_slices_partitionOrdered_string [.slice data0.a data0.n data0.c, .int .i64 a1, .int .i64 b2, .int .i64 pivot11] fun (x_12 : Int) (x_13 : Bool) =>
  when ((8 : Int) ≠ 0) <|
  ite2 (decide ((IntKind.wrap .i64 (x_12 - a1)) < (IntKind.wrap .i64 (b2 - x_12)))) (
  call0 Try.prog id_slices_pdqsortOrdered_string [.slice data0.a data0.n data0.c, .int .i64 a1, .int .i64 x_12, .int .i64 limit3] <|
  slices_pdqsortOrdered_string_l1 jn Q  m1 data0 (IntKind.wrap .i64 (x_12 + (1 : Int))) b2 limit3 (decide ((IntKind.wrap .i64 (x_12 - a1)) ≥ (IntKind.wrap .i64 (Int.tdiv length10 (8 : Int))))) x_13) (
  call0 Try.prog id_slices_pdqsortOrdered_string [.slice data0.a data0.n data0.c, .int .i64 (IntKind.wrap .i64 (x_12 + (1 : Int))), .int .i64 b2, .int .i64 limit3] <|
  slices_pdqsortOrdered_string_l1 jn Q  m1 data0 a1 x_12 limit3 (decide ((IntKind.wrap .i64 (b2 - x_12)) ≥ (IntKind.wrap .i64 (Int.tdiv length10 (8 : Int))))) x_13)) := by kernel_rfl
theorem slices_pdqsortOrdered_string_j6_def (Q : Value → WP) (m1 : Nat) (data0 : Sl) (a1 : Int) (b2 : Int) (limit3 : Int) (length10 : Int) (pivot11 : Int) : slices_pdqsortOrdered_string_j6 idJ Q m1 data0 a1 b2 limit3 length10 pivot11 = codeI Try.prog slices_pdqsortOrdered_string_kp idJ (cAt [true, true, false, false, false, true, true, true, true, true, true, true, true] (bodyOf Try.f40)) (lopK Try.prog slices_pdqsortOrdered_string_kp idJ (cAt [true, true, false, false] (bodyOf Try.f40)) (blkX 0 (retK Try.prog Try.f40 Q) noX) (retK Try.prog Try.f40 Q) m1) (blkX 1 (lopK Try.prog slices_pdqsortOrdered_string_kp idJ (cAt [true, true, false, false] (bodyOf Try.f40)) (blkX 0 (retK Try.prog Try.f40 Q) noX) (retK Try.prog Try.f40 Q) m1) (blkX 0 (retK Try.prog Try.f40 Q) noX)) (retK Try.prog Try.f40 Q) ((.slice data0.a data0.n data0.c) :: (.int .i64 a1) :: (.int .i64 b2) :: (.int .i64 limit3) :: us 6 ((.int .i64 length10) :: (.int .i64 pivot11) :: us 122 [])) := by kernel_rfl
theorem slices_pdqsortOrdered_string_j5_raw (jn : Jn) (Q : Value → WP) (m1 : Nat) (data0 : Sl) (a1 : Int) (b2 : Int) (limit3 : Int) (wasBalanced8 : Bool) (wasPartitioned9 : Bool) (length10 : Int) (pivot11 : Int) : codeI Try.prog slices_pdqsortOrdered_string_kp jn (cAt [true, true, false, false, false, true, true, true, true, true, true, true] (bodyOf Try.f40)) (lopK Try.prog slices_pdqsortOrdered_string_kp jn (cAt [true, true, false, false] (bodyOf Try.f40)) (blkX 0 (retK Try.prog Try.f40 Q) noX) (retK Try.prog Try.f40 Q) m1) (blkX 1 (lopK Try.prog slices_pdqsortOrdered_string_kp jn (cAt [true, true, false, false] (bodyOf Try.f40)) (blkX 0 (retK Try.prog Try.f40 Q) noX) (retK Try.prog Try.f40 Q) m1) (blkX 0 (retK Try.prog Try.f40 Q) noX)) (retK Try.prog Try.f40 Q) ((.slice data0.a data0.n data0.c) :: (.int .i64 a1) :: (.int .i64 b2) :: (.int .i64 limit3) :: us 4 ((.bool wasBalanced8) :: (.bool wasPartitioned9) :: (.int .i64 length10) :: (.int .i64 pivot11) :: us 122 [])) = (
  drawW fun S =>
  ite2 (decide (a1 > (0 : Int))) (
  idx data0.a data0.n (IntKind.wrap .i64 (a1 - (1 : Int))) fun b_4 o_5 =>
  ldS S .str b_4 (o_5 + ((IntKind.wrap .i64 (a1 - (1 : Int)))).toNat * 1) fun (x_6 : ByteArray) =>
  idx data0.a data0.n pivot11 fun b_7 o_8 =>
  ld .str b_7 (o_8 + (pivot11).toNat * 1) fun (x_9 : ByteArray) =>
  keepS true S <|
  call1 .bool Try.prog id_cmp_Less_string [.string x_6, .string x_9] fun (x_10 : Bool) =>
  ite2 (!x_10) (
  call1 (.int .i64) Try.prog id_slices_partitionEqualOrdered_string [.slice data0.a data0.n data0.c, .int .i64 a1, .int .i64 b2, .int .i64 pivot11] fun (x_11 : Int) =>
  slices_pdqsortOrdered_string_l1 jn Q  m1 data0 x_11 b2 limit3 wasBalanced8 wasPartitioned9) (
  slices_pdqsortOrdered_string_j6 jn Q m1 data0 a1 b2 limit3 length10 pivot11)) (
  keepS true S <|
  slices_pdqsortOrdered_string_j6 jn Q m1 data0 a1 b2 limit3 length10 pivot11)) := by kernel_rfl
theorem slices_pdqsortOrdered_string_j5_def (Q : Value → WP) (m1 : Nat) (data0 : Sl) (a1 : Int) (b2 : Int) (limit3 : Int) (wasBalanced8 : Bool) (wasPartitioned9 : Bool) (length10 : Int) (pivot11 : Int) : slices_pdqsortOrdered_string_j5 idJ Q m1 data0 a1 b2 limit3 wasBalanced8 wasPartitioned9 length10 pivot11 = codeI Try.prog slices_pdqsortOrdered_string_kp idJ (cAt [true, true, false, false, false, true, true, true, true, true, true, true] (bodyOf Try.f40)) (lopK Try.prog slices_pdqsortOrdered_string_kp idJ (cAt [true, true, false, false] (bodyOf Try.f40)) (blkX 0 (retK Try.prog Try.f40 Q) noX) (retK Try.prog Try.f40 Q) m1) (blkX 1 (lopK Try.prog slices_pdqsortOrdered_string_kp idJ (cAt [true, true, false, false] (bodyOf Try.f40)) (blkX 0 (retK Try.prog Try.f40 Q) noX) (retK Try.prog Try.f40 Q) m1) (blkX 0 (retK Try.prog Try.f40 Q) noX)) (retK Try.prog Try.f40 Q) ((.slice data0.a data0.n data0.c) :: (.int .i64 a1) :: (.int .i64 b2) :: (.int .i64 limit3) :: us 4 ((.bool wasBalanced8) :: (.bool wasPartitioned9) :: (.int .i64 length10) :: (.int .i64 pivot11) :: us 122 [])) := by kernel_rfl
theorem slices_pdqsortOrdered_string_j4_raw (jn : Jn) (Q : Value → WP) (m1 : Nat) (data0 : Sl) (a1 : Int) (b2 : Int) (limit3 : Int) (wasBalanced8 : Bool) (wasPartitioned9 : Bool) (length10 : Int) (pivot11 : Int) (t68 : Bool) : codeI Try.prog slices_pdqsortOrdered_string_kp jn (cAt [true, true, false, false, false, true, true, true, true, true, true, false, true] (bodyOf Try.f40)) (seqK Try.prog slices_pdqsortOrdered_string_kp jn (cAt [true, true, false, false, false, true, true, true, true, true, true, true] (bodyOf Try.f40)) (lopK Try.prog slices_pdqsortOrdered_string_kp jn (cAt [true, true, false, false] (bodyOf Try.f40)) (blkX 0 (retK Try.prog Try.f40 Q) noX) (retK Try.prog Try.f40 Q) m1) (blkX 1 (lopK Try.prog slices_pdqsortOrdered_string_kp jn (cAt [true, true, false, false] (bodyOf Try.f40)) (blkX 0 (retK Try.prog Try.f40 Q) noX) (retK Try.prog Try.f40 Q) m1) (blkX 0 (retK Try.prog Try.f40 Q) noX)) (retK Try.prog Try.f40 Q)) (blkX 1 (lopK Try.prog slices_pdqsortOrdered_string_kp jn (cAt [true, true, false, false] (bodyOf Try.f40)) (blkX 0 (retK Try.prog Try.f40 Q) noX) (retK Try.prog Try.f40 Q) m1) (blkX 0 (retK Try.prog Try.f40 Q) noX)) (retK Try.prog Try.f40 Q) ((.slice data0.a data0.n data0.c) :: (.int .i64 a1) :: (.int .i64 b2) :: (.int .i64 limit3) :: us 4 ((.bool wasBalanced8) :: (.bool wasPartitioned9) :: (.int .i64 length10) :: (.int .i64 pivot11) :: us 56 ((.bool t68) :: us 65 []))) = (
  ite2 t68 (
  call1 .bool Try.prog id_slices_partialInsertionSortOrdered_string [.slice data0.a data0.n data0.c, .int .i64 a1, .int .i64 b2] fun (x_3 : Bool) =>
  ite2 x_3 (
  Q (.tuple #[])) (
  slices_pdqsortOrdered_string_j5 jn Q m1 data0 a1 b2 limit3 wasBalanced8 wasPartitioned9 length10 pivot11)) (
  slices_pdqsortOrdered_string_j5 jn Q m1 data0 a1 b2 limit3 wasBalanced8 wasPartitioned9 length10 pivot11)) := by kernel_rfl
theorem slices_pdqsortOrdered_string_j4_def (Q : Value → WP) (m1 : Nat) (data0 : Sl) (a1 : Int) (b2 : Int) (limit3 : Int) (wasBalanced8 : Bool) (wasPartitioned9 : Bool) (length10 : Int) (pivot11 : Int) (t68 : Bool) : slices_pdqsortOrdered_string_j4 idJ Q m1 data0 a1 b2 limit3 wasBalanced8 wasPartitioned9 length10 pivot11 t68 = codeI Try.prog slices_pdqsortOrdered_string_kp idJ (cAt [true, true, false, false, false, true, true, true, true, true, true, false, true] (bodyOf Try.f40)) (seqK Try.prog slices_pdqsortOrdered_string_kp idJ (cAt [true, true, false, false, false, true, true, true, true, true, true, true] (bodyOf Try.f40)) (lopK Try.prog slices_pdqsortOrdered_string_kp idJ (cAt [true, true, false, false] (bodyOf Try.f40)) (blkX 0 (retK Try.prog Try.f40 Q) noX) (retK Try.prog Try.f40 Q) m1) (blkX 1 (lopK Try.prog slices_pdqsortOrdered_string_kp idJ (cAt [true, true, false, false] (bodyOf Try.f40)) (blkX 0 (retK Try.prog Try.f40 Q) noX) (retK Try.prog Try.f40 Q) m1) (blkX 0 (retK Try.prog Try.f40 Q) noX)) (retK Try.prog Try.f40 Q)) (blkX 1 (lopK Try.prog slices_pdqsortOrdered_string_kp idJ (cAt [true, true, false, false] (bodyOf Try.f40)) (blkX 0 (retK Try.prog Try.f40 Q) noX) (retK Try.prog Try.f40 Q) m1) (blkX 0 (retK Try.prog Try.f40 Q) noX)) (retK Try.prog Try.f40 Q) ((.slice data0.a data0.n data0.c) :: (.int .i64 a1) :: (.int .i64 b2) :: (.int .i64 limit3) :: us 4 ((.bool wasBalanced8) :: (.bool wasPartitioned9) :: (.int .i64 length10) :: (.int .i64 pivot11) :: us 56 ((.bool t68) :: us 65 []))) := by kernel_rfl
theorem slices_pdqsortOrdered_string_j3_raw (jn : Jn) (Q : Value → WP) (m1 : Nat) (data0 : Sl) (a1 : Int) (b2 : Int) (limit3 : Int) (wasBalanced8 : Bool) (wasPartitioned9 : Bool) (length10 : Int) (pivot11 : Int) (hint12 : Int) : codeI Try.prog slices_pdqsortOrdered_string_kp jn (cAt [true, true, false, false, false, true, true, true, true, true, true] (bodyOf Try.f40)) (lopK Try.prog slices_pdqsortOrdered_string_kp jn (cAt [true, true, false, false] (bodyOf Try.f40)) (blkX 0 (retK Try.prog Try.f40 Q) noX) (retK Try.prog Try.f40 Q) m1) (blkX 1 (lopK Try.prog slices_pdqsortOrdered_string_kp jn (cAt [true, true, false, false] (bodyOf Try.f40)) (blkX 0 (retK Try.prog Try.f40 Q) noX) (retK Try.prog Try.f40 Q) m1) (blkX 0 (retK Try.prog Try.f40 Q) noX)) (retK Try.prog Try.f40 Q) ((.slice data0.a data0.n data0.c) :: (.int .i64 a1) :: (.int .i64 b2) :: (.int .i64 limit3) :: us 4 ((.bool wasBalanced8) :: (.bool wasPartitioned9) :: (.int .i64 length10) :: (.int .i64 pivot11) :: (.int .i64 hint12) :: us 121 [])) = (
  ite2 wasBalanced8 (
  ite2 wasPartitioned9 (
  slices_pdqsortOrdered_string_j4 jn Q m1 data0 a1 b2 limit3 wasBalanced8 wasPartitioned9 length10 pivot11 (hint12 == (1 : Int))) (
  slices_pdqsortOrdered_string_j4 jn Q m1 data0 a1 b2 limit3 wasBalanced8 wasPartitioned9 length10 pivot11 false)) (
  slices_pdqsortOrdered_string_j4 jn Q m1 data0 a1 b2 limit3 wasBalanced8 wasPartitioned9 length10 pivot11 false)) := by kernel_rfl
theorem slices_pdqsortOrdered_string_j3_def (Q : Value → WP) (m1 : Nat) (data0 : Sl) (a1 : Int) (b2 : Int) (limit3 : Int) (wasBalanced8 : Bool) (wasPartitioned9 : Bool) (length10 : Int) (pivot11 : Int) (hint12 : Int) : slices_pdqsortOrdered_string_j3 idJ Q m1 data0 a1 b2 limit3 wasBalanced8 wasPartitioned9 length10 pivot11 hint12 = codeI Try.prog slices_pdqsortOrdered_string_kp idJ (cAt [true, true, false, false, false, true, true, true, true, true, true] (bodyOf Try.f40)) (lopK Try.prog slices_pdqsortOrdered_string_kp idJ (cAt [true, true, false, false] (bodyOf Try.f40)) (blkX 0 (retK Try.prog Try.f40 Q) noX) (retK Try.prog Try.f40 Q) m1) (blkX 1 (lopK Try.prog slices_pdqsortOrdered_string_kp idJ (cAt [true, true, false, false] (bodyOf Try.f40)) (blkX 0 (retK Try.prog Try.f40 Q) noX) (retK Try.prog Try.f40 Q) m1) (blkX 0 (retK Try.prog Try.f40 Q) noX)) (retK Try.prog Try.f40 Q) ((.slice data0.a data0.n data0.c) :: (.int .i64 a1) :: (.int .i64 b2) :: (.int .i64 limit3) :: us 4 ((.bool wasBalanced8) :: (.bool wasPartitioned9) :: (.int .i64 length10) :: (.int .i64 pivot11) :: (.int .i64 hint12) :: us 121 [])) := by kernel_rfl
theorem slices_pdqsortOrdered_string_j2_raw (jn : Jn) (Q : Value → WP) (m1 : Nat) (data0 : Sl) (a1 : Int) (b2 : Int) (limit3 : Int) (wasBalanced8 : Bool) (wasPartitioned9 : Bool) (length10 : Int) : codeI Try.prog slices_pdqsortOrdered_string_kp jn (cAt [true, true, false, false, false, true, true, true, true] (bodyOf Try.f40)) (lopK Try.prog slices_pdqsortOrdered_string_kp jn (cAt [true, true, false, false] (bodyOf Try.f40)) (blkX 0 (retK Try.prog Try.f40 Q) noX) (retK Try.prog Try.f40 Q) m1) (blkX 1 (lopK Try.prog slices_pdqsortOrdered_string_kp jn (cAt [true, true, false, false] (bodyOf Try.f40)) (blkX 0 (retK Try.prog Try.f40 Q) noX) (retK Try.prog Try.f40 Q) m1) (blkX 0 (retK Try.prog Try.f40 Q) noX)) (retK Try.prog Try.f40 Q) ((.slice data0.a data0.n data0.c) :: (.int .i64 a1) :: (.int .i64 b2) :: (.int .i64 limit3) :: us 4 ((.bool wasBalanced8) :: (.bool wasPartitioned9) :: (.int .i64 length10) :: us 123 [])) = (
  call2 (.int .i64) (.int .i64) Try.prog id_slices_choosePivotOrdered_string [.slice data0.a data0.n data0.c, .int .i64 a1, .int .i64 b2] fun (x_1 : Int) (x_2 : Int) =>
  ite2 (x_2 == (2 : Int)) (
  call0 Try.prog id_slices_reverseRangeOrdered_string [.slice data0.a data0.n data0.c, .int .i64 a1, .int .i64 b2] <|
  slices_pdqsortOrdered_string_j3 jn Q m1 data0 a1 b2 limit3 wasBalanced8 wasPartitioned9 length10 (IntKind.wrap .i64 ((IntKind.wrap .i64 (b2 - (1 : Int))) - (IntKind.wrap .i64 (x_1 - a1)))) (1 : Int)) (
  slices_pdqsortOrdered_string_j3 jn Q m1 data0 a1 b2 limit3 wasBalanced8 wasPartitioned9 length10 x_1 x_2)) := by kernel_rfl
theorem slices_pdqsortOrdered_string_j2_def (Q : Value → WP) (m1 : Nat) (data0 : Sl) (a1 : Int) (b2 : Int) (limit3 : Int) (wasBalanced8 : Bool) (wasPartitioned9 : Bool) (length10 : Int) : slices_pdqsortOrdered_string_j2 idJ Q m1 data0 a1 b2 limit3 wasBalanced8 wasPartitioned9 length10 = codeI Try.prog slices_pdqsortOrdered_string_kp idJ (cAt [true, true, false, false, false, true, true, true, true] (bodyOf Try.f40)) (lopK Try.prog slices_pdqsortOrdered_string_kp idJ (cAt [true, true, false, false] (bodyOf Try.f40)) (blkX 0 (retK Try.prog Try.f40 Q) noX) (retK Try.prog Try.f40 Q) m1) (blkX 1 (lopK Try.prog slices_pdqsortOrdered_string_kp idJ (cAt [true, true, false, false] (bodyOf Try.f40)) (blkX 0 (retK Try.prog Try.f40 Q) noX) (retK Try.prog Try.f40 Q) m1) (blkX 0 (retK Try.prog Try.f40 Q) noX)) (retK Try.prog Try.f40 Q) ((.slice data0.a data0.n data0.c) :: (.int .i64 a1) :: (.int .i64 b2) :: (.int .i64 limit3) :: us 4 ((.bool wasBalanced8) :: (.bool wasPartitioned9) :: (.int .i64 length10) :: us 123 [])) := by kernel_rfl
theorem slices_pdqsortOrdered_string_l1_raw (jn : Jn) (Q : Value → WP)  (m1 : Nat) (data0 : Sl) (a1 : Int) (b2 : Int) (limit3 : Int) (wasBalanced8 : Bool) (wasPartitioned9 : Bool) : slices_pdqsortOrdered_string_l1 jn Q  (m1 + 1) data0 a1 b2 limit3 wasBalanced8 wasPartitioned9 = (
  ite2 (decide ((IntKind.wrap .i64 (b2 - a1)) ≤ (12 : Int))) (
  call0 Try.prog id_slices_insertionSortOrdered_string [.slice data0.a data0.n data0.c, .int .i64 a1, .int .i64 b2] <|
  Q (.tuple #[])) (
  ite2 (limit3 == (0 : Int)) (
  call0 Try.prog id_slices_heapSortOrdered_string [.slice data0.a data0.n data0.c, .int .i64 a1, .int .i64 b2] <|
  Q (.tuple #[])) (
  ite2 (!wasBalanced8) (
  call0 Try.prog id_slices_breakPatternsOrdered_string [.slice data0.a data0.n data0.c, .int .i64 a1, .int .i64 b2] <|
  slices_pdqsortOrdered_string_j2 jn Q m1 data0 a1 b2 (IntKind.wrap .i64 (limit3 - (1 : Int))) wasBalanced8 wasPartitioned9 (IntKind.wrap .i64 (b2 - a1))) (
  slices_pdqsortOrdered_string_j2 jn Q m1 data0 a1 b2 limit3 wasBalanced8 wasPartitioned9 (IntKind.wrap .i64 (b2 - a1)))))) := by kernel_rfl
theorem slices_pdqsortOrdered_string_l1_zero (jn : Jn) (Q : Value → WP)  (data0 : Sl) (a1 : Int) (b2 : Int) (limit3 : Int) (wasBalanced8 : Bool) (wasPartitioned9 : Bool) : slices_pdqsortOrdered_string_l1 jn Q  0 data0 a1 b2 limit3 wasBalanced8 wasPartitioned9 = bot := by kernel_rfl
theorem slices_pdqsortOrdered_string_raw (jn : Jn) (data0 : Sl) (a1 : Int) (b2 : Int) (limit3 : Int) (Q : Value → WP) : funJ jn Try.prog slices_pdqsortOrdered_string_kp Try.f40 [.slice data0.a data0.n data0.c, .int .i64 a1, .int .i64 b2, .int .i64 limit3] Q = (
  exM fun m => slices_pdqsortOrdered_string_l1 jn Q  m data0 a1 b2 limit3 true true) := by kernel_rfl
theorem slices_pdqsortOrdered_string_def (data0 : Sl) (a1 : Int) (b2 : Int) (limit3 : Int) (Q : Value → WP) : slices_pdqsortOrdered_string data0 a1 b2 limit3 Q = funJ idJ Try.prog slices_pdqsortOrdered_string_kp Try.f40 [.slice data0.a data0.n data0.c, .int .i64 a1, .int .i64 b2, .int .i64 limit3] Q := rfl
theorem slices_pdqsortOrdered_string_calls {data0 : Sl} {a1 : Int} {b2 : Int} {limit3 : Int} {Q : Value → WP} {w : World} (h : slices_pdqsortOrdered_string data0 a1 b2 limit3 Q w) : Calls Try.prog id_slices_pdqsortOrdered_string #[.slice data0.a data0.n data0.c, .int .i64 a1, .int .i64 b2, .int .i64 limit3] w fun e w' => ∃ v, e = .returned v ∧ Q v w' :=
  funJ_calls mixed Try.func40 rfl h

end Go.Proofs.Ytcpmmojpgngaaaa
