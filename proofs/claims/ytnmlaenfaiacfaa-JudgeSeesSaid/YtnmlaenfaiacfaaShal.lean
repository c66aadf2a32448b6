/- Printed by a program of mine (wip/tools/shal.py): the shallow texts of the loaded functions, each equal to the interpreter's reading by the kernel. -/
import Derived.Test.YtnmlaenfaiacfaaSound7
import Derived.Test.YtnmlaenfaiacfaaChecked
import Derived.KernelRfl
set_option linter.unusedVariables false
set_option maxRecDepth 100000
namespace Go.Proofs.Ytnmlaenfaiacfaa
open Go.Hb

theorem mixed : Try.prog.follows .mixedOrders = true := by kernel_rfl
abbrev ty_api_Op : TypeId := 35
abbrev ty_api_Result : TypeId := 39
abbrev ty_hoardref27_Judge : TypeId := 43
abbrev ty_judge_Judge : TypeId := 51
abbrev ty_hoardref21_Table : TypeId := 54
abbrev ty_hoardref21_Entry : TypeId := 65
abbrev ty_table_value : TypeId := 69
abbrev ty_table_Table : TypeId := 72
abbrev ty_map_string_bool : TypeId := 73
abbrev ty_index_Index_table_value : TypeId := 82
abbrev ty_index_place_table_value : TypeId := 85
abbrev id_hoardlaw27_JudgeWrong : FuncId := 3
abbrev id_hoardlaw27_JudgeSees : FuncId := 4
abbrev id_hoardlaw27_JudgeOfNothing : FuncId := 5
abbrev id_hoardlaw27_heavy : FuncId := 6
abbrev id_hoardlaw27_long : FuncId := 7
abbrev id_judge_Wrong : FuncId := 8
abbrev id_hoardref27_Wrong : FuncId := 9
abbrev id_hoardlaw27_known : FuncId := 10
abbrev id_judge_New : FuncId := 11
abbrev id_hoardref27_New : FuncId := 12
abbrev id_judge_Judge_See : FuncId := 13
abbrev id_hoardref27_Judge_See : FuncId := 14
abbrev id_judge_Judge_Now : FuncId := 15
abbrev id_judge_Judge_Put : FuncId := 16
abbrev id_hoardref21_Table_Get : FuncId := 17
abbrev id_table_New : FuncId := 18
abbrev id_judge_Judge_tells : FuncId := 19
abbrev id_judge_Judge_goes : FuncId := 20
abbrev id_judge_Judge_notes : FuncId := 21
abbrev id_judge_Judge_fits : FuncId := 22
abbrev id_hoardref27_Judge_right : FuncId := 23
abbrev id_hoardref27_Judge_goes : FuncId := 24
abbrev id_hoardref21_Table_Delete : FuncId := 25
abbrev id_hoardref21_Table_Put : FuncId := 26
abbrev id_hoardref27_Judge_full : FuncId := 27
abbrev id_table_Table_Get : FuncId := 28
abbrev id_hoardref21_Table_at : FuncId := 29
abbrev id_hoardref21_over : FuncId := 30
abbrev id_index_New_table_value : FuncId := 31
abbrev id_table_Table_Has : FuncId := 32
abbrev id_table_Table_Delete : FuncId := 33
abbrev id_table_Table_Put : FuncId := 34
abbrev id_table_Table_Len : FuncId := 35
abbrev id_hoardref27_twice : FuncId := 36
abbrev id_hoardref21_Table_Has : FuncId := 37
abbrev id_hoardref1_Key : FuncId := 38
abbrev id_index_Index_table_value_Get : FuncId := 39
abbrev id_table_value_over : FuncId := 40
abbrev id_index_Index_table_value_Delete : FuncId := 41
abbrev id_mix_Key : FuncId := 42
abbrev id_index_Index_table_value_Put : FuncId := 43
abbrev id_index_Index_table_value_Len : FuncId := 44
abbrev id_index_Index_table_value_find : FuncId := 45
abbrev id_strings_IndexByte : FuncId := 46
abbrev id_index_Index_table_value_lays : FuncId := 47
abbrev id_index_Index_table_value_grows : FuncId := 48
abbrev id_mix_Place : FuncId := 49
abbrev id_mix_Hash : FuncId := 50
abbrev id_internal_stringslite_IndexByte : FuncId := 51
abbrev id_mix_Mix : FuncId := 52
def str______ : ByteArray := ⟨#[95, 45, 46, 47, 58]⟩
def str_a : ByteArray := ⟨#[97]⟩
def str_empty : ByteArray := ⟨#[]⟩
def str_x : ByteArray := ⟨#[120]⟩

-- hoard/hoardlaw27.heavy
def hoardlaw27_heavy_kp : KP := ⟨[(7, [0, 3]), (10, [0, 3]), (14, [])], []⟩
def hoardlaw27_heavy_j2 (jn : Jn) (Q : Value → WP) (m1 : Nat) (l0 : Sl) (i3 : Int) : WP := jn 10 (fun ρ => codeI Try.prog hoardlaw27_heavy_kp jn (cAt [true, false, true, false, false, true] (bodyOf Try.f6)) (lopK Try.prog hoardlaw27_heavy_kp jn (cAt [true, false, true, false, false] (bodyOf Try.f6)) (blkX 0 (seqK Try.prog hoardlaw27_heavy_kp jn (cAt [true, true] (bodyOf Try.f6)) (retK Try.prog Try.f6 Q) noX (retK Try.prog Try.f6 Q)) noX) (retK Try.prog Try.f6 Q) m1) (blkX 0 (seqK Try.prog hoardlaw27_heavy_kp jn (cAt [true, true] (bodyOf Try.f6)) (retK Try.prog Try.f6 Q) noX (retK Try.prog Try.f6 Q)) noX) (retK Try.prog Try.f6 Q) ρ) ((.slice l0.a l0.n l0.c) :: us 2 ((.int .i64 i3) :: us 26 []))
def hoardlaw27_heavy_j3 (jn : Jn) (Q : Value → WP)   : WP := jn 14 (fun ρ => codeI Try.prog hoardlaw27_heavy_kp jn (cAt [true, true] (bodyOf Try.f6)) (retK Try.prog Try.f6 Q) noX (retK Try.prog Try.f6 Q) ρ) (us 30 [])
def hoardlaw27_heavy_l1 (jn : Jn) (Q : Value → WP)  (m1 : Nat) (l0 : Sl) (i3 : Int) : WP := lop Try.prog hoardlaw27_heavy_kp jn (cAt [true, false, true, false, false] (bodyOf Try.f6)) (blkX 0 (seqK Try.prog hoardlaw27_heavy_kp jn (cAt [true, true] (bodyOf Try.f6)) (retK Try.prog Try.f6 Q) noX (retK Try.prog Try.f6 Q)) noX) (retK Try.prog Try.f6 Q) m1 ((.slice l0.a l0.n l0.c) :: us 2 ((.int .i64 i3) :: us 26 []))
def hoardlaw27_heavy (l0 : Sl) (Q : Value → WP) : WP := funJ idJ Try.prog hoardlaw27_heavy_kp Try.f6 [.slice l0.a l0.n l0.c] Q
theorem hoardlaw27_heavy_j2_raw (jn : Jn) (Q : Value → WP) (m1 : Nat) (l0 : Sl) (i3 : Int) : codeI Try.prog hoardlaw27_heavy_kp jn (cAt [true, false, true, false, false, true] (bodyOf Try.f6)) (lopK Try.prog hoardlaw27_heavy_kp jn (cAt [true, false, true, false, false] (bodyOf Try.f6)) (blkX 0 (seqK Try.prog hoardlaw27_heavy_kp jn (cAt [true, true] (bodyOf Try.f6)) (retK Try.prog Try.f6 Q) noX (retK Try.prog Try.f6 Q)) noX) (retK Try.prog Try.f6 Q) m1) (blkX 0 (seqK Try.prog hoardlaw27_heavy_kp jn (cAt [true, true] (bodyOf Try.f6)) (retK Try.prog Try.f6 Q) noX (retK Try.prog Try.f6 Q)) noX) (retK Try.prog Try.f6 Q) ((.slice l0.a l0.n l0.c) :: us 2 ((.int .i64 i3) :: us 26 [])) = (
  idx l0.a l0.n i3 fun b_1 o_2 =>
  ld .str b_1 ((o_2 + (i3).toNat * 4) + 1) fun (x_3 : ByteArray) =>
  ite2 (decide ((x_3.size : Int) > (40 : Int))) (
  Q (.bool true)) (
  idx l0.a l0.n i3 fun b_4 o_5 =>
  ld .str b_4 ((o_5 + (i3).toNat * 4) + 2) fun (x_6 : ByteArray) =>
  ite2 (decide ((x_6.size : Int) > (100 : Int))) (
  Q (.bool true)) (
  hoardlaw27_heavy_l1 jn Q  m1 l0 (IntKind.wrap .i64 (i3 + (1 : Int)))))) := by kernel_rfl
theorem hoardlaw27_heavy_j2_def (Q : Value → WP) (m1 : Nat) (l0 : Sl) (i3 : Int) : hoardlaw27_heavy_j2 idJ Q m1 l0 i3 = codeI Try.prog hoardlaw27_heavy_kp idJ (cAt [true, false, true, false, false, true] (bodyOf Try.f6)) (lopK Try.prog hoardlaw27_heavy_kp idJ (cAt [true, false, true, false, false] (bodyOf Try.f6)) (blkX 0 (seqK Try.prog hoardlaw27_heavy_kp idJ (cAt [true, true] (bodyOf Try.f6)) (retK Try.prog Try.f6 Q) noX (retK Try.prog Try.f6 Q)) noX) (retK Try.prog Try.f6 Q) m1) (blkX 0 (seqK Try.prog hoardlaw27_heavy_kp idJ (cAt [true, true] (bodyOf Try.f6)) (retK Try.prog Try.f6 Q) noX (retK Try.prog Try.f6 Q)) noX) (retK Try.prog Try.f6 Q) ((.slice l0.a l0.n l0.c) :: us 2 ((.int .i64 i3) :: us 26 [])) := by kernel_rfl
theorem hoardlaw27_heavy_j3_raw (jn : Jn) (Q : Value → WP)   : codeI Try.prog hoardlaw27_heavy_kp jn (cAt [true, true] (bodyOf Try.f6)) (retK Try.prog Try.f6 Q) noX (retK Try.prog Try.f6 Q) (us 30 []) = (
  Q (.bool false)) := by kernel_rfl
theorem hoardlaw27_heavy_j3_def (Q : Value → WP)   : hoardlaw27_heavy_j3 idJ Q   = codeI Try.prog hoardlaw27_heavy_kp idJ (cAt [true, true] (bodyOf Try.f6)) (retK Try.prog Try.f6 Q) noX (retK Try.prog Try.f6 Q) (us 30 []) := by kernel_rfl
theorem hoardlaw27_heavy_l1_raw (jn : Jn) (Q : Value → WP)  (m1 : Nat) (l0 : Sl) (i3 : Int) : hoardlaw27_heavy_l1 jn Q  (m1 + 1) l0 i3 = (
  ite2 (decide (i3 < (l0.n : Int))) (
  ite2 (decide (i3 < (120 : Int))) (
  hoardlaw27_heavy_j2 jn Q m1 l0 i3) (
  hoardlaw27_heavy_j3 jn Q  )) (
  hoardlaw27_heavy_j3 jn Q  )) := by kernel_rfl
theorem hoardlaw27_heavy_l1_zero (jn : Jn) (Q : Value → WP)  (l0 : Sl) (i3 : Int) : hoardlaw27_heavy_l1 jn Q  0 l0 i3 = bot := by kernel_rfl
theorem hoardlaw27_heavy_raw (jn : Jn) (l0 : Sl) (Q : Value → WP) : funJ jn Try.prog hoardlaw27_heavy_kp Try.f6 [.slice l0.a l0.n l0.c] Q = (
  exM fun m => hoardlaw27_heavy_l1 jn Q  m l0 (0 : Int)) := by kernel_rfl
theorem hoardlaw27_heavy_def (l0 : Sl) (Q : Value → WP) : hoardlaw27_heavy l0 Q = funJ idJ Try.prog hoardlaw27_heavy_kp Try.f6 [.slice l0.a l0.n l0.c] Q := rfl
theorem hoardlaw27_heavy_calls {l0 : Sl} {Q : Value → WP} {w : World} (h : hoardlaw27_heavy l0 Q w) : Calls Try.prog id_hoardlaw27_heavy #[.slice l0.a l0.n l0.c] w fun e w' => ∃ v, e = .returned v ∧ Q v w' :=
  funJ_calls mixed Try.func6 rfl h

-- hoard/hoardlaw27.long
def hoardlaw27_long_kp : KP := ⟨[(7, [0, 3]), (8, [0, 3]), (10, [0, 3]), (14, [0, 3]), (17, [0, 3, 4]), (24, [])], []⟩
def hoardlaw27_long_j5 (jn : Jn) (Q : Value → WP) (m1 : Nat) (l0 : Sl) (i3 : Int) : WP := jn 8 (fun ρ => codeI Try.prog hoardlaw27_long_kp jn (cAt [true, false, true, false, false, true, true] (bodyOf Try.f7)) (lopK Try.prog hoardlaw27_long_kp jn (cAt [true, false, true, false, false] (bodyOf Try.f7)) (blkX 0 (seqK Try.prog hoardlaw27_long_kp jn (cAt [true, true] (bodyOf Try.f7)) (retK Try.prog Try.f7 Q) noX (retK Try.prog Try.f7 Q)) noX) (retK Try.prog Try.f7 Q) m1) (blkX 0 (seqK Try.prog hoardlaw27_long_kp jn (cAt [true, true] (bodyOf Try.f7)) (retK Try.prog Try.f7 Q) noX (retK Try.prog Try.f7 Q)) noX) (retK Try.prog Try.f7 Q) ρ) ((.slice l0.a l0.n l0.c) :: us 2 ((.int .i64 i3) :: us 47 []))
def hoardlaw27_long_l4 (jn : Jn) (Q : Value → WP) (m1 : Nat) (m4 : Nat) (l0 : Sl) (i3 : Int) (k4 : Int) : WP := lop Try.prog hoardlaw27_long_kp jn (cAt [true, false, true, false, false, true, false, false, true, true, false, false] (bodyOf Try.f7)) (blkX 2 (seqK Try.prog hoardlaw27_long_kp jn (cAt [true, false, true, false, false, true, true] (bodyOf Try.f7)) (lopK Try.prog hoardlaw27_long_kp jn (cAt [true, false, true, false, false] (bodyOf Try.f7)) (blkX 0 (seqK Try.prog hoardlaw27_long_kp jn (cAt [true, true] (bodyOf Try.f7)) (retK Try.prog Try.f7 Q) noX (retK Try.prog Try.f7 Q)) noX) (retK Try.prog Try.f7 Q) m1) (blkX 0 (seqK Try.prog hoardlaw27_long_kp jn (cAt [true, true] (bodyOf Try.f7)) (retK Try.prog Try.f7 Q) noX (retK Try.prog Try.f7 Q)) noX) (retK Try.prog Try.f7 Q)) (blkX 1 (seqK Try.prog hoardlaw27_long_kp jn (cAt [true, false, true, false, false, true, true] (bodyOf Try.f7)) (lopK Try.prog hoardlaw27_long_kp jn (cAt [true, false, true, false, false] (bodyOf Try.f7)) (blkX 0 (seqK Try.prog hoardlaw27_long_kp jn (cAt [true, true] (bodyOf Try.f7)) (retK Try.prog Try.f7 Q) noX (retK Try.prog Try.f7 Q)) noX) (retK Try.prog Try.f7 Q) m1) (blkX 0 (seqK Try.prog hoardlaw27_long_kp jn (cAt [true, true] (bodyOf Try.f7)) (retK Try.prog Try.f7 Q) noX (retK Try.prog Try.f7 Q)) noX) (retK Try.prog Try.f7 Q)) (blkX 0 (seqK Try.prog hoardlaw27_long_kp jn (cAt [true, true] (bodyOf Try.f7)) (retK Try.prog Try.f7 Q) noX (retK Try.prog Try.f7 Q)) noX))) (retK Try.prog Try.f7 Q) m4 ((.slice l0.a l0.n l0.c) :: us 2 ((.int .i64 i3) :: (.int .i64 k4) :: us 46 []))
def hoardlaw27_long_j3 (jn : Jn) (Q : Value → WP) (m1 : Nat) (l0 : Sl) (i3 : Int) : WP := jn 14 (fun ρ => codeI Try.prog hoardlaw27_long_kp jn (cAt [true, false, true, false, false, true, false, false, true] (bodyOf Try.f7)) (seqK Try.prog hoardlaw27_long_kp jn (cAt [true, false, true, false, false, true, true] (bodyOf Try.f7)) (lopK Try.prog hoardlaw27_long_kp jn (cAt [true, false, true, false, false] (bodyOf Try.f7)) (blkX 0 (seqK Try.prog hoardlaw27_long_kp jn (cAt [true, true] (bodyOf Try.f7)) (retK Try.prog Try.f7 Q) noX (retK Try.prog Try.f7 Q)) noX) (retK Try.prog Try.f7 Q) m1) (blkX 0 (seqK Try.prog hoardlaw27_long_kp jn (cAt [true, true] (bodyOf Try.f7)) (retK Try.prog Try.f7 Q) noX (retK Try.prog Try.f7 Q)) noX) (retK Try.prog Try.f7 Q)) (blkX 1 (seqK Try.prog hoardlaw27_long_kp jn (cAt [true, false, true, false, false, true, true] (bodyOf Try.f7)) (lopK Try.prog hoardlaw27_long_kp jn (cAt [true, false, true, false, false] (bodyOf Try.f7)) (blkX 0 (seqK Try.prog hoardlaw27_long_kp jn (cAt [true, true] (bodyOf Try.f7)) (retK Try.prog Try.f7 Q) noX (retK Try.prog Try.f7 Q)) noX) (retK Try.prog Try.f7 Q) m1) (blkX 0 (seqK Try.prog hoardlaw27_long_kp jn (cAt [true, true] (bodyOf Try.f7)) (retK Try.prog Try.f7 Q) noX (retK Try.prog Try.f7 Q)) noX) (retK Try.prog Try.f7 Q)) (blkX 0 (seqK Try.prog hoardlaw27_long_kp jn (cAt [true, true] (bodyOf Try.f7)) (retK Try.prog Try.f7 Q) noX (retK Try.prog Try.f7 Q)) noX)) (retK Try.prog Try.f7 Q) ρ) ((.slice l0.a l0.n l0.c) :: us 2 ((.int .i64 i3) :: us 47 []))
def hoardlaw27_long_j2 (jn : Jn) (Q : Value → WP) (m1 : Nat) (l0 : Sl) (i3 : Int) : WP := jn 10 (fun ρ => codeI Try.prog hoardlaw27_long_kp jn (cAt [true, false, true, false, false, true] (bodyOf Try.f7)) (lopK Try.prog hoardlaw27_long_kp jn (cAt [true, false, true, false, false] (bodyOf Try.f7)) (blkX 0 (seqK Try.prog hoardlaw27_long_kp jn (cAt [true, true] (bodyOf Try.f7)) (retK Try.prog Try.f7 Q) noX (retK Try.prog Try.f7 Q)) noX) (retK Try.prog Try.f7 Q) m1) (blkX 0 (seqK Try.prog hoardlaw27_long_kp jn (cAt [true, true] (bodyOf Try.f7)) (retK Try.prog Try.f7 Q) noX (retK Try.prog Try.f7 Q)) noX) (retK Try.prog Try.f7 Q) ρ) ((.slice l0.a l0.n l0.c) :: us 2 ((.int .i64 i3) :: us 47 []))
def hoardlaw27_long_j6 (jn : Jn) (Q : Value → WP)   : WP := jn 24 (fun ρ => codeI Try.prog hoardlaw27_long_kp jn (cAt [true, true] (bodyOf Try.f7)) (retK Try.prog Try.f7 Q) noX (retK Try.prog Try.f7 Q) ρ) (us 51 [])
def hoardlaw27_long_l1 (jn : Jn) (Q : Value → WP)  (m1 : Nat) (l0 : Sl) (i3 : Int) : WP := lop Try.prog hoardlaw27_long_kp jn (cAt [true, false, true, false, false] (bodyOf Try.f7)) (blkX 0 (seqK Try.prog hoardlaw27_long_kp jn (cAt [true, true] (bodyOf Try.f7)) (retK Try.prog Try.f7 Q) noX (retK Try.prog Try.f7 Q)) noX) (retK Try.prog Try.f7 Q) m1 ((.slice l0.a l0.n l0.c) :: us 2 ((.int .i64 i3) :: us 47 []))
def hoardlaw27_long (l0 : Sl) (Q : Value → WP) : WP := funJ idJ Try.prog hoardlaw27_long_kp Try.f7 [.slice l0.a l0.n l0.c] Q
theorem hoardlaw27_long_j5_raw (jn : Jn) (Q : Value → WP) (m1 : Nat) (l0 : Sl) (i3 : Int) : codeI Try.prog hoardlaw27_long_kp jn (cAt [true, false, true, false, false, true, true] (bodyOf Try.f7)) (lopK Try.prog hoardlaw27_long_kp jn (cAt [true, false, true, false, false] (bodyOf Try.f7)) (blkX 0 (seqK Try.prog hoardlaw27_long_kp jn (cAt [true, true] (bodyOf Try.f7)) (retK Try.prog Try.f7 Q) noX (retK Try.prog Try.f7 Q)) noX) (retK Try.prog Try.f7 Q) m1) (blkX 0 (seqK Try.prog hoardlaw27_long_kp jn (cAt [true, true] (bodyOf Try.f7)) (retK Try.prog Try.f7 Q) noX (retK Try.prog Try.f7 Q)) noX) (retK Try.prog Try.f7 Q) ((.slice l0.a l0.n l0.c) :: us 2 ((.int .i64 i3) :: us 47 [])) = (
  hoardlaw27_long_l1 jn Q  m1 l0 (IntKind.wrap .i64 (i3 + (1 : Int)))) := by kernel_rfl
theorem hoardlaw27_long_j5_def (Q : Value → WP) (m1 : Nat) (l0 : Sl) (i3 : Int) : hoardlaw27_long_j5 idJ Q m1 l0 i3 = codeI Try.prog hoardlaw27_long_kp idJ (cAt [true, false, true, false, false, true, true] (bodyOf Try.f7)) (lopK Try.prog hoardlaw27_long_kp idJ (cAt [true, false, true, false, false] (bodyOf Try.f7)) (blkX 0 (seqK Try.prog hoardlaw27_long_kp idJ (cAt [true, true] (bodyOf Try.f7)) (retK Try.prog Try.f7 Q) noX (retK Try.prog Try.f7 Q)) noX) (retK Try.prog Try.f7 Q) m1) (blkX 0 (seqK Try.prog hoardlaw27_long_kp idJ (cAt [true, true] (bodyOf Try.f7)) (retK Try.prog Try.f7 Q) noX (retK Try.prog Try.f7 Q)) noX) (retK Try.prog Try.f7 Q) ((.slice l0.a l0.n l0.c) :: us 2 ((.int .i64 i3) :: us 47 [])) := by kernel_rfl
theorem hoardlaw27_long_l4_raw (jn : Jn) (Q : Value → WP) (m1 : Nat) (m4 : Nat) (l0 : Sl) (i3 : Int) (k4 : Int) : hoardlaw27_long_l4 jn Q m1 (m4 + 1) l0 i3 k4 = (
  idx l0.a l0.n i3 fun b_7 o_8 =>
  ld .slc b_7 ((o_8 + (i3).toNat * 4) + 3) fun (x_9 : Sl) =>
  ite2 (decide (k4 < (x_9.n : Int))) (
  idx l0.a l0.n i3 fun b_10 o_11 =>
  ld .slc b_10 ((o_11 + (i3).toNat * 4) + 3) fun (x_12 : Sl) =>
  idx x_12.a x_12.n k4 fun b_13 o_14 =>
  ld .str b_13 (o_14 + (k4).toNat * 1) fun (x_15 : ByteArray) =>
  ite2 (decide ((x_15.size : Int) > (40 : Int))) (
  Q (.bool true)) (
  hoardlaw27_long_l4 jn Q m1 m4 l0 i3 (IntKind.wrap .i64 (k4 + (1 : Int))))) (
  hoardlaw27_long_j5 jn Q m1 l0 i3)) := by kernel_rfl
theorem hoardlaw27_long_l4_zero (jn : Jn) (Q : Value → WP) (m1 : Nat) (l0 : Sl) (i3 : Int) (k4 : Int) : hoardlaw27_long_l4 jn Q m1 0 l0 i3 k4 = bot := by kernel_rfl
theorem hoardlaw27_long_j3_raw (jn : Jn) (Q : Value → WP) (m1 : Nat) (l0 : Sl) (i3 : Int) : codeI Try.prog hoardlaw27_long_kp jn (cAt [true, false, true, false, false, true, false, false, true] (bodyOf Try.f7)) (seqK Try.prog hoardlaw27_long_kp jn (cAt [true, false, true, false, false, true, true] (bodyOf Try.f7)) (lopK Try.prog hoardlaw27_long_kp jn (cAt [true, false, true, false, false] (bodyOf Try.f7)) (blkX 0 (seqK Try.prog hoardlaw27_long_kp jn (cAt [true, true] (bodyOf Try.f7)) (retK Try.prog Try.f7 Q) noX (retK Try.prog Try.f7 Q)) noX) (retK Try.prog Try.f7 Q) m1) (blkX 0 (seqK Try.prog hoardlaw27_long_kp jn (cAt [true, true] (bodyOf Try.f7)) (retK Try.prog Try.f7 Q) noX (retK Try.prog Try.f7 Q)) noX) (retK Try.prog Try.f7 Q)) (blkX 1 (seqK Try.prog hoardlaw27_long_kp jn (cAt [true, false, true, false, false, true, true] (bodyOf Try.f7)) (lopK Try.prog hoardlaw27_long_kp jn (cAt [true, false, true, false, false] (bodyOf Try.f7)) (blkX 0 (seqK Try.prog hoardlaw27_long_kp jn (cAt [true, true] (bodyOf Try.f7)) (retK Try.prog Try.f7 Q) noX (retK Try.prog Try.f7 Q)) noX) (retK Try.prog Try.f7 Q) m1) (blkX 0 (seqK Try.prog hoardlaw27_long_kp jn (cAt [true, true] (bodyOf Try.f7)) (retK Try.prog Try.f7 Q) noX (retK Try.prog Try.f7 Q)) noX) (retK Try.prog Try.f7 Q)) (blkX 0 (seqK Try.prog hoardlaw27_long_kp jn (cAt [true, true] (bodyOf Try.f7)) (retK Try.prog Try.f7 Q) noX (retK Try.prog Try.f7 Q)) noX)) (retK Try.prog Try.f7 Q) ((.slice l0.a l0.n l0.c) :: us 2 ((.int .i64 i3) :: us 47 [])) = (
  exM fun m => hoardlaw27_long_l4 jn Q m1 m l0 i3 (0 : Int)) := by kernel_rfl
theorem hoardlaw27_long_j3_def (Q : Value → WP) (m1 : Nat) (l0 : Sl) (i3 : Int) : hoardlaw27_long_j3 idJ Q m1 l0 i3 = codeI Try.prog hoardlaw27_long_kp idJ (cAt [true, false, true, false, false, true, false, false, true] (bodyOf Try.f7)) (seqK Try.prog hoardlaw27_long_kp idJ (cAt [true, false, true, false, false, true, true] (bodyOf Try.f7)) (lopK Try.prog hoardlaw27_long_kp idJ (cAt [true, false, true, false, false] (bodyOf Try.f7)) (blkX 0 (seqK Try.prog hoardlaw27_long_kp idJ (cAt [true, true] (bodyOf Try.f7)) (retK Try.prog Try.f7 Q) noX (retK Try.prog Try.f7 Q)) noX) (retK Try.prog Try.f7 Q) m1) (blkX 0 (seqK Try.prog hoardlaw27_long_kp idJ (cAt [true, true] (bodyOf Try.f7)) (retK Try.prog Try.f7 Q) noX (retK Try.prog Try.f7 Q)) noX) (retK Try.prog Try.f7 Q)) (blkX 1 (seqK Try.prog hoardlaw27_long_kp idJ (cAt [true, false, true, false, false, true, true] (bodyOf Try.f7)) (lopK Try.prog hoardlaw27_long_kp idJ (cAt [true, false, true, false, false] (bodyOf Try.f7)) (blkX 0 (seqK Try.prog hoardlaw27_long_kp idJ (cAt [true, true] (bodyOf Try.f7)) (retK Try.prog Try.f7 Q) noX (retK Try.prog Try.f7 Q)) noX) (retK Try.prog Try.f7 Q) m1) (blkX 0 (seqK Try.prog hoardlaw27_long_kp idJ (cAt [true, true] (bodyOf Try.f7)) (retK Try.prog Try.f7 Q) noX (retK Try.prog Try.f7 Q)) noX) (retK Try.prog Try.f7 Q)) (blkX 0 (seqK Try.prog hoardlaw27_long_kp idJ (cAt [true, true] (bodyOf Try.f7)) (retK Try.prog Try.f7 Q) noX (retK Try.prog Try.f7 Q)) noX)) (retK Try.prog Try.f7 Q) ((.slice l0.a l0.n l0.c) :: us 2 ((.int .i64 i3) :: us 47 [])) := by kernel_rfl
theorem hoardlaw27_long_j2_raw (jn : Jn) (Q : Value → WP) (m1 : Nat) (l0 : Sl) (i3 : Int) : codeI Try.prog hoardlaw27_long_kp jn (cAt [true, false, true, false, false, true] (bodyOf Try.f7)) (lopK Try.prog hoardlaw27_long_kp jn (cAt [true, false, true, false, false] (bodyOf Try.f7)) (blkX 0 (seqK Try.prog hoardlaw27_long_kp jn (cAt [true, true] (bodyOf Try.f7)) (retK Try.prog Try.f7 Q) noX (retK Try.prog Try.f7 Q)) noX) (retK Try.prog Try.f7 Q) m1) (blkX 0 (seqK Try.prog hoardlaw27_long_kp jn (cAt [true, true] (bodyOf Try.f7)) (retK Try.prog Try.f7 Q) noX (retK Try.prog Try.f7 Q)) noX) (retK Try.prog Try.f7 Q) ((.slice l0.a l0.n l0.c) :: us 2 ((.int .i64 i3) :: us 47 [])) = (
  idx l0.a l0.n i3 fun b_1 o_2 =>
  ld .slc b_1 ((o_2 + (i3).toNat * 4) + 3) fun (x_3 : Sl) =>
  ite2 (decide ((x_3.n : Int) > (30 : Int))) (
  Q (.bool true)) (
  idx l0.a l0.n i3 fun b_4 o_5 =>
  ld .str b_4 ((o_5 + (i3).toNat * 4) + 2) fun (x_6 : ByteArray) =>
  ite2 (decide ((x_6.size : Int) > (100 : Int))) (
  Q (.bool true)) (
  hoardlaw27_long_j3 jn Q m1 l0 i3))) := by kernel_rfl
theorem hoardlaw27_long_j2_def (Q : Value → WP) (m1 : Nat) (l0 : Sl) (i3 : Int) : hoardlaw27_long_j2 idJ Q m1 l0 i3 = codeI Try.prog hoardlaw27_long_kp idJ (cAt [true, false, true, false, false, true] (bodyOf Try.f7)) (lopK Try.prog hoardlaw27_long_kp idJ (cAt [true, false, true, false, false] (bodyOf Try.f7)) (blkX 0 (seqK Try.prog hoardlaw27_long_kp idJ (cAt [true, true] (bodyOf Try.f7)) (retK Try.prog Try.f7 Q) noX (retK Try.prog Try.f7 Q)) noX) (retK Try.prog Try.f7 Q) m1) (blkX 0 (seqK Try.prog hoardlaw27_long_kp idJ (cAt [true, true] (bodyOf Try.f7)) (retK Try.prog Try.f7 Q) noX (retK Try.prog Try.f7 Q)) noX) (retK Try.prog Try.f7 Q) ((.slice l0.a l0.n l0.c) :: us 2 ((.int .i64 i3) :: us 47 [])) := by kernel_rfl
theorem hoardlaw27_long_j6_raw (jn : Jn) (Q : Value → WP)   : codeI Try.prog hoardlaw27_long_kp jn (cAt [true, true] (bodyOf Try.f7)) (retK Try.prog Try.f7 Q) noX (retK Try.prog Try.f7 Q) (us 51 []) = (
  Q (.bool false)) := by kernel_rfl
theorem hoardlaw27_long_j6_def (Q : Value → WP)   : hoardlaw27_long_j6 idJ Q   = codeI Try.prog hoardlaw27_long_kp idJ (cAt [true, true] (bodyOf Try.f7)) (retK Try.prog Try.f7 Q) noX (retK Try.prog Try.f7 Q) (us 51 []) := by kernel_rfl
theorem hoardlaw27_long_l1_raw (jn : Jn) (Q : Value → WP)  (m1 : Nat) (l0 : Sl) (i3 : Int) : hoardlaw27_long_l1 jn Q  (m1 + 1) l0 i3 = (
  ite2 (decide (i3 < (l0.n : Int))) (
  ite2 (decide (i3 < (120 : Int))) (
  hoardlaw27_long_j2 jn Q m1 l0 i3) (
  hoardlaw27_long_j6 jn Q  )) (
  hoardlaw27_long_j6 jn Q  )) := by kernel_rfl
theorem hoardlaw27_long_l1_zero (jn : Jn) (Q : Value → WP)  (l0 : Sl) (i3 : Int) : hoardlaw27_long_l1 jn Q  0 l0 i3 = bot := by kernel_rfl
theorem hoardlaw27_long_raw (jn : Jn) (l0 : Sl) (Q : Value → WP) : funJ jn Try.prog hoardlaw27_long_kp Try.f7 [.slice l0.a l0.n l0.c] Q = (
  exM fun m => hoardlaw27_long_l1 jn Q  m l0 (0 : Int)) := by kernel_rfl
theorem hoardlaw27_long_def (l0 : Sl) (Q : Value → WP) : hoardlaw27_long l0 Q = funJ idJ Try.prog hoardlaw27_long_kp Try.f7 [.slice l0.a l0.n l0.c] Q := rfl
theorem hoardlaw27_long_calls {l0 : Sl} {Q : Value → WP} {w : World} (h : hoardlaw27_long l0 Q w) : Calls Try.prog id_hoardlaw27_long #[.slice l0.a l0.n l0.c] w fun e w' => ∃ v, e = .returned v ∧ Q v w' :=
  funJ_calls mixed Try.func7 rfl h

-- hoard/judge.Wrong
def judge_Wrong_kp : KP := ⟨[(9, [2, 3, 9, 18, 19]), (18, [])], [(5, [0, 1, 2, 3, 4, 5, 6, 7, 10])]⟩
def judge_Wrong_j2 (jn : Jn) (Q : Value → WP)   : WP := jn 18 (fun ρ => codeI Try.prog judge_Wrong_kp jn (cAt [true, true, true] (bodyOf Try.f8)) (retK Try.prog Try.f8 Q) noX (retK Try.prog Try.f8 Q) ρ) (us 35 [])
def judge_Wrong_l1 (jn : Jn) (Q : Value → WP)  (m1 : Nat) (l2 : Sl) (r3 : Sl) (j9 : Option Addr) (t18 : Int) (t19 : Int) : WP := lop Try.prog judge_Wrong_kp jn (cAt [true, true, false, true, false, false] (bodyOf Try.f8)) (blkX 0 (seqK Try.prog judge_Wrong_kp jn (cAt [true, true, true] (bodyOf Try.f8)) (retK Try.prog Try.f8 Q) noX (retK Try.prog Try.f8 Q)) noX) (retK Try.prog Try.f8 Q) m1 (us 2 ((.slice l2.a l2.n l2.c) :: (.slice r3.a r3.n r3.c) :: us 5 ((.pointer j9) :: us 8 ((.int .i64 t18) :: (.int .i64 t19) :: us 15 []))))
def judge_Wrong (shards0 : Int) (room1 : Int) (l2 : Sl) (r3 : Sl) (Q : Value → WP) : WP := funJ idJ Try.prog judge_Wrong_kp Try.f8 [.int .i64 shards0, .int .i64 room1, .slice l2.a l2.n l2.c, .slice r3.a r3.n r3.c] Q
theorem judge_Wrong_j2_raw (jn : Jn) (Q : Value → WP)   : codeI Try.prog judge_Wrong_kp jn (cAt [true, true, true] (bodyOf Try.f8)) (retK Try.prog Try.f8 Q) noX (retK Try.prog Try.f8 Q) (us 35 []) = (
  Q (.int .i64 (-1 : Int))) := by kernel_rfl
theorem judge_Wrong_j2_def (Q : Value → WP)   : judge_Wrong_j2 idJ Q   = codeI Try.prog judge_Wrong_kp idJ (cAt [true, true, true] (bodyOf Try.f8)) (retK Try.prog Try.f8 Q) noX (retK Try.prog Try.f8 Q) (us 35 []) := by kernel_rfl
theorem judge_Wrong_l1_raw (jn : Jn) (Q : Value → WP)  (m1 : Nat) (l2 : Sl) (r3 : Sl) (j9 : Option Addr) (t18 : Int) (t19 : Int) : judge_Wrong_l1 jn Q  (m1 + 1) l2 r3 j9 t18 t19 = (
  ite2 (decide (t19 < t18)) (
  drawW fun S =>
  idx l2.a l2.n t19 fun b_2 o_3 =>
  ldS S (.int .i64) b_2 (o_3 + (t19).toNat * 4) fun (x_4 : Int) =>
  ldS S .str b_2 ((o_3 + (t19).toNat * 4) + 1) fun (x_5 : ByteArray) =>
  ldS S .str b_2 (((o_3 + (t19).toNat * 4) + 1) + 1) fun (x_6 : ByteArray) =>
  ldS S (.int .i64) b_2 ((((o_3 + (t19).toNat * 4) + 1) + 1) + 1) fun (x_7 : Int) =>
  idx r3.a r3.n t19 fun b_8 o_9 =>
  ld (.int .i64) b_8 (o_9 + (t19).toNat * 4) fun (x_10 : Int) =>
  ld .bool b_8 ((o_9 + (t19).toNat * 4) + 1) fun (x_11 : Bool) =>
  ld .str b_8 (((o_9 + (t19).toNat * 4) + 1) + 1) fun (x_12 : ByteArray) =>
  ld .slc b_8 ((((o_9 + (t19).toNat * 4) + 1) + 1) + 1) fun (x_13 : Sl) =>
  keepS true S <|
  call1 .bool Try.prog id_judge_Judge_See [.pointer j9, .agg #[.int .i64 x_4, .string x_5, .string x_6, .int .i64 x_7], .agg #[.int .i64 x_10, .bool x_11, .string x_12, .slice x_13.a x_13.n x_13.c]] fun (x_14 : Bool) =>
  ite2 (!x_14) (
  Q (.int .i64 t19)) (
  judge_Wrong_l1 jn Q  m1 l2 r3 j9 t18 (IntKind.wrap .i64 (t19 + (1 : Int))))) (
  judge_Wrong_j2 jn Q  )) := by kernel_rfl
theorem judge_Wrong_l1_zero (jn : Jn) (Q : Value → WP)  (l2 : Sl) (r3 : Sl) (j9 : Option Addr) (t18 : Int) (t19 : Int) : judge_Wrong_l1 jn Q  0 l2 r3 j9 t18 t19 = bot := by kernel_rfl
theorem judge_Wrong_raw (jn : Jn) (shards0 : Int) (room1 : Int) (l2 : Sl) (r3 : Sl) (Q : Value → WP) : funJ jn Try.prog judge_Wrong_kp Try.f8 [.int .i64 shards0, .int .i64 room1, .slice l2.a l2.n l2.c, .slice r3.a r3.n r3.c] Q = (
  call1 .ptr Try.prog id_judge_New [.int .i64 shards0, .int .i64 room1] fun (x_1 : Option Addr) =>
  exM fun m => judge_Wrong_l1 jn Q  m l2 r3 x_1 (if (r3.n : Int) < (l2.n : Int) then (r3.n : Int) else (l2.n : Int)) (0 : Int)) := by kernel_rfl
theorem judge_Wrong_def (shards0 : Int) (room1 : Int) (l2 : Sl) (r3 : Sl) (Q : Value → WP) : judge_Wrong shards0 room1 l2 r3 Q = funJ idJ Try.prog judge_Wrong_kp Try.f8 [.int .i64 shards0, .int .i64 room1, .slice l2.a l2.n l2.c, .slice r3.a r3.n r3.c] Q := rfl
theorem judge_Wrong_calls {shards0 : Int} {room1 : Int} {l2 : Sl} {r3 : Sl} {Q : Value → WP} {w : World} (h : judge_Wrong shards0 room1 l2 r3 Q w) : Calls Try.prog id_judge_Wrong #[.int .i64 shards0, .int .i64 room1, .slice l2.a l2.n l2.c, .slice r3.a r3.n r3.c] w fun e w' => ∃ v, e = .returned v ∧ Q v w' :=
  funJ_calls mixed Try.func8 rfl h

-- hoard/hoardref27.Wrong
def hoardref27_Wrong_kp : KP := ⟨[(9, [2, 3, 9, 10]), (12, [2, 3, 9, 10]), (16, [])], [(5, [0, 1, 2, 3, 4, 5, 6, 7, 10])]⟩
def hoardref27_Wrong_j2 (jn : Jn) (Q : Value → WP) (m1 : Nat) (l2 : Sl) (r3 : Sl) (j9 : Option Addr) (i10 : Int) : WP := jn 12 (fun ρ => codeI Try.prog hoardref27_Wrong_kp jn (cAt [true, true, false, true, false, false, true] (bodyOf Try.f9)) (lopK Try.prog hoardref27_Wrong_kp jn (cAt [true, true, false, true, false, false] (bodyOf Try.f9)) (blkX 0 (seqK Try.prog hoardref27_Wrong_kp jn (cAt [true, true, true] (bodyOf Try.f9)) (retK Try.prog Try.f9 Q) noX (retK Try.prog Try.f9 Q)) noX) (retK Try.prog Try.f9 Q) m1) (blkX 0 (seqK Try.prog hoardref27_Wrong_kp jn (cAt [true, true, true] (bodyOf Try.f9)) (retK Try.prog Try.f9 Q) noX (retK Try.prog Try.f9 Q)) noX) (retK Try.prog Try.f9 Q) ρ) (us 2 ((.slice l2.a l2.n l2.c) :: (.slice r3.a r3.n r3.c) :: us 5 ((.pointer j9) :: (.int .i64 i10) :: us 27 [])))
def hoardref27_Wrong_j3 (jn : Jn) (Q : Value → WP)   : WP := jn 16 (fun ρ => codeI Try.prog hoardref27_Wrong_kp jn (cAt [true, true, true] (bodyOf Try.f9)) (retK Try.prog Try.f9 Q) noX (retK Try.prog Try.f9 Q) ρ) (us 38 [])
def hoardref27_Wrong_l1 (jn : Jn) (Q : Value → WP)  (m1 : Nat) (l2 : Sl) (r3 : Sl) (j9 : Option Addr) (i10 : Int) : WP := lop Try.prog hoardref27_Wrong_kp jn (cAt [true, true, false, true, false, false] (bodyOf Try.f9)) (blkX 0 (seqK Try.prog hoardref27_Wrong_kp jn (cAt [true, true, true] (bodyOf Try.f9)) (retK Try.prog Try.f9 Q) noX (retK Try.prog Try.f9 Q)) noX) (retK Try.prog Try.f9 Q) m1 (us 2 ((.slice l2.a l2.n l2.c) :: (.slice r3.a r3.n r3.c) :: us 5 ((.pointer j9) :: (.int .i64 i10) :: us 27 [])))
def hoardref27_Wrong (shards0 : Int) (room1 : Int) (l2 : Sl) (r3 : Sl) (Q : Value → WP) : WP := funJ idJ Try.prog hoardref27_Wrong_kp Try.f9 [.int .i64 shards0, .int .i64 room1, .slice l2.a l2.n l2.c, .slice r3.a r3.n r3.c] Q
theorem hoardref27_Wrong_j2_raw (jn : Jn) (Q : Value → WP) (m1 : Nat) (l2 : Sl) (r3 : Sl) (j9 : Option Addr) (i10 : Int) : codeI Try.prog hoardref27_Wrong_kp jn (cAt [true, true, false, true, false, false, true] (bodyOf Try.f9)) (lopK Try.prog hoardref27_Wrong_kp jn (cAt [true, true, false, true, false, false] (bodyOf Try.f9)) (blkX 0 (seqK Try.prog hoardref27_Wrong_kp jn (cAt [true, true, true] (bodyOf Try.f9)) (retK Try.prog Try.f9 Q) noX (retK Try.prog Try.f9 Q)) noX) (retK Try.prog Try.f9 Q) m1) (blkX 0 (seqK Try.prog hoardref27_Wrong_kp jn (cAt [true, true, true] (bodyOf Try.f9)) (retK Try.prog Try.f9 Q) noX (retK Try.prog Try.f9 Q)) noX) (retK Try.prog Try.f9 Q) (us 2 ((.slice l2.a l2.n l2.c) :: (.slice r3.a r3.n r3.c) :: us 5 ((.pointer j9) :: (.int .i64 i10) :: us 27 []))) = (
  drawW fun S =>
  idx l2.a l2.n i10 fun b_2 o_3 =>
  ldS S (.int .i64) b_2 (o_3 + (i10).toNat * 4) fun (x_4 : Int) =>
  ldS S .str b_2 ((o_3 + (i10).toNat * 4) + 1) fun (x_5 : ByteArray) =>
  ldS S .str b_2 (((o_3 + (i10).toNat * 4) + 1) + 1) fun (x_6 : ByteArray) =>
  ldS S (.int .i64) b_2 ((((o_3 + (i10).toNat * 4) + 1) + 1) + 1) fun (x_7 : Int) =>
  idx r3.a r3.n i10 fun b_8 o_9 =>
  ld (.int .i64) b_8 (o_9 + (i10).toNat * 4) fun (x_10 : Int) =>
  ld .bool b_8 ((o_9 + (i10).toNat * 4) + 1) fun (x_11 : Bool) =>
  ld .str b_8 (((o_9 + (i10).toNat * 4) + 1) + 1) fun (x_12 : ByteArray) =>
  ld .slc b_8 ((((o_9 + (i10).toNat * 4) + 1) + 1) + 1) fun (x_13 : Sl) =>
  keepS true S <|
  call1 .bool Try.prog id_hoardref27_Judge_See [.pointer j9, .agg #[.int .i64 x_4, .string x_5, .string x_6, .int .i64 x_7], .agg #[.int .i64 x_10, .bool x_11, .string x_12, .slice x_13.a x_13.n x_13.c]] fun (x_14 : Bool) =>
  ite2 (!x_14) (
  Q (.int .i64 i10)) (
  hoardref27_Wrong_l1 jn Q  m1 l2 r3 j9 (IntKind.wrap .i64 (i10 + (1 : Int))))) := by kernel_rfl
theorem hoardref27_Wrong_j2_def (Q : Value → WP) (m1 : Nat) (l2 : Sl) (r3 : Sl) (j9 : Option Addr) (i10 : Int) : hoardref27_Wrong_j2 idJ Q m1 l2 r3 j9 i10 = codeI Try.prog hoardref27_Wrong_kp idJ (cAt [true, true, false, true, false, false, true] (bodyOf Try.f9)) (lopK Try.prog hoardref27_Wrong_kp idJ (cAt [true, true, false, true, false, false] (bodyOf Try.f9)) (blkX 0 (seqK Try.prog hoardref27_Wrong_kp idJ (cAt [true, true, true] (bodyOf Try.f9)) (retK Try.prog Try.f9 Q) noX (retK Try.prog Try.f9 Q)) noX) (retK Try.prog Try.f9 Q) m1) (blkX 0 (seqK Try.prog hoardref27_Wrong_kp idJ (cAt [true, true, true] (bodyOf Try.f9)) (retK Try.prog Try.f9 Q) noX (retK Try.prog Try.f9 Q)) noX) (retK Try.prog Try.f9 Q) (us 2 ((.slice l2.a l2.n l2.c) :: (.slice r3.a r3.n r3.c) :: us 5 ((.pointer j9) :: (.int .i64 i10) :: us 27 []))) := by kernel_rfl
theorem hoardref27_Wrong_j3_raw (jn : Jn) (Q : Value → WP)   : codeI Try.prog hoardref27_Wrong_kp jn (cAt [true, true, true] (bodyOf Try.f9)) (retK Try.prog Try.f9 Q) noX (retK Try.prog Try.f9 Q) (us 38 []) = (
  Q (.int .i64 (-1 : Int))) := by kernel_rfl
theorem hoardref27_Wrong_j3_def (Q : Value → WP)   : hoardref27_Wrong_j3 idJ Q   = codeI Try.prog hoardref27_Wrong_kp idJ (cAt [true, true, true] (bodyOf Try.f9)) (retK Try.prog Try.f9 Q) noX (retK Try.prog Try.f9 Q) (us 38 []) := by kernel_rfl
theorem hoardref27_Wrong_l1_raw (jn : Jn) (Q : Value → WP)  (m1 : Nat) (l2 : Sl) (r3 : Sl) (j9 : Option Addr) (i10 : Int) : hoardref27_Wrong_l1 jn Q  (m1 + 1) l2 r3 j9 i10 = (
  ite2 (decide (i10 < (l2.n : Int))) (
  ite2 (decide (i10 < (r3.n : Int))) (
  hoardref27_Wrong_j2 jn Q m1 l2 r3 j9 i10) (
  hoardref27_Wrong_j3 jn Q  )) (
  hoardref27_Wrong_j3 jn Q  )) := by kernel_rfl
theorem hoardref27_Wrong_l1_zero (jn : Jn) (Q : Value → WP)  (l2 : Sl) (r3 : Sl) (j9 : Option Addr) (i10 : Int) : hoardref27_Wrong_l1 jn Q  0 l2 r3 j9 i10 = bot := by kernel_rfl
theorem hoardref27_Wrong_raw (jn : Jn) (shards0 : Int) (room1 : Int) (l2 : Sl) (r3 : Sl) (Q : Value → WP) : funJ jn Try.prog hoardref27_Wrong_kp Try.f9 [.int .i64 shards0, .int .i64 room1, .slice l2.a l2.n l2.c, .slice r3.a r3.n r3.c] Q = (
  call1 .ptr Try.prog id_hoardref27_New [.int .i64 shards0, .int .i64 room1] fun (x_1 : Option Addr) =>
  exM fun m => hoardref27_Wrong_l1 jn Q  m l2 r3 x_1 (0 : Int)) := by kernel_rfl
theorem hoardref27_Wrong_def (shards0 : Int) (room1 : Int) (l2 : Sl) (r3 : Sl) (Q : Value → WP) : hoardref27_Wrong shards0 room1 l2 r3 Q = funJ idJ Try.prog hoardref27_Wrong_kp Try.f9 [.int .i64 shards0, .int .i64 room1, .slice l2.a l2.n l2.c, .slice r3.a r3.n r3.c] Q := rfl
theorem hoardref27_Wrong_calls {shards0 : Int} {room1 : Int} {l2 : Sl} {r3 : Sl} {Q : Value → WP} {w : World} (h : hoardref27_Wrong shards0 room1 l2 r3 Q w) : Calls Try.prog id_hoardref27_Wrong #[.int .i64 shards0, .int .i64 room1, .slice l2.a l2.n l2.c, .slice r3.a r3.n r3.c] w fun e w' => ∃ v, e = .returned v ∧ Q v w' :=
  funJ_calls mixed Try.func9 rfl h

-- hoard/hoardlaw27.known
def hoardlaw27_known_kp : KP := ⟨[], []⟩
def hoardlaw27_known  (Q : Value → WP) : WP := funJ idJ Try.prog hoardlaw27_known_kp Try.f10 [] Q
theorem hoardlaw27_known_raw (jn : Jn)  (Q : Value → WP) : funJ jn Try.prog hoardlaw27_known_kp Try.f10 [] Q = (
  call1 .ptr Try.prog id_judge_New [.int .i64 (1 : Int), .int .i64 (1 : Int)] fun (x_1 : Option Addr) =>
  ite2 (!Option.isNone x_1) (
  call1 .bool Try.prog id_judge_Judge_See [.pointer x_1, .agg #[.int .i64 (1 : Int), .string str_a, .string str_empty, .int .i64 (0 : Int)], .agg #[.int .i64 (0 : Int), .bool true, .string str_x, .slice (none : Option Addr) 0 0]] fun (x_2 : Bool) =>
  Q (.bool (!x_2))) (
  Q (.bool false))) := by kernel_rfl
theorem hoardlaw27_known_def  (Q : Value → WP) : hoardlaw27_known  Q = funJ idJ Try.prog hoardlaw27_known_kp Try.f10 [] Q := rfl
theorem hoardlaw27_known_calls {Q : Value → WP} {w : World} (h : hoardlaw27_known Q w) : Calls Try.prog id_hoardlaw27_known #[] w fun e w' => ∃ v, e = .returned v ∧ Q v w' :=
  funJ_calls mixed Try.func10 rfl h

-- hoard/judge.New
def judge_New_kp : KP := ⟨[], []⟩
def judge_New (shards0 : Int) (room1 : Int) (Q : Value → WP) : WP := funJ idJ Try.prog judge_New_kp Try.f11 [.int .i64 shards0, .int .i64 room1] Q
theorem judge_New_raw (jn : Jn) (shards0 : Int) (room1 : Int) (Q : Value → WP) : funJ jn Try.prog judge_New_kp Try.f11 [.int .i64 shards0, .int .i64 room1] Q = (
  call1 .ptr Try.prog id_table_New [] fun (x_1 : Option Addr) =>
  newB [.pointer x_1, .int .i64 shards0, .int .i64 room1, .int .i64 (0 : Int)] ty_judge_Judge fun b_2 =>
  Q (.pointer (some ⟨b_2, 0, none⟩))) := by kernel_rfl
theorem judge_New_def (shards0 : Int) (room1 : Int) (Q : Value → WP) : judge_New shards0 room1 Q = funJ idJ Try.prog judge_New_kp Try.f11 [.int .i64 shards0, .int .i64 room1] Q := rfl
theorem judge_New_calls {shards0 : Int} {room1 : Int} {Q : Value → WP} {w : World} (h : judge_New shards0 room1 Q w) : Calls Try.prog id_judge_New #[.int .i64 shards0, .int .i64 room1] w fun e w' => ∃ v, e = .returned v ∧ Q v w' :=
  funJ_calls mixed Try.func11 rfl h

-- hoard/hoardref27.New
def hoardref27_New_kp : KP := ⟨[], []⟩
def hoardref27_New (shards0 : Int) (room1 : Int) (Q : Value → WP) : WP := funJ idJ Try.prog hoardref27_New_kp Try.f12 [.int .i64 shards0, .int .i64 room1] Q
theorem hoardref27_New_raw (jn : Jn) (shards0 : Int) (room1 : Int) (Q : Value → WP) : funJ jn Try.prog hoardref27_New_kp Try.f12 [.int .i64 shards0, .int .i64 room1] Q = (
  newB [.slice (none : Option Addr) 0 0] ty_hoardref21_Table fun b_1 =>
  newB [.pointer (some ⟨b_1, 0, none⟩), .int .i64 (0 : Int), .int .i64 shards0, .int .i64 room1] ty_hoardref27_Judge fun b_2 =>
  Q (.pointer (some ⟨b_2, 0, none⟩))) := by kernel_rfl
theorem hoardref27_New_def (shards0 : Int) (room1 : Int) (Q : Value → WP) : hoardref27_New shards0 room1 Q = funJ idJ Try.prog hoardref27_New_kp Try.f12 [.int .i64 shards0, .int .i64 room1] Q := rfl
theorem hoardref27_New_calls {shards0 : Int} {room1 : Int} {Q : Value → WP} {w : World} (h : hoardref27_New shards0 room1 Q w) : Calls Try.prog id_hoardref27_New #[.int .i64 shards0, .int .i64 room1] w fun e w' => ∃ v, e = .returned v ∧ Q v w' :=
  funJ_calls mixed Try.func12 rfl h

-- (*hoard/judge.Judge).See
def judge_Judge_See_kp : KP := ⟨[(14, [0, 4, 5, 34]), (16, [0, 4, 5]), (18, [0, 4, 5, 7])], [(6, [0, 1, 2, 3, 4, 5, 6, 7, 8, 10, 11, 12, 13, 14])]⟩
def judge_Judge_See_j3 (jn : Jn) (Q : Value → WP)  (j0 : Option Addr) (o4_b : Nat) (o4_o : Nat) (r5_b : Nat) (r5_o : Nat) (ok7 : Bool) : WP := jn 18 (fun ρ => codeI Try.prog judge_Judge_See_kp jn (cAt [true, true, true, true, true] (bodyOf Try.f13)) (retK Try.prog Try.f13 Q) noX (retK Try.prog Try.f13 Q) ρ) ((.pointer j0) :: us 3 ((.pointer (some ⟨o4_b, o4_o, none⟩)) :: (.pointer (some ⟨r5_b, r5_o, none⟩)) :: us 1 ((.bool ok7) :: us 64 [])))
def judge_Judge_See_j2 (jn : Jn) (Q : Value → WP)  (j0 : Option Addr) (o4_b : Nat) (o4_o : Nat) (r5_b : Nat) (r5_o : Nat) : WP := jn 16 (fun ρ => codeI Try.prog judge_Judge_See_kp jn (cAt [true, true, true, true] (bodyOf Try.f13)) (retK Try.prog Try.f13 Q) noX (retK Try.prog Try.f13 Q) ρ) ((.pointer j0) :: us 3 ((.pointer (some ⟨o4_b, o4_o, none⟩)) :: (.pointer (some ⟨r5_b, r5_o, none⟩)) :: us 66 []))
def judge_Judge_See_j1 (jn : Jn) (Q : Value → WP)  (j0 : Option Addr) (o4_b : Nat) (o4_o : Nat) (r5_b : Nat) (r5_o : Nat) (t34 : Bool) : WP := jn 14 (fun ρ => codeI Try.prog judge_Judge_See_kp jn (cAt [true, true, true, false, true] (bodyOf Try.f13)) (seqK Try.prog judge_Judge_See_kp jn (cAt [true, true, true, true] (bodyOf Try.f13)) (retK Try.prog Try.f13 Q) noX (retK Try.prog Try.f13 Q)) noX (retK Try.prog Try.f13 Q) ρ) ((.pointer j0) :: us 3 ((.pointer (some ⟨o4_b, o4_o, none⟩)) :: (.pointer (some ⟨r5_b, r5_o, none⟩)) :: us 28 ((.bool t34) :: us 37 [])))
def judge_Judge_See (j0 : Option Addr) (o1_0 : Int) (o1_1 : ByteArray) (o1_2 : ByteArray) (o1_3 : Int) (r2_0 : Int) (r2_1 : Bool) (r2_2 : ByteArray) (r2_3 : Sl) (Q : Value → WP) : WP := funJ idJ Try.prog judge_Judge_See_kp Try.f13 [.pointer j0, .agg #[.int .i64 o1_0, .string o1_1, .string o1_2, .int .i64 o1_3], .agg #[.int .i64 r2_0, .bool r2_1, .string r2_2, .slice r2_3.a r2_3.n r2_3.c]] Q
theorem judge_Judge_See_j3_raw (jn : Jn) (Q : Value → WP)  (j0 : Option Addr) (o4_b : Nat) (o4_o : Nat) (r5_b : Nat) (r5_o : Nat) (ok7 : Bool) : codeI Try.prog judge_Judge_See_kp jn (cAt [true, true, true, true, true] (bodyOf Try.f13)) (retK Try.prog Try.f13 Q) noX (retK Try.prog Try.f13 Q) ((.pointer j0) :: us 3 ((.pointer (some ⟨o4_b, o4_o, none⟩)) :: (.pointer (some ⟨r5_b, r5_o, none⟩)) :: us 1 ((.bool ok7) :: us 64 []))) = (
  ld (.int .i64) o4_b o4_o fun (x_30 : Int) =>
  ld .str o4_b (o4_o + 1) fun (x_31 : ByteArray) =>
  ld .str o4_b ((o4_o + 1) + 1) fun (x_32 : ByteArray) =>
  ld (.int .i64) o4_b (((o4_o + 1) + 1) + 1) fun (x_33 : Int) =>
  ld .slc r5_b (r5_o + 3) fun (x_34 : Sl) =>
  call0 Try.prog id_judge_Judge_notes [.pointer j0, .agg #[.int .i64 x_30, .string x_31, .string x_32, .int .i64 x_33], .slice x_34.a x_34.n x_34.c] <|
  ite2 ok7 (
  call1 .bool Try.prog id_judge_Judge_fits [.pointer j0] fun (x_35 : Bool) =>
  Q (.bool x_35)) (
  Q (.bool false))) := by kernel_rfl
theorem judge_Judge_See_j3_def (Q : Value → WP)  (j0 : Option Addr) (o4_b : Nat) (o4_o : Nat) (r5_b : Nat) (r5_o : Nat) (ok7 : Bool) : judge_Judge_See_j3 idJ Q  j0 o4_b o4_o r5_b r5_o ok7 = codeI Try.prog judge_Judge_See_kp idJ (cAt [true, true, true, true, true] (bodyOf Try.f13)) (retK Try.prog Try.f13 Q) noX (retK Try.prog Try.f13 Q) ((.pointer j0) :: us 3 ((.pointer (some ⟨o4_b, o4_o, none⟩)) :: (.pointer (some ⟨r5_b, r5_o, none⟩)) :: us 1 ((.bool ok7) :: us 64 []))) := by kernel_rfl
theorem judge_Judge_See_j2_raw (jn : Jn) (Q : Value → WP)  (j0 : Option Addr) (o4_b : Nat) (o4_o : Nat) (r5_b : Nat) (r5_o : Nat) : codeI Try.prog judge_Judge_See_kp jn (cAt [true, true, true, true] (bodyOf Try.f13)) (retK Try.prog Try.f13 Q) noX (retK Try.prog Try.f13 Q) ((.pointer j0) :: us 3 ((.pointer (some ⟨o4_b, o4_o, none⟩)) :: (.pointer (some ⟨r5_b, r5_o, none⟩)) :: us 66 [])) = (
  ld (.int .i64) o4_b o4_o fun (x_18 : Int) =>
  ld .str o4_b (o4_o + 1) fun (x_19 : ByteArray) =>
  ld .str o4_b ((o4_o + 1) + 1) fun (x_20 : ByteArray) =>
  ld (.int .i64) o4_b (((o4_o + 1) + 1) + 1) fun (x_21 : Int) =>
  ld (.int .i64) r5_b r5_o fun (x_22 : Int) =>
  ld .bool r5_b (r5_o + 1) fun (x_23 : Bool) =>
  ld .str r5_b ((r5_o + 1) + 1) fun (x_24 : ByteArray) =>
  ld .slc r5_b (((r5_o + 1) + 1) + 1) fun (x_25 : Sl) =>
  call1 .bool Try.prog id_judge_Judge_tells [.pointer j0, .agg #[.int .i64 x_18, .string x_19, .string x_20, .int .i64 x_21], .agg #[.int .i64 x_22, .bool x_23, .string x_24, .slice x_25.a x_25.n x_25.c]] fun (x_26 : Bool) =>
  ite2 x_26 (
  ld (.int .i64) o4_b o4_o fun (x_27 : Int) =>
  ld .slc r5_b (r5_o + 3) fun (x_28 : Sl) =>
  call1 .bool Try.prog id_judge_Judge_goes [.pointer j0, .int .i64 x_27, .slice x_28.a x_28.n x_28.c] fun (x_29 : Bool) =>
  judge_Judge_See_j3 jn Q  j0 o4_b o4_o r5_b r5_o x_29) (
  judge_Judge_See_j3 jn Q  j0 o4_b o4_o r5_b r5_o false)) := by kernel_rfl
theorem judge_Judge_See_j2_def (Q : Value → WP)  (j0 : Option Addr) (o4_b : Nat) (o4_o : Nat) (r5_b : Nat) (r5_o : Nat) : judge_Judge_See_j2 idJ Q  j0 o4_b o4_o r5_b r5_o = codeI Try.prog judge_Judge_See_kp idJ (cAt [true, true, true, true] (bodyOf Try.f13)) (retK Try.prog Try.f13 Q) noX (retK Try.prog Try.f13 Q) ((.pointer j0) :: us 3 ((.pointer (some ⟨o4_b, o4_o, none⟩)) :: (.pointer (some ⟨r5_b, r5_o, none⟩)) :: us 66 [])) := by kernel_rfl
theorem judge_Judge_See_j1_raw (jn : Jn) (Q : Value → WP)  (j0 : Option Addr) (o4_b : Nat) (o4_o : Nat) (r5_b : Nat) (r5_o : Nat) (t34 : Bool) : codeI Try.prog judge_Judge_See_kp jn (cAt [true, true, true, false, true] (bodyOf Try.f13)) (seqK Try.prog judge_Judge_See_kp jn (cAt [true, true, true, true] (bodyOf Try.f13)) (retK Try.prog Try.f13 Q) noX (retK Try.prog Try.f13 Q)) noX (retK Try.prog Try.f13 Q) ((.pointer j0) :: us 3 ((.pointer (some ⟨o4_b, o4_o, none⟩)) :: (.pointer (some ⟨r5_b, r5_o, none⟩)) :: us 28 ((.bool t34) :: us 37 []))) = (
  ite2 t34 (
  drawW fun S =>
  nilck j0 fun b_9 o_10 =>
  ldS S (.int .i64) b_9 (o_10 + 3) fun (x_11 : Int) =>
  ldS S (.int .i64) o4_b (o4_o + 3) fun (x_12 : Int) =>
  nilck j0 fun b_13 o_14 =>
  ld (.int .i64) b_13 (o_14 + 3) fun (x_15 : Int) =>
  keepS true S <|
  nilck j0 fun b_16 o_17 =>
  st b_16 (o_17 + 3) (.int .i64 (IntKind.wrap .i64 (x_11 + (if (IntKind.wrap .i64 ((1125899906842624 : Int) - x_15)) < x_12 then (IntKind.wrap .i64 ((1125899906842624 : Int) - x_15)) else x_12)))) <|
  judge_Judge_See_j2 jn Q  j0 o4_b o4_o r5_b r5_o) (
  judge_Judge_See_j2 jn Q  j0 o4_b o4_o r5_b r5_o)) := by kernel_rfl
theorem judge_Judge_See_j1_def (Q : Value → WP)  (j0 : Option Addr) (o4_b : Nat) (o4_o : Nat) (r5_b : Nat) (r5_o : Nat) (t34 : Bool) : judge_Judge_See_j1 idJ Q  j0 o4_b o4_o r5_b r5_o t34 = codeI Try.prog judge_Judge_See_kp idJ (cAt [true, true, true, false, true] (bodyOf Try.f13)) (seqK Try.prog judge_Judge_See_kp idJ (cAt [true, true, true, true] (bodyOf Try.f13)) (retK Try.prog Try.f13 Q) noX (retK Try.prog Try.f13 Q)) noX (retK Try.prog Try.f13 Q) ((.pointer j0) :: us 3 ((.pointer (some ⟨o4_b, o4_o, none⟩)) :: (.pointer (some ⟨r5_b, r5_o, none⟩)) :: us 28 ((.bool t34) :: us 37 []))) := by kernel_rfl
theorem judge_Judge_See_raw (jn : Jn) (j0 : Option Addr) (o1_0 : Int) (o1_1 : ByteArray) (o1_2 : ByteArray) (o1_3 : Int) (r2_0 : Int) (r2_1 : Bool) (r2_2 : ByteArray) (r2_3 : Sl) (Q : Value → WP) : funJ jn Try.prog judge_Judge_See_kp Try.f13 [.pointer j0, .agg #[.int .i64 o1_0, .string o1_1, .string o1_2, .int .i64 o1_3], .agg #[.int .i64 r2_0, .bool r2_1, .string r2_2, .slice r2_3.a r2_3.n r2_3.c]] Q = (
  newB [.int .i64 o1_0, .string o1_1, .string o1_2, .int .i64 o1_3] ty_api_Op fun b_1 =>
  newB [.int .i64 r2_0, .bool r2_1, .string r2_2, .slice r2_3.a r2_3.n r2_3.c] ty_api_Result fun b_2 =>
  ite2 (Option.isNone j0) (
  Q (.bool false)) (
  ld (.int .i64) b_2 0 fun (x_3 : Int) =>
  ite2 (x_3 != (0 : Int)) (
  ld .bool b_2 1 fun (x_4 : Bool) =>
  ite2 (!x_4) (
  ld .str b_2 2 fun (x_5 : ByteArray) =>
  ite2 (sEq x_5 str_empty) (
  ld .slc b_2 3 fun (x_6 : Sl) =>
  Q (.bool ((x_6.n : Int) == (0 : Int)))) (
  Q (.bool false))) (
  Q (.bool false))) (
  ld (.int .i64) b_1 0 fun (x_7 : Int) =>
  ite2 (x_7 == (4 : Int)) (
  ld (.int .i64) b_1 3 fun (x_8 : Int) =>
  judge_Judge_See_j1 jn Q  j0 b_1 0 b_2 0 (decide (x_8 > (0 : Int)))) (
  judge_Judge_See_j1 jn Q  j0 b_1 0 b_2 0 false)))) := by kernel_rfl
theorem judge_Judge_See_def (j0 : Option Addr) (o1_0 : Int) (o1_1 : ByteArray) (o1_2 : ByteArray) (o1_3 : Int) (r2_0 : Int) (r2_1 : Bool) (r2_2 : ByteArray) (r2_3 : Sl) (Q : Value → WP) : judge_Judge_See j0 o1_0 o1_1 o1_2 o1_3 r2_0 r2_1 r2_2 r2_3 Q = funJ idJ Try.prog judge_Judge_See_kp Try.f13 [.pointer j0, .agg #[.int .i64 o1_0, .string o1_1, .string o1_2, .int .i64 o1_3], .agg #[.int .i64 r2_0, .bool r2_1, .string r2_2, .slice r2_3.a r2_3.n r2_3.c]] Q := rfl
theorem judge_Judge_See_calls {j0 : Option Addr} {o1_0 : Int} {o1_1 : ByteArray} {o1_2 : ByteArray} {o1_3 : Int} {r2_0 : Int} {r2_1 : Bool} {r2_2 : ByteArray} {r2_3 : Sl} {Q : Value → WP} {w : World} (h : judge_Judge_See j0 o1_0 o1_1 o1_2 o1_3 r2_0 r2_1 r2_2 r2_3 Q w) : Calls Try.prog id_judge_Judge_See #[.pointer j0, .agg #[.int .i64 o1_0, .string o1_1, .string o1_2, .int .i64 o1_3], .agg #[.int .i64 r2_0, .bool r2_1, .string r2_2, .slice r2_3.a r2_3.n r2_3.c]] w fun e w' => ∃ v, e = .returned v ∧ Q v w' :=
  funJ_calls mixed Try.func13 rfl h

-- (*hoard/hoardref27.Judge).See
def hoardref27_Judge_See_kp : KP := ⟨[(10, [0, 4, 5, 33]), (12, [0, 4, 5]), (14, [0, 4, 5, 7]), (17, [0, 4, 5, 7, 8]), (22, [0, 4, 7]), (36, [0, 7])], [(4, [0, 1, 2, 3, 4, 5, 7, 8, 9, 10, 11]), (9, [0, 1, 2, 3, 4, 6, 7]), (12, [0, 1, 2, 3, 4, 5, 6, 7, 8, 9, 10, 11, 12]), (14, [0, 1, 2, 3, 4])]⟩
def hoardref27_Judge_See_j6 (jn : Jn) (Q : Value → WP)  (j0 : Option Addr) (ok7 : Bool) : WP := jn 36 (fun ρ => codeI Try.prog hoardref27_Judge_See_kp jn (cAt [true, true, true, true, true, true] (bodyOf Try.f14)) (retK Try.prog Try.f14 Q) noX (retK Try.prog Try.f14 Q) ρ) ((.pointer j0) :: us 6 ((.bool ok7) :: us 107 []))
def hoardref27_Judge_See_j5 (jn : Jn) (Q : Value → WP)  (j0 : Option Addr) (o4_b : Nat) (o4_o : Nat) (ok7 : Bool) : WP := jn 22 (fun ρ => codeI Try.prog hoardref27_Judge_See_kp jn (cAt [true, true, true, true, true] (bodyOf Try.f14)) (retK Try.prog Try.f14 Q) noX (retK Try.prog Try.f14 Q) ρ) ((.pointer j0) :: us 3 ((.pointer (some ⟨o4_b, o4_o, none⟩)) :: us 2 ((.bool ok7) :: us 107 [])))
def hoardref27_Judge_See_l4 (jn : Jn) (Q : Value → WP)  (m4 : Nat) (j0 : Option Addr) (o4_b : Nat) (o4_o : Nat) (r5_b : Nat) (r5_o : Nat) (ok7 : Bool) (i8 : Int) : WP := lop Try.prog hoardref27_Judge_See_kp jn (cAt [true, true, true, true, false, true, false, false] (bodyOf Try.f14)) (blkX 0 (seqK Try.prog hoardref27_Judge_See_kp jn (cAt [true, true, true, true, true] (bodyOf Try.f14)) (retK Try.prog Try.f14 Q) noX (retK Try.prog Try.f14 Q)) noX) (retK Try.prog Try.f14 Q) m4 ((.pointer j0) :: us 3 ((.pointer (some ⟨o4_b, o4_o, none⟩)) :: (.pointer (some ⟨r5_b, r5_o, none⟩)) :: us 1 ((.bool ok7) :: (.int .i64 i8) :: us 106 [])))
def hoardref27_Judge_See_j3 (jn : Jn) (Q : Value → WP)  (j0 : Option Addr) (o4_b : Nat) (o4_o : Nat) (r5_b : Nat) (r5_o : Nat) (ok7 : Bool) : WP := jn 14 (fun ρ => codeI Try.prog hoardref27_Judge_See_kp jn (cAt [true, true, true, true] (bodyOf Try.f14)) (retK Try.prog Try.f14 Q) noX (retK Try.prog Try.f14 Q) ρ) ((.pointer j0) :: us 3 ((.pointer (some ⟨o4_b, o4_o, none⟩)) :: (.pointer (some ⟨r5_b, r5_o, none⟩)) :: us 1 ((.bool ok7) :: us 107 [])))
def hoardref27_Judge_See_j2 (jn : Jn) (Q : Value → WP)  (j0 : Option Addr) (o4_b : Nat) (o4_o : Nat) (r5_b : Nat) (r5_o : Nat) : WP := jn 12 (fun ρ => codeI Try.prog hoardref27_Judge_See_kp jn (cAt [true, true, true] (bodyOf Try.f14)) (retK Try.prog Try.f14 Q) noX (retK Try.prog Try.f14 Q) ρ) ((.pointer j0) :: us 3 ((.pointer (some ⟨o4_b, o4_o, none⟩)) :: (.pointer (some ⟨r5_b, r5_o, none⟩)) :: us 109 []))
def hoardref27_Judge_See_j1 (jn : Jn) (Q : Value → WP)  (j0 : Option Addr) (o4_b : Nat) (o4_o : Nat) (r5_b : Nat) (r5_o : Nat) (t33 : Bool) : WP := jn 10 (fun ρ => codeI Try.prog hoardref27_Judge_See_kp jn (cAt [true, true, false, true] (bodyOf Try.f14)) (seqK Try.prog hoardref27_Judge_See_kp jn (cAt [true, true, true] (bodyOf Try.f14)) (retK Try.prog Try.f14 Q) noX (retK Try.prog Try.f14 Q)) noX (retK Try.prog Try.f14 Q) ρ) ((.pointer j0) :: us 3 ((.pointer (some ⟨o4_b, o4_o, none⟩)) :: (.pointer (some ⟨r5_b, r5_o, none⟩)) :: us 27 ((.bool t33) :: us 81 [])))
def hoardref27_Judge_See (j0 : Option Addr) (o1_0 : Int) (o1_1 : ByteArray) (o1_2 : ByteArray) (o1_3 : Int) (r2_0 : Int) (r2_1 : Bool) (r2_2 : ByteArray) (r2_3 : Sl) (Q : Value → WP) : WP := funJ idJ Try.prog hoardref27_Judge_See_kp Try.f14 [.pointer j0, .agg #[.int .i64 o1_0, .string o1_1, .string o1_2, .int .i64 o1_3], .agg #[.int .i64 r2_0, .bool r2_1, .string r2_2, .slice r2_3.a r2_3.n r2_3.c]] Q
theorem hoardref27_Judge_See_j6_raw (jn : Jn) (Q : Value → WP)  (j0 : Option Addr) (ok7 : Bool) : codeI Try.prog hoardref27_Judge_See_kp jn (cAt [true, true, true, true, true, true] (bodyOf Try.f14)) (retK Try.prog Try.f14 Q) noX (retK Try.prog Try.f14 Q) ((.pointer j0) :: us 6 ((.bool ok7) :: us 107 [])) = (
  ite2 ok7 (
  call1 .bool Try.prog id_hoardref27_Judge_full [.pointer j0] fun (x_51 : Bool) =>
  Q (.bool (!x_51))) (
  Q (.bool false))) := by kernel_rfl
theorem hoardref27_Judge_See_j6_def (Q : Value → WP)  (j0 : Option Addr) (ok7 : Bool) : hoardref27_Judge_See_j6 idJ Q  j0 ok7 = codeI Try.prog hoardref27_Judge_See_kp idJ (cAt [true, true, true, true, true, true] (bodyOf Try.f14)) (retK Try.prog Try.f14 Q) noX (retK Try.prog Try.f14 Q) ((.pointer j0) :: us 6 ((.bool ok7) :: us 107 [])) := by kernel_rfl
theorem hoardref27_Judge_See_j5_raw (jn : Jn) (Q : Value → WP)  (j0 : Option Addr) (o4_b : Nat) (o4_o : Nat) (ok7 : Bool) : codeI Try.prog hoardref27_Judge_See_kp jn (cAt [true, true, true, true, true] (bodyOf Try.f14)) (retK Try.prog Try.f14 Q) noX (retK Try.prog Try.f14 Q) ((.pointer j0) :: us 3 ((.pointer (some ⟨o4_b, o4_o, none⟩)) :: us 2 ((.bool ok7) :: us 107 []))) = (
  ld (.int .i64) o4_b o4_o fun (x_39 : Int) =>
  ite2 (x_39 == (2 : Int)) (
  drawW fun S =>
  nilck j0 fun b_40 o_41 =>
  ldS S .ptr b_40 o_41 fun (x_42 : Option Addr) =>
  ldS S .str o4_b (o4_o + 1) fun (x_43 : ByteArray) =>
  ldS S .str o4_b (o4_o + 2) fun (x_44 : ByteArray) =>
  nilck j0 fun b_45 o_46 =>
  ldS S (.int .i64) b_45 (o_46 + 1) fun (x_47 : Int) =>
  ld (.int .i64) o4_b (o4_o + 3) fun (x_48 : Int) =>
  keepS true S <|
  call2 .bool (.int .i64) Try.prog id_hoardref21_Table_Put [.pointer x_42, .string x_43, .string x_44, .int .i64 x_47, .int .i64 x_48] fun (x_49 : Bool) (x_50 : Int) =>
  hoardref27_Judge_See_j6 jn Q  j0 ok7) (
  ite2 (x_39 == (3 : Int)) (
  drawW fun S =>
  nilck j0 fun b_52 o_53 =>
  ldS S .ptr b_52 o_53 fun (x_54 : Option Addr) =>
  ld .str o4_b (o4_o + 1) fun (x_55 : ByteArray) =>
  keepS true S <|
  call1 .bool Try.prog id_hoardref21_Table_Delete [.pointer x_54, .string x_55] fun (x_56 : Bool) =>
  hoardref27_Judge_See_j6 jn Q  j0 ok7) (
  ite2 (x_39 == (9 : Int)) (
  ld (.int .i64) o4_b (o4_o + 3) fun (x_57 : Int) =>
  nilck j0 fun b_58 o_59 =>
  st b_58 (o_59 + 3) (.int .i64 x_57) <|
  hoardref27_Judge_See_j6 jn Q  j0 ok7) (
  hoardref27_Judge_See_j6 jn Q  j0 ok7)))) := by kernel_rfl
theorem hoardref27_Judge_See_j5_def (Q : Value → WP)  (j0 : Option Addr) (o4_b : Nat) (o4_o : Nat) (ok7 : Bool) : hoardref27_Judge_See_j5 idJ Q  j0 o4_b o4_o ok7 = codeI Try.prog hoardref27_Judge_See_kp idJ (cAt [true, true, true, true, true] (bodyOf Try.f14)) (retK Try.prog Try.f14 Q) noX (retK Try.prog Try.f14 Q) ((.pointer j0) :: us 3 ((.pointer (some ⟨o4_b, o4_o, none⟩)) :: us 2 ((.bool ok7) :: us 107 []))) := by kernel_rfl
theorem hoardref27_Judge_See_l4_raw (jn : Jn) (Q : Value → WP)  (m4 : Nat) (j0 : Option Addr) (o4_b : Nat) (o4_o : Nat) (r5_b : Nat) (r5_o : Nat) (ok7 : Bool) (i8 : Int) : hoardref27_Judge_See_l4 jn Q  (m4 + 1) j0 o4_b o4_o r5_b r5_o ok7 i8 = (
  ld .slc r5_b (r5_o + 3) fun (x_30 : Sl) =>
  ite2 (decide (i8 < (x_30.n : Int))) (
  drawW fun S =>
  nilck j0 fun b_31 o_32 =>
  ldS S .ptr b_31 o_32 fun (x_33 : Option Addr) =>
  ld .slc r5_b (r5_o + 3) fun (x_34 : Sl) =>
  keepS true S <|
  idx x_34.a x_34.n i8 fun b_35 o_36 =>
  ld .str b_35 (o_36 + (i8).toNat * 1) fun (x_37 : ByteArray) =>
  keepS true S <|
  call1 .bool Try.prog id_hoardref21_Table_Delete [.pointer x_33, .string x_37] fun (x_38 : Bool) =>
  hoardref27_Judge_See_l4 jn Q  m4 j0 o4_b o4_o r5_b r5_o ok7 (IntKind.wrap .i64 (i8 + (1 : Int)))) (
  hoardref27_Judge_See_j5 jn Q  j0 o4_b o4_o ok7)) := by kernel_rfl
theorem hoardref27_Judge_See_l4_zero (jn : Jn) (Q : Value → WP)  (j0 : Option Addr) (o4_b : Nat) (o4_o : Nat) (r5_b : Nat) (r5_o : Nat) (ok7 : Bool) (i8 : Int) : hoardref27_Judge_See_l4 jn Q  0 j0 o4_b o4_o r5_b r5_o ok7 i8 = bot := by kernel_rfl
theorem hoardref27_Judge_See_j3_raw (jn : Jn) (Q : Value → WP)  (j0 : Option Addr) (o4_b : Nat) (o4_o : Nat) (r5_b : Nat) (r5_o : Nat) (ok7 : Bool) : codeI Try.prog hoardref27_Judge_See_kp jn (cAt [true, true, true, true] (bodyOf Try.f14)) (retK Try.prog Try.f14 Q) noX (retK Try.prog Try.f14 Q) ((.pointer j0) :: us 3 ((.pointer (some ⟨o4_b, o4_o, none⟩)) :: (.pointer (some ⟨r5_b, r5_o, none⟩)) :: us 1 ((.bool ok7) :: us 107 []))) = (
  exM fun m => hoardref27_Judge_See_l4 jn Q  m j0 o4_b o4_o r5_b r5_o ok7 (0 : Int)) := by kernel_rfl
theorem hoardref27_Judge_See_j3_def (Q : Value → WP)  (j0 : Option Addr) (o4_b : Nat) (o4_o : Nat) (r5_b : Nat) (r5_o : Nat) (ok7 : Bool) : hoardref27_Judge_See_j3 idJ Q  j0 o4_b o4_o r5_b r5_o ok7 = codeI Try.prog hoardref27_Judge_See_kp idJ (cAt [true, true, true, true] (bodyOf Try.f14)) (retK Try.prog Try.f14 Q) noX (retK Try.prog Try.f14 Q) ((.pointer j0) :: us 3 ((.pointer (some ⟨o4_b, o4_o, none⟩)) :: (.pointer (some ⟨r5_b, r5_o, none⟩)) :: us 1 ((.bool ok7) :: us 107 []))) := by kernel_rfl
theorem hoardref27_Judge_See_j2_raw (jn : Jn) (Q : Value → WP)  (j0 : Option Addr) (o4_b : Nat) (o4_o : Nat) (r5_b : Nat) (r5_o : Nat) : codeI Try.prog hoardref27_Judge_See_kp jn (cAt [true, true, true] (bodyOf Try.f14)) (retK Try.prog Try.f14 Q) noX (retK Try.prog Try.f14 Q) ((.pointer j0) :: us 3 ((.pointer (some ⟨o4_b, o4_o, none⟩)) :: (.pointer (some ⟨r5_b, r5_o, none⟩)) :: us 109 [])) = (
  ld (.int .i64) o4_b o4_o fun (x_15 : Int) =>
  ld .str o4_b (o4_o + 1) fun (x_16 : ByteArray) =>
  ld .str o4_b ((o4_o + 1) + 1) fun (x_17 : ByteArray) =>
  ld (.int .i64) o4_b (((o4_o + 1) + 1) + 1) fun (x_18 : Int) =>
  ld (.int .i64) r5_b r5_o fun (x_19 : Int) =>
  ld .bool r5_b (r5_o + 1) fun (x_20 : Bool) =>
  ld .str r5_b ((r5_o + 1) + 1) fun (x_21 : ByteArray) =>
  ld .slc r5_b (((r5_o + 1) + 1) + 1) fun (x_22 : Sl) =>
  call1 .bool Try.prog id_hoardref27_Judge_right [.pointer j0, .agg #[.int .i64 x_15, .string x_16, .string x_17, .int .i64 x_18], .agg #[.int .i64 x_19, .bool x_20, .string x_21, .slice x_22.a x_22.n x_22.c]] fun (x_23 : Bool) =>
  ite2 x_23 (
  ld (.int .i64) o4_b o4_o fun (x_24 : Int) =>
  ld .str o4_b (o4_o + 1) fun (x_25 : ByteArray) =>
  ld .str o4_b ((o4_o + 1) + 1) fun (x_26 : ByteArray) =>
  ld (.int .i64) o4_b (((o4_o + 1) + 1) + 1) fun (x_27 : Int) =>
  ld .slc r5_b (r5_o + 3) fun (x_28 : Sl) =>
  call1 .bool Try.prog id_hoardref27_Judge_goes [.pointer j0, .agg #[.int .i64 x_24, .string x_25, .string x_26, .int .i64 x_27], .slice x_28.a x_28.n x_28.c] fun (x_29 : Bool) =>
  hoardref27_Judge_See_j3 jn Q  j0 o4_b o4_o r5_b r5_o x_29) (
  hoardref27_Judge_See_j3 jn Q  j0 o4_b o4_o r5_b r5_o false)) := by kernel_rfl
theorem hoardref27_Judge_See_j2_def (Q : Value → WP)  (j0 : Option Addr) (o4_b : Nat) (o4_o : Nat) (r5_b : Nat) (r5_o : Nat) : hoardref27_Judge_See_j2 idJ Q  j0 o4_b o4_o r5_b r5_o = codeI Try.prog hoardref27_Judge_See_kp idJ (cAt [true, true, true] (bodyOf Try.f14)) (retK Try.prog Try.f14 Q) noX (retK Try.prog Try.f14 Q) ((.pointer j0) :: us 3 ((.pointer (some ⟨o4_b, o4_o, none⟩)) :: (.pointer (some ⟨r5_b, r5_o, none⟩)) :: us 109 [])) := by kernel_rfl
theorem hoardref27_Judge_See_j1_raw (jn : Jn) (Q : Value → WP)  (j0 : Option Addr) (o4_b : Nat) (o4_o : Nat) (r5_b : Nat) (r5_o : Nat) (t33 : Bool) : codeI Try.prog hoardref27_Judge_See_kp jn (cAt [true, true, false, true] (bodyOf Try.f14)) (seqK Try.prog hoardref27_Judge_See_kp jn (cAt [true, true, true] (bodyOf Try.f14)) (retK Try.prog Try.f14 Q) noX (retK Try.prog Try.f14 Q)) noX (retK Try.prog Try.f14 Q) ((.pointer j0) :: us 3 ((.pointer (some ⟨o4_b, o4_o, none⟩)) :: (.pointer (some ⟨r5_b, r5_o, none⟩)) :: us 27 ((.bool t33) :: us 81 []))) = (
  ite2 t33 (
  drawW fun S =>
  nilck j0 fun b_9 o_10 =>
  ldS S (.int .i64) b_9 (o_10 + 1) fun (x_11 : Int) =>
  ld (.int .i64) o4_b (o4_o + 3) fun (x_12 : Int) =>
  keepS true S <|
  nilck j0 fun b_13 o_14 =>
  st b_13 (o_14 + 1) (.int .i64 (if (IntKind.wrap .i64 (x_11 + (if (1125899906842624 : Int) < x_12 then (1125899906842624 : Int) else x_12))) < (1125899906842624 : Int) then (IntKind.wrap .i64 (x_11 + (if (1125899906842624 : Int) < x_12 then (1125899906842624 : Int) else x_12))) else (1125899906842624 : Int))) <|
  hoardref27_Judge_See_j2 jn Q  j0 o4_b o4_o r5_b r5_o) (
  hoardref27_Judge_See_j2 jn Q  j0 o4_b o4_o r5_b r5_o)) := by kernel_rfl
theorem hoardref27_Judge_See_j1_def (Q : Value → WP)  (j0 : Option Addr) (o4_b : Nat) (o4_o : Nat) (r5_b : Nat) (r5_o : Nat) (t33 : Bool) : hoardref27_Judge_See_j1 idJ Q  j0 o4_b o4_o r5_b r5_o t33 = codeI Try.prog hoardref27_Judge_See_kp idJ (cAt [true, true, false, true] (bodyOf Try.f14)) (seqK Try.prog hoardref27_Judge_See_kp idJ (cAt [true, true, true] (bodyOf Try.f14)) (retK Try.prog Try.f14 Q) noX (retK Try.prog Try.f14 Q)) noX (retK Try.prog Try.f14 Q) ((.pointer j0) :: us 3 ((.pointer (some ⟨o4_b, o4_o, none⟩)) :: (.pointer (some ⟨r5_b, r5_o, none⟩)) :: us 27 ((.bool t33) :: us 81 []))) := by kernel_rfl
theorem hoardref27_Judge_See_raw (jn : Jn) (j0 : Option Addr) (o1_0 : Int) (o1_1 : ByteArray) (o1_2 : ByteArray) (o1_3 : Int) (r2_0 : Int) (r2_1 : Bool) (r2_2 : ByteArray) (r2_3 : Sl) (Q : Value → WP) : funJ jn Try.prog hoardref27_Judge_See_kp Try.f14 [.pointer j0, .agg #[.int .i64 o1_0, .string o1_1, .string o1_2, .int .i64 o1_3], .agg #[.int .i64 r2_0, .bool r2_1, .string r2_2, .slice r2_3.a r2_3.n r2_3.c]] Q = (
  newB [.int .i64 o1_0, .string o1_1, .string o1_2, .int .i64 o1_3] ty_api_Op fun b_1 =>
  newB [.int .i64 r2_0, .bool r2_1, .string r2_2, .slice r2_3.a r2_3.n r2_3.c] ty_api_Result fun b_2 =>
  ld (.int .i64) b_2 0 fun (x_3 : Int) =>
  ite2 (x_3 != (0 : Int)) (
  ld .bool b_2 1 fun (x_4 : Bool) =>
  ite2 (!x_4) (
  ld .str b_2 2 fun (x_5 : ByteArray) =>
  ite2 (sEq x_5 str_empty) (
  ld .slc b_2 3 fun (x_6 : Sl) =>
  Q (.bool ((x_6.n : Int) == (0 : Int)))) (
  Q (.bool false))) (
  Q (.bool false))) (
  ld (.int .i64) b_1 0 fun (x_7 : Int) =>
  ite2 (x_7 == (4 : Int)) (
  ld (.int .i64) b_1 3 fun (x_8 : Int) =>
  hoardref27_Judge_See_j1 jn Q  j0 b_1 0 b_2 0 (decide (x_8 > (0 : Int)))) (
  hoardref27_Judge_See_j1 jn Q  j0 b_1 0 b_2 0 false))) := by kernel_rfl
theorem hoardref27_Judge_See_def (j0 : Option Addr) (o1_0 : Int) (o1_1 : ByteArray) (o1_2 : ByteArray) (o1_3 : Int) (r2_0 : Int) (r2_1 : Bool) (r2_2 : ByteArray) (r2_3 : Sl) (Q : Value → WP) : hoardref27_Judge_See j0 o1_0 o1_1 o1_2 o1_3 r2_0 r2_1 r2_2 r2_3 Q = funJ idJ Try.prog hoardref27_Judge_See_kp Try.f14 [.pointer j0, .agg #[.int .i64 o1_0, .string o1_1, .string o1_2, .int .i64 o1_3], .agg #[.int .i64 r2_0, .bool r2_1, .string r2_2, .slice r2_3.a r2_3.n r2_3.c]] Q := rfl
theorem hoardref27_Judge_See_calls {j0 : Option Addr} {o1_0 : Int} {o1_1 : ByteArray} {o1_2 : ByteArray} {o1_3 : Int} {r2_0 : Int} {r2_1 : Bool} {r2_2 : ByteArray} {r2_3 : Sl} {Q : Value → WP} {w : World} (h : hoardref27_Judge_See j0 o1_0 o1_1 o1_2 o1_3 r2_0 r2_1 r2_2 r2_3 Q w) : Calls Try.prog id_hoardref27_Judge_See #[.pointer j0, .agg #[.int .i64 o1_0, .string o1_1, .string o1_2, .int .i64 o1_3], .agg #[.int .i64 r2_0, .bool r2_1, .string r2_2, .slice r2_3.a r2_3.n r2_3.c]] w fun e w' => ∃ v, e = .returned v ∧ Q v w' :=
  funJ_calls mixed Try.func14 rfl h

-- (*hoard/judge.Judge).Now
def judge_Judge_Now_kp : KP := ⟨[], []⟩
def judge_Judge_Now (j0 : Option Addr) (Q : Value → WP) : WP := funJ idJ Try.prog judge_Judge_Now_kp Try.f15 [.pointer j0] Q
theorem judge_Judge_Now_raw (jn : Jn) (j0 : Option Addr) (Q : Value → WP) : funJ jn Try.prog judge_Judge_Now_kp Try.f15 [.pointer j0] Q = (
  ite2 (Option.isNone j0) (
  Q (.int .i64 (0 : Int))) (
  nilck j0 fun b_1 o_2 =>
  ld (.int .i64) b_1 (o_2 + 3) fun (x_3 : Int) =>
  Q (.int .i64 x_3))) := by kernel_rfl
theorem judge_Judge_Now_def (j0 : Option Addr) (Q : Value → WP) : judge_Judge_Now j0 Q = funJ idJ Try.prog judge_Judge_Now_kp Try.f15 [.pointer j0] Q := rfl
theorem judge_Judge_Now_calls {j0 : Option Addr} {Q : Value → WP} {w : World} (h : judge_Judge_Now j0 Q w) : Calls Try.prog id_judge_Judge_Now #[.pointer j0] w fun e w' => ∃ v, e = .returned v ∧ Q v w' :=
  funJ_calls mixed Try.func15 rfl h

-- (*hoard/judge.Judge).Put
def judge_Judge_Put_kp : KP := ⟨[], [(3, [0, 1, 2, 3, 4, 5, 6, 7, 10, 11, 12, 13])]⟩
def judge_Judge_Put (j0 : Option Addr) (key1 : ByteArray) (Q : Value → WP) : WP := funJ idJ Try.prog judge_Judge_Put_kp Try.f16 [.pointer j0, .string key1] Q
theorem judge_Judge_Put_raw (jn : Jn) (j0 : Option Addr) (key1 : ByteArray) (Q : Value → WP) : funJ jn Try.prog judge_Judge_Put_kp Try.f16 [.pointer j0, .string key1] Q = (
  ite2 (Option.isNone j0) (
  Q (.tuple #[.string str_empty, .bool false])) (
  drawW fun S =>
  nilck j0 fun b_1 o_2 =>
  ldS S .ptr b_1 o_2 fun (x_3 : Option Addr) =>
  nilck j0 fun b_4 o_5 =>
  ld (.int .i64) b_4 (o_5 + 3) fun (x_6 : Int) =>
  keepS true S <|
  call2 .str .bool Try.prog id_table_Table_Get [.pointer x_3, .string key1, .int .i64 x_6] fun (x_7 : ByteArray) (x_8 : Bool) =>
  Q (.tuple #[.string x_7, .bool x_8]))) := by kernel_rfl
theorem judge_Judge_Put_def (j0 : Option Addr) (key1 : ByteArray) (Q : Value → WP) : judge_Judge_Put j0 key1 Q = funJ idJ Try.prog judge_Judge_Put_kp Try.f16 [.pointer j0, .string key1] Q := rfl
theorem judge_Judge_Put_calls {j0 : Option Addr} {key1 : ByteArray} {Q : Value → WP} {w : World} (h : judge_Judge_Put j0 key1 Q w) : Calls Try.prog id_judge_Judge_Put #[.pointer j0, .string key1] w fun e w' => ∃ v, e = .returned v ∧ Q v w' :=
  funJ_calls mixed Try.func16 rfl h

-- (*hoard/hoardref21.Table).Get
def hoardref21_Table_Get_kp : KP := ⟨[(10, [0, 8])], []⟩
def hoardref21_Table_Get_j1 (jn : Jn) (Q : Value → WP)  (t0 : Option Addr) (i8 : Int) : WP := jn 10 (fun ρ => codeI Try.prog hoardref21_Table_Get_kp jn (cAt [true, true, true] (bodyOf Try.f17)) (retK Try.prog Try.f17 Q) noX (retK Try.prog Try.f17 Q) ρ) ((.pointer t0) :: us 7 ((.int .i64 i8) :: us 28 []))
def hoardref21_Table_Get (t0 : Option Addr) (key1 : ByteArray) (now2 : Int) (Q : Value → WP) : WP := funJ idJ Try.prog hoardref21_Table_Get_kp Try.f17 [.pointer t0, .string key1, .int .i64 now2] Q
theorem hoardref21_Table_Get_j1_raw (jn : Jn) (Q : Value → WP)  (t0 : Option Addr) (i8 : Int) : codeI Try.prog hoardref21_Table_Get_kp jn (cAt [true, true, true] (bodyOf Try.f17)) (retK Try.prog Try.f17 Q) noX (retK Try.prog Try.f17 Q) ((.pointer t0) :: us 7 ((.int .i64 i8) :: us 28 [])) = (
  nilck t0 fun b_12 o_13 =>
  ld .slc b_12 o_13 fun (x_14 : Sl) =>
  idx x_14.a x_14.n i8 fun b_15 o_16 =>
  ld .str b_15 ((o_16 + (i8).toNat * 3) + 1) fun (x_17 : ByteArray) =>
  Q (.tuple #[.string x_17, .bool true])) := by kernel_rfl
theorem hoardref21_Table_Get_j1_def (Q : Value → WP)  (t0 : Option Addr) (i8 : Int) : hoardref21_Table_Get_j1 idJ Q  t0 i8 = codeI Try.prog hoardref21_Table_Get_kp idJ (cAt [true, true, true] (bodyOf Try.f17)) (retK Try.prog Try.f17 Q) noX (retK Try.prog Try.f17 Q) ((.pointer t0) :: us 7 ((.int .i64 i8) :: us 28 [])) := by kernel_rfl
theorem hoardref21_Table_Get_raw (jn : Jn) (t0 : Option Addr) (key1 : ByteArray) (now2 : Int) (Q : Value → WP) : funJ jn Try.prog hoardref21_Table_Get_kp Try.f17 [.pointer t0, .string key1, .int .i64 now2] Q = (
  call2 (.int .i64) .bool Try.prog id_hoardref21_Table_at [.pointer t0, .string key1] fun (x_1 : Int) (x_2 : Bool) =>
  ite2 (!x_2) (
  Q (.tuple #[.string str_empty, .bool false])) (
  nilck t0 fun b_3 o_4 =>
  ld .slc b_3 o_4 fun (x_5 : Sl) =>
  idx x_5.a x_5.n x_1 fun b_6 o_7 =>
  ld .str b_6 (o_7 + (x_1).toNat * 3) fun (x_8 : ByteArray) =>
  ld .str b_6 ((o_7 + (x_1).toNat * 3) + 1) fun (x_9 : ByteArray) =>
  ld (.int .i64) b_6 (((o_7 + (x_1).toNat * 3) + 1) + 1) fun (x_10 : Int) =>
  call1 .bool Try.prog id_hoardref21_over [.agg #[.string x_8, .string x_9, .int .i64 x_10], .int .i64 now2] fun (x_11 : Bool) =>
  ite2 x_11 (
  Q (.tuple #[.string str_empty, .bool false])) (
  hoardref21_Table_Get_j1 jn Q  t0 x_1))) := by kernel_rfl
theorem hoardref21_Table_Get_def (t0 : Option Addr) (key1 : ByteArray) (now2 : Int) (Q : Value → WP) : hoardref21_Table_Get t0 key1 now2 Q = funJ idJ Try.prog hoardref21_Table_Get_kp Try.f17 [.pointer t0, .string key1, .int .i64 now2] Q := rfl
theorem hoardref21_Table_Get_calls {t0 : Option Addr} {key1 : ByteArray} {now2 : Int} {Q : Value → WP} {w : World} (h : hoardref21_Table_Get t0 key1 now2 Q w) : Calls Try.prog id_hoardref21_Table_Get #[.pointer t0, .string key1, .int .i64 now2] w fun e w' => ∃ v, e = .returned v ∧ Q v w' :=
  funJ_calls mixed Try.func17 rfl h

-- hoard/table.New
def table_New_kp : KP := ⟨[], []⟩
def table_New  (Q : Value → WP) : WP := funJ idJ Try.prog table_New_kp Try.f18 [] Q
theorem table_New_raw (jn : Jn)  (Q : Value → WP) : funJ jn Try.prog table_New_kp Try.f18 [] Q = (
  call1 .ptr Try.prog id_index_New_table_value [.int .u64 (0 : Int)] fun (x_1 : Option Addr) =>
  newB [.pointer x_1] ty_table_Table fun b_2 =>
  Q (.pointer (some ⟨b_2, 0, none⟩))) := by kernel_rfl
theorem table_New_def  (Q : Value → WP) : table_New  Q = funJ idJ Try.prog table_New_kp Try.f18 [] Q := rfl
theorem table_New_calls {Q : Value → WP} {w : World} (h : table_New Q w) : Calls Try.prog id_table_New #[] w fun e w' => ∃ v, e = .returned v ∧ Q v w' :=
  funJ_calls mixed Try.func18 rfl h

-- (*hoard/judge.Judge).tells
def judge_Judge_tells_kp : KP := ⟨[], [(1, [0, 1, 2, 3, 4, 5, 6, 7, 8, 11, 12, 13, 14, 15])]⟩
def judge_Judge_tells (j0 : Option Addr) (o1_0 : Int) (o1_1 : ByteArray) (o1_2 : ByteArray) (o1_3 : Int) (r2_0 : Int) (r2_1 : Bool) (r2_2 : ByteArray) (r2_3 : Sl) (Q : Value → WP) : WP := funJ idJ Try.prog judge_Judge_tells_kp Try.f19 [.pointer j0, .agg #[.int .i64 o1_0, .string o1_1, .string o1_2, .int .i64 o1_3], .agg #[.int .i64 r2_0, .bool r2_1, .string r2_2, .slice r2_3.a r2_3.n r2_3.c]] Q
theorem judge_Judge_tells_raw (jn : Jn) (j0 : Option Addr) (o1_0 : Int) (o1_1 : ByteArray) (o1_2 : ByteArray) (o1_3 : Int) (r2_0 : Int) (r2_1 : Bool) (r2_2 : ByteArray) (r2_3 : Sl) (Q : Value → WP) : funJ jn Try.prog judge_Judge_tells_kp Try.f19 [.pointer j0, .agg #[.int .i64 o1_0, .string o1_1, .string o1_2, .int .i64 o1_3], .agg #[.int .i64 r2_0, .bool r2_1, .string r2_2, .slice r2_3.a r2_3.n r2_3.c]] Q = (
  newB [.int .i64 o1_0, .string o1_1, .string o1_2, .int .i64 o1_3] ty_api_Op fun b_1 =>
  newB [.int .i64 r2_0, .bool r2_1, .string r2_2, .slice r2_3.a r2_3.n r2_3.c] ty_api_Result fun b_2 =>
  drawW fun S =>
  nilck j0 fun b_3 o_4 =>
  ldS S .ptr b_3 o_4 fun (x_5 : Option Addr) =>
  ldS S .str b_1 1 fun (x_6 : ByteArray) =>
  nilck j0 fun b_7 o_8 =>
  ld (.int .i64) b_7 (o_8 + 3) fun (x_9 : Int) =>
  keepS true S <|
  call2 .str .bool Try.prog id_table_Table_Get [.pointer x_5, .string x_6, .int .i64 x_9] fun (x_10 : ByteArray) (x_11 : Bool) =>
  ld (.int .i64) b_1 0 fun (x_12 : Int) =>
  ite2 (x_12 == (1 : Int)) (
  ld .bool b_2 1 fun (x_13 : Bool) =>
  ite2 (x_13 == x_11) (
  ld .str b_2 2 fun (x_14 : ByteArray) =>
  Q (.bool (sEq x_14 x_10))) (
  Q (.bool false))) (
  ite2 (x_12 == (3 : Int)) (
  ld .bool b_2 1 fun (x_15 : Bool) =>
  Q (.bool (x_15 == x_11))) (
  Q (.bool true)))) := by kernel_rfl
theorem judge_Judge_tells_def (j0 : Option Addr) (o1_0 : Int) (o1_1 : ByteArray) (o1_2 : ByteArray) (o1_3 : Int) (r2_0 : Int) (r2_1 : Bool) (r2_2 : ByteArray) (r2_3 : Sl) (Q : Value → WP) : judge_Judge_tells j0 o1_0 o1_1 o1_2 o1_3 r2_0 r2_1 r2_2 r2_3 Q = funJ idJ Try.prog judge_Judge_tells_kp Try.f19 [.pointer j0, .agg #[.int .i64 o1_0, .string o1_1, .string o1_2, .int .i64 o1_3], .agg #[.int .i64 r2_0, .bool r2_1, .string r2_2, .slice r2_3.a r2_3.n r2_3.c]] Q := rfl
theorem judge_Judge_tells_calls {j0 : Option Addr} {o1_0 : Int} {o1_1 : ByteArray} {o1_2 : ByteArray} {o1_3 : Int} {r2_0 : Int} {r2_1 : Bool} {r2_2 : ByteArray} {r2_3 : Sl} {Q : Value → WP} {w : World} (h : judge_Judge_tells j0 o1_0 o1_1 o1_2 o1_3 r2_0 r2_1 r2_2 r2_3 Q w) : Calls Try.prog id_judge_Judge_tells #[.pointer j0, .agg #[.int .i64 o1_0, .string o1_1, .string o1_2, .int .i64 o1_3], .agg #[.int .i64 r2_0, .bool r2_1, .string r2_2, .slice r2_3.a r2_3.n r2_3.c]] w fun e w' => ∃ v, e = .returned v ∧ Q v w' :=
  funJ_calls mixed Try.func19 rfl h

-- (*hoard/judge.Judge).goes
def judge_Judge_goes_kp : KP := ⟨[(9, [0, 1, 7, 13, 14, 15]), (24, [0, 1, 7, 9, 11, 13, 14, 15, 32, 33]), (30, [0, 1, 7, 9, 11, 13, 14, 15]), (38, [])], [(5, [0, 1, 2, 3, 4, 5, 6, 7, 10, 11, 12, 13, 14])]⟩
def judge_Judge_goes_j3 (jn : Jn) (Q : Value → WP) (m1 : Nat) (j0 : Option Addr) (kind1 : Int) (seen7 : Option Nat) (key9 : ByteArray) (alive11 : Bool) (t13 : Sl) (t14 : Int) (t15 : Int) : WP := jn 30 (fun ρ => codeI Try.prog judge_Judge_goes_kp jn (cAt [true, true, false, true, false, false, true, true, false, false, true, true, true] (bodyOf Try.f20)) (seqK Try.prog judge_Judge_goes_kp jn (cAt [true, true, false, true, false, false, true, true, true] (bodyOf Try.f20)) (lopK Try.prog judge_Judge_goes_kp jn (cAt [true, true, false, true, false, false] (bodyOf Try.f20)) (blkX 0 (seqK Try.prog judge_Judge_goes_kp jn (cAt [true, true, true] (bodyOf Try.f20)) (retK Try.prog Try.f20 Q) noX (retK Try.prog Try.f20 Q)) noX) (retK Try.prog Try.f20 Q) m1) (blkX 0 (seqK Try.prog judge_Judge_goes_kp jn (cAt [true, true, true] (bodyOf Try.f20)) (retK Try.prog Try.f20 Q) noX (retK Try.prog Try.f20 Q)) noX) (retK Try.prog Try.f20 Q)) (blkX 1 (seqK Try.prog judge_Judge_goes_kp jn (cAt [true, true, false, true, false, false, true, true, true] (bodyOf Try.f20)) (lopK Try.prog judge_Judge_goes_kp jn (cAt [true, true, false, true, false, false] (bodyOf Try.f20)) (blkX 0 (seqK Try.prog judge_Judge_goes_kp jn (cAt [true, true, true] (bodyOf Try.f20)) (retK Try.prog Try.f20 Q) noX (retK Try.prog Try.f20 Q)) noX) (retK Try.prog Try.f20 Q) m1) (blkX 0 (seqK Try.prog judge_Judge_goes_kp jn (cAt [true, true, true] (bodyOf Try.f20)) (retK Try.prog Try.f20 Q) noX (retK Try.prog Try.f20 Q)) noX) (retK Try.prog Try.f20 Q)) (blkX 0 (seqK Try.prog judge_Judge_goes_kp jn (cAt [true, true, true] (bodyOf Try.f20)) (retK Try.prog Try.f20 Q) noX (retK Try.prog Try.f20 Q)) noX)) (retK Try.prog Try.f20 Q) ρ) ((.pointer j0) :: (.int .i64 kind1) :: us 5 ((.map seen7) :: us 1 ((.string key9) :: us 1 ((.bool alive11) :: us 1 ((.slice t13.a t13.n t13.c) :: (.int .i64 t14) :: (.int .i64 t15) :: us 42 [])))))
def judge_Judge_goes_j2 (jn : Jn) (Q : Value → WP) (m1 : Nat) (j0 : Option Addr) (kind1 : Int) (seen7 : Option Nat) (key9 : ByteArray) (alive11 : Bool) (t13 : Sl) (t14 : Int) (t15 : Int) (t32 : Int) (t33 : Bool) : WP := jn 24 (fun ρ => codeI Try.prog judge_Judge_goes_kp jn (cAt [true, true, false, true, false, false, true, true, false, false, true, true, false, true, false, true] (bodyOf Try.f20)) (seqK Try.prog judge_Judge_goes_kp jn (cAt [true, true, false, true, false, false, true, true, false, false, true, true, true] (bodyOf Try.f20)) (seqK Try.prog judge_Judge_goes_kp jn (cAt [true, true, false, true, false, false, true, true, true] (bodyOf Try.f20)) (lopK Try.prog judge_Judge_goes_kp jn (cAt [true, true, false, true, false, false] (bodyOf Try.f20)) (blkX 0 (seqK Try.prog judge_Judge_goes_kp jn (cAt [true, true, true] (bodyOf Try.f20)) (retK Try.prog Try.f20 Q) noX (retK Try.prog Try.f20 Q)) noX) (retK Try.prog Try.f20 Q) m1) (blkX 0 (seqK Try.prog judge_Judge_goes_kp jn (cAt [true, true, true] (bodyOf Try.f20)) (retK Try.prog Try.f20 Q) noX (retK Try.prog Try.f20 Q)) noX) (retK Try.prog Try.f20 Q)) (blkX 1 (seqK Try.prog judge_Judge_goes_kp jn (cAt [true, true, false, true, false, false, true, true, true] (bodyOf Try.f20)) (lopK Try.prog judge_Judge_goes_kp jn (cAt [true, true, false, true, false, false] (bodyOf Try.f20)) (blkX 0 (seqK Try.prog judge_Judge_goes_kp jn (cAt [true, true, true] (bodyOf Try.f20)) (retK Try.prog Try.f20 Q) noX (retK Try.prog Try.f20 Q)) noX) (retK Try.prog Try.f20 Q) m1) (blkX 0 (seqK Try.prog judge_Judge_goes_kp jn (cAt [true, true, true] (bodyOf Try.f20)) (retK Try.prog Try.f20 Q) noX (retK Try.prog Try.f20 Q)) noX) (retK Try.prog Try.f20 Q)) (blkX 0 (seqK Try.prog judge_Judge_goes_kp jn (cAt [true, true, true] (bodyOf Try.f20)) (retK Try.prog Try.f20 Q) noX (retK Try.prog Try.f20 Q)) noX)) (retK Try.prog Try.f20 Q)) (blkX 2 (seqK Try.prog judge_Judge_goes_kp jn (cAt [true, true, false, true, false, false, true, true, false, false, true, true, true] (bodyOf Try.f20)) (seqK Try.prog judge_Judge_goes_kp jn (cAt [true, true, false, true, false, false, true, true, true] (bodyOf Try.f20)) (lopK Try.prog judge_Judge_goes_kp jn (cAt [true, true, false, true, false, false] (bodyOf Try.f20)) (blkX 0 (seqK Try.prog judge_Judge_goes_kp jn (cAt [true, true, true] (bodyOf Try.f20)) (retK Try.prog Try.f20 Q) noX (retK Try.prog Try.f20 Q)) noX) (retK Try.prog Try.f20 Q) m1) (blkX 0 (seqK Try.prog judge_Judge_goes_kp jn (cAt [true, true, true] (bodyOf Try.f20)) (retK Try.prog Try.f20 Q) noX (retK Try.prog Try.f20 Q)) noX) (retK Try.prog Try.f20 Q)) (blkX 1 (seqK Try.prog judge_Judge_goes_kp jn (cAt [true, true, false, true, false, false, true, true, true] (bodyOf Try.f20)) (lopK Try.prog judge_Judge_goes_kp jn (cAt [true, true, false, true, false, false] (bodyOf Try.f20)) (blkX 0 (seqK Try.prog judge_Judge_goes_kp jn (cAt [true, true, true] (bodyOf Try.f20)) (retK Try.prog Try.f20 Q) noX (retK Try.prog Try.f20 Q)) noX) (retK Try.prog Try.f20 Q) m1) (blkX 0 (seqK Try.prog judge_Judge_goes_kp jn (cAt [true, true, true] (bodyOf Try.f20)) (retK Try.prog Try.f20 Q) noX (retK Try.prog Try.f20 Q)) noX) (retK Try.prog Try.f20 Q)) (blkX 0 (seqK Try.prog judge_Judge_goes_kp jn (cAt [true, true, true] (bodyOf Try.f20)) (retK Try.prog Try.f20 Q) noX (retK Try.prog Try.f20 Q)) noX)) (retK Try.prog Try.f20 Q)) (blkX 1 (seqK Try.prog judge_Judge_goes_kp jn (cAt [true, true, false, true, false, false, true, true, true] (bodyOf Try.f20)) (lopK Try.prog judge_Judge_goes_kp jn (cAt [true, true, false, true, false, false] (bodyOf Try.f20)) (blkX 0 (seqK Try.prog judge_Judge_goes_kp jn (cAt [true, true, true] (bodyOf Try.f20)) (retK Try.prog Try.f20 Q) noX (retK Try.prog Try.f20 Q)) noX) (retK Try.prog Try.f20 Q) m1) (blkX 0 (seqK Try.prog judge_Judge_goes_kp jn (cAt [true, true, true] (bodyOf Try.f20)) (retK Try.prog Try.f20 Q) noX (retK Try.prog Try.f20 Q)) noX) (retK Try.prog Try.f20 Q)) (blkX 0 (seqK Try.prog judge_Judge_goes_kp jn (cAt [true, true, true] (bodyOf Try.f20)) (retK Try.prog Try.f20 Q) noX (retK Try.prog Try.f20 Q)) noX))) (retK Try.prog Try.f20 Q) ρ) ((.pointer j0) :: (.int .i64 kind1) :: us 5 ((.map seen7) :: us 1 ((.string key9) :: us 1 ((.bool alive11) :: us 1 ((.slice t13.a t13.n t13.c) :: (.int .i64 t14) :: (.int .i64 t15) :: us 16 ((.int .i64 t32) :: (.bool t33) :: us 24 []))))))
def judge_Judge_goes_j4 (jn : Jn) (Q : Value → WP)   : WP := jn 38 (fun ρ => codeI Try.prog judge_Judge_goes_kp jn (cAt [true, true, true] (bodyOf Try.f20)) (retK Try.prog Try.f20 Q) noX (retK Try.prog Try.f20 Q) ρ) (us 58 [])
def judge_Judge_goes_l1 (jn : Jn) (Q : Value → WP)  (m1 : Nat) (j0 : Option Addr) (kind1 : Int) (seen7 : Option Nat) (t13 : Sl) (t14 : Int) (t15 : Int) : WP := lop Try.prog judge_Judge_goes_kp jn (cAt [true, true, false, true, false, false] (bodyOf Try.f20)) (blkX 0 (seqK Try.prog judge_Judge_goes_kp jn (cAt [true, true, true] (bodyOf Try.f20)) (retK Try.prog Try.f20 Q) noX (retK Try.prog Try.f20 Q)) noX) (retK Try.prog Try.f20 Q) m1 ((.pointer j0) :: (.int .i64 kind1) :: us 5 ((.map seen7) :: us 5 ((.slice t13.a t13.n t13.c) :: (.int .i64 t14) :: (.int .i64 t15) :: us 42 [])))
def judge_Judge_goes (j0 : Option Addr) (kind1 : Int) (gone2 : Sl) (Q : Value → WP) : WP := funJ idJ Try.prog judge_Judge_goes_kp Try.f20 [.pointer j0, .int .i64 kind1, .slice gone2.a gone2.n gone2.c] Q
theorem judge_Judge_goes_j3_raw (jn : Jn) (Q : Value → WP) (m1 : Nat) (j0 : Option Addr) (kind1 : Int) (seen7 : Option Nat) (key9 : ByteArray) (alive11 : Bool) (t13 : Sl) (t14 : Int) (t15 : Int) : codeI Try.prog judge_Judge_goes_kp jn (cAt [true, true, false, true, false, false, true, true, false, false, true, true, true] (bodyOf Try.f20)) (seqK Try.prog judge_Judge_goes_kp jn (cAt [true, true, false, true, false, false, true, true, true] (bodyOf Try.f20)) (lopK Try.prog judge_Judge_goes_kp jn (cAt [true, true, false, true, false, false] (bodyOf Try.f20)) (blkX 0 (seqK Try.prog judge_Judge_goes_kp jn (cAt [true, true, true] (bodyOf Try.f20)) (retK Try.prog Try.f20 Q) noX (retK Try.prog Try.f20 Q)) noX) (retK Try.prog Try.f20 Q) m1) (blkX 0 (seqK Try.prog judge_Judge_goes_kp jn (cAt [true, true, true] (bodyOf Try.f20)) (retK Try.prog Try.f20 Q) noX (retK Try.prog Try.f20 Q)) noX) (retK Try.prog Try.f20 Q)) (blkX 1 (seqK Try.prog judge_Judge_goes_kp jn (cAt [true, true, false, true, false, false, true, true, true] (bodyOf Try.f20)) (lopK Try.prog judge_Judge_goes_kp jn (cAt [true, true, false, true, false, false] (bodyOf Try.f20)) (blkX 0 (seqK Try.prog judge_Judge_goes_kp jn (cAt [true, true, true] (bodyOf Try.f20)) (retK Try.prog Try.f20 Q) noX (retK Try.prog Try.f20 Q)) noX) (retK Try.prog Try.f20 Q) m1) (blkX 0 (seqK Try.prog judge_Judge_goes_kp jn (cAt [true, true, true] (bodyOf Try.f20)) (retK Try.prog Try.f20 Q) noX (retK Try.prog Try.f20 Q)) noX) (retK Try.prog Try.f20 Q)) (blkX 0 (seqK Try.prog judge_Judge_goes_kp jn (cAt [true, true, true] (bodyOf Try.f20)) (retK Try.prog Try.f20 Q) noX (retK Try.prog Try.f20 Q)) noX)) (retK Try.prog Try.f20 Q) ((.pointer j0) :: (.int .i64 kind1) :: us 5 ((.map seen7) :: us 1 ((.string key9) :: us 1 ((.bool alive11) :: us 1 ((.slice t13.a t13.n t13.c) :: (.int .i64 t14) :: (.int .i64 t15) :: us 42 []))))) = (
  ite2 alive11 (
  Q (.bool false)) (
  mLook Try.prog ty_map_string_bool (.map seen7) (.string key9) .bool fun (x_13 : Bool) =>
  ite2 x_13 (
  Q (.bool false)) (
  nilck j0 fun b_14 o_15 =>
  ld .ptr b_14 o_15 fun (x_16 : Option Addr) =>
  call1 .bool Try.prog id_table_Table_Has [.pointer x_16, .string key9] fun (x_17 : Bool) =>
  ite2 (!x_17) (
  Q (.bool false)) (
  mUp Try.prog ty_map_string_bool (.map seen7) (.string key9) (.bool true) <|
  judge_Judge_goes_l1 jn Q  m1 j0 kind1 seen7 t13 t14 (IntKind.wrap .i64 (t15 + (1 : Int))))))) := by kernel_rfl
theorem judge_Judge_goes_j3_def (Q : Value → WP) (m1 : Nat) (j0 : Option Addr) (kind1 : Int) (seen7 : Option Nat) (key9 : ByteArray) (alive11 : Bool) (t13 : Sl) (t14 : Int) (t15 : Int) : judge_Judge_goes_j3 idJ Q m1 j0 kind1 seen7 key9 alive11 t13 t14 t15 = codeI Try.prog judge_Judge_goes_kp idJ (cAt [true, true, false, true, false, false, true, true, false, false, true, true, true] (bodyOf Try.f20)) (seqK Try.prog judge_Judge_goes_kp idJ (cAt [true, true, false, true, false, false, true, true, true] (bodyOf Try.f20)) (lopK Try.prog judge_Judge_goes_kp idJ (cAt [true, true, false, true, false, false] (bodyOf Try.f20)) (blkX 0 (seqK Try.prog judge_Judge_goes_kp idJ (cAt [true, true, true] (bodyOf Try.f20)) (retK Try.prog Try.f20 Q) noX (retK Try.prog Try.f20 Q)) noX) (retK Try.prog Try.f20 Q) m1) (blkX 0 (seqK Try.prog judge_Judge_goes_kp idJ (cAt [true, true, true] (bodyOf Try.f20)) (retK Try.prog Try.f20 Q) noX (retK Try.prog Try.f20 Q)) noX) (retK Try.prog Try.f20 Q)) (blkX 1 (seqK Try.prog judge_Judge_goes_kp idJ (cAt [true, true, false, true, false, false, true, true, true] (bodyOf Try.f20)) (lopK Try.prog judge_Judge_goes_kp idJ (cAt [true, true, false, true, false, false] (bodyOf Try.f20)) (blkX 0 (seqK Try.prog judge_Judge_goes_kp idJ (cAt [true, true, true] (bodyOf Try.f20)) (retK Try.prog Try.f20 Q) noX (retK Try.prog Try.f20 Q)) noX) (retK Try.prog Try.f20 Q) m1) (blkX 0 (seqK Try.prog judge_Judge_goes_kp idJ (cAt [true, true, true] (bodyOf Try.f20)) (retK Try.prog Try.f20 Q) noX (retK Try.prog Try.f20 Q)) noX) (retK Try.prog Try.f20 Q)) (blkX 0 (seqK Try.prog judge_Judge_goes_kp idJ (cAt [true, true, true] (bodyOf Try.f20)) (retK Try.prog Try.f20 Q) noX (retK Try.prog Try.f20 Q)) noX)) (retK Try.prog Try.f20 Q) ((.pointer j0) :: (.int .i64 kind1) :: us 5 ((.map seen7) :: us 1 ((.string key9) :: us 1 ((.bool alive11) :: us 1 ((.slice t13.a t13.n t13.c) :: (.int .i64 t14) :: (.int .i64 t15) :: us 42 []))))) := by kernel_rfl
theorem judge_Judge_goes_j2_raw (jn : Jn) (Q : Value → WP) (m1 : Nat) (j0 : Option Addr) (kind1 : Int) (seen7 : Option Nat) (key9 : ByteArray) (alive11 : Bool) (t13 : Sl) (t14 : Int) (t15 : Int) (t32 : Int) (t33 : Bool) : codeI Try.prog judge_Judge_goes_kp jn (cAt [true, true, false, true, false, false, true, true, false, false, true, true, false, true, false, true] (bodyOf Try.f20)) (seqK Try.prog judge_Judge_goes_kp jn (cAt [true, true, false, true, false, false, true, true, false, false, true, true, true] (bodyOf Try.f20)) (seqK Try.prog judge_Judge_goes_kp jn (cAt [true, true, false, true, false, false, true, true, true] (bodyOf Try.f20)) (lopK Try.prog judge_Judge_goes_kp jn (cAt [true, true, false, true, false, false] (bodyOf Try.f20)) (blkX 0 (seqK Try.prog judge_Judge_goes_kp jn (cAt [true, true, true] (bodyOf Try.f20)) (retK Try.prog Try.f20 Q) noX (retK Try.prog Try.f20 Q)) noX) (retK Try.prog Try.f20 Q) m1) (blkX 0 (seqK Try.prog judge_Judge_goes_kp jn (cAt [true, true, true] (bodyOf Try.f20)) (retK Try.prog Try.f20 Q) noX (retK Try.prog Try.f20 Q)) noX) (retK Try.prog Try.f20 Q)) (blkX 1 (seqK Try.prog judge_Judge_goes_kp jn (cAt [true, true, false, true, false, false, true, true, true] (bodyOf Try.f20)) (lopK Try.prog judge_Judge_goes_kp jn (cAt [true, true, false, true, false, false] (bodyOf Try.f20)) (blkX 0 (seqK Try.prog judge_Judge_goes_kp jn (cAt [true, true, true] (bodyOf Try.f20)) (retK Try.prog Try.f20 Q) noX (retK Try.prog Try.f20 Q)) noX) (retK Try.prog Try.f20 Q) m1) (blkX 0 (seqK Try.prog judge_Judge_goes_kp jn (cAt [true, true, true] (bodyOf Try.f20)) (retK Try.prog Try.f20 Q) noX (retK Try.prog Try.f20 Q)) noX) (retK Try.prog Try.f20 Q)) (blkX 0 (seqK Try.prog judge_Judge_goes_kp jn (cAt [true, true, true] (bodyOf Try.f20)) (retK Try.prog Try.f20 Q) noX (retK Try.prog Try.f20 Q)) noX)) (retK Try.prog Try.f20 Q)) (blkX 2 (seqK Try.prog judge_Judge_goes_kp jn (cAt [true, true, false, true, false, false, true, true, false, false, true, true, true] (bodyOf Try.f20)) (seqK Try.prog judge_Judge_goes_kp jn (cAt [true, true, false, true, false, false, true, true, true] (bodyOf Try.f20)) (lopK Try.prog judge_Judge_goes_kp jn (cAt [true, true, false, true, false, false] (bodyOf Try.f20)) (blkX 0 (seqK Try.prog judge_Judge_goes_kp jn (cAt [true, true, true] (bodyOf Try.f20)) (retK Try.prog Try.f20 Q) noX (retK Try.prog Try.f20 Q)) noX) (retK Try.prog Try.f20 Q) m1) (blkX 0 (seqK Try.prog judge_Judge_goes_kp jn (cAt [true, true, true] (bodyOf Try.f20)) (retK Try.prog Try.f20 Q) noX (retK Try.prog Try.f20 Q)) noX) (retK Try.prog Try.f20 Q)) (blkX 1 (seqK Try.prog judge_Judge_goes_kp jn (cAt [true, true, false, true, false, false, true, true, true] (bodyOf Try.f20)) (lopK Try.prog judge_Judge_goes_kp jn (cAt [true, true, false, true, false, false] (bodyOf Try.f20)) (blkX 0 (seqK Try.prog judge_Judge_goes_kp jn (cAt [true, true, true] (bodyOf Try.f20)) (retK Try.prog Try.f20 Q) noX (retK Try.prog Try.f20 Q)) noX) (retK Try.prog Try.f20 Q) m1) (blkX 0 (seqK Try.prog judge_Judge_goes_kp jn (cAt [true, true, true] (bodyOf Try.f20)) (retK Try.prog Try.f20 Q) noX (retK Try.prog Try.f20 Q)) noX) (retK Try.prog Try.f20 Q)) (blkX 0 (seqK Try.prog judge_Judge_goes_kp jn (cAt [true, true, true] (bodyOf Try.f20)) (retK Try.prog Try.f20 Q) noX (retK Try.prog Try.f20 Q)) noX)) (retK Try.prog Try.f20 Q)) (blkX 1 (seqK Try.prog judge_Judge_goes_kp jn (cAt [true, true, false, true, false, false, true, true, true] (bodyOf Try.f20)) (lopK Try.prog judge_Judge_goes_kp jn (cAt [true, true, false, true, false, false] (bodyOf Try.f20)) (blkX 0 (seqK Try.prog judge_Judge_goes_kp jn (cAt [true, true, true] (bodyOf Try.f20)) (retK Try.prog Try.f20 Q) noX (retK Try.prog Try.f20 Q)) noX) (retK Try.prog Try.f20 Q) m1) (blkX 0 (seqK Try.prog judge_Judge_goes_kp jn (cAt [true, true, true] (bodyOf Try.f20)) (retK Try.prog Try.f20 Q) noX (retK Try.prog Try.f20 Q)) noX) (retK Try.prog Try.f20 Q)) (blkX 0 (seqK Try.prog judge_Judge_goes_kp jn (cAt [true, true, true] (bodyOf Try.f20)) (retK Try.prog Try.f20 Q) noX (retK Try.prog Try.f20 Q)) noX))) (retK Try.prog Try.f20 Q) ((.pointer j0) :: (.int .i64 kind1) :: us 5 ((.map seen7) :: us 1 ((.string key9) :: us 1 ((.bool alive11) :: us 1 ((.slice t13.a t13.n t13.c) :: (.int .i64 t14) :: (.int .i64 t15) :: us 16 ((.int .i64 t32) :: (.bool t33) :: us 24 [])))))) = (
  ite2 t33 (
  judge_Judge_goes_j3 jn Q m1 j0 kind1 seen7 key9 alive11 t13 t14 t15) (
  ite2 (t32 == (2 : Int)) (
  ite2 (t32 == (2 : Int)) (
  judge_Judge_goes_j3 jn Q m1 j0 kind1 seen7 key9 false t13 t14 t15) (
  Q (.bool false))) (
  ite2 (t32 == (9 : Int)) (
  judge_Judge_goes_j3 jn Q m1 j0 kind1 seen7 key9 false t13 t14 t15) (
  Q (.bool false))))) := by kernel_rfl
theorem judge_Judge_goes_j2_def (Q : Value → WP) (m1 : Nat) (j0 : Option Addr) (kind1 : Int) (seen7 : Option Nat) (key9 : ByteArray) (alive11 : Bool) (t13 : Sl) (t14 : Int) (t15 : Int) (t32 : Int) (t33 : Bool) : judge_Judge_goes_j2 idJ Q m1 j0 kind1 seen7 key9 alive11 t13 t14 t15 t32 t33 = codeI Try.prog judge_Judge_goes_kp idJ (cAt [true, true, false, true, false, false, true, true, false, false, true, true, false, true, false, true] (bodyOf Try.f20)) (seqK Try.prog judge_Judge_goes_kp idJ (cAt [true, true, false, true, false, false, true, true, false, false, true, true, true] (bodyOf Try.f20)) (seqK Try.prog judge_Judge_goes_kp idJ (cAt [true, true, false, true, false, false, true, true, true] (bodyOf Try.f20)) (lopK Try.prog judge_Judge_goes_kp idJ (cAt [true, true, false, true, false, false] (bodyOf Try.f20)) (blkX 0 (seqK Try.prog judge_Judge_goes_kp idJ (cAt [true, true, true] (bodyOf Try.f20)) (retK Try.prog Try.f20 Q) noX (retK Try.prog Try.f20 Q)) noX) (retK Try.prog Try.f20 Q) m1) (blkX 0 (seqK Try.prog judge_Judge_goes_kp idJ (cAt [true, true, true] (bodyOf Try.f20)) (retK Try.prog Try.f20 Q) noX (retK Try.prog Try.f20 Q)) noX) (retK Try.prog Try.f20 Q)) (blkX 1 (seqK Try.prog judge_Judge_goes_kp idJ (cAt [true, true, false, true, false, false, true, true, true] (bodyOf Try.f20)) (lopK Try.prog judge_Judge_goes_kp idJ (cAt [true, true, false, true, false, false] (bodyOf Try.f20)) (blkX 0 (seqK Try.prog judge_Judge_goes_kp idJ (cAt [true, true, true] (bodyOf Try.f20)) (retK Try.prog Try.f20 Q) noX (retK Try.prog Try.f20 Q)) noX) (retK Try.prog Try.f20 Q) m1) (blkX 0 (seqK Try.prog judge_Judge_goes_kp idJ (cAt [true, true, true] (bodyOf Try.f20)) (retK Try.prog Try.f20 Q) noX (retK Try.prog Try.f20 Q)) noX) (retK Try.prog Try.f20 Q)) (blkX 0 (seqK Try.prog judge_Judge_goes_kp idJ (cAt [true, true, true] (bodyOf Try.f20)) (retK Try.prog Try.f20 Q) noX (retK Try.prog Try.f20 Q)) noX)) (retK Try.prog Try.f20 Q)) (blkX 2 (seqK Try.prog judge_Judge_goes_kp idJ (cAt [true, true, false, true, false, false, true, true, false, false, true, true, true] (bodyOf Try.f20)) (seqK Try.prog judge_Judge_goes_kp idJ (cAt [true, true, false, true, false, false, true, true, true] (bodyOf Try.f20)) (lopK Try.prog judge_Judge_goes_kp idJ (cAt [true, true, false, true, false, false] (bodyOf Try.f20)) (blkX 0 (seqK Try.prog judge_Judge_goes_kp idJ (cAt [true, true, true] (bodyOf Try.f20)) (retK Try.prog Try.f20 Q) noX (retK Try.prog Try.f20 Q)) noX) (retK Try.prog Try.f20 Q) m1) (blkX 0 (seqK Try.prog judge_Judge_goes_kp idJ (cAt [true, true, true] (bodyOf Try.f20)) (retK Try.prog Try.f20 Q) noX (retK Try.prog Try.f20 Q)) noX) (retK Try.prog Try.f20 Q)) (blkX 1 (seqK Try.prog judge_Judge_goes_kp idJ (cAt [true, true, false, true, false, false, true, true, true] (bodyOf Try.f20)) (lopK Try.prog judge_Judge_goes_kp idJ (cAt [true, true, false, true, false, false] (bodyOf Try.f20)) (blkX 0 (seqK Try.prog judge_Judge_goes_kp idJ (cAt [true, true, true] (bodyOf Try.f20)) (retK Try.prog Try.f20 Q) noX (retK Try.prog Try.f20 Q)) noX) (retK Try.prog Try.f20 Q) m1) (blkX 0 (seqK Try.prog judge_Judge_goes_kp idJ (cAt [true, true, true] (bodyOf Try.f20)) (retK Try.prog Try.f20 Q) noX (retK Try.prog Try.f20 Q)) noX) (retK Try.prog Try.f20 Q)) (blkX 0 (seqK Try.prog judge_Judge_goes_kp idJ (cAt [true, true, true] (bodyOf Try.f20)) (retK Try.prog Try.f20 Q) noX (retK Try.prog Try.f20 Q)) noX)) (retK Try.prog Try.f20 Q)) (blkX 1 (seqK Try.prog judge_Judge_goes_kp idJ (cAt [true, true, false, true, false, false, true, true, true] (bodyOf Try.f20)) (lopK Try.prog judge_Judge_goes_kp idJ (cAt [true, true, false, true, false, false] (bodyOf Try.f20)) (blkX 0 (seqK Try.prog judge_Judge_goes_kp idJ (cAt [true, true, true] (bodyOf Try.f20)) (retK Try.prog Try.f20 Q) noX (retK Try.prog Try.f20 Q)) noX) (retK Try.prog Try.f20 Q) m1) (blkX 0 (seqK Try.prog judge_Judge_goes_kp idJ (cAt [true, true, true] (bodyOf Try.f20)) (retK Try.prog Try.f20 Q) noX (retK Try.prog Try.f20 Q)) noX) (retK Try.prog Try.f20 Q)) (blkX 0 (seqK Try.prog judge_Judge_goes_kp idJ (cAt [true, true, true] (bodyOf Try.f20)) (retK Try.prog Try.f20 Q) noX (retK Try.prog Try.f20 Q)) noX))) (retK Try.prog Try.f20 Q) ((.pointer j0) :: (.int .i64 kind1) :: us 5 ((.map seen7) :: us 1 ((.string key9) :: us 1 ((.bool alive11) :: us 1 ((.slice t13.a t13.n t13.c) :: (.int .i64 t14) :: (.int .i64 t15) :: us 16 ((.int .i64 t32) :: (.bool t33) :: us 24 [])))))) := by kernel_rfl
theorem judge_Judge_goes_j4_raw (jn : Jn) (Q : Value → WP)   : codeI Try.prog judge_Judge_goes_kp jn (cAt [true, true, true] (bodyOf Try.f20)) (retK Try.prog Try.f20 Q) noX (retK Try.prog Try.f20 Q) (us 58 []) = (
  Q (.bool true)) := by kernel_rfl
theorem judge_Judge_goes_j4_def (Q : Value → WP)   : judge_Judge_goes_j4 idJ Q   = codeI Try.prog judge_Judge_goes_kp idJ (cAt [true, true, true] (bodyOf Try.f20)) (retK Try.prog Try.f20 Q) noX (retK Try.prog Try.f20 Q) (us 58 []) := by kernel_rfl
theorem judge_Judge_goes_l1_raw (jn : Jn) (Q : Value → WP)  (m1 : Nat) (j0 : Option Addr) (kind1 : Int) (seen7 : Option Nat) (t13 : Sl) (t14 : Int) (t15 : Int) : judge_Judge_goes_l1 jn Q  (m1 + 1) j0 kind1 seen7 t13 t14 t15 = (
  ite2 (decide (t15 < t14)) (
  idx t13.a t13.n t15 fun b_2 o_3 =>
  ld .str b_2 (o_3 + (t15).toNat * 1) fun (x_4 : ByteArray) =>
  drawW fun S =>
  nilck j0 fun b_5 o_6 =>
  ldS S .ptr b_5 o_6 fun (x_7 : Option Addr) =>
  nilck j0 fun b_8 o_9 =>
  ld (.int .i64) b_8 (o_9 + 3) fun (x_10 : Int) =>
  keepS true S <|
  call2 .str .bool Try.prog id_table_Table_Get [.pointer x_7, .string x_4, .int .i64 x_10] fun (x_11 : ByteArray) (x_12 : Bool) =>
  ite2 (kind1 == (1 : Int)) (
  judge_Judge_goes_j2 jn Q m1 j0 kind1 seen7 x_4 x_12 t13 t14 t15 kind1 (kind1 == (1 : Int))) (
  ite2 (kind1 == (3 : Int)) (
  judge_Judge_goes_j2 jn Q m1 j0 kind1 seen7 x_4 x_12 t13 t14 t15 kind1 (kind1 == (3 : Int))) (
  judge_Judge_goes_j2 jn Q m1 j0 kind1 seen7 x_4 x_12 t13 t14 t15 kind1 (kind1 == (4 : Int))))) (
  judge_Judge_goes_j4 jn Q  )) := by kernel_rfl
theorem judge_Judge_goes_l1_zero (jn : Jn) (Q : Value → WP)  (j0 : Option Addr) (kind1 : Int) (seen7 : Option Nat) (t13 : Sl) (t14 : Int) (t15 : Int) : judge_Judge_goes_l1 jn Q  0 j0 kind1 seen7 t13 t14 t15 = bot := by kernel_rfl
theorem judge_Judge_goes_raw (jn : Jn) (j0 : Option Addr) (kind1 : Int) (gone2 : Sl) (Q : Value → WP) : funJ jn Try.prog judge_Judge_goes_kp Try.f20 [.pointer j0, .int .i64 kind1, .slice gone2.a gone2.n gone2.c] Q = (
  newM fun b_1 =>
  exM fun m => judge_Judge_goes_l1 jn Q  m j0 kind1 (some b_1) gone2 (gone2.n : Int) (0 : Int)) := by kernel_rfl
theorem judge_Judge_goes_def (j0 : Option Addr) (kind1 : Int) (gone2 : Sl) (Q : Value → WP) : judge_Judge_goes j0 kind1 gone2 Q = funJ idJ Try.prog judge_Judge_goes_kp Try.f20 [.pointer j0, .int .i64 kind1, .slice gone2.a gone2.n gone2.c] Q := rfl
theorem judge_Judge_goes_calls {j0 : Option Addr} {kind1 : Int} {gone2 : Sl} {Q : Value → WP} {w : World} (h : judge_Judge_goes j0 kind1 gone2 Q w) : Calls Try.prog id_judge_Judge_goes #[.pointer j0, .int .i64 kind1, .slice gone2.a gone2.n gone2.c] w fun e w' => ∃ v, e = .returned v ∧ Q v w' :=
  funJ_calls mixed Try.func20 rfl h

-- (*hoard/judge.Judge).notes
def judge_Judge_notes_kp : KP := ⟨[(7, [0, 4, 8, 9, 10]), (14, [0, 4])], [(8, [0, 1, 2, 3, 4, 5, 6, 7, 8, 9, 10, 11, 12]), (10, [0, 1, 2, 3, 4])]⟩
def judge_Judge_notes_j2 (jn : Jn) (Q : Value → WP)  (j0 : Option Addr) (o4_b : Nat) (o4_o : Nat) : WP := jn 14 (fun ρ => codeI Try.prog judge_Judge_notes_kp jn (cAt [true, true] (bodyOf Try.f21)) (retK Try.prog Try.f21 Q) noX (retK Try.prog Try.f21 Q) ρ) ((.pointer j0) :: us 3 ((.pointer (some ⟨o4_b, o4_o, none⟩)) :: us 51 []))
def judge_Judge_notes_l1 (jn : Jn) (Q : Value → WP)  (m1 : Nat) (j0 : Option Addr) (o4_b : Nat) (o4_o : Nat) (t8 : Sl) (t9 : Int) (t10 : Int) : WP := lop Try.prog judge_Judge_notes_kp jn (cAt [true, false, true, false, false] (bodyOf Try.f21)) (blkX 0 (seqK Try.prog judge_Judge_notes_kp jn (cAt [true, true] (bodyOf Try.f21)) (retK Try.prog Try.f21 Q) noX (retK Try.prog Try.f21 Q)) noX) (retK Try.prog Try.f21 Q) m1 ((.pointer j0) :: us 3 ((.pointer (some ⟨o4_b, o4_o, none⟩)) :: us 3 ((.slice t8.a t8.n t8.c) :: (.int .i64 t9) :: (.int .i64 t10) :: us 45 [])))
def judge_Judge_notes (j0 : Option Addr) (o1_0 : Int) (o1_1 : ByteArray) (o1_2 : ByteArray) (o1_3 : Int) (gone2 : Sl) (Q : Value → WP) : WP := funJ idJ Try.prog judge_Judge_notes_kp Try.f21 [.pointer j0, .agg #[.int .i64 o1_0, .string o1_1, .string o1_2, .int .i64 o1_3], .slice gone2.a gone2.n gone2.c] Q
theorem judge_Judge_notes_j2_raw (jn : Jn) (Q : Value → WP)  (j0 : Option Addr) (o4_b : Nat) (o4_o : Nat) : codeI Try.prog judge_Judge_notes_kp jn (cAt [true, true] (bodyOf Try.f21)) (retK Try.prog Try.f21 Q) noX (retK Try.prog Try.f21 Q) ((.pointer j0) :: us 3 ((.pointer (some ⟨o4_b, o4_o, none⟩)) :: us 51 [])) = (
  ld (.int .i64) o4_b o4_o fun (x_9 : Int) =>
  ite2 (x_9 == (2 : Int)) (
  drawW fun S =>
  nilck j0 fun b_10 o_11 =>
  ldS S .ptr b_10 o_11 fun (x_12 : Option Addr) =>
  ldS S .str o4_b (o4_o + 1) fun (x_13 : ByteArray) =>
  ldS S .str o4_b (o4_o + 2) fun (x_14 : ByteArray) =>
  nilck j0 fun b_15 o_16 =>
  ldS S (.int .i64) b_15 (o_16 + 3) fun (x_17 : Int) =>
  ld (.int .i64) o4_b (o4_o + 3) fun (x_18 : Int) =>
  keepS true S <|
  call2 .bool (.int .i64) Try.prog id_table_Table_Put [.pointer x_12, .string x_13, .string x_14, .int .i64 x_17, .int .i64 x_18] fun (x_19 : Bool) (x_20 : Int) =>
  Q (.tuple #[])) (
  ite2 (x_9 == (3 : Int)) (
  drawW fun S =>
  nilck j0 fun b_21 o_22 =>
  ldS S .ptr b_21 o_22 fun (x_23 : Option Addr) =>
  ld .str o4_b (o4_o + 1) fun (x_24 : ByteArray) =>
  keepS true S <|
  call1 .bool Try.prog id_table_Table_Delete [.pointer x_23, .string x_24] fun (x_25 : Bool) =>
  Q (.tuple #[])) (
  ite2 (x_9 == (9 : Int)) (
  ld (.int .i64) o4_b (o4_o + 3) fun (x_26 : Int) =>
  nilck j0 fun b_27 o_28 =>
  st b_27 (o_28 + 2) (.int .i64 x_26) <|
  Q (.tuple #[])) (
  Q (.tuple #[]))))) := by kernel_rfl
theorem judge_Judge_notes_j2_def (Q : Value → WP)  (j0 : Option Addr) (o4_b : Nat) (o4_o : Nat) : judge_Judge_notes_j2 idJ Q  j0 o4_b o4_o = codeI Try.prog judge_Judge_notes_kp idJ (cAt [true, true] (bodyOf Try.f21)) (retK Try.prog Try.f21 Q) noX (retK Try.prog Try.f21 Q) ((.pointer j0) :: us 3 ((.pointer (some ⟨o4_b, o4_o, none⟩)) :: us 51 [])) := by kernel_rfl
theorem judge_Judge_notes_l1_raw (jn : Jn) (Q : Value → WP)  (m1 : Nat) (j0 : Option Addr) (o4_b : Nat) (o4_o : Nat) (t8 : Sl) (t9 : Int) (t10 : Int) : judge_Judge_notes_l1 jn Q  (m1 + 1) j0 o4_b o4_o t8 t9 t10 = (
  ite2 (decide (t10 < t9)) (
  idx t8.a t8.n t10 fun b_2 o_3 =>
  ld .str b_2 (o_3 + (t10).toNat * 1) fun (x_4 : ByteArray) =>
  nilck j0 fun b_5 o_6 =>
  ld .ptr b_5 o_6 fun (x_7 : Option Addr) =>
  call1 .bool Try.prog id_table_Table_Delete [.pointer x_7, .string x_4] fun (x_8 : Bool) =>
  judge_Judge_notes_l1 jn Q  m1 j0 o4_b o4_o t8 t9 (IntKind.wrap .i64 (t10 + (1 : Int)))) (
  judge_Judge_notes_j2 jn Q  j0 o4_b o4_o)) := by kernel_rfl
theorem judge_Judge_notes_l1_zero (jn : Jn) (Q : Value → WP)  (j0 : Option Addr) (o4_b : Nat) (o4_o : Nat) (t8 : Sl) (t9 : Int) (t10 : Int) : judge_Judge_notes_l1 jn Q  0 j0 o4_b o4_o t8 t9 t10 = bot := by kernel_rfl
theorem judge_Judge_notes_raw (jn : Jn) (j0 : Option Addr) (o1_0 : Int) (o1_1 : ByteArray) (o1_2 : ByteArray) (o1_3 : Int) (gone2 : Sl) (Q : Value → WP) : funJ jn Try.prog judge_Judge_notes_kp Try.f21 [.pointer j0, .agg #[.int .i64 o1_0, .string o1_1, .string o1_2, .int .i64 o1_3], .slice gone2.a gone2.n gone2.c] Q = (
  newB [.int .i64 o1_0, .string o1_1, .string o1_2, .int .i64 o1_3] ty_api_Op fun b_1 =>
  exM fun m => judge_Judge_notes_l1 jn Q  m j0 b_1 0 gone2 (gone2.n : Int) (0 : Int)) := by kernel_rfl
theorem judge_Judge_notes_def (j0 : Option Addr) (o1_0 : Int) (o1_1 : ByteArray) (o1_2 : ByteArray) (o1_3 : Int) (gone2 : Sl) (Q : Value → WP) : judge_Judge_notes j0 o1_0 o1_1 o1_2 o1_3 gone2 Q = funJ idJ Try.prog judge_Judge_notes_kp Try.f21 [.pointer j0, .agg #[.int .i64 o1_0, .string o1_1, .string o1_2, .int .i64 o1_3], .slice gone2.a gone2.n gone2.c] Q := rfl
theorem judge_Judge_notes_calls {j0 : Option Addr} {o1_0 : Int} {o1_1 : ByteArray} {o1_2 : ByteArray} {o1_3 : Int} {gone2 : Sl} {Q : Value → WP} {w : World} (h : judge_Judge_notes j0 o1_0 o1_1 o1_2 o1_3 gone2 Q w) : Calls Try.prog id_judge_Judge_notes #[.pointer j0, .agg #[.int .i64 o1_0, .string o1_1, .string o1_2, .int .i64 o1_3], .slice gone2.a gone2.n gone2.c] w fun e w' => ∃ v, e = .returned v ∧ Q v w' :=
  funJ_calls mixed Try.func21 rfl h

-- (*hoard/judge.Judge).fits
def judge_Judge_fits_kp : KP := ⟨[(8, [0])], [(3, [0, 1, 2, 3, 5, 6, 7, 8, 9, 10, 11, 12, 13, 14, 15])]⟩
def judge_Judge_fits_j1 (jn : Jn) (Q : Value → WP)  (j0 : Option Addr) : WP := jn 8 (fun ρ => codeI Try.prog judge_Judge_fits_kp jn (cAt [true, true] (bodyOf Try.f22)) (retK Try.prog Try.f22 Q) noX (retK Try.prog Try.f22 Q) ρ) ((.pointer j0) :: us 43 [])
def judge_Judge_fits (j0 : Option Addr) (Q : Value → WP) : WP := funJ idJ Try.prog judge_Judge_fits_kp Try.f22 [.pointer j0] Q
theorem judge_Judge_fits_j1_raw (jn : Jn) (Q : Value → WP)  (j0 : Option Addr) : codeI Try.prog judge_Judge_fits_kp jn (cAt [true, true] (bodyOf Try.f22)) (retK Try.prog Try.f22 Q) noX (retK Try.prog Try.f22 Q) ((.pointer j0) :: us 43 []) = (
  drawW fun S =>
  nilck j0 fun b_13 o_14 =>
  ldS S .ptr b_13 o_14 fun (x_15 : Option Addr) =>
  nilck j0 fun b_16 o_17 =>
  ldS S (.int .i64) b_16 (o_17 + 1) fun (x_18 : Int) =>
  nilck j0 fun b_19 o_20 =>
  ldS S (.int .i64) b_19 (o_20 + 2) fun (x_21 : Int) =>
  call1 (.int .i64) Try.prog id_table_Table_Len [.pointer x_15] fun (x_22 : Int) =>
  keepS true S <|
  Q (.bool (decide (x_22 ≤ (IntKind.wrap .i64 (x_18 * x_21)))))) := by kernel_rfl
theorem judge_Judge_fits_j1_def (Q : Value → WP)  (j0 : Option Addr) : judge_Judge_fits_j1 idJ Q  j0 = codeI Try.prog judge_Judge_fits_kp idJ (cAt [true, true] (bodyOf Try.f22)) (retK Try.prog Try.f22 Q) noX (retK Try.prog Try.f22 Q) ((.pointer j0) :: us 43 []) := by kernel_rfl
theorem judge_Judge_fits_raw (jn : Jn) (j0 : Option Addr) (Q : Value → WP) : funJ jn Try.prog judge_Judge_fits_kp Try.f22 [.pointer j0] Q = (
  nilck j0 fun b_1 o_2 =>
  ld (.int .i64) b_1 (o_2 + 1) fun (x_3 : Int) =>
  ite2 (decide (x_3 < (0 : Int))) (
  Q (.bool true)) (
  nilck j0 fun b_4 o_5 =>
  ld (.int .i64) b_4 (o_5 + 1) fun (x_6 : Int) =>
  ite2 (decide (x_6 > (1048576 : Int))) (
  Q (.bool true)) (
  nilck j0 fun b_7 o_8 =>
  ld (.int .i64) b_7 (o_8 + 2) fun (x_9 : Int) =>
  ite2 (decide (x_9 < (0 : Int))) (
  Q (.bool true)) (
  nilck j0 fun b_10 o_11 =>
  ld (.int .i64) b_10 (o_11 + 2) fun (x_12 : Int) =>
  ite2 (decide (x_12 > (1048576 : Int))) (
  Q (.bool true)) (
  judge_Judge_fits_j1 jn Q  j0))))) := by kernel_rfl
theorem judge_Judge_fits_def (j0 : Option Addr) (Q : Value → WP) : judge_Judge_fits j0 Q = funJ idJ Try.prog judge_Judge_fits_kp Try.f22 [.pointer j0] Q := rfl
theorem judge_Judge_fits_calls {j0 : Option Addr} {Q : Value → WP} {w : World} (h : judge_Judge_fits j0 Q w) : Calls Try.prog id_judge_Judge_fits #[.pointer j0] w fun e w' => ∃ v, e = .returned v ∧ Q v w' :=
  funJ_calls mixed Try.func22 rfl h

-- (*hoard/hoardref27.Judge).right
def hoardref27_Judge_right_kp : KP := ⟨[], [(1, [0, 1, 2, 3, 4, 5, 6, 7, 8, 11, 12, 13, 14, 15])]⟩
def hoardref27_Judge_right (j0 : Option Addr) (o1_0 : Int) (o1_1 : ByteArray) (o1_2 : ByteArray) (o1_3 : Int) (r2_0 : Int) (r2_1 : Bool) (r2_2 : ByteArray) (r2_3 : Sl) (Q : Value → WP) : WP := funJ idJ Try.prog hoardref27_Judge_right_kp Try.f23 [.pointer j0, .agg #[.int .i64 o1_0, .string o1_1, .string o1_2, .int .i64 o1_3], .agg #[.int .i64 r2_0, .bool r2_1, .string r2_2, .slice r2_3.a r2_3.n r2_3.c]] Q
theorem hoardref27_Judge_right_raw (jn : Jn) (j0 : Option Addr) (o1_0 : Int) (o1_1 : ByteArray) (o1_2 : ByteArray) (o1_3 : Int) (r2_0 : Int) (r2_1 : Bool) (r2_2 : ByteArray) (r2_3 : Sl) (Q : Value → WP) : funJ jn Try.prog hoardref27_Judge_right_kp Try.f23 [.pointer j0, .agg #[.int .i64 o1_0, .string o1_1, .string o1_2, .int .i64 o1_3], .agg #[.int .i64 r2_0, .bool r2_1, .string r2_2, .slice r2_3.a r2_3.n r2_3.c]] Q = (
  newB [.int .i64 o1_0, .string o1_1, .string o1_2, .int .i64 o1_3] ty_api_Op fun b_1 =>
  newB [.int .i64 r2_0, .bool r2_1, .string r2_2, .slice r2_3.a r2_3.n r2_3.c] ty_api_Result fun b_2 =>
  drawW fun S =>
  nilck j0 fun b_3 o_4 =>
  ldS S .ptr b_3 o_4 fun (x_5 : Option Addr) =>
  ldS S .str b_1 1 fun (x_6 : ByteArray) =>
  nilck j0 fun b_7 o_8 =>
  ld (.int .i64) b_7 (o_8 + 1) fun (x_9 : Int) =>
  keepS true S <|
  call2 .str .bool Try.prog id_hoardref21_Table_Get [.pointer x_5, .string x_6, .int .i64 x_9] fun (x_10 : ByteArray) (x_11 : Bool) =>
  ld (.int .i64) b_1 0 fun (x_12 : Int) =>
  ite2 (x_12 == (1 : Int)) (
  ld .bool b_2 1 fun (x_13 : Bool) =>
  ite2 (x_13 == x_11) (
  ld .str b_2 2 fun (x_14 : ByteArray) =>
  Q (.bool (sEq x_14 x_10))) (
  Q (.bool false))) (
  ite2 (x_12 == (3 : Int)) (
  ld .bool b_2 1 fun (x_15 : Bool) =>
  Q (.bool (x_15 == x_11))) (
  Q (.bool true)))) := by kernel_rfl
theorem hoardref27_Judge_right_def (j0 : Option Addr) (o1_0 : Int) (o1_1 : ByteArray) (o1_2 : ByteArray) (o1_3 : Int) (r2_0 : Int) (r2_1 : Bool) (r2_2 : ByteArray) (r2_3 : Sl) (Q : Value → WP) : hoardref27_Judge_right j0 o1_0 o1_1 o1_2 o1_3 r2_0 r2_1 r2_2 r2_3 Q = funJ idJ Try.prog hoardref27_Judge_right_kp Try.f23 [.pointer j0, .agg #[.int .i64 o1_0, .string o1_1, .string o1_2, .int .i64 o1_3], .agg #[.int .i64 r2_0, .bool r2_1, .string r2_2, .slice r2_3.a r2_3.n r2_3.c]] Q := rfl
theorem hoardref27_Judge_right_calls {j0 : Option Addr} {o1_0 : Int} {o1_1 : ByteArray} {o1_2 : ByteArray} {o1_3 : Int} {r2_0 : Int} {r2_1 : Bool} {r2_2 : ByteArray} {r2_3 : Sl} {Q : Value → WP} {w : World} (h : hoardref27_Judge_right j0 o1_0 o1_1 o1_2 o1_3 r2_0 r2_1 r2_2 r2_3 Q w) : Calls Try.prog id_hoardref27_Judge_right #[.pointer j0, .agg #[.int .i64 o1_0, .string o1_1, .string o1_2, .int .i64 o1_3], .agg #[.int .i64 r2_0, .bool r2_1, .string r2_2, .slice r2_3.a r2_3.n r2_3.c]] w fun e w' => ∃ v, e = .returned v ∧ Q v w' :=
  funJ_calls mixed Try.func23 rfl h

-- (*hoard/hoardref27.Judge).goes
def hoardref27_Judge_goes_kp : KP := ⟨[(11, [0, 2, 4, 7]), (24, [2, 4]), (26, [2, 10])], [(6, [0, 1, 2, 3, 4, 5, 6, 9]), (8, [0, 1, 2, 3, 4, 5, 6, 7, 8, 9, 10, 13, 14, 15, 16, 17])]⟩
def hoardref27_Judge_goes_j3 (jn : Jn) (Q : Value → WP)  (l2 : Sl) (may10 : Bool) : WP := jn 26 (fun ρ => codeI Try.prog hoardref27_Judge_goes_kp jn (cAt [true, true, true, true] (bodyOf Try.f24)) (retK Try.prog Try.f24 Q) noX (retK Try.prog Try.f24 Q) ρ) (us 2 ((.slice l2.a l2.n l2.c) :: us 7 ((.bool may10) :: us 79 [])))
def hoardref27_Judge_goes_j2 (jn : Jn) (Q : Value → WP)  (l2 : Sl) (o4_b : Nat) (o4_o : Nat) : WP := jn 24 (fun ρ => codeI Try.prog hoardref27_Judge_goes_kp jn (cAt [true, true, true] (bodyOf Try.f24)) (retK Try.prog Try.f24 Q) noX (retK Try.prog Try.f24 Q) ρ) (us 2 ((.slice l2.a l2.n l2.c) :: us 1 ((.pointer (some ⟨o4_b, o4_o, none⟩)) :: us 85 [])))
def hoardref27_Judge_goes_l1 (jn : Jn) (Q : Value → WP)  (m1 : Nat) (j0 : Option Addr) (l2 : Sl) (o4_b : Nat) (o4_o : Nat) (i7 : Int) : WP := lop Try.prog hoardref27_Judge_goes_kp jn (cAt [true, true, false, true, false, false] (bodyOf Try.f24)) (blkX 0 (seqK Try.prog hoardref27_Judge_goes_kp jn (cAt [true, true, true] (bodyOf Try.f24)) (retK Try.prog Try.f24 Q) noX (retK Try.prog Try.f24 Q)) noX) (retK Try.prog Try.f24 Q) m1 ((.pointer j0) :: us 1 ((.slice l2.a l2.n l2.c) :: us 1 ((.pointer (some ⟨o4_b, o4_o, none⟩)) :: us 2 ((.int .i64 i7) :: us 82 []))))
def hoardref27_Judge_goes (j0 : Option Addr) (o1_0 : Int) (o1_1 : ByteArray) (o1_2 : ByteArray) (o1_3 : Int) (l2 : Sl) (Q : Value → WP) : WP := funJ idJ Try.prog hoardref27_Judge_goes_kp Try.f24 [.pointer j0, .agg #[.int .i64 o1_0, .string o1_1, .string o1_2, .int .i64 o1_3], .slice l2.a l2.n l2.c] Q
theorem hoardref27_Judge_goes_j3_raw (jn : Jn) (Q : Value → WP)  (l2 : Sl) (may10 : Bool) : codeI Try.prog hoardref27_Judge_goes_kp jn (cAt [true, true, true, true] (bodyOf Try.f24)) (retK Try.prog Try.f24 Q) noX (retK Try.prog Try.f24 Q) (us 2 ((.slice l2.a l2.n l2.c) :: us 7 ((.bool may10) :: us 79 []))) = (
  ite2 ((l2.n : Int) == (0 : Int)) (
  Q (.bool true)) (
  Q (.bool may10))) := by kernel_rfl
theorem hoardref27_Judge_goes_j3_def (Q : Value → WP)  (l2 : Sl) (may10 : Bool) : hoardref27_Judge_goes_j3 idJ Q  l2 may10 = codeI Try.prog hoardref27_Judge_goes_kp idJ (cAt [true, true, true, true] (bodyOf Try.f24)) (retK Try.prog Try.f24 Q) noX (retK Try.prog Try.f24 Q) (us 2 ((.slice l2.a l2.n l2.c) :: us 7 ((.bool may10) :: us 79 []))) := by kernel_rfl
theorem hoardref27_Judge_goes_j2_raw (jn : Jn) (Q : Value → WP)  (l2 : Sl) (o4_b : Nat) (o4_o : Nat) : codeI Try.prog hoardref27_Judge_goes_kp jn (cAt [true, true, true] (bodyOf Try.f24)) (retK Try.prog Try.f24 Q) noX (retK Try.prog Try.f24 Q) (us 2 ((.slice l2.a l2.n l2.c) :: us 1 ((.pointer (some ⟨o4_b, o4_o, none⟩)) :: us 85 []))) = (
  ld (.int .i64) o4_b o4_o fun (x_24 : Int) =>
  ite2 (x_24 == (1 : Int)) (
  hoardref27_Judge_goes_j3 jn Q  l2 true) (
  ld (.int .i64) o4_b o4_o fun (x_25 : Int) =>
  ite2 (x_25 == (3 : Int)) (
  hoardref27_Judge_goes_j3 jn Q  l2 true) (
  ld (.int .i64) o4_b o4_o fun (x_26 : Int) =>
  ite2 (x_26 == (4 : Int)) (
  hoardref27_Judge_goes_j3 jn Q  l2 true) (
  ld (.int .i64) o4_b o4_o fun (x_27 : Int) =>
  ite2 (x_27 == (2 : Int)) (
  hoardref27_Judge_goes_j3 jn Q  l2 true) (
  ld (.int .i64) o4_b o4_o fun (x_28 : Int) =>
  hoardref27_Judge_goes_j3 jn Q  l2 (x_28 == (9 : Int))))))) := by kernel_rfl
theorem hoardref27_Judge_goes_j2_def (Q : Value → WP)  (l2 : Sl) (o4_b : Nat) (o4_o : Nat) : hoardref27_Judge_goes_j2 idJ Q  l2 o4_b o4_o = codeI Try.prog hoardref27_Judge_goes_kp idJ (cAt [true, true, true] (bodyOf Try.f24)) (retK Try.prog Try.f24 Q) noX (retK Try.prog Try.f24 Q) (us 2 ((.slice l2.a l2.n l2.c) :: us 1 ((.pointer (some ⟨o4_b, o4_o, none⟩)) :: us 85 []))) := by kernel_rfl
theorem hoardref27_Judge_goes_l1_raw (jn : Jn) (Q : Value → WP)  (m1 : Nat) (j0 : Option Addr) (l2 : Sl) (o4_b : Nat) (o4_o : Nat) (i7 : Int) : hoardref27_Judge_goes_l1 jn Q  (m1 + 1) j0 l2 o4_b o4_o i7 = (
  ite2 (decide (i7 < (l2.n : Int))) (
  drawW fun S =>
  nilck j0 fun b_3 o_4 =>
  ldS S .ptr b_3 o_4 fun (x_5 : Option Addr) =>
  idx l2.a l2.n i7 fun b_6 o_7 =>
  ld .str b_6 (o_7 + (i7).toNat * 1) fun (x_8 : ByteArray) =>
  keepS true S <|
  call1 .bool Try.prog id_hoardref21_Table_Has [.pointer x_5, .string x_8] fun (x_9 : Bool) =>
  ite2 (!x_9) (
  Q (.bool false)) (
  drawW fun S =>
  nilck j0 fun b_10 o_11 =>
  ldS S .ptr b_10 o_11 fun (x_12 : Option Addr) =>
  idx l2.a l2.n i7 fun b_13 o_14 =>
  ldS S .str b_13 (o_14 + (i7).toNat * 1) fun (x_15 : ByteArray) =>
  nilck j0 fun b_16 o_17 =>
  ld (.int .i64) b_16 (o_17 + 1) fun (x_18 : Int) =>
  keepS true S <|
  call2 .str .bool Try.prog id_hoardref21_Table_Get [.pointer x_12, .string x_15, .int .i64 x_18] fun (x_19 : ByteArray) (x_20 : Bool) =>
  ite2 x_20 (
  ld (.int .i64) o4_b o4_o fun (x_21 : Int) =>
  ite2 (x_21 == (1 : Int)) (
  Q (.bool false)) (
  ld (.int .i64) o4_b o4_o fun (x_22 : Int) =>
  ite2 (x_22 == (3 : Int)) (
  Q (.bool false)) (
  ld (.int .i64) o4_b o4_o fun (x_23 : Int) =>
  ite2 (x_23 == (4 : Int)) (
  Q (.bool false)) (
  hoardref27_Judge_goes_l1 jn Q  m1 j0 l2 o4_b o4_o (IntKind.wrap .i64 (i7 + (1 : Int))))))) (
  hoardref27_Judge_goes_l1 jn Q  m1 j0 l2 o4_b o4_o (IntKind.wrap .i64 (i7 + (1 : Int)))))) (
  hoardref27_Judge_goes_j2 jn Q  l2 o4_b o4_o)) := by kernel_rfl
theorem hoardref27_Judge_goes_l1_zero (jn : Jn) (Q : Value → WP)  (j0 : Option Addr) (l2 : Sl) (o4_b : Nat) (o4_o : Nat) (i7 : Int) : hoardref27_Judge_goes_l1 jn Q  0 j0 l2 o4_b o4_o i7 = bot := by kernel_rfl
theorem hoardref27_Judge_goes_raw (jn : Jn) (j0 : Option Addr) (o1_0 : Int) (o1_1 : ByteArray) (o1_2 : ByteArray) (o1_3 : Int) (l2 : Sl) (Q : Value → WP) : funJ jn Try.prog hoardref27_Judge_goes_kp Try.f24 [.pointer j0, .agg #[.int .i64 o1_0, .string o1_1, .string o1_2, .int .i64 o1_3], .slice l2.a l2.n l2.c] Q = (
  newB [.int .i64 o1_0, .string o1_1, .string o1_2, .int .i64 o1_3] ty_api_Op fun b_1 =>
  call1 .bool Try.prog id_hoardref27_twice [.slice l2.a l2.n l2.c] fun (x_2 : Bool) =>
  ite2 x_2 (
  Q (.bool false)) (
  exM fun m => hoardref27_Judge_goes_l1 jn Q  m j0 l2 b_1 0 (0 : Int))) := by kernel_rfl
theorem hoardref27_Judge_goes_def (j0 : Option Addr) (o1_0 : Int) (o1_1 : ByteArray) (o1_2 : ByteArray) (o1_3 : Int) (l2 : Sl) (Q : Value → WP) : hoardref27_Judge_goes j0 o1_0 o1_1 o1_2 o1_3 l2 Q = funJ idJ Try.prog hoardref27_Judge_goes_kp Try.f24 [.pointer j0, .agg #[.int .i64 o1_0, .string o1_1, .string o1_2, .int .i64 o1_3], .slice l2.a l2.n l2.c] Q := rfl
theorem hoardref27_Judge_goes_calls {j0 : Option Addr} {o1_0 : Int} {o1_1 : ByteArray} {o1_2 : ByteArray} {o1_3 : Int} {l2 : Sl} {Q : Value → WP} {w : World} (h : hoardref27_Judge_goes j0 o1_0 o1_1 o1_2 o1_3 l2 Q w) : Calls Try.prog id_hoardref27_Judge_goes #[.pointer j0, .agg #[.int .i64 o1_0, .string o1_1, .string o1_2, .int .i64 o1_3], .slice l2.a l2.n l2.c] w fun e w' => ∃ v, e = .returned v ∧ Q v w' :=
  funJ_calls mixed Try.func24 rfl h

-- (*hoard/hoardref21.Table).Delete
def hoardref21_Table_Delete_kp : KP := ⟨[], [(3, [0, 2, 3, 4, 5, 6, 7, 9, 10, 11, 12, 13, 14, 15, 17, 18])]⟩
def hoardref21_Table_Delete (t0 : Option Addr) (key1 : ByteArray) (Q : Value → WP) : WP := funJ idJ Try.prog hoardref21_Table_Delete_kp Try.f25 [.pointer t0, .string key1] Q
theorem hoardref21_Table_Delete_raw (jn : Jn) (t0 : Option Addr) (key1 : ByteArray) (Q : Value → WP) : funJ jn Try.prog hoardref21_Table_Delete_kp Try.f25 [.pointer t0, .string key1] Q = (
  call2 (.int .i64) .bool Try.prog id_hoardref21_Table_at [.pointer t0, .string key1] fun (x_1 : Int) (x_2 : Bool) =>
  ite2 x_2 (
  drawW fun S =>
  nilck t0 fun b_3 o_4 =>
  ldS S .slc b_3 o_4 fun (x_5 : Sl) =>
  when ((0 : Int) ≤ x_1 ∧ x_1 ≤ (x_5.c : Int)) <|
  nilck t0 fun b_6 o_7 =>
  ldS S .slc b_6 o_7 fun (x_8 : Sl) =>
  when ((0 : Int) ≤ (IntKind.wrap .i64 (x_1 + (1 : Int))) ∧ (IntKind.wrap .i64 (x_1 + (1 : Int))) ≤ (x_8.n : Int)) <|
  newB [] ty_hoardref21_Entry fun b_9 =>
  keepS true S <|
  appendC ty_hoardref21_Entry 3 40 [.string str_empty, .string str_empty, .int .i64 (0 : Int)] ⟨(some ⟨b_9, 0, none⟩), 0, 0⟩ ((x_1).toNat - 0) (fun w => rdA w (subA x_5.a 0 x_5.c 3) (((x_1).toNat - 0) * 3)) fun s_10 =>
  keepS true S <|
  appendC ty_hoardref21_Entry 3 40 [.string str_empty, .string str_empty, .int .i64 (0 : Int)] ⟨s_10.a, s_10.n, s_10.c⟩ (x_8.n - ((IntKind.wrap .i64 (x_1 + (1 : Int)))).toNat) (fun w => rdA w (subA x_8.a (((IntKind.wrap .i64 (x_1 + (1 : Int)))).toNat) x_8.c 3) ((x_8.n - ((IntKind.wrap .i64 (x_1 + (1 : Int)))).toNat) * 3)) fun s_11 =>
  nilck t0 fun b_12 o_13 =>
  st b_12 o_13 (.slice s_11.a s_11.n s_11.c) <|
  Q (.bool x_2)) (
  Q (.bool x_2))) := by kernel_rfl
theorem hoardref21_Table_Delete_def (t0 : Option Addr) (key1 : ByteArray) (Q : Value → WP) : hoardref21_Table_Delete t0 key1 Q = funJ idJ Try.prog hoardref21_Table_Delete_kp Try.f25 [.pointer t0, .string key1] Q := rfl
theorem hoardref21_Table_Delete_calls {t0 : Option Addr} {key1 : ByteArray} {Q : Value → WP} {w : World} (h : hoardref21_Table_Delete t0 key1 Q w) : Calls Try.prog id_hoardref21_Table_Delete #[.pointer t0, .string key1] w fun e w' => ∃ v, e = .returned v ∧ Q v w' :=
  funJ_calls mixed Try.func25 rfl h

-- (*hoard/hoardref21.Table).Put
def hoardref21_Table_Put_kp : KP := ⟨[(16, [0, 1, 2, 3, 4]), (22, [0, 1, 12])], [(12, [0, 1, 2, 3, 4, 6]), (14, [1, 2, 3, 4, 5, 6, 8, 11])]⟩
def hoardref21_Table_Put_j2 (jn : Jn) (Q : Value → WP)  (t0 : Option Addr) (key1 : ByteArray) (e12_b : Nat) (e12_o : Nat) : WP := jn 22 (fun ρ => codeI Try.prog hoardref21_Table_Put_kp jn (cAt [true, true, true, true] (bodyOf Try.f26)) (retK Try.prog Try.f26 Q) noX (retK Try.prog Try.f26 Q) ρ) ((.pointer t0) :: (.string key1) :: us 10 ((.pointer (some ⟨e12_b, e12_o, none⟩)) :: us 71 []))
def hoardref21_Table_Put_j1 (jn : Jn) (Q : Value → WP)  (t0 : Option Addr) (key1 : ByteArray) (val2 : ByteArray) (now3 : Int) (life4 : Int) : WP := jn 16 (fun ρ => codeI Try.prog hoardref21_Table_Put_kp jn (cAt [true, true] (bodyOf Try.f26)) (retK Try.prog Try.f26 Q) noX (retK Try.prog Try.f26 Q) ρ) ((.pointer t0) :: (.string key1) :: (.string val2) :: (.int .i64 now3) :: (.int .i64 life4) :: us 79 [])
def hoardref21_Table_Put (t0 : Option Addr) (key1 : ByteArray) (val2 : ByteArray) (now3 : Int) (life4 : Int) (Q : Value → WP) : WP := funJ idJ Try.prog hoardref21_Table_Put_kp Try.f26 [.pointer t0, .string key1, .string val2, .int .i64 now3, .int .i64 life4] Q
theorem hoardref21_Table_Put_j2_raw (jn : Jn) (Q : Value → WP)  (t0 : Option Addr) (key1 : ByteArray) (e12_b : Nat) (e12_o : Nat) : codeI Try.prog hoardref21_Table_Put_kp jn (cAt [true, true, true, true] (bodyOf Try.f26)) (retK Try.prog Try.f26 Q) noX (retK Try.prog Try.f26 Q) ((.pointer t0) :: (.string key1) :: us 10 ((.pointer (some ⟨e12_b, e12_o, none⟩)) :: us 71 [])) = (
  call2 (.int .i64) .bool Try.prog id_hoardref21_Table_at [.pointer t0, .string key1] fun (x_3 : Int) (x_4 : Bool) =>
  ite2 x_4 (
  drawW fun S =>
  nilck t0 fun b_5 o_6 =>
  ldS S .slc b_5 o_6 fun (x_7 : Sl) =>
  ld .str e12_b e12_o fun (x_8 : ByteArray) =>
  ld .str e12_b (e12_o + 1) fun (x_9 : ByteArray) =>
  ld (.int .i64) e12_b ((e12_o + 1) + 1) fun (x_10 : Int) =>
  keepS true S <|
  idx x_7.a x_7.n x_3 fun b_11 o_12 =>
  st b_11 (o_12 + (x_3).toNat * 3) (.string x_8) <|
  st b_11 ((o_12 + (x_3).toNat * 3) + 1) (.string x_9) <|
  st b_11 (((o_12 + (x_3).toNat * 3) + 1) + 1) (.int .i64 x_10) <|
  Q (.tuple #[.bool false, .int .i64 (0 : Int)])) (
  drawW fun S =>
  nilck t0 fun b_13 o_14 =>
  ldS S .slc b_13 o_14 fun (x_15 : Sl) =>
  when ((0 : Int) ≤ x_3 ∧ x_3 ≤ (x_15.c : Int)) <|
  ldS S .str e12_b e12_o fun (x_16 : ByteArray) =>
  ldS S .str e12_b (e12_o + 1) fun (x_17 : ByteArray) =>
  ldS S (.int .i64) e12_b ((e12_o + 1) + 1) fun (x_18 : Int) =>
  allW [
  (newB [] ty_hoardref21_Entry fun b_19 =>
  keepS true S <|
  allW [
  (appendC ty_hoardref21_Entry 3 40 [.string str_empty, .string str_empty, .int .i64 (0 : Int)] ⟨(some ⟨b_19, 0, none⟩), 0, 0⟩ ((x_3).toNat - 0) (fun w => rdA w (subA x_15.a 0 x_15.c 3) (((x_3).toNat - 0) * 3)) fun s_20 =>
  keepS true S <|
  newB [.string x_16, .string x_17, .int .i64 x_18] ty_hoardref21_Entry fun b_21 =>
  keepS true S <|
  appendC ty_hoardref21_Entry 3 40 [.string str_empty, .string str_empty, .int .i64 (0 : Int)] ⟨s_20.a, s_20.n, s_20.c⟩ 1 (fun w => rdA w (some ⟨b_21, 0, none⟩) (1 * 3)) fun s_22 =>
  nilck t0 fun b_23 o_24 =>
  ld .slc b_23 o_24 fun (x_25 : Sl) =>
  when ((0 : Int) ≤ x_3 ∧ x_3 ≤ (x_25.n : Int)) <|
  appendC ty_hoardref21_Entry 3 40 [.string str_empty, .string str_empty, .int .i64 (0 : Int)] ⟨s_22.a, s_22.n, s_22.c⟩ (x_25.n - (x_3).toNat) (fun w => rdA w (subA x_25.a ((x_3).toNat) x_25.c 3) ((x_25.n - (x_3).toNat) * 3)) fun s_26 =>
  nilck t0 fun b_27 o_28 =>
  st b_27 o_28 (.slice s_26.a s_26.n s_26.c) <|
  Q (.tuple #[.bool true, .int .i64 (0 : Int)])),
  (newB [.string x_16, .string x_17, .int .i64 x_18] ty_hoardref21_Entry fun b_29 =>
  keepS true S <|
  appendC ty_hoardref21_Entry 3 40 [.string str_empty, .string str_empty, .int .i64 (0 : Int)] ⟨(some ⟨b_19, 0, none⟩), 0, 0⟩ ((x_3).toNat - 0) (fun w => rdA w (subA x_15.a 0 x_15.c 3) (((x_3).toNat - 0) * 3)) fun s_30 =>
  keepS true S <|
  appendC ty_hoardref21_Entry 3 40 [.string str_empty, .string str_empty, .int .i64 (0 : Int)] ⟨s_30.a, s_30.n, s_30.c⟩ 1 (fun w => rdA w (some ⟨b_29, 0, none⟩) (1 * 3)) fun s_31 =>
  nilck t0 fun b_32 o_33 =>
  ld .slc b_32 o_33 fun (x_34 : Sl) =>
  when ((0 : Int) ≤ x_3 ∧ x_3 ≤ (x_34.n : Int)) <|
  appendC ty_hoardref21_Entry 3 40 [.string str_empty, .string str_empty, .int .i64 (0 : Int)] ⟨s_31.a, s_31.n, s_31.c⟩ (x_34.n - (x_3).toNat) (fun w => rdA w (subA x_34.a ((x_3).toNat) x_34.c 3) ((x_34.n - (x_3).toNat) * 3)) fun s_35 =>
  nilck t0 fun b_36 o_37 =>
  st b_36 o_37 (.slice s_35.a s_35.n s_35.c) <|
  Q (.tuple #[.bool true, .int .i64 (0 : Int)]))]),
  (newB [.string x_16, .string x_17, .int .i64 x_18] ty_hoardref21_Entry fun b_38 =>
  keepS true S <|
  newB [] ty_hoardref21_Entry fun b_39 =>
  keepS true S <|
  appendC ty_hoardref21_Entry 3 40 [.string str_empty, .string str_empty, .int .i64 (0 : Int)] ⟨(some ⟨b_39, 0, none⟩), 0, 0⟩ ((x_3).toNat - 0) (fun w => rdA w (subA x_15.a 0 x_15.c 3) (((x_3).toNat - 0) * 3)) fun s_40 =>
  keepS true S <|
  appendC ty_hoardref21_Entry 3 40 [.string str_empty, .string str_empty, .int .i64 (0 : Int)] ⟨s_40.a, s_40.n, s_40.c⟩ 1 (fun w => rdA w (some ⟨b_38, 0, none⟩) (1 * 3)) fun s_41 =>
  nilck t0 fun b_42 o_43 =>
  ld .slc b_42 o_43 fun (x_44 : Sl) =>
  when ((0 : Int) ≤ x_3 ∧ x_3 ≤ (x_44.n : Int)) <|
  appendC ty_hoardref21_Entry 3 40 [.string str_empty, .string str_empty, .int .i64 (0 : Int)] ⟨s_41.a, s_41.n, s_41.c⟩ (x_44.n - (x_3).toNat) (fun w => rdA w (subA x_44.a ((x_3).toNat) x_44.c 3) ((x_44.n - (x_3).toNat) * 3)) fun s_45 =>
  nilck t0 fun b_46 o_47 =>
  st b_46 o_47 (.slice s_45.a s_45.n s_45.c) <|
  Q (.tuple #[.bool true, .int .i64 (0 : Int)]))])) := by kernel_rfl
theorem hoardref21_Table_Put_j2_def (Q : Value → WP)  (t0 : Option Addr) (key1 : ByteArray) (e12_b : Nat) (e12_o : Nat) : hoardref21_Table_Put_j2 idJ Q  t0 key1 e12_b e12_o = codeI Try.prog hoardref21_Table_Put_kp idJ (cAt [true, true, true, true] (bodyOf Try.f26)) (retK Try.prog Try.f26 Q) noX (retK Try.prog Try.f26 Q) ((.pointer t0) :: (.string key1) :: us 10 ((.pointer (some ⟨e12_b, e12_o, none⟩)) :: us 71 [])) := by kernel_rfl
theorem hoardref21_Table_Put_j1_raw (jn : Jn) (Q : Value → WP)  (t0 : Option Addr) (key1 : ByteArray) (val2 : ByteArray) (now3 : Int) (life4 : Int) : codeI Try.prog hoardref21_Table_Put_kp jn (cAt [true, true] (bodyOf Try.f26)) (retK Try.prog Try.f26 Q) noX (retK Try.prog Try.f26 Q) ((.pointer t0) :: (.string key1) :: (.string val2) :: (.int .i64 now3) :: (.int .i64 life4) :: us 79 []) = (
  newB [.string str_empty, .string str_empty, .int .i64 (0 : Int)] ty_hoardref21_Entry fun b_2 =>
  st b_2 0 (.string key1) <|
  st b_2 1 (.string val2) <|
  st b_2 2 (.int .i64 (0 : Int)) <|
  ite2 (decide (life4 > (0 : Int))) (
  st b_2 2 (.int .i64 (IntKind.wrap .i64 (now3 + life4))) <|
  hoardref21_Table_Put_j2 jn Q  t0 key1 b_2 0) (
  hoardref21_Table_Put_j2 jn Q  t0 key1 b_2 0)) := by kernel_rfl
theorem hoardref21_Table_Put_j1_def (Q : Value → WP)  (t0 : Option Addr) (key1 : ByteArray) (val2 : ByteArray) (now3 : Int) (life4 : Int) : hoardref21_Table_Put_j1 idJ Q  t0 key1 val2 now3 life4 = codeI Try.prog hoardref21_Table_Put_kp idJ (cAt [true, true] (bodyOf Try.f26)) (retK Try.prog Try.f26 Q) noX (retK Try.prog Try.f26 Q) ((.pointer t0) :: (.string key1) :: (.string val2) :: (.int .i64 now3) :: (.int .i64 life4) :: us 79 []) := by kernel_rfl
theorem hoardref21_Table_Put_raw (jn : Jn) (t0 : Option Addr) (key1 : ByteArray) (val2 : ByteArray) (now3 : Int) (life4 : Int) (Q : Value → WP) : funJ jn Try.prog hoardref21_Table_Put_kp Try.f26 [.pointer t0, .string key1, .string val2, .int .i64 now3, .int .i64 life4] Q = (
  call1 .bool Try.prog id_hoardref1_Key [.string key1] fun (x_1 : Bool) =>
  ite2 (!x_1) (
  Q (.tuple #[.bool false, .int .i64 (2 : Int)])) (
  ite2 (decide ((val2.size : Int) > (64 : Int))) (
  Q (.tuple #[.bool false, .int .i64 (3 : Int)])) (
  ite2 (decide (now3 < (0 : Int))) (
  Q (.tuple #[.bool false, .int .i64 (1 : Int)])) (
  ite2 (decide (now3 > (1125899906842624 : Int))) (
  Q (.tuple #[.bool false, .int .i64 (1 : Int)])) (
  ite2 (decide (life4 < (0 : Int))) (
  Q (.tuple #[.bool false, .int .i64 (1 : Int)])) (
  ite2 (decide (life4 > (1099511627776 : Int))) (
  Q (.tuple #[.bool false, .int .i64 (1 : Int)])) (
  hoardref21_Table_Put_j1 jn Q  t0 key1 val2 now3 life4))))))) := by kernel_rfl
theorem hoardref21_Table_Put_def (t0 : Option Addr) (key1 : ByteArray) (val2 : ByteArray) (now3 : Int) (life4 : Int) (Q : Value → WP) : hoardref21_Table_Put t0 key1 val2 now3 life4 Q = funJ idJ Try.prog hoardref21_Table_Put_kp Try.f26 [.pointer t0, .string key1, .string val2, .int .i64 now3, .int .i64 life4] Q := rfl
theorem hoardref21_Table_Put_calls {t0 : Option Addr} {key1 : ByteArray} {val2 : ByteArray} {now3 : Int} {life4 : Int} {Q : Value → WP} {w : World} (h : hoardref21_Table_Put t0 key1 val2 now3 life4 Q w) : Calls Try.prog id_hoardref21_Table_Put #[.pointer t0, .string key1, .string val2, .int .i64 now3, .int .i64 life4] w fun e w' => ∃ v, e = .returned v ∧ Q v w' :=
  funJ_calls mixed Try.func26 rfl h

-- (*hoard/hoardref27.Judge).full
def hoardref27_Judge_full_kp : KP := ⟨[(8, [0])], [(3, [0, 1, 2, 3, 4, 5, 6, 7, 8, 9, 10, 11, 12, 13, 14, 16, 17, 18])]⟩
def hoardref27_Judge_full_j1 (jn : Jn) (Q : Value → WP)  (j0 : Option Addr) : WP := jn 8 (fun ρ => codeI Try.prog hoardref27_Judge_full_kp jn (cAt [true, true] (bodyOf Try.f27)) (retK Try.prog Try.f27 Q) noX (retK Try.prog Try.f27 Q) ρ) ((.pointer j0) :: us 46 [])
def hoardref27_Judge_full (j0 : Option Addr) (Q : Value → WP) : WP := funJ idJ Try.prog hoardref27_Judge_full_kp Try.f27 [.pointer j0] Q
theorem hoardref27_Judge_full_j1_raw (jn : Jn) (Q : Value → WP)  (j0 : Option Addr) : codeI Try.prog hoardref27_Judge_full_kp jn (cAt [true, true] (bodyOf Try.f27)) (retK Try.prog Try.f27 Q) noX (retK Try.prog Try.f27 Q) ((.pointer j0) :: us 46 []) = (
  drawW fun S =>
  nilck j0 fun b_13 o_14 =>
  ldS S .ptr b_13 o_14 fun (x_15 : Option Addr) =>
  nilck x_15 fun b_16 o_17 =>
  ldS S .slc b_16 o_17 fun (x_18 : Sl) =>
  nilck j0 fun b_19 o_20 =>
  ldS S (.int .i64) b_19 (o_20 + 2) fun (x_21 : Int) =>
  nilck j0 fun b_22 o_23 =>
  ld (.int .i64) b_22 (o_23 + 3) fun (x_24 : Int) =>
  keepS true S <|
  Q (.bool (decide ((x_18.n : Int) > (IntKind.wrap .i64 (x_21 * x_24)))))) := by kernel_rfl
theorem hoardref27_Judge_full_j1_def (Q : Value → WP)  (j0 : Option Addr) : hoardref27_Judge_full_j1 idJ Q  j0 = codeI Try.prog hoardref27_Judge_full_kp idJ (cAt [true, true] (bodyOf Try.f27)) (retK Try.prog Try.f27 Q) noX (retK Try.prog Try.f27 Q) ((.pointer j0) :: us 46 []) := by kernel_rfl
theorem hoardref27_Judge_full_raw (jn : Jn) (j0 : Option Addr) (Q : Value → WP) : funJ jn Try.prog hoardref27_Judge_full_kp Try.f27 [.pointer j0] Q = (
  nilck j0 fun b_1 o_2 =>
  ld (.int .i64) b_1 (o_2 + 2) fun (x_3 : Int) =>
  ite2 (decide (x_3 < (0 : Int))) (
  Q (.bool false)) (
  nilck j0 fun b_4 o_5 =>
  ld (.int .i64) b_4 (o_5 + 3) fun (x_6 : Int) =>
  ite2 (decide (x_6 < (0 : Int))) (
  Q (.bool false)) (
  nilck j0 fun b_7 o_8 =>
  ld (.int .i64) b_7 (o_8 + 2) fun (x_9 : Int) =>
  ite2 (decide (x_9 > (1048576 : Int))) (
  Q (.bool false)) (
  nilck j0 fun b_10 o_11 =>
  ld (.int .i64) b_10 (o_11 + 3) fun (x_12 : Int) =>
  ite2 (decide (x_12 > (1048576 : Int))) (
  Q (.bool false)) (
  hoardref27_Judge_full_j1 jn Q  j0))))) := by kernel_rfl
theorem hoardref27_Judge_full_def (j0 : Option Addr) (Q : Value → WP) : hoardref27_Judge_full j0 Q = funJ idJ Try.prog hoardref27_Judge_full_kp Try.f27 [.pointer j0] Q := rfl
theorem hoardref27_Judge_full_calls {j0 : Option Addr} {Q : Value → WP} {w : World} (h : hoardref27_Judge_full j0 Q w) : Calls Try.prog id_hoardref27_Judge_full #[.pointer j0] w fun e w' => ∃ v, e = .returned v ∧ Q v w' :=
  funJ_calls mixed Try.func27 rfl h

-- (*hoard/table.Table).Get
def table_Table_Get_kp : KP := ⟨[], []⟩
def table_Table_Get (t0 : Option Addr) (key1 : ByteArray) (now2 : Int) (Q : Value → WP) : WP := funJ idJ Try.prog table_Table_Get_kp Try.f28 [.pointer t0, .string key1, .int .i64 now2] Q
theorem table_Table_Get_raw (jn : Jn) (t0 : Option Addr) (key1 : ByteArray) (now2 : Int) (Q : Value → WP) : funJ jn Try.prog table_Table_Get_kp Try.f28 [.pointer t0, .string key1, .int .i64 now2] Q = (
  ite2 (Option.isNone t0) (
  Q (.tuple #[.string str_empty, .bool false])) (
  nilck t0 fun b_1 o_2 =>
  ld .ptr b_1 o_2 fun (x_3 : Option Addr) =>
  fun w => Calls Try.prog id_index_Index_table_value_Get #[.pointer x_3, .string key1] w fun e w' => ∃ x_4 : ByteArray, ∃ x_5 : Int, ∃ x_6 : Bool, e = .returned (.tuple #[.agg #[.string x_4, .int .i64 x_5], .bool x_6]) ∧ (
  newB [.string str_empty, .int .i64 (0 : Int)] ty_table_value fun b_7 =>
  st b_7 0 (.string x_4) <|
  st b_7 1 (.int .i64 x_5) <|
  ite2 (!x_6) (
  Q (.tuple #[.string str_empty, .bool false])) (
  ld .str b_7 0 fun (x_8 : ByteArray) =>
  ld (.int .i64) b_7 1 fun (x_9 : Int) =>
  call1 .bool Try.prog id_table_value_over [.agg #[.string x_8, .int .i64 x_9], .int .i64 now2] fun (x_10 : Bool) =>
  ite2 x_10 (
  Q (.tuple #[.string str_empty, .bool false])) (
  ld .str b_7 0 fun (x_11 : ByteArray) =>
  Q (.tuple #[.string x_11, .bool true])))) w')) := by kernel_rfl
theorem table_Table_Get_def (t0 : Option Addr) (key1 : ByteArray) (now2 : Int) (Q : Value → WP) : table_Table_Get t0 key1 now2 Q = funJ idJ Try.prog table_Table_Get_kp Try.f28 [.pointer t0, .string key1, .int .i64 now2] Q := rfl
theorem table_Table_Get_calls {t0 : Option Addr} {key1 : ByteArray} {now2 : Int} {Q : Value → WP} {w : World} (h : table_Table_Get t0 key1 now2 Q w) : Calls Try.prog id_table_Table_Get #[.pointer t0, .string key1, .int .i64 now2] w fun e w' => ∃ v, e = .returned v ∧ Q v w' :=
  funJ_calls mixed Try.func28 rfl h

-- (*hoard/hoardref21.Table).at
def hoardref21_Table_at_kp : KP := ⟨[(7, [0, 1, 6]), (10, [0, 1, 6])], [(4, [0, 1, 2, 3, 4, 6, 7, 8, 9, 10, 11, 13, 14, 15, 17, 18, 19, 20, 21])]⟩
def hoardref21_Table_at_j2 (jn : Jn) (Q : Value → WP)  (t0 : Option Addr) (key1 : ByteArray) (i6 : Int) : WP := jn 10 (fun ρ => codeI Try.prog hoardref21_Table_at_kp jn (cAt [true, true, true] (bodyOf Try.f29)) (retK Try.prog Try.f29 Q) noX (retK Try.prog Try.f29 Q) ρ) ((.pointer t0) :: (.string key1) :: us 4 ((.int .i64 i6) :: us 41 []))
def hoardref21_Table_at_l1 (jn : Jn) (Q : Value → WP)  (m1 : Nat) (t0 : Option Addr) (key1 : ByteArray) (i6 : Int) : WP := lop Try.prog hoardref21_Table_at_kp jn (cAt [true, true, false, false, false] (bodyOf Try.f29)) (blkX 0 (seqK Try.prog hoardref21_Table_at_kp jn (cAt [true, true, true] (bodyOf Try.f29)) (retK Try.prog Try.f29 Q) noX (retK Try.prog Try.f29 Q)) noX) (retK Try.prog Try.f29 Q) m1 ((.pointer t0) :: (.string key1) :: us 4 ((.int .i64 i6) :: us 41 []))
def hoardref21_Table_at (t0 : Option Addr) (key1 : ByteArray) (Q : Value → WP) : WP := funJ idJ Try.prog hoardref21_Table_at_kp Try.f29 [.pointer t0, .string key1] Q
theorem hoardref21_Table_at_j2_raw (jn : Jn) (Q : Value → WP)  (t0 : Option Addr) (key1 : ByteArray) (i6 : Int) : codeI Try.prog hoardref21_Table_at_kp jn (cAt [true, true, true] (bodyOf Try.f29)) (retK Try.prog Try.f29 Q) noX (retK Try.prog Try.f29 Q) ((.pointer t0) :: (.string key1) :: us 4 ((.int .i64 i6) :: us 41 [])) = (
  drawW fun S =>
  nilck t0 fun b_10 o_11 =>
  ld .slc b_10 o_11 fun (x_12 : Sl) =>
  ite2 (decide (i6 < (x_12.n : Int))) (
  nilck t0 fun b_13 o_14 =>
  ld .slc b_13 o_14 fun (x_15 : Sl) =>
  idx x_15.a x_15.n i6 fun b_16 o_17 =>
  ld .str b_16 (o_17 + (i6).toNat * 3) fun (x_18 : ByteArray) =>
  Q (.tuple #[.int .i64 i6, .bool (sEq x_18 key1)])) (
  Q (.tuple #[.int .i64 i6, .bool false]))) := by kernel_rfl
theorem hoardref21_Table_at_j2_def (Q : Value → WP)  (t0 : Option Addr) (key1 : ByteArray) (i6 : Int) : hoardref21_Table_at_j2 idJ Q  t0 key1 i6 = codeI Try.prog hoardref21_Table_at_kp idJ (cAt [true, true, true] (bodyOf Try.f29)) (retK Try.prog Try.f29 Q) noX (retK Try.prog Try.f29 Q) ((.pointer t0) :: (.string key1) :: us 4 ((.int .i64 i6) :: us 41 [])) := by kernel_rfl
theorem hoardref21_Table_at_l1_raw (jn : Jn) (Q : Value → WP)  (m1 : Nat) (t0 : Option Addr) (key1 : ByteArray) (i6 : Int) : hoardref21_Table_at_l1 jn Q  (m1 + 1) t0 key1 i6 = (
  nilck t0 fun b_1 o_2 =>
  ld .slc b_1 o_2 fun (x_3 : Sl) =>
  ite2 (decide (i6 < (x_3.n : Int))) (
  nilck t0 fun b_4 o_5 =>
  ld .slc b_4 o_5 fun (x_6 : Sl) =>
  idx x_6.a x_6.n i6 fun b_7 o_8 =>
  ld .str b_7 (o_8 + (i6).toNat * 3) fun (x_9 : ByteArray) =>
  ite2 (sLt x_9 key1) (
  hoardref21_Table_at_l1 jn Q  m1 t0 key1 (IntKind.wrap .i64 (i6 + (1 : Int)))) (
  hoardref21_Table_at_j2 jn Q  t0 key1 i6)) (
  hoardref21_Table_at_j2 jn Q  t0 key1 i6)) := by kernel_rfl
theorem hoardref21_Table_at_l1_zero (jn : Jn) (Q : Value → WP)  (t0 : Option Addr) (key1 : ByteArray) (i6 : Int) : hoardref21_Table_at_l1 jn Q  0 t0 key1 i6 = bot := by kernel_rfl
theorem hoardref21_Table_at_raw (jn : Jn) (t0 : Option Addr) (key1 : ByteArray) (Q : Value → WP) : funJ jn Try.prog hoardref21_Table_at_kp Try.f29 [.pointer t0, .string key1] Q = (
  exM fun m => hoardref21_Table_at_l1 jn Q  m t0 key1 (0 : Int)) := by kernel_rfl
theorem hoardref21_Table_at_def (t0 : Option Addr) (key1 : ByteArray) (Q : Value → WP) : hoardref21_Table_at t0 key1 Q = funJ idJ Try.prog hoardref21_Table_at_kp Try.f29 [.pointer t0, .string key1] Q := rfl
theorem hoardref21_Table_at_calls {t0 : Option Addr} {key1 : ByteArray} {Q : Value → WP} {w : World} (h : hoardref21_Table_at t0 key1 Q w) : Calls Try.prog id_hoardref21_Table_at #[.pointer t0, .string key1] w fun e w' => ∃ v, e = .returned v ∧ Q v w' :=
  funJ_calls mixed Try.func29 rfl h

-- hoard/hoardref21.over
def hoardref21_over_kp : KP := ⟨[], []⟩
def hoardref21_over (e0_0 : ByteArray) (e0_1 : ByteArray) (e0_2 : Int) (now1 : Int) (Q : Value → WP) : WP := funJ idJ Try.prog hoardref21_over_kp Try.f30 [.agg #[.string e0_0, .string e0_1, .int .i64 e0_2], .int .i64 now1] Q
theorem hoardref21_over_raw (jn : Jn) (e0_0 : ByteArray) (e0_1 : ByteArray) (e0_2 : Int) (now1 : Int) (Q : Value → WP) : funJ jn Try.prog hoardref21_over_kp Try.f30 [.agg #[.string e0_0, .string e0_1, .int .i64 e0_2], .int .i64 now1] Q = (
  newB [.string e0_0, .string e0_1, .int .i64 e0_2] ty_hoardref21_Entry fun b_1 =>
  ld (.int .i64) b_1 2 fun (x_2 : Int) =>
  ite2 (decide (x_2 > (0 : Int))) (
  ld (.int .i64) b_1 2 fun (x_3 : Int) =>
  Q (.bool (decide (x_3 ≤ now1)))) (
  Q (.bool false))) := by kernel_rfl
theorem hoardref21_over_def (e0_0 : ByteArray) (e0_1 : ByteArray) (e0_2 : Int) (now1 : Int) (Q : Value → WP) : hoardref21_over e0_0 e0_1 e0_2 now1 Q = funJ idJ Try.prog hoardref21_over_kp Try.f30 [.agg #[.string e0_0, .string e0_1, .int .i64 e0_2], .int .i64 now1] Q := rfl
theorem hoardref21_over_calls {e0_0 : ByteArray} {e0_1 : ByteArray} {e0_2 : Int} {now1 : Int} {Q : Value → WP} {w : World} (h : hoardref21_over e0_0 e0_1 e0_2 now1 Q w) : Calls Try.prog id_hoardref21_over #[.agg #[.string e0_0, .string e0_1, .int .i64 e0_2], .int .i64 now1] w fun e w' => ∃ v, e = .returned v ∧ Q v w' :=
  funJ_calls mixed Try.func30 rfl h

-- hoard/index.New[hoard/table.value]
def index_New_table_value_kp : KP := ⟨[], []⟩
def index_New_table_value (seed0 : Int) (Q : Value → WP) : WP := funJ idJ Try.prog index_New_table_value_kp Try.f31 [.int .u64 seed0] Q
theorem index_New_table_value_raw (jn : Jn) (seed0 : Int) (Q : Value → WP) : funJ jn Try.prog index_New_table_value_kp Try.f31 [.int .u64 seed0] Q = (
  makeC ty_index_place_table_value 48 [.int .i64 (0 : Int), .string str_empty, .string str_empty, .int .i64 (0 : Int)] (8 : Int) (8 : Int) fun s_1 =>
  newB [.int .u64 seed0, .slice s_1.a s_1.n s_1.c, .int .i64 (0 : Int), .int .i64 (0 : Int)] ty_index_Index_table_value fun b_2 =>
  Q (.pointer (some ⟨b_2, 0, none⟩))) := by kernel_rfl
theorem index_New_table_value_def (seed0 : Int) (Q : Value → WP) : index_New_table_value seed0 Q = funJ idJ Try.prog index_New_table_value_kp Try.f31 [.int .u64 seed0] Q := rfl
theorem index_New_table_value_calls {seed0 : Int} {Q : Value → WP} {w : World} (h : index_New_table_value seed0 Q w) : Calls Try.prog id_index_New_table_value #[.int .u64 seed0] w fun e w' => ∃ v, e = .returned v ∧ Q v w' :=
  funJ_calls mixed Try.func31 rfl h

-- (*hoard/table.Table).Has
def table_Table_Has_kp : KP := ⟨[], []⟩
def table_Table_Has (t0 : Option Addr) (key1 : ByteArray) (Q : Value → WP) : WP := funJ idJ Try.prog table_Table_Has_kp Try.f32 [.pointer t0, .string key1] Q
theorem table_Table_Has_raw (jn : Jn) (t0 : Option Addr) (key1 : ByteArray) (Q : Value → WP) : funJ jn Try.prog table_Table_Has_kp Try.f32 [.pointer t0, .string key1] Q = (
  ite2 (Option.isNone t0) (
  Q (.bool false)) (
  nilck t0 fun b_1 o_2 =>
  ld .ptr b_1 o_2 fun (x_3 : Option Addr) =>
  fun w => Calls Try.prog id_index_Index_table_value_Get #[.pointer x_3, .string key1] w fun e w' => ∃ x_4 : ByteArray, ∃ x_5 : Int, ∃ x_6 : Bool, e = .returned (.tuple #[.agg #[.string x_4, .int .i64 x_5], .bool x_6]) ∧ (
  newB [.string str_empty, .int .i64 (0 : Int)] ty_table_value fun b_7 =>
  st b_7 0 (.string x_4) <|
  st b_7 1 (.int .i64 x_5) <|
  Q (.bool x_6)) w')) := by kernel_rfl
theorem table_Table_Has_def (t0 : Option Addr) (key1 : ByteArray) (Q : Value → WP) : table_Table_Has t0 key1 Q = funJ idJ Try.prog table_Table_Has_kp Try.f32 [.pointer t0, .string key1] Q := rfl
theorem table_Table_Has_calls {t0 : Option Addr} {key1 : ByteArray} {Q : Value → WP} {w : World} (h : table_Table_Has t0 key1 Q w) : Calls Try.prog id_table_Table_Has #[.pointer t0, .string key1] w fun e w' => ∃ v, e = .returned v ∧ Q v w' :=
  funJ_calls mixed Try.func32 rfl h

-- (*hoard/table.Table).Delete
def table_Table_Delete_kp : KP := ⟨[], []⟩
def table_Table_Delete (t0 : Option Addr) (key1 : ByteArray) (Q : Value → WP) : WP := funJ idJ Try.prog table_Table_Delete_kp Try.f33 [.pointer t0, .string key1] Q
theorem table_Table_Delete_raw (jn : Jn) (t0 : Option Addr) (key1 : ByteArray) (Q : Value → WP) : funJ jn Try.prog table_Table_Delete_kp Try.f33 [.pointer t0, .string key1] Q = (
  ite2 (Option.isNone t0) (
  Q (.bool false)) (
  nilck t0 fun b_1 o_2 =>
  ld .ptr b_1 o_2 fun (x_3 : Option Addr) =>
  fun w => Calls Try.prog id_index_Index_table_value_Delete #[.pointer x_3, .string key1] w fun e w' => ∃ x_4 : ByteArray, ∃ x_5 : Int, ∃ x_6 : Bool, e = .returned (.tuple #[.agg #[.string x_4, .int .i64 x_5], .bool x_6]) ∧ (
  newB [.string str_empty, .int .i64 (0 : Int)] ty_table_value fun b_7 =>
  st b_7 0 (.string x_4) <|
  st b_7 1 (.int .i64 x_5) <|
  Q (.bool x_6)) w')) := by kernel_rfl
theorem table_Table_Delete_def (t0 : Option Addr) (key1 : ByteArray) (Q : Value → WP) : table_Table_Delete t0 key1 Q = funJ idJ Try.prog table_Table_Delete_kp Try.f33 [.pointer t0, .string key1] Q := rfl
theorem table_Table_Delete_calls {t0 : Option Addr} {key1 : ByteArray} {Q : Value → WP} {w : World} (h : table_Table_Delete t0 key1 Q w) : Calls Try.prog id_table_Table_Delete #[.pointer t0, .string key1] w fun e w' => ∃ v, e = .returned v ∧ Q v w' :=
  funJ_calls mixed Try.func33 rfl h

-- (*hoard/table.Table).Put
def table_Table_Put_kp : KP := ⟨[(20, [0, 1, 2, 3, 4]), (26, [0, 1, 12])], [(12, [0, 1, 2, 3, 4, 7, 8])]⟩
def table_Table_Put_j2 (jn : Jn) (Q : Value → WP)  (t0 : Option Addr) (key1 : ByteArray) (v12_b : Nat) (v12_o : Nat) : WP := jn 26 (fun ρ => codeI Try.prog table_Table_Put_kp jn (cAt [true, true, true, true] (bodyOf Try.f34)) (retK Try.prog Try.f34 Q) noX (retK Try.prog Try.f34 Q) ρ) ((.pointer t0) :: (.string key1) :: us 10 ((.pointer (some ⟨v12_b, v12_o, none⟩)) :: us 41 []))
def table_Table_Put_j1 (jn : Jn) (Q : Value → WP)  (t0 : Option Addr) (key1 : ByteArray) (val2 : ByteArray) (now3 : Int) (life4 : Int) : WP := jn 20 (fun ρ => codeI Try.prog table_Table_Put_kp jn (cAt [true, true] (bodyOf Try.f34)) (retK Try.prog Try.f34 Q) noX (retK Try.prog Try.f34 Q) ρ) ((.pointer t0) :: (.string key1) :: (.string val2) :: (.int .i64 now3) :: (.int .i64 life4) :: us 49 [])
def table_Table_Put (t0 : Option Addr) (key1 : ByteArray) (val2 : ByteArray) (now3 : Int) (life4 : Int) (Q : Value → WP) : WP := funJ idJ Try.prog table_Table_Put_kp Try.f34 [.pointer t0, .string key1, .string val2, .int .i64 now3, .int .i64 life4] Q
theorem table_Table_Put_j2_raw (jn : Jn) (Q : Value → WP)  (t0 : Option Addr) (key1 : ByteArray) (v12_b : Nat) (v12_o : Nat) : codeI Try.prog table_Table_Put_kp jn (cAt [true, true, true, true] (bodyOf Try.f34)) (retK Try.prog Try.f34 Q) noX (retK Try.prog Try.f34 Q) ((.pointer t0) :: (.string key1) :: us 10 ((.pointer (some ⟨v12_b, v12_o, none⟩)) :: us 41 [])) = (
  drawW fun S =>
  nilck t0 fun b_3 o_4 =>
  ldS S .ptr b_3 o_4 fun (x_5 : Option Addr) =>
  ld .str v12_b v12_o fun (x_6 : ByteArray) =>
  ld (.int .i64) v12_b (v12_o + 1) fun (x_7 : Int) =>
  keepS true S <|
  call1 .bool Try.prog id_index_Index_table_value_Put [.pointer x_5, .string key1, .agg #[.string x_6, .int .i64 x_7]] fun (x_8 : Bool) =>
  Q (.tuple #[.bool x_8, .int .i64 (0 : Int)])) := by kernel_rfl
theorem table_Table_Put_j2_def (Q : Value → WP)  (t0 : Option Addr) (key1 : ByteArray) (v12_b : Nat) (v12_o : Nat) : table_Table_Put_j2 idJ Q  t0 key1 v12_b v12_o = codeI Try.prog table_Table_Put_kp idJ (cAt [true, true, true, true] (bodyOf Try.f34)) (retK Try.prog Try.f34 Q) noX (retK Try.prog Try.f34 Q) ((.pointer t0) :: (.string key1) :: us 10 ((.pointer (some ⟨v12_b, v12_o, none⟩)) :: us 41 [])) := by kernel_rfl
theorem table_Table_Put_j1_raw (jn : Jn) (Q : Value → WP)  (t0 : Option Addr) (key1 : ByteArray) (val2 : ByteArray) (now3 : Int) (life4 : Int) : codeI Try.prog table_Table_Put_kp jn (cAt [true, true] (bodyOf Try.f34)) (retK Try.prog Try.f34 Q) noX (retK Try.prog Try.f34 Q) ((.pointer t0) :: (.string key1) :: (.string val2) :: (.int .i64 now3) :: (.int .i64 life4) :: us 49 []) = (
  newB [.string str_empty, .int .i64 (0 : Int)] ty_table_value fun b_2 =>
  st b_2 0 (.string val2) <|
  st b_2 1 (.int .i64 (0 : Int)) <|
  ite2 (decide (life4 > (0 : Int))) (
  st b_2 1 (.int .i64 (IntKind.wrap .i64 (now3 + life4))) <|
  table_Table_Put_j2 jn Q  t0 key1 b_2 0) (
  table_Table_Put_j2 jn Q  t0 key1 b_2 0)) := by kernel_rfl
theorem table_Table_Put_j1_def (Q : Value → WP)  (t0 : Option Addr) (key1 : ByteArray) (val2 : ByteArray) (now3 : Int) (life4 : Int) : table_Table_Put_j1 idJ Q  t0 key1 val2 now3 life4 = codeI Try.prog table_Table_Put_kp idJ (cAt [true, true] (bodyOf Try.f34)) (retK Try.prog Try.f34 Q) noX (retK Try.prog Try.f34 Q) ((.pointer t0) :: (.string key1) :: (.string val2) :: (.int .i64 now3) :: (.int .i64 life4) :: us 49 []) := by kernel_rfl
theorem table_Table_Put_raw (jn : Jn) (t0 : Option Addr) (key1 : ByteArray) (val2 : ByteArray) (now3 : Int) (life4 : Int) (Q : Value → WP) : funJ jn Try.prog table_Table_Put_kp Try.f34 [.pointer t0, .string key1, .string val2, .int .i64 now3, .int .i64 life4] Q = (
  ite2 (Option.isNone t0) (
  Q (.tuple #[.bool false, .int .i64 (1 : Int)])) (
  call1 .bool Try.prog id_mix_Key [.string key1] fun (x_1 : Bool) =>
  ite2 (!x_1) (
  Q (.tuple #[.bool false, .int .i64 (2 : Int)])) (
  ite2 (decide ((val2.size : Int) > (64 : Int))) (
  Q (.tuple #[.bool false, .int .i64 (3 : Int)])) (
  ite2 (decide (now3 < (0 : Int))) (
  Q (.tuple #[.bool false, .int .i64 (1 : Int)])) (
  ite2 (decide (now3 > (1125899906842624 : Int))) (
  Q (.tuple #[.bool false, .int .i64 (1 : Int)])) (
  ite2 (decide (life4 < (0 : Int))) (
  Q (.tuple #[.bool false, .int .i64 (1 : Int)])) (
  ite2 (decide (life4 > (1099511627776 : Int))) (
  Q (.tuple #[.bool false, .int .i64 (1 : Int)])) (
  table_Table_Put_j1 jn Q  t0 key1 val2 now3 life4)))))))) := by kernel_rfl
theorem table_Table_Put_def (t0 : Option Addr) (key1 : ByteArray) (val2 : ByteArray) (now3 : Int) (life4 : Int) (Q : Value → WP) : table_Table_Put t0 key1 val2 now3 life4 Q = funJ idJ Try.prog table_Table_Put_kp Try.f34 [.pointer t0, .string key1, .string val2, .int .i64 now3, .int .i64 life4] Q := rfl
theorem table_Table_Put_calls {t0 : Option Addr} {key1 : ByteArray} {val2 : ByteArray} {now3 : Int} {life4 : Int} {Q : Value → WP} {w : World} (h : table_Table_Put t0 key1 val2 now3 life4 Q w) : Calls Try.prog id_table_Table_Put #[.pointer t0, .string key1, .string val2, .int .i64 now3, .int .i64 life4] w fun e w' => ∃ v, e = .returned v ∧ Q v w' :=
  funJ_calls mixed Try.func34 rfl h

-- (*hoard/table.Table).Len
def table_Table_Len_kp : KP := ⟨[], []⟩
def table_Table_Len (t0 : Option Addr) (Q : Value → WP) : WP := funJ idJ Try.prog table_Table_Len_kp Try.f35 [.pointer t0] Q
theorem table_Table_Len_raw (jn : Jn) (t0 : Option Addr) (Q : Value → WP) : funJ jn Try.prog table_Table_Len_kp Try.f35 [.pointer t0] Q = (
  ite2 (Option.isNone t0) (
  Q (.int .i64 (0 : Int))) (
  nilck t0 fun b_1 o_2 =>
  ld .ptr b_1 o_2 fun (x_3 : Option Addr) =>
  call1 (.int .i64) Try.prog id_index_Index_table_value_Len [.pointer x_3] fun (x_4 : Int) =>
  Q (.int .i64 x_4))) := by kernel_rfl
theorem table_Table_Len_def (t0 : Option Addr) (Q : Value → WP) : table_Table_Len t0 Q = funJ idJ Try.prog table_Table_Len_kp Try.f35 [.pointer t0] Q := rfl
theorem table_Table_Len_calls {t0 : Option Addr} {Q : Value → WP} {w : World} (h : table_Table_Len t0 Q w) : Calls Try.prog id_table_Table_Len #[.pointer t0] w fun e w' => ∃ v, e = .returned v ∧ Q v w' :=
  funJ_calls mixed Try.func35 rfl h

-- hoard/hoardref27.twice
def hoardref27_twice_kp : KP := ⟨[(7, [0, 3]), (8, [0, 3]), (13, [0, 3, 4]), (20, [])], [(7, [0, 1, 2, 3, 4, 5, 6, 8])]⟩
def hoardref27_twice_j3 (jn : Jn) (Q : Value → WP) (m1 : Nat) (l0 : Sl) (i3 : Int) : WP := jn 8 (fun ρ => codeI Try.prog hoardref27_twice_kp jn (cAt [true, false, true, false, false, true, true] (bodyOf Try.f36)) (lopK Try.prog hoardref27_twice_kp jn (cAt [true, false, true, false, false] (bodyOf Try.f36)) (blkX 0 (seqK Try.prog hoardref27_twice_kp jn (cAt [true, true] (bodyOf Try.f36)) (retK Try.prog Try.f36 Q) noX (retK Try.prog Try.f36 Q)) noX) (retK Try.prog Try.f36 Q) m1) (blkX 0 (seqK Try.prog hoardref27_twice_kp jn (cAt [true, true] (bodyOf Try.f36)) (retK Try.prog Try.f36 Q) noX (retK Try.prog Try.f36 Q)) noX) (retK Try.prog Try.f36 Q) ρ) ((.slice l0.a l0.n l0.c) :: us 2 ((.int .i64 i3) :: us 21 []))
def hoardref27_twice_l2 (jn : Jn) (Q : Value → WP) (m1 : Nat) (m2 : Nat) (l0 : Sl) (i3 : Int) (k4 : Int) : WP := lop Try.prog hoardref27_twice_kp jn (cAt [true, false, true, false, false, true, false, false, true, false, false] (bodyOf Try.f36)) (blkX 2 (seqK Try.prog hoardref27_twice_kp jn (cAt [true, false, true, false, false, true, true] (bodyOf Try.f36)) (lopK Try.prog hoardref27_twice_kp jn (cAt [true, false, true, false, false] (bodyOf Try.f36)) (blkX 0 (seqK Try.prog hoardref27_twice_kp jn (cAt [true, true] (bodyOf Try.f36)) (retK Try.prog Try.f36 Q) noX (retK Try.prog Try.f36 Q)) noX) (retK Try.prog Try.f36 Q) m1) (blkX 0 (seqK Try.prog hoardref27_twice_kp jn (cAt [true, true] (bodyOf Try.f36)) (retK Try.prog Try.f36 Q) noX (retK Try.prog Try.f36 Q)) noX) (retK Try.prog Try.f36 Q)) (blkX 1 (seqK Try.prog hoardref27_twice_kp jn (cAt [true, false, true, false, false, true, true] (bodyOf Try.f36)) (lopK Try.prog hoardref27_twice_kp jn (cAt [true, false, true, false, false] (bodyOf Try.f36)) (blkX 0 (seqK Try.prog hoardref27_twice_kp jn (cAt [true, true] (bodyOf Try.f36)) (retK Try.prog Try.f36 Q) noX (retK Try.prog Try.f36 Q)) noX) (retK Try.prog Try.f36 Q) m1) (blkX 0 (seqK Try.prog hoardref27_twice_kp jn (cAt [true, true] (bodyOf Try.f36)) (retK Try.prog Try.f36 Q) noX (retK Try.prog Try.f36 Q)) noX) (retK Try.prog Try.f36 Q)) (blkX 0 (seqK Try.prog hoardref27_twice_kp jn (cAt [true, true] (bodyOf Try.f36)) (retK Try.prog Try.f36 Q) noX (retK Try.prog Try.f36 Q)) noX))) (retK Try.prog Try.f36 Q) m2 ((.slice l0.a l0.n l0.c) :: us 2 ((.int .i64 i3) :: (.int .i64 k4) :: us 20 []))
def hoardref27_twice_j4 (jn : Jn) (Q : Value → WP)   : WP := jn 20 (fun ρ => codeI Try.prog hoardref27_twice_kp jn (cAt [true, true] (bodyOf Try.f36)) (retK Try.prog Try.f36 Q) noX (retK Try.prog Try.f36 Q) ρ) (us 25 [])
def hoardref27_twice_l1 (jn : Jn) (Q : Value → WP)  (m1 : Nat) (l0 : Sl) (i3 : Int) : WP := lop Try.prog hoardref27_twice_kp jn (cAt [true, false, true, false, false] (bodyOf Try.f36)) (blkX 0 (seqK Try.prog hoardref27_twice_kp jn (cAt [true, true] (bodyOf Try.f36)) (retK Try.prog Try.f36 Q) noX (retK Try.prog Try.f36 Q)) noX) (retK Try.prog Try.f36 Q) m1 ((.slice l0.a l0.n l0.c) :: us 2 ((.int .i64 i3) :: us 21 []))
def hoardref27_twice (l0 : Sl) (Q : Value → WP) : WP := funJ idJ Try.prog hoardref27_twice_kp Try.f36 [.slice l0.a l0.n l0.c] Q
theorem hoardref27_twice_j3_raw (jn : Jn) (Q : Value → WP) (m1 : Nat) (l0 : Sl) (i3 : Int) : codeI Try.prog hoardref27_twice_kp jn (cAt [true, false, true, false, false, true, true] (bodyOf Try.f36)) (lopK Try.prog hoardref27_twice_kp jn (cAt [true, false, true, false, false] (bodyOf Try.f36)) (blkX 0 (seqK Try.prog hoardref27_twice_kp jn (cAt [true, true] (bodyOf Try.f36)) (retK Try.prog Try.f36 Q) noX (retK Try.prog Try.f36 Q)) noX) (retK Try.prog Try.f36 Q) m1) (blkX 0 (seqK Try.prog hoardref27_twice_kp jn (cAt [true, true] (bodyOf Try.f36)) (retK Try.prog Try.f36 Q) noX (retK Try.prog Try.f36 Q)) noX) (retK Try.prog Try.f36 Q) ((.slice l0.a l0.n l0.c) :: us 2 ((.int .i64 i3) :: us 21 [])) = (
  hoardref27_twice_l1 jn Q  m1 l0 (IntKind.wrap .i64 (i3 + (1 : Int)))) := by kernel_rfl
theorem hoardref27_twice_j3_def (Q : Value → WP) (m1 : Nat) (l0 : Sl) (i3 : Int) : hoardref27_twice_j3 idJ Q m1 l0 i3 = codeI Try.prog hoardref27_twice_kp idJ (cAt [true, false, true, false, false, true, true] (bodyOf Try.f36)) (lopK Try.prog hoardref27_twice_kp idJ (cAt [true, false, true, false, false] (bodyOf Try.f36)) (blkX 0 (seqK Try.prog hoardref27_twice_kp idJ (cAt [true, true] (bodyOf Try.f36)) (retK Try.prog Try.f36 Q) noX (retK Try.prog Try.f36 Q)) noX) (retK Try.prog Try.f36 Q) m1) (blkX 0 (seqK Try.prog hoardref27_twice_kp idJ (cAt [true, true] (bodyOf Try.f36)) (retK Try.prog Try.f36 Q) noX (retK Try.prog Try.f36 Q)) noX) (retK Try.prog Try.f36 Q) ((.slice l0.a l0.n l0.c) :: us 2 ((.int .i64 i3) :: us 21 [])) := by kernel_rfl
theorem hoardref27_twice_l2_raw (jn : Jn) (Q : Value → WP) (m1 : Nat) (m2 : Nat) (l0 : Sl) (i3 : Int) (k4 : Int) : hoardref27_twice_l2 jn Q m1 (m2 + 1) l0 i3 k4 = (
  ite2 (decide (k4 < i3)) (
  drawW fun S =>
  idx l0.a l0.n i3 fun b_1 o_2 =>
  ldS S .str b_1 (o_2 + (i3).toNat * 1) fun (x_3 : ByteArray) =>
  idx l0.a l0.n k4 fun b_4 o_5 =>
  ld .str b_4 (o_5 + (k4).toNat * 1) fun (x_6 : ByteArray) =>
  keepS true S <|
  ite2 (sEq x_3 x_6) (
  Q (.bool true)) (
  hoardref27_twice_l2 jn Q m1 m2 l0 i3 (IntKind.wrap .i64 (k4 + (1 : Int))))) (
  hoardref27_twice_j3 jn Q m1 l0 i3)) := by kernel_rfl
theorem hoardref27_twice_l2_zero (jn : Jn) (Q : Value → WP) (m1 : Nat) (l0 : Sl) (i3 : Int) (k4 : Int) : hoardref27_twice_l2 jn Q m1 0 l0 i3 k4 = bot := by kernel_rfl
theorem hoardref27_twice_j4_raw (jn : Jn) (Q : Value → WP)   : codeI Try.prog hoardref27_twice_kp jn (cAt [true, true] (bodyOf Try.f36)) (retK Try.prog Try.f36 Q) noX (retK Try.prog Try.f36 Q) (us 25 []) = (
  Q (.bool false)) := by kernel_rfl
theorem hoardref27_twice_j4_def (Q : Value → WP)   : hoardref27_twice_j4 idJ Q   = codeI Try.prog hoardref27_twice_kp idJ (cAt [true, true] (bodyOf Try.f36)) (retK Try.prog Try.f36 Q) noX (retK Try.prog Try.f36 Q) (us 25 []) := by kernel_rfl
theorem hoardref27_twice_l1_raw (jn : Jn) (Q : Value → WP)  (m1 : Nat) (l0 : Sl) (i3 : Int) : hoardref27_twice_l1 jn Q  (m1 + 1) l0 i3 = (
  ite2 (decide (i3 < (l0.n : Int))) (
  exM fun m => hoardref27_twice_l2 jn Q m1 m l0 i3 (0 : Int)) (
  hoardref27_twice_j4 jn Q  )) := by kernel_rfl
theorem hoardref27_twice_l1_zero (jn : Jn) (Q : Value → WP)  (l0 : Sl) (i3 : Int) : hoardref27_twice_l1 jn Q  0 l0 i3 = bot := by kernel_rfl
theorem hoardref27_twice_raw (jn : Jn) (l0 : Sl) (Q : Value → WP) : funJ jn Try.prog hoardref27_twice_kp Try.f36 [.slice l0.a l0.n l0.c] Q = (
  exM fun m => hoardref27_twice_l1 jn Q  m l0 (0 : Int)) := by kernel_rfl
theorem hoardref27_twice_def (l0 : Sl) (Q : Value → WP) : hoardref27_twice l0 Q = funJ idJ Try.prog hoardref27_twice_kp Try.f36 [.slice l0.a l0.n l0.c] Q := rfl
theorem hoardref27_twice_calls {l0 : Sl} {Q : Value → WP} {w : World} (h : hoardref27_twice l0 Q w) : Calls Try.prog id_hoardref27_twice #[.slice l0.a l0.n l0.c] w fun e w' => ∃ v, e = .returned v ∧ Q v w' :=
  funJ_calls mixed Try.func36 rfl h

-- (*hoard/hoardref21.Table).Has
def hoardref21_Table_Has_kp : KP := ⟨[], []⟩
def hoardref21_Table_Has (t0 : Option Addr) (key1 : ByteArray) (Q : Value → WP) : WP := funJ idJ Try.prog hoardref21_Table_Has_kp Try.f37 [.pointer t0, .string key1] Q
theorem hoardref21_Table_Has_raw (jn : Jn) (t0 : Option Addr) (key1 : ByteArray) (Q : Value → WP) : funJ jn Try.prog hoardref21_Table_Has_kp Try.f37 [.pointer t0, .string key1] Q = (
  call2 (.int .i64) .bool Try.prog id_hoardref21_Table_at [.pointer t0, .string key1] fun (x_1 : Int) (x_2 : Bool) =>
  Q (.bool x_2)) := by kernel_rfl
theorem hoardref21_Table_Has_def (t0 : Option Addr) (key1 : ByteArray) (Q : Value → WP) : hoardref21_Table_Has t0 key1 Q = funJ idJ Try.prog hoardref21_Table_Has_kp Try.f37 [.pointer t0, .string key1] Q := rfl
theorem hoardref21_Table_Has_calls {t0 : Option Addr} {key1 : ByteArray} {Q : Value → WP} {w : World} (h : hoardref21_Table_Has t0 key1 Q w) : Calls Try.prog id_hoardref21_Table_Has #[.pointer t0, .string key1] w fun e w' => ∃ v, e = .returned v ∧ Q v w' :=
  funJ_calls mixed Try.func37 rfl h

-- hoard/hoardref1.Key
def hoardref1_Key_kp : KP := ⟨[(7, [0, 3]), (10, [0, 3]), (14, [0, 3, 4, 5]), (18, [0])], []⟩
def hoardref1_Key_j3 (jn : Jn) (Q : Value → WP) (m1 : Nat) (s0 : ByteArray) (i3 : Int) (c4 : Int) (ok5 : Bool) : WP := jn 14 (fun ρ => codeI Try.prog hoardref1_Key_kp jn (cAt [true, false, true, false, false, true, false, false, true, true] (bodyOf Try.f38)) (seqK Try.prog hoardref1_Key_kp jn (cAt [true, false, true, false, false, true, true] (bodyOf Try.f38)) (lopK Try.prog hoardref1_Key_kp jn (cAt [true, false, true, false, false] (bodyOf Try.f38)) (blkX 0 (seqK Try.prog hoardref1_Key_kp jn (cAt [true, true] (bodyOf Try.f38)) (retK Try.prog Try.f38 Q) noX (retK Try.prog Try.f38 Q)) noX) (retK Try.prog Try.f38 Q) m1) (blkX 0 (seqK Try.prog hoardref1_Key_kp jn (cAt [true, true] (bodyOf Try.f38)) (retK Try.prog Try.f38 Q) noX (retK Try.prog Try.f38 Q)) noX) (retK Try.prog Try.f38 Q)) (blkX 1 (seqK Try.prog hoardref1_Key_kp jn (cAt [true, false, true, false, false, true, true] (bodyOf Try.f38)) (lopK Try.prog hoardref1_Key_kp jn (cAt [true, false, true, false, false] (bodyOf Try.f38)) (blkX 0 (seqK Try.prog hoardref1_Key_kp jn (cAt [true, true] (bodyOf Try.f38)) (retK Try.prog Try.f38 Q) noX (retK Try.prog Try.f38 Q)) noX) (retK Try.prog Try.f38 Q) m1) (blkX 0 (seqK Try.prog hoardref1_Key_kp jn (cAt [true, true] (bodyOf Try.f38)) (retK Try.prog Try.f38 Q) noX (retK Try.prog Try.f38 Q)) noX) (retK Try.prog Try.f38 Q)) (blkX 0 (seqK Try.prog hoardref1_Key_kp jn (cAt [true, true] (bodyOf Try.f38)) (retK Try.prog Try.f38 Q) noX (retK Try.prog Try.f38 Q)) noX)) (retK Try.prog Try.f38 Q) ρ) ((.string s0) :: us 2 ((.int .i64 i3) :: (.int .u8 c4) :: (.bool ok5) :: us 65 []))
def hoardref1_Key_j2 (jn : Jn) (Q : Value → WP) (m1 : Nat) (s0 : ByteArray) (i3 : Int) : WP := jn 10 (fun ρ => codeI Try.prog hoardref1_Key_kp jn (cAt [true, false, true, false, false, true] (bodyOf Try.f38)) (lopK Try.prog hoardref1_Key_kp jn (cAt [true, false, true, false, false] (bodyOf Try.f38)) (blkX 0 (seqK Try.prog hoardref1_Key_kp jn (cAt [true, true] (bodyOf Try.f38)) (retK Try.prog Try.f38 Q) noX (retK Try.prog Try.f38 Q)) noX) (retK Try.prog Try.f38 Q) m1) (blkX 0 (seqK Try.prog hoardref1_Key_kp jn (cAt [true, true] (bodyOf Try.f38)) (retK Try.prog Try.f38 Q) noX (retK Try.prog Try.f38 Q)) noX) (retK Try.prog Try.f38 Q) ρ) ((.string s0) :: us 2 ((.int .i64 i3) :: us 67 []))
def hoardref1_Key_j4 (jn : Jn) (Q : Value → WP)  (s0 : ByteArray) : WP := jn 18 (fun ρ => codeI Try.prog hoardref1_Key_kp jn (cAt [true, true] (bodyOf Try.f38)) (retK Try.prog Try.f38 Q) noX (retK Try.prog Try.f38 Q) ρ) ((.string s0) :: us 70 [])
def hoardref1_Key_l1 (jn : Jn) (Q : Value → WP)  (m1 : Nat) (s0 : ByteArray) (i3 : Int) : WP := lop Try.prog hoardref1_Key_kp jn (cAt [true, false, true, false, false] (bodyOf Try.f38)) (blkX 0 (seqK Try.prog hoardref1_Key_kp jn (cAt [true, true] (bodyOf Try.f38)) (retK Try.prog Try.f38 Q) noX (retK Try.prog Try.f38 Q)) noX) (retK Try.prog Try.f38 Q) m1 ((.string s0) :: us 2 ((.int .i64 i3) :: us 67 []))
def hoardref1_Key (s0 : ByteArray) (Q : Value → WP) : WP := funJ idJ Try.prog hoardref1_Key_kp Try.f38 [.string s0] Q
theorem hoardref1_Key_j3_raw (jn : Jn) (Q : Value → WP) (m1 : Nat) (s0 : ByteArray) (i3 : Int) (c4 : Int) (ok5 : Bool) : codeI Try.prog hoardref1_Key_kp jn (cAt [true, false, true, false, false, true, false, false, true, true] (bodyOf Try.f38)) (seqK Try.prog hoardref1_Key_kp jn (cAt [true, false, true, false, false, true, true] (bodyOf Try.f38)) (lopK Try.prog hoardref1_Key_kp jn (cAt [true, false, true, false, false] (bodyOf Try.f38)) (blkX 0 (seqK Try.prog hoardref1_Key_kp jn (cAt [true, true] (bodyOf Try.f38)) (retK Try.prog Try.f38 Q) noX (retK Try.prog Try.f38 Q)) noX) (retK Try.prog Try.f38 Q) m1) (blkX 0 (seqK Try.prog hoardref1_Key_kp jn (cAt [true, true] (bodyOf Try.f38)) (retK Try.prog Try.f38 Q) noX (retK Try.prog Try.f38 Q)) noX) (retK Try.prog Try.f38 Q)) (blkX 1 (seqK Try.prog hoardref1_Key_kp jn (cAt [true, false, true, false, false, true, true] (bodyOf Try.f38)) (lopK Try.prog hoardref1_Key_kp jn (cAt [true, false, true, false, false] (bodyOf Try.f38)) (blkX 0 (seqK Try.prog hoardref1_Key_kp jn (cAt [true, true] (bodyOf Try.f38)) (retK Try.prog Try.f38 Q) noX (retK Try.prog Try.f38 Q)) noX) (retK Try.prog Try.f38 Q) m1) (blkX 0 (seqK Try.prog hoardref1_Key_kp jn (cAt [true, true] (bodyOf Try.f38)) (retK Try.prog Try.f38 Q) noX (retK Try.prog Try.f38 Q)) noX) (retK Try.prog Try.f38 Q)) (blkX 0 (seqK Try.prog hoardref1_Key_kp jn (cAt [true, true] (bodyOf Try.f38)) (retK Try.prog Try.f38 Q) noX (retK Try.prog Try.f38 Q)) noX)) (retK Try.prog Try.f38 Q) ((.string s0) :: us 2 ((.int .i64 i3) :: (.int .u8 c4) :: (.bool ok5) :: us 65 [])) = (
  ite2 (!ok5) (
  ite2 (c4 != (95 : Int)) (
  ite2 (c4 != (45 : Int)) (
  ite2 (c4 != (46 : Int)) (
  ite2 (c4 != (47 : Int)) (
  ite2 (c4 != (58 : Int)) (
  Q (.bool false)) (
  hoardref1_Key_l1 jn Q  m1 s0 (IntKind.wrap .i64 (i3 + (1 : Int))))) (
  hoardref1_Key_l1 jn Q  m1 s0 (IntKind.wrap .i64 (i3 + (1 : Int))))) (
  hoardref1_Key_l1 jn Q  m1 s0 (IntKind.wrap .i64 (i3 + (1 : Int))))) (
  hoardref1_Key_l1 jn Q  m1 s0 (IntKind.wrap .i64 (i3 + (1 : Int))))) (
  hoardref1_Key_l1 jn Q  m1 s0 (IntKind.wrap .i64 (i3 + (1 : Int))))) (
  hoardref1_Key_l1 jn Q  m1 s0 (IntKind.wrap .i64 (i3 + (1 : Int))))) := by kernel_rfl
theorem hoardref1_Key_j3_def (Q : Value → WP) (m1 : Nat) (s0 : ByteArray) (i3 : Int) (c4 : Int) (ok5 : Bool) : hoardref1_Key_j3 idJ Q m1 s0 i3 c4 ok5 = codeI Try.prog hoardref1_Key_kp idJ (cAt [true, false, true, false, false, true, false, false, true, true] (bodyOf Try.f38)) (seqK Try.prog hoardref1_Key_kp idJ (cAt [true, false, true, false, false, true, true] (bodyOf Try.f38)) (lopK Try.prog hoardref1_Key_kp idJ (cAt [true, false, true, false, false] (bodyOf Try.f38)) (blkX 0 (seqK Try.prog hoardref1_Key_kp idJ (cAt [true, true] (bodyOf Try.f38)) (retK Try.prog Try.f38 Q) noX (retK Try.prog Try.f38 Q)) noX) (retK Try.prog Try.f38 Q) m1) (blkX 0 (seqK Try.prog hoardref1_Key_kp idJ (cAt [true, true] (bodyOf Try.f38)) (retK Try.prog Try.f38 Q) noX (retK Try.prog Try.f38 Q)) noX) (retK Try.prog Try.f38 Q)) (blkX 1 (seqK Try.prog hoardref1_Key_kp idJ (cAt [true, false, true, false, false, true, true] (bodyOf Try.f38)) (lopK Try.prog hoardref1_Key_kp idJ (cAt [true, false, true, false, false] (bodyOf Try.f38)) (blkX 0 (seqK Try.prog hoardref1_Key_kp idJ (cAt [true, true] (bodyOf Try.f38)) (retK Try.prog Try.f38 Q) noX (retK Try.prog Try.f38 Q)) noX) (retK Try.prog Try.f38 Q) m1) (blkX 0 (seqK Try.prog hoardref1_Key_kp idJ (cAt [true, true] (bodyOf Try.f38)) (retK Try.prog Try.f38 Q) noX (retK Try.prog Try.f38 Q)) noX) (retK Try.prog Try.f38 Q)) (blkX 0 (seqK Try.prog hoardref1_Key_kp idJ (cAt [true, true] (bodyOf Try.f38)) (retK Try.prog Try.f38 Q) noX (retK Try.prog Try.f38 Q)) noX)) (retK Try.prog Try.f38 Q) ((.string s0) :: us 2 ((.int .i64 i3) :: (.int .u8 c4) :: (.bool ok5) :: us 65 [])) := by kernel_rfl
theorem hoardref1_Key_j2_raw (jn : Jn) (Q : Value → WP) (m1 : Nat) (s0 : ByteArray) (i3 : Int) : codeI Try.prog hoardref1_Key_kp jn (cAt [true, false, true, false, false, true] (bodyOf Try.f38)) (lopK Try.prog hoardref1_Key_kp jn (cAt [true, false, true, false, false] (bodyOf Try.f38)) (blkX 0 (seqK Try.prog hoardref1_Key_kp jn (cAt [true, true] (bodyOf Try.f38)) (retK Try.prog Try.f38 Q) noX (retK Try.prog Try.f38 Q)) noX) (retK Try.prog Try.f38 Q) m1) (blkX 0 (seqK Try.prog hoardref1_Key_kp jn (cAt [true, true] (bodyOf Try.f38)) (retK Try.prog Try.f38 Q) noX (retK Try.prog Try.f38 Q)) noX) (retK Try.prog Try.f38 Q) ((.string s0) :: us 2 ((.int .i64 i3) :: us 67 [])) = (
  when ((0 : Int) ≤ i3 ∧ i3 < (s0.size : Int)) <|
  ite2 (decide ((byteAt s0 (i3).toNat) ≥ (97 : Int))) (
  ite2 (decide ((byteAt s0 (i3).toNat) ≤ (122 : Int))) (
  hoardref1_Key_j3 jn Q m1 s0 i3 (byteAt s0 (i3).toNat) true) (
  ite2 (decide ((byteAt s0 (i3).toNat) ≥ (65 : Int))) (
  ite2 (decide ((byteAt s0 (i3).toNat) ≤ (90 : Int))) (
  hoardref1_Key_j3 jn Q m1 s0 i3 (byteAt s0 (i3).toNat) true) (
  ite2 (decide ((byteAt s0 (i3).toNat) ≥ (48 : Int))) (
  hoardref1_Key_j3 jn Q m1 s0 i3 (byteAt s0 (i3).toNat) (decide ((byteAt s0 (i3).toNat) ≤ (57 : Int)))) (
  hoardref1_Key_j3 jn Q m1 s0 i3 (byteAt s0 (i3).toNat) false))) (
  ite2 (decide ((byteAt s0 (i3).toNat) ≥ (48 : Int))) (
  hoardref1_Key_j3 jn Q m1 s0 i3 (byteAt s0 (i3).toNat) (decide ((byteAt s0 (i3).toNat) ≤ (57 : Int)))) (
  hoardref1_Key_j3 jn Q m1 s0 i3 (byteAt s0 (i3).toNat) false)))) (
  ite2 (decide ((byteAt s0 (i3).toNat) ≥ (65 : Int))) (
  ite2 (decide ((byteAt s0 (i3).toNat) ≤ (90 : Int))) (
  hoardref1_Key_j3 jn Q m1 s0 i3 (byteAt s0 (i3).toNat) true) (
  ite2 (decide ((byteAt s0 (i3).toNat) ≥ (48 : Int))) (
  hoardref1_Key_j3 jn Q m1 s0 i3 (byteAt s0 (i3).toNat) (decide ((byteAt s0 (i3).toNat) ≤ (57 : Int)))) (
  hoardref1_Key_j3 jn Q m1 s0 i3 (byteAt s0 (i3).toNat) false))) (
  ite2 (decide ((byteAt s0 (i3).toNat) ≥ (48 : Int))) (
  hoardref1_Key_j3 jn Q m1 s0 i3 (byteAt s0 (i3).toNat) (decide ((byteAt s0 (i3).toNat) ≤ (57 : Int)))) (
  hoardref1_Key_j3 jn Q m1 s0 i3 (byteAt s0 (i3).toNat) false)))) := by kernel_rfl
theorem hoardref1_Key_j2_def (Q : Value → WP) (m1 : Nat) (s0 : ByteArray) (i3 : Int) : hoardref1_Key_j2 idJ Q m1 s0 i3 = codeI Try.prog hoardref1_Key_kp idJ (cAt [true, false, true, false, false, true] (bodyOf Try.f38)) (lopK Try.prog hoardref1_Key_kp idJ (cAt [true, false, true, false, false] (bodyOf Try.f38)) (blkX 0 (seqK Try.prog hoardref1_Key_kp idJ (cAt [true, true] (bodyOf Try.f38)) (retK Try.prog Try.f38 Q) noX (retK Try.prog Try.f38 Q)) noX) (retK Try.prog Try.f38 Q) m1) (blkX 0 (seqK Try.prog hoardref1_Key_kp idJ (cAt [true, true] (bodyOf Try.f38)) (retK Try.prog Try.f38 Q) noX (retK Try.prog Try.f38 Q)) noX) (retK Try.prog Try.f38 Q) ((.string s0) :: us 2 ((.int .i64 i3) :: us 67 [])) := by kernel_rfl
theorem hoardref1_Key_j4_raw (jn : Jn) (Q : Value → WP)  (s0 : ByteArray) : codeI Try.prog hoardref1_Key_kp jn (cAt [true, true] (bodyOf Try.f38)) (retK Try.prog Try.f38 Q) noX (retK Try.prog Try.f38 Q) ((.string s0) :: us 70 []) = (
  ite2 (decide ((s0.size : Int) ≥ (1 : Int))) (
  Q (.bool (decide ((s0.size : Int) ≤ (24 : Int))))) (
  Q (.bool false))) := by kernel_rfl
theorem hoardref1_Key_j4_def (Q : Value → WP)  (s0 : ByteArray) : hoardref1_Key_j4 idJ Q  s0 = codeI Try.prog hoardref1_Key_kp idJ (cAt [true, true] (bodyOf Try.f38)) (retK Try.prog Try.f38 Q) noX (retK Try.prog Try.f38 Q) ((.string s0) :: us 70 []) := by kernel_rfl
theorem hoardref1_Key_l1_raw (jn : Jn) (Q : Value → WP)  (m1 : Nat) (s0 : ByteArray) (i3 : Int) : hoardref1_Key_l1 jn Q  (m1 + 1) s0 i3 = (
  ite2 (decide (i3 < (s0.size : Int))) (
  ite2 (decide (i3 ≤ (24 : Int))) (
  hoardref1_Key_j2 jn Q m1 s0 i3) (
  hoardref1_Key_j4 jn Q  s0)) (
  hoardref1_Key_j4 jn Q  s0)) := by kernel_rfl
theorem hoardref1_Key_l1_zero (jn : Jn) (Q : Value → WP)  (s0 : ByteArray) (i3 : Int) : hoardref1_Key_l1 jn Q  0 s0 i3 = bot := by kernel_rfl
theorem hoardref1_Key_raw (jn : Jn) (s0 : ByteArray) (Q : Value → WP) : funJ jn Try.prog hoardref1_Key_kp Try.f38 [.string s0] Q = (
  exM fun m => hoardref1_Key_l1 jn Q  m s0 (0 : Int)) := by kernel_rfl
theorem hoardref1_Key_def (s0 : ByteArray) (Q : Value → WP) : hoardref1_Key s0 Q = funJ idJ Try.prog hoardref1_Key_kp Try.f38 [.string s0] Q := rfl
theorem hoardref1_Key_calls {s0 : ByteArray} {Q : Value → WP} {w : World} (h : hoardref1_Key s0 Q w) : Calls Try.prog id_hoardref1_Key #[.string s0] w fun e w' => ∃ v, e = .returned v ∧ Q v w' :=
  funJ_calls mixed Try.func38 rfl h

-- (*hoard/index.Index[hoard/table.value]).Get
def index_Index_table_value_Get_kp : KP := ⟨[(12, [4])], []⟩
def index_Index_table_value_Get_j1 (jn : Jn) (Q : Value → WP)  (t4_b : Nat) (t4_o : Nat) : WP := jn 12 (fun ρ => codeI Try.prog index_Index_table_value_Get_kp jn (cAt [true, true] (bodyOf Try.f39)) (retK Try.prog Try.f39 Q) noX (retK Try.prog Try.f39 Q) ρ) (us 4 ((.pointer (some ⟨t4_b, t4_o, none⟩)) :: us 22 []))
def index_Index_table_value_Get (x0 : Option Addr) (key1 : ByteArray) (Q : Value → WP) : WP := funJ idJ Try.prog index_Index_table_value_Get_kp Try.f39 [.pointer x0, .string key1] Q
theorem index_Index_table_value_Get_j1_raw (jn : Jn) (Q : Value → WP)  (t4_b : Nat) (t4_o : Nat) : codeI Try.prog index_Index_table_value_Get_kp jn (cAt [true, true] (bodyOf Try.f39)) (retK Try.prog Try.f39 Q) noX (retK Try.prog Try.f39 Q) (us 4 ((.pointer (some ⟨t4_b, t4_o, none⟩)) :: us 22 [])) = (
  newB [.string str_empty, .int .i64 (0 : Int)] ty_table_value fun b_13 =>
  ld .str b_13 0 fun (x_14 : ByteArray) =>
  ld (.int .i64) b_13 1 fun (x_15 : Int) =>
  st t4_b t4_o (.string x_14) <|
  st t4_b (t4_o + 1) (.int .i64 x_15) <|
  ld .str t4_b t4_o fun (x_16 : ByteArray) =>
  ld (.int .i64) t4_b (t4_o + 1) fun (x_17 : Int) =>
  Q (.tuple #[.agg #[.string x_16, .int .i64 x_17], .bool false])) := by kernel_rfl
theorem index_Index_table_value_Get_j1_def (Q : Value → WP)  (t4_b : Nat) (t4_o : Nat) : index_Index_table_value_Get_j1 idJ Q  t4_b t4_o = codeI Try.prog index_Index_table_value_Get_kp idJ (cAt [true, true] (bodyOf Try.f39)) (retK Try.prog Try.f39 Q) noX (retK Try.prog Try.f39 Q) (us 4 ((.pointer (some ⟨t4_b, t4_o, none⟩)) :: us 22 [])) := by kernel_rfl
theorem index_Index_table_value_Get_raw (jn : Jn) (x0 : Option Addr) (key1 : ByteArray) (Q : Value → WP) : funJ jn Try.prog index_Index_table_value_Get_kp Try.f39 [.pointer x0, .string key1] Q = (
  newB [.string str_empty, .int .i64 (0 : Int)] ty_table_value fun b_1 =>
  ite2 (!Option.isNone x0) (
  call2 (.int .i64) .bool Try.prog id_index_Index_table_value_find [.pointer x0, .string key1] fun (x_2 : Int) (x_3 : Bool) =>
  ite2 x_3 (
  nilck x0 fun b_4 o_5 =>
  ld .slc b_4 (o_5 + 1) fun (x_6 : Sl) =>
  idx x_6.a x_6.n x_2 fun b_7 o_8 =>
  ld .str b_7 ((o_8 + (x_2).toNat * 4) + 2) fun (x_9 : ByteArray) =>
  ld (.int .i64) b_7 (((o_8 + (x_2).toNat * 4) + 2) + 1) fun (x_10 : Int) =>
  st b_1 0 (.string x_9) <|
  st b_1 1 (.int .i64 x_10) <|
  ld .str b_1 0 fun (x_11 : ByteArray) =>
  ld (.int .i64) b_1 1 fun (x_12 : Int) =>
  Q (.tuple #[.agg #[.string x_11, .int .i64 x_12], .bool true])) (
  index_Index_table_value_Get_j1 jn Q  b_1 0)) (
  index_Index_table_value_Get_j1 jn Q  b_1 0)) := by kernel_rfl
theorem index_Index_table_value_Get_def (x0 : Option Addr) (key1 : ByteArray) (Q : Value → WP) : index_Index_table_value_Get x0 key1 Q = funJ idJ Try.prog index_Index_table_value_Get_kp Try.f39 [.pointer x0, .string key1] Q := rfl
theorem index_Index_table_value_Get_calls {x0 : Option Addr} {key1 : ByteArray} {Q : Value → WP} {w : World} (h : index_Index_table_value_Get x0 key1 Q w) : Calls Try.prog id_index_Index_table_value_Get #[.pointer x0, .string key1] w fun e w' => ∃ v, e = .returned v ∧ Q v w' :=
  funJ_calls mixed Try.func39 rfl h

-- (hoard/table.value).over
def table_value_over_kp : KP := ⟨[], []⟩
def table_value_over (v0_0 : ByteArray) (v0_1 : Int) (now1 : Int) (Q : Value → WP) : WP := funJ idJ Try.prog table_value_over_kp Try.f40 [.agg #[.string v0_0, .int .i64 v0_1], .int .i64 now1] Q
theorem table_value_over_raw (jn : Jn) (v0_0 : ByteArray) (v0_1 : Int) (now1 : Int) (Q : Value → WP) : funJ jn Try.prog table_value_over_kp Try.f40 [.agg #[.string v0_0, .int .i64 v0_1], .int .i64 now1] Q = (
  newB [.string v0_0, .int .i64 v0_1] ty_table_value fun b_1 =>
  ld (.int .i64) b_1 1 fun (x_2 : Int) =>
  ite2 (x_2 != (0 : Int)) (
  ld (.int .i64) b_1 1 fun (x_3 : Int) =>
  Q (.bool (decide (x_3 ≤ now1)))) (
  Q (.bool false))) := by kernel_rfl
theorem table_value_over_def (v0_0 : ByteArray) (v0_1 : Int) (now1 : Int) (Q : Value → WP) : table_value_over v0_0 v0_1 now1 Q = funJ idJ Try.prog table_value_over_kp Try.f40 [.agg #[.string v0_0, .int .i64 v0_1], .int .i64 now1] Q := rfl
theorem table_value_over_calls {v0_0 : ByteArray} {v0_1 : Int} {now1 : Int} {Q : Value → WP} {w : World} (h : table_value_over v0_0 v0_1 now1 Q w) : Calls Try.prog id_table_value_over #[.agg #[.string v0_0, .int .i64 v0_1], .int .i64 now1] w fun e w' => ∃ v, e = .returned v ∧ Q v w' :=
  funJ_calls mixed Try.func40 rfl h

-- (*hoard/index.Index[hoard/table.value]).Delete
def index_Index_table_value_Delete_kp : KP := ⟨[], []⟩
def index_Index_table_value_Delete (x0 : Option Addr) (key1 : ByteArray) (Q : Value → WP) : WP := funJ idJ Try.prog index_Index_table_value_Delete_kp Try.f41 [.pointer x0, .string key1] Q
theorem index_Index_table_value_Delete_raw (jn : Jn) (x0 : Option Addr) (key1 : ByteArray) (Q : Value → WP) : funJ jn Try.prog index_Index_table_value_Delete_kp Try.f41 [.pointer x0, .string key1] Q = (
  newB [.string str_empty, .int .i64 (0 : Int)] ty_table_value fun b_1 =>
  fun w => Calls Try.prog id_index_Index_table_value_Get #[.pointer x0, .string key1] w fun e w' => ∃ x_2 : ByteArray, ∃ x_3 : Int, ∃ x_4 : Bool, e = .returned (.tuple #[.agg #[.string x_2, .int .i64 x_3], .bool x_4]) ∧ (
  newB [.string str_empty, .int .i64 (0 : Int)] ty_table_value fun b_5 =>
  st b_5 0 (.string x_2) <|
  st b_5 1 (.int .i64 x_3) <|
  ite2 x_4 (
  call2 (.int .i64) .bool Try.prog id_index_Index_table_value_find [.pointer x0, .string key1] fun (x_6 : Int) (x_7 : Bool) =>
  nilck x0 fun b_8 o_9 =>
  ld .slc b_8 (o_9 + 1) fun (x_10 : Sl) =>
  idx x_10.a x_10.n x_6 fun b_11 o_12 =>
  st b_11 (o_12 + (x_6).toNat * 4) (.int .i64 (1 : Int)) <|
  st b_11 ((o_12 + (x_6).toNat * 4) + 1) (.string str_empty) <|
  st b_11 (((o_12 + (x_6).toNat * 4) + 1) + 1) (.string str_empty) <|
  st b_11 ((((o_12 + (x_6).toNat * 4) + 1) + 1) + 1) (.int .i64 (0 : Int)) <|
  nilck x0 fun b_13 o_14 =>
  ld (.int .i64) b_13 (o_14 + 2) fun (x_15 : Int) =>
  nilck x0 fun b_16 o_17 =>
  st b_16 (o_17 + 2) (.int .i64 (IntKind.wrap .i64 (x_15 - (1 : Int)))) <|
  ld .str b_5 0 fun (x_18 : ByteArray) =>
  ld (.int .i64) b_5 1 fun (x_19 : Int) =>
  st b_1 0 (.string x_18) <|
  st b_1 1 (.int .i64 x_19) <|
  ld .str b_1 0 fun (x_20 : ByteArray) =>
  ld (.int .i64) b_1 1 fun (x_21 : Int) =>
  Q (.tuple #[.agg #[.string x_20, .int .i64 x_21], .bool x_4])) (
  ld .str b_5 0 fun (x_22 : ByteArray) =>
  ld (.int .i64) b_5 1 fun (x_23 : Int) =>
  st b_1 0 (.string x_22) <|
  st b_1 1 (.int .i64 x_23) <|
  ld .str b_1 0 fun (x_24 : ByteArray) =>
  ld (.int .i64) b_1 1 fun (x_25 : Int) =>
  Q (.tuple #[.agg #[.string x_24, .int .i64 x_25], .bool x_4]))) w') := by kernel_rfl
theorem index_Index_table_value_Delete_def (x0 : Option Addr) (key1 : ByteArray) (Q : Value → WP) : index_Index_table_value_Delete x0 key1 Q = funJ idJ Try.prog index_Index_table_value_Delete_kp Try.f41 [.pointer x0, .string key1] Q := rfl
theorem index_Index_table_value_Delete_calls {x0 : Option Addr} {key1 : ByteArray} {Q : Value → WP} {w : World} (h : index_Index_table_value_Delete x0 key1 Q w) : Calls Try.prog id_index_Index_table_value_Delete #[.pointer x0, .string key1] w fun e w' => ∃ v, e = .returned v ∧ Q v w' :=
  funJ_calls mixed Try.func41 rfl h

-- hoard/mix.Key
def mix_Key_kp : KP := ⟨[(8, [0]), (11, [0, 14, 15]), (22, [])], []⟩
def mix_Key_j3 (jn : Jn) (Q : Value → WP)   : WP := jn 22 (fun ρ => codeI Try.prog mix_Key_kp jn (cAt [true, true, true] (bodyOf Try.f42)) (retK Try.prog Try.f42 Q) noX (retK Try.prog Try.f42 Q) ρ) (us 49 [])
def mix_Key_l2 (jn : Jn) (Q : Value → WP)  (m2 : Nat) (s0 : ByteArray) (t14 : Int) (t15 : Int) : WP := lop Try.prog mix_Key_kp jn (cAt [true, true, false, true, false, false] (bodyOf Try.f42)) (blkX 0 (seqK Try.prog mix_Key_kp jn (cAt [true, true, true] (bodyOf Try.f42)) (retK Try.prog Try.f42 Q) noX (retK Try.prog Try.f42 Q)) noX) (retK Try.prog Try.f42 Q) m2 ((.string s0) :: us 13 ((.int .i64 t14) :: (.int .i64 t15) :: us 33 []))
def mix_Key_j1 (jn : Jn) (Q : Value → WP)  (s0 : ByteArray) : WP := jn 8 (fun ρ => codeI Try.prog mix_Key_kp jn (cAt [true, true] (bodyOf Try.f42)) (retK Try.prog Try.f42 Q) noX (retK Try.prog Try.f42 Q) ρ) ((.string s0) :: us 48 [])
def mix_Key (s0 : ByteArray) (Q : Value → WP) : WP := funJ idJ Try.prog mix_Key_kp Try.f42 [.string s0] Q
theorem mix_Key_j3_raw (jn : Jn) (Q : Value → WP)   : codeI Try.prog mix_Key_kp jn (cAt [true, true, true] (bodyOf Try.f42)) (retK Try.prog Try.f42 Q) noX (retK Try.prog Try.f42 Q) (us 49 []) = (
  Q (.bool true)) := by kernel_rfl
theorem mix_Key_j3_def (Q : Value → WP)   : mix_Key_j3 idJ Q   = codeI Try.prog mix_Key_kp idJ (cAt [true, true, true] (bodyOf Try.f42)) (retK Try.prog Try.f42 Q) noX (retK Try.prog Try.f42 Q) (us 49 []) := by kernel_rfl
theorem mix_Key_l2_raw (jn : Jn) (Q : Value → WP)  (m2 : Nat) (s0 : ByteArray) (t14 : Int) (t15 : Int) : mix_Key_l2 jn Q  (m2 + 1) s0 t14 t15 = (
  ite2 (decide (t15 < t14)) (
  when ((0 : Int) ≤ t15 ∧ t15 < (s0.size : Int)) <|
  ite2 (decide ((byteAt s0 (t15).toNat) < (97 : Int))) (
  ite2 (decide ((byteAt s0 (t15).toNat) < (65 : Int))) (
  ite2 (decide ((byteAt s0 (t15).toNat) < (48 : Int))) (
  call1 (.int .i64) Try.prog id_strings_IndexByte [.string str______, .int .u8 (byteAt s0 (t15).toNat)] fun (x_1 : Int) =>
  ite2 (decide (x_1 < (0 : Int))) (
  Q (.bool false)) (
  mix_Key_l2 jn Q  m2 s0 t14 (IntKind.wrap .i64 (t15 + (1 : Int))))) (
  ite2 (decide ((byteAt s0 (t15).toNat) > (57 : Int))) (
  call1 (.int .i64) Try.prog id_strings_IndexByte [.string str______, .int .u8 (byteAt s0 (t15).toNat)] fun (x_2 : Int) =>
  ite2 (decide (x_2 < (0 : Int))) (
  Q (.bool false)) (
  mix_Key_l2 jn Q  m2 s0 t14 (IntKind.wrap .i64 (t15 + (1 : Int))))) (
  mix_Key_l2 jn Q  m2 s0 t14 (IntKind.wrap .i64 (t15 + (1 : Int)))))) (
  ite2 (decide ((byteAt s0 (t15).toNat) > (90 : Int))) (
  ite2 (decide ((byteAt s0 (t15).toNat) < (48 : Int))) (
  call1 (.int .i64) Try.prog id_strings_IndexByte [.string str______, .int .u8 (byteAt s0 (t15).toNat)] fun (x_3 : Int) =>
  ite2 (decide (x_3 < (0 : Int))) (
  Q (.bool false)) (
  mix_Key_l2 jn Q  m2 s0 t14 (IntKind.wrap .i64 (t15 + (1 : Int))))) (
  ite2 (decide ((byteAt s0 (t15).toNat) > (57 : Int))) (
  call1 (.int .i64) Try.prog id_strings_IndexByte [.string str______, .int .u8 (byteAt s0 (t15).toNat)] fun (x_4 : Int) =>
  ite2 (decide (x_4 < (0 : Int))) (
  Q (.bool false)) (
  mix_Key_l2 jn Q  m2 s0 t14 (IntKind.wrap .i64 (t15 + (1 : Int))))) (
  mix_Key_l2 jn Q  m2 s0 t14 (IntKind.wrap .i64 (t15 + (1 : Int)))))) (
  mix_Key_l2 jn Q  m2 s0 t14 (IntKind.wrap .i64 (t15 + (1 : Int)))))) (
  ite2 (decide ((byteAt s0 (t15).toNat) > (122 : Int))) (
  ite2 (decide ((byteAt s0 (t15).toNat) < (65 : Int))) (
  ite2 (decide ((byteAt s0 (t15).toNat) < (48 : Int))) (
  call1 (.int .i64) Try.prog id_strings_IndexByte [.string str______, .int .u8 (byteAt s0 (t15).toNat)] fun (x_5 : Int) =>
  ite2 (decide (x_5 < (0 : Int))) (
  Q (.bool false)) (
  mix_Key_l2 jn Q  m2 s0 t14 (IntKind.wrap .i64 (t15 + (1 : Int))))) (
  ite2 (decide ((byteAt s0 (t15).toNat) > (57 : Int))) (
  call1 (.int .i64) Try.prog id_strings_IndexByte [.string str______, .int .u8 (byteAt s0 (t15).toNat)] fun (x_6 : Int) =>
  ite2 (decide (x_6 < (0 : Int))) (
  Q (.bool false)) (
  mix_Key_l2 jn Q  m2 s0 t14 (IntKind.wrap .i64 (t15 + (1 : Int))))) (
  mix_Key_l2 jn Q  m2 s0 t14 (IntKind.wrap .i64 (t15 + (1 : Int)))))) (
  ite2 (decide ((byteAt s0 (t15).toNat) > (90 : Int))) (
  ite2 (decide ((byteAt s0 (t15).toNat) < (48 : Int))) (
  call1 (.int .i64) Try.prog id_strings_IndexByte [.string str______, .int .u8 (byteAt s0 (t15).toNat)] fun (x_7 : Int) =>
  ite2 (decide (x_7 < (0 : Int))) (
  Q (.bool false)) (
  mix_Key_l2 jn Q  m2 s0 t14 (IntKind.wrap .i64 (t15 + (1 : Int))))) (
  ite2 (decide ((byteAt s0 (t15).toNat) > (57 : Int))) (
  call1 (.int .i64) Try.prog id_strings_IndexByte [.string str______, .int .u8 (byteAt s0 (t15).toNat)] fun (x_8 : Int) =>
  ite2 (decide (x_8 < (0 : Int))) (
  Q (.bool false)) (
  mix_Key_l2 jn Q  m2 s0 t14 (IntKind.wrap .i64 (t15 + (1 : Int))))) (
  mix_Key_l2 jn Q  m2 s0 t14 (IntKind.wrap .i64 (t15 + (1 : Int)))))) (
  mix_Key_l2 jn Q  m2 s0 t14 (IntKind.wrap .i64 (t15 + (1 : Int)))))) (
  mix_Key_l2 jn Q  m2 s0 t14 (IntKind.wrap .i64 (t15 + (1 : Int)))))) (
  mix_Key_j3 jn Q  )) := by kernel_rfl
theorem mix_Key_l2_zero (jn : Jn) (Q : Value → WP)  (s0 : ByteArray) (t14 : Int) (t15 : Int) : mix_Key_l2 jn Q  0 s0 t14 t15 = bot := by kernel_rfl
theorem mix_Key_j1_raw (jn : Jn) (Q : Value → WP)  (s0 : ByteArray) : codeI Try.prog mix_Key_kp jn (cAt [true, true] (bodyOf Try.f42)) (retK Try.prog Try.f42 Q) noX (retK Try.prog Try.f42 Q) ((.string s0) :: us 48 []) = (
  exM fun m => mix_Key_l2 jn Q  m s0 (s0.size : Int) (0 : Int)) := by kernel_rfl
theorem mix_Key_j1_def (Q : Value → WP)  (s0 : ByteArray) : mix_Key_j1 idJ Q  s0 = codeI Try.prog mix_Key_kp idJ (cAt [true, true] (bodyOf Try.f42)) (retK Try.prog Try.f42 Q) noX (retK Try.prog Try.f42 Q) ((.string s0) :: us 48 []) := by kernel_rfl
theorem mix_Key_raw (jn : Jn) (s0 : ByteArray) (Q : Value → WP) : funJ jn Try.prog mix_Key_kp Try.f42 [.string s0] Q = (
  ite2 (decide ((s0.size : Int) < (1 : Int))) (
  Q (.bool false)) (
  ite2 (decide ((s0.size : Int) > (24 : Int))) (
  Q (.bool false)) (
  mix_Key_j1 jn Q  s0))) := by kernel_rfl
theorem mix_Key_def (s0 : ByteArray) (Q : Value → WP) : mix_Key s0 Q = funJ idJ Try.prog mix_Key_kp Try.f42 [.string s0] Q := rfl
theorem mix_Key_calls {s0 : ByteArray} {Q : Value → WP} {w : World} (h : mix_Key s0 Q w) : Calls Try.prog id_mix_Key #[.string s0] w fun e w' => ∃ v, e = .returned v ∧ Q v w' :=
  funJ_calls mixed Try.func42 rfl h

-- (*hoard/index.Index[hoard/table.value]).Put
def index_Index_table_value_Put_kp : KP := ⟨[], [(5, [0, 1, 2, 3, 4, 6, 7]), (8, [0, 1, 2, 3, 4, 5, 6, 7, 9, 10])]⟩
def index_Index_table_value_Put (x0 : Option Addr) (key1 : ByteArray) (v2_0 : ByteArray) (v2_1 : Int) (Q : Value → WP) : WP := funJ idJ Try.prog index_Index_table_value_Put_kp Try.f43 [.pointer x0, .string key1, .agg #[.string v2_0, .int .i64 v2_1]] Q
theorem index_Index_table_value_Put_raw (jn : Jn) (x0 : Option Addr) (key1 : ByteArray) (v2_0 : ByteArray) (v2_1 : Int) (Q : Value → WP) : funJ jn Try.prog index_Index_table_value_Put_kp Try.f43 [.pointer x0, .string key1, .agg #[.string v2_0, .int .i64 v2_1]] Q = (
  newB [.string v2_0, .int .i64 v2_1] ty_table_value fun b_1 =>
  ite2 (Option.isNone x0) (
  Q (.bool false)) (
  call2 (.int .i64) .bool Try.prog id_index_Index_table_value_find [.pointer x0, .string key1] fun (x_2 : Int) (x_3 : Bool) =>
  ite2 x_3 (
  drawW fun S =>
  nilck x0 fun b_4 o_5 =>
  ldS S .slc b_4 (o_5 + 1) fun (x_6 : Sl) =>
  ld .str b_1 0 fun (x_7 : ByteArray) =>
  ld (.int .i64) b_1 1 fun (x_8 : Int) =>
  keepS true S <|
  idx x_6.a x_6.n x_2 fun b_9 o_10 =>
  st b_9 ((o_10 + (x_2).toNat * 4) + 2) (.string x_7) <|
  st b_9 (((o_10 + (x_2).toNat * 4) + 2) + 1) (.int .i64 x_8) <|
  Q (.bool false)) (
  ld .str b_1 0 fun (x_11 : ByteArray) =>
  ld (.int .i64) b_1 1 fun (x_12 : Int) =>
  call0 Try.prog id_index_Index_table_value_lays [.pointer x0, .int .i64 x_2, .string key1, .agg #[.string x_11, .int .i64 x_12]] <|
  drawW fun S =>
  nilck x0 fun b_13 o_14 =>
  ldS S (.int .i64) b_13 (o_14 + 3) fun (x_15 : Int) =>
  nilck x0 fun b_16 o_17 =>
  ld .slc b_16 (o_17 + 1) fun (x_18 : Sl) =>
  keepS true S <|
  ite2 (decide ((IntKind.wrap .i64 ((2 : Int) * x_15)) > (x_18.n : Int))) (
  call0 Try.prog id_index_Index_table_value_grows [.pointer x0] <|
  Q (.bool true)) (
  Q (.bool true))))) := by kernel_rfl
theorem index_Index_table_value_Put_def (x0 : Option Addr) (key1 : ByteArray) (v2_0 : ByteArray) (v2_1 : Int) (Q : Value → WP) : index_Index_table_value_Put x0 key1 v2_0 v2_1 Q = funJ idJ Try.prog index_Index_table_value_Put_kp Try.f43 [.pointer x0, .string key1, .agg #[.string v2_0, .int .i64 v2_1]] Q := rfl
theorem index_Index_table_value_Put_calls {x0 : Option Addr} {key1 : ByteArray} {v2_0 : ByteArray} {v2_1 : Int} {Q : Value → WP} {w : World} (h : index_Index_table_value_Put x0 key1 v2_0 v2_1 Q w) : Calls Try.prog id_index_Index_table_value_Put #[.pointer x0, .string key1, .agg #[.string v2_0, .int .i64 v2_1]] w fun e w' => ∃ v, e = .returned v ∧ Q v w' :=
  funJ_calls mixed Try.func43 rfl h

-- (*hoard/index.Index[hoard/table.value]).Len
def index_Index_table_value_Len_kp : KP := ⟨[], []⟩
def index_Index_table_value_Len (x0 : Option Addr) (Q : Value → WP) : WP := funJ idJ Try.prog index_Index_table_value_Len_kp Try.f44 [.pointer x0] Q
theorem index_Index_table_value_Len_raw (jn : Jn) (x0 : Option Addr) (Q : Value → WP) : funJ jn Try.prog index_Index_table_value_Len_kp Try.f44 [.pointer x0] Q = (
  ite2 (Option.isNone x0) (
  Q (.int .i64 (0 : Int))) (
  nilck x0 fun b_1 o_2 =>
  ld (.int .i64) b_1 (o_2 + 2) fun (x_3 : Int) =>
  Q (.int .i64 x_3))) := by kernel_rfl
theorem index_Index_table_value_Len_def (x0 : Option Addr) (Q : Value → WP) : index_Index_table_value_Len x0 Q = funJ idJ Try.prog index_Index_table_value_Len_kp Try.f44 [.pointer x0] Q := rfl
theorem index_Index_table_value_Len_calls {x0 : Option Addr} {Q : Value → WP} {w : World} (h : index_Index_table_value_Len x0 Q w) : Calls Try.prog id_index_Index_table_value_Len #[.pointer x0] w fun e w' => ∃ v, e = .returned v ∧ Q v w' :=
  funJ_calls mixed Try.func44 rfl h

-- (*hoard/index.Index[hoard/table.value]).find
def index_Index_table_value_find_kp : KP := ⟨[(8, [0, 1, 6, 7]), (11, [0, 1, 6, 7]), (14, [0, 1, 6, 7, 8, 35]), (18, [0, 1, 6, 7, 8, 50]), (22, [0, 1, 6, 7, 8, 61])], [(2, [0, 1, 2, 3, 4, 6, 7, 8, 9, 10, 12])]⟩
def index_Index_table_value_find_j4 (jn : Jn) (Q : Value → WP) (m1 : Nat) (x0 : Option Addr) (key1 : ByteArray) (free6 : Int) (i7 : Int) : WP := jn 8 (fun ρ => codeI Try.prog index_Index_table_value_find_kp jn (cAt [true, true, true, false, false, true] (bodyOf Try.f45)) (lopK Try.prog index_Index_table_value_find_kp jn (cAt [true, true, true, false, false] (bodyOf Try.f45)) (blkX 0 (retK Try.prog Try.f45 Q) noX) (retK Try.prog Try.f45 Q) m1) (blkX 0 (retK Try.prog Try.f45 Q) noX) (retK Try.prog Try.f45 Q) ρ) ((.pointer x0) :: (.string key1) :: us 4 ((.int .i64 free6) :: (.int .i64 i7) :: us 71 []))
def index_Index_table_value_find_j5 (jn : Jn) (Q : Value → WP) (m1 : Nat) (x0 : Option Addr) (key1 : ByteArray) (free6 : Int) (i7 : Int) (p8_b : Nat) (p8_o : Nat) (t61 : Bool) : WP := jn 22 (fun ρ => codeI Try.prog index_Index_table_value_find_kp jn (cAt [true, true, true, false, false, false, false, true, false, true, true, true, true, true] (bodyOf Try.f45)) (seqK Try.prog index_Index_table_value_find_kp jn (cAt [true, true, true, false, false, true] (bodyOf Try.f45)) (lopK Try.prog index_Index_table_value_find_kp jn (cAt [true, true, true, false, false] (bodyOf Try.f45)) (blkX 0 (retK Try.prog Try.f45 Q) noX) (retK Try.prog Try.f45 Q) m1) (blkX 0 (retK Try.prog Try.f45 Q) noX) (retK Try.prog Try.f45 Q)) (blkX 2 (seqK Try.prog index_Index_table_value_find_kp jn (cAt [true, true, true, false, false, true] (bodyOf Try.f45)) (lopK Try.prog index_Index_table_value_find_kp jn (cAt [true, true, true, false, false] (bodyOf Try.f45)) (blkX 0 (retK Try.prog Try.f45 Q) noX) (retK Try.prog Try.f45 Q) m1) (blkX 0 (retK Try.prog Try.f45 Q) noX) (retK Try.prog Try.f45 Q)) (blkX 1 (seqK Try.prog index_Index_table_value_find_kp jn (cAt [true, true, true, false, false, true] (bodyOf Try.f45)) (lopK Try.prog index_Index_table_value_find_kp jn (cAt [true, true, true, false, false] (bodyOf Try.f45)) (blkX 0 (retK Try.prog Try.f45 Q) noX) (retK Try.prog Try.f45 Q) m1) (blkX 0 (retK Try.prog Try.f45 Q) noX) (retK Try.prog Try.f45 Q)) (blkX 0 (retK Try.prog Try.f45 Q) noX))) (retK Try.prog Try.f45 Q) ρ) ((.pointer x0) :: (.string key1) :: us 4 ((.int .i64 free6) :: (.int .i64 i7) :: (.pointer (some ⟨p8_b, p8_o, none⟩)) :: us 52 ((.bool t61) :: us 17 [])))
def index_Index_table_value_find_j3 (jn : Jn) (Q : Value → WP) (m1 : Nat) (x0 : Option Addr) (key1 : ByteArray) (free6 : Int) (i7 : Int) (p8_b : Nat) (p8_o : Nat) (t50 : Bool) : WP := jn 18 (fun ρ => codeI Try.prog index_Index_table_value_find_kp jn (cAt [true, true, true, false, false, false, false, true, false, true, true, true] (bodyOf Try.f45)) (seqK Try.prog index_Index_table_value_find_kp jn (cAt [true, true, true, false, false, true] (bodyOf Try.f45)) (lopK Try.prog index_Index_table_value_find_kp jn (cAt [true, true, true, false, false] (bodyOf Try.f45)) (blkX 0 (retK Try.prog Try.f45 Q) noX) (retK Try.prog Try.f45 Q) m1) (blkX 0 (retK Try.prog Try.f45 Q) noX) (retK Try.prog Try.f45 Q)) (blkX 2 (seqK Try.prog index_Index_table_value_find_kp jn (cAt [true, true, true, false, false, true] (bodyOf Try.f45)) (lopK Try.prog index_Index_table_value_find_kp jn (cAt [true, true, true, false, false] (bodyOf Try.f45)) (blkX 0 (retK Try.prog Try.f45 Q) noX) (retK Try.prog Try.f45 Q) m1) (blkX 0 (retK Try.prog Try.f45 Q) noX) (retK Try.prog Try.f45 Q)) (blkX 1 (seqK Try.prog index_Index_table_value_find_kp jn (cAt [true, true, true, false, false, true] (bodyOf Try.f45)) (lopK Try.prog index_Index_table_value_find_kp jn (cAt [true, true, true, false, false] (bodyOf Try.f45)) (blkX 0 (retK Try.prog Try.f45 Q) noX) (retK Try.prog Try.f45 Q) m1) (blkX 0 (retK Try.prog Try.f45 Q) noX) (retK Try.prog Try.f45 Q)) (blkX 0 (retK Try.prog Try.f45 Q) noX))) (retK Try.prog Try.f45 Q) ρ) ((.pointer x0) :: (.string key1) :: us 4 ((.int .i64 free6) :: (.int .i64 i7) :: (.pointer (some ⟨p8_b, p8_o, none⟩)) :: us 41 ((.bool t50) :: us 28 [])))
def index_Index_table_value_find_j2 (jn : Jn) (Q : Value → WP) (m1 : Nat) (x0 : Option Addr) (key1 : ByteArray) (free6 : Int) (i7 : Int) (p8_b : Nat) (p8_o : Nat) (t35 : Bool) : WP := jn 14 (fun ρ => codeI Try.prog index_Index_table_value_find_kp jn (cAt [true, true, true, false, false, false, false, true, false, true] (bodyOf Try.f45)) (seqK Try.prog index_Index_table_value_find_kp jn (cAt [true, true, true, false, false, true] (bodyOf Try.f45)) (lopK Try.prog index_Index_table_value_find_kp jn (cAt [true, true, true, false, false] (bodyOf Try.f45)) (blkX 0 (retK Try.prog Try.f45 Q) noX) (retK Try.prog Try.f45 Q) m1) (blkX 0 (retK Try.prog Try.f45 Q) noX) (retK Try.prog Try.f45 Q)) (blkX 2 (seqK Try.prog index_Index_table_value_find_kp jn (cAt [true, true, true, false, false, true] (bodyOf Try.f45)) (lopK Try.prog index_Index_table_value_find_kp jn (cAt [true, true, true, false, false] (bodyOf Try.f45)) (blkX 0 (retK Try.prog Try.f45 Q) noX) (retK Try.prog Try.f45 Q) m1) (blkX 0 (retK Try.prog Try.f45 Q) noX) (retK Try.prog Try.f45 Q)) (blkX 1 (seqK Try.prog index_Index_table_value_find_kp jn (cAt [true, true, true, false, false, true] (bodyOf Try.f45)) (lopK Try.prog index_Index_table_value_find_kp jn (cAt [true, true, true, false, false] (bodyOf Try.f45)) (blkX 0 (retK Try.prog Try.f45 Q) noX) (retK Try.prog Try.f45 Q) m1) (blkX 0 (retK Try.prog Try.f45 Q) noX) (retK Try.prog Try.f45 Q)) (blkX 0 (retK Try.prog Try.f45 Q) noX))) (retK Try.prog Try.f45 Q) ρ) ((.pointer x0) :: (.string key1) :: us 4 ((.int .i64 free6) :: (.int .i64 i7) :: (.pointer (some ⟨p8_b, p8_o, none⟩)) :: us 26 ((.bool t35) :: us 43 [])))
def index_Index_table_value_find_l1 (jn : Jn) (Q : Value → WP)  (m1 : Nat) (x0 : Option Addr) (key1 : ByteArray) (free6 : Int) (i7 : Int) : WP := lop Try.prog index_Index_table_value_find_kp jn (cAt [true, true, true, false, false] (bodyOf Try.f45)) (blkX 0 (retK Try.prog Try.f45 Q) noX) (retK Try.prog Try.f45 Q) m1 ((.pointer x0) :: (.string key1) :: us 4 ((.int .i64 free6) :: (.int .i64 i7) :: us 71 []))
def index_Index_table_value_find (x0 : Option Addr) (key1 : ByteArray) (Q : Value → WP) : WP := funJ idJ Try.prog index_Index_table_value_find_kp Try.f45 [.pointer x0, .string key1] Q
theorem index_Index_table_value_find_j4_raw (jn : Jn) (Q : Value → WP) (m1 : Nat) (x0 : Option Addr) (key1 : ByteArray) (free6 : Int) (i7 : Int) : codeI Try.prog index_Index_table_value_find_kp jn (cAt [true, true, true, false, false, true] (bodyOf Try.f45)) (lopK Try.prog index_Index_table_value_find_kp jn (cAt [true, true, true, false, false] (bodyOf Try.f45)) (blkX 0 (retK Try.prog Try.f45 Q) noX) (retK Try.prog Try.f45 Q) m1) (blkX 0 (retK Try.prog Try.f45 Q) noX) (retK Try.prog Try.f45 Q) ((.pointer x0) :: (.string key1) :: us 4 ((.int .i64 free6) :: (.int .i64 i7) :: us 71 [])) = (
  nilck x0 fun b_23 o_24 =>
  ld .slc b_23 (o_24 + 1) fun (x_25 : Sl) =>
  when ((x_25.n : Int) ≠ 0) <|
  index_Index_table_value_find_l1 jn Q  m1 x0 key1 free6 (Int.tmod (IntKind.wrap .i64 (i7 + (1 : Int))) (x_25.n : Int))) := by kernel_rfl
theorem index_Index_table_value_find_j4_def (Q : Value → WP) (m1 : Nat) (x0 : Option Addr) (key1 : ByteArray) (free6 : Int) (i7 : Int) : index_Index_table_value_find_j4 idJ Q m1 x0 key1 free6 i7 = codeI Try.prog index_Index_table_value_find_kp idJ (cAt [true, true, true, false, false, true] (bodyOf Try.f45)) (lopK Try.prog index_Index_table_value_find_kp idJ (cAt [true, true, true, false, false] (bodyOf Try.f45)) (blkX 0 (retK Try.prog Try.f45 Q) noX) (retK Try.prog Try.f45 Q) m1) (blkX 0 (retK Try.prog Try.f45 Q) noX) (retK Try.prog Try.f45 Q) ((.pointer x0) :: (.string key1) :: us 4 ((.int .i64 free6) :: (.int .i64 i7) :: us 71 [])) := by kernel_rfl
theorem index_Index_table_value_find_j5_raw (jn : Jn) (Q : Value → WP) (m1 : Nat) (x0 : Option Addr) (key1 : ByteArray) (free6 : Int) (i7 : Int) (p8_b : Nat) (p8_o : Nat) (t61 : Bool) : codeI Try.prog index_Index_table_value_find_kp jn (cAt [true, true, true, false, false, false, false, true, false, true, true, true, true, true] (bodyOf Try.f45)) (seqK Try.prog index_Index_table_value_find_kp jn (cAt [true, true, true, false, false, true] (bodyOf Try.f45)) (lopK Try.prog index_Index_table_value_find_kp jn (cAt [true, true, true, false, false] (bodyOf Try.f45)) (blkX 0 (retK Try.prog Try.f45 Q) noX) (retK Try.prog Try.f45 Q) m1) (blkX 0 (retK Try.prog Try.f45 Q) noX) (retK Try.prog Try.f45 Q)) (blkX 2 (seqK Try.prog index_Index_table_value_find_kp jn (cAt [true, true, true, false, false, true] (bodyOf Try.f45)) (lopK Try.prog index_Index_table_value_find_kp jn (cAt [true, true, true, false, false] (bodyOf Try.f45)) (blkX 0 (retK Try.prog Try.f45 Q) noX) (retK Try.prog Try.f45 Q) m1) (blkX 0 (retK Try.prog Try.f45 Q) noX) (retK Try.prog Try.f45 Q)) (blkX 1 (seqK Try.prog index_Index_table_value_find_kp jn (cAt [true, true, true, false, false, true] (bodyOf Try.f45)) (lopK Try.prog index_Index_table_value_find_kp jn (cAt [true, true, true, false, false] (bodyOf Try.f45)) (blkX 0 (retK Try.prog Try.f45 Q) noX) (retK Try.prog Try.f45 Q) m1) (blkX 0 (retK Try.prog Try.f45 Q) noX) (retK Try.prog Try.f45 Q)) (blkX 0 (retK Try.prog Try.f45 Q) noX))) (retK Try.prog Try.f45 Q) ((.pointer x0) :: (.string key1) :: us 4 ((.int .i64 free6) :: (.int .i64 i7) :: (.pointer (some ⟨p8_b, p8_o, none⟩)) :: us 52 ((.bool t61) :: us 17 []))) = (
  ite2 t61 (
  Q (.tuple #[.int .i64 i7, .bool false])) (
  nilck (some ⟨p8_b, p8_o, none⟩) fun b_29 o_30 =>
  ld (.int .i64) b_29 o_30 fun (x_31 : Int) =>
  ite2 (x_31 == (0 : Int)) (
  Q (.tuple #[.int .i64 free6, .bool false])) (
  index_Index_table_value_find_j4 jn Q m1 x0 key1 free6 i7))) := by kernel_rfl
theorem index_Index_table_value_find_j5_def (Q : Value → WP) (m1 : Nat) (x0 : Option Addr) (key1 : ByteArray) (free6 : Int) (i7 : Int) (p8_b : Nat) (p8_o : Nat) (t61 : Bool) : index_Index_table_value_find_j5 idJ Q m1 x0 key1 free6 i7 p8_b p8_o t61 = codeI Try.prog index_Index_table_value_find_kp idJ (cAt [true, true, true, false, false, false, false, true, false, true, true, true, true, true] (bodyOf Try.f45)) (seqK Try.prog index_Index_table_value_find_kp idJ (cAt [true, true, true, false, false, true] (bodyOf Try.f45)) (lopK Try.prog index_Index_table_value_find_kp idJ (cAt [true, true, true, false, false] (bodyOf Try.f45)) (blkX 0 (retK Try.prog Try.f45 Q) noX) (retK Try.prog Try.f45 Q) m1) (blkX 0 (retK Try.prog Try.f45 Q) noX) (retK Try.prog Try.f45 Q)) (blkX 2 (seqK Try.prog index_Index_table_value_find_kp idJ (cAt [true, true, true, false, false, true] (bodyOf Try.f45)) (lopK Try.prog index_Index_table_value_find_kp idJ (cAt [true, true, true, false, false] (bodyOf Try.f45)) (blkX 0 (retK Try.prog Try.f45 Q) noX) (retK Try.prog Try.f45 Q) m1) (blkX 0 (retK Try.prog Try.f45 Q) noX) (retK Try.prog Try.f45 Q)) (blkX 1 (seqK Try.prog index_Index_table_value_find_kp idJ (cAt [true, true, true, false, false, true] (bodyOf Try.f45)) (lopK Try.prog index_Index_table_value_find_kp idJ (cAt [true, true, true, false, false] (bodyOf Try.f45)) (blkX 0 (retK Try.prog Try.f45 Q) noX) (retK Try.prog Try.f45 Q) m1) (blkX 0 (retK Try.prog Try.f45 Q) noX) (retK Try.prog Try.f45 Q)) (blkX 0 (retK Try.prog Try.f45 Q) noX))) (retK Try.prog Try.f45 Q) ((.pointer x0) :: (.string key1) :: us 4 ((.int .i64 free6) :: (.int .i64 i7) :: (.pointer (some ⟨p8_b, p8_o, none⟩)) :: us 52 ((.bool t61) :: us 17 []))) := by kernel_rfl
theorem index_Index_table_value_find_j3_raw (jn : Jn) (Q : Value → WP) (m1 : Nat) (x0 : Option Addr) (key1 : ByteArray) (free6 : Int) (i7 : Int) (p8_b : Nat) (p8_o : Nat) (t50 : Bool) : codeI Try.prog index_Index_table_value_find_kp jn (cAt [true, true, true, false, false, false, false, true, false, true, true, true] (bodyOf Try.f45)) (seqK Try.prog index_Index_table_value_find_kp jn (cAt [true, true, true, false, false, true] (bodyOf Try.f45)) (lopK Try.prog index_Index_table_value_find_kp jn (cAt [true, true, true, false, false] (bodyOf Try.f45)) (blkX 0 (retK Try.prog Try.f45 Q) noX) (retK Try.prog Try.f45 Q) m1) (blkX 0 (retK Try.prog Try.f45 Q) noX) (retK Try.prog Try.f45 Q)) (blkX 2 (seqK Try.prog index_Index_table_value_find_kp jn (cAt [true, true, true, false, false, true] (bodyOf Try.f45)) (lopK Try.prog index_Index_table_value_find_kp jn (cAt [true, true, true, false, false] (bodyOf Try.f45)) (blkX 0 (retK Try.prog Try.f45 Q) noX) (retK Try.prog Try.f45 Q) m1) (blkX 0 (retK Try.prog Try.f45 Q) noX) (retK Try.prog Try.f45 Q)) (blkX 1 (seqK Try.prog index_Index_table_value_find_kp jn (cAt [true, true, true, false, false, true] (bodyOf Try.f45)) (lopK Try.prog index_Index_table_value_find_kp jn (cAt [true, true, true, false, false] (bodyOf Try.f45)) (blkX 0 (retK Try.prog Try.f45 Q) noX) (retK Try.prog Try.f45 Q) m1) (blkX 0 (retK Try.prog Try.f45 Q) noX) (retK Try.prog Try.f45 Q)) (blkX 0 (retK Try.prog Try.f45 Q) noX))) (retK Try.prog Try.f45 Q) ((.pointer x0) :: (.string key1) :: us 4 ((.int .i64 free6) :: (.int .i64 i7) :: (.pointer (some ⟨p8_b, p8_o, none⟩)) :: us 41 ((.bool t50) :: us 28 []))) = (
  ite2 t50 (
  index_Index_table_value_find_j4 jn Q m1 x0 key1 i7 i7) (
  nilck (some ⟨p8_b, p8_o, none⟩) fun b_26 o_27 =>
  ld (.int .i64) b_26 o_27 fun (x_28 : Int) =>
  ite2 (x_28 == (0 : Int)) (
  index_Index_table_value_find_j5 jn Q m1 x0 key1 free6 i7 p8_b p8_o (decide (free6 < (0 : Int)))) (
  index_Index_table_value_find_j5 jn Q m1 x0 key1 free6 i7 p8_b p8_o false))) := by kernel_rfl
theorem index_Index_table_value_find_j3_def (Q : Value → WP) (m1 : Nat) (x0 : Option Addr) (key1 : ByteArray) (free6 : Int) (i7 : Int) (p8_b : Nat) (p8_o : Nat) (t50 : Bool) : index_Index_table_value_find_j3 idJ Q m1 x0 key1 free6 i7 p8_b p8_o t50 = codeI Try.prog index_Index_table_value_find_kp idJ (cAt [true, true, true, false, false, false, false, true, false, true, true, true] (bodyOf Try.f45)) (seqK Try.prog index_Index_table_value_find_kp idJ (cAt [true, true, true, false, false, true] (bodyOf Try.f45)) (lopK Try.prog index_Index_table_value_find_kp idJ (cAt [true, true, true, false, false] (bodyOf Try.f45)) (blkX 0 (retK Try.prog Try.f45 Q) noX) (retK Try.prog Try.f45 Q) m1) (blkX 0 (retK Try.prog Try.f45 Q) noX) (retK Try.prog Try.f45 Q)) (blkX 2 (seqK Try.prog index_Index_table_value_find_kp idJ (cAt [true, true, true, false, false, true] (bodyOf Try.f45)) (lopK Try.prog index_Index_table_value_find_kp idJ (cAt [true, true, true, false, false] (bodyOf Try.f45)) (blkX 0 (retK Try.prog Try.f45 Q) noX) (retK Try.prog Try.f45 Q) m1) (blkX 0 (retK Try.prog Try.f45 Q) noX) (retK Try.prog Try.f45 Q)) (blkX 1 (seqK Try.prog index_Index_table_value_find_kp idJ (cAt [true, true, true, false, false, true] (bodyOf Try.f45)) (lopK Try.prog index_Index_table_value_find_kp idJ (cAt [true, true, true, false, false] (bodyOf Try.f45)) (blkX 0 (retK Try.prog Try.f45 Q) noX) (retK Try.prog Try.f45 Q) m1) (blkX 0 (retK Try.prog Try.f45 Q) noX) (retK Try.prog Try.f45 Q)) (blkX 0 (retK Try.prog Try.f45 Q) noX))) (retK Try.prog Try.f45 Q) ((.pointer x0) :: (.string key1) :: us 4 ((.int .i64 free6) :: (.int .i64 i7) :: (.pointer (some ⟨p8_b, p8_o, none⟩)) :: us 41 ((.bool t50) :: us 28 []))) := by kernel_rfl
theorem index_Index_table_value_find_j2_raw (jn : Jn) (Q : Value → WP) (m1 : Nat) (x0 : Option Addr) (key1 : ByteArray) (free6 : Int) (i7 : Int) (p8_b : Nat) (p8_o : Nat) (t35 : Bool) : codeI Try.prog index_Index_table_value_find_kp jn (cAt [true, true, true, false, false, false, false, true, false, true] (bodyOf Try.f45)) (seqK Try.prog index_Index_table_value_find_kp jn (cAt [true, true, true, false, false, true] (bodyOf Try.f45)) (lopK Try.prog index_Index_table_value_find_kp jn (cAt [true, true, true, false, false] (bodyOf Try.f45)) (blkX 0 (retK Try.prog Try.f45 Q) noX) (retK Try.prog Try.f45 Q) m1) (blkX 0 (retK Try.prog Try.f45 Q) noX) (retK Try.prog Try.f45 Q)) (blkX 2 (seqK Try.prog index_Index_table_value_find_kp jn (cAt [true, true, true, false, false, true] (bodyOf Try.f45)) (lopK Try.prog index_Index_table_value_find_kp jn (cAt [true, true, true, false, false] (bodyOf Try.f45)) (blkX 0 (retK Try.prog Try.f45 Q) noX) (retK Try.prog Try.f45 Q) m1) (blkX 0 (retK Try.prog Try.f45 Q) noX) (retK Try.prog Try.f45 Q)) (blkX 1 (seqK Try.prog index_Index_table_value_find_kp jn (cAt [true, true, true, false, false, true] (bodyOf Try.f45)) (lopK Try.prog index_Index_table_value_find_kp jn (cAt [true, true, true, false, false] (bodyOf Try.f45)) (blkX 0 (retK Try.prog Try.f45 Q) noX) (retK Try.prog Try.f45 Q) m1) (blkX 0 (retK Try.prog Try.f45 Q) noX) (retK Try.prog Try.f45 Q)) (blkX 0 (retK Try.prog Try.f45 Q) noX))) (retK Try.prog Try.f45 Q) ((.pointer x0) :: (.string key1) :: us 4 ((.int .i64 free6) :: (.int .i64 i7) :: (.pointer (some ⟨p8_b, p8_o, none⟩)) :: us 26 ((.bool t35) :: us 43 []))) = (
  ite2 t35 (
  Q (.tuple #[.int .i64 i7, .bool true])) (
  nilck (some ⟨p8_b, p8_o, none⟩) fun b_20 o_21 =>
  ld (.int .i64) b_20 o_21 fun (x_22 : Int) =>
  ite2 (x_22 == (1 : Int)) (
  index_Index_table_value_find_j3 jn Q m1 x0 key1 free6 i7 p8_b p8_o (decide (free6 < (0 : Int)))) (
  index_Index_table_value_find_j3 jn Q m1 x0 key1 free6 i7 p8_b p8_o false))) := by kernel_rfl
theorem index_Index_table_value_find_j2_def (Q : Value → WP) (m1 : Nat) (x0 : Option Addr) (key1 : ByteArray) (free6 : Int) (i7 : Int) (p8_b : Nat) (p8_o : Nat) (t35 : Bool) : index_Index_table_value_find_j2 idJ Q m1 x0 key1 free6 i7 p8_b p8_o t35 = codeI Try.prog index_Index_table_value_find_kp idJ (cAt [true, true, true, false, false, false, false, true, false, true] (bodyOf Try.f45)) (seqK Try.prog index_Index_table_value_find_kp idJ (cAt [true, true, true, false, false, true] (bodyOf Try.f45)) (lopK Try.prog index_Index_table_value_find_kp idJ (cAt [true, true, true, false, false] (bodyOf Try.f45)) (blkX 0 (retK Try.prog Try.f45 Q) noX) (retK Try.prog Try.f45 Q) m1) (blkX 0 (retK Try.prog Try.f45 Q) noX) (retK Try.prog Try.f45 Q)) (blkX 2 (seqK Try.prog index_Index_table_value_find_kp idJ (cAt [true, true, true, false, false, true] (bodyOf Try.f45)) (lopK Try.prog index_Index_table_value_find_kp idJ (cAt [true, true, true, false, false] (bodyOf Try.f45)) (blkX 0 (retK Try.prog Try.f45 Q) noX) (retK Try.prog Try.f45 Q) m1) (blkX 0 (retK Try.prog Try.f45 Q) noX) (retK Try.prog Try.f45 Q)) (blkX 1 (seqK Try.prog index_Index_table_value_find_kp idJ (cAt [true, true, true, false, false, true] (bodyOf Try.f45)) (lopK Try.prog index_Index_table_value_find_kp idJ (cAt [true, true, true, false, false] (bodyOf Try.f45)) (blkX 0 (retK Try.prog Try.f45 Q) noX) (retK Try.prog Try.f45 Q) m1) (blkX 0 (retK Try.prog Try.f45 Q) noX) (retK Try.prog Try.f45 Q)) (blkX 0 (retK Try.prog Try.f45 Q) noX))) (retK Try.prog Try.f45 Q) ((.pointer x0) :: (.string key1) :: us 4 ((.int .i64 free6) :: (.int .i64 i7) :: (.pointer (some ⟨p8_b, p8_o, none⟩)) :: us 26 ((.bool t35) :: us 43 []))) := by kernel_rfl
theorem index_Index_table_value_find_l1_raw (jn : Jn) (Q : Value → WP)  (m1 : Nat) (x0 : Option Addr) (key1 : ByteArray) (free6 : Int) (i7 : Int) : index_Index_table_value_find_l1 jn Q  (m1 + 1) x0 key1 free6 i7 = (
  nilck x0 fun b_9 o_10 =>
  ld .slc b_9 (o_10 + 1) fun (x_11 : Sl) =>
  idx x_11.a x_11.n i7 fun b_12 o_13 =>
  nilck (some ⟨b_12, (o_13 + (i7).toNat * 4), none⟩) fun b_14 o_15 =>
  ld (.int .i64) b_14 o_15 fun (x_16 : Int) =>
  ite2 (x_16 == (2 : Int)) (
  nilck (some ⟨b_12, (o_13 + (i7).toNat * 4), none⟩) fun b_17 o_18 =>
  ld .str b_17 (o_18 + 1) fun (x_19 : ByteArray) =>
  index_Index_table_value_find_j2 jn Q m1 x0 key1 free6 i7 b_12 (o_13 + (i7).toNat * 4) (sEq x_19 key1)) (
  index_Index_table_value_find_j2 jn Q m1 x0 key1 free6 i7 b_12 (o_13 + (i7).toNat * 4) false)) := by kernel_rfl
theorem index_Index_table_value_find_l1_zero (jn : Jn) (Q : Value → WP)  (x0 : Option Addr) (key1 : ByteArray) (free6 : Int) (i7 : Int) : index_Index_table_value_find_l1 jn Q  0 x0 key1 free6 i7 = bot := by kernel_rfl
theorem index_Index_table_value_find_raw (jn : Jn) (x0 : Option Addr) (key1 : ByteArray) (Q : Value → WP) : funJ jn Try.prog index_Index_table_value_find_kp Try.f45 [.pointer x0, .string key1] Q = (
  drawW fun S =>
  nilck x0 fun b_1 o_2 =>
  ldS S (.int .u64) b_1 o_2 fun (x_3 : Int) =>
  nilck x0 fun b_4 o_5 =>
  ldS S .slc b_4 (o_5 + 1) fun (x_6 : Sl) =>
  call1 (.int .u64) Try.prog id_mix_Hash [.int .u64 x_3, .string key1] fun (x_7 : Int) =>
  keepS true S <|
  call1 (.int .i64) Try.prog id_mix_Place [.int .u64 x_7, .int .i64 (x_6.n : Int)] fun (x_8 : Int) =>
  exM fun m => index_Index_table_value_find_l1 jn Q  m x0 key1 (-1 : Int) x_8) := by kernel_rfl
theorem index_Index_table_value_find_def (x0 : Option Addr) (key1 : ByteArray) (Q : Value → WP) : index_Index_table_value_find x0 key1 Q = funJ idJ Try.prog index_Index_table_value_find_kp Try.f45 [.pointer x0, .string key1] Q := rfl
theorem index_Index_table_value_find_calls {x0 : Option Addr} {key1 : ByteArray} {Q : Value → WP} {w : World} (h : index_Index_table_value_find x0 key1 Q w) : Calls Try.prog id_index_Index_table_value_find #[.pointer x0, .string key1] w fun e w' => ∃ v, e = .returned v ∧ Q v w' :=
  funJ_calls mixed Try.func45 rfl h

-- strings.IndexByte
def strings_IndexByte_kp : KP := ⟨[], []⟩
def strings_IndexByte (s0 : ByteArray) (c1 : Int) (Q : Value → WP) : WP := funJ idJ Try.prog strings_IndexByte_kp Try.f46 [.string s0, .int .u8 c1] Q
theorem strings_IndexByte_raw (jn : Jn) (s0 : ByteArray) (c1 : Int) (Q : Value → WP) : funJ jn Try.prog strings_IndexByte_kp Try.f46 [.string s0, .int .u8 c1] Q = (
  call1 (.int .i64) Try.prog id_internal_stringslite_IndexByte [.string s0, .int .u8 c1] fun (x_1 : Int) =>
  Q (.int .i64 x_1)) := by kernel_rfl
theorem strings_IndexByte_def (s0 : ByteArray) (c1 : Int) (Q : Value → WP) : strings_IndexByte s0 c1 Q = funJ idJ Try.prog strings_IndexByte_kp Try.f46 [.string s0, .int .u8 c1] Q := rfl
theorem strings_IndexByte_calls {s0 : ByteArray} {c1 : Int} {Q : Value → WP} {w : World} (h : strings_IndexByte s0 c1 Q w) : Calls Try.prog id_strings_IndexByte #[.string s0, .int .u8 c1] w fun e w' => ∃ v, e = .returned v ∧ Q v w' :=
  funJ_calls mixed Try.func46 rfl h

-- (*hoard/index.Index[hoard/table.value]).lays
def index_Index_table_value_lays_kp : KP := ⟨[(8, [0, 1, 2, 7])], [(3, [0, 1, 2, 3, 4, 5, 7, 8])]⟩
def index_Index_table_value_lays_j1 (jn : Jn) (Q : Value → WP)  (x0 : Option Addr) (i1 : Int) (key2 : ByteArray) (v7_b : Nat) (v7_o : Nat) : WP := jn 8 (fun ρ => codeI Try.prog index_Index_table_value_lays_kp jn (cAt [true, true] (bodyOf Try.f47)) (retK Try.prog Try.f47 Q) noX (retK Try.prog Try.f47 Q) ρ) ((.pointer x0) :: (.int .i64 i1) :: (.string key2) :: us 4 ((.pointer (some ⟨v7_b, v7_o, none⟩)) :: us 32 []))
def index_Index_table_value_lays (x0 : Option Addr) (i1 : Int) (key2 : ByteArray) (v3_0 : ByteArray) (v3_1 : Int) (Q : Value → WP) : WP := funJ idJ Try.prog index_Index_table_value_lays_kp Try.f47 [.pointer x0, .int .i64 i1, .string key2, .agg #[.string v3_0, .int .i64 v3_1]] Q
theorem index_Index_table_value_lays_j1_raw (jn : Jn) (Q : Value → WP)  (x0 : Option Addr) (i1 : Int) (key2 : ByteArray) (v7_b : Nat) (v7_o : Nat) : codeI Try.prog index_Index_table_value_lays_kp jn (cAt [true, true] (bodyOf Try.f47)) (retK Try.prog Try.f47 Q) noX (retK Try.prog Try.f47 Q) ((.pointer x0) :: (.int .i64 i1) :: (.string key2) :: us 4 ((.pointer (some ⟨v7_b, v7_o, none⟩)) :: us 32 [])) = (
  drawW fun S =>
  nilck x0 fun b_13 o_14 =>
  ldS S .slc b_13 (o_14 + 1) fun (x_15 : Sl) =>
  ld .str v7_b v7_o fun (x_16 : ByteArray) =>
  ld (.int .i64) v7_b (v7_o + 1) fun (x_17 : Int) =>
  keepS true S <|
  idx x_15.a x_15.n i1 fun b_18 o_19 =>
  st b_18 (o_19 + (i1).toNat * 4) (.int .i64 (2 : Int)) <|
  st b_18 ((o_19 + (i1).toNat * 4) + 1) (.string key2) <|
  st b_18 (((o_19 + (i1).toNat * 4) + 1) + 1) (.string x_16) <|
  st b_18 ((((o_19 + (i1).toNat * 4) + 1) + 1) + 1) (.int .i64 x_17) <|
  nilck x0 fun b_20 o_21 =>
  ld (.int .i64) b_20 (o_21 + 2) fun (x_22 : Int) =>
  nilck x0 fun b_23 o_24 =>
  st b_23 (o_24 + 2) (.int .i64 (IntKind.wrap .i64 (x_22 + (1 : Int)))) <|
  Q (.tuple #[])) := by kernel_rfl
theorem index_Index_table_value_lays_j1_def (Q : Value → WP)  (x0 : Option Addr) (i1 : Int) (key2 : ByteArray) (v7_b : Nat) (v7_o : Nat) : index_Index_table_value_lays_j1 idJ Q  x0 i1 key2 v7_b v7_o = codeI Try.prog index_Index_table_value_lays_kp idJ (cAt [true, true] (bodyOf Try.f47)) (retK Try.prog Try.f47 Q) noX (retK Try.prog Try.f47 Q) ((.pointer x0) :: (.int .i64 i1) :: (.string key2) :: us 4 ((.pointer (some ⟨v7_b, v7_o, none⟩)) :: us 32 [])) := by kernel_rfl
theorem index_Index_table_value_lays_raw (jn : Jn) (x0 : Option Addr) (i1 : Int) (key2 : ByteArray) (v3_0 : ByteArray) (v3_1 : Int) (Q : Value → WP) : funJ jn Try.prog index_Index_table_value_lays_kp Try.f47 [.pointer x0, .int .i64 i1, .string key2, .agg #[.string v3_0, .int .i64 v3_1]] Q = (
  newB [.string v3_0, .int .i64 v3_1] ty_table_value fun b_1 =>
  nilck x0 fun b_2 o_3 =>
  ld .slc b_2 (o_3 + 1) fun (x_4 : Sl) =>
  idx x_4.a x_4.n i1 fun b_5 o_6 =>
  ld (.int .i64) b_5 (o_6 + (i1).toNat * 4) fun (x_7 : Int) =>
  ite2 (x_7 == (0 : Int)) (
  nilck x0 fun b_8 o_9 =>
  ld (.int .i64) b_8 (o_9 + 3) fun (x_10 : Int) =>
  nilck x0 fun b_11 o_12 =>
  st b_11 (o_12 + 3) (.int .i64 (IntKind.wrap .i64 (x_10 + (1 : Int)))) <|
  index_Index_table_value_lays_j1 jn Q  x0 i1 key2 b_1 0) (
  index_Index_table_value_lays_j1 jn Q  x0 i1 key2 b_1 0)) := by kernel_rfl
theorem index_Index_table_value_lays_def (x0 : Option Addr) (i1 : Int) (key2 : ByteArray) (v3_0 : ByteArray) (v3_1 : Int) (Q : Value → WP) : index_Index_table_value_lays x0 i1 key2 v3_0 v3_1 Q = funJ idJ Try.prog index_Index_table_value_lays_kp Try.f47 [.pointer x0, .int .i64 i1, .string key2, .agg #[.string v3_0, .int .i64 v3_1]] Q := rfl
theorem index_Index_table_value_lays_calls {x0 : Option Addr} {i1 : Int} {key2 : ByteArray} {v3_0 : ByteArray} {v3_1 : Int} {Q : Value → WP} {w : World} (h : index_Index_table_value_lays x0 i1 key2 v3_0 v3_1 Q w) : Calls Try.prog id_index_Index_table_value_lays #[.pointer x0, .int .i64 i1, .string key2, .agg #[.string v3_0, .int .i64 v3_1]] w fun e w' => ∃ v, e = .returned v ∧ Q v w' :=
  funJ_calls mixed Try.func47 rfl h

-- (*hoard/index.Index[hoard/table.value]).grows
def index_Index_table_value_grows_kp : KP := ⟨[(9, [0, 28, 29, 30])], []⟩
def index_Index_table_value_grows_l1 (jn : Jn) (Q : Value → WP)  (m1 : Nat) (x0 : Option Addr) (t28 : Sl) (t29 : Int) (t30 : Int) : WP := lop Try.prog index_Index_table_value_grows_kp jn (cAt [true, true, true, false, false] (bodyOf Try.f48)) (blkX 0 (retK Try.prog Try.f48 Q) noX) (retK Try.prog Try.f48 Q) m1 ((.pointer x0) :: us 27 ((.slice t28.a t28.n t28.c) :: (.int .i64 t29) :: (.int .i64 t30) :: us 21 []))
def index_Index_table_value_grows (x0 : Option Addr) (Q : Value → WP) : WP := funJ idJ Try.prog index_Index_table_value_grows_kp Try.f48 [.pointer x0] Q
theorem index_Index_table_value_grows_l1_raw (jn : Jn) (Q : Value → WP)  (m1 : Nat) (x0 : Option Addr) (t28 : Sl) (t29 : Int) (t30 : Int) : index_Index_table_value_grows_l1 jn Q  (m1 + 1) x0 t28 t29 t30 = (
  ite2 (decide (t30 < t29)) (
  idx t28.a t28.n t30 fun b_14 o_15 =>
  ld (.int .i64) b_14 (o_15 + (t30).toNat * 4) fun (x_16 : Int) =>
  ld .str b_14 ((o_15 + (t30).toNat * 4) + 1) fun (x_17 : ByteArray) =>
  ld .str b_14 (((o_15 + (t30).toNat * 4) + 1) + 1) fun (x_18 : ByteArray) =>
  ld (.int .i64) b_14 ((((o_15 + (t30).toNat * 4) + 1) + 1) + 1) fun (x_19 : Int) =>
  newB [.int .i64 (0 : Int), .string str_empty, .string str_empty, .int .i64 (0 : Int)] ty_index_place_table_value fun b_20 =>
  st b_20 0 (.int .i64 x_16) <|
  st b_20 1 (.string x_17) <|
  st b_20 2 (.string x_18) <|
  st b_20 3 (.int .i64 x_19) <|
  ld (.int .i64) b_20 0 fun (x_21 : Int) =>
  ite2 (x_21 == (2 : Int)) (
  ld .str b_20 1 fun (x_22 : ByteArray) =>
  call2 (.int .i64) .bool Try.prog id_index_Index_table_value_find [.pointer x0, .string x_22] fun (x_23 : Int) (x_24 : Bool) =>
  ld .str b_20 1 fun (x_25 : ByteArray) =>
  ld .str b_20 2 fun (x_26 : ByteArray) =>
  ld (.int .i64) b_20 3 fun (x_27 : Int) =>
  call0 Try.prog id_index_Index_table_value_lays [.pointer x0, .int .i64 x_23, .string x_25, .agg #[.string x_26, .int .i64 x_27]] <|
  index_Index_table_value_grows_l1 jn Q  m1 x0 t28 t29 (IntKind.wrap .i64 (t30 + (1 : Int)))) (
  index_Index_table_value_grows_l1 jn Q  m1 x0 t28 t29 (IntKind.wrap .i64 (t30 + (1 : Int))))) (
  Q (.tuple #[]))) := by kernel_rfl
theorem index_Index_table_value_grows_l1_zero (jn : Jn) (Q : Value → WP)  (x0 : Option Addr) (t28 : Sl) (t29 : Int) (t30 : Int) : index_Index_table_value_grows_l1 jn Q  0 x0 t28 t29 t30 = bot := by kernel_rfl
theorem index_Index_table_value_grows_raw (jn : Jn) (x0 : Option Addr) (Q : Value → WP) : funJ jn Try.prog index_Index_table_value_grows_kp Try.f48 [.pointer x0] Q = (
  nilck x0 fun b_1 o_2 =>
  ld .slc b_1 (o_2 + 1) fun (x_3 : Sl) =>
  nilck x0 fun b_4 o_5 =>
  ld (.int .i64) b_4 (o_5 + 2) fun (x_6 : Int) =>
  makeC ty_index_place_table_value 48 [.int .i64 (0 : Int), .string str_empty, .string str_empty, .int .i64 (0 : Int)] (if (IntKind.wrap .i64 ((4 : Int) * (IntKind.wrap .i64 (x_6 + (1 : Int))))) > (8 : Int) then (IntKind.wrap .i64 ((4 : Int) * (IntKind.wrap .i64 (x_6 + (1 : Int))))) else (8 : Int)) (if (IntKind.wrap .i64 ((4 : Int) * (IntKind.wrap .i64 (x_6 + (1 : Int))))) > (8 : Int) then (IntKind.wrap .i64 ((4 : Int) * (IntKind.wrap .i64 (x_6 + (1 : Int))))) else (8 : Int)) fun s_7 =>
  nilck x0 fun b_8 o_9 =>
  st b_8 (o_9 + 1) (.slice s_7.a s_7.n s_7.c) <|
  nilck x0 fun b_10 o_11 =>
  st b_10 (o_11 + 2) (.int .i64 (0 : Int)) <|
  nilck x0 fun b_12 o_13 =>
  st b_12 (o_13 + 3) (.int .i64 (0 : Int)) <|
  exM fun m => index_Index_table_value_grows_l1 jn Q  m x0 x_3 (x_3.n : Int) (0 : Int)) := by kernel_rfl
theorem index_Index_table_value_grows_def (x0 : Option Addr) (Q : Value → WP) : index_Index_table_value_grows x0 Q = funJ idJ Try.prog index_Index_table_value_grows_kp Try.f48 [.pointer x0] Q := rfl
theorem index_Index_table_value_grows_calls {x0 : Option Addr} {Q : Value → WP} {w : World} (h : index_Index_table_value_grows x0 Q w) : Calls Try.prog id_index_Index_table_value_grows #[.pointer x0] w fun e w' => ∃ v, e = .returned v ∧ Q v w' :=
  funJ_calls mixed Try.func48 rfl h

-- hoard/mix.Place
def mix_Place_kp : KP := ⟨[], []⟩
def mix_Place (h0 : Int) (n1 : Int) (Q : Value → WP) : WP := funJ idJ Try.prog mix_Place_kp Try.f49 [.int .u64 h0, .int .i64 n1] Q
theorem mix_Place_raw (jn : Jn) (h0 : Int) (n1 : Int) (Q : Value → WP) : funJ jn Try.prog mix_Place_kp Try.f49 [.int .u64 h0, .int .i64 n1] Q = (
  ite2 (decide (n1 < (1 : Int))) (
  Q (.int .i64 (0 : Int))) (
  when ((IntKind.wrap .u64 n1) ≠ 0) <|
  Q (.int .i64 (IntKind.wrap .i64 (Int.tmod h0 (IntKind.wrap .u64 n1)))))) := by kernel_rfl
theorem mix_Place_def (h0 : Int) (n1 : Int) (Q : Value → WP) : mix_Place h0 n1 Q = funJ idJ Try.prog mix_Place_kp Try.f49 [.int .u64 h0, .int .i64 n1] Q := rfl
theorem mix_Place_calls {h0 : Int} {n1 : Int} {Q : Value → WP} {w : World} (h : mix_Place h0 n1 Q w) : Calls Try.prog id_mix_Place #[.int .u64 h0, .int .i64 n1] w fun e w' => ∃ v, e = .returned v ∧ Q v w' :=
  funJ_calls mixed Try.func49 rfl h

-- hoard/mix.Hash
def mix_Hash_kp : KP := ⟨[(9, [1, 5, 14, 15]), (16, [5])], []⟩
def mix_Hash_j2 (jn : Jn) (Q : Value → WP)  (h5 : Int) : WP := jn 16 (fun ρ => codeI Try.prog mix_Hash_kp jn (cAt [true, true, true] (bodyOf Try.f50)) (retK Try.prog Try.f50 Q) noX (retK Try.prog Try.f50 Q) ρ) (us 5 ((.int .u64 h5) :: us 22 []))
def mix_Hash_l1 (jn : Jn) (Q : Value → WP)  (m1 : Nat) (s1 : ByteArray) (h5 : Int) (t14 : Int) (t15 : Int) : WP := lop Try.prog mix_Hash_kp jn (cAt [true, true, false, true, false, false] (bodyOf Try.f50)) (blkX 0 (seqK Try.prog mix_Hash_kp jn (cAt [true, true, true] (bodyOf Try.f50)) (retK Try.prog Try.f50 Q) noX (retK Try.prog Try.f50 Q)) noX) (retK Try.prog Try.f50 Q) m1 (us 1 ((.string s1) :: us 3 ((.int .u64 h5) :: us 8 ((.int .i64 t14) :: (.int .i64 t15) :: us 12 []))))
def mix_Hash (seed0 : Int) (s1 : ByteArray) (Q : Value → WP) : WP := funJ idJ Try.prog mix_Hash_kp Try.f50 [.int .u64 seed0, .string s1] Q
theorem mix_Hash_j2_raw (jn : Jn) (Q : Value → WP)  (h5 : Int) : codeI Try.prog mix_Hash_kp jn (cAt [true, true, true] (bodyOf Try.f50)) (retK Try.prog Try.f50 Q) noX (retK Try.prog Try.f50 Q) (us 5 ((.int .u64 h5) :: us 22 [])) = (
  Q (.int .u64 h5)) := by kernel_rfl
theorem mix_Hash_j2_def (Q : Value → WP)  (h5 : Int) : mix_Hash_j2 idJ Q  h5 = codeI Try.prog mix_Hash_kp idJ (cAt [true, true, true] (bodyOf Try.f50)) (retK Try.prog Try.f50 Q) noX (retK Try.prog Try.f50 Q) (us 5 ((.int .u64 h5) :: us 22 [])) := by kernel_rfl
theorem mix_Hash_l1_raw (jn : Jn) (Q : Value → WP)  (m1 : Nat) (s1 : ByteArray) (h5 : Int) (t14 : Int) (t15 : Int) : mix_Hash_l1 jn Q  (m1 + 1) s1 h5 t14 t15 = (
  ite2 (decide (t15 < t14)) (
  when ((0 : Int) ≤ t15 ∧ t15 < (s1.size : Int)) <|
  call1 (.int .u64) Try.prog id_mix_Mix [.int .u64 (IntKind.wrap .u64 ((bits .xor .u64 h5 (IntKind.wrap .u64 (byteAt s1 (t15).toNat))) + (11400714819323198485 : Int)))] fun (x_2 : Int) =>
  mix_Hash_l1 jn Q  m1 s1 x_2 t14 (IntKind.wrap .i64 (t15 + (1 : Int)))) (
  mix_Hash_j2 jn Q  h5)) := by kernel_rfl
theorem mix_Hash_l1_zero (jn : Jn) (Q : Value → WP)  (s1 : ByteArray) (h5 : Int) (t14 : Int) (t15 : Int) : mix_Hash_l1 jn Q  0 s1 h5 t14 t15 = bot := by kernel_rfl
theorem mix_Hash_raw (jn : Jn) (seed0 : Int) (s1 : ByteArray) (Q : Value → WP) : funJ jn Try.prog mix_Hash_kp Try.f50 [.int .u64 seed0, .string s1] Q = (
  call1 (.int .u64) Try.prog id_mix_Mix [.int .u64 (bits .xor .u64 seed0 (IntKind.wrap .u64 (s1.size : Int)))] fun (x_1 : Int) =>
  exM fun m => mix_Hash_l1 jn Q  m s1 x_1 (s1.size : Int) (0 : Int)) := by kernel_rfl
theorem mix_Hash_def (seed0 : Int) (s1 : ByteArray) (Q : Value → WP) : mix_Hash seed0 s1 Q = funJ idJ Try.prog mix_Hash_kp Try.f50 [.int .u64 seed0, .string s1] Q := rfl
theorem mix_Hash_calls {seed0 : Int} {s1 : ByteArray} {Q : Value → WP} {w : World} (h : mix_Hash seed0 s1 Q w) : Calls Try.prog id_mix_Hash #[.int .u64 seed0, .string s1] w fun e w' => ∃ v, e = .returned v ∧ Q v w' :=
  funJ_calls mixed Try.func50 rfl h

-- hoard/mix.Mix
def mix_Mix_kp : KP := ⟨[], []⟩
def mix_Mix (x0 : Int) (Q : Value → WP) : WP := funJ idJ Try.prog mix_Mix_kp Try.f52 [.int .u64 x0] Q
theorem mix_Mix_raw (jn : Jn) (x0 : Int) (Q : Value → WP) : funJ jn Try.prog mix_Mix_kp Try.f52 [.int .u64 x0] Q = (
  when ((0 : Int) ≤ (30 : Int)) <|
  when ((0 : Int) ≤ (27 : Int)) <|
  when ((0 : Int) ≤ (31 : Int)) <|
  Q (.int .u64 (bits .xor .u64 (IntKind.wrap .u64 ((bits .xor .u64 (IntKind.wrap .u64 ((bits .xor .u64 x0 (shrV .u64 x0 (30 : Int))) * (13787848793156543929 : Int))) (shrV .u64 (IntKind.wrap .u64 ((bits .xor .u64 x0 (shrV .u64 x0 (30 : Int))) * (13787848793156543929 : Int))) (27 : Int))) * (10723151780598845931 : Int))) (shrV .u64 (IntKind.wrap .u64 ((bits .xor .u64 (IntKind.wrap .u64 ((bits .xor .u64 x0 (shrV .u64 x0 (30 : Int))) * (13787848793156543929 : Int))) (shrV .u64 (IntKind.wrap .u64 ((bits .xor .u64 x0 (shrV .u64 x0 (30 : Int))) * (13787848793156543929 : Int))) (27 : Int))) * (10723151780598845931 : Int))) (31 : Int))))) := by kernel_rfl
theorem mix_Mix_def (x0 : Int) (Q : Value → WP) : mix_Mix x0 Q = funJ idJ Try.prog mix_Mix_kp Try.f52 [.int .u64 x0] Q := rfl
theorem mix_Mix_calls {x0 : Int} {Q : Value → WP} {w : World} (h : mix_Mix x0 Q w) : Calls Try.prog id_mix_Mix #[.int .u64 x0] w fun e w' => ∃ v, e = .returned v ∧ Q v w' :=
  funJ_calls mixed Try.func52 rfl h

end Go.Proofs.Ytnmlaenfaiacfaa
