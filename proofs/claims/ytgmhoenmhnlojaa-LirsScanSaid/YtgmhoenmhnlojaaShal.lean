/- Printed by a program of mine (wip/tools/shal.py): the shallow texts of the loaded functions, each equal to the interpreter's reading by the kernel. -/
import Derived.Test.YtgmhoenmhnlojaaSound7
import Derived.Test.YtgmhoenmhnlojaaChecked
import Derived.KernelRfl
import Derived.Test.YtgmhoenmhnlojaaShalA
set_option linter.unusedVariables false
set_option maxRecDepth 100000
namespace Go.Proofs.Ytgmhoenmhnlojaa
open Go.Hb

-- (*hoard/lirs.Engine).Load
def lirs_Engine_Load_kp : KP := ⟨[(8, [0, 1])], [(1, [0, 1, 2, 3, 4, 6, 7, 8, 10, 11, 12, 13, 14, 15]), (4, [0, 1, 2, 3, 4, 5, 6, 8])]⟩
def lirs_Engine_Load_j1 (jn : Jn) (Q : Value → WP)  (e0 : Option Addr) (key1 : ByteArray) : WP := jn 8 (fun ρ => codeI Try.prog lirs_Engine_Load_kp jn (cAt [true, true] (bodyOf Try.f29)) (retK Try.prog Try.f29 Q) noX (retK Try.prog Try.f29 Q) ρ) ((.pointer e0) :: (.string key1) :: us 49 [])
def lirs_Engine_Load (e0 : Option Addr) (key1 : ByteArray) (Q : Value → WP) : WP := funJ idJ Try.prog lirs_Engine_Load_kp Try.f29 [.pointer e0, .string key1] Q
theorem lirs_Engine_Load_j1_raw (jn : Jn) (Q : Value → WP)  (e0 : Option Addr) (key1 : ByteArray) : codeI Try.prog lirs_Engine_Load_kp jn (cAt [true, true] (bodyOf Try.f29)) (retK Try.prog Try.f29 Q) noX (retK Try.prog Try.f29 Q) ((.pointer e0) :: (.string key1) :: us 49 []) = (
  nilck e0 fun b_6 o_7 =>
  ld .ptr b_6 (o_7 + 4) fun (x_8 : Option Addr) =>
  fun w => Calls Try.prog id_index_Index_lirs_entry_Get #[.pointer x_8, .string key1] w fun e w' => ∃ x_9 : Int, ∃ x_10 : Int, ∃ x_11 : Int, ∃ x_12 : Bool, e = .returned (.tuple #[.agg #[.int .i64 x_9, .int .i64 x_10, .int .i64 x_11], .bool x_12]) ∧ (
  newB [.int .i64 (0 : Int), .int .i64 (0 : Int), .int .i64 (0 : Int)] ty_lirs_entry fun b_13 =>
  st b_13 0 (.int .i64 x_9) <|
  st b_13 1 (.int .i64 x_10) <|
  st b_13 2 (.int .i64 x_11) <|
  drawW fun S =>
  nilck e0 fun b_14 o_15 =>
  ldS S (.int .i64) b_14 (o_15 + 5) fun (x_16 : Int) =>
  nilck e0 fun b_17 o_18 =>
  ld (.int .i64) b_17 (o_18 + 1) fun (x_19 : Int) =>
  keepS true S <|
  ite2 (decide (x_16 < x_19)) (
  ld (.int .i64) b_13 0 fun (x_20 : Int) =>
  ld (.int .i64) b_13 1 fun (x_21 : Int) =>
  ld (.int .i64) b_13 2 fun (x_22 : Int) =>
  call0 Try.prog id_lirs_Engine_heats [.pointer e0, .agg #[.int .i64 x_20, .int .i64 x_21, .int .i64 x_22], .string key1] <|
  call0 Try.prog id_lirs_Engine_prunes [.pointer e0] <|
  Q (.bool true)) (
  ld (.int .i64) b_13 0 fun (x_23 : Int) =>
  ld (.int .i64) b_13 1 fun (x_24 : Int) =>
  ld (.int .i64) b_13 2 fun (x_25 : Int) =>
  call0 Try.prog id_lirs_Engine_chills [.pointer e0, .agg #[.int .i64 x_23, .int .i64 x_24, .int .i64 x_25], .string key1] <|
  call0 Try.prog id_lirs_Engine_prunes [.pointer e0] <|
  Q (.bool true))) w') := by kernel_rfl
theorem lirs_Engine_Load_j1_def (Q : Value → WP)  (e0 : Option Addr) (key1 : ByteArray) : lirs_Engine_Load_j1 idJ Q  e0 key1 = codeI Try.prog lirs_Engine_Load_kp idJ (cAt [true, true] (bodyOf Try.f29)) (retK Try.prog Try.f29 Q) noX (retK Try.prog Try.f29 Q) ((.pointer e0) :: (.string key1) :: us 49 []) := by kernel_rfl
theorem lirs_Engine_Load_raw (jn : Jn) (e0 : Option Addr) (key1 : ByteArray) (Q : Value → WP) : funJ jn Try.prog lirs_Engine_Load_kp Try.f29 [.pointer e0, .string key1] Q = (
  drawW fun S =>
  ite2 (Option.isNone e0) (
  keepS true S <|
  keepS true S <|
  Q (.bool false)) (
  call1 .bool Try.prog id_lirs_Engine_Has [.pointer e0, .string key1] fun (x_1 : Bool) =>
  keepS true S <|
  ite2 x_1 (
  keepS true S <|
  Q (.bool false)) (
  nilck e0 fun b_2 o_3 =>
  ldS S (.int .i64) b_2 o_3 fun (x_4 : Int) =>
  call1 (.int .i64) Try.prog id_lirs_Engine_Len [.pointer e0] fun (x_5 : Int) =>
  keepS true S <|
  ite2 (x_5 == x_4) (
  Q (.bool false)) (
  lirs_Engine_Load_j1 jn Q  e0 key1)))) := by kernel_rfl
theorem lirs_Engine_Load_def (e0 : Option Addr) (key1 : ByteArray) (Q : Value → WP) : lirs_Engine_Load e0 key1 Q = funJ idJ Try.prog lirs_Engine_Load_kp Try.f29 [.pointer e0, .string key1] Q := rfl
theorem lirs_Engine_Load_calls {e0 : Option Addr} {key1 : ByteArray} {Q : Value → WP} {w : World} (h : lirs_Engine_Load e0 key1 Q w) : Calls Try.prog id_lirs_Engine_Load #[.pointer e0, .string key1] w fun e w' => ∃ v, e = .returned v ∧ Q v w' :=
  funJ_calls mixed Try.func29 rfl h

-- (*hoard/lirs.Engine).Room
def lirs_Engine_Room_kp : KP := ⟨[], []⟩
def lirs_Engine_Room (e0 : Option Addr) (Q : Value → WP) : WP := funJ idJ Try.prog lirs_Engine_Room_kp Try.f30 [.pointer e0] Q
theorem lirs_Engine_Room_raw (jn : Jn) (e0 : Option Addr) (Q : Value → WP) : funJ jn Try.prog lirs_Engine_Room_kp Try.f30 [.pointer e0] Q = (
  ite2 (Option.isNone e0) (
  Q (.int .i64 (0 : Int))) (
  nilck e0 fun b_1 o_2 =>
  ld (.int .i64) b_1 o_2 fun (x_3 : Int) =>
  Q (.int .i64 x_3))) := by kernel_rfl
theorem lirs_Engine_Room_def (e0 : Option Addr) (Q : Value → WP) : lirs_Engine_Room e0 Q = funJ idJ Try.prog lirs_Engine_Room_kp Try.f30 [.pointer e0] Q := rfl
theorem lirs_Engine_Room_calls {e0 : Option Addr} {Q : Value → WP} {w : World} (h : lirs_Engine_Room e0 Q w) : Calls Try.prog id_lirs_Engine_Room #[.pointer e0] w fun e w' => ∃ v, e = .returned v ∧ Q v w' :=
  funJ_calls mixed Try.func30 rfl h

-- (*hoard/lirs.Engine).Remove
def lirs_Engine_Remove_kp : KP := ⟨[], [(4, [0, 1, 2, 3, 4])]⟩
def lirs_Engine_Remove (e0 : Option Addr) (key1 : ByteArray) (Q : Value → WP) : WP := funJ idJ Try.prog lirs_Engine_Remove_kp Try.f31 [.pointer e0, .string key1] Q
theorem lirs_Engine_Remove_raw (jn : Jn) (e0 : Option Addr) (key1 : ByteArray) (Q : Value → WP) : funJ jn Try.prog lirs_Engine_Remove_kp Try.f31 [.pointer e0, .string key1] Q = (
  call1 .bool Try.prog id_lirs_Engine_Has [.pointer e0, .string key1] fun (x_1 : Bool) =>
  ite2 (!x_1) (
  Q (.bool false)) (
  nilck e0 fun b_2 o_3 =>
  ld .ptr b_2 (o_3 + 4) fun (x_4 : Option Addr) =>
  fun w => Calls Try.prog id_index_Index_lirs_entry_Get #[.pointer x_4, .string key1] w fun e w' => ∃ x_5 : Int, ∃ x_6 : Int, ∃ x_7 : Int, ∃ x_8 : Bool, e = .returned (.tuple #[.agg #[.int .i64 x_5, .int .i64 x_6, .int .i64 x_7], .bool x_8]) ∧ (
  newB [.int .i64 (0 : Int), .int .i64 (0 : Int), .int .i64 (0 : Int)] ty_lirs_entry fun b_9 =>
  st b_9 0 (.int .i64 x_5) <|
  st b_9 1 (.int .i64 x_6) <|
  st b_9 2 (.int .i64 x_7) <|
  drawW fun S =>
  nilck e0 fun b_10 o_11 =>
  ldS S .ptr b_10 (o_11 + 2) fun (x_12 : Option Addr) =>
  ld (.int .i64) b_9 1 fun (x_13 : Int) =>
  keepS true S <|
  call2 .str .bool Try.prog id_list_List_string_Remove [.pointer x_12, .int .i64 x_13] fun (x_14 : ByteArray) (x_15 : Bool) =>
  call0 Try.prog id_lirs_Engine_leaves [.pointer e0, .pointer (some ⟨b_9, 0, none⟩)] <|
  call0 Try.prog id_lirs_Engine_set [.pointer e0, .string key1, .agg #[.int .i64 (0 : Int), .int .i64 (0 : Int), .int .i64 (0 : Int)]] <|
  call0 Try.prog id_lirs_Engine_prunes [.pointer e0] <|
  Q (.bool true)) w')) := by kernel_rfl
theorem lirs_Engine_Remove_def (e0 : Option Addr) (key1 : ByteArray) (Q : Value → WP) : lirs_Engine_Remove e0 key1 Q = funJ idJ Try.prog lirs_Engine_Remove_kp Try.f31 [.pointer e0, .string key1] Q := rfl
theorem lirs_Engine_Remove_calls {e0 : Option Addr} {key1 : ByteArray} {Q : Value → WP} {w : World} (h : lirs_Engine_Remove e0 key1 Q w) : Calls Try.prog id_lirs_Engine_Remove #[.pointer e0, .string key1] w fun e w' => ∃ v, e = .returned v ∧ Q v w' :=
  funJ_calls mixed Try.func31 rfl h

-- (*hoard/lirs.Engine).Ghosts
def lirs_Engine_Ghosts_kp : KP := ⟨[], []⟩
def lirs_Engine_Ghosts (e0 : Option Addr) (Q : Value → WP) : WP := funJ idJ Try.prog lirs_Engine_Ghosts_kp Try.f32 [.pointer e0] Q
theorem lirs_Engine_Ghosts_raw (jn : Jn) (e0 : Option Addr) (Q : Value → WP) : funJ jn Try.prog lirs_Engine_Ghosts_kp Try.f32 [.pointer e0] Q = (
  ite2 (Option.isNone e0) (
  Q (.slice (none : Option Addr) 0 0)) (
  call1 .slc Try.prog id_lirs_Engine_those [.pointer e0, .int .i64 (3 : Int)] fun (x_1 : Sl) =>
  Q (.slice x_1.a x_1.n x_1.c))) := by kernel_rfl
theorem lirs_Engine_Ghosts_def (e0 : Option Addr) (Q : Value → WP) : lirs_Engine_Ghosts e0 Q = funJ idJ Try.prog lirs_Engine_Ghosts_kp Try.f32 [.pointer e0] Q := rfl
theorem lirs_Engine_Ghosts_calls {e0 : Option Addr} {Q : Value → WP} {w : World} (h : lirs_Engine_Ghosts e0 Q w) : Calls Try.prog id_lirs_Engine_Ghosts #[.pointer e0] w fun e w' => ∃ v, e = .returned v ∧ Q v w' :=
  funJ_calls mixed Try.func32 rfl h

-- (*hoard/lirs.Engine).State
def lirs_Engine_State_kp : KP := ⟨[(15, [0, 3, 17, 18, 19]), (24, [0, 3]), (29, [3, 46, 47, 48]), (36, [3])], []⟩
def lirs_Engine_State_j4 (jn : Jn) (Q : Value → WP)  (w3_b : Nat) (w3_o : Nat) : WP := jn 36 (fun ρ => codeI Try.prog lirs_Engine_State_kp jn (cAt [true, true, true, true, true, true, true] (bodyOf Try.f33)) (retK Try.prog Try.f33 Q) noX (retK Try.prog Try.f33 Q) ρ) (us 3 ((.pointer (some ⟨w3_b, w3_o, none⟩)) :: us 53 []))
def lirs_Engine_State_l3 (jn : Jn) (Q : Value → WP)  (m3 : Nat) (w3_b : Nat) (w3_o : Nat) (t46 : Sl) (t47 : Int) (t48 : Int) : WP := lop Try.prog lirs_Engine_State_kp jn (cAt [true, true, true, true, true, true, false, true, false, false] (bodyOf Try.f33)) (blkX 2 (seqK Try.prog lirs_Engine_State_kp jn (cAt [true, true, true, true, true, true, true] (bodyOf Try.f33)) (retK Try.prog Try.f33 Q) noX (retK Try.prog Try.f33 Q)) noX) (retK Try.prog Try.f33 Q) m3 (us 3 ((.pointer (some ⟨w3_b, w3_o, none⟩)) :: us 42 ((.slice t46.a t46.n t46.c) :: (.int .i64 t47) :: (.int .i64 t48) :: us 8 [])))
def lirs_Engine_State_j2 (jn : Jn) (Q : Value → WP)  (e0 : Option Addr) (w3_b : Nat) (w3_o : Nat) : WP := jn 24 (fun ρ => codeI Try.prog lirs_Engine_State_kp jn (cAt [true, true, true, true, true] (bodyOf Try.f33)) (retK Try.prog Try.f33 Q) noX (retK Try.prog Try.f33 Q) ρ) ((.pointer e0) :: us 2 ((.pointer (some ⟨w3_b, w3_o, none⟩)) :: us 53 []))
def lirs_Engine_State_l1 (jn : Jn) (Q : Value → WP)  (m1 : Nat) (e0 : Option Addr) (w3_b : Nat) (w3_o : Nat) (t17 : Sl) (t18 : Int) (t19 : Int) : WP := lop Try.prog lirs_Engine_State_kp jn (cAt [true, true, true, true, false, true, false, false] (bodyOf Try.f33)) (blkX 0 (seqK Try.prog lirs_Engine_State_kp jn (cAt [true, true, true, true, true] (bodyOf Try.f33)) (retK Try.prog Try.f33 Q) noX (retK Try.prog Try.f33 Q)) noX) (retK Try.prog Try.f33 Q) m1 ((.pointer e0) :: us 2 ((.pointer (some ⟨w3_b, w3_o, none⟩)) :: us 13 ((.slice t17.a t17.n t17.c) :: (.int .i64 t18) :: (.int .i64 t19) :: us 37 [])))
def lirs_Engine_State (e0 : Option Addr) (Q : Value → WP) : WP := funJ idJ Try.prog lirs_Engine_State_kp Try.f33 [.pointer e0] Q
theorem lirs_Engine_State_j4_raw (jn : Jn) (Q : Value → WP)  (w3_b : Nat) (w3_o : Nat) : codeI Try.prog lirs_Engine_State_kp jn (cAt [true, true, true, true, true, true, true] (bodyOf Try.f33)) (retK Try.prog Try.f33 Q) noX (retK Try.prog Try.f33 Q) (us 3 ((.pointer (some ⟨w3_b, w3_o, none⟩)) :: us 53 [])) = (
  call1 .str Try.prog id_strings_Builder_String [.pointer (some ⟨w3_b, w3_o, none⟩)] fun (x_34 : ByteArray) =>
  Q (.string x_34)) := by kernel_rfl
theorem lirs_Engine_State_j4_def (Q : Value → WP)  (w3_b : Nat) (w3_o : Nat) : lirs_Engine_State_j4 idJ Q  w3_b w3_o = codeI Try.prog lirs_Engine_State_kp idJ (cAt [true, true, true, true, true, true, true] (bodyOf Try.f33)) (retK Try.prog Try.f33 Q) noX (retK Try.prog Try.f33 Q) (us 3 ((.pointer (some ⟨w3_b, w3_o, none⟩)) :: us 53 [])) := by kernel_rfl
theorem lirs_Engine_State_l3_raw (jn : Jn) (Q : Value → WP)  (m3 : Nat) (w3_b : Nat) (w3_o : Nat) (t46 : Sl) (t47 : Int) (t48 : Int) : lirs_Engine_State_l3 jn Q  (m3 + 1) w3_b w3_o t46 t47 t48 = (
  ite2 (decide (t48 < t47)) (
  idx t46.a t46.n t48 fun b_29 o_30 =>
  ld .str b_29 (o_30 + (t48).toNat * 1) fun (x_31 : ByteArray) =>
  when (str__.size + x_31.size ≤ 9223372036854775807) <|
  call2 (.int .i64) .any Try.prog id_strings_Builder_WriteString [.pointer (some ⟨w3_b, w3_o, none⟩), .string (str__ ++ x_31)] fun (x_32 : Int) (x_33 : Value) =>
  lirs_Engine_State_l3 jn Q  m3 w3_b w3_o t46 t47 (IntKind.wrap .i64 (t48 + (1 : Int)))) (
  lirs_Engine_State_j4 jn Q  w3_b w3_o)) := by kernel_rfl
theorem lirs_Engine_State_l3_zero (jn : Jn) (Q : Value → WP)  (w3_b : Nat) (w3_o : Nat) (t46 : Sl) (t47 : Int) (t48 : Int) : lirs_Engine_State_l3 jn Q  0 w3_b w3_o t46 t47 t48 = bot := by kernel_rfl
theorem lirs_Engine_State_j2_raw (jn : Jn) (Q : Value → WP)  (e0 : Option Addr) (w3_b : Nat) (w3_o : Nat) : codeI Try.prog lirs_Engine_State_kp jn (cAt [true, true, true, true, true] (bodyOf Try.f33)) (retK Try.prog Try.f33 Q) noX (retK Try.prog Try.f33 Q) ((.pointer e0) :: us 2 ((.pointer (some ⟨w3_b, w3_o, none⟩)) :: us 53 [])) = (
  call2 (.int .i64) .any Try.prog id_strings_Builder_WriteString [.pointer (some ⟨w3_b, w3_o, none⟩), .string str__Q_] fun (x_23 : Int) (x_24 : Value) =>
  nilck e0 fun b_25 o_26 =>
  ld .ptr b_25 (o_26 + 3) fun (x_27 : Option Addr) =>
  call1 .slc Try.prog id_list_List_string_All [.pointer x_27] fun (x_28 : Sl) =>
  exM fun m => lirs_Engine_State_l3 jn Q  m w3_b w3_o x_28 (x_28.n : Int) (0 : Int)) := by kernel_rfl
theorem lirs_Engine_State_j2_def (Q : Value → WP)  (e0 : Option Addr) (w3_b : Nat) (w3_o : Nat) : lirs_Engine_State_j2 idJ Q  e0 w3_b w3_o = codeI Try.prog lirs_Engine_State_kp idJ (cAt [true, true, true, true, true] (bodyOf Try.f33)) (retK Try.prog Try.f33 Q) noX (retK Try.prog Try.f33 Q) ((.pointer e0) :: us 2 ((.pointer (some ⟨w3_b, w3_o, none⟩)) :: us 53 [])) := by kernel_rfl
theorem lirs_Engine_State_l1_raw (jn : Jn) (Q : Value → WP)  (m1 : Nat) (e0 : Option Addr) (w3_b : Nat) (w3_o : Nat) (t17 : Sl) (t18 : Int) (t19 : Int) : lirs_Engine_State_l1 jn Q  (m1 + 1) e0 w3_b w3_o t17 t18 t19 = (
  ite2 (decide (t19 < t18)) (
  idx t17.a t17.n t19 fun b_8 o_9 =>
  ld .str b_8 (o_9 + (t19).toNat * 1) fun (x_10 : ByteArray) =>
  nilck e0 fun b_11 o_12 =>
  ld .ptr b_11 (o_12 + 4) fun (x_13 : Option Addr) =>
  fun w => Calls Try.prog id_index_Index_lirs_entry_Get #[.pointer x_13, .string x_10] w fun e w' => ∃ x_14 : Int, ∃ x_15 : Int, ∃ x_16 : Int, ∃ x_17 : Bool, e = .returned (.tuple #[.agg #[.int .i64 x_14, .int .i64 x_15, .int .i64 x_16], .bool x_17]) ∧ (
  newB [.int .i64 (0 : Int), .int .i64 (0 : Int), .int .i64 (0 : Int)] ty_lirs_entry fun b_18 =>
  st b_18 0 (.int .i64 x_14) <|
  st b_18 1 (.int .i64 x_15) <|
  st b_18 2 (.int .i64 x_16) <|
  when (str__.size + x_10.size ≤ 9223372036854775807) <|
  ld (.int .i64) b_18 0 fun (x_19 : Int) =>
  when ((0 : Int) ≤ x_19 ∧ x_19 < ((4 : Nat) : Int)) <|
  fun w => ∃ x_20 : ByteArray, ([.string str_empty, .string str__h, .string str__c, .string str__g] : List Value)[(x_19).toNat]? = some (.string x_20) ∧ isU (.string x_20) = false ∧ (
  when ((str__ ++ x_10).size + x_20.size ≤ 9223372036854775807) <|
  call2 (.int .i64) .any Try.prog id_strings_Builder_WriteString [.pointer (some ⟨w3_b, w3_o, none⟩), .string ((str__ ++ x_10) ++ x_20)] fun (x_21 : Int) (x_22 : Value) =>
  lirs_Engine_State_l1 jn Q  m1 e0 w3_b w3_o t17 t18 (IntKind.wrap .i64 (t19 + (1 : Int)))) w) w') (
  lirs_Engine_State_j2 jn Q  e0 w3_b w3_o)) := by kernel_rfl
theorem lirs_Engine_State_l1_zero (jn : Jn) (Q : Value → WP)  (e0 : Option Addr) (w3_b : Nat) (w3_o : Nat) (t17 : Sl) (t18 : Int) (t19 : Int) : lirs_Engine_State_l1 jn Q  0 e0 w3_b w3_o t17 t18 t19 = bot := by kernel_rfl
theorem lirs_Engine_State_raw (jn : Jn) (e0 : Option Addr) (Q : Value → WP) : funJ jn Try.prog lirs_Engine_State_kp Try.f33 [.pointer e0] Q = (
  ite2 (Option.isNone e0) (
  Q (.string str_empty)) (
  newB [.pointer (none : Option Addr), .slice (none : Option Addr) 0 0] ty_strings_Builder fun b_1 =>
  call2 (.int .i64) .any Try.prog id_strings_Builder_WriteString [.pointer (some ⟨b_1, 0, none⟩), .string str_S_] fun (x_2 : Int) (x_3 : Value) =>
  nilck e0 fun b_4 o_5 =>
  ld .ptr b_4 (o_5 + 2) fun (x_6 : Option Addr) =>
  call1 .slc Try.prog id_list_List_string_All [.pointer x_6] fun (x_7 : Sl) =>
  exM fun m => lirs_Engine_State_l1 jn Q  m e0 b_1 0 x_7 (x_7.n : Int) (0 : Int))) := by kernel_rfl
theorem lirs_Engine_State_def (e0 : Option Addr) (Q : Value → WP) : lirs_Engine_State e0 Q = funJ idJ Try.prog lirs_Engine_State_kp Try.f33 [.pointer e0] Q := rfl
theorem lirs_Engine_State_calls {e0 : Option Addr} {Q : Value → WP} {w : World} (h : lirs_Engine_State e0 Q w) : Calls Try.prog id_lirs_Engine_State #[.pointer e0] w fun e w' => ∃ v, e = .returned v ∧ Q v w' :=
  funJ_calls mixed Try.func33 rfl h

-- (*hoard/hoardref13.Engine).State
def hoardref13_Engine_State_kp : KP := ⟨[(9, [0, 3, 4]), (14, [0, 3]), (19, [0, 3, 5]), (24, [3])], [(5, [0, 1, 2, 3, 4, 5, 6, 7, 8, 9, 10, 11, 12, 13, 14, 16, 17, 18, 22, 23])]⟩
def hoardref13_Engine_State_j4 (jn : Jn) (Q : Value → WP)  (s3 : ByteArray) : WP := jn 24 (fun ρ => codeI Try.prog hoardref13_Engine_State_kp jn (cAt [true, true, true, true, true] (bodyOf Try.f34)) (retK Try.prog Try.f34 Q) noX (retK Try.prog Try.f34 Q) ρ) (us 3 ((.string s3) :: us 56 []))
def hoardref13_Engine_State_l3 (jn : Jn) (Q : Value → WP)  (m3 : Nat) (e0 : Option Addr) (s3 : ByteArray) (i5 : Int) : WP := lop Try.prog hoardref13_Engine_State_kp jn (cAt [true, true, true, true, false, true, false, false] (bodyOf Try.f34)) (blkX 2 (seqK Try.prog hoardref13_Engine_State_kp jn (cAt [true, true, true, true, true] (bodyOf Try.f34)) (retK Try.prog Try.f34 Q) noX (retK Try.prog Try.f34 Q)) noX) (retK Try.prog Try.f34 Q) m3 ((.pointer e0) :: us 2 ((.string s3) :: us 1 ((.int .i64 i5) :: us 54 [])))
def hoardref13_Engine_State_j2 (jn : Jn) (Q : Value → WP)  (e0 : Option Addr) (s3 : ByteArray) : WP := jn 14 (fun ρ => codeI Try.prog hoardref13_Engine_State_kp jn (cAt [true, true, true] (bodyOf Try.f34)) (retK Try.prog Try.f34 Q) noX (retK Try.prog Try.f34 Q) ρ) ((.pointer e0) :: us 2 ((.string s3) :: us 56 []))
def hoardref13_Engine_State_l1 (jn : Jn) (Q : Value → WP)  (m1 : Nat) (e0 : Option Addr) (s3 : ByteArray) (i4 : Int) : WP := lop Try.prog hoardref13_Engine_State_kp jn (cAt [true, true, false, true, false, false] (bodyOf Try.f34)) (blkX 0 (seqK Try.prog hoardref13_Engine_State_kp jn (cAt [true, true, true] (bodyOf Try.f34)) (retK Try.prog Try.f34 Q) noX (retK Try.prog Try.f34 Q)) noX) (retK Try.prog Try.f34 Q) m1 ((.pointer e0) :: us 2 ((.string s3) :: (.int .i64 i4) :: us 55 []))
def hoardref13_Engine_State (e0 : Option Addr) (Q : Value → WP) : WP := funJ idJ Try.prog hoardref13_Engine_State_kp Try.f34 [.pointer e0] Q
theorem hoardref13_Engine_State_j4_raw (jn : Jn) (Q : Value → WP)  (s3 : ByteArray) : codeI Try.prog hoardref13_Engine_State_kp jn (cAt [true, true, true, true, true] (bodyOf Try.f34)) (retK Try.prog Try.f34 Q) noX (retK Try.prog Try.f34 Q) (us 3 ((.string s3) :: us 56 [])) = (
  Q (.string s3)) := by kernel_rfl
theorem hoardref13_Engine_State_j4_def (Q : Value → WP)  (s3 : ByteArray) : hoardref13_Engine_State_j4 idJ Q  s3 = codeI Try.prog hoardref13_Engine_State_kp idJ (cAt [true, true, true, true, true] (bodyOf Try.f34)) (retK Try.prog Try.f34 Q) noX (retK Try.prog Try.f34 Q) (us 3 ((.string s3) :: us 56 [])) := by kernel_rfl
theorem hoardref13_Engine_State_l3_raw (jn : Jn) (Q : Value → WP)  (m3 : Nat) (e0 : Option Addr) (s3 : ByteArray) (i5 : Int) : hoardref13_Engine_State_l3 jn Q  (m3 + 1) e0 s3 i5 = (
  nilck e0 fun b_18 o_19 =>
  ld .slc b_18 (o_19 + 1) fun (x_20 : Sl) =>
  ite2 (decide (i5 < (x_20.n : Int))) (
  when (s3.size + str__.size ≤ 9223372036854775807) <|
  nilck e0 fun b_21 o_22 =>
  ld .slc b_21 (o_22 + 1) fun (x_23 : Sl) =>
  idx x_23.a x_23.n i5 fun b_24 o_25 =>
  ld .str b_24 (o_25 + (i5).toNat * 1) fun (x_26 : ByteArray) =>
  when ((s3 ++ str__).size + x_26.size ≤ 9223372036854775807) <|
  hoardref13_Engine_State_l3 jn Q  m3 e0 ((s3 ++ str__) ++ x_26) (IntKind.wrap .i64 (i5 + (1 : Int)))) (
  hoardref13_Engine_State_j4 jn Q  s3)) := by kernel_rfl
theorem hoardref13_Engine_State_l3_zero (jn : Jn) (Q : Value → WP)  (e0 : Option Addr) (s3 : ByteArray) (i5 : Int) : hoardref13_Engine_State_l3 jn Q  0 e0 s3 i5 = bot := by kernel_rfl
theorem hoardref13_Engine_State_j2_raw (jn : Jn) (Q : Value → WP)  (e0 : Option Addr) (s3 : ByteArray) : codeI Try.prog hoardref13_Engine_State_kp jn (cAt [true, true, true] (bodyOf Try.f34)) (retK Try.prog Try.f34 Q) noX (retK Try.prog Try.f34 Q) ((.pointer e0) :: us 2 ((.string s3) :: us 56 [])) = (
  when (s3.size + str__Q_.size ≤ 9223372036854775807) <|
  exM fun m => hoardref13_Engine_State_l3 jn Q  m e0 (s3 ++ str__Q_) (0 : Int)) := by kernel_rfl
theorem hoardref13_Engine_State_j2_def (Q : Value → WP)  (e0 : Option Addr) (s3 : ByteArray) : hoardref13_Engine_State_j2 idJ Q  e0 s3 = codeI Try.prog hoardref13_Engine_State_kp idJ (cAt [true, true, true] (bodyOf Try.f34)) (retK Try.prog Try.f34 Q) noX (retK Try.prog Try.f34 Q) ((.pointer e0) :: us 2 ((.string s3) :: us 56 [])) := by kernel_rfl
theorem hoardref13_Engine_State_l1_raw (jn : Jn) (Q : Value → WP)  (m1 : Nat) (e0 : Option Addr) (s3 : ByteArray) (i4 : Int) : hoardref13_Engine_State_l1 jn Q  (m1 + 1) e0 s3 i4 = (
  nilck e0 fun b_1 o_2 =>
  ld .slc b_1 o_2 fun (x_3 : Sl) =>
  ite2 (decide (i4 < (x_3.n : Int))) (
  drawW fun S =>
  when (s3.size + str__.size ≤ 9223372036854775807) <|
  nilck e0 fun b_4 o_5 =>
  ldS S .slc b_4 o_5 fun (x_6 : Sl) =>
  idx x_6.a x_6.n i4 fun b_7 o_8 =>
  ldS S .str b_7 (o_8 + (i4).toNat * 2) fun (x_9 : ByteArray) =>
  when ((s3 ++ str__).size + x_9.size ≤ 9223372036854775807) <|
  when (((s3 ++ str__) ++ x_9).size + str__x.size ≤ 9223372036854775807) <|
  nilck e0 fun b_10 o_11 =>
  ld .slc b_10 o_11 fun (x_12 : Sl) =>
  keepS true S <|
  idx x_12.a x_12.n i4 fun b_13 o_14 =>
  ld (.int .u8) b_13 ((o_14 + (i4).toNat * 2) + 1) fun (x_15 : Int) =>
  keepS true S <|
  newB [.int .u8 x_15] ty_uint8 fun b_16 =>
  keepS true S <|
  b2s (some ⟨b_16, 0, none⟩) 1 fun (x_17 : ByteArray) =>
  keepS true S <|
  when ((((s3 ++ str__) ++ x_9) ++ str__x).size + x_17.size ≤ 9223372036854775807) <|
  hoardref13_Engine_State_l1 jn Q  m1 e0 ((((s3 ++ str__) ++ x_9) ++ str__x) ++ x_17) (IntKind.wrap .i64 (i4 + (1 : Int)))) (
  hoardref13_Engine_State_j2 jn Q  e0 s3)) := by kernel_rfl
theorem hoardref13_Engine_State_l1_zero (jn : Jn) (Q : Value → WP)  (e0 : Option Addr) (s3 : ByteArray) (i4 : Int) : hoardref13_Engine_State_l1 jn Q  0 e0 s3 i4 = bot := by kernel_rfl
theorem hoardref13_Engine_State_raw (jn : Jn) (e0 : Option Addr) (Q : Value → WP) : funJ jn Try.prog hoardref13_Engine_State_kp Try.f34 [.pointer e0] Q = (
  exM fun m => hoardref13_Engine_State_l1 jn Q  m e0 str_S_ (0 : Int)) := by kernel_rfl
theorem hoardref13_Engine_State_def (e0 : Option Addr) (Q : Value → WP) : hoardref13_Engine_State e0 Q = funJ idJ Try.prog hoardref13_Engine_State_kp Try.f34 [.pointer e0] Q := rfl
theorem hoardref13_Engine_State_calls {e0 : Option Addr} {Q : Value → WP} {w : World} (h : hoardref13_Engine_State e0 Q w) : Calls Try.prog id_hoardref13_Engine_State #[.pointer e0] w fun e w' => ∃ v, e = .returned v ∧ Q v w' :=
  funJ_calls mixed Try.func34 rfl h

-- (*hoard/hoardref13.Engine).Keys
def hoardref13_Engine_Keys_kp : KP := ⟨[(9, [0, 3, 4]), (16, [3])], []⟩
def hoardref13_Engine_Keys_j2 (jn : Jn) (Q : Value → WP)  (l3 : Sl) : WP := jn 16 (fun ρ => codeI Try.prog hoardref13_Engine_Keys_kp jn (cAt [true, true, true] (bodyOf Try.f35)) (retK Try.prog Try.f35 Q) noX (retK Try.prog Try.f35 Q) ρ) (us 3 ((.slice l3.a l3.n l3.c) :: us 37 []))
def hoardref13_Engine_Keys_l1 (jn : Jn) (Q : Value → WP)  (m1 : Nat) (e0 : Option Addr) (l3 : Sl) (i4 : Int) : WP := lop Try.prog hoardref13_Engine_Keys_kp jn (cAt [true, true, false, true, false, false] (bodyOf Try.f35)) (blkX 0 (seqK Try.prog hoardref13_Engine_Keys_kp jn (cAt [true, true, true] (bodyOf Try.f35)) (retK Try.prog Try.f35 Q) noX (retK Try.prog Try.f35 Q)) noX) (retK Try.prog Try.f35 Q) m1 ((.pointer e0) :: us 2 ((.slice l3.a l3.n l3.c) :: (.int .i64 i4) :: us 36 []))
def hoardref13_Engine_Keys (e0 : Option Addr) (Q : Value → WP) : WP := funJ idJ Try.prog hoardref13_Engine_Keys_kp Try.f35 [.pointer e0] Q
theorem hoardref13_Engine_Keys_j2_raw (jn : Jn) (Q : Value → WP)  (l3 : Sl) : codeI Try.prog hoardref13_Engine_Keys_kp jn (cAt [true, true, true] (bodyOf Try.f35)) (retK Try.prog Try.f35 Q) noX (retK Try.prog Try.f35 Q) (us 3 ((.slice l3.a l3.n l3.c) :: us 37 [])) = (
  Q (.slice l3.a l3.n l3.c)) := by kernel_rfl
theorem hoardref13_Engine_Keys_j2_def (Q : Value → WP)  (l3 : Sl) : hoardref13_Engine_Keys_j2 idJ Q  l3 = codeI Try.prog hoardref13_Engine_Keys_kp idJ (cAt [true, true, true] (bodyOf Try.f35)) (retK Try.prog Try.f35 Q) noX (retK Try.prog Try.f35 Q) (us 3 ((.slice l3.a l3.n l3.c) :: us 37 [])) := by kernel_rfl
theorem hoardref13_Engine_Keys_l1_raw (jn : Jn) (Q : Value → WP)  (m1 : Nat) (e0 : Option Addr) (l3 : Sl) (i4 : Int) : hoardref13_Engine_Keys_l1 jn Q  (m1 + 1) e0 l3 i4 = (
  nilck e0 fun b_6 o_7 =>
  ld .slc b_6 o_7 fun (x_8 : Sl) =>
  ite2 (decide (i4 < (x_8.n : Int))) (
  nilck e0 fun b_9 o_10 =>
  ld .slc b_9 o_10 fun (x_11 : Sl) =>
  idx x_11.a x_11.n i4 fun b_12 o_13 =>
  ld (.int .u8) b_12 ((o_13 + (i4).toNat * 2) + 1) fun (x_14 : Int) =>
  ite2 (x_14 == (104 : Int)) (
  nilck e0 fun b_15 o_16 =>
  ld .slc b_15 o_16 fun (x_17 : Sl) =>
  idx x_17.a x_17.n i4 fun b_18 o_19 =>
  ld .str b_18 (o_19 + (i4).toNat * 2) fun (x_20 : ByteArray) =>
  newB [.string x_20] ty_string fun b_21 =>
  appendC ty_string 1 16 [.string str_empty] ⟨l3.a, l3.n, l3.c⟩ 1 (fun w => rdA w (some ⟨b_21, 0, none⟩) (1 * 1)) fun s_22 =>
  hoardref13_Engine_Keys_l1 jn Q  m1 e0 s_22 (IntKind.wrap .i64 (i4 + (1 : Int)))) (
  hoardref13_Engine_Keys_l1 jn Q  m1 e0 l3 (IntKind.wrap .i64 (i4 + (1 : Int))))) (
  hoardref13_Engine_Keys_j2 jn Q  l3)) := by kernel_rfl
theorem hoardref13_Engine_Keys_l1_zero (jn : Jn) (Q : Value → WP)  (e0 : Option Addr) (l3 : Sl) (i4 : Int) : hoardref13_Engine_Keys_l1 jn Q  0 e0 l3 i4 = bot := by kernel_rfl
theorem hoardref13_Engine_Keys_raw (jn : Jn) (e0 : Option Addr) (Q : Value → WP) : funJ jn Try.prog hoardref13_Engine_Keys_kp Try.f35 [.pointer e0] Q = (
  newB [] ty_string fun b_1 =>
  nilck e0 fun b_2 o_3 =>
  ld .slc b_2 (o_3 + 1) fun (x_4 : Sl) =>
  appendC ty_string 1 16 [.string str_empty] ⟨(some ⟨b_1, 0, none⟩), 0, 0⟩ x_4.n (fun w => rdA w x_4.a (x_4.n * 1)) fun s_5 =>
  exM fun m => hoardref13_Engine_Keys_l1 jn Q  m e0 s_5 (0 : Int)) := by kernel_rfl
theorem hoardref13_Engine_Keys_def (e0 : Option Addr) (Q : Value → WP) : hoardref13_Engine_Keys e0 Q = funJ idJ Try.prog hoardref13_Engine_Keys_kp Try.f35 [.pointer e0] Q := rfl
theorem hoardref13_Engine_Keys_calls {e0 : Option Addr} {Q : Value → WP} {w : World} (h : hoardref13_Engine_Keys e0 Q w) : Calls Try.prog id_hoardref13_Engine_Keys #[.pointer e0] w fun e w' => ∃ v, e = .returned v ∧ Q v w' :=
  funJ_calls mixed Try.func35 rfl h

-- (*hoard/hoardref13.Engine).Len
def hoardref13_Engine_Len_kp : KP := ⟨[], [(1, [0, 1, 2, 3, 4, 5, 7, 8])]⟩
def hoardref13_Engine_Len (e0 : Option Addr) (Q : Value → WP) : WP := funJ idJ Try.prog hoardref13_Engine_Len_kp Try.f36 [.pointer e0] Q
theorem hoardref13_Engine_Len_raw (jn : Jn) (e0 : Option Addr) (Q : Value → WP) : funJ jn Try.prog hoardref13_Engine_Len_kp Try.f36 [.pointer e0] Q = (
  drawW fun S =>
  nilck e0 fun b_1 o_2 =>
  ldS S .slc b_1 (o_2 + 1) fun (x_3 : Sl) =>
  call1 (.int .i64) Try.prog id_hoardref13_Engine_count [.pointer e0, .int .u8 (104 : Int)] fun (x_4 : Int) =>
  keepS true S <|
  Q (.int .i64 (IntKind.wrap .i64 ((x_3.n : Int) + x_4)))) := by kernel_rfl
theorem hoardref13_Engine_Len_def (e0 : Option Addr) (Q : Value → WP) : hoardref13_Engine_Len e0 Q = funJ idJ Try.prog hoardref13_Engine_Len_kp Try.f36 [.pointer e0] Q := rfl
theorem hoardref13_Engine_Len_calls {e0 : Option Addr} {Q : Value → WP} {w : World} (h : hoardref13_Engine_Len e0 Q w) : Calls Try.prog id_hoardref13_Engine_Len #[.pointer e0] w fun e w' => ∃ v, e = .returned v ∧ Q v w' :=
  funJ_calls mixed Try.func36 rfl h

-- (*hoard/hoardref13.Engine).Ghosts
def hoardref13_Engine_Ghosts_kp : KP := ⟨[(9, [0, 3, 4]), (16, [3])], []⟩
def hoardref13_Engine_Ghosts_j2 (jn : Jn) (Q : Value → WP)  (l3 : Sl) : WP := jn 16 (fun ρ => codeI Try.prog hoardref13_Engine_Ghosts_kp jn (cAt [true, true, true] (bodyOf Try.f37)) (retK Try.prog Try.f37 Q) noX (retK Try.prog Try.f37 Q) ρ) (us 3 ((.slice l3.a l3.n l3.c) :: us 31 []))
def hoardref13_Engine_Ghosts_l1 (jn : Jn) (Q : Value → WP)  (m1 : Nat) (e0 : Option Addr) (l3 : Sl) (i4 : Int) : WP := lop Try.prog hoardref13_Engine_Ghosts_kp jn (cAt [true, true, false, true, false, false] (bodyOf Try.f37)) (blkX 0 (seqK Try.prog hoardref13_Engine_Ghosts_kp jn (cAt [true, true, true] (bodyOf Try.f37)) (retK Try.prog Try.f37 Q) noX (retK Try.prog Try.f37 Q)) noX) (retK Try.prog Try.f37 Q) m1 ((.pointer e0) :: us 2 ((.slice l3.a l3.n l3.c) :: (.int .i64 i4) :: us 30 []))
def hoardref13_Engine_Ghosts (e0 : Option Addr) (Q : Value → WP) : WP := funJ idJ Try.prog hoardref13_Engine_Ghosts_kp Try.f37 [.pointer e0] Q
theorem hoardref13_Engine_Ghosts_j2_raw (jn : Jn) (Q : Value → WP)  (l3 : Sl) : codeI Try.prog hoardref13_Engine_Ghosts_kp jn (cAt [true, true, true] (bodyOf Try.f37)) (retK Try.prog Try.f37 Q) noX (retK Try.prog Try.f37 Q) (us 3 ((.slice l3.a l3.n l3.c) :: us 31 [])) = (
  Q (.slice l3.a l3.n l3.c)) := by kernel_rfl
theorem hoardref13_Engine_Ghosts_j2_def (Q : Value → WP)  (l3 : Sl) : hoardref13_Engine_Ghosts_j2 idJ Q  l3 = codeI Try.prog hoardref13_Engine_Ghosts_kp idJ (cAt [true, true, true] (bodyOf Try.f37)) (retK Try.prog Try.f37 Q) noX (retK Try.prog Try.f37 Q) (us 3 ((.slice l3.a l3.n l3.c) :: us 31 [])) := by kernel_rfl
theorem hoardref13_Engine_Ghosts_l1_raw (jn : Jn) (Q : Value → WP)  (m1 : Nat) (e0 : Option Addr) (l3 : Sl) (i4 : Int) : hoardref13_Engine_Ghosts_l1 jn Q  (m1 + 1) e0 l3 i4 = (
  nilck e0 fun b_1 o_2 =>
  ld .slc b_1 o_2 fun (x_3 : Sl) =>
  ite2 (decide (i4 < (x_3.n : Int))) (
  nilck e0 fun b_4 o_5 =>
  ld .slc b_4 o_5 fun (x_6 : Sl) =>
  idx x_6.a x_6.n i4 fun b_7 o_8 =>
  ld (.int .u8) b_7 ((o_8 + (i4).toNat * 2) + 1) fun (x_9 : Int) =>
  ite2 (x_9 == (103 : Int)) (
  nilck e0 fun b_10 o_11 =>
  ld .slc b_10 o_11 fun (x_12 : Sl) =>
  idx x_12.a x_12.n i4 fun b_13 o_14 =>
  ld .str b_13 (o_14 + (i4).toNat * 2) fun (x_15 : ByteArray) =>
  newB [.string x_15] ty_string fun b_16 =>
  appendC ty_string 1 16 [.string str_empty] ⟨l3.a, l3.n, l3.c⟩ 1 (fun w => rdA w (some ⟨b_16, 0, none⟩) (1 * 1)) fun s_17 =>
  hoardref13_Engine_Ghosts_l1 jn Q  m1 e0 s_17 (IntKind.wrap .i64 (i4 + (1 : Int)))) (
  hoardref13_Engine_Ghosts_l1 jn Q  m1 e0 l3 (IntKind.wrap .i64 (i4 + (1 : Int))))) (
  hoardref13_Engine_Ghosts_j2 jn Q  l3)) := by kernel_rfl
theorem hoardref13_Engine_Ghosts_l1_zero (jn : Jn) (Q : Value → WP)  (e0 : Option Addr) (l3 : Sl) (i4 : Int) : hoardref13_Engine_Ghosts_l1 jn Q  0 e0 l3 i4 = bot := by kernel_rfl
theorem hoardref13_Engine_Ghosts_raw (jn : Jn) (e0 : Option Addr) (Q : Value → WP) : funJ jn Try.prog hoardref13_Engine_Ghosts_kp Try.f37 [.pointer e0] Q = (
  exM fun m => hoardref13_Engine_Ghosts_l1 jn Q  m e0 ⟨(none : Option Addr), 0, 0⟩ (0 : Int)) := by kernel_rfl
theorem hoardref13_Engine_Ghosts_def (e0 : Option Addr) (Q : Value → WP) : hoardref13_Engine_Ghosts e0 Q = funJ idJ Try.prog hoardref13_Engine_Ghosts_kp Try.f37 [.pointer e0] Q := rfl
theorem hoardref13_Engine_Ghosts_calls {e0 : Option Addr} {Q : Value → WP} {w : World} (h : hoardref13_Engine_Ghosts e0 Q w) : Calls Try.prog id_hoardref13_Engine_Ghosts #[.pointer e0] w fun e w' => ∃ v, e = .returned v ∧ Q v w' :=
  funJ_calls mixed Try.func37 rfl h

-- (*hoard/hoardref13.Engine).Room
def hoardref13_Engine_Room_kp : KP := ⟨[], []⟩
def hoardref13_Engine_Room (e0 : Option Addr) (Q : Value → WP) : WP := funJ idJ Try.prog hoardref13_Engine_Room_kp Try.f38 [.pointer e0] Q
theorem hoardref13_Engine_Room_raw (jn : Jn) (e0 : Option Addr) (Q : Value → WP) : funJ jn Try.prog hoardref13_Engine_Room_kp Try.f38 [.pointer e0] Q = (
  nilck e0 fun b_1 o_2 =>
  ld (.int .i64) b_1 (o_2 + 2) fun (x_3 : Int) =>
  Q (.int .i64 x_3)) := by kernel_rfl
theorem hoardref13_Engine_Room_def (e0 : Option Addr) (Q : Value → WP) : hoardref13_Engine_Room e0 Q = funJ idJ Try.prog hoardref13_Engine_Room_kp Try.f38 [.pointer e0] Q := rfl
theorem hoardref13_Engine_Room_calls {e0 : Option Addr} {Q : Value → WP} {w : World} (h : hoardref13_Engine_Room e0 Q w) : Calls Try.prog id_hoardref13_Engine_Room #[.pointer e0] w fun e w' => ∃ v, e = .returned v ∧ Q v w' :=
  funJ_calls mixed Try.func38 rfl h

-- hoard/hoardlaw13.bounded
def hoardlaw13_bounded_kp : KP := ⟨[(9, [0, 3, 4, 5]), (16, [0, 3, 4]), (23, [0, 3, 4, 6, 7, 8]), (26, [0, 3, 4, 6, 7, 8]), (30, [0, 3, 4, 7])], []⟩
def hoardlaw13_bounded_j4 (jn : Jn) (Q : Value → WP) (m3 : Nat) (e0 : Option Addr) (k3 : Sl) (g4 : Sl) (s6 : ByteArray) (hot7 : Int) (i8 : Int) : WP := jn 26 (fun ρ => codeI Try.prog hoardlaw13_bounded_kp jn (cAt [true, true, true, true, true, false, true, false, false, true] (bodyOf Try.f39)) (lopK Try.prog hoardlaw13_bounded_kp jn (cAt [true, true, true, true, true, false, true, false, false] (bodyOf Try.f39)) (blkX 2 (seqK Try.prog hoardlaw13_bounded_kp jn (cAt [true, true, true, true, true, true] (bodyOf Try.f39)) (retK Try.prog Try.f39 Q) noX (retK Try.prog Try.f39 Q)) noX) (retK Try.prog Try.f39 Q) m3) (blkX 2 (seqK Try.prog hoardlaw13_bounded_kp jn (cAt [true, true, true, true, true, true] (bodyOf Try.f39)) (retK Try.prog Try.f39 Q) noX (retK Try.prog Try.f39 Q)) noX) (retK Try.prog Try.f39 Q) ρ) ((.pointer e0) :: us 2 ((.slice k3.a k3.n k3.c) :: (.slice g4.a g4.n g4.c) :: us 1 ((.string s6) :: (.int .i64 hot7) :: (.int .i64 i8) :: us 69 [])))
def hoardlaw13_bounded_j5 (jn : Jn) (Q : Value → WP)  (e0 : Option Addr) (k3 : Sl) (g4 : Sl) (hot7 : Int) : WP := jn 30 (fun ρ => codeI Try.prog hoardlaw13_bounded_kp jn (cAt [true, true, true, true, true, true] (bodyOf Try.f39)) (retK Try.prog Try.f39 Q) noX (retK Try.prog Try.f39 Q) ρ) ((.pointer e0) :: us 2 ((.slice k3.a k3.n k3.c) :: (.slice g4.a g4.n g4.c) :: us 2 ((.int .i64 hot7) :: us 70 [])))
def hoardlaw13_bounded_l3 (jn : Jn) (Q : Value → WP)  (m3 : Nat) (e0 : Option Addr) (k3 : Sl) (g4 : Sl) (s6 : ByteArray) (hot7 : Int) (i8 : Int) : WP := lop Try.prog hoardlaw13_bounded_kp jn (cAt [true, true, true, true, true, false, true, false, false] (bodyOf Try.f39)) (blkX 2 (seqK Try.prog hoardlaw13_bounded_kp jn (cAt [true, true, true, true, true, true] (bodyOf Try.f39)) (retK Try.prog Try.f39 Q) noX (retK Try.prog Try.f39 Q)) noX) (retK Try.prog Try.f39 Q) m3 ((.pointer e0) :: us 2 ((.slice k3.a k3.n k3.c) :: (.slice g4.a g4.n g4.c) :: us 1 ((.string s6) :: (.int .i64 hot7) :: (.int .i64 i8) :: us 69 [])))
def hoardlaw13_bounded_j2 (jn : Jn) (Q : Value → WP)  (e0 : Option Addr) (k3 : Sl) (g4 : Sl) : WP := jn 16 (fun ρ => codeI Try.prog hoardlaw13_bounded_kp jn (cAt [true, true, true] (bodyOf Try.f39)) (retK Try.prog Try.f39 Q) noX (retK Try.prog Try.f39 Q) ρ) ((.pointer e0) :: us 2 ((.slice k3.a k3.n k3.c) :: (.slice g4.a g4.n g4.c) :: us 73 []))
def hoardlaw13_bounded_l1 (jn : Jn) (Q : Value → WP)  (m1 : Nat) (e0 : Option Addr) (k3 : Sl) (g4 : Sl) (i5 : Int) : WP := lop Try.prog hoardlaw13_bounded_kp jn (cAt [true, true, false, true, false, false] (bodyOf Try.f39)) (blkX 0 (seqK Try.prog hoardlaw13_bounded_kp jn (cAt [true, true, true] (bodyOf Try.f39)) (retK Try.prog Try.f39 Q) noX (retK Try.prog Try.f39 Q)) noX) (retK Try.prog Try.f39 Q) m1 ((.pointer e0) :: us 2 ((.slice k3.a k3.n k3.c) :: (.slice g4.a g4.n g4.c) :: (.int .i64 i5) :: us 72 []))
def hoardlaw13_bounded (e0 : Option Addr) (Q : Value → WP) : WP := funJ idJ Try.prog hoardlaw13_bounded_kp Try.f39 [.pointer e0] Q
theorem hoardlaw13_bounded_j4_raw (jn : Jn) (Q : Value → WP) (m3 : Nat) (e0 : Option Addr) (k3 : Sl) (g4 : Sl) (s6 : ByteArray) (hot7 : Int) (i8 : Int) : codeI Try.prog hoardlaw13_bounded_kp jn (cAt [true, true, true, true, true, false, true, false, false, true] (bodyOf Try.f39)) (lopK Try.prog hoardlaw13_bounded_kp jn (cAt [true, true, true, true, true, false, true, false, false] (bodyOf Try.f39)) (blkX 2 (seqK Try.prog hoardlaw13_bounded_kp jn (cAt [true, true, true, true, true, true] (bodyOf Try.f39)) (retK Try.prog Try.f39 Q) noX (retK Try.prog Try.f39 Q)) noX) (retK Try.prog Try.f39 Q) m3) (blkX 2 (seqK Try.prog hoardlaw13_bounded_kp jn (cAt [true, true, true, true, true, true] (bodyOf Try.f39)) (retK Try.prog Try.f39 Q) noX (retK Try.prog Try.f39 Q)) noX) (retK Try.prog Try.f39 Q) ((.pointer e0) :: us 2 ((.slice k3.a k3.n k3.c) :: (.slice g4.a g4.n g4.c) :: us 1 ((.string s6) :: (.int .i64 hot7) :: (.int .i64 i8) :: us 69 []))) = (
  when ((0 : Int) ≤ i8 ∧ i8 < (s6.size : Int)) <|
  ite2 ((byteAt s6 (i8).toNat) == (47 : Int)) (
  when ((0 : Int) ≤ (IntKind.wrap .i64 (i8 + (1 : Int))) ∧ (IntKind.wrap .i64 (i8 + (1 : Int))) < (s6.size : Int)) <|
  ite2 ((byteAt s6 ((IntKind.wrap .i64 (i8 + (1 : Int)))).toNat) == (104 : Int)) (
  hoardlaw13_bounded_l3 jn Q  m3 e0 k3 g4 s6 (IntKind.wrap .i64 (hot7 + (1 : Int))) (IntKind.wrap .i64 (i8 + (1 : Int)))) (
  hoardlaw13_bounded_l3 jn Q  m3 e0 k3 g4 s6 hot7 (IntKind.wrap .i64 (i8 + (1 : Int))))) (
  hoardlaw13_bounded_l3 jn Q  m3 e0 k3 g4 s6 hot7 (IntKind.wrap .i64 (i8 + (1 : Int))))) := by kernel_rfl
theorem hoardlaw13_bounded_j4_def (Q : Value → WP) (m3 : Nat) (e0 : Option Addr) (k3 : Sl) (g4 : Sl) (s6 : ByteArray) (hot7 : Int) (i8 : Int) : hoardlaw13_bounded_j4 idJ Q m3 e0 k3 g4 s6 hot7 i8 = codeI Try.prog hoardlaw13_bounded_kp idJ (cAt [true, true, true, true, true, false, true, false, false, true] (bodyOf Try.f39)) (lopK Try.prog hoardlaw13_bounded_kp idJ (cAt [true, true, true, true, true, false, true, false, false] (bodyOf Try.f39)) (blkX 2 (seqK Try.prog hoardlaw13_bounded_kp idJ (cAt [true, true, true, true, true, true] (bodyOf Try.f39)) (retK Try.prog Try.f39 Q) noX (retK Try.prog Try.f39 Q)) noX) (retK Try.prog Try.f39 Q) m3) (blkX 2 (seqK Try.prog hoardlaw13_bounded_kp idJ (cAt [true, true, true, true, true, true] (bodyOf Try.f39)) (retK Try.prog Try.f39 Q) noX (retK Try.prog Try.f39 Q)) noX) (retK Try.prog Try.f39 Q) ((.pointer e0) :: us 2 ((.slice k3.a k3.n k3.c) :: (.slice g4.a g4.n g4.c) :: us 1 ((.string s6) :: (.int .i64 hot7) :: (.int .i64 i8) :: us 69 []))) := by kernel_rfl
theorem hoardlaw13_bounded_j5_raw (jn : Jn) (Q : Value → WP)  (e0 : Option Addr) (k3 : Sl) (g4 : Sl) (hot7 : Int) : codeI Try.prog hoardlaw13_bounded_kp jn (cAt [true, true, true, true, true, true] (bodyOf Try.f39)) (retK Try.prog Try.f39 Q) noX (retK Try.prog Try.f39 Q) ((.pointer e0) :: us 2 ((.slice k3.a k3.n k3.c) :: (.slice g4.a g4.n g4.c) :: us 2 ((.int .i64 hot7) :: us 70 []))) = (
  call1 (.int .i64) Try.prog id_lirs_Engine_Room [.pointer e0] fun (x_8 : Int) =>
  ite2 (decide ((g4.n : Int) ≤ x_8)) (
  call1 .bool Try.prog id_hoardlaw13_plain [.slice k3.a k3.n k3.c] fun (x_9 : Bool) =>
  ite2 x_9 (
  call1 .bool Try.prog id_hoardlaw13_plain [.slice g4.a g4.n g4.c] fun (x_10 : Bool) =>
  ite2 x_10 (
  call1 (.int .i64) Try.prog id_lirs_Engine_Room [.pointer e0] fun (x_11 : Int) =>
  call1 (.int .i64) Try.prog id_lirs_Engine_Room [.pointer e0] fun (x_12 : Int) =>
  when ((10 : Int) ≠ 0) <|
  Q (.bool ((decide (hot7 > (IntKind.wrap .i64 (x_11 - (if (IntKind.wrap .i64 (Int.tdiv x_12 (10 : Int))) > (1 : Int) then (IntKind.wrap .i64 (Int.tdiv x_12 (10 : Int))) else (1 : Int)))))) == false))) (
  Q (.bool (false == false)))) (
  Q (.bool (false == false)))) (
  Q (.bool false))) := by kernel_rfl
theorem hoardlaw13_bounded_j5_def (Q : Value → WP)  (e0 : Option Addr) (k3 : Sl) (g4 : Sl) (hot7 : Int) : hoardlaw13_bounded_j5 idJ Q  e0 k3 g4 hot7 = codeI Try.prog hoardlaw13_bounded_kp idJ (cAt [true, true, true, true, true, true] (bodyOf Try.f39)) (retK Try.prog Try.f39 Q) noX (retK Try.prog Try.f39 Q) ((.pointer e0) :: us 2 ((.slice k3.a k3.n k3.c) :: (.slice g4.a g4.n g4.c) :: us 2 ((.int .i64 hot7) :: us 70 []))) := by kernel_rfl
theorem hoardlaw13_bounded_l3_raw (jn : Jn) (Q : Value → WP)  (m3 : Nat) (e0 : Option Addr) (k3 : Sl) (g4 : Sl) (s6 : ByteArray) (hot7 : Int) (i8 : Int) : hoardlaw13_bounded_l3 jn Q  (m3 + 1) e0 k3 g4 s6 hot7 i8 = (
  ite2 (decide ((IntKind.wrap .i64 (i8 + (1 : Int))) < (s6.size : Int))) (
  when ((0 : Int) ≤ i8 ∧ i8 < (s6.size : Int)) <|
  ite2 ((byteAt s6 (i8).toNat) != (59 : Int)) (
  hoardlaw13_bounded_j4 jn Q m3 e0 k3 g4 s6 hot7 i8) (
  hoardlaw13_bounded_j5 jn Q  e0 k3 g4 hot7)) (
  hoardlaw13_bounded_j5 jn Q  e0 k3 g4 hot7)) := by kernel_rfl
theorem hoardlaw13_bounded_l3_zero (jn : Jn) (Q : Value → WP)  (e0 : Option Addr) (k3 : Sl) (g4 : Sl) (s6 : ByteArray) (hot7 : Int) (i8 : Int) : hoardlaw13_bounded_l3 jn Q  0 e0 k3 g4 s6 hot7 i8 = bot := by kernel_rfl
theorem hoardlaw13_bounded_j2_raw (jn : Jn) (Q : Value → WP)  (e0 : Option Addr) (k3 : Sl) (g4 : Sl) : codeI Try.prog hoardlaw13_bounded_kp jn (cAt [true, true, true] (bodyOf Try.f39)) (retK Try.prog Try.f39 Q) noX (retK Try.prog Try.f39 Q) ((.pointer e0) :: us 2 ((.slice k3.a k3.n k3.c) :: (.slice g4.a g4.n g4.c) :: us 73 [])) = (
  call1 .str Try.prog id_lirs_Engine_State [.pointer e0] fun (x_7 : ByteArray) =>
  exM fun m => hoardlaw13_bounded_l3 jn Q  m e0 k3 g4 x_7 (0 : Int) (0 : Int)) := by kernel_rfl
theorem hoardlaw13_bounded_j2_def (Q : Value → WP)  (e0 : Option Addr) (k3 : Sl) (g4 : Sl) : hoardlaw13_bounded_j2 idJ Q  e0 k3 g4 = codeI Try.prog hoardlaw13_bounded_kp idJ (cAt [true, true, true] (bodyOf Try.f39)) (retK Try.prog Try.f39 Q) noX (retK Try.prog Try.f39 Q) ((.pointer e0) :: us 2 ((.slice k3.a k3.n k3.c) :: (.slice g4.a g4.n g4.c) :: us 73 [])) := by kernel_rfl
theorem hoardlaw13_bounded_l1_raw (jn : Jn) (Q : Value → WP)  (m1 : Nat) (e0 : Option Addr) (k3 : Sl) (g4 : Sl) (i5 : Int) : hoardlaw13_bounded_l1 jn Q  (m1 + 1) e0 k3 g4 i5 = (
  ite2 (decide (i5 < (g4.n : Int))) (
  idx g4.a g4.n i5 fun b_3 o_4 =>
  ld .str b_3 (o_4 + (i5).toNat * 1) fun (x_5 : ByteArray) =>
  call1 .bool Try.prog id_hoardlaw13_has [.slice k3.a k3.n k3.c, .string x_5] fun (x_6 : Bool) =>
  ite2 x_6 (
  Q (.bool false)) (
  hoardlaw13_bounded_l1 jn Q  m1 e0 k3 g4 (IntKind.wrap .i64 (i5 + (1 : Int))))) (
  hoardlaw13_bounded_j2 jn Q  e0 k3 g4)) := by kernel_rfl
theorem hoardlaw13_bounded_l1_zero (jn : Jn) (Q : Value → WP)  (e0 : Option Addr) (k3 : Sl) (g4 : Sl) (i5 : Int) : hoardlaw13_bounded_l1 jn Q  0 e0 k3 g4 i5 = bot := by kernel_rfl
theorem hoardlaw13_bounded_raw (jn : Jn) (e0 : Option Addr) (Q : Value → WP) : funJ jn Try.prog hoardlaw13_bounded_kp Try.f39 [.pointer e0] Q = (
  call1 .slc Try.prog id_lirs_Engine_Keys [.pointer e0] fun (x_1 : Sl) =>
  call1 .slc Try.prog id_lirs_Engine_Ghosts [.pointer e0] fun (x_2 : Sl) =>
  exM fun m => hoardlaw13_bounded_l1 jn Q  m e0 x_1 x_2 (0 : Int)) := by kernel_rfl
theorem hoardlaw13_bounded_def (e0 : Option Addr) (Q : Value → WP) : hoardlaw13_bounded e0 Q = funJ idJ Try.prog hoardlaw13_bounded_kp Try.f39 [.pointer e0] Q := rfl
theorem hoardlaw13_bounded_calls {e0 : Option Addr} {Q : Value → WP} {w : World} (h : hoardlaw13_bounded e0 Q w) : Calls Try.prog id_hoardlaw13_bounded #[.pointer e0] w fun e w' => ∃ v, e = .returned v ∧ Q v w' :=
  funJ_calls mixed Try.func39 rfl h

-- hoard/list.New[string]
def list_New_string_kp : KP := ⟨[], []⟩
def list_New_string  (Q : Value → WP) : WP := funJ idJ Try.prog list_New_string_kp Try.f40 [] Q
theorem list_New_string_raw (jn : Jn)  (Q : Value → WP) : funJ jn Try.prog list_New_string_kp Try.f40 [] Q = (
  makeC ty_list_link_string 40 [.string str_empty, .int .i64 (0 : Int), .int .i64 (0 : Int), .bool false] (1 : Int) (1 : Int) fun s_1 =>
  newB [.slice s_1.a s_1.n s_1.c, .slice (none : Option Addr) 0 0, .int .i64 (0 : Int)] ty_list_List_string fun b_2 =>
  Q (.pointer (some ⟨b_2, 0, none⟩))) := by kernel_rfl
theorem list_New_string_def  (Q : Value → WP) : list_New_string  Q = funJ idJ Try.prog list_New_string_kp Try.f40 [] Q := rfl
theorem list_New_string_calls {Q : Value → WP} {w : World} (h : list_New_string Q w) : Calls Try.prog id_list_New_string #[] w fun e w' => ∃ v, e = .returned v ∧ Q v w' :=
  funJ_calls mixed Try.func40 rfl h

-- hoard/index.New[hoard/lirs.entry]
def index_New_lirs_entry_kp : KP := ⟨[], []⟩
def index_New_lirs_entry (seed0 : Int) (Q : Value → WP) : WP := funJ idJ Try.prog index_New_lirs_entry_kp Try.f41 [.int .u64 seed0] Q
theorem index_New_lirs_entry_raw (jn : Jn) (seed0 : Int) (Q : Value → WP) : funJ jn Try.prog index_New_lirs_entry_kp Try.f41 [.int .u64 seed0] Q = (
  makeC ty_index_place_lirs_entry 48 [.int .i64 (0 : Int), .string str_empty, .int .i64 (0 : Int), .int .i64 (0 : Int), .int .i64 (0 : Int)] (8 : Int) (8 : Int) fun s_1 =>
  newB [.int .u64 seed0, .slice s_1.a s_1.n s_1.c, .int .i64 (0 : Int), .int .i64 (0 : Int)] ty_index_Index_lirs_entry fun b_2 =>
  Q (.pointer (some ⟨b_2, 0, none⟩))) := by kernel_rfl
theorem index_New_lirs_entry_def (seed0 : Int) (Q : Value → WP) : index_New_lirs_entry seed0 Q = funJ idJ Try.prog index_New_lirs_entry_kp Try.f41 [.int .u64 seed0] Q := rfl
theorem index_New_lirs_entry_calls {seed0 : Int} {Q : Value → WP} {w : World} (h : index_New_lirs_entry seed0 Q w) : Calls Try.prog id_index_New_lirs_entry #[.int .u64 seed0] w fun e w' => ∃ v, e = .returned v ∧ Q v w' :=
  funJ_calls mixed Try.func41 rfl h

-- (*hoard/index.Index[hoard/lirs.entry]).Get
def index_Index_lirs_entry_Get_kp : KP := ⟨[(12, [4])], []⟩
def index_Index_lirs_entry_Get_j1 (jn : Jn) (Q : Value → WP)  (t4_b : Nat) (t4_o : Nat) : WP := jn 12 (fun ρ => codeI Try.prog index_Index_lirs_entry_Get_kp jn (cAt [true, true] (bodyOf Try.f42)) (retK Try.prog Try.f42 Q) noX (retK Try.prog Try.f42 Q) ρ) (us 4 ((.pointer (some ⟨t4_b, t4_o, none⟩)) :: us 22 []))
def index_Index_lirs_entry_Get (x0 : Option Addr) (key1 : ByteArray) (Q : Value → WP) : WP := funJ idJ Try.prog index_Index_lirs_entry_Get_kp Try.f42 [.pointer x0, .string key1] Q
theorem index_Index_lirs_entry_Get_j1_raw (jn : Jn) (Q : Value → WP)  (t4_b : Nat) (t4_o : Nat) : codeI Try.prog index_Index_lirs_entry_Get_kp jn (cAt [true, true] (bodyOf Try.f42)) (retK Try.prog Try.f42 Q) noX (retK Try.prog Try.f42 Q) (us 4 ((.pointer (some ⟨t4_b, t4_o, none⟩)) :: us 22 [])) = (
  newB [.int .i64 (0 : Int), .int .i64 (0 : Int), .int .i64 (0 : Int)] ty_lirs_entry fun b_15 =>
  ld (.int .i64) b_15 0 fun (x_16 : Int) =>
  ld (.int .i64) b_15 1 fun (x_17 : Int) =>
  ld (.int .i64) b_15 2 fun (x_18 : Int) =>
  st t4_b t4_o (.int .i64 x_16) <|
  st t4_b (t4_o + 1) (.int .i64 x_17) <|
  st t4_b ((t4_o + 1) + 1) (.int .i64 x_18) <|
  ld (.int .i64) t4_b t4_o fun (x_19 : Int) =>
  ld (.int .i64) t4_b (t4_o + 1) fun (x_20 : Int) =>
  ld (.int .i64) t4_b ((t4_o + 1) + 1) fun (x_21 : Int) =>
  Q (.tuple #[.agg #[.int .i64 x_19, .int .i64 x_20, .int .i64 x_21], .bool false])) := by kernel_rfl
theorem index_Index_lirs_entry_Get_j1_def (Q : Value → WP)  (t4_b : Nat) (t4_o : Nat) : index_Index_lirs_entry_Get_j1 idJ Q  t4_b t4_o = codeI Try.prog index_Index_lirs_entry_Get_kp idJ (cAt [true, true] (bodyOf Try.f42)) (retK Try.prog Try.f42 Q) noX (retK Try.prog Try.f42 Q) (us 4 ((.pointer (some ⟨t4_b, t4_o, none⟩)) :: us 22 [])) := by kernel_rfl
theorem index_Index_lirs_entry_Get_raw (jn : Jn) (x0 : Option Addr) (key1 : ByteArray) (Q : Value → WP) : funJ jn Try.prog index_Index_lirs_entry_Get_kp Try.f42 [.pointer x0, .string key1] Q = (
  newB [.int .i64 (0 : Int), .int .i64 (0 : Int), .int .i64 (0 : Int)] ty_lirs_entry fun b_1 =>
  ite2 (!Option.isNone x0) (
  call2 (.int .i64) .bool Try.prog id_index_Index_lirs_entry_find [.pointer x0, .string key1] fun (x_2 : Int) (x_3 : Bool) =>
  ite2 x_3 (
  nilck x0 fun b_4 o_5 =>
  ld .slc b_4 (o_5 + 1) fun (x_6 : Sl) =>
  idx x_6.a x_6.n x_2 fun b_7 o_8 =>
  ld (.int .i64) b_7 ((o_8 + (x_2).toNat * 5) + 2) fun (x_9 : Int) =>
  ld (.int .i64) b_7 (((o_8 + (x_2).toNat * 5) + 2) + 1) fun (x_10 : Int) =>
  ld (.int .i64) b_7 ((((o_8 + (x_2).toNat * 5) + 2) + 1) + 1) fun (x_11 : Int) =>
  st b_1 0 (.int .i64 x_9) <|
  st b_1 1 (.int .i64 x_10) <|
  st b_1 2 (.int .i64 x_11) <|
  ld (.int .i64) b_1 0 fun (x_12 : Int) =>
  ld (.int .i64) b_1 1 fun (x_13 : Int) =>
  ld (.int .i64) b_1 2 fun (x_14 : Int) =>
  Q (.tuple #[.agg #[.int .i64 x_12, .int .i64 x_13, .int .i64 x_14], .bool true])) (
  index_Index_lirs_entry_Get_j1 jn Q  b_1 0)) (
  index_Index_lirs_entry_Get_j1 jn Q  b_1 0)) := by kernel_rfl
theorem index_Index_lirs_entry_Get_def (x0 : Option Addr) (key1 : ByteArray) (Q : Value → WP) : index_Index_lirs_entry_Get x0 key1 Q = funJ idJ Try.prog index_Index_lirs_entry_Get_kp Try.f42 [.pointer x0, .string key1] Q := rfl
theorem index_Index_lirs_entry_Get_calls {x0 : Option Addr} {key1 : ByteArray} {Q : Value → WP} {w : World} (h : index_Index_lirs_entry_Get x0 key1 Q w) : Calls Try.prog id_index_Index_lirs_entry_Get #[.pointer x0, .string key1] w fun e w' => ∃ v, e = .returned v ∧ Q v w' :=
  funJ_calls mixed Try.func42 rfl h

-- (*hoard/lirs.Engine).heats
def lirs_Engine_heats_kp : KP := ⟨[], [(5, [0, 1, 2, 3, 4, 5, 6, 8])]⟩
def lirs_Engine_heats (e0 : Option Addr) (n1_0 : Int) (n1_1 : Int) (n1_2 : Int) (key2 : ByteArray) (Q : Value → WP) : WP := funJ idJ Try.prog lirs_Engine_heats_kp Try.f43 [.pointer e0, .agg #[.int .i64 n1_0, .int .i64 n1_1, .int .i64 n1_2], .string key2] Q
theorem lirs_Engine_heats_raw (jn : Jn) (e0 : Option Addr) (n1_0 : Int) (n1_1 : Int) (n1_2 : Int) (key2 : ByteArray) (Q : Value → WP) : funJ jn Try.prog lirs_Engine_heats_kp Try.f43 [.pointer e0, .agg #[.int .i64 n1_0, .int .i64 n1_1, .int .i64 n1_2], .string key2] Q = (
  newB [.int .i64 n1_0, .int .i64 n1_1, .int .i64 n1_2] ty_lirs_entry fun b_1 =>
  st b_1 0 (.int .i64 (1 : Int)) <|
  call0 Try.prog id_lirs_Engine_top [.pointer e0, .pointer (some ⟨b_1, 0, none⟩), .string key2] <|
  call0 Try.prog id_lirs_Engine_leaves [.pointer e0, .pointer (some ⟨b_1, 0, none⟩)] <|
  ld (.int .i64) b_1 0 fun (x_2 : Int) =>
  ld (.int .i64) b_1 1 fun (x_3 : Int) =>
  ld (.int .i64) b_1 2 fun (x_4 : Int) =>
  call0 Try.prog id_lirs_Engine_set [.pointer e0, .string key2, .agg #[.int .i64 x_2, .int .i64 x_3, .int .i64 x_4]] <|
  drawW fun S =>
  nilck e0 fun b_5 o_6 =>
  ldS S (.int .i64) b_5 (o_6 + 5) fun (x_7 : Int) =>
  nilck e0 fun b_8 o_9 =>
  ld (.int .i64) b_8 (o_9 + 1) fun (x_10 : Int) =>
  keepS true S <|
  ite2 (decide (x_7 > x_10)) (
  call0 Try.prog id_lirs_Engine_cools [.pointer e0] <|
  Q (.tuple #[])) (
  Q (.tuple #[]))) := by kernel_rfl
theorem lirs_Engine_heats_def (e0 : Option Addr) (n1_0 : Int) (n1_1 : Int) (n1_2 : Int) (key2 : ByteArray) (Q : Value → WP) : lirs_Engine_heats e0 n1_0 n1_1 n1_2 key2 Q = funJ idJ Try.prog lirs_Engine_heats_kp Try.f43 [.pointer e0, .agg #[.int .i64 n1_0, .int .i64 n1_1, .int .i64 n1_2], .string key2] Q := rfl
theorem lirs_Engine_heats_calls {e0 : Option Addr} {n1_0 : Int} {n1_1 : Int} {n1_2 : Int} {key2 : ByteArray} {Q : Value → WP} {w : World} (h : lirs_Engine_heats e0 n1_0 n1_1 n1_2 key2 Q w) : Calls Try.prog id_lirs_Engine_heats #[.pointer e0, .agg #[.int .i64 n1_0, .int .i64 n1_1, .int .i64 n1_2], .string key2] w fun e w' => ∃ v, e = .returned v ∧ Q v w' :=
  funJ_calls mixed Try.func43 rfl h

-- (*hoard/lirs.Engine).prunes
def lirs_Engine_prunes_kp : KP := ⟨[(3, [0])], [(1, [0, 1, 2, 3, 4, 5, 6, 10, 11, 12, 13, 14])]⟩
def lirs_Engine_prunes_l1 (jn : Jn) (Q : Value → WP)  (m1 : Nat) (e0 : Option Addr) : WP := lop Try.prog lirs_Engine_prunes_kp jn (cAt [false, false] (bodyOf Try.f44)) (blkX 0 (retK Try.prog Try.f44 Q) noX) (retK Try.prog Try.f44 Q) m1 ((.pointer e0) :: us 40 [])
def lirs_Engine_prunes (e0 : Option Addr) (Q : Value → WP) : WP := funJ idJ Try.prog lirs_Engine_prunes_kp Try.f44 [.pointer e0] Q
theorem lirs_Engine_prunes_l1_raw (jn : Jn) (Q : Value → WP)  (m1 : Nat) (e0 : Option Addr) : lirs_Engine_prunes_l1 jn Q  (m1 + 1) e0 = (
  nilck e0 fun b_1 o_2 =>
  ld .ptr b_1 (o_2 + 2) fun (x_3 : Option Addr) =>
  call1 (.int .i64) Try.prog id_list_List_string_Len [.pointer x_3] fun (x_4 : Int) =>
  ite2 (decide (x_4 > (0 : Int))) (
  drawW fun S =>
  nilck e0 fun b_5 o_6 =>
  ldS S .ptr b_5 (o_6 + 2) fun (x_7 : Option Addr) =>
  nilck e0 fun b_8 o_9 =>
  ld .ptr b_8 (o_9 + 2) fun (x_10 : Option Addr) =>
  keepS true S <|
  call1 (.int .i64) Try.prog id_list_List_string_Front [.pointer x_10] fun (x_11 : Int) =>
  keepS true S <|
  call2 .str .bool Try.prog id_list_List_string_Get [.pointer x_7, .int .i64 x_11] fun (x_12 : ByteArray) (x_13 : Bool) =>
  nilck e0 fun b_14 o_15 =>
  ld .ptr b_14 (o_15 + 4) fun (x_16 : Option Addr) =>
  fun w => Calls Try.prog id_index_Index_lirs_entry_Get #[.pointer x_16, .string x_12] w fun e w' => ∃ x_17 : Int, ∃ x_18 : Int, ∃ x_19 : Int, ∃ x_20 : Bool, e = .returned (.tuple #[.agg #[.int .i64 x_17, .int .i64 x_18, .int .i64 x_19], .bool x_20]) ∧ (
  newB [.int .i64 (0 : Int), .int .i64 (0 : Int), .int .i64 (0 : Int)] ty_lirs_entry fun b_21 =>
  st b_21 0 (.int .i64 x_17) <|
  st b_21 1 (.int .i64 x_18) <|
  st b_21 2 (.int .i64 x_19) <|
  ld (.int .i64) b_21 0 fun (x_22 : Int) =>
  ite2 (x_22 == (1 : Int)) (
  Q (.tuple #[])) (
  ld (.int .i64) b_21 0 fun (x_23 : Int) =>
  ld (.int .i64) b_21 1 fun (x_24 : Int) =>
  ld (.int .i64) b_21 2 fun (x_25 : Int) =>
  call0 Try.prog id_lirs_Engine_lifts [.pointer e0, .agg #[.int .i64 x_23, .int .i64 x_24, .int .i64 x_25], .string x_12] <|
  lirs_Engine_prunes_l1 jn Q  m1 e0)) w') (
  Q (.tuple #[]))) := by kernel_rfl
theorem lirs_Engine_prunes_l1_zero (jn : Jn) (Q : Value → WP)  (e0 : Option Addr) : lirs_Engine_prunes_l1 jn Q  0 e0 = bot := by kernel_rfl
theorem lirs_Engine_prunes_raw (jn : Jn) (e0 : Option Addr) (Q : Value → WP) : funJ jn Try.prog lirs_Engine_prunes_kp Try.f44 [.pointer e0] Q = (
  exM fun m => lirs_Engine_prunes_l1 jn Q  m e0) := by kernel_rfl
theorem lirs_Engine_prunes_def (e0 : Option Addr) (Q : Value → WP) : lirs_Engine_prunes e0 Q = funJ idJ Try.prog lirs_Engine_prunes_kp Try.f44 [.pointer e0] Q := rfl
theorem lirs_Engine_prunes_calls {e0 : Option Addr} {Q : Value → WP} {w : World} (h : lirs_Engine_prunes e0 Q w) : Calls Try.prog id_lirs_Engine_prunes #[.pointer e0] w fun e w' => ∃ v, e = .returned v ∧ Q v w' :=
  funJ_calls mixed Try.func44 rfl h

-- (*hoard/lirs.Engine).chills
def lirs_Engine_chills_kp : KP := ⟨[], []⟩
def lirs_Engine_chills (e0 : Option Addr) (n1_0 : Int) (n1_1 : Int) (n1_2 : Int) (key2 : ByteArray) (Q : Value → WP) : WP := funJ idJ Try.prog lirs_Engine_chills_kp Try.f45 [.pointer e0, .agg #[.int .i64 n1_0, .int .i64 n1_1, .int .i64 n1_2], .string key2] Q
theorem lirs_Engine_chills_raw (jn : Jn) (e0 : Option Addr) (n1_0 : Int) (n1_1 : Int) (n1_2 : Int) (key2 : ByteArray) (Q : Value → WP) : funJ jn Try.prog lirs_Engine_chills_kp Try.f45 [.pointer e0, .agg #[.int .i64 n1_0, .int .i64 n1_1, .int .i64 n1_2], .string key2] Q = (
  newB [.int .i64 n1_0, .int .i64 n1_1, .int .i64 n1_2] ty_lirs_entry fun b_1 =>
  st b_1 0 (.int .i64 (2 : Int)) <|
  call0 Try.prog id_lirs_Engine_top [.pointer e0, .pointer (some ⟨b_1, 0, none⟩), .string key2] <|
  call0 Try.prog id_lirs_Engine_end [.pointer e0, .pointer (some ⟨b_1, 0, none⟩), .string key2] <|
  ld (.int .i64) b_1 0 fun (x_2 : Int) =>
  ld (.int .i64) b_1 1 fun (x_3 : Int) =>
  ld (.int .i64) b_1 2 fun (x_4 : Int) =>
  call0 Try.prog id_lirs_Engine_set [.pointer e0, .string key2, .agg #[.int .i64 x_2, .int .i64 x_3, .int .i64 x_4]] <|
  Q (.tuple #[])) := by kernel_rfl
theorem lirs_Engine_chills_def (e0 : Option Addr) (n1_0 : Int) (n1_1 : Int) (n1_2 : Int) (key2 : ByteArray) (Q : Value → WP) : lirs_Engine_chills e0 n1_0 n1_1 n1_2 key2 Q = funJ idJ Try.prog lirs_Engine_chills_kp Try.f45 [.pointer e0, .agg #[.int .i64 n1_0, .int .i64 n1_1, .int .i64 n1_2], .string key2] Q := rfl
theorem lirs_Engine_chills_calls {e0 : Option Addr} {n1_0 : Int} {n1_1 : Int} {n1_2 : Int} {key2 : ByteArray} {Q : Value → WP} {w : World} (h : lirs_Engine_chills e0 n1_0 n1_1 n1_2 key2 Q w) : Calls Try.prog id_lirs_Engine_chills #[.pointer e0, .agg #[.int .i64 n1_0, .int .i64 n1_1, .int .i64 n1_2], .string key2] w fun e w' => ∃ v, e = .returned v ∧ Q v w' :=
  funJ_calls mixed Try.func45 rfl h

-- (*hoard/lirs.Engine).forgets
def lirs_Engine_forgets_kp : KP := ⟨[(3, [0])], [(0, [0, 1, 2, 3, 4, 5, 6, 8])]⟩
def lirs_Engine_forgets_l1 (jn : Jn) (Q : Value → WP)  (m1 : Nat) (e0 : Option Addr) : WP := lop Try.prog lirs_Engine_forgets_kp jn (cAt [false, false] (bodyOf Try.f46)) (blkX 0 (retK Try.prog Try.f46 Q) noX) (retK Try.prog Try.f46 Q) m1 ((.pointer e0) :: us 21 [])
def lirs_Engine_forgets (e0 : Option Addr) (Q : Value → WP) : WP := funJ idJ Try.prog lirs_Engine_forgets_kp Try.f46 [.pointer e0] Q
theorem lirs_Engine_forgets_l1_raw (jn : Jn) (Q : Value → WP)  (m1 : Nat) (e0 : Option Addr) : lirs_Engine_forgets_l1 jn Q  (m1 + 1) e0 = (
  drawW fun S =>
  nilck e0 fun b_1 o_2 =>
  ldS S (.int .i64) b_1 (o_2 + 6) fun (x_3 : Int) =>
  nilck e0 fun b_4 o_5 =>
  ld (.int .i64) b_4 o_5 fun (x_6 : Int) =>
  keepS true S <|
  ite2 (decide (x_3 > x_6)) (
  fun w => Calls Try.prog id_lirs_Engine_lowest #[.pointer e0, .int .i64 (3 : Int)] w fun e w' => ∃ x_7 : ByteArray, ∃ x_8 : Int, ∃ x_9 : Int, ∃ x_10 : Int, e = .returned (.tuple #[.string x_7, .agg #[.int .i64 x_8, .int .i64 x_9, .int .i64 x_10]]) ∧ (
  newB [.int .i64 (0 : Int), .int .i64 (0 : Int), .int .i64 (0 : Int)] ty_lirs_entry fun b_11 =>
  st b_11 0 (.int .i64 x_8) <|
  st b_11 1 (.int .i64 x_9) <|
  st b_11 2 (.int .i64 x_10) <|
  ld (.int .i64) b_11 0 fun (x_12 : Int) =>
  ld (.int .i64) b_11 1 fun (x_13 : Int) =>
  ld (.int .i64) b_11 2 fun (x_14 : Int) =>
  call0 Try.prog id_lirs_Engine_lifts [.pointer e0, .agg #[.int .i64 x_12, .int .i64 x_13, .int .i64 x_14], .string x_7] <|
  lirs_Engine_forgets_l1 jn Q  m1 e0) w') (
  Q (.tuple #[]))) := by kernel_rfl
theorem lirs_Engine_forgets_l1_zero (jn : Jn) (Q : Value → WP)  (e0 : Option Addr) : lirs_Engine_forgets_l1 jn Q  0 e0 = bot := by kernel_rfl
theorem lirs_Engine_forgets_raw (jn : Jn) (e0 : Option Addr) (Q : Value → WP) : funJ jn Try.prog lirs_Engine_forgets_kp Try.f46 [.pointer e0] Q = (
  exM fun m => lirs_Engine_forgets_l1 jn Q  m e0) := by kernel_rfl
theorem lirs_Engine_forgets_def (e0 : Option Addr) (Q : Value → WP) : lirs_Engine_forgets e0 Q = funJ idJ Try.prog lirs_Engine_forgets_kp Try.f46 [.pointer e0] Q := rfl
theorem lirs_Engine_forgets_calls {e0 : Option Addr} {Q : Value → WP} {w : World} (h : lirs_Engine_forgets e0 Q w) : Calls Try.prog id_lirs_Engine_forgets #[.pointer e0] w fun e w' => ∃ v, e = .returned v ∧ Q v w' :=
  funJ_calls mixed Try.func46 rfl h

-- (*hoard/list.List[string]).Len
def list_List_string_Len_kp : KP := ⟨[], []⟩
def list_List_string_Len (l0 : Option Addr) (Q : Value → WP) : WP := funJ idJ Try.prog list_List_string_Len_kp Try.f47 [.pointer l0] Q
theorem list_List_string_Len_raw (jn : Jn) (l0 : Option Addr) (Q : Value → WP) : funJ jn Try.prog list_List_string_Len_kp Try.f47 [.pointer l0] Q = (
  ite2 (Option.isNone l0) (
  Q (.int .i64 (0 : Int))) (
  nilck l0 fun b_1 o_2 =>
  ld (.int .i64) b_1 (o_2 + 2) fun (x_3 : Int) =>
  Q (.int .i64 x_3))) := by kernel_rfl
theorem list_List_string_Len_def (l0 : Option Addr) (Q : Value → WP) : list_List_string_Len l0 Q = funJ idJ Try.prog list_List_string_Len_kp Try.f47 [.pointer l0] Q := rfl
theorem list_List_string_Len_calls {l0 : Option Addr} {Q : Value → WP} {w : World} (h : list_List_string_Len l0 Q w) : Calls Try.prog id_list_List_string_Len #[.pointer l0] w fun e w' => ∃ v, e = .returned v ∧ Q v w' :=
  funJ_calls mixed Try.func47 rfl h

-- (*hoard/list.List[string]).All
def list_List_string_All_kp : KP := ⟨[(9, [0, 3, 4]), (14, [3])], []⟩
def list_List_string_All_j2 (jn : Jn) (Q : Value → WP)  (all3 : Sl) : WP := jn 14 (fun ρ => codeI Try.prog list_List_string_All_kp jn (cAt [true, true, true] (bodyOf Try.f48)) (retK Try.prog Try.f48 Q) noX (retK Try.prog Try.f48 Q) ρ) (us 3 ((.slice all3.a all3.n all3.c) :: us 20 []))
def list_List_string_All_l1 (jn : Jn) (Q : Value → WP)  (m1 : Nat) (l0 : Option Addr) (all3 : Sl) (h4 : Int) : WP := lop Try.prog list_List_string_All_kp jn (cAt [true, true, false, true, false, false] (bodyOf Try.f48)) (blkX 0 (seqK Try.prog list_List_string_All_kp jn (cAt [true, true, true] (bodyOf Try.f48)) (retK Try.prog Try.f48 Q) noX (retK Try.prog Try.f48 Q)) noX) (retK Try.prog Try.f48 Q) m1 ((.pointer l0) :: us 2 ((.slice all3.a all3.n all3.c) :: (.int .i64 h4) :: us 19 []))
def list_List_string_All (l0 : Option Addr) (Q : Value → WP) : WP := funJ idJ Try.prog list_List_string_All_kp Try.f48 [.pointer l0] Q
theorem list_List_string_All_j2_raw (jn : Jn) (Q : Value → WP)  (all3 : Sl) : codeI Try.prog list_List_string_All_kp jn (cAt [true, true, true] (bodyOf Try.f48)) (retK Try.prog Try.f48 Q) noX (retK Try.prog Try.f48 Q) (us 3 ((.slice all3.a all3.n all3.c) :: us 20 [])) = (
  Q (.slice all3.a all3.n all3.c)) := by kernel_rfl
theorem list_List_string_All_j2_def (Q : Value → WP)  (all3 : Sl) : list_List_string_All_j2 idJ Q  all3 = codeI Try.prog list_List_string_All_kp idJ (cAt [true, true, true] (bodyOf Try.f48)) (retK Try.prog Try.f48 Q) noX (retK Try.prog Try.f48 Q) (us 3 ((.slice all3.a all3.n all3.c) :: us 20 [])) := by kernel_rfl
theorem list_List_string_All_l1_raw (jn : Jn) (Q : Value → WP)  (m1 : Nat) (l0 : Option Addr) (all3 : Sl) (h4 : Int) : list_List_string_All_l1 jn Q  (m1 + 1) l0 all3 h4 = (
  ite2 (h4 != (0 : Int)) (
  nilck l0 fun b_2 o_3 =>
  ld .slc b_2 o_3 fun (x_4 : Sl) =>
  idx x_4.a x_4.n h4 fun b_5 o_6 =>
  ld .str b_5 (o_6 + (h4).toNat * 4) fun (x_7 : ByteArray) =>
  newB [.string x_7] ty_string fun b_8 =>
  appendC ty_string 1 16 [.string str_empty] ⟨all3.a, all3.n, all3.c⟩ 1 (fun w => rdA w (some ⟨b_8, 0, none⟩) (1 * 1)) fun s_9 =>
  call1 (.int .i64) Try.prog id_list_List_string_Next [.pointer l0, .int .i64 h4] fun (x_10 : Int) =>
  list_List_string_All_l1 jn Q  m1 l0 s_9 x_10) (
  list_List_string_All_j2 jn Q  all3)) := by kernel_rfl
theorem list_List_string_All_l1_zero (jn : Jn) (Q : Value → WP)  (l0 : Option Addr) (all3 : Sl) (h4 : Int) : list_List_string_All_l1 jn Q  0 l0 all3 h4 = bot := by kernel_rfl
theorem list_List_string_All_raw (jn : Jn) (l0 : Option Addr) (Q : Value → WP) : funJ jn Try.prog list_List_string_All_kp Try.f48 [.pointer l0] Q = (
  call1 (.int .i64) Try.prog id_list_List_string_Front [.pointer l0] fun (x_1 : Int) =>
  exM fun m => list_List_string_All_l1 jn Q  m l0 ⟨(none : Option Addr), 0, 0⟩ x_1) := by kernel_rfl
theorem list_List_string_All_def (l0 : Option Addr) (Q : Value → WP) : list_List_string_All l0 Q = funJ idJ Try.prog list_List_string_All_kp Try.f48 [.pointer l0] Q := rfl
theorem list_List_string_All_calls {l0 : Option Addr} {Q : Value → WP} {w : World} (h : list_List_string_All l0 Q w) : Calls Try.prog id_list_List_string_All #[.pointer l0] w fun e w' => ∃ v, e = .returned v ∧ Q v w' :=
  funJ_calls mixed Try.func48 rfl h

-- (*hoard/lirs.Engine).those
def lirs_Engine_those_kp : KP := ⟨[(9, [0, 1, 5, 14, 15, 16]), (20, [5])], []⟩
def lirs_Engine_those_j2 (jn : Jn) (Q : Value → WP)  (l5 : Sl) : WP := jn 20 (fun ρ => codeI Try.prog lirs_Engine_those_kp jn (cAt [true, true, true] (bodyOf Try.f49)) (retK Try.prog Try.f49 Q) noX (retK Try.prog Try.f49 Q) ρ) (us 5 ((.slice l5.a l5.n l5.c) :: us 33 []))
def lirs_Engine_those_l1 (jn : Jn) (Q : Value → WP)  (m1 : Nat) (e0 : Option Addr) (is1 : Int) (l5 : Sl) (t14 : Sl) (t15 : Int) (t16 : Int) : WP := lop Try.prog lirs_Engine_those_kp jn (cAt [true, true, false, true, false, false] (bodyOf Try.f49)) (blkX 0 (seqK Try.prog lirs_Engine_those_kp jn (cAt [true, true, true] (bodyOf Try.f49)) (retK Try.prog Try.f49 Q) noX (retK Try.prog Try.f49 Q)) noX) (retK Try.prog Try.f49 Q) m1 ((.pointer e0) :: (.int .i64 is1) :: us 3 ((.slice l5.a l5.n l5.c) :: us 8 ((.slice t14.a t14.n t14.c) :: (.int .i64 t15) :: (.int .i64 t16) :: us 22 [])))
def lirs_Engine_those (e0 : Option Addr) (is1 : Int) (Q : Value → WP) : WP := funJ idJ Try.prog lirs_Engine_those_kp Try.f49 [.pointer e0, .int .i64 is1] Q
theorem lirs_Engine_those_j2_raw (jn : Jn) (Q : Value → WP)  (l5 : Sl) : codeI Try.prog lirs_Engine_those_kp jn (cAt [true, true, true] (bodyOf Try.f49)) (retK Try.prog Try.f49 Q) noX (retK Try.prog Try.f49 Q) (us 5 ((.slice l5.a l5.n l5.c) :: us 33 [])) = (
  Q (.slice l5.a l5.n l5.c)) := by kernel_rfl
theorem lirs_Engine_those_j2_def (Q : Value → WP)  (l5 : Sl) : lirs_Engine_those_j2 idJ Q  l5 = codeI Try.prog lirs_Engine_those_kp idJ (cAt [true, true, true] (bodyOf Try.f49)) (retK Try.prog Try.f49 Q) noX (retK Try.prog Try.f49 Q) (us 5 ((.slice l5.a l5.n l5.c) :: us 33 [])) := by kernel_rfl
theorem lirs_Engine_those_l1_raw (jn : Jn) (Q : Value → WP)  (m1 : Nat) (e0 : Option Addr) (is1 : Int) (l5 : Sl) (t14 : Sl) (t15 : Int) (t16 : Int) : lirs_Engine_those_l1 jn Q  (m1 + 1) e0 is1 l5 t14 t15 t16 = (
  ite2 (decide (t16 < t15)) (
  idx t14.a t14.n t16 fun b_5 o_6 =>
  ld .str b_5 (o_6 + (t16).toNat * 1) fun (x_7 : ByteArray) =>
  nilck e0 fun b_8 o_9 =>
  ld .ptr b_8 (o_9 + 4) fun (x_10 : Option Addr) =>
  fun w => Calls Try.prog id_index_Index_lirs_entry_Get #[.pointer x_10, .string x_7] w fun e w' => ∃ x_11 : Int, ∃ x_12 : Int, ∃ x_13 : Int, ∃ x_14 : Bool, e = .returned (.tuple #[.agg #[.int .i64 x_11, .int .i64 x_12, .int .i64 x_13], .bool x_14]) ∧ (
  newB [.int .i64 (0 : Int), .int .i64 (0 : Int), .int .i64 (0 : Int)] ty_lirs_entry fun b_15 =>
  st b_15 0 (.int .i64 x_11) <|
  st b_15 1 (.int .i64 x_12) <|
  st b_15 2 (.int .i64 x_13) <|
  ld (.int .i64) b_15 0 fun (x_16 : Int) =>
  ite2 (x_16 == is1) (
  newB [.string x_7] ty_string fun b_17 =>
  appendC ty_string 1 16 [.string str_empty] ⟨l5.a, l5.n, l5.c⟩ 1 (fun w => rdA w (some ⟨b_17, 0, none⟩) (1 * 1)) fun s_18 =>
  lirs_Engine_those_l1 jn Q  m1 e0 is1 s_18 t14 t15 (IntKind.wrap .i64 (t16 + (1 : Int)))) (
  lirs_Engine_those_l1 jn Q  m1 e0 is1 l5 t14 t15 (IntKind.wrap .i64 (t16 + (1 : Int))))) w') (
  lirs_Engine_those_j2 jn Q  l5)) := by kernel_rfl
theorem lirs_Engine_those_l1_zero (jn : Jn) (Q : Value → WP)  (e0 : Option Addr) (is1 : Int) (l5 : Sl) (t14 : Sl) (t15 : Int) (t16 : Int) : lirs_Engine_those_l1 jn Q  0 e0 is1 l5 t14 t15 t16 = bot := by kernel_rfl
theorem lirs_Engine_those_raw (jn : Jn) (e0 : Option Addr) (is1 : Int) (Q : Value → WP) : funJ jn Try.prog lirs_Engine_those_kp Try.f49 [.pointer e0, .int .i64 is1] Q = (
  nilck e0 fun b_1 o_2 =>
  ld .ptr b_1 (o_2 + 2) fun (x_3 : Option Addr) =>
  call1 .slc Try.prog id_list_List_string_All [.pointer x_3] fun (x_4 : Sl) =>
  exM fun m => lirs_Engine_those_l1 jn Q  m e0 is1 ⟨(none : Option Addr), 0, 0⟩ x_4 (x_4.n : Int) (0 : Int)) := by kernel_rfl
theorem lirs_Engine_those_def (e0 : Option Addr) (is1 : Int) (Q : Value → WP) : lirs_Engine_those e0 is1 Q = funJ idJ Try.prog lirs_Engine_those_kp Try.f49 [.pointer e0, .int .i64 is1] Q := rfl
theorem lirs_Engine_those_calls {e0 : Option Addr} {is1 : Int} {Q : Value → WP} {w : World} (h : lirs_Engine_those e0 is1 Q w) : Calls Try.prog id_lirs_Engine_those #[.pointer e0, .int .i64 is1] w fun e w' => ∃ v, e = .returned v ∧ Q v w' :=
  funJ_calls mixed Try.func49 rfl h

-- (*hoard/hoardref13.Engine).Access
def hoardref13_Engine_Access_kp : KP := ⟨[(10, [0, 1, 6, 7, 23]), (18, [0, 1, 6, 7]), (24, [0, 1, 6, 7, 54]), (42, [0, 6, 7])], [(3, [0, 1, 2, 3, 5, 6, 7, 8, 9, 10])]⟩
def hoardref13_Engine_Access_j3 (jn : Jn) (Q : Value → WP)  (e0 : Option Addr) (was6 : Bool) (l7 : Sl) : WP := jn 42 (fun ρ => codeI Try.prog hoardref13_Engine_Access_kp jn (cAt [true, true, true, true, true] (bodyOf Try.f50)) (retK Try.prog Try.f50 Q) noX (retK Try.prog Try.f50 Q) ρ) ((.pointer e0) :: us 5 ((.bool was6) :: (.slice l7.a l7.n l7.c) :: us 100 []))
def hoardref13_Engine_Access_j4 (jn : Jn) (Q : Value → WP)  (e0 : Option Addr) (key1 : ByteArray) (was6 : Bool) (l7 : Sl) (t54 : Bool) : WP := jn 24 (fun ρ => codeI Try.prog hoardref13_Engine_Access_kp jn (cAt [true, true, true, true, false, false, true, true, true] (bodyOf Try.f50)) (seqK Try.prog hoardref13_Engine_Access_kp jn (cAt [true, true, true, true, true] (bodyOf Try.f50)) (retK Try.prog Try.f50 Q) noX (retK Try.prog Try.f50 Q)) (blkX 0 (seqK Try.prog hoardref13_Engine_Access_kp jn (cAt [true, true, true, true, true] (bodyOf Try.f50)) (retK Try.prog Try.f50 Q) noX (retK Try.prog Try.f50 Q)) noX) (retK Try.prog Try.f50 Q) ρ) ((.pointer e0) :: (.string key1) :: us 4 ((.bool was6) :: (.slice l7.a l7.n l7.c) :: us 46 ((.bool t54) :: us 53 [])))
def hoardref13_Engine_Access_j2 (jn : Jn) (Q : Value → WP)  (e0 : Option Addr) (key1 : ByteArray) (was6 : Bool) (l7 : Sl) : WP := jn 18 (fun ρ => codeI Try.prog hoardref13_Engine_Access_kp jn (cAt [true, true, true, true] (bodyOf Try.f50)) (retK Try.prog Try.f50 Q) noX (retK Try.prog Try.f50 Q) ρ) ((.pointer e0) :: (.string key1) :: us 4 ((.bool was6) :: (.slice l7.a l7.n l7.c) :: us 100 []))
def hoardref13_Engine_Access_j1 (jn : Jn) (Q : Value → WP)  (e0 : Option Addr) (key1 : ByteArray) (was6 : Bool) (l7 : Sl) (t23 : Bool) : WP := jn 10 (fun ρ => codeI Try.prog hoardref13_Engine_Access_kp jn (cAt [true, true, true, false, true] (bodyOf Try.f50)) (seqK Try.prog hoardref13_Engine_Access_kp jn (cAt [true, true, true, true] (bodyOf Try.f50)) (retK Try.prog Try.f50 Q) noX (retK Try.prog Try.f50 Q)) noX (retK Try.prog Try.f50 Q) ρ) ((.pointer e0) :: (.string key1) :: us 4 ((.bool was6) :: (.slice l7.a l7.n l7.c) :: us 15 ((.bool t23) :: us 84 [])))
def hoardref13_Engine_Access (e0 : Option Addr) (key1 : ByteArray) (Q : Value → WP) : WP := funJ idJ Try.prog hoardref13_Engine_Access_kp Try.f50 [.pointer e0, .string key1] Q
theorem hoardref13_Engine_Access_j3_raw (jn : Jn) (Q : Value → WP)  (e0 : Option Addr) (was6 : Bool) (l7 : Sl) : codeI Try.prog hoardref13_Engine_Access_kp jn (cAt [true, true, true, true, true] (bodyOf Try.f50)) (retK Try.prog Try.f50 Q) noX (retK Try.prog Try.f50 Q) ((.pointer e0) :: us 5 ((.bool was6) :: (.slice l7.a l7.n l7.c) :: us 100 [])) = (
  ite2 (!was6) (
  call0 Try.prog id_hoardref13_Engine_forget [.pointer e0] <|
  call0 Try.prog id_hoardref13_Engine_prune [.pointer e0] <|
  Q (.tuple #[.bool was6, .slice l7.a l7.n l7.c])) (
  call0 Try.prog id_hoardref13_Engine_prune [.pointer e0] <|
  Q (.tuple #[.bool was6, .slice l7.a l7.n l7.c]))) := by kernel_rfl
theorem hoardref13_Engine_Access_j3_def (Q : Value → WP)  (e0 : Option Addr) (was6 : Bool) (l7 : Sl) : hoardref13_Engine_Access_j3 idJ Q  e0 was6 l7 = codeI Try.prog hoardref13_Engine_Access_kp idJ (cAt [true, true, true, true, true] (bodyOf Try.f50)) (retK Try.prog Try.f50 Q) noX (retK Try.prog Try.f50 Q) ((.pointer e0) :: us 5 ((.bool was6) :: (.slice l7.a l7.n l7.c) :: us 100 [])) := by kernel_rfl
theorem hoardref13_Engine_Access_j4_raw (jn : Jn) (Q : Value → WP)  (e0 : Option Addr) (key1 : ByteArray) (was6 : Bool) (l7 : Sl) (t54 : Bool) : codeI Try.prog hoardref13_Engine_Access_kp jn (cAt [true, true, true, true, false, false, true, true, true] (bodyOf Try.f50)) (seqK Try.prog hoardref13_Engine_Access_kp jn (cAt [true, true, true, true, true] (bodyOf Try.f50)) (retK Try.prog Try.f50 Q) noX (retK Try.prog Try.f50 Q)) (blkX 0 (seqK Try.prog hoardref13_Engine_Access_kp jn (cAt [true, true, true, true, true] (bodyOf Try.f50)) (retK Try.prog Try.f50 Q) noX (retK Try.prog Try.f50 Q)) noX) (retK Try.prog Try.f50 Q) ((.pointer e0) :: (.string key1) :: us 4 ((.bool was6) :: (.slice l7.a l7.n l7.c) :: us 46 ((.bool t54) :: us 53 []))) = (
  ite2 t54 (
  call0 Try.prog id_hoardref13_Engine_warm [.pointer e0, .string key1] <|
  hoardref13_Engine_Access_j3 jn Q  e0 was6 l7) (
  ite2 was6 (
  call0 Try.prog id_hoardref13_Engine_leave [.pointer e0, .string key1] <|
  nilck e0 fun b_12 o_13 =>
  ld .slc b_12 (o_13 + 1) fun (x_14 : Sl) =>
  newB [.string key1] ty_string fun b_15 =>
  appendC ty_string 1 16 [.string str_empty] ⟨x_14.a, x_14.n, x_14.c⟩ 1 (fun w => rdA w (some ⟨b_15, 0, none⟩) (1 * 1)) fun s_16 =>
  nilck e0 fun b_17 o_18 =>
  st b_17 (o_18 + 1) (.slice s_16.a s_16.n s_16.c) <|
  call0 Try.prog id_hoardref13_Engine_top [.pointer e0, .string key1, .int .u8 (99 : Int)] <|
  hoardref13_Engine_Access_j3 jn Q  e0 was6 l7) (
  call1 (.int .i64) Try.prog id_hoardref13_Engine_count [.pointer e0, .int .u8 (104 : Int)] fun (x_19 : Int) =>
  call1 (.int .i64) Try.prog id_hoardref13_Engine_most [.pointer e0] fun (x_20 : Int) =>
  ite2 (decide (x_19 < x_20)) (
  call0 Try.prog id_hoardref13_Engine_top [.pointer e0, .string key1, .int .u8 (104 : Int)] <|
  hoardref13_Engine_Access_j3 jn Q  e0 was6 l7) (
  call1 (.int .u8) Try.prog id_hoardref13_Engine_is [.pointer e0, .string key1] fun (x_21 : Int) =>
  ite2 (x_21 == (103 : Int)) (
  call0 Try.prog id_hoardref13_Engine_warm [.pointer e0, .string key1] <|
  hoardref13_Engine_Access_j3 jn Q  e0 was6 l7) (
  call0 Try.prog id_hoardref13_Engine_top [.pointer e0, .string key1, .int .u8 (99 : Int)] <|
  nilck e0 fun b_22 o_23 =>
  ld .slc b_22 (o_23 + 1) fun (x_24 : Sl) =>
  newB [.string key1] ty_string fun b_25 =>
  appendC ty_string 1 16 [.string str_empty] ⟨x_24.a, x_24.n, x_24.c⟩ 1 (fun w => rdA w (some ⟨b_25, 0, none⟩) (1 * 1)) fun s_26 =>
  nilck e0 fun b_27 o_28 =>
  st b_27 (o_28 + 1) (.slice s_26.a s_26.n s_26.c) <|
  hoardref13_Engine_Access_j3 jn Q  e0 was6 l7))))) := by kernel_rfl
theorem hoardref13_Engine_Access_j4_def (Q : Value → WP)  (e0 : Option Addr) (key1 : ByteArray) (was6 : Bool) (l7 : Sl) (t54 : Bool) : hoardref13_Engine_Access_j4 idJ Q  e0 key1 was6 l7 t54 = codeI Try.prog hoardref13_Engine_Access_kp idJ (cAt [true, true, true, true, false, false, true, true, true] (bodyOf Try.f50)) (seqK Try.prog hoardref13_Engine_Access_kp idJ (cAt [true, true, true, true, true] (bodyOf Try.f50)) (retK Try.prog Try.f50 Q) noX (retK Try.prog Try.f50 Q)) (blkX 0 (seqK Try.prog hoardref13_Engine_Access_kp idJ (cAt [true, true, true, true, true] (bodyOf Try.f50)) (retK Try.prog Try.f50 Q) noX (retK Try.prog Try.f50 Q)) noX) (retK Try.prog Try.f50 Q) ((.pointer e0) :: (.string key1) :: us 4 ((.bool was6) :: (.slice l7.a l7.n l7.c) :: us 46 ((.bool t54) :: us 53 []))) := by kernel_rfl
theorem hoardref13_Engine_Access_j2_raw (jn : Jn) (Q : Value → WP)  (e0 : Option Addr) (key1 : ByteArray) (was6 : Bool) (l7 : Sl) : codeI Try.prog hoardref13_Engine_Access_kp jn (cAt [true, true, true, true] (bodyOf Try.f50)) (retK Try.prog Try.f50 Q) noX (retK Try.prog Try.f50 Q) ((.pointer e0) :: (.string key1) :: us 4 ((.bool was6) :: (.slice l7.a l7.n l7.c) :: us 100 [])) = (
  call1 (.int .u8) Try.prog id_hoardref13_Engine_is [.pointer e0, .string key1] fun (x_10 : Int) =>
  ite2 (x_10 == (104 : Int)) (
  call0 Try.prog id_hoardref13_Engine_top [.pointer e0, .string key1, .int .u8 (104 : Int)] <|
  hoardref13_Engine_Access_j3 jn Q  e0 was6 l7) (
  ite2 was6 (
  call1 (.int .u8) Try.prog id_hoardref13_Engine_is [.pointer e0, .string key1] fun (x_11 : Int) =>
  hoardref13_Engine_Access_j4 jn Q  e0 key1 was6 l7 (x_11 == (99 : Int))) (
  hoardref13_Engine_Access_j4 jn Q  e0 key1 was6 l7 false))) := by kernel_rfl
theorem hoardref13_Engine_Access_j2_def (Q : Value → WP)  (e0 : Option Addr) (key1 : ByteArray) (was6 : Bool) (l7 : Sl) : hoardref13_Engine_Access_j2 idJ Q  e0 key1 was6 l7 = codeI Try.prog hoardref13_Engine_Access_kp idJ (cAt [true, true, true, true] (bodyOf Try.f50)) (retK Try.prog Try.f50 Q) noX (retK Try.prog Try.f50 Q) ((.pointer e0) :: (.string key1) :: us 4 ((.bool was6) :: (.slice l7.a l7.n l7.c) :: us 100 [])) := by kernel_rfl
theorem hoardref13_Engine_Access_j1_raw (jn : Jn) (Q : Value → WP)  (e0 : Option Addr) (key1 : ByteArray) (was6 : Bool) (l7 : Sl) (t23 : Bool) : codeI Try.prog hoardref13_Engine_Access_kp jn (cAt [true, true, true, false, true] (bodyOf Try.f50)) (seqK Try.prog hoardref13_Engine_Access_kp jn (cAt [true, true, true, true] (bodyOf Try.f50)) (retK Try.prog Try.f50 Q) noX (retK Try.prog Try.f50 Q)) noX (retK Try.prog Try.f50 Q) ((.pointer e0) :: (.string key1) :: us 4 ((.bool was6) :: (.slice l7.a l7.n l7.c) :: us 15 ((.bool t23) :: us 84 []))) = (
  ite2 t23 (
  call2 .str .bool Try.prog id_hoardref13_Engine_Evict [.pointer e0] fun (x_6 : ByteArray) (x_7 : Bool) =>
  newB [.string x_6] ty_string fun b_8 =>
  appendC ty_string 1 16 [.string str_empty] ⟨l7.a, l7.n, l7.c⟩ 1 (fun w => rdA w (some ⟨b_8, 0, none⟩) (1 * 1)) fun s_9 =>
  hoardref13_Engine_Access_j2 jn Q  e0 key1 was6 s_9) (
  hoardref13_Engine_Access_j2 jn Q  e0 key1 was6 l7)) := by kernel_rfl
theorem hoardref13_Engine_Access_j1_def (Q : Value → WP)  (e0 : Option Addr) (key1 : ByteArray) (was6 : Bool) (l7 : Sl) (t23 : Bool) : hoardref13_Engine_Access_j1 idJ Q  e0 key1 was6 l7 t23 = codeI Try.prog hoardref13_Engine_Access_kp idJ (cAt [true, true, true, false, true] (bodyOf Try.f50)) (seqK Try.prog hoardref13_Engine_Access_kp idJ (cAt [true, true, true, true] (bodyOf Try.f50)) (retK Try.prog Try.f50 Q) noX (retK Try.prog Try.f50 Q)) noX (retK Try.prog Try.f50 Q) ((.pointer e0) :: (.string key1) :: us 4 ((.bool was6) :: (.slice l7.a l7.n l7.c) :: us 15 ((.bool t23) :: us 84 []))) := by kernel_rfl
theorem hoardref13_Engine_Access_raw (jn : Jn) (e0 : Option Addr) (key1 : ByteArray) (Q : Value → WP) : funJ jn Try.prog hoardref13_Engine_Access_kp Try.f50 [.pointer e0, .string key1] Q = (
  call1 .bool Try.prog id_hoardref13_Engine_Has [.pointer e0, .string key1] fun (x_1 : Bool) =>
  drawW fun S =>
  ite2 (!x_1) (
  nilck e0 fun b_2 o_3 =>
  ldS S (.int .i64) b_2 (o_3 + 2) fun (x_4 : Int) =>
  call1 (.int .i64) Try.prog id_hoardref13_Engine_Len [.pointer e0] fun (x_5 : Int) =>
  keepS true S <|
  hoardref13_Engine_Access_j1 jn Q  e0 key1 x_1 ⟨(none : Option Addr), 0, 0⟩ (decide (x_5 ≥ x_4))) (
  keepS true S <|
  hoardref13_Engine_Access_j1 jn Q  e0 key1 x_1 ⟨(none : Option Addr), 0, 0⟩ false)) := by kernel_rfl
theorem hoardref13_Engine_Access_def (e0 : Option Addr) (key1 : ByteArray) (Q : Value → WP) : hoardref13_Engine_Access e0 key1 Q = funJ idJ Try.prog hoardref13_Engine_Access_kp Try.f50 [.pointer e0, .string key1] Q := rfl
theorem hoardref13_Engine_Access_calls {e0 : Option Addr} {key1 : ByteArray} {Q : Value → WP} {w : World} (h : hoardref13_Engine_Access e0 key1 Q w) : Calls Try.prog id_hoardref13_Engine_Access #[.pointer e0, .string key1] w fun e w' => ∃ v, e = .returned v ∧ Q v w' :=
  funJ_calls mixed Try.func50 rfl h

-- (*hoard/hoardref13.Engine).Load
def hoardref13_Engine_Load_kp : KP := ⟨[(8, [0, 1])], [(1, [0, 1, 3, 4, 6, 7, 8, 9, 10, 11])]⟩
def hoardref13_Engine_Load_j1 (jn : Jn) (Q : Value → WP)  (e0 : Option Addr) (key1 : ByteArray) : WP := jn 8 (fun ρ => codeI Try.prog hoardref13_Engine_Load_kp jn (cAt [true, true] (bodyOf Try.f51)) (retK Try.prog Try.f51 Q) noX (retK Try.prog Try.f51 Q) ρ) ((.pointer e0) :: (.string key1) :: us 38 [])
def hoardref13_Engine_Load (e0 : Option Addr) (key1 : ByteArray) (Q : Value → WP) : WP := funJ idJ Try.prog hoardref13_Engine_Load_kp Try.f51 [.pointer e0, .string key1] Q
theorem hoardref13_Engine_Load_j1_raw (jn : Jn) (Q : Value → WP)  (e0 : Option Addr) (key1 : ByteArray) : codeI Try.prog hoardref13_Engine_Load_kp jn (cAt [true, true] (bodyOf Try.f51)) (retK Try.prog Try.f51 Q) noX (retK Try.prog Try.f51 Q) ((.pointer e0) :: (.string key1) :: us 38 []) = (
  call1 (.int .i64) Try.prog id_hoardref13_Engine_count [.pointer e0, .int .u8 (104 : Int)] fun (x_6 : Int) =>
  call1 (.int .i64) Try.prog id_hoardref13_Engine_most [.pointer e0] fun (x_7 : Int) =>
  ite2 (decide (x_6 < x_7)) (
  call0 Try.prog id_hoardref13_Engine_top [.pointer e0, .string key1, .int .u8 (104 : Int)] <|
  call0 Try.prog id_hoardref13_Engine_prune [.pointer e0] <|
  Q (.bool true)) (
  call0 Try.prog id_hoardref13_Engine_top [.pointer e0, .string key1, .int .u8 (99 : Int)] <|
  nilck e0 fun b_8 o_9 =>
  ld .slc b_8 (o_9 + 1) fun (x_10 : Sl) =>
  newB [.string key1] ty_string fun b_11 =>
  appendC ty_string 1 16 [.string str_empty] ⟨x_10.a, x_10.n, x_10.c⟩ 1 (fun w => rdA w (some ⟨b_11, 0, none⟩) (1 * 1)) fun s_12 =>
  nilck e0 fun b_13 o_14 =>
  st b_13 (o_14 + 1) (.slice s_12.a s_12.n s_12.c) <|
  call0 Try.prog id_hoardref13_Engine_prune [.pointer e0] <|
  Q (.bool true))) := by kernel_rfl
theorem hoardref13_Engine_Load_j1_def (Q : Value → WP)  (e0 : Option Addr) (key1 : ByteArray) : hoardref13_Engine_Load_j1 idJ Q  e0 key1 = codeI Try.prog hoardref13_Engine_Load_kp idJ (cAt [true, true] (bodyOf Try.f51)) (retK Try.prog Try.f51 Q) noX (retK Try.prog Try.f51 Q) ((.pointer e0) :: (.string key1) :: us 38 []) := by kernel_rfl
theorem hoardref13_Engine_Load_raw (jn : Jn) (e0 : Option Addr) (key1 : ByteArray) (Q : Value → WP) : funJ jn Try.prog hoardref13_Engine_Load_kp Try.f51 [.pointer e0, .string key1] Q = (
  drawW fun S =>
  call1 .bool Try.prog id_hoardref13_Engine_Has [.pointer e0, .string key1] fun (x_1 : Bool) =>
  keepS true S <|
  ite2 x_1 (
  keepS true S <|
  Q (.bool false)) (
  nilck e0 fun b_2 o_3 =>
  ldS S (.int .i64) b_2 (o_3 + 2) fun (x_4 : Int) =>
  call1 (.int .i64) Try.prog id_hoardref13_Engine_Len [.pointer e0] fun (x_5 : Int) =>
  keepS true S <|
  ite2 (decide (x_5 ≥ x_4)) (
  Q (.bool false)) (
  hoardref13_Engine_Load_j1 jn Q  e0 key1))) := by kernel_rfl
theorem hoardref13_Engine_Load_def (e0 : Option Addr) (key1 : ByteArray) (Q : Value → WP) : hoardref13_Engine_Load e0 key1 Q = funJ idJ Try.prog hoardref13_Engine_Load_kp Try.f51 [.pointer e0, .string key1] Q := rfl
theorem hoardref13_Engine_Load_calls {e0 : Option Addr} {key1 : ByteArray} {Q : Value → WP} {w : World} (h : hoardref13_Engine_Load e0 key1 Q w) : Calls Try.prog id_hoardref13_Engine_Load #[.pointer e0, .string key1] w fun e w' => ∃ v, e = .returned v ∧ Q v w' :=
  funJ_calls mixed Try.func51 rfl h

-- (*hoard/hoardref13.Engine).Remove
def hoardref13_Engine_Remove_kp : KP := ⟨[], []⟩
def hoardref13_Engine_Remove (e0 : Option Addr) (key1 : ByteArray) (Q : Value → WP) : WP := funJ idJ Try.prog hoardref13_Engine_Remove_kp Try.f52 [.pointer e0, .string key1] Q
theorem hoardref13_Engine_Remove_raw (jn : Jn) (e0 : Option Addr) (key1 : ByteArray) (Q : Value → WP) : funJ jn Try.prog hoardref13_Engine_Remove_kp Try.f52 [.pointer e0, .string key1] Q = (
  call1 .bool Try.prog id_hoardref13_Engine_Has [.pointer e0, .string key1] fun (x_1 : Bool) =>
  ite2 (!x_1) (
  Q (.bool false)) (
  call0 Try.prog id_hoardref13_Engine_out [.pointer e0, .string key1] <|
  call0 Try.prog id_hoardref13_Engine_leave [.pointer e0, .string key1] <|
  call0 Try.prog id_hoardref13_Engine_prune [.pointer e0] <|
  Q (.bool true))) := by kernel_rfl
theorem hoardref13_Engine_Remove_def (e0 : Option Addr) (key1 : ByteArray) (Q : Value → WP) : hoardref13_Engine_Remove e0 key1 Q = funJ idJ Try.prog hoardref13_Engine_Remove_kp Try.f52 [.pointer e0, .string key1] Q := rfl
theorem hoardref13_Engine_Remove_calls {e0 : Option Addr} {key1 : ByteArray} {Q : Value → WP} {w : World} (h : hoardref13_Engine_Remove e0 key1 Q w) : Calls Try.prog id_hoardref13_Engine_Remove #[.pointer e0, .string key1] w fun e w' => ∃ v, e = .returned v ∧ Q v w' :=
  funJ_calls mixed Try.func52 rfl h

-- (*hoard/hoardref13.Engine).Evict
def hoardref13_Engine_Evict_kp : KP := ⟨[(12, [0])], []⟩
def hoardref13_Engine_Evict_j1 (jn : Jn) (Q : Value → WP)  (e0 : Option Addr) : WP := jn 12 (fun ρ => codeI Try.prog hoardref13_Engine_Evict_kp jn (cAt [true, true, true] (bodyOf Try.f53)) (retK Try.prog Try.f53 Q) noX (retK Try.prog Try.f53 Q) ρ) ((.pointer e0) :: us 40 [])
def hoardref13_Engine_Evict (e0 : Option Addr) (Q : Value → WP) : WP := funJ idJ Try.prog hoardref13_Engine_Evict_kp Try.f53 [.pointer e0] Q
theorem hoardref13_Engine_Evict_j1_raw (jn : Jn) (Q : Value → WP)  (e0 : Option Addr) : codeI Try.prog hoardref13_Engine_Evict_kp jn (cAt [true, true, true] (bodyOf Try.f53)) (retK Try.prog Try.f53 Q) noX (retK Try.prog Try.f53 Q) ((.pointer e0) :: us 40 []) = (
  nilck e0 fun b_5 o_6 =>
  ld .slc b_5 (o_6 + 1) fun (x_7 : Sl) =>
  idx x_7.a x_7.n (0 : Int) fun b_8 o_9 =>
  ld .str b_8 (o_9 + ((0 : Int)).toNat * 1) fun (x_10 : ByteArray) =>
  call0 Try.prog id_hoardref13_Engine_leave [.pointer e0, .string x_10] <|
  call1 (.int .i64) Try.prog id_hoardref13_Engine_at [.pointer e0, .string x_10] fun (x_11 : Int) =>
  ite2 (decide (x_11 ≥ (0 : Int))) (
  nilck e0 fun b_12 o_13 =>
  ld .slc b_12 o_13 fun (x_14 : Sl) =>
  idx x_14.a x_14.n x_11 fun b_15 o_16 =>
  st b_15 ((o_16 + (x_11).toNat * 2) + 1) (.int .u8 (103 : Int)) <|
  call0 Try.prog id_hoardref13_Engine_forget [.pointer e0] <|
  Q (.tuple #[.string x_10, .bool true])) (
  call0 Try.prog id_hoardref13_Engine_forget [.pointer e0] <|
  Q (.tuple #[.string x_10, .bool true]))) := by kernel_rfl
theorem hoardref13_Engine_Evict_j1_def (Q : Value → WP)  (e0 : Option Addr) : hoardref13_Engine_Evict_j1 idJ Q  e0 = codeI Try.prog hoardref13_Engine_Evict_kp idJ (cAt [true, true, true] (bodyOf Try.f53)) (retK Try.prog Try.f53 Q) noX (retK Try.prog Try.f53 Q) ((.pointer e0) :: us 40 []) := by kernel_rfl
theorem hoardref13_Engine_Evict_raw (jn : Jn) (e0 : Option Addr) (Q : Value → WP) : funJ jn Try.prog hoardref13_Engine_Evict_kp Try.f53 [.pointer e0] Q = (
  call1 (.int .i64) Try.prog id_hoardref13_Engine_Len [.pointer e0] fun (x_1 : Int) =>
  ite2 (x_1 == (0 : Int)) (
  Q (.tuple #[.string str_empty, .bool false])) (
  nilck e0 fun b_2 o_3 =>
  ld .slc b_2 (o_3 + 1) fun (x_4 : Sl) =>
  ite2 ((x_4.n : Int) == (0 : Int)) (
  call0 Try.prog id_hoardref13_Engine_cools [.pointer e0] <|
  hoardref13_Engine_Evict_j1 jn Q  e0) (
  hoardref13_Engine_Evict_j1 jn Q  e0))) := by kernel_rfl
theorem hoardref13_Engine_Evict_def (e0 : Option Addr) (Q : Value → WP) : hoardref13_Engine_Evict e0 Q = funJ idJ Try.prog hoardref13_Engine_Evict_kp Try.f53 [.pointer e0] Q := rfl
theorem hoardref13_Engine_Evict_calls {e0 : Option Addr} {Q : Value → WP} {w : World} (h : hoardref13_Engine_Evict e0 Q w) : Calls Try.prog id_hoardref13_Engine_Evict #[.pointer e0] w fun e w' => ∃ v, e = .returned v ∧ Q v w' :=
  funJ_calls mixed Try.func53 rfl h

-- (*hoard/hoardref13.Engine).Has
def hoardref13_Engine_Has_kp : KP := ⟨[], []⟩
def hoardref13_Engine_Has (e0 : Option Addr) (key1 : ByteArray) (Q : Value → WP) : WP := funJ idJ Try.prog hoardref13_Engine_Has_kp Try.f54 [.pointer e0, .string key1] Q
theorem hoardref13_Engine_Has_raw (jn : Jn) (e0 : Option Addr) (key1 : ByteArray) (Q : Value → WP) : funJ jn Try.prog hoardref13_Engine_Has_kp Try.f54 [.pointer e0, .string key1] Q = (
  call1 (.int .u8) Try.prog id_hoardref13_Engine_is [.pointer e0, .string key1] fun (x_1 : Int) =>
  ite2 (x_1 == (104 : Int)) (
  Q (.bool true)) (
  call1 .bool Try.prog id_hoardref13_Engine_inQ [.pointer e0, .string key1] fun (x_2 : Bool) =>
  Q (.bool x_2))) := by kernel_rfl
theorem hoardref13_Engine_Has_def (e0 : Option Addr) (key1 : ByteArray) (Q : Value → WP) : hoardref13_Engine_Has e0 key1 Q = funJ idJ Try.prog hoardref13_Engine_Has_kp Try.f54 [.pointer e0, .string key1] Q := rfl
theorem hoardref13_Engine_Has_calls {e0 : Option Addr} {key1 : ByteArray} {Q : Value → WP} {w : World} (h : hoardref13_Engine_Has e0 key1 Q w) : Calls Try.prog id_hoardref13_Engine_Has #[.pointer e0, .string key1] w fun e w' => ∃ v, e = .returned v ∧ Q v w' :=
  funJ_calls mixed Try.func54 rfl h

-- (*hoard/lirs.Engine).cools
def lirs_Engine_cools_kp : KP := ⟨[], [(1, [0, 1, 2, 3, 4])]⟩
def lirs_Engine_cools (e0 : Option Addr) (Q : Value → WP) : WP := funJ idJ Try.prog lirs_Engine_cools_kp Try.f55 [.pointer e0] Q
theorem lirs_Engine_cools_raw (jn : Jn) (e0 : Option Addr) (Q : Value → WP) : funJ jn Try.prog lirs_Engine_cools_kp Try.f55 [.pointer e0] Q = (
  fun w => Calls Try.prog id_lirs_Engine_lowest #[.pointer e0, .int .i64 (1 : Int)] w fun e w' => ∃ x_1 : ByteArray, ∃ x_2 : Int, ∃ x_3 : Int, ∃ x_4 : Int, e = .returned (.tuple #[.string x_1, .agg #[.int .i64 x_2, .int .i64 x_3, .int .i64 x_4]]) ∧ (
  newB [.int .i64 (0 : Int), .int .i64 (0 : Int), .int .i64 (0 : Int)] ty_lirs_entry fun b_5 =>
  st b_5 0 (.int .i64 x_2) <|
  st b_5 1 (.int .i64 x_3) <|
  st b_5 2 (.int .i64 x_4) <|
  drawW fun S =>
  nilck e0 fun b_6 o_7 =>
  ldS S .ptr b_6 (o_7 + 2) fun (x_8 : Option Addr) =>
  ld (.int .i64) b_5 1 fun (x_9 : Int) =>
  keepS true S <|
  call2 .str .bool Try.prog id_list_List_string_Remove [.pointer x_8, .int .i64 x_9] fun (x_10 : ByteArray) (x_11 : Bool) =>
  st b_5 0 (.int .i64 (2 : Int)) <|
  st b_5 1 (.int .i64 (0 : Int)) <|
  call0 Try.prog id_lirs_Engine_end [.pointer e0, .pointer (some ⟨b_5, 0, none⟩), .string x_1] <|
  ld (.int .i64) b_5 0 fun (x_12 : Int) =>
  ld (.int .i64) b_5 1 fun (x_13 : Int) =>
  ld (.int .i64) b_5 2 fun (x_14 : Int) =>
  call0 Try.prog id_lirs_Engine_set [.pointer e0, .string x_1, .agg #[.int .i64 x_12, .int .i64 x_13, .int .i64 x_14]] <|
  call0 Try.prog id_lirs_Engine_prunes [.pointer e0] <|
  Q (.tuple #[])) w') := by kernel_rfl
theorem lirs_Engine_cools_def (e0 : Option Addr) (Q : Value → WP) : lirs_Engine_cools e0 Q = funJ idJ Try.prog lirs_Engine_cools_kp Try.f55 [.pointer e0] Q := rfl
theorem lirs_Engine_cools_calls {e0 : Option Addr} {Q : Value → WP} {w : World} (h : lirs_Engine_cools e0 Q w) : Calls Try.prog id_lirs_Engine_cools #[.pointer e0] w fun e w' => ∃ v, e = .returned v ∧ Q v w' :=
  funJ_calls mixed Try.func55 rfl h

-- (*hoard/list.List[string]).Get
def list_List_string_Get_kp : KP := ⟨[], []⟩
def list_List_string_Get (l0 : Option Addr) (h1 : Int) (Q : Value → WP) : WP := funJ idJ Try.prog list_List_string_Get_kp Try.f56 [.pointer l0, .int .i64 h1] Q
theorem list_List_string_Get_raw (jn : Jn) (l0 : Option Addr) (h1 : Int) (Q : Value → WP) : funJ jn Try.prog list_List_string_Get_kp Try.f56 [.pointer l0, .int .i64 h1] Q = (
  call1 .bool Try.prog id_list_List_string_has [.pointer l0, .int .i64 h1] fun (x_1 : Bool) =>
  ite2 (!x_1) (
  Q (.tuple #[.string str_empty, .bool false])) (
  nilck l0 fun b_2 o_3 =>
  ld .slc b_2 o_3 fun (x_4 : Sl) =>
  idx x_4.a x_4.n h1 fun b_5 o_6 =>
  ld .str b_5 (o_6 + (h1).toNat * 4) fun (x_7 : ByteArray) =>
  Q (.tuple #[.string x_7, .bool true]))) := by kernel_rfl
theorem list_List_string_Get_def (l0 : Option Addr) (h1 : Int) (Q : Value → WP) : list_List_string_Get l0 h1 Q = funJ idJ Try.prog list_List_string_Get_kp Try.f56 [.pointer l0, .int .i64 h1] Q := rfl
theorem list_List_string_Get_calls {l0 : Option Addr} {h1 : Int} {Q : Value → WP} {w : World} (h : list_List_string_Get l0 h1 Q w) : Calls Try.prog id_list_List_string_Get #[.pointer l0, .int .i64 h1] w fun e w' => ∃ v, e = .returned v ∧ Q v w' :=
  funJ_calls mixed Try.func56 rfl h

-- (*hoard/list.List[string]).Front
def list_List_string_Front_kp : KP := ⟨[], []⟩
def list_List_string_Front (l0 : Option Addr) (Q : Value → WP) : WP := funJ idJ Try.prog list_List_string_Front_kp Try.f57 [.pointer l0] Q
theorem list_List_string_Front_raw (jn : Jn) (l0 : Option Addr) (Q : Value → WP) : funJ jn Try.prog list_List_string_Front_kp Try.f57 [.pointer l0] Q = (
  ite2 (Option.isNone l0) (
  Q (.int .i64 (0 : Int))) (
  nilck l0 fun b_1 o_2 =>
  ld .slc b_1 o_2 fun (x_3 : Sl) =>
  idx x_3.a x_3.n (0 : Int) fun b_4 o_5 =>
  ld (.int .i64) b_4 ((o_5 + ((0 : Int)).toNat * 4) + 2) fun (x_6 : Int) =>
  Q (.int .i64 x_6))) := by kernel_rfl
theorem list_List_string_Front_def (l0 : Option Addr) (Q : Value → WP) : list_List_string_Front l0 Q = funJ idJ Try.prog list_List_string_Front_kp Try.f57 [.pointer l0] Q := rfl
theorem list_List_string_Front_calls {l0 : Option Addr} {Q : Value → WP} {w : World} (h : list_List_string_Front l0 Q w) : Calls Try.prog id_list_List_string_Front #[.pointer l0] w fun e w' => ∃ v, e = .returned v ∧ Q v w' :=
  funJ_calls mixed Try.func57 rfl h

-- (*hoard/lirs.Engine).leaves
def lirs_Engine_leaves_kp : KP := ⟨[], [(0, [0, 1, 2, 3, 4, 5, 6])]⟩
def lirs_Engine_leaves (e0 : Option Addr) (n1 : Option Addr) (Q : Value → WP) : WP := funJ idJ Try.prog lirs_Engine_leaves_kp Try.f58 [.pointer e0, .pointer n1] Q
theorem lirs_Engine_leaves_raw (jn : Jn) (e0 : Option Addr) (n1 : Option Addr) (Q : Value → WP) : funJ jn Try.prog lirs_Engine_leaves_kp Try.f58 [.pointer e0, .pointer n1] Q = (
  drawW fun S =>
  nilck e0 fun b_1 o_2 =>
  ldS S .ptr b_1 (o_2 + 3) fun (x_3 : Option Addr) =>
  nilck n1 fun b_4 o_5 =>
  ld (.int .i64) b_4 (o_5 + 2) fun (x_6 : Int) =>
  keepS true S <|
  call2 .str .bool Try.prog id_list_List_string_Remove [.pointer x_3, .int .i64 x_6] fun (x_7 : ByteArray) (x_8 : Bool) =>
  nilck n1 fun b_9 o_10 =>
  st b_9 (o_10 + 2) (.int .i64 (0 : Int)) <|
  Q (.tuple #[])) := by kernel_rfl
theorem lirs_Engine_leaves_def (e0 : Option Addr) (n1 : Option Addr) (Q : Value → WP) : lirs_Engine_leaves e0 n1 Q = funJ idJ Try.prog lirs_Engine_leaves_kp Try.f58 [.pointer e0, .pointer n1] Q := rfl
theorem lirs_Engine_leaves_calls {e0 : Option Addr} {n1 : Option Addr} {Q : Value → WP} {w : World} (h : lirs_Engine_leaves e0 n1 Q w) : Calls Try.prog id_lirs_Engine_leaves #[.pointer e0, .pointer n1] w fun e w' => ∃ v, e = .returned v ∧ Q v w' :=
  funJ_calls mixed Try.func58 rfl h

-- (*hoard/lirs.Engine).set
def lirs_Engine_set_kp : KP := ⟨[], [(6, [0, 1, 2, 3, 4])]⟩
def lirs_Engine_set (e0 : Option Addr) (key1 : ByteArray) (n2_0 : Int) (n2_1 : Int) (n2_2 : Int) (Q : Value → WP) : WP := funJ idJ Try.prog lirs_Engine_set_kp Try.f59 [.pointer e0, .string key1, .agg #[.int .i64 n2_0, .int .i64 n2_1, .int .i64 n2_2]] Q
theorem lirs_Engine_set_raw (jn : Jn) (e0 : Option Addr) (key1 : ByteArray) (n2_0 : Int) (n2_1 : Int) (n2_2 : Int) (Q : Value → WP) : funJ jn Try.prog lirs_Engine_set_kp Try.f59 [.pointer e0, .string key1, .agg #[.int .i64 n2_0, .int .i64 n2_1, .int .i64 n2_2]] Q = (
  newB [.int .i64 n2_0, .int .i64 n2_1, .int .i64 n2_2] ty_lirs_entry fun b_1 =>
  nilck e0 fun b_2 o_3 =>
  ld .ptr b_2 (o_3 + 4) fun (x_4 : Option Addr) =>
  fun w => Calls Try.prog id_index_Index_lirs_entry_Get #[.pointer x_4, .string key1] w fun e w' => ∃ x_5 : Int, ∃ x_6 : Int, ∃ x_7 : Int, ∃ x_8 : Bool, e = .returned (.tuple #[.agg #[.int .i64 x_5, .int .i64 x_6, .int .i64 x_7], .bool x_8]) ∧ (
  newB [.int .i64 (0 : Int), .int .i64 (0 : Int), .int .i64 (0 : Int)] ty_lirs_entry fun b_9 =>
  st b_9 0 (.int .i64 x_5) <|
  st b_9 1 (.int .i64 x_6) <|
  st b_9 2 (.int .i64 x_7) <|
  ld (.int .i64) b_9 0 fun (x_10 : Int) =>
  call0 Try.prog id_lirs_Engine_counts [.pointer e0, .int .i64 x_10, .int .i64 (-1 : Int)] <|
  ld (.int .i64) b_1 0 fun (x_11 : Int) =>
  call0 Try.prog id_lirs_Engine_counts [.pointer e0, .int .i64 x_11, .int .i64 (1 : Int)] <|
  ld (.int .i64) b_1 0 fun (x_12 : Int) =>
  ite2 (x_12 == (0 : Int)) (
  nilck e0 fun b_13 o_14 =>
  ld .ptr b_13 (o_14 + 4) fun (x_15 : Option Addr) =>
  fun w => Calls Try.prog id_index_Index_lirs_entry_Delete #[.pointer x_15, .string key1] w fun e w' => ∃ x_16 : Int, ∃ x_17 : Int, ∃ x_18 : Int, ∃ x_19 : Bool, e = .returned (.tuple #[.agg #[.int .i64 x_16, .int .i64 x_17, .int .i64 x_18], .bool x_19]) ∧ (
  Q (.tuple #[])) w') (
  drawW fun S =>
  nilck e0 fun b_20 o_21 =>
  ldS S .ptr b_20 (o_21 + 4) fun (x_22 : Option Addr) =>
  ld (.int .i64) b_1 0 fun (x_23 : Int) =>
  ld (.int .i64) b_1 1 fun (x_24 : Int) =>
  ld (.int .i64) b_1 2 fun (x_25 : Int) =>
  keepS true S <|
  call1 .bool Try.prog id_index_Index_lirs_entry_Put [.pointer x_22, .string key1, .agg #[.int .i64 x_23, .int .i64 x_24, .int .i64 x_25]] fun (x_26 : Bool) =>
  Q (.tuple #[]))) w') := by kernel_rfl
theorem lirs_Engine_set_def (e0 : Option Addr) (key1 : ByteArray) (n2_0 : Int) (n2_1 : Int) (n2_2 : Int) (Q : Value → WP) : lirs_Engine_set e0 key1 n2_0 n2_1 n2_2 Q = funJ idJ Try.prog lirs_Engine_set_kp Try.f59 [.pointer e0, .string key1, .agg #[.int .i64 n2_0, .int .i64 n2_1, .int .i64 n2_2]] Q := rfl
theorem lirs_Engine_set_calls {e0 : Option Addr} {key1 : ByteArray} {n2_0 : Int} {n2_1 : Int} {n2_2 : Int} {Q : Value → WP} {w : World} (h : lirs_Engine_set e0 key1 n2_0 n2_1 n2_2 Q w) : Calls Try.prog id_lirs_Engine_set #[.pointer e0, .string key1, .agg #[.int .i64 n2_0, .int .i64 n2_1, .int .i64 n2_2]] w fun e w' => ∃ v, e = .returned v ∧ Q v w' :=
  funJ_calls mixed Try.func59 rfl h

-- (*hoard/list.List[string]).Remove
def list_List_string_Remove_kp : KP := ⟨[], []⟩
def list_List_string_Remove (l0 : Option Addr) (h1 : Int) (Q : Value → WP) : WP := funJ idJ Try.prog list_List_string_Remove_kp Try.f60 [.pointer l0, .int .i64 h1] Q
theorem list_List_string_Remove_raw (jn : Jn) (l0 : Option Addr) (h1 : Int) (Q : Value → WP) : funJ jn Try.prog list_List_string_Remove_kp Try.f60 [.pointer l0, .int .i64 h1] Q = (
  call2 .str .bool Try.prog id_list_List_string_Get [.pointer l0, .int .i64 h1] fun (x_1 : ByteArray) (x_2 : Bool) =>
  ite2 x_2 (
  call0 Try.prog id_list_List_string_lifts [.pointer l0, .int .i64 h1] <|
  nilck l0 fun b_3 o_4 =>
  ld .slc b_3 o_4 fun (x_5 : Sl) =>
  idx x_5.a x_5.n h1 fun b_6 o_7 =>
  st b_6 (o_7 + (h1).toNat * 4) (.string str_empty) <|
  st b_6 ((o_7 + (h1).toNat * 4) + 1) (.int .i64 (0 : Int)) <|
  st b_6 (((o_7 + (h1).toNat * 4) + 1) + 1) (.int .i64 (0 : Int)) <|
  st b_6 ((((o_7 + (h1).toNat * 4) + 1) + 1) + 1) (.bool false) <|
  nilck l0 fun b_8 o_9 =>
  ld .slc b_8 (o_9 + 1) fun (x_10 : Sl) =>
  newB [.int .i64 h1] ty_int fun b_11 =>
  appendC ty_int 1 8 [.int .i64 (0 : Int)] ⟨x_10.a, x_10.n, x_10.c⟩ 1 (fun w => rdA w (some ⟨b_11, 0, none⟩) (1 * 1)) fun s_12 =>
  nilck l0 fun b_13 o_14 =>
  st b_13 (o_14 + 1) (.slice s_12.a s_12.n s_12.c) <|
  nilck l0 fun b_15 o_16 =>
  ld (.int .i64) b_15 (o_16 + 2) fun (x_17 : Int) =>
  nilck l0 fun b_18 o_19 =>
  st b_18 (o_19 + 2) (.int .i64 (IntKind.wrap .i64 (x_17 - (1 : Int)))) <|
  Q (.tuple #[.string x_1, .bool x_2])) (
  Q (.tuple #[.string x_1, .bool x_2]))) := by kernel_rfl
theorem list_List_string_Remove_def (l0 : Option Addr) (h1 : Int) (Q : Value → WP) : list_List_string_Remove l0 h1 Q = funJ idJ Try.prog list_List_string_Remove_kp Try.f60 [.pointer l0, .int .i64 h1] Q := rfl
theorem list_List_string_Remove_calls {l0 : Option Addr} {h1 : Int} {Q : Value → WP} {w : World} (h : list_List_string_Remove l0 h1 Q w) : Calls Try.prog id_list_List_string_Remove #[.pointer l0, .int .i64 h1] w fun e w' => ∃ v, e = .returned v ∧ Q v w' :=
  funJ_calls mixed Try.func60 rfl h

-- (*strings.Builder).WriteString
def strings_Builder_WriteString_kp : KP := ⟨[], []⟩
def strings_Builder_WriteString (b0 : Option Addr) (s1 : ByteArray) (Q : Value → WP) : WP := funJ idJ Try.prog strings_Builder_WriteString_kp Try.f61 [.pointer b0, .string s1] Q
theorem strings_Builder_WriteString_raw (jn : Jn) (b0 : Option Addr) (s1 : ByteArray) (Q : Value → WP) : funJ jn Try.prog strings_Builder_WriteString_kp Try.f61 [.pointer b0, .string s1] Q = (
  call0 Try.prog id_strings_Builder_copyCheck [.pointer b0] <|
  nilck b0 fun b_1 o_2 =>
  ld .slc b_1 (o_2 + 1) fun (x_3 : Sl) =>
  appendC ty_uint8 1 1 [.int .u8 (0 : Int)] ⟨x_3.a, x_3.n, x_3.c⟩ s1.size (fun _ => some (bytesL s1)) fun s_4 =>
  nilck b0 fun b_5 o_6 =>
  st b_5 (o_6 + 1) (.slice s_4.a s_4.n s_4.c) <|
  Q (.tuple #[.int .i64 (s1.size : Int), .nilIface])) := by kernel_rfl
theorem strings_Builder_WriteString_def (b0 : Option Addr) (s1 : ByteArray) (Q : Value → WP) : strings_Builder_WriteString b0 s1 Q = funJ idJ Try.prog strings_Builder_WriteString_kp Try.f61 [.pointer b0, .string s1] Q := rfl
theorem strings_Builder_WriteString_calls {b0 : Option Addr} {s1 : ByteArray} {Q : Value → WP} {w : World} (h : strings_Builder_WriteString b0 s1 Q w) : Calls Try.prog id_strings_Builder_WriteString #[.pointer b0, .string s1] w fun e w' => ∃ v, e = .returned v ∧ Q v w' :=
  funJ_calls mixed Try.func61 rfl h

-- (*hoard/hoardref13.Engine).count
def hoardref13_Engine_count_kp : KP := ⟨[(9, [0, 1, 5, 6]), (16, [5])], []⟩
def hoardref13_Engine_count_j2 (jn : Jn) (Q : Value → WP)  (n5 : Int) : WP := jn 16 (fun ρ => codeI Try.prog hoardref13_Engine_count_kp jn (cAt [true, true, true] (bodyOf Try.f63)) (retK Try.prog Try.f63 Q) noX (retK Try.prog Try.f63 Q) ρ) (us 5 ((.int .i64 n5) :: us 23 []))
def hoardref13_Engine_count_l1 (jn : Jn) (Q : Value → WP)  (m1 : Nat) (e0 : Option Addr) (is1 : Int) (n5 : Int) (i6 : Int) : WP := lop Try.prog hoardref13_Engine_count_kp jn (cAt [true, true, false, true, false, false] (bodyOf Try.f63)) (blkX 0 (seqK Try.prog hoardref13_Engine_count_kp jn (cAt [true, true, true] (bodyOf Try.f63)) (retK Try.prog Try.f63 Q) noX (retK Try.prog Try.f63 Q)) noX) (retK Try.prog Try.f63 Q) m1 ((.pointer e0) :: (.int .u8 is1) :: us 3 ((.int .i64 n5) :: (.int .i64 i6) :: us 22 []))
def hoardref13_Engine_count (e0 : Option Addr) (is1 : Int) (Q : Value → WP) : WP := funJ idJ Try.prog hoardref13_Engine_count_kp Try.f63 [.pointer e0, .int .u8 is1] Q
theorem hoardref13_Engine_count_j2_raw (jn : Jn) (Q : Value → WP)  (n5 : Int) : codeI Try.prog hoardref13_Engine_count_kp jn (cAt [true, true, true] (bodyOf Try.f63)) (retK Try.prog Try.f63 Q) noX (retK Try.prog Try.f63 Q) (us 5 ((.int .i64 n5) :: us 23 [])) = (
  Q (.int .i64 n5)) := by kernel_rfl
theorem hoardref13_Engine_count_j2_def (Q : Value → WP)  (n5 : Int) : hoardref13_Engine_count_j2 idJ Q  n5 = codeI Try.prog hoardref13_Engine_count_kp idJ (cAt [true, true, true] (bodyOf Try.f63)) (retK Try.prog Try.f63 Q) noX (retK Try.prog Try.f63 Q) (us 5 ((.int .i64 n5) :: us 23 [])) := by kernel_rfl
theorem hoardref13_Engine_count_l1_raw (jn : Jn) (Q : Value → WP)  (m1 : Nat) (e0 : Option Addr) (is1 : Int) (n5 : Int) (i6 : Int) : hoardref13_Engine_count_l1 jn Q  (m1 + 1) e0 is1 n5 i6 = (
  nilck e0 fun b_1 o_2 =>
  ld .slc b_1 o_2 fun (x_3 : Sl) =>
  ite2 (decide (i6 < (x_3.n : Int))) (
  nilck e0 fun b_4 o_5 =>
  ld .slc b_4 o_5 fun (x_6 : Sl) =>
  idx x_6.a x_6.n i6 fun b_7 o_8 =>
  ld (.int .u8) b_7 ((o_8 + (i6).toNat * 2) + 1) fun (x_9 : Int) =>
  ite2 (x_9 == is1) (
  hoardref13_Engine_count_l1 jn Q  m1 e0 is1 (IntKind.wrap .i64 (n5 + (1 : Int))) (IntKind.wrap .i64 (i6 + (1 : Int)))) (
  hoardref13_Engine_count_l1 jn Q  m1 e0 is1 n5 (IntKind.wrap .i64 (i6 + (1 : Int))))) (
  hoardref13_Engine_count_j2 jn Q  n5)) := by kernel_rfl
theorem hoardref13_Engine_count_l1_zero (jn : Jn) (Q : Value → WP)  (e0 : Option Addr) (is1 : Int) (n5 : Int) (i6 : Int) : hoardref13_Engine_count_l1 jn Q  0 e0 is1 n5 i6 = bot := by kernel_rfl
theorem hoardref13_Engine_count_raw (jn : Jn) (e0 : Option Addr) (is1 : Int) (Q : Value → WP) : funJ jn Try.prog hoardref13_Engine_count_kp Try.f63 [.pointer e0, .int .u8 is1] Q = (
  exM fun m => hoardref13_Engine_count_l1 jn Q  m e0 is1 (0 : Int) (0 : Int)) := by kernel_rfl
theorem hoardref13_Engine_count_def (e0 : Option Addr) (is1 : Int) (Q : Value → WP) : hoardref13_Engine_count e0 is1 Q = funJ idJ Try.prog hoardref13_Engine_count_kp Try.f63 [.pointer e0, .int .u8 is1] Q := rfl
theorem hoardref13_Engine_count_calls {e0 : Option Addr} {is1 : Int} {Q : Value → WP} {w : World} (h : hoardref13_Engine_count e0 is1 Q w) : Calls Try.prog id_hoardref13_Engine_count #[.pointer e0, .int .u8 is1] w fun e w' => ∃ v, e = .returned v ∧ Q v w' :=
  funJ_calls mixed Try.func63 rfl h

-- hoard/hoardlaw13.plain
def hoardlaw13_plain_kp : KP := ⟨[(7, [0, 3]), (8, [0, 3]), (13, [0, 3, 4]), (20, [])], []⟩
def hoardlaw13_plain_j3 (jn : Jn) (Q : Value → WP) (m1 : Nat) (l0 : Sl) (i3 : Int) : WP := jn 8 (fun ρ => codeI Try.prog hoardlaw13_plain_kp jn (cAt [true, false, true, false, false, true, true] (bodyOf Try.f64)) (lopK Try.prog hoardlaw13_plain_kp jn (cAt [true, false, true, false, false] (bodyOf Try.f64)) (blkX 0 (seqK Try.prog hoardlaw13_plain_kp jn (cAt [true, true] (bodyOf Try.f64)) (retK Try.prog Try.f64 Q) noX (retK Try.prog Try.f64 Q)) noX) (retK Try.prog Try.f64 Q) m1) (blkX 0 (seqK Try.prog hoardlaw13_plain_kp jn (cAt [true, true] (bodyOf Try.f64)) (retK Try.prog Try.f64 Q) noX (retK Try.prog Try.f64 Q)) noX) (retK Try.prog Try.f64 Q) ρ) ((.slice l0.a l0.n l0.c) :: us 2 ((.int .i64 i3) :: us 32 []))
def hoardlaw13_plain_l2 (jn : Jn) (Q : Value → WP) (m1 : Nat) (m2 : Nat) (l0 : Sl) (i3 : Int) (k4 : Int) : WP := lop Try.prog hoardlaw13_plain_kp jn (cAt [true, false, true, false, false, true, false, false, true, false, false] (bodyOf Try.f64)) (blkX 2 (seqK Try.prog hoardlaw13_plain_kp jn (cAt [true, false, true, false, false, true, true] (bodyOf Try.f64)) (lopK Try.prog hoardlaw13_plain_kp jn (cAt [true, false, true, false, false] (bodyOf Try.f64)) (blkX 0 (seqK Try.prog hoardlaw13_plain_kp jn (cAt [true, true] (bodyOf Try.f64)) (retK Try.prog Try.f64 Q) noX (retK Try.prog Try.f64 Q)) noX) (retK Try.prog Try.f64 Q) m1) (blkX 0 (seqK Try.prog hoardlaw13_plain_kp jn (cAt [true, true] (bodyOf Try.f64)) (retK Try.prog Try.f64 Q) noX (retK Try.prog Try.f64 Q)) noX) (retK Try.prog Try.f64 Q)) (blkX 1 (seqK Try.prog hoardlaw13_plain_kp jn (cAt [true, false, true, false, false, true, true] (bodyOf Try.f64)) (lopK Try.prog hoardlaw13_plain_kp jn (cAt [true, false, true, false, false] (bodyOf Try.f64)) (blkX 0 (seqK Try.prog hoardlaw13_plain_kp jn (cAt [true, true] (bodyOf Try.f64)) (retK Try.prog Try.f64 Q) noX (retK Try.prog Try.f64 Q)) noX) (retK Try.prog Try.f64 Q) m1) (blkX 0 (seqK Try.prog hoardlaw13_plain_kp jn (cAt [true, true] (bodyOf Try.f64)) (retK Try.prog Try.f64 Q) noX (retK Try.prog Try.f64 Q)) noX) (retK Try.prog Try.f64 Q)) (blkX 0 (seqK Try.prog hoardlaw13_plain_kp jn (cAt [true, true] (bodyOf Try.f64)) (retK Try.prog Try.f64 Q) noX (retK Try.prog Try.f64 Q)) noX))) (retK Try.prog Try.f64 Q) m2 ((.slice l0.a l0.n l0.c) :: us 2 ((.int .i64 i3) :: (.int .i64 k4) :: us 31 []))
def hoardlaw13_plain_j4 (jn : Jn) (Q : Value → WP)   : WP := jn 20 (fun ρ => codeI Try.prog hoardlaw13_plain_kp jn (cAt [true, true] (bodyOf Try.f64)) (retK Try.prog Try.f64 Q) noX (retK Try.prog Try.f64 Q) ρ) (us 36 [])
def hoardlaw13_plain_l1 (jn : Jn) (Q : Value → WP)  (m1 : Nat) (l0 : Sl) (i3 : Int) : WP := lop Try.prog hoardlaw13_plain_kp jn (cAt [true, false, true, false, false] (bodyOf Try.f64)) (blkX 0 (seqK Try.prog hoardlaw13_plain_kp jn (cAt [true, true] (bodyOf Try.f64)) (retK Try.prog Try.f64 Q) noX (retK Try.prog Try.f64 Q)) noX) (retK Try.prog Try.f64 Q) m1 ((.slice l0.a l0.n l0.c) :: us 2 ((.int .i64 i3) :: us 32 []))
def hoardlaw13_plain (l0 : Sl) (Q : Value → WP) : WP := funJ idJ Try.prog hoardlaw13_plain_kp Try.f64 [.slice l0.a l0.n l0.c] Q
theorem hoardlaw13_plain_j3_raw (jn : Jn) (Q : Value → WP) (m1 : Nat) (l0 : Sl) (i3 : Int) : codeI Try.prog hoardlaw13_plain_kp jn (cAt [true, false, true, false, false, true, true] (bodyOf Try.f64)) (lopK Try.prog hoardlaw13_plain_kp jn (cAt [true, false, true, false, false] (bodyOf Try.f64)) (blkX 0 (seqK Try.prog hoardlaw13_plain_kp jn (cAt [true, true] (bodyOf Try.f64)) (retK Try.prog Try.f64 Q) noX (retK Try.prog Try.f64 Q)) noX) (retK Try.prog Try.f64 Q) m1) (blkX 0 (seqK Try.prog hoardlaw13_plain_kp jn (cAt [true, true] (bodyOf Try.f64)) (retK Try.prog Try.f64 Q) noX (retK Try.prog Try.f64 Q)) noX) (retK Try.prog Try.f64 Q) ((.slice l0.a l0.n l0.c) :: us 2 ((.int .i64 i3) :: us 32 [])) = (
  hoardlaw13_plain_l1 jn Q  m1 l0 (IntKind.wrap .i64 (i3 + (1 : Int)))) := by kernel_rfl
theorem hoardlaw13_plain_j3_def (Q : Value → WP) (m1 : Nat) (l0 : Sl) (i3 : Int) : hoardlaw13_plain_j3 idJ Q m1 l0 i3 = codeI Try.prog hoardlaw13_plain_kp idJ (cAt [true, false, true, false, false, true, true] (bodyOf Try.f64)) (lopK Try.prog hoardlaw13_plain_kp idJ (cAt [true, false, true, false, false] (bodyOf Try.f64)) (blkX 0 (seqK Try.prog hoardlaw13_plain_kp idJ (cAt [true, true] (bodyOf Try.f64)) (retK Try.prog Try.f64 Q) noX (retK Try.prog Try.f64 Q)) noX) (retK Try.prog Try.f64 Q) m1) (blkX 0 (seqK Try.prog hoardlaw13_plain_kp idJ (cAt [true, true] (bodyOf Try.f64)) (retK Try.prog Try.f64 Q) noX (retK Try.prog Try.f64 Q)) noX) (retK Try.prog Try.f64 Q) ((.slice l0.a l0.n l0.c) :: us 2 ((.int .i64 i3) :: us 32 [])) := by kernel_rfl
theorem hoardlaw13_plain_l2_raw (jn : Jn) (Q : Value → WP) (m1 : Nat) (m2 : Nat) (l0 : Sl) (i3 : Int) (k4 : Int) : hoardlaw13_plain_l2 jn Q m1 (m2 + 1) l0 i3 k4 = (
  idx l0.a l0.n i3 fun b_1 o_2 =>
  ld .str b_1 (o_2 + (i3).toNat * 1) fun (x_3 : ByteArray) =>
  ite2 (decide (k4 < (x_3.size : Int))) (
  idx l0.a l0.n i3 fun b_4 o_5 =>
  ld .str b_4 (o_5 + (i3).toNat * 1) fun (x_6 : ByteArray) =>
  when ((0 : Int) ≤ k4 ∧ k4 < (x_6.size : Int)) <|
  ite2 ((byteAt x_6 (k4).toNat) == (47 : Int)) (
  Q (.bool false)) (
  idx l0.a l0.n i3 fun b_7 o_8 =>
  ld .str b_7 (o_8 + (i3).toNat * 1) fun (x_9 : ByteArray) =>
  when ((0 : Int) ≤ k4 ∧ k4 < (x_9.size : Int)) <|
  ite2 ((byteAt x_9 (k4).toNat) == (59 : Int)) (
  Q (.bool false)) (
  hoardlaw13_plain_l2 jn Q m1 m2 l0 i3 (IntKind.wrap .i64 (k4 + (1 : Int)))))) (
  hoardlaw13_plain_j3 jn Q m1 l0 i3)) := by kernel_rfl
theorem hoardlaw13_plain_l2_zero (jn : Jn) (Q : Value → WP) (m1 : Nat) (l0 : Sl) (i3 : Int) (k4 : Int) : hoardlaw13_plain_l2 jn Q m1 0 l0 i3 k4 = bot := by kernel_rfl
theorem hoardlaw13_plain_j4_raw (jn : Jn) (Q : Value → WP)   : codeI Try.prog hoardlaw13_plain_kp jn (cAt [true, true] (bodyOf Try.f64)) (retK Try.prog Try.f64 Q) noX (retK Try.prog Try.f64 Q) (us 36 []) = (
  Q (.bool true)) := by kernel_rfl
theorem hoardlaw13_plain_j4_def (Q : Value → WP)   : hoardlaw13_plain_j4 idJ Q   = codeI Try.prog hoardlaw13_plain_kp idJ (cAt [true, true] (bodyOf Try.f64)) (retK Try.prog Try.f64 Q) noX (retK Try.prog Try.f64 Q) (us 36 []) := by kernel_rfl
theorem hoardlaw13_plain_l1_raw (jn : Jn) (Q : Value → WP)  (m1 : Nat) (l0 : Sl) (i3 : Int) : hoardlaw13_plain_l1 jn Q  (m1 + 1) l0 i3 = (
  ite2 (decide (i3 < (l0.n : Int))) (
  exM fun m => hoardlaw13_plain_l2 jn Q m1 m l0 i3 (0 : Int)) (
  hoardlaw13_plain_j4 jn Q  )) := by kernel_rfl
theorem hoardlaw13_plain_l1_zero (jn : Jn) (Q : Value → WP)  (l0 : Sl) (i3 : Int) : hoardlaw13_plain_l1 jn Q  0 l0 i3 = bot := by kernel_rfl
theorem hoardlaw13_plain_raw (jn : Jn) (l0 : Sl) (Q : Value → WP) : funJ jn Try.prog hoardlaw13_plain_kp Try.f64 [.slice l0.a l0.n l0.c] Q = (
  exM fun m => hoardlaw13_plain_l1 jn Q  m l0 (0 : Int)) := by kernel_rfl
theorem hoardlaw13_plain_def (l0 : Sl) (Q : Value → WP) : hoardlaw13_plain l0 Q = funJ idJ Try.prog hoardlaw13_plain_kp Try.f64 [.slice l0.a l0.n l0.c] Q := rfl
theorem hoardlaw13_plain_calls {l0 : Sl} {Q : Value → WP} {w : World} (h : hoardlaw13_plain l0 Q w) : Calls Try.prog id_hoardlaw13_plain #[.slice l0.a l0.n l0.c] w fun e w' => ∃ v, e = .returned v ∧ Q v w' :=
  funJ_calls mixed Try.func64 rfl h

-- (*hoard/index.Index[hoard/lirs.entry]).find
def index_Index_lirs_entry_find_kp : KP := ⟨[(8, [0, 1, 6, 7]), (11, [0, 1, 6, 7]), (14, [0, 1, 6, 7, 8, 35]), (18, [0, 1, 6, 7, 8, 50]), (22, [0, 1, 6, 7, 8, 61])], [(2, [0, 1, 2, 3, 4, 6, 7, 8, 9, 10, 12])]⟩
def index_Index_lirs_entry_find_j4 (jn : Jn) (Q : Value → WP) (m1 : Nat) (x0 : Option Addr) (key1 : ByteArray) (free6 : Int) (i7 : Int) : WP := jn 8 (fun ρ => codeI Try.prog index_Index_lirs_entry_find_kp jn (cAt [true, true, true, false, false, true] (bodyOf Try.f65)) (lopK Try.prog index_Index_lirs_entry_find_kp jn (cAt [true, true, true, false, false] (bodyOf Try.f65)) (blkX 0 (retK Try.prog Try.f65 Q) noX) (retK Try.prog Try.f65 Q) m1) (blkX 0 (retK Try.prog Try.f65 Q) noX) (retK Try.prog Try.f65 Q) ρ) ((.pointer x0) :: (.string key1) :: us 4 ((.int .i64 free6) :: (.int .i64 i7) :: us 71 []))
def index_Index_lirs_entry_find_j5 (jn : Jn) (Q : Value → WP) (m1 : Nat) (x0 : Option Addr) (key1 : ByteArray) (free6 : Int) (i7 : Int) (p8_b : Nat) (p8_o : Nat) (t61 : Bool) : WP := jn 22 (fun ρ => codeI Try.prog index_Index_lirs_entry_find_kp jn (cAt [true, true, true, false, false, false, false, true, false, true, true, true, true, true] (bodyOf Try.f65)) (seqK Try.prog index_Index_lirs_entry_find_kp jn (cAt [true, true, true, false, false, true] (bodyOf Try.f65)) (lopK Try.prog index_Index_lirs_entry_find_kp jn (cAt [true, true, true, false, false] (bodyOf Try.f65)) (blkX 0 (retK Try.prog Try.f65 Q) noX) (retK Try.prog Try.f65 Q) m1) (blkX 0 (retK Try.prog Try.f65 Q) noX) (retK Try.prog Try.f65 Q)) (blkX 2 (seqK Try.prog index_Index_lirs_entry_find_kp jn (cAt [true, true, true, false, false, true] (bodyOf Try.f65)) (lopK Try.prog index_Index_lirs_entry_find_kp jn (cAt [true, true, true, false, false] (bodyOf Try.f65)) (blkX 0 (retK Try.prog Try.f65 Q) noX) (retK Try.prog Try.f65 Q) m1) (blkX 0 (retK Try.prog Try.f65 Q) noX) (retK Try.prog Try.f65 Q)) (blkX 1 (seqK Try.prog index_Index_lirs_entry_find_kp jn (cAt [true, true, true, false, false, true] (bodyOf Try.f65)) (lopK Try.prog index_Index_lirs_entry_find_kp jn (cAt [true, true, true, false, false] (bodyOf Try.f65)) (blkX 0 (retK Try.prog Try.f65 Q) noX) (retK Try.prog Try.f65 Q) m1) (blkX 0 (retK Try.prog Try.f65 Q) noX) (retK Try.prog Try.f65 Q)) (blkX 0 (retK Try.prog Try.f65 Q) noX))) (retK Try.prog Try.f65 Q) ρ) ((.pointer x0) :: (.string key1) :: us 4 ((.int .i64 free6) :: (.int .i64 i7) :: (.pointer (some ⟨p8_b, p8_o, none⟩)) :: us 52 ((.bool t61) :: us 17 [])))
def index_Index_lirs_entry_find_j3 (jn : Jn) (Q : Value → WP) (m1 : Nat) (x0 : Option Addr) (key1 : ByteArray) (free6 : Int) (i7 : Int) (p8_b : Nat) (p8_o : Nat) (t50 : Bool) : WP := jn 18 (fun ρ => codeI Try.prog index_Index_lirs_entry_find_kp jn (cAt [true, true, true, false, false, false, false, true, false, true, true, true] (bodyOf Try.f65)) (seqK Try.prog index_Index_lirs_entry_find_kp jn (cAt [true, true, true, false, false, true] (bodyOf Try.f65)) (lopK Try.prog index_Index_lirs_entry_find_kp jn (cAt [true, true, true, false, false] (bodyOf Try.f65)) (blkX 0 (retK Try.prog Try.f65 Q) noX) (retK Try.prog Try.f65 Q) m1) (blkX 0 (retK Try.prog Try.f65 Q) noX) (retK Try.prog Try.f65 Q)) (blkX 2 (seqK Try.prog index_Index_lirs_entry_find_kp jn (cAt [true, true, true, false, false, true] (bodyOf Try.f65)) (lopK Try.prog index_Index_lirs_entry_find_kp jn (cAt [true, true, true, false, false] (bodyOf Try.f65)) (blkX 0 (retK Try.prog Try.f65 Q) noX) (retK Try.prog Try.f65 Q) m1) (blkX 0 (retK Try.prog Try.f65 Q) noX) (retK Try.prog Try.f65 Q)) (blkX 1 (seqK Try.prog index_Index_lirs_entry_find_kp jn (cAt [true, true, true, false, false, true] (bodyOf Try.f65)) (lopK Try.prog index_Index_lirs_entry_find_kp jn (cAt [true, true, true, false, false] (bodyOf Try.f65)) (blkX 0 (retK Try.prog Try.f65 Q) noX) (retK Try.prog Try.f65 Q) m1) (blkX 0 (retK Try.prog Try.f65 Q) noX) (retK Try.prog Try.f65 Q)) (blkX 0 (retK Try.prog Try.f65 Q) noX))) (retK Try.prog Try.f65 Q) ρ) ((.pointer x0) :: (.string key1) :: us 4 ((.int .i64 free6) :: (.int .i64 i7) :: (.pointer (some ⟨p8_b, p8_o, none⟩)) :: us 41 ((.bool t50) :: us 28 [])))
def index_Index_lirs_entry_find_j2 (jn : Jn) (Q : Value → WP) (m1 : Nat) (x0 : Option Addr) (key1 : ByteArray) (free6 : Int) (i7 : Int) (p8_b : Nat) (p8_o : Nat) (t35 : Bool) : WP := jn 14 (fun ρ => codeI Try.prog index_Index_lirs_entry_find_kp jn (cAt [true, true, true, false, false, false, false, true, false, true] (bodyOf Try.f65)) (seqK Try.prog index_Index_lirs_entry_find_kp jn (cAt [true, true, true, false, false, true] (bodyOf Try.f65)) (lopK Try.prog index_Index_lirs_entry_find_kp jn (cAt [true, true, true, false, false] (bodyOf Try.f65)) (blkX 0 (retK Try.prog Try.f65 Q) noX) (retK Try.prog Try.f65 Q) m1) (blkX 0 (retK Try.prog Try.f65 Q) noX) (retK Try.prog Try.f65 Q)) (blkX 2 (seqK Try.prog index_Index_lirs_entry_find_kp jn (cAt [true, true, true, false, false, true] (bodyOf Try.f65)) (lopK Try.prog index_Index_lirs_entry_find_kp jn (cAt [true, true, true, false, false] (bodyOf Try.f65)) (blkX 0 (retK Try.prog Try.f65 Q) noX) (retK Try.prog Try.f65 Q) m1) (blkX 0 (retK Try.prog Try.f65 Q) noX) (retK Try.prog Try.f65 Q)) (blkX 1 (seqK Try.prog index_Index_lirs_entry_find_kp jn (cAt [true, true, true, false, false, true] (bodyOf Try.f65)) (lopK Try.prog index_Index_lirs_entry_find_kp jn (cAt [true, true, true, false, false] (bodyOf Try.f65)) (blkX 0 (retK Try.prog Try.f65 Q) noX) (retK Try.prog Try.f65 Q) m1) (blkX 0 (retK Try.prog Try.f65 Q) noX) (retK Try.prog Try.f65 Q)) (blkX 0 (retK Try.prog Try.f65 Q) noX))) (retK Try.prog Try.f65 Q) ρ) ((.pointer x0) :: (.string key1) :: us 4 ((.int .i64 free6) :: (.int .i64 i7) :: (.pointer (some ⟨p8_b, p8_o, none⟩)) :: us 26 ((.bool t35) :: us 43 [])))
def index_Index_lirs_entry_find_l1 (jn : Jn) (Q : Value → WP)  (m1 : Nat) (x0 : Option Addr) (key1 : ByteArray) (free6 : Int) (i7 : Int) : WP := lop Try.prog index_Index_lirs_entry_find_kp jn (cAt [true, true, true, false, false] (bodyOf Try.f65)) (blkX 0 (retK Try.prog Try.f65 Q) noX) (retK Try.prog Try.f65 Q) m1 ((.pointer x0) :: (.string key1) :: us 4 ((.int .i64 free6) :: (.int .i64 i7) :: us 71 []))
def index_Index_lirs_entry_find (x0 : Option Addr) (key1 : ByteArray) (Q : Value → WP) : WP := funJ idJ Try.prog index_Index_lirs_entry_find_kp Try.f65 [.pointer x0, .string key1] Q
theorem index_Index_lirs_entry_find_j4_raw (jn : Jn) (Q : Value → WP) (m1 : Nat) (x0 : Option Addr) (key1 : ByteArray) (free6 : Int) (i7 : Int) : codeI Try.prog index_Index_lirs_entry_find_kp jn (cAt [true, true, true, false, false, true] (bodyOf Try.f65)) (lopK Try.prog index_Index_lirs_entry_find_kp jn (cAt [true, true, true, false, false] (bodyOf Try.f65)) (blkX 0 (retK Try.prog Try.f65 Q) noX) (retK Try.prog Try.f65 Q) m1) (blkX 0 (retK Try.prog Try.f65 Q) noX) (retK Try.prog Try.f65 Q) ((.pointer x0) :: (.string key1) :: us 4 ((.int .i64 free6) :: (.int .i64 i7) :: us 71 [])) = (
  nilck x0 fun b_23 o_24 =>
  ld .slc b_23 (o_24 + 1) fun (x_25 : Sl) =>
  when ((x_25.n : Int) ≠ 0) <|
  index_Index_lirs_entry_find_l1 jn Q  m1 x0 key1 free6 (Int.tmod (IntKind.wrap .i64 (i7 + (1 : Int))) (x_25.n : Int))) := by kernel_rfl
theorem index_Index_lirs_entry_find_j4_def (Q : Value → WP) (m1 : Nat) (x0 : Option Addr) (key1 : ByteArray) (free6 : Int) (i7 : Int) : index_Index_lirs_entry_find_j4 idJ Q m1 x0 key1 free6 i7 = codeI Try.prog index_Index_lirs_entry_find_kp idJ (cAt [true, true, true, false, false, true] (bodyOf Try.f65)) (lopK Try.prog index_Index_lirs_entry_find_kp idJ (cAt [true, true, true, false, false] (bodyOf Try.f65)) (blkX 0 (retK Try.prog Try.f65 Q) noX) (retK Try.prog Try.f65 Q) m1) (blkX 0 (retK Try.prog Try.f65 Q) noX) (retK Try.prog Try.f65 Q) ((.pointer x0) :: (.string key1) :: us 4 ((.int .i64 free6) :: (.int .i64 i7) :: us 71 [])) := by kernel_rfl
theorem index_Index_lirs_entry_find_j5_raw (jn : Jn) (Q : Value → WP) (m1 : Nat) (x0 : Option Addr) (key1 : ByteArray) (free6 : Int) (i7 : Int) (p8_b : Nat) (p8_o : Nat) (t61 : Bool) : codeI Try.prog index_Index_lirs_entry_find_kp jn (cAt [true, true, true, false, false, false, false, true, false, true, true, true, true, true] (bodyOf Try.f65)) (seqK Try.prog index_Index_lirs_entry_find_kp jn (cAt [true, true, true, false, false, true] (bodyOf Try.f65)) (lopK Try.prog index_Index_lirs_entry_find_kp jn (cAt [true, true, true, false, false] (bodyOf Try.f65)) (blkX 0 (retK Try.prog Try.f65 Q) noX) (retK Try.prog Try.f65 Q) m1) (blkX 0 (retK Try.prog Try.f65 Q) noX) (retK Try.prog Try.f65 Q)) (blkX 2 (seqK Try.prog index_Index_lirs_entry_find_kp jn (cAt [true, true, true, false, false, true] (bodyOf Try.f65)) (lopK Try.prog index_Index_lirs_entry_find_kp jn (cAt [true, true, true, false, false] (bodyOf Try.f65)) (blkX 0 (retK Try.prog Try.f65 Q) noX) (retK Try.prog Try.f65 Q) m1) (blkX 0 (retK Try.prog Try.f65 Q) noX) (retK Try.prog Try.f65 Q)) (blkX 1 (seqK Try.prog index_Index_lirs_entry_find_kp jn (cAt [true, true, true, false, false, true] (bodyOf Try.f65)) (lopK Try.prog index_Index_lirs_entry_find_kp jn (cAt [true, true, true, false, false] (bodyOf Try.f65)) (blkX 0 (retK Try.prog Try.f65 Q) noX) (retK Try.prog Try.f65 Q) m1) (blkX 0 (retK Try.prog Try.f65 Q) noX) (retK Try.prog Try.f65 Q)) (blkX 0 (retK Try.prog Try.f65 Q) noX))) (retK Try.prog Try.f65 Q) ((.pointer x0) :: (.string key1) :: us 4 ((.int .i64 free6) :: (.int .i64 i7) :: (.pointer (some ⟨p8_b, p8_o, none⟩)) :: us 52 ((.bool t61) :: us 17 []))) = (
  ite2 t61 (
  Q (.tuple #[.int .i64 i7, .bool false])) (
  nilck (some ⟨p8_b, p8_o, none⟩) fun b_29 o_30 =>
  ld (.int .i64) b_29 o_30 fun (x_31 : Int) =>
  ite2 (x_31 == (0 : Int)) (
  Q (.tuple #[.int .i64 free6, .bool false])) (
  index_Index_lirs_entry_find_j4 jn Q m1 x0 key1 free6 i7))) := by kernel_rfl
theorem index_Index_lirs_entry_find_j5_def (Q : Value → WP) (m1 : Nat) (x0 : Option Addr) (key1 : ByteArray) (free6 : Int) (i7 : Int) (p8_b : Nat) (p8_o : Nat) (t61 : Bool) : index_Index_lirs_entry_find_j5 idJ Q m1 x0 key1 free6 i7 p8_b p8_o t61 = codeI Try.prog index_Index_lirs_entry_find_kp idJ (cAt [true, true, true, false, false, false, false, true, false, true, true, true, true, true] (bodyOf Try.f65)) (seqK Try.prog index_Index_lirs_entry_find_kp idJ (cAt [true, true, true, false, false, true] (bodyOf Try.f65)) (lopK Try.prog index_Index_lirs_entry_find_kp idJ (cAt [true, true, true, false, false] (bodyOf Try.f65)) (blkX 0 (retK Try.prog Try.f65 Q) noX) (retK Try.prog Try.f65 Q) m1) (blkX 0 (retK Try.prog Try.f65 Q) noX) (retK Try.prog Try.f65 Q)) (blkX 2 (seqK Try.prog index_Index_lirs_entry_find_kp idJ (cAt [true, true, true, false, false, true] (bodyOf Try.f65)) (lopK Try.prog index_Index_lirs_entry_find_kp idJ (cAt [true, true, true, false, false] (bodyOf Try.f65)) (blkX 0 (retK Try.prog Try.f65 Q) noX) (retK Try.prog Try.f65 Q) m1) (blkX 0 (retK Try.prog Try.f65 Q) noX) (retK Try.prog Try.f65 Q)) (blkX 1 (seqK Try.prog index_Index_lirs_entry_find_kp idJ (cAt [true, true, true, false, false, true] (bodyOf Try.f65)) (lopK Try.prog index_Index_lirs_entry_find_kp idJ (cAt [true, true, true, false, false] (bodyOf Try.f65)) (blkX 0 (retK Try.prog Try.f65 Q) noX) (retK Try.prog Try.f65 Q) m1) (blkX 0 (retK Try.prog Try.f65 Q) noX) (retK Try.prog Try.f65 Q)) (blkX 0 (retK Try.prog Try.f65 Q) noX))) (retK Try.prog Try.f65 Q) ((.pointer x0) :: (.string key1) :: us 4 ((.int .i64 free6) :: (.int .i64 i7) :: (.pointer (some ⟨p8_b, p8_o, none⟩)) :: us 52 ((.bool t61) :: us 17 []))) := by kernel_rfl
theorem index_Index_lirs_entry_find_j3_raw (jn : Jn) (Q : Value → WP) (m1 : Nat) (x0 : Option Addr) (key1 : ByteArray) (free6 : Int) (i7 : Int) (p8_b : Nat) (p8_o : Nat) (t50 : Bool) : codeI Try.prog index_Index_lirs_entry_find_kp jn (cAt [true, true, true, false, false, false, false, true, false, true, true, true] (bodyOf Try.f65)) (seqK Try.prog index_Index_lirs_entry_find_kp jn (cAt [true, true, true, false, false, true] (bodyOf Try.f65)) (lopK Try.prog index_Index_lirs_entry_find_kp jn (cAt [true, true, true, false, false] (bodyOf Try.f65)) (blkX 0 (retK Try.prog Try.f65 Q) noX) (retK Try.prog Try.f65 Q) m1) (blkX 0 (retK Try.prog Try.f65 Q) noX) (retK Try.prog Try.f65 Q)) (blkX 2 (seqK Try.prog index_Index_lirs_entry_find_kp jn (cAt [true, true, true, false, false, true] (bodyOf Try.f65)) (lopK Try.prog index_Index_lirs_entry_find_kp jn (cAt [true, true, true, false, false] (bodyOf Try.f65)) (blkX 0 (retK Try.prog Try.f65 Q) noX) (retK Try.prog Try.f65 Q) m1) (blkX 0 (retK Try.prog Try.f65 Q) noX) (retK Try.prog Try.f65 Q)) (blkX 1 (seqK Try.prog index_Index_lirs_entry_find_kp jn (cAt [true, true, true, false, false, true] (bodyOf Try.f65)) (lopK Try.prog index_Index_lirs_entry_find_kp jn (cAt [true, true, true, false, false] (bodyOf Try.f65)) (blkX 0 (retK Try.prog Try.f65 Q) noX) (retK Try.prog Try.f65 Q) m1) (blkX 0 (retK Try.prog Try.f65 Q) noX) (retK Try.prog Try.f65 Q)) (blkX 0 (retK Try.prog Try.f65 Q) noX))) (retK Try.prog Try.f65 Q) ((.pointer x0) :: (.string key1) :: us 4 ((.int .i64 free6) :: (.int .i64 i7) :: (.pointer (some ⟨p8_b, p8_o, none⟩)) :: us 41 ((.bool t50) :: us 28 []))) = (
  ite2 t50 (
  index_Index_lirs_entry_find_j4 jn Q m1 x0 key1 i7 i7) (
  nilck (some ⟨p8_b, p8_o, none⟩) fun b_26 o_27 =>
  ld (.int .i64) b_26 o_27 fun (x_28 : Int) =>
  ite2 (x_28 == (0 : Int)) (
  index_Index_lirs_entry_find_j5 jn Q m1 x0 key1 free6 i7 p8_b p8_o (decide (free6 < (0 : Int)))) (
  index_Index_lirs_entry_find_j5 jn Q m1 x0 key1 free6 i7 p8_b p8_o false))) := by kernel_rfl
theorem index_Index_lirs_entry_find_j3_def (Q : Value → WP) (m1 : Nat) (x0 : Option Addr) (key1 : ByteArray) (free6 : Int) (i7 : Int) (p8_b : Nat) (p8_o : Nat) (t50 : Bool) : index_Index_lirs_entry_find_j3 idJ Q m1 x0 key1 free6 i7 p8_b p8_o t50 = codeI Try.prog index_Index_lirs_entry_find_kp idJ (cAt [true, true, true, false, false, false, false, true, false, true, true, true] (bodyOf Try.f65)) (seqK Try.prog index_Index_lirs_entry_find_kp idJ (cAt [true, true, true, false, false, true] (bodyOf Try.f65)) (lopK Try.prog index_Index_lirs_entry_find_kp idJ (cAt [true, true, true, false, false] (bodyOf Try.f65)) (blkX 0 (retK Try.prog Try.f65 Q) noX) (retK Try.prog Try.f65 Q) m1) (blkX 0 (retK Try.prog Try.f65 Q) noX) (retK Try.prog Try.f65 Q)) (blkX 2 (seqK Try.prog index_Index_lirs_entry_find_kp idJ (cAt [true, true, true, false, false, true] (bodyOf Try.f65)) (lopK Try.prog index_Index_lirs_entry_find_kp idJ (cAt [true, true, true, false, false] (bodyOf Try.f65)) (blkX 0 (retK Try.prog Try.f65 Q) noX) (retK Try.prog Try.f65 Q) m1) (blkX 0 (retK Try.prog Try.f65 Q) noX) (retK Try.prog Try.f65 Q)) (blkX 1 (seqK Try.prog index_Index_lirs_entry_find_kp idJ (cAt [true, true, true, false, false, true] (bodyOf Try.f65)) (lopK Try.prog index_Index_lirs_entry_find_kp idJ (cAt [true, true, true, false, false] (bodyOf Try.f65)) (blkX 0 (retK Try.prog Try.f65 Q) noX) (retK Try.prog Try.f65 Q) m1) (blkX 0 (retK Try.prog Try.f65 Q) noX) (retK Try.prog Try.f65 Q)) (blkX 0 (retK Try.prog Try.f65 Q) noX))) (retK Try.prog Try.f65 Q) ((.pointer x0) :: (.string key1) :: us 4 ((.int .i64 free6) :: (.int .i64 i7) :: (.pointer (some ⟨p8_b, p8_o, none⟩)) :: us 41 ((.bool t50) :: us 28 []))) := by kernel_rfl
theorem index_Index_lirs_entry_find_j2_raw (jn : Jn) (Q : Value → WP) (m1 : Nat) (x0 : Option Addr) (key1 : ByteArray) (free6 : Int) (i7 : Int) (p8_b : Nat) (p8_o : Nat) (t35 : Bool) : codeI Try.prog index_Index_lirs_entry_find_kp jn (cAt [true, true, true, false, false, false, false, true, false, true] (bodyOf Try.f65)) (seqK Try.prog index_Index_lirs_entry_find_kp jn (cAt [true, true, true, false, false, true] (bodyOf Try.f65)) (lopK Try.prog index_Index_lirs_entry_find_kp jn (cAt [true, true, true, false, false] (bodyOf Try.f65)) (blkX 0 (retK Try.prog Try.f65 Q) noX) (retK Try.prog Try.f65 Q) m1) (blkX 0 (retK Try.prog Try.f65 Q) noX) (retK Try.prog Try.f65 Q)) (blkX 2 (seqK Try.prog index_Index_lirs_entry_find_kp jn (cAt [true, true, true, false, false, true] (bodyOf Try.f65)) (lopK Try.prog index_Index_lirs_entry_find_kp jn (cAt [true, true, true, false, false] (bodyOf Try.f65)) (blkX 0 (retK Try.prog Try.f65 Q) noX) (retK Try.prog Try.f65 Q) m1) (blkX 0 (retK Try.prog Try.f65 Q) noX) (retK Try.prog Try.f65 Q)) (blkX 1 (seqK Try.prog index_Index_lirs_entry_find_kp jn (cAt [true, true, true, false, false, true] (bodyOf Try.f65)) (lopK Try.prog index_Index_lirs_entry_find_kp jn (cAt [true, true, true, false, false] (bodyOf Try.f65)) (blkX 0 (retK Try.prog Try.f65 Q) noX) (retK Try.prog Try.f65 Q) m1) (blkX 0 (retK Try.prog Try.f65 Q) noX) (retK Try.prog Try.f65 Q)) (blkX 0 (retK Try.prog Try.f65 Q) noX))) (retK Try.prog Try.f65 Q) ((.pointer x0) :: (.string key1) :: us 4 ((.int .i64 free6) :: (.int .i64 i7) :: (.pointer (some ⟨p8_b, p8_o, none⟩)) :: us 26 ((.bool t35) :: us 43 []))) = (
  ite2 t35 (
  Q (.tuple #[.int .i64 i7, .bool true])) (
  nilck (some ⟨p8_b, p8_o, none⟩) fun b_20 o_21 =>
  ld (.int .i64) b_20 o_21 fun (x_22 : Int) =>
  ite2 (x_22 == (1 : Int)) (
  index_Index_lirs_entry_find_j3 jn Q m1 x0 key1 free6 i7 p8_b p8_o (decide (free6 < (0 : Int)))) (
  index_Index_lirs_entry_find_j3 jn Q m1 x0 key1 free6 i7 p8_b p8_o false))) := by kernel_rfl
theorem index_Index_lirs_entry_find_j2_def (Q : Value → WP) (m1 : Nat) (x0 : Option Addr) (key1 : ByteArray) (free6 : Int) (i7 : Int) (p8_b : Nat) (p8_o : Nat) (t35 : Bool) : index_Index_lirs_entry_find_j2 idJ Q m1 x0 key1 free6 i7 p8_b p8_o t35 = codeI Try.prog index_Index_lirs_entry_find_kp idJ (cAt [true, true, true, false, false, false, false, true, false, true] (bodyOf Try.f65)) (seqK Try.prog index_Index_lirs_entry_find_kp idJ (cAt [true, true, true, false, false, true] (bodyOf Try.f65)) (lopK Try.prog index_Index_lirs_entry_find_kp idJ (cAt [true, true, true, false, false] (bodyOf Try.f65)) (blkX 0 (retK Try.prog Try.f65 Q) noX) (retK Try.prog Try.f65 Q) m1) (blkX 0 (retK Try.prog Try.f65 Q) noX) (retK Try.prog Try.f65 Q)) (blkX 2 (seqK Try.prog index_Index_lirs_entry_find_kp idJ (cAt [true, true, true, false, false, true] (bodyOf Try.f65)) (lopK Try.prog index_Index_lirs_entry_find_kp idJ (cAt [true, true, true, false, false] (bodyOf Try.f65)) (blkX 0 (retK Try.prog Try.f65 Q) noX) (retK Try.prog Try.f65 Q) m1) (blkX 0 (retK Try.prog Try.f65 Q) noX) (retK Try.prog Try.f65 Q)) (blkX 1 (seqK Try.prog index_Index_lirs_entry_find_kp idJ (cAt [true, true, true, false, false, true] (bodyOf Try.f65)) (lopK Try.prog index_Index_lirs_entry_find_kp idJ (cAt [true, true, true, false, false] (bodyOf Try.f65)) (blkX 0 (retK Try.prog Try.f65 Q) noX) (retK Try.prog Try.f65 Q) m1) (blkX 0 (retK Try.prog Try.f65 Q) noX) (retK Try.prog Try.f65 Q)) (blkX 0 (retK Try.prog Try.f65 Q) noX))) (retK Try.prog Try.f65 Q) ((.pointer x0) :: (.string key1) :: us 4 ((.int .i64 free6) :: (.int .i64 i7) :: (.pointer (some ⟨p8_b, p8_o, none⟩)) :: us 26 ((.bool t35) :: us 43 []))) := by kernel_rfl
theorem index_Index_lirs_entry_find_l1_raw (jn : Jn) (Q : Value → WP)  (m1 : Nat) (x0 : Option Addr) (key1 : ByteArray) (free6 : Int) (i7 : Int) : index_Index_lirs_entry_find_l1 jn Q  (m1 + 1) x0 key1 free6 i7 = (
  nilck x0 fun b_9 o_10 =>
  ld .slc b_9 (o_10 + 1) fun (x_11 : Sl) =>
  idx x_11.a x_11.n i7 fun b_12 o_13 =>
  nilck (some ⟨b_12, (o_13 + (i7).toNat * 5), none⟩) fun b_14 o_15 =>
  ld (.int .i64) b_14 o_15 fun (x_16 : Int) =>
  ite2 (x_16 == (2 : Int)) (
  nilck (some ⟨b_12, (o_13 + (i7).toNat * 5), none⟩) fun b_17 o_18 =>
  ld .str b_17 (o_18 + 1) fun (x_19 : ByteArray) =>
  index_Index_lirs_entry_find_j2 jn Q m1 x0 key1 free6 i7 b_12 (o_13 + (i7).toNat * 5) (sEq x_19 key1)) (
  index_Index_lirs_entry_find_j2 jn Q m1 x0 key1 free6 i7 b_12 (o_13 + (i7).toNat * 5) false)) := by kernel_rfl
theorem index_Index_lirs_entry_find_l1_zero (jn : Jn) (Q : Value → WP)  (x0 : Option Addr) (key1 : ByteArray) (free6 : Int) (i7 : Int) : index_Index_lirs_entry_find_l1 jn Q  0 x0 key1 free6 i7 = bot := by kernel_rfl
theorem index_Index_lirs_entry_find_raw (jn : Jn) (x0 : Option Addr) (key1 : ByteArray) (Q : Value → WP) : funJ jn Try.prog index_Index_lirs_entry_find_kp Try.f65 [.pointer x0, .string key1] Q = (
  drawW fun S =>
  nilck x0 fun b_1 o_2 =>
  ldS S (.int .u64) b_1 o_2 fun (x_3 : Int) =>
  nilck x0 fun b_4 o_5 =>
  ldS S .slc b_4 (o_5 + 1) fun (x_6 : Sl) =>
  call1 (.int .u64) Try.prog id_mix_Hash [.int .u64 x_3, .string key1] fun (x_7 : Int) =>
  keepS true S <|
  call1 (.int .i64) Try.prog id_mix_Place [.int .u64 x_7, .int .i64 (x_6.n : Int)] fun (x_8 : Int) =>
  exM fun m => index_Index_lirs_entry_find_l1 jn Q  m x0 key1 (-1 : Int) x_8) := by kernel_rfl
theorem index_Index_lirs_entry_find_def (x0 : Option Addr) (key1 : ByteArray) (Q : Value → WP) : index_Index_lirs_entry_find x0 key1 Q = funJ idJ Try.prog index_Index_lirs_entry_find_kp Try.f65 [.pointer x0, .string key1] Q := rfl
theorem index_Index_lirs_entry_find_calls {x0 : Option Addr} {key1 : ByteArray} {Q : Value → WP} {w : World} (h : index_Index_lirs_entry_find x0 key1 Q w) : Calls Try.prog id_index_Index_lirs_entry_find #[.pointer x0, .string key1] w fun e w' => ∃ v, e = .returned v ∧ Q v w' :=
  funJ_calls mixed Try.func65 rfl h

-- (*hoard/lirs.Engine).top
def lirs_Engine_top_kp : KP := ⟨[], [(0, [0, 1, 2, 3, 4, 5, 6])]⟩
def lirs_Engine_top (e0 : Option Addr) (n1 : Option Addr) (key2 : ByteArray) (Q : Value → WP) : WP := funJ idJ Try.prog lirs_Engine_top_kp Try.f66 [.pointer e0, .pointer n1, .string key2] Q
theorem lirs_Engine_top_raw (jn : Jn) (e0 : Option Addr) (n1 : Option Addr) (key2 : ByteArray) (Q : Value → WP) : funJ jn Try.prog lirs_Engine_top_kp Try.f66 [.pointer e0, .pointer n1, .string key2] Q = (
  drawW fun S =>
  nilck e0 fun b_1 o_2 =>
  ldS S .ptr b_1 (o_2 + 2) fun (x_3 : Option Addr) =>
  nilck n1 fun b_4 o_5 =>
  ld (.int .i64) b_4 (o_5 + 1) fun (x_6 : Int) =>
  keepS true S <|
  call2 .str .bool Try.prog id_list_List_string_Remove [.pointer x_3, .int .i64 x_6] fun (x_7 : ByteArray) (x_8 : Bool) =>
  nilck e0 fun b_9 o_10 =>
  ld .ptr b_9 (o_10 + 2) fun (x_11 : Option Addr) =>
  call1 (.int .i64) Try.prog id_list_List_string_PushBack [.pointer x_11, .string key2] fun (x_12 : Int) =>
  nilck n1 fun b_13 o_14 =>
  st b_13 (o_14 + 1) (.int .i64 x_12) <|
  Q (.tuple #[])) := by kernel_rfl
theorem lirs_Engine_top_def (e0 : Option Addr) (n1 : Option Addr) (key2 : ByteArray) (Q : Value → WP) : lirs_Engine_top e0 n1 key2 Q = funJ idJ Try.prog lirs_Engine_top_kp Try.f66 [.pointer e0, .pointer n1, .string key2] Q := rfl
theorem lirs_Engine_top_calls {e0 : Option Addr} {n1 : Option Addr} {key2 : ByteArray} {Q : Value → WP} {w : World} (h : lirs_Engine_top e0 n1 key2 Q w) : Calls Try.prog id_lirs_Engine_top #[.pointer e0, .pointer n1, .string key2] w fun e w' => ∃ v, e = .returned v ∧ Q v w' :=
  funJ_calls mixed Try.func66 rfl h

-- (*hoard/lirs.Engine).lifts
def lirs_Engine_lifts_kp : KP := ⟨[], [(1, [0, 1, 2, 3, 4])]⟩
def lirs_Engine_lifts (e0 : Option Addr) (n1_0 : Int) (n1_1 : Int) (n1_2 : Int) (key2 : ByteArray) (Q : Value → WP) : WP := funJ idJ Try.prog lirs_Engine_lifts_kp Try.f67 [.pointer e0, .agg #[.int .i64 n1_0, .int .i64 n1_1, .int .i64 n1_2], .string key2] Q
theorem lirs_Engine_lifts_raw (jn : Jn) (e0 : Option Addr) (n1_0 : Int) (n1_1 : Int) (n1_2 : Int) (key2 : ByteArray) (Q : Value → WP) : funJ jn Try.prog lirs_Engine_lifts_kp Try.f67 [.pointer e0, .agg #[.int .i64 n1_0, .int .i64 n1_1, .int .i64 n1_2], .string key2] Q = (
  newB [.int .i64 n1_0, .int .i64 n1_1, .int .i64 n1_2] ty_lirs_entry fun b_1 =>
  drawW fun S =>
  nilck e0 fun b_2 o_3 =>
  ldS S .ptr b_2 (o_3 + 2) fun (x_4 : Option Addr) =>
  ld (.int .i64) b_1 1 fun (x_5 : Int) =>
  keepS true S <|
  call2 .str .bool Try.prog id_list_List_string_Remove [.pointer x_4, .int .i64 x_5] fun (x_6 : ByteArray) (x_7 : Bool) =>
  st b_1 1 (.int .i64 (0 : Int)) <|
  ld (.int .i64) b_1 0 fun (x_8 : Int) =>
  ite2 (x_8 == (3 : Int)) (
  st b_1 0 (.int .i64 (0 : Int)) <|
  ld (.int .i64) b_1 0 fun (x_9 : Int) =>
  ld (.int .i64) b_1 1 fun (x_10 : Int) =>
  ld (.int .i64) b_1 2 fun (x_11 : Int) =>
  call0 Try.prog id_lirs_Engine_set [.pointer e0, .string key2, .agg #[.int .i64 x_9, .int .i64 x_10, .int .i64 x_11]] <|
  Q (.tuple #[])) (
  ld (.int .i64) b_1 0 fun (x_12 : Int) =>
  ld (.int .i64) b_1 1 fun (x_13 : Int) =>
  ld (.int .i64) b_1 2 fun (x_14 : Int) =>
  call0 Try.prog id_lirs_Engine_set [.pointer e0, .string key2, .agg #[.int .i64 x_12, .int .i64 x_13, .int .i64 x_14]] <|
  Q (.tuple #[]))) := by kernel_rfl
theorem lirs_Engine_lifts_def (e0 : Option Addr) (n1_0 : Int) (n1_1 : Int) (n1_2 : Int) (key2 : ByteArray) (Q : Value → WP) : lirs_Engine_lifts e0 n1_0 n1_1 n1_2 key2 Q = funJ idJ Try.prog lirs_Engine_lifts_kp Try.f67 [.pointer e0, .agg #[.int .i64 n1_0, .int .i64 n1_1, .int .i64 n1_2], .string key2] Q := rfl
theorem lirs_Engine_lifts_calls {e0 : Option Addr} {n1_0 : Int} {n1_1 : Int} {n1_2 : Int} {key2 : ByteArray} {Q : Value → WP} {w : World} (h : lirs_Engine_lifts e0 n1_0 n1_1 n1_2 key2 Q w) : Calls Try.prog id_lirs_Engine_lifts #[.pointer e0, .agg #[.int .i64 n1_0, .int .i64 n1_1, .int .i64 n1_2], .string key2] w fun e w' => ∃ v, e = .returned v ∧ Q v w' :=
  funJ_calls mixed Try.func67 rfl h

-- (*hoard/lirs.Engine).end
def lirs_Engine_end_kp : KP := ⟨[], [(0, [0, 1, 2, 3, 4, 5, 6])]⟩
def lirs_Engine_end (e0 : Option Addr) (n1 : Option Addr) (key2 : ByteArray) (Q : Value → WP) : WP := funJ idJ Try.prog lirs_Engine_end_kp Try.f68 [.pointer e0, .pointer n1, .string key2] Q
theorem lirs_Engine_end_raw (jn : Jn) (e0 : Option Addr) (n1 : Option Addr) (key2 : ByteArray) (Q : Value → WP) : funJ jn Try.prog lirs_Engine_end_kp Try.f68 [.pointer e0, .pointer n1, .string key2] Q = (
  drawW fun S =>
  nilck e0 fun b_1 o_2 =>
  ldS S .ptr b_1 (o_2 + 3) fun (x_3 : Option Addr) =>
  nilck n1 fun b_4 o_5 =>
  ld (.int .i64) b_4 (o_5 + 2) fun (x_6 : Int) =>
  keepS true S <|
  call2 .str .bool Try.prog id_list_List_string_Remove [.pointer x_3, .int .i64 x_6] fun (x_7 : ByteArray) (x_8 : Bool) =>
  nilck e0 fun b_9 o_10 =>
  ld .ptr b_9 (o_10 + 3) fun (x_11 : Option Addr) =>
  call1 (.int .i64) Try.prog id_list_List_string_PushBack [.pointer x_11, .string key2] fun (x_12 : Int) =>
  nilck n1 fun b_13 o_14 =>
  st b_13 (o_14 + 2) (.int .i64 x_12) <|
  Q (.tuple #[])) := by kernel_rfl
theorem lirs_Engine_end_def (e0 : Option Addr) (n1 : Option Addr) (key2 : ByteArray) (Q : Value → WP) : lirs_Engine_end e0 n1 key2 Q = funJ idJ Try.prog lirs_Engine_end_kp Try.f68 [.pointer e0, .pointer n1, .string key2] Q := rfl
theorem lirs_Engine_end_calls {e0 : Option Addr} {n1 : Option Addr} {key2 : ByteArray} {Q : Value → WP} {w : World} (h : lirs_Engine_end e0 n1 key2 Q w) : Calls Try.prog id_lirs_Engine_end #[.pointer e0, .pointer n1, .string key2] w fun e w' => ∃ v, e = .returned v ∧ Q v w' :=
  funJ_calls mixed Try.func68 rfl h

-- (*hoard/lirs.Engine).lowest
def lirs_Engine_lowest_kp : KP := ⟨[(7, [0, 1, 5, 6]), (18, [5])], [(7, [0, 2])]⟩
def lirs_Engine_lowest_j2 (jn : Jn) (Q : Value → WP)  (t5_b : Nat) (t5_o : Nat) : WP := jn 18 (fun ρ => codeI Try.prog lirs_Engine_lowest_kp jn (cAt [true, true] (bodyOf Try.f69)) (retK Try.prog Try.f69 Q) noX (retK Try.prog Try.f69 Q) ρ) (us 5 ((.pointer (some ⟨t5_b, t5_o, none⟩)) :: us 43 []))
def lirs_Engine_lowest_l1 (jn : Jn) (Q : Value → WP)  (m1 : Nat) (e0 : Option Addr) (is1 : Int) (t5_b : Nat) (t5_o : Nat) (h6 : Int) : WP := lop Try.prog lirs_Engine_lowest_kp jn (cAt [true, false, true, false, false] (bodyOf Try.f69)) (blkX 0 (seqK Try.prog lirs_Engine_lowest_kp jn (cAt [true, true] (bodyOf Try.f69)) (retK Try.prog Try.f69 Q) noX (retK Try.prog Try.f69 Q)) noX) (retK Try.prog Try.f69 Q) m1 ((.pointer e0) :: (.int .i64 is1) :: us 3 ((.pointer (some ⟨t5_b, t5_o, none⟩)) :: (.int .i64 h6) :: us 42 []))
def lirs_Engine_lowest (e0 : Option Addr) (is1 : Int) (Q : Value → WP) : WP := funJ idJ Try.prog lirs_Engine_lowest_kp Try.f69 [.pointer e0, .int .i64 is1] Q
theorem lirs_Engine_lowest_j2_raw (jn : Jn) (Q : Value → WP)  (t5_b : Nat) (t5_o : Nat) : codeI Try.prog lirs_Engine_lowest_kp jn (cAt [true, true] (bodyOf Try.f69)) (retK Try.prog Try.f69 Q) noX (retK Try.prog Try.f69 Q) (us 5 ((.pointer (some ⟨t5_b, t5_o, none⟩)) :: us 43 [])) = (
  st t5_b t5_o (.int .i64 (0 : Int)) <|
  st t5_b (t5_o + 1) (.int .i64 (0 : Int)) <|
  st t5_b ((t5_o + 1) + 1) (.int .i64 (0 : Int)) <|
  ld (.int .i64) t5_b t5_o fun (x_30 : Int) =>
  ld (.int .i64) t5_b (t5_o + 1) fun (x_31 : Int) =>
  ld (.int .i64) t5_b ((t5_o + 1) + 1) fun (x_32 : Int) =>
  Q (.tuple #[.string str_empty, .agg #[.int .i64 x_30, .int .i64 x_31, .int .i64 x_32]])) := by kernel_rfl
theorem lirs_Engine_lowest_j2_def (Q : Value → WP)  (t5_b : Nat) (t5_o : Nat) : lirs_Engine_lowest_j2 idJ Q  t5_b t5_o = codeI Try.prog lirs_Engine_lowest_kp idJ (cAt [true, true] (bodyOf Try.f69)) (retK Try.prog Try.f69 Q) noX (retK Try.prog Try.f69 Q) (us 5 ((.pointer (some ⟨t5_b, t5_o, none⟩)) :: us 43 [])) := by kernel_rfl
theorem lirs_Engine_lowest_l1_raw (jn : Jn) (Q : Value → WP)  (m1 : Nat) (e0 : Option Addr) (is1 : Int) (t5_b : Nat) (t5_o : Nat) (h6 : Int) : lirs_Engine_lowest_l1 jn Q  (m1 + 1) e0 is1 t5_b t5_o h6 = (
  ite2 (h6 != (0 : Int)) (
  nilck e0 fun b_6 o_7 =>
  ld .ptr b_6 (o_7 + 2) fun (x_8 : Option Addr) =>
  call2 .str .bool Try.prog id_list_List_string_Get [.pointer x_8, .int .i64 h6] fun (x_9 : ByteArray) (x_10 : Bool) =>
  nilck e0 fun b_11 o_12 =>
  ld .ptr b_11 (o_12 + 4) fun (x_13 : Option Addr) =>
  fun w => Calls Try.prog id_index_Index_lirs_entry_Get #[.pointer x_13, .string x_9] w fun e w' => ∃ x_14 : Int, ∃ x_15 : Int, ∃ x_16 : Int, ∃ x_17 : Bool, e = .returned (.tuple #[.agg #[.int .i64 x_14, .int .i64 x_15, .int .i64 x_16], .bool x_17]) ∧ (
  newB [.int .i64 (0 : Int), .int .i64 (0 : Int), .int .i64 (0 : Int)] ty_lirs_entry fun b_18 =>
  st b_18 0 (.int .i64 x_14) <|
  st b_18 1 (.int .i64 x_15) <|
  st b_18 2 (.int .i64 x_16) <|
  ld (.int .i64) b_18 0 fun (x_19 : Int) =>
  ite2 (x_19 == is1) (
  drawW fun S =>
  ld (.int .i64) b_18 0 fun (x_20 : Int) =>
  ld (.int .i64) b_18 1 fun (x_21 : Int) =>
  ld (.int .i64) b_18 2 fun (x_22 : Int) =>
  st t5_b t5_o (.int .i64 x_20) <|
  st t5_b (t5_o + 1) (.int .i64 x_21) <|
  st t5_b ((t5_o + 1) + 1) (.int .i64 x_22) <|
  ld (.int .i64) t5_b t5_o fun (x_23 : Int) =>
  ld (.int .i64) t5_b (t5_o + 1) fun (x_24 : Int) =>
  ld (.int .i64) t5_b ((t5_o + 1) + 1) fun (x_25 : Int) =>
  Q (.tuple #[.string x_9, .agg #[.int .i64 x_23, .int .i64 x_24, .int .i64 x_25]])) (
  nilck e0 fun b_26 o_27 =>
  ld .ptr b_26 (o_27 + 2) fun (x_28 : Option Addr) =>
  call1 (.int .i64) Try.prog id_list_List_string_Next [.pointer x_28, .int .i64 h6] fun (x_29 : Int) =>
  lirs_Engine_lowest_l1 jn Q  m1 e0 is1 t5_b t5_o x_29)) w') (
  lirs_Engine_lowest_j2 jn Q  t5_b t5_o)) := by kernel_rfl
theorem lirs_Engine_lowest_l1_zero (jn : Jn) (Q : Value → WP)  (e0 : Option Addr) (is1 : Int) (t5_b : Nat) (t5_o : Nat) (h6 : Int) : lirs_Engine_lowest_l1 jn Q  0 e0 is1 t5_b t5_o h6 = bot := by kernel_rfl
theorem lirs_Engine_lowest_raw (jn : Jn) (e0 : Option Addr) (is1 : Int) (Q : Value → WP) : funJ jn Try.prog lirs_Engine_lowest_kp Try.f69 [.pointer e0, .int .i64 is1] Q = (
  newB [.int .i64 (0 : Int), .int .i64 (0 : Int), .int .i64 (0 : Int)] ty_lirs_entry fun b_1 =>
  nilck e0 fun b_2 o_3 =>
  ld .ptr b_2 (o_3 + 2) fun (x_4 : Option Addr) =>
  call1 (.int .i64) Try.prog id_list_List_string_Front [.pointer x_4] fun (x_5 : Int) =>
  exM fun m => lirs_Engine_lowest_l1 jn Q  m e0 is1 b_1 0 x_5) := by kernel_rfl
theorem lirs_Engine_lowest_def (e0 : Option Addr) (is1 : Int) (Q : Value → WP) : lirs_Engine_lowest e0 is1 Q = funJ idJ Try.prog lirs_Engine_lowest_kp Try.f69 [.pointer e0, .int .i64 is1] Q := rfl
theorem lirs_Engine_lowest_calls {e0 : Option Addr} {is1 : Int} {Q : Value → WP} {w : World} (h : lirs_Engine_lowest e0 is1 Q w) : Calls Try.prog id_lirs_Engine_lowest #[.pointer e0, .int .i64 is1] w fun e w' => ∃ v, e = .returned v ∧ Q v w' :=
  funJ_calls mixed Try.func69 rfl h

-- (*hoard/list.List[string]).Next
def list_List_string_Next_kp : KP := ⟨[], []⟩
def list_List_string_Next (l0 : Option Addr) (h1 : Int) (Q : Value → WP) : WP := funJ idJ Try.prog list_List_string_Next_kp Try.f70 [.pointer l0, .int .i64 h1] Q
theorem list_List_string_Next_raw (jn : Jn) (l0 : Option Addr) (h1 : Int) (Q : Value → WP) : funJ jn Try.prog list_List_string_Next_kp Try.f70 [.pointer l0, .int .i64 h1] Q = (
  call1 .bool Try.prog id_list_List_string_has [.pointer l0, .int .i64 h1] fun (x_1 : Bool) =>
  ite2 (!x_1) (
  Q (.int .i64 (0 : Int))) (
  nilck l0 fun b_2 o_3 =>
  ld .slc b_2 o_3 fun (x_4 : Sl) =>
  idx x_4.a x_4.n h1 fun b_5 o_6 =>
  ld (.int .i64) b_5 ((o_6 + (h1).toNat * 4) + 2) fun (x_7 : Int) =>
  Q (.int .i64 x_7))) := by kernel_rfl
theorem list_List_string_Next_def (l0 : Option Addr) (h1 : Int) (Q : Value → WP) : list_List_string_Next l0 h1 Q = funJ idJ Try.prog list_List_string_Next_kp Try.f70 [.pointer l0, .int .i64 h1] Q := rfl
theorem list_List_string_Next_calls {l0 : Option Addr} {h1 : Int} {Q : Value → WP} {w : World} (h : list_List_string_Next l0 h1 Q w) : Calls Try.prog id_list_List_string_Next #[.pointer l0, .int .i64 h1] w fun e w' => ∃ v, e = .returned v ∧ Q v w' :=
  funJ_calls mixed Try.func70 rfl h

-- (*hoard/hoardref13.Engine).is
def hoardref13_Engine_is_kp : KP := ⟨[], []⟩
def hoardref13_Engine_is (e0 : Option Addr) (key1 : ByteArray) (Q : Value → WP) : WP := funJ idJ Try.prog hoardref13_Engine_is_kp Try.f71 [.pointer e0, .string key1] Q
theorem hoardref13_Engine_is_raw (jn : Jn) (e0 : Option Addr) (key1 : ByteArray) (Q : Value → WP) : funJ jn Try.prog hoardref13_Engine_is_kp Try.f71 [.pointer e0, .string key1] Q = (
  call1 (.int .i64) Try.prog id_hoardref13_Engine_at [.pointer e0, .string key1] fun (x_1 : Int) =>
  ite2 (decide (x_1 < (0 : Int))) (
  Q (.int .u8 (0 : Int))) (
  nilck e0 fun b_2 o_3 =>
  ld .slc b_2 o_3 fun (x_4 : Sl) =>
  idx x_4.a x_4.n x_1 fun b_5 o_6 =>
  ld (.int .u8) b_5 ((o_6 + (x_1).toNat * 2) + 1) fun (x_7 : Int) =>
  Q (.int .u8 x_7))) := by kernel_rfl
theorem hoardref13_Engine_is_def (e0 : Option Addr) (key1 : ByteArray) (Q : Value → WP) : hoardref13_Engine_is e0 key1 Q = funJ idJ Try.prog hoardref13_Engine_is_kp Try.f71 [.pointer e0, .string key1] Q := rfl
theorem hoardref13_Engine_is_calls {e0 : Option Addr} {key1 : ByteArray} {Q : Value → WP} {w : World} (h : hoardref13_Engine_is e0 key1 Q w) : Calls Try.prog id_hoardref13_Engine_is #[.pointer e0, .string key1] w fun e w' => ∃ v, e = .returned v ∧ Q v w' :=
  funJ_calls mixed Try.func71 rfl h

-- (*hoard/hoardref13.Engine).top
def hoardref13_Engine_top_kp : KP := ⟨[], []⟩
def hoardref13_Engine_top (e0 : Option Addr) (key1 : ByteArray) (is2 : Int) (Q : Value → WP) : WP := funJ idJ Try.prog hoardref13_Engine_top_kp Try.f72 [.pointer e0, .string key1, .int .u8 is2] Q
theorem hoardref13_Engine_top_raw (jn : Jn) (e0 : Option Addr) (key1 : ByteArray) (is2 : Int) (Q : Value → WP) : funJ jn Try.prog hoardref13_Engine_top_kp Try.f72 [.pointer e0, .string key1, .int .u8 is2] Q = (
  call0 Try.prog id_hoardref13_Engine_out [.pointer e0, .string key1] <|
  nilck e0 fun b_1 o_2 =>
  ld .slc b_1 o_2 fun (x_3 : Sl) =>
  newB [.string key1, .int .u8 is2] ty_hoardref13_cell fun b_4 =>
  appendC ty_hoardref13_cell 2 24 [.string str_empty, .int .u8 (0 : Int)] ⟨x_3.a, x_3.n, x_3.c⟩ 1 (fun w => rdA w (some ⟨b_4, 0, none⟩) (1 * 2)) fun s_5 =>
  nilck e0 fun b_6 o_7 =>
  st b_6 o_7 (.slice s_5.a s_5.n s_5.c) <|
  Q (.tuple #[])) := by kernel_rfl
theorem hoardref13_Engine_top_def (e0 : Option Addr) (key1 : ByteArray) (is2 : Int) (Q : Value → WP) : hoardref13_Engine_top e0 key1 is2 Q = funJ idJ Try.prog hoardref13_Engine_top_kp Try.f72 [.pointer e0, .string key1, .int .u8 is2] Q := rfl
theorem hoardref13_Engine_top_calls {e0 : Option Addr} {key1 : ByteArray} {is2 : Int} {Q : Value → WP} {w : World} (h : hoardref13_Engine_top e0 key1 is2 Q w) : Calls Try.prog id_hoardref13_Engine_top #[.pointer e0, .string key1, .int .u8 is2] w fun e w' => ∃ v, e = .returned v ∧ Q v w' :=
  funJ_calls mixed Try.func72 rfl h

-- (*hoard/hoardref13.Engine).warm
def hoardref13_Engine_warm_kp : KP := ⟨[], []⟩
def hoardref13_Engine_warm (e0 : Option Addr) (key1 : ByteArray) (Q : Value → WP) : WP := funJ idJ Try.prog hoardref13_Engine_warm_kp Try.f73 [.pointer e0, .string key1] Q
theorem hoardref13_Engine_warm_raw (jn : Jn) (e0 : Option Addr) (key1 : ByteArray) (Q : Value → WP) : funJ jn Try.prog hoardref13_Engine_warm_kp Try.f73 [.pointer e0, .string key1] Q = (
  call0 Try.prog id_hoardref13_Engine_leave [.pointer e0, .string key1] <|
  call0 Try.prog id_hoardref13_Engine_top [.pointer e0, .string key1, .int .u8 (104 : Int)] <|
  call1 (.int .i64) Try.prog id_hoardref13_Engine_count [.pointer e0, .int .u8 (104 : Int)] fun (x_1 : Int) =>
  call1 (.int .i64) Try.prog id_hoardref13_Engine_most [.pointer e0] fun (x_2 : Int) =>
  ite2 (decide (x_1 > x_2)) (
  call0 Try.prog id_hoardref13_Engine_cools [.pointer e0] <|
  Q (.tuple #[])) (
  Q (.tuple #[]))) := by kernel_rfl
theorem hoardref13_Engine_warm_def (e0 : Option Addr) (key1 : ByteArray) (Q : Value → WP) : hoardref13_Engine_warm e0 key1 Q = funJ idJ Try.prog hoardref13_Engine_warm_kp Try.f73 [.pointer e0, .string key1] Q := rfl
theorem hoardref13_Engine_warm_calls {e0 : Option Addr} {key1 : ByteArray} {Q : Value → WP} {w : World} (h : hoardref13_Engine_warm e0 key1 Q w) : Calls Try.prog id_hoardref13_Engine_warm #[.pointer e0, .string key1] w fun e w' => ∃ v, e = .returned v ∧ Q v w' :=
  funJ_calls mixed Try.func73 rfl h

-- (*hoard/hoardref13.Engine).leave
def hoardref13_Engine_leave_kp : KP := ⟨[(7, [0, 1, 4, 5]), (14, [0, 4])], []⟩
def hoardref13_Engine_leave_j2 (jn : Jn) (Q : Value → WP)  (e0 : Option Addr) (l4 : Sl) : WP := jn 14 (fun ρ => codeI Try.prog hoardref13_Engine_leave_kp jn (cAt [true, true] (bodyOf Try.f74)) (retK Try.prog Try.f74 Q) noX (retK Try.prog Try.f74 Q) ρ) ((.pointer e0) :: us 3 ((.slice l4.a l4.n l4.c) :: us 33 []))
def hoardref13_Engine_leave_l1 (jn : Jn) (Q : Value → WP)  (m1 : Nat) (e0 : Option Addr) (key1 : ByteArray) (l4 : Sl) (i5 : Int) : WP := lop Try.prog hoardref13_Engine_leave_kp jn (cAt [true, false, true, false, false] (bodyOf Try.f74)) (blkX 0 (seqK Try.prog hoardref13_Engine_leave_kp jn (cAt [true, true] (bodyOf Try.f74)) (retK Try.prog Try.f74 Q) noX (retK Try.prog Try.f74 Q)) noX) (retK Try.prog Try.f74 Q) m1 ((.pointer e0) :: (.string key1) :: us 2 ((.slice l4.a l4.n l4.c) :: (.int .i64 i5) :: us 32 []))
def hoardref13_Engine_leave (e0 : Option Addr) (key1 : ByteArray) (Q : Value → WP) : WP := funJ idJ Try.prog hoardref13_Engine_leave_kp Try.f74 [.pointer e0, .string key1] Q
theorem hoardref13_Engine_leave_j2_raw (jn : Jn) (Q : Value → WP)  (e0 : Option Addr) (l4 : Sl) : codeI Try.prog hoardref13_Engine_leave_kp jn (cAt [true, true] (bodyOf Try.f74)) (retK Try.prog Try.f74 Q) noX (retK Try.prog Try.f74 Q) ((.pointer e0) :: us 3 ((.slice l4.a l4.n l4.c) :: us 33 [])) = (
  nilck e0 fun b_18 o_19 =>
  st b_18 (o_19 + 1) (.slice l4.a l4.n l4.c) <|
  Q (.tuple #[])) := by kernel_rfl
theorem hoardref13_Engine_leave_j2_def (Q : Value → WP)  (e0 : Option Addr) (l4 : Sl) : hoardref13_Engine_leave_j2 idJ Q  e0 l4 = codeI Try.prog hoardref13_Engine_leave_kp idJ (cAt [true, true] (bodyOf Try.f74)) (retK Try.prog Try.f74 Q) noX (retK Try.prog Try.f74 Q) ((.pointer e0) :: us 3 ((.slice l4.a l4.n l4.c) :: us 33 [])) := by kernel_rfl
theorem hoardref13_Engine_leave_l1_raw (jn : Jn) (Q : Value → WP)  (m1 : Nat) (e0 : Option Addr) (key1 : ByteArray) (l4 : Sl) (i5 : Int) : hoardref13_Engine_leave_l1 jn Q  (m1 + 1) e0 key1 l4 i5 = (
  nilck e0 fun b_1 o_2 =>
  ld .slc b_1 (o_2 + 1) fun (x_3 : Sl) =>
  ite2 (decide (i5 < (x_3.n : Int))) (
  nilck e0 fun b_4 o_5 =>
  ld .slc b_4 (o_5 + 1) fun (x_6 : Sl) =>
  idx x_6.a x_6.n i5 fun b_7 o_8 =>
  ld .str b_7 (o_8 + (i5).toNat * 1) fun (x_9 : ByteArray) =>
  ite2 (!sEq x_9 key1) (
  nilck e0 fun b_10 o_11 =>
  ld .slc b_10 (o_11 + 1) fun (x_12 : Sl) =>
  idx x_12.a x_12.n i5 fun b_13 o_14 =>
  ld .str b_13 (o_14 + (i5).toNat * 1) fun (x_15 : ByteArray) =>
  newB [.string x_15] ty_string fun b_16 =>
  appendC ty_string 1 16 [.string str_empty] ⟨l4.a, l4.n, l4.c⟩ 1 (fun w => rdA w (some ⟨b_16, 0, none⟩) (1 * 1)) fun s_17 =>
  hoardref13_Engine_leave_l1 jn Q  m1 e0 key1 s_17 (IntKind.wrap .i64 (i5 + (1 : Int)))) (
  hoardref13_Engine_leave_l1 jn Q  m1 e0 key1 l4 (IntKind.wrap .i64 (i5 + (1 : Int))))) (
  hoardref13_Engine_leave_j2 jn Q  e0 l4)) := by kernel_rfl
theorem hoardref13_Engine_leave_l1_zero (jn : Jn) (Q : Value → WP)  (e0 : Option Addr) (key1 : ByteArray) (l4 : Sl) (i5 : Int) : hoardref13_Engine_leave_l1 jn Q  0 e0 key1 l4 i5 = bot := by kernel_rfl
theorem hoardref13_Engine_leave_raw (jn : Jn) (e0 : Option Addr) (key1 : ByteArray) (Q : Value → WP) : funJ jn Try.prog hoardref13_Engine_leave_kp Try.f74 [.pointer e0, .string key1] Q = (
  exM fun m => hoardref13_Engine_leave_l1 jn Q  m e0 key1 ⟨(none : Option Addr), 0, 0⟩ (0 : Int)) := by kernel_rfl
theorem hoardref13_Engine_leave_def (e0 : Option Addr) (key1 : ByteArray) (Q : Value → WP) : hoardref13_Engine_leave e0 key1 Q = funJ idJ Try.prog hoardref13_Engine_leave_kp Try.f74 [.pointer e0, .string key1] Q := rfl
theorem hoardref13_Engine_leave_calls {e0 : Option Addr} {key1 : ByteArray} {Q : Value → WP} {w : World} (h : hoardref13_Engine_leave e0 key1 Q w) : Calls Try.prog id_hoardref13_Engine_leave #[.pointer e0, .string key1] w fun e w' => ∃ v, e = .returned v ∧ Q v w' :=
  funJ_calls mixed Try.func74 rfl h

-- (*hoard/hoardref13.Engine).most
def hoardref13_Engine_most_kp : KP := ⟨[], [(1, [0, 1, 2, 3, 4, 5, 6, 8, 9, 10, 11])]⟩
def hoardref13_Engine_most (e0 : Option Addr) (Q : Value → WP) : WP := funJ idJ Try.prog hoardref13_Engine_most_kp Try.f75 [.pointer e0] Q
theorem hoardref13_Engine_most_raw (jn : Jn) (e0 : Option Addr) (Q : Value → WP) : funJ jn Try.prog hoardref13_Engine_most_kp Try.f75 [.pointer e0] Q = (
  drawW fun S =>
  nilck e0 fun b_1 o_2 =>
  ldS S (.int .i64) b_1 (o_2 + 2) fun (x_3 : Int) =>
  nilck e0 fun b_4 o_5 =>
  ld (.int .i64) b_4 (o_5 + 2) fun (x_6 : Int) =>
  keepS true S <|
  when ((10 : Int) ≠ 0) <|
  Q (.int .i64 (IntKind.wrap .i64 (x_3 - (if (IntKind.wrap .i64 (Int.tdiv x_6 (10 : Int))) > (1 : Int) then (IntKind.wrap .i64 (Int.tdiv x_6 (10 : Int))) else (1 : Int)))))) := by kernel_rfl
theorem hoardref13_Engine_most_def (e0 : Option Addr) (Q : Value → WP) : hoardref13_Engine_most e0 Q = funJ idJ Try.prog hoardref13_Engine_most_kp Try.f75 [.pointer e0] Q := rfl
theorem hoardref13_Engine_most_calls {e0 : Option Addr} {Q : Value → WP} {w : World} (h : hoardref13_Engine_most e0 Q w) : Calls Try.prog id_hoardref13_Engine_most #[.pointer e0] w fun e w' => ∃ v, e = .returned v ∧ Q v w' :=
  funJ_calls mixed Try.func75 rfl h

-- (*hoard/hoardref13.Engine).forget
def hoardref13_Engine_forget_kp : KP := ⟨[(3, [0]), (7, [0, 2]), (14, [0])], [(0, [0, 2, 3, 4, 5, 6])]⟩
def hoardref13_Engine_forget_l2 (jn : Jn) (Q : Value → WP) (m1 : Nat) (m2 : Nat) (e0 : Option Addr) (i2 : Int) : WP := lop Try.prog hoardref13_Engine_forget_kp jn (cAt [false, false, false, true, false, true, false, false] (bodyOf Try.f76)) (blkX 2 (lopK Try.prog hoardref13_Engine_forget_kp jn (cAt [false, false, false] (bodyOf Try.f76)) (blkX 0 (seqK Try.prog hoardref13_Engine_forget_kp jn (cAt [true] (bodyOf Try.f76)) (retK Try.prog Try.f76 Q) noX (retK Try.prog Try.f76 Q)) noX) (retK Try.prog Try.f76 Q) m1) (blkX 1 (lopK Try.prog hoardref13_Engine_forget_kp jn (cAt [false, false, false] (bodyOf Try.f76)) (blkX 0 (seqK Try.prog hoardref13_Engine_forget_kp jn (cAt [true] (bodyOf Try.f76)) (retK Try.prog Try.f76 Q) noX (retK Try.prog Try.f76 Q)) noX) (retK Try.prog Try.f76 Q) m1) (blkX 0 (seqK Try.prog hoardref13_Engine_forget_kp jn (cAt [true] (bodyOf Try.f76)) (retK Try.prog Try.f76 Q) noX (retK Try.prog Try.f76 Q)) noX))) (retK Try.prog Try.f76 Q) m2 ((.pointer e0) :: us 1 ((.int .i64 i2) :: us 37 []))
def hoardref13_Engine_forget_j3 (jn : Jn) (Q : Value → WP)  (e0 : Option Addr) : WP := jn 14 (fun ρ => codeI Try.prog hoardref13_Engine_forget_kp jn (cAt [true] (bodyOf Try.f76)) (retK Try.prog Try.f76 Q) noX (retK Try.prog Try.f76 Q) ρ) ((.pointer e0) :: us 39 [])
def hoardref13_Engine_forget_l1 (jn : Jn) (Q : Value → WP)  (m1 : Nat) (e0 : Option Addr) : WP := lop Try.prog hoardref13_Engine_forget_kp jn (cAt [false, false, false] (bodyOf Try.f76)) (blkX 0 (seqK Try.prog hoardref13_Engine_forget_kp jn (cAt [true] (bodyOf Try.f76)) (retK Try.prog Try.f76 Q) noX (retK Try.prog Try.f76 Q)) noX) (retK Try.prog Try.f76 Q) m1 ((.pointer e0) :: us 39 [])
def hoardref13_Engine_forget (e0 : Option Addr) (Q : Value → WP) : WP := funJ idJ Try.prog hoardref13_Engine_forget_kp Try.f76 [.pointer e0] Q
theorem hoardref13_Engine_forget_l2_raw (jn : Jn) (Q : Value → WP) (m1 : Nat) (m2 : Nat) (e0 : Option Addr) (i2 : Int) : hoardref13_Engine_forget_l2 jn Q m1 (m2 + 1) e0 i2 = (
  nilck e0 fun b_5 o_6 =>
  ld .slc b_5 o_6 fun (x_7 : Sl) =>
  ite2 (decide (i2 < (x_7.n : Int))) (
  nilck e0 fun b_8 o_9 =>
  ld .slc b_8 o_9 fun (x_10 : Sl) =>
  idx x_10.a x_10.n i2 fun b_11 o_12 =>
  ld (.int .u8) b_11 ((o_12 + (i2).toNat * 2) + 1) fun (x_13 : Int) =>
  ite2 (x_13 == (103 : Int)) (
  nilck e0 fun b_14 o_15 =>
  ld .slc b_14 o_15 fun (x_16 : Sl) =>
  idx x_16.a x_16.n i2 fun b_17 o_18 =>
  ld .str b_17 (o_18 + (i2).toNat * 2) fun (x_19 : ByteArray) =>
  call0 Try.prog id_hoardref13_Engine_out [.pointer e0, .string x_19] <|
  hoardref13_Engine_forget_l1 jn Q  m1 e0) (
  hoardref13_Engine_forget_l2 jn Q m1 m2 e0 (IntKind.wrap .i64 (i2 + (1 : Int))))) (
  hoardref13_Engine_forget_l1 jn Q  m1 e0)) := by kernel_rfl
theorem hoardref13_Engine_forget_l2_zero (jn : Jn) (Q : Value → WP) (m1 : Nat) (e0 : Option Addr) (i2 : Int) : hoardref13_Engine_forget_l2 jn Q m1 0 e0 i2 = bot := by kernel_rfl
theorem hoardref13_Engine_forget_j3_raw (jn : Jn) (Q : Value → WP)  (e0 : Option Addr) : codeI Try.prog hoardref13_Engine_forget_kp jn (cAt [true] (bodyOf Try.f76)) (retK Try.prog Try.f76 Q) noX (retK Try.prog Try.f76 Q) ((.pointer e0) :: us 39 []) = (
  call0 Try.prog id_hoardref13_Engine_prune [.pointer e0] <|
  Q (.tuple #[])) := by kernel_rfl
theorem hoardref13_Engine_forget_j3_def (Q : Value → WP)  (e0 : Option Addr) : hoardref13_Engine_forget_j3 idJ Q  e0 = codeI Try.prog hoardref13_Engine_forget_kp idJ (cAt [true] (bodyOf Try.f76)) (retK Try.prog Try.f76 Q) noX (retK Try.prog Try.f76 Q) ((.pointer e0) :: us 39 []) := by kernel_rfl
theorem hoardref13_Engine_forget_l1_raw (jn : Jn) (Q : Value → WP)  (m1 : Nat) (e0 : Option Addr) : hoardref13_Engine_forget_l1 jn Q  (m1 + 1) e0 = (
  drawW fun S =>
  nilck e0 fun b_1 o_2 =>
  ldS S (.int .i64) b_1 (o_2 + 2) fun (x_3 : Int) =>
  call1 (.int .i64) Try.prog id_hoardref13_Engine_count [.pointer e0, .int .u8 (103 : Int)] fun (x_4 : Int) =>
  keepS true S <|
  ite2 (decide (x_4 > x_3)) (
  exM fun m => hoardref13_Engine_forget_l2 jn Q m1 m e0 (0 : Int)) (
  hoardref13_Engine_forget_j3 jn Q  e0)) := by kernel_rfl
theorem hoardref13_Engine_forget_l1_zero (jn : Jn) (Q : Value → WP)  (e0 : Option Addr) : hoardref13_Engine_forget_l1 jn Q  0 e0 = bot := by kernel_rfl
theorem hoardref13_Engine_forget_raw (jn : Jn) (e0 : Option Addr) (Q : Value → WP) : funJ jn Try.prog hoardref13_Engine_forget_kp Try.f76 [.pointer e0] Q = (
  exM fun m => hoardref13_Engine_forget_l1 jn Q  m e0) := by kernel_rfl
theorem hoardref13_Engine_forget_def (e0 : Option Addr) (Q : Value → WP) : hoardref13_Engine_forget e0 Q = funJ idJ Try.prog hoardref13_Engine_forget_kp Try.f76 [.pointer e0] Q := rfl
theorem hoardref13_Engine_forget_calls {e0 : Option Addr} {Q : Value → WP} {w : World} (h : hoardref13_Engine_forget e0 Q w) : Calls Try.prog id_hoardref13_Engine_forget #[.pointer e0] w fun e w' => ∃ v, e = .returned v ∧ Q v w' :=
  funJ_calls mixed Try.func76 rfl h

-- (*hoard/hoardref13.Engine).prune
def hoardref13_Engine_prune_kp : KP := ⟨[(3, [0]), (4, [0])], []⟩
def hoardref13_Engine_prune_j2 (jn : Jn) (Q : Value → WP) (m1 : Nat) (e0 : Option Addr) : WP := jn 4 (fun ρ => codeI Try.prog hoardref13_Engine_prune_kp jn (cAt [false, false, true] (bodyOf Try.f77)) (lopK Try.prog hoardref13_Engine_prune_kp jn (cAt [false, false] (bodyOf Try.f77)) (blkX 0 (retK Try.prog Try.f77 Q) noX) (retK Try.prog Try.f77 Q) m1) (blkX 0 (retK Try.prog Try.f77 Q) noX) (retK Try.prog Try.f77 Q) ρ) ((.pointer e0) :: us 27 [])
def hoardref13_Engine_prune_l1 (jn : Jn) (Q : Value → WP)  (m1 : Nat) (e0 : Option Addr) : WP := lop Try.prog hoardref13_Engine_prune_kp jn (cAt [false, false] (bodyOf Try.f77)) (blkX 0 (retK Try.prog Try.f77 Q) noX) (retK Try.prog Try.f77 Q) m1 ((.pointer e0) :: us 27 [])
def hoardref13_Engine_prune (e0 : Option Addr) (Q : Value → WP) : WP := funJ idJ Try.prog hoardref13_Engine_prune_kp Try.f77 [.pointer e0] Q
theorem hoardref13_Engine_prune_j2_raw (jn : Jn) (Q : Value → WP) (m1 : Nat) (e0 : Option Addr) : codeI Try.prog hoardref13_Engine_prune_kp jn (cAt [false, false, true] (bodyOf Try.f77)) (lopK Try.prog hoardref13_Engine_prune_kp jn (cAt [false, false] (bodyOf Try.f77)) (blkX 0 (retK Try.prog Try.f77 Q) noX) (retK Try.prog Try.f77 Q) m1) (blkX 0 (retK Try.prog Try.f77 Q) noX) (retK Try.prog Try.f77 Q) ((.pointer e0) :: us 27 []) = (
  newB [] ty_hoardref13_cell fun b_10 =>
  nilck e0 fun b_11 o_12 =>
  ld .slc b_11 o_12 fun (x_13 : Sl) =>
  when ((0 : Int) ≤ (1 : Int) ∧ (1 : Int) ≤ (x_13.n : Int)) <|
  appendC ty_hoardref13_cell 2 24 [.string str_empty, .int .u8 (0 : Int)] ⟨(some ⟨b_10, 0, none⟩), 0, 0⟩ (x_13.n - ((1 : Int)).toNat) (fun w => rdA w (subA x_13.a (((1 : Int)).toNat) x_13.c 2) ((x_13.n - ((1 : Int)).toNat) * 2)) fun s_14 =>
  nilck e0 fun b_15 o_16 =>
  st b_15 o_16 (.slice s_14.a s_14.n s_14.c) <|
  hoardref13_Engine_prune_l1 jn Q  m1 e0) := by kernel_rfl
theorem hoardref13_Engine_prune_j2_def (Q : Value → WP) (m1 : Nat) (e0 : Option Addr) : hoardref13_Engine_prune_j2 idJ Q m1 e0 = codeI Try.prog hoardref13_Engine_prune_kp idJ (cAt [false, false, true] (bodyOf Try.f77)) (lopK Try.prog hoardref13_Engine_prune_kp idJ (cAt [false, false] (bodyOf Try.f77)) (blkX 0 (retK Try.prog Try.f77 Q) noX) (retK Try.prog Try.f77 Q) m1) (blkX 0 (retK Try.prog Try.f77 Q) noX) (retK Try.prog Try.f77 Q) ((.pointer e0) :: us 27 []) := by kernel_rfl
theorem hoardref13_Engine_prune_l1_raw (jn : Jn) (Q : Value → WP)  (m1 : Nat) (e0 : Option Addr) : hoardref13_Engine_prune_l1 jn Q  (m1 + 1) e0 = (
  nilck e0 fun b_1 o_2 =>
  ld .slc b_1 o_2 fun (x_3 : Sl) =>
  ite2 (decide ((x_3.n : Int) > (0 : Int))) (
  nilck e0 fun b_4 o_5 =>
  ld .slc b_4 o_5 fun (x_6 : Sl) =>
  idx x_6.a x_6.n (0 : Int) fun b_7 o_8 =>
  ld (.int .u8) b_7 ((o_8 + ((0 : Int)).toNat * 2) + 1) fun (x_9 : Int) =>
  ite2 (x_9 != (104 : Int)) (
  hoardref13_Engine_prune_j2 jn Q m1 e0) (
  Q (.tuple #[]))) (
  Q (.tuple #[]))) := by kernel_rfl
theorem hoardref13_Engine_prune_l1_zero (jn : Jn) (Q : Value → WP)  (e0 : Option Addr) : hoardref13_Engine_prune_l1 jn Q  0 e0 = bot := by kernel_rfl
theorem hoardref13_Engine_prune_raw (jn : Jn) (e0 : Option Addr) (Q : Value → WP) : funJ jn Try.prog hoardref13_Engine_prune_kp Try.f77 [.pointer e0] Q = (
  exM fun m => hoardref13_Engine_prune_l1 jn Q  m e0) := by kernel_rfl
theorem hoardref13_Engine_prune_def (e0 : Option Addr) (Q : Value → WP) : hoardref13_Engine_prune e0 Q = funJ idJ Try.prog hoardref13_Engine_prune_kp Try.f77 [.pointer e0] Q := rfl
theorem hoardref13_Engine_prune_calls {e0 : Option Addr} {Q : Value → WP} {w : World} (h : hoardref13_Engine_prune e0 Q w) : Calls Try.prog id_hoardref13_Engine_prune #[.pointer e0] w fun e w' => ∃ v, e = .returned v ∧ Q v w' :=
  funJ_calls mixed Try.func77 rfl h

-- (*hoard/hoardref13.Engine).out
def hoardref13_Engine_out_kp : KP := ⟨[(7, [0, 1, 4, 5]), (14, [0, 4])], []⟩
def hoardref13_Engine_out_j2 (jn : Jn) (Q : Value → WP)  (e0 : Option Addr) (l4 : Sl) : WP := jn 14 (fun ρ => codeI Try.prog hoardref13_Engine_out_kp jn (cAt [true, true] (bodyOf Try.f78)) (retK Try.prog Try.f78 Q) noX (retK Try.prog Try.f78 Q) ρ) ((.pointer e0) :: us 3 ((.slice l4.a l4.n l4.c) :: us 34 []))
def hoardref13_Engine_out_l1 (jn : Jn) (Q : Value → WP)  (m1 : Nat) (e0 : Option Addr) (key1 : ByteArray) (l4 : Sl) (i5 : Int) : WP := lop Try.prog hoardref13_Engine_out_kp jn (cAt [true, false, true, false, false] (bodyOf Try.f78)) (blkX 0 (seqK Try.prog hoardref13_Engine_out_kp jn (cAt [true, true] (bodyOf Try.f78)) (retK Try.prog Try.f78 Q) noX (retK Try.prog Try.f78 Q)) noX) (retK Try.prog Try.f78 Q) m1 ((.pointer e0) :: (.string key1) :: us 2 ((.slice l4.a l4.n l4.c) :: (.int .i64 i5) :: us 33 []))
def hoardref13_Engine_out (e0 : Option Addr) (key1 : ByteArray) (Q : Value → WP) : WP := funJ idJ Try.prog hoardref13_Engine_out_kp Try.f78 [.pointer e0, .string key1] Q
theorem hoardref13_Engine_out_j2_raw (jn : Jn) (Q : Value → WP)  (e0 : Option Addr) (l4 : Sl) : codeI Try.prog hoardref13_Engine_out_kp jn (cAt [true, true] (bodyOf Try.f78)) (retK Try.prog Try.f78 Q) noX (retK Try.prog Try.f78 Q) ((.pointer e0) :: us 3 ((.slice l4.a l4.n l4.c) :: us 34 [])) = (
  nilck e0 fun b_19 o_20 =>
  st b_19 o_20 (.slice l4.a l4.n l4.c) <|
  Q (.tuple #[])) := by kernel_rfl
theorem hoardref13_Engine_out_j2_def (Q : Value → WP)  (e0 : Option Addr) (l4 : Sl) : hoardref13_Engine_out_j2 idJ Q  e0 l4 = codeI Try.prog hoardref13_Engine_out_kp idJ (cAt [true, true] (bodyOf Try.f78)) (retK Try.prog Try.f78 Q) noX (retK Try.prog Try.f78 Q) ((.pointer e0) :: us 3 ((.slice l4.a l4.n l4.c) :: us 34 [])) := by kernel_rfl
theorem hoardref13_Engine_out_l1_raw (jn : Jn) (Q : Value → WP)  (m1 : Nat) (e0 : Option Addr) (key1 : ByteArray) (l4 : Sl) (i5 : Int) : hoardref13_Engine_out_l1 jn Q  (m1 + 1) e0 key1 l4 i5 = (
  nilck e0 fun b_1 o_2 =>
  ld .slc b_1 o_2 fun (x_3 : Sl) =>
  ite2 (decide (i5 < (x_3.n : Int))) (
  nilck e0 fun b_4 o_5 =>
  ld .slc b_4 o_5 fun (x_6 : Sl) =>
  idx x_6.a x_6.n i5 fun b_7 o_8 =>
  ld .str b_7 (o_8 + (i5).toNat * 2) fun (x_9 : ByteArray) =>
  ite2 (!sEq x_9 key1) (
  nilck e0 fun b_10 o_11 =>
  ld .slc b_10 o_11 fun (x_12 : Sl) =>
  idx x_12.a x_12.n i5 fun b_13 o_14 =>
  ld .str b_13 (o_14 + (i5).toNat * 2) fun (x_15 : ByteArray) =>
  ld (.int .u8) b_13 ((o_14 + (i5).toNat * 2) + 1) fun (x_16 : Int) =>
  newB [.string x_15, .int .u8 x_16] ty_hoardref13_cell fun b_17 =>
  appendC ty_hoardref13_cell 2 24 [.string str_empty, .int .u8 (0 : Int)] ⟨l4.a, l4.n, l4.c⟩ 1 (fun w => rdA w (some ⟨b_17, 0, none⟩) (1 * 2)) fun s_18 =>
  hoardref13_Engine_out_l1 jn Q  m1 e0 key1 s_18 (IntKind.wrap .i64 (i5 + (1 : Int)))) (
  hoardref13_Engine_out_l1 jn Q  m1 e0 key1 l4 (IntKind.wrap .i64 (i5 + (1 : Int))))) (
  hoardref13_Engine_out_j2 jn Q  e0 l4)) := by kernel_rfl
theorem hoardref13_Engine_out_l1_zero (jn : Jn) (Q : Value → WP)  (e0 : Option Addr) (key1 : ByteArray) (l4 : Sl) (i5 : Int) : hoardref13_Engine_out_l1 jn Q  0 e0 key1 l4 i5 = bot := by kernel_rfl
theorem hoardref13_Engine_out_raw (jn : Jn) (e0 : Option Addr) (key1 : ByteArray) (Q : Value → WP) : funJ jn Try.prog hoardref13_Engine_out_kp Try.f78 [.pointer e0, .string key1] Q = (
  exM fun m => hoardref13_Engine_out_l1 jn Q  m e0 key1 ⟨(none : Option Addr), 0, 0⟩ (0 : Int)) := by kernel_rfl
theorem hoardref13_Engine_out_def (e0 : Option Addr) (key1 : ByteArray) (Q : Value → WP) : hoardref13_Engine_out e0 key1 Q = funJ idJ Try.prog hoardref13_Engine_out_kp Try.f78 [.pointer e0, .string key1] Q := rfl
theorem hoardref13_Engine_out_calls {e0 : Option Addr} {key1 : ByteArray} {Q : Value → WP} {w : World} (h : hoardref13_Engine_out e0 key1 Q w) : Calls Try.prog id_hoardref13_Engine_out #[.pointer e0, .string key1] w fun e w' => ∃ v, e = .returned v ∧ Q v w' :=
  funJ_calls mixed Try.func78 rfl h

-- (*hoard/hoardref13.Engine).cools
def hoardref13_Engine_cools_kp : KP := ⟨[(5, [0, 2]), (16, [0])], []⟩
def hoardref13_Engine_cools_j2 (jn : Jn) (Q : Value → WP)  (e0 : Option Addr) : WP := jn 16 (fun ρ => codeI Try.prog hoardref13_Engine_cools_kp jn (cAt [true] (bodyOf Try.f79)) (retK Try.prog Try.f79 Q) noX (retK Try.prog Try.f79 Q) ρ) ((.pointer e0) :: us 44 [])
def hoardref13_Engine_cools_l1 (jn : Jn) (Q : Value → WP)  (m1 : Nat) (e0 : Option Addr) (i2 : Int) : WP := lop Try.prog hoardref13_Engine_cools_kp jn (cAt [false, true, false, false] (bodyOf Try.f79)) (blkX 0 (seqK Try.prog hoardref13_Engine_cools_kp jn (cAt [true] (bodyOf Try.f79)) (retK Try.prog Try.f79 Q) noX (retK Try.prog Try.f79 Q)) noX) (retK Try.prog Try.f79 Q) m1 ((.pointer e0) :: us 1 ((.int .i64 i2) :: us 42 []))
def hoardref13_Engine_cools (e0 : Option Addr) (Q : Value → WP) : WP := funJ idJ Try.prog hoardref13_Engine_cools_kp Try.f79 [.pointer e0] Q
theorem hoardref13_Engine_cools_j2_raw (jn : Jn) (Q : Value → WP)  (e0 : Option Addr) : codeI Try.prog hoardref13_Engine_cools_kp jn (cAt [true] (bodyOf Try.f79)) (retK Try.prog Try.f79 Q) noX (retK Try.prog Try.f79 Q) ((.pointer e0) :: us 44 []) = (
  call0 Try.prog id_hoardref13_Engine_prune [.pointer e0] <|
  Q (.tuple #[])) := by kernel_rfl
theorem hoardref13_Engine_cools_j2_def (Q : Value → WP)  (e0 : Option Addr) : hoardref13_Engine_cools_j2 idJ Q  e0 = codeI Try.prog hoardref13_Engine_cools_kp idJ (cAt [true] (bodyOf Try.f79)) (retK Try.prog Try.f79 Q) noX (retK Try.prog Try.f79 Q) ((.pointer e0) :: us 44 []) := by kernel_rfl
theorem hoardref13_Engine_cools_l1_raw (jn : Jn) (Q : Value → WP)  (m1 : Nat) (e0 : Option Addr) (i2 : Int) : hoardref13_Engine_cools_l1 jn Q  (m1 + 1) e0 i2 = (
  nilck e0 fun b_1 o_2 =>
  ld .slc b_1 o_2 fun (x_3 : Sl) =>
  ite2 (decide (i2 < (x_3.n : Int))) (
  nilck e0 fun b_4 o_5 =>
  ld .slc b_4 o_5 fun (x_6 : Sl) =>
  idx x_6.a x_6.n i2 fun b_7 o_8 =>
  ld (.int .u8) b_7 ((o_8 + (i2).toNat * 2) + 1) fun (x_9 : Int) =>
  ite2 (x_9 == (104 : Int)) (
  nilck e0 fun b_10 o_11 =>
  ld .slc b_10 o_11 fun (x_12 : Sl) =>
  idx x_12.a x_12.n i2 fun b_13 o_14 =>
  ld .str b_13 (o_14 + (i2).toNat * 2) fun (x_15 : ByteArray) =>
  call0 Try.prog id_hoardref13_Engine_out [.pointer e0, .string x_15] <|
  nilck e0 fun b_16 o_17 =>
  ld .slc b_16 (o_17 + 1) fun (x_18 : Sl) =>
  newB [.string x_15] ty_string fun b_19 =>
  appendC ty_string 1 16 [.string str_empty] ⟨x_18.a, x_18.n, x_18.c⟩ 1 (fun w => rdA w (some ⟨b_19, 0, none⟩) (1 * 1)) fun s_20 =>
  nilck e0 fun b_21 o_22 =>
  st b_21 (o_22 + 1) (.slice s_20.a s_20.n s_20.c) <|
  hoardref13_Engine_cools_j2 jn Q  e0) (
  hoardref13_Engine_cools_l1 jn Q  m1 e0 (IntKind.wrap .i64 (i2 + (1 : Int))))) (
  hoardref13_Engine_cools_j2 jn Q  e0)) := by kernel_rfl
theorem hoardref13_Engine_cools_l1_zero (jn : Jn) (Q : Value → WP)  (e0 : Option Addr) (i2 : Int) : hoardref13_Engine_cools_l1 jn Q  0 e0 i2 = bot := by kernel_rfl
theorem hoardref13_Engine_cools_raw (jn : Jn) (e0 : Option Addr) (Q : Value → WP) : funJ jn Try.prog hoardref13_Engine_cools_kp Try.f79 [.pointer e0] Q = (
  exM fun m => hoardref13_Engine_cools_l1 jn Q  m e0 (0 : Int)) := by kernel_rfl
theorem hoardref13_Engine_cools_def (e0 : Option Addr) (Q : Value → WP) : hoardref13_Engine_cools e0 Q = funJ idJ Try.prog hoardref13_Engine_cools_kp Try.f79 [.pointer e0] Q := rfl
theorem hoardref13_Engine_cools_calls {e0 : Option Addr} {Q : Value → WP} {w : World} (h : hoardref13_Engine_cools e0 Q w) : Calls Try.prog id_hoardref13_Engine_cools #[.pointer e0] w fun e w' => ∃ v, e = .returned v ∧ Q v w' :=
  funJ_calls mixed Try.func79 rfl h

-- (*hoard/hoardref13.Engine).at
def hoardref13_Engine_at_kp : KP := ⟨[(7, [0, 1, 5]), (14, [])], []⟩
def hoardref13_Engine_at_j2 (jn : Jn) (Q : Value → WP)   : WP := jn 14 (fun ρ => codeI Try.prog hoardref13_Engine_at_kp jn (cAt [true, true] (bodyOf Try.f80)) (retK Try.prog Try.f80 Q) noX (retK Try.prog Try.f80 Q) ρ) (us 26 [])
def hoardref13_Engine_at_l1 (jn : Jn) (Q : Value → WP)  (m1 : Nat) (e0 : Option Addr) (key1 : ByteArray) (i5 : Int) : WP := lop Try.prog hoardref13_Engine_at_kp jn (cAt [true, false, true, false, false] (bodyOf Try.f80)) (blkX 0 (seqK Try.prog hoardref13_Engine_at_kp jn (cAt [true, true] (bodyOf Try.f80)) (retK Try.prog Try.f80 Q) noX (retK Try.prog Try.f80 Q)) noX) (retK Try.prog Try.f80 Q) m1 ((.pointer e0) :: (.string key1) :: us 3 ((.int .i64 i5) :: us 20 []))
def hoardref13_Engine_at (e0 : Option Addr) (key1 : ByteArray) (Q : Value → WP) : WP := funJ idJ Try.prog hoardref13_Engine_at_kp Try.f80 [.pointer e0, .string key1] Q
theorem hoardref13_Engine_at_j2_raw (jn : Jn) (Q : Value → WP)   : codeI Try.prog hoardref13_Engine_at_kp jn (cAt [true, true] (bodyOf Try.f80)) (retK Try.prog Try.f80 Q) noX (retK Try.prog Try.f80 Q) (us 26 []) = (
  Q (.int .i64 (-1 : Int))) := by kernel_rfl
theorem hoardref13_Engine_at_j2_def (Q : Value → WP)   : hoardref13_Engine_at_j2 idJ Q   = codeI Try.prog hoardref13_Engine_at_kp idJ (cAt [true, true] (bodyOf Try.f80)) (retK Try.prog Try.f80 Q) noX (retK Try.prog Try.f80 Q) (us 26 []) := by kernel_rfl
theorem hoardref13_Engine_at_l1_raw (jn : Jn) (Q : Value → WP)  (m1 : Nat) (e0 : Option Addr) (key1 : ByteArray) (i5 : Int) : hoardref13_Engine_at_l1 jn Q  (m1 + 1) e0 key1 i5 = (
  nilck e0 fun b_1 o_2 =>
  ld .slc b_1 o_2 fun (x_3 : Sl) =>
  ite2 (decide (i5 < (x_3.n : Int))) (
  nilck e0 fun b_4 o_5 =>
  ld .slc b_4 o_5 fun (x_6 : Sl) =>
  idx x_6.a x_6.n i5 fun b_7 o_8 =>
  ld .str b_7 (o_8 + (i5).toNat * 2) fun (x_9 : ByteArray) =>
  ite2 (sEq x_9 key1) (
  Q (.int .i64 i5)) (
  hoardref13_Engine_at_l1 jn Q  m1 e0 key1 (IntKind.wrap .i64 (i5 + (1 : Int))))) (
  hoardref13_Engine_at_j2 jn Q  )) := by kernel_rfl
theorem hoardref13_Engine_at_l1_zero (jn : Jn) (Q : Value → WP)  (e0 : Option Addr) (key1 : ByteArray) (i5 : Int) : hoardref13_Engine_at_l1 jn Q  0 e0 key1 i5 = bot := by kernel_rfl
theorem hoardref13_Engine_at_raw (jn : Jn) (e0 : Option Addr) (key1 : ByteArray) (Q : Value → WP) : funJ jn Try.prog hoardref13_Engine_at_kp Try.f80 [.pointer e0, .string key1] Q = (
  exM fun m => hoardref13_Engine_at_l1 jn Q  m e0 key1 (0 : Int)) := by kernel_rfl
theorem hoardref13_Engine_at_def (e0 : Option Addr) (key1 : ByteArray) (Q : Value → WP) : hoardref13_Engine_at e0 key1 Q = funJ idJ Try.prog hoardref13_Engine_at_kp Try.f80 [.pointer e0, .string key1] Q := rfl
theorem hoardref13_Engine_at_calls {e0 : Option Addr} {key1 : ByteArray} {Q : Value → WP} {w : World} (h : hoardref13_Engine_at e0 key1 Q w) : Calls Try.prog id_hoardref13_Engine_at #[.pointer e0, .string key1] w fun e w' => ∃ v, e = .returned v ∧ Q v w' :=
  funJ_calls mixed Try.func80 rfl h

-- (*hoard/hoardref13.Engine).inQ
def hoardref13_Engine_inQ_kp : KP := ⟨[(7, [0, 1, 5]), (14, [])], []⟩
def hoardref13_Engine_inQ_j2 (jn : Jn) (Q : Value → WP)   : WP := jn 14 (fun ρ => codeI Try.prog hoardref13_Engine_inQ_kp jn (cAt [true, true] (bodyOf Try.f81)) (retK Try.prog Try.f81 Q) noX (retK Try.prog Try.f81 Q) ρ) (us 24 [])
def hoardref13_Engine_inQ_l1 (jn : Jn) (Q : Value → WP)  (m1 : Nat) (e0 : Option Addr) (key1 : ByteArray) (i5 : Int) : WP := lop Try.prog hoardref13_Engine_inQ_kp jn (cAt [true, false, true, false, false] (bodyOf Try.f81)) (blkX 0 (seqK Try.prog hoardref13_Engine_inQ_kp jn (cAt [true, true] (bodyOf Try.f81)) (retK Try.prog Try.f81 Q) noX (retK Try.prog Try.f81 Q)) noX) (retK Try.prog Try.f81 Q) m1 ((.pointer e0) :: (.string key1) :: us 3 ((.int .i64 i5) :: us 18 []))
def hoardref13_Engine_inQ (e0 : Option Addr) (key1 : ByteArray) (Q : Value → WP) : WP := funJ idJ Try.prog hoardref13_Engine_inQ_kp Try.f81 [.pointer e0, .string key1] Q
theorem hoardref13_Engine_inQ_j2_raw (jn : Jn) (Q : Value → WP)   : codeI Try.prog hoardref13_Engine_inQ_kp jn (cAt [true, true] (bodyOf Try.f81)) (retK Try.prog Try.f81 Q) noX (retK Try.prog Try.f81 Q) (us 24 []) = (
  Q (.bool false)) := by kernel_rfl
theorem hoardref13_Engine_inQ_j2_def (Q : Value → WP)   : hoardref13_Engine_inQ_j2 idJ Q   = codeI Try.prog hoardref13_Engine_inQ_kp idJ (cAt [true, true] (bodyOf Try.f81)) (retK Try.prog Try.f81 Q) noX (retK Try.prog Try.f81 Q) (us 24 []) := by kernel_rfl
theorem hoardref13_Engine_inQ_l1_raw (jn : Jn) (Q : Value → WP)  (m1 : Nat) (e0 : Option Addr) (key1 : ByteArray) (i5 : Int) : hoardref13_Engine_inQ_l1 jn Q  (m1 + 1) e0 key1 i5 = (
  nilck e0 fun b_1 o_2 =>
  ld .slc b_1 (o_2 + 1) fun (x_3 : Sl) =>
  ite2 (decide (i5 < (x_3.n : Int))) (
  nilck e0 fun b_4 o_5 =>
  ld .slc b_4 (o_5 + 1) fun (x_6 : Sl) =>
  idx x_6.a x_6.n i5 fun b_7 o_8 =>
  ld .str b_7 (o_8 + (i5).toNat * 1) fun (x_9 : ByteArray) =>
  ite2 (sEq x_9 key1) (
  Q (.bool true)) (
  hoardref13_Engine_inQ_l1 jn Q  m1 e0 key1 (IntKind.wrap .i64 (i5 + (1 : Int))))) (
  hoardref13_Engine_inQ_j2 jn Q  )) := by kernel_rfl
theorem hoardref13_Engine_inQ_l1_zero (jn : Jn) (Q : Value → WP)  (e0 : Option Addr) (key1 : ByteArray) (i5 : Int) : hoardref13_Engine_inQ_l1 jn Q  0 e0 key1 i5 = bot := by kernel_rfl
theorem hoardref13_Engine_inQ_raw (jn : Jn) (e0 : Option Addr) (key1 : ByteArray) (Q : Value → WP) : funJ jn Try.prog hoardref13_Engine_inQ_kp Try.f81 [.pointer e0, .string key1] Q = (
  exM fun m => hoardref13_Engine_inQ_l1 jn Q  m e0 key1 (0 : Int)) := by kernel_rfl
theorem hoardref13_Engine_inQ_def (e0 : Option Addr) (key1 : ByteArray) (Q : Value → WP) : hoardref13_Engine_inQ e0 key1 Q = funJ idJ Try.prog hoardref13_Engine_inQ_kp Try.f81 [.pointer e0, .string key1] Q := rfl
theorem hoardref13_Engine_inQ_calls {e0 : Option Addr} {key1 : ByteArray} {Q : Value → WP} {w : World} (h : hoardref13_Engine_inQ e0 key1 Q w) : Calls Try.prog id_hoardref13_Engine_inQ #[.pointer e0, .string key1] w fun e w' => ∃ v, e = .returned v ∧ Q v w' :=
  funJ_calls mixed Try.func81 rfl h

-- (*hoard/list.List[string]).has
def list_List_string_has_kp : KP := ⟨[], []⟩
def list_List_string_has (l0 : Option Addr) (h1 : Int) (Q : Value → WP) : WP := funJ idJ Try.prog list_List_string_has_kp Try.f82 [.pointer l0, .int .i64 h1] Q
theorem list_List_string_has_raw (jn : Jn) (l0 : Option Addr) (h1 : Int) (Q : Value → WP) : funJ jn Try.prog list_List_string_has_kp Try.f82 [.pointer l0, .int .i64 h1] Q = (
  ite2 (!Option.isNone l0) (
  ite2 (decide (h1 > (0 : Int))) (
  nilck l0 fun b_1 o_2 =>
  ld .slc b_1 o_2 fun (x_3 : Sl) =>
  ite2 (decide (h1 < (x_3.n : Int))) (
  nilck l0 fun b_4 o_5 =>
  ld .slc b_4 o_5 fun (x_6 : Sl) =>
  idx x_6.a x_6.n h1 fun b_7 o_8 =>
  ld .bool b_7 ((o_8 + (h1).toNat * 4) + 3) fun (x_9 : Bool) =>
  Q (.bool x_9)) (
  Q (.bool false))) (
  Q (.bool false))) (
  Q (.bool false))) := by kernel_rfl
theorem list_List_string_has_def (l0 : Option Addr) (h1 : Int) (Q : Value → WP) : list_List_string_has l0 h1 Q = funJ idJ Try.prog list_List_string_has_kp Try.f82 [.pointer l0, .int .i64 h1] Q := rfl
theorem list_List_string_has_calls {l0 : Option Addr} {h1 : Int} {Q : Value → WP} {w : World} (h : list_List_string_has l0 h1 Q w) : Calls Try.prog id_list_List_string_has #[.pointer l0, .int .i64 h1] w fun e w' => ∃ v, e = .returned v ∧ Q v w' :=
  funJ_calls mixed Try.func82 rfl h

-- (*hoard/lirs.Engine).counts
def lirs_Engine_counts_kp : KP := ⟨[], []⟩
def lirs_Engine_counts (e0 : Option Addr) (is1 : Int) (by2 : Int) (Q : Value → WP) : WP := funJ idJ Try.prog lirs_Engine_counts_kp Try.f83 [.pointer e0, .int .i64 is1, .int .i64 by2] Q
theorem lirs_Engine_counts_raw (jn : Jn) (e0 : Option Addr) (is1 : Int) (by2 : Int) (Q : Value → WP) : funJ jn Try.prog lirs_Engine_counts_kp Try.f83 [.pointer e0, .int .i64 is1, .int .i64 by2] Q = (
  ite2 (is1 == (1 : Int)) (
  nilck e0 fun b_1 o_2 =>
  ld (.int .i64) b_1 (o_2 + 5) fun (x_3 : Int) =>
  nilck e0 fun b_4 o_5 =>
  st b_4 (o_5 + 5) (.int .i64 (IntKind.wrap .i64 (x_3 + by2))) <|
  Q (.tuple #[])) (
  ite2 (is1 == (3 : Int)) (
  nilck e0 fun b_6 o_7 =>
  ld (.int .i64) b_6 (o_7 + 6) fun (x_8 : Int) =>
  nilck e0 fun b_9 o_10 =>
  st b_9 (o_10 + 6) (.int .i64 (IntKind.wrap .i64 (x_8 + by2))) <|
  Q (.tuple #[])) (
  Q (.tuple #[])))) := by kernel_rfl
theorem lirs_Engine_counts_def (e0 : Option Addr) (is1 : Int) (by2 : Int) (Q : Value → WP) : lirs_Engine_counts e0 is1 by2 Q = funJ idJ Try.prog lirs_Engine_counts_kp Try.f83 [.pointer e0, .int .i64 is1, .int .i64 by2] Q := rfl
theorem lirs_Engine_counts_calls {e0 : Option Addr} {is1 : Int} {by2 : Int} {Q : Value → WP} {w : World} (h : lirs_Engine_counts e0 is1 by2 Q w) : Calls Try.prog id_lirs_Engine_counts #[.pointer e0, .int .i64 is1, .int .i64 by2] w fun e w' => ∃ v, e = .returned v ∧ Q v w' :=
  funJ_calls mixed Try.func83 rfl h

-- (*hoard/index.Index[hoard/lirs.entry]).Delete
def index_Index_lirs_entry_Delete_kp : KP := ⟨[], []⟩
def index_Index_lirs_entry_Delete (x0 : Option Addr) (key1 : ByteArray) (Q : Value → WP) : WP := funJ idJ Try.prog index_Index_lirs_entry_Delete_kp Try.f84 [.pointer x0, .string key1] Q
theorem index_Index_lirs_entry_Delete_raw (jn : Jn) (x0 : Option Addr) (key1 : ByteArray) (Q : Value → WP) : funJ jn Try.prog index_Index_lirs_entry_Delete_kp Try.f84 [.pointer x0, .string key1] Q = (
  newB [.int .i64 (0 : Int), .int .i64 (0 : Int), .int .i64 (0 : Int)] ty_lirs_entry fun b_1 =>
  fun w => Calls Try.prog id_index_Index_lirs_entry_Get #[.pointer x0, .string key1] w fun e w' => ∃ x_2 : Int, ∃ x_3 : Int, ∃ x_4 : Int, ∃ x_5 : Bool, e = .returned (.tuple #[.agg #[.int .i64 x_2, .int .i64 x_3, .int .i64 x_4], .bool x_5]) ∧ (
  newB [.int .i64 (0 : Int), .int .i64 (0 : Int), .int .i64 (0 : Int)] ty_lirs_entry fun b_6 =>
  st b_6 0 (.int .i64 x_2) <|
  st b_6 1 (.int .i64 x_3) <|
  st b_6 2 (.int .i64 x_4) <|
  ite2 x_5 (
  call2 (.int .i64) .bool Try.prog id_index_Index_lirs_entry_find [.pointer x0, .string key1] fun (x_7 : Int) (x_8 : Bool) =>
  nilck x0 fun b_9 o_10 =>
  ld .slc b_9 (o_10 + 1) fun (x_11 : Sl) =>
  idx x_11.a x_11.n x_7 fun b_12 o_13 =>
  st b_12 (o_13 + (x_7).toNat * 5) (.int .i64 (1 : Int)) <|
  st b_12 ((o_13 + (x_7).toNat * 5) + 1) (.string str_empty) <|
  st b_12 (((o_13 + (x_7).toNat * 5) + 1) + 1) (.int .i64 (0 : Int)) <|
  st b_12 ((((o_13 + (x_7).toNat * 5) + 1) + 1) + 1) (.int .i64 (0 : Int)) <|
  st b_12 (((((o_13 + (x_7).toNat * 5) + 1) + 1) + 1) + 1) (.int .i64 (0 : Int)) <|
  nilck x0 fun b_14 o_15 =>
  ld (.int .i64) b_14 (o_15 + 2) fun (x_16 : Int) =>
  nilck x0 fun b_17 o_18 =>
  st b_17 (o_18 + 2) (.int .i64 (IntKind.wrap .i64 (x_16 - (1 : Int)))) <|
  ld (.int .i64) b_6 0 fun (x_19 : Int) =>
  ld (.int .i64) b_6 1 fun (x_20 : Int) =>
  ld (.int .i64) b_6 2 fun (x_21 : Int) =>
  st b_1 0 (.int .i64 x_19) <|
  st b_1 1 (.int .i64 x_20) <|
  st b_1 2 (.int .i64 x_21) <|
  ld (.int .i64) b_1 0 fun (x_22 : Int) =>
  ld (.int .i64) b_1 1 fun (x_23 : Int) =>
  ld (.int .i64) b_1 2 fun (x_24 : Int) =>
  Q (.tuple #[.agg #[.int .i64 x_22, .int .i64 x_23, .int .i64 x_24], .bool x_5])) (
  ld (.int .i64) b_6 0 fun (x_25 : Int) =>
  ld (.int .i64) b_6 1 fun (x_26 : Int) =>
  ld (.int .i64) b_6 2 fun (x_27 : Int) =>
  st b_1 0 (.int .i64 x_25) <|
  st b_1 1 (.int .i64 x_26) <|
  st b_1 2 (.int .i64 x_27) <|
  ld (.int .i64) b_1 0 fun (x_28 : Int) =>
  ld (.int .i64) b_1 1 fun (x_29 : Int) =>
  ld (.int .i64) b_1 2 fun (x_30 : Int) =>
  Q (.tuple #[.agg #[.int .i64 x_28, .int .i64 x_29, .int .i64 x_30], .bool x_5]))) w') := by kernel_rfl
theorem index_Index_lirs_entry_Delete_def (x0 : Option Addr) (key1 : ByteArray) (Q : Value → WP) : index_Index_lirs_entry_Delete x0 key1 Q = funJ idJ Try.prog index_Index_lirs_entry_Delete_kp Try.f84 [.pointer x0, .string key1] Q := rfl
theorem index_Index_lirs_entry_Delete_calls {x0 : Option Addr} {key1 : ByteArray} {Q : Value → WP} {w : World} (h : index_Index_lirs_entry_Delete x0 key1 Q w) : Calls Try.prog id_index_Index_lirs_entry_Delete #[.pointer x0, .string key1] w fun e w' => ∃ v, e = .returned v ∧ Q v w' :=
  funJ_calls mixed Try.func84 rfl h

-- (*hoard/index.Index[hoard/lirs.entry]).Put
def index_Index_lirs_entry_Put_kp : KP := ⟨[], [(5, [0, 1, 2, 3, 4, 6, 7]), (8, [0, 1, 2, 3, 4, 5, 6, 7, 9, 10])]⟩
def index_Index_lirs_entry_Put (x0 : Option Addr) (key1 : ByteArray) (v2_0 : Int) (v2_1 : Int) (v2_2 : Int) (Q : Value → WP) : WP := funJ idJ Try.prog index_Index_lirs_entry_Put_kp Try.f85 [.pointer x0, .string key1, .agg #[.int .i64 v2_0, .int .i64 v2_1, .int .i64 v2_2]] Q
theorem index_Index_lirs_entry_Put_raw (jn : Jn) (x0 : Option Addr) (key1 : ByteArray) (v2_0 : Int) (v2_1 : Int) (v2_2 : Int) (Q : Value → WP) : funJ jn Try.prog index_Index_lirs_entry_Put_kp Try.f85 [.pointer x0, .string key1, .agg #[.int .i64 v2_0, .int .i64 v2_1, .int .i64 v2_2]] Q = (
  newB [.int .i64 v2_0, .int .i64 v2_1, .int .i64 v2_2] ty_lirs_entry fun b_1 =>
  ite2 (Option.isNone x0) (
  Q (.bool false)) (
  call2 (.int .i64) .bool Try.prog id_index_Index_lirs_entry_find [.pointer x0, .string key1] fun (x_2 : Int) (x_3 : Bool) =>
  ite2 x_3 (
  drawW fun S =>
  nilck x0 fun b_4 o_5 =>
  ldS S .slc b_4 (o_5 + 1) fun (x_6 : Sl) =>
  ld (.int .i64) b_1 0 fun (x_7 : Int) =>
  ld (.int .i64) b_1 1 fun (x_8 : Int) =>
  ld (.int .i64) b_1 2 fun (x_9 : Int) =>
  keepS true S <|
  idx x_6.a x_6.n x_2 fun b_10 o_11 =>
  st b_10 ((o_11 + (x_2).toNat * 5) + 2) (.int .i64 x_7) <|
  st b_10 (((o_11 + (x_2).toNat * 5) + 2) + 1) (.int .i64 x_8) <|
  st b_10 ((((o_11 + (x_2).toNat * 5) + 2) + 1) + 1) (.int .i64 x_9) <|
  Q (.bool false)) (
  ld (.int .i64) b_1 0 fun (x_12 : Int) =>
  ld (.int .i64) b_1 1 fun (x_13 : Int) =>
  ld (.int .i64) b_1 2 fun (x_14 : Int) =>
  call0 Try.prog id_index_Index_lirs_entry_lays [.pointer x0, .int .i64 x_2, .string key1, .agg #[.int .i64 x_12, .int .i64 x_13, .int .i64 x_14]] <|
  drawW fun S =>
  nilck x0 fun b_15 o_16 =>
  ldS S (.int .i64) b_15 (o_16 + 3) fun (x_17 : Int) =>
  nilck x0 fun b_18 o_19 =>
  ld .slc b_18 (o_19 + 1) fun (x_20 : Sl) =>
  keepS true S <|
  ite2 (decide ((IntKind.wrap .i64 ((2 : Int) * x_17)) > (x_20.n : Int))) (
  call0 Try.prog id_index_Index_lirs_entry_grows [.pointer x0] <|
  Q (.bool true)) (
  Q (.bool true))))) := by kernel_rfl
theorem index_Index_lirs_entry_Put_def (x0 : Option Addr) (key1 : ByteArray) (v2_0 : Int) (v2_1 : Int) (v2_2 : Int) (Q : Value → WP) : index_Index_lirs_entry_Put x0 key1 v2_0 v2_1 v2_2 Q = funJ idJ Try.prog index_Index_lirs_entry_Put_kp Try.f85 [.pointer x0, .string key1, .agg #[.int .i64 v2_0, .int .i64 v2_1, .int .i64 v2_2]] Q := rfl
theorem index_Index_lirs_entry_Put_calls {x0 : Option Addr} {key1 : ByteArray} {v2_0 : Int} {v2_1 : Int} {v2_2 : Int} {Q : Value → WP} {w : World} (h : index_Index_lirs_entry_Put x0 key1 v2_0 v2_1 v2_2 Q w) : Calls Try.prog id_index_Index_lirs_entry_Put #[.pointer x0, .string key1, .agg #[.int .i64 v2_0, .int .i64 v2_1, .int .i64 v2_2]] w fun e w' => ∃ v, e = .returned v ∧ Q v w' :=
  funJ_calls mixed Try.func85 rfl h

-- (*hoard/list.List[string]).lifts
def list_List_string_lifts_kp : KP := ⟨[], [(0, [0, 1, 2, 3, 4, 5, 6, 7, 8, 9, 10, 12, 13, 14, 16, 17]), (1, [0, 1, 2, 3, 4, 5, 6, 7, 9, 10, 11, 12, 13, 15, 16])]⟩
def list_List_string_lifts (l0 : Option Addr) (h1 : Int) (Q : Value → WP) : WP := funJ idJ Try.prog list_List_string_lifts_kp Try.f86 [.pointer l0, .int .i64 h1] Q
theorem list_List_string_lifts_raw (jn : Jn) (l0 : Option Addr) (h1 : Int) (Q : Value → WP) : funJ jn Try.prog list_List_string_lifts_kp Try.f86 [.pointer l0, .int .i64 h1] Q = (
  drawW fun S =>
  nilck l0 fun b_1 o_2 =>
  ldS S .slc b_1 o_2 fun (x_3 : Sl) =>
  idx x_3.a x_3.n h1 fun b_4 o_5 =>
  ldS S (.int .i64) b_4 ((o_5 + (h1).toNat * 4) + 1) fun (x_6 : Int) =>
  nilck l0 fun b_7 o_8 =>
  ld .slc b_7 o_8 fun (x_9 : Sl) =>
  keepS true S <|
  idx x_9.a x_9.n h1 fun b_10 o_11 =>
  ld (.int .i64) b_10 ((o_11 + (h1).toNat * 4) + 2) fun (x_12 : Int) =>
  keepS true S <|
  drawW fun S =>
  nilck l0 fun b_13 o_14 =>
  ldS S .slc b_13 o_14 fun (x_15 : Sl) =>
  nilck l0 fun b_16 o_17 =>
  ld .slc b_16 o_17 fun (x_18 : Sl) =>
  keepS true S <|
  idx x_15.a x_15.n x_6 fun b_19 o_20 =>
  st b_19 ((o_20 + (x_6).toNat * 4) + 2) (.int .i64 x_12) <|
  idx x_18.a x_18.n x_12 fun b_21 o_22 =>
  st b_21 ((o_22 + (x_12).toNat * 4) + 1) (.int .i64 x_6) <|
  Q (.tuple #[])) := by kernel_rfl
theorem list_List_string_lifts_def (l0 : Option Addr) (h1 : Int) (Q : Value → WP) : list_List_string_lifts l0 h1 Q = funJ idJ Try.prog list_List_string_lifts_kp Try.f86 [.pointer l0, .int .i64 h1] Q := rfl
theorem list_List_string_lifts_calls {l0 : Option Addr} {h1 : Int} {Q : Value → WP} {w : World} (h : list_List_string_lifts l0 h1 Q w) : Calls Try.prog id_list_List_string_lifts #[.pointer l0, .int .i64 h1] w fun e w' => ∃ v, e = .returned v ∧ Q v w' :=
  funJ_calls mixed Try.func86 rfl h

-- hoard/mix.Place
def mix_Place_kp : KP := ⟨[], []⟩
def mix_Place (h0 : Int) (n1 : Int) (Q : Value → WP) : WP := funJ idJ Try.prog mix_Place_kp Try.f88 [.int .u64 h0, .int .i64 n1] Q
theorem mix_Place_raw (jn : Jn) (h0 : Int) (n1 : Int) (Q : Value → WP) : funJ jn Try.prog mix_Place_kp Try.f88 [.int .u64 h0, .int .i64 n1] Q = (
  ite2 (decide (n1 < (1 : Int))) (
  Q (.int .i64 (0 : Int))) (
  when ((IntKind.wrap .u64 n1) ≠ 0) <|
  Q (.int .i64 (IntKind.wrap .i64 (Int.tmod h0 (IntKind.wrap .u64 n1)))))) := by kernel_rfl
theorem mix_Place_def (h0 : Int) (n1 : Int) (Q : Value → WP) : mix_Place h0 n1 Q = funJ idJ Try.prog mix_Place_kp Try.f88 [.int .u64 h0, .int .i64 n1] Q := rfl
theorem mix_Place_calls {h0 : Int} {n1 : Int} {Q : Value → WP} {w : World} (h : mix_Place h0 n1 Q w) : Calls Try.prog id_mix_Place #[.int .u64 h0, .int .i64 n1] w fun e w' => ∃ v, e = .returned v ∧ Q v w' :=
  funJ_calls mixed Try.func88 rfl h

-- hoard/mix.Hash
def mix_Hash_kp : KP := ⟨[(9, [1, 5, 14, 15]), (16, [5])], []⟩
def mix_Hash_j2 (jn : Jn) (Q : Value → WP)  (h5 : Int) : WP := jn 16 (fun ρ => codeI Try.prog mix_Hash_kp jn (cAt [true, true, true] (bodyOf Try.f89)) (retK Try.prog Try.f89 Q) noX (retK Try.prog Try.f89 Q) ρ) (us 5 ((.int .u64 h5) :: us 22 []))
def mix_Hash_l1 (jn : Jn) (Q : Value → WP)  (m1 : Nat) (s1 : ByteArray) (h5 : Int) (t14 : Int) (t15 : Int) : WP := lop Try.prog mix_Hash_kp jn (cAt [true, true, false, true, false, false] (bodyOf Try.f89)) (blkX 0 (seqK Try.prog mix_Hash_kp jn (cAt [true, true, true] (bodyOf Try.f89)) (retK Try.prog Try.f89 Q) noX (retK Try.prog Try.f89 Q)) noX) (retK Try.prog Try.f89 Q) m1 (us 1 ((.string s1) :: us 3 ((.int .u64 h5) :: us 8 ((.int .i64 t14) :: (.int .i64 t15) :: us 12 []))))
def mix_Hash (seed0 : Int) (s1 : ByteArray) (Q : Value → WP) : WP := funJ idJ Try.prog mix_Hash_kp Try.f89 [.int .u64 seed0, .string s1] Q
theorem mix_Hash_j2_raw (jn : Jn) (Q : Value → WP)  (h5 : Int) : codeI Try.prog mix_Hash_kp jn (cAt [true, true, true] (bodyOf Try.f89)) (retK Try.prog Try.f89 Q) noX (retK Try.prog Try.f89 Q) (us 5 ((.int .u64 h5) :: us 22 [])) = (
  Q (.int .u64 h5)) := by kernel_rfl
theorem mix_Hash_j2_def (Q : Value → WP)  (h5 : Int) : mix_Hash_j2 idJ Q  h5 = codeI Try.prog mix_Hash_kp idJ (cAt [true, true, true] (bodyOf Try.f89)) (retK Try.prog Try.f89 Q) noX (retK Try.prog Try.f89 Q) (us 5 ((.int .u64 h5) :: us 22 [])) := by kernel_rfl
theorem mix_Hash_l1_raw (jn : Jn) (Q : Value → WP)  (m1 : Nat) (s1 : ByteArray) (h5 : Int) (t14 : Int) (t15 : Int) : mix_Hash_l1 jn Q  (m1 + 1) s1 h5 t14 t15 = (
  ite2 (decide (t15 < t14)) (
  when ((0 : Int) ≤ t15 ∧ t15 < (s1.size : Int)) <|
  call1 (.int .u64) Try.prog id_mix_Mix [.int .u64 (IntKind.wrap .u64 ((bits .xor .u64 h5 (IntKind.wrap .u64 (byteAt s1 (t15).toNat))) + (11400714819323198485 : Int)))] fun (x_2 : Int) =>
  mix_Hash_l1 jn Q  m1 s1 x_2 t14 (IntKind.wrap .i64 (t15 + (1 : Int)))) (
  mix_Hash_j2 jn Q  h5)) := by kernel_rfl
theorem mix_Hash_l1_zero (jn : Jn) (Q : Value → WP)  (s1 : ByteArray) (h5 : Int) (t14 : Int) (t15 : Int) : mix_Hash_l1 jn Q  0 s1 h5 t14 t15 = bot := by kernel_rfl
theorem mix_Hash_raw (jn : Jn) (seed0 : Int) (s1 : ByteArray) (Q : Value → WP) : funJ jn Try.prog mix_Hash_kp Try.f89 [.int .u64 seed0, .string s1] Q = (
  call1 (.int .u64) Try.prog id_mix_Mix [.int .u64 (bits .xor .u64 seed0 (IntKind.wrap .u64 (s1.size : Int)))] fun (x_1 : Int) =>
  exM fun m => mix_Hash_l1 jn Q  m s1 x_1 (s1.size : Int) (0 : Int)) := by kernel_rfl
theorem mix_Hash_def (seed0 : Int) (s1 : ByteArray) (Q : Value → WP) : mix_Hash seed0 s1 Q = funJ idJ Try.prog mix_Hash_kp Try.f89 [.int .u64 seed0, .string s1] Q := rfl
theorem mix_Hash_calls {seed0 : Int} {s1 : ByteArray} {Q : Value → WP} {w : World} (h : mix_Hash seed0 s1 Q w) : Calls Try.prog id_mix_Hash #[.int .u64 seed0, .string s1] w fun e w' => ∃ v, e = .returned v ∧ Q v w' :=
  funJ_calls mixed Try.func89 rfl h

-- (*hoard/list.List[string]).PushBack
def list_List_string_PushBack_kp : KP := ⟨[], []⟩
def list_List_string_PushBack (l0 : Option Addr) (v1 : ByteArray) (Q : Value → WP) : WP := funJ idJ Try.prog list_List_string_PushBack_kp Try.f90 [.pointer l0, .string v1] Q
theorem list_List_string_PushBack_raw (jn : Jn) (l0 : Option Addr) (v1 : ByteArray) (Q : Value → WP) : funJ jn Try.prog list_List_string_PushBack_kp Try.f90 [.pointer l0, .string v1] Q = (
  ite2 (Option.isNone l0) (
  Q (.int .i64 (0 : Int))) (
  call1 (.int .i64) Try.prog id_list_List_string_take [.pointer l0, .string v1] fun (x_1 : Int) =>
  nilck l0 fun b_2 o_3 =>
  ld .slc b_2 o_3 fun (x_4 : Sl) =>
  idx x_4.a x_4.n (0 : Int) fun b_5 o_6 =>
  ld (.int .i64) b_5 ((o_6 + ((0 : Int)).toNat * 4) + 1) fun (x_7 : Int) =>
  call0 Try.prog id_list_List_string_lays [.pointer l0, .int .i64 x_1, .int .i64 x_7, .int .i64 (0 : Int)] <|
  Q (.int .i64 x_1))) := by kernel_rfl
theorem list_List_string_PushBack_def (l0 : Option Addr) (v1 : ByteArray) (Q : Value → WP) : list_List_string_PushBack l0 v1 Q = funJ idJ Try.prog list_List_string_PushBack_kp Try.f90 [.pointer l0, .string v1] Q := rfl
theorem list_List_string_PushBack_calls {l0 : Option Addr} {v1 : ByteArray} {Q : Value → WP} {w : World} (h : list_List_string_PushBack l0 v1 Q w) : Calls Try.prog id_list_List_string_PushBack #[.pointer l0, .string v1] w fun e w' => ∃ v, e = .returned v ∧ Q v w' :=
  funJ_calls mixed Try.func90 rfl h

-- (*hoard/index.Index[hoard/lirs.entry]).lays
def index_Index_lirs_entry_lays_kp : KP := ⟨[(8, [0, 1, 2, 7])], [(3, [0, 1, 2, 3, 4, 5, 7, 8])]⟩
def index_Index_lirs_entry_lays_j1 (jn : Jn) (Q : Value → WP)  (x0 : Option Addr) (i1 : Int) (key2 : ByteArray) (v7_b : Nat) (v7_o : Nat) : WP := jn 8 (fun ρ => codeI Try.prog index_Index_lirs_entry_lays_kp jn (cAt [true, true] (bodyOf Try.f91)) (retK Try.prog Try.f91 Q) noX (retK Try.prog Try.f91 Q) ρ) ((.pointer x0) :: (.int .i64 i1) :: (.string key2) :: us 4 ((.pointer (some ⟨v7_b, v7_o, none⟩)) :: us 32 []))
def index_Index_lirs_entry_lays (x0 : Option Addr) (i1 : Int) (key2 : ByteArray) (v3_0 : Int) (v3_1 : Int) (v3_2 : Int) (Q : Value → WP) : WP := funJ idJ Try.prog index_Index_lirs_entry_lays_kp Try.f91 [.pointer x0, .int .i64 i1, .string key2, .agg #[.int .i64 v3_0, .int .i64 v3_1, .int .i64 v3_2]] Q
theorem index_Index_lirs_entry_lays_j1_raw (jn : Jn) (Q : Value → WP)  (x0 : Option Addr) (i1 : Int) (key2 : ByteArray) (v7_b : Nat) (v7_o : Nat) : codeI Try.prog index_Index_lirs_entry_lays_kp jn (cAt [true, true] (bodyOf Try.f91)) (retK Try.prog Try.f91 Q) noX (retK Try.prog Try.f91 Q) ((.pointer x0) :: (.int .i64 i1) :: (.string key2) :: us 4 ((.pointer (some ⟨v7_b, v7_o, none⟩)) :: us 32 [])) = (
  drawW fun S =>
  nilck x0 fun b_13 o_14 =>
  ldS S .slc b_13 (o_14 + 1) fun (x_15 : Sl) =>
  ld (.int .i64) v7_b v7_o fun (x_16 : Int) =>
  ld (.int .i64) v7_b (v7_o + 1) fun (x_17 : Int) =>
  ld (.int .i64) v7_b ((v7_o + 1) + 1) fun (x_18 : Int) =>
  keepS true S <|
  idx x_15.a x_15.n i1 fun b_19 o_20 =>
  st b_19 (o_20 + (i1).toNat * 5) (.int .i64 (2 : Int)) <|
  st b_19 ((o_20 + (i1).toNat * 5) + 1) (.string key2) <|
  st b_19 (((o_20 + (i1).toNat * 5) + 1) + 1) (.int .i64 x_16) <|
  st b_19 ((((o_20 + (i1).toNat * 5) + 1) + 1) + 1) (.int .i64 x_17) <|
  st b_19 (((((o_20 + (i1).toNat * 5) + 1) + 1) + 1) + 1) (.int .i64 x_18) <|
  nilck x0 fun b_21 o_22 =>
  ld (.int .i64) b_21 (o_22 + 2) fun (x_23 : Int) =>
  nilck x0 fun b_24 o_25 =>
  st b_24 (o_25 + 2) (.int .i64 (IntKind.wrap .i64 (x_23 + (1 : Int)))) <|
  Q (.tuple #[])) := by kernel_rfl
theorem index_Index_lirs_entry_lays_j1_def (Q : Value → WP)  (x0 : Option Addr) (i1 : Int) (key2 : ByteArray) (v7_b : Nat) (v7_o : Nat) : index_Index_lirs_entry_lays_j1 idJ Q  x0 i1 key2 v7_b v7_o = codeI Try.prog index_Index_lirs_entry_lays_kp idJ (cAt [true, true] (bodyOf Try.f91)) (retK Try.prog Try.f91 Q) noX (retK Try.prog Try.f91 Q) ((.pointer x0) :: (.int .i64 i1) :: (.string key2) :: us 4 ((.pointer (some ⟨v7_b, v7_o, none⟩)) :: us 32 [])) := by kernel_rfl
theorem index_Index_lirs_entry_lays_raw (jn : Jn) (x0 : Option Addr) (i1 : Int) (key2 : ByteArray) (v3_0 : Int) (v3_1 : Int) (v3_2 : Int) (Q : Value → WP) : funJ jn Try.prog index_Index_lirs_entry_lays_kp Try.f91 [.pointer x0, .int .i64 i1, .string key2, .agg #[.int .i64 v3_0, .int .i64 v3_1, .int .i64 v3_2]] Q = (
  newB [.int .i64 v3_0, .int .i64 v3_1, .int .i64 v3_2] ty_lirs_entry fun b_1 =>
  nilck x0 fun b_2 o_3 =>
  ld .slc b_2 (o_3 + 1) fun (x_4 : Sl) =>
  idx x_4.a x_4.n i1 fun b_5 o_6 =>
  ld (.int .i64) b_5 (o_6 + (i1).toNat * 5) fun (x_7 : Int) =>
  ite2 (x_7 == (0 : Int)) (
  nilck x0 fun b_8 o_9 =>
  ld (.int .i64) b_8 (o_9 + 3) fun (x_10 : Int) =>
  nilck x0 fun b_11 o_12 =>
  st b_11 (o_12 + 3) (.int .i64 (IntKind.wrap .i64 (x_10 + (1 : Int)))) <|
  index_Index_lirs_entry_lays_j1 jn Q  x0 i1 key2 b_1 0) (
  index_Index_lirs_entry_lays_j1 jn Q  x0 i1 key2 b_1 0)) := by kernel_rfl
theorem index_Index_lirs_entry_lays_def (x0 : Option Addr) (i1 : Int) (key2 : ByteArray) (v3_0 : Int) (v3_1 : Int) (v3_2 : Int) (Q : Value → WP) : index_Index_lirs_entry_lays x0 i1 key2 v3_0 v3_1 v3_2 Q = funJ idJ Try.prog index_Index_lirs_entry_lays_kp Try.f91 [.pointer x0, .int .i64 i1, .string key2, .agg #[.int .i64 v3_0, .int .i64 v3_1, .int .i64 v3_2]] Q := rfl
theorem index_Index_lirs_entry_lays_calls {x0 : Option Addr} {i1 : Int} {key2 : ByteArray} {v3_0 : Int} {v3_1 : Int} {v3_2 : Int} {Q : Value → WP} {w : World} (h : index_Index_lirs_entry_lays x0 i1 key2 v3_0 v3_1 v3_2 Q w) : Calls Try.prog id_index_Index_lirs_entry_lays #[.pointer x0, .int .i64 i1, .string key2, .agg #[.int .i64 v3_0, .int .i64 v3_1, .int .i64 v3_2]] w fun e w' => ∃ v, e = .returned v ∧ Q v w' :=
  funJ_calls mixed Try.func91 rfl h

-- (*hoard/index.Index[hoard/lirs.entry]).grows
def index_Index_lirs_entry_grows_kp : KP := ⟨[(9, [0, 28, 29, 30])], []⟩
def index_Index_lirs_entry_grows_l1 (jn : Jn) (Q : Value → WP)  (m1 : Nat) (x0 : Option Addr) (t28 : Sl) (t29 : Int) (t30 : Int) : WP := lop Try.prog index_Index_lirs_entry_grows_kp jn (cAt [true, true, true, false, false] (bodyOf Try.f92)) (blkX 0 (retK Try.prog Try.f92 Q) noX) (retK Try.prog Try.f92 Q) m1 ((.pointer x0) :: us 27 ((.slice t28.a t28.n t28.c) :: (.int .i64 t29) :: (.int .i64 t30) :: us 21 []))
def index_Index_lirs_entry_grows (x0 : Option Addr) (Q : Value → WP) : WP := funJ idJ Try.prog index_Index_lirs_entry_grows_kp Try.f92 [.pointer x0] Q
theorem index_Index_lirs_entry_grows_l1_raw (jn : Jn) (Q : Value → WP)  (m1 : Nat) (x0 : Option Addr) (t28 : Sl) (t29 : Int) (t30 : Int) : index_Index_lirs_entry_grows_l1 jn Q  (m1 + 1) x0 t28 t29 t30 = (
  ite2 (decide (t30 < t29)) (
  idx t28.a t28.n t30 fun b_14 o_15 =>
  ld (.int .i64) b_14 (o_15 + (t30).toNat * 5) fun (x_16 : Int) =>
  ld .str b_14 ((o_15 + (t30).toNat * 5) + 1) fun (x_17 : ByteArray) =>
  ld (.int .i64) b_14 (((o_15 + (t30).toNat * 5) + 1) + 1) fun (x_18 : Int) =>
  ld (.int .i64) b_14 ((((o_15 + (t30).toNat * 5) + 1) + 1) + 1) fun (x_19 : Int) =>
  ld (.int .i64) b_14 (((((o_15 + (t30).toNat * 5) + 1) + 1) + 1) + 1) fun (x_20 : Int) =>
  newB [.int .i64 (0 : Int), .string str_empty, .int .i64 (0 : Int), .int .i64 (0 : Int), .int .i64 (0 : Int)] ty_index_place_lirs_entry fun b_21 =>
  st b_21 0 (.int .i64 x_16) <|
  st b_21 1 (.string x_17) <|
  st b_21 2 (.int .i64 x_18) <|
  st b_21 3 (.int .i64 x_19) <|
  st b_21 4 (.int .i64 x_20) <|
  ld (.int .i64) b_21 0 fun (x_22 : Int) =>
  ite2 (x_22 == (2 : Int)) (
  ld .str b_21 1 fun (x_23 : ByteArray) =>
  call2 (.int .i64) .bool Try.prog id_index_Index_lirs_entry_find [.pointer x0, .string x_23] fun (x_24 : Int) (x_25 : Bool) =>
  ld .str b_21 1 fun (x_26 : ByteArray) =>
  ld (.int .i64) b_21 2 fun (x_27 : Int) =>
  ld (.int .i64) b_21 3 fun (x_28 : Int) =>
  ld (.int .i64) b_21 4 fun (x_29 : Int) =>
  call0 Try.prog id_index_Index_lirs_entry_lays [.pointer x0, .int .i64 x_24, .string x_26, .agg #[.int .i64 x_27, .int .i64 x_28, .int .i64 x_29]] <|
  index_Index_lirs_entry_grows_l1 jn Q  m1 x0 t28 t29 (IntKind.wrap .i64 (t30 + (1 : Int)))) (
  index_Index_lirs_entry_grows_l1 jn Q  m1 x0 t28 t29 (IntKind.wrap .i64 (t30 + (1 : Int))))) (
  Q (.tuple #[]))) := by kernel_rfl
theorem index_Index_lirs_entry_grows_l1_zero (jn : Jn) (Q : Value → WP)  (x0 : Option Addr) (t28 : Sl) (t29 : Int) (t30 : Int) : index_Index_lirs_entry_grows_l1 jn Q  0 x0 t28 t29 t30 = bot := by kernel_rfl
theorem index_Index_lirs_entry_grows_raw (jn : Jn) (x0 : Option Addr) (Q : Value → WP) : funJ jn Try.prog index_Index_lirs_entry_grows_kp Try.f92 [.pointer x0] Q = (
  nilck x0 fun b_1 o_2 =>
  ld .slc b_1 (o_2 + 1) fun (x_3 : Sl) =>
  nilck x0 fun b_4 o_5 =>
  ld (.int .i64) b_4 (o_5 + 2) fun (x_6 : Int) =>
  makeC ty_index_place_lirs_entry 48 [.int .i64 (0 : Int), .string str_empty, .int .i64 (0 : Int), .int .i64 (0 : Int), .int .i64 (0 : Int)] (if (IntKind.wrap .i64 ((4 : Int) * (IntKind.wrap .i64 (x_6 + (1 : Int))))) > (8 : Int) then (IntKind.wrap .i64 ((4 : Int) * (IntKind.wrap .i64 (x_6 + (1 : Int))))) else (8 : Int)) (if (IntKind.wrap .i64 ((4 : Int) * (IntKind.wrap .i64 (x_6 + (1 : Int))))) > (8 : Int) then (IntKind.wrap .i64 ((4 : Int) * (IntKind.wrap .i64 (x_6 + (1 : Int))))) else (8 : Int)) fun s_7 =>
  nilck x0 fun b_8 o_9 =>
  st b_8 (o_9 + 1) (.slice s_7.a s_7.n s_7.c) <|
  nilck x0 fun b_10 o_11 =>
  st b_10 (o_11 + 2) (.int .i64 (0 : Int)) <|
  nilck x0 fun b_12 o_13 =>
  st b_12 (o_13 + 3) (.int .i64 (0 : Int)) <|
  exM fun m => index_Index_lirs_entry_grows_l1 jn Q  m x0 x_3 (x_3.n : Int) (0 : Int)) := by kernel_rfl
theorem index_Index_lirs_entry_grows_def (x0 : Option Addr) (Q : Value → WP) : index_Index_lirs_entry_grows x0 Q = funJ idJ Try.prog index_Index_lirs_entry_grows_kp Try.f92 [.pointer x0] Q := rfl
theorem index_Index_lirs_entry_grows_calls {x0 : Option Addr} {Q : Value → WP} {w : World} (h : index_Index_lirs_entry_grows x0 Q w) : Calls Try.prog id_index_Index_lirs_entry_grows #[.pointer x0] w fun e w' => ∃ v, e = .returned v ∧ Q v w' :=
  funJ_calls mixed Try.func92 rfl h

-- hoard/mix.Mix
def mix_Mix_kp : KP := ⟨[], []⟩
def mix_Mix (x0 : Int) (Q : Value → WP) : WP := funJ idJ Try.prog mix_Mix_kp Try.f94 [.int .u64 x0] Q
theorem mix_Mix_raw (jn : Jn) (x0 : Int) (Q : Value → WP) : funJ jn Try.prog mix_Mix_kp Try.f94 [.int .u64 x0] Q = (
  when ((0 : Int) ≤ (30 : Int)) <|
  when ((0 : Int) ≤ (27 : Int)) <|
  when ((0 : Int) ≤ (31 : Int)) <|
  Q (.int .u64 (bits .xor .u64 (IntKind.wrap .u64 ((bits .xor .u64 (IntKind.wrap .u64 ((bits .xor .u64 x0 (shrV .u64 x0 (30 : Int))) * (13787848793156543929 : Int))) (shrV .u64 (IntKind.wrap .u64 ((bits .xor .u64 x0 (shrV .u64 x0 (30 : Int))) * (13787848793156543929 : Int))) (27 : Int))) * (10723151780598845931 : Int))) (shrV .u64 (IntKind.wrap .u64 ((bits .xor .u64 (IntKind.wrap .u64 ((bits .xor .u64 x0 (shrV .u64 x0 (30 : Int))) * (13787848793156543929 : Int))) (shrV .u64 (IntKind.wrap .u64 ((bits .xor .u64 x0 (shrV .u64 x0 (30 : Int))) * (13787848793156543929 : Int))) (27 : Int))) * (10723151780598845931 : Int))) (31 : Int))))) := by kernel_rfl
theorem mix_Mix_def (x0 : Int) (Q : Value → WP) : mix_Mix x0 Q = funJ idJ Try.prog mix_Mix_kp Try.f94 [.int .u64 x0] Q := rfl
theorem mix_Mix_calls {x0 : Int} {Q : Value → WP} {w : World} (h : mix_Mix x0 Q w) : Calls Try.prog id_mix_Mix #[.int .u64 x0] w fun e w' => ∃ v, e = .returned v ∧ Q v w' :=
  funJ_calls mixed Try.func94 rfl h

-- (*hoard/list.List[string]).take
def list_List_string_take_kp : KP := ⟨[(16, [0, 1, 5])], []⟩
def list_List_string_take_j1 (jn : Jn) (Q : Value → WP)  (l0 : Option Addr) (v1 : ByteArray) (h5 : Int) : WP := jn 16 (fun ρ => codeI Try.prog list_List_string_take_kp jn (cAt [true, true, true] (bodyOf Try.f95)) (retK Try.prog Try.f95 Q) noX (retK Try.prog Try.f95 Q) ρ) ((.pointer l0) :: (.string v1) :: us 3 ((.int .i64 h5) :: us 57 []))
def list_List_string_take (l0 : Option Addr) (v1 : ByteArray) (Q : Value → WP) : WP := funJ idJ Try.prog list_List_string_take_kp Try.f95 [.pointer l0, .string v1] Q
theorem list_List_string_take_j1_raw (jn : Jn) (Q : Value → WP)  (l0 : Option Addr) (v1 : ByteArray) (h5 : Int) : codeI Try.prog list_List_string_take_kp jn (cAt [true, true, true] (bodyOf Try.f95)) (retK Try.prog Try.f95 Q) noX (retK Try.prog Try.f95 Q) ((.pointer l0) :: (.string v1) :: us 3 ((.int .i64 h5) :: us 57 [])) = (
  nilck l0 fun b_18 o_19 =>
  ld .slc b_18 o_19 fun (x_20 : Sl) =>
  idx x_20.a x_20.n h5 fun b_21 o_22 =>
  st b_21 (o_22 + (h5).toNat * 4) (.string v1) <|
  st b_21 ((o_22 + (h5).toNat * 4) + 1) (.int .i64 (0 : Int)) <|
  st b_21 (((o_22 + (h5).toNat * 4) + 1) + 1) (.int .i64 (0 : Int)) <|
  st b_21 ((((o_22 + (h5).toNat * 4) + 1) + 1) + 1) (.bool true) <|
  nilck l0 fun b_23 o_24 =>
  ld (.int .i64) b_23 (o_24 + 2) fun (x_25 : Int) =>
  nilck l0 fun b_26 o_27 =>
  st b_26 (o_27 + 2) (.int .i64 (IntKind.wrap .i64 (x_25 + (1 : Int)))) <|
  Q (.int .i64 h5)) := by kernel_rfl
theorem list_List_string_take_j1_def (Q : Value → WP)  (l0 : Option Addr) (v1 : ByteArray) (h5 : Int) : list_List_string_take_j1 idJ Q  l0 v1 h5 = codeI Try.prog list_List_string_take_kp idJ (cAt [true, true, true] (bodyOf Try.f95)) (retK Try.prog Try.f95 Q) noX (retK Try.prog Try.f95 Q) ((.pointer l0) :: (.string v1) :: us 3 ((.int .i64 h5) :: us 57 [])) := by kernel_rfl
theorem list_List_string_take_raw (jn : Jn) (l0 : Option Addr) (v1 : ByteArray) (Q : Value → WP) : funJ jn Try.prog list_List_string_take_kp Try.f95 [.pointer l0, .string v1] Q = (
  nilck l0 fun b_1 o_2 =>
  ld .slc b_1 o_2 fun (x_3 : Sl) =>
  nilck l0 fun b_4 o_5 =>
  ld .slc b_4 (o_5 + 1) fun (x_6 : Sl) =>
  ite2 (decide ((x_6.n : Int) > (0 : Int))) (
  nilck l0 fun b_7 o_8 =>
  ld .slc b_7 (o_8 + 1) fun (x_9 : Sl) =>
  idx x_9.a x_9.n (IntKind.wrap .i64 ((x_6.n : Int) - (1 : Int))) fun b_10 o_11 =>
  ld (.int .i64) b_10 (o_11 + ((IntKind.wrap .i64 ((x_6.n : Int) - (1 : Int)))).toNat * 1) fun (x_12 : Int) =>
  nilck l0 fun b_13 o_14 =>
  ld .slc b_13 (o_14 + 1) fun (x_15 : Sl) =>
  when ((0 : Int) ≤ (IntKind.wrap .i64 ((x_6.n : Int) - (1 : Int))) ∧ (IntKind.wrap .i64 ((x_6.n : Int) - (1 : Int))) ≤ (x_15.c : Int)) <|
  nilck l0 fun b_16 o_17 =>
  st b_16 (o_17 + 1) (.slice (subA x_15.a 0 x_15.c 1) (((IntKind.wrap .i64 ((x_6.n : Int) - (1 : Int)))).toNat - 0) (x_15.c - 0)) <|
  list_List_string_take_j1 jn Q  l0 v1 x_12) (
  nilck l0 fun b_28 o_29 =>
  ld .slc b_28 o_29 fun (x_30 : Sl) =>
  newB [.string str_empty, .int .i64 (0 : Int), .int .i64 (0 : Int), .bool false] ty_list_link_string fun b_31 =>
  appendC ty_list_link_string 4 40 [.string str_empty, .int .i64 (0 : Int), .int .i64 (0 : Int), .bool false] ⟨x_30.a, x_30.n, x_30.c⟩ 1 (fun w => rdA w (some ⟨b_31, 0, none⟩) (1 * 4)) fun s_32 =>
  nilck l0 fun b_33 o_34 =>
  st b_33 o_34 (.slice s_32.a s_32.n s_32.c) <|
  list_List_string_take_j1 jn Q  l0 v1 (x_3.n : Int))) := by kernel_rfl
theorem list_List_string_take_def (l0 : Option Addr) (v1 : ByteArray) (Q : Value → WP) : list_List_string_take l0 v1 Q = funJ idJ Try.prog list_List_string_take_kp Try.f95 [.pointer l0, .string v1] Q := rfl
theorem list_List_string_take_calls {l0 : Option Addr} {v1 : ByteArray} {Q : Value → WP} {w : World} (h : list_List_string_take l0 v1 Q w) : Calls Try.prog id_list_List_string_take #[.pointer l0, .string v1] w fun e w' => ∃ v, e = .returned v ∧ Q v w' :=
  funJ_calls mixed Try.func95 rfl h

-- (*hoard/list.List[string]).lays
def list_List_string_lays_kp : KP := ⟨[], [(0, [0, 1, 2, 3, 4, 5, 6, 7, 9, 10, 11, 12, 13, 15, 16]), (1, [0, 1, 2, 3, 4, 5, 6, 7, 9, 10, 11, 12, 13, 15, 16])]⟩
def list_List_string_lays (l0 : Option Addr) (h1 : Int) (prev2 : Int) (next3 : Int) (Q : Value → WP) : WP := funJ idJ Try.prog list_List_string_lays_kp Try.f96 [.pointer l0, .int .i64 h1, .int .i64 prev2, .int .i64 next3] Q
theorem list_List_string_lays_raw (jn : Jn) (l0 : Option Addr) (h1 : Int) (prev2 : Int) (next3 : Int) (Q : Value → WP) : funJ jn Try.prog list_List_string_lays_kp Try.f96 [.pointer l0, .int .i64 h1, .int .i64 prev2, .int .i64 next3] Q = (
  drawW fun S =>
  nilck l0 fun b_1 o_2 =>
  ldS S .slc b_1 o_2 fun (x_3 : Sl) =>
  nilck l0 fun b_4 o_5 =>
  ld .slc b_4 o_5 fun (x_6 : Sl) =>
  keepS true S <|
  idx x_3.a x_3.n h1 fun b_7 o_8 =>
  st b_7 ((o_8 + (h1).toNat * 4) + 1) (.int .i64 prev2) <|
  idx x_6.a x_6.n h1 fun b_9 o_10 =>
  st b_9 ((o_10 + (h1).toNat * 4) + 2) (.int .i64 next3) <|
  drawW fun S =>
  nilck l0 fun b_11 o_12 =>
  ldS S .slc b_11 o_12 fun (x_13 : Sl) =>
  nilck l0 fun b_14 o_15 =>
  ld .slc b_14 o_15 fun (x_16 : Sl) =>
  keepS true S <|
  idx x_13.a x_13.n prev2 fun b_17 o_18 =>
  st b_17 ((o_18 + (prev2).toNat * 4) + 2) (.int .i64 h1) <|
  idx x_16.a x_16.n next3 fun b_19 o_20 =>
  st b_19 ((o_20 + (next3).toNat * 4) + 1) (.int .i64 h1) <|
  Q (.tuple #[])) := by kernel_rfl
theorem list_List_string_lays_def (l0 : Option Addr) (h1 : Int) (prev2 : Int) (next3 : Int) (Q : Value → WP) : list_List_string_lays l0 h1 prev2 next3 Q = funJ idJ Try.prog list_List_string_lays_kp Try.f96 [.pointer l0, .int .i64 h1, .int .i64 prev2, .int .i64 next3] Q := rfl
theorem list_List_string_lays_calls {l0 : Option Addr} {h1 : Int} {prev2 : Int} {next3 : Int} {Q : Value → WP} {w : World} (h : list_List_string_lays l0 h1 prev2 next3 Q w) : Calls Try.prog id_list_List_string_lays #[.pointer l0, .int .i64 h1, .int .i64 prev2, .int .i64 next3] w fun e w' => ∃ v, e = .returned v ∧ Q v w' :=
  funJ_calls mixed Try.func96 rfl h

end Go.Proofs.Ytgmhoenmhnlojaa
