/- Printed by a program of mine (wip/tools/shal.py): the shallow texts of the loaded functions, each equal to the interpreter's reading by the kernel. -/
import Derived.Test.YtnmlaenfaiacfaaShal
set_option linter.unusedVariables false
set_option maxRecDepth 100000
namespace Go.Proofs.Ytnmlaenfaiacfaa
open Go.Hb

-- hoard/hoardlaw27.JudgeSees
def hoardlaw27_JudgeSees_kp : KP := ⟨[(8, [0, 1, 2, 3]), (17, [2, 3, 9, 10, 11]), (20, [2, 3, 9, 10, 11]), (24, [2, 3, 9, 10, 11]), (32, [])], [(9, [0, 1, 2, 3, 4, 5, 6, 7, 8, 10, 11, 12, 13, 14, 15, 16, 17, 18, 20, 21, 22, 24, 25, 26, 28, 29]), (12, [0, 1, 2, 3, 4, 5, 6, 7, 8, 9, 10, 11, 14, 15, 16, 17, 18])]⟩
def hoardlaw27_JudgeSees_j4 (jn : Jn) (Q : Value → WP) (m2 : Nat) (l2 : Sl) (r3 : Sl) (j9 : Option Addr) (x10 : Option Addr) (i11 : Int) : WP := jn 24 (fun ρ => codeI Try.prog hoardlaw27_JudgeSees_kp jn (cAt [true, true, true, true, false, true, false, false, true, false, false, true] (bodyOf Try.f4)) (seqK Try.prog hoardlaw27_JudgeSees_kp jn (cAt [true, true, true, true, false, true, false, false, true, true] (bodyOf Try.f4)) (lopK Try.prog hoardlaw27_JudgeSees_kp jn (cAt [true, true, true, true, false, true, false, false] (bodyOf Try.f4)) (blkX 0 (seqK Try.prog hoardlaw27_JudgeSees_kp jn (cAt [true, true, true, true, true] (bodyOf Try.f4)) (retK Try.prog Try.f4 Q) noX (retK Try.prog Try.f4 Q)) noX) (retK Try.prog Try.f4 Q) m2) (blkX 0 (seqK Try.prog hoardlaw27_JudgeSees_kp jn (cAt [true, true, true, true, true] (bodyOf Try.f4)) (retK Try.prog Try.f4 Q) noX (retK Try.prog Try.f4 Q)) noX) (retK Try.prog Try.f4 Q)) (blkX 1 (seqK Try.prog hoardlaw27_JudgeSees_kp jn (cAt [true, true, true, true, false, true, false, false, true, true] (bodyOf Try.f4)) (lopK Try.prog hoardlaw27_JudgeSees_kp jn (cAt [true, true, true, true, false, true, false, false] (bodyOf Try.f4)) (blkX 0 (seqK Try.prog hoardlaw27_JudgeSees_kp jn (cAt [true, true, true, true, true] (bodyOf Try.f4)) (retK Try.prog Try.f4 Q) noX (retK Try.prog Try.f4 Q)) noX) (retK Try.prog Try.f4 Q) m2) (blkX 0 (seqK Try.prog hoardlaw27_JudgeSees_kp jn (cAt [true, true, true, true, true] (bodyOf Try.f4)) (retK Try.prog Try.f4 Q) noX (retK Try.prog Try.f4 Q)) noX) (retK Try.prog Try.f4 Q)) (blkX 0 (seqK Try.prog hoardlaw27_JudgeSees_kp jn (cAt [true, true, true, true, true] (bodyOf Try.f4)) (retK Try.prog Try.f4 Q) noX (retK Try.prog Try.f4 Q)) noX)) (retK Try.prog Try.f4 Q) ρ) (us 2 ((.slice l2.a l2.n l2.c) :: (.slice r3.a r3.n r3.c) :: us 5 ((.pointer j9) :: (.pointer x10) :: (.int .i64 i11) :: us 100 [])))
def hoardlaw27_JudgeSees_j3 (jn : Jn) (Q : Value → WP) (m2 : Nat) (l2 : Sl) (r3 : Sl) (j9 : Option Addr) (x10 : Option Addr) (i11 : Int) : WP := jn 20 (fun ρ => codeI Try.prog hoardlaw27_JudgeSees_kp jn (cAt [true, true, true, true, false, true, false, false, true] (bodyOf Try.f4)) (lopK Try.prog hoardlaw27_JudgeSees_kp jn (cAt [true, true, true, true, false, true, false, false] (bodyOf Try.f4)) (blkX 0 (seqK Try.prog hoardlaw27_JudgeSees_kp jn (cAt [true, true, true, true, true] (bodyOf Try.f4)) (retK Try.prog Try.f4 Q) noX (retK Try.prog Try.f4 Q)) noX) (retK Try.prog Try.f4 Q) m2) (blkX 0 (seqK Try.prog hoardlaw27_JudgeSees_kp jn (cAt [true, true, true, true, true] (bodyOf Try.f4)) (retK Try.prog Try.f4 Q) noX (retK Try.prog Try.f4 Q)) noX) (retK Try.prog Try.f4 Q) ρ) (us 2 ((.slice l2.a l2.n l2.c) :: (.slice r3.a r3.n r3.c) :: us 5 ((.pointer j9) :: (.pointer x10) :: (.int .i64 i11) :: us 100 [])))
def hoardlaw27_JudgeSees_j5 (jn : Jn) (Q : Value → WP)   : WP := jn 32 (fun ρ => codeI Try.prog hoardlaw27_JudgeSees_kp jn (cAt [true, true, true, true, true] (bodyOf Try.f4)) (retK Try.prog Try.f4 Q) noX (retK Try.prog Try.f4 Q) ρ) (us 112 [])
def hoardlaw27_JudgeSees_l2 (jn : Jn) (Q : Value → WP)  (m2 : Nat) (l2 : Sl) (r3 : Sl) (j9 : Option Addr) (x10 : Option Addr) (i11 : Int) : WP := lop Try.prog hoardlaw27_JudgeSees_kp jn (cAt [true, true, true, true, false, true, false, false] (bodyOf Try.f4)) (blkX 0 (seqK Try.prog hoardlaw27_JudgeSees_kp jn (cAt [true, true, true, true, true] (bodyOf Try.f4)) (retK Try.prog Try.f4 Q) noX (retK Try.prog Try.f4 Q)) noX) (retK Try.prog Try.f4 Q) m2 (us 2 ((.slice l2.a l2.n l2.c) :: (.slice r3.a r3.n r3.c) :: us 5 ((.pointer j9) :: (.pointer x10) :: (.int .i64 i11) :: us 100 [])))
def hoardlaw27_JudgeSees_j1 (jn : Jn) (Q : Value → WP)  (shards0 : Int) (room1 : Int) (l2 : Sl) (r3 : Sl) : WP := jn 8 (fun ρ => codeI Try.prog hoardlaw27_JudgeSees_kp jn (cAt [true, true] (bodyOf Try.f4)) (retK Try.prog Try.f4 Q) noX (retK Try.prog Try.f4 Q) ρ) ((.int .i64 shards0) :: (.int .i64 room1) :: (.slice l2.a l2.n l2.c) :: (.slice r3.a r3.n r3.c) :: us 108 [])
def hoardlaw27_JudgeSees (shards0 : Int) (room1 : Int) (l2 : Sl) (r3 : Sl) (Q : Value → WP) : WP := funJ idJ Try.prog hoardlaw27_JudgeSees_kp Try.f4 [.int .i64 shards0, .int .i64 room1, .slice l2.a l2.n l2.c, .slice r3.a r3.n r3.c] Q
theorem hoardlaw27_JudgeSees_j4_raw (jn : Jn) (Q : Value → WP) (m2 : Nat) (l2 : Sl) (r3 : Sl) (j9 : Option Addr) (x10 : Option Addr) (i11 : Int) : codeI Try.prog hoardlaw27_JudgeSees_kp jn (cAt [true, true, true, true, false, true, false, false, true, false, false, true] (bodyOf Try.f4)) (seqK Try.prog hoardlaw27_JudgeSees_kp jn (cAt [true, true, true, true, false, true, false, false, true, true] (bodyOf Try.f4)) (lopK Try.prog hoardlaw27_JudgeSees_kp jn (cAt [true, true, true, true, false, true, false, false] (bodyOf Try.f4)) (blkX 0 (seqK Try.prog hoardlaw27_JudgeSees_kp jn (cAt [true, true, true, true, true] (bodyOf Try.f4)) (retK Try.prog Try.f4 Q) noX (retK Try.prog Try.f4 Q)) noX) (retK Try.prog Try.f4 Q) m2) (blkX 0 (seqK Try.prog hoardlaw27_JudgeSees_kp jn (cAt [true, true, true, true, true] (bodyOf Try.f4)) (retK Try.prog Try.f4 Q) noX (retK Try.prog Try.f4 Q)) noX) (retK Try.prog Try.f4 Q)) (blkX 1 (seqK Try.prog hoardlaw27_JudgeSees_kp jn (cAt [true, true, true, true, false, true, false, false, true, true] (bodyOf Try.f4)) (lopK Try.prog hoardlaw27_JudgeSees_kp jn (cAt [true, true, true, true, false, true, false, false] (bodyOf Try.f4)) (blkX 0 (seqK Try.prog hoardlaw27_JudgeSees_kp jn (cAt [true, true, true, true, true] (bodyOf Try.f4)) (retK Try.prog Try.f4 Q) noX (retK Try.prog Try.f4 Q)) noX) (retK Try.prog Try.f4 Q) m2) (blkX 0 (seqK Try.prog hoardlaw27_JudgeSees_kp jn (cAt [true, true, true, true, true] (bodyOf Try.f4)) (retK Try.prog Try.f4 Q) noX (retK Try.prog Try.f4 Q)) noX) (retK Try.prog Try.f4 Q)) (blkX 0 (seqK Try.prog hoardlaw27_JudgeSees_kp jn (cAt [true, true, true, true, true] (bodyOf Try.f4)) (retK Try.prog Try.f4 Q) noX (retK Try.prog Try.f4 Q)) noX)) (retK Try.prog Try.f4 Q) (us 2 ((.slice l2.a l2.n l2.c) :: (.slice r3.a r3.n r3.c) :: us 5 ((.pointer j9) :: (.pointer x10) :: (.int .i64 i11) :: us 100 []))) = (
  idx l2.a l2.n i11 fun b_35 o_36 =>
  ld .str b_35 ((o_36 + (i11).toNat * 4) + 1) fun (x_37 : ByteArray) =>
  call2 .str .bool Try.prog id_judge_Judge_Put [.pointer j9, .string x_37] fun (x_38 : ByteArray) (x_39 : Bool) =>
  drawW fun S =>
  nilck x10 fun b_40 o_41 =>
  ldS S .ptr b_40 o_41 fun (x_42 : Option Addr) =>
  idx l2.a l2.n i11 fun b_43 o_44 =>
  ldS S .str b_43 ((o_44 + (i11).toNat * 4) + 1) fun (x_45 : ByteArray) =>
  nilck x10 fun b_46 o_47 =>
  ld (.int .i64) b_46 (o_47 + 1) fun (x_48 : Int) =>
  keepS true S <|
  call2 .str .bool Try.prog id_hoardref21_Table_Get [.pointer x_42, .string x_45, .int .i64 x_48] fun (x_49 : ByteArray) (x_50 : Bool) =>
  ite2 (!sEq x_38 x_49) (
  Q (.bool false)) (
  ite2 (!(x_39 == x_50)) (
  Q (.bool false)) (
  hoardlaw27_JudgeSees_l2 jn Q  m2 l2 r3 j9 x10 (IntKind.wrap .i64 (i11 + (1 : Int)))))) := by kernel_rfl
theorem hoardlaw27_JudgeSees_j4_def (Q : Value → WP) (m2 : Nat) (l2 : Sl) (r3 : Sl) (j9 : Option Addr) (x10 : Option Addr) (i11 : Int) : hoardlaw27_JudgeSees_j4 idJ Q m2 l2 r3 j9 x10 i11 = codeI Try.prog hoardlaw27_JudgeSees_kp idJ (cAt [true, true, true, true, false, true, false, false, true, false, false, true] (bodyOf Try.f4)) (seqK Try.prog hoardlaw27_JudgeSees_kp idJ (cAt [true, true, true, true, false, true, false, false, true, true] (bodyOf Try.f4)) (lopK Try.prog hoardlaw27_JudgeSees_kp idJ (cAt [true, true, true, true, false, true, false, false] (bodyOf Try.f4)) (blkX 0 (seqK Try.prog hoardlaw27_JudgeSees_kp idJ (cAt [true, true, true, true, true] (bodyOf Try.f4)) (retK Try.prog Try.f4 Q) noX (retK Try.prog Try.f4 Q)) noX) (retK Try.prog Try.f4 Q) m2) (blkX 0 (seqK Try.prog hoardlaw27_JudgeSees_kp idJ (cAt [true, true, true, true, true] (bodyOf Try.f4)) (retK Try.prog Try.f4 Q) noX (retK Try.prog Try.f4 Q)) noX) (retK Try.prog Try.f4 Q)) (blkX 1 (seqK Try.prog hoardlaw27_JudgeSees_kp idJ (cAt [true, true, true, true, false, true, false, false, true, true] (bodyOf Try.f4)) (lopK Try.prog hoardlaw27_JudgeSees_kp idJ (cAt [true, true, true, true, false, true, false, false] (bodyOf Try.f4)) (blkX 0 (seqK Try.prog hoardlaw27_JudgeSees_kp idJ (cAt [true, true, true, true, true] (bodyOf Try.f4)) (retK Try.prog Try.f4 Q) noX (retK Try.prog Try.f4 Q)) noX) (retK Try.prog Try.f4 Q) m2) (blkX 0 (seqK Try.prog hoardlaw27_JudgeSees_kp idJ (cAt [true, true, true, true, true] (bodyOf Try.f4)) (retK Try.prog Try.f4 Q) noX (retK Try.prog Try.f4 Q)) noX) (retK Try.prog Try.f4 Q)) (blkX 0 (seqK Try.prog hoardlaw27_JudgeSees_kp idJ (cAt [true, true, true, true, true] (bodyOf Try.f4)) (retK Try.prog Try.f4 Q) noX (retK Try.prog Try.f4 Q)) noX)) (retK Try.prog Try.f4 Q) (us 2 ((.slice l2.a l2.n l2.c) :: (.slice r3.a r3.n r3.c) :: us 5 ((.pointer j9) :: (.pointer x10) :: (.int .i64 i11) :: us 100 []))) := by kernel_rfl
theorem hoardlaw27_JudgeSees_j3_raw (jn : Jn) (Q : Value → WP) (m2 : Nat) (l2 : Sl) (r3 : Sl) (j9 : Option Addr) (x10 : Option Addr) (i11 : Int) : codeI Try.prog hoardlaw27_JudgeSees_kp jn (cAt [true, true, true, true, false, true, false, false, true] (bodyOf Try.f4)) (lopK Try.prog hoardlaw27_JudgeSees_kp jn (cAt [true, true, true, true, false, true, false, false] (bodyOf Try.f4)) (blkX 0 (seqK Try.prog hoardlaw27_JudgeSees_kp jn (cAt [true, true, true, true, true] (bodyOf Try.f4)) (retK Try.prog Try.f4 Q) noX (retK Try.prog Try.f4 Q)) noX) (retK Try.prog Try.f4 Q) m2) (blkX 0 (seqK Try.prog hoardlaw27_JudgeSees_kp jn (cAt [true, true, true, true, true] (bodyOf Try.f4)) (retK Try.prog Try.f4 Q) noX (retK Try.prog Try.f4 Q)) noX) (retK Try.prog Try.f4 Q) (us 2 ((.slice l2.a l2.n l2.c) :: (.slice r3.a r3.n r3.c) :: us 5 ((.pointer j9) :: (.pointer x10) :: (.int .i64 i11) :: us 100 []))) = (
  drawW fun S =>
  idx l2.a l2.n i11 fun b_5 o_6 =>
  ldS S (.int .i64) b_5 (o_6 + (i11).toNat * 4) fun (x_7 : Int) =>
  ldS S .str b_5 ((o_6 + (i11).toNat * 4) + 1) fun (x_8 : ByteArray) =>
  ldS S .str b_5 (((o_6 + (i11).toNat * 4) + 1) + 1) fun (x_9 : ByteArray) =>
  ldS S (.int .i64) b_5 ((((o_6 + (i11).toNat * 4) + 1) + 1) + 1) fun (x_10 : Int) =>
  idx r3.a r3.n i11 fun b_11 o_12 =>
  ldS S (.int .i64) b_11 (o_12 + (i11).toNat * 4) fun (x_13 : Int) =>
  ldS S .bool b_11 ((o_12 + (i11).toNat * 4) + 1) fun (x_14 : Bool) =>
  ldS S .str b_11 (((o_12 + (i11).toNat * 4) + 1) + 1) fun (x_15 : ByteArray) =>
  ldS S .slc b_11 ((((o_12 + (i11).toNat * 4) + 1) + 1) + 1) fun (x_16 : Sl) =>
  idx l2.a l2.n i11 fun b_17 o_18 =>
  ldS S (.int .i64) b_17 (o_18 + (i11).toNat * 4) fun (x_19 : Int) =>
  ldS S .str b_17 ((o_18 + (i11).toNat * 4) + 1) fun (x_20 : ByteArray) =>
  ldS S .str b_17 (((o_18 + (i11).toNat * 4) + 1) + 1) fun (x_21 : ByteArray) =>
  ldS S (.int .i64) b_17 ((((o_18 + (i11).toNat * 4) + 1) + 1) + 1) fun (x_22 : Int) =>
  idx r3.a r3.n i11 fun b_23 o_24 =>
  ldS S (.int .i64) b_23 (o_24 + (i11).toNat * 4) fun (x_25 : Int) =>
  ldS S .bool b_23 ((o_24 + (i11).toNat * 4) + 1) fun (x_26 : Bool) =>
  ldS S .str b_23 (((o_24 + (i11).toNat * 4) + 1) + 1) fun (x_27 : ByteArray) =>
  ldS S .slc b_23 ((((o_24 + (i11).toNat * 4) + 1) + 1) + 1) fun (x_28 : Sl) =>
  call1 .bool Try.prog id_judge_Judge_See [.pointer j9, .agg #[.int .i64 x_7, .string x_8, .string x_9, .int .i64 x_10], .agg #[.int .i64 x_13, .bool x_14, .string x_15, .slice x_16.a x_16.n x_16.c]] fun (x_29 : Bool) =>
  keepS true S <|
  call1 .bool Try.prog id_hoardref27_Judge_See [.pointer x10, .agg #[.int .i64 x_19, .string x_20, .string x_21, .int .i64 x_22], .agg #[.int .i64 x_25, .bool x_26, .string x_27, .slice x_28.a x_28.n x_28.c]] fun (x_30 : Bool) =>
  ite2 (!(x_29 == x_30)) (
  allW [
  (Q (.bool false)),
  (Q (.bool false))]) (
  nilck x10 fun b_31 o_32 =>
  allW [
  (call1 (.int .i64) Try.prog id_judge_Judge_Now [.pointer j9] fun (x_33 : Int) =>
  ld (.int .i64) b_31 (o_32 + 1) fun (x_34 : Int) =>
  ite2 (x_33 != x_34) (
  Q (.bool false)) (
  hoardlaw27_JudgeSees_j4 jn Q m2 l2 r3 j9 x10 i11)),
  (ld (.int .i64) b_31 (o_32 + 1) fun (x_51 : Int) =>
  call1 (.int .i64) Try.prog id_judge_Judge_Now [.pointer j9] fun (x_52 : Int) =>
  ite2 (x_52 != x_51) (
  Q (.bool false)) (
  hoardlaw27_JudgeSees_j4 jn Q m2 l2 r3 j9 x10 i11))])) := by kernel_rfl
theorem hoardlaw27_JudgeSees_j3_def (Q : Value → WP) (m2 : Nat) (l2 : Sl) (r3 : Sl) (j9 : Option Addr) (x10 : Option Addr) (i11 : Int) : hoardlaw27_JudgeSees_j3 idJ Q m2 l2 r3 j9 x10 i11 = codeI Try.prog hoardlaw27_JudgeSees_kp idJ (cAt [true, true, true, true, false, true, false, false, true] (bodyOf Try.f4)) (lopK Try.prog hoardlaw27_JudgeSees_kp idJ (cAt [true, true, true, true, false, true, false, false] (bodyOf Try.f4)) (blkX 0 (seqK Try.prog hoardlaw27_JudgeSees_kp idJ (cAt [true, true, true, true, true] (bodyOf Try.f4)) (retK Try.prog Try.f4 Q) noX (retK Try.prog Try.f4 Q)) noX) (retK Try.prog Try.f4 Q) m2) (blkX 0 (seqK Try.prog hoardlaw27_JudgeSees_kp idJ (cAt [true, true, true, true, true] (bodyOf Try.f4)) (retK Try.prog Try.f4 Q) noX (retK Try.prog Try.f4 Q)) noX) (retK Try.prog Try.f4 Q) (us 2 ((.slice l2.a l2.n l2.c) :: (.slice r3.a r3.n r3.c) :: us 5 ((.pointer j9) :: (.pointer x10) :: (.int .i64 i11) :: us 100 []))) := by kernel_rfl
theorem hoardlaw27_JudgeSees_j5_raw (jn : Jn) (Q : Value → WP)   : codeI Try.prog hoardlaw27_JudgeSees_kp jn (cAt [true, true, true, true, true] (bodyOf Try.f4)) (retK Try.prog Try.f4 Q) noX (retK Try.prog Try.f4 Q) (us 112 []) = (
  call1 .bool Try.prog id_hoardlaw27_known [] fun (x_53 : Bool) =>
  Q (.bool x_53)) := by kernel_rfl
theorem hoardlaw27_JudgeSees_j5_def (Q : Value → WP)   : hoardlaw27_JudgeSees_j5 idJ Q   = codeI Try.prog hoardlaw27_JudgeSees_kp idJ (cAt [true, true, true, true, true] (bodyOf Try.f4)) (retK Try.prog Try.f4 Q) noX (retK Try.prog Try.f4 Q) (us 112 []) := by kernel_rfl
theorem hoardlaw27_JudgeSees_l2_raw (jn : Jn) (Q : Value → WP)  (m2 : Nat) (l2 : Sl) (r3 : Sl) (j9 : Option Addr) (x10 : Option Addr) (i11 : Int) : hoardlaw27_JudgeSees_l2 jn Q  (m2 + 1) l2 r3 j9 x10 i11 = (
  ite2 (decide (i11 < (l2.n : Int))) (
  ite2 (decide (i11 < (r3.n : Int))) (
  ite2 (decide (i11 < (120 : Int))) (
  hoardlaw27_JudgeSees_j3 jn Q m2 l2 r3 j9 x10 i11) (
  hoardlaw27_JudgeSees_j5 jn Q  )) (
  hoardlaw27_JudgeSees_j5 jn Q  )) (
  hoardlaw27_JudgeSees_j5 jn Q  )) := by kernel_rfl
theorem hoardlaw27_JudgeSees_l2_zero (jn : Jn) (Q : Value → WP)  (l2 : Sl) (r3 : Sl) (j9 : Option Addr) (x10 : Option Addr) (i11 : Int) : hoardlaw27_JudgeSees_l2 jn Q  0 l2 r3 j9 x10 i11 = bot := by kernel_rfl
theorem hoardlaw27_JudgeSees_j1_raw (jn : Jn) (Q : Value → WP)  (shards0 : Int) (room1 : Int) (l2 : Sl) (r3 : Sl) : codeI Try.prog hoardlaw27_JudgeSees_kp jn (cAt [true, true] (bodyOf Try.f4)) (retK Try.prog Try.f4 Q) noX (retK Try.prog Try.f4 Q) ((.int .i64 shards0) :: (.int .i64 room1) :: (.slice l2.a l2.n l2.c) :: (.slice r3.a r3.n r3.c) :: us 108 []) = (
  call1 .ptr Try.prog id_judge_New [.int .i64 shards0, .int .i64 room1] fun (x_3 : Option Addr) =>
  call1 .ptr Try.prog id_hoardref27_New [.int .i64 shards0, .int .i64 room1] fun (x_4 : Option Addr) =>
  ite2 (Option.isNone x_3) (
  Q (.bool false)) (
  exM fun m => hoardlaw27_JudgeSees_l2 jn Q  m l2 r3 x_3 x_4 (0 : Int))) := by kernel_rfl
theorem hoardlaw27_JudgeSees_j1_def (Q : Value → WP)  (shards0 : Int) (room1 : Int) (l2 : Sl) (r3 : Sl) : hoardlaw27_JudgeSees_j1 idJ Q  shards0 room1 l2 r3 = codeI Try.prog hoardlaw27_JudgeSees_kp idJ (cAt [true, true] (bodyOf Try.f4)) (retK Try.prog Try.f4 Q) noX (retK Try.prog Try.f4 Q) ((.int .i64 shards0) :: (.int .i64 room1) :: (.slice l2.a l2.n l2.c) :: (.slice r3.a r3.n r3.c) :: us 108 []) := by kernel_rfl
theorem hoardlaw27_JudgeSees_raw (jn : Jn) (shards0 : Int) (room1 : Int) (l2 : Sl) (r3 : Sl) (Q : Value → WP) : funJ jn Try.prog hoardlaw27_JudgeSees_kp Try.f4 [.int .i64 shards0, .int .i64 room1, .slice l2.a l2.n l2.c, .slice r3.a r3.n r3.c] Q = (
  call1 .bool Try.prog id_hoardlaw27_heavy [.slice l2.a l2.n l2.c] fun (x_1 : Bool) =>
  ite2 x_1 (
  Q (.bool true)) (
  call1 .bool Try.prog id_hoardlaw27_long [.slice r3.a r3.n r3.c] fun (x_2 : Bool) =>
  ite2 x_2 (
  Q (.bool true)) (
  hoardlaw27_JudgeSees_j1 jn Q  shards0 room1 l2 r3))) := by kernel_rfl
theorem hoardlaw27_JudgeSees_def (shards0 : Int) (room1 : Int) (l2 : Sl) (r3 : Sl) (Q : Value → WP) : hoardlaw27_JudgeSees shards0 room1 l2 r3 Q = funJ idJ Try.prog hoardlaw27_JudgeSees_kp Try.f4 [.int .i64 shards0, .int .i64 room1, .slice l2.a l2.n l2.c, .slice r3.a r3.n r3.c] Q := rfl
theorem hoardlaw27_JudgeSees_calls {shards0 : Int} {room1 : Int} {l2 : Sl} {r3 : Sl} {Q : Value → WP} {w : World} (h : hoardlaw27_JudgeSees shards0 room1 l2 r3 Q w) : Calls Try.prog id_hoardlaw27_JudgeSees #[.int .i64 shards0, .int .i64 room1, .slice l2.a l2.n l2.c, .slice r3.a r3.n r3.c] w fun e w' => ∃ v, e = .returned v ∧ Q v w' :=
  funJ_calls mixed Try.func4 rfl h

end Go.Proofs.Ytnmlaenfaiacfaa
