/- Printed by a program of mine (wip/tools/shal.py): the shallow texts of the loaded functions, each equal to the interpreter's reading by the kernel. -/
import Derived.Test.YtchlicgjdlkidaaDoorShal
set_option linter.unusedVariables false
set_option maxRecDepth 100000
namespace Go.Proofs.YtchlicgjdlkidaaDoor
open Go.Hb

-- hoard/hoardlaw10.ArcOne
def hoardlaw10_ArcOne_kp : KP := ⟨[(17, [0, 3, 4]), (24, [0, 3, 4, 5, 6, 7]), (28, [])], [(10, [0, 1, 2, 3, 4, 5, 6, 7, 8, 9, 10, 12, 13, 14]), (11, [0, 1, 2, 3, 4, 5, 6, 7, 8, 9, 10, 11, 12, 13, 14, 15, 16, 17, 18, 19, 20, 21, 23, 24, 25, 26, 27, 28, 30, 31, 32, 33, 36, 37])]⟩
def hoardlaw10_ArcOne_j2 (jn : Jn) (Q : Value → WP) (m1 : Nat) (l0 : Sl) (e3 : Option Addr) (i4 : Int) (hit5 : Bool) (gone6 : Sl) (again7 : Bool) : WP := jn 24 (fun ρ => codeI Tryd.prog hoardlaw10_ArcOne_kp jn (cAt [true, true, true, true, false, true, false, false, true, false, false, true, true] (bodyOf Tryd.f4)) (seqK Tryd.prog hoardlaw10_ArcOne_kp jn (cAt [true, true, true, true, false, true, false, false, true, true] (bodyOf Tryd.f4)) (lopK Tryd.prog hoardlaw10_ArcOne_kp jn (cAt [true, true, true, true, false, true, false, false] (bodyOf Tryd.f4)) (blkX 0 (seqK Tryd.prog hoardlaw10_ArcOne_kp jn (cAt [true, true, true, true, true] (bodyOf Tryd.f4)) (retK Tryd.prog Tryd.f4 Q) noX (retK Tryd.prog Tryd.f4 Q)) noX) (retK Tryd.prog Tryd.f4 Q) m1) (blkX 0 (seqK Tryd.prog hoardlaw10_ArcOne_kp jn (cAt [true, true, true, true, true] (bodyOf Tryd.f4)) (retK Tryd.prog Tryd.f4 Q) noX (retK Tryd.prog Tryd.f4 Q)) noX) (retK Tryd.prog Tryd.f4 Q)) (blkX 1 (seqK Tryd.prog hoardlaw10_ArcOne_kp jn (cAt [true, true, true, true, false, true, false, false, true, true] (bodyOf Tryd.f4)) (lopK Tryd.prog hoardlaw10_ArcOne_kp jn (cAt [true, true, true, true, false, true, false, false] (bodyOf Tryd.f4)) (blkX 0 (seqK Tryd.prog hoardlaw10_ArcOne_kp jn (cAt [true, true, true, true, true] (bodyOf Tryd.f4)) (retK Tryd.prog Tryd.f4 Q) noX (retK Tryd.prog Tryd.f4 Q)) noX) (retK Tryd.prog Tryd.f4 Q) m1) (blkX 0 (seqK Tryd.prog hoardlaw10_ArcOne_kp jn (cAt [true, true, true, true, true] (bodyOf Tryd.f4)) (retK Tryd.prog Tryd.f4 Q) noX (retK Tryd.prog Tryd.f4 Q)) noX) (retK Tryd.prog Tryd.f4 Q)) (blkX 0 (seqK Tryd.prog hoardlaw10_ArcOne_kp jn (cAt [true, true, true, true, true] (bodyOf Tryd.f4)) (retK Tryd.prog Tryd.f4 Q) noX (retK Tryd.prog Tryd.f4 Q)) noX)) (retK Tryd.prog Tryd.f4 Q) ρ) ((.slice l0.a l0.n l0.c) :: us 2 ((.pointer e3) :: (.int .i64 i4) :: (.bool hit5) :: (.slice gone6.a gone6.n gone6.c) :: (.bool again7) :: us 73 []))
def hoardlaw10_ArcOne_j3 (jn : Jn) (Q : Value → WP)   : WP := jn 28 (fun ρ => codeI Tryd.prog hoardlaw10_ArcOne_kp jn (cAt [true, true, true, true, true] (bodyOf Tryd.f4)) (retK Tryd.prog Tryd.f4 Q) noX (retK Tryd.prog Tryd.f4 Q) ρ) (us 81 [])
def hoardlaw10_ArcOne_l1 (jn : Jn) (Q : Value → WP)  (m1 : Nat) (l0 : Sl) (e3 : Option Addr) (i4 : Int) : WP := lop Tryd.prog hoardlaw10_ArcOne_kp jn (cAt [true, true, true, true, false, true, false, false] (bodyOf Tryd.f4)) (blkX 0 (seqK Tryd.prog hoardlaw10_ArcOne_kp jn (cAt [true, true, true, true, true] (bodyOf Tryd.f4)) (retK Tryd.prog Tryd.f4 Q) noX (retK Tryd.prog Tryd.f4 Q)) noX) (retK Tryd.prog Tryd.f4 Q) m1 ((.slice l0.a l0.n l0.c) :: us 2 ((.pointer e3) :: (.int .i64 i4) :: us 76 []))
def hoardlaw10_ArcOne (l0 : Sl) (Q : Value → WP) : WP := funJ idJ Tryd.prog hoardlaw10_ArcOne_kp Tryd.f4 [.slice l0.a l0.n l0.c] Q
theorem hoardlaw10_ArcOne_j2_raw (jn : Jn) (Q : Value → WP) (m1 : Nat) (l0 : Sl) (e3 : Option Addr) (i4 : Int) (hit5 : Bool) (gone6 : Sl) (again7 : Bool) : codeI Tryd.prog hoardlaw10_ArcOne_kp jn (cAt [true, true, true, true, false, true, false, false, true, false, false, true, true] (bodyOf Tryd.f4)) (seqK Tryd.prog hoardlaw10_ArcOne_kp jn (cAt [true, true, true, true, false, true, false, false, true, true] (bodyOf Tryd.f4)) (lopK Tryd.prog hoardlaw10_ArcOne_kp jn (cAt [true, true, true, true, false, true, false, false] (bodyOf Tryd.f4)) (blkX 0 (seqK Tryd.prog hoardlaw10_ArcOne_kp jn (cAt [true, true, true, true, true] (bodyOf Tryd.f4)) (retK Tryd.prog Tryd.f4 Q) noX (retK Tryd.prog Tryd.f4 Q)) noX) (retK Tryd.prog Tryd.f4 Q) m1) (blkX 0 (seqK Tryd.prog hoardlaw10_ArcOne_kp jn (cAt [true, true, true, true, true] (bodyOf Tryd.f4)) (retK Tryd.prog Tryd.f4 Q) noX (retK Tryd.prog Tryd.f4 Q)) noX) (retK Tryd.prog Tryd.f4 Q)) (blkX 1 (seqK Tryd.prog hoardlaw10_ArcOne_kp jn (cAt [true, true, true, true, false, true, false, false, true, true] (bodyOf Tryd.f4)) (lopK Tryd.prog hoardlaw10_ArcOne_kp jn (cAt [true, true, true, true, false, true, false, false] (bodyOf Tryd.f4)) (blkX 0 (seqK Tryd.prog hoardlaw10_ArcOne_kp jn (cAt [true, true, true, true, true] (bodyOf Tryd.f4)) (retK Tryd.prog Tryd.f4 Q) noX (retK Tryd.prog Tryd.f4 Q)) noX) (retK Tryd.prog Tryd.f4 Q) m1) (blkX 0 (seqK Tryd.prog hoardlaw10_ArcOne_kp jn (cAt [true, true, true, true, true] (bodyOf Tryd.f4)) (retK Tryd.prog Tryd.f4 Q) noX (retK Tryd.prog Tryd.f4 Q)) noX) (retK Tryd.prog Tryd.f4 Q)) (blkX 0 (seqK Tryd.prog hoardlaw10_ArcOne_kp jn (cAt [true, true, true, true, true] (bodyOf Tryd.f4)) (retK Tryd.prog Tryd.f4 Q) noX (retK Tryd.prog Tryd.f4 Q)) noX)) (retK Tryd.prog Tryd.f4 Q) ((.slice l0.a l0.n l0.c) :: us 2 ((.pointer e3) :: (.int .i64 i4) :: (.bool hit5) :: (.slice gone6.a gone6.n gone6.c) :: (.bool again7) :: us 73 [])) = (
  drawW fun S =>
  ite2 (!(hit5 == again7)) (
  keepS true S <|
  allW [
  (keepS true S <|
  Q (.bool false)),
  (keepS true S <|
  Q (.bool false))]) (
  ite2 (decide (i4 > (0 : Int))) (
  ite2 ((gone6.n : Int) == (1 : Int)) (
  idx gone6.a gone6.n (0 : Int) fun b_14 o_15 =>
  ldS S .str b_14 (o_15 + ((0 : Int)).toNat * 1) fun (x_16 : ByteArray) =>
  idx l0.a l0.n (if (IntKind.wrap .i64 (i4 - (1 : Int))) > (0 : Int) then (IntKind.wrap .i64 (i4 - (1 : Int))) else (0 : Int)) fun b_17 o_18 =>
  ld .str b_17 (o_18 + ((if (IntKind.wrap .i64 (i4 - (1 : Int))) > (0 : Int) then (IntKind.wrap .i64 (i4 - (1 : Int))) else (0 : Int))).toNat * 1) fun (x_19 : ByteArray) =>
  keepS true S <|
  ite2 (!((!again7) == (sEq x_16 x_19))) (
  allW [
  (keepS true S <|
  Q (.bool false)),
  (keepS true S <|
  Q (.bool false))]) (
  idx l0.a l0.n i4 fun b_20 o_21 =>
  ldS S .str b_20 (o_21 + (i4).toNat * 1) fun (x_22 : ByteArray) =>
  allW [
  (call1 .slc Tryd.prog id_arc_Engine_Keys [.pointer e3] fun (x_23 : Sl) =>
  keepS true S <|
  newB [.string x_22] ty_string fun b_24 =>
  call1 .bool Tryd.prog id_hoardlaw10_texts [.slice x_23.a x_23.n x_23.c, .slice (some ⟨b_24, 0, none⟩) 1 1] fun (x_25 : Bool) =>
  ite2 (!x_25) (
  Q (.bool false)) (
  hoardlaw10_ArcOne_l1 jn Q  m1 l0 e3 (IntKind.wrap .i64 (i4 + (1 : Int))))),
  (newB [.string x_22] ty_string fun b_26 =>
  call1 .slc Tryd.prog id_arc_Engine_Keys [.pointer e3] fun (x_27 : Sl) =>
  keepS true S <|
  call1 .bool Tryd.prog id_hoardlaw10_texts [.slice x_27.a x_27.n x_27.c, .slice (some ⟨b_26, 0, none⟩) 1 1] fun (x_28 : Bool) =>
  ite2 (!x_28) (
  Q (.bool false)) (
  hoardlaw10_ArcOne_l1 jn Q  m1 l0 e3 (IntKind.wrap .i64 (i4 + (1 : Int)))))])) (
  keepS true S <|
  ite2 (!((!again7) == false)) (
  allW [
  (keepS true S <|
  Q (.bool false)),
  (keepS true S <|
  Q (.bool false))]) (
  idx l0.a l0.n i4 fun b_29 o_30 =>
  ldS S .str b_29 (o_30 + (i4).toNat * 1) fun (x_31 : ByteArray) =>
  allW [
  (call1 .slc Tryd.prog id_arc_Engine_Keys [.pointer e3] fun (x_32 : Sl) =>
  keepS true S <|
  newB [.string x_31] ty_string fun b_33 =>
  call1 .bool Tryd.prog id_hoardlaw10_texts [.slice x_32.a x_32.n x_32.c, .slice (some ⟨b_33, 0, none⟩) 1 1] fun (x_34 : Bool) =>
  ite2 (!x_34) (
  Q (.bool false)) (
  hoardlaw10_ArcOne_l1 jn Q  m1 l0 e3 (IntKind.wrap .i64 (i4 + (1 : Int))))),
  (newB [.string x_31] ty_string fun b_35 =>
  call1 .slc Tryd.prog id_arc_Engine_Keys [.pointer e3] fun (x_36 : Sl) =>
  keepS true S <|
  call1 .bool Tryd.prog id_hoardlaw10_texts [.slice x_36.a x_36.n x_36.c, .slice (some ⟨b_35, 0, none⟩) 1 1] fun (x_37 : Bool) =>
  ite2 (!x_37) (
  Q (.bool false)) (
  hoardlaw10_ArcOne_l1 jn Q  m1 l0 e3 (IntKind.wrap .i64 (i4 + (1 : Int)))))]))) (
  ite2 ((gone6.n : Int) == (1 : Int)) (
  idx gone6.a gone6.n (0 : Int) fun b_38 o_39 =>
  ldS S .str b_38 (o_39 + ((0 : Int)).toNat * 1) fun (x_40 : ByteArray) =>
  idx l0.a l0.n (if (IntKind.wrap .i64 (i4 - (1 : Int))) > (0 : Int) then (IntKind.wrap .i64 (i4 - (1 : Int))) else (0 : Int)) fun b_41 o_42 =>
  ld .str b_41 (o_42 + ((if (IntKind.wrap .i64 (i4 - (1 : Int))) > (0 : Int) then (IntKind.wrap .i64 (i4 - (1 : Int))) else (0 : Int))).toNat * 1) fun (x_43 : ByteArray) =>
  keepS true S <|
  ite2 (!(false == (sEq x_40 x_43))) (
  allW [
  (keepS true S <|
  Q (.bool false)),
  (keepS true S <|
  Q (.bool false))]) (
  idx l0.a l0.n i4 fun b_44 o_45 =>
  ldS S .str b_44 (o_45 + (i4).toNat * 1) fun (x_46 : ByteArray) =>
  allW [
  (call1 .slc Tryd.prog id_arc_Engine_Keys [.pointer e3] fun (x_47 : Sl) =>
  keepS true S <|
  newB [.string x_46] ty_string fun b_48 =>
  call1 .bool Tryd.prog id_hoardlaw10_texts [.slice x_47.a x_47.n x_47.c, .slice (some ⟨b_48, 0, none⟩) 1 1] fun (x_49 : Bool) =>
  ite2 (!x_49) (
  Q (.bool false)) (
  hoardlaw10_ArcOne_l1 jn Q  m1 l0 e3 (IntKind.wrap .i64 (i4 + (1 : Int))))),
  (newB [.string x_46] ty_string fun b_50 =>
  call1 .slc Tryd.prog id_arc_Engine_Keys [.pointer e3] fun (x_51 : Sl) =>
  keepS true S <|
  call1 .bool Tryd.prog id_hoardlaw10_texts [.slice x_51.a x_51.n x_51.c, .slice (some ⟨b_50, 0, none⟩) 1 1] fun (x_52 : Bool) =>
  ite2 (!x_52) (
  Q (.bool false)) (
  hoardlaw10_ArcOne_l1 jn Q  m1 l0 e3 (IntKind.wrap .i64 (i4 + (1 : Int)))))])) (
  keepS true S <|
  ite2 (!(false == false)) (
  allW [
  (keepS true S <|
  Q (.bool false)),
  (keepS true S <|
  Q (.bool false))]) (
  idx l0.a l0.n i4 fun b_53 o_54 =>
  ldS S .str b_53 (o_54 + (i4).toNat * 1) fun (x_55 : ByteArray) =>
  allW [
  (call1 .slc Tryd.prog id_arc_Engine_Keys [.pointer e3] fun (x_56 : Sl) =>
  keepS true S <|
  newB [.string x_55] ty_string fun b_57 =>
  call1 .bool Tryd.prog id_hoardlaw10_texts [.slice x_56.a x_56.n x_56.c, .slice (some ⟨b_57, 0, none⟩) 1 1] fun (x_58 : Bool) =>
  ite2 (!x_58) (
  Q (.bool false)) (
  hoardlaw10_ArcOne_l1 jn Q  m1 l0 e3 (IntKind.wrap .i64 (i4 + (1 : Int))))),
  (newB [.string x_55] ty_string fun b_59 =>
  call1 .slc Tryd.prog id_arc_Engine_Keys [.pointer e3] fun (x_60 : Sl) =>
  keepS true S <|
  call1 .bool Tryd.prog id_hoardlaw10_texts [.slice x_60.a x_60.n x_60.c, .slice (some ⟨b_59, 0, none⟩) 1 1] fun (x_61 : Bool) =>
  ite2 (!x_61) (
  Q (.bool false)) (
  hoardlaw10_ArcOne_l1 jn Q  m1 l0 e3 (IntKind.wrap .i64 (i4 + (1 : Int)))))]))))) := by kernel_rfl
theorem hoardlaw10_ArcOne_j2_def (Q : Value → WP) (m1 : Nat) (l0 : Sl) (e3 : Option Addr) (i4 : Int) (hit5 : Bool) (gone6 : Sl) (again7 : Bool) : hoardlaw10_ArcOne_j2 idJ Q m1 l0 e3 i4 hit5 gone6 again7 = codeI Tryd.prog hoardlaw10_ArcOne_kp idJ (cAt [true, true, true, true, false, true, false, false, true, false, false, true, true] (bodyOf Tryd.f4)) (seqK Tryd.prog hoardlaw10_ArcOne_kp idJ (cAt [true, true, true, true, false, true, false, false, true, true] (bodyOf Tryd.f4)) (lopK Tryd.prog hoardlaw10_ArcOne_kp idJ (cAt [true, true, true, true, false, true, false, false] (bodyOf Tryd.f4)) (blkX 0 (seqK Tryd.prog hoardlaw10_ArcOne_kp idJ (cAt [true, true, true, true, true] (bodyOf Tryd.f4)) (retK Tryd.prog Tryd.f4 Q) noX (retK Tryd.prog Tryd.f4 Q)) noX) (retK Tryd.prog Tryd.f4 Q) m1) (blkX 0 (seqK Tryd.prog hoardlaw10_ArcOne_kp idJ (cAt [true, true, true, true, true] (bodyOf Tryd.f4)) (retK Tryd.prog Tryd.f4 Q) noX (retK Tryd.prog Tryd.f4 Q)) noX) (retK Tryd.prog Tryd.f4 Q)) (blkX 1 (seqK Tryd.prog hoardlaw10_ArcOne_kp idJ (cAt [true, true, true, true, false, true, false, false, true, true] (bodyOf Tryd.f4)) (lopK Tryd.prog hoardlaw10_ArcOne_kp idJ (cAt [true, true, true, true, false, true, false, false] (bodyOf Tryd.f4)) (blkX 0 (seqK Tryd.prog hoardlaw10_ArcOne_kp idJ (cAt [true, true, true, true, true] (bodyOf Tryd.f4)) (retK Tryd.prog Tryd.f4 Q) noX (retK Tryd.prog Tryd.f4 Q)) noX) (retK Tryd.prog Tryd.f4 Q) m1) (blkX 0 (seqK Tryd.prog hoardlaw10_ArcOne_kp idJ (cAt [true, true, true, true, true] (bodyOf Tryd.f4)) (retK Tryd.prog Tryd.f4 Q) noX (retK Tryd.prog Tryd.f4 Q)) noX) (retK Tryd.prog Tryd.f4 Q)) (blkX 0 (seqK Tryd.prog hoardlaw10_ArcOne_kp idJ (cAt [true, true, true, true, true] (bodyOf Tryd.f4)) (retK Tryd.prog Tryd.f4 Q) noX (retK Tryd.prog Tryd.f4 Q)) noX)) (retK Tryd.prog Tryd.f4 Q) ((.slice l0.a l0.n l0.c) :: us 2 ((.pointer e3) :: (.int .i64 i4) :: (.bool hit5) :: (.slice gone6.a gone6.n gone6.c) :: (.bool again7) :: us 73 [])) := by kernel_rfl
theorem hoardlaw10_ArcOne_j3_raw (jn : Jn) (Q : Value → WP)   : codeI Tryd.prog hoardlaw10_ArcOne_kp jn (cAt [true, true, true, true, true] (bodyOf Tryd.f4)) (retK Tryd.prog Tryd.f4 Q) noX (retK Tryd.prog Tryd.f4 Q) (us 81 []) = (
  call1 .bool Tryd.prog id_hoardlaw10_known [] fun (x_62 : Bool) =>
  Q (.bool x_62)) := by kernel_rfl
theorem hoardlaw10_ArcOne_j3_def (Q : Value → WP)   : hoardlaw10_ArcOne_j3 idJ Q   = codeI Tryd.prog hoardlaw10_ArcOne_kp idJ (cAt [true, true, true, true, true] (bodyOf Tryd.f4)) (retK Tryd.prog Tryd.f4 Q) noX (retK Tryd.prog Tryd.f4 Q) (us 81 []) := by kernel_rfl
theorem hoardlaw10_ArcOne_l1_raw (jn : Jn) (Q : Value → WP)  (m1 : Nat) (l0 : Sl) (e3 : Option Addr) (i4 : Int) : hoardlaw10_ArcOne_l1 jn Q  (m1 + 1) l0 e3 i4 = (
  ite2 (decide (i4 < (l0.n : Int))) (
  idx l0.a l0.n i4 fun b_3 o_4 =>
  ld .str b_3 (o_4 + (i4).toNat * 1) fun (x_5 : ByteArray) =>
  call2 .bool .slc Tryd.prog id_arc_Engine_Access [.pointer e3, .string x_5] fun (x_6 : Bool) (x_7 : Sl) =>
  drawW fun S =>
  ite2 (decide (i4 > (0 : Int))) (
  idx l0.a l0.n (IntKind.wrap .i64 (i4 - (1 : Int))) fun b_8 o_9 =>
  ldS S .str b_8 (o_9 + ((IntKind.wrap .i64 (i4 - (1 : Int)))).toNat * 1) fun (x_10 : ByteArray) =>
  idx l0.a l0.n i4 fun b_11 o_12 =>
  ld .str b_11 (o_12 + (i4).toNat * 1) fun (x_13 : ByteArray) =>
  keepS true S <|
  hoardlaw10_ArcOne_j2 jn Q m1 l0 e3 i4 x_6 x_7 (sEq x_10 x_13)) (
  keepS true S <|
  hoardlaw10_ArcOne_j2 jn Q m1 l0 e3 i4 x_6 x_7 false)) (
  hoardlaw10_ArcOne_j3 jn Q  )) := by kernel_rfl
theorem hoardlaw10_ArcOne_l1_zero (jn : Jn) (Q : Value → WP)  (l0 : Sl) (e3 : Option Addr) (i4 : Int) : hoardlaw10_ArcOne_l1 jn Q  0 l0 e3 i4 = bot := by kernel_rfl
theorem hoardlaw10_ArcOne_raw (jn : Jn) (l0 : Sl) (Q : Value → WP) : funJ jn Tryd.prog hoardlaw10_ArcOne_kp Tryd.f4 [.slice l0.a l0.n l0.c] Q = (
  call1 .bool Tryd.prog id_hoardlaw10_long [.slice l0.a l0.n l0.c] fun (x_1 : Bool) =>
  ite2 x_1 (
  Q (.bool true)) (
  call1 .ptr Tryd.prog id_arc_New [.int .i64 (1 : Int)] fun (x_2 : Option Addr) =>
  ite2 (Option.isNone x_2) (
  Q (.bool false)) (
  exM fun m => hoardlaw10_ArcOne_l1 jn Q  m l0 x_2 (0 : Int)))) := by kernel_rfl
theorem hoardlaw10_ArcOne_def (l0 : Sl) (Q : Value → WP) : hoardlaw10_ArcOne l0 Q = funJ idJ Tryd.prog hoardlaw10_ArcOne_kp Tryd.f4 [.slice l0.a l0.n l0.c] Q := rfl
theorem hoardlaw10_ArcOne_calls {l0 : Sl} {Q : Value → WP} {w : World} (h : hoardlaw10_ArcOne l0 Q w) : Calls Tryd.prog id_hoardlaw10_ArcOne #[.slice l0.a l0.n l0.c] w fun e w' => ∃ v, e = .returned v ∧ Q v w' :=
  funJ_calls mixed Tryd.func4 rfl h

end Go.Proofs.YtchlicgjdlkidaaDoor
