/- Printed by a program of mine (wip/tools/shal.py): the shallow texts of the loaded functions, each equal to the interpreter's reading by the kernel. -/
import Derived.Test.YtchlicgjdlkidaaDoorShal
set_option linter.unusedVariables false
set_option maxRecDepth 100000
namespace Go.Proofs.YtchlicgjdlkidaaDoor
open Go.Hb

-- hoard/hoardlaw10.ArcOften
def hoardlaw10_ArcOften_kp : KP := ⟨[(8, [0, 1, 2]), (17, [1, 2, 7, 8]), (24, [1, 2, 7]), (27, [1, 2, 7, 9]), (34, [1, 2, 7, 9]), (36, [1, 7]), (39, [1, 7, 10]), (46, [])], [(14, [0, 1, 2, 3, 6, 7, 8, 9, 10, 11, 12, 15])]⟩
def hoardlaw10_ArcOften_j5 (jn : Jn) (Q : Value → WP) (m4 : Nat) (often1 : Sl) (once2 : Sl) (e7 : Option Addr) (i9 : Int) : WP := jn 34 (fun ρ => codeI Tryd.prog hoardlaw10_ArcOften_kp jn (cAt [true, true, true, true, true, false, true, false, false, true, false, false, true] (bodyOf Tryd.f6)) (seqK Tryd.prog hoardlaw10_ArcOften_kp jn (cAt [true, true, true, true, true, false, true, false, false, true, true] (bodyOf Tryd.f6)) (lopK Tryd.prog hoardlaw10_ArcOften_kp jn (cAt [true, true, true, true, true, false, true, false, false] (bodyOf Tryd.f6)) (blkX 2 (seqK Tryd.prog hoardlaw10_ArcOften_kp jn (cAt [true, true, true, true, true, true] (bodyOf Tryd.f6)) (retK Tryd.prog Tryd.f6 Q) noX (retK Tryd.prog Tryd.f6 Q)) noX) (retK Tryd.prog Tryd.f6 Q) m4) (blkX 2 (seqK Tryd.prog hoardlaw10_ArcOften_kp jn (cAt [true, true, true, true, true, true] (bodyOf Tryd.f6)) (retK Tryd.prog Tryd.f6 Q) noX (retK Tryd.prog Tryd.f6 Q)) noX) (retK Tryd.prog Tryd.f6 Q)) (blkX 3 (seqK Tryd.prog hoardlaw10_ArcOften_kp jn (cAt [true, true, true, true, true, false, true, false, false, true, true] (bodyOf Tryd.f6)) (lopK Tryd.prog hoardlaw10_ArcOften_kp jn (cAt [true, true, true, true, true, false, true, false, false] (bodyOf Tryd.f6)) (blkX 2 (seqK Tryd.prog hoardlaw10_ArcOften_kp jn (cAt [true, true, true, true, true, true] (bodyOf Tryd.f6)) (retK Tryd.prog Tryd.f6 Q) noX (retK Tryd.prog Tryd.f6 Q)) noX) (retK Tryd.prog Tryd.f6 Q) m4) (blkX 2 (seqK Tryd.prog hoardlaw10_ArcOften_kp jn (cAt [true, true, true, true, true, true] (bodyOf Tryd.f6)) (retK Tryd.prog Tryd.f6 Q) noX (retK Tryd.prog Tryd.f6 Q)) noX) (retK Tryd.prog Tryd.f6 Q)) (blkX 2 (seqK Tryd.prog hoardlaw10_ArcOften_kp jn (cAt [true, true, true, true, true, true] (bodyOf Tryd.f6)) (retK Tryd.prog Tryd.f6 Q) noX (retK Tryd.prog Tryd.f6 Q)) noX)) (retK Tryd.prog Tryd.f6 Q) ρ) (us 1 ((.slice often1.a often1.n often1.c) :: (.slice once2.a once2.n once2.c) :: us 4 ((.pointer e7) :: us 1 ((.int .i64 i9) :: us 87 []))))
def hoardlaw10_ArcOften_j8 (jn : Jn) (Q : Value → WP)   : WP := jn 46 (fun ρ => codeI Tryd.prog hoardlaw10_ArcOften_kp jn (cAt [true, true, true, true, true, true, true] (bodyOf Tryd.f6)) (retK Tryd.prog Tryd.f6 Q) noX (retK Tryd.prog Tryd.f6 Q) ρ) (us 97 [])
def hoardlaw10_ArcOften_l7 (jn : Jn) (Q : Value → WP)  (m7 : Nat) (often1 : Sl) (e7 : Option Addr) (i10 : Int) : WP := lop Tryd.prog hoardlaw10_ArcOften_kp jn (cAt [true, true, true, true, true, true, false, true, false, false] (bodyOf Tryd.f6)) (blkX 4 (seqK Tryd.prog hoardlaw10_ArcOften_kp jn (cAt [true, true, true, true, true, true, true] (bodyOf Tryd.f6)) (retK Tryd.prog Tryd.f6 Q) noX (retK Tryd.prog Tryd.f6 Q)) noX) (retK Tryd.prog Tryd.f6 Q) m7 (us 1 ((.slice often1.a often1.n often1.c) :: us 5 ((.pointer e7) :: us 2 ((.int .i64 i10) :: us 86 []))))
def hoardlaw10_ArcOften_j6 (jn : Jn) (Q : Value → WP)  (often1 : Sl) (e7 : Option Addr) : WP := jn 36 (fun ρ => codeI Tryd.prog hoardlaw10_ArcOften_kp jn (cAt [true, true, true, true, true, true] (bodyOf Tryd.f6)) (retK Tryd.prog Tryd.f6 Q) noX (retK Tryd.prog Tryd.f6 Q) ρ) (us 1 ((.slice often1.a often1.n often1.c) :: us 5 ((.pointer e7) :: us 89 [])))
def hoardlaw10_ArcOften_l4 (jn : Jn) (Q : Value → WP)  (m4 : Nat) (often1 : Sl) (once2 : Sl) (e7 : Option Addr) (i9 : Int) : WP := lop Tryd.prog hoardlaw10_ArcOften_kp jn (cAt [true, true, true, true, true, false, true, false, false] (bodyOf Tryd.f6)) (blkX 2 (seqK Tryd.prog hoardlaw10_ArcOften_kp jn (cAt [true, true, true, true, true, true] (bodyOf Tryd.f6)) (retK Tryd.prog Tryd.f6 Q) noX (retK Tryd.prog Tryd.f6 Q)) noX) (retK Tryd.prog Tryd.f6 Q) m4 (us 1 ((.slice often1.a often1.n often1.c) :: (.slice once2.a once2.n once2.c) :: us 4 ((.pointer e7) :: us 1 ((.int .i64 i9) :: us 87 []))))
def hoardlaw10_ArcOften_j3 (jn : Jn) (Q : Value → WP)  (often1 : Sl) (once2 : Sl) (e7 : Option Addr) : WP := jn 24 (fun ρ => codeI Tryd.prog hoardlaw10_ArcOften_kp jn (cAt [true, true, true, true, true] (bodyOf Tryd.f6)) (retK Tryd.prog Tryd.f6 Q) noX (retK Tryd.prog Tryd.f6 Q) ρ) (us 1 ((.slice often1.a often1.n often1.c) :: (.slice once2.a once2.n once2.c) :: us 4 ((.pointer e7) :: us 89 [])))
def hoardlaw10_ArcOften_l2 (jn : Jn) (Q : Value → WP)  (m2 : Nat) (often1 : Sl) (once2 : Sl) (e7 : Option Addr) (i8 : Int) : WP := lop Tryd.prog hoardlaw10_ArcOften_kp jn (cAt [true, true, true, true, false, true, false, false] (bodyOf Tryd.f6)) (blkX 0 (seqK Tryd.prog hoardlaw10_ArcOften_kp jn (cAt [true, true, true, true, true] (bodyOf Tryd.f6)) (retK Tryd.prog Tryd.f6 Q) noX (retK Tryd.prog Tryd.f6 Q)) noX) (retK Tryd.prog Tryd.f6 Q) m2 (us 1 ((.slice often1.a often1.n often1.c) :: (.slice once2.a once2.n once2.c) :: us 4 ((.pointer e7) :: (.int .i64 i8) :: us 88 [])))
def hoardlaw10_ArcOften_j1 (jn : Jn) (Q : Value → WP)  (room0 : Int) (often1 : Sl) (once2 : Sl) : WP := jn 8 (fun ρ => codeI Tryd.prog hoardlaw10_ArcOften_kp jn (cAt [true, true] (bodyOf Tryd.f6)) (retK Tryd.prog Tryd.f6 Q) noX (retK Tryd.prog Tryd.f6 Q) ρ) ((.int .i64 room0) :: (.slice often1.a often1.n often1.c) :: (.slice once2.a once2.n once2.c) :: us 94 [])
def hoardlaw10_ArcOften (room0 : Int) (often1 : Sl) (once2 : Sl) (Q : Value → WP) : WP := funJ idJ Tryd.prog hoardlaw10_ArcOften_kp Tryd.f6 [.int .i64 room0, .slice often1.a often1.n often1.c, .slice once2.a once2.n once2.c] Q
theorem hoardlaw10_ArcOften_j5_raw (jn : Jn) (Q : Value → WP) (m4 : Nat) (often1 : Sl) (once2 : Sl) (e7 : Option Addr) (i9 : Int) : codeI Tryd.prog hoardlaw10_ArcOften_kp jn (cAt [true, true, true, true, true, false, true, false, false, true, false, false, true] (bodyOf Tryd.f6)) (seqK Tryd.prog hoardlaw10_ArcOften_kp jn (cAt [true, true, true, true, true, false, true, false, false, true, true] (bodyOf Tryd.f6)) (lopK Tryd.prog hoardlaw10_ArcOften_kp jn (cAt [true, true, true, true, true, false, true, false, false] (bodyOf Tryd.f6)) (blkX 2 (seqK Tryd.prog hoardlaw10_ArcOften_kp jn (cAt [true, true, true, true, true, true] (bodyOf Tryd.f6)) (retK Tryd.prog Tryd.f6 Q) noX (retK Tryd.prog Tryd.f6 Q)) noX) (retK Tryd.prog Tryd.f6 Q) m4) (blkX 2 (seqK Tryd.prog hoardlaw10_ArcOften_kp jn (cAt [true, true, true, true, true, true] (bodyOf Tryd.f6)) (retK Tryd.prog Tryd.f6 Q) noX (retK Tryd.prog Tryd.f6 Q)) noX) (retK Tryd.prog Tryd.f6 Q)) (blkX 3 (seqK Tryd.prog hoardlaw10_ArcOften_kp jn (cAt [true, true, true, true, true, false, true, false, false, true, true] (bodyOf Tryd.f6)) (lopK Tryd.prog hoardlaw10_ArcOften_kp jn (cAt [true, true, true, true, true, false, true, false, false] (bodyOf Tryd.f6)) (blkX 2 (seqK Tryd.prog hoardlaw10_ArcOften_kp jn (cAt [true, true, true, true, true, true] (bodyOf Tryd.f6)) (retK Tryd.prog Tryd.f6 Q) noX (retK Tryd.prog Tryd.f6 Q)) noX) (retK Tryd.prog Tryd.f6 Q) m4) (blkX 2 (seqK Tryd.prog hoardlaw10_ArcOften_kp jn (cAt [true, true, true, true, true, true] (bodyOf Tryd.f6)) (retK Tryd.prog Tryd.f6 Q) noX (retK Tryd.prog Tryd.f6 Q)) noX) (retK Tryd.prog Tryd.f6 Q)) (blkX 2 (seqK Tryd.prog hoardlaw10_ArcOften_kp jn (cAt [true, true, true, true, true, true] (bodyOf Tryd.f6)) (retK Tryd.prog Tryd.f6 Q) noX (retK Tryd.prog Tryd.f6 Q)) noX)) (retK Tryd.prog Tryd.f6 Q) (us 1 ((.slice often1.a often1.n often1.c) :: (.slice once2.a once2.n once2.c) :: us 4 ((.pointer e7) :: us 1 ((.int .i64 i9) :: us 87 [])))) = (
  idx once2.a once2.n i9 fun b_24 o_25 =>
  ld .str b_24 (o_25 + (i9).toNat * 1) fun (x_26 : ByteArray) =>
  call2 .bool .slc Tryd.prog id_arc_Engine_Access [.pointer e7, .string x_26] fun (x_27 : Bool) (x_28 : Sl) =>
  hoardlaw10_ArcOften_l4 jn Q  m4 often1 once2 e7 (IntKind.wrap .i64 (i9 + (1 : Int)))) := by kernel_rfl
theorem hoardlaw10_ArcOften_j5_def (Q : Value → WP) (m4 : Nat) (often1 : Sl) (once2 : Sl) (e7 : Option Addr) (i9 : Int) : hoardlaw10_ArcOften_j5 idJ Q m4 often1 once2 e7 i9 = codeI Tryd.prog hoardlaw10_ArcOften_kp idJ (cAt [true, true, true, true, true, false, true, false, false, true, false, false, true] (bodyOf Tryd.f6)) (seqK Tryd.prog hoardlaw10_ArcOften_kp idJ (cAt [true, true, true, true, true, false, true, false, false, true, true] (bodyOf Tryd.f6)) (lopK Tryd.prog hoardlaw10_ArcOften_kp idJ (cAt [true, true, true, true, true, false, true, false, false] (bodyOf Tryd.f6)) (blkX 2 (seqK Tryd.prog hoardlaw10_ArcOften_kp idJ (cAt [true, true, true, true, true, true] (bodyOf Tryd.f6)) (retK Tryd.prog Tryd.f6 Q) noX (retK Tryd.prog Tryd.f6 Q)) noX) (retK Tryd.prog Tryd.f6 Q) m4) (blkX 2 (seqK Tryd.prog hoardlaw10_ArcOften_kp idJ (cAt [true, true, true, true, true, true] (bodyOf Tryd.f6)) (retK Tryd.prog Tryd.f6 Q) noX (retK Tryd.prog Tryd.f6 Q)) noX) (retK Tryd.prog Tryd.f6 Q)) (blkX 3 (seqK Tryd.prog hoardlaw10_ArcOften_kp idJ (cAt [true, true, true, true, true, false, true, false, false, true, true] (bodyOf Tryd.f6)) (lopK Tryd.prog hoardlaw10_ArcOften_kp idJ (cAt [true, true, true, true, true, false, true, false, false] (bodyOf Tryd.f6)) (blkX 2 (seqK Tryd.prog hoardlaw10_ArcOften_kp idJ (cAt [true, true, true, true, true, true] (bodyOf Tryd.f6)) (retK Tryd.prog Tryd.f6 Q) noX (retK Tryd.prog Tryd.f6 Q)) noX) (retK Tryd.prog Tryd.f6 Q) m4) (blkX 2 (seqK Tryd.prog hoardlaw10_ArcOften_kp idJ (cAt [true, true, true, true, true, true] (bodyOf Tryd.f6)) (retK Tryd.prog Tryd.f6 Q) noX (retK Tryd.prog Tryd.f6 Q)) noX) (retK Tryd.prog Tryd.f6 Q)) (blkX 2 (seqK Tryd.prog hoardlaw10_ArcOften_kp idJ (cAt [true, true, true, true, true, true] (bodyOf Tryd.f6)) (retK Tryd.prog Tryd.f6 Q) noX (retK Tryd.prog Tryd.f6 Q)) noX)) (retK Tryd.prog Tryd.f6 Q) (us 1 ((.slice often1.a often1.n often1.c) :: (.slice once2.a once2.n once2.c) :: us 4 ((.pointer e7) :: us 1 ((.int .i64 i9) :: us 87 [])))) := by kernel_rfl
theorem hoardlaw10_ArcOften_j8_raw (jn : Jn) (Q : Value → WP)   : codeI Tryd.prog hoardlaw10_ArcOften_kp jn (cAt [true, true, true, true, true, true, true] (bodyOf Tryd.f6)) (retK Tryd.prog Tryd.f6 Q) noX (retK Tryd.prog Tryd.f6 Q) (us 97 []) = (
  call1 .bool Tryd.prog id_hoardlaw10_known [] fun (x_33 : Bool) =>
  Q (.bool x_33)) := by kernel_rfl
theorem hoardlaw10_ArcOften_j8_def (Q : Value → WP)   : hoardlaw10_ArcOften_j8 idJ Q   = codeI Tryd.prog hoardlaw10_ArcOften_kp idJ (cAt [true, true, true, true, true, true, true] (bodyOf Tryd.f6)) (retK Tryd.prog Tryd.f6 Q) noX (retK Tryd.prog Tryd.f6 Q) (us 97 []) := by kernel_rfl
theorem hoardlaw10_ArcOften_l7_raw (jn : Jn) (Q : Value → WP)  (m7 : Nat) (often1 : Sl) (e7 : Option Addr) (i10 : Int) : hoardlaw10_ArcOften_l7 jn Q  (m7 + 1) often1 e7 i10 = (
  ite2 (decide (i10 < (often1.n : Int))) (
  idx often1.a often1.n i10 fun b_29 o_30 =>
  ld .str b_29 (o_30 + (i10).toNat * 1) fun (x_31 : ByteArray) =>
  call1 .bool Tryd.prog id_arc_Engine_Has [.pointer e7, .string x_31] fun (x_32 : Bool) =>
  ite2 (!x_32) (
  Q (.bool false)) (
  hoardlaw10_ArcOften_l7 jn Q  m7 often1 e7 (IntKind.wrap .i64 (i10 + (1 : Int))))) (
  hoardlaw10_ArcOften_j8 jn Q  )) := by kernel_rfl
theorem hoardlaw10_ArcOften_l7_zero (jn : Jn) (Q : Value → WP)  (often1 : Sl) (e7 : Option Addr) (i10 : Int) : hoardlaw10_ArcOften_l7 jn Q  0 often1 e7 i10 = bot := by kernel_rfl
theorem hoardlaw10_ArcOften_j6_raw (jn : Jn) (Q : Value → WP)  (often1 : Sl) (e7 : Option Addr) : codeI Tryd.prog hoardlaw10_ArcOften_kp jn (cAt [true, true, true, true, true, true] (bodyOf Tryd.f6)) (retK Tryd.prog Tryd.f6 Q) noX (retK Tryd.prog Tryd.f6 Q) (us 1 ((.slice often1.a often1.n often1.c) :: us 5 ((.pointer e7) :: us 89 []))) = (
  exM fun m => hoardlaw10_ArcOften_l7 jn Q  m often1 e7 (0 : Int)) := by kernel_rfl
theorem hoardlaw10_ArcOften_j6_def (Q : Value → WP)  (often1 : Sl) (e7 : Option Addr) : hoardlaw10_ArcOften_j6 idJ Q  often1 e7 = codeI Tryd.prog hoardlaw10_ArcOften_kp idJ (cAt [true, true, true, true, true, true] (bodyOf Tryd.f6)) (retK Tryd.prog Tryd.f6 Q) noX (retK Tryd.prog Tryd.f6 Q) (us 1 ((.slice often1.a often1.n often1.c) :: us 5 ((.pointer e7) :: us 89 []))) := by kernel_rfl
theorem hoardlaw10_ArcOften_l4_raw (jn : Jn) (Q : Value → WP)  (m4 : Nat) (often1 : Sl) (once2 : Sl) (e7 : Option Addr) (i9 : Int) : hoardlaw10_ArcOften_l4 jn Q  (m4 + 1) often1 once2 e7 i9 = (
  ite2 (decide (i9 < (once2.n : Int))) (
  drawW fun S =>
  idx once2.a once2.n i9 fun b_14 o_15 =>
  ld .str b_14 (o_15 + (i9).toNat * 1) fun (x_16 : ByteArray) =>
  call1 .bool Tryd.prog id_hoardlaw10_has [.slice often1.a often1.n often1.c, .string x_16] fun (x_17 : Bool) =>
  ite2 x_17 (
  call1 .bool Tryd.prog id_hoardlaw10_known [] fun (x_18 : Bool) =>
  Q (.bool x_18)) (
  when ((0 : Int) ≤ i9 ∧ i9 ≤ (once2.c : Int)) <|
  idx once2.a once2.n i9 fun b_19 o_20 =>
  ld .str b_19 (o_20 + (i9).toNat * 1) fun (x_21 : ByteArray) =>
  call1 .bool Tryd.prog id_hoardlaw10_has [.slice (subA once2.a 0 once2.c 1) ((i9).toNat - 0) (once2.c - 0), .string x_21] fun (x_22 : Bool) =>
  ite2 x_22 (
  call1 .bool Tryd.prog id_hoardlaw10_known [] fun (x_23 : Bool) =>
  Q (.bool x_23)) (
  hoardlaw10_ArcOften_j5 jn Q m4 often1 once2 e7 i9))) (
  hoardlaw10_ArcOften_j6 jn Q  often1 e7)) := by kernel_rfl
theorem hoardlaw10_ArcOften_l4_zero (jn : Jn) (Q : Value → WP)  (often1 : Sl) (once2 : Sl) (e7 : Option Addr) (i9 : Int) : hoardlaw10_ArcOften_l4 jn Q  0 often1 once2 e7 i9 = bot := by kernel_rfl
theorem hoardlaw10_ArcOften_j3_raw (jn : Jn) (Q : Value → WP)  (often1 : Sl) (once2 : Sl) (e7 : Option Addr) : codeI Tryd.prog hoardlaw10_ArcOften_kp jn (cAt [true, true, true, true, true] (bodyOf Tryd.f6)) (retK Tryd.prog Tryd.f6 Q) noX (retK Tryd.prog Tryd.f6 Q) (us 1 ((.slice often1.a often1.n often1.c) :: (.slice once2.a once2.n once2.c) :: us 4 ((.pointer e7) :: us 89 []))) = (
  exM fun m => hoardlaw10_ArcOften_l4 jn Q  m often1 once2 e7 (0 : Int)) := by kernel_rfl
theorem hoardlaw10_ArcOften_j3_def (Q : Value → WP)  (often1 : Sl) (once2 : Sl) (e7 : Option Addr) : hoardlaw10_ArcOften_j3 idJ Q  often1 once2 e7 = codeI Tryd.prog hoardlaw10_ArcOften_kp idJ (cAt [true, true, true, true, true] (bodyOf Tryd.f6)) (retK Tryd.prog Tryd.f6 Q) noX (retK Tryd.prog Tryd.f6 Q) (us 1 ((.slice often1.a often1.n often1.c) :: (.slice once2.a once2.n once2.c) :: us 4 ((.pointer e7) :: us 89 []))) := by kernel_rfl
theorem hoardlaw10_ArcOften_l2_raw (jn : Jn) (Q : Value → WP)  (m2 : Nat) (often1 : Sl) (once2 : Sl) (e7 : Option Addr) (i8 : Int) : hoardlaw10_ArcOften_l2 jn Q  (m2 + 1) often1 once2 e7 i8 = (
  ite2 (decide (i8 < (often1.n : Int))) (
  idx often1.a often1.n i8 fun b_4 o_5 =>
  ld .str b_4 (o_5 + (i8).toNat * 1) fun (x_6 : ByteArray) =>
  call2 .bool .slc Tryd.prog id_arc_Engine_Access [.pointer e7, .string x_6] fun (x_7 : Bool) (x_8 : Sl) =>
  idx often1.a often1.n i8 fun b_9 o_10 =>
  ld .str b_9 (o_10 + (i8).toNat * 1) fun (x_11 : ByteArray) =>
  call2 .bool .slc Tryd.prog id_arc_Engine_Access [.pointer e7, .string x_11] fun (x_12 : Bool) (x_13 : Sl) =>
  hoardlaw10_ArcOften_l2 jn Q  m2 often1 once2 e7 (IntKind.wrap .i64 (i8 + (1 : Int)))) (
  hoardlaw10_ArcOften_j3 jn Q  often1 once2 e7)) := by kernel_rfl
theorem hoardlaw10_ArcOften_l2_zero (jn : Jn) (Q : Value → WP)  (often1 : Sl) (once2 : Sl) (e7 : Option Addr) (i8 : Int) : hoardlaw10_ArcOften_l2 jn Q  0 often1 once2 e7 i8 = bot := by kernel_rfl
theorem hoardlaw10_ArcOften_j1_raw (jn : Jn) (Q : Value → WP)  (room0 : Int) (often1 : Sl) (once2 : Sl) : codeI Tryd.prog hoardlaw10_ArcOften_kp jn (cAt [true, true] (bodyOf Tryd.f6)) (retK Tryd.prog Tryd.f6 Q) noX (retK Tryd.prog Tryd.f6 Q) ((.int .i64 room0) :: (.slice often1.a often1.n often1.c) :: (.slice once2.a once2.n once2.c) :: us 94 []) = (
  call1 .ptr Tryd.prog id_arc_New [.int .i64 room0] fun (x_3 : Option Addr) =>
  ite2 (Option.isNone x_3) (
  Q (.bool false)) (
  exM fun m => hoardlaw10_ArcOften_l2 jn Q  m often1 once2 x_3 (0 : Int))) := by kernel_rfl
theorem hoardlaw10_ArcOften_j1_def (Q : Value → WP)  (room0 : Int) (often1 : Sl) (once2 : Sl) : hoardlaw10_ArcOften_j1 idJ Q  room0 often1 once2 = codeI Tryd.prog hoardlaw10_ArcOften_kp idJ (cAt [true, true] (bodyOf Tryd.f6)) (retK Tryd.prog Tryd.f6 Q) noX (retK Tryd.prog Tryd.f6 Q) ((.int .i64 room0) :: (.slice often1.a often1.n often1.c) :: (.slice once2.a once2.n once2.c) :: us 94 []) := by kernel_rfl
theorem hoardlaw10_ArcOften_raw (jn : Jn) (room0 : Int) (often1 : Sl) (once2 : Sl) (Q : Value → WP) : funJ jn Tryd.prog hoardlaw10_ArcOften_kp Tryd.f6 [.int .i64 room0, .slice often1.a often1.n often1.c, .slice once2.a once2.n once2.c] Q = (
  ite2 (decide (room0 < (1 : Int))) (
  Q (.bool true)) (
  ite2 (decide (room0 > (50 : Int))) (
  Q (.bool true)) (
  ite2 (decide ((often1.n : Int) > (IntKind.wrap .i64 (room0 - (1 : Int))))) (
  Q (.bool true)) (
  call1 .bool Tryd.prog id_hoardlaw10_long [.slice often1.a often1.n often1.c] fun (x_1 : Bool) =>
  ite2 x_1 (
  Q (.bool true)) (
  call1 .bool Tryd.prog id_hoardlaw10_long [.slice once2.a once2.n once2.c] fun (x_2 : Bool) =>
  ite2 x_2 (
  Q (.bool true)) (
  hoardlaw10_ArcOften_j1 jn Q  room0 often1 once2)))))) := by kernel_rfl
theorem hoardlaw10_ArcOften_def (room0 : Int) (often1 : Sl) (once2 : Sl) (Q : Value → WP) : hoardlaw10_ArcOften room0 often1 once2 Q = funJ idJ Tryd.prog hoardlaw10_ArcOften_kp Tryd.f6 [.int .i64 room0, .slice often1.a often1.n often1.c, .slice once2.a once2.n once2.c] Q := rfl
theorem hoardlaw10_ArcOften_calls {room0 : Int} {often1 : Sl} {once2 : Sl} {Q : Value → WP} {w : World} (h : hoardlaw10_ArcOften room0 often1 once2 Q w) : Calls Tryd.prog id_hoardlaw10_ArcOften #[.int .i64 room0, .slice often1.a often1.n often1.c, .slice once2.a once2.n once2.c] w fun e w' => ∃ v, e = .returned v ∧ Q v w' :=
  funJ_calls mixed Tryd.func6 rfl h

end Go.Proofs.YtchlicgjdlkidaaDoor
