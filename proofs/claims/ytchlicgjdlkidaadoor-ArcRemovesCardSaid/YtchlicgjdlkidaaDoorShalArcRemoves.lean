/- Printed by a program of mine (wip/tools/shal.py): the shallow texts of the loaded functions, each equal to the interpreter's reading by the kernel. -/
import Derived.Test.YtchlicgjdlkidaaDoorShal
set_option linter.unusedVariables false
set_option maxRecDepth 100000
namespace Go.Proofs.YtchlicgjdlkidaaDoor
open Go.Hb

-- hoard/hoardlaw10.ArcRemoves
def hoardlaw10_ArcRemoves_kp : KP := ⟨[(8, [0, 1, 2]), (17, [1, 2, 7, 8, 9]), (20, [1, 2, 7, 8, 9]), (22, [2, 7]), (28, [2, 7, 10, 11]), (31, [2, 7, 10, 11, 12]), (38, [7, 10, 11]), (44, [7, 13])], []⟩
def hoardlaw10_ArcRemoves_j3 (jn : Jn) (Q : Value → WP) (m2 : Nat) (l1 : Sl) (key2 : ByteArray) (e7 : Option Addr) (x8 : Option Addr) (i9 : Int) : WP := jn 20 (fun ρ => codeI Tryd.prog hoardlaw10_ArcRemoves_kp jn (cAt [true, true, true, true, false, true, false, false, true] (bodyOf Tryd.f10)) (lopK Tryd.prog hoardlaw10_ArcRemoves_kp jn (cAt [true, true, true, true, false, true, false, false] (bodyOf Tryd.f10)) (blkX 0 (seqK Tryd.prog hoardlaw10_ArcRemoves_kp jn (cAt [true, true, true, true, true] (bodyOf Tryd.f10)) (retK Tryd.prog Tryd.f10 Q) noX (retK Tryd.prog Tryd.f10 Q)) noX) (retK Tryd.prog Tryd.f10 Q) m2) (blkX 0 (seqK Tryd.prog hoardlaw10_ArcRemoves_kp jn (cAt [true, true, true, true, true] (bodyOf Tryd.f10)) (retK Tryd.prog Tryd.f10 Q) noX (retK Tryd.prog Tryd.f10 Q)) noX) (retK Tryd.prog Tryd.f10 Q) ρ) (us 1 ((.slice l1.a l1.n l1.c) :: (.string key2) :: us 4 ((.pointer e7) :: (.pointer x8) :: (.int .i64 i9) :: us 91 [])))
def hoardlaw10_ArcRemoves_j8 (jn : Jn) (Q : Value → WP)  (e7 : Option Addr) (n13 : Int) : WP := jn 44 (fun ρ => codeI Tryd.prog hoardlaw10_ArcRemoves_kp jn (cAt [true, true, true, true, true, true, true, true, true, true] (bodyOf Tryd.f10)) (retK Tryd.prog Tryd.f10 Q) noX (retK Tryd.prog Tryd.f10 Q) ρ) (us 7 ((.pointer e7) :: us 5 ((.int .i64 n13) :: us 87 [])))
def hoardlaw10_ArcRemoves_j7 (jn : Jn) (Q : Value → WP)  (e7 : Option Addr) (in10 : Sl) (was11 : Bool) : WP := jn 38 (fun ρ => codeI Tryd.prog hoardlaw10_ArcRemoves_kp jn (cAt [true, true, true, true, true, true, true, true] (bodyOf Tryd.f10)) (retK Tryd.prog Tryd.f10 Q) noX (retK Tryd.prog Tryd.f10 Q) ρ) (us 7 ((.pointer e7) :: us 2 ((.slice in10.a in10.n in10.c) :: (.bool was11) :: us 89 [])))
def hoardlaw10_ArcRemoves_l6 (jn : Jn) (Q : Value → WP)  (m6 : Nat) (key2 : ByteArray) (e7 : Option Addr) (in10 : Sl) (was11 : Bool) (i12 : Int) : WP := lop Tryd.prog hoardlaw10_ArcRemoves_kp jn (cAt [true, true, true, true, true, true, true, false, true, false, false] (bodyOf Tryd.f10)) (blkX 2 (seqK Tryd.prog hoardlaw10_ArcRemoves_kp jn (cAt [true, true, true, true, true, true, true, true] (bodyOf Tryd.f10)) (retK Tryd.prog Tryd.f10 Q) noX (retK Tryd.prog Tryd.f10 Q)) noX) (retK Tryd.prog Tryd.f10 Q) m6 (us 2 ((.string key2) :: us 4 ((.pointer e7) :: us 2 ((.slice in10.a in10.n in10.c) :: (.bool was11) :: (.int .i64 i12) :: us 88 []))))
def hoardlaw10_ArcRemoves_j5 (jn : Jn) (Q : Value → WP)  (key2 : ByteArray) (e7 : Option Addr) (in10 : Sl) (was11 : Bool) : WP := jn 28 (fun ρ => codeI Tryd.prog hoardlaw10_ArcRemoves_kp jn (cAt [true, true, true, true, true, true, true] (bodyOf Tryd.f10)) (retK Tryd.prog Tryd.f10 Q) noX (retK Tryd.prog Tryd.f10 Q) ρ) (us 2 ((.string key2) :: us 4 ((.pointer e7) :: us 2 ((.slice in10.a in10.n in10.c) :: (.bool was11) :: us 89 []))))
def hoardlaw10_ArcRemoves_j4 (jn : Jn) (Q : Value → WP)  (key2 : ByteArray) (e7 : Option Addr) : WP := jn 22 (fun ρ => codeI Tryd.prog hoardlaw10_ArcRemoves_kp jn (cAt [true, true, true, true, true] (bodyOf Tryd.f10)) (retK Tryd.prog Tryd.f10 Q) noX (retK Tryd.prog Tryd.f10 Q) ρ) (us 2 ((.string key2) :: us 4 ((.pointer e7) :: us 93 [])))
def hoardlaw10_ArcRemoves_l2 (jn : Jn) (Q : Value → WP)  (m2 : Nat) (l1 : Sl) (key2 : ByteArray) (e7 : Option Addr) (x8 : Option Addr) (i9 : Int) : WP := lop Tryd.prog hoardlaw10_ArcRemoves_kp jn (cAt [true, true, true, true, false, true, false, false] (bodyOf Tryd.f10)) (blkX 0 (seqK Tryd.prog hoardlaw10_ArcRemoves_kp jn (cAt [true, true, true, true, true] (bodyOf Tryd.f10)) (retK Tryd.prog Tryd.f10 Q) noX (retK Tryd.prog Tryd.f10 Q)) noX) (retK Tryd.prog Tryd.f10 Q) m2 (us 1 ((.slice l1.a l1.n l1.c) :: (.string key2) :: us 4 ((.pointer e7) :: (.pointer x8) :: (.int .i64 i9) :: us 91 [])))
def hoardlaw10_ArcRemoves_j1 (jn : Jn) (Q : Value → WP)  (room0 : Int) (l1 : Sl) (key2 : ByteArray) : WP := jn 8 (fun ρ => codeI Tryd.prog hoardlaw10_ArcRemoves_kp jn (cAt [true, true] (bodyOf Tryd.f10)) (retK Tryd.prog Tryd.f10 Q) noX (retK Tryd.prog Tryd.f10 Q) ρ) ((.int .i64 room0) :: (.slice l1.a l1.n l1.c) :: (.string key2) :: us 98 [])
def hoardlaw10_ArcRemoves (room0 : Int) (l1 : Sl) (key2 : ByteArray) (Q : Value → WP) : WP := funJ idJ Tryd.prog hoardlaw10_ArcRemoves_kp Tryd.f10 [.int .i64 room0, .slice l1.a l1.n l1.c, .string key2] Q
theorem hoardlaw10_ArcRemoves_j3_raw (jn : Jn) (Q : Value → WP) (m2 : Nat) (l1 : Sl) (key2 : ByteArray) (e7 : Option Addr) (x8 : Option Addr) (i9 : Int) : codeI Tryd.prog hoardlaw10_ArcRemoves_kp jn (cAt [true, true, true, true, false, true, false, false, true] (bodyOf Tryd.f10)) (lopK Tryd.prog hoardlaw10_ArcRemoves_kp jn (cAt [true, true, true, true, false, true, false, false] (bodyOf Tryd.f10)) (blkX 0 (seqK Tryd.prog hoardlaw10_ArcRemoves_kp jn (cAt [true, true, true, true, true] (bodyOf Tryd.f10)) (retK Tryd.prog Tryd.f10 Q) noX (retK Tryd.prog Tryd.f10 Q)) noX) (retK Tryd.prog Tryd.f10 Q) m2) (blkX 0 (seqK Tryd.prog hoardlaw10_ArcRemoves_kp jn (cAt [true, true, true, true, true] (bodyOf Tryd.f10)) (retK Tryd.prog Tryd.f10 Q) noX (retK Tryd.prog Tryd.f10 Q)) noX) (retK Tryd.prog Tryd.f10 Q) (us 1 ((.slice l1.a l1.n l1.c) :: (.string key2) :: us 4 ((.pointer e7) :: (.pointer x8) :: (.int .i64 i9) :: us 91 []))) = (
  idx l1.a l1.n i9 fun b_4 o_5 =>
  ld (.int .i64) b_4 (o_5 + (i9).toNat * 2) fun (x_6 : Int) =>
  ld .str b_4 ((o_5 + (i9).toNat * 2) + 1) fun (x_7 : ByteArray) =>
  call1 .bool Tryd.prog id_hoardlaw10_act [.pointer e7, .pointer x8, .agg #[.int .i64 x_6, .string x_7]] fun (x_8 : Bool) =>
  hoardlaw10_ArcRemoves_l2 jn Q  m2 l1 key2 e7 x8 (IntKind.wrap .i64 (i9 + (1 : Int)))) := by kernel_rfl
theorem hoardlaw10_ArcRemoves_j3_def (Q : Value → WP) (m2 : Nat) (l1 : Sl) (key2 : ByteArray) (e7 : Option Addr) (x8 : Option Addr) (i9 : Int) : hoardlaw10_ArcRemoves_j3 idJ Q m2 l1 key2 e7 x8 i9 = codeI Tryd.prog hoardlaw10_ArcRemoves_kp idJ (cAt [true, true, true, true, false, true, false, false, true] (bodyOf Tryd.f10)) (lopK Tryd.prog hoardlaw10_ArcRemoves_kp idJ (cAt [true, true, true, true, false, true, false, false] (bodyOf Tryd.f10)) (blkX 0 (seqK Tryd.prog hoardlaw10_ArcRemoves_kp idJ (cAt [true, true, true, true, true] (bodyOf Tryd.f10)) (retK Tryd.prog Tryd.f10 Q) noX (retK Tryd.prog Tryd.f10 Q)) noX) (retK Tryd.prog Tryd.f10 Q) m2) (blkX 0 (seqK Tryd.prog hoardlaw10_ArcRemoves_kp idJ (cAt [true, true, true, true, true] (bodyOf Tryd.f10)) (retK Tryd.prog Tryd.f10 Q) noX (retK Tryd.prog Tryd.f10 Q)) noX) (retK Tryd.prog Tryd.f10 Q) (us 1 ((.slice l1.a l1.n l1.c) :: (.string key2) :: us 4 ((.pointer e7) :: (.pointer x8) :: (.int .i64 i9) :: us 91 []))) := by kernel_rfl
theorem hoardlaw10_ArcRemoves_j8_raw (jn : Jn) (Q : Value → WP)  (e7 : Option Addr) (n13 : Int) : codeI Tryd.prog hoardlaw10_ArcRemoves_kp jn (cAt [true, true, true, true, true, true, true, true, true, true] (bodyOf Tryd.f10)) (retK Tryd.prog Tryd.f10 Q) noX (retK Tryd.prog Tryd.f10 Q) (us 7 ((.pointer e7) :: us 5 ((.int .i64 n13) :: us 87 []))) = (
  call1 (.int .i64) Tryd.prog id_arc_Engine_Len [.pointer e7] fun (x_22 : Int) =>
  ite2 (x_22 == n13) (
  call1 .bool Tryd.prog id_hoardlaw10_known [] fun (x_23 : Bool) =>
  Q (.bool x_23)) (
  Q (.bool false))) := by kernel_rfl
theorem hoardlaw10_ArcRemoves_j8_def (Q : Value → WP)  (e7 : Option Addr) (n13 : Int) : hoardlaw10_ArcRemoves_j8 idJ Q  e7 n13 = codeI Tryd.prog hoardlaw10_ArcRemoves_kp idJ (cAt [true, true, true, true, true, true, true, true, true, true] (bodyOf Tryd.f10)) (retK Tryd.prog Tryd.f10 Q) noX (retK Tryd.prog Tryd.f10 Q) (us 7 ((.pointer e7) :: us 5 ((.int .i64 n13) :: us 87 []))) := by kernel_rfl
theorem hoardlaw10_ArcRemoves_j7_raw (jn : Jn) (Q : Value → WP)  (e7 : Option Addr) (in10 : Sl) (was11 : Bool) : codeI Tryd.prog hoardlaw10_ArcRemoves_kp jn (cAt [true, true, true, true, true, true, true, true] (bodyOf Tryd.f10)) (retK Tryd.prog Tryd.f10 Q) noX (retK Tryd.prog Tryd.f10 Q) (us 7 ((.pointer e7) :: us 2 ((.slice in10.a in10.n in10.c) :: (.bool was11) :: us 89 []))) = (
  ite2 was11 (
  hoardlaw10_ArcRemoves_j8 jn Q  e7 (IntKind.wrap .i64 ((in10.n : Int) - (1 : Int)))) (
  hoardlaw10_ArcRemoves_j8 jn Q  e7 (in10.n : Int))) := by kernel_rfl
theorem hoardlaw10_ArcRemoves_j7_def (Q : Value → WP)  (e7 : Option Addr) (in10 : Sl) (was11 : Bool) : hoardlaw10_ArcRemoves_j7 idJ Q  e7 in10 was11 = codeI Tryd.prog hoardlaw10_ArcRemoves_kp idJ (cAt [true, true, true, true, true, true, true, true] (bodyOf Tryd.f10)) (retK Tryd.prog Tryd.f10 Q) noX (retK Tryd.prog Tryd.f10 Q) (us 7 ((.pointer e7) :: us 2 ((.slice in10.a in10.n in10.c) :: (.bool was11) :: us 89 []))) := by kernel_rfl
theorem hoardlaw10_ArcRemoves_l6_raw (jn : Jn) (Q : Value → WP)  (m6 : Nat) (key2 : ByteArray) (e7 : Option Addr) (in10 : Sl) (was11 : Bool) (i12 : Int) : hoardlaw10_ArcRemoves_l6 jn Q  (m6 + 1) key2 e7 in10 was11 i12 = (
  ite2 (decide (i12 < (in10.n : Int))) (
  idx in10.a in10.n i12 fun b_15 o_16 =>
  ld .str b_15 (o_16 + (i12).toNat * 1) fun (x_17 : ByteArray) =>
  ite2 (!sEq x_17 key2) (
  idx in10.a in10.n i12 fun b_18 o_19 =>
  ld .str b_18 (o_19 + (i12).toNat * 1) fun (x_20 : ByteArray) =>
  call1 .bool Tryd.prog id_arc_Engine_Has [.pointer e7, .string x_20] fun (x_21 : Bool) =>
  ite2 (!x_21) (
  Q (.bool false)) (
  hoardlaw10_ArcRemoves_l6 jn Q  m6 key2 e7 in10 was11 (IntKind.wrap .i64 (i12 + (1 : Int))))) (
  hoardlaw10_ArcRemoves_l6 jn Q  m6 key2 e7 in10 was11 (IntKind.wrap .i64 (i12 + (1 : Int))))) (
  hoardlaw10_ArcRemoves_j7 jn Q  e7 in10 was11)) := by kernel_rfl
theorem hoardlaw10_ArcRemoves_l6_zero (jn : Jn) (Q : Value → WP)  (key2 : ByteArray) (e7 : Option Addr) (in10 : Sl) (was11 : Bool) (i12 : Int) : hoardlaw10_ArcRemoves_l6 jn Q  0 key2 e7 in10 was11 i12 = bot := by kernel_rfl
theorem hoardlaw10_ArcRemoves_j5_raw (jn : Jn) (Q : Value → WP)  (key2 : ByteArray) (e7 : Option Addr) (in10 : Sl) (was11 : Bool) : codeI Tryd.prog hoardlaw10_ArcRemoves_kp jn (cAt [true, true, true, true, true, true, true] (bodyOf Tryd.f10)) (retK Tryd.prog Tryd.f10 Q) noX (retK Tryd.prog Tryd.f10 Q) (us 2 ((.string key2) :: us 4 ((.pointer e7) :: us 2 ((.slice in10.a in10.n in10.c) :: (.bool was11) :: us 89 [])))) = (
  exM fun m => hoardlaw10_ArcRemoves_l6 jn Q  m key2 e7 in10 was11 (0 : Int)) := by kernel_rfl
theorem hoardlaw10_ArcRemoves_j5_def (Q : Value → WP)  (key2 : ByteArray) (e7 : Option Addr) (in10 : Sl) (was11 : Bool) : hoardlaw10_ArcRemoves_j5 idJ Q  key2 e7 in10 was11 = codeI Tryd.prog hoardlaw10_ArcRemoves_kp idJ (cAt [true, true, true, true, true, true, true] (bodyOf Tryd.f10)) (retK Tryd.prog Tryd.f10 Q) noX (retK Tryd.prog Tryd.f10 Q) (us 2 ((.string key2) :: us 4 ((.pointer e7) :: us 2 ((.slice in10.a in10.n in10.c) :: (.bool was11) :: us 89 [])))) := by kernel_rfl
theorem hoardlaw10_ArcRemoves_j4_raw (jn : Jn) (Q : Value → WP)  (key2 : ByteArray) (e7 : Option Addr) : codeI Tryd.prog hoardlaw10_ArcRemoves_kp jn (cAt [true, true, true, true, true] (bodyOf Tryd.f10)) (retK Tryd.prog Tryd.f10 Q) noX (retK Tryd.prog Tryd.f10 Q) (us 2 ((.string key2) :: us 4 ((.pointer e7) :: us 93 []))) = (
  call1 .slc Tryd.prog id_arc_Engine_Keys [.pointer e7] fun (x_9 : Sl) =>
  call1 .bool Tryd.prog id_arc_Engine_Has [.pointer e7, .string key2] fun (x_10 : Bool) =>
  call1 .bool Tryd.prog id_arc_Engine_Remove [.pointer e7, .string key2] fun (x_11 : Bool) =>
  ite2 (!(x_11 == x_10)) (
  Q (.bool false)) (
  call1 .bool Tryd.prog id_arc_Engine_Has [.pointer e7, .string key2] fun (x_12 : Bool) =>
  ite2 x_12 (
  Q (.bool false)) (
  ite2 x_10 (
  call1 .slc Tryd.prog id_arc_Engine_Ghosts [.pointer e7] fun (x_13 : Sl) =>
  call1 .bool Tryd.prog id_hoardlaw10_has [.slice x_13.a x_13.n x_13.c, .string key2] fun (x_14 : Bool) =>
  ite2 x_14 (
  Q (.bool false)) (
  hoardlaw10_ArcRemoves_j5 jn Q  key2 e7 x_9 x_10)) (
  hoardlaw10_ArcRemoves_j5 jn Q  key2 e7 x_9 x_10)))) := by kernel_rfl
theorem hoardlaw10_ArcRemoves_j4_def (Q : Value → WP)  (key2 : ByteArray) (e7 : Option Addr) : hoardlaw10_ArcRemoves_j4 idJ Q  key2 e7 = codeI Tryd.prog hoardlaw10_ArcRemoves_kp idJ (cAt [true, true, true, true, true] (bodyOf Tryd.f10)) (retK Tryd.prog Tryd.f10 Q) noX (retK Tryd.prog Tryd.f10 Q) (us 2 ((.string key2) :: us 4 ((.pointer e7) :: us 93 []))) := by kernel_rfl
theorem hoardlaw10_ArcRemoves_l2_raw (jn : Jn) (Q : Value → WP)  (m2 : Nat) (l1 : Sl) (key2 : ByteArray) (e7 : Option Addr) (x8 : Option Addr) (i9 : Int) : hoardlaw10_ArcRemoves_l2 jn Q  (m2 + 1) l1 key2 e7 x8 i9 = (
  ite2 (decide (i9 < (l1.n : Int))) (
  ite2 (decide (i9 < (200 : Int))) (
  hoardlaw10_ArcRemoves_j3 jn Q m2 l1 key2 e7 x8 i9) (
  hoardlaw10_ArcRemoves_j4 jn Q  key2 e7)) (
  hoardlaw10_ArcRemoves_j4 jn Q  key2 e7)) := by kernel_rfl
theorem hoardlaw10_ArcRemoves_l2_zero (jn : Jn) (Q : Value → WP)  (l1 : Sl) (key2 : ByteArray) (e7 : Option Addr) (x8 : Option Addr) (i9 : Int) : hoardlaw10_ArcRemoves_l2 jn Q  0 l1 key2 e7 x8 i9 = bot := by kernel_rfl
theorem hoardlaw10_ArcRemoves_j1_raw (jn : Jn) (Q : Value → WP)  (room0 : Int) (l1 : Sl) (key2 : ByteArray) : codeI Tryd.prog hoardlaw10_ArcRemoves_kp jn (cAt [true, true] (bodyOf Tryd.f10)) (retK Tryd.prog Tryd.f10 Q) noX (retK Tryd.prog Tryd.f10 Q) ((.int .i64 room0) :: (.slice l1.a l1.n l1.c) :: (.string key2) :: us 98 []) = (
  call1 .ptr Tryd.prog id_arc_New [.int .i64 room0] fun (x_2 : Option Addr) =>
  call1 .ptr Tryd.prog id_hoardref10_New [.int .i64 room0] fun (x_3 : Option Addr) =>
  ite2 (Option.isNone x_2) (
  Q (.bool false)) (
  exM fun m => hoardlaw10_ArcRemoves_l2 jn Q  m l1 key2 x_2 x_3 (0 : Int))) := by kernel_rfl
theorem hoardlaw10_ArcRemoves_j1_def (Q : Value → WP)  (room0 : Int) (l1 : Sl) (key2 : ByteArray) : hoardlaw10_ArcRemoves_j1 idJ Q  room0 l1 key2 = codeI Tryd.prog hoardlaw10_ArcRemoves_kp idJ (cAt [true, true] (bodyOf Tryd.f10)) (retK Tryd.prog Tryd.f10 Q) noX (retK Tryd.prog Tryd.f10 Q) ((.int .i64 room0) :: (.slice l1.a l1.n l1.c) :: (.string key2) :: us 98 []) := by kernel_rfl
theorem hoardlaw10_ArcRemoves_raw (jn : Jn) (room0 : Int) (l1 : Sl) (key2 : ByteArray) (Q : Value → WP) : funJ jn Tryd.prog hoardlaw10_ArcRemoves_kp Tryd.f10 [.int .i64 room0, .slice l1.a l1.n l1.c, .string key2] Q = (
  call1 .bool Tryd.prog id_hoardlaw10_heavy [.slice l1.a l1.n l1.c] fun (x_1 : Bool) =>
  ite2 x_1 (
  Q (.bool true)) (
  ite2 (decide ((key2.size : Int) > (40 : Int))) (
  Q (.bool true)) (
  hoardlaw10_ArcRemoves_j1 jn Q  room0 l1 key2))) := by kernel_rfl
theorem hoardlaw10_ArcRemoves_def (room0 : Int) (l1 : Sl) (key2 : ByteArray) (Q : Value → WP) : hoardlaw10_ArcRemoves room0 l1 key2 Q = funJ idJ Tryd.prog hoardlaw10_ArcRemoves_kp Tryd.f10 [.int .i64 room0, .slice l1.a l1.n l1.c, .string key2] Q := rfl
theorem hoardlaw10_ArcRemoves_calls {room0 : Int} {l1 : Sl} {key2 : ByteArray} {Q : Value → WP} {w : World} (h : hoardlaw10_ArcRemoves room0 l1 key2 Q w) : Calls Tryd.prog id_hoardlaw10_ArcRemoves #[.int .i64 room0, .slice l1.a l1.n l1.c, .string key2] w fun e w' => ∃ v, e = .returned v ∧ Q v w' :=
  funJ_calls mixed Tryd.func10 rfl h

end Go.Proofs.YtchlicgjdlkidaaDoor
