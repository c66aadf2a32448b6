/- Printed by a program of mine (wip/tools/shal.py): the shallow texts of the loaded functions, each equal to the interpreter's reading by the kernel. -/
import Derived.Test.YtchlicgjdlkidaaDoorShal
set_option linter.unusedVariables false
set_option maxRecDepth 100000
namespace Go.Proofs.YtchlicgjdlkidaaDoor
open Go.Hb

-- hoard/hoardlaw10.ArcLoads
def hoardlaw10_ArcLoads_kp : KP := ⟨[(8, [0, 1, 2]), (17, [1, 2, 7, 8, 9]), (20, [1, 2, 7, 8, 9]), (22, [2, 7]), (25, [2, 7, 10]), (26, [2, 7, 10]), (38, [2, 7, 10, 13]), (41, [2, 7, 10, 13, 15]), (48, [])], []⟩
def hoardlaw10_ArcLoads_j3 (jn : Jn) (Q : Value → WP) (m2 : Nat) (l1 : Sl) (keys2 : Sl) (e7 : Option Addr) (x8 : Option Addr) (i9 : Int) : WP := jn 20 (fun ρ => codeI Tryd.prog hoardlaw10_ArcLoads_kp jn (cAt [true, true, true, true, false, true, false, false, true] (bodyOf Tryd.f9)) (lopK Tryd.prog hoardlaw10_ArcLoads_kp jn (cAt [true, true, true, true, false, true, false, false] (bodyOf Tryd.f9)) (blkX 0 (seqK Tryd.prog hoardlaw10_ArcLoads_kp jn (cAt [true, true, true, true, true] (bodyOf Tryd.f9)) (retK Tryd.prog Tryd.f9 Q) noX (retK Tryd.prog Tryd.f9 Q)) noX) (retK Tryd.prog Tryd.f9 Q) m2) (blkX 0 (seqK Tryd.prog hoardlaw10_ArcLoads_kp jn (cAt [true, true, true, true, true] (bodyOf Tryd.f9)) (retK Tryd.prog Tryd.f9 Q) noX (retK Tryd.prog Tryd.f9 Q)) noX) (retK Tryd.prog Tryd.f9 Q) ρ) (us 1 ((.slice l1.a l1.n l1.c) :: (.slice keys2.a keys2.n keys2.c) :: us 4 ((.pointer e7) :: (.pointer x8) :: (.int .i64 i9) :: us 110 [])))
def hoardlaw10_ArcLoads_j8 (jn : Jn) (Q : Value → WP) (m5 : Nat) (keys2 : Sl) (e7 : Option Addr) (i10 : Int) : WP := jn 26 (fun ρ => codeI Tryd.prog hoardlaw10_ArcLoads_kp jn (cAt [true, true, true, true, true, false, true, false, false, true, true] (bodyOf Tryd.f9)) (lopK Tryd.prog hoardlaw10_ArcLoads_kp jn (cAt [true, true, true, true, true, false, true, false, false] (bodyOf Tryd.f9)) (blkX 2 (seqK Tryd.prog hoardlaw10_ArcLoads_kp jn (cAt [true, true, true, true, true, true] (bodyOf Tryd.f9)) (retK Tryd.prog Tryd.f9 Q) noX (retK Tryd.prog Tryd.f9 Q)) noX) (retK Tryd.prog Tryd.f9 Q) m5) (blkX 2 (seqK Tryd.prog hoardlaw10_ArcLoads_kp jn (cAt [true, true, true, true, true, true] (bodyOf Tryd.f9)) (retK Tryd.prog Tryd.f9 Q) noX (retK Tryd.prog Tryd.f9 Q)) noX) (retK Tryd.prog Tryd.f9 Q) ρ) (us 2 ((.slice keys2.a keys2.n keys2.c) :: us 4 ((.pointer e7) :: us 2 ((.int .i64 i10) :: us 109 []))))
def hoardlaw10_ArcLoads_l7 (jn : Jn) (Q : Value → WP) (m5 : Nat) (m7 : Nat) (keys2 : Sl) (e7 : Option Addr) (i10 : Int) (in13 : Sl) (k15 : Int) : WP := lop Tryd.prog hoardlaw10_ArcLoads_kp jn (cAt [true, true, true, true, true, false, true, false, false, true, false, false, true, true, true, true, true, false, false] (bodyOf Tryd.f9)) (blkX 4 (seqK Tryd.prog hoardlaw10_ArcLoads_kp jn (cAt [true, true, true, true, true, false, true, false, false, true, true] (bodyOf Tryd.f9)) (lopK Tryd.prog hoardlaw10_ArcLoads_kp jn (cAt [true, true, true, true, true, false, true, false, false] (bodyOf Tryd.f9)) (blkX 2 (seqK Tryd.prog hoardlaw10_ArcLoads_kp jn (cAt [true, true, true, true, true, true] (bodyOf Tryd.f9)) (retK Tryd.prog Tryd.f9 Q) noX (retK Tryd.prog Tryd.f9 Q)) noX) (retK Tryd.prog Tryd.f9 Q) m5) (blkX 2 (seqK Tryd.prog hoardlaw10_ArcLoads_kp jn (cAt [true, true, true, true, true, true] (bodyOf Tryd.f9)) (retK Tryd.prog Tryd.f9 Q) noX (retK Tryd.prog Tryd.f9 Q)) noX) (retK Tryd.prog Tryd.f9 Q)) (blkX 3 (seqK Tryd.prog hoardlaw10_ArcLoads_kp jn (cAt [true, true, true, true, true, false, true, false, false, true, true] (bodyOf Tryd.f9)) (lopK Tryd.prog hoardlaw10_ArcLoads_kp jn (cAt [true, true, true, true, true, false, true, false, false] (bodyOf Tryd.f9)) (blkX 2 (seqK Tryd.prog hoardlaw10_ArcLoads_kp jn (cAt [true, true, true, true, true, true] (bodyOf Tryd.f9)) (retK Tryd.prog Tryd.f9 Q) noX (retK Tryd.prog Tryd.f9 Q)) noX) (retK Tryd.prog Tryd.f9 Q) m5) (blkX 2 (seqK Tryd.prog hoardlaw10_ArcLoads_kp jn (cAt [true, true, true, true, true, true] (bodyOf Tryd.f9)) (retK Tryd.prog Tryd.f9 Q) noX (retK Tryd.prog Tryd.f9 Q)) noX) (retK Tryd.prog Tryd.f9 Q)) (blkX 2 (seqK Tryd.prog hoardlaw10_ArcLoads_kp jn (cAt [true, true, true, true, true, true] (bodyOf Tryd.f9)) (retK Tryd.prog Tryd.f9 Q) noX (retK Tryd.prog Tryd.f9 Q)) noX))) (retK Tryd.prog Tryd.f9 Q) m7 (us 2 ((.slice keys2.a keys2.n keys2.c) :: us 4 ((.pointer e7) :: us 2 ((.int .i64 i10) :: us 2 ((.slice in13.a in13.n in13.c) :: us 1 ((.int .i64 k15) :: us 104 []))))))
def hoardlaw10_ArcLoads_j6 (jn : Jn) (Q : Value → WP) (m5 : Nat) (keys2 : Sl) (e7 : Option Addr) (i10 : Int) (in13 : Sl) : WP := jn 38 (fun ρ => codeI Tryd.prog hoardlaw10_ArcLoads_kp jn (cAt [true, true, true, true, true, false, true, false, false, true, false, false, true, true, true, true] (bodyOf Tryd.f9)) (seqK Tryd.prog hoardlaw10_ArcLoads_kp jn (cAt [true, true, true, true, true, false, true, false, false, true, true] (bodyOf Tryd.f9)) (lopK Tryd.prog hoardlaw10_ArcLoads_kp jn (cAt [true, true, true, true, true, false, true, false, false] (bodyOf Tryd.f9)) (blkX 2 (seqK Tryd.prog hoardlaw10_ArcLoads_kp jn (cAt [true, true, true, true, true, true] (bodyOf Tryd.f9)) (retK Tryd.prog Tryd.f9 Q) noX (retK Tryd.prog Tryd.f9 Q)) noX) (retK Tryd.prog Tryd.f9 Q) m5) (blkX 2 (seqK Tryd.prog hoardlaw10_ArcLoads_kp jn (cAt [true, true, true, true, true, true] (bodyOf Tryd.f9)) (retK Tryd.prog Tryd.f9 Q) noX (retK Tryd.prog Tryd.f9 Q)) noX) (retK Tryd.prog Tryd.f9 Q)) (blkX 3 (seqK Tryd.prog hoardlaw10_ArcLoads_kp jn (cAt [true, true, true, true, true, false, true, false, false, true, true] (bodyOf Tryd.f9)) (lopK Tryd.prog hoardlaw10_ArcLoads_kp jn (cAt [true, true, true, true, true, false, true, false, false] (bodyOf Tryd.f9)) (blkX 2 (seqK Tryd.prog hoardlaw10_ArcLoads_kp jn (cAt [true, true, true, true, true, true] (bodyOf Tryd.f9)) (retK Tryd.prog Tryd.f9 Q) noX (retK Tryd.prog Tryd.f9 Q)) noX) (retK Tryd.prog Tryd.f9 Q) m5) (blkX 2 (seqK Tryd.prog hoardlaw10_ArcLoads_kp jn (cAt [true, true, true, true, true, true] (bodyOf Tryd.f9)) (retK Tryd.prog Tryd.f9 Q) noX (retK Tryd.prog Tryd.f9 Q)) noX) (retK Tryd.prog Tryd.f9 Q)) (blkX 2 (seqK Tryd.prog hoardlaw10_ArcLoads_kp jn (cAt [true, true, true, true, true, true] (bodyOf Tryd.f9)) (retK Tryd.prog Tryd.f9 Q) noX (retK Tryd.prog Tryd.f9 Q)) noX)) (retK Tryd.prog Tryd.f9 Q) ρ) (us 2 ((.slice keys2.a keys2.n keys2.c) :: us 4 ((.pointer e7) :: us 2 ((.int .i64 i10) :: us 2 ((.slice in13.a in13.n in13.c) :: us 106 [])))))
def hoardlaw10_ArcLoads_j9 (jn : Jn) (Q : Value → WP)   : WP := jn 48 (fun ρ => codeI Tryd.prog hoardlaw10_ArcLoads_kp jn (cAt [true, true, true, true, true, true] (bodyOf Tryd.f9)) (retK Tryd.prog Tryd.f9 Q) noX (retK Tryd.prog Tryd.f9 Q) ρ) (us 120 [])
def hoardlaw10_ArcLoads_l5 (jn : Jn) (Q : Value → WP)  (m5 : Nat) (keys2 : Sl) (e7 : Option Addr) (i10 : Int) : WP := lop Tryd.prog hoardlaw10_ArcLoads_kp jn (cAt [true, true, true, true, true, false, true, false, false] (bodyOf Tryd.f9)) (blkX 2 (seqK Tryd.prog hoardlaw10_ArcLoads_kp jn (cAt [true, true, true, true, true, true] (bodyOf Tryd.f9)) (retK Tryd.prog Tryd.f9 Q) noX (retK Tryd.prog Tryd.f9 Q)) noX) (retK Tryd.prog Tryd.f9 Q) m5 (us 2 ((.slice keys2.a keys2.n keys2.c) :: us 4 ((.pointer e7) :: us 2 ((.int .i64 i10) :: us 109 []))))
def hoardlaw10_ArcLoads_j4 (jn : Jn) (Q : Value → WP)  (keys2 : Sl) (e7 : Option Addr) : WP := jn 22 (fun ρ => codeI Tryd.prog hoardlaw10_ArcLoads_kp jn (cAt [true, true, true, true, true] (bodyOf Tryd.f9)) (retK Tryd.prog Tryd.f9 Q) noX (retK Tryd.prog Tryd.f9 Q) ρ) (us 2 ((.slice keys2.a keys2.n keys2.c) :: us 4 ((.pointer e7) :: us 112 [])))
def hoardlaw10_ArcLoads_l2 (jn : Jn) (Q : Value → WP)  (m2 : Nat) (l1 : Sl) (keys2 : Sl) (e7 : Option Addr) (x8 : Option Addr) (i9 : Int) : WP := lop Tryd.prog hoardlaw10_ArcLoads_kp jn (cAt [true, true, true, true, false, true, false, false] (bodyOf Tryd.f9)) (blkX 0 (seqK Tryd.prog hoardlaw10_ArcLoads_kp jn (cAt [true, true, true, true, true] (bodyOf Tryd.f9)) (retK Tryd.prog Tryd.f9 Q) noX (retK Tryd.prog Tryd.f9 Q)) noX) (retK Tryd.prog Tryd.f9 Q) m2 (us 1 ((.slice l1.a l1.n l1.c) :: (.slice keys2.a keys2.n keys2.c) :: us 4 ((.pointer e7) :: (.pointer x8) :: (.int .i64 i9) :: us 110 [])))
def hoardlaw10_ArcLoads_j1 (jn : Jn) (Q : Value → WP)  (room0 : Int) (l1 : Sl) (keys2 : Sl) : WP := jn 8 (fun ρ => codeI Tryd.prog hoardlaw10_ArcLoads_kp jn (cAt [true, true] (bodyOf Tryd.f9)) (retK Tryd.prog Tryd.f9 Q) noX (retK Tryd.prog Tryd.f9 Q) ρ) ((.int .i64 room0) :: (.slice l1.a l1.n l1.c) :: (.slice keys2.a keys2.n keys2.c) :: us 117 [])
def hoardlaw10_ArcLoads (room0 : Int) (l1 : Sl) (keys2 : Sl) (Q : Value → WP) : WP := funJ idJ Tryd.prog hoardlaw10_ArcLoads_kp Tryd.f9 [.int .i64 room0, .slice l1.a l1.n l1.c, .slice keys2.a keys2.n keys2.c] Q
theorem hoardlaw10_ArcLoads_j3_raw (jn : Jn) (Q : Value → WP) (m2 : Nat) (l1 : Sl) (keys2 : Sl) (e7 : Option Addr) (x8 : Option Addr) (i9 : Int) : codeI Tryd.prog hoardlaw10_ArcLoads_kp jn (cAt [true, true, true, true, false, true, false, false, true] (bodyOf Tryd.f9)) (lopK Tryd.prog hoardlaw10_ArcLoads_kp jn (cAt [true, true, true, true, false, true, false, false] (bodyOf Tryd.f9)) (blkX 0 (seqK Tryd.prog hoardlaw10_ArcLoads_kp jn (cAt [true, true, true, true, true] (bodyOf Tryd.f9)) (retK Tryd.prog Tryd.f9 Q) noX (retK Tryd.prog Tryd.f9 Q)) noX) (retK Tryd.prog Tryd.f9 Q) m2) (blkX 0 (seqK Tryd.prog hoardlaw10_ArcLoads_kp jn (cAt [true, true, true, true, true] (bodyOf Tryd.f9)) (retK Tryd.prog Tryd.f9 Q) noX (retK Tryd.prog Tryd.f9 Q)) noX) (retK Tryd.prog Tryd.f9 Q) (us 1 ((.slice l1.a l1.n l1.c) :: (.slice keys2.a keys2.n keys2.c) :: us 4 ((.pointer e7) :: (.pointer x8) :: (.int .i64 i9) :: us 110 []))) = (
  idx l1.a l1.n i9 fun b_5 o_6 =>
  ld (.int .i64) b_5 (o_6 + (i9).toNat * 2) fun (x_7 : Int) =>
  ld .str b_5 ((o_6 + (i9).toNat * 2) + 1) fun (x_8 : ByteArray) =>
  call1 .bool Tryd.prog id_hoardlaw10_act [.pointer e7, .pointer x8, .agg #[.int .i64 x_7, .string x_8]] fun (x_9 : Bool) =>
  hoardlaw10_ArcLoads_l2 jn Q  m2 l1 keys2 e7 x8 (IntKind.wrap .i64 (i9 + (1 : Int)))) := by kernel_rfl
theorem hoardlaw10_ArcLoads_j3_def (Q : Value → WP) (m2 : Nat) (l1 : Sl) (keys2 : Sl) (e7 : Option Addr) (x8 : Option Addr) (i9 : Int) : hoardlaw10_ArcLoads_j3 idJ Q m2 l1 keys2 e7 x8 i9 = codeI Tryd.prog hoardlaw10_ArcLoads_kp idJ (cAt [true, true, true, true, false, true, false, false, true] (bodyOf Tryd.f9)) (lopK Tryd.prog hoardlaw10_ArcLoads_kp idJ (cAt [true, true, true, true, false, true, false, false] (bodyOf Tryd.f9)) (blkX 0 (seqK Tryd.prog hoardlaw10_ArcLoads_kp idJ (cAt [true, true, true, true, true] (bodyOf Tryd.f9)) (retK Tryd.prog Tryd.f9 Q) noX (retK Tryd.prog Tryd.f9 Q)) noX) (retK Tryd.prog Tryd.f9 Q) m2) (blkX 0 (seqK Tryd.prog hoardlaw10_ArcLoads_kp idJ (cAt [true, true, true, true, true] (bodyOf Tryd.f9)) (retK Tryd.prog Tryd.f9 Q) noX (retK Tryd.prog Tryd.f9 Q)) noX) (retK Tryd.prog Tryd.f9 Q) (us 1 ((.slice l1.a l1.n l1.c) :: (.slice keys2.a keys2.n keys2.c) :: us 4 ((.pointer e7) :: (.pointer x8) :: (.int .i64 i9) :: us 110 []))) := by kernel_rfl
theorem hoardlaw10_ArcLoads_j8_raw (jn : Jn) (Q : Value → WP) (m5 : Nat) (keys2 : Sl) (e7 : Option Addr) (i10 : Int) : codeI Tryd.prog hoardlaw10_ArcLoads_kp jn (cAt [true, true, true, true, true, false, true, false, false, true, true] (bodyOf Tryd.f9)) (lopK Tryd.prog hoardlaw10_ArcLoads_kp jn (cAt [true, true, true, true, true, false, true, false, false] (bodyOf Tryd.f9)) (blkX 2 (seqK Tryd.prog hoardlaw10_ArcLoads_kp jn (cAt [true, true, true, true, true, true] (bodyOf Tryd.f9)) (retK Tryd.prog Tryd.f9 Q) noX (retK Tryd.prog Tryd.f9 Q)) noX) (retK Tryd.prog Tryd.f9 Q) m5) (blkX 2 (seqK Tryd.prog hoardlaw10_ArcLoads_kp jn (cAt [true, true, true, true, true, true] (bodyOf Tryd.f9)) (retK Tryd.prog Tryd.f9 Q) noX (retK Tryd.prog Tryd.f9 Q)) noX) (retK Tryd.prog Tryd.f9 Q) (us 2 ((.slice keys2.a keys2.n keys2.c) :: us 4 ((.pointer e7) :: us 2 ((.int .i64 i10) :: us 109 [])))) = (
  hoardlaw10_ArcLoads_l5 jn Q  m5 keys2 e7 (IntKind.wrap .i64 (i10 + (1 : Int)))) := by kernel_rfl
theorem hoardlaw10_ArcLoads_j8_def (Q : Value → WP) (m5 : Nat) (keys2 : Sl) (e7 : Option Addr) (i10 : Int) : hoardlaw10_ArcLoads_j8 idJ Q m5 keys2 e7 i10 = codeI Tryd.prog hoardlaw10_ArcLoads_kp idJ (cAt [true, true, true, true, true, false, true, false, false, true, true] (bodyOf Tryd.f9)) (lopK Tryd.prog hoardlaw10_ArcLoads_kp idJ (cAt [true, true, true, true, true, false, true, false, false] (bodyOf Tryd.f9)) (blkX 2 (seqK Tryd.prog hoardlaw10_ArcLoads_kp idJ (cAt [true, true, true, true, true, true] (bodyOf Tryd.f9)) (retK Tryd.prog Tryd.f9 Q) noX (retK Tryd.prog Tryd.f9 Q)) noX) (retK Tryd.prog Tryd.f9 Q) m5) (blkX 2 (seqK Tryd.prog hoardlaw10_ArcLoads_kp idJ (cAt [true, true, true, true, true, true] (bodyOf Tryd.f9)) (retK Tryd.prog Tryd.f9 Q) noX (retK Tryd.prog Tryd.f9 Q)) noX) (retK Tryd.prog Tryd.f9 Q) (us 2 ((.slice keys2.a keys2.n keys2.c) :: us 4 ((.pointer e7) :: us 2 ((.int .i64 i10) :: us 109 [])))) := by kernel_rfl
theorem hoardlaw10_ArcLoads_l7_raw (jn : Jn) (Q : Value → WP) (m5 : Nat) (m7 : Nat) (keys2 : Sl) (e7 : Option Addr) (i10 : Int) (in13 : Sl) (k15 : Int) : hoardlaw10_ArcLoads_l7 jn Q m5 (m7 + 1) keys2 e7 i10 in13 k15 = (
  ite2 (decide (k15 < (in13.n : Int))) (
  idx in13.a in13.n k15 fun b_27 o_28 =>
  ld .str b_27 (o_28 + (k15).toNat * 1) fun (x_29 : ByteArray) =>
  call1 .bool Tryd.prog id_arc_Engine_Has [.pointer e7, .string x_29] fun (x_30 : Bool) =>
  ite2 (!x_30) (
  Q (.bool false)) (
  hoardlaw10_ArcLoads_l7 jn Q m5 m7 keys2 e7 i10 in13 (IntKind.wrap .i64 (k15 + (1 : Int))))) (
  hoardlaw10_ArcLoads_j8 jn Q m5 keys2 e7 i10)) := by kernel_rfl
theorem hoardlaw10_ArcLoads_l7_zero (jn : Jn) (Q : Value → WP) (m5 : Nat) (keys2 : Sl) (e7 : Option Addr) (i10 : Int) (in13 : Sl) (k15 : Int) : hoardlaw10_ArcLoads_l7 jn Q m5 0 keys2 e7 i10 in13 k15 = bot := by kernel_rfl
theorem hoardlaw10_ArcLoads_j6_raw (jn : Jn) (Q : Value → WP) (m5 : Nat) (keys2 : Sl) (e7 : Option Addr) (i10 : Int) (in13 : Sl) : codeI Tryd.prog hoardlaw10_ArcLoads_kp jn (cAt [true, true, true, true, true, false, true, false, false, true, false, false, true, true, true, true] (bodyOf Tryd.f9)) (seqK Tryd.prog hoardlaw10_ArcLoads_kp jn (cAt [true, true, true, true, true, false, true, false, false, true, true] (bodyOf Tryd.f9)) (lopK Tryd.prog hoardlaw10_ArcLoads_kp jn (cAt [true, true, true, true, true, false, true, false, false] (bodyOf Tryd.f9)) (blkX 2 (seqK Tryd.prog hoardlaw10_ArcLoads_kp jn (cAt [true, true, true, true, true, true] (bodyOf Tryd.f9)) (retK Tryd.prog Tryd.f9 Q) noX (retK Tryd.prog Tryd.f9 Q)) noX) (retK Tryd.prog Tryd.f9 Q) m5) (blkX 2 (seqK Tryd.prog hoardlaw10_ArcLoads_kp jn (cAt [true, true, true, true, true, true] (bodyOf Tryd.f9)) (retK Tryd.prog Tryd.f9 Q) noX (retK Tryd.prog Tryd.f9 Q)) noX) (retK Tryd.prog Tryd.f9 Q)) (blkX 3 (seqK Tryd.prog hoardlaw10_ArcLoads_kp jn (cAt [true, true, true, true, true, false, true, false, false, true, true] (bodyOf Tryd.f9)) (lopK Tryd.prog hoardlaw10_ArcLoads_kp jn (cAt [true, true, true, true, true, false, true, false, false] (bodyOf Tryd.f9)) (blkX 2 (seqK Tryd.prog hoardlaw10_ArcLoads_kp jn (cAt [true, true, true, true, true, true] (bodyOf Tryd.f9)) (retK Tryd.prog Tryd.f9 Q) noX (retK Tryd.prog Tryd.f9 Q)) noX) (retK Tryd.prog Tryd.f9 Q) m5) (blkX 2 (seqK Tryd.prog hoardlaw10_ArcLoads_kp jn (cAt [true, true, true, true, true, true] (bodyOf Tryd.f9)) (retK Tryd.prog Tryd.f9 Q) noX (retK Tryd.prog Tryd.f9 Q)) noX) (retK Tryd.prog Tryd.f9 Q)) (blkX 2 (seqK Tryd.prog hoardlaw10_ArcLoads_kp jn (cAt [true, true, true, true, true, true] (bodyOf Tryd.f9)) (retK Tryd.prog Tryd.f9 Q) noX (retK Tryd.prog Tryd.f9 Q)) noX)) (retK Tryd.prog Tryd.f9 Q) (us 2 ((.slice keys2.a keys2.n keys2.c) :: us 4 ((.pointer e7) :: us 2 ((.int .i64 i10) :: us 2 ((.slice in13.a in13.n in13.c) :: us 106 []))))) = (
  exM fun m => hoardlaw10_ArcLoads_l7 jn Q m5 m keys2 e7 i10 in13 (0 : Int)) := by kernel_rfl
theorem hoardlaw10_ArcLoads_j6_def (Q : Value → WP) (m5 : Nat) (keys2 : Sl) (e7 : Option Addr) (i10 : Int) (in13 : Sl) : hoardlaw10_ArcLoads_j6 idJ Q m5 keys2 e7 i10 in13 = codeI Tryd.prog hoardlaw10_ArcLoads_kp idJ (cAt [true, true, true, true, true, false, true, false, false, true, false, false, true, true, true, true] (bodyOf Tryd.f9)) (seqK Tryd.prog hoardlaw10_ArcLoads_kp idJ (cAt [true, true, true, true, true, false, true, false, false, true, true] (bodyOf Tryd.f9)) (lopK Tryd.prog hoardlaw10_ArcLoads_kp idJ (cAt [true, true, true, true, true, false, true, false, false] (bodyOf Tryd.f9)) (blkX 2 (seqK Tryd.prog hoardlaw10_ArcLoads_kp idJ (cAt [true, true, true, true, true, true] (bodyOf Tryd.f9)) (retK Tryd.prog Tryd.f9 Q) noX (retK Tryd.prog Tryd.f9 Q)) noX) (retK Tryd.prog Tryd.f9 Q) m5) (blkX 2 (seqK Tryd.prog hoardlaw10_ArcLoads_kp idJ (cAt [true, true, true, true, true, true] (bodyOf Tryd.f9)) (retK Tryd.prog Tryd.f9 Q) noX (retK Tryd.prog Tryd.f9 Q)) noX) (retK Tryd.prog Tryd.f9 Q)) (blkX 3 (seqK Tryd.prog hoardlaw10_ArcLoads_kp idJ (cAt [true, true, true, true, true, false, true, false, false, true, true] (bodyOf Tryd.f9)) (lopK Tryd.prog hoardlaw10_ArcLoads_kp idJ (cAt [true, true, true, true, true, false, true, false, false] (bodyOf Tryd.f9)) (blkX 2 (seqK Tryd.prog hoardlaw10_ArcLoads_kp idJ (cAt [true, true, true, true, true, true] (bodyOf Tryd.f9)) (retK Tryd.prog Tryd.f9 Q) noX (retK Tryd.prog Tryd.f9 Q)) noX) (retK Tryd.prog Tryd.f9 Q) m5) (blkX 2 (seqK Tryd.prog hoardlaw10_ArcLoads_kp idJ (cAt [true, true, true, true, true, true] (bodyOf Tryd.f9)) (retK Tryd.prog Tryd.f9 Q) noX (retK Tryd.prog Tryd.f9 Q)) noX) (retK Tryd.prog Tryd.f9 Q)) (blkX 2 (seqK Tryd.prog hoardlaw10_ArcLoads_kp idJ (cAt [true, true, true, true, true, true] (bodyOf Tryd.f9)) (retK Tryd.prog Tryd.f9 Q) noX (retK Tryd.prog Tryd.f9 Q)) noX)) (retK Tryd.prog Tryd.f9 Q) (us 2 ((.slice keys2.a keys2.n keys2.c) :: us 4 ((.pointer e7) :: us 2 ((.int .i64 i10) :: us 2 ((.slice in13.a in13.n in13.c) :: us 106 []))))) := by kernel_rfl
theorem hoardlaw10_ArcLoads_j9_raw (jn : Jn) (Q : Value → WP)   : codeI Tryd.prog hoardlaw10_ArcLoads_kp jn (cAt [true, true, true, true, true, true] (bodyOf Tryd.f9)) (retK Tryd.prog Tryd.f9 Q) noX (retK Tryd.prog Tryd.f9 Q) (us 120 []) = (
  call1 .bool Tryd.prog id_hoardlaw10_known [] fun (x_39 : Bool) =>
  Q (.bool x_39)) := by kernel_rfl
theorem hoardlaw10_ArcLoads_j9_def (Q : Value → WP)   : hoardlaw10_ArcLoads_j9 idJ Q   = codeI Tryd.prog hoardlaw10_ArcLoads_kp idJ (cAt [true, true, true, true, true, true] (bodyOf Tryd.f9)) (retK Tryd.prog Tryd.f9 Q) noX (retK Tryd.prog Tryd.f9 Q) (us 120 []) := by kernel_rfl
theorem hoardlaw10_ArcLoads_l5_raw (jn : Jn) (Q : Value → WP)  (m5 : Nat) (keys2 : Sl) (e7 : Option Addr) (i10 : Int) : hoardlaw10_ArcLoads_l5 jn Q  (m5 + 1) keys2 e7 i10 = (
  ite2 (decide (i10 < (keys2.n : Int))) (
  idx keys2.a keys2.n i10 fun b_10 o_11 =>
  ld .str b_10 (o_11 + (i10).toNat * 1) fun (x_12 : ByteArray) =>
  call1 .bool Tryd.prog id_arc_Engine_Has [.pointer e7, .string x_12] fun (x_13 : Bool) =>
  call1 (.int .i64) Tryd.prog id_arc_Engine_Len [.pointer e7] fun (x_14 : Int) =>
  call1 .slc Tryd.prog id_arc_Engine_Keys [.pointer e7] fun (x_15 : Sl) =>
  idx keys2.a keys2.n i10 fun b_16 o_17 =>
  ld .str b_16 (o_17 + (i10).toNat * 1) fun (x_18 : ByteArray) =>
  call1 .bool Tryd.prog id_arc_Engine_Load [.pointer e7, .string x_18] fun (x_19 : Bool) =>
  ite2 (!x_13) (
  call1 (.int .i64) Tryd.prog id_arc_Engine_Room [.pointer e7] fun (x_20 : Int) =>
  ite2 (!(x_19 == (decide (x_14 < x_20)))) (
  Q (.bool false)) (
  ite2 x_19 (
  idx keys2.a keys2.n i10 fun b_21 o_22 =>
  ld .str b_21 (o_22 + (i10).toNat * 1) fun (x_23 : ByteArray) =>
  call1 .bool Tryd.prog id_arc_Engine_Has [.pointer e7, .string x_23] fun (x_24 : Bool) =>
  ite2 (!x_24) (
  Q (.bool false)) (
  call1 (.int .i64) Tryd.prog id_arc_Engine_Len [.pointer e7] fun (x_25 : Int) =>
  ite2 (x_25 != (IntKind.wrap .i64 (x_14 + (1 : Int)))) (
  Q (.bool false)) (
  ite2 (!x_19) (
  call1 (.int .i64) Tryd.prog id_arc_Engine_Len [.pointer e7] fun (x_26 : Int) =>
  ite2 (x_26 != x_14) (
  Q (.bool false)) (
  hoardlaw10_ArcLoads_j6 jn Q m5 keys2 e7 i10 x_15)) (
  hoardlaw10_ArcLoads_j6 jn Q m5 keys2 e7 i10 x_15)))) (
  ite2 (!x_19) (
  call1 (.int .i64) Tryd.prog id_arc_Engine_Len [.pointer e7] fun (x_31 : Int) =>
  ite2 (x_31 != x_14) (
  Q (.bool false)) (
  hoardlaw10_ArcLoads_j6 jn Q m5 keys2 e7 i10 x_15)) (
  hoardlaw10_ArcLoads_j6 jn Q m5 keys2 e7 i10 x_15)))) (
  ite2 (!(x_19 == false)) (
  Q (.bool false)) (
  ite2 x_19 (
  idx keys2.a keys2.n i10 fun b_32 o_33 =>
  ld .str b_32 (o_33 + (i10).toNat * 1) fun (x_34 : ByteArray) =>
  call1 .bool Tryd.prog id_arc_Engine_Has [.pointer e7, .string x_34] fun (x_35 : Bool) =>
  ite2 (!x_35) (
  Q (.bool false)) (
  call1 (.int .i64) Tryd.prog id_arc_Engine_Len [.pointer e7] fun (x_36 : Int) =>
  ite2 (x_36 != (IntKind.wrap .i64 (x_14 + (1 : Int)))) (
  Q (.bool false)) (
  ite2 (!x_19) (
  call1 (.int .i64) Tryd.prog id_arc_Engine_Len [.pointer e7] fun (x_37 : Int) =>
  ite2 (x_37 != x_14) (
  Q (.bool false)) (
  hoardlaw10_ArcLoads_j6 jn Q m5 keys2 e7 i10 x_15)) (
  hoardlaw10_ArcLoads_j6 jn Q m5 keys2 e7 i10 x_15)))) (
  ite2 (!x_19) (
  call1 (.int .i64) Tryd.prog id_arc_Engine_Len [.pointer e7] fun (x_38 : Int) =>
  ite2 (x_38 != x_14) (
  Q (.bool false)) (
  hoardlaw10_ArcLoads_j6 jn Q m5 keys2 e7 i10 x_15)) (
  hoardlaw10_ArcLoads_j6 jn Q m5 keys2 e7 i10 x_15))))) (
  hoardlaw10_ArcLoads_j9 jn Q  )) := by kernel_rfl
theorem hoardlaw10_ArcLoads_l5_zero (jn : Jn) (Q : Value → WP)  (keys2 : Sl) (e7 : Option Addr) (i10 : Int) : hoardlaw10_ArcLoads_l5 jn Q  0 keys2 e7 i10 = bot := by kernel_rfl
theorem hoardlaw10_ArcLoads_j4_raw (jn : Jn) (Q : Value → WP)  (keys2 : Sl) (e7 : Option Addr) : codeI Tryd.prog hoardlaw10_ArcLoads_kp jn (cAt [true, true, true, true, true] (bodyOf Tryd.f9)) (retK Tryd.prog Tryd.f9 Q) noX (retK Tryd.prog Tryd.f9 Q) (us 2 ((.slice keys2.a keys2.n keys2.c) :: us 4 ((.pointer e7) :: us 112 []))) = (
  exM fun m => hoardlaw10_ArcLoads_l5 jn Q  m keys2 e7 (0 : Int)) := by kernel_rfl
theorem hoardlaw10_ArcLoads_j4_def (Q : Value → WP)  (keys2 : Sl) (e7 : Option Addr) : hoardlaw10_ArcLoads_j4 idJ Q  keys2 e7 = codeI Tryd.prog hoardlaw10_ArcLoads_kp idJ (cAt [true, true, true, true, true] (bodyOf Tryd.f9)) (retK Tryd.prog Tryd.f9 Q) noX (retK Tryd.prog Tryd.f9 Q) (us 2 ((.slice keys2.a keys2.n keys2.c) :: us 4 ((.pointer e7) :: us 112 []))) := by kernel_rfl
theorem hoardlaw10_ArcLoads_l2_raw (jn : Jn) (Q : Value → WP)  (m2 : Nat) (l1 : Sl) (keys2 : Sl) (e7 : Option Addr) (x8 : Option Addr) (i9 : Int) : hoardlaw10_ArcLoads_l2 jn Q  (m2 + 1) l1 keys2 e7 x8 i9 = (
  ite2 (decide (i9 < (l1.n : Int))) (
  ite2 (decide (i9 < (200 : Int))) (
  hoardlaw10_ArcLoads_j3 jn Q m2 l1 keys2 e7 x8 i9) (
  hoardlaw10_ArcLoads_j4 jn Q  keys2 e7)) (
  hoardlaw10_ArcLoads_j4 jn Q  keys2 e7)) := by kernel_rfl
theorem hoardlaw10_ArcLoads_l2_zero (jn : Jn) (Q : Value → WP)  (l1 : Sl) (keys2 : Sl) (e7 : Option Addr) (x8 : Option Addr) (i9 : Int) : hoardlaw10_ArcLoads_l2 jn Q  0 l1 keys2 e7 x8 i9 = bot := by kernel_rfl
theorem hoardlaw10_ArcLoads_j1_raw (jn : Jn) (Q : Value → WP)  (room0 : Int) (l1 : Sl) (keys2 : Sl) : codeI Tryd.prog hoardlaw10_ArcLoads_kp jn (cAt [true, true] (bodyOf Tryd.f9)) (retK Tryd.prog Tryd.f9 Q) noX (retK Tryd.prog Tryd.f9 Q) ((.int .i64 room0) :: (.slice l1.a l1.n l1.c) :: (.slice keys2.a keys2.n keys2.c) :: us 117 []) = (
  call1 .ptr Tryd.prog id_arc_New [.int .i64 room0] fun (x_3 : Option Addr) =>
  call1 .ptr Tryd.prog id_hoardref10_New [.int .i64 room0] fun (x_4 : Option Addr) =>
  ite2 (Option.isNone x_3) (
  Q (.bool false)) (
  exM fun m => hoardlaw10_ArcLoads_l2 jn Q  m l1 keys2 x_3 x_4 (0 : Int))) := by kernel_rfl
theorem hoardlaw10_ArcLoads_j1_def (Q : Value → WP)  (room0 : Int) (l1 : Sl) (keys2 : Sl) : hoardlaw10_ArcLoads_j1 idJ Q  room0 l1 keys2 = codeI Tryd.prog hoardlaw10_ArcLoads_kp idJ (cAt [true, true] (bodyOf Tryd.f9)) (retK Tryd.prog Tryd.f9 Q) noX (retK Tryd.prog Tryd.f9 Q) ((.int .i64 room0) :: (.slice l1.a l1.n l1.c) :: (.slice keys2.a keys2.n keys2.c) :: us 117 []) := by kernel_rfl
theorem hoardlaw10_ArcLoads_raw (jn : Jn) (room0 : Int) (l1 : Sl) (keys2 : Sl) (Q : Value → WP) : funJ jn Tryd.prog hoardlaw10_ArcLoads_kp Tryd.f9 [.int .i64 room0, .slice l1.a l1.n l1.c, .slice keys2.a keys2.n keys2.c] Q = (
  call1 .bool Tryd.prog id_hoardlaw10_heavy [.slice l1.a l1.n l1.c] fun (x_1 : Bool) =>
  ite2 x_1 (
  Q (.bool true)) (
  call1 .bool Tryd.prog id_hoardlaw10_long [.slice keys2.a keys2.n keys2.c] fun (x_2 : Bool) =>
  ite2 x_2 (
  Q (.bool true)) (
  hoardlaw10_ArcLoads_j1 jn Q  room0 l1 keys2))) := by kernel_rfl
theorem hoardlaw10_ArcLoads_def (room0 : Int) (l1 : Sl) (keys2 : Sl) (Q : Value → WP) : hoardlaw10_ArcLoads room0 l1 keys2 Q = funJ idJ Tryd.prog hoardlaw10_ArcLoads_kp Tryd.f9 [.int .i64 room0, .slice l1.a l1.n l1.c, .slice keys2.a keys2.n keys2.c] Q := rfl
theorem hoardlaw10_ArcLoads_calls {room0 : Int} {l1 : Sl} {keys2 : Sl} {Q : Value → WP} {w : World} (h : hoardlaw10_ArcLoads room0 l1 keys2 Q w) : Calls Tryd.prog id_hoardlaw10_ArcLoads #[.int .i64 room0, .slice l1.a l1.n l1.c, .slice keys2.a keys2.n keys2.c] w fun e w' => ∃ v, e = .returned v ∧ Q v w' :=
  funJ_calls mixed Tryd.func9 rfl h

end Go.Proofs.YtchlicgjdlkidaaDoor
