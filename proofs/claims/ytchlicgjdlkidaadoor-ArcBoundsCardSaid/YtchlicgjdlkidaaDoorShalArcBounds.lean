/- Printed by a program of mine (wip/tools/shal.py): the shallow texts of the loaded functions, each equal to the interpreter's reading by the kernel. -/
import Derived.Test.YtchlicgjdlkidaaDoorShal
set_option linter.unusedVariables false
set_option maxRecDepth 100000
namespace Go.Proofs.YtchlicgjdlkidaaDoor
open Go.Hb

-- hoard/hoardlaw10.ArcBounds
def hoardlaw10_ArcBounds_kp : KP := ⟨[(17, [1, 5, 6, 7]), (20, [1, 5, 6, 7]), (26, [])], []⟩
def hoardlaw10_ArcBounds_j2 (jn : Jn) (Q : Value → WP) (m1 : Nat) (l1 : Sl) (e5 : Option Addr) (x6 : Option Addr) (i7 : Int) : WP := jn 20 (fun ρ => codeI Tryd.prog hoardlaw10_ArcBounds_kp jn (cAt [true, true, true, true, false, true, false, false, true] (bodyOf Tryd.f13)) (lopK Tryd.prog hoardlaw10_ArcBounds_kp jn (cAt [true, true, true, true, false, true, false, false] (bodyOf Tryd.f13)) (blkX 0 (seqK Tryd.prog hoardlaw10_ArcBounds_kp jn (cAt [true, true, true, true, true] (bodyOf Tryd.f13)) (retK Tryd.prog Tryd.f13 Q) noX (retK Tryd.prog Tryd.f13 Q)) noX) (retK Tryd.prog Tryd.f13 Q) m1) (blkX 0 (seqK Tryd.prog hoardlaw10_ArcBounds_kp jn (cAt [true, true, true, true, true] (bodyOf Tryd.f13)) (retK Tryd.prog Tryd.f13 Q) noX (retK Tryd.prog Tryd.f13 Q)) noX) (retK Tryd.prog Tryd.f13 Q) ρ) (us 1 ((.slice l1.a l1.n l1.c) :: us 3 ((.pointer e5) :: (.pointer x6) :: (.int .i64 i7) :: us 44 [])))
def hoardlaw10_ArcBounds_j3 (jn : Jn) (Q : Value → WP)   : WP := jn 26 (fun ρ => codeI Tryd.prog hoardlaw10_ArcBounds_kp jn (cAt [true, true, true, true, true] (bodyOf Tryd.f13)) (retK Tryd.prog Tryd.f13 Q) noX (retK Tryd.prog Tryd.f13 Q) ρ) (us 52 [])
def hoardlaw10_ArcBounds_l1 (jn : Jn) (Q : Value → WP)  (m1 : Nat) (l1 : Sl) (e5 : Option Addr) (x6 : Option Addr) (i7 : Int) : WP := lop Tryd.prog hoardlaw10_ArcBounds_kp jn (cAt [true, true, true, true, false, true, false, false] (bodyOf Tryd.f13)) (blkX 0 (seqK Tryd.prog hoardlaw10_ArcBounds_kp jn (cAt [true, true, true, true, true] (bodyOf Tryd.f13)) (retK Tryd.prog Tryd.f13 Q) noX (retK Tryd.prog Tryd.f13 Q)) noX) (retK Tryd.prog Tryd.f13 Q) m1 (us 1 ((.slice l1.a l1.n l1.c) :: us 3 ((.pointer e5) :: (.pointer x6) :: (.int .i64 i7) :: us 44 [])))
def hoardlaw10_ArcBounds (room0 : Int) (l1 : Sl) (Q : Value → WP) : WP := funJ idJ Tryd.prog hoardlaw10_ArcBounds_kp Tryd.f13 [.int .i64 room0, .slice l1.a l1.n l1.c] Q
theorem hoardlaw10_ArcBounds_j2_raw (jn : Jn) (Q : Value → WP) (m1 : Nat) (l1 : Sl) (e5 : Option Addr) (x6 : Option Addr) (i7 : Int) : codeI Tryd.prog hoardlaw10_ArcBounds_kp jn (cAt [true, true, true, true, false, true, false, false, true] (bodyOf Tryd.f13)) (lopK Tryd.prog hoardlaw10_ArcBounds_kp jn (cAt [true, true, true, true, false, true, false, false] (bodyOf Tryd.f13)) (blkX 0 (seqK Tryd.prog hoardlaw10_ArcBounds_kp jn (cAt [true, true, true, true, true] (bodyOf Tryd.f13)) (retK Tryd.prog Tryd.f13 Q) noX (retK Tryd.prog Tryd.f13 Q)) noX) (retK Tryd.prog Tryd.f13 Q) m1) (blkX 0 (seqK Tryd.prog hoardlaw10_ArcBounds_kp jn (cAt [true, true, true, true, true] (bodyOf Tryd.f13)) (retK Tryd.prog Tryd.f13 Q) noX (retK Tryd.prog Tryd.f13 Q)) noX) (retK Tryd.prog Tryd.f13 Q) (us 1 ((.slice l1.a l1.n l1.c) :: us 3 ((.pointer e5) :: (.pointer x6) :: (.int .i64 i7) :: us 44 []))) = (
  idx l1.a l1.n i7 fun b_4 o_5 =>
  ld (.int .i64) b_4 (o_5 + (i7).toNat * 2) fun (x_6 : Int) =>
  ld .str b_4 ((o_5 + (i7).toNat * 2) + 1) fun (x_7 : ByteArray) =>
  call1 .bool Tryd.prog id_hoardlaw10_act [.pointer e5, .pointer x6, .agg #[.int .i64 x_6, .string x_7]] fun (x_8 : Bool) =>
  call1 (.int .i64) Tryd.prog id_arc_Engine_Len [.pointer e5] fun (x_9 : Int) =>
  call1 (.int .i64) Tryd.prog id_arc_Engine_Room [.pointer e5] fun (x_10 : Int) =>
  ite2 (decide (x_9 > x_10)) (
  Q (.bool false)) (
  call1 .slc Tryd.prog id_arc_Engine_Keys [.pointer e5] fun (x_11 : Sl) =>
  call1 (.int .i64) Tryd.prog id_arc_Engine_Len [.pointer e5] fun (x_12 : Int) =>
  ite2 ((x_11.n : Int) != x_12) (
  Q (.bool false)) (
  call1 .bool Tryd.prog id_hoardlaw10_bounded [.pointer e5] fun (x_13 : Bool) =>
  ite2 (!x_13) (
  Q (.bool false)) (
  hoardlaw10_ArcBounds_l1 jn Q  m1 l1 e5 x6 (IntKind.wrap .i64 (i7 + (1 : Int))))))) := by kernel_rfl
theorem hoardlaw10_ArcBounds_j2_def (Q : Value → WP) (m1 : Nat) (l1 : Sl) (e5 : Option Addr) (x6 : Option Addr) (i7 : Int) : hoardlaw10_ArcBounds_j2 idJ Q m1 l1 e5 x6 i7 = codeI Tryd.prog hoardlaw10_ArcBounds_kp idJ (cAt [true, true, true, true, false, true, false, false, true] (bodyOf Tryd.f13)) (lopK Tryd.prog hoardlaw10_ArcBounds_kp idJ (cAt [true, true, true, true, false, true, false, false] (bodyOf Tryd.f13)) (blkX 0 (seqK Tryd.prog hoardlaw10_ArcBounds_kp idJ (cAt [true, true, true, true, true] (bodyOf Tryd.f13)) (retK Tryd.prog Tryd.f13 Q) noX (retK Tryd.prog Tryd.f13 Q)) noX) (retK Tryd.prog Tryd.f13 Q) m1) (blkX 0 (seqK Tryd.prog hoardlaw10_ArcBounds_kp idJ (cAt [true, true, true, true, true] (bodyOf Tryd.f13)) (retK Tryd.prog Tryd.f13 Q) noX (retK Tryd.prog Tryd.f13 Q)) noX) (retK Tryd.prog Tryd.f13 Q) (us 1 ((.slice l1.a l1.n l1.c) :: us 3 ((.pointer e5) :: (.pointer x6) :: (.int .i64 i7) :: us 44 []))) := by kernel_rfl
theorem hoardlaw10_ArcBounds_j3_raw (jn : Jn) (Q : Value → WP)   : codeI Tryd.prog hoardlaw10_ArcBounds_kp jn (cAt [true, true, true, true, true] (bodyOf Tryd.f13)) (retK Tryd.prog Tryd.f13 Q) noX (retK Tryd.prog Tryd.f13 Q) (us 52 []) = (
  call1 .bool Tryd.prog id_hoardlaw10_known [] fun (x_14 : Bool) =>
  Q (.bool x_14)) := by kernel_rfl
theorem hoardlaw10_ArcBounds_j3_def (Q : Value → WP)   : hoardlaw10_ArcBounds_j3 idJ Q   = codeI Tryd.prog hoardlaw10_ArcBounds_kp idJ (cAt [true, true, true, true, true] (bodyOf Tryd.f13)) (retK Tryd.prog Tryd.f13 Q) noX (retK Tryd.prog Tryd.f13 Q) (us 52 []) := by kernel_rfl
theorem hoardlaw10_ArcBounds_l1_raw (jn : Jn) (Q : Value → WP)  (m1 : Nat) (l1 : Sl) (e5 : Option Addr) (x6 : Option Addr) (i7 : Int) : hoardlaw10_ArcBounds_l1 jn Q  (m1 + 1) l1 e5 x6 i7 = (
  ite2 (decide (i7 < (l1.n : Int))) (
  ite2 (decide (i7 < (200 : Int))) (
  hoardlaw10_ArcBounds_j2 jn Q m1 l1 e5 x6 i7) (
  hoardlaw10_ArcBounds_j3 jn Q  )) (
  hoardlaw10_ArcBounds_j3 jn Q  )) := by kernel_rfl
theorem hoardlaw10_ArcBounds_l1_zero (jn : Jn) (Q : Value → WP)  (l1 : Sl) (e5 : Option Addr) (x6 : Option Addr) (i7 : Int) : hoardlaw10_ArcBounds_l1 jn Q  0 l1 e5 x6 i7 = bot := by kernel_rfl
theorem hoardlaw10_ArcBounds_raw (jn : Jn) (room0 : Int) (l1 : Sl) (Q : Value → WP) : funJ jn Tryd.prog hoardlaw10_ArcBounds_kp Tryd.f13 [.int .i64 room0, .slice l1.a l1.n l1.c] Q = (
  call1 .bool Tryd.prog id_hoardlaw10_heavy [.slice l1.a l1.n l1.c] fun (x_1 : Bool) =>
  ite2 x_1 (
  Q (.bool true)) (
  call1 .ptr Tryd.prog id_arc_New [.int .i64 room0] fun (x_2 : Option Addr) =>
  call1 .ptr Tryd.prog id_hoardref10_New [.int .i64 room0] fun (x_3 : Option Addr) =>
  ite2 (Option.isNone x_2) (
  Q (.bool false)) (
  exM fun m => hoardlaw10_ArcBounds_l1 jn Q  m l1 x_2 x_3 (0 : Int)))) := by kernel_rfl
theorem hoardlaw10_ArcBounds_def (room0 : Int) (l1 : Sl) (Q : Value → WP) : hoardlaw10_ArcBounds room0 l1 Q = funJ idJ Tryd.prog hoardlaw10_ArcBounds_kp Tryd.f13 [.int .i64 room0, .slice l1.a l1.n l1.c] Q := rfl
theorem hoardlaw10_ArcBounds_calls {room0 : Int} {l1 : Sl} {Q : Value → WP} {w : World} (h : hoardlaw10_ArcBounds room0 l1 Q w) : Calls Tryd.prog id_hoardlaw10_ArcBounds #[.int .i64 room0, .slice l1.a l1.n l1.c] w fun e w' => ∃ v, e = .returned v ∧ Q v w' :=
  funJ_calls mixed Tryd.func13 rfl h

end Go.Proofs.YtchlicgjdlkidaaDoor
