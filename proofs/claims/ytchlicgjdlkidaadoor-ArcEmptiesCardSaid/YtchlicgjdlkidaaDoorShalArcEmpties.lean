/- Printed by a program of mine (wip/tools/shal.py): the shallow texts of the loaded functions, each equal to the interpreter's reading by the kernel. -/
import Derived.Test.YtchlicgjdlkidaaDoorShal
set_option linter.unusedVariables false
set_option maxRecDepth 100000
namespace Go.Proofs.YtchlicgjdlkidaaDoor
open Go.Hb

-- hoard/hoardlaw10.ArcEmpties
def hoardlaw10_ArcEmpties_kp : KP := ⟨[(17, [1, 5, 6, 7]), (20, [1, 5, 6, 7]), (22, [5]), (27, [5, 8, 9]), (38, [5, 8])], []⟩
def hoardlaw10_ArcEmpties_j2 (jn : Jn) (Q : Value → WP) (m1 : Nat) (l1 : Sl) (e5 : Option Addr) (x6 : Option Addr) (i7 : Int) : WP := jn 20 (fun ρ => codeI Tryd.prog hoardlaw10_ArcEmpties_kp jn (cAt [true, true, true, true, false, true, false, false, true] (bodyOf Tryd.f8)) (lopK Tryd.prog hoardlaw10_ArcEmpties_kp jn (cAt [true, true, true, true, false, true, false, false] (bodyOf Tryd.f8)) (blkX 0 (seqK Tryd.prog hoardlaw10_ArcEmpties_kp jn (cAt [true, true, true, true, true] (bodyOf Tryd.f8)) (retK Tryd.prog Tryd.f8 Q) noX (retK Tryd.prog Tryd.f8 Q)) noX) (retK Tryd.prog Tryd.f8 Q) m1) (blkX 0 (seqK Tryd.prog hoardlaw10_ArcEmpties_kp jn (cAt [true, true, true, true, true] (bodyOf Tryd.f8)) (retK Tryd.prog Tryd.f8 Q) noX (retK Tryd.prog Tryd.f8 Q)) noX) (retK Tryd.prog Tryd.f8 Q) ρ) (us 1 ((.slice l1.a l1.n l1.c) :: us 3 ((.pointer e5) :: (.pointer x6) :: (.int .i64 i7) :: us 87 [])))
def hoardlaw10_ArcEmpties_j5 (jn : Jn) (Q : Value → WP)  (e5 : Option Addr) (in8 : Sl) : WP := jn 38 (fun ρ => codeI Tryd.prog hoardlaw10_ArcEmpties_kp jn (cAt [true, true, true, true, true, true, true] (bodyOf Tryd.f8)) (retK Tryd.prog Tryd.f8 Q) noX (retK Tryd.prog Tryd.f8 Q) ρ) (us 5 ((.pointer e5) :: us 2 ((.slice in8.a in8.n in8.c) :: us 86 [])))
def hoardlaw10_ArcEmpties_l4 (jn : Jn) (Q : Value → WP)  (m4 : Nat) (e5 : Option Addr) (in8 : Sl) (n9 : Int) : WP := lop Tryd.prog hoardlaw10_ArcEmpties_kp jn (cAt [true, true, true, true, true, true, false, true, false, false] (bodyOf Tryd.f8)) (blkX 2 (seqK Tryd.prog hoardlaw10_ArcEmpties_kp jn (cAt [true, true, true, true, true, true, true] (bodyOf Tryd.f8)) (retK Tryd.prog Tryd.f8 Q) noX (retK Tryd.prog Tryd.f8 Q)) noX) (retK Tryd.prog Tryd.f8 Q) m4 (us 5 ((.pointer e5) :: us 2 ((.slice in8.a in8.n in8.c) :: (.int .i64 n9) :: us 85 [])))
def hoardlaw10_ArcEmpties_j3 (jn : Jn) (Q : Value → WP)  (e5 : Option Addr) : WP := jn 22 (fun ρ => codeI Tryd.prog hoardlaw10_ArcEmpties_kp jn (cAt [true, true, true, true, true] (bodyOf Tryd.f8)) (retK Tryd.prog Tryd.f8 Q) noX (retK Tryd.prog Tryd.f8 Q) ρ) (us 5 ((.pointer e5) :: us 89 []))
def hoardlaw10_ArcEmpties_l1 (jn : Jn) (Q : Value → WP)  (m1 : Nat) (l1 : Sl) (e5 : Option Addr) (x6 : Option Addr) (i7 : Int) : WP := lop Tryd.prog hoardlaw10_ArcEmpties_kp jn (cAt [true, true, true, true, false, true, false, false] (bodyOf Tryd.f8)) (blkX 0 (seqK Tryd.prog hoardlaw10_ArcEmpties_kp jn (cAt [true, true, true, true, true] (bodyOf Tryd.f8)) (retK Tryd.prog Tryd.f8 Q) noX (retK Tryd.prog Tryd.f8 Q)) noX) (retK Tryd.prog Tryd.f8 Q) m1 (us 1 ((.slice l1.a l1.n l1.c) :: us 3 ((.pointer e5) :: (.pointer x6) :: (.int .i64 i7) :: us 87 [])))
def hoardlaw10_ArcEmpties (room0 : Int) (l1 : Sl) (Q : Value → WP) : WP := funJ idJ Tryd.prog hoardlaw10_ArcEmpties_kp Tryd.f8 [.int .i64 room0, .slice l1.a l1.n l1.c] Q
theorem hoardlaw10_ArcEmpties_j2_raw (jn : Jn) (Q : Value → WP) (m1 : Nat) (l1 : Sl) (e5 : Option Addr) (x6 : Option Addr) (i7 : Int) : codeI Tryd.prog hoardlaw10_ArcEmpties_kp jn (cAt [true, true, true, true, false, true, false, false, true] (bodyOf Tryd.f8)) (lopK Tryd.prog hoardlaw10_ArcEmpties_kp jn (cAt [true, true, true, true, false, true, false, false] (bodyOf Tryd.f8)) (blkX 0 (seqK Tryd.prog hoardlaw10_ArcEmpties_kp jn (cAt [true, true, true, true, true] (bodyOf Tryd.f8)) (retK Tryd.prog Tryd.f8 Q) noX (retK Tryd.prog Tryd.f8 Q)) noX) (retK Tryd.prog Tryd.f8 Q) m1) (blkX 0 (seqK Tryd.prog hoardlaw10_ArcEmpties_kp jn (cAt [true, true, true, true, true] (bodyOf Tryd.f8)) (retK Tryd.prog Tryd.f8 Q) noX (retK Tryd.prog Tryd.f8 Q)) noX) (retK Tryd.prog Tryd.f8 Q) (us 1 ((.slice l1.a l1.n l1.c) :: us 3 ((.pointer e5) :: (.pointer x6) :: (.int .i64 i7) :: us 87 []))) = (
  idx l1.a l1.n i7 fun b_4 o_5 =>
  ld (.int .i64) b_4 (o_5 + (i7).toNat * 2) fun (x_6 : Int) =>
  ld .str b_4 ((o_5 + (i7).toNat * 2) + 1) fun (x_7 : ByteArray) =>
  call1 .bool Tryd.prog id_hoardlaw10_act [.pointer e5, .pointer x6, .agg #[.int .i64 x_6, .string x_7]] fun (x_8 : Bool) =>
  hoardlaw10_ArcEmpties_l1 jn Q  m1 l1 e5 x6 (IntKind.wrap .i64 (i7 + (1 : Int)))) := by kernel_rfl
theorem hoardlaw10_ArcEmpties_j2_def (Q : Value → WP) (m1 : Nat) (l1 : Sl) (e5 : Option Addr) (x6 : Option Addr) (i7 : Int) : hoardlaw10_ArcEmpties_j2 idJ Q m1 l1 e5 x6 i7 = codeI Tryd.prog hoardlaw10_ArcEmpties_kp idJ (cAt [true, true, true, true, false, true, false, false, true] (bodyOf Tryd.f8)) (lopK Tryd.prog hoardlaw10_ArcEmpties_kp idJ (cAt [true, true, true, true, false, true, false, false] (bodyOf Tryd.f8)) (blkX 0 (seqK Tryd.prog hoardlaw10_ArcEmpties_kp idJ (cAt [true, true, true, true, true] (bodyOf Tryd.f8)) (retK Tryd.prog Tryd.f8 Q) noX (retK Tryd.prog Tryd.f8 Q)) noX) (retK Tryd.prog Tryd.f8 Q) m1) (blkX 0 (seqK Tryd.prog hoardlaw10_ArcEmpties_kp idJ (cAt [true, true, true, true, true] (bodyOf Tryd.f8)) (retK Tryd.prog Tryd.f8 Q) noX (retK Tryd.prog Tryd.f8 Q)) noX) (retK Tryd.prog Tryd.f8 Q) (us 1 ((.slice l1.a l1.n l1.c) :: us 3 ((.pointer e5) :: (.pointer x6) :: (.int .i64 i7) :: us 87 []))) := by kernel_rfl
theorem hoardlaw10_ArcEmpties_j5_raw (jn : Jn) (Q : Value → WP)  (e5 : Option Addr) (in8 : Sl) : codeI Tryd.prog hoardlaw10_ArcEmpties_kp jn (cAt [true, true, true, true, true, true, true] (bodyOf Tryd.f8)) (retK Tryd.prog Tryd.f8 Q) noX (retK Tryd.prog Tryd.f8 Q) (us 5 ((.pointer e5) :: us 2 ((.slice in8.a in8.n in8.c) :: us 86 []))) = (
  call2 .str .bool Tryd.prog id_arc_Engine_Evict [.pointer e5] fun (x_16 : ByteArray) (x_17 : Bool) =>
  ite2 ((in8.n : Int) == (0 : Int)) (
  ite2 (!x_17) (
  call1 (.int .i64) Tryd.prog id_arc_Engine_Len [.pointer e5] fun (x_18 : Int) =>
  ite2 (x_18 == (0 : Int)) (
  call1 .bool Tryd.prog id_hoardlaw10_known [] fun (x_19 : Bool) =>
  Q (.bool x_19)) (
  Q (.bool false))) (
  Q (.bool false))) (
  Q (.bool false))) := by kernel_rfl
theorem hoardlaw10_ArcEmpties_j5_def (Q : Value → WP)  (e5 : Option Addr) (in8 : Sl) : hoardlaw10_ArcEmpties_j5 idJ Q  e5 in8 = codeI Tryd.prog hoardlaw10_ArcEmpties_kp idJ (cAt [true, true, true, true, true, true, true] (bodyOf Tryd.f8)) (retK Tryd.prog Tryd.f8 Q) noX (retK Tryd.prog Tryd.f8 Q) (us 5 ((.pointer e5) :: us 2 ((.slice in8.a in8.n in8.c) :: us 86 []))) := by kernel_rfl
theorem hoardlaw10_ArcEmpties_l4_raw (jn : Jn) (Q : Value → WP)  (m4 : Nat) (e5 : Option Addr) (in8 : Sl) (n9 : Int) : hoardlaw10_ArcEmpties_l4 jn Q  (m4 + 1) e5 in8 n9 = (
  ite2 (decide (n9 > (0 : Int))) (
  call2 .str .bool Tryd.prog id_arc_Engine_Evict [.pointer e5] fun (x_10 : ByteArray) (x_11 : Bool) =>
  ite2 (!x_11) (
  Q (.bool false)) (
  call1 .bool Tryd.prog id_hoardlaw10_has [.slice in8.a in8.n in8.c, .string x_10] fun (x_12 : Bool) =>
  ite2 (!x_12) (
  Q (.bool false)) (
  call1 .bool Tryd.prog id_arc_Engine_Has [.pointer e5, .string x_10] fun (x_13 : Bool) =>
  ite2 x_13 (
  Q (.bool false)) (
  call1 (.int .i64) Tryd.prog id_arc_Engine_Len [.pointer e5] fun (x_14 : Int) =>
  ite2 (x_14 != (IntKind.wrap .i64 (n9 - (1 : Int)))) (
  Q (.bool false)) (
  call1 .slc Tryd.prog id_hoardlaw10_cut [.slice in8.a in8.n in8.c, .string x_10] fun (x_15 : Sl) =>
  hoardlaw10_ArcEmpties_l4 jn Q  m4 e5 x_15 (IntKind.wrap .i64 (n9 - (1 : Int)))))))) (
  hoardlaw10_ArcEmpties_j5 jn Q  e5 in8)) := by kernel_rfl
theorem hoardlaw10_ArcEmpties_l4_zero (jn : Jn) (Q : Value → WP)  (e5 : Option Addr) (in8 : Sl) (n9 : Int) : hoardlaw10_ArcEmpties_l4 jn Q  0 e5 in8 n9 = bot := by kernel_rfl
theorem hoardlaw10_ArcEmpties_j3_raw (jn : Jn) (Q : Value → WP)  (e5 : Option Addr) : codeI Tryd.prog hoardlaw10_ArcEmpties_kp jn (cAt [true, true, true, true, true] (bodyOf Tryd.f8)) (retK Tryd.prog Tryd.f8 Q) noX (retK Tryd.prog Tryd.f8 Q) (us 5 ((.pointer e5) :: us 89 [])) = (
  call1 .slc Tryd.prog id_arc_Engine_Keys [.pointer e5] fun (x_9 : Sl) =>
  exM fun m => hoardlaw10_ArcEmpties_l4 jn Q  m e5 x_9 (x_9.n : Int)) := by kernel_rfl
theorem hoardlaw10_ArcEmpties_j3_def (Q : Value → WP)  (e5 : Option Addr) : hoardlaw10_ArcEmpties_j3 idJ Q  e5 = codeI Tryd.prog hoardlaw10_ArcEmpties_kp idJ (cAt [true, true, true, true, true] (bodyOf Tryd.f8)) (retK Tryd.prog Tryd.f8 Q) noX (retK Tryd.prog Tryd.f8 Q) (us 5 ((.pointer e5) :: us 89 [])) := by kernel_rfl
theorem hoardlaw10_ArcEmpties_l1_raw (jn : Jn) (Q : Value → WP)  (m1 : Nat) (l1 : Sl) (e5 : Option Addr) (x6 : Option Addr) (i7 : Int) : hoardlaw10_ArcEmpties_l1 jn Q  (m1 + 1) l1 e5 x6 i7 = (
  ite2 (decide (i7 < (l1.n : Int))) (
  ite2 (decide (i7 < (200 : Int))) (
  hoardlaw10_ArcEmpties_j2 jn Q m1 l1 e5 x6 i7) (
  hoardlaw10_ArcEmpties_j3 jn Q  e5)) (
  hoardlaw10_ArcEmpties_j3 jn Q  e5)) := by kernel_rfl
theorem hoardlaw10_ArcEmpties_l1_zero (jn : Jn) (Q : Value → WP)  (l1 : Sl) (e5 : Option Addr) (x6 : Option Addr) (i7 : Int) : hoardlaw10_ArcEmpties_l1 jn Q  0 l1 e5 x6 i7 = bot := by kernel_rfl
theorem hoardlaw10_ArcEmpties_raw (jn : Jn) (room0 : Int) (l1 : Sl) (Q : Value → WP) : funJ jn Tryd.prog hoardlaw10_ArcEmpties_kp Tryd.f8 [.int .i64 room0, .slice l1.a l1.n l1.c] Q = (
  call1 .bool Tryd.prog id_hoardlaw10_heavy [.slice l1.a l1.n l1.c] fun (x_1 : Bool) =>
  ite2 x_1 (
  Q (.bool true)) (
  call1 .ptr Tryd.prog id_arc_New [.int .i64 room0] fun (x_2 : Option Addr) =>
  call1 .ptr Tryd.prog id_hoardref10_New [.int .i64 room0] fun (x_3 : Option Addr) =>
  ite2 (Option.isNone x_2) (
  Q (.bool false)) (
  exM fun m => hoardlaw10_ArcEmpties_l1 jn Q  m l1 x_2 x_3 (0 : Int)))) := by kernel_rfl
theorem hoardlaw10_ArcEmpties_def (room0 : Int) (l1 : Sl) (Q : Value → WP) : hoardlaw10_ArcEmpties room0 l1 Q = funJ idJ Tryd.prog hoardlaw10_ArcEmpties_kp Tryd.f8 [.int .i64 room0, .slice l1.a l1.n l1.c] Q := rfl
theorem hoardlaw10_ArcEmpties_calls {room0 : Int} {l1 : Sl} {Q : Value → WP} {w : World} (h : hoardlaw10_ArcEmpties room0 l1 Q w) : Calls Tryd.prog id_hoardlaw10_ArcEmpties #[.int .i64 room0, .slice l1.a l1.n l1.c] w fun e w' => ∃ v, e = .returned v ∧ Q v w' :=
  funJ_calls mixed Tryd.func8 rfl h

end Go.Proofs.YtchlicgjdlkidaaDoor
