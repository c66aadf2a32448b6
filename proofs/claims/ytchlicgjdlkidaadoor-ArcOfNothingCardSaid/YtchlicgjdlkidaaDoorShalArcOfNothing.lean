/- Printed by a program of mine (wip/tools/shal.py): the shallow texts of the loaded functions, each equal to the interpreter's reading by the kernel. -/
import Derived.Test.YtchlicgjdlkidaaDoorShal
set_option linter.unusedVariables false
set_option maxRecDepth 100000
namespace Go.Proofs.YtchlicgjdlkidaaDoor
open Go.Hb

-- hoard/hoardlaw10.ArcOfNothing
def hoardlaw10_ArcOfNothing_kp : KP := ⟨[], []⟩
def hoardlaw10_ArcOfNothing (key0 : ByteArray) (Q : Value → WP) : WP := funJ idJ Tryd.prog hoardlaw10_ArcOfNothing_kp Tryd.f14 [.string key0] Q
theorem hoardlaw10_ArcOfNothing_raw (jn : Jn) (key0 : ByteArray) (Q : Value → WP) : funJ jn Tryd.prog hoardlaw10_ArcOfNothing_kp Tryd.f14 [.string key0] Q = (
  ite2 (decide ((key0.size : Int) > (40 : Int))) (
  Q (.bool true)) (
  call2 .bool .slc Tryd.prog id_arc_Engine_Access [.pointer (none : Option Addr), .string key0] fun (x_1 : Bool) (x_2 : Sl) =>
  call2 .str .bool Tryd.prog id_arc_Engine_Evict [.pointer (none : Option Addr)] fun (x_3 : ByteArray) (x_4 : Bool) =>
  ite2 (!x_1) (
  ite2 ((x_2.n : Int) == (0 : Int)) (
  call1 .bool Tryd.prog id_arc_Engine_Load [.pointer (none : Option Addr), .string key0] fun (x_5 : Bool) =>
  ite2 (!x_5) (
  call1 .bool Tryd.prog id_arc_Engine_Remove [.pointer (none : Option Addr), .string key0] fun (x_6 : Bool) =>
  ite2 (!x_6) (
  ite2 (sEq x_3 str_empty) (
  ite2 (!x_4) (
  call1 .bool Tryd.prog id_arc_Engine_Has [.pointer (none : Option Addr), .string key0] fun (x_7 : Bool) =>
  ite2 (!x_7) (
  call1 .slc Tryd.prog id_arc_Engine_Keys [.pointer (none : Option Addr)] fun (x_8 : Sl) =>
  ite2 ((x_8.n : Int) == (0 : Int)) (
  call1 .slc Tryd.prog id_arc_Engine_Ghosts [.pointer (none : Option Addr)] fun (x_9 : Sl) =>
  ite2 ((x_9.n : Int) == (0 : Int)) (
  call1 .str Tryd.prog id_arc_Engine_State [.pointer (none : Option Addr)] fun (x_10 : ByteArray) =>
  ite2 (sEq x_10 str_empty) (
  call1 (.int .i64) Tryd.prog id_arc_Engine_Len [.pointer (none : Option Addr)] fun (x_11 : Int) =>
  ite2 (x_11 == (0 : Int)) (
  call1 (.int .i64) Tryd.prog id_arc_Engine_Room [.pointer (none : Option Addr)] fun (x_12 : Int) =>
  ite2 (x_12 == (0 : Int)) (
  call1 .bool Tryd.prog id_hoardlaw10_known [] fun (x_13 : Bool) =>
  Q (.bool x_13)) (
  Q (.bool false))) (
  Q (.bool false))) (
  Q (.bool false))) (
  Q (.bool false))) (
  Q (.bool false))) (
  Q (.bool false))) (
  Q (.bool false))) (
  Q (.bool false))) (
  Q (.bool false))) (
  Q (.bool false))) (
  Q (.bool false))) (
  Q (.bool false)))) := by kernel_rfl
theorem hoardlaw10_ArcOfNothing_def (key0 : ByteArray) (Q : Value → WP) : hoardlaw10_ArcOfNothing key0 Q = funJ idJ Tryd.prog hoardlaw10_ArcOfNothing_kp Tryd.f14 [.string key0] Q := rfl
theorem hoardlaw10_ArcOfNothing_calls {key0 : ByteArray} {Q : Value → WP} {w : World} (h : hoardlaw10_ArcOfNothing key0 Q w) : Calls Tryd.prog id_hoardlaw10_ArcOfNothing #[.string key0] w fun e w' => ∃ v, e = .returned v ∧ Q v w' :=
  funJ_calls mixed Tryd.func14 rfl h

end Go.Proofs.YtchlicgjdlkidaaDoor
