/- Printed by a program of mine (wip/tools/shal.py): the shallow texts of the loaded functions, each equal to the interpreter's reading by the kernel. -/
import Derived.Test.YtnmlaenfaiacfaaShal
set_option linter.unusedVariables false
set_option maxRecDepth 100000
namespace Go.Proofs.Ytnmlaenfaiacfaa
open Go.Hb

-- hoard/hoardlaw27.JudgeWrong
def hoardlaw27_JudgeWrong_kp : KP := ⟨[(8, [0, 1, 2, 3])], []⟩
def hoardlaw27_JudgeWrong_j1 (jn : Jn) (Q : Value → WP)  (shards0 : Int) (room1 : Int) (l2 : Sl) (r3 : Sl) : WP := jn 8 (fun ρ => codeI Try.prog hoardlaw27_JudgeWrong_kp jn (cAt [true, true] (bodyOf Try.f3)) (retK Try.prog Try.f3 Q) noX (retK Try.prog Try.f3 Q) ρ) ((.int .i64 shards0) :: (.int .i64 room1) :: (.slice l2.a l2.n l2.c) :: (.slice r3.a r3.n r3.c) :: us 35 [])
def hoardlaw27_JudgeWrong (shards0 : Int) (room1 : Int) (l2 : Sl) (r3 : Sl) (Q : Value → WP) : WP := funJ idJ Try.prog hoardlaw27_JudgeWrong_kp Try.f3 [.int .i64 shards0, .int .i64 room1, .slice l2.a l2.n l2.c, .slice r3.a r3.n r3.c] Q
theorem hoardlaw27_JudgeWrong_j1_raw (jn : Jn) (Q : Value → WP)  (shards0 : Int) (room1 : Int) (l2 : Sl) (r3 : Sl) : codeI Try.prog hoardlaw27_JudgeWrong_kp jn (cAt [true, true] (bodyOf Try.f3)) (retK Try.prog Try.f3 Q) noX (retK Try.prog Try.f3 Q) ((.int .i64 shards0) :: (.int .i64 room1) :: (.slice l2.a l2.n l2.c) :: (.slice r3.a r3.n r3.c) :: us 35 []) = (
  call1 (.int .i64) Try.prog id_judge_Wrong [.int .i64 shards0, .int .i64 room1, .slice l2.a l2.n l2.c, .slice r3.a r3.n r3.c] fun (x_3 : Int) =>
  call1 (.int .i64) Try.prog id_hoardref27_Wrong [.int .i64 shards0, .int .i64 room1, .slice l2.a l2.n l2.c, .slice r3.a r3.n r3.c] fun (x_4 : Int) =>
  ite2 (x_3 == x_4) (
  call1 .bool Try.prog id_hoardlaw27_known [] fun (x_5 : Bool) =>
  Q (.bool x_5)) (
  Q (.bool false))) := by kernel_rfl
theorem hoardlaw27_JudgeWrong_j1_def (Q : Value → WP)  (shards0 : Int) (room1 : Int) (l2 : Sl) (r3 : Sl) : hoardlaw27_JudgeWrong_j1 idJ Q  shards0 room1 l2 r3 = codeI Try.prog hoardlaw27_JudgeWrong_kp idJ (cAt [true, true] (bodyOf Try.f3)) (retK Try.prog Try.f3 Q) noX (retK Try.prog Try.f3 Q) ((.int .i64 shards0) :: (.int .i64 room1) :: (.slice l2.a l2.n l2.c) :: (.slice r3.a r3.n r3.c) :: us 35 []) := by kernel_rfl
theorem hoardlaw27_JudgeWrong_raw (jn : Jn) (shards0 : Int) (room1 : Int) (l2 : Sl) (r3 : Sl) (Q : Value → WP) : funJ jn Try.prog hoardlaw27_JudgeWrong_kp Try.f3 [.int .i64 shards0, .int .i64 room1, .slice l2.a l2.n l2.c, .slice r3.a r3.n r3.c] Q = (
  call1 .bool Try.prog id_hoardlaw27_heavy [.slice l2.a l2.n l2.c] fun (x_1 : Bool) =>
  ite2 x_1 (
  Q (.bool true)) (
  call1 .bool Try.prog id_hoardlaw27_long [.slice r3.a r3.n r3.c] fun (x_2 : Bool) =>
  ite2 x_2 (
  Q (.bool true)) (
  ite2 (decide ((l2.n : Int) > (120 : Int))) (
  Q (.bool true)) (
  ite2 (decide ((r3.n : Int) > (120 : Int))) (
  Q (.bool true)) (
  hoardlaw27_JudgeWrong_j1 jn Q  shards0 room1 l2 r3))))) := by kernel_rfl
theorem hoardlaw27_JudgeWrong_def (shards0 : Int) (room1 : Int) (l2 : Sl) (r3 : Sl) (Q : Value → WP) : hoardlaw27_JudgeWrong shards0 room1 l2 r3 Q = funJ idJ Try.prog hoardlaw27_JudgeWrong_kp Try.f3 [.int .i64 shards0, .int .i64 room1, .slice l2.a l2.n l2.c, .slice r3.a r3.n r3.c] Q := rfl
theorem hoardlaw27_JudgeWrong_calls {shards0 : Int} {room1 : Int} {l2 : Sl} {r3 : Sl} {Q : Value → WP} {w : World} (h : hoardlaw27_JudgeWrong shards0 room1 l2 r3 Q w) : Calls Try.prog id_hoardlaw27_JudgeWrong #[.int .i64 shards0, .int .i64 room1, .slice l2.a l2.n l2.c, .slice r3.a r3.n r3.c] w fun e w' => ∃ v, e = .returned v ∧ Q v w' :=
  funJ_calls mixed Try.func3 rfl h

end Go.Proofs.Ytnmlaenfaiacfaa
