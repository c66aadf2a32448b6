/- Printed by a program of mine (wip/tools/shal.py): the shallow texts of the loaded functions, each equal to the interpreter's reading by the kernel. -/
import Derived.Test.YtnmlaenfaiacfaaShal
set_option linter.unusedVariables false
set_option maxRecDepth 100000
namespace Go.Proofs.Ytnmlaenfaiacfaa
open Go.Hb

-- hoard/hoardlaw27.JudgeOfNothing
def hoardlaw27_JudgeOfNothing_kp : KP := ⟨[], []⟩
def hoardlaw27_JudgeOfNothing (o0_0 : Int) (o0_1 : ByteArray) (o0_2 : ByteArray) (o0_3 : Int) (Q : Value → WP) : WP := funJ idJ Try.prog hoardlaw27_JudgeOfNothing_kp Try.f5 [.agg #[.int .i64 o0_0, .string o0_1, .string o0_2, .int .i64 o0_3]] Q
theorem hoardlaw27_JudgeOfNothing_raw (jn : Jn) (o0_0 : Int) (o0_1 : ByteArray) (o0_2 : ByteArray) (o0_3 : Int) (Q : Value → WP) : funJ jn Try.prog hoardlaw27_JudgeOfNothing_kp Try.f5 [.agg #[.int .i64 o0_0, .string o0_1, .string o0_2, .int .i64 o0_3]] Q = (
  newB [.int .i64 o0_0, .string o0_1, .string o0_2, .int .i64 o0_3] ty_api_Op fun b_1 =>
  ld (.int .i64) b_1 0 fun (x_2 : Int) =>
  ld .str b_1 1 fun (x_3 : ByteArray) =>
  ld .str b_1 2 fun (x_4 : ByteArray) =>
  ld (.int .i64) b_1 3 fun (x_5 : Int) =>
  newB [.int .i64 x_2, .string x_3, .string x_4, .int .i64 x_5] ty_api_Op fun b_6 =>
  call1 .bool Try.prog id_hoardlaw27_heavy [.slice (some ⟨b_6, 0, none⟩) 1 1] fun (x_7 : Bool) =>
  ite2 x_7 (
  Q (.bool true)) (
  ld .str b_1 1 fun (x_8 : ByteArray) =>
  call2 .str .bool Try.prog id_judge_Judge_Put [.pointer (none : Option Addr), .string x_8] fun (x_9 : ByteArray) (x_10 : Bool) =>
  ld (.int .i64) b_1 0 fun (x_11 : Int) =>
  ld .str b_1 1 fun (x_12 : ByteArray) =>
  ld .str b_1 2 fun (x_13 : ByteArray) =>
  ld (.int .i64) b_1 3 fun (x_14 : Int) =>
  call1 .bool Try.prog id_judge_Judge_See [.pointer (none : Option Addr), .agg #[.int .i64 x_11, .string x_12, .string x_13, .int .i64 x_14], .agg #[.int .i64 (0 : Int), .bool false, .string str_empty, .slice (none : Option Addr) 0 0]] fun (x_15 : Bool) =>
  ite2 (!x_15) (
  call1 (.int .i64) Try.prog id_judge_Judge_Now [.pointer (none : Option Addr)] fun (x_16 : Int) =>
  ite2 (x_16 == (0 : Int)) (
  ite2 (sEq x_9 str_empty) (
  ite2 (!x_10) (
  call1 (.int .i64) Try.prog id_judge_Wrong [.int .i64 (1 : Int), .int .i64 (1 : Int), .slice (none : Option Addr) 0 0, .slice (none : Option Addr) 0 0] fun (x_17 : Int) =>
  ite2 (x_17 == (-1 : Int)) (
  call1 .bool Try.prog id_hoardlaw27_known [] fun (x_18 : Bool) =>
  Q (.bool x_18)) (
  Q (.bool false))) (
  Q (.bool false))) (
  Q (.bool false))) (
  Q (.bool false))) (
  Q (.bool false)))) := by kernel_rfl
theorem hoardlaw27_JudgeOfNothing_def (o0_0 : Int) (o0_1 : ByteArray) (o0_2 : ByteArray) (o0_3 : Int) (Q : Value → WP) : hoardlaw27_JudgeOfNothing o0_0 o0_1 o0_2 o0_3 Q = funJ idJ Try.prog hoardlaw27_JudgeOfNothing_kp Try.f5 [.agg #[.int .i64 o0_0, .string o0_1, .string o0_2, .int .i64 o0_3]] Q := rfl
theorem hoardlaw27_JudgeOfNothing_calls {o0_0 : Int} {o0_1 : ByteArray} {o0_2 : ByteArray} {o0_3 : Int} {Q : Value → WP} {w : World} (h : hoardlaw27_JudgeOfNothing o0_0 o0_1 o0_2 o0_3 Q w) : Calls Try.prog id_hoardlaw27_JudgeOfNothing #[.agg #[.int .i64 o0_0, .string o0_1, .string o0_2, .int .i64 o0_3]] w fun e w' => ∃ v, e = .returned v ∧ Q v w' :=
  funJ_calls mixed Try.func5 rfl h

end Go.Proofs.Ytnmlaenfaiacfaa
