/-
  No cell of these rows narrows 'for every input' (looked for: loops, veiled, ifaces, maps, wideKeys, modest, calm, conditions, laid).
  DERIVED. THE GIVEN ROWS OF THIS SEAT. 3 by the template 'for every input the law returns true; each argument reads behind the call as it read before'; 0 by the template 'total and deterministic' (their statements: YtnmlaenfaiacfaaTotals.lean).
  GIVEN WITH THE SEED: the statements are not yours to turn. If you find one false, say at which input.
  Laid BY PROGRAM, IN A SANDBOX (cutbox-rows.mjs): the forced cells as the released guide's own fill.sh prints them over the translation e80bbb4aabe7c791… (all of the seat's roots in one cut). By AI agents, Wed Nov 11 2026. No macro, syntax, notation, axiom, sorry.
-/
import Derived.Test.YtnmlaenfaiacfaaChecked
import GoSem.Claim
import GoSem.ClaimJoined
import GoSem.ClaimMapViews
import Derived.JoinedTies
import Derived.KernelRfl
namespace Go.Proofs.Ytnmlaenfaiacfaa
/- THE CELL 'sum', in the pinned program and in every row, IS THE sha256 OF THE DUMP (.gsa) THAT YtnmlaenfaiacfaaProg.lean LOADS. Nothing in Lean hashes anything: it is a label: what it is worth is what the hold of that sum in a sandbox is worth. -/
noncomputable def Try.pinned : Pinned := { name := "ytnmlaenfaiacfaa", sum := "e80bbb4aabe7c791362f021bedbf8d10d25c8507e95f11438e2021efce81eb9a", checked := Try.checked }
namespace Rows
def none {H : Type} : Left H := { results := [], args := [] }

/-- 'hoardlaw27.JudgeWrong': WHATEVER THE INPUT: true; the input reads as it did. -/
def judgeWrongSpec : ChangeSpec := { name := "judgeWrong", fn := fun _ => fun
  | [d1, d2, d3, d4] => { results := [.lit (.bool true)], args := [d1, d2, d3, d4] }
  | _ => none }
def judgeWrongRow : OpenClaim := { program := "ytnmlaenfaiacfaa", sum := "e80bbb4aabe7c791362f021bedbf8d10d25c8507e95f11438e2021efce81eb9a", func := "hoard/hoardlaw27.JudgeWrong", spec := "judgeWrong", inPlace := ["internal/bytealg.IndexByteString"], apart := false }
def JudgeWrongSaid : Prop := judgeWrongRow.holds Try.pinned (OpenSpec.ofChange judgeWrongSpec)

/-- ITS FALSE NEIGHBOUR: 'it returns false'. Refute it at one input. -/
def judgeWrongWrong : ChangeSpec := { name := "judgeWrong", fn := fun _ => fun
  | [d1, d2, d3, d4] => { results := [.lit (.bool false)], args := [d1, d2, d3, d4] }
  | _ => none }
def JudgeWrongWrongFalsely : Prop := judgeWrongRow.holds Try.pinned (OpenSpec.ofChange judgeWrongWrong)

/-- 'hoardlaw27.JudgeSees': WHATEVER THE INPUT: true; the input reads as it did. -/
def judgeSeesSpec : ChangeSpec := { name := "judgeSees", fn := fun _ => fun
  | [d1, d2, d3, d4] => { results := [.lit (.bool true)], args := [d1, d2, d3, d4] }
  | _ => none }
def judgeSeesRow : OpenClaim := { program := "ytnmlaenfaiacfaa", sum := "e80bbb4aabe7c791362f021bedbf8d10d25c8507e95f11438e2021efce81eb9a", func := "hoard/hoardlaw27.JudgeSees", spec := "judgeSees", inPlace := ["internal/bytealg.IndexByteString"], apart := false }
def JudgeSeesSaid : Prop := judgeSeesRow.holds Try.pinned (OpenSpec.ofChange judgeSeesSpec)

/-- ITS FALSE NEIGHBOUR: 'it returns false'. Refute it at one input. -/
def judgeSeesWrong : ChangeSpec := { name := "judgeSees", fn := fun _ => fun
  | [d1, d2, d3, d4] => { results := [.lit (.bool false)], args := [d1, d2, d3, d4] }
  | _ => none }
def JudgeSeesWrongFalsely : Prop := judgeSeesRow.holds Try.pinned (OpenSpec.ofChange judgeSeesWrong)

/-- 'hoardlaw27.JudgeOfNothing': WHATEVER THE INPUT: true; the input reads as it did. -/
def judgeOfNothingSpec : ChangeSpec := { name := "judgeOfNothing", fn := fun _ => fun
  | [d] => { results := [.lit (.bool true)], args := [d] }
  | _ => none }
def judgeOfNothingRow : OpenClaim := { program := "ytnmlaenfaiacfaa", sum := "e80bbb4aabe7c791362f021bedbf8d10d25c8507e95f11438e2021efce81eb9a", func := "hoard/hoardlaw27.JudgeOfNothing", spec := "judgeOfNothing", inPlace := ["internal/bytealg.IndexByteString"], apart := false }
def JudgeOfNothingSaid : Prop := judgeOfNothingRow.holds Try.pinned (OpenSpec.ofChange judgeOfNothingSpec)

/-- ITS FALSE NEIGHBOUR: 'it returns false'. Refute it at one input. -/
def judgeOfNothingWrong : ChangeSpec := { name := "judgeOfNothing", fn := fun _ => fun
  | [d] => { results := [.lit (.bool false)], args := [d] }
  | _ => none }
def JudgeOfNothingWrongFalsely : Prop := judgeOfNothingRow.holds Try.pinned (OpenSpec.ofChange judgeOfNothingWrong)

/- THE SECOND FORM. 'bulk': how many values and letters a reading holds, each counted each time it is reached (what is shared counts as often as it is met; a slice's spare places count too). A statement '..UptoSaid' is the law's where the arguments, and the package variables that the reading takes, are together of bulk at most 1048576: NARROWER than '..Said'. Prove '..Said' where nothing that the law and all that it calls make is longer than what came in: it says more and counts as full. Else prove '..UptoSaid'. A law counts once. -/
mutual
def uptoBulk {H : Type} : DataW H → Nat
  | .lit (.string bytes) => bytes.length + 1
  | .lit _ => 1
  | .nil => 1
  | .ptr d => uptoBulk d + 1
  | .slice elems spare => uptoBulkAll elems + uptoBulkAll spare + 1
  | .agg parts => uptoBulkAll parts + 1
  | .iface _ d => uptoBulk d + 1
  | .map entries => uptoBulkEntries entries + 1
  | .held _ => 1
def uptoBulkAll {H : Type} : List (DataW H) → Nat
  | [] => 0
  | d :: r => uptoBulk d + uptoBulkAll r
def uptoBulkEntries {H : Type} : List (Lit × DataW H) → Nat
  | [] => 0
  | x :: r => uptoBulkEntry x + uptoBulkEntries r
def uptoBulkEntry {H : Type} : Lit × DataW H → Nat
  | (.string bytes, d) => bytes.length + uptoBulk d + 1
  | (_, d) => uptoBulk d + 1
 end
def uptoSmall : (H : Type) → List (DataW H) → Bool := fun _ ds => decide (uptoBulkAll ds ≤ 1048576)
def OpenSpec.upto (s : _root_.Go.ChangeSpec) : _root_.Go.OpenSpec := { _root_.Go.OpenSpec.ofChange s with cond := some uptoSmall }

/-- 'hoardlaw27.JudgeWrong', WHERE WHAT IT READS IS OF BULK AT MOST 1048576: true; the input reads as it did. -/
def judgeWrongUptoRow : OpenClaim := { program := "ytnmlaenfaiacfaa", sum := "e80bbb4aabe7c791362f021bedbf8d10d25c8507e95f11438e2021efce81eb9a", func := "hoard/hoardlaw27.JudgeWrong", spec := "judgeWrong", inPlace := ["internal/bytealg.IndexByteString"], apart := false, narrowed := true }
def JudgeWrongUptoSaid : Prop := judgeWrongUptoRow.holds Try.pinned (OpenSpec.upto judgeWrongSpec)

/-- 'hoardlaw27.JudgeSees', WHERE WHAT IT READS IS OF BULK AT MOST 1048576: true; the input reads as it did. -/
def judgeSeesUptoRow : OpenClaim := { program := "ytnmlaenfaiacfaa", sum := "e80bbb4aabe7c791362f021bedbf8d10d25c8507e95f11438e2021efce81eb9a", func := "hoard/hoardlaw27.JudgeSees", spec := "judgeSees", inPlace := ["internal/bytealg.IndexByteString"], apart := false, narrowed := true }
def JudgeSeesUptoSaid : Prop := judgeSeesUptoRow.holds Try.pinned (OpenSpec.upto judgeSeesSpec)

/-- 'hoardlaw27.JudgeOfNothing', WHERE WHAT IT READS IS OF BULK AT MOST 1048576: true; the input reads as it did. -/
def judgeOfNothingUptoRow : OpenClaim := { program := "ytnmlaenfaiacfaa", sum := "e80bbb4aabe7c791362f021bedbf8d10d25c8507e95f11438e2021efce81eb9a", func := "hoard/hoardlaw27.JudgeOfNothing", spec := "judgeOfNothing", inPlace := ["internal/bytealg.IndexByteString"], apart := false, narrowed := true }
def JudgeOfNothingUptoSaid : Prop := judgeOfNothingUptoRow.holds Try.pinned (OpenSpec.upto judgeOfNothingSpec)

end Rows
end Go.Proofs.Ytnmlaenfaiacfaa
