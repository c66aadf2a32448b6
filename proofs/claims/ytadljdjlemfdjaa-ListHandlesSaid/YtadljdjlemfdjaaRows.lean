/-
  No cell of these rows narrows 'for every input' (looked for: loops, veiled, ifaces, maps, wideKeys, modest, calm, conditions, laid).
  DERIVED. THE GIVEN ROWS OF THIS SEAT. 6 by the template 'for every input the law returns true; each argument reads behind the call as it read before'; 0 by the template 'total and deterministic' (their statements: YtadljdjlemfdjaaTotals.lean).
  GIVEN WITH THE SEED: the statements are not yours to turn. If you find one false, say at which input.
  Laid BY PROGRAM, IN A SANDBOX (cutbox-rows.mjs): the forced cells as the released guide's own fill.sh prints them over the translation 68ece675aaa6e77e… (all of the seat's roots in one cut). By AI agents, Wed Nov 11 2026. No macro, syntax, notation, axiom, sorry.
-/
import Derived.Test.YtadljdjlemfdjaaChecked
import GoSem.Claim
import GoSem.ClaimJoined
import GoSem.ClaimMapViews
import Derived.JoinedTies
import Derived.KernelRfl
namespace Go.Proofs.Ytadljdjlemfdjaa
/- THE CELL 'sum', in the pinned program and in every row, IS THE sha256 OF THE DUMP (.gsa) THAT YtadljdjlemfdjaaProg.lean LOADS. Nothing in Lean hashes anything: it is a label: what it is worth is what the hold of that sum in a sandbox is worth. -/
noncomputable def Try.pinned : Pinned := { name := "ytadljdjlemfdjaa", sum := "68ece675aaa6e77e7f539a5da147048d6e07bc5fa346b886f51046faf4efe010", checked := Try.checked }
namespace Rows
def none {H : Type} : Left H := { results := [], args := [] }

/-- 'hoardlaw4.ListOwn': WHATEVER THE INPUT: true; the input reads as it did. -/
def listOwnSpec : ChangeSpec := { name := "listOwn", fn := fun _ => fun
  | [d] => { results := [.lit (.bool true)], args := [d] }
  | _ => none }
def listOwnRow : OpenClaim := { program := "ytadljdjlemfdjaa", sum := "68ece675aaa6e77e7f539a5da147048d6e07bc5fa346b886f51046faf4efe010", func := "hoard/hoardlaw4.ListOwn", spec := "listOwn", apart := false }
def ListOwnSaid : Prop := listOwnRow.holds Try.pinned (OpenSpec.ofChange listOwnSpec)

/-- ITS FALSE NEIGHBOUR: 'it returns false'. Refute it at one input. -/
def listOwnWrong : ChangeSpec := { name := "listOwn", fn := fun _ => fun
  | [d] => { results := [.lit (.bool false)], args := [d] }
  | _ => none }
def ListOwnWrongFalsely : Prop := listOwnRow.holds Try.pinned (OpenSpec.ofChange listOwnWrong)

/-- 'hoardlaw4.ListNumbers': WHATEVER THE INPUT: true; the input reads as it did. -/
def listNumbersSpec : ChangeSpec := { name := "listNumbers", fn := fun _ => fun
  | [d1, d2] => { results := [.lit (.bool true)], args := [d1, d2] }
  | _ => none }
def listNumbersRow : OpenClaim := { program := "ytadljdjlemfdjaa", sum := "68ece675aaa6e77e7f539a5da147048d6e07bc5fa346b886f51046faf4efe010", func := "hoard/hoardlaw4.ListNumbers", spec := "listNumbers", apart := false }
def ListNumbersSaid : Prop := listNumbersRow.holds Try.pinned (OpenSpec.ofChange listNumbersSpec)

/-- ITS FALSE NEIGHBOUR: 'it returns false'. Refute it at one input. -/
def listNumbersWrong : ChangeSpec := { name := "listNumbers", fn := fun _ => fun
  | [d1, d2] => { results := [.lit (.bool false)], args := [d1, d2] }
  | _ => none }
def ListNumbersWrongFalsely : Prop := listNumbersRow.holds Try.pinned (OpenSpec.ofChange listNumbersWrong)

/-- 'hoardlaw4.ListMoves': WHATEVER THE INPUT: true; the input reads as it did. -/
def listMovesSpec : ChangeSpec := { name := "listMoves", fn := fun _ => fun
  | [d1, d2, d3] => { results := [.lit (.bool true)], args := [d1, d2, d3] }
  | _ => none }
def listMovesRow : OpenClaim := { program := "ytadljdjlemfdjaa", sum := "68ece675aaa6e77e7f539a5da147048d6e07bc5fa346b886f51046faf4efe010", func := "hoard/hoardlaw4.ListMoves", spec := "listMoves", apart := false }
def ListMovesSaid : Prop := listMovesRow.holds Try.pinned (OpenSpec.ofChange listMovesSpec)

/-- ITS FALSE NEIGHBOUR: 'it returns false'. Refute it at one input. -/
def listMovesWrong : ChangeSpec := { name := "listMoves", fn := fun _ => fun
  | [d1, d2, d3] => { results := [.lit (.bool false)], args := [d1, d2, d3] }
  | _ => none }
def ListMovesWrongFalsely : Prop := listMovesRow.holds Try.pinned (OpenSpec.ofChange listMovesWrong)

/-- 'hoardlaw4.ListHandles': WHATEVER THE INPUT: true; the input reads as it did. -/
def listHandlesSpec : ChangeSpec := { name := "listHandles", fn := fun _ => fun
  | [d] => { results := [.lit (.bool true)], args := [d] }
  | _ => none }
def listHandlesRow : OpenClaim := { program := "ytadljdjlemfdjaa", sum := "68ece675aaa6e77e7f539a5da147048d6e07bc5fa346b886f51046faf4efe010", func := "hoard/hoardlaw4.ListHandles", spec := "listHandles", apart := false }
def ListHandlesSaid : Prop := listHandlesRow.holds Try.pinned (OpenSpec.ofChange listHandlesSpec)

/-- ITS FALSE NEIGHBOUR: 'it returns false'. Refute it at one input. -/
def listHandlesWrong : ChangeSpec := { name := "listHandles", fn := fun _ => fun
  | [d] => { results := [.lit (.bool false)], args := [d] }
  | _ => none }
def ListHandlesWrongFalsely : Prop := listHandlesRow.holds Try.pinned (OpenSpec.ofChange listHandlesWrong)

/-- 'hoardlaw4.ListPlays': WHATEVER THE INPUT: true; the input reads as it did. -/
def listPlaysSpec : ChangeSpec := { name := "listPlays", fn := fun _ => fun
  | [d] => { results := [.lit (.bool true)], args := [d] }
  | _ => none }
def listPlaysRow : OpenClaim := { program := "ytadljdjlemfdjaa", sum := "68ece675aaa6e77e7f539a5da147048d6e07bc5fa346b886f51046faf4efe010", func := "hoard/hoardlaw4.ListPlays", spec := "listPlays", apart := false }
def ListPlaysSaid : Prop := listPlaysRow.holds Try.pinned (OpenSpec.ofChange listPlaysSpec)

/-- ITS FALSE NEIGHBOUR: 'it returns false'. Refute it at one input. -/
def listPlaysWrong : ChangeSpec := { name := "listPlays", fn := fun _ => fun
  | [d] => { results := [.lit (.bool false)], args := [d] }
  | _ => none }
def ListPlaysWrongFalsely : Prop := listPlaysRow.holds Try.pinned (OpenSpec.ofChange listPlaysWrong)

/-- 'hoardlaw4.ListOfNothing': WHATEVER THE INPUT: true; the input reads as it did. -/
def listOfNothingSpec : ChangeSpec := { name := "listOfNothing", fn := fun _ => fun
  | [d1, d2] => { results := [.lit (.bool true)], args := [d1, d2] }
  | _ => none }
def listOfNothingRow : OpenClaim := { program := "ytadljdjlemfdjaa", sum := "68ece675aaa6e77e7f539a5da147048d6e07bc5fa346b886f51046faf4efe010", func := "hoard/hoardlaw4.ListOfNothing", spec := "listOfNothing", apart := false }
def ListOfNothingSaid : Prop := listOfNothingRow.holds Try.pinned (OpenSpec.ofChange listOfNothingSpec)

/-- ITS FALSE NEIGHBOUR: 'it returns false'. Refute it at one input. -/
def listOfNothingWrong : ChangeSpec := { name := "listOfNothing", fn := fun _ => fun
  | [d1, d2] => { results := [.lit (.bool false)], args := [d1, d2] }
  | _ => none }
def ListOfNothingWrongFalsely : Prop := listOfNothingRow.holds Try.pinned (OpenSpec.ofChange listOfNothingWrong)

/- THE SECOND FORM. 'bulk': how many values and letters a reading holds, each counted each time it is reached (what is shared counts as often as it is met; a slice's spare places count too). A statement '..UptoSaid' is the law's where the arguments, and the package variables that the reading takes, are together of bulk at most 1048576: NARROWER than '..Said'. Prove '..Said' where nothing that the law and all that it calls make is longer than what came in: it says more and counts as full. Else prove '..UptoSaid'. A law counts once. -/
mutual
def uptoBulk {H : Type} : DataW H → Nat
  | .lit (.string bytes) => bytes.length + 1
  | .lit _ => 1
  | .nil => 1
  | .ptr d => uptoBulk d + 1
  | .slice elems spare => uptoBulkAll elems + uptoBulkAll spare + 1
  | .agg parts => uptoBulkAll parts + 1
  | .iface _ d => uptoBulk d + 1
  | .map entries => uptoBulkEntries entries + 1
  | .held _ => 1
def uptoBulkAll {H : Type} : List (DataW H) → Nat
  | [] => 0
  | d :: r => uptoBulk d + uptoBulkAll r
def uptoBulkEntries {H : Type} : List (Lit × DataW H) → Nat
  | [] => 0
  | x :: r => uptoBulkEntry x + uptoBulkEntries r
def uptoBulkEntry {H : Type} : Lit × DataW H → Nat
  | (.string bytes, d) => bytes.length + uptoBulk d + 1
  | (_, d) => uptoBulk d + 1
 end
def uptoSmall : (H : Type) → List (DataW H) → Bool := fun _ ds => decide (uptoBulkAll ds ≤ 1048576)
def OpenSpec.upto (s : _root_.Go.ChangeSpec) : _root_.Go.OpenSpec := { _root_.Go.OpenSpec.ofChange s with cond := some uptoSmall }

/-- 'hoardlaw4.ListOwn', WHERE WHAT IT READS IS OF BULK AT MOST 1048576: true; the input reads as it did. -/
def listOwnUptoRow : OpenClaim := { program := "ytadljdjlemfdjaa", sum := "68ece675aaa6e77e7f539a5da147048d6e07bc5fa346b886f51046faf4efe010", func := "hoard/hoardlaw4.ListOwn", spec := "listOwn", apart := false, narrowed := true }
def ListOwnUptoSaid : Prop := listOwnUptoRow.holds Try.pinned (OpenSpec.upto listOwnSpec)

/-- 'hoardlaw4.ListNumbers', WHERE WHAT IT READS IS OF BULK AT MOST 1048576: true; the input reads as it did. -/
def listNumbersUptoRow : OpenClaim := { program := "ytadljdjlemfdjaa", sum := "68ece675aaa6e77e7f539a5da147048d6e07bc5fa346b886f51046faf4efe010", func := "hoard/hoardlaw4.ListNumbers", spec := "listNumbers", apart := false, narrowed := true }
def ListNumbersUptoSaid : Prop := listNumbersUptoRow.holds Try.pinned (OpenSpec.upto listNumbersSpec)

/-- 'hoardlaw4.ListMoves', WHERE WHAT IT READS IS OF BULK AT MOST 1048576: true; the input reads as it did. -/
def listMovesUptoRow : OpenClaim := { program := "ytadljdjlemfdjaa", sum := "68ece675aaa6e77e7f539a5da147048d6e07bc5fa346b886f51046faf4efe010", func := "hoard/hoardlaw4.ListMoves", spec := "listMoves", apart := false, narrowed := true }
def ListMovesUptoSaid : Prop := listMovesUptoRow.holds Try.pinned (OpenSpec.upto listMovesSpec)

/-- 'hoardlaw4.ListHandles', WHERE WHAT IT READS IS OF BULK AT MOST 1048576: true; the input reads as it did. -/
def listHandlesUptoRow : OpenClaim := { program := "ytadljdjlemfdjaa", sum := "68ece675aaa6e77e7f539a5da147048d6e07bc5fa346b886f51046faf4efe010", func := "hoard/hoardlaw4.ListHandles", spec := "listHandles", apart := false, narrowed := true }
def ListHandlesUptoSaid : Prop := listHandlesUptoRow.holds Try.pinned (OpenSpec.upto listHandlesSpec)

/-- 'hoardlaw4.ListPlays', WHERE WHAT IT READS IS OF BULK AT MOST 1048576: true; the input reads as it did. -/
def listPlaysUptoRow : OpenClaim := { program := "ytadljdjlemfdjaa", sum := "68ece675aaa6e77e7f539a5da147048d6e07bc5fa346b886f51046faf4efe010", func := "hoard/hoardlaw4.ListPlays", spec := "listPlays", apart := false, narrowed := true }
def ListPlaysUptoSaid : Prop := listPlaysUptoRow.holds Try.pinned (OpenSpec.upto listPlaysSpec)

/-- 'hoardlaw4.ListOfNothing', WHERE WHAT IT READS IS OF BULK AT MOST 1048576: true; the input reads as it did. -/
def listOfNothingUptoRow : OpenClaim := { program := "ytadljdjlemfdjaa", sum := "68ece675aaa6e77e7f539a5da147048d6e07bc5fa346b886f51046faf4efe010", func := "hoard/hoardlaw4.ListOfNothing", spec := "listOfNothing", apart := false, narrowed := true }
def ListOfNothingUptoSaid : Prop := listOfNothingUptoRow.holds Try.pinned (OpenSpec.upto listOfNothingSpec)

end Rows
end Go.Proofs.Ytadljdjlemfdjaa
