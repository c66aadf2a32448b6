/-
  No cell of these rows narrows 'for every input' (looked for: loops, veiled, ifaces, maps, wideKeys, modest, calm, conditions, laid).
  DERIVED. THE GIVEN ROWS OF THIS SEAT. 6 by the template 'for every input the law returns true; each argument reads behind the call as it read before'; 0 by the template 'total and deterministic' (their statements: YtcpmmojpgngaaaaTotals.lean).
  GIVEN WITH THE SEED: the statements are not yours to turn. If you find one false, say at which input.
  Laid BY PROGRAM, IN A SANDBOX (cutbox-rows.mjs): the forced cells as the released guide's own fill.sh prints them over the translation 1500fdae41c28d3a… (all of the seat's roots in one cut). By AI agents, Wed Nov 11 2026. No macro, syntax, notation, axiom, sorry.
-/
import Derived.Test.YtcpmmojpgngaaaaChecked
import GoSem.Claim
import GoSem.ClaimJoined
import GoSem.ClaimMapViews
import Derived.JoinedTies
import Derived.KernelRfl
namespace Go.Proofs.Ytcpmmojpgngaaaa
/- THE CELL 'sum', in the pinned program and in every row, IS THE sha256 OF THE DUMP (.gsa) THAT YtcpmmojpgngaaaaProg.lean LOADS. Nothing in Lean hashes anything: it is a label: what it is worth is what the hold of that sum in a sandbox is worth. -/
noncomputable def Try.pinned : Pinned := { name := "ytcpmmojpgngaaaa", sum := "1500fdae41c28d3a8ac443142586514a8ac08c26a02c05122221b4ee6f73b690", checked := Try.checked }
namespace Rows
def none {H : Type} : Left H := { results := [], args := [] }

/-- 'hoardlaw6.IndexMany': WHATEVER THE INPUT: true; the input reads as it did. -/
def indexManySpec : ChangeSpec := { name := "indexMany", fn := fun _ => fun
  | [d1, d2, d3] => { results := [.lit (.bool true)], args := [d1, d2, d3] }
  | _ => none }
def indexManyRow : OpenClaim := { program := "ytcpmmojpgngaaaa", sum := "1500fdae41c28d3a8ac443142586514a8ac08c26a02c05122221b4ee6f73b690", func := "hoard/hoardlaw6.IndexMany", spec := "indexMany", apart := false }
def IndexManySaid : Prop := indexManyRow.holds Try.pinned (OpenSpec.ofChange indexManySpec)

/-- ITS FALSE NEIGHBOUR: 'it returns false'. Refute it at one input. -/
def indexManyWrong : ChangeSpec := { name := "indexMany", fn := fun _ => fun
  | [d1, d2, d3] => { results := [.lit (.bool false)], args := [d1, d2, d3] }
  | _ => none }
def IndexManyWrongFalsely : Prop := indexManyRow.holds Try.pinned (OpenSpec.ofChange indexManyWrong)

/-- 'hoardlaw6.IndexTexts': WHATEVER THE INPUT: true; the input reads as it did. -/
def indexTextsSpec : ChangeSpec := { name := "indexTexts", fn := fun _ => fun
  | [d1, d2, d3] => { results := [.lit (.bool true)], args := [d1, d2, d3] }
  | _ => none }
def indexTextsRow : OpenClaim := { program := "ytcpmmojpgngaaaa", sum := "1500fdae41c28d3a8ac443142586514a8ac08c26a02c05122221b4ee6f73b690", func := "hoard/hoardlaw6.IndexTexts", spec := "indexTexts", apart := false }
def IndexTextsSaid : Prop := indexTextsRow.holds Try.pinned (OpenSpec.ofChange indexTextsSpec)

/-- ITS FALSE NEIGHBOUR: 'it returns false'. Refute it at one input. -/
def indexTextsWrong : ChangeSpec := { name := "indexTexts", fn := fun _ => fun
  | [d1, d2, d3] => { results := [.lit (.bool false)], args := [d1, d2, d3] }
  | _ => none }
def IndexTextsWrongFalsely : Prop := indexTextsRow.holds Try.pinned (OpenSpec.ofChange indexTextsWrong)

/-- 'hoardlaw6.IndexPlays': WHATEVER THE INPUT: true; the input reads as it did. -/
def indexPlaysSpec : ChangeSpec := { name := "indexPlays", fn := fun _ => fun
  | [d1, d2] => { results := [.lit (.bool true)], args := [d1, d2] }
  | _ => none }
def indexPlaysRow : OpenClaim := { program := "ytcpmmojpgngaaaa", sum := "1500fdae41c28d3a8ac443142586514a8ac08c26a02c05122221b4ee6f73b690", func := "hoard/hoardlaw6.IndexPlays", spec := "indexPlays", recurses := true, apart := false }
def IndexPlaysSaid : Prop := indexPlaysRow.holds Try.pinned (OpenSpec.ofChange indexPlaysSpec)

/-- ITS FALSE NEIGHBOUR: 'it returns false'. Refute it at one input. -/
def indexPlaysWrong : ChangeSpec := { name := "indexPlays", fn := fun _ => fun
  | [d1, d2] => { results := [.lit (.bool false)], args := [d1, d2] }
  | _ => none }
def IndexPlaysWrongFalsely : Prop := indexPlaysRow.holds Try.pinned (OpenSpec.ofChange indexPlaysWrong)

/-- 'hoardlaw6.IndexSeeds': WHATEVER THE INPUT: true; the input reads as it did. -/
def indexSeedsSpec : ChangeSpec := { name := "indexSeeds", fn := fun _ => fun
  | [d1, d2, d3] => { results := [.lit (.bool true)], args := [d1, d2, d3] }
  | _ => none }
def indexSeedsRow : OpenClaim := { program := "ytcpmmojpgngaaaa", sum := "1500fdae41c28d3a8ac443142586514a8ac08c26a02c05122221b4ee6f73b690", func := "hoard/hoardlaw6.IndexSeeds", spec := "indexSeeds", recurses := true, apart := false }
def IndexSeedsSaid : Prop := indexSeedsRow.holds Try.pinned (OpenSpec.ofChange indexSeedsSpec)

/-- ITS FALSE NEIGHBOUR: 'it returns false'. Refute it at one input. -/
def indexSeedsWrong : ChangeSpec := { name := "indexSeeds", fn := fun _ => fun
  | [d1, d2, d3] => { results := [.lit (.bool false)], args := [d1, d2, d3] }
  | _ => none }
def IndexSeedsWrongFalsely : Prop := indexSeedsRow.holds Try.pinned (OpenSpec.ofChange indexSeedsWrong)

/-- 'hoardlaw6.IndexOfNothing': WHATEVER THE INPUT: true; the input reads as it did. -/
def indexOfNothingSpec : ChangeSpec := { name := "indexOfNothing", fn := fun _ => fun
  | [d1, d2] => { results := [.lit (.bool true)], args := [d1, d2] }
  | _ => none }
def indexOfNothingRow : OpenClaim := { program := "ytcpmmojpgngaaaa", sum := "1500fdae41c28d3a8ac443142586514a8ac08c26a02c05122221b4ee6f73b690", func := "hoard/hoardlaw6.IndexOfNothing", spec := "indexOfNothing", recurses := true, apart := false }
def IndexOfNothingSaid : Prop := indexOfNothingRow.holds Try.pinned (OpenSpec.ofChange indexOfNothingSpec)

/-- ITS FALSE NEIGHBOUR: 'it returns false'. Refute it at one input. -/
def indexOfNothingWrong : ChangeSpec := { name := "indexOfNothing", fn := fun _ => fun
  | [d1, d2] => { results := [.lit (.bool false)], args := [d1, d2] }
  | _ => none }
def IndexOfNothingWrongFalsely : Prop := indexOfNothingRow.holds Try.pinned (OpenSpec.ofChange indexOfNothingWrong)

/-- 'hoardlaw6.IndexOwn': WHATEVER THE INPUT: true; the input reads as it did. -/
def indexOwnSpec : ChangeSpec := { name := "indexOwn", fn := fun _ => fun
  | [d1, d2] => { results := [.lit (.bool true)], args := [d1, d2] }
  | _ => none }
def indexOwnRow : OpenClaim := { program := "ytcpmmojpgngaaaa", sum := "1500fdae41c28d3a8ac443142586514a8ac08c26a02c05122221b4ee6f73b690", func := "hoard/hoardlaw6.IndexOwn", spec := "indexOwn", recurses := true, apart := false }
def IndexOwnSaid : Prop := indexOwnRow.holds Try.pinned (OpenSpec.ofChange indexOwnSpec)

/-- ITS FALSE NEIGHBOUR: 'it returns false'. Refute it at one input. -/
def indexOwnWrong : ChangeSpec := { name := "indexOwn", fn := fun _ => fun
  | [d1, d2] => { results := [.lit (.bool false)], args := [d1, d2] }
  | _ => none }
def IndexOwnWrongFalsely : Prop := indexOwnRow.holds Try.pinned (OpenSpec.ofChange indexOwnWrong)

/- THE SECOND FORM. 'bulk': how many values and letters a reading holds, each counted each time it is reached (what is shared counts as often as it is met; a slice's spare places count too). A statement '..UptoSaid' is the law's where the arguments, and the package variables that the reading takes, are together of bulk at most 1048576: NARROWER than '..Said'. Prove '..Said' where nothing that the law and all that it calls make is longer than what came in: it says more and counts as full. Else prove '..UptoSaid'. A law counts once. -/
mutual
def uptoBulk {H : Type} : DataW H → Nat
  | .lit (.string bytes) => bytes.length + 1
  | .lit _ => 1
  | .nil => 1
  | .ptr d => uptoBulk d + 1
  | .slice elems spare => uptoBulkAll elems + uptoBulkAll spare + 1
  | .agg parts => uptoBulkAll parts + 1
  | .iface _ d => uptoBulk d + 1
  | .map entries => uptoBulkEntries entries + 1
  | .held _ => 1
def uptoBulkAll {H : Type} : List (DataW H) → Nat
  | [] => 0
  | d :: r => uptoBulk d + uptoBulkAll r
def uptoBulkEntries {H : Type} : List (Lit × DataW H) → Nat
  | [] => 0
  | x :: r => uptoBulkEntry x + uptoBulkEntries r
def uptoBulkEntry {H : Type} : Lit × DataW H → Nat
  | (.string bytes, d) => bytes.length + uptoBulk d + 1
  | (_, d) => uptoBulk d + 1
 end
def uptoSmall : (H : Type) → List (DataW H) → Bool := fun _ ds => decide (uptoBulkAll ds ≤ 1048576)
def OpenSpec.upto (s : _root_.Go.ChangeSpec) : _root_.Go.OpenSpec := { _root_.Go.OpenSpec.ofChange s with cond := some uptoSmall }

/-- 'hoardlaw6.IndexMany', WHERE WHAT IT READS IS OF BULK AT MOST 1048576: true; the input reads as it did. -/
def indexManyUptoRow : OpenClaim := { program := "ytcpmmojpgngaaaa", sum := "1500fdae41c28d3a8ac443142586514a8ac08c26a02c05122221b4ee6f73b690", func := "hoard/hoardlaw6.IndexMany", spec := "indexMany", apart := false, narrowed := true }
def IndexManyUptoSaid : Prop := indexManyUptoRow.holds Try.pinned (OpenSpec.upto indexManySpec)

/-- 'hoardlaw6.IndexTexts', WHERE WHAT IT READS IS OF BULK AT MOST 1048576: true; the input reads as it did. -/
def indexTextsUptoRow : OpenClaim := { program := "ytcpmmojpgngaaaa", sum := "1500fdae41c28d3a8ac443142586514a8ac08c26a02c05122221b4ee6f73b690", func := "hoard/hoardlaw6.IndexTexts", spec := "indexTexts", apart := false, narrowed := true }
def IndexTextsUptoSaid : Prop := indexTextsUptoRow.holds Try.pinned (OpenSpec.upto indexTextsSpec)

/-- 'hoardlaw6.IndexPlays', WHERE WHAT IT READS IS OF BULK AT MOST 1048576: true; the input reads as it did. -/
def indexPlaysUptoRow : OpenClaim := { program := "ytcpmmojpgngaaaa", sum := "1500fdae41c28d3a8ac443142586514a8ac08c26a02c05122221b4ee6f73b690", func := "hoard/hoardlaw6.IndexPlays", spec := "indexPlays", recurses := true, apart := false, narrowed := true }
def IndexPlaysUptoSaid : Prop := indexPlaysUptoRow.holds Try.pinned (OpenSpec.upto indexPlaysSpec)

/-- 'hoardlaw6.IndexSeeds', WHERE WHAT IT READS IS OF BULK AT MOST 1048576: true; the input reads as it did. -/
def indexSeedsUptoRow : OpenClaim := { program := "ytcpmmojpgngaaaa", sum := "1500fdae41c28d3a8ac443142586514a8ac08c26a02c05122221b4ee6f73b690", func := "hoard/hoardlaw6.IndexSeeds", spec := "indexSeeds", recurses := true, apart := false, narrowed := true }
def IndexSeedsUptoSaid : Prop := indexSeedsUptoRow.holds Try.pinned (OpenSpec.upto indexSeedsSpec)

/-- 'hoardlaw6.IndexOfNothing', WHERE WHAT IT READS IS OF BULK AT MOST 1048576: true; the input reads as it did. -/
def indexOfNothingUptoRow : OpenClaim := { program := "ytcpmmojpgngaaaa", sum := "1500fdae41c28d3a8ac443142586514a8ac08c26a02c05122221b4ee6f73b690", func := "hoard/hoardlaw6.IndexOfNothing", spec := "indexOfNothing", recurses := true, apart := false, narrowed := true }
def IndexOfNothingUptoSaid : Prop := indexOfNothingUptoRow.holds Try.pinned (OpenSpec.upto indexOfNothingSpec)

/-- 'hoardlaw6.IndexOwn', WHERE WHAT IT READS IS OF BULK AT MOST 1048576: true; the input reads as it did. -/
def indexOwnUptoRow : OpenClaim := { program := "ytcpmmojpgngaaaa", sum := "1500fdae41c28d3a8ac443142586514a8ac08c26a02c05122221b4ee6f73b690", func := "hoard/hoardlaw6.IndexOwn", spec := "indexOwn", recurses := true, apart := false, narrowed := true }
def IndexOwnUptoSaid : Prop := indexOwnUptoRow.holds Try.pinned (OpenSpec.upto indexOwnSpec)

end Rows
end Go.Proofs.Ytcpmmojpgngaaaa
