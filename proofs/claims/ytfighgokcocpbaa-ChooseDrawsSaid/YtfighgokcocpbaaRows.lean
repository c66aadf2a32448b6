/-
  No cell of these rows narrows 'for every input' (looked for: loops, veiled, ifaces, maps, wideKeys, modest, calm, conditions, laid).
  DERIVED. THE GIVEN ROWS OF THIS SEAT. 5 by the template 'for every input the law returns true; each argument reads behind the call as it read before'; 0 by the template 'total and deterministic' (their statements: YtfighgokcocpbaaTotals.lean).
  GIVEN WITH THE SEED: the statements are not yours to turn. If you find one false, say at which input.
  Laid BY PROGRAM, IN A SANDBOX (cutbox-rows.mjs): the forced cells as the released guide's own fill.sh prints them over the translation f29dc657e8e78e50… (all of the seat's roots in one cut). By AI agents, Wed Nov 11 2026. No macro, syntax, notation, axiom, sorry.
-/
import Derived.Test.YtfighgokcocpbaaChecked
import GoSem.Claim
import GoSem.ClaimJoined
import GoSem.ClaimMapViews
import Derived.JoinedTies
import Derived.KernelRfl
namespace Go.Proofs.Ytfighgokcocpbaa
/- THE CELL 'sum', in the pinned program and in every row, IS THE sha256 OF THE DUMP (.gsa) THAT YtfighgokcocpbaaProg.lean LOADS. Nothing in Lean hashes anything: it is a label: what it is worth is what the hold of that sum in a sandbox is worth. -/
noncomputable def Try.pinned : Pinned := { name := "ytfighgokcocpbaa", sum := "f29dc657e8e78e50b693e877a4aa3642fbea04a8db69751d54b23f7dd8f0e224", checked := Try.checked }
namespace Rows
def none {H : Type} : Left H := { results := [], args := [] }

/-- 'hoardlaw20.ChooseHolds': WHATEVER THE INPUT: true; the input reads as it did. -/
def chooseHoldsSpec : ChangeSpec := { name := "chooseHolds", fn := fun _ => fun
  | [d1, d2, d3] => { results := [.lit (.bool true)], args := [d1, d2, d3] }
  | _ => none }
def chooseHoldsRow : OpenClaim := { program := "ytfighgokcocpbaa", sum := "f29dc657e8e78e50b693e877a4aa3642fbea04a8db69751d54b23f7dd8f0e224", func := "hoard/hoardlaw20.ChooseHolds", spec := "chooseHolds", named := ["math/bits.divideError", "math/bits.overflowError"], apart := false }
def ChooseHoldsSaid : Prop := chooseHoldsRow.holds Try.pinned (OpenSpec.ofChange chooseHoldsSpec)

/-- ITS FALSE NEIGHBOUR: 'it returns false'. Refute it at one input. -/
def chooseHoldsWrong : ChangeSpec := { name := "chooseHolds", fn := fun _ => fun
  | [d1, d2, d3] => { results := [.lit (.bool false)], args := [d1, d2, d3] }
  | _ => none }
def ChooseHoldsWrongFalsely : Prop := chooseHoldsRow.holds Try.pinned (OpenSpec.ofChange chooseHoldsWrong)

/-- 'hoardlaw20.ChooseEven': WHATEVER THE INPUT: true; the input reads as it did. -/
def chooseEvenSpec : ChangeSpec := { name := "chooseEven", fn := fun _ => fun
  | [d] => { results := [.lit (.bool true)], args := [d] }
  | _ => none }
def chooseEvenRow : OpenClaim := { program := "ytfighgokcocpbaa", sum := "f29dc657e8e78e50b693e877a4aa3642fbea04a8db69751d54b23f7dd8f0e224", func := "hoard/hoardlaw20.ChooseEven", spec := "chooseEven", named := ["math/bits.divideError", "math/bits.overflowError"], apart := false }
def ChooseEvenSaid : Prop := chooseEvenRow.holds Try.pinned (OpenSpec.ofChange chooseEvenSpec)

/-- ITS FALSE NEIGHBOUR: 'it returns false'. Refute it at one input. -/
def chooseEvenWrong : ChangeSpec := { name := "chooseEven", fn := fun _ => fun
  | [d] => { results := [.lit (.bool false)], args := [d] }
  | _ => none }
def ChooseEvenWrongFalsely : Prop := chooseEvenRow.holds Try.pinned (OpenSpec.ofChange chooseEvenWrong)

/-- 'hoardlaw20.ChooseOfNothing': WHATEVER THE INPUT: true; the input reads as it did. -/
def chooseOfNothingSpec : ChangeSpec := { name := "chooseOfNothing", fn := fun _ => fun
  | [d1, d2] => { results := [.lit (.bool true)], args := [d1, d2] }
  | _ => none }
def chooseOfNothingRow : OpenClaim := { program := "ytfighgokcocpbaa", sum := "f29dc657e8e78e50b693e877a4aa3642fbea04a8db69751d54b23f7dd8f0e224", func := "hoard/hoardlaw20.ChooseOfNothing", spec := "chooseOfNothing", named := ["math/bits.divideError", "math/bits.overflowError"], apart := false }
def ChooseOfNothingSaid : Prop := chooseOfNothingRow.holds Try.pinned (OpenSpec.ofChange chooseOfNothingSpec)

/-- ITS FALSE NEIGHBOUR: 'it returns false'. Refute it at one input. -/
def chooseOfNothingWrong : ChangeSpec := { name := "chooseOfNothing", fn := fun _ => fun
  | [d1, d2] => { results := [.lit (.bool false)], args := [d1, d2] }
  | _ => none }
def ChooseOfNothingWrongFalsely : Prop := chooseOfNothingRow.holds Try.pinned (OpenSpec.ofChange chooseOfNothingWrong)

/-- 'hoardlaw20.ChoosePlays': WHATEVER THE INPUT: true; the input reads as it did. -/
def choosePlaysSpec : ChangeSpec := { name := "choosePlays", fn := fun _ => fun
  | [d1, d2, d3, d4] => { results := [.lit (.bool true)], args := [d1, d2, d3, d4] }
  | _ => none }
def choosePlaysRow : OpenClaim := { program := "ytfighgokcocpbaa", sum := "f29dc657e8e78e50b693e877a4aa3642fbea04a8db69751d54b23f7dd8f0e224", func := "hoard/hoardlaw20.ChoosePlays", spec := "choosePlays", named := ["math/bits.divideError", "math/bits.overflowError"], apart := false }
def ChoosePlaysSaid : Prop := choosePlaysRow.holds Try.pinned (OpenSpec.ofChange choosePlaysSpec)

/-- ITS FALSE NEIGHBOUR: 'it returns false'. Refute it at one input. -/
def choosePlaysWrong : ChangeSpec := { name := "choosePlays", fn := fun _ => fun
  | [d1, d2, d3, d4] => { results := [.lit (.bool false)], args := [d1, d2, d3, d4] }
  | _ => none }
def ChoosePlaysWrongFalsely : Prop := choosePlaysRow.holds Try.pinned (OpenSpec.ofChange choosePlaysWrong)

/-- 'hoardlaw20.ChooseDraws': WHATEVER THE INPUT: true; the input reads as it did. -/
def chooseDrawsSpec : ChangeSpec := { name := "chooseDraws", fn := fun _ => fun
  | [d1, d2, d3, d4] => { results := [.lit (.bool true)], args := [d1, d2, d3, d4] }
  | _ => none }
def chooseDrawsRow : OpenClaim := { program := "ytfighgokcocpbaa", sum := "f29dc657e8e78e50b693e877a4aa3642fbea04a8db69751d54b23f7dd8f0e224", func := "hoard/hoardlaw20.ChooseDraws", spec := "chooseDraws", named := ["math/bits.divideError", "math/bits.overflowError"], apart := false }
def ChooseDrawsSaid : Prop := chooseDrawsRow.holds Try.pinned (OpenSpec.ofChange chooseDrawsSpec)

/-- ITS FALSE NEIGHBOUR: 'it returns false'. Refute it at one input. -/
def chooseDrawsWrong : ChangeSpec := { name := "chooseDraws", fn := fun _ => fun
  | [d1, d2, d3, d4] => { results := [.lit (.bool false)], args := [d1, d2, d3, d4] }
  | _ => none }
def ChooseDrawsWrongFalsely : Prop := chooseDrawsRow.holds Try.pinned (OpenSpec.ofChange chooseDrawsWrong)

/- THE SECOND FORM. 'bulk': how many values and letters a reading holds, each counted each time it is reached (what is shared counts as often as it is met; a slice's spare places count too). A statement '..UptoSaid' is the law's where the arguments, and the package variables that the reading takes, are together of bulk at most 1048576: NARROWER than '..Said'. Prove '..Said' where nothing that the law and all that it calls make is longer than what came in: it says more and counts as full. Else prove '..UptoSaid'. A law counts once. -/
mutual
def uptoBulk {H : Type} : DataW H → Nat
  | .lit (.string bytes) => bytes.length + 1
  | .lit _ => 1
  | .nil => 1
  | .ptr d => uptoBulk d + 1
  | .slice elems spare => uptoBulkAll elems + uptoBulkAll spare + 1
  | .agg parts => uptoBulkAll parts + 1
  | .iface _ d => uptoBulk d + 1
  | .map entries => uptoBulkEntries entries + 1
  | .held _ => 1
def uptoBulkAll {H : Type} : List (DataW H) → Nat
  | [] => 0
  | d :: r => uptoBulk d + uptoBulkAll r
def uptoBulkEntries {H : Type} : List (Lit × DataW H) → Nat
  | [] => 0
  | x :: r => uptoBulkEntry x + uptoBulkEntries r
def uptoBulkEntry {H : Type} : Lit × DataW H → Nat
  | (.string bytes, d) => bytes.length + uptoBulk d + 1
  | (_, d) => uptoBulk d + 1
 end
def uptoSmall : (H : Type) → List (DataW H) → Bool := fun _ ds => decide (uptoBulkAll ds ≤ 1048576)
def OpenSpec.upto (s : _root_.Go.ChangeSpec) : _root_.Go.OpenSpec := { _root_.Go.OpenSpec.ofChange s with cond := some uptoSmall }

/-- 'hoardlaw20.ChooseHolds', WHERE WHAT IT READS IS OF BULK AT MOST 1048576: true; the input reads as it did. -/
def chooseHoldsUptoRow : OpenClaim := { program := "ytfighgokcocpbaa", sum := "f29dc657e8e78e50b693e877a4aa3642fbea04a8db69751d54b23f7dd8f0e224", func := "hoard/hoardlaw20.ChooseHolds", spec := "chooseHolds", named := ["math/bits.divideError", "math/bits.overflowError"], apart := false, narrowed := true }
def ChooseHoldsUptoSaid : Prop := chooseHoldsUptoRow.holds Try.pinned (OpenSpec.upto chooseHoldsSpec)

/-- 'hoardlaw20.ChooseEven', WHERE WHAT IT READS IS OF BULK AT MOST 1048576: true; the input reads as it did. -/
def chooseEvenUptoRow : OpenClaim := { program := "ytfighgokcocpbaa", sum := "f29dc657e8e78e50b693e877a4aa3642fbea04a8db69751d54b23f7dd8f0e224", func := "hoard/hoardlaw20.ChooseEven", spec := "chooseEven", named := ["math/bits.divideError", "math/bits.overflowError"], apart := false, narrowed := true }
def ChooseEvenUptoSaid : Prop := chooseEvenUptoRow.holds Try.pinned (OpenSpec.upto chooseEvenSpec)

/-- 'hoardlaw20.ChooseOfNothing', WHERE WHAT IT READS IS OF BULK AT MOST 1048576: true; the input reads as it did. -/
def chooseOfNothingUptoRow : OpenClaim := { program := "ytfighgokcocpbaa", sum := "f29dc657e8e78e50b693e877a4aa3642fbea04a8db69751d54b23f7dd8f0e224", func := "hoard/hoardlaw20.ChooseOfNothing", spec := "chooseOfNothing", named := ["math/bits.divideError", "math/bits.overflowError"], apart := false, narrowed := true }
def ChooseOfNothingUptoSaid : Prop := chooseOfNothingUptoRow.holds Try.pinned (OpenSpec.upto chooseOfNothingSpec)

/-- 'hoardlaw20.ChoosePlays', WHERE WHAT IT READS IS OF BULK AT MOST 1048576: true; the input reads as it did. -/
def choosePlaysUptoRow : OpenClaim := { program := "ytfighgokcocpbaa", sum := "f29dc657e8e78e50b693e877a4aa3642fbea04a8db69751d54b23f7dd8f0e224", func := "hoard/hoardlaw20.ChoosePlays", spec := "choosePlays", named := ["math/bits.divideError", "math/bits.overflowError"], apart := false, narrowed := true }
def ChoosePlaysUptoSaid : Prop := choosePlaysUptoRow.holds Try.pinned (OpenSpec.upto choosePlaysSpec)

/-- 'hoardlaw20.ChooseDraws', WHERE WHAT IT READS IS OF BULK AT MOST 1048576: true; the input reads as it did. -/
def chooseDrawsUptoRow : OpenClaim := { program := "ytfighgokcocpbaa", sum := "f29dc657e8e78e50b693e877a4aa3642fbea04a8db69751d54b23f7dd8f0e224", func := "hoard/hoardlaw20.ChooseDraws", spec := "chooseDraws", named := ["math/bits.divideError", "math/bits.overflowError"], apart := false, narrowed := true }
def ChooseDrawsUptoSaid : Prop := chooseDrawsUptoRow.holds Try.pinned (OpenSpec.upto chooseDrawsSpec)

end Rows
end Go.Proofs.Ytfighgokcocpbaa
