/-
  No cell of these rows narrows 'for every input' (looked for: loops, veiled, ifaces, maps, wideKeys, modest, calm, conditions, laid).
  DERIVED. THE GIVEN ROWS OF THIS SEAT. 15 by the template 'for every input the law returns true; each argument reads behind the call as it read before'; 0 by the template 'total and deterministic' (their statements: YtclmefcfmdefjaaTotals.lean).
  GIVEN WITH THE SEED: the statements are not yours to turn. If you find one false, say at which input.
  Laid BY PROGRAM, IN A SANDBOX (cutbox-rows.mjs): the forced cells as the released guide's own fill.sh prints them over the translation 91c2902c5ec6abc6… (all of the seat's roots in one cut). By AI agents, Wed Nov 11 2026. No macro, syntax, notation, axiom, sorry.
-/
import Derived.Test.YtclmefcfmdefjaaChecked
import GoSem.Claim
import GoSem.ClaimJoined
import GoSem.ClaimMapViews
import Derived.JoinedTies
import Derived.KernelRfl
namespace Go.Proofs.Ytclmefcfmdefjaa
/- THE CELL 'sum', in the pinned program and in every row, IS THE sha256 OF THE DUMP (.gsa) THAT YtclmefcfmdefjaaProg.lean LOADS. Nothing in Lean hashes anything: it is a label: what it is worth is what the hold of that sum in a sandbox is worth. -/
noncomputable def Try.pinned : Pinned := { name := "ytclmefcfmdefjaa", sum := "91c2902c5ec6abc66c5d5fd6b884e550f1a069713dd30b50a51ec540ee2909cf", checked := Try.checked }
namespace Rows
def none {H : Type} : Left H := { results := [], args := [] }

/-- 'hoardlaw3.TapeDraws': WHATEVER THE INPUT: true; the input reads as it did. -/
def tapeDrawsSpec : ChangeSpec := { name := "tapeDraws", fn := fun _ => fun
  | [d1, d2] => { results := [.lit (.bool true)], args := [d1, d2] }
  | _ => none }
def tapeDrawsRow : OpenClaim := { program := "ytclmefcfmdefjaa", sum := "91c2902c5ec6abc66c5d5fd6b884e550f1a069713dd30b50a51ec540ee2909cf", func := "hoard/hoardlaw3.TapeDraws", spec := "tapeDraws", apart := false }
def TapeDrawsSaid : Prop := tapeDrawsRow.holds Try.pinned (OpenSpec.ofChange tapeDrawsSpec)

/-- ITS FALSE NEIGHBOUR: 'it returns false'. Refute it at one input. -/
def tapeDrawsWrong : ChangeSpec := { name := "tapeDraws", fn := fun _ => fun
  | [d1, d2] => { results := [.lit (.bool false)], args := [d1, d2] }
  | _ => none }
def TapeDrawsWrongFalsely : Prop := tapeDrawsRow.holds Try.pinned (OpenSpec.ofChange tapeDrawsWrong)

/-- 'hoardlaw3.TapeOfNothing': WHATEVER THE INPUT: true; the input reads as it did. -/
def tapeOfNothingSpec : ChangeSpec := { name := "tapeOfNothing", fn := fun _ => fun
  | [d] => { results := [.lit (.bool true)], args := [d] }
  | _ => none }
def tapeOfNothingRow : OpenClaim := { program := "ytclmefcfmdefjaa", sum := "91c2902c5ec6abc66c5d5fd6b884e550f1a069713dd30b50a51ec540ee2909cf", func := "hoard/hoardlaw3.TapeOfNothing", spec := "tapeOfNothing", apart := false }
def TapeOfNothingSaid : Prop := tapeOfNothingRow.holds Try.pinned (OpenSpec.ofChange tapeOfNothingSpec)

/-- ITS FALSE NEIGHBOUR: 'it returns false'. Refute it at one input. -/
def tapeOfNothingWrong : ChangeSpec := { name := "tapeOfNothing", fn := fun _ => fun
  | [d] => { results := [.lit (.bool false)], args := [d] }
  | _ => none }
def TapeOfNothingWrongFalsely : Prop := tapeOfNothingRow.holds Try.pinned (OpenSpec.ofChange tapeOfNothingWrong)

/-- 'hoardlaw19.WeighKeeps': WHATEVER THE INPUT: true; the input reads as it did. -/
def weighKeepsSpec : ChangeSpec := { name := "weighKeeps", fn := fun _ => fun
  | [d] => { results := [.lit (.bool true)], args := [d] }
  | _ => none }
def weighKeepsRow : OpenClaim := { program := "ytclmefcfmdefjaa", sum := "91c2902c5ec6abc66c5d5fd6b884e550f1a069713dd30b50a51ec540ee2909cf", func := "hoard/hoardlaw19.WeighKeeps", spec := "weighKeeps", apart := false }
def WeighKeepsSaid : Prop := weighKeepsRow.holds Try.pinned (OpenSpec.ofChange weighKeepsSpec)

/-- ITS FALSE NEIGHBOUR: 'it returns false'. Refute it at one input. -/
def weighKeepsWrong : ChangeSpec := { name := "weighKeeps", fn := fun _ => fun
  | [d] => { results := [.lit (.bool false)], args := [d] }
  | _ => none }
def WeighKeepsWrongFalsely : Prop := weighKeepsRow.holds Try.pinned (OpenSpec.ofChange weighKeepsWrong)

/-- 'hoardlaw19.WeighLooks': WHATEVER THE INPUT: true; the input reads as it did. -/
def weighLooksSpec : ChangeSpec := { name := "weighLooks", fn := fun _ => fun
  | [d1, d2, d3] => { results := [.lit (.bool true)], args := [d1, d2, d3] }
  | _ => none }
def weighLooksRow : OpenClaim := { program := "ytclmefcfmdefjaa", sum := "91c2902c5ec6abc66c5d5fd6b884e550f1a069713dd30b50a51ec540ee2909cf", func := "hoard/hoardlaw19.WeighLooks", spec := "weighLooks", apart := false }
def WeighLooksSaid : Prop := weighLooksRow.holds Try.pinned (OpenSpec.ofChange weighLooksSpec)

/-- ITS FALSE NEIGHBOUR: 'it returns false'. Refute it at one input. -/
def weighLooksWrong : ChangeSpec := { name := "weighLooks", fn := fun _ => fun
  | [d1, d2, d3] => { results := [.lit (.bool false)], args := [d1, d2, d3] }
  | _ => none }
def WeighLooksWrongFalsely : Prop := weighLooksRow.holds Try.pinned (OpenSpec.ofChange weighLooksWrong)

/-- 'hoardlaw2.FixProducts': WHATEVER THE INPUT: true; the input reads as it did. -/
def fixProductsSpec : ChangeSpec := { name := "fixProducts", fn := fun _ => fun
  | [d1, d2, d3] => { results := [.lit (.bool true)], args := [d1, d2, d3] }
  | _ => none }
def fixProductsRow : OpenClaim := { program := "ytclmefcfmdefjaa", sum := "91c2902c5ec6abc66c5d5fd6b884e550f1a069713dd30b50a51ec540ee2909cf", func := "hoard/hoardlaw2.FixProducts", spec := "fixProducts", named := ["math/bits.divideError", "math/bits.overflowError"], apart := false }
def FixProductsSaid : Prop := fixProductsRow.holds Try.pinned (OpenSpec.ofChange fixProductsSpec)

/-- ITS FALSE NEIGHBOUR: 'it returns false'. Refute it at one input. -/
def fixProductsWrong : ChangeSpec := { name := "fixProducts", fn := fun _ => fun
  | [d1, d2, d3] => { results := [.lit (.bool false)], args := [d1, d2, d3] }
  | _ => none }
def FixProductsWrongFalsely : Prop := fixProductsRow.holds Try.pinned (OpenSpec.ofChange fixProductsWrong)

/-- 'hoardlaw2.FixWhole': WHATEVER THE INPUT: true; the input reads as it did. -/
def fixWholeSpec : ChangeSpec := { name := "fixWhole", fn := fun _ => fun
  | [d1, d2] => { results := [.lit (.bool true)], args := [d1, d2] }
  | _ => none }
def fixWholeRow : OpenClaim := { program := "ytclmefcfmdefjaa", sum := "91c2902c5ec6abc66c5d5fd6b884e550f1a069713dd30b50a51ec540ee2909cf", func := "hoard/hoardlaw2.FixWhole", spec := "fixWhole", named := ["math/bits.divideError", "math/bits.overflowError"], apart := false }
def FixWholeSaid : Prop := fixWholeRow.holds Try.pinned (OpenSpec.ofChange fixWholeSpec)

/-- ITS FALSE NEIGHBOUR: 'it returns false'. Refute it at one input. -/
def fixWholeWrong : ChangeSpec := { name := "fixWhole", fn := fun _ => fun
  | [d1, d2] => { results := [.lit (.bool false)], args := [d1, d2] }
  | _ => none }
def FixWholeWrongFalsely : Prop := fixWholeRow.holds Try.pinned (OpenSpec.ofChange fixWholeWrong)

/-- 'hoardlaw2.FixTurns': WHATEVER THE INPUT: true; the input reads as it did. -/
def fixTurnsSpec : ChangeSpec := { name := "fixTurns", fn := fun _ => fun
  | [d1, d2, d3] => { results := [.lit (.bool true)], args := [d1, d2, d3] }
  | _ => none }
def fixTurnsRow : OpenClaim := { program := "ytclmefcfmdefjaa", sum := "91c2902c5ec6abc66c5d5fd6b884e550f1a069713dd30b50a51ec540ee2909cf", func := "hoard/hoardlaw2.FixTurns", spec := "fixTurns", named := ["math/bits.divideError", "math/bits.overflowError"], apart := false }
def FixTurnsSaid : Prop := fixTurnsRow.holds Try.pinned (OpenSpec.ofChange fixTurnsSpec)

/-- ITS FALSE NEIGHBOUR: 'it returns false'. Refute it at one input. -/
def fixTurnsWrong : ChangeSpec := { name := "fixTurns", fn := fun _ => fun
  | [d1, d2, d3] => { results := [.lit (.bool false)], args := [d1, d2, d3] }
  | _ => none }
def FixTurnsWrongFalsely : Prop := fixTurnsRow.holds Try.pinned (OpenSpec.ofChange fixTurnsWrong)

/-- 'hoardlaw2.FixCounts': WHATEVER THE INPUT: true; the input reads as it did. -/
def fixCountsSpec : ChangeSpec := { name := "fixCounts", fn := fun _ => fun
  | [d1, d2, d3] => { results := [.lit (.bool true)], args := [d1, d2, d3] }
  | _ => none }
def fixCountsRow : OpenClaim := { program := "ytclmefcfmdefjaa", sum := "91c2902c5ec6abc66c5d5fd6b884e550f1a069713dd30b50a51ec540ee2909cf", func := "hoard/hoardlaw2.FixCounts", spec := "fixCounts", named := ["math/bits.divideError", "math/bits.overflowError"], apart := false }
def FixCountsSaid : Prop := fixCountsRow.holds Try.pinned (OpenSpec.ofChange fixCountsSpec)

/-- ITS FALSE NEIGHBOUR: 'it returns false'. Refute it at one input. -/
def fixCountsWrong : ChangeSpec := { name := "fixCounts", fn := fun _ => fun
  | [d1, d2, d3] => { results := [.lit (.bool false)], args := [d1, d2, d3] }
  | _ => none }
def FixCountsWrongFalsely : Prop := fixCountsRow.holds Try.pinned (OpenSpec.ofChange fixCountsWrong)

/-- 'hoardlaw2.FixNever': WHATEVER THE INPUT: true; the input reads as it did. -/
def fixNeverSpec : ChangeSpec := { name := "fixNever", fn := fun _ => fun
  | [d1, d2] => { results := [.lit (.bool true)], args := [d1, d2] }
  | _ => none }
def fixNeverRow : OpenClaim := { program := "ytclmefcfmdefjaa", sum := "91c2902c5ec6abc66c5d5fd6b884e550f1a069713dd30b50a51ec540ee2909cf", func := "hoard/hoardlaw2.FixNever", spec := "fixNever", named := ["math/bits.divideError", "math/bits.overflowError"], apart := false }
def FixNeverSaid : Prop := fixNeverRow.holds Try.pinned (OpenSpec.ofChange fixNeverSpec)

/-- ITS FALSE NEIGHBOUR: 'it returns false'. Refute it at one input. -/
def fixNeverWrong : ChangeSpec := { name := "fixNever", fn := fun _ => fun
  | [d1, d2] => { results := [.lit (.bool false)], args := [d1, d2] }
  | _ => none }
def FixNeverWrongFalsely : Prop := fixNeverRow.holds Try.pinned (OpenSpec.ofChange fixNeverWrong)

/-- 'hoardlaw19.WeighNext': WHATEVER THE INPUT: true; the input reads as it did. -/
def weighNextSpec : ChangeSpec := { name := "weighNext", fn := fun _ => fun
  | [d1, d2, d3] => { results := [.lit (.bool true)], args := [d1, d2, d3] }
  | _ => none }
def weighNextRow : OpenClaim := { program := "ytclmefcfmdefjaa", sum := "91c2902c5ec6abc66c5d5fd6b884e550f1a069713dd30b50a51ec540ee2909cf", func := "hoard/hoardlaw19.WeighNext", spec := "weighNext", named := ["math/bits.divideError", "math/bits.overflowError"], apart := false }
def WeighNextSaid : Prop := weighNextRow.holds Try.pinned (OpenSpec.ofChange weighNextSpec)

/-- ITS FALSE NEIGHBOUR: 'it returns false'. Refute it at one input. -/
def weighNextWrong : ChangeSpec := { name := "weighNext", fn := fun _ => fun
  | [d1, d2, d3] => { results := [.lit (.bool false)], args := [d1, d2, d3] }
  | _ => none }
def WeighNextWrongFalsely : Prop := weighNextRow.holds Try.pinned (OpenSpec.ofChange weighNextWrong)

/-- 'hoardlaw19.WeighRow': WHATEVER THE INPUT: true; the input reads as it did. -/
def weighRowSpec : ChangeSpec := { name := "weighRow", fn := fun _ => fun
  | [d1, d2] => { results := [.lit (.bool true)], args := [d1, d2] }
  | _ => none }
def weighRowRow : OpenClaim := { program := "ytclmefcfmdefjaa", sum := "91c2902c5ec6abc66c5d5fd6b884e550f1a069713dd30b50a51ec540ee2909cf", func := "hoard/hoardlaw19.WeighRow", spec := "weighRow", named := ["math/bits.divideError", "math/bits.overflowError"], apart := false }
def WeighRowSaid : Prop := weighRowRow.holds Try.pinned (OpenSpec.ofChange weighRowSpec)

/-- ITS FALSE NEIGHBOUR: 'it returns false'. Refute it at one input. -/
def weighRowWrong : ChangeSpec := { name := "weighRow", fn := fun _ => fun
  | [d1, d2] => { results := [.lit (.bool false)], args := [d1, d2] }
  | _ => none }
def WeighRowWrongFalsely : Prop := weighRowRow.holds Try.pinned (OpenSpec.ofChange weighRowWrong)

/-- 'hoardlaw19.WeighPicks': WHATEVER THE INPUT: true; the input reads as it did. -/
def weighPicksSpec : ChangeSpec := { name := "weighPicks", fn := fun _ => fun
  | [d1, d2] => { results := [.lit (.bool true)], args := [d1, d2] }
  | _ => none }
def weighPicksRow : OpenClaim := { program := "ytclmefcfmdefjaa", sum := "91c2902c5ec6abc66c5d5fd6b884e550f1a069713dd30b50a51ec540ee2909cf", func := "hoard/hoardlaw19.WeighPicks", spec := "weighPicks", named := ["math/bits.divideError", "math/bits.overflowError"], apart := false }
def WeighPicksSaid : Prop := weighPicksRow.holds Try.pinned (OpenSpec.ofChange weighPicksSpec)

/-- ITS FALSE NEIGHBOUR: 'it returns false'. Refute it at one input. -/
def weighPicksWrong : ChangeSpec := { name := "weighPicks", fn := fun _ => fun
  | [d1, d2] => { results := [.lit (.bool false)], args := [d1, d2] }
  | _ => none }
def WeighPicksWrongFalsely : Prop := weighPicksRow.holds Try.pinned (OpenSpec.ofChange weighPicksWrong)

/-- 'hoardlaw19.WeighAlike': WHATEVER THE INPUT: true; the input reads as it did. -/
def weighAlikeSpec : ChangeSpec := { name := "weighAlike", fn := fun _ => fun
  | [d1, d2] => { results := [.lit (.bool true)], args := [d1, d2] }
  | _ => none }
def weighAlikeRow : OpenClaim := { program := "ytclmefcfmdefjaa", sum := "91c2902c5ec6abc66c5d5fd6b884e550f1a069713dd30b50a51ec540ee2909cf", func := "hoard/hoardlaw19.WeighAlike", spec := "weighAlike", named := ["math/bits.divideError", "math/bits.overflowError"], apart := false }
def WeighAlikeSaid : Prop := weighAlikeRow.holds Try.pinned (OpenSpec.ofChange weighAlikeSpec)

/-- ITS FALSE NEIGHBOUR: 'it returns false'. Refute it at one input. -/
def weighAlikeWrong : ChangeSpec := { name := "weighAlike", fn := fun _ => fun
  | [d1, d2] => { results := [.lit (.bool false)], args := [d1, d2] }
  | _ => none }
def WeighAlikeWrongFalsely : Prop := weighAlikeRow.holds Try.pinned (OpenSpec.ofChange weighAlikeWrong)

/-- 'hoardlaw19.WeighLoses': WHATEVER THE INPUT: true; the input reads as it did. -/
def weighLosesSpec : ChangeSpec := { name := "weighLoses", fn := fun _ => fun
  | [d1, d2] => { results := [.lit (.bool true)], args := [d1, d2] }
  | _ => none }
def weighLosesRow : OpenClaim := { program := "ytclmefcfmdefjaa", sum := "91c2902c5ec6abc66c5d5fd6b884e550f1a069713dd30b50a51ec540ee2909cf", func := "hoard/hoardlaw19.WeighLoses", spec := "weighLoses", named := ["math/bits.divideError", "math/bits.overflowError"], apart := false }
def WeighLosesSaid : Prop := weighLosesRow.holds Try.pinned (OpenSpec.ofChange weighLosesSpec)

/-- ITS FALSE NEIGHBOUR: 'it returns false'. Refute it at one input. -/
def weighLosesWrong : ChangeSpec := { name := "weighLoses", fn := fun _ => fun
  | [d1, d2] => { results := [.lit (.bool false)], args := [d1, d2] }
  | _ => none }
def WeighLosesWrongFalsely : Prop := weighLosesRow.holds Try.pinned (OpenSpec.ofChange weighLosesWrong)

/-- 'hoardlaw19.WeighCalm': WHATEVER THE INPUT: true; the input reads as it did. -/
def weighCalmSpec : ChangeSpec := { name := "weighCalm", fn := fun _ => fun
  | [d1, d2] => { results := [.lit (.bool true)], args := [d1, d2] }
  | _ => none }
def weighCalmRow : OpenClaim := { program := "ytclmefcfmdefjaa", sum := "91c2902c5ec6abc66c5d5fd6b884e550f1a069713dd30b50a51ec540ee2909cf", func := "hoard/hoardlaw19.WeighCalm", spec := "weighCalm", named := ["math/bits.divideError", "math/bits.overflowError"], apart := false }
def WeighCalmSaid : Prop := weighCalmRow.holds Try.pinned (OpenSpec.ofChange weighCalmSpec)

/-- ITS FALSE NEIGHBOUR: 'it returns false'. Refute it at one input. -/
def weighCalmWrong : ChangeSpec := { name := "weighCalm", fn := fun _ => fun
  | [d1, d2] => { results := [.lit (.bool false)], args := [d1, d2] }
  | _ => none }
def WeighCalmWrongFalsely : Prop := weighCalmRow.holds Try.pinned (OpenSpec.ofChange weighCalmWrong)

/- THE SECOND FORM. 'bulk': how many values and letters a reading holds, each counted each time it is reached (what is shared counts as often as it is met; a slice's spare places count too). A statement '..UptoSaid' is the law's where the arguments, and the package variables that the reading takes, are together of bulk at most 1048576: NARROWER than '..Said'. Prove '..Said' where nothing that the law and all that it calls make is longer than what came in: it says more and counts as full. Else prove '..UptoSaid'. A law counts once. -/
mutual
def uptoBulk {H : Type} : DataW H → Nat
  | .lit (.string bytes) => bytes.length + 1
  | .lit _ => 1
  | .nil => 1
  | .ptr d => uptoBulk d + 1
  | .slice elems spare => uptoBulkAll elems + uptoBulkAll spare + 1
  | .agg parts => uptoBulkAll parts + 1
  | .iface _ d => uptoBulk d + 1
  | .map entries => uptoBulkEntries entries + 1
  | .held _ => 1
def uptoBulkAll {H : Type} : List (DataW H) → Nat
  | [] => 0
  | d :: r => uptoBulk d + uptoBulkAll r
def uptoBulkEntries {H : Type} : List (Lit × DataW H) → Nat
  | [] => 0
  | x :: r => uptoBulkEntry x + uptoBulkEntries r
def uptoBulkEntry {H : Type} : Lit × DataW H → Nat
  | (.string bytes, d) => bytes.length + uptoBulk d + 1
  | (_, d) => uptoBulk d + 1
 end
def uptoSmall : (H : Type) → List (DataW H) → Bool := fun _ ds => decide (uptoBulkAll ds ≤ 1048576)
def OpenSpec.upto (s : _root_.Go.ChangeSpec) : _root_.Go.OpenSpec := { _root_.Go.OpenSpec.ofChange s with cond := some uptoSmall }

/-- 'hoardlaw3.TapeDraws', WHERE WHAT IT READS IS OF BULK AT MOST 1048576: true; the input reads as it did. -/
def tapeDrawsUptoRow : OpenClaim := { program := "ytclmefcfmdefjaa", sum := "91c2902c5ec6abc66c5d5fd6b884e550f1a069713dd30b50a51ec540ee2909cf", func := "hoard/hoardlaw3.TapeDraws", spec := "tapeDraws", apart := false, narrowed := true }
def TapeDrawsUptoSaid : Prop := tapeDrawsUptoRow.holds Try.pinned (OpenSpec.upto tapeDrawsSpec)

/-- 'hoardlaw3.TapeOfNothing', WHERE WHAT IT READS IS OF BULK AT MOST 1048576: true; the input reads as it did. -/
def tapeOfNothingUptoRow : OpenClaim := { program := "ytclmefcfmdefjaa", sum := "91c2902c5ec6abc66c5d5fd6b884e550f1a069713dd30b50a51ec540ee2909cf", func := "hoard/hoardlaw3.TapeOfNothing", spec := "tapeOfNothing", apart := false, narrowed := true }
def TapeOfNothingUptoSaid : Prop := tapeOfNothingUptoRow.holds Try.pinned (OpenSpec.upto tapeOfNothingSpec)

/-- 'hoardlaw19.WeighKeeps', WHERE WHAT IT READS IS OF BULK AT MOST 1048576: true; the input reads as it did. -/
def weighKeepsUptoRow : OpenClaim := { program := "ytclmefcfmdefjaa", sum := "91c2902c5ec6abc66c5d5fd6b884e550f1a069713dd30b50a51ec540ee2909cf", func := "hoard/hoardlaw19.WeighKeeps", spec := "weighKeeps", apart := false, narrowed := true }
def WeighKeepsUptoSaid : Prop := weighKeepsUptoRow.holds Try.pinned (OpenSpec.upto weighKeepsSpec)

/-- 'hoardlaw19.WeighLooks', WHERE WHAT IT READS IS OF BULK AT MOST 1048576: true; the input reads as it did. -/
def weighLooksUptoRow : OpenClaim := { program := "ytclmefcfmdefjaa", sum := "91c2902c5ec6abc66c5d5fd6b884e550f1a069713dd30b50a51ec540ee2909cf", func := "hoard/hoardlaw19.WeighLooks", spec := "weighLooks", apart := false, narrowed := true }
def WeighLooksUptoSaid : Prop := weighLooksUptoRow.holds Try.pinned (OpenSpec.upto weighLooksSpec)

/-- 'hoardlaw2.FixProducts', WHERE WHAT IT READS IS OF BULK AT MOST 1048576: true; the input reads as it did. -/
def fixProductsUptoRow : OpenClaim := { program := "ytclmefcfmdefjaa", sum := "91c2902c5ec6abc66c5d5fd6b884e550f1a069713dd30b50a51ec540ee2909cf", func := "hoard/hoardlaw2.FixProducts", spec := "fixProducts", named := ["math/bits.divideError", "math/bits.overflowError"], apart := false, narrowed := true }
def FixProductsUptoSaid : Prop := fixProductsUptoRow.holds Try.pinned (OpenSpec.upto fixProductsSpec)

/-- 'hoardlaw2.FixWhole', WHERE WHAT IT READS IS OF BULK AT MOST 1048576: true; the input reads as it did. -/
def fixWholeUptoRow : OpenClaim := { program := "ytclmefcfmdefjaa", sum := "91c2902c5ec6abc66c5d5fd6b884e550f1a069713dd30b50a51ec540ee2909cf", func := "hoard/hoardlaw2.FixWhole", spec := "fixWhole", named := ["math/bits.divideError", "math/bits.overflowError"], apart := false, narrowed := true }
def FixWholeUptoSaid : Prop := fixWholeUptoRow.holds Try.pinned (OpenSpec.upto fixWholeSpec)

/-- 'hoardlaw2.FixTurns', WHERE WHAT IT READS IS OF BULK AT MOST 1048576: true; the input reads as it did. -/
def fixTurnsUptoRow : OpenClaim := { program := "ytclmefcfmdefjaa", sum := "91c2902c5ec6abc66c5d5fd6b884e550f1a069713dd30b50a51ec540ee2909cf", func := "hoard/hoardlaw2.FixTurns", spec := "fixTurns", named := ["math/bits.divideError", "math/bits.overflowError"], apart := false, narrowed := true }
def FixTurnsUptoSaid : Prop := fixTurnsUptoRow.holds Try.pinned (OpenSpec.upto fixTurnsSpec)

/-- 'hoardlaw2.FixCounts', WHERE WHAT IT READS IS OF BULK AT MOST 1048576: true; the input reads as it did. -/
def fixCountsUptoRow : OpenClaim := { program := "ytclmefcfmdefjaa", sum := "91c2902c5ec6abc66c5d5fd6b884e550f1a069713dd30b50a51ec540ee2909cf", func := "hoard/hoardlaw2.FixCounts", spec := "fixCounts", named := ["math/bits.divideError", "math/bits.overflowError"], apart := false, narrowed := true }
def FixCountsUptoSaid : Prop := fixCountsUptoRow.holds Try.pinned (OpenSpec.upto fixCountsSpec)

/-- 'hoardlaw2.FixNever', WHERE WHAT IT READS IS OF BULK AT MOST 1048576: true; the input reads as it did. -/
def fixNeverUptoRow : OpenClaim := { program := "ytclmefcfmdefjaa", sum := "91c2902c5ec6abc66c5d5fd6b884e550f1a069713dd30b50a51ec540ee2909cf", func := "hoard/hoardlaw2.FixNever", spec := "fixNever", named := ["math/bits.divideError", "math/bits.overflowError"], apart := false, narrowed := true }
def FixNeverUptoSaid : Prop := fixNeverUptoRow.holds Try.pinned (OpenSpec.upto fixNeverSpec)

/-- 'hoardlaw19.WeighNext', WHERE WHAT IT READS IS OF BULK AT MOST 1048576: true; the input reads as it did. -/
def weighNextUptoRow : OpenClaim := { program := "ytclmefcfmdefjaa", sum := "91c2902c5ec6abc66c5d5fd6b884e550f1a069713dd30b50a51ec540ee2909cf", func := "hoard/hoardlaw19.WeighNext", spec := "weighNext", named := ["math/bits.divideError", "math/bits.overflowError"], apart := false, narrowed := true }
def WeighNextUptoSaid : Prop := weighNextUptoRow.holds Try.pinned (OpenSpec.upto weighNextSpec)

/-- 'hoardlaw19.WeighRow', WHERE WHAT IT READS IS OF BULK AT MOST 1048576: true; the input reads as it did. -/
def weighRowUptoRow : OpenClaim := { program := "ytclmefcfmdefjaa", sum := "91c2902c5ec6abc66c5d5fd6b884e550f1a069713dd30b50a51ec540ee2909cf", func := "hoard/hoardlaw19.WeighRow", spec := "weighRow", named := ["math/bits.divideError", "math/bits.overflowError"], apart := false, narrowed := true }
def WeighRowUptoSaid : Prop := weighRowUptoRow.holds Try.pinned (OpenSpec.upto weighRowSpec)

/-- 'hoardlaw19.WeighPicks', WHERE WHAT IT READS IS OF BULK AT MOST 1048576: true; the input reads as it did. -/
def weighPicksUptoRow : OpenClaim := { program := "ytclmefcfmdefjaa", sum := "91c2902c5ec6abc66c5d5fd6b884e550f1a069713dd30b50a51ec540ee2909cf", func := "hoard/hoardlaw19.WeighPicks", spec := "weighPicks", named := ["math/bits.divideError", "math/bits.overflowError"], apart := false, narrowed := true }
def WeighPicksUptoSaid : Prop := weighPicksUptoRow.holds Try.pinned (OpenSpec.upto weighPicksSpec)

/-- 'hoardlaw19.WeighAlike', WHERE WHAT IT READS IS OF BULK AT MOST 1048576: true; the input reads as it did. -/
def weighAlikeUptoRow : OpenClaim := { program := "ytclmefcfmdefjaa", sum := "91c2902c5ec6abc66c5d5fd6b884e550f1a069713dd30b50a51ec540ee2909cf", func := "hoard/hoardlaw19.WeighAlike", spec := "weighAlike", named := ["math/bits.divideError", "math/bits.overflowError"], apart := false, narrowed := true }
def WeighAlikeUptoSaid : Prop := weighAlikeUptoRow.holds Try.pinned (OpenSpec.upto weighAlikeSpec)

/-- 'hoardlaw19.WeighLoses', WHERE WHAT IT READS IS OF BULK AT MOST 1048576: true; the input reads as it did. -/
def weighLosesUptoRow : OpenClaim := { program := "ytclmefcfmdefjaa", sum := "91c2902c5ec6abc66c5d5fd6b884e550f1a069713dd30b50a51ec540ee2909cf", func := "hoard/hoardlaw19.WeighLoses", spec := "weighLoses", named := ["math/bits.divideError", "math/bits.overflowError"], apart := false, narrowed := true }
def WeighLosesUptoSaid : Prop := weighLosesUptoRow.holds Try.pinned (OpenSpec.upto weighLosesSpec)

/-- 'hoardlaw19.WeighCalm', WHERE WHAT IT READS IS OF BULK AT MOST 1048576: true; the input reads as it did. -/
def weighCalmUptoRow : OpenClaim := { program := "ytclmefcfmdefjaa", sum := "91c2902c5ec6abc66c5d5fd6b884e550f1a069713dd30b50a51ec540ee2909cf", func := "hoard/hoardlaw19.WeighCalm", spec := "weighCalm", named := ["math/bits.divideError", "math/bits.overflowError"], apart := false, narrowed := true }
def WeighCalmUptoSaid : Prop := weighCalmUptoRow.holds Try.pinned (OpenSpec.upto weighCalmSpec)

end Rows
end Go.Proofs.Ytclmefcfmdefjaa
