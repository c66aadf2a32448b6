/-
  No cell of these rows narrows 'for every input' (looked for: loops, veiled, ifaces, maps, wideKeys, modest, calm, conditions, laid).
  DERIVED. THE GIVEN ROWS OF THIS SEAT. 12 by the template 'for every input the law returns true; each argument reads behind the call as it read before'; 0 by the template 'total and deterministic' (their statements: YtgmhoenmhnlojaaTotals.lean).
  GIVEN WITH THE SEED: the statements are not yours to turn. If you find one false, say at which input.
  Laid BY PROGRAM, IN A SANDBOX (cutbox-rows.mjs): the forced cells as the released guide's own fill.sh prints them over the translation ecf81d93525e7f4c… (all of the seat's roots in one cut). By AI agents, Wed Nov 11 2026. No macro, syntax, notation, axiom, sorry.
-/
import Derived.Test.YtgmhoenmhnlojaaChecked
import GoSem.Claim
import GoSem.ClaimJoined
import GoSem.ClaimMapViews
import Derived.JoinedTies
import Derived.KernelRfl
namespace Go.Proofs.Ytgmhoenmhnlojaa
/- THE CELL 'sum', in the pinned program and in every row, IS THE sha256 OF THE DUMP (.gsa) THAT YtgmhoenmhnlojaaProg.lean LOADS. Nothing in Lean hashes anything: it is a label: what it is worth is what the hold of that sum in a sandbox is worth. -/
noncomputable def Try.pinned : Pinned := { name := "ytgmhoenmhnlojaa", sum := "ecf81d93525e7f4c9aa7e1e90a824fc044687bbe1573eb49a6df69dbd37d03ea", checked := Try.checked }
namespace Rows
def none {H : Type} : Left H := { results := [], args := [] }

/-- 'hoardlaw13.LirsFits': WHATEVER THE INPUT: true; the input reads as it did. -/
def lirsFitsSpec : ChangeSpec := { name := "lirsFits", fn := fun _ => fun
  | [d1, d2] => { results := [.lit (.bool true)], args := [d1, d2] }
  | _ => none }
def lirsFitsRow : OpenClaim := { program := "ytgmhoenmhnlojaa", sum := "ecf81d93525e7f4c9aa7e1e90a824fc044687bbe1573eb49a6df69dbd37d03ea", func := "hoard/hoardlaw13.LirsFits", spec := "lirsFits", inPlace := ["internal/abi.NoEscape"], apart := false }
def LirsFitsSaid : Prop := lirsFitsRow.holds Try.pinned (OpenSpec.ofChange lirsFitsSpec)

/-- ITS FALSE NEIGHBOUR: 'it returns false'. Refute it at one input. -/
def lirsFitsWrong : ChangeSpec := { name := "lirsFits", fn := fun _ => fun
  | [d1, d2] => { results := [.lit (.bool false)], args := [d1, d2] }
  | _ => none }
def LirsFitsWrongFalsely : Prop := lirsFitsRow.holds Try.pinned (OpenSpec.ofChange lirsFitsWrong)

/-- 'hoardlaw13.LirsCounts': WHATEVER THE INPUT: true; the input reads as it did. -/
def lirsCountsSpec : ChangeSpec := { name := "lirsCounts", fn := fun _ => fun
  | [d1, d2] => { results := [.lit (.bool true)], args := [d1, d2] }
  | _ => none }
def lirsCountsRow : OpenClaim := { program := "ytgmhoenmhnlojaa", sum := "ecf81d93525e7f4c9aa7e1e90a824fc044687bbe1573eb49a6df69dbd37d03ea", func := "hoard/hoardlaw13.LirsCounts", spec := "lirsCounts", inPlace := ["internal/abi.NoEscape"], apart := false }
def LirsCountsSaid : Prop := lirsCountsRow.holds Try.pinned (OpenSpec.ofChange lirsCountsSpec)

/-- ITS FALSE NEIGHBOUR: 'it returns false'. Refute it at one input. -/
def lirsCountsWrong : ChangeSpec := { name := "lirsCounts", fn := fun _ => fun
  | [d1, d2] => { results := [.lit (.bool false)], args := [d1, d2] }
  | _ => none }
def LirsCountsWrongFalsely : Prop := lirsCountsRow.holds Try.pinned (OpenSpec.ofChange lirsCountsWrong)

/-- 'hoardlaw13.LirsTold': WHATEVER THE INPUT: true; the input reads as it did. -/
def lirsToldSpec : ChangeSpec := { name := "lirsTold", fn := fun _ => fun
  | [d1, d2] => { results := [.lit (.bool true)], args := [d1, d2] }
  | _ => none }
def lirsToldRow : OpenClaim := { program := "ytgmhoenmhnlojaa", sum := "ecf81d93525e7f4c9aa7e1e90a824fc044687bbe1573eb49a6df69dbd37d03ea", func := "hoard/hoardlaw13.LirsTold", spec := "lirsTold", inPlace := ["internal/abi.NoEscape"], apart := false }
def LirsToldSaid : Prop := lirsToldRow.holds Try.pinned (OpenSpec.ofChange lirsToldSpec)

/-- ITS FALSE NEIGHBOUR: 'it returns false'. Refute it at one input. -/
def lirsToldWrong : ChangeSpec := { name := "lirsTold", fn := fun _ => fun
  | [d1, d2] => { results := [.lit (.bool false)], args := [d1, d2] }
  | _ => none }
def LirsToldWrongFalsely : Prop := lirsToldRow.holds Try.pinned (OpenSpec.ofChange lirsToldWrong)

/-- 'hoardlaw13.LirsScan': WHATEVER THE INPUT: true; the input reads as it did. -/
def lirsScanSpec : ChangeSpec := { name := "lirsScan", fn := fun _ => fun
  | [d1, d2] => { results := [.lit (.bool true)], args := [d1, d2] }
  | _ => none }
def lirsScanRow : OpenClaim := { program := "ytgmhoenmhnlojaa", sum := "ecf81d93525e7f4c9aa7e1e90a824fc044687bbe1573eb49a6df69dbd37d03ea", func := "hoard/hoardlaw13.LirsScan", spec := "lirsScan", inPlace := ["internal/abi.NoEscape"], apart := false }
def LirsScanSaid : Prop := lirsScanRow.holds Try.pinned (OpenSpec.ofChange lirsScanSpec)

/-- ITS FALSE NEIGHBOUR: 'it returns false'. Refute it at one input. -/
def lirsScanWrong : ChangeSpec := { name := "lirsScan", fn := fun _ => fun
  | [d1, d2] => { results := [.lit (.bool false)], args := [d1, d2] }
  | _ => none }
def LirsScanWrongFalsely : Prop := lirsScanRow.holds Try.pinned (OpenSpec.ofChange lirsScanWrong)

/-- 'hoardlaw13.LirsOne': WHATEVER THE INPUT: true; the input reads as it did. -/
def lirsOneSpec : ChangeSpec := { name := "lirsOne", fn := fun _ => fun
  | [d] => { results := [.lit (.bool true)], args := [d] }
  | _ => none }
def lirsOneRow : OpenClaim := { program := "ytgmhoenmhnlojaa", sum := "ecf81d93525e7f4c9aa7e1e90a824fc044687bbe1573eb49a6df69dbd37d03ea", func := "hoard/hoardlaw13.LirsOne", spec := "lirsOne", inPlace := ["internal/abi.NoEscape"], apart := false }
def LirsOneSaid : Prop := lirsOneRow.holds Try.pinned (OpenSpec.ofChange lirsOneSpec)

/-- ITS FALSE NEIGHBOUR: 'it returns false'. Refute it at one input. -/
def lirsOneWrong : ChangeSpec := { name := "lirsOne", fn := fun _ => fun
  | [d] => { results := [.lit (.bool false)], args := [d] }
  | _ => none }
def LirsOneWrongFalsely : Prop := lirsOneRow.holds Try.pinned (OpenSpec.ofChange lirsOneWrong)

/-- 'hoardlaw13.LirsEmpties': WHATEVER THE INPUT: true; the input reads as it did. -/
def lirsEmptiesSpec : ChangeSpec := { name := "lirsEmpties", fn := fun _ => fun
  | [d1, d2] => { results := [.lit (.bool true)], args := [d1, d2] }
  | _ => none }
def lirsEmptiesRow : OpenClaim := { program := "ytgmhoenmhnlojaa", sum := "ecf81d93525e7f4c9aa7e1e90a824fc044687bbe1573eb49a6df69dbd37d03ea", func := "hoard/hoardlaw13.LirsEmpties", spec := "lirsEmpties", inPlace := ["internal/abi.NoEscape"], apart := false }
def LirsEmptiesSaid : Prop := lirsEmptiesRow.holds Try.pinned (OpenSpec.ofChange lirsEmptiesSpec)

/-- ITS FALSE NEIGHBOUR: 'it returns false'. Refute it at one input. -/
def lirsEmptiesWrong : ChangeSpec := { name := "lirsEmpties", fn := fun _ => fun
  | [d1, d2] => { results := [.lit (.bool false)], args := [d1, d2] }
  | _ => none }
def LirsEmptiesWrongFalsely : Prop := lirsEmptiesRow.holds Try.pinned (OpenSpec.ofChange lirsEmptiesWrong)

/-- 'hoardlaw13.LirsLoads': WHATEVER THE INPUT: true; the input reads as it did. -/
def lirsLoadsSpec : ChangeSpec := { name := "lirsLoads", fn := fun _ => fun
  | [d1, d2, d3] => { results := [.lit (.bool true)], args := [d1, d2, d3] }
  | _ => none }
def lirsLoadsRow : OpenClaim := { program := "ytgmhoenmhnlojaa", sum := "ecf81d93525e7f4c9aa7e1e90a824fc044687bbe1573eb49a6df69dbd37d03ea", func := "hoard/hoardlaw13.LirsLoads", spec := "lirsLoads", inPlace := ["internal/abi.NoEscape"], apart := false }
def LirsLoadsSaid : Prop := lirsLoadsRow.holds Try.pinned (OpenSpec.ofChange lirsLoadsSpec)

/-- ITS FALSE NEIGHBOUR: 'it returns false'. Refute it at one input. -/
def lirsLoadsWrong : ChangeSpec := { name := "lirsLoads", fn := fun _ => fun
  | [d1, d2, d3] => { results := [.lit (.bool false)], args := [d1, d2, d3] }
  | _ => none }
def LirsLoadsWrongFalsely : Prop := lirsLoadsRow.holds Try.pinned (OpenSpec.ofChange lirsLoadsWrong)

/-- 'hoardlaw13.LirsRemoves': WHATEVER THE INPUT: true; the input reads as it did. -/
def lirsRemovesSpec : ChangeSpec := { name := "lirsRemoves", fn := fun _ => fun
  | [d1, d2, d3] => { results := [.lit (.bool true)], args := [d1, d2, d3] }
  | _ => none }
def lirsRemovesRow : OpenClaim := { program := "ytgmhoenmhnlojaa", sum := "ecf81d93525e7f4c9aa7e1e90a824fc044687bbe1573eb49a6df69dbd37d03ea", func := "hoard/hoardlaw13.LirsRemoves", spec := "lirsRemoves", inPlace := ["internal/abi.NoEscape"], apart := false }
def LirsRemovesSaid : Prop := lirsRemovesRow.holds Try.pinned (OpenSpec.ofChange lirsRemovesSpec)

/-- ITS FALSE NEIGHBOUR: 'it returns false'. Refute it at one input. -/
def lirsRemovesWrong : ChangeSpec := { name := "lirsRemoves", fn := fun _ => fun
  | [d1, d2, d3] => { results := [.lit (.bool false)], args := [d1, d2, d3] }
  | _ => none }
def LirsRemovesWrongFalsely : Prop := lirsRemovesRow.holds Try.pinned (OpenSpec.ofChange lirsRemovesWrong)

/-- 'hoardlaw13.LirsOwn': WHATEVER THE INPUT: true; the input reads as it did. -/
def lirsOwnSpec : ChangeSpec := { name := "lirsOwn", fn := fun _ => fun
  | [d1, d2] => { results := [.lit (.bool true)], args := [d1, d2] }
  | _ => none }
def lirsOwnRow : OpenClaim := { program := "ytgmhoenmhnlojaa", sum := "ecf81d93525e7f4c9aa7e1e90a824fc044687bbe1573eb49a6df69dbd37d03ea", func := "hoard/hoardlaw13.LirsOwn", spec := "lirsOwn", inPlace := ["internal/abi.NoEscape"], apart := false }
def LirsOwnSaid : Prop := lirsOwnRow.holds Try.pinned (OpenSpec.ofChange lirsOwnSpec)

/-- ITS FALSE NEIGHBOUR: 'it returns false'. Refute it at one input. -/
def lirsOwnWrong : ChangeSpec := { name := "lirsOwn", fn := fun _ => fun
  | [d1, d2] => { results := [.lit (.bool false)], args := [d1, d2] }
  | _ => none }
def LirsOwnWrongFalsely : Prop := lirsOwnRow.holds Try.pinned (OpenSpec.ofChange lirsOwnWrong)

/-- 'hoardlaw13.LirsPlays': WHATEVER THE INPUT: true; the input reads as it did. -/
def lirsPlaysSpec : ChangeSpec := { name := "lirsPlays", fn := fun _ => fun
  | [d1, d2] => { results := [.lit (.bool true)], args := [d1, d2] }
  | _ => none }
def lirsPlaysRow : OpenClaim := { program := "ytgmhoenmhnlojaa", sum := "ecf81d93525e7f4c9aa7e1e90a824fc044687bbe1573eb49a6df69dbd37d03ea", func := "hoard/hoardlaw13.LirsPlays", spec := "lirsPlays", inPlace := ["internal/abi.NoEscape"], apart := false }
def LirsPlaysSaid : Prop := lirsPlaysRow.holds Try.pinned (OpenSpec.ofChange lirsPlaysSpec)

/-- ITS FALSE NEIGHBOUR: 'it returns false'. Refute it at one input. -/
def lirsPlaysWrong : ChangeSpec := { name := "lirsPlays", fn := fun _ => fun
  | [d1, d2] => { results := [.lit (.bool false)], args := [d1, d2] }
  | _ => none }
def LirsPlaysWrongFalsely : Prop := lirsPlaysRow.holds Try.pinned (OpenSpec.ofChange lirsPlaysWrong)

/-- 'hoardlaw13.LirsBounds': WHATEVER THE INPUT: true; the input reads as it did. -/
def lirsBoundsSpec : ChangeSpec := { name := "lirsBounds", fn := fun _ => fun
  | [d1, d2] => { results := [.lit (.bool true)], args := [d1, d2] }
  | _ => none }
def lirsBoundsRow : OpenClaim := { program := "ytgmhoenmhnlojaa", sum := "ecf81d93525e7f4c9aa7e1e90a824fc044687bbe1573eb49a6df69dbd37d03ea", func := "hoard/hoardlaw13.LirsBounds", spec := "lirsBounds", inPlace := ["internal/abi.NoEscape"], apart := false }
def LirsBoundsSaid : Prop := lirsBoundsRow.holds Try.pinned (OpenSpec.ofChange lirsBoundsSpec)

/-- ITS FALSE NEIGHBOUR: 'it returns false'. Refute it at one input. -/
def lirsBoundsWrong : ChangeSpec := { name := "lirsBounds", fn := fun _ => fun
  | [d1, d2] => { results := [.lit (.bool false)], args := [d1, d2] }
  | _ => none }
def LirsBoundsWrongFalsely : Prop := lirsBoundsRow.holds Try.pinned (OpenSpec.ofChange lirsBoundsWrong)

/-- 'hoardlaw13.LirsOfNothing': WHATEVER THE INPUT: true; the input reads as it did. -/
def lirsOfNothingSpec : ChangeSpec := { name := "lirsOfNothing", fn := fun _ => fun
  | [d] => { results := [.lit (.bool true)], args := [d] }
  | _ => none }
def lirsOfNothingRow : OpenClaim := { program := "ytgmhoenmhnlojaa", sum := "ecf81d93525e7f4c9aa7e1e90a824fc044687bbe1573eb49a6df69dbd37d03ea", func := "hoard/hoardlaw13.LirsOfNothing", spec := "lirsOfNothing", inPlace := ["internal/abi.NoEscape"], apart := false }
def LirsOfNothingSaid : Prop := lirsOfNothingRow.holds Try.pinned (OpenSpec.ofChange lirsOfNothingSpec)

/-- ITS FALSE NEIGHBOUR: 'it returns false'. Refute it at one input. -/
def lirsOfNothingWrong : ChangeSpec := { name := "lirsOfNothing", fn := fun _ => fun
  | [d] => { results := [.lit (.bool false)], args := [d] }
  | _ => none }
def LirsOfNothingWrongFalsely : Prop := lirsOfNothingRow.holds Try.pinned (OpenSpec.ofChange lirsOfNothingWrong)

/- THE SECOND FORM. 'bulk': how many values and letters a reading holds, each counted each time it is reached (what is shared counts as often as it is met; a slice's spare places count too). A statement '..UptoSaid' is the law's where the arguments, and the package variables that the reading takes, are together of bulk at most 1048576: NARROWER than '..Said'. Prove '..Said' where nothing that the law and all that it calls make is longer than what came in: it says more and counts as full. Else prove '..UptoSaid'. A law counts once. -/
mutual
def uptoBulk {H : Type} : DataW H → Nat
  | .lit (.string bytes) => bytes.length + 1
  | .lit _ => 1
  | .nil => 1
  | .ptr d => uptoBulk d + 1
  | .slice elems spare => uptoBulkAll elems + uptoBulkAll spare + 1
  | .agg parts => uptoBulkAll parts + 1
  | .iface _ d => uptoBulk d + 1
  | .map entries => uptoBulkEntries entries + 1
  | .held _ => 1
def uptoBulkAll {H : Type} : List (DataW H) → Nat
  | [] => 0
  | d :: r => uptoBulk d + uptoBulkAll r
def uptoBulkEntries {H : Type} : List (Lit × DataW H) → Nat
  | [] => 0
  | x :: r => uptoBulkEntry x + uptoBulkEntries r
def uptoBulkEntry {H : Type} : Lit × DataW H → Nat
  | (.string bytes, d) => bytes.length + uptoBulk d + 1
  | (_, d) => uptoBulk d + 1
 end
def uptoSmall : (H : Type) → List (DataW H) → Bool := fun _ ds => decide (uptoBulkAll ds ≤ 1048576)
def OpenSpec.upto (s : _root_.Go.ChangeSpec) : _root_.Go.OpenSpec := { _root_.Go.OpenSpec.ofChange s with cond := some uptoSmall }

/-- 'hoardlaw13.LirsFits', WHERE WHAT IT READS IS OF BULK AT MOST 1048576: true; the input reads as it did. -/
def lirsFitsUptoRow : OpenClaim := { program := "ytgmhoenmhnlojaa", sum := "ecf81d93525e7f4c9aa7e1e90a824fc044687bbe1573eb49a6df69dbd37d03ea", func := "hoard/hoardlaw13.LirsFits", spec := "lirsFits", inPlace := ["internal/abi.NoEscape"], apart := false, narrowed := true }
def LirsFitsUptoSaid : Prop := lirsFitsUptoRow.holds Try.pinned (OpenSpec.upto lirsFitsSpec)

/-- 'hoardlaw13.LirsCounts', WHERE WHAT IT READS IS OF BULK AT MOST 1048576: true; the input reads as it did. -/
def lirsCountsUptoRow : OpenClaim := { program := "ytgmhoenmhnlojaa", sum := "ecf81d93525e7f4c9aa7e1e90a824fc044687bbe1573eb49a6df69dbd37d03ea", func := "hoard/hoardlaw13.LirsCounts", spec := "lirsCounts", inPlace := ["internal/abi.NoEscape"], apart := false, narrowed := true }
def LirsCountsUptoSaid : Prop := lirsCountsUptoRow.holds Try.pinned (OpenSpec.upto lirsCountsSpec)

/-- 'hoardlaw13.LirsTold', WHERE WHAT IT READS IS OF BULK AT MOST 1048576: true; the input reads as it did. -/
def lirsToldUptoRow : OpenClaim := { program := "ytgmhoenmhnlojaa", sum := "ecf81d93525e7f4c9aa7e1e90a824fc044687bbe1573eb49a6df69dbd37d03ea", func := "hoard/hoardlaw13.LirsTold", spec := "lirsTold", inPlace := ["internal/abi.NoEscape"], apart := false, narrowed := true }
def LirsToldUptoSaid : Prop := lirsToldUptoRow.holds Try.pinned (OpenSpec.upto lirsToldSpec)

/-- 'hoardlaw13.LirsScan', WHERE WHAT IT READS IS OF BULK AT MOST 1048576: true; the input reads as it did. -/
def lirsScanUptoRow : OpenClaim := { program := "ytgmhoenmhnlojaa", sum := "ecf81d93525e7f4c9aa7e1e90a824fc044687bbe1573eb49a6df69dbd37d03ea", func := "hoard/hoardlaw13.LirsScan", spec := "lirsScan", inPlace := ["internal/abi.NoEscape"], apart := false, narrowed := true }
def LirsScanUptoSaid : Prop := lirsScanUptoRow.holds Try.pinned (OpenSpec.upto lirsScanSpec)

/-- 'hoardlaw13.LirsOne', WHERE WHAT IT READS IS OF BULK AT MOST 1048576: true; the input reads as it did. -/
def lirsOneUptoRow : OpenClaim := { program := "ytgmhoenmhnlojaa", sum := "ecf81d93525e7f4c9aa7e1e90a824fc044687bbe1573eb49a6df69dbd37d03ea", func := "hoard/hoardlaw13.LirsOne", spec := "lirsOne", inPlace := ["internal/abi.NoEscape"], apart := false, narrowed := true }
def LirsOneUptoSaid : Prop := lirsOneUptoRow.holds Try.pinned (OpenSpec.upto lirsOneSpec)

/-- 'hoardlaw13.LirsEmpties', WHERE WHAT IT READS IS OF BULK AT MOST 1048576: true; the input reads as it did. -/
def lirsEmptiesUptoRow : OpenClaim := { program := "ytgmhoenmhnlojaa", sum := "ecf81d93525e7f4c9aa7e1e90a824fc044687bbe1573eb49a6df69dbd37d03ea", func := "hoard/hoardlaw13.LirsEmpties", spec := "lirsEmpties", inPlace := ["internal/abi.NoEscape"], apart := false, narrowed := true }
def LirsEmptiesUptoSaid : Prop := lirsEmptiesUptoRow.holds Try.pinned (OpenSpec.upto lirsEmptiesSpec)

/-- 'hoardlaw13.LirsLoads', WHERE WHAT IT READS IS OF BULK AT MOST 1048576: true; the input reads as it did. -/
def lirsLoadsUptoRow : OpenClaim := { program := "ytgmhoenmhnlojaa", sum := "ecf81d93525e7f4c9aa7e1e90a824fc044687bbe1573eb49a6df69dbd37d03ea", func := "hoard/hoardlaw13.LirsLoads", spec := "lirsLoads", inPlace := ["internal/abi.NoEscape"], apart := false, narrowed := true }
def LirsLoadsUptoSaid : Prop := lirsLoadsUptoRow.holds Try.pinned (OpenSpec.upto lirsLoadsSpec)

/-- 'hoardlaw13.LirsRemoves', WHERE WHAT IT READS IS OF BULK AT MOST 1048576: true; the input reads as it did. -/
def lirsRemovesUptoRow : OpenClaim := { program := "ytgmhoenmhnlojaa", sum := "ecf81d93525e7f4c9aa7e1e90a824fc044687bbe1573eb49a6df69dbd37d03ea", func := "hoard/hoardlaw13.LirsRemoves", spec := "lirsRemoves", inPlace := ["internal/abi.NoEscape"], apart := false, narrowed := true }
def LirsRemovesUptoSaid : Prop := lirsRemovesUptoRow.holds Try.pinned (OpenSpec.upto lirsRemovesSpec)

/-- 'hoardlaw13.LirsOwn', WHERE WHAT IT READS IS OF BULK AT MOST 1048576: true; the input reads as it did. -/
def lirsOwnUptoRow : OpenClaim := { program := "ytgmhoenmhnlojaa", sum := "ecf81d93525e7f4c9aa7e1e90a824fc044687bbe1573eb49a6df69dbd37d03ea", func := "hoard/hoardlaw13.LirsOwn", spec := "lirsOwn", inPlace := ["internal/abi.NoEscape"], apart := false, narrowed := true }
def LirsOwnUptoSaid : Prop := lirsOwnUptoRow.holds Try.pinned (OpenSpec.upto lirsOwnSpec)

/-- 'hoardlaw13.LirsPlays', WHERE WHAT IT READS IS OF BULK AT MOST 1048576: true; the input reads as it did. -/
def lirsPlaysUptoRow : OpenClaim := { program := "ytgmhoenmhnlojaa", sum := "ecf81d93525e7f4c9aa7e1e90a824fc044687bbe1573eb49a6df69dbd37d03ea", func := "hoard/hoardlaw13.LirsPlays", spec := "lirsPlays", inPlace := ["internal/abi.NoEscape"], apart := false, narrowed := true }
def LirsPlaysUptoSaid : Prop := lirsPlaysUptoRow.holds Try.pinned (OpenSpec.upto lirsPlaysSpec)

/-- 'hoardlaw13.LirsBounds', WHERE WHAT IT READS IS OF BULK AT MOST 1048576: true; the input reads as it did. -/
def lirsBoundsUptoRow : OpenClaim := { program := "ytgmhoenmhnlojaa", sum := "ecf81d93525e7f4c9aa7e1e90a824fc044687bbe1573eb49a6df69dbd37d03ea", func := "hoard/hoardlaw13.LirsBounds", spec := "lirsBounds", inPlace := ["internal/abi.NoEscape"], apart := false, narrowed := true }
def LirsBoundsUptoSaid : Prop := lirsBoundsUptoRow.holds Try.pinned (OpenSpec.upto lirsBoundsSpec)

/-- 'hoardlaw13.LirsOfNothing', WHERE WHAT IT READS IS OF BULK AT MOST 1048576: true; the input reads as it did. -/
def lirsOfNothingUptoRow : OpenClaim := { program := "ytgmhoenmhnlojaa", sum := "ecf81d93525e7f4c9aa7e1e90a824fc044687bbe1573eb49a6df69dbd37d03ea", func := "hoard/hoardlaw13.LirsOfNothing", spec := "lirsOfNothing", inPlace := ["internal/abi.NoEscape"], apart := false, narrowed := true }
def LirsOfNothingUptoSaid : Prop := lirsOfNothingUptoRow.holds Try.pinned (OpenSpec.upto lirsOfNothingSpec)

end Rows
end Go.Proofs.Ytgmhoenmhnlojaa
