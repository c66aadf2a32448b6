/-
  NARROWER THAN 'FOR EVERY INPUT', by the rows' own cells (each row's printed sentence says how): ArcFits: laid · ArcOne: laid · ArcCounts: laid · ArcOften: laid · ArcTold: laid · ArcEmpties: laid · ArcLoads: laid · ArcRemoves: laid · ArcOwn: laid · ArcPlays: laid · ArcBounds: laid · ArcOfNothing: laid.
  DERIVED. THE GIVEN ROWS OF THIS SEAT. 12 by the template 'for every input the law returns true; each argument reads behind the call as it read before'; 0 by the template 'total and deterministic' (their statements: YtchlicgjdlkidaaDoorTotals.lean).
  GIVEN WITH THE SEED: the statements are not yours to turn. If you find one false, say at which input.
  Laid BY PROGRAM, IN A SANDBOX (cutbox-rows.mjs): the forced cells as the released guide's own fill.sh prints them over the translation d1b87a37bd783afe… (all of the seat's roots in one cut). By AI agents, Wed Nov 11 2026. No macro, syntax, notation, axiom, sorry.
-/
import Derived.Test.YtchlicgjdlkidaaDoorChecked
import GoSem.Claim
import GoSem.ClaimJoined
import GoSem.ClaimMapViews
import Derived.JoinedTies
import Derived.KernelRfl
namespace Go.Proofs.YtchlicgjdlkidaaDoor
/- THE CELL 'sum', in the pinned program and in every row, IS THE sha256 OF THE DUMP (.gsa) THAT YtchlicgjdlkidaaDoorProg.lean LOADS. Nothing in Lean hashes anything: it is a label: what it is worth is what the hold of that sum in a sandbox is worth. -/
noncomputable def Tryd.pinned : Pinned := { name := "ytchlicgjdlkidaadoor", sum := "d1b87a37bd783afea2e8ad8d9b6d9e2e8aa6a0bd50f8870615bef5a3b7551eb8", checked := Tryd.checked }
namespace Rows
def none {H : Type} : Left H := { results := [], args := [] }

/- WHAT THE LISTED PACKAGE-LEVEL VARIABLES READ AS WHEN THE CALL BEGINS. Each datum BY PROGRAM (the guide's laid-datum.mjs) off the statement by which the dump's own 'gosem.cut.vars' lays the variable. In a bare row this is a premise. The card (YtchlicgjdlkidaaDoorCards.lean) ties it to the program's text. -/
def laid_math_bits_deBruijn32tab {H : Type} : DataW H := .agg [.lit (.int .u8 0), .lit (.int .u8 1), .lit (.int .u8 28), .lit (.int .u8 2), .lit (.int .u8 29), .lit (.int .u8 14), .lit (.int .u8 24), .lit (.int .u8 3), .lit (.int .u8 30), .lit (.int .u8 22), .lit (.int .u8 20), .lit (.int .u8 15), .lit (.int .u8 25), .lit (.int .u8 17), .lit (.int .u8 4), .lit (.int .u8 8), .lit (.int .u8 31), .lit (.int .u8 27), .lit (.int .u8 13), .lit (.int .u8 23), .lit (.int .u8 21), .lit (.int .u8 19), .lit (.int .u8 16), .lit (.int .u8 7), .lit (.int .u8 26), .lit (.int .u8 12), .lit (.int .u8 18), .lit (.int .u8 6), .lit (.int .u8 11), .lit (.int .u8 5), .lit (.int .u8 10), .lit (.int .u8 9)]
def laid_math_bits_deBruijn64tab {H : Type} : DataW H := .agg [.lit (.int .u8 0), .lit (.int .u8 1), .lit (.int .u8 56), .lit (.int .u8 2), .lit (.int .u8 57), .lit (.int .u8 49), .lit (.int .u8 28), .lit (.int .u8 3), .lit (.int .u8 61), .lit (.int .u8 58), .lit (.int .u8 42), .lit (.int .u8 50), .lit (.int .u8 38), .lit (.int .u8 29), .lit (.int .u8 17), .lit (.int .u8 4), .lit (.int .u8 62), .lit (.int .u8 47), .lit (.int .u8 59), .lit (.int .u8 36), .lit (.int .u8 45), .lit (.int .u8 43), .lit (.int .u8 51), .lit (.int .u8 22), .lit (.int .u8 53), .lit (.int .u8 39), .lit (.int .u8 33), .lit (.int .u8 30), .lit (.int .u8 24), .lit (.int .u8 18), .lit (.int .u8 12), .lit (.int .u8 5), .lit (.int .u8 63), .lit (.int .u8 55), .lit (.int .u8 48), .lit (.int .u8 27), .lit (.int .u8 60), .lit (.int .u8 41), .lit (.int .u8 37), .lit (.int .u8 16), .lit (.int .u8 46), .lit (.int .u8 35), .lit (.int .u8 44), .lit (.int .u8 21), .lit (.int .u8 52), .lit (.int .u8 32), .lit (.int .u8 23), .lit (.int .u8 11), .lit (.int .u8 54), .lit (.int .u8 26), .lit (.int .u8 40), .lit (.int .u8 15), .lit (.int .u8 34), .lit (.int .u8 20), .lit (.int .u8 31), .lit (.int .u8 10), .lit (.int .u8 25), .lit (.int .u8 14), .lit (.int .u8 19), .lit (.int .u8 9), .lit (.int .u8 13), .lit (.int .u8 8), .lit (.int .u8 7), .lit (.int .u8 6)]
def laid_internal_strconv_uint64pow10 {H : Type} : DataW H := .agg [.lit (.int .u64 1), .lit (.int .u64 10), .lit (.int .u64 100), .lit (.int .u64 1000), .lit (.int .u64 10000), .lit (.int .u64 100000), .lit (.int .u64 1000000), .lit (.int .u64 10000000), .lit (.int .u64 100000000), .lit (.int .u64 1000000000), .lit (.int .u64 10000000000), .lit (.int .u64 100000000000), .lit (.int .u64 1000000000000), .lit (.int .u64 10000000000000), .lit (.int .u64 100000000000000), .lit (.int .u64 1000000000000000), .lit (.int .u64 10000000000000000), .lit (.int .u64 100000000000000000), .lit (.int .u64 1000000000000000000), .lit (.int .u64 10000000000000000000)]

/-- 'hoardlaw10.ArcFits': WHATEVER THE INPUT: true; the input reads as it did. -/
def arcFitsSpec : ChangeSpec := { name := "arcFits", fn := fun _ => fun
  | [d1, d2] => { results := [.lit (.bool true)], args := [d1, d2] }
  | _ => none }
def arcFitsRow : OpenClaim := { program := "ytchlicgjdlkidaadoor", sum := "d1b87a37bd783afea2e8ad8d9b6d9e2e8aa6a0bd50f8870615bef5a3b7551eb8", func := "hoard/hoardlaw10.ArcFits", spec := "arcFits", inPlace := ["internal/abi.NoEscape", "internal/bytealg.MakeNoZero"], named := ["internal/strconv.uint64pow10", "math/bits.deBruijn32tab", "math/bits.deBruijn64tab"], apart := false, laid := [("math/bits.deBruijn32tab", laid_math_bits_deBruijn32tab), ("math/bits.deBruijn64tab", laid_math_bits_deBruijn64tab), ("internal/strconv.uint64pow10", laid_internal_strconv_uint64pow10)] }
def ArcFitsSaid : Prop := arcFitsRow.holds Tryd.pinned (OpenSpec.ofChange arcFitsSpec)

/-- ITS FALSE NEIGHBOUR: 'it returns false'. Refute it at one input. -/
def arcFitsWrong : ChangeSpec := { name := "arcFits", fn := fun _ => fun
  | [d1, d2] => { results := [.lit (.bool false)], args := [d1, d2] }
  | _ => none }
def ArcFitsWrongFalsely : Prop := arcFitsRow.holds Tryd.pinned (OpenSpec.ofChange arcFitsWrong)

/-- 'hoardlaw10.ArcOne': WHATEVER THE INPUT: true; the input reads as it did. -/
def arcOneSpec : ChangeSpec := { name := "arcOne", fn := fun _ => fun
  | [d] => { results := [.lit (.bool true)], args := [d] }
  | _ => none }
def arcOneRow : OpenClaim := { program := "ytchlicgjdlkidaadoor", sum := "d1b87a37bd783afea2e8ad8d9b6d9e2e8aa6a0bd50f8870615bef5a3b7551eb8", func := "hoard/hoardlaw10.ArcOne", spec := "arcOne", inPlace := ["internal/abi.NoEscape", "internal/bytealg.MakeNoZero"], named := ["internal/strconv.uint64pow10", "math/bits.deBruijn32tab", "math/bits.deBruijn64tab"], apart := false, laid := [("math/bits.deBruijn32tab", laid_math_bits_deBruijn32tab), ("math/bits.deBruijn64tab", laid_math_bits_deBruijn64tab), ("internal/strconv.uint64pow10", laid_internal_strconv_uint64pow10)] }
def ArcOneSaid : Prop := arcOneRow.holds Tryd.pinned (OpenSpec.ofChange arcOneSpec)

/-- ITS FALSE NEIGHBOUR: 'it returns false'. Refute it at one input. -/
def arcOneWrong : ChangeSpec := { name := "arcOne", fn := fun _ => fun
  | [d] => { results := [.lit (.bool false)], args := [d] }
  | _ => none }
def ArcOneWrongFalsely : Prop := arcOneRow.holds Tryd.pinned (OpenSpec.ofChange arcOneWrong)

/-- 'hoardlaw10.ArcCounts': WHATEVER THE INPUT: true; the input reads as it did. -/
def arcCountsSpec : ChangeSpec := { name := "arcCounts", fn := fun _ => fun
  | [d1, d2] => { results := [.lit (.bool true)], args := [d1, d2] }
  | _ => none }
def arcCountsRow : OpenClaim := { program := "ytchlicgjdlkidaadoor", sum := "d1b87a37bd783afea2e8ad8d9b6d9e2e8aa6a0bd50f8870615bef5a3b7551eb8", func := "hoard/hoardlaw10.ArcCounts", spec := "arcCounts", inPlace := ["internal/abi.NoEscape", "internal/bytealg.MakeNoZero"], named := ["internal/strconv.uint64pow10", "math/bits.deBruijn32tab", "math/bits.deBruijn64tab"], apart := false, laid := [("math/bits.deBruijn32tab", laid_math_bits_deBruijn32tab), ("math/bits.deBruijn64tab", laid_math_bits_deBruijn64tab), ("internal/strconv.uint64pow10", laid_internal_strconv_uint64pow10)] }
def ArcCountsSaid : Prop := arcCountsRow.holds Tryd.pinned (OpenSpec.ofChange arcCountsSpec)

/-- ITS FALSE NEIGHBOUR: 'it returns false'. Refute it at one input. -/
def arcCountsWrong : ChangeSpec := { name := "arcCounts", fn := fun _ => fun
  | [d1, d2] => { results := [.lit (.bool false)], args := [d1, d2] }
  | _ => none }
def ArcCountsWrongFalsely : Prop := arcCountsRow.holds Tryd.pinned (OpenSpec.ofChange arcCountsWrong)

/-- 'hoardlaw10.ArcOften': WHATEVER THE INPUT: true; the input reads as it did. -/
def arcOftenSpec : ChangeSpec := { name := "arcOften", fn := fun _ => fun
  | [d1, d2, d3] => { results := [.lit (.bool true)], args := [d1, d2, d3] }
  | _ => none }
def arcOftenRow : OpenClaim := { program := "ytchlicgjdlkidaadoor", sum := "d1b87a37bd783afea2e8ad8d9b6d9e2e8aa6a0bd50f8870615bef5a3b7551eb8", func := "hoard/hoardlaw10.ArcOften", spec := "arcOften", inPlace := ["internal/abi.NoEscape", "internal/bytealg.MakeNoZero"], named := ["internal/strconv.uint64pow10", "math/bits.deBruijn32tab", "math/bits.deBruijn64tab"], apart := false, laid := [("math/bits.deBruijn32tab", laid_math_bits_deBruijn32tab), ("math/bits.deBruijn64tab", laid_math_bits_deBruijn64tab), ("internal/strconv.uint64pow10", laid_internal_strconv_uint64pow10)] }
def ArcOftenSaid : Prop := arcOftenRow.holds Tryd.pinned (OpenSpec.ofChange arcOftenSpec)

/-- ITS FALSE NEIGHBOUR: 'it returns false'. Refute it at one input. -/
def arcOftenWrong : ChangeSpec := { name := "arcOften", fn := fun _ => fun
  | [d1, d2, d3] => { results := [.lit (.bool false)], args := [d1, d2, d3] }
  | _ => none }
def ArcOftenWrongFalsely : Prop := arcOftenRow.holds Tryd.pinned (OpenSpec.ofChange arcOftenWrong)

/-- 'hoardlaw10.ArcTold': WHATEVER THE INPUT: true; the input reads as it did. -/
def arcToldSpec : ChangeSpec := { name := "arcTold", fn := fun _ => fun
  | [d1, d2] => { results := [.lit (.bool true)], args := [d1, d2] }
  | _ => none }
def arcToldRow : OpenClaim := { program := "ytchlicgjdlkidaadoor", sum := "d1b87a37bd783afea2e8ad8d9b6d9e2e8aa6a0bd50f8870615bef5a3b7551eb8", func := "hoard/hoardlaw10.ArcTold", spec := "arcTold", inPlace := ["internal/abi.NoEscape", "internal/bytealg.MakeNoZero"], named := ["internal/strconv.uint64pow10", "math/bits.deBruijn32tab", "math/bits.deBruijn64tab"], apart := false, laid := [("math/bits.deBruijn32tab", laid_math_bits_deBruijn32tab), ("math/bits.deBruijn64tab", laid_math_bits_deBruijn64tab), ("internal/strconv.uint64pow10", laid_internal_strconv_uint64pow10)] }
def ArcToldSaid : Prop := arcToldRow.holds Tryd.pinned (OpenSpec.ofChange arcToldSpec)

/-- ITS FALSE NEIGHBOUR: 'it returns false'. Refute it at one input. -/
def arcToldWrong : ChangeSpec := { name := "arcTold", fn := fun _ => fun
  | [d1, d2] => { results := [.lit (.bool false)], args := [d1, d2] }
  | _ => none }
def ArcToldWrongFalsely : Prop := arcToldRow.holds Tryd.pinned (OpenSpec.ofChange arcToldWrong)

/-- 'hoardlaw10.ArcEmpties': WHATEVER THE INPUT: true; the input reads as it did. -/
def arcEmptiesSpec : ChangeSpec := { name := "arcEmpties", fn := fun _ => fun
  | [d1, d2] => { results := [.lit (.bool true)], args := [d1, d2] }
  | _ => none }
def arcEmptiesRow : OpenClaim := { program := "ytchlicgjdlkidaadoor", sum := "d1b87a37bd783afea2e8ad8d9b6d9e2e8aa6a0bd50f8870615bef5a3b7551eb8", func := "hoard/hoardlaw10.ArcEmpties", spec := "arcEmpties", inPlace := ["internal/abi.NoEscape", "internal/bytealg.MakeNoZero"], named := ["internal/strconv.uint64pow10", "math/bits.deBruijn32tab", "math/bits.deBruijn64tab"], apart := false, laid := [("math/bits.deBruijn32tab", laid_math_bits_deBruijn32tab), ("math/bits.deBruijn64tab", laid_math_bits_deBruijn64tab), ("internal/strconv.uint64pow10", laid_internal_strconv_uint64pow10)] }
def ArcEmptiesSaid : Prop := arcEmptiesRow.holds Tryd.pinned (OpenSpec.ofChange arcEmptiesSpec)

/-- ITS FALSE NEIGHBOUR: 'it returns false'. Refute it at one input. -/
def arcEmptiesWrong : ChangeSpec := { name := "arcEmpties", fn := fun _ => fun
  | [d1, d2] => { results := [.lit (.bool false)], args := [d1, d2] }
  | _ => none }
def ArcEmptiesWrongFalsely : Prop := arcEmptiesRow.holds Tryd.pinned (OpenSpec.ofChange arcEmptiesWrong)

/-- 'hoardlaw10.ArcLoads': WHATEVER THE INPUT: true; the input reads as it did. -/
def arcLoadsSpec : ChangeSpec := { name := "arcLoads", fn := fun _ => fun
  | [d1, d2, d3] => { results := [.lit (.bool true)], args := [d1, d2, d3] }
  | _ => none }
def arcLoadsRow : OpenClaim := { program := "ytchlicgjdlkidaadoor", sum := "d1b87a37bd783afea2e8ad8d9b6d9e2e8aa6a0bd50f8870615bef5a3b7551eb8", func := "hoard/hoardlaw10.ArcLoads", spec := "arcLoads", inPlace := ["internal/abi.NoEscape", "internal/bytealg.MakeNoZero"], named := ["internal/strconv.uint64pow10", "math/bits.deBruijn32tab", "math/bits.deBruijn64tab"], apart := false, laid := [("math/bits.deBruijn32tab", laid_math_bits_deBruijn32tab), ("math/bits.deBruijn64tab", laid_math_bits_deBruijn64tab), ("internal/strconv.uint64pow10", laid_internal_strconv_uint64pow10)] }
def ArcLoadsSaid : Prop := arcLoadsRow.holds Tryd.pinned (OpenSpec.ofChange arcLoadsSpec)

/-- ITS FALSE NEIGHBOUR: 'it returns false'. Refute it at one input. -/
def arcLoadsWrong : ChangeSpec := { name := "arcLoads", fn := fun _ => fun
  | [d1, d2, d3] => { results := [.lit (.bool false)], args := [d1, d2, d3] }
  | _ => none }
def ArcLoadsWrongFalsely : Prop := arcLoadsRow.holds Tryd.pinned (OpenSpec.ofChange arcLoadsWrong)

/-- 'hoardlaw10.ArcRemoves': WHATEVER THE INPUT: true; the input reads as it did. -/
def arcRemovesSpec : ChangeSpec := { name := "arcRemoves", fn := fun _ => fun
  | [d1, d2, d3] => { results := [.lit (.bool true)], args := [d1, d2, d3] }
  | _ => none }
def arcRemovesRow : OpenClaim := { program := "ytchlicgjdlkidaadoor", sum := "d1b87a37bd783afea2e8ad8d9b6d9e2e8aa6a0bd50f8870615bef5a3b7551eb8", func := "hoard/hoardlaw10.ArcRemoves", spec := "arcRemoves", inPlace := ["internal/abi.NoEscape", "internal/bytealg.MakeNoZero"], named := ["internal/strconv.uint64pow10", "math/bits.deBruijn32tab", "math/bits.deBruijn64tab"], apart := false, laid := [("math/bits.deBruijn32tab", laid_math_bits_deBruijn32tab), ("math/bits.deBruijn64tab", laid_math_bits_deBruijn64tab), ("internal/strconv.uint64pow10", laid_internal_strconv_uint64pow10)] }
def ArcRemovesSaid : Prop := arcRemovesRow.holds Tryd.pinned (OpenSpec.ofChange arcRemovesSpec)

/-- ITS FALSE NEIGHBOUR: 'it returns false'. Refute it at one input. -/
def arcRemovesWrong : ChangeSpec := { name := "arcRemoves", fn := fun _ => fun
  | [d1, d2, d3] => { results := [.lit (.bool false)], args := [d1, d2, d3] }
  | _ => none }
def ArcRemovesWrongFalsely : Prop := arcRemovesRow.holds Tryd.pinned (OpenSpec.ofChange arcRemovesWrong)

/-- 'hoardlaw10.ArcOwn': WHATEVER THE INPUT: true; the input reads as it did. -/
def arcOwnSpec : ChangeSpec := { name := "arcOwn", fn := fun _ => fun
  | [d1, d2] => { results := [.lit (.bool true)], args := [d1, d2] }
  | _ => none }
def arcOwnRow : OpenClaim := { program := "ytchlicgjdlkidaadoor", sum := "d1b87a37bd783afea2e8ad8d9b6d9e2e8aa6a0bd50f8870615bef5a3b7551eb8", func := "hoard/hoardlaw10.ArcOwn", spec := "arcOwn", inPlace := ["internal/abi.NoEscape", "internal/bytealg.MakeNoZero"], recurses := true, named := ["internal/strconv.uint64pow10", "math/bits.deBruijn32tab", "math/bits.deBruijn64tab"], apart := false, laid := [("math/bits.deBruijn32tab", laid_math_bits_deBruijn32tab), ("math/bits.deBruijn64tab", laid_math_bits_deBruijn64tab), ("internal/strconv.uint64pow10", laid_internal_strconv_uint64pow10)] }
def ArcOwnSaid : Prop := arcOwnRow.holds Tryd.pinned (OpenSpec.ofChange arcOwnSpec)

/-- ITS FALSE NEIGHBOUR: 'it returns false'. Refute it at one input. -/
def arcOwnWrong : ChangeSpec := { name := "arcOwn", fn := fun _ => fun
  | [d1, d2] => { results := [.lit (.bool false)], args := [d1, d2] }
  | _ => none }
def ArcOwnWrongFalsely : Prop := arcOwnRow.holds Tryd.pinned (OpenSpec.ofChange arcOwnWrong)

/-- 'hoardlaw10.ArcPlays': WHATEVER THE INPUT: true; the input reads as it did. -/
def arcPlaysSpec : ChangeSpec := { name := "arcPlays", fn := fun _ => fun
  | [d1, d2] => { results := [.lit (.bool true)], args := [d1, d2] }
  | _ => none }
def arcPlaysRow : OpenClaim := { program := "ytchlicgjdlkidaadoor", sum := "d1b87a37bd783afea2e8ad8d9b6d9e2e8aa6a0bd50f8870615bef5a3b7551eb8", func := "hoard/hoardlaw10.ArcPlays", spec := "arcPlays", inPlace := ["internal/abi.NoEscape", "internal/bytealg.MakeNoZero"], recurses := true, named := ["internal/strconv.uint64pow10", "math/bits.deBruijn32tab", "math/bits.deBruijn64tab"], apart := false, laid := [("math/bits.deBruijn32tab", laid_math_bits_deBruijn32tab), ("math/bits.deBruijn64tab", laid_math_bits_deBruijn64tab), ("internal/strconv.uint64pow10", laid_internal_strconv_uint64pow10)] }
def ArcPlaysSaid : Prop := arcPlaysRow.holds Tryd.pinned (OpenSpec.ofChange arcPlaysSpec)

/-- ITS FALSE NEIGHBOUR: 'it returns false'. Refute it at one input. -/
def arcPlaysWrong : ChangeSpec := { name := "arcPlays", fn := fun _ => fun
  | [d1, d2] => { results := [.lit (.bool false)], args := [d1, d2] }
  | _ => none }
def ArcPlaysWrongFalsely : Prop := arcPlaysRow.holds Tryd.pinned (OpenSpec.ofChange arcPlaysWrong)

/-- 'hoardlaw10.ArcBounds': WHATEVER THE INPUT: true; the input reads as it did. -/
def arcBoundsSpec : ChangeSpec := { name := "arcBounds", fn := fun _ => fun
  | [d1, d2] => { results := [.lit (.bool true)], args := [d1, d2] }
  | _ => none }
def arcBoundsRow : OpenClaim := { program := "ytchlicgjdlkidaadoor", sum := "d1b87a37bd783afea2e8ad8d9b6d9e2e8aa6a0bd50f8870615bef5a3b7551eb8", func := "hoard/hoardlaw10.ArcBounds", spec := "arcBounds", inPlace := ["internal/abi.NoEscape", "internal/bytealg.MakeNoZero"], named := ["internal/strconv.uint64pow10", "math/bits.deBruijn32tab", "math/bits.deBruijn64tab"], apart := false, laid := [("math/bits.deBruijn32tab", laid_math_bits_deBruijn32tab), ("math/bits.deBruijn64tab", laid_math_bits_deBruijn64tab), ("internal/strconv.uint64pow10", laid_internal_strconv_uint64pow10)] }
def ArcBoundsSaid : Prop := arcBoundsRow.holds Tryd.pinned (OpenSpec.ofChange arcBoundsSpec)

/-- ITS FALSE NEIGHBOUR: 'it returns false'. Refute it at one input. -/
def arcBoundsWrong : ChangeSpec := { name := "arcBounds", fn := fun _ => fun
  | [d1, d2] => { results := [.lit (.bool false)], args := [d1, d2] }
  | _ => none }
def ArcBoundsWrongFalsely : Prop := arcBoundsRow.holds Tryd.pinned (OpenSpec.ofChange arcBoundsWrong)

/-- 'hoardlaw10.ArcOfNothing': WHATEVER THE INPUT: true; the input reads as it did. -/
def arcOfNothingSpec : ChangeSpec := { name := "arcOfNothing", fn := fun _ => fun
  | [d] => { results := [.lit (.bool true)], args := [d] }
  | _ => none }
def arcOfNothingRow : OpenClaim := { program := "ytchlicgjdlkidaadoor", sum := "d1b87a37bd783afea2e8ad8d9b6d9e2e8aa6a0bd50f8870615bef5a3b7551eb8", func := "hoard/hoardlaw10.ArcOfNothing", spec := "arcOfNothing", inPlace := ["internal/abi.NoEscape", "internal/bytealg.MakeNoZero"], named := ["internal/strconv.uint64pow10", "math/bits.deBruijn32tab", "math/bits.deBruijn64tab"], apart := false, laid := [("math/bits.deBruijn32tab", laid_math_bits_deBruijn32tab), ("math/bits.deBruijn64tab", laid_math_bits_deBruijn64tab), ("internal/strconv.uint64pow10", laid_internal_strconv_uint64pow10)] }
def ArcOfNothingSaid : Prop := arcOfNothingRow.holds Tryd.pinned (OpenSpec.ofChange arcOfNothingSpec)

/-- ITS FALSE NEIGHBOUR: 'it returns false'. Refute it at one input. -/
def arcOfNothingWrong : ChangeSpec := { name := "arcOfNothing", fn := fun _ => fun
  | [d] => { results := [.lit (.bool false)], args := [d] }
  | _ => none }
def ArcOfNothingWrongFalsely : Prop := arcOfNothingRow.holds Tryd.pinned (OpenSpec.ofChange arcOfNothingWrong)

/- THE SECOND FORM. 'bulk': how many values and letters a reading holds, each counted each time it is reached (what is shared counts as often as it is met; a slice's spare places count too). A statement '..UptoSaid' is the law's where the arguments, and the package variables that the reading takes, are together of bulk at most 1048576: NARROWER than '..Said'. Prove '..Said' where nothing that the law and all that it calls make is longer than what came in: it says more and counts as full. Else prove '..UptoSaid'. A law counts once. -/
mutual
def uptoBulk {H : Type} : DataW H → Nat
  | .lit (.string bytes) => bytes.length + 1
  | .lit _ => 1
  | .nil => 1
  | .ptr d => uptoBulk d + 1
  | .slice elems spare => uptoBulkAll elems + uptoBulkAll spare + 1
  | .agg parts => uptoBulkAll parts + 1
  | .iface _ d => uptoBulk d + 1
  | .map entries => uptoBulkEntries entries + 1
  | .held _ => 1
def uptoBulkAll {H : Type} : List (DataW H) → Nat
  | [] => 0
  | d :: r => uptoBulk d + uptoBulkAll r
def uptoBulkEntries {H : Type} : List (Lit × DataW H) → Nat
  | [] => 0
  | x :: r => uptoBulkEntry x + uptoBulkEntries r
def uptoBulkEntry {H : Type} : Lit × DataW H → Nat
  | (.string bytes, d) => bytes.length + uptoBulk d + 1
  | (_, d) => uptoBulk d + 1
 end
def uptoSmall : (H : Type) → List (DataW H) → Bool := fun _ ds => decide (uptoBulkAll ds ≤ 1048576)
def OpenSpec.upto (s : _root_.Go.ChangeSpec) : _root_.Go.OpenSpec := { _root_.Go.OpenSpec.ofChange s with cond := some uptoSmall }

/-- 'hoardlaw10.ArcFits', WHERE WHAT IT READS IS OF BULK AT MOST 1048576: true; the input reads as it did. -/
def arcFitsUptoRow : OpenClaim := { program := "ytchlicgjdlkidaadoor", sum := "d1b87a37bd783afea2e8ad8d9b6d9e2e8aa6a0bd50f8870615bef5a3b7551eb8", func := "hoard/hoardlaw10.ArcFits", spec := "arcFits", inPlace := ["internal/abi.NoEscape", "internal/bytealg.MakeNoZero"], named := ["internal/strconv.uint64pow10", "math/bits.deBruijn32tab", "math/bits.deBruijn64tab"], apart := false, laid := [("math/bits.deBruijn32tab", laid_math_bits_deBruijn32tab), ("math/bits.deBruijn64tab", laid_math_bits_deBruijn64tab), ("internal/strconv.uint64pow10", laid_internal_strconv_uint64pow10)], narrowed := true }
def ArcFitsUptoSaid : Prop := arcFitsUptoRow.holds Tryd.pinned (OpenSpec.upto arcFitsSpec)

/-- 'hoardlaw10.ArcOne', WHERE WHAT IT READS IS OF BULK AT MOST 1048576: true; the input reads as it did. -/
def arcOneUptoRow : OpenClaim := { program := "ytchlicgjdlkidaadoor", sum := "d1b87a37bd783afea2e8ad8d9b6d9e2e8aa6a0bd50f8870615bef5a3b7551eb8", func := "hoard/hoardlaw10.ArcOne", spec := "arcOne", inPlace := ["internal/abi.NoEscape", "internal/bytealg.MakeNoZero"], named := ["internal/strconv.uint64pow10", "math/bits.deBruijn32tab", "math/bits.deBruijn64tab"], apart := false, laid := [("math/bits.deBruijn32tab", laid_math_bits_deBruijn32tab), ("math/bits.deBruijn64tab", laid_math_bits_deBruijn64tab), ("internal/strconv.uint64pow10", laid_internal_strconv_uint64pow10)], narrowed := true }
def ArcOneUptoSaid : Prop := arcOneUptoRow.holds Tryd.pinned (OpenSpec.upto arcOneSpec)

/-- 'hoardlaw10.ArcCounts', WHERE WHAT IT READS IS OF BULK AT MOST 1048576: true; the input reads as it did. -/
def arcCountsUptoRow : OpenClaim := { program := "ytchlicgjdlkidaadoor", sum := "d1b87a37bd783afea2e8ad8d9b6d9e2e8aa6a0bd50f8870615bef5a3b7551eb8", func := "hoard/hoardlaw10.ArcCounts", spec := "arcCounts", inPlace := ["internal/abi.NoEscape", "internal/bytealg.MakeNoZero"], named := ["internal/strconv.uint64pow10", "math/bits.deBruijn32tab", "math/bits.deBruijn64tab"], apart := false, laid := [("math/bits.deBruijn32tab", laid_math_bits_deBruijn32tab), ("math/bits.deBruijn64tab", laid_math_bits_deBruijn64tab), ("internal/strconv.uint64pow10", laid_internal_strconv_uint64pow10)], narrowed := true }
def ArcCountsUptoSaid : Prop := arcCountsUptoRow.holds Tryd.pinned (OpenSpec.upto arcCountsSpec)

/-- 'hoardlaw10.ArcOften', WHERE WHAT IT READS IS OF BULK AT MOST 1048576: true; the input reads as it did. -/
def arcOftenUptoRow : OpenClaim := { program := "ytchlicgjdlkidaadoor", sum := "d1b87a37bd783afea2e8ad8d9b6d9e2e8aa6a0bd50f8870615bef5a3b7551eb8", func := "hoard/hoardlaw10.ArcOften", spec := "arcOften", inPlace := ["internal/abi.NoEscape", "internal/bytealg.MakeNoZero"], named := ["internal/strconv.uint64pow10", "math/bits.deBruijn32tab", "math/bits.deBruijn64tab"], apart := false, laid := [("math/bits.deBruijn32tab", laid_math_bits_deBruijn32tab), ("math/bits.deBruijn64tab", laid_math_bits_deBruijn64tab), ("internal/strconv.uint64pow10", laid_internal_strconv_uint64pow10)], narrowed := true }
def ArcOftenUptoSaid : Prop := arcOftenUptoRow.holds Tryd.pinned (OpenSpec.upto arcOftenSpec)

/-- 'hoardlaw10.ArcTold', WHERE WHAT IT READS IS OF BULK AT MOST 1048576: true; the input reads as it did. -/
def arcToldUptoRow : OpenClaim := { program := "ytchlicgjdlkidaadoor", sum := "d1b87a37bd783afea2e8ad8d9b6d9e2e8aa6a0bd50f8870615bef5a3b7551eb8", func := "hoard/hoardlaw10.ArcTold", spec := "arcTold", inPlace := ["internal/abi.NoEscape", "internal/bytealg.MakeNoZero"], named := ["internal/strconv.uint64pow10", "math/bits.deBruijn32tab", "math/bits.deBruijn64tab"], apart := false, laid := [("math/bits.deBruijn32tab", laid_math_bits_deBruijn32tab), ("math/bits.deBruijn64tab", laid_math_bits_deBruijn64tab), ("internal/strconv.uint64pow10", laid_internal_strconv_uint64pow10)], narrowed := true }
def ArcToldUptoSaid : Prop := arcToldUptoRow.holds Tryd.pinned (OpenSpec.upto arcToldSpec)

/-- 'hoardlaw10.ArcEmpties', WHERE WHAT IT READS IS OF BULK AT MOST 1048576: true; the input reads as it did. -/
def arcEmptiesUptoRow : OpenClaim := { program := "ytchlicgjdlkidaadoor", sum := "d1b87a37bd783afea2e8ad8d9b6d9e2e8aa6a0bd50f8870615bef5a3b7551eb8", func := "hoard/hoardlaw10.ArcEmpties", spec := "arcEmpties", inPlace := ["internal/abi.NoEscape", "internal/bytealg.MakeNoZero"], named := ["internal/strconv.uint64pow10", "math/bits.deBruijn32tab", "math/bits.deBruijn64tab"], apart := false, laid := [("math/bits.deBruijn32tab", laid_math_bits_deBruijn32tab), ("math/bits.deBruijn64tab", laid_math_bits_deBruijn64tab), ("internal/strconv.uint64pow10", laid_internal_strconv_uint64pow10)], narrowed := true }
def ArcEmptiesUptoSaid : Prop := arcEmptiesUptoRow.holds Tryd.pinned (OpenSpec.upto arcEmptiesSpec)

/-- 'hoardlaw10.ArcLoads', WHERE WHAT IT READS IS OF BULK AT MOST 1048576: true; the input reads as it did. -/
def arcLoadsUptoRow : OpenClaim := { program := "ytchlicgjdlkidaadoor", sum := "d1b87a37bd783afea2e8ad8d9b6d9e2e8aa6a0bd50f8870615bef5a3b7551eb8", func := "hoard/hoardlaw10.ArcLoads", spec := "arcLoads", inPlace := ["internal/abi.NoEscape", "internal/bytealg.MakeNoZero"], named := ["internal/strconv.uint64pow10", "math/bits.deBruijn32tab", "math/bits.deBruijn64tab"], apart := false, laid := [("math/bits.deBruijn32tab", laid_math_bits_deBruijn32tab), ("math/bits.deBruijn64tab", laid_math_bits_deBruijn64tab), ("internal/strconv.uint64pow10", laid_internal_strconv_uint64pow10)], narrowed := true }
def ArcLoadsUptoSaid : Prop := arcLoadsUptoRow.holds Tryd.pinned (OpenSpec.upto arcLoadsSpec)

/-- 'hoardlaw10.ArcRemoves', WHERE WHAT IT READS IS OF BULK AT MOST 1048576: true; the input reads as it did. -/
def arcRemovesUptoRow : OpenClaim := { program := "ytchlicgjdlkidaadoor", sum := "d1b87a37bd783afea2e8ad8d9b6d9e2e8aa6a0bd50f8870615bef5a3b7551eb8", func := "hoard/hoardlaw10.ArcRemoves", spec := "arcRemoves", inPlace := ["internal/abi.NoEscape", "internal/bytealg.MakeNoZero"], named := ["internal/strconv.uint64pow10", "math/bits.deBruijn32tab", "math/bits.deBruijn64tab"], apart := false, laid := [("math/bits.deBruijn32tab", laid_math_bits_deBruijn32tab), ("math/bits.deBruijn64tab", laid_math_bits_deBruijn64tab), ("internal/strconv.uint64pow10", laid_internal_strconv_uint64pow10)], narrowed := true }
def ArcRemovesUptoSaid : Prop := arcRemovesUptoRow.holds Tryd.pinned (OpenSpec.upto arcRemovesSpec)

/-- 'hoardlaw10.ArcOwn', WHERE WHAT IT READS IS OF BULK AT MOST 1048576: true; the input reads as it did. -/
def arcOwnUptoRow : OpenClaim := { program := "ytchlicgjdlkidaadoor", sum := "d1b87a37bd783afea2e8ad8d9b6d9e2e8aa6a0bd50f8870615bef5a3b7551eb8", func := "hoard/hoardlaw10.ArcOwn", spec := "arcOwn", inPlace := ["internal/abi.NoEscape", "internal/bytealg.MakeNoZero"], recurses := true, named := ["internal/strconv.uint64pow10", "math/bits.deBruijn32tab", "math/bits.deBruijn64tab"], apart := false, laid := [("math/bits.deBruijn32tab", laid_math_bits_deBruijn32tab), ("math/bits.deBruijn64tab", laid_math_bits_deBruijn64tab), ("internal/strconv.uint64pow10", laid_internal_strconv_uint64pow10)], narrowed := true }
def ArcOwnUptoSaid : Prop := arcOwnUptoRow.holds Tryd.pinned (OpenSpec.upto arcOwnSpec)

/-- 'hoardlaw10.ArcPlays', WHERE WHAT IT READS IS OF BULK AT MOST 1048576: true; the input reads as it did. -/
def arcPlaysUptoRow : OpenClaim := { program := "ytchlicgjdlkidaadoor", sum := "d1b87a37bd783afea2e8ad8d9b6d9e2e8aa6a0bd50f8870615bef5a3b7551eb8", func := "hoard/hoardlaw10.ArcPlays", spec := "arcPlays", inPlace := ["internal/abi.NoEscape", "internal/bytealg.MakeNoZero"], recurses := true, named := ["internal/strconv.uint64pow10", "math/bits.deBruijn32tab", "math/bits.deBruijn64tab"], apart := false, laid := [("math/bits.deBruijn32tab", laid_math_bits_deBruijn32tab), ("math/bits.deBruijn64tab", laid_math_bits_deBruijn64tab), ("internal/strconv.uint64pow10", laid_internal_strconv_uint64pow10)], narrowed := true }
def ArcPlaysUptoSaid : Prop := arcPlaysUptoRow.holds Tryd.pinned (OpenSpec.upto arcPlaysSpec)

/-- 'hoardlaw10.ArcBounds', WHERE WHAT IT READS IS OF BULK AT MOST 1048576: true; the input reads as it did. -/
def arcBoundsUptoRow : OpenClaim := { program := "ytchlicgjdlkidaadoor", sum := "d1b87a37bd783afea2e8ad8d9b6d9e2e8aa6a0bd50f8870615bef5a3b7551eb8", func := "hoard/hoardlaw10.ArcBounds", spec := "arcBounds", inPlace := ["internal/abi.NoEscape", "internal/bytealg.MakeNoZero"], named := ["internal/strconv.uint64pow10", "math/bits.deBruijn32tab", "math/bits.deBruijn64tab"], apart := false, laid := [("math/bits.deBruijn32tab", laid_math_bits_deBruijn32tab), ("math/bits.deBruijn64tab", laid_math_bits_deBruijn64tab), ("internal/strconv.uint64pow10", laid_internal_strconv_uint64pow10)], narrowed := true }
def ArcBoundsUptoSaid : Prop := arcBoundsUptoRow.holds Tryd.pinned (OpenSpec.upto arcBoundsSpec)

/-- 'hoardlaw10.ArcOfNothing', WHERE WHAT IT READS IS OF BULK AT MOST 1048576: true; the input reads as it did. -/
def arcOfNothingUptoRow : OpenClaim := { program := "ytchlicgjdlkidaadoor", sum := "d1b87a37bd783afea2e8ad8d9b6d9e2e8aa6a0bd50f8870615bef5a3b7551eb8", func := "hoard/hoardlaw10.ArcOfNothing", spec := "arcOfNothing", inPlace := ["internal/abi.NoEscape", "internal/bytealg.MakeNoZero"], named := ["internal/strconv.uint64pow10", "math/bits.deBruijn32tab", "math/bits.deBruijn64tab"], apart := false, laid := [("math/bits.deBruijn32tab", laid_math_bits_deBruijn32tab), ("math/bits.deBruijn64tab", laid_math_bits_deBruijn64tab), ("internal/strconv.uint64pow10", laid_internal_strconv_uint64pow10)], narrowed := true }
def ArcOfNothingUptoSaid : Prop := arcOfNothingUptoRow.holds Tryd.pinned (OpenSpec.upto arcOfNothingSpec)

end Rows
end Go.Proofs.YtchlicgjdlkidaaDoor
