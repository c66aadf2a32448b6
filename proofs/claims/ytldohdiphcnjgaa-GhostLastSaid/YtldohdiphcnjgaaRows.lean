/-
  No cell of these rows narrows 'for every input' (looked for: loops, veiled, ifaces, maps, wideKeys, modest, calm, conditions, laid).
  DERIVED. THE GIVEN ROWS OF THIS SEAT. 4 by the template 'for every input the law returns true; each argument reads behind the call as it read before'; 0 by the template 'total and deterministic' (their statements: YtldohdiphcnjgaaTotals.lean).
  GIVEN WITH THE SEED: the statements are not yours to turn. If you find one false, say at which input.
  Laid BY PROGRAM, IN A SANDBOX (cutbox-rows.mjs): the forced cells as the released guide's own fill.sh prints them over the translation f6e11cdeebd99749… (all of the seat's roots in one cut). By AI agents, Wed Nov 11 2026. No macro, syntax, notation, axiom, sorry.
-/
import Derived.Test.YtldohdiphcnjgaaChecked
import GoSem.Claim
import GoSem.ClaimJoined
import GoSem.ClaimMapViews
import Derived.JoinedTies
import Derived.KernelRfl
namespace Go.Proofs.Ytldohdiphcnjgaa
/- THE CELL 'sum', in the pinned program and in every row, IS THE sha256 OF THE DUMP (.gsa) THAT YtldohdiphcnjgaaProg.lean LOADS. Nothing in Lean hashes anything: it is a label: what it is worth is what the hold of that sum in a sandbox is worth. -/
noncomputable def Try.pinned : Pinned := { name := "ytldohdiphcnjgaa", sum := "f6e11cdeebd99749983fc13f412e0ad94c6b3f69ab8590ffbf30d8524295830c", checked := Try.checked }
namespace Rows
def none {H : Type} : Left H := { results := [], args := [] }

/-- 'hoardlaw16.GhostLast': WHATEVER THE INPUT: true; the input reads as it did. -/
def ghostLastSpec : ChangeSpec := { name := "ghostLast", fn := fun _ => fun
  | [d1, d2] => { results := [.lit (.bool true)], args := [d1, d2] }
  | _ => none }
def ghostLastRow : OpenClaim := { program := "ytldohdiphcnjgaa", sum := "f6e11cdeebd99749983fc13f412e0ad94c6b3f69ab8590ffbf30d8524295830c", func := "hoard/hoardlaw16.GhostLast", spec := "ghostLast", apart := false }
def GhostLastSaid : Prop := ghostLastRow.holds Try.pinned (OpenSpec.ofChange ghostLastSpec)

/-- ITS FALSE NEIGHBOUR: 'it returns false'. Refute it at one input. -/
def ghostLastWrong : ChangeSpec := { name := "ghostLast", fn := fun _ => fun
  | [d1, d2] => { results := [.lit (.bool false)], args := [d1, d2] }
  | _ => none }
def GhostLastWrongFalsely : Prop := ghostLastRow.holds Try.pinned (OpenSpec.ofChange ghostLastWrong)

/-- 'hoardlaw16.GhostOwn': WHATEVER THE INPUT: true; the input reads as it did. -/
def ghostOwnSpec : ChangeSpec := { name := "ghostOwn", fn := fun _ => fun
  | [d1, d2, d3] => { results := [.lit (.bool true)], args := [d1, d2, d3] }
  | _ => none }
def ghostOwnRow : OpenClaim := { program := "ytldohdiphcnjgaa", sum := "f6e11cdeebd99749983fc13f412e0ad94c6b3f69ab8590ffbf30d8524295830c", func := "hoard/hoardlaw16.GhostOwn", spec := "ghostOwn", apart := false }
def GhostOwnSaid : Prop := ghostOwnRow.holds Try.pinned (OpenSpec.ofChange ghostOwnSpec)

/-- ITS FALSE NEIGHBOUR: 'it returns false'. Refute it at one input. -/
def ghostOwnWrong : ChangeSpec := { name := "ghostOwn", fn := fun _ => fun
  | [d1, d2, d3] => { results := [.lit (.bool false)], args := [d1, d2, d3] }
  | _ => none }
def GhostOwnWrongFalsely : Prop := ghostOwnRow.holds Try.pinned (OpenSpec.ofChange ghostOwnWrong)

/-- 'hoardlaw16.GhostPlays': WHATEVER THE INPUT: true; the input reads as it did. -/
def ghostPlaysSpec : ChangeSpec := { name := "ghostPlays", fn := fun _ => fun
  | [d1, d2] => { results := [.lit (.bool true)], args := [d1, d2] }
  | _ => none }
def ghostPlaysRow : OpenClaim := { program := "ytldohdiphcnjgaa", sum := "f6e11cdeebd99749983fc13f412e0ad94c6b3f69ab8590ffbf30d8524295830c", func := "hoard/hoardlaw16.GhostPlays", spec := "ghostPlays", apart := false }
def GhostPlaysSaid : Prop := ghostPlaysRow.holds Try.pinned (OpenSpec.ofChange ghostPlaysSpec)

/-- ITS FALSE NEIGHBOUR: 'it returns false'. Refute it at one input. -/
def ghostPlaysWrong : ChangeSpec := { name := "ghostPlays", fn := fun _ => fun
  | [d1, d2] => { results := [.lit (.bool false)], args := [d1, d2] }
  | _ => none }
def GhostPlaysWrongFalsely : Prop := ghostPlaysRow.holds Try.pinned (OpenSpec.ofChange ghostPlaysWrong)

/-- 'hoardlaw16.GhostOfNothing': WHATEVER THE INPUT: true; the input reads as it did. -/
def ghostOfNothingSpec : ChangeSpec := { name := "ghostOfNothing", fn := fun _ => fun
  | [d] => { results := [.lit (.bool true)], args := [d] }
  | _ => none }
def ghostOfNothingRow : OpenClaim := { program := "ytldohdiphcnjgaa", sum := "f6e11cdeebd99749983fc13f412e0ad94c6b3f69ab8590ffbf30d8524295830c", func := "hoard/hoardlaw16.GhostOfNothing", spec := "ghostOfNothing", apart := false }
def GhostOfNothingSaid : Prop := ghostOfNothingRow.holds Try.pinned (OpenSpec.ofChange ghostOfNothingSpec)

/-- ITS FALSE NEIGHBOUR: 'it returns false'. Refute it at one input. -/
def ghostOfNothingWrong : ChangeSpec := { name := "ghostOfNothing", fn := fun _ => fun
  | [d] => { results := [.lit (.bool false)], args := [d] }
  | _ => none }
def GhostOfNothingWrongFalsely : Prop := ghostOfNothingRow.holds Try.pinned (OpenSpec.ofChange ghostOfNothingWrong)

/- THE SECOND FORM. 'bulk': how many values and letters a reading holds, each counted each time it is reached (what is shared counts as often as it is met; a slice's spare places count too). A statement '..UptoSaid' is the law's where the arguments, and the package variables that the reading takes, are together of bulk at most 1048576: NARROWER than '..Said'. Prove '..Said' where nothing that the law and all that it calls make is longer than what came in: it says more and counts as full. Else prove '..UptoSaid'. A law counts once. -/
mutual
def uptoBulk {H : Type} : DataW H → Nat
  | .lit (.string bytes) => bytes.length + 1
  | .lit _ => 1
  | .nil => 1
  | .ptr d => uptoBulk d + 1
  | .slice elems spare => uptoBulkAll elems + uptoBulkAll spare + 1
  | .agg parts => uptoBulkAll parts + 1
  | .iface _ d => uptoBulk d + 1
  | .map entries => uptoBulkEntries entries + 1
  | .held _ => 1
def uptoBulkAll {H : Type} : List (DataW H) → Nat
  | [] => 0
  | d :: r => uptoBulk d + uptoBulkAll r
def uptoBulkEntries {H : Type} : List (Lit × DataW H) → Nat
  | [] => 0
  | x :: r => uptoBulkEntry x + uptoBulkEntries r
def uptoBulkEntry {H : Type} : Lit × DataW H → Nat
  | (.string bytes, d) => bytes.length + uptoBulk d + 1
  | (_, d) => uptoBulk d + 1
 end
def uptoSmall : (H : Type) → List (DataW H) → Bool := fun _ ds => decide (uptoBulkAll ds ≤ 1048576)
def OpenSpec.upto (s : _root_.Go.ChangeSpec) : _root_.Go.OpenSpec := { _root_.Go.OpenSpec.ofChange s with cond := some uptoSmall }

/-- 'hoardlaw16.GhostLast', WHERE WHAT IT READS IS OF BULK AT MOST 1048576: true; the input reads as it did. -/
def ghostLastUptoRow : OpenClaim := { program := "ytldohdiphcnjgaa", sum := "f6e11cdeebd99749983fc13f412e0ad94c6b3f69ab8590ffbf30d8524295830c", func := "hoard/hoardlaw16.GhostLast", spec := "ghostLast", apart := false, narrowed := true }
def GhostLastUptoSaid : Prop := ghostLastUptoRow.holds Try.pinned (OpenSpec.upto ghostLastSpec)

/-- 'hoardlaw16.GhostOwn', WHERE WHAT IT READS IS OF BULK AT MOST 1048576: true; the input reads as it did. -/
def ghostOwnUptoRow : OpenClaim := { program := "ytldohdiphcnjgaa", sum := "f6e11cdeebd99749983fc13f412e0ad94c6b3f69ab8590ffbf30d8524295830c", func := "hoard/hoardlaw16.GhostOwn", spec := "ghostOwn", apart := false, narrowed := true }
def GhostOwnUptoSaid : Prop := ghostOwnUptoRow.holds Try.pinned (OpenSpec.upto ghostOwnSpec)

/-- 'hoardlaw16.GhostPlays', WHERE WHAT IT READS IS OF BULK AT MOST 1048576: true; the input reads as it did. -/
def ghostPlaysUptoRow : OpenClaim := { program := "ytldohdiphcnjgaa", sum := "f6e11cdeebd99749983fc13f412e0ad94c6b3f69ab8590ffbf30d8524295830c", func := "hoard/hoardlaw16.GhostPlays", spec := "ghostPlays", apart := false, narrowed := true }
def GhostPlaysUptoSaid : Prop := ghostPlaysUptoRow.holds Try.pinned (OpenSpec.upto ghostPlaysSpec)

/-- 'hoardlaw16.GhostOfNothing', WHERE WHAT IT READS IS OF BULK AT MOST 1048576: true; the input reads as it did. -/
def ghostOfNothingUptoRow : OpenClaim := { program := "ytldohdiphcnjgaa", sum := "f6e11cdeebd99749983fc13f412e0ad94c6b3f69ab8590ffbf30d8524295830c", func := "hoard/hoardlaw16.GhostOfNothing", spec := "ghostOfNothing", apart := false, narrowed := true }
def GhostOfNothingUptoSaid : Prop := ghostOfNothingUptoRow.holds Try.pinned (OpenSpec.upto ghostOfNothingSpec)

end Rows
end Go.Proofs.Ytldohdiphcnjgaa
