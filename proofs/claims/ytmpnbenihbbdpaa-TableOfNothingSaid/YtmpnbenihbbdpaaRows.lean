/-
  No cell of these rows narrows 'for every input' (looked for: loops, veiled, ifaces, maps, wideKeys, modest, calm, conditions, laid).
  DERIVED. THE GIVEN ROWS OF THIS SEAT. 6 by the template 'for every input the law returns true; each argument reads behind the call as it read before'; 0 by the template 'total and deterministic' (their statements: YtmpnbenihbbdpaaTotals.lean).
  GIVEN WITH THE SEED: the statements are not yours to turn. If you find one false, say at which input.
  Laid BY PROGRAM, IN A SANDBOX (cutbox-rows.mjs): the forced cells as the released guide's own fill.sh prints them over the translation 5978ffd2b7435cad… (all of the seat's roots in one cut). By AI agents, Wed Nov 11 2026. No macro, syntax, notation, axiom, sorry.
-/
import Derived.Test.YtmpnbenihbbdpaaChecked
import GoSem.Claim
import GoSem.ClaimJoined
import GoSem.ClaimMapViews
import Derived.JoinedTies
import Derived.KernelRfl
namespace Go.Proofs.Ytmpnbenihbbdpaa
/- THE CELL 'sum', in the pinned program and in every row, IS THE sha256 OF THE DUMP (.gsa) THAT YtmpnbenihbbdpaaProg.lean LOADS. Nothing in Lean hashes anything: it is a label: what it is worth is what the hold of that sum in a sandbox is worth. -/
noncomputable def Try.pinned : Pinned := { name := "ytmpnbenihbbdpaa", sum := "5978ffd2b7435cad19d7dc672458650bcb2e2338352812938f5dabc613f720b5", checked := Try.checked }
namespace Rows
def none {H : Type} : Left H := { results := [], args := [] }

/-- 'hoardlaw21.TableLives': WHATEVER THE INPUT: true; the input reads as it did. -/
def tableLivesSpec : ChangeSpec := { name := "tableLives", fn := fun _ => fun
  | [d1, d2, d3, d4, d5] => { results := [.lit (.bool true)], args := [d1, d2, d3, d4, d5] }
  | _ => none }
def tableLivesRow : OpenClaim := { program := "ytmpnbenihbbdpaa", sum := "5978ffd2b7435cad19d7dc672458650bcb2e2338352812938f5dabc613f720b5", func := "hoard/hoardlaw21.TableLives", spec := "tableLives", inPlace := ["internal/bytealg.IndexByteString"], recurses := true, apart := false }
def TableLivesSaid : Prop := tableLivesRow.holds Try.pinned (OpenSpec.ofChange tableLivesSpec)

/-- ITS FALSE NEIGHBOUR: 'it returns false'. Refute it at one input. -/
def tableLivesWrong : ChangeSpec := { name := "tableLives", fn := fun _ => fun
  | [d1, d2, d3, d4, d5] => { results := [.lit (.bool false)], args := [d1, d2, d3, d4, d5] }
  | _ => none }
def TableLivesWrongFalsely : Prop := tableLivesRow.holds Try.pinned (OpenSpec.ofChange tableLivesWrong)

/-- 'hoardlaw21.TableErrors': WHATEVER THE INPUT: true; the input reads as it did. -/
def tableErrorsSpec : ChangeSpec := { name := "tableErrors", fn := fun _ => fun
  | [d1, d2] => { results := [.lit (.bool true)], args := [d1, d2] }
  | _ => none }
def tableErrorsRow : OpenClaim := { program := "ytmpnbenihbbdpaa", sum := "5978ffd2b7435cad19d7dc672458650bcb2e2338352812938f5dabc613f720b5", func := "hoard/hoardlaw21.TableErrors", spec := "tableErrors", inPlace := ["internal/bytealg.IndexByteString"], recurses := true, apart := false }
def TableErrorsSaid : Prop := tableErrorsRow.holds Try.pinned (OpenSpec.ofChange tableErrorsSpec)

/-- ITS FALSE NEIGHBOUR: 'it returns false'. Refute it at one input. -/
def tableErrorsWrong : ChangeSpec := { name := "tableErrors", fn := fun _ => fun
  | [d1, d2] => { results := [.lit (.bool false)], args := [d1, d2] }
  | _ => none }
def TableErrorsWrongFalsely : Prop := tableErrorsRow.holds Try.pinned (OpenSpec.ofChange tableErrorsWrong)

/-- 'hoardlaw21.TableLast': WHATEVER THE INPUT: true; the input reads as it did. -/
def tableLastSpec : ChangeSpec := { name := "tableLast", fn := fun _ => fun
  | [d1, d2, d3] => { results := [.lit (.bool true)], args := [d1, d2, d3] }
  | _ => none }
def tableLastRow : OpenClaim := { program := "ytmpnbenihbbdpaa", sum := "5978ffd2b7435cad19d7dc672458650bcb2e2338352812938f5dabc613f720b5", func := "hoard/hoardlaw21.TableLast", spec := "tableLast", inPlace := ["internal/bytealg.IndexByteString"], recurses := true, apart := false }
def TableLastSaid : Prop := tableLastRow.holds Try.pinned (OpenSpec.ofChange tableLastSpec)

/-- ITS FALSE NEIGHBOUR: 'it returns false'. Refute it at one input. -/
def tableLastWrong : ChangeSpec := { name := "tableLast", fn := fun _ => fun
  | [d1, d2, d3] => { results := [.lit (.bool false)], args := [d1, d2, d3] }
  | _ => none }
def TableLastWrongFalsely : Prop := tableLastRow.holds Try.pinned (OpenSpec.ofChange tableLastWrong)

/-- 'hoardlaw21.TableDue': WHATEVER THE INPUT: true; the input reads as it did. -/
def tableDueSpec : ChangeSpec := { name := "tableDue", fn := fun _ => fun
  | [d1, d2] => { results := [.lit (.bool true)], args := [d1, d2] }
  | _ => none }
def tableDueRow : OpenClaim := { program := "ytmpnbenihbbdpaa", sum := "5978ffd2b7435cad19d7dc672458650bcb2e2338352812938f5dabc613f720b5", func := "hoard/hoardlaw21.TableDue", spec := "tableDue", inPlace := ["internal/bytealg.IndexByteString"], recurses := true, apart := false }
def TableDueSaid : Prop := tableDueRow.holds Try.pinned (OpenSpec.ofChange tableDueSpec)

/-- ITS FALSE NEIGHBOUR: 'it returns false'. Refute it at one input. -/
def tableDueWrong : ChangeSpec := { name := "tableDue", fn := fun _ => fun
  | [d1, d2] => { results := [.lit (.bool false)], args := [d1, d2] }
  | _ => none }
def TableDueWrongFalsely : Prop := tableDueRow.holds Try.pinned (OpenSpec.ofChange tableDueWrong)

/-- 'hoardlaw21.TablePlays': WHATEVER THE INPUT: true; the input reads as it did. -/
def tablePlaysSpec : ChangeSpec := { name := "tablePlays", fn := fun _ => fun
  | [d] => { results := [.lit (.bool true)], args := [d] }
  | _ => none }
def tablePlaysRow : OpenClaim := { program := "ytmpnbenihbbdpaa", sum := "5978ffd2b7435cad19d7dc672458650bcb2e2338352812938f5dabc613f720b5", func := "hoard/hoardlaw21.TablePlays", spec := "tablePlays", inPlace := ["internal/bytealg.IndexByteString"], recurses := true, apart := false }
def TablePlaysSaid : Prop := tablePlaysRow.holds Try.pinned (OpenSpec.ofChange tablePlaysSpec)

/-- ITS FALSE NEIGHBOUR: 'it returns false'. Refute it at one input. -/
def tablePlaysWrong : ChangeSpec := { name := "tablePlays", fn := fun _ => fun
  | [d] => { results := [.lit (.bool false)], args := [d] }
  | _ => none }
def TablePlaysWrongFalsely : Prop := tablePlaysRow.holds Try.pinned (OpenSpec.ofChange tablePlaysWrong)

/-- 'hoardlaw21.TableOfNothing': WHATEVER THE INPUT: true; the input reads as it did. -/
def tableOfNothingSpec : ChangeSpec := { name := "tableOfNothing", fn := fun _ => fun
  | [d1, d2] => { results := [.lit (.bool true)], args := [d1, d2] }
  | _ => none }
def tableOfNothingRow : OpenClaim := { program := "ytmpnbenihbbdpaa", sum := "5978ffd2b7435cad19d7dc672458650bcb2e2338352812938f5dabc613f720b5", func := "hoard/hoardlaw21.TableOfNothing", spec := "tableOfNothing", inPlace := ["internal/bytealg.IndexByteString"], recurses := true, apart := false }
def TableOfNothingSaid : Prop := tableOfNothingRow.holds Try.pinned (OpenSpec.ofChange tableOfNothingSpec)

/-- ITS FALSE NEIGHBOUR: 'it returns false'. Refute it at one input. -/
def tableOfNothingWrong : ChangeSpec := { name := "tableOfNothing", fn := fun _ => fun
  | [d1, d2] => { results := [.lit (.bool false)], args := [d1, d2] }
  | _ => none }
def TableOfNothingWrongFalsely : Prop := tableOfNothingRow.holds Try.pinned (OpenSpec.ofChange tableOfNothingWrong)

/- THE SECOND FORM. 'bulk': how many values and letters a reading holds, each counted each time it is reached (what is shared counts as often as it is met; a slice's spare places count too). A statement '..UptoSaid' is the law's where the arguments, and the package variables that the reading takes, are together of bulk at most 1048576: NARROWER than '..Said'. Prove '..Said' where nothing that the law and all that it calls make is longer than what came in: it says more and counts as full. Else prove '..UptoSaid'. A law counts once. -/
mutual
def uptoBulk {H : Type} : DataW H → Nat
  | .lit (.string bytes) => bytes.length + 1
  | .lit _ => 1
  | .nil => 1
  | .ptr d => uptoBulk d + 1
  | .slice elems spare => uptoBulkAll elems + uptoBulkAll spare + 1
  | .agg parts => uptoBulkAll parts + 1
  | .iface _ d => uptoBulk d + 1
  | .map entries => uptoBulkEntries entries + 1
  | .held _ => 1
def uptoBulkAll {H : Type} : List (DataW H) → Nat
  | [] => 0
  | d :: r => uptoBulk d + uptoBulkAll r
def uptoBulkEntries {H : Type} : List (Lit × DataW H) → Nat
  | [] => 0
  | x :: r => uptoBulkEntry x + uptoBulkEntries r
def uptoBulkEntry {H : Type} : Lit × DataW H → Nat
  | (.string bytes, d) => bytes.length + uptoBulk d + 1
  | (_, d) => uptoBulk d + 1
 end
def uptoSmall : (H : Type) → List (DataW H) → Bool := fun _ ds => decide (uptoBulkAll ds ≤ 1048576)
def OpenSpec.upto (s : _root_.Go.ChangeSpec) : _root_.Go.OpenSpec := { _root_.Go.OpenSpec.ofChange s with cond := some uptoSmall }

/-- 'hoardlaw21.TableLives', WHERE WHAT IT READS IS OF BULK AT MOST 1048576: true; the input reads as it did. -/
def tableLivesUptoRow : OpenClaim := { program := "ytmpnbenihbbdpaa", sum := "5978ffd2b7435cad19d7dc672458650bcb2e2338352812938f5dabc613f720b5", func := "hoard/hoardlaw21.TableLives", spec := "tableLives", inPlace := ["internal/bytealg.IndexByteString"], recurses := true, apart := false, narrowed := true }
def TableLivesUptoSaid : Prop := tableLivesUptoRow.holds Try.pinned (OpenSpec.upto tableLivesSpec)

/-- 'hoardlaw21.TableErrors', WHERE WHAT IT READS IS OF BULK AT MOST 1048576: true; the input reads as it did. -/
def tableErrorsUptoRow : OpenClaim := { program := "ytmpnbenihbbdpaa", sum := "5978ffd2b7435cad19d7dc672458650bcb2e2338352812938f5dabc613f720b5", func := "hoard/hoardlaw21.TableErrors", spec := "tableErrors", inPlace := ["internal/bytealg.IndexByteString"], recurses := true, apart := false, narrowed := true }
def TableErrorsUptoSaid : Prop := tableErrorsUptoRow.holds Try.pinned (OpenSpec.upto tableErrorsSpec)

/-- 'hoardlaw21.TableLast', WHERE WHAT IT READS IS OF BULK AT MOST 1048576: true; the input reads as it did. -/
def tableLastUptoRow : OpenClaim := { program := "ytmpnbenihbbdpaa", sum := "5978ffd2b7435cad19d7dc672458650bcb2e2338352812938f5dabc613f720b5", func := "hoard/hoardlaw21.TableLast", spec := "tableLast", inPlace := ["internal/bytealg.IndexByteString"], recurses := true, apart := false, narrowed := true }
def TableLastUptoSaid : Prop := tableLastUptoRow.holds Try.pinned (OpenSpec.upto tableLastSpec)

/-- 'hoardlaw21.TableDue', WHERE WHAT IT READS IS OF BULK AT MOST 1048576: true; the input reads as it did. -/
def tableDueUptoRow : OpenClaim := { program := "ytmpnbenihbbdpaa", sum := "5978ffd2b7435cad19d7dc672458650bcb2e2338352812938f5dabc613f720b5", func := "hoard/hoardlaw21.TableDue", spec := "tableDue", inPlace := ["internal/bytealg.IndexByteString"], recurses := true, apart := false, narrowed := true }
def TableDueUptoSaid : Prop := tableDueUptoRow.holds Try.pinned (OpenSpec.upto tableDueSpec)

/-- 'hoardlaw21.TablePlays', WHERE WHAT IT READS IS OF BULK AT MOST 1048576: true; the input reads as it did. -/
def tablePlaysUptoRow : OpenClaim := { program := "ytmpnbenihbbdpaa", sum := "5978ffd2b7435cad19d7dc672458650bcb2e2338352812938f5dabc613f720b5", func := "hoard/hoardlaw21.TablePlays", spec := "tablePlays", inPlace := ["internal/bytealg.IndexByteString"], recurses := true, apart := false, narrowed := true }
def TablePlaysUptoSaid : Prop := tablePlaysUptoRow.holds Try.pinned (OpenSpec.upto tablePlaysSpec)

/-- 'hoardlaw21.TableOfNothing', WHERE WHAT IT READS IS OF BULK AT MOST 1048576: true; the input reads as it did. -/
def tableOfNothingUptoRow : OpenClaim := { program := "ytmpnbenihbbdpaa", sum := "5978ffd2b7435cad19d7dc672458650bcb2e2338352812938f5dabc613f720b5", func := "hoard/hoardlaw21.TableOfNothing", spec := "tableOfNothing", inPlace := ["internal/bytealg.IndexByteString"], recurses := true, apart := false, narrowed := true }
def TableOfNothingUptoSaid : Prop := tableOfNothingUptoRow.holds Try.pinned (OpenSpec.upto tableOfNothingSpec)

end Rows
end Go.Proofs.Ytmpnbenihbbdpaa
