/-
  No cell of these rows narrows 'for every input' (looked for: loops, veiled, ifaces, maps, wideKeys, modest, calm, conditions, laid).
  DERIVED. THE GIVEN ROWS OF THIS SEAT. 6 by the template 'for every input the law returns true; each argument reads behind the call as it read before'; 0 by the template 'total and deterministic' (their statements: YtjipofkjmmpjdaaGreatTotals.lean).
  GIVEN WITH THE SEED: the statements are not yours to turn. If you find one false, say at which input.
  Laid BY PROGRAM, IN A SANDBOX (cutbox-rows.mjs): the forced cells as the released guide's own fill.sh prints them over the translation 767308bfdb0979cd… (all of the seat's roots in one cut). By AI agents, Wed Nov 11 2026. No macro, syntax, notation, axiom, sorry.
-/
import Derived.Test.YtjipofkjmmpjdaaGreatChecked
import GoSem.Claim
import GoSem.ClaimJoined
import GoSem.ClaimMapViews
import Derived.JoinedTies
import Derived.KernelRfl
namespace Go.Proofs.YtjipofkjmmpjdaaGreat
/- THE CELL 'sum', in the pinned program and in every row, IS THE sha256 OF THE DUMP (.gsa) THAT YtjipofkjmmpjdaaGreatProg.lean LOADS. Nothing in Lean hashes anything: it is a label: what it is worth is what the hold of that sum in a sandbox is worth. -/
noncomputable def Tryz.pinned : Pinned := { name := "ytjipofkjmmpjdaagreat", sum := "767308bfdb0979cd38a6f31d0e47c49be2ca2a87735669f17f15e61aaf1c50d2", checked := Tryz.checked }
namespace Rows
def none {H : Type} : Left H := { results := [], args := [] }

/-- 'hoardtop.TopHits': WHATEVER THE INPUT: true; the input reads as it did. -/
def topHitsSpec : ChangeSpec := { name := "topHits", fn := fun _ => fun
  | [d1, d2, d3, d4, d5] => { results := [.lit (.bool true)], args := [d1, d2, d3, d4, d5] }
  | _ => none }
def topHitsRow : OpenClaim := { program := "ytjipofkjmmpjdaagreat", sum := "767308bfdb0979cd38a6f31d0e47c49be2ca2a87735669f17f15e61aaf1c50d2", func := "hoard/hoardtop.TopHits", spec := "topHits", inPlace := ["internal/bytealg.IndexByteString"], unfollowed := true, recurses := true, named := ["math/bits.divideError", "math/bits.overflowError"], apart := false }
def TopHitsSaid : Prop := topHitsRow.holds Tryz.pinned (OpenSpec.ofChange topHitsSpec)

/-- ITS FALSE NEIGHBOUR: 'it returns false'. Refute it at one input. -/
def topHitsWrong : ChangeSpec := { name := "topHits", fn := fun _ => fun
  | [d1, d2, d3, d4, d5] => { results := [.lit (.bool false)], args := [d1, d2, d3, d4, d5] }
  | _ => none }
def TopHitsWrongFalsely : Prop := topHitsRow.holds Tryz.pinned (OpenSpec.ofChange topHitsWrong)

/-- 'hoardtop.TopClients': WHATEVER THE INPUT: true; the input reads as it did. -/
def topClientsSpec : ChangeSpec := { name := "topClients", fn := fun _ => fun
  | [d1, d2, d3, d4] => { results := [.lit (.bool true)], args := [d1, d2, d3, d4] }
  | _ => none }
def topClientsRow : OpenClaim := { program := "ytjipofkjmmpjdaagreat", sum := "767308bfdb0979cd38a6f31d0e47c49be2ca2a87735669f17f15e61aaf1c50d2", func := "hoard/hoardtop.TopClients", spec := "topClients", inPlace := ["internal/bytealg.IndexByteString"], unfollowed := true, recurses := true, named := ["math/bits.divideError", "math/bits.overflowError"], apart := false }
def TopClientsSaid : Prop := topClientsRow.holds Tryz.pinned (OpenSpec.ofChange topClientsSpec)

/-- ITS FALSE NEIGHBOUR: 'it returns false'. Refute it at one input. -/
def topClientsWrong : ChangeSpec := { name := "topClients", fn := fun _ => fun
  | [d1, d2, d3, d4] => { results := [.lit (.bool false)], args := [d1, d2, d3, d4] }
  | _ => none }
def TopClientsWrongFalsely : Prop := topClientsRow.holds Tryz.pinned (OpenSpec.ofChange topClientsWrong)

/-- 'hoardtop.TopDeletes': WHATEVER THE INPUT: true; the input reads as it did. -/
def topDeletesSpec : ChangeSpec := { name := "topDeletes", fn := fun _ => fun
  | [d1, d2, d3, d4] => { results := [.lit (.bool true)], args := [d1, d2, d3, d4] }
  | _ => none }
def topDeletesRow : OpenClaim := { program := "ytjipofkjmmpjdaagreat", sum := "767308bfdb0979cd38a6f31d0e47c49be2ca2a87735669f17f15e61aaf1c50d2", func := "hoard/hoardtop.TopDeletes", spec := "topDeletes", inPlace := ["internal/bytealg.IndexByteString"], unfollowed := true, recurses := true, named := ["math/bits.divideError", "math/bits.overflowError"], apart := false }
def TopDeletesSaid : Prop := topDeletesRow.holds Tryz.pinned (OpenSpec.ofChange topDeletesSpec)

/-- ITS FALSE NEIGHBOUR: 'it returns false'. Refute it at one input. -/
def topDeletesWrong : ChangeSpec := { name := "topDeletes", fn := fun _ => fun
  | [d1, d2, d3, d4] => { results := [.lit (.bool false)], args := [d1, d2, d3, d4] }
  | _ => none }
def TopDeletesWrongFalsely : Prop := topDeletesRow.holds Tryz.pinned (OpenSpec.ofChange topDeletesWrong)

/-- 'hoardtop.TopRooms': WHATEVER THE INPUT: true; the input reads as it did. -/
def topRoomsSpec : ChangeSpec := { name := "topRooms", fn := fun _ => fun
  | [d1, d2, d3] => { results := [.lit (.bool true)], args := [d1, d2, d3] }
  | _ => none }
def topRoomsRow : OpenClaim := { program := "ytjipofkjmmpjdaagreat", sum := "767308bfdb0979cd38a6f31d0e47c49be2ca2a87735669f17f15e61aaf1c50d2", func := "hoard/hoardtop.TopRooms", spec := "topRooms", inPlace := ["internal/bytealg.IndexByteString"], unfollowed := true, recurses := true, named := ["math/bits.divideError", "math/bits.overflowError"], apart := false }
def TopRoomsSaid : Prop := topRoomsRow.holds Tryz.pinned (OpenSpec.ofChange topRoomsSpec)

/-- ITS FALSE NEIGHBOUR: 'it returns false'. Refute it at one input. -/
def topRoomsWrong : ChangeSpec := { name := "topRooms", fn := fun _ => fun
  | [d1, d2, d3] => { results := [.lit (.bool false)], args := [d1, d2, d3] }
  | _ => none }
def TopRoomsWrongFalsely : Prop := topRoomsRow.holds Tryz.pinned (OpenSpec.ofChange topRoomsWrong)

/-- 'hoardtop.TopMoves': WHATEVER THE INPUT: true; the input reads as it did. -/
def topMovesSpec : ChangeSpec := { name := "topMoves", fn := fun _ => fun
  | [d1, d2, d3] => { results := [.lit (.bool true)], args := [d1, d2, d3] }
  | _ => none }
def topMovesRow : OpenClaim := { program := "ytjipofkjmmpjdaagreat", sum := "767308bfdb0979cd38a6f31d0e47c49be2ca2a87735669f17f15e61aaf1c50d2", func := "hoard/hoardtop.TopMoves", spec := "topMoves", inPlace := ["internal/bytealg.IndexByteString"], unfollowed := true, recurses := true, named := ["math/bits.divideError", "math/bits.overflowError"], apart := false }
def TopMovesSaid : Prop := topMovesRow.holds Tryz.pinned (OpenSpec.ofChange topMovesSpec)

/-- ITS FALSE NEIGHBOUR: 'it returns false'. Refute it at one input. -/
def topMovesWrong : ChangeSpec := { name := "topMoves", fn := fun _ => fun
  | [d1, d2, d3] => { results := [.lit (.bool false)], args := [d1, d2, d3] }
  | _ => none }
def TopMovesWrongFalsely : Prop := topMovesRow.holds Tryz.pinned (OpenSpec.ofChange topMovesWrong)

/-- 'hoardtop.TopTwins': WHATEVER THE INPUT: true; the input reads as it did. -/
def topTwinsSpec : ChangeSpec := { name := "topTwins", fn := fun _ => fun
  | [d1, d2] => { results := [.lit (.bool true)], args := [d1, d2] }
  | _ => none }
def topTwinsRow : OpenClaim := { program := "ytjipofkjmmpjdaagreat", sum := "767308bfdb0979cd38a6f31d0e47c49be2ca2a87735669f17f15e61aaf1c50d2", func := "hoard/hoardtop.TopTwins", spec := "topTwins", inPlace := ["internal/bytealg.IndexByteString"], unfollowed := true, recurses := true, named := ["math/bits.divideError", "math/bits.overflowError"], apart := false }
def TopTwinsSaid : Prop := topTwinsRow.holds Tryz.pinned (OpenSpec.ofChange topTwinsSpec)

/-- ITS FALSE NEIGHBOUR: 'it returns false'. Refute it at one input. -/
def topTwinsWrong : ChangeSpec := { name := "topTwins", fn := fun _ => fun
  | [d1, d2] => { results := [.lit (.bool false)], args := [d1, d2] }
  | _ => none }
def TopTwinsWrongFalsely : Prop := topTwinsRow.holds Tryz.pinned (OpenSpec.ofChange topTwinsWrong)

/- THE SECOND FORM. 'bulk': how many values and letters a reading holds, each counted each time it is reached (what is shared counts as often as it is met; a slice's spare places count too). A statement '..UptoSaid' is the law's where the arguments, and the package variables that the reading takes, are together of bulk at most 1048576: NARROWER than '..Said'. Prove '..Said' where nothing that the law and all that it calls make is longer than what came in: it says more and counts as full. Else prove '..UptoSaid'. A law counts once. -/
mutual
def uptoBulk {H : Type} : DataW H → Nat
  | .lit (.string bytes) => bytes.length + 1
  | .lit _ => 1
  | .nil => 1
  | .ptr d => uptoBulk d + 1
  | .slice elems spare => uptoBulkAll elems + uptoBulkAll spare + 1
  | .agg parts => uptoBulkAll parts + 1
  | .iface _ d => uptoBulk d + 1
  | .map entries => uptoBulkEntries entries + 1
  | .held _ => 1
def uptoBulkAll {H : Type} : List (DataW H) → Nat
  | [] => 0
  | d :: r => uptoBulk d + uptoBulkAll r
def uptoBulkEntries {H : Type} : List (Lit × DataW H) → Nat
  | [] => 0
  | x :: r => uptoBulkEntry x + uptoBulkEntries r
def uptoBulkEntry {H : Type} : Lit × DataW H → Nat
  | (.string bytes, d) => bytes.length + uptoBulk d + 1
  | (_, d) => uptoBulk d + 1
 end
def uptoSmall : (H : Type) → List (DataW H) → Bool := fun _ ds => decide (uptoBulkAll ds ≤ 1048576)
def OpenSpec.upto (s : _root_.Go.ChangeSpec) : _root_.Go.OpenSpec := { _root_.Go.OpenSpec.ofChange s with cond := some uptoSmall }

/-- 'hoardtop.TopHits', WHERE WHAT IT READS IS OF BULK AT MOST 1048576: true; the input reads as it did. -/
def topHitsUptoRow : OpenClaim := { program := "ytjipofkjmmpjdaagreat", sum := "767308bfdb0979cd38a6f31d0e47c49be2ca2a87735669f17f15e61aaf1c50d2", func := "hoard/hoardtop.TopHits", spec := "topHits", inPlace := ["internal/bytealg.IndexByteString"], unfollowed := true, recurses := true, named := ["math/bits.divideError", "math/bits.overflowError"], apart := false, narrowed := true }
def TopHitsUptoSaid : Prop := topHitsUptoRow.holds Tryz.pinned (OpenSpec.upto topHitsSpec)

/-- 'hoardtop.TopClients', WHERE WHAT IT READS IS OF BULK AT MOST 1048576: true; the input reads as it did. -/
def topClientsUptoRow : OpenClaim := { program := "ytjipofkjmmpjdaagreat", sum := "767308bfdb0979cd38a6f31d0e47c49be2ca2a87735669f17f15e61aaf1c50d2", func := "hoard/hoardtop.TopClients", spec := "topClients", inPlace := ["internal/bytealg.IndexByteString"], unfollowed := true, recurses := true, named := ["math/bits.divideError", "math/bits.overflowError"], apart := false, narrowed := true }
def TopClientsUptoSaid : Prop := topClientsUptoRow.holds Tryz.pinned (OpenSpec.upto topClientsSpec)

/-- 'hoardtop.TopDeletes', WHERE WHAT IT READS IS OF BULK AT MOST 1048576: true; the input reads as it did. -/
def topDeletesUptoRow : OpenClaim := { program := "ytjipofkjmmpjdaagreat", sum := "767308bfdb0979cd38a6f31d0e47c49be2ca2a87735669f17f15e61aaf1c50d2", func := "hoard/hoardtop.TopDeletes", spec := "topDeletes", inPlace := ["internal/bytealg.IndexByteString"], unfollowed := true, recurses := true, named := ["math/bits.divideError", "math/bits.overflowError"], apart := false, narrowed := true }
def TopDeletesUptoSaid : Prop := topDeletesUptoRow.holds Tryz.pinned (OpenSpec.upto topDeletesSpec)

/-- 'hoardtop.TopRooms', WHERE WHAT IT READS IS OF BULK AT MOST 1048576: true; the input reads as it did. -/
def topRoomsUptoRow : OpenClaim := { program := "ytjipofkjmmpjdaagreat", sum := "767308bfdb0979cd38a6f31d0e47c49be2ca2a87735669f17f15e61aaf1c50d2", func := "hoard/hoardtop.TopRooms", spec := "topRooms", inPlace := ["internal/bytealg.IndexByteString"], unfollowed := true, recurses := true, named := ["math/bits.divideError", "math/bits.overflowError"], apart := false, narrowed := true }
def TopRoomsUptoSaid : Prop := topRoomsUptoRow.holds Tryz.pinned (OpenSpec.upto topRoomsSpec)

/-- 'hoardtop.TopMoves', WHERE WHAT IT READS IS OF BULK AT MOST 1048576: true; the input reads as it did. -/
def topMovesUptoRow : OpenClaim := { program := "ytjipofkjmmpjdaagreat", sum := "767308bfdb0979cd38a6f31d0e47c49be2ca2a87735669f17f15e61aaf1c50d2", func := "hoard/hoardtop.TopMoves", spec := "topMoves", inPlace := ["internal/bytealg.IndexByteString"], unfollowed := true, recurses := true, named := ["math/bits.divideError", "math/bits.overflowError"], apart := false, narrowed := true }
def TopMovesUptoSaid : Prop := topMovesUptoRow.holds Tryz.pinned (OpenSpec.upto topMovesSpec)

/-- 'hoardtop.TopTwins', WHERE WHAT IT READS IS OF BULK AT MOST 1048576: true; the input reads as it did. -/
def topTwinsUptoRow : OpenClaim := { program := "ytjipofkjmmpjdaagreat", sum := "767308bfdb0979cd38a6f31d0e47c49be2ca2a87735669f17f15e61aaf1c50d2", func := "hoard/hoardtop.TopTwins", spec := "topTwins", inPlace := ["internal/bytealg.IndexByteString"], unfollowed := true, recurses := true, named := ["math/bits.divideError", "math/bits.overflowError"], apart := false, narrowed := true }
def TopTwinsUptoSaid : Prop := topTwinsUptoRow.holds Tryz.pinned (OpenSpec.upto topTwinsSpec)

end Rows
end Go.Proofs.YtjipofkjmmpjdaaGreat
