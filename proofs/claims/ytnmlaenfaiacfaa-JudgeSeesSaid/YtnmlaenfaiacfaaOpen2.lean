/- A slice argument has room for what it holds. -/
import Derived.Test.YtnmlaenfaiacfaaOpen
set_option linter.unusedVariables false
set_option linter.unusedSimpArgs false
set_option linter.unnecessarySimpa false
set_option linter.unusedSectionVars false
namespace Go.Hb
open Go.ChangeShapes Go.WideShapes Go.RowKit
section
variable {P : Program} {H : Type} {enc : TypeId × Value → H} {W : World} {sp : Nat → Bool} {held : Bool} {base : Nat}
theorem slc_cap {t e : TypeId} {d : DataW H} {ps : List MemPlace} {a : Option Addr} {n c : Nat} (ht : P.underlying t = some (.slice e)) (hd : DataW.Trod enc P W base sp held t (.slice a n c) d ps) : n ≤ c := by
  obtain ⟨fuel, hf⟩ := hd
  rcases DataW.trod_slice ht hf with ⟨h, _⟩ | ⟨a', len', cap', elems, rest, n', rfl, h, hd', _, hlc, hcm, hel, hcell, _, _⟩
  · simp only [Value.cells, List.cons.injEq, Value.slice.injEq, and_true] at h
    omega
  · simp only [Value.cells, List.cons.injEq, Value.slice.injEq, and_true] at h
    omega
end
end Go.Hb
