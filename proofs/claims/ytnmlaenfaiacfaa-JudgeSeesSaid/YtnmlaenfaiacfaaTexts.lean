/- the laws' 'texts': two rows of texts are alike. -/
import Derived.Test.YtnmlaenfaiacfaaShal
import Derived.Test.YtnmlaenfaiacfaaSL5
import Derived.IntWalk
set_option linter.unusedVariables false
set_option linter.unusedSimpArgs false
set_option linter.unnecessarySimpa false
set_option linter.unusedSectionVars false
namespace Go.Proofs.Ytnmlaenfaiacfaa
open Go.Hb Go.IntWalk
theorem c1 {P : Program} {f : FuncId} {args : Array Value} {w : World} {v0 : Value} {S : World → Prop} (h : Calls P f args w fun e w' => ∃ v, e = .returned v ∧ (v = v0 ∧ S w')) :
    Calls P f args w fun e w' => e = .returned v0 ∧ S w' := h.mono fun _ _ ⟨_, he, hv, hs⟩ => ⟨by rw [he, hv], hs⟩
end Go.Proofs.Ytnmlaenfaiacfaa
