/- For every argument hoardlaw10.ArcOfNothing returns true, and each argument reads behind the call as it read before. No condition. -/
import Derived.Test.YtchlicgjdlkidaaDoorRows
import Derived.Test.YtchlicgjdlkidaaDoorArcLNothing
import Derived.Test.YtchlicgjdlkidaaDoorOpen
import Derived.Test.YtchlicgjdlkidaaDoorArcCard
import Derived.Test.YtchlicgjdlkidaaDoorTie
import Derived.Test.YtchlicgjdlkidaaDoorCards
import Derived.SevenTiedAt
set_option linter.unusedVariables false
set_option linter.unusedSimpArgs false
set_option linter.unnecessarySimpa false
set_option linter.unusedSectionVars false
namespace Go.Proofs.YtchlicgjdlkidaaDoor
open Go.ChangeShapes Go.WideShapes Go.RowKit Go.ChangeMaps Go.Hb

set_option maxRecDepth 100000 in
theorem arcOfNothing_lifted (os : Os) (started : os.Started) (H : Type) (enc : TypeId × Value → H) :
    ReturnsInHanded {} Tryd.checked os 14 .any (fun w args => (Rows.arcOfNothingSpec.pre enc Tryd.prog Tryd.f14 [] false w args ∧ laidMetH Tryd.prog laid3 w) ∧ sizedMet enc Tryd.prog Tryd.f14 (OpenSpec.ofChange Rows.arcOfNothingSpec) false w args) (Rows.arcOfNothingSpec.post enc Tryd.prog Tryd.f14 false true false false) := by
  refine law_lifted_laid (C := Tryd.checked) (by kernel_rfl) started (by kernel_rfl) Tryd.func14
    (ChangeSpec.witness_shaped (enc := enc) (C := Tryd.checked) (os := os) (s := Rows.arcOfNothingSpec) (X := fun w _ => laidMetH Tryd.prog laid3 w) false (World.doorLaid Tryd.prog 400 os) #[.string ⟨#[]⟩] 8 rfl (World.shaped_of_RefB (by kernel_rfl) (by kernel_rfl)) (by kernel_rfl) (by kernel_rfl) (by kernel_rfl) (door_met os _)) rfl rfl (by kernel_rfl) (by kernel_rfl) ?_
  intro W base args ds p hval hA hwt hL
  have hT := tab_of_laid hL
  obtain ⟨v0, vs0, d0, ds0, p0, q0, hargs, rfl, rfl, h0, r0⟩ := trodAll_cons (ts := []) hA
  obtain ⟨rfl, rfl, rfl⟩ := trodAll_nil r0
  obtain rfl : args = #[v0] := by cases args; simp_all
  obtain ⟨a0, rfl, rfl, rfl, w0⟩ := open_string (by kernel_rfl) (hval 0 _ v0 rfl rfl) h0
  have z0 : a0.size ≤ reachBytes := by simpa using light_each hwt (j := 0) rfl rfl a0.data.toList.length (by simp [DataW.weights])
  exact ⟨⟨rfl, rfl, rfl⟩, anothing_walk hT⟩

/-- the row -/
theorem arcOfNothing : Rows.ArcOfNothingSaid :=
  OpenClaim.holds_of_wide 14 Tryd.f14 rfl rfl rfl rfl rfl rfl rfl ⟨rfl, rfl, rfl, rfl, rfl⟩ rfl rfl rfl rfl rfl (by kernel_rfl) Tryd.func14 (by kernel_rfl)
    (of_decide_eq_true (by kernel_rfl)) (by unfold Func.isWrapper; first | (rw [if_pos (by decide +kernel)]; kernel_rfl) | (rw [if_neg (by decide +kernel)]; exact ⟨rfl, rfl⟩))
    (fun os started H enc _ => arcOfNothing_lifted os started H enc)

/-- what is claimed: the tied card -/
theorem arcOfNothingCard : Rows.ArcOfNothingCardSaid :=
  Claim7.holds_tied_plain_at .later [] [.data, .data, .data] true (true, "68e68f94280013e38535ce3110d4d7a2f06d65707ecf75a2928263fd445a7689") false
    arcOfNothing (fun _ h => by cases h) (by kernel_rfl) (fun _ h => by cases h) arcOfNothing_row_tie rfl ⟨rfl, rfl⟩ (by kernel_rfl) rfl
    (fun f fn hf hfn => by
      obtain rfl : f = 14 := Option.some.inj ((show Tryd.prog.funcNamed "hoard/hoardlaw10.ArcOfNothing" = some 14 by kernel_rfl).symm.trans hf) |>.symm
      obtain rfl : fn = Tryd.f14 := (Option.some.inj (Tryd.func14.symm.trans hfn)).symm
      exact ⟨by kernel_rfl, fun j t ht => by
        have hp : Tryd.f14.params = #[9] := by kernel_rfl
        rw [hp] at ht
        have hm : t ∈ [9] := by simpa using Array.mem_of_getElem? ht
        have hall : ([9].all fun u => !Tryd.prog.wantsStandIn u) = true := by kernel_rfl
        exact (show Tryd.prog.wantsStandIn t = false by simpa using List.all_eq_true.1 hall t hm)⟩)
    (by kernel_rfl)
end Go.Proofs.YtchlicgjdlkidaaDoor
