/- For every argument hoardlaw10.ArcOne returns true, and each argument reads behind the call as it read before. No condition. -/
import Derived.Test.YtchlicgjdlkidaaDoorRows
import Derived.Test.YtchlicgjdlkidaaDoorArcLOne
import Derived.Test.YtchlicgjdlkidaaDoorOpen
import Derived.Test.YtchlicgjdlkidaaDoorArcCard
import Derived.Test.YtchlicgjdlkidaaDoorTie
import Derived.Test.YtchlicgjdlkidaaDoorCards
import Derived.SevenTiedAt
set_option linter.unusedVariables false
set_option linter.unusedSimpArgs false
set_option linter.unnecessarySimpa false
set_option linter.unusedSectionVars false
namespace Go.Proofs.YtchlicgjdlkidaaDoor
open Go.ChangeShapes Go.WideShapes Go.RowKit Go.ChangeMaps Go.Hb

set_option maxRecDepth 100000 in
theorem arcOne_lifted (os : Os) (started : os.Started) (H : Type) (enc : TypeId × Value → H) :
    ReturnsInHanded {} Tryd.checked os 4 .any (fun w args => (Rows.arcOneSpec.pre enc Tryd.prog Tryd.f4 [] false w args ∧ laidMetH Tryd.prog laid3 w) ∧ sizedMet enc Tryd.prog Tryd.f4 (OpenSpec.ofChange Rows.arcOneSpec) false w args) (Rows.arcOneSpec.post enc Tryd.prog Tryd.f4 false true false false) := by
  refine law_lifted_laid (C := Tryd.checked) (by kernel_rfl) started (by kernel_rfl) Tryd.func4
    (ChangeSpec.witness_shaped (enc := enc) (C := Tryd.checked) (os := os) (s := Rows.arcOneSpec) (X := fun w _ => laidMetH Tryd.prog laid3 w) false (World.doorLaid Tryd.prog 400 os) #[.slice none 0 0] 8 rfl (World.shaped_of_RefB (by kernel_rfl) (by kernel_rfl)) (by kernel_rfl) (by kernel_rfl) (by kernel_rfl) (door_met os _)) rfl rfl (by kernel_rfl) (by kernel_rfl) ?_
  intro W base args ds p hval hA hwt hL
  have hT := tab_of_laid hL
  obtain ⟨v0, vs0, d0, ds0, p0, q0, hargs, rfl, rfl, h0, r0⟩ := trodAll_cons (ts := []) hA
  obtain ⟨rfl, rfl, rfl⟩ := trodAll_nil r0
  obtain rfl : args = #[v0] := by cases args; simp_all
  obtain ⟨s0, rows0, rfl, hn0, hm0, hr0, ho0⟩ := open_slc (e := 9) (ks := [.str]) (by kernel_rfl) (by kernel_rfl) (by kernel_rfl) (by decide) (hval 0 _ v0 rfl rfl) h0 (light_each hwt (j := 0) rfl rfl)
  obtain ⟨l0, hr0, hl0, hw0⟩ := arg_rec Rec.str okStr of_str (by decide) (by decide) hr0 ho0
  have hc0 : l0.length * 16 ≤ reachBytes := by rw [hl0, ← hn0]; have e : Tryd.checked.prog.bytesOf 9 = 16 := (by kernel_rfl); rw [e] at hm0; exact hm0
  exact ⟨⟨rfl, rfl, rfl⟩, aone_walk (ks := l0) hT⟩

/-- the row -/
theorem arcOne : Rows.ArcOneSaid :=
  OpenClaim.holds_of_wide 4 Tryd.f4 rfl rfl rfl rfl rfl rfl rfl ⟨rfl, rfl, rfl, rfl, rfl⟩ rfl rfl rfl rfl rfl (by kernel_rfl) Tryd.func4 (by kernel_rfl)
    (of_decide_eq_true (by kernel_rfl)) (by unfold Func.isWrapper; first | (rw [if_pos (by decide +kernel)]; kernel_rfl) | (rw [if_neg (by decide +kernel)]; exact ⟨rfl, rfl⟩))
    (fun os started H enc _ => arcOne_lifted os started H enc)

/-- what is claimed: the tied card -/
theorem arcOneCard : Rows.ArcOneCardSaid :=
  Claim7.holds_tied_plain_at .later [] [.data, .data, .data] true (true, "68e68f94280013e38535ce3110d4d7a2f06d65707ecf75a2928263fd445a7689") false
    arcOne (fun _ h => by cases h) (by kernel_rfl) (fun _ h => by cases h) arcOne_row_tie rfl ⟨rfl, rfl⟩ (by kernel_rfl) rfl
    (fun f fn hf hfn => by
      obtain rfl : f = 4 := Option.some.inj ((show Tryd.prog.funcNamed "hoard/hoardlaw10.ArcOne" = some 4 by kernel_rfl).symm.trans hf) |>.symm
      obtain rfl : fn = Tryd.f4 := (Option.some.inj (Tryd.func4.symm.trans hfn)).symm
      exact ⟨by kernel_rfl, fun j t ht => by
        have hp : Tryd.f4.params = #[22] := by kernel_rfl
        rw [hp] at ht
        have hm : t ∈ [22] := by simpa using Array.mem_of_getElem? ht
        have hall : ([22].all fun u => !Tryd.prog.wantsStandIn u) = true := by kernel_rfl
        exact (show Tryd.prog.wantsStandIn t = false by simpa using List.all_eq_true.1 hall t hm)⟩)
    (by kernel_rfl)
end Go.Proofs.YtchlicgjdlkidaaDoor
