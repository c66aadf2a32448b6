/- For every argument hoardlaw10.ArcBounds returns true, and each argument reads behind the call as it read before. No condition. -/
import Derived.Test.YtchlicgjdlkidaaDoorRows
import Derived.Test.YtchlicgjdlkidaaDoorArcLBounds
import Derived.Test.YtchlicgjdlkidaaDoorOpen
import Derived.Test.YtchlicgjdlkidaaDoorArcCard
import Derived.Test.YtchlicgjdlkidaaDoorTie
import Derived.Test.YtchlicgjdlkidaaDoorCards
import Derived.SevenTiedAt
set_option linter.unusedVariables false
set_option linter.unusedSimpArgs false
set_option linter.unnecessarySimpa false
set_option linter.unusedSectionVars false
namespace Go.Proofs.YtchlicgjdlkidaaDoor
open Go.ChangeShapes Go.WideShapes Go.RowKit Go.ChangeMaps Go.Hb

set_option maxRecDepth 100000 in
theorem arcBounds_lifted (os : Os) (started : os.Started) (H : Type) (enc : TypeId × Value → H) :
    ReturnsInHanded {} Tryd.checked os 13 .any (fun w args => (Rows.arcBoundsSpec.pre enc Tryd.prog Tryd.f13 [] false w args ∧ laidMetH Tryd.prog laid3 w) ∧ sizedMet enc Tryd.prog Tryd.f13 (OpenSpec.ofChange Rows.arcBoundsSpec) false w args) (Rows.arcBoundsSpec.post enc Tryd.prog Tryd.f13 false true false false) := by
  refine law_lifted_laid (C := Tryd.checked) (by kernel_rfl) started (by kernel_rfl) Tryd.func13
    (ChangeSpec.witness_shaped (enc := enc) (C := Tryd.checked) (os := os) (s := Rows.arcBoundsSpec) (X := fun w _ => laidMetH Tryd.prog laid3 w) false (World.doorLaid Tryd.prog 400 os) #[.int .i64 0, .slice none 0 0] 8 rfl (World.shaped_of_RefB (by kernel_rfl) (by kernel_rfl)) (by kernel_rfl) (by kernel_rfl) (by kernel_rfl) (door_met os _)) rfl rfl (by kernel_rfl) (by kernel_rfl) ?_
  intro W base args ds p hval hA hwt hL
  have hT := tab_of_laid hL
  obtain ⟨v0, vs0, d0, ds0, p0, q0, hargs, rfl, rfl, h0, r0⟩ := trodAll_cons (ts := [_]) hA
  obtain ⟨v1, vs1, d1, ds1, p1, q1, rfl, rfl, rfl, h1, r1⟩ := trodAll_cons r0
  obtain ⟨rfl, rfl, rfl⟩ := trodAll_nil r1
  obtain rfl : args = #[v0, v1] := by cases args; simp_all
  obtain ⟨a0, rfl, rfl, rfl, w0⟩ := open_int (k := .i64) (by kernel_rfl) (hval 0 _ v0 rfl rfl) h0
  obtain ⟨s1, rows1, rfl, hn1, hm1, hr1, ho1⟩ := open_slc (e := 43) (ks := [.int .i64, .str]) (by kernel_rfl) (by kernel_rfl) (by kernel_rfl) (by decide) (hval 1 _ v1 rfl rfl) h1 (light_each hwt (j := 1) rfl rfl)
  obtain ⟨l1, hr1, hl1, hw1⟩ := arg_rec act10R act10ok of_act10 (by decide) (by decide) hr1 ho1
  have hc1 : l1.length * 24 ≤ reachBytes := by rw [hl1, ← hn1]; have e : Tryd.checked.prog.bytesOf 43 = 24 := (by kernel_rfl); rw [e] at hm1; exact hm1
  exact ⟨⟨rfl, rfl, rfl⟩, abounds_walk (acts := l1) hT⟩

/-- the row -/
theorem arcBounds : Rows.ArcBoundsSaid :=
  OpenClaim.holds_of_wide 13 Tryd.f13 rfl rfl rfl rfl rfl rfl rfl ⟨rfl, rfl, rfl, rfl, rfl⟩ rfl rfl rfl rfl rfl (by kernel_rfl) Tryd.func13 (by kernel_rfl)
    (of_decide_eq_true (by kernel_rfl)) (by unfold Func.isWrapper; first | (rw [if_pos (by decide +kernel)]; kernel_rfl) | (rw [if_neg (by decide +kernel)]; exact ⟨rfl, rfl⟩))
    (fun os started H enc _ => arcBounds_lifted os started H enc)

/-- what is claimed: the tied card -/
theorem arcBoundsCard : Rows.ArcBoundsCardSaid :=
  Claim7.holds_tied_plain_at .later [] [.data, .data, .data] true (true, "68e68f94280013e38535ce3110d4d7a2f06d65707ecf75a2928263fd445a7689") false
    arcBounds (fun _ h => by cases h) (by kernel_rfl) (fun _ h => by cases h) arcBounds_row_tie rfl ⟨rfl, rfl⟩ (by kernel_rfl) rfl
    (fun f fn hf hfn => by
      obtain rfl : f = 13 := Option.some.inj ((show Tryd.prog.funcNamed "hoard/hoardlaw10.ArcBounds" = some 13 by kernel_rfl).symm.trans hf) |>.symm
      obtain rfl : fn = Tryd.f13 := (Option.some.inj (Tryd.func13.symm.trans hfn)).symm
      exact ⟨by kernel_rfl, fun j t ht => by
        have hp : Tryd.f13.params = #[3, 37] := by kernel_rfl
        rw [hp] at ht
        have hm : t ∈ [3, 37] := by simpa using Array.mem_of_getElem? ht
        have hall : ([3, 37].all fun u => !Tryd.prog.wantsStandIn u) = true := by kernel_rfl
        exact (show Tryd.prog.wantsStandIn t = false by simpa using List.all_eq_true.1 hall t hm)⟩)
    (by kernel_rfl)
end Go.Proofs.YtchlicgjdlkidaaDoor
