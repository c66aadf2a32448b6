/- For every argument hoardlaw13.LirsOne returns true, and each argument reads behind the call as it read before. No condition. -/
import Derived.Test.YtgmhoenmhnlojaaRows
import Derived.Test.YtgmhoenmhnlojaaLirsLaws5
import Derived.Test.YtgmhoenmhnlojaaOpen
set_option linter.unusedVariables false
set_option linter.unusedSimpArgs false
set_option linter.unnecessarySimpa false
set_option linter.unusedSectionVars false
namespace Go.Proofs.Ytgmhoenmhnlojaa
open Go.ChangeShapes Go.WideShapes Go.RowKit Go.ChangeMaps Go.Hb

set_option maxRecDepth 100000 in
theorem lirsOne_lifted (os : Os) (started : os.Started) (H : Type) (enc : TypeId × Value → H) :
    ReturnsInHanded {} Try.checked os 7 .any (Rows.lirsOneSpec.pre6 enc Try.prog Try.f7 Rows.lirsOneRow.domain false) (Rows.lirsOneSpec.post enc Try.prog Try.f7 false true false false) := by
  refine law_lifted (C := Try.checked) (by kernel_rfl) started (by kernel_rfl) Try.func7
    (ChangeSpec.witness6 (enc := enc) (C := Try.checked) (s := Rows.lirsOneSpec) false ⟨#[], #[.slice none 0 0], []⟩ 8 (by kernel_rfl) (by kernel_rfl) (by kernel_rfl) (by kernel_rfl)) rfl rfl (by kernel_rfl) (by kernel_rfl) ?_
  intro W base args ds p hval hA hwt
  obtain ⟨v0, vs0, d0, ds0, p0, q0, hargs, rfl, rfl, h0, r0⟩ := trodAll_cons (ts := []) hA
  obtain ⟨rfl, rfl, rfl⟩ := trodAll_nil r0
  obtain rfl : args = #[v0] := by cases args; simp_all
  obtain ⟨s0, rows0, rfl, hn0, hm0, hr0, ho0⟩ := open_slc (e := 9) (ks := [.str]) (by kernel_rfl) (by kernel_rfl) (by kernel_rfl) (by decide) (hval 0 _ v0 rfl rfl) h0 (light_each hwt (j := 0) rfl rfl)
  obtain ⟨l0, hr0, hl0, hw0⟩ := arg_rec Rec.str okStr of_str (by decide) (by decide) hr0 ho0
  have hc0 : l0.length * 16 ≤ reachBytes := by rw [hl0, ← hn0]; have e : Try.checked.prog.bytesOf 9 = 16 := (by kernel_rfl); rw [e] at hm0; exact hm0
  exact ⟨⟨rfl, rfl, rfl⟩, lone_walk (ks := l0)⟩

/-- what is claimed -/
theorem lirsOne : Rows.LirsOneSaid :=
  OpenClaim.holds_of_wide 7 Try.f7 rfl rfl rfl rfl rfl rfl rfl ⟨rfl, rfl, rfl, rfl, rfl⟩ rfl rfl rfl rfl rfl (by kernel_rfl) Try.func7 (by kernel_rfl)
    (of_decide_eq_true (by kernel_rfl)) (by unfold Func.isWrapper; first | (rw [if_pos (by decide +kernel)]; kernel_rfl) | (rw [if_neg (by decide +kernel)]; exact ⟨rfl, rfl⟩))
    (fun os started H enc _ => lirsOne_lifted os started H enc)
end Go.Proofs.Ytgmhoenmhnlojaa
