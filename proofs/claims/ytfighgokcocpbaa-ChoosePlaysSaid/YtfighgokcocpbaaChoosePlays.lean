/- For every argument hoardlaw20.ChoosePlays returns true, and each argument reads behind the call as it read before. No condition. -/
import Derived.Test.YtfighgokcocpbaaRows
import Derived.Test.YtfighgokcocpbaaChooseLaws
import Derived.Test.YtfighgokcocpbaaOpen
set_option linter.unusedVariables false
set_option linter.unusedSimpArgs false
set_option linter.unnecessarySimpa false
set_option linter.unusedSectionVars false
namespace Go.Proofs.Ytfighgokcocpbaa
open Go.ChangeShapes Go.WideShapes Go.RowKit Go.ChangeMaps Go.Hb

set_option maxRecDepth 100000 in
theorem choosePlays_lifted (os : Os) (started : os.Started) (H : Type) (enc : TypeId × Value → H) :
    ReturnsInHanded {} Try.checked os 6 .any (Rows.choosePlaysSpec.pre6 enc Try.prog Try.f6 Rows.choosePlaysRow.domain false) (Rows.choosePlaysSpec.post enc Try.prog Try.f6 false true false false) := by
  refine law_lifted (C := Try.checked) (by kernel_rfl) started (by kernel_rfl) Try.func6
    (ChangeSpec.witness6 (enc := enc) (C := Try.checked) (s := Rows.choosePlaysSpec) false ⟨#[], #[.int .i64 0, .int .i64 0, .slice none 0 0, .slice none 0 0], []⟩ 8 (by kernel_rfl) (by kernel_rfl) (by kernel_rfl) (by kernel_rfl)) rfl rfl (by kernel_rfl) (by kernel_rfl) ?_
  intro W base args ds p hval hA hwt
  obtain ⟨v0, vs0, d0, ds0, p0, q0, hargs, rfl, rfl, h0, r0⟩ := trodAll_cons (ts := [_, _, _]) hA
  obtain ⟨v1, vs1, d1, ds1, p1, q1, rfl, rfl, rfl, h1, r1⟩ := trodAll_cons r0
  obtain ⟨v2, vs2, d2, ds2, p2, q2, rfl, rfl, rfl, h2, r2⟩ := trodAll_cons r1
  obtain ⟨v3, vs3, d3, ds3, p3, q3, rfl, rfl, rfl, h3, r3⟩ := trodAll_cons r2
  obtain ⟨rfl, rfl, rfl⟩ := trodAll_nil r3
  obtain rfl : args = #[v0, v1, v2, v3] := by cases args; simp_all
  obtain ⟨a0, rfl, rfl, rfl, w0⟩ := open_int (k := .i64) (by kernel_rfl) (hval 0 _ v0 rfl rfl) h0
  obtain ⟨a1, rfl, rfl, rfl, w1⟩ := open_int (k := .i64) (by kernel_rfl) (hval 1 _ v1 rfl rfl) h1
  obtain ⟨s2, rows2, rfl, hn2, hm2, hr2, ho2⟩ := open_slc (e := 35) (ks := [.int .u32]) (by kernel_rfl) (by kernel_rfl) (by kernel_rfl) (by decide) (hval 2 _ v2 rfl rfl) h2 (light_each hwt (j := 2) rfl rfl)
  obtain ⟨l2, hr2, hl2, hw2⟩ := arg_rec (Rec.int .u32) (okK .u32) of_ik (by decide) (by decide) hr2 ho2
  have hc2 : l2.length * 4 ≤ reachBytes := by rw [hl2, ← hn2]; have e : Try.checked.prog.bytesOf 35 = 4 := (by kernel_rfl); rw [e] at hm2; exact hm2
  obtain ⟨s3, rows3, rfl, hn3, hm3, hr3, ho3⟩ := open_slc (e := 50) (ks := [.int .i64, .int .i64, .int .i64, .int .i64, .int .i64, .int .i64, .int .i64, .int .i64]) (by kernel_rfl) (by kernel_rfl) (by kernel_rfl) (by decide) (hval 3 _ v3 rfl rfl) h3 (light_each hwt (j := 3) rfl rfl)
  obtain ⟨l3, hr3, hl3, hw3⟩ := arg_rec act20R act20ok of_act20 (by decide) (by decide) hr3 ho3
  have hc3 : l3.length * 64 ≤ reachBytes := by rw [hl3, ← hn3]; have e : Try.checked.prog.bytesOf 50 = 64 := (by kernel_rfl); rw [e] at hm3; exact hm3
  exact ⟨⟨rfl, rfl, rfl⟩, cplays_walk (ds := l2) (acts := l3) hw2⟩

/-- what is claimed -/
theorem choosePlays : Rows.ChoosePlaysSaid :=
  OpenClaim.holds_of_wide 6 Try.f6 rfl rfl rfl rfl rfl rfl rfl ⟨rfl, rfl, rfl, rfl, rfl⟩ rfl rfl rfl rfl rfl (by kernel_rfl) Try.func6 (by kernel_rfl)
    (of_decide_eq_true (by kernel_rfl)) (by unfold Func.isWrapper; first | (rw [if_pos (by decide +kernel)]; kernel_rfl) | (rw [if_neg (by decide +kernel)]; exact ⟨rfl, rfl⟩))
    (fun os started H enc _ => choosePlays_lifted os started H enc)
end Go.Proofs.Ytfighgokcocpbaa
