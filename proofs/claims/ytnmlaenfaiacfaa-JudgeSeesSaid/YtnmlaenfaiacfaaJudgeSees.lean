/- For every argument hoardlaw27.JudgeSees returns true, and each argument reads behind the call as it read before. No condition. -/
import Derived.Test.YtnmlaenfaiacfaaRows
import Derived.Test.YtnmlaenfaiacfaaJudgeLSees
import Derived.Test.YtnmlaenfaiacfaaOpen
set_option linter.unusedVariables false
set_option linter.unusedSimpArgs false
set_option linter.unnecessarySimpa false
set_option linter.unusedSectionVars false
namespace Go.Proofs.Ytnmlaenfaiacfaa
open Go.ChangeShapes Go.WideShapes Go.RowKit Go.ChangeMaps Go.Hb

set_option maxRecDepth 100000 in
theorem judgeSees_lifted (os : Os) (started : os.Started) (H : Type) (enc : TypeId × Value → H) :
    ReturnsInHanded {} Try.checked os 4 .any (Rows.judgeSeesSpec.pre6 enc Try.prog Try.f4 Rows.judgeSeesRow.domain false) (Rows.judgeSeesSpec.post enc Try.prog Try.f4 false true false false) := by
  refine law_lifted (C := Try.checked) (by kernel_rfl) started (by kernel_rfl) Try.func4
    (ChangeSpec.witness6 (enc := enc) (C := Try.checked) (s := Rows.judgeSeesSpec) false ⟨#[], #[.int .i64 0, .int .i64 0, .slice none 0 0, .slice none 0 0], []⟩ 8 (by kernel_rfl) (by kernel_rfl) (by kernel_rfl) (by kernel_rfl)) rfl rfl (by kernel_rfl) (by kernel_rfl) ?_
  intro W base args ds p hval hA hwt
  obtain ⟨v0, vs0, d0, ds0, p0, q0, hargs, rfl, rfl, h0, r0⟩ := trodAll_cons (ts := [_, _, _]) hA
  obtain ⟨v1, vs1, d1, ds1, p1, q1, rfl, rfl, rfl, h1, r1⟩ := trodAll_cons r0
  obtain ⟨v2, vs2, d2, ds2, p2, q2, rfl, rfl, rfl, h2, r2⟩ := trodAll_cons r1
  obtain ⟨v3, vs3, d3, ds3, p3, q3, rfl, rfl, rfl, h3, r3⟩ := trodAll_cons r2
  obtain ⟨rfl, rfl, rfl⟩ := trodAll_nil r3
  obtain rfl : args = #[v0, v1, v2, v3] := by cases args; simp_all
  obtain ⟨a0, rfl, rfl, rfl, w0⟩ := open_int (k := .i64) (by kernel_rfl) (hval 0 _ v0 rfl rfl) h0
  obtain ⟨a1, rfl, rfl, rfl, w1⟩ := open_int (k := .i64) (by kernel_rfl) (hval 1 _ v1 rfl rfl) h1
  obtain ⟨s2, rows2, rfl, hn2, hm2, hr2, ho2⟩ := open_slc (e := 35) (ks := [.int .i64, .str, .str, .int .i64]) (by kernel_rfl) (by kernel_rfl) (by kernel_rfl) (by decide) (hval 2 _ v2 rfl rfl) h2 (light_each hwt (j := 2) rfl rfl)
  obtain ⟨l2, hr2, hl2, hw2⟩ := arg_rec opR OpOk of_op (by decide) (by decide) hr2 ho2
  have hc2 : l2.length * 48 ≤ reachBytes := by rw [hl2, ← hn2]; have e : Try.checked.prog.bytesOf 35 = 48 := (by kernel_rfl); rw [e] at hm2; exact hm2
  obtain ⟨s3, l3, rfl, hr3, hw3, hm3, hn3⟩ := open_ans (e := 39) (t0 := 36) (t1 := 4) (t2 := 9) (t3 := 37) (t4 := 9) (by kernel_rfl) (by kernel_rfl) (by kernel_rfl) (by kernel_rfl) (by kernel_rfl) (by kernel_rfl) (by kernel_rfl) (by kernel_rfl) (by kernel_rfl) (by kernel_rfl) ⟨by kernel_rfl, by kernel_rfl, by kernel_rfl, by kernel_rfl⟩ (hval 3 _ v3 rfl rfl) h3 (light_each hwt (j := 3) rfl rfl)
  exact ⟨⟨rfl, rfl, rfl⟩, jsees_walk (ops := l2) (rs := l3) hw2 hw3 w1⟩

/-- what is claimed -/
theorem judgeSees : Rows.JudgeSeesSaid :=
  OpenClaim.holds_of_wide 4 Try.f4 rfl rfl rfl rfl rfl rfl rfl ⟨rfl, rfl, rfl, rfl, rfl⟩ rfl rfl rfl rfl rfl (by kernel_rfl) Try.func4 (by kernel_rfl)
    (of_decide_eq_true (by kernel_rfl)) (by unfold Func.isWrapper; first | (rw [if_pos (by decide +kernel)]; kernel_rfl) | (rw [if_neg (by decide +kernel)]; exact ⟨rfl, rfl⟩))
    (fun os started H enc _ => judgeSees_lifted os started H enc)
end Go.Proofs.Ytnmlaenfaiacfaa
