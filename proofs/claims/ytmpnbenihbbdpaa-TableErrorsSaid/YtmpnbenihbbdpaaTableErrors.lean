/- For every argument hoardlaw21.TableErrors returns true, and each argument reads behind the call as it read before. No condition. -/
import Derived.Test.YtmpnbenihbbdpaaRows
import Derived.Test.YtmpnbenihbbdpaaTableLaws
import Derived.Test.YtmpnbenihbbdpaaOpen
set_option linter.unusedVariables false
set_option linter.unusedSimpArgs false
set_option linter.unnecessarySimpa false
set_option linter.unusedSectionVars false
namespace Go.Proofs.Ytmpnbenihbbdpaa
open Go.ChangeShapes Go.WideShapes Go.RowKit Go.ChangeMaps Go.Hb

set_option maxRecDepth 100000 in
theorem tableErrors_lifted (os : Os) (started : os.Started) (H : Type) (enc : TypeId × Value → H) :
    ReturnsInHanded {} Try.checked os 4 .any (Rows.tableErrorsSpec.pre6 enc Try.prog Try.f4 Rows.tableErrorsRow.domain false) (Rows.tableErrorsSpec.post enc Try.prog Try.f4 false true false false) := by
  refine law_lifted (C := Try.checked) (by kernel_rfl) started (by kernel_rfl) Try.func4
    (ChangeSpec.witness6 (enc := enc) (C := Try.checked) (s := Rows.tableErrorsSpec) false ⟨#[], #[.slice none 0 0, .agg #[.int .i64 0, .int .i64 0, .int .i64 0, .string ⟨#[]⟩, .string ⟨#[]⟩]], []⟩ 8 (by kernel_rfl) (by kernel_rfl) (by kernel_rfl) (by kernel_rfl)) rfl rfl (by kernel_rfl) (by kernel_rfl) ?_
  intro W base args ds p hval hA hwt
  obtain ⟨v0, vs0, d0, ds0, p0, q0, hargs, rfl, rfl, h0, r0⟩ := trodAll_cons (ts := [_]) hA
  obtain ⟨v1, vs1, d1, ds1, p1, q1, rfl, rfl, rfl, h1, r1⟩ := trodAll_cons r0
  obtain ⟨rfl, rfl, rfl⟩ := trodAll_nil r1
  obtain rfl : args = #[v0, v1] := by cases args; simp_all
  obtain ⟨s0, rows0, rfl, hn0, hm0, hr0, ho0⟩ := open_slc (e := 36) (ks := [.int .i64, .int .i64, .int .i64, .str, .str]) (by kernel_rfl) (by kernel_rfl) (by kernel_rfl) (by decide) (hval 0 _ v0 rfl rfl) h0 (light_each hwt (j := 0) rfl rfl)
  obtain ⟨l0, hr0, hl0, hw0⟩ := arg_rec act21R act21ok of_act21 (by decide) (by decide) hr0 ho0
  have hc0 : l0.length * 56 ≤ reachBytes := by rw [hl0, ← hn0]; have e : Try.checked.prog.bytesOf 36 = 56 := (by kernel_rfl); rw [e] at hm0; exact hm0
  obtain ⟨c1, rfl, ho1⟩ := open_st (ks := [.int .i64, .int .i64, .int .i64, .str, .str]) (by kernel_rfl) (by kernel_rfl) (hval 1 _ v1 rfl rfl) h1 (light_each hwt (j := 1) rfl rfl)
  obtain ⟨a1, rfl, hw1⟩ := of_act21 c1 ho1
  exact ⟨⟨rfl, rfl, rfl⟩, terrors_walk (acts := l0)⟩

/-- what is claimed -/
theorem tableErrors : Rows.TableErrorsSaid :=
  OpenClaim.holds_of_wide 4 Try.f4 rfl rfl rfl rfl rfl rfl rfl ⟨rfl, rfl, rfl, rfl, rfl⟩ rfl rfl rfl rfl rfl (by kernel_rfl) Try.func4 (by kernel_rfl)
    (of_decide_eq_true (by kernel_rfl)) (by unfold Func.isWrapper; first | (rw [if_pos (by decide +kernel)]; kernel_rfl) | (rw [if_neg (by decide +kernel)]; exact ⟨rfl, rfl⟩))
    (fun os started H enc _ => tableErrors_lifted os started H enc)
end Go.Proofs.Ytmpnbenihbbdpaa
