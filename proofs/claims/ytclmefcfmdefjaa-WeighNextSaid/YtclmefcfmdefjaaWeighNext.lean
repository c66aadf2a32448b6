/- For every argument hoardlaw19.WeighNext returns true, and each argument reads behind the call as it read before. No condition. -/
import Derived.Test.YtclmefcfmdefjaaRows
import Derived.Test.YtclmefcfmdefjaaWeighNextWalk
import Derived.Test.YtclmefcfmdefjaaOpen
namespace Go.Proofs.Ytclmefcfmdefjaa
open Go.ChangeShapes Go.WideShapes Go.RowKit Go.Hb
set_option linter.unusedVariables false

set_option maxRecDepth 100000 in
theorem weighNext_lifted (os : Os) (started : os.Started) (H : Type) (enc : TypeId × Value → H) :
    ReturnsInHanded {} Try.checked os 12 .any (Rows.weighNextSpec.pre6 enc Try.prog Try.f12 Rows.weighNextRow.domain false) (Rows.weighNextSpec.post enc Try.prog Try.f12 false true false false) := by
  refine law_lifted (C := Try.checked) (by kernel_rfl) started (by kernel_rfl) Try.func12
    (ChangeSpec.witness6 (enc := enc) (C := Try.checked) (s := Rows.weighNextSpec) false ⟨#[], #[.agg #[.int .u64 0, .int .u64 0, .int .u64 0, .int .u64 0, .int .u64 0], .agg #[.int .i64 0, .int .i64 0, .int .i64 0, .int .i64 0, .int .i64 0], .int .i64 0], []⟩ 8 (by kernel_rfl) (by kernel_rfl) (by kernel_rfl) (by kernel_rfl)) rfl rfl (by kernel_rfl) (by kernel_rfl) ?_
  intro W base args ds p hval hA
  obtain ⟨v0, vs0, d0, ds0, p0, q0, hargs, rfl, rfl, h0, r0⟩ := trodAll_cons (ts := [_, _]) hA
  obtain ⟨v1, vs1, d1, ds1, p1, q1, rfl, rfl, rfl, h1, r1⟩ := trodAll_cons r0
  obtain ⟨v2, vs2, d2, ds2, p2, q2, rfl, rfl, rfl, h2, r2⟩ := trodAll_cons r1
  obtain ⟨rfl, rfl, rfl⟩ := trodAll_nil r2
  obtain rfl : args = #[v0, v1, v2] := by cases args; simp_all
  obtain ⟨c0, rfl, ho0⟩ := open_arr (n := 5) (e := 31) (ks := [.int .u64, .int .u64, .int .u64, .int .u64, .int .u64]) (by kernel_rfl) (by kernel_rfl) (hval 0 _ v0 rfl rfl) h0
  obtain ⟨l0, rfl, hl0, hw0⟩ := row_ints (k := .u64) (n := 5) ho0
  obtain ⟨x0_0, x0_1, x0_2, x0_3, x0_4, rfl⟩ : ∃ x0_0 x0_1 x0_2 x0_3 x0_4, l0 = [x0_0, x0_1, x0_2, x0_3, x0_4] := by
    match l0, hl0 with
    | [x0_0, x0_1, x0_2, x0_3, x0_4], _ => exact ⟨x0_0, x0_1, x0_2, x0_3, x0_4, rfl⟩
  obtain ⟨c1, rfl, ho1⟩ := open_arr (n := 5) (e := 3) (ks := [.int .i64, .int .i64, .int .i64, .int .i64, .int .i64]) (by kernel_rfl) (by kernel_rfl) (hval 1 _ v1 rfl rfl) h1
  obtain ⟨l1, rfl, hl1, hw1⟩ := row_ints (k := .i64) (n := 5) ho1
  obtain ⟨x1_0, x1_1, x1_2, x1_3, x1_4, rfl⟩ : ∃ x1_0 x1_1 x1_2 x1_3 x1_4, l1 = [x1_0, x1_1, x1_2, x1_3, x1_4] := by
    match l1, hl1 with
    | [x1_0, x1_1, x1_2, x1_3, x1_4], _ => exact ⟨x1_0, x1_1, x1_2, x1_3, x1_4, rfl⟩
  obtain ⟨a2, rfl, rfl, rfl, w2⟩ := open_int (k := .i64) (by kernel_rfl) (hval 2 _ v2 rfl rfl) h2
  exact ⟨⟨rfl, rfl, rfl⟩, weighNext_all hw0 _ _ _ _ _ _⟩

/-- what is claimed -/
theorem weighNext : Rows.WeighNextSaid :=
  OpenClaim.holds_of_wide 12 Try.f12 rfl rfl rfl rfl rfl rfl rfl ⟨rfl, rfl, rfl, rfl, rfl⟩ rfl rfl rfl rfl rfl (by kernel_rfl) Try.func12 (by kernel_rfl)
    (of_decide_eq_true (by kernel_rfl)) (by unfold Func.isWrapper; first | (rw [if_pos (by decide +kernel)]; kernel_rfl) | (rw [if_neg (by decide +kernel)]; exact ⟨rfl, rfl⟩))
    (fun os started H enc _ => weighNext_lifted os started H enc)
end Go.Proofs.Ytclmefcfmdefjaa
