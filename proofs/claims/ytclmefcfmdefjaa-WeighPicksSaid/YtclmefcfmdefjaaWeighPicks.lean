/- For every argument hoardlaw19.WeighPicks returns true, and each argument reads behind the call as it read before. No condition. -/
import Derived.Test.YtclmefcfmdefjaaRows
import Derived.Test.YtclmefcfmdefjaaWeighLaws3
import Derived.Test.YtclmefcfmdefjaaOpen
namespace Go.Proofs.Ytclmefcfmdefjaa
open Go.ChangeShapes Go.WideShapes Go.RowKit Go.Hb
set_option linter.unusedVariables false

set_option maxRecDepth 100000 in
theorem weighPicks_lifted (os : Os) (started : os.Started) (H : Type) (enc : TypeId × Value → H) :
    ReturnsInHanded {} Try.checked os 14 .any (Rows.weighPicksSpec.pre6 enc Try.prog Try.f14 Rows.weighPicksRow.domain false) (Rows.weighPicksSpec.post enc Try.prog Try.f14 false true false false) := by
  refine law_lifted (C := Try.checked) (by kernel_rfl) started (by kernel_rfl) Try.func14
    (ChangeSpec.witness6 (enc := enc) (C := Try.checked) (s := Rows.weighPicksSpec) false ⟨#[], #[.slice none 0 0, .int .u32 0], []⟩ 8 (by kernel_rfl) (by kernel_rfl) (by kernel_rfl) (by kernel_rfl)) rfl rfl (by kernel_rfl) (by kernel_rfl) ?_
  intro W base args ds p hval hA
  obtain ⟨v0, vs0, d0, ds0, p0, q0, hargs, rfl, rfl, h0, r0⟩ := trodAll_cons (ts := [_]) hA
  obtain ⟨v1, vs1, d1, ds1, p1, q1, rfl, rfl, rfl, h1, r1⟩ := trodAll_cons r0
  obtain ⟨rfl, rfl, rfl⟩ := trodAll_nil r1
  obtain rfl : args = #[v0, v1] := by cases args; simp_all
  obtain ⟨s0, rows0, rfl, hn0, hm0, hr0, ho0⟩ := open_slc (e := 53) (ks := [.int .i64, .int .i64, .int .i64, .int .i64, .int .i64]) (by kernel_rfl) (by kernel_rfl) (by kernel_rfl) (by decide) (hval 0 _ v0 rfl rfl) h0
  obtain ⟨a1, rfl, rfl, rfl, w1⟩ := open_int (k := .u32) (by kernel_rfl) (hval 1 _ v1 rfl rfl) h1
  exact ⟨⟨rfl, rfl, rfl⟩, weighPicks_walk hn0 ho0 hr0 w1⟩

/-- what is claimed -/
theorem weighPicks : Rows.WeighPicksSaid :=
  OpenClaim.holds_of_wide 14 Try.f14 rfl rfl rfl rfl rfl rfl rfl ⟨rfl, rfl, rfl, rfl, rfl⟩ rfl rfl rfl rfl rfl (by kernel_rfl) Try.func14 (by kernel_rfl)
    (of_decide_eq_true (by kernel_rfl)) (by unfold Func.isWrapper; first | (rw [if_pos (by decide +kernel)]; kernel_rfl) | (rw [if_neg (by decide +kernel)]; exact ⟨rfl, rfl⟩))
    (fun os started H enc _ => weighPicks_lifted os started H enc)
end Go.Proofs.Ytclmefcfmdefjaa
