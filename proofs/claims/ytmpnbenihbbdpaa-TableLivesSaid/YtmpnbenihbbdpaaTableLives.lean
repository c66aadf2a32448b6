/- For every argument hoardlaw21.TableLives returns true, and each argument reads behind the call as it read before. No condition. -/
import Derived.Test.YtmpnbenihbbdpaaRows
import Derived.Test.YtmpnbenihbbdpaaTableLaws
import Derived.Test.YtmpnbenihbbdpaaOpen
set_option linter.unusedVariables false
set_option linter.unusedSimpArgs false
set_option linter.unnecessarySimpa false
set_option linter.unusedSectionVars false
namespace Go.Proofs.Ytmpnbenihbbdpaa
open Go.ChangeShapes Go.WideShapes Go.RowKit Go.ChangeMaps Go.Hb

set_option maxRecDepth 100000 in
theorem tableLives_lifted (os : Os) (started : os.Started) (H : Type) (enc : TypeId × Value → H) :
    ReturnsInHanded {} Try.checked os 3 .any (Rows.tableLivesSpec.pre6 enc Try.prog Try.f3 Rows.tableLivesRow.domain false) (Rows.tableLivesSpec.post enc Try.prog Try.f3 false true false false) := by
  refine law_lifted (C := Try.checked) (by kernel_rfl) started (by kernel_rfl) Try.func3
    (ChangeSpec.witness6 (enc := enc) (C := Try.checked) (s := Rows.tableLivesSpec) false ⟨#[], #[.string ⟨#[]⟩, .string ⟨#[]⟩, .int .i64 0, .int .i64 0, .int .i64 0], []⟩ 8 (by kernel_rfl) (by kernel_rfl) (by kernel_rfl) (by kernel_rfl)) rfl rfl (by kernel_rfl) (by kernel_rfl) ?_
  intro W base args ds p hval hA hwt
  obtain ⟨v0, vs0, d0, ds0, p0, q0, hargs, rfl, rfl, h0, r0⟩ := trodAll_cons (ts := [_, _, _, _]) hA
  obtain ⟨v1, vs1, d1, ds1, p1, q1, rfl, rfl, rfl, h1, r1⟩ := trodAll_cons r0
  obtain ⟨v2, vs2, d2, ds2, p2, q2, rfl, rfl, rfl, h2, r2⟩ := trodAll_cons r1
  obtain ⟨v3, vs3, d3, ds3, p3, q3, rfl, rfl, rfl, h3, r3⟩ := trodAll_cons r2
  obtain ⟨v4, vs4, d4, ds4, p4, q4, rfl, rfl, rfl, h4, r4⟩ := trodAll_cons r3
  obtain ⟨rfl, rfl, rfl⟩ := trodAll_nil r4
  obtain rfl : args = #[v0, v1, v2, v3, v4] := by cases args; simp_all
  obtain ⟨a0, rfl, rfl, rfl, w0⟩ := open_string (by kernel_rfl) (hval 0 _ v0 rfl rfl) h0
  have z0 : a0.size ≤ reachBytes := by simpa using light_each hwt (j := 0) rfl rfl a0.data.toList.length (by simp [DataW.weights])
  obtain ⟨a1, rfl, rfl, rfl, w1⟩ := open_string (by kernel_rfl) (hval 1 _ v1 rfl rfl) h1
  have z1 : a1.size ≤ reachBytes := by simpa using light_each hwt (j := 1) rfl rfl a1.data.toList.length (by simp [DataW.weights])
  obtain ⟨a2, rfl, rfl, rfl, w2⟩ := open_int (k := .i64) (by kernel_rfl) (hval 2 _ v2 rfl rfl) h2
  obtain ⟨a3, rfl, rfl, rfl, w3⟩ := open_int (k := .i64) (by kernel_rfl) (hval 3 _ v3 rfl rfl) h3
  obtain ⟨a4, rfl, rfl, rfl, w4⟩ := open_int (k := .i64) (by kernel_rfl) (hval 4 _ v4 rfl rfl) h4
  exact ⟨⟨rfl, rfl, rfl⟩, tlives_walk w4⟩

/-- what is claimed -/
theorem tableLives : Rows.TableLivesSaid :=
  OpenClaim.holds_of_wide 3 Try.f3 rfl rfl rfl rfl rfl rfl rfl ⟨rfl, rfl, rfl, rfl, rfl⟩ rfl rfl rfl rfl rfl (by kernel_rfl) Try.func3 (by kernel_rfl)
    (of_decide_eq_true (by kernel_rfl)) (by unfold Func.isWrapper; first | (rw [if_pos (by decide +kernel)]; kernel_rfl) | (rw [if_neg (by decide +kernel)]; exact ⟨rfl, rfl⟩))
    (fun os started H enc _ => tableLives_lifted os started H enc)
end Go.Proofs.Ytmpnbenihbbdpaa
