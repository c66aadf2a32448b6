/- WeighRow, WeighPicks, WeighCalm: rows of epochs. -/
import Derived.Test.YtfighgokcocpbaaWeigh4
import Derived.Test.YtfighgokcocpbaaWeighIs
import Derived.Test.YtfighgokcocpbaaListRep
import Derived.Test.YtfighgokcocpbaaOpen
set_option linter.unusedVariables false
set_option linter.unusedSimpArgs false
set_option linter.unnecessarySimpa false
set_option linter.unusedSectionVars false
namespace Go.Hb
theorem Reads.cellp {W : World} {sz : Nat} {s : Sl} {cs : List Value} {b o p j : Nat} {x : Value} (hr : Reads W sz s cs) (ha : s.a = some ⟨b, o, none⟩) (hp : p = o + j) (hc : cs[j]? = some x) : W.cell? ⟨b, p, none⟩ = some x := by
  subst hp
  rcases hr.2 with ⟨h', _⟩ | ⟨b', o', hsa, hcs⟩
  · rw [h'] at ha; cases ha
  · rw [hsa] at ha; cases ha
    rw [hcs j (List.getElem?_eq_some_iff.1 hc).1]; exact hc
/-- rows of five integers -/
def Row5 (rows : List (List Value)) : Prop := ∀ i, i < rows.length → ∃ g0 g1 g2 g3 g4 : Int, rows[i]? = some [.int .i64 g0, .int .i64 g1, .int .i64 g2, .int .i64 g3, .int .i64 g4]
theorem row5_of {rows : List (List Value)} (h : ∀ x ∈ rows, okRow [.int .i64, .int .i64, .int .i64, .int .i64, .int .i64] x) : Row5 rows := by
  intro i hi
  have hx := h rows[i] (List.getElem_mem hi)
  rw [List.getElem?_eq_getElem hi]
  generalize rows[i] = r at hx
  have hl : r.length = 5 := okRow_len hx
  obtain ⟨v0, v1, v2, v3, v4, rfl⟩ : ∃ v0 v1 v2 v3 v4, r = [v0, v1, v2, v3, v4] := by
    match r, hl with
    | [v0, v1, v2, v3, v4], _ => exact ⟨v0, v1, v2, v3, v4, rfl⟩
  obtain ⟨h0, h1, h2, h3, h4, _⟩ := hx
  obtain ⟨g0, rfl, _⟩ := h0
  obtain ⟨g1, rfl, _⟩ := h1
  obtain ⟨g2, rfl, _⟩ := h2
  obtain ⟨g3, rfl, _⟩ := h3
  obtain ⟨g4, rfl, _⟩ := h4
  exact ⟨g0, g1, g2, g3, g4, rfl⟩
theorem row5_len {rows : List (List Value)} (h : ∀ x ∈ rows, okRow [.int .i64, .int .i64, .int .i64, .int .i64, .int .i64] x) : ∀ r ∈ rows, r.length = 5 := fun r hr => okRow_len (h r hr)
end Go.Hb
namespace Go.Proofs.Ytfighgokcocpbaa
open Go.Hb Go.IntWalk
theorem is5L_nat {ws : List Int} (h : is5L ws = true) : ∃ a b c d e : Nat, (ws.getD 0 0 = (a : Int) ∧ ws.getD 1 0 = (b : Int) ∧ ws.getD 2 0 = (c : Int) ∧ ws.getD 3 0 = (d : Int) ∧ ws.getD 4 0 = (e : Int)) ∧
    (42949672 ≤ a ∧ a ≤ 4294967296) ∧ (42949672 ≤ b ∧ b ≤ 4294967296) ∧ (42949672 ≤ c ∧ c ≤ 4294967296) ∧ (42949672 ≤ d ∧ d ≤ 4294967296) ∧ (42949672 ≤ e ∧ e ≤ 4294967296) ∧ a + b + c + d + e = 4294967296 := by
  have h := (is5_iff _ _ _ _ _).1 h
  exact ⟨(ws.getD 0 0).toNat, (ws.getD 1 0).toNat, (ws.getD 2 0).toNat, (ws.getD 3 0).toNat, (ws.getD 4 0).toNat, by omega, by omega⟩
/-- the weights behind an epoch -/
def nextW (ws : List Int) (g0 g1 g2 g3 g4 all : Int) : List Int := nextL (ws.getD 0 0).toNat (ws.getD 1 0).toNat (ws.getD 2 0).toNat (ws.getD 3 0).toNat (ws.getD 4 0).toNat g0 g1 g2 g3 g4 all
theorem nextW_is (ws : List Int) (g0 g1 g2 g3 g4 all : Int) : is5L (nextW ws g0 g1 g2 g3 g4 all) = true := nextL_is _ _ _ _ _ _ _ _ _ _ _
section
variable {W w : World} {M : List HP}
theorem nextW_at (h : Sat W w M) {ws : List Int} (hi : is5L ws = true) (g0 g1 g2 g3 g4 all : Int) : Calls Try.prog id_weigh_Next #[agg5 ws, .agg #[.int .i64 g0, .int .i64 g1, .int .i64 g2, .int .i64 g3, .int .i64 g4], .int .i64 all] w fun e' w' => e' = .returned (agg5 (nextW ws g0 g1 g2 g3 g4 all)) ∧ Sat W w' M := by
  obtain ⟨a, b, c, d, e, ⟨h0, h1, h2, h3, h4⟩, r⟩ := is5L_nat hi
  unfold nextW
  unfold agg5
  rw [h0, h1, h2, h3, h4]
  exact next_at h (by omega) (by omega) (by omega) (by omega) (by omega) g0 g1 g2 g3 g4 all
theorem rnextW_at (h : Sat W w M) {ws : List Int} (hi : is5L ws = true) (g0 g1 g2 g3 g4 all : Int) : Calls Try.prog id_hoardref19_Next #[agg5 ws, .agg #[.int .i64 g0, .int .i64 g1, .int .i64 g2, .int .i64 g3, .int .i64 g4], .int .i64 all] w fun e' w' => e' = .returned (agg5 (nextW ws g0 g1 g2 g3 g4 all)) ∧ Sat W w' M := by
  obtain ⟨a, b, c, d, e, ⟨h0, h1, h2, h3, h4⟩, r⟩ := is5L_nat hi
  unfold nextW
  unfold agg5
  rw [h0, h1, h2, h3, h4]
  exact rnext_at h (by omega) (by omega) (by omega) (by omega) (by omega) g0 g1 g2 g3 g4 all
theorem sumW (ws : List Int) (hi : is5L ws = true) : sum5 (ws.getD 0 0) (ws.getD 1 0) (ws.getD 2 0) (ws.getD 3 0) (ws.getD 4 0) = 4294967296 := by
  unfold is5L is5 at hi
  simp only [Bool.and_eq_true, beq_iff_eq] at hi
  exact hi.2.2.2.2.2
end
end Go.Proofs.Ytfighgokcocpbaa
