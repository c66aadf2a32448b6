/- WHAT AN ENGINE's ACCESS DOES to who is resident, in plain lists; a row of accesses told from outside. No program. -/
import Derived.Test.YtchlicgjdlkidaaDoorGhostHp
set_option linter.unusedVariables false
set_option linter.unusedSimpArgs false
set_option linter.unnecessarySimpa false
set_option linter.unusedSectionVars false
namespace Go.Hb

/-- an access: who is resident ahead (R) and behind (S) -/
structure EAcc (R S : List ByteArray) (k : ByteArray) (hit : Bool) (g : List ByteArray) : Prop where
  hits : hit = decide (k ∈ R)
  sub : ∀ x ∈ g, x ∈ R
  le1 : g.length ≤ 1
  no : k ∉ g
  calm : hit = true → g = []
  mem : ∀ x, x ∈ S ↔ (x ∈ R ∧ x ∉ g) ∨ x = k
def gCuts (l g : List ByteArray) : List ByteArray := g.foldl gTake l
theorem perm_of_mem {a b : List ByteArray} (ha : a.Nodup) (hb : b.Nodup) (h : ∀ x, x ∈ a ↔ x ∈ b) : a.Perm b := (List.perm_ext_iff_of_nodup ha hb).2 h
theorem gCuts_mem : ∀ {g l : List ByteArray} {x : ByteArray}, x ∈ gCuts l g ↔ x ∈ l ∧ x ∉ g
  | [], l, x => by simp [gCuts]
  | y :: g, l, x => by
    show x ∈ gCuts (gTake l y) g ↔ _
    rw [gCuts_mem, gTake_mem]
    simp only [List.mem_cons, not_or]
    constructor
    · rintro ⟨⟨h1, h2⟩, h3⟩; exact ⟨h1, h2, h3⟩
    · rintro ⟨h1, h2, h3⟩; exact ⟨⟨h1, h2⟩, h3⟩
theorem gCuts_nodup : ∀ {g l : List ByteArray}, l.Nodup → (gCuts l g).Nodup
  | [], l, h => h
  | y :: g, l, h => gCuts_nodup (g := g) (gTake_nodup h)
section
variable {R S : List ByteArray} {k : ByteArray} {hit : Bool} {g : List ByteArray}
theorem g_cases (h : g.length ≤ 1) : g = [] ∨ ∃ x, g = [x] := by
  match g, h with
  | [], _ => exact .inl rfl
  | [x], _ => exact .inr ⟨x, rfl⟩
theorem gTake_perm1 {l : List ByteArray} (hn : l.Nodup) (hk : k ∈ l) : l.Perm (k :: gTake l k) := by
  refine perm_of_mem hn (List.nodup_cons.2 ⟨fun h => (gTake_mem.1 h).2 rfl, gTake_nodup hn⟩) fun x => ?_
  rw [List.mem_cons, gTake_mem]
  constructor
  · intro h
    by_cases hx : x = k
    · exact .inl hx
    · exact .inr ⟨h, hx⟩
  · rintro (rfl | h)
    · exact hk
    · exact h.1
/-- in numbers -/
theorem EAcc.len (h : EAcc R S k hit g) (hR : R.Nodup) (hS : S.Nodup) : S.length + g.length = R.length + (if hit then 0 else 1) := by
  rcases g_cases h.le1 with rfl | ⟨y, rfl⟩
  · cases hh : hit with
    | true =>
      have hk : k ∈ R := by have := h.hits; rw [hh] at this; exact of_decide_eq_true this.symm
      have : S.Perm R := perm_of_mem hS hR fun x => by
        rw [h.mem]
        constructor
        · rintro (h | rfl)
          · exact h.1
          · exact hk
        · intro hx; exact .inl ⟨hx, by simp⟩
      simp [this.length_eq]
    | false =>
      have hk : k ∉ R := by have := h.hits; rw [hh] at this; exact of_decide_eq_false this.symm
      have : S.Perm (k :: R) := perm_of_mem hS (List.nodup_cons.2 ⟨hk, hR⟩) fun x => by
        rw [h.mem, List.mem_cons]
        constructor
        · rintro (h | rfl)
          · exact .inr h.1
          · exact .inl rfl
        · rintro (rfl | hx)
          · exact .inr rfl
          · exact .inl ⟨hx, by simp⟩
      simp [this.length_eq]
  · have hh : hit = false := by
      cases hh : hit with
      | false => rfl
      | true => have := h.calm hh; cases this
    have hk : k ∉ R := by have := h.hits; rw [hh] at this; exact of_decide_eq_false this.symm
    have hy := h.sub y (by simp)
    have hp := gTake_perm1 hR hy
    have hno : k ∉ gTake R y := fun h => hk (gTake_mem.1 h).1
    have : S.Perm (k :: gTake R y) := perm_of_mem hS (List.nodup_cons.2 ⟨hno, gTake_nodup hR⟩) fun x => by
      rw [h.mem, List.mem_singleton, List.mem_cons, gTake_mem]
      constructor
      · rintro (h | rfl)
        · exact .inr h
        · exact .inl rfl
      · rintro (rfl | hx)
        · exact .inr rfl
        · exact .inl hx
    have h1 := hp.length_eq
    have h2 := this.length_eq
    rw [hh]
    simp only [List.length_cons, List.length_nil] at h1 h2 ⊢
    simp only [Bool.false_eq_true, if_false]
    omega
/-- what is told from outside goes along -/
def inNext (I : List ByteArray) (k : ByteArray) (was : Bool) (g : List ByteArray) : List ByteArray := if was then gCuts I g else gCuts I g ++ [k]
theorem EAcc.told (h : EAcc R S k hit g) {I : List ByteArray} (hI : I.Nodup) (hS : S.Nodup) (hm : ∀ x, x ∈ I ↔ x ∈ R) : (inNext I k hit g).Nodup ∧ ∀ x, x ∈ inNext I k hit g ↔ x ∈ S := by
  unfold inNext
  cases hh : hit with
  | true =>
    have hk : k ∈ R := by have := h.hits; rw [hh] at this; exact of_decide_eq_true this.symm
    refine ⟨gCuts_nodup hI, fun x => ?_⟩
    simp only [if_true]
    rw [gCuts_mem, h.mem, hm, h.calm hh]
    constructor
    · intro h; exact .inl h
    · rintro (h | rfl)
      · exact h
      · exact ⟨hk, by simp⟩
  | false =>
    have hk : k ∉ R := by have := h.hits; rw [hh] at this; exact of_decide_eq_false this.symm
    have hno : k ∉ gCuts I g := fun h => hk ((hm _).1 (gCuts_mem.1 h).1)
    simp only [Bool.false_eq_true, if_false]
    refine ⟨?_, fun x => ?_⟩
    · rw [List.nodup_append]
      exact ⟨gCuts_nodup hI, by simp, fun a ha b hb hab => by rw [List.mem_singleton] at hb; subst hb; exact hno (hab ▸ ha)⟩
    · rw [List.mem_append, List.mem_singleton, gCuts_mem, h.mem, hm]
end
end Go.Hb
