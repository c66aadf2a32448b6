/- WHAT MEMORY HOLDS, PIECE BY PIECE: chunks that lie apart ('Sat'), and the words of the texts over them. No program. -/
import Derived.Test.YtnmlaenfaiacfaaSound7
set_option linter.unusedVariables false
set_option linter.unusedSimpArgs false
set_option linter.unnecessarySimpa false
set_option linter.unusedSectionVars false
namespace Go.Hb

abbrev Heap := Nat → Option Obj
abbrev HP := Heap → Prop
def subH (h g : Heap) : Prop := ∀ b o, h b = some o → g b = some o
def disH (h g : Heap) : Prop := ∀ b, h b = none ∨ g b = none
def stars : List HP → HP
  | [], _ => True
  | p :: l, h => ∃ h1 h2, subH h1 h ∧ subH h2 h ∧ disH h1 h2 ∧ p h1 ∧ stars l h2
def heapOf (w : World) : Heap := fun b => w.heap[b]?
structure Sat (W0 w : World) (L : List HP) : Prop where
  os : w.os = W0.os
  out : w.output = W0.output
  st : stars L (heapOf w)

theorem subH.refl (h : Heap) : subH h h := fun _ _ h => h
theorem subH.trans {f g h : Heap} (a : subH f g) (b : subH g h) : subH f h := fun x o hx => b x o (a x o hx)
theorem disH.symm {f g : Heap} (h : disH f g) : disH g f := fun b => (h b).symm
theorem disH.sub {f g f' g' : Heap} (h : disH f g) (hf : subH f' f) (hg : subH g' g) : disH f' g' := fun b => by
  rcases h b with h | h
  · left
    cases hx : f' b with
    | none => rfl
    | some o => rw [hf b o hx] at h; cases h
  · right
    cases hx : g' b with
    | none => rfl
    | some o => rw [hg b o hx] at h; cases h
theorem stars_mono {L : List HP} {h g : Heap} (hs : stars L h) (hg : subH h g) : stars L g := by
  cases L with
  | nil => trivial
  | cons p L =>
    obtain ⟨h1, h2, a, b, c, d, e⟩ := hs
    exact ⟨h1, h2, a.trans hg, b.trans hg, c, d, e⟩
def uniH (f g : Heap) : Heap := fun b => match f b with
  | some o => some o
  | none => g b
theorem stars_swap {p q : HP} {L : List HP} {h : Heap} (hs : stars (p :: q :: L) h) : stars (q :: p :: L) h := by
  obtain ⟨h1, h2, a, b, c, hp, h3, h4, d, e, f, hq, hL⟩ := hs
  refine ⟨h3, uniH h1 h4, d.trans b, fun x o hx => ?_, fun x => ?_, hq, h1, h4, fun x o hx => ?_, fun x o hx => ?_, c.sub (subH.refl _) e, hp, hL⟩
  · unfold uniH at hx
    split at hx
    · rename_i o' ho'; cases hx; exact a _ _ ho'
    · exact b _ _ (e _ _ hx)
  · unfold uniH
    rcases (c.sub (subH.refl _) d) x with h' | h'
    · rw [h']
      rcases f x with h'' | h''
      · exact .inl h''
      · exact .inr h''
    · exact .inl h'
  · unfold uniH; rw [hx]
  · unfold uniH
    split
    · rename_i o' ho'
      rcases (c.sub (subH.refl _) e) x with h' | h'
      · rw [ho'] at h'; cases h'
      · rw [hx] at h'; cases h'
    · exact hx
theorem stars_perm {L M : List HP} (hp : L.Perm M) : ∀ {h : Heap}, stars L h → stars M h := by
  induction hp with
  | nil => exact fun h => h
  | cons x _ ih => exact fun ⟨h1, h2, a, b, c, d, e⟩ => ⟨h1, h2, a, b, c, d, ih e⟩
  | swap x y l => exact fun h => stars_swap h
  | trans _ _ ih1 ih2 => exact fun h => ih2 (ih1 h)

theorem erase_perm {α : Type _} : ∀ {l : List α} {i : Nat} (h : i < l.length), (l[i] :: l.eraseIdx i).Perm l
  | [], i, h => by simp at h
  | x :: l, 0, h => by simp
  | x :: l, i + 1, h => by
    simp only [List.getElem_cons_succ, List.eraseIdx_cons_succ]
    exact (List.Perm.swap x _ _).trans (List.Perm.cons x (erase_perm (by simpa using h)))

section
variable {W0 w : World} {L : List HP}
theorem Sat.perm {M : List HP} (h : Sat W0 w L) (hp : L.Perm M) : Sat W0 w M := ⟨h.os, h.out, stars_perm hp h.st⟩
theorem Sat.drop {p : HP} (h : Sat W0 w (p :: L)) : Sat W0 w L := by
  obtain ⟨h1, h2, a, b, c, d, e⟩ := h.st
  exact ⟨h.os, h.out, stars_mono e b⟩
theorem Sat.focus {q : Nat} {p : HP} (h : Sat W0 w L) (hq : L[q]? = some p) : Sat W0 w (p :: L.eraseIdx q) := by
  obtain ⟨hlt, rfl⟩ := List.getElem?_eq_some_iff.1 hq
  exact h.perm (erase_perm hlt).symm
theorem Sat.back {q : Nat} {p p' : HP} (hq : L[q]? = some p') (h : Sat W0 w (p :: L.eraseIdx q)) : Sat W0 w (L.set q p) := by
  have hlt := (List.getElem?_eq_some_iff.1 hq).1
  have hlt' : q < (L.set q p).length := by simpa using hlt
  have h1 := erase_perm hlt'
  rw [List.getElem_set_self, List.eraseIdx_set_eq] at h1
  exact h.perm h1
/-- one chunk for another -/
theorem Sat.turn {q : Nat} {p p' : HP} (h : Sat W0 w L) (hq : L[q]? = some p) (hp : ∀ g, p g → p' g) : Sat W0 w (L.set q p') := by
  obtain ⟨h1, h2, a, b, c, d, e⟩ := (h.focus hq).st
  exact Sat.back hq ⟨h.os, h.out, h1, h2, a, b, c, hp _ d, e⟩
theorem Sat.get {q : Nat} {p : HP} (h : Sat W0 w L) (hq : L[q]? = some p) : ∃ g, subH g (heapOf w) ∧ p g := by
  obtain ⟨h1, h2, a, b, c, d, e⟩ := (h.focus hq).st
  exact ⟨h1, a, d⟩
theorem Sat.drew (h : Sat W0 w L) : Sat W0 w.drew L := ⟨h.os, h.out, h.st⟩
theorem Sat.undrew (h : Sat W0 w.drew L) : Sat W0 w L := ⟨h.os, h.out, h.st⟩
/-- a fact out of a chunk -/
theorem Sat.pure {q : Nat} {p : HP} {c : Prop} (h : Sat W0 w L) (hq : L[q]? = some p) (hc : ∀ g, p g → c) : c := by
  obtain ⟨g, _, hg⟩ := h.get hq
  exact hc g hg
theorem Sat.ex {q : Nat} {α : Type} {p : α → HP} (h : Sat W0 w L) (hq : L[q]? = some (fun g => ∃ x, p x g)) : ∃ x, Sat W0 w (L.set q (p x)) := by
  obtain ⟨h1, h2, a, b, c, ⟨x, d⟩, e⟩ := (h.focus hq).st
  exact ⟨x, Sat.back hq ⟨h.os, h.out, h1, h2, a, b, c, d, e⟩⟩

/-! two in one -/
def star (p q : HP) : HP := fun h => ∃ h1 h2, subH h1 h ∧ subH h2 h ∧ disH h1 h2 ∧ p h1 ∧ q h2
theorem Sat.split {p q : HP} (h : Sat W0 w (star p q :: L)) : Sat W0 w (p :: q :: L) := by
  obtain ⟨h1, h2, a, b, c, ⟨h3, h4, d, e, f, hp, hq⟩, g⟩ := h.st
  refine ⟨h.os, h.out, h3, uniH h4 h2, d.trans a, fun x o hx => ?_, fun x => ?_, hp, h4, h2, fun x o hx => ?_, fun x o hx => ?_, c.sub e (subH.refl _), hq, g⟩
  · unfold uniH at hx
    split at hx
    · rename_i o' ho'; cases hx; exact a _ _ (e _ _ ho')
    · exact b _ _ hx
  · unfold uniH
    rcases f x with h' | h'
    · exact .inl h'
    · rw [h']
      exact c.sub d (subH.refl _) x
  · unfold uniH; rw [hx]
  · unfold uniH
    split
    · rename_i o' ho'
      rcases (c.sub e (subH.refl _)) x with h' | h'
      · rw [ho'] at h'; cases h'
      · rw [hx] at h'; cases h'
    · exact hx
theorem Sat.join {p q : HP} (h : Sat W0 w (p :: q :: L)) : Sat W0 w (star p q :: L) := by
  obtain ⟨h1, h2, a, b, c, hp, h3, h4, d, e, f, hq, hL⟩ := h.st
  refine ⟨h.os, h.out, uniH h1 h3, h4, fun x o hx => ?_, e.trans b, fun x => ?_, ⟨h1, h3, fun x o hx => ?_, fun x o hx => ?_, c.sub (subH.refl _) d, hp, hq⟩, hL⟩
  · unfold uniH at hx
    split at hx
    · rename_i o' ho'; cases hx; exact a _ _ ho'
    · exact b _ _ (d _ _ hx)
  · unfold uniH
    rcases (c.sub (subH.refl _) e) x with h' | h'
    · rw [h']; exact f x
    · exact .inr h'
  · unfold uniH; rw [hx]
  · unfold uniH
    split
    · rename_i o' ho'
      rcases (c.sub (subH.refl _) d) x with h' | h'
      · rw [ho'] at h'; cases h'
      · rw [hx] at h'; cases h'
    · exact hx

/-! chunks -/
/-- block b is just these cells, and none of them is frozen -/
def blk (b : Nat) (cs : List Value) : HP := fun h => ∃ T lo hi, h b = some (.cells cs.toArray T (lo, hi)) ∧ ∀ i, i < cs.length → ¬ (lo ≤ i ∧ i < hi)
/-- all that stood in W stands -/
def old (W : World) : HP := fun h => subH (heapOf W) h

theorem cell_of {w : World} {b o : Nat} {cs : List Value} {T lo hi : Nat} (h : w.heap[b]? = some (.cells cs.toArray T (lo, hi))) : w.cell? ⟨b, o, none⟩ = cs[o]? := by
  unfold World.cell?
  rw [h]
  simp
theorem Sat.cell {q b o : Nat} {cs : List Value} (h : Sat W0 w L) (hq : L[q]? = some (blk b cs)) : w.cell? ⟨b, o, none⟩ = cs[o]? := by
  obtain ⟨g, hg, T, lo, hi, hb, _⟩ := h.get hq
  exact cell_of (hg _ _ hb)
theorem Sat.frozen {q b o : Nat} {cs : List Value} (h : Sat W0 w L) (hq : L[q]? = some (blk b cs)) (ho : o < cs.length) : w.frozen? ⟨b, o, none⟩ = false := by
  obtain ⟨g, hg, T, lo, hi, hb, hf⟩ := h.get hq
  unfold World.frozen?
  have h1 : w.heap[b]? = some (.cells cs.toArray T (lo, hi)) := hg _ _ hb
  simp only [h1]
  have := hf o ho
  cases hd : (decide (lo ≤ o) && decide (o < hi)) with
  | false => rfl
  | true => simp only [Bool.and_eq_true, decide_eq_true_eq] at hd; exact absurd hd this
theorem Sat.cell_old {q : Nat} {W : World} {a : Addr} {v : Value} (h : Sat W0 w L) (hq : L[q]? = some (old W)) (hv : W.cell? a = some v) : w.cell? a = some v := by
  obtain ⟨g, hg, ho⟩ := h.get hq
  unfold World.cell? at hv ⊢
  cases hb : W.heap[a.block]? with
  | none => rw [hb] at hv; cases hv
  | some o =>
    have : w.heap[a.block]? = some o := hg _ _ (ho _ _ hb)
    rw [this]; rw [hb] at hv; exact hv

theorem Sat.set {q b o : Nat} {cs : List Value} {v : Value} (h : Sat W0 w L) (hq : L[q]? = some (blk b cs)) : Sat W0 (w.setCell ⟨b, o, none⟩ v) (L.set q (blk b (cs.set o v))) := by
  obtain ⟨h1, h2, ha, hb, hc, ⟨T, lo, hi, hd, hf⟩, he⟩ := (h.focus hq).st
  apply Sat.back hq
  have hwb : w.heap[b]? = some (.cells cs.toArray T (lo, hi)) := ha _ _ hd
  have hnew : heapOf (w.setCell ⟨b, o, none⟩ v) b = some (.cells (cs.set o v).toArray T (lo, hi)) := by
    simp [heapOf, World.setCell, Array.getElem?_modify, hwb]
  refine ⟨h.os, h.out, fun x => if x = b then some (.cells (cs.set o v).toArray T (lo, hi)) else none, h2, fun x y hx => ?_, fun x y hx => ?_, fun x => ?_, ⟨T, lo, hi, by simp, fun i hi' => hf i (by simpa using hi')⟩, he⟩
  · simp only at hx
    split at hx
    · rename_i hxb; subst hxb; cases hx; exact hnew
    · cases hx
  · have hxb : x ≠ b := by
      intro hxb; subst hxb
      rcases hc x with h' | h'
      · rw [hd] at h'; cases h'
      · rw [hx] at h'; cases h'
    have := hb _ _ hx
    simp only [heapOf, World.setCell, Array.getElem?_modify] at this ⊢
    rw [if_neg (Ne.symm hxb)]
    exact this
  · simp only
    by_cases hxb : x = b
    · subst hxb
      rcases hc x with h' | h'
      · rw [hd] at h'; cases h'
      · exact .inr h'
    · left; rw [if_neg hxb]
theorem Sat.alloc {cs : List Value} {T : TypeId} (h : Sat W0 w L) : Sat W0 (w.alloc (.cells cs.toArray T)) (blk w.heap.size cs :: L) := by
  have hold : subH (heapOf w) (heapOf (w.alloc (.cells cs.toArray T))) := by
    intro x y hx
    simp only [heapOf, World.alloc, Array.getElem?_push] at hx ⊢
    have hlt : x < w.heap.size := (Array.getElem?_eq_some_iff.1 hx).1
    rw [if_neg (by omega)]
    exact hx
  refine ⟨h.os, h.out, fun x => if x = w.heap.size then some (.cells cs.toArray T (0, 0)) else none, heapOf w, fun x y hx => ?_, hold, fun x => ?_, ⟨T, 0, 0, by simp, fun i _ => by omega⟩, h.st⟩
  · simp only at hx
    split at hx
    · rename_i hxb; subst hxb; cases hx; show (w.heap.push _)[w.heap.size]? = _; simp
    · cases hx
  · simp only
    by_cases hxb : x = w.heap.size
    · right; subst hxb; simp [heapOf]
    · left; rw [if_neg hxb]

/-! the texts' words -/
theorem un_of {k : CK} {x : k.ty} (hu : k = .any → isU (k.val x) = false) : k.un (k.val x) = some x := by
  cases k with
  | int k => cases k <;> rfl
  | any => have h := hu rfl; simp only [CK.un, CK.val] at h ⊢; rw [h]; rfl
  | _ => rfl
theorem ld_cell {k : CK} {b o : Nat} {x : k.ty} {K : k.ty → WP} (hc : w.cell? ⟨b, o, none⟩ = some (k.val x)) (hu : k ≠ .any) (hK : K x w) : ld k b o K w := by
  unfold ld
  rw [hc]
  simp only [Option.bind_some, un_of (fun h => absurd h hu)]
  exact hK
theorem ld_at (q : Nat) {k : CK} {b o : Nat} {cs : List Value} {x : k.ty} {K : k.ty → WP} (h : Sat W0 w L) (hq : L[q]? = some (blk b cs)) (hc : cs[o]? = some (k.val x)) (hK : K x w)
    (hu : k ≠ .any := by simp) : ld k b o K w := ld_cell (by rw [h.cell hq]; exact hc) hu hK
theorem ld_old (q : Nat) {k : CK} {b o : Nat} {W : World} {x : k.ty} {K : k.ty → WP} (h : Sat W0 w L) (hq : L[q]? = some (old W)) (hc : W.cell? ⟨b, o, none⟩ = some (k.val x)) (hK : K x w)
    (hu : k ≠ .any := by simp) : ld k b o K w := ld_cell (h.cell_old hq hc) hu hK
theorem st_at (q : Nat) {b o : Nat} {cs : List Value} {v : Value} {K : WP} (h : Sat W0 w L) (hq : L[q]? = some (blk b cs)) (ho : o < cs.length) (hK : ∀ w', Sat W0 w' (L.set q (blk b (cs.set o v))) → K w') : st b o v K w := by
  refine ⟨?_, h.frozen hq ho, hK _ (h.set hq)⟩
  rw [h.cell hq, List.getElem?_eq_getElem ho]; rfl
theorem newB_at {cs : List Value} {T : TypeId} {K : Nat → WP} (h : Sat W0 w L) (hK : ∀ b w', Sat W0 w' (blk b cs :: L) → K b w') : newB cs T K w := hK _ _ h.alloc
theorem nilck_some {b o : Nat} {K : Nat → Nat → WP} (hK : K b o w) : nilck (some ⟨b, o, none⟩) K w := ⟨_, _, rfl, hK⟩
theorem when_of {c : Prop} {K : WP} (hc : c) (hK : K w) : when c K w := ⟨hc, hK⟩
theorem drawW_same {K : (World → Prop) → WP} (hK : K (fun w' => w' = w.drew) w.drew) : drawW K w := ⟨fun w' => w' = w.drew, rfl, hK⟩
theorem drawW_by {K : (World → Prop) → WP} (S : World → Prop) (hS : S w.drew) (hK : K S w.drew) : drawW K w := ⟨S, hS, hK⟩
theorem keep_of {S : World → Prop} {K : WP} (hS : S w) (hK : K w) : keepS true S K w := ⟨hS, hK⟩
theorem ldS_same {k : CK} {b o : Nat} {x : k.ty} {K : k.ty → WP} {w0 : World} (hc : w0.cell? ⟨b, o, none⟩ = some (k.val x)) (hK : K x w) : ldS (fun w' => w' = w0) k b o K w :=
  ⟨x, fun w' hw => by rw [hw]; exact hc, hK⟩
theorem ldS_by {k : CK} {b o : Nat} {S : World → Prop} (x : k.ty) {K : k.ty → WP} (hc : ∀ w', S w' → w'.cell? ⟨b, o, none⟩ = some (k.val x)) (hK : K x w) : ldS S k b o K w := ⟨x, hc, hK⟩
theorem ite_true {b : Bool} {K M : WP} (hb : b = true) (hK : K w) : ite2 b K M w := by subst hb; exact hK
theorem ite_false {b : Bool} {K M : WP} (hb : b = false) (hK : M w) : ite2 b K M w := by subst hb; exact hK
theorem ite_cases {b : Bool} {K M : WP} (h1 : b = true → K w) (h2 : b = false → M w) : ite2 b K M w := by
  cases b
  · exact h2 rfl
  · exact h1 rfl
end
end Go.Hb
