/- A BLOCK AND ITS TYPE; a row of bytes that grows; strings.Builder. No program. -/
import Derived.Test.YtgmhoenmhnlojaaSL5
set_option linter.unusedVariables false
set_option linter.unusedSimpArgs false
set_option linter.unnecessarySimpa false
set_option linter.unusedSectionVars false
namespace Go.Hb
def blkT (T : TypeId) (b : Nat) (cs : List Value) : HP := fun h => h b = some (.cells cs.toArray T (0, 0))
section
variable {W0 w : World} {L : List HP} {T : TypeId} {b : Nat} {cs : List Value}
theorem Sat.headT (h : Sat W0 w (blkT T b cs :: L)) : w.heap[b]? = some (.cells cs.toArray T (0, 0)) := by
  obtain ⟨g, hg, hb⟩ := h.get (q := 0) rfl
  exact hg _ _ hb
theorem Sat.unT (h : Sat W0 w (blkT T b cs :: L)) : Sat W0 w (blk b cs :: L) := h.turn (q := 0) rfl fun g hg => ⟨T, 0, 0, hg, fun i _ => by omega⟩
/-- one block for another of the same number; all else stands -/
theorem Sat.swapT {w' : World} {cs' : List Value} (h : Sat W0 w (blkT T b cs :: L)) (ho : w'.os = w.os) (hu : w'.output = w.output) (hb : w'.heap[b]? = some (.cells cs'.toArray T (0, 0))) (hk : ∀ x o, x ≠ b → w.heap[x]? = some o → w'.heap[x]? = some o) :
    Sat W0 w' (blkT T b cs' :: L) := by
  obtain ⟨h1, h2, ha, hb2, hc, hd, he⟩ := h.st
  refine ⟨ho.trans h.os, hu.trans h.out, fun x => if x = b then some (.cells cs'.toArray T (0, 0)) else none, h2, fun x y hx => ?_, fun x y hx => ?_, fun x => ?_, by simp [blkT], he⟩
  · simp only at hx
    split at hx
    · rename_i hxb; subst hxb; cases hx; exact hb
    · cases hx
  · have hxb : x ≠ b := by
      intro hxb; subst hxb
      rcases hc x with h' | h'
      · rw [hd] at h'; cases h'
      · rw [hx] at h'; cases h'
    exact hk x y hxb (hb2 _ _ hx)
  · simp only
    by_cases hxb : x = b
    · subst hxb
      rcases hc x with h' | h'
      · rw [hd] at h'; cases h'
      · exact .inr h'
    · left; rw [if_neg hxb]
/-- a block that is given up -/
theorem Sat.loseT {w' : World} (h : Sat W0 w (blkT T b cs :: L)) (ho : w'.os = w.os) (hu : w'.output = w.output) (hk : ∀ x o, x ≠ b → w.heap[x]? = some o → w'.heap[x]? = some o) : Sat W0 w' L := by
  obtain ⟨h1, h2, ha, hb2, hc, hd, he⟩ := h.st
  refine ⟨ho.trans h.os, hu.trans h.out, stars_mono he fun x y hx => ?_⟩
  have hxb : x ≠ b := by
    intro hxb; subst hxb
    rcases hc x with h' | h'
    · rw [hd] at h'; cases h'
    · rw [hx] at h'; cases h'
  exact hk x y hxb (hb2 _ _ hx)
theorem Sat.setT {o : Nat} {v : Value} (h : Sat W0 w (blkT T b cs :: L)) : Sat W0 (w.setCell ⟨b, o, none⟩ v) (blkT T b (cs.set o v) :: L) := by
  have hb := h.headT
  refine h.swapT rfl rfl (by simp [World.setCell, Array.getElem?_modify, hb]) fun x y hx hy => ?_
  simp only [World.setCell, Array.getElem?_modify]
  rw [if_neg (Ne.symm hx)]; exact hy
theorem Sat.allocT (h : Sat W0 w L) : Sat W0 (w.alloc (.cells cs.toArray T)) (blkT T w.heap.size cs :: L) := by
  have hold : subH (heapOf w) (heapOf (w.alloc (.cells cs.toArray T))) := by
    intro x y hx
    simp only [heapOf, World.alloc, Array.getElem?_push] at hx ⊢
    have hlt : x < w.heap.size := (Array.getElem?_eq_some_iff.1 hx).1
    rw [if_neg (by omega)]
    exact hx
  refine ⟨h.os, h.out, fun x => if x = w.heap.size then some (.cells cs.toArray T (0, 0)) else none, heapOf w, fun x y hx => ?_, hold, fun x => ?_, by simp [blkT], h.st⟩
  · simp only at hx
    split at hx
    · rename_i hxb; subst hxb; cases hx; show (w.heap.push _)[w.heap.size]? = _; simp
    · cases hx
  · simp only
    by_cases hxb : x = w.heap.size
    · right; subst hxb; simp [heapOf]
    · left; rw [if_neg hxb]
theorem newB_T {K : Nat → WP} (h : Sat W0 w L) (hK : ∀ b w', Sat W0 w' (blkT T b cs :: L) → K b w') : newB cs T K w := hK _ _ h.allocT
theorem stsT : ∀ (vs : List Value) (w : World) (pre mid tl : List Value) (K : WP), Sat W0 w (blkT T b (pre ++ mid ++ tl) :: L) → mid.length = vs.length →
    (∀ w', Sat W0 w' (blkT T b (pre ++ vs ++ tl) :: L) → K w') → sts vs b pre.length K w
  | [], w, pre, mid, tl, K, h, hm, hK => by
    have : mid = [] := List.length_eq_zero_iff.1 (by simpa using hm)
    subst this
    exact hK w h
  | v :: vs, w, pre, m :: mid, tl, K, h, hm, hK => by
    have hc := h.unT.cell (q := 0) rfl (o := pre.length)
    refine ⟨?_, h.unT.frozen (q := 0) rfl (by simp), ?_⟩
    · rw [hc, List.getElem?_eq_getElem (by simp)]; rfl
    have h' := h.setT (o := pre.length) (v := v)
    have hset : (pre ++ (m :: mid) ++ tl).set pre.length v = (pre ++ [v]) ++ mid ++ tl := by
      rw [List.append_assoc, List.set_append_right _ _ (by omega)]; simp
    rw [hset] at h'
    have := stsT vs _ (pre ++ [v]) mid tl K h' (by simpa using hm) (fun w2 h2 => hK w2 (by simpa using h2))
    simpa using this
/-- a row of one-cell values, of type e -/
def bufR (e : TypeId) (s : Sl) (cs : List Value) : HP := fun h => (cs.length = s.n ∧ s.n ≤ s.c) ∧ ((s.a = none ∧ s.n = 0 ∧ s.c = 0) ∨ ∃ g tl, s.a = some ⟨g, 0, none⟩ ∧ blkT e g (cs ++ tl) h ∧ s.c - s.n ≤ tl.length)
theorem nilB {e : TypeId} (h : Sat W0 w L) : Sat W0 w (bufR e ⟨none, 0, 0⟩ [] :: L) :=
  ⟨h.os, h.out, fun _ => none, heapOf w, (fun _ _ hx => by cases hx), subH.refl _, fun _ => .inl rfl, ⟨⟨by simp, by simp⟩, .inl ⟨rfl, rfl, rfl⟩⟩, h.st⟩
theorem bufR_open {e : TypeId} {s : Sl} {g : Nat} (h : Sat W0 w (bufR e s cs :: L)) (ha : s.a = some ⟨g, 0, none⟩) : ∃ tl, s.c - s.n ≤ tl.length ∧ Sat W0 w (blkT e g (cs ++ tl) :: L) := by
  obtain ⟨h1, h2, a, b', c, ⟨_, hd⟩, he⟩ := h.st
  rcases hd with ⟨hd, _⟩ | ⟨g1, tl, hsa, hb, ht⟩
  · rw [hd] at ha; cases ha
  · rw [hsa] at ha; cases ha
    exact ⟨tl, ht, h.os, h.out, h1, h2, a, b', c, hb, he⟩
theorem bufR_facts {e : TypeId} {s : Sl} (h : Sat W0 w (bufR e s cs :: L)) : cs.length = s.n ∧ s.n ≤ s.c := h.pure (q := 0) rfl fun _ hg => hg.1
theorem app_T {e by_ n : Nat} {z : List Value} {s : Sl} {new : World → Option (List Value)} {vs : List Value} {K : Sl → WP} (h : Sat W0 w (bufR e s cs :: L)) (hnew : new w = some vs) (hok : okC vs = true) (hvl : vs.length = n) (hz : z.length = 1) (hby : (s.n + n) * by_ ≤ 140737488355328)
    (hK : ∀ s' w', s'.n = s.n + n → Sat W0 w' (bufR e s' (cs ++ vs) :: L) → K s' w') : appendC e 1 by_ z s n new K w := by
  obtain ⟨hl, hn⟩ := bufR_facts h
  refine ⟨vs, hnew, hok, ?_⟩
  by_cases hle : s.n + n ≤ s.c
  · rw [if_pos hle]
    cases ha : s.a with
    | none =>
      obtain ⟨g, _, _, hd⟩ := h.get (q := 0) rfl
      rcases hd with ⟨_, hn0, hc0⟩ | ⟨g1, tl, hsa, _⟩
      · have hn1 : n = 0 := by omega
        subst hn1
        have hv : vs = [] := List.length_eq_zero_iff.1 hvl
        subst hv
        refine hK _ w (by simp) ?_
        refine h.turn (q := 0) rfl fun g hg => ?_
        exact ⟨⟨by simpa using hl, by simpa using hn⟩, .inl ⟨rfl, by simpa using hn0, hc0⟩⟩
      · rw [hsa] at ha; cases ha
    | some a =>
      obtain ⟨g, hao⟩ : ∃ g, a = ⟨g, 0, none⟩ := by
        obtain ⟨g, _, _, hd⟩ := h.get (q := 0) rfl
        rcases hd with ⟨hd, _⟩ | ⟨g, tl, hsa, _⟩
        · rw [hd] at ha; cases ha
        · rw [hsa] at ha; cases ha; exact ⟨g, rfl⟩
      subst hao
      obtain ⟨tl, ht, h'⟩ := bufR_open h ha
      have hsplit : cs ++ tl = cs ++ tl.take n ++ tl.drop n := by simp
      rw [hsplit] at h'
      have := stsT (W0 := W0) vs w cs (tl.take n) (tl.drop n) (K ⟨s.a, s.n + n, s.c⟩) h' (by simp [hvl]; omega) (fun w' h2 => by
        refine hK _ w' rfl ?_
        refine h2.turn (q := 0) rfl fun g0 hg => ⟨⟨by simp [hl, hvl], hle⟩, .inr ⟨g, tl.drop n, ha, hg, by simp; omega⟩⟩)
      rw [ha] at this
      simp only [stA, Nat.mul_one, Nat.zero_add]
      rw [← hl]
      rw [← hl] at this
      exact this
  · rw [if_neg hle]
    have hrd : rdA w s.a (s.n * 1) = some cs := by
      rw [Nat.mul_one]
      obtain ⟨g, _, _, hd⟩ := h.get (q := 0) rfl
      rcases hd with ⟨ha, hn0, _⟩ | ⟨g, tl, hsa, _⟩
      · rw [ha]
        have : cs = [] := List.length_eq_zero_iff.1 (by omega)
        simp [rdA, this]
      · obtain ⟨tl, _, h'⟩ := bufR_open h hsa
        rw [hsa, ← hl]
        exact rdL_of cs 0 fun j hj => by rw [h'.unT.cell (q := 0) rfl, Nat.zero_add]; exact List.getElem?_append_left hj
    refine ⟨growslice_fits (by omega) hby, cs, hrd, fun N hN => ?_⟩
    refine hK _ _ rfl ?_
    have h2 := (h.drew.drop).allocT (cs := cs ++ vs ++ zrow z (N - (s.n + n))) (T := e)
    exact h2.turn (q := 0) rfl fun g hg => ⟨⟨by simp [hl, hvl], hN⟩, .inr ⟨w.heap.size, zrow z (N - (s.n + n)), rfl, hg, by rw [length_zrow, hz]; simp⟩⟩
end
/-- a builder: fresh, or written -/
def bldR (TB e : TypeId) (b : Nat) (cs : List Value) : HP := fun h => (cs = [] ∧ blkT TB b [.pointer none, .slice none 0 0] h) ∨ ∃ s : Sl, star (blk b [.pointer (some ⟨b, 0, none⟩), .slice s.a s.n s.c]) (bufR e s cs) h
end Go.Hb
