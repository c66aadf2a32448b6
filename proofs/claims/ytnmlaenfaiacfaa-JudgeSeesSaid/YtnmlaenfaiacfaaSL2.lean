/- SLICES AS CHUNKS; append, make; calls. No program. -/
import Derived.Test.YtnmlaenfaiacfaaSL
set_option linter.unusedVariables false
set_option linter.unusedSimpArgs false
set_option linter.unnecessarySimpa false
set_option linter.unusedSectionVars false
namespace Go.Hb

/-- slice s, of elements of 'sz' cells, owns its array; its live cells are cs -/
def slcv (sz : Nat) (s : Sl) (cs : List Value) : HP := fun h =>
  (cs.length = s.n * sz ∧ s.n ≤ s.c) ∧ ((s.a = none ∧ s.n = 0 ∧ s.c = 0) ∨ ∃ b o pre tl, s.a = some ⟨b, o, none⟩ ∧ pre.length = o ∧ blk b (pre ++ cs ++ tl) h ∧ (s.c - s.n) * sz ≤ tl.length)

theorem set_get {L : List HP} {q : Nat} {p : HP} (h : q < L.length) : (L.set q p)[q]? = some p := by simp [h]

section
variable {W0 w : World} {L : List HP}

theorem slcv_facts {sz : Nat} {s : Sl} {cs : List Value} {q : Nat} (h : Sat W0 w L) (hq : L[q]? = some (slcv sz s cs)) : cs.length = s.n * sz ∧ s.n ≤ s.c :=
  h.pure hq fun _ hg => hg.1

/-- the chunk laid open -/
theorem Sat.openS {sz : Nat} {s : Sl} {cs : List Value} {q : Nat} {b o : Nat} (h : Sat W0 w L) (hq : L[q]? = some (slcv sz s cs)) (ha : s.a = some ⟨b, o, none⟩) :
    ∃ pre tl, pre.length = o ∧ cs.length = s.n * sz ∧ s.n ≤ s.c ∧ (s.c - s.n) * sz ≤ tl.length ∧ Sat W0 w (L.set q (blk b (pre ++ cs ++ tl))) := by
  obtain ⟨h1, h2, a, b', c, ⟨⟨hl, hn⟩, hd⟩, e⟩ := (h.focus hq).st
  rcases hd with ⟨hd, _⟩ | ⟨b1, o1, pre, tl, hsa, hp, hb, ht⟩
  · rw [hd] at ha; cases ha
  · rw [hsa] at ha
    cases ha
    exact ⟨pre, tl, hp, hl, hn, ht, Sat.back hq ⟨h.os, h.out, h1, h2, a, b', c, hb, e⟩⟩
theorem Sat.shutS {sz : Nat} {s : Sl} {cs pre tl : List Value} {q : Nat} {b o : Nat} (h : Sat W0 w L) (hq : L[q]? = some (blk b (pre ++ cs ++ tl))) (ha : s.a = some ⟨b, o, none⟩) (hp : pre.length = o)
    (hl : cs.length = s.n * sz) (hn : s.n ≤ s.c) (ht : (s.c - s.n) * sz ≤ tl.length) : Sat W0 w (L.set q (slcv sz s cs)) :=
  h.turn hq fun _ hg => ⟨⟨hl, hn⟩, .inr ⟨b, o, pre, tl, ha, hp, hg, ht⟩⟩

theorem idx_at (q : Nat) {sz : Nat} {s : Sl} {cs : List Value} {i : Int} {K : Nat → Nat → WP} (h : Sat W0 w L) (hq : L[q]? = some (slcv sz s cs)) (h0 : 0 ≤ i) (h1 : i < (s.n : Int))
    (hK : ∀ b o, s.a = some ⟨b, o, none⟩ → K b o w) : idx s.a s.n i K w := by
  obtain ⟨g, _, ⟨hl, hn⟩, hd⟩ := h.get hq
  rcases hd with ⟨_, hd, _⟩ | ⟨b, o, pre, tl, hsa, _⟩
  · omega
  · exact ⟨b, o, hsa, ⟨h0, h1⟩, hK b o hsa⟩
theorem slc_cell {q sz : Nat} {s : Sl} {cs : List Value} {b o j : Nat} (h : Sat W0 w L) (hq : L[q]? = some (slcv sz s cs)) (ha : s.a = some ⟨b, o, none⟩) (hj : j < cs.length) : w.cell? ⟨b, o + j, none⟩ = cs[j]? := by
  obtain ⟨pre, tl, hp, _, _, _, h'⟩ := h.openS hq ha
  have hlt := (List.getElem?_eq_some_iff.1 hq).1
  rw [h'.cell (q := q) (set_get hlt)]
  subst hp
  rw [List.append_assoc, List.getElem?_append_right (by omega), List.getElem?_append_left (by simp; omega)]
  simp
theorem ld_slc (q : Nat) {sz : Nat} {s : Sl} {cs : List Value} {k : CK} {b o p j : Nat} {x : k.ty} {K : k.ty → WP} (h : Sat W0 w L) (hq : L[q]? = some (slcv sz s cs)) (ha : s.a = some ⟨b, o, none⟩)
    (hp : p = o + j) (hc : cs[j]? = some (k.val x)) (hK : K x w) (hu : k ≠ .any := by simp) : ld k b p K w := by
  subst hp
  exact ld_cell (by rw [slc_cell h hq ha (List.getElem?_eq_some_iff.1 hc).1]; exact hc) hu hK
theorem st_slc (q : Nat) {sz : Nat} {s : Sl} {cs : List Value} {b o p j : Nat} {v : Value} {K : WP} (h : Sat W0 w L) (hq : L[q]? = some (slcv sz s cs)) (ha : s.a = some ⟨b, o, none⟩)
    (hp : p = o + j) (hj : j < cs.length) (hK : ∀ w', Sat W0 w' (L.set q (slcv sz s (cs.set j v))) → K w') : st b p v K w := by
  subst hp
  obtain ⟨pre, tl, hp, hl, hn, ht, h'⟩ := h.openS hq ha
  have hlt := (List.getElem?_eq_some_iff.1 hq).1
  have hq' : (L.set q (blk b (pre ++ cs ++ tl)))[q]? = some (blk b (pre ++ cs ++ tl)) := by simp [hlt]
  refine st_at q h' hq' (by simp; omega) fun w' h2 => hK w' ?_
  subst hp
  have hset : (pre ++ cs ++ tl).set (pre.length + j) v = pre ++ cs.set j v ++ tl := by
    rw [List.append_assoc, List.set_append_right _ _ (by omega), List.set_append_left _ _ (by simp; omega)]
    simp
  rw [hset] at h2
  have h3 := h2.shutS (q := q) (s := s) (sz := sz) (set_get (by simpa using hlt)) ha rfl (by simpa using hl) hn ht
  simpa using h3

/-- a slice that came in: what it reads, in the old world -/
def Reads (W : World) (sz : Nat) (s : Sl) (cs : List Value) : Prop :=
  cs.length = s.n * sz ∧ ((s.a = none ∧ s.n = 0) ∨ ∃ b o, s.a = some ⟨b, o, none⟩ ∧ ∀ j, j < cs.length → W.cell? ⟨b, o + j, none⟩ = cs[j]?)
theorem idx_old {W : World} {sz : Nat} {s : Sl} {cs : List Value} {i : Int} {K : Nat → Nat → WP} (hr : Reads W sz s cs) (h0 : 0 ≤ i) (h1 : i < (s.n : Int))
    (hK : ∀ b o, s.a = some ⟨b, o, none⟩ → K b o w) : idx s.a s.n i K w := by
  rcases hr.2 with ⟨_, h⟩ | ⟨b, o, hsa, _⟩
  · omega
  · exact ⟨b, o, hsa, ⟨h0, h1⟩, hK b o hsa⟩
theorem ld_olds (q : Nat) {W : World} {sz : Nat} {s : Sl} {cs : List Value} {k : CK} {b o p j : Nat} {x : k.ty} {K : k.ty → WP} (h : Sat W0 w L) (hq : L[q]? = some (old W)) (hr : Reads W sz s cs)
    (ha : s.a = some ⟨b, o, none⟩) (hp : p = o + j) (hc : cs[j]? = some (k.val x)) (hK : K x w) (hu : k ≠ .any := by simp) : ld k b p K w := by
  subst hp
  rcases hr.2 with ⟨h', _⟩ | ⟨b', o', hsa, hcs⟩
  · rw [h'] at ha; cases ha
  · rw [hsa] at ha; cases ha
    exact ld_old q h hq (by rw [hcs j (List.getElem?_eq_some_iff.1 hc).1]; exact hc) hK hu

/-! rows of cells read -/
theorem rdL_of {w : World} {b : Nat} : ∀ (cs : List Value) (o : Nat), (∀ j, j < cs.length → w.cell? ⟨b, o + j, none⟩ = cs[j]?) → rdL w b o cs.length = some cs
  | [], _, _ => rfl
  | c :: cs, o, h => by
    have h0 := h 0 (by simp)
    have ih := rdL_of cs (o + 1) fun j hj => by
      have := h (j + 1) (by simpa using hj)
      rw [show o + 1 + j = o + (j + 1) by omega, this]; simp
    simp only [List.length_cons, rdL]
    rw [show w.cell? ⟨b, o, none⟩ = some c by simpa using h0]
    simp only [ih]
theorem rd_old (q : Nat) {W : World} {sz : Nat} {s : Sl} {cs : List Value} (h : Sat W0 w L) (hq : L[q]? = some (old W)) (hr : Reads W sz s cs) : rdA w s.a (s.n * sz) = some cs := by
  obtain ⟨hl, h'⟩ := hr
  rcases h' with ⟨ha, hn⟩ | ⟨b, o, ha, hc⟩
  · rw [ha]
    have : cs = [] := List.length_eq_zero_iff.1 (by rw [hl, hn]; simp)
    simp [rdA, this]
  · rw [ha, ← hl]
    refine rdL_of cs o fun j hj => ?_
    have h1 := hc j hj
    rw [List.getElem?_eq_getElem hj] at h1 ⊢
    exact h.cell_old hq h1
theorem rd_slc (q : Nat) {sz : Nat} {s : Sl} {cs : List Value} (h : Sat W0 w L) (hq : L[q]? = some (slcv sz s cs)) : rdA w s.a (s.n * sz) = some cs := by
  have hl := (slcv_facts h hq).1
  obtain ⟨g, _, _, hd⟩ := h.get hq
  rcases hd with ⟨ha, hn, _⟩ | ⟨b, o, pre, tl, ha, _⟩
  · rw [ha]
    have : cs = [] := List.length_eq_zero_iff.1 (by rw [hl, hn]; simp)
    simp [rdA, this]
  · rw [ha, ← hl]
    exact rdL_of cs o fun j hj => slc_cell h hq ha hj
theorem rd_blk (q : Nat) {b : Nat} {cs : List Value} {n : Nat} (h : Sat W0 w L) (hq : L[q]? = some (blk b cs)) (hn : n = cs.length) : rdA w (some ⟨b, 0, none⟩) n = some cs := by
  subst hn
  exact rdL_of cs 0 fun j _ => by rw [h.cell hq]; simp

theorem sts_slc (q : Nat) {b : Nat} : ∀ (vs : List Value) (w : World) (L : List HP) (pre mid tl : List Value) (K : WP), Sat W0 w L → L[q]? = some (blk b (pre ++ mid ++ tl)) → mid.length = vs.length →
    (∀ w', Sat W0 w' (L.set q (blk b (pre ++ vs ++ tl))) → K w') → sts vs b pre.length K w
  | [], w, L, pre, mid, tl, K, h, hq, hm, hK => by
    have : mid = [] := List.length_eq_zero_iff.1 (by simpa using hm)
    subst this
    refine hK w ?_
    have := h.turn hq fun _ hg => hg
    exact this
  | v :: vs, w, L, pre, m :: mid, tl, K, h, hq, hm, hK => by
    have hlt := (List.getElem?_eq_some_iff.1 hq).1
    refine st_at q h hq (by simp) fun w' h' => ?_
    have hset : (pre ++ (m :: mid) ++ tl).set pre.length v = (pre ++ [v]) ++ mid ++ tl := by
      rw [List.append_assoc, List.set_append_right _ _ (by omega)]; simp
    rw [hset] at h'
    have := sts_slc q vs w' _ (pre ++ [v]) mid tl K h' (set_get hlt) (by simpa using hm) (fun w2 h2 => hK w2 (by simpa using h2))
    simpa using this

/-- append to an owned slice -/
theorem app_at (q : Nat) {e sz by_ : Nat} {z : List Value} {s : Sl} {cs : List Value} {n : Nat} {new : World → Option (List Value)} {vs : List Value} {K : Sl → WP} (h : Sat W0 w L) (hq : L[q]? = some (slcv sz s cs))
    (hnew : new w = some vs) (hok : okC vs = true) (hvl : vs.length = n * sz) (hz : z.length = sz) (hby : (s.n + n) * by_ ≤ 140737488355328)
    (hK : ∀ s' w', s'.n = s.n + n → s'.n ≤ s'.c → (s'.c = s.c ∧ s'.a = s.a ∨ s.n + n > s.c) → Sat W0 w' (L.set q (slcv sz s' (cs ++ vs))) → K s' w') : appendC e sz by_ z s n new K w := by
  have hlt := (List.getElem?_eq_some_iff.1 hq).1
  obtain ⟨hl, hn⟩ := slcv_facts h hq
  refine ⟨vs, hnew, hok, ?_⟩
  by_cases hle : s.n + n ≤ s.c
  · rw [if_pos hle]
    cases ha : s.a with
    | none =>
      obtain ⟨g, _, _, hd⟩ := h.get hq
      rcases hd with ⟨_, hn0, hc0⟩ | ⟨b, o, pre, tl, hsa, _⟩
      · have hn1 : n = 0 := by omega
        subst hn1
        have hv : vs = [] := List.length_eq_zero_iff.1 (by simpa using hvl)
        subst hv
        show K ⟨none, s.n + 0, s.c⟩ w
        refine hK _ w rfl (by simp; omega) (.inl ⟨rfl, ha.symm⟩) ?_
        refine h.turn hq fun g hg => ?_
        obtain ⟨⟨h1, h2⟩, h3⟩ := hg
        refine ⟨⟨by simpa using h1, by simpa using h2⟩, .inl ⟨rfl, by simpa using hn0, hc0⟩⟩
      · rw [hsa] at ha; cases ha
    | some a =>
      obtain ⟨b, o, hao⟩ : ∃ b o, a = ⟨b, o, none⟩ := by
        obtain ⟨g, _, _, hd⟩ := h.get hq
        rcases hd with ⟨hd, _⟩ | ⟨b, o, pre, tl, hsa, _⟩
        · rw [hd] at ha; cases ha
        · rw [hsa] at ha; cases ha; exact ⟨b, o, rfl⟩
      subst hao
      obtain ⟨pre, tl, hp, _, _, ht, h'⟩ := h.openS hq ha
      subst hp
      have htl : n * sz ≤ tl.length := Nat.le_trans (Nat.mul_le_mul_right _ (by omega)) ht
      have hsplit : pre ++ cs ++ tl = (pre ++ cs) ++ tl.take (n * sz) ++ tl.drop (n * sz) := by simp
      rw [hsplit] at h'
      show sts vs b (pre.length + s.n * sz) _ w
      have := sts_slc (W0 := W0) q vs w _ (pre ++ cs) (tl.take (n * sz)) (tl.drop (n * sz)) (K ⟨s.a, s.n + n, s.c⟩) h' (set_get hlt) (by simp [hvl]; omega) (fun w' h2 => by
        refine hK _ w' rfl (by simpa using hle) (.inl ⟨rfl, rfl⟩) ?_
        have h3 := h2.shutS (q := q) (s := ⟨s.a, s.n + n, s.c⟩) (sz := sz) (pre := pre) (cs := cs ++ vs) (tl := tl.drop (n * sz)) (b := b) (o := pre.length) (by have := set_get (L := L.set q (blk b (pre ++ cs ++ List.take (n * sz) tl ++ List.drop (n * sz) tl))) (q := q) (p := blk b (pre ++ cs ++ vs ++ tl.drop (n * sz))) (by simpa using hlt); simpa using this) ha rfl
          (by simp [hl, hvl, Nat.add_mul]) (by simpa using hle) (by
            simp only [List.length_drop]
            have h5 : (s.c - (s.n + n)) * sz + n * sz = (s.c - s.n) * sz := by rw [← Nat.add_mul]; congr 1; omega
            omega)
        simpa using h3)
      rw [ha] at this
      simpa [hl] using this
  · rw [if_neg hle]
    refine ⟨growslice_fits (by omega) hby, cs, rd_slc q h hq, fun N hN => ?_⟩
    refine hK _ _ rfl (by simpa using hN) (.inr (by omega)) ?_
    have h1 := (h.drew).focus hq
    have h2 := (h1.drop).alloc (cs := cs ++ vs ++ zrow z (N - (s.n + n))) (T := e)
    have h3 := Sat.back (q := q) hq h2
    have h4 := h3.turn (q := q) (p' := slcv sz ⟨some ⟨w.heap.size, 0, none⟩, s.n + n, N⟩ (cs ++ vs)) (set_get hlt) fun g hg =>
      ⟨⟨by simp [hl, hvl, Nat.add_mul], hN⟩, .inr ⟨_, 0, [], zrow z (N - (s.n + n)), rfl, rfl, by simpa using hg, by rw [length_zrow, hz]; exact Nat.le_refl _⟩⟩
    simpa using h4

theorem newS_at {e sz : Nat} {cs : List Value} {n : Nat} {K : Nat → WP} (h : Sat W0 w L) (hl : cs.length = n * sz)
    (hK : ∀ b w', Sat W0 w' (slcv sz ⟨some ⟨b, 0, none⟩, n, n⟩ cs :: L) → K b w') : newB cs e K w :=
  newB_at h fun b w' h' => hK b w' (h'.turn (q := 0) rfl fun g hg => ⟨⟨hl, Nat.le_refl _⟩, .inr ⟨b, 0, [], [], rfl, rfl, by simpa using hg, by simp⟩⟩)
theorem nilS {sz : Nat} (h : Sat W0 w L) : Sat W0 w (slcv sz ⟨none, 0, 0⟩ [] :: L) :=
  ⟨h.os, h.out, fun _ => none, heapOf w, (fun _ _ hx => by cases hx), subH.refl _, fun _ => .inl rfl, ⟨⟨by simp, by simp⟩, .inl ⟨rfl, rfl, rfl⟩⟩, h.st⟩
theorem make_at {e by_ sz : Nat} {z : List Value} {l c : Int} {K : Sl → WP} (h : Sat W0 w L) (hz : z.length = sz) (h0 : 0 ≤ l) (h1 : l ≤ c) (h2 : c ≤ 4611686018427387904) (h3 : (by_ : Int) * c ≤ 281474976710656)
    (hK : ∀ s w', s.n = l.toNat → s.c = c.toNat → s.a ≠ none → Sat W0 w' (slcv sz s (zrow z l.toNat) :: L) → K s w') : makeC e by_ z l c K w := by
  refine ⟨⟨h0, h1, h2, h3⟩, ?_⟩
  refine newB_at h fun b w' h' => hK _ w' rfl rfl (by simp) ?_
  have hsplit : zrow z c.toNat = zrow z l.toNat ++ zrow z (c.toNat - l.toNat) := by
    have : ∀ a b, zrow z (a + b) = zrow z a ++ zrow z b := by
      intro a b
      induction a with
      | zero => simp [zrow]
      | succ a ih => rw [Nat.succ_add]; simp [zrow, ih]
    rw [← this]; congr 1; omega
  rw [hsplit] at h'
  exact h'.turn (q := 0) rfl fun g hg => ⟨⟨by rw [length_zrow, hz], by simp; omega⟩, .inr ⟨b, 0, [], zrow z (c.toNat - l.toNat), rfl, rfl, by simpa using hg, by rw [length_zrow, hz]; exact Nat.le_refl _⟩⟩

/-! calls -/
variable {P : Program} {f : FuncId} {args : List Value}
theorem call0_of {K : WP} {R : Ending → World → Prop} (hC : Calls P f args.toArray w R) (hR : ∀ e w', R e w' → e = .returned (.tuple #[]) ∧ K w') : call0 P f args K w := hC.mono hR
theorem call1_of {k : CK} {K : k.ty → WP} {R : Ending → World → Prop} (hC : Calls P f args.toArray w R) (hR : ∀ e w', R e w' → ∃ x, e = .returned (k.val x) ∧ K x w') : call1 k P f args K w := hC.mono hR
theorem call2_of {k l : CK} {K : k.ty → l.ty → WP} {R : Ending → World → Prop} (hC : Calls P f args.toArray w R) (hR : ∀ e w', R e w' → ∃ x y, e = .returned (.tuple #[k.val x, l.val y]) ∧ K x y w') :
    call2 k l P f args K w := hC.mono hR
/-- a contract over one chunk, wherever it stands -/
theorem lift1 {q : Nat} {c : HP} {R : Ending → HP → Prop} (hq : L[q]? = some c) (h : Sat W0 w L)
    (hC : ∀ M, Sat W0 w (c :: M) → Calls P f args.toArray w fun e w' => ∃ c', R e c' ∧ Sat W0 w' (c' :: M)) :
    Calls P f args.toArray w fun e w' => ∃ c', R e c' ∧ Sat W0 w' (L.set q c') :=
  (hC _ (h.focus hq)).mono fun _ _ ⟨c', hr, hs⟩ => ⟨c', hr, Sat.back hq hs⟩
end
end Go.Hb
