/- A SET OF TEXTS: a map from texts to bools, as a chunk. No program. -/
import Derived.Test.YtnmlaenfaiacfaaSL5
import Derived.Maps.OwnSet
import Derived.Maps.Views
import Derived.StringKeys
set_option linter.unusedVariables false
set_option linter.unusedSimpArgs false
set_option linter.unnecessarySimpa false
set_option linter.unusedSectionVars false
namespace Go.Hb
open Go.Maps Go.WideElems Go.WideMaps Go.MapKept
def sHas (ks : List ByteArray) (q : ByteArray) : Bool := ks.any fun k => decide (k = q)
theorem sHas_iff {ks : List ByteArray} {q : ByteArray} : sHas ks q = true ↔ q ∈ ks := by simp [sHas]
def cellC (b : Nat) (o : Obj) : HP := fun h => h b = some o
section
variable {W0 w : World} {L M : List HP} {b : Nat} {P : Program} {kt et : TypeId} {ks : List ByteArray}
/-- what the map says of its keys -/
structure SetIs (P : Program) (kt et : TypeId) (es : Array MapEntry) (clock : Nat) (ks : List ByteArray) : Prop where
  fit : Fit P kt (plainElem (H := Unit) P et) es clock
  size : es.size ≤ ks.length
  at_ : ∀ q : ByteArray, q.size ≤ maxLen → (DataW.map ((es.toList.map (rg P kt (plainElem (H := Unit) P et))).foldr DataW.insert [])).atKey (.string q.data.toList) (.lit (.bool false)) = .lit (.bool (sHas ks q))
def setC (P : Program) (kt et : TypeId) (b : Nat) (ks : List ByteArray) : HP := fun h => ∃ es clock, h b = some (.map es clock) ∧ SetIs P kt et es clock ks
instance At.setC : At (setC P kt et b ks :: L) b (setC P kt et b ks) (fun x => x :: L) := ⟨here_pos⟩
theorem set_open (h : Sat W0 w (setC P kt et b ks :: M)) : ∃ es clock, SetIs P kt et es clock ks ∧ w.heap[b]? = some (.map es clock) ∧ Sat W0 w (cellC b (.map es clock) :: M) := by
  obtain ⟨es, h⟩ := Sat.ex (q := 0) (p := fun es => fun h : Heap => ∃ clock, h b = some (.map es clock) ∧ SetIs P kt et es clock ks) h rfl
  obtain ⟨clock, h⟩ := Sat.ex (q := 0) (p := fun clock => fun h : Heap => h b = some (.map es clock) ∧ SetIs P kt et es clock ks) h rfl
  have h1 : SetIs P kt et es clock ks := h.pure (q := 0) rfl fun _ hg => hg.2
  have h2 : Sat W0 w (cellC b (.map es clock) :: M) := h.turn (q := 0) rfl fun _ hg => hg.1
  obtain ⟨g, hg, hb⟩ := h2.get (q := 0) rfl
  exact ⟨es, clock, h1, hg _ _ hb, h2⟩
theorem set_shut {es : Array MapEntry} {clock : Nat} (hi : SetIs P kt et es clock ks) (h : Sat W0 w (cellC b (.map es clock) :: M)) : Sat W0 w (setC P kt et b ks :: M) :=
  h.turn (q := 0) rfl fun _ hg => ⟨es, clock, hg, hi⟩
/-- one object for another of the same number; all else stands -/
theorem Sat.swapC {w' : World} {o o' : Obj} (h : Sat W0 w (cellC b o :: L)) (ho : w'.os = w.os) (hu : w'.output = w.output) (hb : w'.heap[b]? = some o') (hk : ∀ x y, x ≠ b → w.heap[x]? = some y → w'.heap[x]? = some y) :
    Sat W0 w' (cellC b o' :: L) := by
  obtain ⟨h1, h2, ha, hb2, hc, hd, he⟩ := h.st
  refine ⟨ho.trans h.os, hu.trans h.out, fun x => if x = b then some o' else none, h2, fun x y hx => ?_, fun x y hx => ?_, fun x => ?_, by simp [cellC], he⟩
  · simp only at hx
    split at hx
    · rename_i hxb; subst hxb; cases hx; exact hb
    · cases hx
  · have hxb : x ≠ b := by
      intro hxb; subst hxb
      rcases hc x with h' | h'
      · have hd : h1 x = some o := hd
        rw [hd] at h'; cases h'
      · rw [hx] at h'; cases h'
    exact hk x y hxb (hb2 _ _ hx)
  · simp only
    by_cases hxb : x = b
    · subst hxb
      rcases hc x with h' | h'
      · have hd : h1 x = some o := hd
        rw [hd] at h'; cases h'
      · exact .inr h'
    · left; rw [if_neg hxb]
theorem Sat.allocC {o : Obj} (h : Sat W0 w L) : Sat W0 (w.alloc o) (cellC w.heap.size o :: L) := by
  have hold : subH (heapOf w) (heapOf (w.alloc o)) := by
    intro x y hx
    simp only [heapOf, World.alloc, Array.getElem?_push] at hx ⊢
    have hlt : x < w.heap.size := (Array.getElem?_eq_some_iff.1 hx).1
    rw [if_neg (by omega)]
    exact hx
  refine ⟨h.os, h.out, fun x => if x = w.heap.size then some o else none, heapOf w, fun x y hx => ?_, hold, fun x => ?_, by simp [cellC], h.st⟩
  · simp only at hx
    split at hx
    · rename_i hxb; subst hxb; cases hx; show (w.heap.push _)[w.heap.size]? = _; simp
    · cases hx
  · simp only
    by_cases hxb : x = w.heap.size
    · right
      subst hxb
      simp [heapOf]
    · left; rw [if_neg hxb]
theorem boolElem_inv {v : Value} {x : Bool} {ps : List MemPlace} (he : P.underlying et = some .bool) (h : plainElem (H := Unit) P et v = some (.lit (.bool x), ps)) : v = .bool x := by
  unfold plainElem at h
  rw [he] at h
  cases v with
  | bool y => simp only [Option.some.injEq, Prod.mk.injEq] at h; have h1 := h.1; injection h1 with h1; injection h1 with h1; rw [h1]
  | _ => simp at h
/-- a set with nothing -/
theorem newM_at {K : Nat → WP} (h : Sat W0 w L) (hK : ∀ b w', Sat W0 w' (setC P kt et b [] :: L) → K b w') : newM K w :=
  hK _ _ (set_shut ⟨⟨by simp, stamped_empty 0, by simp⟩, Nat.le_refl _, fun q _ => by simp [DataW.atKey, sHas]⟩ h.allocC)
theorem mLook_at {t : TypeId} {F : HP → List HP} {q : ByteArray} {K : Bool → WP} (ht : P.underlying t = some (.map kt et)) (hk : P.underlying kt = some .string) (he : P.underlying et = some .bool) (hz : ∀ w : World, (zeroValue et).run P w = .ok (.bool false) w)
    (h : Sat W0 w L) [hA : At L b (setC P kt et b ks) F] (hq : q.size ≤ maxLen) (hK : K (sHas ks q) w) : mLook P t (.map (some b)) (.string q) .bool K w := by
  refine At.one (hA := hA) h fun M hs _ => ?_
  obtain ⟨es, clock, hi, hb, _⟩ := set_open hs
  have hown : w.ownsMap P kt (plainElem (H := Unit) P et) b ks.length _ := ⟨es, clock, hb, hi.fit, hi.size, rfl⟩
  obtain ⟨v, ps, hrun, hv⟩ := hown.lookup (string_keyed hk) ht (hz w) (plainElem_bool he false) (keyOf_string_mk hk hq)
  rw [hi.at_ q hq] at hv
  have hv2 := boolElem_inv he hv
  subst hv2
  exact ⟨_, hrun, hK⟩
theorem mUp_at {t : TypeId} {F : HP → List HP} {q : ByteArray} {K : WP} (ht : P.underlying t = some (.map kt et)) (hk : P.underlying kt = some .string) (he : P.underlying et = some .bool)
    (h : Sat W0 w L) [hA : At L b (setC P kt et b ks) F] (hq : q.size ≤ maxLen) (hn : ks.length < maxLen) (hK : ∀ w', Sat W0 w' (F (setC P kt et b (q :: ks))) → K w') : mUp P t (.map (some b)) (.string q) (.bool true) K w := by
  refine At.one (hA := hA) h fun M hs hb => ?_
  obtain ⟨es, clock, hi, hbl, hs2⟩ := set_open hs
  have hown : w.ownsMap P kt (plainElem (H := Unit) P et) b ks.length _ := ⟨es, clock, hbl, hi.fit, hi.size, rfl⟩
  obtain ⟨w', hrun, ⟨es2, clock2, hb2, hf2, hs3, hD⟩, hg⟩ := hown.update (string_keyed hk) ht hn (keyOf_string_mk hk hq) (plainElem_bool (H := Unit) he true)
  refine ⟨w', hrun, hK _ (hb _ _ (set_shut (es := es2) (clock := clock2) ⟨hf2, hs3, fun p hp => ?_⟩ (hs2.swapC hg.os hg.output hb2 fun x y hx hy => ?_)))⟩
  · rw [← hD]
    by_cases hpq : p = q
    · subst hpq
      rw [atKey_put_same ⟨_, rfl⟩ (by simp [WideAt.IsKeyLit])]
      simp [sHas]
    · rw [atKey_put_other (by
        intro h
        simp only [Lit.string.injEq] at h
        apply hpq
        cases p with | mk p => cases q with | mk q => simp only [ByteArray.mk.injEq]; exact Array.toList_inj.1 h), hi.at_ p hp]
      congr 2
      simp [sHas, Ne.symm hpq]
  · have hlt : x < w.heap.size := (Array.getElem?_eq_some_iff.1 hy).1
    rw [hg.block x hlt (by simpa using hx)]; exact hy
end
end Go.Hb
