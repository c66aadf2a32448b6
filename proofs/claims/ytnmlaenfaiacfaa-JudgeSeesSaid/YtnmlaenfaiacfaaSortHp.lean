/- A row of texts sorted in place: the sort's contract over a chunk. No program. -/
import Derived.Test.YtnmlaenfaiacfaaIndexHp
import Derived.Sort.EncStr
import Derived.Sort.Grow
import Derived.Sort.Walk0
set_option linter.unusedVariables false
set_option linter.unusedSimpArgs false
set_option linter.unnecessarySimpa false
set_option linter.unusedSectionVars false
namespace Go.Hb
open Go.Sort Go.Proofs
section
variable {W0 w w' : World} {L M : List HP} {F : HP → List HP} {b : Nat}
theorem Sat.write {cs cs' : List Value} (h : Sat W0 w (blk b cs :: M)) (ho : w'.os = w.os) (hu : w'.output = w.output) (hoth : ∀ x o, x ≠ b → w.heap[x]? = some o → w'.heap[x]? = some o)
    (hb : ∀ T fr, w.heap[b]? = some (.cells cs.toArray T fr) → w'.heap[b]? = some (.cells cs'.toArray T fr)) (hl : cs'.length = cs.length) : Sat W0 w' (blk b cs' :: M) := by
  obtain ⟨h1, h2, ha, hb2, hc, ⟨T, lo, hi, hd, hf⟩, he⟩ := h.st
  have hwb : w.heap[b]? = some (.cells cs.toArray T (lo, hi)) := ha _ _ hd
  have hnew := hb _ _ hwb
  refine ⟨by rw [ho]; exact h.os, by rw [hu]; exact h.out, fun x => if x = b then some (.cells cs'.toArray T (lo, hi)) else none, h2, fun x y hx => ?_, fun x y hx => ?_, fun x => ?_, ⟨T, lo, hi, by simp, fun i hi' => hf i (by omega)⟩, he⟩
  · simp only at hx
    split at hx
    · rename_i hxb; subst hxb; cases hx; exact hnew
    · cases hx
  · have hxb : x ≠ b := by
      intro hxb; subst hxb
      rcases hc x with h' | h'
      · rw [hd] at h'; cases h'
      · rw [hx] at h'; cases h'
    exact hoth x y hxb (hb2 _ _ hx)
  · simp only
    by_cases hxb : x = b
    · subst hxb
      rcases hc x with h' | h'
      · rw [hd] at h'; cases h'
      · exact .inr h'
    · left; rw [if_neg hxb]
def txL (k : ByteArray) : List UInt8 := k.data.toList
def txB (l : List UInt8) : ByteArray := ⟨l.toArray⟩
theorem txB_L (k : ByteArray) : txB (txL k) = k := by unfold txB txL; simp
theorem txL_B (l : List UInt8) : txL (txB l) = l := by unfold txB txL; simp
def sortK (l : List ByteArray) : List ByteArray := ((l.map txL).mergeSort fun x y => decide (x ≤ y)).map txB
theorem flat_keys (l : List (List UInt8)) : Rec.str.flat (l.map txB) = l.map encStr := by
  unfold Rec.flat Rec.str
  induction l with
  | nil => rfl
  | cons x l ih => simp only [List.map_cons, List.flatten_cons]; rw [ih]; rfl
theorem put_row {pre cs tl : List Value} {d : List (List UInt8)} (hl : d.length = cs.length) : putCells encStr pre.length d.toArray (pre ++ cs ++ tl).toArray = (pre ++ d.map encStr ++ tl).toArray := by
  unfold putCells
  apply Array.ext_getElem?
  intro i
  simp only [Array.getElem?_mapIdx, List.getElem?_toArray, List.size_toArray]
  by_cases h1 : i < pre.length
  · rw [List.getElem?_append_left (by simp; omega), List.getElem?_append_left h1, List.getElem?_append_left (by simp; omega), List.getElem?_append_left h1, List.getElem?_eq_getElem h1]
    simp only [Option.map_some]
    rw [if_neg (by omega)]
  · by_cases h2 : i < pre.length + cs.length
    · rw [List.getElem?_append_left (by simp; omega), List.getElem?_append_right (by omega), List.getElem?_append_left (by simp; omega), List.getElem?_append_right (by omega), List.getElem?_eq_getElem (by omega), List.getElem?_map, List.getElem?_eq_getElem (by omega)]
      simp only [Option.map_some]
      rw [if_pos (by omega), getElem!_pos _ _ (by simp; omega)]
      simp
    · rw [List.getElem?_append_right (by simp; omega), List.getElem?_append_right (by simp; omega)]
      simp only [List.length_append, List.length_map, hl]
      cases tl[i - (pre.length + cs.length)]? with
      | none => rfl
      | some v => simp only [Option.map_some]; rw [if_neg (by omega)]
/-- the contract of a sort, over its chunk -/
theorem sort_wrap {P : Program} {f : FuncId} {s : Sl} {keys : List ByteArray}
    (hC : ∀ (blk off cap : Nat) (ss : List (List UInt8)) (w : World), Holds encStr w blk off ss.toArray → blk < w.heap.size → ss.length < 4611686018427387904 →
      Calls P f #[.slice (some ⟨blk, off, none⟩) ss.length cap] w fun e w' => e = .returned (.tuple #[]) ∧ ∃ n os, w' = grow (putRow encStr (Sort.ahead w n) blk off (ss.mergeSort fun x y => decide (x ≤ y)).toArray) os)
    (hN : ∀ (cap : Nat) (w : World), Calls P f #[.slice none 0 cap] w fun e w' => e = .returned (.tuple #[]) ∧ w' = w)
    (h : Sat W0 w L) [hA : AtS L s (recs Rec.str s keys) F] (hk : keys.length < 4611686018427387904) : Calls P f #[.slice s.a s.n s.c] w fun e w' => e = .returned (.tuple #[]) ∧ Sat W0 w' (F (recs Rec.str s (sortK keys))) := by
  have hn := (recs_len (hA := hA) h).1
  refine AtS.one (hA := hA) h fun M h hb => ?_
  obtain ⟨g, _, ⟨h1, h2⟩, h3⟩ := h.get (q := 0) rfl
  have hsl : (sortK keys).length = keys.length := by simp [sortK]
  rcases h3 with ⟨ha, hn0, _⟩ | ⟨b, o, pre0, tl0, ha, _⟩
  · have hk0 : keys = [] := List.length_eq_zero_iff.1 (by omega)
    subst hk0
    rw [ha, hn0]
    exact (hN _ w).mono fun e w' ⟨he, hw⟩ => ⟨he, by subst hw; rw [show sortK [] = [] by simp [sortK]]; exact hb _ _ h⟩
  · obtain ⟨pre, tl, hp, hl, hsn, ht, h4⟩ := Sat.openS (q := 0) h rfl ha
    subst hp
    have h4 : Sat W0 w (blk b (pre ++ Rec.str.flat keys ++ tl) :: M) := h4
    have hfl : (Rec.str.flat keys).length = keys.length := by rw [Rec.flat_length]; simp [Rec.str]
    have hblk : b < w.heap.size := by
      obtain ⟨g, hg, T, lo, hi, hb0, _⟩ := h4.get (q := 0) rfl
      exact (Array.getElem?_eq_some_iff.1 (hg _ _ hb0)).1
    have hH : Holds encStr w b pre.length (keys.map txL).toArray := by
      intro j hj
      have hj : j < keys.length := by simpa using hj
      refine ⟨?_, h4.frozen (q := 0) rfl (by simp [hfl]; omega)⟩
      rw [h4.cell (q := 0) rfl, List.append_assoc, List.getElem?_append_right (by omega), List.getElem?_append_left (by rw [hfl]; omega)]
      have := Rec.flat_get (E := Rec.str) (rows := keys) (i := j) (j := 0) (List.getElem?_eq_getElem hj) (by decide)
      have hj2 : j * Rec.str.sz + 0 = j := by show j * 1 + 0 = j; omega
      rw [hj2] at this
      rw [Nat.add_sub_cancel_left, this, getElem!_pos _ _ (by simpa using hj)]
      simp only [List.getElem_toArray, List.getElem_map]
      show some (Value.string keys[j]) = some (Value.string (txB (txL keys[j])))
      rw [txB_L]
    rw [ha, hn, ← List.length_map (f := txL)]
    refine (hC b pre.length s.c (keys.map txL) w hH hblk (by simpa using hk)).mono fun e w' ⟨he, n, os, hw⟩ => ⟨he, ?_⟩
    have hd : ((keys.map txL).mergeSort fun x y => decide (x ≤ y)).length = (Rec.str.flat keys).length := by simp [hfl]
    have h5 : Sat W0 w' (blk b (pre ++ ((keys.map txL).mergeSort fun x y => decide (x ≤ y)).map encStr ++ tl) :: M) := by
      subst hw
      refine Sat.write h4 rfl rfl (fun x o hx ho => ?_) (fun T fr hT => ?_) (by simp [hfl])
      · unfold grow putRow mapBlock
        simp only [Sort.ahead]
        have hlt := (Array.getElem?_eq_some_iff.1 ho).1
        rw [Array.getElem?_append_left (by simpa using hlt), Array.getElem?_modify, if_neg (Ne.symm hx)]
        exact ho
      · unfold grow putRow mapBlock
        simp only [Sort.ahead]
        rw [Array.getElem?_append_left (by simpa using hblk), Array.getElem?_modify, if_pos rfl, hT]
        simp only [Option.map_some, onCells]
        rw [put_row hd]
    rw [← flat_keys] at h5
    have h6 := h5.shutS (q := 0) (s := s) (sz := 1) rfl ha rfl (by show (Rec.str.flat (sortK keys)).length = _; rw [Rec.flat_length, hsl, hn]; rfl) hsn ht
    exact hb _ _ h6
end
/-! the order of keys -/
theorem sLt_eq (a b : ByteArray) : sLt a b = decide (txL a < txL b) := by
  unfold sLt txL
  rw [ByteArray.toList_eq, ByteArray.toList_eq, bytesLess_eq]
theorem txL_inj {a b : ByteArray} (h : txL a = txL b) : a = b := by
  rw [← txB_L a, ← txB_L b, h]
/-- keys that rise -/
def Rising (l : List ByteArray) : Prop := l.Pairwise fun a b => txL a < txL b
theorem Rising.nodup {l : List ByteArray} (h : Rising l) : l.Nodup := by
  refine List.Pairwise.imp (fun {a b} hab => ?_) h
  rintro rfl
  exact absurd hab (List.lt_irrefl _)
theorem perm_rising_eq : ∀ {l l' : List ByteArray}, l.Pairwise (fun a b => txL a ≤ txL b) → l'.Pairwise (fun a b => txL a ≤ txL b) → l.Perm l' → l = l'
  | [], l', _, _, hp => (List.nil_perm.1 hp).symm
  | a :: l, [], _, _, hp => absurd hp.symm (by simp)
  | a :: l, b :: l', h, h', hp => by
    simp only [List.pairwise_cons] at h h'
    have hab : txL a = txL b := by
      have h1 : b ∈ a :: l := hp.symm.subset (by simp)
      have h2 : a ∈ b :: l' := hp.subset (by simp)
      have h3 : txL a ≤ txL b := by
        rcases List.mem_cons.1 h1 with rfl | h1
        · exact List.le_refl _
        · exact h.1 b h1
      have h4 : txL b ≤ txL a := by
        rcases List.mem_cons.1 h2 with rfl | h2
        · exact List.le_refl _
        · exact h'.1 a h2
      exact List.le_antisymm h3 h4
    have := txL_inj hab
    subst this
    rw [perm_rising_eq h.2 h'.2 (List.Perm.cons_inv hp)]
theorem sortK_perm (l : List ByteArray) : (sortK l).Perm l := by
  unfold sortK
  have := (List.mergeSort_perm (l.map txL) fun x y => decide (x ≤ y)).map txB
  refine this.trans ?_
  have e : (l.map txL).map txB = l := by
    rw [List.map_map]; conv => rhs; rw [← List.map_id l]
    exact List.map_congr_left fun a _ => txB_L a
  rw [e]
theorem sortK_sorted (l : List ByteArray) : (sortK l).Pairwise fun a b => txL a ≤ txL b := by
  unfold sortK
  rw [List.pairwise_map]
  have := List.pairwise_mergeSort (le := fun x y : List UInt8 => decide (x ≤ y)) (fun a b c h1 h2 => by simp only [decide_eq_true_eq] at *; exact List.le_trans h1 h2) (fun a b => by simp only [Bool.or_eq_true, decide_eq_true_eq]; exact List.le_total a b) (l.map txL)
  refine List.Pairwise.imp (fun {a b} h => ?_) this
  rw [txL_B, txL_B]; simpa using h
theorem Rising.le {l : List ByteArray} (h : Rising l) : l.Pairwise fun a b => txL a ≤ txL b := List.Pairwise.imp (fun {a b} h => List.le_of_lt h) h
theorem sortK_of {l r : List ByteArray} (hp : l.Perm r) (hr : Rising r) : sortK l = r := perm_rising_eq (sortK_sorted l) hr.le ((sortK_perm l).trans hp)
theorem sortK_rising {l : List ByteArray} (hn : l.Nodup) : Rising (sortK l) := by
  have h1 := sortK_sorted l
  have h2 : (sortK l).Nodup := (sortK_perm l).nodup_iff.2 hn
  refine List.Pairwise.imp (fun {a b} ⟨hle, hne⟩ => ?_) (h1.and h2)
  rcases List.le_iff_lt_or_eq.1 hle with h | h
  · exact h
  · exact absurd (txL_inj h) hne
end Go.Hb
