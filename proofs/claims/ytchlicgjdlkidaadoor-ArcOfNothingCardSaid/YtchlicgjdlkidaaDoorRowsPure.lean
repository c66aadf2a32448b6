/- KEYS IN ROWS, each once; the index beside them. No program. -/
import Derived.Test.YtchlicgjdlkidaaDoorGhostHp
set_option linter.unusedVariables false
set_option linter.unusedSimpArgs false
set_option linter.unnecessarySimpa false
set_option linter.unusedSectionVars false
namespace Go.Hb

abbrev Row := List (Nat × ByteArray)
def rowJ (j : Nat) (row : Row) : List (ByteArray × (Int × Int)) := row.map fun e => (e.2, ((j : Int), (e.1 : Int)))
def rowsM : Nat → List Row → List (ByteArray × (Int × Int))
  | _, [] => []
  | j, r :: rs => rowJ j r ++ rowsM (j + 1) rs
def keysOf (rs : List Row) : List (List ByteArray) := rs.map fun r => r.map (·.2)
theorem rowJ_fst (j : Nat) (r : Row) : (rowJ j r).map (·.1) = r.map (·.2) := by simp [rowJ]
theorem rowsM_fst : ∀ (rs : List Row) (j : Nat), (rowsM j rs).map (·.1) = (keysOf rs).flatten
  | [], _ => rfl
  | r :: rs, j => by
    have ih := rowsM_fst rs (j + 1)
    simp only [rowsM, keysOf, List.map_append, List.map_cons, List.flatten_cons, rowJ_fst] at ih ⊢
    rw [ih]
theorem mem_rowsM {k : ByteArray} {p : Int × Int} : ∀ {rs : List Row} {j : Nat}, (k, p) ∈ rowsM j rs → ∃ (jn : Nat) (row : Row) (i : Nat) (e : Nat × ByteArray), rs[jn]? = some row ∧ row[i]? = some e ∧ e.2 = k ∧ p = (((j + jn : Nat) : Int), (e.1 : Int))
  | [], _, h => by cases h
  | r :: rs, j, h => by
    rw [rowsM, List.mem_append] at h
    rcases h with h | h
    · simp only [rowJ, List.mem_map] at h
      obtain ⟨e, he, h⟩ := h
      obtain ⟨i, hi, rfl⟩ := List.mem_iff_getElem.1 he
      cases h
      exact ⟨0, r, i, r[i], rfl, List.getElem?_eq_getElem hi, rfl, rfl⟩
    · obtain ⟨jn, row, i, e, h1, h2, h3, h4⟩ := mem_rowsM h
      refine ⟨jn + 1, row, i, e, by simpa using h1, h2, h3, ?_⟩
      rw [h4]
      congr 2
      omega
theorem mDel_append {V : Type} [Inhabited V] (a b : List (ByteArray × V)) (k : ByteArray) : mDel (a ++ b) k = mDel a k ++ mDel b k := by unfold mDel; rw [List.filter_append]
theorem mDel_not {V : Type} [Inhabited V] {m : List (ByteArray × V)} {k : ByteArray} (h : k ∉ m.map (·.1)) : mDel m k = m := by
  unfold mDel
  rw [List.filter_eq_self]
  intro e he
  exact decide_eq_true fun hk => h (List.mem_map.2 ⟨e, he, hk⟩)
theorem rowsM_erase {k : ByteArray} : ∀ {rs : List Row} {j jn i : Nat} {row : Row} {e : Nat × ByteArray}, ((rowsM j rs).map (·.1)).Nodup → rs[jn]? = some row → row[i]? = some e → e.2 = k →
    rowsM j (rs.set jn (row.eraseIdx i)) = mDel (rowsM j rs) k ∧ keysOf (rs.set jn (row.eraseIdx i)) = (keysOf rs).map fun r => gTake r k
  | [], _, _, _, _, _, _, h, _, _ => by simp at h
  | r :: rs, j, jn, i, row, e, hn, hr, hi, he => by
    rw [rowsM, List.map_append, List.nodup_append] at hn
    obtain ⟨n1, n2, n3⟩ := hn
    have hcross : ∀ x, x ∈ r.map (·.2) → x ∈ (keysOf rs).flatten → False := fun x h1 h2 => by
      rw [← rowJ_fst j] at h1
      rw [← rowsM_fst rs (j + 1)] at h2
      exact n3 x h1 x h2 rfl
    cases jn with
    | zero =>
      simp only [List.getElem?_cons_zero, Option.some.injEq] at hr
      subst hr
      have h1 : (rowJ j r)[i]? = some (k, ((j : Int), (e.1 : Int))) := by unfold rowJ; rw [List.getElem?_map, hi, ← he]; rfl
      have h2 : rowJ j (r.eraseIdx i) = mDel (rowJ j r) k := by rw [← erase_eq_mDel n1 h1]; exact eraseIdx_map _ _ _
      have hk : k ∈ r.map (·.2) := by rw [← he]; exact List.mem_map.2 ⟨e, List.mem_of_getElem? hi, rfl⟩
      have hno : k ∉ (keysOf rs).flatten := fun h => hcross k hk h
      have h3 : mDel (rowsM (j + 1) rs) k = rowsM (j + 1) rs := mDel_not (by rw [rowsM_fst]; exact hno)
      constructor
      · rw [List.set_cons_zero, rowsM, rowsM, mDel_append, h2, h3]
      · have h4 : (r.eraseIdx i).map (·.2) = gTake (r.map (·.2)) k := by
          rw [← rowJ_fst j, h2, mDel_fst, rowJ_fst]
        have h5 : (keysOf rs).map (fun r => gTake r k) = keysOf rs := by
          conv => rhs; rw [← List.map_id (keysOf rs)]
          refine List.map_congr_left fun x hx => gTake_not fun h => hno (List.mem_flatten.2 ⟨x, hx, h⟩)
        show (r.eraseIdx i).map (·.2) :: keysOf rs = gTake (r.map (·.2)) k :: (keysOf rs).map fun r => gTake r k
        rw [h4, h5]
    | succ jn =>
      simp only [List.getElem?_cons_succ] at hr
      obtain ⟨h1, h2⟩ := rowsM_erase (j := j + 1) n2 hr hi he
      have hk : k ∈ (keysOf rs).flatten := by
        refine List.mem_flatten.2 ⟨row.map (·.2), ?_, by rw [← he]; exact List.mem_map.2 ⟨e, List.mem_of_getElem? hi, rfl⟩⟩
        exact List.mem_map.2 ⟨row, List.mem_of_getElem? hr, rfl⟩
      have hno : k ∉ r.map (·.2) := fun h => hcross k h hk
      constructor
      · rw [List.set_cons_succ, rowsM, rowsM, mDel_append, h1, mDel_not (m := rowJ j r) (by rw [rowJ_fst]; exact hno)]
      · show r.map (·.2) :: keysOf (rs.set jn (row.eraseIdx i)) = gTake (r.map (·.2)) k :: (keysOf rs).map fun r => gTake r k
        rw [h2, gTake_not hno]
theorem rowsM_push {k : ByteArray} {h : Nat} : ∀ {rs : List Row} {j jn : Nat} {row : Row}, rs[jn]? = some row → (rowsM j (rs.set jn (row ++ [(h, k)]))).Perm ((k, (((j + jn : Nat) : Int), (h : Int))) :: rowsM j rs)
  | [], _, _, _, h => by simp at h
  | r :: rs, j, jn, row, hr => by
    cases jn with
    | zero =>
      simp only [List.getElem?_cons_zero, Option.some.injEq] at hr
      subst hr
      rw [List.set_cons_zero, rowsM, rowsM]
      have : rowJ j (r ++ [(h, k)]) = rowJ j r ++ [(k, (((j + 0 : Nat) : Int), (h : Int)))] := by simp [rowJ]
      rw [this]
      exact ((List.perm_append_singleton _ _).append_right _)
    | succ jn =>
      simp only [List.getElem?_cons_succ] at hr
      rw [List.set_cons_succ, rowsM, rowsM]
      have ih := rowsM_push (k := k) (h := h) (j := j + 1) hr
      rw [show j + 1 + jn = j + (jn + 1) by omega] at ih
      exact (ih.append_left _).trans List.perm_middle
structure RInv (K : List (List ByteArray)) (rs : List Row) (m : List (ByteArray × (Int × Int))) : Prop where
  keys : keysOf rs = K
  nd : K.flatten.Nodup
  perm : m.Perm (rowsM 0 rs)
  small : ∀ k ∈ K.flatten, k.size < 64
/-- the row of a key; -1: it is nowhere -/
def rWhere (K : List (List ByteArray)) (k : ByteArray) : Int := match K.findIdx? fun r => gHas r k with
  | some j => (j : Int)
  | none => -1
def rTake (K : List (List ByteArray)) (k : ByteArray) : List (List ByteArray) := K.map fun r => gTake r k
def rPush (K : List (List ByteArray)) (j : Nat) (k : ByteArray) : List (List ByteArray) := (rTake K k).set j ((rTake K k).getD j [] ++ [k])
section
variable {K : List (List ByteArray)} {rs : List Row} {m : List (ByteArray × (Int × Int))} {k : ByteArray}
theorem RInv.mnd (hi : RInv K rs m) : (m.map (·.1)).Nodup := by
  rw [(hi.perm.map (·.1)).nodup_iff, rowsM_fst, hi.keys]; exact hi.nd
theorem RInv.small_m (hi : RInv K rs m) : ∀ e ∈ m, e.1.size < 4611686018427387904 := fun e he => by
  refine Nat.lt_trans (hi.small _ ?_) (by decide)
  rw [← hi.keys, ← rowsM_fst rs 0, ← (hi.perm.map (·.1)).mem_iff]
  exact List.mem_map.2 ⟨e, he, rfl⟩
theorem RInv.klen (hi : RInv K rs m) : K.length = rs.length := by rw [← hi.keys]; simp [keysOf]
theorem RInv.mlen (hi : RInv K rs m) : m.length = K.flatten.length := by
  have := (hi.perm.map (·.1)).length_eq
  rw [rowsM_fst, hi.keys] at this
  simpa using this
theorem RInv.row (hi : RInv K rs m) {j : Nat} {row : Row} (h : rs[j]? = some row) : K[j]? = some (row.map (·.2)) := by
  rw [← hi.keys]; unfold keysOf; rw [List.getElem?_map, h]; rfl
theorem RInv.none_iff (hi : RInv K rs m) : mGet m k = none ↔ k ∉ K.flatten := by
  rw [← hi.keys, ← rowsM_fst rs 0, ← (hi.perm.map (·.1)).mem_iff, mGet_none]
  constructor
  · intro h hk
    obtain ⟨e, he, rfl⟩ := List.mem_map.1 hk
    exact h e he rfl
  · intro h e he hk
    exact h (List.mem_map.2 ⟨e, he, hk⟩)
theorem RInv.miss (hi : RInv K rs m) (hg : mGet m k = none) : k ∉ K.flatten ∧ rTake K k = K ∧ rWhere K k = -1 ∧ RInv K rs (mDel m k) := by
  have h1 := hi.none_iff.1 hg
  have h2 : ∀ r ∈ K, k ∉ r := fun r hr h => h1 (List.mem_flatten.2 ⟨r, hr, h⟩)
  refine ⟨h1, ?_, ?_, ?_⟩
  · unfold rTake
    conv => rhs; rw [← List.map_id K]
    exact List.map_congr_left fun x hx => gTake_not (h2 x hx)
  · unfold rWhere
    have : K.findIdx? (fun r => gHas r k) = none := by
      rw [List.findIdx?_eq_none_iff]
      intro r hr
      exact gHas_not.2 (h2 r hr)
    rw [this]
  · have : mDel m k = m := mDel_not (by rw [(hi.perm.map (·.1)).mem_iff, rowsM_fst, hi.keys]; exact h1)
    rw [this]; exact hi
theorem RInv.at_row (hi : RInv K rs m) {p : Int × Int} (hg : mGet m k = some p) : ∃ (j : Nat) (row : Row) (i : Nat) (e : Nat × ByteArray), rs[j]? = some row ∧ row[i]? = some e ∧ e.2 = k ∧ p = ((j : Int), (e.1 : Int)) := by
  have h1 : (k, p) ∈ rowsM 0 rs := hi.perm.mem_iff.1 ((mGet_some hi.mnd).1 hg)
  obtain ⟨j, row, i, e, h2, h3, h4, h5⟩ := mem_rowsM h1
  exact ⟨j, row, i, e, h2, h3, h4, by rw [h5, Nat.zero_add]⟩
theorem nodup_rows {K : List (List ByteArray)} (hn : K.flatten.Nodup) {i j : Nat} {a b : List ByteArray} (ha : K[i]? = some a) (hb : K[j]? = some b) (h1 : k ∈ a) (h2 : k ∈ b) : i = j := by
  have hp := (List.pairwise_flatten.1 hn).2
  rw [List.pairwise_iff_getElem] at hp
  obtain ⟨hi, rfl⟩ := List.getElem?_eq_some_iff.1 ha
  obtain ⟨hj, rfl⟩ := List.getElem?_eq_some_iff.1 hb
  rcases Nat.lt_trichotomy i j with h | h | h
  · exact absurd rfl (hp i j hi hj h k h1 k h2)
  · exact h
  · exact absurd rfl (hp j i hj hi h k h2 k h1)
theorem RInv.where_eq (hi : RInv K rs m) {p : Int × Int} (hg : mGet m k = some p) : p.1 = rWhere K k := by
  obtain ⟨j, row, i, e, h2, h3, h4, rfl⟩ := hi.at_row hg
  have hK := hi.row h2
  have hk : k ∈ row.map (·.2) := by rw [← h4]; exact List.mem_map.2 ⟨e, List.mem_of_getElem? h3, rfl⟩
  have : K.findIdx? (fun r => gHas r k) = some j := by
    rw [List.findIdx?_eq_some_iff_getElem]
    obtain ⟨hj, hj2⟩ := List.getElem?_eq_some_iff.1 hK
    refine ⟨hj, by rw [hj2]; exact gHas_iff.2 hk, fun x hx => ?_⟩
    rw [gHas_iff]
    intro hx2
    have := nodup_rows hi.nd (List.getElem?_eq_getElem (show x < K.length by omega)) hK hx2 hk
    omega
  unfold rWhere
  rw [this]
theorem RInv.hit (hi : RInv K rs m) {p : Int × Int} (hg : mGet m k = some p) (hn : ∀ row ∈ rs, (row.map (·.1)).Nodup) : ∃ (j : Nat) (row : Row) (i : Nat), p.1 = (j : Int) ∧ rs[j]? = some row ∧ rAt row p.2 = some i ∧ i < row.length ∧
    RInv (rTake K k) (rs.set j (row.eraseIdx i)) (mDel m k) := by
  obtain ⟨j, row, i, e, h2, h3, h4, rfl⟩ := hi.at_row hg
  have hnd : ((rowsM 0 rs).map (·.1)).Nodup := by rw [rowsM_fst, hi.keys]; exact hi.nd
  obtain ⟨h5, h6⟩ := rowsM_erase hnd h2 h3 h4
  refine ⟨j, row, i, rfl, h2, rAt_of (hn row (List.mem_of_getElem? h2)) h3, (List.getElem?_eq_some_iff.1 h3).1, ?_, ?_, ?_, ?_⟩
  · rw [h6, hi.keys]; rfl
  · rw [← show keysOf (rs.set j (row.eraseIdx i)) = rTake K k by rw [h6, hi.keys]; rfl, ← rowsM_fst _ 0, h5]
    exact hnd.sublist ((List.filter_sublist (p := fun e => decide (e.1 ≠ k)) (l := rowsM 0 rs)).map (·.1))
  · rw [h5]; exact mDel_perm hi.perm
  · intro x hx
    obtain ⟨r, hr, hx⟩ := List.mem_flatten.1 hx
    obtain ⟨r0, hr0, rfl⟩ := List.mem_map.1 hr
    exact hi.small x (List.mem_flatten.2 ⟨r0, hr0, (gTake_mem.1 hx).1⟩)
theorem perm_flat_set {α : Type} : ∀ {l : List (List α)} {j : Nat} {r : List α} {x : α}, l[j]? = some r → ((l.set j (r ++ [x])).flatten).Perm (x :: l.flatten)
  | [], _, _, _, h => by simp at h
  | a :: l, 0, r, x, h => by
    simp only [List.getElem?_cons_zero, Option.some.injEq] at h
    subst h
    rw [List.set_cons_zero, List.flatten_cons, List.flatten_cons]
    exact (List.perm_append_singleton _ _).append_right _
  | a :: l, j + 1, r, x, h => by
    simp only [List.getElem?_cons_succ] at h
    rw [List.set_cons_succ, List.flatten_cons, List.flatten_cons]
    exact ((perm_flat_set h).append_left _).trans List.perm_middle
theorem RInv.push (hi : RInv K rs m) (h1 : k ∉ K.flatten) (hz : k.size < 64) {j : Nat} {row : Row} (hr : rs[j]? = some row) (h : Nat) :
    RInv (K.set j (K.getD j [] ++ [k])) (rs.set j (row ++ [(h, k)])) (mPut m k ((j : Int), (h : Int))) := by
  have hK := hi.row hr
  have hKd : K.getD j [] = row.map (·.2) := by rw [List.getD_eq_getElem?_getD, hK]; rfl
  have hp := perm_flat_set (x := k) hK
  rw [hKd]
  refine ⟨?_, ?_, ?_, ?_⟩
  · rw [← hi.keys]; unfold keysOf; rw [List.map_set]; simp
  · rw [hp.nodup_iff, List.nodup_cons]; exact ⟨h1, hi.nd⟩
  · have hg := hi.none_iff.2 h1
    have e1 : mPut m k ((j : Int), (h : Int)) = (k, ((j : Int), (h : Int))) :: m := by unfold mPut; rw [hg]
    rw [e1]
    have := rowsM_push (k := k) (h := h) (j := 0) hr
    rw [Nat.zero_add] at this
    exact (hi.perm.cons _).trans this.symm
  · intro x hx
    rw [hp.mem_iff, List.mem_cons] at hx
    rcases hx with rfl | hx
    · exact hz
    · exact hi.small x hx
theorem rTake_not (K : List (List ByteArray)) (k : ByteArray) : k ∉ (rTake K k).flatten := by
  intro h
  obtain ⟨r, hr, h⟩ := List.mem_flatten.1 h
  obtain ⟨r0, _, rfl⟩ := List.mem_map.1 hr
  exact (gTake_mem.1 h).2 rfl
end

/-! the chunk: lists, the slice of them, the index -/
abbrev RowX := Nat × Row × List Nat
def lstOf (x : RowX) : HP := lst .string x.1 x.2.1 x.2.2
def rowsC (s : Sl) (xb : Nat) (N : Nat) (K : List (List ByteArray)) : HP := exH fun (x : List RowX × List (ByteArray × (Int × Int))) =>
  andH (RInv K (x.1.map (·.2.1)) x.2 ∧ ∀ y ∈ x.1, y.2.1.length + y.2.2.length ≤ N)
    (star (recs Rec.ptr s (x.1.map (·.1))) (star (ixr Rec.ii xb 0 x.2) (allH (x.1.map lstOf))))
section
variable {W w : World} {M L : List HP} {xb N : Nat} {s : Sl} {K : List (List ByteArray)}
instance At.rowsC : At (rowsC s xb N K :: L) xb (rowsC s xb N K) (fun x => x :: L) := ⟨here_pos⟩
theorem rows_open (h : Sat W w (rowsC s xb N K :: M)) : ∃ (xs : List RowX) (m : List (ByteArray × (Int × Int))), RInv K (xs.map (·.2.1)) m ∧ (∀ y ∈ xs, y.2.1.length + y.2.2.length ≤ N) ∧ s.n = xs.length ∧
    Sat W w (recs Rec.ptr s (xs.map (·.1)) :: ixr Rec.ii xb 0 m :: (xs.map lstOf ++ M)) := by
  obtain ⟨⟨xs, m⟩, h⟩ := h.openE
  obtain ⟨⟨h1, h2⟩, h⟩ := h.openA
  have h := h.split
  have h3 := (h.perm (List.Perm.swap _ _ _)).split
  have h4 : Sat W w (allH (xs.map lstOf) :: recs Rec.ptr s (xs.map (·.1)) :: ixr Rec.ii xb 0 m :: M) := by
    refine h3.perm ?_
    exact ((List.Perm.swap _ _ _).trans ((List.Perm.swap _ _ _).cons _)).trans (List.Perm.refl _) |>.trans (by
      first | exact List.Perm.refl _ | exact (List.Perm.swap _ _ _).trans ((List.Perm.swap _ _ _).cons _) | exact (List.Perm.swap _ _ _).cons _)
  have h5 := h4.openL
  have h6 : Sat W w (recs Rec.ptr s (xs.map (·.1)) :: ixr Rec.ii xb 0 m :: (xs.map lstOf ++ M)) := by
    refine h5.perm ?_
    exact List.perm_middle.trans (List.perm_middle.cons _)
  refine ⟨xs, m, h1, h2, ?_, h6⟩
  have := (recs_len (s := s) h6 (by decide)).1
  simpa using this
theorem rows_shut {xs : List RowX} {m : List (ByteArray × (Int × Int))} (hi : RInv K (xs.map (·.2.1)) m) (hN : ∀ y ∈ xs, y.2.1.length + y.2.2.length ≤ N)
    (h : Sat W w (recs Rec.ptr s (xs.map (·.1)) :: ixr Rec.ii xb 0 m :: (xs.map lstOf ++ M))) : Sat W w (rowsC s xb N K :: M) := by
  refine Sat.shutE (xs, m) (Sat.shutA ⟨hi, hN⟩ ?_)
  refine Sat.join ?_
  have h5 : Sat W w (xs.map lstOf ++ (recs Rec.ptr s (xs.map (·.1)) :: ixr Rec.ii xb 0 m :: M)) :=
    h.perm (List.perm_middle.trans (List.perm_middle.cons _)).symm
  have h4 := Sat.shutL h5
  have h3 : Sat W w (ixr Rec.ii xb 0 m :: allH (xs.map lstOf) :: recs Rec.ptr s (xs.map (·.1)) :: M) := by
    refine h4.perm ?_
    exact ((List.Perm.swap _ _ _).cons _).trans (List.Perm.swap _ _ _)
  exact (h3.join).perm (List.Perm.swap _ _ _)
/-- one list picked out -/
theorem rows_pick {xs : List RowX} {j : Nat} {x : RowX} {A B : HP} (hx : xs[j]? = some x) (h : Sat W w (A :: B :: (xs.map lstOf ++ M))) :
    Sat W w (lst .string x.1 x.2.1 x.2.2 :: A :: B :: ((xs.eraseIdx j).map lstOf ++ M)) := by
  obtain ⟨hj, rfl⟩ := List.getElem?_eq_some_iff.1 hx
  refine h.perm ?_
  have h1 := ((erase_perm hj).map lstOf).append_right M
  have h2 : (A :: B :: (xs.map lstOf ++ M)).Perm (A :: B :: lstOf xs[j] :: ((xs.eraseIdx j).map lstOf ++ M)) := (h1.symm.cons _).cons _
  exact h2.trans (((List.Perm.swap _ _ _).cons _).trans (List.Perm.swap _ _ _))
theorem rows_back {xs : List RowX} {j : Nat} {x : RowX} {A B : HP} {r : Row} {f : List Nat} (hx : xs[j]? = some x) (h : Sat W w (lst .string x.1 r f :: A :: B :: ((xs.eraseIdx j).map lstOf ++ M))) :
    Sat W w (A :: B :: ((xs.set j (x.1, r, f)).map lstOf ++ M)) := by
  obtain ⟨hj, rfl⟩ := List.getElem?_eq_some_iff.1 hx
  have hj2 : j < (xs.set j (xs[j].1, r, f)).length := by simpa using hj
  have h1 := ((erase_perm hj2).map lstOf).append_right M
  rw [List.getElem_set_self, List.eraseIdx_set_eq] at h1
  refine h.perm ?_
  exact ((List.Perm.swap _ _ _).trans ((List.Perm.swap _ _ _).cons _)).trans ((h1.cons _).cons _)
/-- with the lists as one chunk -/
theorem rows_op (h : Sat W w (rowsC s xb N K :: M)) : ∃ (xs : List RowX) (m : List (ByteArray × (Int × Int))), RInv K (xs.map (·.2.1)) m ∧ (∀ y ∈ xs, y.2.1.length + y.2.2.length ≤ N) ∧ s.n = xs.length ∧
    Sat W w (recs Rec.ptr s (xs.map (·.1)) :: ixr Rec.ii xb 0 m :: allH (xs.map lstOf) :: M) := by
  obtain ⟨xs, m, h1, h2, h3, h⟩ := rows_open h
  refine ⟨xs, m, h1, h2, h3, ?_⟩
  have h4 := Sat.shutL (h.perm (List.perm_middle.trans (List.perm_middle.cons _)).symm)
  exact h4.perm ((List.Perm.swap _ _ _).trans ((List.Perm.swap _ _ _).cons _))
theorem rows_sh {xs : List RowX} {m : List (ByteArray × (Int × Int))} (hi : RInv K (xs.map (·.2.1)) m) (hN : ∀ y ∈ xs, y.2.1.length + y.2.2.length ≤ N)
    (h : Sat W w (recs Rec.ptr s (xs.map (·.1)) :: ixr Rec.ii xb 0 m :: allH (xs.map lstOf) :: M)) : Sat W w (rowsC s xb N K :: M) := by
  refine rows_shut hi hN ?_
  have h1 : Sat W w (allH (xs.map lstOf) :: recs Rec.ptr s (xs.map (·.1)) :: ixr Rec.ii xb 0 m :: M) := h.perm (((List.Perm.swap _ _ _).cons _).trans (List.Perm.swap _ _ _))
  exact (h1.openL).perm (List.perm_middle.trans (List.perm_middle.cons _))
theorem all_pick {xs : List RowX} {j : Nat} {x : RowX} (hx : xs[j]? = some x) (h : Sat W w (allH (xs.map lstOf) :: M)) : Sat W w (lst .string x.1 x.2.1 x.2.2 :: allH ((xs.eraseIdx j).map lstOf) :: M) := by
  obtain ⟨hj, rfl⟩ := List.getElem?_eq_some_iff.1 hx
  have h1 := h.openL.perm (((erase_perm hj).map lstOf).append_right M).symm
  rw [List.map_cons, List.cons_append] at h1
  exact (Sat.shutL (h1.perm List.perm_middle.symm)).perm (List.Perm.swap _ _ _)
theorem all_back {xs : List RowX} {j : Nat} {x : RowX} {r : Row} {f : List Nat} (hx : xs[j]? = some x) (h : Sat W w (lst .string x.1 r f :: allH ((xs.eraseIdx j).map lstOf) :: M)) : Sat W w (allH ((xs.set j (x.1, r, f)).map lstOf) :: M) := by
  obtain ⟨hj, rfl⟩ := List.getElem?_eq_some_iff.1 hx
  have hj2 : j < (xs.set j (xs[j].1, r, f)).length := by simpa using hj
  have h1 := ((erase_perm hj2).map lstOf).append_right M
  rw [List.getElem_set_self, List.eraseIdx_set_eq] at h1
  refine Sat.shutL (Sat.perm ?_ h1)
  rw [List.map_cons, List.cons_append]
  exact ((h.perm (List.Perm.swap _ _ _)).openL).perm List.perm_middle
theorem set_same {α : Type} {l : List α} {j : Nat} {x : α} (h : l[j]? = some x) : l.set j x = l := by
  obtain ⟨hj, rfl⟩ := List.getElem?_eq_some_iff.1 h
  exact List.set_getElem_self hj
theorem all_back0 {xs : List RowX} {j : Nat} {x : RowX} (hx : xs[j]? = some x) (h : Sat W w (lst .string x.1 x.2.1 x.2.2 :: allH ((xs.eraseIdx j).map lstOf) :: M)) : Sat W w (allH (xs.map lstOf) :: M) := by
  have := all_back hx h
  rwa [set_same hx] at this
theorem rows_flat_len : ∀ {xs : List RowX}, (∀ y ∈ xs, y.2.1.length + y.2.2.length ≤ N) → (keysOf (xs.map (·.2.1))).flatten.length ≤ xs.length * N
  | [], _ => by simp [keysOf]
  | y :: xs, h => by
    have h1 := rows_flat_len (xs := xs) fun z hz => h z (.tail _ hz)
    have h2 := h y (.head _)
    simp only [keysOf, List.map_cons, List.flatten_cons, List.length_append, List.length_map, List.length_cons] at h1 ⊢
    rw [Nat.succ_mul]
    omega
theorem RInv.mlen4 {xs : List RowX} {m : List (ByteArray × (Int × Int))} (hi : RInv K (xs.map (·.2.1)) m) (hN : ∀ y ∈ xs, y.2.1.length + y.2.2.length ≤ N) (hK : K.length = 4) : m.length ≤ 4 * N ∧ xs.length = 4 := by
  have h1 := hi.mlen
  have h2 := rows_flat_len hN
  have h3 := hi.klen
  rw [hi.keys] at h2
  have h4 : xs.length = 4 := by simpa [hK] using h3.symm
  rw [h4] at h2
  exact ⟨by omega, h4⟩
theorem fst_getD {xs : List RowX} {j : Nat} {x : RowX} (hx : xs[j]? = some x) : (xs.map (·.1)).getD j default = x.1 := by
  rw [List.getD_eq_getElem?_getD, List.getElem?_map, hx]; rfl
end
end Go.Hb
