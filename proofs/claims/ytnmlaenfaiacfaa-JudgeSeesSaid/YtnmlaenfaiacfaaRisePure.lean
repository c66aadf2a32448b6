/- KEYS AND VALUES, BY KEYS, RISING, in plain lists. No program. -/
import Derived.Test.YtnmlaenfaiacfaaSortHp
set_option linter.unusedVariables false
set_option linter.unusedSimpArgs false
set_option linter.unnecessarySimpa false
set_option linter.unusedSectionVars false
namespace Go.Hb
section
variable {V : Type} [Inhabited V]
/-- where a key stands, or would; is it there? -/
def atR : List (ByteArray × V) → ByteArray → Nat × Bool
  | [], _ => (0, false)
  | e :: r, k => if sLt e.1 k then ((atR r k).1 + 1, (atR r k).2) else (0, decide (e.1 = k))
theorem atR_cons (e : ByteArray × V) (r : List (ByteArray × V)) (k : ByteArray) : atR (e :: r) k = if sLt e.1 k then ((atR r k).1 + 1, (atR r k).2) else (0, decide (e.1 = k)) := rfl
def RiseM (m : List (ByteArray × V)) : Prop := Rising (m.map (·.1))
theorem RiseM.nodup {m : List (ByteArray × V)} (h : RiseM m) : (m.map (·.1)).Nodup := Rising.nodup h
theorem RiseM.tail {e : ByteArray × V} {m : List (ByteArray × V)} (h : RiseM (e :: m)) : RiseM m := by
  unfold RiseM Rising at h ⊢
  simp only [List.map_cons, List.pairwise_cons] at h
  exact h.2
theorem atR_le : ∀ (m : List (ByteArray × V)) (k : ByteArray), (atR m k).1 ≤ m.length
  | [], _ => Nat.le_refl _
  | e :: r, k => by
    unfold atR
    split
    · have := atR_le r k; simp only [List.length_cons]; omega
    · simp
theorem atR_true : ∀ {m : List (ByteArray × V)} {k : ByteArray}, (atR m k).2 = true → ∃ v, m[(atR m k).1]? = some (k, v)
  | [], _, h => by cases h
  | e :: r, k, h => by
    unfold atR at h ⊢
    split at h
    · rename_i h1
      rw [if_pos h1]
      obtain ⟨v, hv⟩ := atR_true h
      exact ⟨v, by simpa using hv⟩
    · rename_i h1
      rw [if_neg h1]
      simp only [decide_eq_true_eq] at h
      exact ⟨e.2, by simp [← h]⟩
theorem lt_of_not {a k : ByteArray} (h1 : sLt a k = false) (h2 : a ≠ k) : txL k < txL a := by
  rw [sLt_eq] at h1
  have h3 : txL k ≤ txL a := by simpa using h1
  rcases List.le_iff_lt_or_eq.1 h3 with h | h
  · exact h
  · exact absurd (txL_inj h).symm h2
theorem atR_false : ∀ {m : List (ByteArray × V)} {k : ByteArray}, RiseM m → (atR m k).2 = false → (∀ e ∈ m, e.1 ≠ k) ∧ ∀ v, RiseM (m.take (atR m k).1 ++ (k, v) :: m.drop (atR m k).1)
  | [], _, _, _ => ⟨(fun _ h => by cases h), fun v => by simp [RiseM, Rising, atR]⟩
  | e :: r, k, hr, h => by
    unfold atR at h ⊢
    split at h
    · rename_i h1
      rw [if_pos h1]
      obtain ⟨h2, h3⟩ := atR_false hr.tail h
      have hlt : txL e.1 < txL k := by rw [sLt_eq] at h1; simpa using h1
      refine ⟨fun x hx => ?_, fun v => ?_⟩
      · rcases List.mem_cons.1 hx with rfl | hx
        · intro he; rw [he] at hlt; exact absurd hlt (List.lt_irrefl _)
        · exact h2 x hx
      · have h4 := h3 v
        unfold RiseM Rising at h4 hr ⊢
        simp only [List.take_succ_cons, List.drop_succ_cons, List.cons_append, List.map_cons, List.pairwise_cons] at hr ⊢
        refine ⟨fun x hx => ?_, h4⟩
        simp only [List.map_append, List.map_cons, List.mem_append, List.mem_cons] at hx
        rcases hx with hx | hx | hx
        · exact hr.1 x (((List.take_sublist _ _).map _).subset hx)
        · rw [hx]; exact hlt
        · exact hr.1 x (((List.drop_sublist _ _).map _).subset hx)
    · rename_i h1
      rw [if_neg h1]
      simp only [decide_eq_false_iff_not] at h
      have hlt := lt_of_not (by simpa using h1) h
      have hall : ∀ x ∈ (e :: r).map (·.1), txL k < txL x := by
        intro x hx
        rw [List.map_cons, List.mem_cons] at hx
        rcases hx with rfl | hx
        · exact hlt
        · unfold RiseM Rising at hr
          simp only [List.map_cons, List.pairwise_cons] at hr
          exact List.lt_trans hlt (hr.1 x hx)
      refine ⟨fun x hx he => ?_, fun v => ?_⟩
      · have := hall x.1 (List.mem_map_of_mem hx)
        rw [he] at this; exact absurd this (List.lt_irrefl _)
      · show RiseM ((k, v) :: e :: r)
        unfold RiseM Rising at hr ⊢
        rw [List.map_cons, List.pairwise_cons]
        exact ⟨hall, hr⟩
theorem mGet_at {m : List (ByteArray × V)} {k : ByteArray} (hr : RiseM m) : mGet m k = if (atR m k).2 then (m[(atR m k).1]?).map (·.2) else none := by
  cases h : (atR m k).2 with
  | true =>
    obtain ⟨v, hv⟩ := atR_true h
    rw [hv]
    exact (mGet_some hr.nodup).2 (List.mem_of_getElem? hv)
  | false => exact mGet_none.2 (atR_false hr h).1
theorem map_set_same {m : List (ByteArray × V)} {i : Nat} {k : ByteArray} {v u : V} (h : m[i]? = some (k, v)) : (m.set i (k, u)).map (·.1) = m.map (·.1) := by
  obtain ⟨hlt, hri⟩ := List.getElem?_eq_some_iff.1 h
  rw [List.map_set]
  apply List.ext_getElem?
  intro j
  rw [List.getElem?_set]
  split
  · rename_i h; subst h; simp [hlt, hri]
  · rfl
theorem rise_set {m : List (ByteArray × V)} {i : Nat} {k : ByteArray} {v u : V} (hr : RiseM m) (h : m[i]? = some (k, v)) : RiseM (m.set i (k, u)) := by
  unfold RiseM; rw [map_set_same h]; exact hr
theorem set_eq_mSet {m : List (ByteArray × V)} {i : Nat} {k : ByteArray} {v u : V} (hn : (m.map (·.1)).Nodup) (h : m[i]? = some (k, v)) : m.set i (k, u) = mSet m k u := by
  obtain ⟨hlt, hri⟩ := List.getElem?_eq_some_iff.1 h
  unfold mSet
  apply List.ext_getElem?
  intro j
  rw [List.getElem?_set, List.getElem?_map]
  by_cases e : i = j
  · subst e; simp [hlt, hri]
  · rw [if_neg e]
    cases hj : m[j]? with
    | none => rfl
    | some x =>
      simp only [Option.map_some]
      rw [if_neg]
      intro hk
      obtain ⟨hjl, hjx⟩ := List.getElem?_eq_some_iff.1 hj
      have : (m.map (·.1))[i]? = (m.map (·.1))[j]? := by simp [hlt, hjl, hri, hjx, hk]
      exact e ((List.getElem?_inj (by simpa using hlt) hn).1 this)
theorem erase_eq_mDel {m : List (ByteArray × V)} {i : Nat} {k : ByteArray} {v : V} (hn : (m.map (·.1)).Nodup) (h : m[i]? = some (k, v)) : m.eraseIdx i = mDel m k := by
  obtain ⟨hlt, hri⟩ := List.getElem?_eq_some_iff.1 h
  have hs : m = m.take i ++ (k, v) :: m.drop (i + 1) := by rw [← hri]; simp
  rw [List.eraseIdx_eq_take_drop_succ]
  unfold mDel
  conv => rhs; rw [hs]
  rw [hs] at hn
  simp only [List.map_append, List.map_cons] at hn
  rw [List.nodup_append] at hn
  simp only [List.nodup_cons] at hn
  rw [List.filter_append, List.filter_cons_of_neg (by simp), List.filter_eq_self.2, List.filter_eq_self.2]
  · intro e he
    simp only [ne_eq, decide_not, Bool.not_eq_eq_eq_not, Bool.not_true, decide_eq_false_iff_not]
    rintro rfl
    exact hn.2.1.1 (List.mem_map_of_mem he)
  · intro e he
    simp only [ne_eq, decide_not, Bool.not_eq_eq_eq_not, Bool.not_true, decide_eq_false_iff_not]
    rintro rfl
    exact hn.2.2 _ (List.mem_map_of_mem he) e.1 (by simp) rfl
/-- laid at its place -/
def rPut (m : List (ByteArray × V)) (k : ByteArray) (v : V) : List (ByteArray × V) := if (atR m k).2 then m.set (atR m k).1 (k, v) else m.take (atR m k).1 ++ (k, v) :: m.drop (atR m k).1
theorem rPut_rise {m : List (ByteArray × V)} {k : ByteArray} {v : V} (hr : RiseM m) : RiseM (rPut m k v) := by
  unfold rPut
  split
  · rename_i h; obtain ⟨u, hu⟩ := atR_true h; exact rise_set hr hu
  · rename_i h; exact (atR_false hr (by simpa using h)).2 v
theorem rPut_perm {m : List (ByteArray × V)} {k : ByteArray} {v : V} (hr : RiseM m) : (rPut m k v).Perm (mPut m k v) := by
  unfold rPut mPut
  cases h : (atR m k).2 with
  | true =>
    obtain ⟨u, hu⟩ := atR_true h
    have hg : mGet m k = some u := by rw [mGet_at hr, h, hu]; rfl
    rw [hg]
    simp only [if_true]
    rw [set_eq_mSet hr.nodup hu]
  | false =>
    have hg : mGet m k = none := by rw [mGet_at hr, h]; rfl
    rw [hg]
    simp only [Bool.false_eq_true, if_false]
    refine List.perm_middle.trans ?_
    rw [List.take_append_drop]
def rDel (m : List (ByteArray × V)) (k : ByteArray) : List (ByteArray × V) := if (atR m k).2 then m.eraseIdx (atR m k).1 else m
theorem rDel_eq {m : List (ByteArray × V)} {k : ByteArray} (hr : RiseM m) : rDel m k = mDel m k := by
  unfold rDel
  split
  · rename_i h; obtain ⟨u, hu⟩ := atR_true h; exact erase_eq_mDel hr.nodup hu
  · rename_i h
    have := (atR_false hr (by simpa using h)).1
    unfold mDel
    rw [List.filter_eq_self.2]
    intro e he; simpa using this e he
theorem rDel_rise {m : List (ByteArray × V)} {k : ByteArray} (hr : RiseM m) : RiseM (rDel m k) := by
  rw [rDel_eq hr]
  unfold RiseM Rising mDel at *
  exact List.Pairwise.sublist ((List.filter_sublist).map _) hr
theorem mPut_perm {m m' : List (ByteArray × V)} {k : ByteArray} {v : V} (hn : (m.map (·.1)).Nodup) (hp : m.Perm m') : (mPut m k v).Perm (mPut m' k v) := by
  unfold mPut
  rw [← mGet_perm hn hp]
  cases mGet m k with
  | none => exact List.Perm.cons _ hp
  | some _ => exact hp.map _
theorem mDel_perm {m m' : List (ByteArray × V)} {k : ByteArray} (hp : m.Perm m') : (mDel m k).Perm (mDel m' k) := hp.filter _
theorem mPut_len (m : List (ByteArray × V)) (k : ByteArray) (v : V) : (mPut m k v).length ≤ m.length + 1 := by
  unfold mPut
  cases mGet m k <;> simp [mSet]
theorem mPut_keys {m : List (ByteArray × V)} {k : ByteArray} {v : V} {P : ByteArray → Prop} (hm : ∀ e ∈ m, P e.1) (hk : P k) : ∀ e ∈ mPut m k v, P e.1 := by
  unfold mPut
  cases mGet m k with
  | none =>
    intro e he
    rcases List.mem_cons.1 he with rfl | he
    · exact hk
    · exact hm e he
  | some u =>
    intro e he
    unfold mSet at he
    rw [List.mem_map] at he
    obtain ⟨x, hx, rfl⟩ := he
    split
    · exact hk
    · exact hm x hx
theorem mDel_sub {m : List (ByteArray × V)} {k : ByteArray} {P : ByteArray → Prop} (hm : ∀ e ∈ m, P e.1) : ∀ e ∈ mDel m k, P e.1 := fun e he => hm e (List.mem_filter.1 he).1
theorem mDel_le (m : List (ByteArray × V)) (k : ByteArray) : (mDel m k).length ≤ m.length := List.length_filter_le _ _
end
end Go.Hb
