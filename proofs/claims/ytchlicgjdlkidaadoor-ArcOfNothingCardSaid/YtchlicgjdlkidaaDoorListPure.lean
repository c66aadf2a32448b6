/- ROWS OF HANDLES AND VALUES, in plain lists; what each turn of a list makes of the arena. No program. -/
import Derived.Test.YtchlicgjdlkidaaDoorListHp
set_option linter.unusedVariables false
set_option linter.unusedSimpArgs false
set_option linter.unnecessarySimpa false
set_option linter.unusedSectionVars false
namespace Go.Hb

section
variable {T : Type}
/-- where a handle stands -/
def rAt (row : List (Nat × T)) (h : Int) : Option Nat := row.findIdx? fun e => decide ((e.1 : Int) = h)
def rowPlace (row : List (Nat × T)) (i : Nat) : Nat := (row.map (·.1)).getD i 0
def rowNext (row : List (Nat × T)) (h : Int) : Nat := match rAt row h with
  | some i => rowPlace row (i + 1)
  | none => 0
def rowPrev (row : List (Nat × T)) (h : Int) : Nat := match rAt row h with
  | some (i + 1) => rowPlace row i
  | _ => 0
def rowSet (row : List (Nat × T)) (i : Nat) (v : T) : List (Nat × T) := row.set i ((row.map (·.1)).getD i 0, v)
theorem rAt_some {row : List (Nat × T)} {h : Int} {i : Nat} (hr : rAt row h = some i) : ∃ e, row[i]? = some e ∧ (e.1 : Int) = h ∧ row = row.take i ++ e :: row.drop (i + 1) ∧ i < row.length := by
  unfold rAt at hr
  rw [List.findIdx?_eq_some_iff_getElem] at hr
  obtain ⟨hlt, hp, _⟩ := hr
  exact ⟨row[i], List.getElem?_eq_getElem hlt, of_decide_eq_true hp, by simp, hlt⟩
theorem rAt_none {row : List (Nat × T)} {h : Int} : rAt row h = none ↔ ∀ e ∈ row, (e.1 : Int) ≠ h := by
  unfold rAt
  rw [List.findIdx?_eq_none_iff]
  simp
theorem rAt_map {U : Type} (f : Nat × T → Nat × U) (hf : ∀ e, (f e).1 = e.1) (row : List (Nat × T)) (h : Int) : rAt (row.map f) h = rAt row h := by
  unfold rAt
  rw [List.findIdx?_map]
  congr 1
  funext e
  simp [hf]
theorem rAt_of {row : List (Nat × T)} (hn : (row.map (·.1)).Nodup) {i : Nat} {e : Nat × T} (h : row[i]? = some e) : rAt row (e.1 : Int) = some i := by
  obtain ⟨hlt, rfl⟩ := List.getElem?_eq_some_iff.1 h
  unfold rAt
  rw [List.findIdx?_eq_some_iff_getElem]
  refine ⟨hlt, by simp, fun j hj => ?_⟩
  rw [decide_eq_true_eq]
  intro he
  have : (row.map (·.1))[j]? = (row.map (·.1))[i]? := by
    rw [List.getElem?_map, List.getElem?_map, List.getElem?_eq_getElem hlt, List.getElem?_eq_getElem (by omega)]
    simp only [Option.map_some, Option.some.injEq]; omega
  have := (List.getElem?_inj (by simp; omega) hn).1 this
  omega
end

section
variable {ls : List Lk} {free : List Nat} {row : List (Nat × Value)}
theorem Inv.at_row (hi : Inv ls free row) {h : Nat} (hh : 0 < h) (hl : h < ls.length) (ht : (ls.getD h default).there = true) : ∃ i, rAt row (h : Int) = some i := by
  rcases (hi.all h).2 ⟨hh, hl⟩ with hr | hf
  · cases hx : rAt row (h : Int) with
    | some i => exact ⟨i, rfl⟩
    | none =>
      rw [List.mem_map] at hr
      obtain ⟨e, he, rfl⟩ := hr
      exact absurd rfl (rAt_none.1 hx e he)
  · have := hi.gone h hf
    unfold keptV at this
    simp only at this
    rw [ht] at this; cases this
theorem Inv.row_at (hi : Inv ls free row) {h : Int} {i : Nat} (hr : rAt row h = some i) : ∃ (k : Nat) (v : Value), h = (k : Int) ∧ row[i]? = some (k, v) ∧ 0 < k ∧ k < ls.length ∧ (ls.getD k default).there = true ∧ (ls.getD k default).v = v ∧ row = row.take i ++ (k, v) :: row.drop (i + 1) ∧
    nxOf ls k = rowPlace row (i + 1) ∧ pvOf ls k = (if i = 0 then 0 else rowPlace row (i - 1)) := by
  obtain ⟨⟨k, v⟩, he, hk, hs, hlt⟩ := rAt_some hr
  have hm : (k, v) ∈ row := by rw [hs]; simp
  have hb := (hi.all k).1 (.inl (List.mem_map.2 ⟨_, hm, rfl⟩))
  have hv := hi.vals _ hm
  unfold keptV at hv
  simp only [Prod.mk.injEq] at hv
  have hst := hi.stands
  rw [hs] at hst
  simp only [List.map_append, List.map_cons] at hst
  have := stands_at hst
  refine ⟨k, v, hk.symm, he, hb.1, hb.2, hv.2, hv.1, hs, ?_, ?_⟩
  · rw [this.1]; unfold rowPlace
    rw [List.map_drop]
    rw [List.getD_eq_getElem?_getD, List.headD_eq_head?_getD, List.head?_drop]
  · rw [this.2]
    rcases i with _ | i
    · simp
    · simp only [Nat.add_eq_zero_iff, Nat.one_ne_zero, and_false, if_false, Nat.add_sub_cancel]
      unfold rowPlace
      rw [List.getLastD_eq_getLast?, List.map_take, List.getLast?_eq_getElem?, List.getD_eq_getElem?_getD, List.length_take, List.length_map, Nat.min_eq_left (by omega)]
      rw [List.getElem?_take_of_lt (by omega)]; rfl
theorem Inv.has (hi : Inv ls free row) (h : Int) : (decide (h > 0) && (decide (h < (ls.length : Int)) && (ls.getD h.toNat default).there)) = (rAt row h).isSome := by
  cases hr : rAt row h with
  | some i =>
    obtain ⟨k, v, rfl, _, h1, h2, h3, _⟩ := hi.row_at hr
    simp only [Option.isSome_some, Bool.and_eq_true, decide_eq_true_eq, Int.toNat_natCast]
    exact ⟨by omega, by omega, h3⟩
  | none =>
    simp only [Option.isSome_none]
    cases hb : (decide (h > 0) && (decide (h < (ls.length : Int)) && (ls.getD h.toNat default).there)) with
    | false => rfl
    | true =>
      simp only [Bool.and_eq_true, decide_eq_true_eq] at hb
      obtain ⟨i, hx⟩ := hi.at_row (h := h.toNat) (by omega) (by omega) hb.2.2
      rw [show ((h.toNat : Nat) : Int) = h by omega, hr] at hx; cases hx
theorem Inv.front (hi : Inv ls free row) : nxOf ls 0 = rowPlace row 0 := by
  rw [stands_front hi.stands]; unfold rowPlace; cases row <;> rfl
theorem Inv.back (hi : Inv ls free row) : pvOf ls 0 = (if row.length = 0 then 0 else rowPlace row (row.length - 1)) := by
  rw [stands_back hi.stands]; unfold rowPlace
  rw [List.getLastD_eq_getLast?, List.getLast?_eq_getElem?, List.getD_eq_getElem?_getD, List.length_map]
  split
  · rename_i h
    have := List.length_eq_zero_iff.1 h
    subst this; rfl
  · rfl
theorem nxOf_le (hi : Inv ls free row) : nxOf ls 0 < ls.length := by
  rw [stands_front hi.stands]; exact hi.bound (by have := mem_headD (l := row.map (·.1)); exact this)
theorem pvOf_le (hi : Inv ls free row) : pvOf ls 0 < ls.length := by
  rw [stands_back hi.stands]; exact hi.bound (by have := mem_lastD (l := row.map (·.1)); exact this)

/-- a handle that stands lifted out: the row without it, and the handle in nobody's hands -/
theorem Inv.lift (hi : Inv ls free row) {i k : Nat} {v : Value} (hs : row = row.take i ++ (k, v) :: row.drop (i + 1)) (hp : pvOf ls k < ls.length) (hx : nxOf ls k < ls.length) :
    Stands (nxOf (liftL ls k)) (pvOf (liftL ls k)) ((row.take i ++ row.drop (i + 1)).map (·.1)) := by
  have hst := hi.stands
  have hn := hi.nodup0
  rw [hs] at hst hn
  simp only [List.map_append, List.map_cons] at hst hn ⊢
  have hat := stands_at hst
  rw [liftL_nx hp hx, liftL_pv hp hx]
  have := stands_lift hst hn
  rw [hat.1, hat.2]
  exact this
theorem nodup_mid {l1 l2 : List Nat} {x : Nat} (h : (l1 ++ x :: l2).Nodup) : x ∉ l1 ++ l2 ∧ (l1 ++ l2).Nodup := by
  have := (List.perm_middle (a := x) (l₁ := l1) (l₂ := l2)).nodup_iff.1 h
  simpa using List.nodup_cons.1 this
/-- Remove -/
theorem Inv.remove (hi : Inv ls free row) {i k : Nat} {v z : Value} (hs : row = row.take i ++ (k, v) :: row.drop (i + 1)) (hk : 0 < k) (hkl : k < ls.length) (hp : pvOf ls k < ls.length) (hx : nxOf ls k < ls.length) :
    Inv ((liftL ls k).set k ⟨z, 0, 0, false⟩) (free ++ [k]) (row.eraseIdx i) := by
  have he : row.eraseIdx i = row.take i ++ row.drop (i + 1) := List.eraseIdx_eq_take_drop_succ ..
  have hst := hi.lift hs hp hx
  rw [he]
  have hnd := hi.nodup
  rw [hs] at hnd
  simp only [List.map_append, List.map_cons, List.append_assoc, List.cons_append] at hnd
  obtain ⟨hnk, hnd2⟩ := nodup_mid hnd
  have hll := liftL_len ls k
  have hout : k ∉ (row.take i ++ row.drop (i + 1)).map (·.1) := by
    simp only [List.map_append, List.mem_append, not_or] at hnk ⊢
    exact ⟨hnk.1, hnk.2.1⟩
  have hkf : k ∉ free := by simp only [List.mem_append, not_or] at hnk; exact hnk.2.2
  have hkept : keptV ((liftL ls k).set k ⟨z, 0, 0, false⟩) = upd (keptV ls) k (z, false) := by
    rw [keptV_set (by omega), liftL_kept hp hx]
  refine ⟨by simp [hll]; omega, fun x => ?_, ?_, ?_, ?_, ?_, ?_⟩
  · have := hi.all x
    rw [hs] at this
    simp only [List.map_append, List.map_cons, List.mem_append, List.mem_cons, List.length_set, hll, List.mem_singleton, List.not_mem_nil, or_false] at this ⊢
    rw [← this]
    constructor
    · rintro ((h | h) | h | h)
      · exact .inl (.inl h)
      · exact .inl (.inr (.inr h))
      · exact .inr h
      · exact .inl (.inr (.inl h))
    · rintro ((h | h | h) | h)
      · exact .inl (.inl h)
      · exact .inr (.inr h)
      · exact .inl (.inr h)
      · exact .inr (.inl h)
  · rw [← List.append_assoc]
    have : ((row.take i ++ row.drop (i + 1)).map (·.1) ++ free).Nodup := by simpa using hnd2
    rw [List.nodup_append]
    refine ⟨this, by simp, fun a ha b hb => ?_⟩
    simp only [List.mem_singleton] at hb
    subst hb
    rintro rfl
    rcases List.mem_append.1 ha with h | h
    · exact hout h
    · exact hkf h
  · rw [nx_set (by omega), pv_set (by omega)]
    refine hst.upd_out ?_
    rw [List.mem_cons, not_or]
    exact ⟨by omega, hout⟩
  · intro e hm
    rw [hkept]
    have hek : e.1 ≠ k := by
      rintro rfl
      exact hout (List.mem_map_of_mem hm)
    rw [upd_other hek]
    refine hi.vals e ?_
    rw [hs]
    rcases List.mem_append.1 hm with h | h
    · exact List.mem_append_left _ h
    · exact List.mem_append_right _ (List.mem_cons_of_mem _ h)
  · intro h hm
    rw [hkept]
    rcases List.mem_append.1 hm with hm1 | hm1
    · have hne : h ≠ k := by rintro rfl; exact hkf hm1
      rw [upd_other hne]
      exact hi.gone h hm1
    · simp only [List.mem_singleton] at hm1
      subst hm1; rw [upd_same]
  · rw [hkept, upd_other (by omega)]
    exact hi.zero
/-- a handle lifted, and laid between two others -/
theorem Inv.move (hi : Inv ls free row) {i k : Nat} {v : Value} {r1 r2 : List (Nat × Value)} (hs : row = row.take i ++ (k, v) :: row.drop (i + 1)) (hp : pvOf ls k < ls.length) (hx : nxOf ls k < ls.length) (hk : 0 < k) (hkl : k < ls.length)
    (h12 : r1 ++ r2 = row.eraseIdx i) (hp2 : (r1.map (·.1)).getLastD 0 < ls.length) (hx2 : (r2.map (·.1)).headD 0 < ls.length) :
    Inv (layL (liftL ls k) k ((r1.map (·.1)).getLastD 0) ((r2.map (·.1)).headD 0)) free (r1 ++ (k, v) :: r2) := by
  have he : row.eraseIdx i = row.take i ++ row.drop (i + 1) := List.eraseIdx_eq_take_drop_succ ..
  have hst := hi.lift hs hp hx
  rw [← he, ← h12] at hst
  have hnd := hi.nodup
  rw [hs] at hnd
  simp only [List.map_append, List.map_cons, List.append_assoc, List.cons_append] at hnd
  obtain ⟨hnk, hnd2⟩ := nodup_mid hnd
  have hll := liftL_len ls k
  have hperm : (r1 ++ (k, v) :: r2).Perm row := by
    rw [hs]
    refine (List.perm_middle).trans (List.Perm.trans ?_ List.perm_middle.symm)
    rw [h12, he]
  have hkept : keptV (layL (liftL ls k) k ((r1.map (·.1)).getLastD 0) ((r2.map (·.1)).headD 0)) = keptV ls := by
    rw [layL_kept (by omega) (by omega) (by omega), liftL_kept hp hx]
  have hout : k ∉ 0 :: ((r1 ++ r2).map (·.1)) := by
    rw [h12, he, List.mem_cons, not_or]
    simp only [List.map_append, List.mem_append, not_or] at hnk ⊢
    exact ⟨by omega, hnk.1, hnk.2.1⟩
  have hn0 : (0 :: ((r1 ++ r2).map (·.1))).Nodup := by
    have := hi.nodup0
    rw [hs] at this
    rw [h12, he]
    simp only [List.map_append, List.map_cons] at this ⊢
    have this : ((0 :: (row.take i).map (·.1)) ++ k :: (row.drop (i + 1)).map (·.1)).Nodup := this
    exact (nodup_mid this).2
  refine ⟨by rw [layL_len, hll]; exact hi.pos, fun x => ?_, ?_, ?_, ?_, ?_, ?_⟩
  · rw [layL_len, hll, ← hi.all x, (hperm.map (·.1)).mem_iff]
  · exact ((hperm.map (·.1)).append_right free).nodup_iff.2 hi.nodup
  · rw [layL_nx (by omega) (by omega) (by omega), layL_pv (by omega) (by omega) (by omega)]
    simp only [List.map_append, List.map_cons] at hst hout hn0 ⊢
    exact stands_lay hst hout hn0
  · intro e hm
    rw [hkept]
    exact hi.vals e (hperm.mem_iff.1 hm)
  · intro h hm
    rw [hkept]; exact hi.gone h hm
  · rw [hkept]; exact hi.zero
/-- Set -/
theorem Inv.setV (hi : Inv ls free row) {i k : Nat} {v u : Value} (hr : row[i]? = some (k, v)) (hk : 0 < k) (hkl : k < ls.length) (ht : (ls.getD k default).there = true) : Inv (ls.set k { ls.getD k default with v := u }) free (row.set i (k, u)) := by
  obtain ⟨hlt, hri⟩ := List.getElem?_eq_some_iff.1 hr
  have hmap : (row.set i (k, u)).map (·.1) = row.map (·.1) := by
    rw [List.map_set]
    apply List.ext_getElem?
    intro j
    rw [List.getElem?_set]
    split
    · rename_i h; subst h; simp [hlt, hri]
    · rfl
  have hkept : keptV (ls.set k { ls.getD k default with v := u }) = upd (keptV ls) k (u, true) := by
    rw [keptV_set hkl]; simp only [ht]
  refine ⟨by simp; exact hi.pos, fun x => by rw [hmap, List.length_set]; exact hi.all x, by rw [hmap]; exact hi.nodup, ?_, ?_, ?_, ?_⟩
  · rw [hmap]
    have e1 : nxOf (ls.set k { ls.getD k default with v := u }) = nxOf ls := by
      rw [nx_set hkl]; funext x; unfold upd nxOf; split
      · rename_i h; subst h; rfl
      · rfl
    have e2 : pvOf (ls.set k { ls.getD k default with v := u }) = pvOf ls := by
      rw [pv_set hkl]; funext x; unfold upd pvOf; split
      · rename_i h; subst h; rfl
      · rfl
    rw [e1, e2]; exact hi.stands
  · intro e he
    rw [hkept]
    rw [List.mem_iff_getElem] at he
    obtain ⟨j, hj, rfl⟩ := he
    rw [List.length_set] at hj
    rw [List.getElem_set]
    split
    · rw [upd_same]
    · rename_i hij
      have hne : row[j].1 ≠ k := by
        intro hjk
        have hnd := (List.nodup_append.1 hi.nodup).1
        have : (row.map (·.1))[j]? = (row.map (·.1))[i]? := by
          simp only [List.getElem?_map, List.getElem?_eq_getElem hj, List.getElem?_eq_getElem hlt, hri, Option.map_some]
          rw [hjk]
        have := (List.getElem?_inj (by simpa using hj) hnd).1 this
        omega
      rw [upd_other hne]
      exact hi.vals _ (List.getElem_mem hj)
  · intro h hm
    have hkf : h ≠ k := by
      rintro rfl
      have hnd := hi.nodup
      rw [List.nodup_append] at hnd
      refine hnd.2.2 h ?_ h hm rfl
      rw [List.mem_map]
      exact ⟨(h, v), by rw [List.mem_iff_getElem]; exact ⟨i, hlt, hri⟩, rfl⟩
    rw [hkept, upd_other hkf]; exact hi.gone h hm
  · rw [hkept, upd_other (by omega)]; exact hi.zero
end
end Go.Hb
namespace Go.Hb
section
variable {T : Type} {mk : T → Value}
def rowVal (row : List (Nat × T)) (h : Int) : Option T := match rAt row h with
  | some i => (row[i]?).map (·.2)
  | none => none
def rowItem (row : List (Nat × T)) (i : Nat) : List (Nat × T) := (row[i]?).toList
def rowLast (row : List (Nat × T)) : Nat := if row.length = 0 then 0 else rowPlace row (row.length - 1)
theorem rAt_V (row : List (Nat × T)) (h : Int) : rAt (rowV mk row) h = rAt row h := rAt_map (fun e => (e.1, mk e.2)) (fun _ => rfl) row h
theorem rowV_place (row : List (Nat × T)) (i : Nat) : rowPlace (rowV mk row) i = rowPlace row i := by unfold rowPlace; rw [rowV_fst]
theorem rowV_append (r1 r2 : List (Nat × T)) : rowV mk (r1 ++ r2) = rowV mk r1 ++ rowV mk r2 := by simp [rowV]
theorem rowV_erase (row : List (Nat × T)) (i : Nat) : rowV mk (row.eraseIdx i) = (rowV mk row).eraseIdx i := by
  simp only [rowV, List.eraseIdx_eq_take_drop_succ, List.map_append, List.map_take, List.map_drop]
theorem rowV_item {row : List (Nat × T)} {i k : Nat} {v : Value} (h : (rowV mk row)[i]? = some (k, v)) : rowV mk (rowItem row i) = [(k, v)] := by
  unfold rowV at h ⊢
  unfold rowItem
  rw [List.getElem?_map] at h
  cases hr : row[i]? with
  | none => rw [hr] at h; cases h
  | some e => rw [hr] at h; simp at h; simp [h]
theorem rowV_val {row : List (Nat × T)} {i k : Nat} {v : Value} {z : T} (h1 : rAt row (k : Int) = some i) (h : (rowV mk row)[i]? = some (k, v)) : v = mk ((rowVal row k).getD z) := by
  unfold rowV at h
  unfold rowVal
  rw [List.getElem?_map] at h
  rw [h1]
  simp only []
  cases hr : row[i]? with
  | none => rw [hr] at h; cases h
  | some e => rw [hr] at h; simp at h; simp [h]
theorem rowV_set {row : List (Nat × T)} {i k : Nat} {v : Value} {u : T} (h : (rowV mk row)[i]? = some (k, v)) : rowV mk (rowSet row i u) = (rowV mk row).set i (k, mk u) := by
  unfold rowV at h ⊢
  unfold rowSet
  rw [List.getElem?_map] at h
  cases hr : row[i]? with
  | none => rw [hr] at h; cases h
  | some e => rw [hr] at h; simp at h; simp [hr, h, List.map_set]
end
section
variable {ls : List Lk} {free : List Nat} {row : List (Nat × Value)}
theorem Inv.next_lt (hi : Inv ls free row) {i k : Nat} {v : Value} (hs : row = row.take i ++ (k, v) :: row.drop (i + 1)) : nxOf ls k < ls.length := by
  have hst := hi.stands
  have hb := hi.bound (x := ((row.drop (i + 1)).map (·.1)).headD 0) (by
    rcases List.mem_cons.1 (mem_headD (l := (row.drop (i + 1)).map (·.1))) with h | h
    · exact List.mem_cons.2 (.inl h)
    · exact List.mem_cons_of_mem _ (((List.drop_sublist _ _).map _).subset h))
  rw [hs] at hst
  simp only [List.map_append, List.map_cons] at hst
  rw [(stands_at hst).1]; exact hb
theorem Inv.prev_lt (hi : Inv ls free row) {i k : Nat} {v : Value} (hs : row = row.take i ++ (k, v) :: row.drop (i + 1)) : pvOf ls k < ls.length := by
  have hst := hi.stands
  have hb := hi.bound (x := ((row.take i).map (·.1)).getLastD 0) (by
    rcases List.mem_cons.1 (mem_lastD (l := (row.take i).map (·.1))) with h | h
    · exact List.mem_cons.2 (.inl h)
    · exact List.mem_cons_of_mem _ (((List.take_sublist _ _).map _).subset h))
  rw [hs] at hst
  simp only [List.map_append, List.map_cons] at hst
  rw [(stands_at hst).2]; exact hb
theorem Inv.erase_lt (hi : Inv ls free row) {i x : Nat} (hx : x ∈ 0 :: (row.eraseIdx i).map (·.1)) : x < ls.length := by
  refine hi.bound ?_
  rcases List.mem_cons.1 hx with h | h
  · exact List.mem_cons.2 (.inl h)
  · refine List.mem_cons_of_mem _ ?_
    exact ((List.eraseIdx_sublist row i).map _).subset h
end
end Go.Hb
namespace Go.Hb
theorem inv_new (z : Value) : Inv [⟨z, 0, 0, false⟩] [] [] := by
  refine ⟨by simp, fun h => ?_, by simp, ⟨rfl, rfl, trivial⟩, fun e he => by simp at he, fun h hh => by simp at hh, rfl⟩
  simp; omega
end Go.Hb
