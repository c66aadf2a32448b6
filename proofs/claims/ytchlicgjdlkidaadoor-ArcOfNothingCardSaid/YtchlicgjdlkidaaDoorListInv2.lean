/- THE ROW IN THE ARENA: a handle taken, laid, lifted, given back. No program. -/
import Derived.Test.YtchlicgjdlkidaaDoorListInv
set_option linter.unusedVariables false
set_option linter.unusedSimpArgs false
set_option linter.unnecessarySimpa false
set_option linter.unusedSectionVars false
namespace Go.Hb

structure Taken (ls : List Lk) (free : List Nat) (row : List (Nat × Value)) (v : Value) (h : Nat) (ls1 : List Lk) (free1 : List Nat) : Prop where
  pos : 0 < h
  lt : h < ls1.length
  le : ls.length ≤ ls1.length
  out : h ∉ row.map (·.1)
  kept : keptV ls1 = upd (keptV ls) h (v, true)
  nx : nxOf ls1 = upd (nxOf ls) h 0
  pv : pvOf ls1 = upd (pvOf ls) h 0
  all : ∀ x, (x ∈ row.map (·.1) ∨ x = h ∨ x ∈ free1) ↔ (0 < x ∧ x < ls1.length)
  nodup : (row.map (·.1) ++ h :: free1).Nodup
  sub : ∀ x ∈ free1, x ∈ free

theorem getLastD_of {l : List Nat} (hl : l ≠ []) (d : Nat) : l.dropLast ++ [l.getLastD d] = l := by
  rcases List.eq_nil_or_concat l with rfl | ⟨m, x, rfl⟩
  · exact absurd rfl hl
  · simp [List.getLastD_eq_getLast?]
theorem Inv.take {ls : List Lk} {free : List Nat} {row : List (Nat × Value)} (hi : Inv ls free row) (v : Value) : Taken ls free row v (takeH ls.length free) (takeL ls free v) free.dropLast := by
  by_cases hf : free = []
  · subst hf
    have e : takeL ls [] v = ls ++ [⟨v, 0, 0, true⟩] := by simp [takeL]
    have eh : takeH ls.length [] = ls.length := rfl
    rw [e, eh]
    have hout : ls.length ∉ row.map (·.1) := fun h => by
      have := (hi.all _).1 (.inl h); omega
    refine ⟨hi.pos, by simp, by simp, hout, keptV_app, nx_app, pv_app, fun x => ?_, ?_, fun x hx => by simpa using hx⟩
    · have := hi.all x
      simp only [List.dropLast_nil, List.not_mem_nil, or_false, List.length_append, List.length_cons, List.length_nil] at this ⊢
      constructor
      · rintro (h | h)
        · have := this.1 h; omega
        · have := hi.pos; omega
      · intro h
        by_cases hx : x = ls.length
        · exact .inr hx
        · exact .inl (this.2 (by omega))
    · have := hi.nodup
      simp only [List.append_nil, List.dropLast_nil] at this ⊢
      rw [List.nodup_append]
      exact ⟨this, by simp, fun a ha b hb => by simp at hb; subst hb; rintro rfl; exact hout ha⟩
  · have hsplit := getLastD_of hf 0
    have eh : takeH ls.length free = free.getLastD 0 := by
      unfold takeH
      rcases List.eq_nil_or_concat free with rfl | ⟨m, x, rfl⟩
      · exact absurd rfl hf
      · simp [List.getLastD_eq_getLast?]
    have e : takeL ls free v = ls.set (free.getLastD 0) ⟨v, 0, 0, true⟩ := by simp [takeL, hf]
    rw [e, eh]
    generalize free.getLastD 0 = h at *
    have hmem : h ∈ free := by rw [← hsplit]; simp
    have hb := (hi.all h).1 (.inr hmem)
    have hnd := hi.nodup
    rw [← hsplit] at hnd
    have hnd' := hnd
    simp only [List.nodup_append] at hnd'
    have hout : h ∉ row.map (·.1) := fun hr => hnd'.2.2 h hr h (by simp) rfl
    refine ⟨hb.1, by simpa using hb.2, by simp, hout, keptV_set hb.2, nx_set hb.2, pv_set hb.2, fun x => ?_, ?_, fun x hx => (List.dropLast_sublist _).subset hx⟩
    · have := hi.all x
      rw [← hsplit] at this
      simp only [List.mem_append, List.mem_singleton, List.length_set] at this ⊢
      rw [← this]
      constructor
      · rintro (h | h | h)
        · exact .inl h
        · exact .inr (.inr h)
        · exact .inr (.inl h)
      · rintro (h | h | h)
        · exact .inl h
        · exact .inr (.inr h)
        · exact .inr (.inl h)
    · refine (List.Perm.nodup_iff ?_).1 hnd
      exact List.Perm.append_left _ (List.perm_append_comm (l₁ := free.dropLast) (l₂ := [h]))
theorem Inv.bound {ls : List Lk} {free : List Nat} {row : List (Nat × Value)} (hi : Inv ls free row) {x : Nat} (hx : x ∈ 0 :: row.map (·.1)) : x < ls.length := by
  rcases List.mem_cons.1 hx with rfl | hx
  · exact hi.pos
  · exact ((hi.all x).1 (.inl hx)).2
theorem Inv.nodup0 {ls : List Lk} {free : List Nat} {row : List (Nat × Value)} (hi : Inv ls free row) : (0 :: row.map (·.1)).Nodup := by
  rw [List.nodup_cons]
  refine ⟨fun h0 => ?_, (List.nodup_append.1 hi.nodup).1⟩
  have := (hi.all 0).1 (.inl h0); omega
theorem mem_headD {l : List Nat} : l.headD 0 ∈ 0 :: l := by cases l <;> simp
theorem mem_lastD {l : List Nat} : l.getLastD 0 ∈ 0 :: l := by
  rcases List.eq_nil_or_concat l with rfl | ⟨m, x, rfl⟩
  · simp
  · simp [List.getLastD_eq_getLast?]
/-- laid between two neighbours -/
theorem Inv.lay {ls : List Lk} {free : List Nat} {r1 r2 : List (Nat × Value)} (hi : Inv ls free (r1 ++ r2)) {v : Value} {h : Nat} {ls1 : List Lk} {free1 : List Nat} (ht : Taken ls free (r1 ++ r2) v h ls1 free1) :
    Inv (layL ls1 h ((r1.map (·.1)).getLastD 0) ((r2.map (·.1)).headD 0)) free1 (r1 ++ (h, v) :: r2) := by
  have hp : (r1.map (·.1)).getLastD 0 < ls1.length := by
    have h1 : (r1.map (·.1)).getLastD 0 ∈ 0 :: (r1 ++ r2).map (·.1) := by
      have := mem_lastD (l := r1.map (·.1))
      simp only [List.map_append, List.mem_cons, List.mem_append] at this ⊢
      rcases this with h | h
      · exact .inl h
      · exact .inr (.inl h)
    exact Nat.lt_of_lt_of_le (hi.bound h1) ht.le
  have hx : (r2.map (·.1)).headD 0 < ls1.length := by
    have h1 : (r2.map (·.1)).headD 0 ∈ 0 :: (r1 ++ r2).map (·.1) := by
      have := mem_headD (l := r2.map (·.1))
      simp only [List.map_append, List.mem_cons, List.mem_append] at this ⊢
      rcases this with h | h
      · exact .inl h
      · exact .inr (.inr h)
    exact Nat.lt_of_lt_of_le (hi.bound h1) ht.le
  have hk := layL_kept ht.lt hp hx
  have hout : h ∉ 0 :: (r1 ++ r2).map (·.1) := by
    rw [List.mem_cons]; rintro (h0 | h0)
    · have := ht.pos; omega
    · exact ht.out h0
  refine ⟨by rw [layL_len]; have := ht.lt; omega, fun x => ?_, ?_, ?_, ?_, ?_, ?_⟩
  · rw [layL_len, ← ht.all x]
    simp only [List.map_append, List.map_cons, List.mem_append, List.mem_cons]
    constructor
    · rintro ((a | a | a) | a)
      · exact .inl (.inl a)
      · exact .inr (.inl a)
      · exact .inl (.inr a)
      · exact .inr (.inr a)
    · rintro ((a | a) | a | a)
      · exact .inl (.inl a)
      · exact .inl (.inr (.inr a))
      · exact .inl (.inr (.inl a))
      · exact .inr a
  · have := ht.nodup
    simp only [List.map_append, List.map_cons] at this ⊢
    refine (List.Perm.nodup_iff ?_).1 this
    simp only [List.append_assoc, List.cons_append]
    refine List.Perm.append_left _ ?_
    exact List.perm_middle
  · have hs := hi.stands
    simp only [List.map_append, List.map_cons] at hs hout ⊢
    have hn := hi.nodup0
    simp only [List.map_append] at hn
    have h1 : Stands (nxOf ls1) (pvOf ls1) (r1.map (·.1) ++ r2.map (·.1)) := by
      rw [ht.nx, ht.pv]; exact hs.upd_out hout
    rw [layL_nx ht.lt hp hx, layL_pv ht.lt hp hx]
    exact stands_lay h1 hout hn
  · intro e he
    rw [hk, ht.kept]
    simp only [List.mem_append, List.mem_cons] at he
    by_cases heq : e.1 = h
    · rcases he with he | he | he
      · exact absurd (by rw [← heq]; exact List.mem_map_of_mem (List.mem_append_left _ he)) ht.out
      · subst he; exact upd_same _ _ _
      · exact absurd (by rw [← heq]; exact List.mem_map_of_mem (List.mem_append_right _ he)) ht.out
    · rw [upd_other heq]
      refine hi.vals e ?_
      rcases he with he | he | he
      · exact List.mem_append_left _ he
      · subst he; exact absurd rfl heq
      · exact List.mem_append_right _ he
  · intro x hx'
    rw [hk, ht.kept]
    have hxh : x ≠ h := by
      rintro rfl
      have := (List.nodup_append.1 ht.nodup).2.1
      simp only [List.nodup_cons] at this
      exact this.1 hx'
    rw [upd_other hxh]
    exact hi.gone x (ht.sub x hx')
  · rw [hk, ht.kept, upd_other (by have := ht.pos; omega)]
    exact hi.zero
end Go.Hb
