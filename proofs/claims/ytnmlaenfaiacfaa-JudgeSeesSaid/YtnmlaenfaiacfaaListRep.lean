/- RECORDS IN A SLICE; an arena of links as cells. No program. -/
import Derived.Test.YtnmlaenfaiacfaaSL2
import Derived.Test.YtnmlaenfaiacfaaRing
set_option linter.unusedVariables false
set_option linter.unusedSimpArgs false
set_option linter.unnecessarySimpa false
set_option linter.unusedSectionVars false
namespace Go.Hb

/-! rows of equal length, one behind the other -/
theorem flat_len {k : Nat} : ∀ {rows : List (List Value)}, (∀ r ∈ rows, r.length = k) → rows.flatten.length = rows.length * k
  | [], _ => by simp
  | r :: rows, h => by
    simp only [List.flatten_cons, List.length_append, List.length_cons]
    rw [h r (.head _), flat_len fun x hx => h x (.tail _ hx), Nat.add_mul, Nat.one_mul, Nat.add_comm]
theorem flat_get {k : Nat} : ∀ {rows : List (List Value)} {i j : Nat}, (∀ r ∈ rows, r.length = k) → j < k → rows.flatten[i * k + j]? = (rows[i]?).bind (·[j]?)
  | [], i, j, _, _ => by simp
  | r :: rows, 0, j, h, hj => by
    have := h r (.head _)
    simp only [List.flatten_cons, Nat.zero_mul, Nat.zero_add, List.getElem?_cons_zero, Option.bind_some]
    rw [List.getElem?_append_left (by omega)]
  | r :: rows, i + 1, j, h, hj => by
    have := h r (.head _)
    simp only [List.flatten_cons, List.getElem?_cons_succ]
    rw [List.getElem?_append_right (by rw [Nat.add_mul]; omega), ← flat_get (fun x hx => h x (.tail _ hx)) hj]
    congr 1
    rw [Nat.add_mul]; omega
theorem flat_set {k : Nat} : ∀ {rows : List (List Value)} {i j : Nat} {v : Value} {r : List Value}, (∀ r ∈ rows, r.length = k) → j < k → rows[i]? = some r → rows.flatten.set (i * k + j) v = (rows.set i (r.set j v)).flatten
  | [], i, j, _, _, _, _, hr => by simp at hr
  | r0 :: rows, 0, j, v, r, h, hj, hr => by
    have := h r0 (.head _)
    simp only [List.getElem?_cons_zero, Option.some.injEq] at hr
    subst hr
    simp only [List.flatten_cons, Nat.zero_mul, Nat.zero_add, List.set_cons_zero]
    rw [List.set_append_left _ _ (by omega)]
  | r0 :: rows, i + 1, j, v, r, h, hj, hr => by
    have := h r0 (.head _)
    simp only [List.getElem?_cons_succ] at hr
    simp only [List.flatten_cons, List.set_cons_succ]
    rw [List.set_append_right _ _ (by rw [Nat.add_mul]; omega), ← flat_set (fun x hx => h x (.tail _ hx)) hj hr]
    congr 2
    rw [Nat.add_mul]; omega

structure Lk where
  v : Value
  prev : Nat
  next : Nat
  there : Bool
def Lk.cells (l : Lk) : List Value := [l.v, .int .i64 l.prev, .int .i64 l.next, .bool l.there]
def arC (ls : List Lk) : List Value := (ls.map Lk.cells).flatten
theorem arC_rows {ls : List Lk} : ∀ r ∈ ls.map Lk.cells, r.length = 4 := by
  intro r hr
  simp only [List.mem_map] at hr
  obtain ⟨l, _, rfl⟩ := hr
  rfl
theorem arC_len (ls : List Lk) : (arC ls).length = ls.length * 4 := by
  unfold arC; rw [flat_len arC_rows]; simp
theorem arC_get {ls : List Lk} {i j : Nat} {l : Lk} (h : ls[i]? = some l) (hj : j < 4) : (arC ls)[i * 4 + j]? = l.cells[j]? := by
  unfold arC
  rw [flat_get arC_rows hj, List.getElem?_map, h]; rfl
theorem arC_set {ls : List Lk} {i j : Nat} {l l' : Lk} {v : Value} (h : ls[i]? = some l) (hj : j < 4) (hl : l.cells.set j v = l'.cells) : (arC ls).set (i * 4 + j) v = arC (ls.set i l') := by
  unfold arC
  rw [flat_set (r := l.cells) arC_rows hj (by rw [List.getElem?_map, h]; rfl), hl, List.map_set]
theorem arC_append (ls ms : List Lk) : arC (ls ++ ms) = arC ls ++ arC ms := by simp [arC]

instance : Inhabited Lk := ⟨⟨unk, 0, 0, false⟩⟩
def nxOf (ls : List Lk) (h : Nat) : Nat := (ls.getD h default).next
def pvOf (ls : List Lk) (h : Nat) : Nat := (ls.getD h default).prev
theorem getD_of {ls : List Lk} {h : Nat} {l : Lk} (hl : ls[h]? = some l) : ls.getD h default = l := by
  rw [List.getD_eq_getElem?_getD, hl]; rfl
theorem get_of {ls : List Lk} {h : Nat} (hl : h < ls.length) : ls[h]? = some (ls.getD h default) := by
  rw [List.getD_eq_getElem?_getD, List.getElem?_eq_getElem hl]; rfl
def setPrev (ls : List Lk) (h p : Nat) : List Lk := ls.set h { ls.getD h default with prev := p }
def setNext (ls : List Lk) (h n : Nat) : List Lk := ls.set h { ls.getD h default with next := n }
theorem getD_set {ls : List Lk} {h x : Nat} {l : Lk} (hl : h < ls.length) : (ls.set h l).getD x default = if x = h then l else ls.getD x default := by
  rw [List.getD_eq_getElem?_getD, List.getElem?_set]
  by_cases e : h = x
  · subst e; simp [hl]
  · rw [if_neg e, if_neg (Ne.symm e), List.getD_eq_getElem?_getD]
theorem len_setPrev (ls : List Lk) (h p : Nat) : (setPrev ls h p).length = ls.length := by simp [setPrev]
theorem len_setNext (ls : List Lk) (h p : Nat) : (setNext ls h p).length = ls.length := by simp [setNext]
theorem nx_setNext {ls : List Lk} {h n : Nat} (hl : h < ls.length) : nxOf (setNext ls h n) = upd (nxOf ls) h n := by
  funext x; unfold nxOf setNext upd; rw [getD_set hl]; split <;> rfl
theorem pv_setNext {ls : List Lk} {h n : Nat} (hl : h < ls.length) : pvOf (setNext ls h n) = pvOf ls := by
  funext x; unfold pvOf setNext; rw [getD_set hl]; split
  · rename_i e; subst e; rfl
  · rfl
theorem nx_setPrev {ls : List Lk} {h n : Nat} (hl : h < ls.length) : nxOf (setPrev ls h n) = nxOf ls := by
  funext x; unfold nxOf setPrev; rw [getD_set hl]; split
  · rename_i e; subst e; rfl
  · rfl
theorem pv_setPrev {ls : List Lk} {h n : Nat} (hl : h < ls.length) : pvOf (setPrev ls h n) = upd (pvOf ls) h n := by
  funext x; unfold pvOf setPrev upd; rw [getD_set hl]; split <;> rfl
/-- what a handle holds, its neighbours apart -/
def keptV (ls : List Lk) (x : Nat) : Value × Bool := ((ls.getD x default).v, (ls.getD x default).there)
theorem kept_setNext {ls : List Lk} {h n : Nat} (hl : h < ls.length) : keptV (setNext ls h n) = keptV ls := by
  funext x; unfold keptV setNext; rw [getD_set hl]; split
  · rename_i e; subst e; rfl
  · rfl
theorem kept_setPrev {ls : List Lk} {h n : Nat} (hl : h < ls.length) : keptV (setPrev ls h n) = keptV ls := by
  funext x; unfold keptV setPrev; rw [getD_set hl]; split
  · rename_i e; subst e; rfl
  · rfl
theorem arC_setPrev {ls : List Lk} {h p : Nat} (hl : h < ls.length) : (arC ls).set (h * 4 + 1) (.int .i64 (p : Int)) = arC (setPrev ls h p) :=
  arC_set (get_of hl) (by omega) rfl
theorem arC_setNext {ls : List Lk} {h p : Nat} (hl : h < ls.length) : (arC ls).set (h * 4 + 2) (.int .i64 (p : Int)) = arC (setNext ls h p) :=
  arC_set (get_of hl) (by omega) rfl

/-- the row of handles and values that stands in the links, and who is free -/
structure Inv (ls : List Lk) (free : List Nat) (row : List (Nat × Value)) : Prop where
  pos : 0 < ls.length
  all : ∀ h, (h ∈ row.map (·.1) ∨ h ∈ free) ↔ (0 < h ∧ h < ls.length)
  nodup : (row.map (·.1) ++ free).Nodup
  stands : Stands (nxOf ls) (pvOf ls) (row.map (·.1))
  vals : ∀ e ∈ row, keptV ls e.1 = (e.2, true)
  gone : ∀ h ∈ free, (keptV ls h).2 = false
  zero : (keptV ls 0).2 = false
end Go.Hb
