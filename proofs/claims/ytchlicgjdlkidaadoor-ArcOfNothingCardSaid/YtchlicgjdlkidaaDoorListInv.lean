/- THE ROW IN THE ARENA: what each turn of the links does to it. No program. -/
import Derived.Test.YtchlicgjdlkidaaDoorListRep
set_option linter.unusedVariables false
set_option linter.unusedSimpArgs false
set_option linter.unnecessarySimpa false
set_option linter.unusedSectionVars false
namespace Go.Hb

theorem keptV_set {ls : List Lk} {h : Nat} {l : Lk} (hl : h < ls.length) : keptV (ls.set h l) = upd (keptV ls) h (l.v, l.there) := by
  funext x; unfold keptV upd; rw [getD_set hl]; split <;> rfl
theorem getD_app {ls : List Lk} {l : Lk} (x : Nat) : (ls ++ [l]).getD x default = if x = ls.length then l else ls.getD x default := by
  rw [List.getD_eq_getElem?_getD, List.getD_eq_getElem?_getD]
  rcases Nat.lt_trichotomy x ls.length with h | h | h
  · rw [List.getElem?_append_left h, if_neg (by omega)]
  · subst h; rw [if_pos rfl, List.getElem?_append_right (by omega)]; simp
  · rw [List.getElem?_append_right (by omega), if_neg (by omega), List.getElem?_eq_none (by simp; omega), List.getElem?_eq_none (by omega)]
theorem keptV_app {ls : List Lk} {l : Lk} : keptV (ls ++ [l]) = upd (keptV ls) ls.length (l.v, l.there) := by
  funext x; unfold keptV upd; rw [getD_app]; split <;> rfl
theorem nx_set {ls : List Lk} {h : Nat} {l : Lk} (hl : h < ls.length) : nxOf (ls.set h l) = upd (nxOf ls) h l.next := by
  funext x; unfold nxOf upd; rw [getD_set hl]; split <;> rfl
theorem pv_set {ls : List Lk} {h : Nat} {l : Lk} (hl : h < ls.length) : pvOf (ls.set h l) = upd (pvOf ls) h l.prev := by
  funext x; unfold pvOf upd; rw [getD_set hl]; split <;> rfl
theorem nx_app {ls : List Lk} {l : Lk} : nxOf (ls ++ [l]) = upd (nxOf ls) ls.length l.next := by
  funext x; unfold nxOf upd; rw [getD_app]; split <;> rfl
theorem pv_app {ls : List Lk} {l : Lk} : pvOf (ls ++ [l]) = upd (pvOf ls) ls.length l.prev := by
  funext x; unfold pvOf upd; rw [getD_app]; split <;> rfl
theorem Stands.upd_out {nx pv : Nat → Nat} {ord : List Nat} {h a b : Nat} (hs : Stands nx pv ord) (hh : h ∉ 0 :: ord) : Stands (upd nx h a) (upd pv h b) ord := by
  refine Links.mono hs (fun x hx => upd_other ?_) (fun y hy => upd_other ?_)
  · rintro rfl
    rw [show (0 :: (ord ++ [0])) = (0 :: ord) ++ [0] by simp, List.dropLast_concat] at hx
    exact hh hx
  · rintro rfl
    simp only [List.tail_cons, List.mem_append, List.mem_singleton] at hy
    rcases hy with hy | hy
    · exact hh (List.mem_cons_of_mem _ hy)
    · exact hh (by rw [hy]; exact List.mem_cons_self)

/-- the next handle, and who is free behind it -/
def takeH (cap : Nat) (free : List Nat) : Nat := free.getLastD cap
def takeL (ls : List Lk) (free : List Nat) (v : Value) : List Lk := if free = [] then ls ++ [⟨v, 0, 0, true⟩] else ls.set (free.getLastD 0) ⟨v, 0, 0, true⟩
def layL (ls : List Lk) (h p x : Nat) : List Lk := setPrev (setNext (setNext (setPrev ls h p) h x) p h) x h
def liftL (ls : List Lk) (h : Nat) : List Lk := setPrev (setNext ls (pvOf ls h) (nxOf ls h)) (nxOf ls h) (pvOf ls h)
theorem layL_len (ls : List Lk) (h p x : Nat) : (layL ls h p x).length = ls.length := by simp [layL, len_setPrev, len_setNext]
theorem layL_nx {ls : List Lk} {h p x : Nat} (hh : h < ls.length) (hp : p < ls.length) (hx : x < ls.length) : nxOf (layL ls h p x) = upd (upd (nxOf ls) h x) p h := by
  unfold layL
  rw [nx_setPrev (by rw [len_setNext, len_setNext, len_setPrev]; exact hx), nx_setNext (by rw [len_setNext, len_setPrev]; exact hp), nx_setNext (by rw [len_setPrev]; exact hh), nx_setPrev hh]
theorem layL_pv {ls : List Lk} {h p x : Nat} (hh : h < ls.length) (hp : p < ls.length) (hx : x < ls.length) : pvOf (layL ls h p x) = upd (upd (pvOf ls) h p) x h := by
  unfold layL
  rw [pv_setPrev (by rw [len_setNext, len_setNext, len_setPrev]; exact hx), pv_setNext (by rw [len_setNext, len_setPrev]; exact hp), pv_setNext (by rw [len_setPrev]; exact hh), pv_setPrev hh]
theorem layL_kept {ls : List Lk} {h p x : Nat} (hh : h < ls.length) (hp : p < ls.length) (hx : x < ls.length) : keptV (layL ls h p x) = keptV ls := by
  unfold layL
  rw [kept_setPrev (by rw [len_setNext, len_setNext, len_setPrev]; exact hx), kept_setNext (by rw [len_setNext, len_setPrev]; exact hp), kept_setNext (by rw [len_setPrev]; exact hh), kept_setPrev hh]
theorem liftL_len (ls : List Lk) (h : Nat) : (liftL ls h).length = ls.length := by simp [liftL, len_setPrev, len_setNext]
theorem liftL_nx {ls : List Lk} {h : Nat} (hp : pvOf ls h < ls.length) (hx : nxOf ls h < ls.length) : nxOf (liftL ls h) = upd (nxOf ls) (pvOf ls h) (nxOf ls h) := by
  unfold liftL
  rw [nx_setPrev (by rw [len_setNext]; exact hx), nx_setNext hp]
theorem liftL_pv {ls : List Lk} {h : Nat} (hp : pvOf ls h < ls.length) (hx : nxOf ls h < ls.length) : pvOf (liftL ls h) = upd (pvOf ls) (nxOf ls h) (pvOf ls h) := by
  unfold liftL
  rw [pv_setPrev (by rw [len_setNext]; exact hx), pv_setNext hp]
theorem liftL_kept {ls : List Lk} {h : Nat} (hp : pvOf ls h < ls.length) (hx : nxOf ls h < ls.length) : keptV (liftL ls h) = keptV ls := by
  unfold liftL
  rw [kept_setPrev (by rw [len_setNext]; exact hx), kept_setNext hp]
end Go.Hb
