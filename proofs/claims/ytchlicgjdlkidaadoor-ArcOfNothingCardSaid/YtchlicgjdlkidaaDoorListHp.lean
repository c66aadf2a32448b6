/- list.List as one chunk: 'lst'. No program. -/
import Derived.Test.YtchlicgjdlkidaaDoorSL4
import Derived.Test.YtchlicgjdlkidaaDoorListInv2
set_option linter.unusedVariables false
set_option linter.unusedSimpArgs false
set_option linter.unnecessarySimpa false
set_option linter.unusedSectionVars false
namespace Go.Hb

def lkR : Rec Lk := ⟨4, Lk.cells, fun _ => rfl⟩
theorem arC_flat (ls : List Lk) : arC ls = lkR.flat ls := rfl
instance Lk.of0 {v : Value} {t : Bool} : RecOf lkR [v, .int .i64 (0 : Int), .int .i64 (0 : Int), .bool t] ⟨v, 0, 0, t⟩ := ⟨rfl⟩
instance Lk.setV {a : Lk} {v : Value} : SetR lkR a 0 v { a with v := v } := ⟨rfl, by decide⟩
instance Lk.setP {a : Lk} {p : Nat} : SetR lkR a 1 (.int .i64 (p : Int)) { a with prev := p } := ⟨rfl, by decide⟩
instance Lk.setP0 {a : Lk} : SetR lkR a 1 (.int .i64 (0 : Int)) { a with prev := 0 } := ⟨rfl, by decide⟩
instance Lk.setN {a : Lk} {p : Nat} : SetR lkR a 2 (.int .i64 (p : Int)) { a with next := p } := ⟨rfl, by decide⟩
instance Lk.setN0 {a : Lk} : SetR lkR a 2 (.int .i64 (0 : Int)) { a with next := 0 } := ⟨rfl, by decide⟩

theorem Inv.len {ls : List Lk} {free : List Nat} {row : List (Nat × Value)} (hi : Inv ls free row) : ls.length = row.length + free.length + 1 := by
  have h1 : (row.map (·.1) ++ free).Perm ((List.range ls.length).drop 1) := by
    refine (List.perm_ext_iff_of_nodup hi.nodup ?_).2 fun x => ?_
    · exact (List.nodup_range).sublist (List.drop_sublist _ _)
    · rw [List.mem_append, hi.all x]
      constructor
      · intro h
        rw [List.mem_iff_getElem]
        exact ⟨x - 1, by simp; omega, by simp; omega⟩
      · intro h
        rw [List.mem_iff_getElem] at h
        obtain ⟨i, hi, rfl⟩ := h
        simp at hi ⊢; omega
  have := h1.length_eq
  simp at this
  have := hi.pos
  omega
/-- the row of a list, typed -/
def rowV {T : Type} (mk : T → Value) (row : List (Nat × T)) : List (Nat × Value) := row.map fun e => (e.1, mk e.2)
theorem rowV_fst {T : Type} (mk : T → Value) (row : List (Nat × T)) : (rowV mk row).map (·.1) = row.map (·.1) := by simp [rowV]
theorem rowV_len {T : Type} (mk : T → Value) (row : List (Nat × T)) : (rowV mk row).length = row.length := by simp [rowV]
def lst {T : Type} (mk : T → Value) (b : Nat) (row : List (Nat × T)) (free : List Nat) : HP :=
  exH fun (x : Sl × Sl × List Lk) => andH (Inv x.2.2 free (rowV mk row)) (allH [blk b [.slice x.1.a x.1.n x.1.c, .slice x.2.1.a x.2.1.n x.2.1.c, .int .i64 (row.length : Int)], recs lkR x.1 x.2.2, recs Rec.nat x.2.1 free])
section
variable {T : Type} {mk : T → Value} {b : Nat} {row : List (Nat × T)} {free : List Nat} {W w : World} {M : List HP}
instance At.lst {L : List HP} : At (lst mk b row free :: L) b (lst mk b row free) (fun x => x :: L) := ⟨here_pos⟩
theorem lst_open (h : Sat W w (lst mk b row free :: M)) : ∃ (s f : Sl) (ls : List Lk), Inv ls free (rowV mk row) ∧ (s.n = ls.length ∧ f.n = free.length ∧ ls.length = row.length + free.length + 1) ∧
    Sat W w (blk b [.slice s.a s.n s.c, .slice f.a f.n f.c, .int .i64 (row.length : Int)] :: recs lkR s ls :: recs Rec.nat f free :: M) := by
  obtain ⟨⟨s, f, ls⟩, h⟩ := h.openE
  obtain ⟨hi, h⟩ := h.openA
  have h := h.openL
  have h : Sat W w (blk b [.slice s.a s.n s.c, .slice f.a f.n f.c, .int .i64 (row.length : Int)] :: recs lkR s ls :: recs Rec.nat f free :: M) := h
  refine ⟨s, f, ls, hi, ⟨(h.pure (q := 1) rfl fun g hg => ?_), (h.pure (q := 2) rfl fun g hg => ?_), ?_⟩, h⟩
  · have := hg.1.1; rw [Rec.flat_length] at this; exact (Nat.eq_of_mul_eq_mul_right (by decide : 0 < 4) this).symm
  · have := hg.1.1; rw [Rec.flat_length] at this; exact (Nat.eq_of_mul_eq_mul_right (by decide : 0 < 1) this).symm
  · have := hi.len; rw [rowV_len] at this; exact this
theorem lst_shut (s f : Sl) {ls : List Lk} {n : Int} (hi : Inv ls free (rowV mk row)) (hn : n = row.length)
    (h : Sat W w (blk b [.slice s.a s.n s.c, .slice f.a f.n f.c, .int .i64 n] :: recs lkR s ls :: recs Rec.nat f free :: M)) : Sat W w (lst mk b row free :: M) := by
  subst hn
  exact Sat.shutE (s, f, ls) (Sat.shutA hi (Sat.shutL (Ps := [_, _, _]) h))
/-- the next handle -/
def hdl {T : Type} (row : List (Nat × T)) (free : List Nat) : Nat := free.getLastD (row.length + free.length + 1)
end
end Go.Hb
