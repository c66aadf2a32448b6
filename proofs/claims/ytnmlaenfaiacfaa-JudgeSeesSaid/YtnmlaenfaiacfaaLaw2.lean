/- ARGUMENTS AS ROWS OF RECORDS; what was there stands. No program. -/
import Derived.Test.YtnmlaenfaiacfaaSL5
import Derived.Test.YtnmlaenfaiacfaaOpen
set_option linter.unusedVariables false
set_option linter.unusedSimpArgs false
set_option linter.unnecessarySimpa false
set_option linter.unusedSectionVars false
namespace Go.Hb

theorem rows_rec {α : Type} (E : Rec α) (P : α → Prop) {ks : List CK} (hks : ∀ x, okRow ks x → ∃ a, x = E.cells a ∧ P a) : ∀ {rows : List (List Value)}, (∀ x ∈ rows, okRow ks x) →
    ∃ l : List α, rows.flatten = E.flat l ∧ l.length = rows.length ∧ ∀ a ∈ l, P a
  | [], _ => ⟨[], rfl, rfl, fun _ h => by cases h⟩
  | x :: rows, h => by
    obtain ⟨l, h1, h2, h3⟩ := rows_rec E P hks (rows := rows) fun y hy => h y (.tail _ hy)
    obtain ⟨a, rfl, ha⟩ := hks x (h x (.head _))
    refine ⟨a :: l, ?_, by simp [h2], fun b hb => ?_⟩
    · rw [List.flatten_cons, h1]; rfl
    · cases hb with
      | head => exact ha
      | tail _ hb => exact h3 b hb
def okK (k : IntKind) (n : Int) : Prop := (Lit.int k n).wf = true
def okStr (s : ByteArray) : Prop := s.size ≤ reachBytes
def Rec.bool : Rec Bool := ⟨1, fun b => [.bool b], fun _ => rfl⟩
instance : PosR Rec.bool := ⟨Nat.one_pos⟩
instance : OkR Rec.bool := ⟨fun _ => rfl⟩
theorem of_str : ∀ x, okRow [.str] x → ∃ a, x = Rec.str.cells a ∧ okStr a
  | [_], ⟨⟨s, rfl, h⟩, _⟩ => ⟨s, rfl, h⟩
theorem of_ik {k : IntKind} (x : List Value) (h : okRow [.int k] x) : ∃ a, x = (Rec.int k).cells a ∧ okK k a := by
  match x, h with
  | [v], ⟨⟨s, hv, hw⟩, _⟩ => subst hv; exact ⟨s, rfl, hw⟩
theorem of_int : ∀ x, okRow [.int .i64] x → ∃ a, x = (Rec.int .i64).cells a ∧ okK .i64 a := of_ik
theorem of_u32 : ∀ x, okRow [.int .u32] x → ∃ a, x = (Rec.int .u32).cells a ∧ okK .u32 a := of_ik
theorem of_bool : ∀ x, okRow [.bool] x → ∃ a, x = Rec.bool.cells a ∧ True
  | [_], ⟨⟨s, rfl⟩, _⟩ => ⟨s, rfl, trivial⟩
/-- an argument: a slice of records -/
theorem arg_rec {α : Type} {W : World} {s : Sl} {ks : List CK} {rows : List (List Value)} (E : Rec α) (P : α → Prop) (hks : ∀ x, okRow ks x → ∃ a, x = E.cells a ∧ P a) (hpos : 0 < E.sz) (hsz : E.sz = ks.length)
    (hr : Reads W ks.length s rows.flatten) (ho : ∀ x ∈ rows, okRow ks x) : ∃ l : List α, ReadsR W s E l ∧ l.length = rows.length ∧ ∀ a ∈ l, P a := by
  obtain ⟨l, h1, h2, h3⟩ := rows_rec E P hks ho
  refine ⟨l, ReadsR.of hpos ?_, h2, h3⟩
  rw [← h1, hsz]; exact hr
def isStT (P : Program) (t : TypeId) : Bool := match P.underlying t with
  | some (.struct _) => true
  | _ => false
/-- a struct argument -/
theorem open_st {H : Type} {enc : TypeId × Value → H} {P : Program} {W : World} {base : Nat} {sp : Nat → Bool} {held : Bool} {t : TypeId} {v : Value} {d : DataW H} {ps : List MemPlace} {ks : List CK} {r : Reach} {b0 : Nat} (ht : isStT P t = true) (hks : flatT P 9 t = some ks)
    (hval : Value.okWide P W r b0 t v) (hd : DataW.Trod enc P W base sp held t v d ps) (hlt : Light P t d) : ∃ cs : List Value, v = .agg cs.toArray ∧ okRow ks cs := by
  unfold isStT at ht
  split at ht
  · rename_i fs hu
    simp only [Value.okWide, hu] at hval
    obtain ⟨cs, rfl, _⟩ := hval
    obtain ⟨fuel, hf⟩ := hd
    exact ⟨cs.toList, by simp, flatT_ok 9 t ks _ hks ⟨fuel, _, hf, hlt⟩⟩
  · cases ht
theorem Sat.keptO {W w : World} {L : List HP} [hA : AtO L W] (h : Sat W w L) : KeptH W w := by
  obtain ⟨M, h1⟩ := hA.pos
  exact (h.perm h1).kept (q := 0) rfl
/-- a law's walk, out of its text -/
theorem law_of {P : Program} {f : FuncId} {args : Array Value} {W : World} {v0 : Value} (h : Calls P f args W fun e w' => ∃ v, e = .returned v ∧ (v = v0 ∧ Sat W w' [old W])) : Calls P f args W fun e w' => e = .returned v0 ∧ KeptH W w' :=
  h.mono fun _ _ ⟨_, he, hv, hs⟩ => ⟨by rw [he, hv], hs.keptO⟩
end Go.Hb
