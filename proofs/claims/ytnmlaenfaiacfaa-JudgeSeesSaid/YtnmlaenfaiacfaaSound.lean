/- SOUNDNESS OF THE INTERPRETER's OPERATIONS THAT READ NO WORLD. -/
import Derived.Test.YtnmlaenfaiacfaaBase
set_option linter.unusedVariables false
set_option linter.unusedSimpArgs false
set_option linter.unnecessarySimpa false
set_option linter.unusedSectionVars false
namespace Go.Hb

def Le (v v' : Value) : Prop := v = unk ∨ v = v'
theorem Le.refl (v : Value) : Le v v := .inr rfl
theorem Le.eq {v v' : Value} (h : Le v v') (hu : isU v = false) : v' = v := by
  rcases h with h | h
  · subst h; simp [isU, unk] at hu
  · exact h.symm

structure Sub (ρ : Env) (a : Act) : Prop where
  defers : a.defers = []
  size : ρ.length ≤ a.tmps.size
  get : ∀ t, Le (gt ρ t) (a.tmps.getD t undef)

theorem gt_pt (ρ : Env) (t u : Nat) (v : Value) : gt (pt ρ t v) u = if u = t ∧ t < ρ.length then v else gt ρ u := by
  induction ρ generalizing t u with
  | nil => simp [pt, gt]
  | cons x ρ ih =>
    cases t with
    | zero => cases u <;> simp [pt, gt]
    | succ t => cases u with
      | zero => simp [pt, gt]
      | succ u => simp [pt, gt, ih]
theorem length_pt (ρ : Env) (t : Nat) (v : Value) : (pt ρ t v).length = ρ.length := by
  induction ρ generalizing t with
  | nil => simp [pt]
  | cons x ρ ih => cases t <;> simp [pt, ih]
theorem length_ptO (ρ : Env) (t : Option Nat) (v : Value) : (ptO ρ t v).length = ρ.length := by
  cases t <;> simp [ptO, length_pt]

theorem Sub.put {ρ : Env} {a : Act} (h : Sub ρ a) (dst : Option Nat) {v v' : Value} (hv : Le v v') : Sub (ptO ρ dst v) (a.put dst v') := by
  cases dst with
  | none => exact h
  | some t =>
    refine ⟨h.defers, by simpa [ptO, length_pt, Act.put] using h.size, fun u => ?_⟩
    simp only [ptO, gt_pt, Act.put]
    by_cases hu : u = t ∧ t < ρ.length
    · obtain ⟨rfl, hl⟩ := hu
      have hl' : u < a.tmps.size := Nat.lt_of_lt_of_le hl h.size
      simp [hl, hl']; exact hv
    · rw [if_neg hu]
      by_cases hut : u = t
      · subst hut
        have hl : ¬ u < ρ.length := fun hl => hu ⟨rfl, hl⟩
        have : gt ρ u = unk := by
          have key : ∀ (l : Env) (n : Nat), ¬ n < l.length → gt l n = unk := by
            intro l
            induction l with
            | nil => intros; rfl
            | cons x l ih => intro n hn; cases n with
              | zero => simp at hn
              | succ n => exact ih n (by simpa using hn)
          exact key ρ u hl
        exact .inl this
      · have : (a.tmps.setIfInBounds t v').getD u undef = a.tmps.getD u undef := by
          simp [Array.getElem?_setIfInBounds_ne (Ne.symm hut)]
        rw [this]; exact h.get u

theorem ev_le {ρ : Env} {a : Act} (h : Sub ρ a) (x : Operand) : Le (ev ρ x) (a.eval x) := by
  cases x with
  | tmp t => exact h.get t
  | _ => exact Le.refl _
theorem ev_eq {ρ : Env} {a : Act} (h : Sub ρ a) {x : Operand} {v : Value} (hv : ev ρ x = v) (hu : isU v = false) : a.eval x = v := by
  have := (ev_le h x).eq (by rw [hv]; exact hu)
  rw [this, hv]

theorem kEq_eq {k k' : IntKind} (h : kEq k k' = true) : k = k' := by
  cases k <;> cases k' <;> simp_all [kEq]

/-- what a pure operation yields, in every world -/
def Gives (P : Program) (o : Oper) (a : Act) (v : Value) : Prop := ∀ w, (execOp a.eval o).run P w = .ok (.value v) w

theorem run_equalIn_ptr {P : Program} {t e : TypeId} (he : P.underlying t = some (.pointer e)) (d : Nat) (p : Option Addr) (w : World) :
    (Op.equalIn (d + 1) t (.pointer p) (.pointer none)).run P w = .ok p.isNone w := by
  cases p <;> simp [Op.equalIn, run_underlying he]
theorem run_equalIn_slc {P : Program} {t e : TypeId} (he : P.underlying t = some (.slice e)) (d : Nat) (p : Option Addr) (n c m k : Nat) (w : World) :
    (Op.equalIn (d + 1) t (.slice p n c) (.slice none m k)).run P w = .ok p.isNone w := by
  cases p <;> simp [Op.equalIn, run_underlying he]
theorem run_equalIn_bool {P : Program} {t : TypeId} (he : P.underlying t = some .bool) (d : Nat) (p q : Bool) (w : World) :
    (Op.equalIn (d + 1) t (.bool p) (.bool q)).run P w = .ok (p == q) w := by
  simp [Op.equalIn, run_underlying he]
theorem run_binOp_eql {P : Program} {t : TypeId} {u v : Value} {b : Bool} {w : World} {op : BinOp} (hop : op = .eql ∨ op = .neq)
    (hu : (∃ p, u = .pointer p ∧ ∃ q, v = .pointer q) ∨ (∃ p n c, u = .slice p n c ∧ ∃ p n c, v = .slice p n c) ∨ (∃ p, u = .bool p ∧ ∃ q, v = .bool q))
    (h : (Op.equalIn 10000 t u v).run P w = .ok b w) : (binOp op t u v).run P w = .ok (.bool (if op = .eql then b else !b)) w := by
  have h' : (Op.equal t u v).run P w = .ok b w := h
  rcases hop with rfl | rfl <;> rcases hu with ⟨p, rfl, q, rfl⟩ | ⟨p, n, c, rfl, p', n', c', rfl⟩ | ⟨p, rfl, q, rfl⟩ <;>
    (simp only [binOp, Sem.run_bind, h', Result.andThen_ok]; rfl)

section
variable {P : Program} {ρ : Env} {a : Act}

theorem run_part_int {e : TypeId} {k : IntKind} {w : World} (he : P.underlying e = some (.int k)) {xs : Array Value} {o : Nat} {v : Value} (h : xs.toList[o]? = some v) : (part e xs o).run P w = .ok v w := by
  have h' : xs[o]? = some v := by rw [← Array.getElem?_toList]; exact h
  unfold part
  simp [isAgg, run_underlying he, h']
theorem run_equalIn_int {e : TypeId} {k : IntKind} {w : World} (he : P.underlying e = some (.int k)) (d : Nat) (a b : Int) : (Op.equalIn (d + 1) e (.int k a) (.int k b)).run P w = .ok (a == b) w := by
  simp [Op.equalIn, run_underlying he]
theorem eqRow_sound {e : TypeId} {k : IntKind} (he : P.underlying e = some (.int k)) (d : Nat) (xs ys : Array Value) : ∀ (l m : List Value) (o : Nat) (K : Bool → Prop), xs.toList.drop o = l → ys.toList.drop o = m → eqRowC k l m K →
    ∃ r, K r ∧ ∀ w, (Op.eqItems (d + 1) e 1 xs ys (List.range' o l.length)).run P w = .ok r w := by
  intro l
  induction l with
  | nil =>
    intro m o K h1 h2 h
    cases m with
    | nil => exact ⟨true, h, fun w => by simp [Op.eqItems]⟩
    | cons _ _ => exact h.elim
  | cons x l ih =>
    intro m o K h1 h2 h
    unfold eqRowC at h
    cases x <;> try exact h.elim
    rename_i k1 a
    cases m with
    | nil => exact h.elim
    | cons y m =>
    cases y <;> try exact h.elim
    rename_i k2 b
    simp only at h
    cases hk : kEq k k1 && kEq k k2 with
    | false => rw [hk] at h; exact h.elim
    | true =>
      rw [hk] at h
      simp only [Bool.and_eq_true] at hk
      obtain rfl := kEq_eq hk.1
      obtain rfl := kEq_eq hk.2
      have hx : xs.toList[o]? = some (.int k a) := by
        have := congrArg (·[0]?) h1
        simpa using this
      have hy : ys.toList[o]? = some (.int k b) := by
        have := congrArg (·[0]?) h2
        simpa using this
      have h1' : xs.toList.drop (o + 1) = l := by rw [← List.drop_drop, h1]; rfl
      have h2' : ys.toList.drop (o + 1) = m := by rw [← List.drop_drop, h2]; rfl
      obtain ⟨r, hr, hw⟩ := ih m (o + 1) _ h1' h2' h
      refine ⟨_, hr, fun w => ?_⟩
      simp only [List.length_cons, List.range'_succ, Op.eqItems, Sem.run_bind, Nat.mul_one, run_part_int he hx, run_part_int he hy, Result.andThen_ok, run_equalIn_int he]
      cases hab : (a == b) with
      | true => simpa using hw w
      | false => simp
theorem binI_sound {op : BinOp} {t : TypeId} {x y : Operand} {u v : Value} {K : Value → Prop} (h : binI P op t u v K) :
    ∃ r, K r ∧ isU u = false ∧ isU v = false ∧ ∀ w, ((do eqGuard op t x y u v; binOp op t u v : Sem Value)).run P w = .ok r w := by
  unfold binI at h
  cases u <;> try exact h.elim
  case agg xs =>
    cases v <;> try exact h.elim
    case agg ys =>
      simp only at h
      split at h
      case h_2 => exact h.elim
      rename_i n e he
      split at h
      case h_2 => exact h.elim
      rename_i k hk
      cases hc : (P.info? e).isSome && Nat.beq (P.cellsOf e) 1 && Nat.beq xs.toList.length n with
      | false => rw [hc] at h; exact h.elim
      | true =>
        rw [hc] at h
        simp only [Bool.and_eq_true, Nat.beq_eq] at hc
        obtain ⟨⟨hi, hc1⟩, hn⟩ := hc
        obtain ⟨i, hi⟩ := Option.isSome_iff_exists.1 hi
        obtain ⟨r, hr, hw⟩ := eqRow_sound (P := P) hk 9998 xs ys _ _ 0 _ rfl rfl h
        have heq : ∀ w, (Op.equalIn 10000 t (.agg xs) (.agg ys)).run P w = .ok r w := by
          intro w
          rw [run_equalIn_array (P := P) w 9999 xs ys he hi, hc1, List.range_eq_range', ← hn]
          simpa using hw w
        have hg : P.eqGuardType P.depth t = false := by
          obtain ⟨d, hd⟩ : ∃ d, P.depth = d + 2 := ⟨_, rfl⟩
          rw [hd]
          simp [Program.eqGuardType, he, hk]
        have heq' : ∀ w, (Op.equal t (.agg xs) (.agg ys)).run P w = .ok r w := heq
        cases op <;> simp only [eqI] at hr <;> try exact hr.elim
        all_goals
          refine ⟨_, hr, rfl, rfl, fun w => ?_⟩
          simp [eqGuard, hg, binOp, heq', go_sem]
  case int k n =>
    cases v <;> try exact h.elim
    case int k' m =>
      have hgen : ∀ op, cond (kEq k k') (intI op k n m K) False → ∃ r, K r ∧ ∀ w, ((do eqGuard op t x y (.int k n) (.int k' m); binOp op t (.int k n) (.int k' m) : Sem Value)).run P w = .ok r w := by
        intro op h
        cases hk : kEq k k' with
        | false => rw [hk] at h; exact h.elim
        | true =>
          rw [hk] at h
          obtain rfl := kEq_eq hk
          cases op <;> simp only [intI, cond_true] at h <;> try exact h.elim
          case quo => exact ⟨_, h.2, fun w => by simp [go_sem, Op.intDiv, h.1]⟩
          case rem => exact ⟨_, h.2, fun w => by simp [go_sem, Op.intDiv, h.1]⟩
          all_goals exact ⟨_, h, fun w => by simp [go_sem, Op.intArith]⟩
      cases op
      case shl =>
        refine ⟨_, h.2, rfl, rfl, fun w => ?_⟩
        have : ¬ m < 0 := by have := h.1; omega
        simp [go_sem, Op.shift, this, shlV]
      case shr =>
        refine ⟨_, h.2, rfl, rfl, fun w => ?_⟩
        have : ¬ m < 0 := by have := h.1; omega
        simp [go_sem, Op.shift, this, shrV]
      all_goals
        obtain ⟨r, hr, hw⟩ := hgen _ h
        exact ⟨r, hr, rfl, rfl, hw⟩
  case string s =>
    cases v <;> try exact h.elim
    case string s' =>
      cases op <;> simp only [strI] at h <;> try exact h.elim
      case add =>
        refine ⟨_, h.2, rfl, rfl, fun w => ?_⟩
        have h1 : ¬ ((s.size : Int) + (s'.size : Int) > 9223372036854775807) := by have := h.1; omega
        simp [go_sem, binOp, Op.stringOp]
        omega
      all_goals exact ⟨_, h, rfl, rfl, fun w => by simp [go_sem, binOp, Op.stringOp, sEq, sLt]⟩
  case pointer p =>
    cases v <;> try exact h.elim
    case pointer q =>
      cases q with
      | some q => exact h.elim
      | none =>
        simp only [isPtrT] at h
        split at h
        case h_2 => exact h.elim
        rename_i e he
        simp only [cond_true] at h
        cases op <;> simp only [eqI] at h <;> try exact h.elim
        all_goals
          refine ⟨_, h, rfl, rfl, fun w => ?_⟩
          simp only [Sem.run_bind, eqGuard_at_pointer, Sem.run_pure, Result.andThen_ok]
          exact run_binOp_eql (by simp) (.inl ⟨_, rfl, _, rfl⟩) (run_equalIn_ptr he 9999 p w)
  case slice p n c =>
    cases v <;> try exact h.elim
    case slice q m d =>
      cases q with
      | some q => exact h.elim
      | none =>
        simp only [isSlcT] at h
        split at h
        case h_2 => exact h.elim
        rename_i e he
        simp only [cond_true] at h
        cases op <;> simp only [eqI] at h <;> try exact h.elim
        all_goals
          refine ⟨_, h, rfl, rfl, fun w => ?_⟩
          simp only [Sem.run_bind, eqGuard_at_slice, Sem.run_pure, Result.andThen_ok]
          exact run_binOp_eql (by simp) (.inr (.inl ⟨_, _, _, rfl, _, _, _, rfl⟩)) (run_equalIn_slc he 9999 p n c m d w)
  case bool b =>
    cases v <;> try exact h.elim
    case bool b' =>
      simp only [isBoolT] at h
      split at h
      case h_2 => exact h.elim
      rename_i he
      simp only [cond_true] at h
      cases op <;> simp only [eqI] at h <;> try exact h.elim
      all_goals
        refine ⟨_, h, rfl, rfl, fun w => ?_⟩
        simp only [Sem.run_bind, eqGuard_at_bool, Sem.run_pure, Result.andThen_ok]
        exact run_binOp_eql (by simp) (.inr (.inr ⟨_, rfl, _, rfl⟩)) (run_equalIn_bool he 9999 b b' w)
end
end Go.Hb
