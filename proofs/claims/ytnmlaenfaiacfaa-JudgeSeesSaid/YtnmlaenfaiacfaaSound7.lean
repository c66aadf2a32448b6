/- SOUNDNESS OF THE INTERPRETER: code, loops, whole functions. -/
import Derived.Test.YtnmlaenfaiacfaaSound6
import Derived.Deep.LoopGhost
set_option linter.unusedVariables false
set_option linter.unusedSimpArgs false
set_option linter.unnecessarySimpa false
set_option linter.unusedSectionVars false
namespace Go.Hb

theorem Sub.clean {ρ : Env} {a : Act} (h : Sub ρ a) (kp : KP) (n : Nat) : Sub (cleanAt kp n ρ) a := by
  unfold cleanAt
  split
  case h_2 => exact h
  rename_i ks _
  have key : ∀ (ρ : Env) (ks : List Nat) (i t : Nat), gt (Hb.clean ks i ρ) t = unk ∨ gt (Hb.clean ks i ρ) t = gt ρ t := by
    intro ρ
    induction ρ with
    | nil => intro ks i t; simp [Hb.clean]
    | cons v ρ ih =>
      intro ks i t
      cases ks with
      | nil => cases t with
        | zero => exact .inl rfl
        | succ t => simpa [Hb.clean, gt] using ih [] (i + 1) t
      | cons k ks =>
        simp only [Hb.clean]
        split <;> cases t <;> first | exact .inr rfl | exact .inl rfl | (simpa [gt] using ih _ (i + 1) _)
  have hlen : ∀ (ρ : Env) (ks : List Nat) (i : Nat), (Hb.clean ks i ρ).length = ρ.length := by
    intro ρ
    induction ρ with
    | nil => intro ks i; simp [Hb.clean]
    | cons v ρ ih =>
      intro ks i
      cases ks with
      | nil => simp [Hb.clean, ih]
      | cons k ks => simp only [Hb.clean]; split <;> simp [ih]
  refine ⟨h.defers, by rw [hlen]; exact h.size, fun t => ?_⟩
  rcases key ρ ks 0 t with h1 | h1
  · exact .inl h1
  · rw [h1]; exact h.get t

section
variable {P : Program}

theorem codeI_sound (hm : P.follows .mixedOrders = true) {kp : KP} : ∀ (c : Code) (n : Env → WP) (x : Nat → Env → WP) (r : Env → WP) (ρ : Env) (a : Act) (w : World) (Q : Exit → Act → World → Prop),
    codeI P kp idJ c n x r ρ w → Sub ρ a → (∀ ρ a w, n ρ w → Sub ρ a → Q .normal a w) → (∀ i ρ a w, x i ρ w → Sub ρ a → Q (.exit i) a w) → (∀ ρ a w, r ρ w → Sub ρ a → Q .ret a w) →
    (∀ c a w, ¬ Q (.panic c) a w) → c.wp P Q a w := by
  intro c
  induction c with
  | skip => intro n x r ρ a w Q h hs hn hx hr hP; exact wp_skip (hn _ _ _ h hs)
  | region id ops d =>
    intro n x r ρ a w Q h hs hn hx hr hP
    cases d with
    | false =>
      simp only [codeI] at h
      exact wp_region_list (by have := opsI_sound hn _ _ _ _ h hs; simpa using this)
    | true =>
      simp only [codeI] at h
      cases hsel : ops.toList.all noSel with
      | false => rw [hsel] at h; exact h.elim
      | true =>
        rw [hsel] at h
        obtain ⟨S, hS, h⟩ := h
        have hops : ops.toList.toArray = ops := by simp
        have hsel' : ∀ (j : Nat) (o : Oper) cs b, ops.toList.toArray[j]? = some o → o.op ≠ .select cs b := by
          intro j o cs b ho heq
          rw [hops] at ho
          have := List.all_eq_true.1 hsel o (Array.mem_toList_iff.2 (Array.mem_of_getElem? ho))
          simp [noSel, heq] at this
        refine wp_region_any hm ?_
        have := drawI_sound (Q := Q) hn hP hsel' ops.toList.length [] (Array.replicate ops.size false) ρ a _ ⟨by simp, fun j hj => by
            have hjl : j < ops.size := by simpa using hj
            simp [memb, hjl]⟩ ⟨by simp, fun j hj => by
          by_cases hjl : j < ops.size <;> simp [hjl] at hj⟩ (by simp) (fun _ _ _ _ => hS) hs h
        rw [hops, Array.length_toList] at this
        exact wpAny_of_M _ _ _ _ this
  | seq c d ihc ihd =>
    intro n x r ρ a w Q h hs hn hx hr hP
    simp only [codeI] at h
    refine wp_seq (ihc _ _ _ _ _ _ _ h hs (fun ρ' a' w' h' hs' => ?_) (fun i ρ a w h hs => hx i ρ a w h hs) (fun ρ a w h hs => hr ρ a w h hs) hP)
    cases hl : lookN kp.live (keyS d) with
    | none => simp only [hl] at h'; exact ihd _ _ _ _ _ _ _ h' hs' hn hx hr hP
    | some ks =>
      simp only [hl, idJ] at h'
      have hc := hs'.clean kp (keyS d)
      simp only [cleanAt, hl] at hc
      exact ihd _ _ _ _ _ _ _ h' hc hn hx hr hP
  | cond c x y ihx ihy =>
    intro n e r ρ a w Q h hs hn hx hr hP
    simp only [codeI] at h
    cases hv : ev ρ c with
    | bool t =>
      simp only [hv] at h
      have hc := ev_eq hs hv rfl
      cases t with
      | true => exact wp_cond_true hc (ihx _ _ _ _ _ _ _ h hs hn hx hr hP)
      | false => exact wp_cond_false hc (ihy _ _ _ _ _ _ _ h hs hn hx hr hP)
    | _ => simp only [hv] at h; exact h.elim
  | block id c ih =>
    intro n x r ρ a w Q h hs hn hx hr hP
    simp only [codeI] at h
    refine wp_block (ih _ _ _ _ _ _ _ h hs hn (fun i ρ a w h hs => ?_) (fun ρ a w h hs => hr ρ a w h hs) hP)
    show if i = id then Q .normal a w else Q (.exit i) a w
    cases hb : Nat.beq i id with
    | true =>
      rw [hb] at h
      rw [if_pos (Nat.eq_of_beq_eq_true hb)]
      exact hn _ _ _ h hs
    | false =>
      rw [hb] at h
      have : i ≠ id := fun he => by rw [he, Nat.beq_refl] at hb; cases hb
      rw [if_neg this]
      exact hx _ _ _ _ h hs
  | loop c ih =>
    intro n x r ρ a w Q h hs hn hx hr hP
    simp only [codeI] at h
    obtain ⟨m, h⟩ := h
    refine wp_loop_ghost (fun m a w => ∃ ρ, Sub ρ a ∧ loopI (fun k ρ => codeI P kp idJ c k x r ρ) (cleanAt kp (keyL c)) m ρ w) m ⟨_, hs.clean kp _, h⟩ ?_
    rintro m a w ⟨ρ, hs, h⟩
    cases m with
    | zero => exact h.elim
    | succ m =>
      simp only [loopI] at h
      refine ih _ _ _ _ _ _ _ h hs (fun ρ' a' w' h' hs' => ?_) (fun i ρ a w h hs => hx i ρ a w h hs) (fun ρ a w h hs => hr ρ a w h hs) hP
      exact ⟨m, Nat.lt_succ_self m, _, hs'.clean kp _, h'⟩
  | rangeFunc => intro n x r ρ a w Q h; exact h.elim
  | exit id => intro n x r ρ a w Q h hs hn hx hr hP; exact wp_exit (hx _ _ _ _ h hs)
  | scope c ih => intro n x r ρ a w Q h; exact h.elim
  | label => intro n x r ρ a w Q h; exact h.elim
  | goto => intro n x r ρ a w Q h; exact h.elim
  | ret => intro n x r ρ a w Q h hs hn hx hr hP; exact wp_ret (hr _ _ _ h hs)
  | refuse => intro n x r ρ a w Q h; exact h.elim

def resF (tmps : Array Value) : ResultVar → Sem Value
  | .tmp t => pure (tmps.getD t undef)
  | .cell c t => do loadVar t (← asAddr (tmps.getD c undef))
theorem results_eq (fn : Func) (tmps : Array Value) : results fn tmps = (do let vs ← fn.results.mapM (resF tmps); pure (if h : vs.size = 1 then vs[0] else .tuple vs)) := rfl
theorem resL_sound {a : Act} : ∀ (rs : List ResultVar) (ρ : Env) (K : List Value → WP) (w : World), resL P rs ρ K w → Sub ρ a →
    ∃ vs, K vs w ∧ (rs.mapM (resF a.tmps)).run P w = .ok vs w
  | [], ρ, K, w, h, hs => ⟨[], h, rfl⟩
  | .tmp t :: rs, ρ, K, w, h, hs => by
    simp only [resL] at h
    cases hu : isU (gt ρ t) with
    | true => rw [hu] at h; exact h.elim
    | false =>
      rw [hu] at h
      obtain ⟨vs, hK, hr⟩ := resL_sound rs ρ _ w h hs
      refine ⟨_, hK, ?_⟩
      have := (hs.get t).eq hu
      simp only [List.mapM_cons, Sem.run_bind, resF, Sem.run_pure, Result.andThen_ok, hr, this]
  | .cell c t :: rs, ρ, K, w, h, hs => by
    simp only [resL] at h
    obtain ⟨v, hu, h, hr1⟩ := loadI_sound h
    obtain ⟨vs, hK, hr⟩ := resL_sound rs ρ _ w h hs
    refine ⟨_, hK, ?_⟩
    have hg := (hs.get c).eq hu
    have h2 : (resF a.tmps (.cell c t)).run P w = .ok v w := by
      simp only [resF]
      rw [hg]
      unfold Instr.loadAt at hr1
      cases hx : gt ρ c <;> rw [hx] at hr1 <;> try (simp [Instr.sureAddr] at hr1; done)
      rename_i p
      cases p with
      | none => simp [Instr.sureAddr] at hr1
      | some p => simpa [Instr.sureAddr, asAddr] using hr1
    simp only [List.mapM_cons, Sem.run_bind, Result.andThen_ok, hr, h2, Sem.run_pure]

theorem resI_sound {a : Act} {fn : Func} {ρ : Env} {Q : Value → WP} {w : World} (h : resI P fn.results.toList ρ Q w) (hs : Sub ρ a) :
    ∃ v, Q v w ∧ (results fn a.tmps).run P w = .ok v w := by
  obtain ⟨vs, hK, hr⟩ := resL_sound _ _ _ _ h hs
  have hr' : (fn.results.mapM (resF a.tmps)).run P w = .ok vs.toArray w := by
    rw [Array.mapM_eq_mapM_toList, Sem.run_map, hr]
    rfl
  rw [results_eq]
  rcases vs with _ | ⟨v, _ | ⟨u, vs⟩⟩
  · refine ⟨_, hK, ?_⟩
    simp only [Sem.run_bind, hr', Result.andThen_ok, Sem.run_pure]
    rfl
  · refine ⟨_, hK, ?_⟩
    simp only [Sem.run_bind, hr', Result.andThen_ok, Sem.run_pure]
    rfl
  · refine ⟨_, hK, ?_⟩
    simp only [Sem.run_bind, hr', Result.andThen_ok, Sem.run_pure]
    simp

theorem length_undefs : ∀ n, (undefs n).length = n
  | 0 => rfl
  | n + 1 => by simp [undefs, length_undefs n]
theorem undefs_eq : ∀ n, undefs n = List.replicate n undef
  | 0 => rfl
  | n + 1 => by simp [undefs, undefs_eq n, List.replicate_succ]
theorem gt_eq (ρ : Env) (t : Nat) : gt ρ t = (ρ[t]?).getD unk := by
  induction ρ generalizing t with
  | nil => simp [gt]
  | cons v ρ ih => cases t <;> simp [gt, ih]

/-- A CALL, BY ITS INTERPRETATION. -/
theorem funJ_calls (hm : P.follows .mixedOrders = true) {kp : KP} {f : FuncId} {fn : Func} {args : List Value} {Q : Value → WP} {w : World} (hf : P.funcs[f]? = some fn) (hb : fn.body.isSome = true)
    (h : funJ idJ P kp fn args Q w) : Calls P f args.toArray w fun e w' => ∃ v, e = .returned v ∧ Q v w' := by
  obtain ⟨c, hc⟩ := Option.isSome_iff_exists.1 hb
  unfold funJ bodyOf at h
  simp only [hc] at h
  refine calls_of_wp hf hc ?_
  have hs : Sub (args ++ undefs (fn.ntmps - args.length)) { tmps := args.toArray ++ Array.replicate (fn.ntmps - args.toArray.size) undef, defers := [] } := by
    refine ⟨rfl, by simp [length_undefs], fun t => ?_⟩
    rw [gt_eq, undefs_eq]
    have : (args.toArray ++ Array.replicate (fn.ntmps - args.toArray.size) undef) = (args ++ List.replicate (fn.ntmps - args.length) undef).toArray := by
      rw [← Array.toList_inj]; simp
    rw [this]
    simp only [Array.getD_eq_getD_getElem?, List.getElem?_toArray]
    cases h0 : (args ++ List.replicate (fn.ntmps - args.length) undef)[t]? with
    | none => exact .inl rfl
    | some v => exact Le.refl _
  refine codeI_sound hm c _ _ _ _ _ _ (fun e a w => match e with
    | .panic _ => False
    | e => bodyPost P fn (fun e w' => ∃ v, e = .returned v ∧ Q v w') e a w) h hs ?_ ?_ ?_ ?_ |> fun h => Code.wp_mono (fun e a w q => by
      cases e <;> first | exact q | exact q.elim) h
  · intro ρ a w h hs
    obtain ⟨v, hv, hr⟩ := resI_sound h hs
    exact ⟨hs.defers, v, hr, v, rfl, hv⟩
  · intro i ρ a w h; exact h.elim
  · intro ρ a w h hs
    obtain ⟨v, hv, hr⟩ := resI_sound h hs
    exact ⟨hs.defers, v, hr, v, rfl, hv⟩
  · intro c a w h; exact h
end
end Go.Hb
