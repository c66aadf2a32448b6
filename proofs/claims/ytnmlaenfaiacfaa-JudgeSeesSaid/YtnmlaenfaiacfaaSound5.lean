/- SOUNDNESS OF THE INTERPRETER: append, calls, any operation. -/
import Derived.Test.YtnmlaenfaiacfaaSound4
set_option linter.unusedVariables false
set_option linter.unusedSimpArgs false
set_option linter.unnecessarySimpa false
set_option linter.unusedSectionVars false
namespace Go.Hb

section
variable {P : Program} {ρ : Env} {a : Act} {w : World}

theorem rdL_spec : ∀ (n o : Nat) (w : World) (b : Nat) (vs : List Value), rdL w b o n = some vs → vs.length = n ∧ ∀ (j : Nat) v, vs[j]? = some v → w.cell? ⟨b, o + j, none⟩ = some v
  | 0, o, w, b, vs, h => by simp [rdL] at h; subst h; simp
  | n + 1, o, w, b, vs, h => by
    simp only [rdL] at h
    split at h
    case h_2 => cases h
    rename_i v hv
    split at h
    case h_2 => cases h
    rename_i l hl
    cases h
    obtain ⟨h1, h2⟩ := rdL_spec n (o + 1) w b l hl
    refine ⟨by simp [h1], fun j u hj => ?_⟩
    cases j with
    | zero => simp at hj; subst hj; exact hv
    | succ j =>
      have := h2 j u (by simpa using hj)
      rwa [show o + 1 + j = o + (j + 1) by omega] at this
theorem rdA_run {b : Option Addr} {n size c m : Nat} {vs : List Value} (h : rdA w b (n * size) = some vs) (w' : World) (hw : ∀ x, w'.cell? x = w.cell? x) :
    (Builtin.firstCells size n (.slice b m c)).run P w' = .ok vs.toArray w' := by
  rcases b with _ | ⟨b, o, _ | _⟩
  · simp only [rdA, Option.some.injEq] at h
    subst h
    simp [Builtin.firstCells]
  · obtain ⟨h1, h2⟩ := rdL_spec _ _ _ _ _ h
    have := run_loadCells_list (P := P) w' ⟨b, o, none⟩ vs (fun j v hj => by rw [Addr.add_lit, hw]; exact h2 j v hj)
    rw [h1] at this
    simpa [Builtin.firstCells] using this
  · cases h

def stS (b : Option Addr) (off : Nat) (vs : List Value) : Sem Unit := match b with
  | some x => storeCells (x.add off) vs
  | none => pure ()
theorem stA_sound {b : Option Addr} {off : Nat} {vs : List Value} {K : WP} (h : stA b off vs K w) (hk : okC vs = true) :
    ∃ w', K w' ∧ (stS b off vs).run P w = .ok () w' := by
  rcases b with _ | ⟨b, o, _ | _⟩
  · cases vs with
    | nil => exact ⟨w, h, rfl⟩
    | cons v vs => exact h.elim
  · obtain ⟨w', hK, hr⟩ := sts_sound (P := P) _ _ _ _ _ h hk
    refine ⟨w', hK, ?_⟩
    have := hr (o + off) 0 rfl
    simpa [stS, Addr.add_lit] using this
  · exact h.elim

theorem appendC_sound {t t2 e ty : TypeId} {i : TypeInfo} {zv : Value} {z : List Value} {s : Sl} {x : Value} {n : Nat} {new : World → Option (List Value)} {K : Sl → WP}
    (ht : P.underlying t = some (.slice e)) (hi : P.info? e = some i) (hz : i.zero = some zv) (hzc : zv.cells = z.toArray) (_hl : z.length = i.size)
    (hb0 : i.bytes ≠ 0) (ht2 : (∃ e2, P.underlying t2 = some (.slice e2)) ∨ P.underlying t2 = some .string)
    (hx : ∀ w, (Builtin.lenOf x).run P w = .ok n w) (hn : ∀ w vs, new w = some vs → ∀ w', (∀ y, w'.cell? y = w.cell? y) → (Builtin.firstCells i.size n x).run P w' = .ok vs.toArray w')
    (h : appendC e i.size i.bytes z s n new K w) :
    ∃ r w', K r w' ∧ (Builtin.append_ #[t, t2] ty #[.slice s.a s.n s.c, x]).run P w = .ok (.slice r.a r.n r.c) w' := by
  obtain ⟨sa, sn, sc⟩ := s
  obtain ⟨vs, hvs, hok, h⟩ := h
  dsimp only at h ⊢
  have hnew := hn w vs hvs
  by_cases hle : sn + n ≤ sc
  · rw [if_pos hle] at h
    obtain ⟨w', hK, hr⟩ := stA_sound (P := P) h hok
    refine ⟨_, w', hK, ?_⟩
    have h2 : (Builtin.firstCells i.size n x).run P w = .ok vs.toArray w := hnew w (fun _ => rfl)
    cases sa with
    | none =>
      have hr' : w = w' := by simpa [stS] using hr
      subst hr'
      rcases ht2 with ⟨e2, hd⟩ | hd <;> simp [Builtin.append_, run_underlying ht, run_underlying hd, sizeOf, typeInfo, hi, hx, hle, h2]
    | some y =>
      simp only [stS] at hr
      rcases ht2 with ⟨e2, hd⟩ | hd <;> simp [Builtin.append_, run_underlying ht, run_underlying hd, sizeOf, typeInfo, hi, hx, hle, h2, hr]
  · rw [if_neg hle] at h
    obtain ⟨hcap, old, hold, h⟩ := h
    have hq : (Question.appendCap (sn + n) sc e).forced = false := rfl
    obtain ⟨N, hN⟩ : ∃ N, N = (Question.appendCap (sn + n) sc e).cut (w.tape w.drawn (.appendCap (sn + n) sc e)) := ⟨_, rfl⟩
    have hNle : sn + n ≤ N := by rw [hN]; exact Nat.le_add_right _ _
    have h1 : (Builtin.firstCells i.size sn (.slice sa sn sc)).run P w.drew = .ok old.toArray w.drew := rdA_run hold _ (fun _ => rfl)
    have h2 : (Builtin.firstCells i.size n x).run P w.drew = .ok vs.toArray w.drew := hnew _ (fun _ => rfl)
    have h3 : Builtin.zeroCells zv.cells (N - (sn + n)) = (zrow z (N - (sn + n))).toArray := by
      rw [← zrow_map, hzc]
      rfl
    have hzv : ∀ w, (zeroValue e).run P w = .ok zv w := fun w => by simp [zeroValue, typeInfo, hi, hz]
    refine ⟨_, _, h N hNle, ?_⟩
    have hcap' : ¬ Builtin.nextslicecap (sn + n) sc * i.bytes > 281474976710656 := by omega
    rcases ht2 with ⟨e2, hd⟩ | hd
    all_goals
      simp [Builtin.append_, run_underlying ht, run_underlying hd, sizeOf, typeInfo, hi, hx, hle, hb0, hcap', -run_choose]
      rw [hq, ← hN]
      simp only [Bool.false_eq_true, if_false, h1, Result.andThen_ok, h2, hzv, h3, newRow, Sem.run_bind, run_newObj, Sem.run_pure, List.append_toArray, World.alloc]
      rfl

theorem isSlc_spec {t : TypeId} (h : isSlcT P t = true) : ∃ e, P.underlying t = some (.slice e) := by
  unfold isSlcT at h
  split at h
  · rename_i e he; exact ⟨e, he⟩
  · cases h
theorem isStr_spec {t : TypeId} (h : isStrT P t = true) : P.underlying t = some .string := by
  unfold isStrT at h
  split at h
  · rename_i he; exact he
  · cases h
theorem bytes_first (b : ByteArray) (size : Nat) (w : World) : (Builtin.firstCells size b.size (.string b)).run P w = .ok (bytesL b).toArray w := by
  have h1 : b.extract 0 b.size = b := by simp
  simp only [Builtin.firstCells, h1, Sem.run_pure]
  congr 1
  rw [← Array.toList_inj]
  simp [bytesL]

theorem appendI_sound {t t2 ty : TypeId} {s x : Value} {K : Value → WP} (h : appendI P t t2 s x K w) :
    isU s = false ∧ isU x = false ∧ ∃ r w', K r w' ∧ (Builtin.append_ #[t, t2] ty #[s, x]).run P w = .ok r w' := by
  unfold appendI at h
  cases ht : P.underlying t with
  | none => simp only [ht] at h; exact h.elim
  | some d =>
  simp only [ht] at h
  cases d <;> try exact h.elim
  rename_i e
  simp only at h
  cases hz : zeroL P e with
  | none => simp only [hz] at h; exact h.elim
  | some z =>
  simp only [hz] at h
  cases s <;> try exact h.elim
  rename_i sa sn sc
  simp only at h
  cases hc : ((P.info? e).isSome && Nat.beq z.length (szT P e) && !Nat.beq (byT P e) 0) with
  | false => rw [hc] at h; exact h.elim
  | true =>
    rw [hc] at h
    simp only [Bool.and_eq_true, Bool.not_eq_eq_eq_not, Bool.not_true] at hc
    obtain ⟨⟨hi, hl⟩, hb⟩ := hc
    have hl' : z.length = szT P e := Nat.eq_of_beq_eq_true hl
    have hb' : byT P e ≠ 0 := fun h0 => by rw [h0] at hb; cases hb
    obtain ⟨i, v, hi', hv, hvc⟩ := zeroL_sound' hz
    have hby : byT P e = i.bytes := by simp [byT, hi']
    have hsz : szT P e = i.size := by simp [szT, hi']
    rw [hsz] at hl'
    rw [hby] at hb'
    simp only [cond_true] at h
    cases x <;> try exact h.elim
    case string b =>
      cases hs2 : isStrT P t2 with
      | false => simp only [hs2] at h; exact h.elim
      | true =>
        simp only [hs2, hsz, hby, cond_true] at h
        obtain ⟨r, w', hK, hr⟩ := appendC_sound (ty := ty) (x := .string b) (n := b.size) (new := fun _ => some (bytesL b)) ht hi' hv hvc hl' hb' (.inr (isStr_spec hs2)) (fun w => by simp [Builtin.lenOf])
          (fun w vs hvs w' _ => by cases hvs; exact bytes_first b _ w') h
        exact ⟨rfl, rfl, _, _, hK, hr⟩
    case slice a' n' c' =>
      cases hs2 : isSlcT P t2 with
      | false => simp only [hs2] at h; exact h.elim
      | true =>
        simp only [hs2, hsz, hby, cond_true] at h
        obtain ⟨r, w', hK, hr⟩ := appendC_sound (ty := ty) (x := .slice a' n' c') (n := n') (new := fun w => rdA w a' (n' * i.size)) ht hi' hv hvc hl' hb' (.inl (isSlc_spec hs2)) (fun w => by simp [Builtin.lenOf])
          (fun w vs hvs w' hw => rdA_run hvs w' hw) h
        exact ⟨rfl, rfl, _, _, hK, hr⟩

/-! bytes as a text -/
theorem push_data (l : List UInt8) : ∀ (acc : ByteArray), (l.foldl ByteArray.push acc).data.toList = acc.data.toList ++ l := by
  induction l with
  | nil => intro acc; simp
  | cons b l ih => intro acc; rw [List.foldl_cons, ih]; simp [ByteArray.push]
theorem bytes_all (s : ByteArray) : s.data.toList.foldl ByteArray.push ByteArray.empty = s := by
  have h := push_data s.data.toList ByteArray.empty
  apply ByteArray.ext
  rw [← Array.toList_inj, h]
  have : ByteArray.empty.data.toList = [] := rfl
  rw [this, List.nil_append]
theorem b2s_run {b : Option Addr} {n c : Nat} {s : ByteArray} (h : rdA w b n = some (bytesL s)) : (Conv.bytesToString (.slice b n c)).run P w = .ok (.string s) w := by
  rcases b with _ | ⟨b, o, _ | _⟩
  · simp only [rdA, Option.some.injEq, bytesL] at h
    have h2 : s.data.toList = [] := by
      cases hd : s.data.toList with
      | nil => rfl
      | cons x l => rw [hd] at h; cases h
    have : s = ByteArray.empty := by
      apply ByteArray.ext
      rw [← Array.toList_inj, h2]; rfl
    subst this
    simp [Conv.bytesToString]
  · obtain ⟨h1, h2⟩ := rdL_spec _ _ _ _ _ h
    have h3 := run_loadCells_list (P := P) w ⟨b, o, none⟩ (bytesL s) (fun j v hj => by rw [Addr.add_lit]; exact h2 j v hj)
    rw [h1] at h3
    simp only [Conv.bytesToString, Sem.run_bind, h3, Result.andThen_ok, List.forIn_toArray, bytesL, List.forIn_map]
    have key : ∀ (l : List UInt8) (acc : ByteArray), (Sem.run P (forIn l acc fun (a : UInt8) (y : ByteArray) => (pure (ForInStep.yield (y.push (UInt8.ofNat ((a.toNat : Int)).toNat))) : Sem (ForInStep ByteArray))) w) = .ok (l.foldl ByteArray.push acc) w := by
      intro l
      induction l with
      | nil => intro acc; simp
      | cons b l ih =>
        intro acc
        have hb : UInt8.ofNat ((b.toNat : Int)).toNat = b := by simp
        rw [List.forIn_cons, List.foldl_cons]
        simp only [Sem.run_bind, Sem.run_pure, Result.andThen_ok, hb]
        exact ih _
    rw [key, bytes_all]
    rfl
  · cases h
theorem convSI_sound {s d : TypeId} {x : Value} {K : Value → WP} (h : convSI P s d x K w) : isU x = false ∧ ∃ v, K v w ∧ (convert s d x).run P w = .ok v w := by
  unfold convSI at h
  cases x <;> try exact h.elim
  rename_i a n c
  simp only at h
  cases hs : P.underlying s with
  | none => simp only [hs] at h; exact h.elim
  | some sd =>
  simp only [hs] at h
  cases sd <;> try exact h.elim
  rename_i e
  simp only at h
  cases he : P.underlying e with
  | none => simp only [he] at h; exact h.elim
  | some ed =>
  simp only [he] at h
  cases ed <;> try exact h.elim
  rename_i k
  simp only at h
  cases hc : (kEq k .u8 && isStrT P d) with
  | false => rw [hc] at h; exact h.elim
  | true =>
    rw [hc] at h
    simp only [Bool.and_eq_true] at hc
    obtain ⟨hk, hd⟩ := hc
    have hk' : k = .u8 := by cases k <;> first | rfl | cases hk
    subst hk'
    obtain ⟨r, hr, hK⟩ := h
    refine ⟨rfl, _, hK, ?_⟩
    simp only [convert, Sem.run_bind, run_underlying hs, run_underlying (isStr_spec hd), run_underlying he, Result.andThen_ok]
    exact b2s_run hr

/-! calls -/
theorem evL_eq (hs : Sub ρ a) : ∀ (l : List Operand), (evL ρ l).any isU = false → l.map a.eval = evL ρ l
  | [], _ => rfl
  | x :: l, h => by
    simp only [evL, List.any_cons, Bool.or_eq_false_iff] at h
    simp only [List.map_cons, evL]
    rw [evL_eq hs l h.2, ev_eq hs rfl h.1]

theorem exV_spec : ∀ (ks : List CK) (F : List Value → Prop), exV ks F → ∃ vs, F vs
  | [], F, h => ⟨_, h⟩
  | k :: ks, F, h => by
    obtain ⟨x, h⟩ := h
    obtain ⟨vs, h⟩ := exV_spec ks _ h
    exact ⟨_, h⟩
theorem exT_spec {t : TypeId} {F : Value → Prop} (h : exT P t F) : ∃ v, F v := by
  unfold exT at h
  split at h
  case h_2 => exact h.elim
  split at h
  · obtain ⟨vs, h⟩ := exV_spec _ _ h
    exact ⟨_, h⟩
  · split at h
    case h_2 => exact h.elim
    obtain ⟨x, h⟩ := h
    exact ⟨_, h⟩
theorem exTs_spec : ∀ (ts : List TypeId) (F : List Value → Prop), exTs P ts F → ∃ vs, F vs
  | [], F, h => ⟨_, h⟩
  | t :: ts, F, h => by
    obtain ⟨v, h⟩ := exT_spec h
    obtain ⟨vs, h⟩ := exTs_spec ts _ h
    exact ⟨_, h⟩
theorem retI_spec {ts : List TypeId} {F : Value → Prop} (h : retI P ts F) : ∃ v, F v := by
  unfold retI at h
  split at h
  · exact ⟨_, h⟩
  · exact exT_spec h
  · obtain ⟨vs, h⟩ := exTs_spec _ _ h
    exact ⟨_, h⟩

theorem callI_sound {f : Value} {args : List Value} {K : Value → WP} (h : callI P f args K w) : isU f = false ∧ args.any isU = false ∧
    ∃ g gargs, (do let d ← Deferred.ofValue f args.toArray; invoke d.target d.args : Sem Next).run P w = .ok (.enter g gargs) w ∧ Calls P g gargs w fun e w' => ∃ v, e = .returned v ∧ K v w' := by
  unfold callI at h
  cases f <;> try exact h.elim
  rename_i fn first cap
  cases fn <;> try exact h.elim
  rename_i f
  simp only at h
  cases hf : P.funcs[f]? with
  | none => simp only [hf] at h; exact h.elim
  | some fn =>
  simp only [hf] at h
  cases hc : (fn.body.isSome && notGor fn.name && !args.any isU) with
  | false => rw [hc] at h; exact h.elim
  | true =>
    rw [hc] at h
    simp only [Bool.and_eq_true, Bool.not_eq_eq_eq_not, Bool.not_true, notGor] at hc
    obtain ⟨⟨hb, hn⟩, hu⟩ := hc
    refine ⟨rfl, hu, f, first ++ args.toArray ++ cap, ?_, ?_⟩
    · have hb' : fn.body.isNone = false := by cases h0 : fn.body <;> simp_all
      simp only [Deferred.ofValue, Sem.run_bind, Sem.run_pure, Result.andThen_ok, invoke, callFunc, run_program, hf, hn, hb', Bool.false_eq_true, if_false]
    · have he : (first.toList ++ args ++ cap.toList).toArray = first ++ args.toArray ++ cap := by
        rw [← Array.toList_inj]; simp
      have h' : Calls P f (first.toList ++ args ++ cap.toList).toArray w _ := h
      rw [he] at h'
      exact h'.mono fun e w' hr => retI_spec hr

theorem run_v' {s : Sem Value} {r : Value} {w w' : World} (h : s.run P w = .ok r w') : ((do pure (Next.value (← s)) : Sem Next)).run P w = .ok (.value r) w' := by
  simp [h]

theorem lookI_spec {t : TypeId} {m k : Value} {K : Value → WP} (h : lookI P t m k K w) : ∃ c : CK, isU m = false ∧ isU k = false ∧ ∃ x : c.ty, (Instr.lookup t m k false).run P w = .ok (c.val x) w ∧ K (c.val x) w := by
  unfold lookI at h
  cases hu : P.underlying t with
  | none => simp only [hu] at h; exact h.elim
  | some td =>
  simp only [hu] at h
  cases td <;> try exact h.elim
  rename_i kt e
  simp only at h
  cases hc : cks P 9 e with
  | none => simp only [hc] at h; exact h.elim
  | some l =>
  simp only [hc] at h
  match l, h with
  | [], h => exact h.elim
  | _ :: _ :: _, h => exact h.elim
  | [c], h =>
    simp only at h
    cases hb : (aggT P e || isU m || isU k) with
    | true => rw [hb] at h; exact h.elim
    | false =>
      rw [hb] at h
      simp only [Bool.or_eq_false_iff] at hb
      obtain ⟨x, hr, hK⟩ := h
      exact ⟨c, hb.1.2, hb.2, x, hr, hK⟩
theorem opI_sound {o : Oper} {K : Value → WP} (h : opI P ρ o.op K w) (hs : Sub ρ a) {next : Act → World → Prop} {Q : Exit → Act → World → Prop}
    (hn : ∀ v v' w', Le v v' → K v w' → next (a.put o.dst v') w') : o.wp P a w next Q := by
  unfold opI at h
  cases hp : pureI P ρ o.op with
  | some F =>
    simp only [hp] at h
    obtain ⟨v, v', hle, hK, hg⟩ := pureI_sound hp h hs
    unfold Oper.wp
    rw [hg w]
    exact hn _ _ _ hle hK
  | none =>
  simp only [hp] at h
  obtain ⟨dst, op, ty, pos, after, guard⟩ := o
  have fin : ∀ {v w'}, K v w' → (execOp a.eval ⟨dst, op, ty, pos, after, guard⟩).run P w = .ok (.value v) w' → Oper.wp P ⟨dst, op, ty, pos, after, guard⟩ a w next Q := by
    intro v w' hK hr
    unfold Oper.wp
    rw [hr]
    exact hn _ _ _ (Le.refl _) hK
  cases op <;> try exact h.elim
  case alloc t =>
    simp only [allocI] at h
    cases hz : zeroL P t with
    | none => simp only [hz] at h; exact h.elim
    | some z =>
      simp only [hz] at h
      obtain ⟨v, hv, hvc⟩ := zeroL_sound hz
      exact fin h (by simp only [execOp, Instr.alloc, Sem.run_bind, hv, Result.andThen_ok, newVar, hvc, newB_run, Sem.run_pure])
  case box t x =>
    simp only [boxI] at h
    cases hu : isU (ev ρ x) with
    | true => rw [hu] at h; exact h.elim
    | false =>
      rw [hu] at h
      exact fin h (by simp only [execOp, ev_eq hs rfl hu, Instr.box, Sem.run_bind, newVar, cellsL_eq, newB_run, Result.andThen_ok, Sem.run_pure])
  case buildSlice t n ps =>
    obtain ⟨hu, v, w', hK, hr⟩ := buildSliceI_sound h
    have he : (ps.map fun (x : Nat × Operand) => (x.1, a.eval x.2)) = (evParts ρ ps.toList).toArray := by
      rw [← evParts_eq hs _ hu, ← Array.toList_inj]; simp
    rw [← he] at hr
    exact fin hK (run_v' hr)
  case load t x =>
    obtain ⟨v, hu, hK, hr⟩ := loadI_sound h
    exact fin hK (by simp only [execOp, ev_eq hs rfl hu]; exact run_v' hr)
  case store t x v =>
    obtain ⟨hu, hv, w', hK, hr⟩ := storeI_sound h
    unfold Oper.wp
    have : (execOp a.eval ⟨dst, .store t x v, ty, pos, after, guard⟩).run P w = .ok .skip w' := by
      simp only [execOp, ev_eq hs rfl hu, ev_eq hs rfl hv, Sem.run_bind, hr, Result.andThen_ok, Sem.run_pure]
    rw [this]
    exact hn _ _ _ (Le.refl _) hK
  case makeSlice t l c =>
    obtain ⟨hu, hv, v, w', hK, hr⟩ := makeSliceI_sound h
    exact fin hK (by simp only [execOp, ev_eq hs rfl hu, ev_eq hs rfl hv]; exact run_v' hr)
  case makeMap t r =>
    cases r with
    | some _ => exact h.elim
    | none => exact fin h (by simp only [execOp, Instr.makeMap, Option.map_none, Sem.run_bind, run_newObj, Result.andThen_ok, Sem.run_pure, World.alloc])
  case mapUpdate t m k x =>
    simp only at h
    cases hu : (isU (ev ρ m) || isU (ev ρ k) || isU (ev ρ x)) with
    | true => rw [hu] at h; exact h.elim
    | false =>
      rw [hu] at h
      simp only [Bool.or_eq_false_iff] at hu
      obtain ⟨w', hr, hK⟩ := h
      unfold Oper.wp
      have : (execOp a.eval ⟨dst, .mapUpdate t m k x, ty, pos, after, guard⟩).run P w = .ok .skip w' := by
        simp only [execOp, ev_eq hs rfl hu.1.1, ev_eq hs rfl hu.1.2, ev_eq hs rfl hu.2, Sem.run_bind, hr, Result.andThen_ok, Sem.run_pure]
      rw [this]
      exact hn _ _ _ (Le.refl _) hK
  case lookup t m k c =>
    cases c with
    | true => exact h.elim
    | false =>
      obtain ⟨c', hu1, hu2, x, hr, hK⟩ := lookI_spec h
      exact fin hK (by simp only [execOp, ev_eq hs rfl hu1, ev_eq hs rfl hu2]; exact run_v' hr)
  case convert s d x =>
    obtain ⟨hu, v, hK, hr⟩ := convSI_sound h
    exact fin hK (by simp only [execOp, ev_eq hs rfl hu]; exact run_v' hr)
  case call c =>
    obtain ⟨callee, args, ats⟩ := c
    cases callee <;> try exact h.elim
    case value f =>
      simp only at h
      obtain ⟨hu, hv, g, gargs, hr, hC⟩ := callI_sound h
      unfold Oper.wp
      have he : args.map a.eval = (evL ρ args.toList).toArray := by
        rw [← evL_eq hs _ hv, ← Array.toList_inj]; simp
      have : (execOp a.eval ⟨dst, .call ⟨.value f, args, ats⟩, ty, pos, after, guard⟩).run P w = .ok (.enter g gargs) w := by
        simp only [execOp, resolve, he, ev_eq hs rfl hu]
        exact hr
      rw [this, Oper.upon_enter]
      refine hC.mono ?_
      rintro e w' ⟨v, rfl, hK⟩
      exact hn _ _ _ (Le.refl _) hK
    case builtin b =>
      cases b <;> try exact h.elim
      simp only at h
      cases hal : args.toList with
      | nil => simp only [hal] at h; exact h.elim
      | cons s l1 =>
      cases l1 with
      | nil => simp only [hal] at h; exact h.elim
      | cons x l2 =>
      cases l2 with
      | cons _ _ => simp only [hal] at h; exact h.elim
      | nil =>
      cases htl : ats.toList with
      | nil => simp only [hal, htl] at h; exact h.elim
      | cons t1 l1 =>
      cases l1 with
      | nil => simp only [hal, htl] at h; exact h.elim
      | cons t2 l2 =>
      cases l2 with
      | cons _ _ => simp only [hal, htl] at h; exact h.elim
      | nil =>
      simp only [hal, htl] at h
      obtain ⟨hu, hv, v, w', hK, hr⟩ := appendI_sound (ty := ty) h
      have he : args.map a.eval = #[ev ρ s, ev ρ x] := by
        rw [← Array.toList_inj]; simp [hal, ev_eq hs rfl hu, ev_eq hs rfl hv]
      have hat : ats = #[t1, t2] := by rw [← Array.toList_inj]; exact htl
      exact fin hK (by simp only [execOp, resolve, he, hat, Sem.run_bind, Sem.run_pure, Result.andThen_ok, invoke, builtin, hr])
end
end Go.Hb
