/- SOUNDNESS OF THE INTERPRETER's OPERATIONS THAT READ NO WORLD: built values; the whole. -/
import Derived.Test.YtnmlaenfaiacfaaSound2
set_option linter.unusedVariables false
set_option linter.unusedSimpArgs false
set_option linter.unnecessarySimpa false
set_option linter.unusedSectionVars false
namespace Go.Hb

theorem pt_eq (l : Env) (t : Nat) (v : Value) : pt l t v = l.set t v := by
  induction l generalizing t with
  | nil => cases t <;> rfl
  | cons x l ih => cases t with
    | zero => rfl
    | succ t => simp [pt, ih]
theorem lays_foldl (off : Nat) : ∀ (vs : List Value) (k : Nat) (A : Array Value),
    (vs.zipIdx k).foldl (fun cs p => cs.setIfInBounds (off + p.2) p.1) A = (laysL A.toList (off + k) vs).toArray
  | [], _, A => by simp [laysL]
  | v :: vs, k, A => by
    simp only [List.zipIdx_cons, List.foldl_cons, laysL]
    rw [lays_foldl off vs (k + 1)]
    simp [pt_eq, Nat.add_assoc]
theorem length_laysL : ∀ (vs : List Value) (o : Nat) (cs : List Value), (laysL cs o vs).length = cs.length
  | [], _, _ => rfl
  | v :: vs, o, cs => by simp [laysL, length_laysL vs, length_pt]
theorem cellsL_eq (v : Value) : v.cells = (cellsL v).toArray := by
  cases v <;> simp [Value.cells, cellsL]

theorem fillL_sound {place : Nat → Option (Nat × Nat)} : ∀ (parts : List (Nat × Value)) (cells r : List Value), fillL place cells parts = some r →
    Instr.fill place cells.toArray parts = some r.toArray ∧ ∀ p ∈ parts, isU p.2 = false
  | [], cells, r, h => by simp [fillL] at h; simp [Instr.fill, h]
  | (i, v) :: rest, cells, r, h => by
    simp only [fillL] at h
    split at h
    · cases h
    rename_i off size hp
    cases hc : (isU v || !(Nat.beq (cellsL v).length size) || !(Nat.ble (off + size) cells.length)) with
    | true => rw [hc] at h; cases h
    | false =>
      rw [hc] at h
      simp only [cond_false] at h
      simp only [Bool.or_eq_false_iff, Bool.not_eq_eq_eq_not, Bool.not_false] at hc
      obtain ⟨⟨hu, hs⟩, hl⟩ := hc
      have hs' : (cellsL v).length = size := Nat.eq_of_beq_eq_true hs
      have hl' : off + size ≤ cells.length := Nat.le_of_ble_eq_true hl
      have ih := fillL_sound rest _ r h
      refine ⟨?_, ?_⟩
      · simp only [Instr.fill, hp]
        have h1 : v.cells.size = size := by rw [cellsL_eq]; simpa using hs'
        rw [if_neg (by simp [h1]; omega)]
        have h2 : v.cells.zipIdx.foldl (fun cs (x : Value × Nat) => cs.setIfInBounds (off + x.2) x.1) cells.toArray = (laysL cells off (cellsL v)).toArray := by
          rw [← Array.foldl_toList, cellsL_eq, Array.toList_zipIdx]
          simpa using lays_foldl off (cellsL v) 0 cells.toArray
        exact (congrArg (fun z => Instr.fill place z rest) h2).trans ih.1
      · intro p hp'
        cases hp' with
        | head => exact hu
        | tail _ h' => exact ih.2 p h'

section
variable {P : Program} {ρ : Env} {a : Act}

theorem run_places (w : World) : ∀ (l : List Field), (l.all fun f => (P.info? f.type).isSome) = true →
    (l.mapM (fun f => do pure (f.offset, ← sizeOf f.type) : Field → Sem (Nat × Nat))).run P w = .ok (l.map fun f => (f.offset, szT P f.type)) w
  | [], _ => by simp
  | f :: l, h => by
    simp only [List.all_cons, Bool.and_eq_true] at h
    have ih := run_places w l h.2
    simp only [List.mapM_cons, Sem.run_bind, isSome_info h.1, ih, Result.andThen_ok, Sem.run_pure, List.map_cons]
theorem run_placesA (w : World) (fs : Array Field) (h : (fs.toList.all fun f => (P.info? f.type).isSome) = true) :
    (fs.mapM (fun f => do pure (f.offset, ← sizeOf f.type) : Field → Sem (Nat × Nat))).run P w = .ok (fs.toList.map fun f => (f.offset, szT P f.type)).toArray w := by
  rw [Array.mapM_eq_mapM_toList, Sem.run_map, run_places w _ h]
  rfl

theorem zeroL_sound {t : TypeId} {z : List Value} (h : zeroL P t = some z) : ∃ v, (∀ w, (zeroValue t).run P w = .ok v w) ∧ v.cells = z.toArray := by
  unfold zeroL at h
  split at h
  case h_2 => cases h
  rename_i i hi
  split at h
  case h_2 => cases h
  rename_i v hv
  refine ⟨v, fun w => by simp [zeroValue, typeInfo, hi, hv], ?_⟩
  rw [cellsL_eq, Option.some.inj h]

theorem buildL_sound {t : TypeId} {parts : List (Nat × Value)} {r : List Value} (h : buildL P t parts = some r) :
    (∀ p ∈ parts, isU p.2 = false) ∧ ∀ w, (Instr.build t parts.toArray).run P w = .ok (.agg r.toArray) w := by
  unfold buildL at h
  split at h
  · cases h
  rename_i z hz
  obtain ⟨v, hv, hvc⟩ := zeroL_sound hz
  split at h
  case h_3 => cases h
  · rename_i fs hu
    cases hall : (fs.toList.all fun f => (P.info? f.type).isSome) with
    | false => rw [hall] at h; cases h
    | true =>
      rw [hall] at h
      obtain ⟨h1, h2⟩ := fillL_sound _ _ _ h
      refine ⟨h2, fun w => ?_⟩
      have h3 : (fun i => ((fs.toList.map fun f => (f.offset, szT P f.type)).toArray)[i]?) = placesF P fs.toList := by
        funext i
        simp only [List.getElem?_toArray, List.getElem?_map, placesF]
        cases fs.toList[i]? <;> rfl
      simp only [Instr.build, Sem.run_bind, hv, Result.andThen_ok, run_underlying hu, run_placesA _ _ hall, hvc, h3, h1, Sem.run_pure]
  · rename_i n e hu
    cases hi : (P.info? e).isSome with
    | false => rw [hi] at h; cases h
    | true =>
      rw [hi] at h
      obtain ⟨h1, h2⟩ := fillL_sound _ _ _ h
      refine ⟨h2, fun w => ?_⟩
      simp only [Instr.build, Sem.run_bind, hv, Result.andThen_ok, run_underlying hu, hvc, isSome_info hi, h1, Sem.run_pure]

theorem evParts_eq (hs : Sub ρ a) : ∀ (l : List (Nat × Operand)), (∀ p ∈ evParts ρ l, isU p.2 = false) → l.map (fun p => (p.1, a.eval p.2)) = evParts ρ l
  | [], _ => rfl
  | (i, x) :: l, h => by
    simp only [List.map_cons, evParts]
    rw [evParts_eq hs l (fun p hp => h p (.tail _ hp)), ev_eq hs rfl (h (i, ev ρ x) (.head _))]

theorem evO_eq (hs : Sub ρ a) {o : Option Operand} (h : ∀ y, evO ρ o = some y → isU y = false) : o.map a.eval = evO ρ o := by
  cases o with
  | none => rfl
  | some x => simp only [Option.map_some, evO]; rw [ev_eq hs rfl (h _ rfl)]

theorem run_v {s : Sem Value} {r : Value} {w : World} (h : s.run P w = .ok r w) : ((do pure (Next.value (← s)) : Sem Next)).run P w = .ok (.value r) w := by
  simp [h]

theorem pureI_sound {o : Oper} {F : (Value → Prop) → Prop} {K : Value → Prop} (hF : pureI P ρ o.op = some F) (h : F K) (hs : Sub ρ a) :
    ∃ v v', Le v v' ∧ K v ∧ Gives P o a v' := by
  obtain ⟨dst, op, ty, pos, after, guard⟩ := o
  unfold Gives
  cases op <;> simp only [pureI] at hF <;> try (cases hF; done)
  case move x => cases hF; exact ⟨_, _, ev_le hs x, h, fun w => by simp [execOp]⟩
  case assign x => cases hF; exact ⟨_, _, ev_le hs x, h, fun w => by simp [execOp]⟩
  case pick c x y =>
    cases hF
    unfold pickI at h
    split at h
    case h_2 => exact h.elim
    rename_i t hc
    have hc' := ev_eq hs hc rfl
    cases t with
    | true => exact ⟨_, _, ev_le hs x, h, fun w => by simp [execOp, hc', asBool]⟩
    | false => exact ⟨_, _, ev_le hs y, h, fun w => by simp [execOp, hc', asBool]⟩
  case nilCheck x =>
    cases hF
    obtain ⟨b, o, hv, hK⟩ := nilckI_sound h
    have hx := ev_eq hs hv rfl
    exact ⟨_, _, Le.refl _, hK, fun w => by simp [execOp, hx, hv]⟩
  case binOp op t x y t2 =>
    cases hF
    obtain ⟨r, hK, hu, hv, hw⟩ := binI_sound (x := x) (y := y) h
    exact ⟨_, _, Le.refl _, hK, fun w => by simp only [execOp]; rw [ev_eq hs rfl hu, ev_eq hs rfl hv]; exact run_v (hw w)⟩
  case unOp op t x =>
    cases hF
    obtain ⟨r, hK, hu, hw⟩ := unI_sound h
    exact ⟨_, _, Le.refl _, hK, fun w => by simp only [execOp]; rw [ev_eq hs rfl hu]; exact run_v (hw w)⟩
  case convert s d x =>
    split at hF
    case h_3 => cases hF
    · rename_i k n hx
      cases hsrc : (P.underlying s).isSome with
      | false => rw [hsrc] at hF; cases hF
      | true =>
        rw [hsrc] at hF
        cases hF
        have h' : convI P d (.int k n) K := h
        obtain ⟨r, hK, hu, hw⟩ := convI_sound hsrc h'
        exact ⟨_, _, Le.refl _, hK, fun w => by simp only [execOp]; rw [ev_eq hs hx rfl]; exact run_v (hw w)⟩
    · rename_i b hx
      cases hst : isStrT P s with
      | false => rw [hst] at hF; cases hF
      | true =>
        rw [hst] at hF
        cases hsd : isStrT P d with
        | false => rw [hsd] at hF; cases hF
        | true =>
          rw [hsd] at hF
          cases hF
          have hsrc : (P.underlying s).isSome = true := by
            unfold isStrT at hst
            split at hst
            · rename_i he; simp [he]
            · cases hst
          obtain ⟨r, hK, hu, hw⟩ := convI_sound hsrc h
          exact ⟨_, _, Le.refl _, hK, fun w => by simp only [execOp]; rw [ev_eq hs hx rfl]; exact run_v (hw w)⟩
  case slice t x lo hi mx =>
    cases hF
    obtain ⟨r, hK, hu, h1, h2, h3, hw⟩ := sliceI_sound h
    exact ⟨_, _, Le.refl _, hK, fun w => by simp only [execOp]; rw [ev_eq hs rfl hu, evO_eq hs h1, evO_eq hs h2, evO_eq hs h3]; exact run_v (hw w)⟩
  case fieldAddr t x f =>
    cases hF
    obtain ⟨r, hK, hu, hw⟩ := fieldAI_sound h
    exact ⟨_, _, Le.refl _, hK, fun w => by simp only [execOp]; rw [ev_eq hs rfl hu]; exact run_v (hw w)⟩
  case field t x f =>
    cases hF
    have key : ∃ r, K r ∧ isU (ev ρ x) = false ∧ ∀ w, (Instr.field t (ev ρ x) f).run P w = .ok r w := by
      unfold fieldI at h
      split at h
      case h_2 => exact h.elim
      rename_i cs hx
      split at h
      case h_2 => exact h.elim
      rename_i off ft hf
      obtain ⟨fs, hu, g, hg, rfl, rfl⟩ := fieldOf_spec hf
      cases hd : P.underlying g.type with
      | none => rw [hd] at h; exact h.elim
      | some d =>
        rw [hd] at h
        obtain ⟨r, hK, hw⟩ := partI_sound hd h
        exact ⟨r, hK, by rw [hx]; rfl, fun w => by simp [Instr.field, run_underlying hu, hg, asAgg, hx, hw]⟩
    obtain ⟨r, hK, hu, hw⟩ := key
    exact ⟨_, _, Le.refl _, hK, fun w => by simp only [execOp]; rw [ev_eq hs rfl hu]; exact run_v (hw w)⟩
  case indexAddr t x i =>
    cases hF
    obtain ⟨r, hK, hu, hv, hw⟩ := indexAI_sound h
    exact ⟨_, _, Le.refl _, hK, fun w => by simp only [execOp]; rw [ev_eq hs rfl hu, ev_eq hs rfl hv]; exact run_v (hw w)⟩
  case index t x i =>
    cases hF
    obtain ⟨r, hK, hu, hv, hw⟩ := indexI_sound h
    exact ⟨_, _, Le.refl _, hK, fun w => by simp only [execOp]; rw [ev_eq hs rfl hu, ev_eq hs rfl hv]; exact run_v (hw w)⟩
  case extract x i =>
    cases hF
    obtain ⟨r, hK, hu, hw⟩ := extractI_sound h
    exact ⟨_, _, Le.refl _, hK, fun w => by simp only [execOp]; rw [ev_eq hs rfl hu]; exact run_v (hw w)⟩
  case build t ps =>
    cases hF
    unfold buildI at h
    split at h
    case h_2 => exact h.elim
    rename_i cs hb
    obtain ⟨h1, h2⟩ := buildL_sound hb
    refine ⟨_, _, Le.refl _, h, fun w => ?_⟩
    have he : (ps.map fun (x : Nat × Operand) => (x.1, a.eval x.2)) = (evParts ρ ps.toList).toArray := by
      rw [← evParts_eq hs _ h1, ← Array.toList_inj]; simp
    have := h2 w
    rw [← he] at this
    exact run_v this
  case call c =>
    obtain ⟨callee, args, ats⟩ := c
    simp only at hF
    split at hF
    case h_2 => cases hF
    rename_i b
    have hmap1 : ∀ x, args.toList = [x] → isU (ev ρ x) = false → args.map a.eval = #[ev ρ x] := by
      intro x hx hu
      rw [← Array.toList_inj]; simp [hx, ev_eq hs rfl hu]
    have hmap2 : ∀ x y, args.toList = [x, y] → isU (ev ρ x) = false → isU (ev ρ y) = false → args.map a.eval = #[ev ρ x, ev ρ y] := by
      intro x y hx hu hv
      rw [← Array.toList_inj]; simp [hx, ev_eq hs rfl hu, ev_eq hs rfl hv]
    split at hF
    case h_4 => cases hF
    · split at hF
      case h_2 => cases hF
      rename_i x hx
      split at hF
      case h_2 => cases hF
      rename_i t ht
      cases hF
      obtain ⟨r, hK, hu, hw⟩ := lenI_sound (ty := ty) h
      have hats : ats = #[t] := by rw [← Array.toList_inj]; exact ht
      refine ⟨_, _, Le.refl _, hK, fun w => ?_⟩
      simp only [execOp, resolve, hmap1 x hx hu, Sem.run_bind, Sem.run_pure, Result.andThen_ok, invoke, builtin, hats, hw]
    · split at hF
      case h_2 => cases hF
      rename_i x y hx
      cases hF
      obtain ⟨r, hK, hu, hv, hw⟩ := maxI_sound (P := P) (ts := ats) (ty := ty) h
      refine ⟨_, _, Le.refl _, hK, fun w => ?_⟩
      simp only [execOp, resolve, hmap2 x y hx hu hv, Sem.run_bind, Sem.run_pure, Result.andThen_ok, invoke, builtin, hw]
    · split at hF
      case h_2 => cases hF
      rename_i x y hx
      cases hF
      obtain ⟨r, hK, hu, hv, hw⟩ := minI_sound (P := P) (ts := ats) (ty := ty) h
      refine ⟨_, _, Le.refl _, hK, fun w => ?_⟩
      simp only [execOp, resolve, hmap2 x y hx hu hv, Sem.run_bind, Sem.run_pure, Result.andThen_ok, invoke, builtin, hw]
end
end Go.Hb
