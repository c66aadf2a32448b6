/- SOUNDNESS OF THE INTERPRETER's OPERATIONS ON THE WORLD. -/
import Derived.Test.YtnmlaenfaiacfaaSound3
set_option linter.unusedVariables false
set_option linter.unusedSimpArgs false
set_option linter.unnecessarySimpa false
set_option linter.unusedSectionVars false
namespace Go.Hb

section
variable {P : Program} {ρ : Env} {a : Act} {w : World}

theorem un_val {k : CK} {v : Value} {x : k.ty} (h : k.un v = some x) : v = k.val x := by
  cases k with
  | int k =>
    cases v <;> simp [CK.un] at h
    rename_i k' n
    cases hk : kEq k k' with
    | false => rw [hk] at h; cases h
    | true =>
      rw [hk] at h
      obtain rfl := kEq_eq hk
      cases h
      rfl
  | bool => cases v <;> simp [CK.un] at h; subst h; rfl
  | str => cases v <;> simp [CK.un] at h; subst h; rfl
  | ptr => cases v <;> simp [CK.un] at h; subst h; rfl
  | slc => cases v <;> simp [CK.un] at h; subst h; rfl
  | any =>
    simp only [CK.un] at h
    cases hu : isU v with
    | true => rw [hu] at h; cases h
    | false => rw [hu] at h; cases h; rfl

theorem ld_sound {k : CK} {b o : Nat} {K : k.ty → WP} (h : ld k b o K w) : ∃ x, w.cell? ⟨b, o, none⟩ = some (k.val x) ∧ K x w := by
  unfold ld at h
  split at h
  case h_2 => exact h.elim
  rename_i x hx
  cases hc : w.cell? ⟨b, o, none⟩ with
  | none => rw [hc] at hx; cases hx
  | some v =>
    rw [hc] at hx
    exact ⟨x, by rw [un_val hx], h⟩
theorem lds_sound : ∀ (ks : List CK) (b o : Nat) (K : List Value → WP), lds ks b o K w → ∃ vs, vs.length = ks.length ∧ K vs w ∧ ∀ (j : Nat) v, vs[j]? = some v → w.cell? ⟨b, o + j, none⟩ = some v
  | [], _, _, _, h => ⟨[], rfl, h, by simp⟩
  | k :: ks, b, o, K, h => by
    simp only [lds] at h
    obtain ⟨x, hx, h⟩ := ld_sound h
    obtain ⟨vs, hl, hK, hc⟩ := lds_sound ks b (o + 1) _ h
    refine ⟨_, by simp [hl], hK, fun j v hj => ?_⟩
    cases j with
    | zero => simp at hj; subst hj; exact hx
    | succ j =>
      have := hc j v (by simpa using hj)
      rwa [show o + 1 + j = o + (j + 1) by omega] at this

theorem loadVar_one {t : TypeId} {b o : Nat} {v : Value} {d : TypeDesc} (hd : P.underlying t = some d) (ha : aggT P t = false) (hc : w.cell? ⟨b, o, none⟩ = some v) :
    (loadVar t ⟨b, o, none⟩).run P w = .ok v w := by
  simp [loadVar, run_isAgg hd, ha, hc]
theorem loadVar_agg {t : TypeId} {b o : Nat} {vs : List Value} {d : TypeDesc} (hd : P.underlying t = some d) (hi : (P.info? t).isSome = true) (ha : aggT P t = true) (hl : szT P t = vs.length)
    (hc : ∀ (j : Nat) v, vs[j]? = some v → w.cell? ⟨b, o + j, none⟩ = some v) :
    (loadVar t ⟨b, o, none⟩).run P w = .ok (.agg vs.toArray) w := by
  have h1 := run_loadCells_list (P := P) w ⟨b, o, none⟩ vs (fun j v hj => by rw [Addr.add_lit]; exact hc j v hj)
  simp only [loadVar, Sem.run_bind, run_isAgg hd, ha, Result.andThen_ok, if_true, isSome_info hi, hl, h1, Sem.run_pure]

theorem loadI_sound {t : TypeId} {x : Value} {K : Value → WP} (h : loadI P t x K w) : ∃ v, isU x = false ∧ K v w ∧ (Instr.loadAt t x).run P w = .ok v w := by
  unfold loadI at h
  cases x <;> try exact h.elim
  rename_i p
  rcases p with _ | ⟨b, o, _ | _⟩ <;> try exact h.elim
  cases hk : cks P 9 t with
  | none => simp only [hk] at h; exact h.elim
  | some ks =>
  simp only [hk] at h
  cases hc : ((P.underlying t).isSome && (P.info? t).isSome && Nat.beq (szT P t) ks.length) with
  | false => rw [hc] at h; exact h.elim
  | true =>
    rw [hc] at h
    simp only [Bool.and_eq_true] at hc
    obtain ⟨⟨hd, hi⟩, hl⟩ := hc
    obtain ⟨d, hd⟩ := Option.isSome_iff_exists.1 hd
    have hl' : szT P t = ks.length := Nat.eq_of_beq_eq_true hl
    simp only [cond_true] at h
    cases ha : aggT P t with
    | true =>
      simp only [ha] at h
      obtain ⟨vs, hvl, hK, hcs⟩ := lds_sound _ _ _ _ h
      exact ⟨_, rfl, hK, by
        simp only [Instr.loadAt, Instr.sureAddr, Sem.run_bind, Sem.run_pure, Result.andThen_ok]
        exact loadVar_agg hd hi ha (by rw [hl', hvl]) hcs⟩
    | false =>
      simp only [ha] at h
      rcases ks with _ | ⟨k, _ | _⟩ <;> try exact h.elim
      obtain ⟨x, hx, hK⟩ := ld_sound h
      exact ⟨_, rfl, hK, by
        simp only [Instr.loadAt, Instr.sureAddr, Sem.run_bind, Sem.run_pure, Result.andThen_ok]
        exact loadVar_one hd ha hx⟩

theorem okC_one {v : Value} {l : List Value} (h : okC (v :: l) = true) : v.oneCell' = true ∧ okC l = true := by
  cases v <;> simp_all [okC, Value.oneCell']

theorem sts_sound : ∀ (vs : List Value) (b o : Nat) (K : WP) (w : World), sts vs b o K w → okC vs = true → ∃ w', K w' ∧ ∀ base i, base + i = o → (storeCells ⟨b, base, none⟩ vs i).run P w = .ok () w'
  | [], _, _, _, w, h, _ => ⟨w, h, fun _ _ _ => by simp [storeCells]⟩
  | v :: vs, b, o, K, w, h, hk => by
    obtain ⟨h1, h2⟩ := okC_one hk
    obtain ⟨hc, hf, h⟩ := h
    obtain ⟨w', hK, hr⟩ := sts_sound vs b (o + 1) K _ h h2
    refine ⟨w', hK, fun base i hb => ?_⟩
    subst hb
    have h3 := hr base (i + 1) rfl
    obtain ⟨u, hu⟩ := Option.isSome_iff_exists.1 hc
    simp only [storeCells, Sem.run_bind, Addr.add_lit, run_store P w _ v .plain h1, hu, hf, Bool.false_eq_true, if_false, Result.andThen_ok]
    exact h3

theorem storeI_sound {t : TypeId} {x v : Value} {K : WP} (h : storeI P t x v K w) : isU x = false ∧ isU v = false ∧ ∃ w', K w' ∧ (Instr.storeAt t x v).run P w = .ok () w' := by
  unfold storeI at h
  cases x <;> try exact h.elim
  rename_i p
  rcases p with _ | ⟨b, o, _ | _⟩ <;> try exact h.elim
  cases hc : ((P.info? t).isSome && Nat.beq (szT P t) (cellsL v).length && okC (cellsL v) && !(cellsL v).any isU) with
  | false => rw [hc] at h; exact h.elim
  | true =>
    rw [hc] at h
    simp only [Bool.and_eq_true, Bool.not_eq_eq_eq_not, Bool.not_true] at hc
    obtain ⟨⟨⟨hi, hl⟩, hk⟩, hu⟩ := hc
    have hl' : szT P t = (cellsL v).length := Nat.eq_of_beq_eq_true hl
    obtain ⟨w', hK, hr⟩ := sts_sound (P := P) _ _ _ _ _ h hk
    refine ⟨rfl, ?_, w', hK, ?_⟩
    · cases v <;> simp_all [isU, cellsL]
    · have h1 := hr o 0 rfl
      simp only [Instr.storeAt, Instr.sureAddr, Sem.run_bind, Sem.run_pure, Result.andThen_ok, storeVar, isSome_info hi, hl', cellsL_eq, List.size_toArray, ne_eq, not_true_eq_false, if_false, h1, Sem.run_ite]

theorem newB_run (e : TypeId) (cells : List Value) (w : World) : (newRow e cells.toArray).run P w = .ok ⟨w.heap.size, 0, none⟩ (w.alloc (.cells cells.toArray e)) := by
  simp only [newRow, Sem.run_bind, run_newObj, Result.andThen_ok, Sem.run_pure, World.alloc]

theorem fill_len {place : Nat → Option (Nat × Nat)} : ∀ (parts : List (Nat × Value)) (cells r : List Value), fillL place cells parts = some r → r.length = cells.length
  | [], cells, r, h => by simp [fillL] at h; simp [h]
  | (i, v) :: rest, cells, r, h => by
    simp only [fillL] at h
    split at h
    · cases h
    rename_i off size hp
    cases hc : (isU v || !(Nat.beq (cellsL v).length size) || !(Nat.ble (off + size) cells.length)) with
    | true => rw [hc] at h; cases h
    | false =>
      rw [hc] at h
      simp only [cond_false] at h
      rw [fill_len rest _ r h, length_laysL]

theorem length_zrow (z : List Value) : ∀ n, (zrow z n).length = n * z.length
  | 0 => by simp [zrow]
  | n + 1 => by simp [zrow, length_zrow z n, Nat.succ_mul, Nat.add_comm]
theorem zrow_get (z : List Value) (hz : 0 < z.length) : ∀ (n i : Nat), i < n * z.length → (zrow z n)[i]? = some (z[i % z.length]!)
  | 0, i, h => by simp at h
  | n + 1, i, h => by
    simp only [zrow]
    by_cases hi : i < z.length
    · rw [List.getElem?_append_left hi, Nat.mod_eq_of_lt hi]
      simp [hi]
    · have h1 : z.length ≤ i := by omega
      rw [List.getElem?_append_right h1, zrow_get z hz n _ (by rw [Nat.succ_mul] at h; omega)]
      rw [Nat.mod_eq_sub_mod h1]
theorem zrow_map (z : List Value) (n : Nat) : (Array.range (n * z.length)).map (fun i => z.toArray[i % z.toArray.size]!) = (zrow z n).toArray := by
  rw [← Array.toList_inj]
  apply List.ext_getElem?
  intro i
  rw [Array.toList_map, List.getElem?_map, Array.toList_range]
  show _ = (zrow z n)[i]?
  by_cases hi : i < n * z.length
  · have hz : 0 < z.length := by
      rcases Nat.eq_zero_or_pos z.length with h | h
      · rw [h] at hi; simp at hi
      · exact h
    rw [zrow_get z hz n i hi]
    simp [hi]
  · have h1 : (zrow z n)[i]? = none := by rw [List.getElem?_eq_none]; rw [length_zrow]; omega
    rw [h1]
    simp; omega

theorem zeroL_sound' {t : TypeId} {z : List Value} (h : zeroL P t = some z) : ∃ i v, P.info? t = some i ∧ i.zero = some v ∧ v.cells = z.toArray := by
  unfold zeroL at h
  split at h
  case h_2 => cases h
  rename_i i hi
  split at h
  case h_2 => cases h
  rename_i v hv
  exact ⟨i, v, hi, hv, by rw [cellsL_eq, Option.some.inj h]⟩

theorem buildSliceI_sound {t : TypeId} {n : Nat} {parts : List (Nat × Value)} {K : Value → WP} (h : buildSliceI P t n parts K w) :
    (∀ p ∈ parts, isU p.2 = false) ∧ ∃ v w', K v w' ∧ (Instr.buildSlice t n parts.toArray).run P w = .ok v w' := by
  unfold buildSliceI at h
  cases ht : P.underlying t with
  | none => simp only [ht] at h; exact h.elim
  | some d =>
  simp only [ht] at h
  cases d <;> try exact h.elim
  rename_i e
  simp only at h
  cases hz : zeroL P e with
  | none => simp only [hz] at h; exact h.elim
  | some z =>
  simp only [hz] at h
  cases hc : ((P.info? e).isSome && Nat.beq z.length (szT P e) && Nat.ble (n * szT P e) 65536) with
  | false => rw [hc] at h; exact h.elim
  | true =>
    rw [hc] at h
    simp only [Bool.and_eq_true] at hc
    obtain ⟨⟨hi, hl⟩, hb⟩ := hc
    have hl' : z.length = szT P e := Nat.eq_of_beq_eq_true hl
    have hb' : n * szT P e ≤ 65536 := Nat.le_of_ble_eq_true hb
    simp only [cond_true] at h
    cases hf : fillL (fun i => some (i * szT P e, szT P e)) (zrow z n) parts with
    | none => simp only [hf] at h; exact h.elim
    | some cs =>
    simp only [hf] at h
    obtain ⟨hf1, hf2⟩ := fillL_sound _ _ _ hf
    refine ⟨hf2, _, _, h, ?_⟩
    obtain ⟨v, hv, hvc⟩ := zeroL_sound hz
    have h2 : ¬ n * szT P e > 2 ^ 24 := by omega
    have h3 := zrow_map z n
    rw [hl'] at h3
    by_cases h0 : n * szT P e = 0
    · have h4 : (zrow z n) = [] := by
        have := length_zrow z n
        rw [hl', h0] at this
        exact List.length_eq_zero_iff.1 this
      rw [h4] at hf1
      have h5 : ¬ (0 : Nat) > 2 ^ 24 := by decide
      simp only [Instr.buildSlice, Sem.run_bind, run_underlying ht, Result.andThen_ok, isSome_info hi, h0, if_true, h5, if_false, Sem.run_pure, Array.range_zero', List.map_toArray, List.map_nil, hf1, newB_run]
    · simp only [Instr.buildSlice, Sem.run_bind, run_underlying ht, Result.andThen_ok, isSome_info hi, h2, if_false, h0, hv, Sem.run_pure, hvc, h3, hf1, newB_run, Sem.run_ite]

theorem makeSliceI_sound {t : TypeId} {l c : Value} {K : Value → WP} (h : makeSliceI P t l c K w) : isU l = false ∧ isU c = false ∧ ∃ v w', K v w' ∧ (Instr.makeSlice t l c).run P w = .ok v w' := by
  unfold makeSliceI at h
  cases ht : P.underlying t with
  | none => simp only [ht] at h; exact h.elim
  | some d =>
  simp only [ht] at h
  cases d <;> try exact h.elim
  rename_i e
  simp only at h
  cases hz : zeroL P e with
  | none => simp only [hz] at h; exact h.elim
  | some z =>
  simp only [hz] at h
  cases l <;> try exact h.elim
  rename_i kl l
  cases c <;> try exact h.elim
  rename_i kc c
  cases hc : ((P.info? e).isSome && Nat.beq z.length (szT P e)) with
  | false => rw [hc] at h; exact h.elim
  | true =>
    rw [hc] at h
    simp only [Bool.and_eq_true] at hc
    obtain ⟨hi, hl⟩ := hc
    have hl' : z.length = szT P e := Nat.eq_of_beq_eq_true hl
    obtain ⟨⟨h0, h1, h2, h3⟩, h4⟩ := h
    obtain ⟨i, v, hi', hv, hvc⟩ := zeroL_sound' hz
    refine ⟨rfl, rfl, _, _, h4, ?_⟩
    have hby : byT P e = i.bytes := by simp [byT, hi']
    have hsz : szT P e = i.size := by simp [szT, hi']
    rw [hby] at h3
    rw [run_make w t e i v ht hi' hv kl kc l c h0 h1 h3 (by omega)]
    have h5 := zrow_map z c.toNat
    simp only [madeCells, hvc]
    rw [← hsz, ← hl', h5]
end
end Go.Hb
