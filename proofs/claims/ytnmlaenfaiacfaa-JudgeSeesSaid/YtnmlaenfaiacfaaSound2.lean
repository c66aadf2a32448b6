/- SOUNDNESS OF THE INTERPRETER's OPERATIONS THAT READ NO WORLD, continued. -/
import Derived.Test.YtnmlaenfaiacfaaSound
set_option linter.unusedVariables false
set_option linter.unusedSimpArgs false
set_option linter.unnecessarySimpa false
set_option linter.unusedSectionVars false
namespace Go.Hb

section
variable {P : Program} {ρ : Env} {a : Act}

theorem run_sizeOf {t : TypeId} {n : Nat} (h : szT P t = n + 1) (w : World) : (sizeOf t).run P w = .ok (n + 1) w := by
  unfold szT at h
  split at h
  · rename_i i hi
    simp [sizeOf, typeInfo, hi, h]
  · cases h
theorem run_sizeOf' {t : TypeId} {i : TypeInfo} (h : P.info? t = some i) (w : World) : (sizeOf t).run P w = .ok (szT P t) w := by
  simp [sizeOf, typeInfo, szT, h]
theorem info_of_underlying {t : TypeId} {d : TypeDesc} (h : P.underlying t = some d) : ∃ i, P.info? t = some i := by
  unfold Program.underlying at h
  cases hi : P.info? t with
  | some i => exact ⟨i, rfl⟩
  | none => rw [hi] at h; cases h
theorem run_isAgg {t : TypeId} {d : TypeDesc} (h : P.underlying t = some d) (w : World) : (isAgg t).run P w = .ok (aggT P t) w := by
  unfold isAgg aggT
  simp only [Sem.run_bind, run_underlying h, Result.andThen_ok, h]
  cases d <;> rfl

theorem unI_sound {op : UnOp} {v : Value} {K : Value → Prop} (h : unI op v K) : ∃ r, K r ∧ isU v = false ∧ ∀ w, (Op.unary op v).run P w = .ok r w := by
  cases op <;> simp only [unI] at h <;> try exact h.elim
  case not => cases v <;> simp only at h <;> first | exact h.elim | exact ⟨_, h, rfl, fun w => by simp [Op.unary]⟩
  case neg => cases v <;> simp only at h <;> first | exact h.elim | exact ⟨_, h, rfl, fun w => by simp [Op.unary, Op.intArith]⟩

theorem fieldOf_spec {t : TypeId} {f off ft : Nat} (h : fieldOf P t f = some (off, ft)) : ∃ fs : Array Field, P.underlying t = some (.struct fs) ∧ ∃ g, fs[f]? = some g ∧ g.offset = off ∧ g.type = ft := by
  unfold fieldOf at h
  split at h
  · rename_i fs hfs
    split at h
    · rename_i g hg
      simp only [Option.some.injEq, Prod.mk.injEq] at h
      exact ⟨fs, hfs, g, by rw [← Array.getElem?_toList]; exact hg, h.1, h.2⟩
    · cases h
  · cases h

theorem fieldAI_sound {t : TypeId} {v : Value} {f : Nat} {K : Value → Prop} (h : fieldAI P t v f K) : ∃ r, K r ∧ isU v = false ∧ ∀ w, (Instr.fieldAt t v f).run P w = .ok r w := by
  unfold fieldAI at h
  split at h
  case h_2 => exact h.elim
  rename_i b o
  split at h
  case h_2 => exact h.elim
  rename_i off ft hf
  split at h
  case h_1 => exact h.elim
  rename_i n hn
  obtain ⟨fs, hu, g, hg, rfl, rfl⟩ := fieldOf_spec hf
  refine ⟨_, h, rfl, fun w => ?_⟩
  simp [Instr.fieldAt, run_underlying hu, hg, Instr.sureAddr, fieldPlace, run_sizeOf hn, Addr.add_lit]

theorem partI_sound {t : TypeId} {cs : Array Value} {off : Nat} {K : Value → Prop} {d : TypeDesc} (hd : P.underlying t = some d) (h : partI P t cs off K) : ∃ r, K r ∧ ∀ w, (part t cs off).run P w = .ok r w := by
  unfold partI at h
  obtain ⟨i, hi⟩ := info_of_underlying hd
  split at h
  · rename_i ha
    refine ⟨_, h, fun w => ?_⟩
    unfold part
    simp only [Sem.run_bind, run_isAgg hd, ha, Result.andThen_ok, if_true, run_sizeOf' hi, Sem.run_pure]
    congr 2
    rw [← Array.toList_inj]
    simp
  · rename_i ha
    split at h
    case h_2 => exact h.elim
    rename_i v hv
    cases hu : isU v with
    | true => rw [hu] at h; exact h.elim
    | false =>
      rw [hu] at h
      refine ⟨_, h, fun w => ?_⟩
      have hv' : cs[off]? = some v := by rw [← Array.getElem?_toList]; exact hv
      unfold part
      simp [run_isAgg hd, ha, hv']

theorem isSome_info {t : TypeId} (h : (P.info? t).isSome = true) (w : World) : (sizeOf t).run P w = .ok (szT P t) w := by
  obtain ⟨i, hi⟩ := Option.isSome_iff_exists.1 h
  exact run_sizeOf' hi w

theorem indexAI_sound {t : TypeId} {x i : Value} {K : Value → Prop} (h : indexAI P t x i K) : ∃ r, K r ∧ isU x = false ∧ isU i = false ∧ ∀ w, (Instr.indexAt t x i).run P w = .ok r w := by
  unfold indexAI at h
  split at h
  case h_2 => exact h.elim
  rename_i k n
  split at h
  case h_3 => exact h.elim
  · rename_i e he
    split at h
    case h_2 => exact h.elim
    rename_i base len cap
    cases hi : (P.info? e).isSome with
    | false => rw [hi] at h; exact h.elim
    | true =>
      rw [hi] at h
      obtain ⟨b, o, rfl, hb, hK⟩ := h
      refine ⟨_, hK, rfl, rfl, fun w => ?_⟩
      simp only [Instr.indexAt, asIntOf, Sem.run_bind, Sem.run_pure, Result.andThen_ok, run_underlying he, hb, if_true, and_self, isSome_info hi, Addr.add_lit, Sem.run_ite]
  · rename_i len e he
    split at h
    case h_2 => exact h.elim
    rename_i b o
    cases hi : (P.info? e).isSome with
    | false => rw [hi] at h; exact h.elim
    | true =>
      rw [hi] at h
      obtain ⟨hb, hK⟩ := h
      refine ⟨_, hK, rfl, rfl, fun w => ?_⟩
      simp only [Instr.indexAt, asIntOf, Sem.run_bind, Sem.run_pure, Result.andThen_ok, run_underlying he, hb, if_true, and_self, isSome_info hi, Addr.add_lit, Sem.run_ite, Instr.sureAddr]

theorem indexI_sound {t : TypeId} {x i : Value} {K : Value → Prop} (h : indexI P t x i K) : ∃ r, K r ∧ isU x = false ∧ isU i = false ∧ ∀ w, (Instr.index t x i).run P w = .ok r w := by
  unfold indexI at h
  split at h
  case h_2 => exact h.elim
  rename_i k n
  split at h
  case h_3 => exact h.elim
  · rename_i s
    simp only [isStrT] at h
    split at h
    case h_2 => exact h.elim
    rename_i hu
    simp only [cond_true] at h
    obtain ⟨hb, hK⟩ := h
    refine ⟨_, hK, rfl, rfl, fun w => ?_⟩
    have hlt : n.toNat < s.size := by omega
    have h1 : s[n.toNat]? = some s[n.toNat] := by
      simp [hlt]
    simp only [Instr.index, asIntOf, Sem.run_bind, Sem.run_pure, Result.andThen_ok, run_underlying hu, hb.1, if_true, h1]
    have h2 : s.data.toList[n.toNat]? = some s[n.toNat] := by
      have : n.toNat < s.data.toList.length := by simpa using hlt
      rw [List.getElem?_eq_getElem this]; rfl
    simp only [byteAt, h2, Option.getD_some]
  · rename_i cs
    split at h
    case h_2 => exact h.elim
    rename_i len e hu
    split at h
    case h_2 => exact h.elim
    rename_i k' hk
    cases hc : (aggT P e || !Nat.beq (szT P e) 1 || !(P.info? e).isSome) with
    | true => rw [hc] at h; exact h.elim
    | false =>
      rw [hc] at h
      simp only [Bool.or_eq_false_iff, Bool.not_eq_eq_eq_not, Bool.not_false] at hc
      obtain ⟨⟨hag, hsz⟩, hi⟩ := hc
      have hsz' : szT P e = 1 := Nat.eq_of_beq_eq_true hsz
      obtain ⟨hb, v, hv, hU, hK⟩ := h
      refine ⟨_, hK, rfl, rfl, fun w => ?_⟩
      have hd : ∃ d, P.underlying e = some d := by
        cases hd : P.underlying e with
        | some d => exact ⟨d, rfl⟩
        | none => simp [cks, hd] at hk
      obtain ⟨d, hd⟩ := hd
      have hv' : cs[n.toNat]? = some (k'.val v) := by rw [← Array.getElem?_toList]; exact hv
      simp [Instr.index, asIntOf, run_underlying hu, hb, isSome_info hi, hsz', part, run_isAgg hd, hag, hv']

theorem extractI_sound {x : Value} {i : Nat} {K : Value → Prop} (h : extractI x i K) : ∃ r, K r ∧ isU x = false ∧ ∀ w, (Instr.extract x i).run P w = .ok r w := by
  unfold extractI at h
  split at h
  case h_2 => exact h.elim
  rename_i vs
  split at h
  case h_2 => exact h.elim
  rename_i v hv
  have hv' : vs[i]? = some v := by rw [← Array.getElem?_toList]; exact hv
  exact ⟨_, h, rfl, fun w => by simp [Instr.extract, hv']⟩

theorem convI_sound {s d : TypeId} {x : Value} {K : Value → Prop} (hs : (P.underlying s).isSome = true) (h : convI P d x K) : ∃ r, K r ∧ isU x = false ∧ ∀ w, (convert s d x).run P w = .ok r w := by
  obtain ⟨sd, hs⟩ := Option.isSome_iff_exists.1 hs
  unfold convI at h
  split at h
  case h_3 => exact h.elim
  · split at h
    case h_2 => exact h.elim
    rename_i k hd
    exact ⟨_, h, rfl, fun w => by simp [convert, run_underlying hs, run_underlying hd, Conv.intToInt]⟩
  · simp only [isStrT] at h
    split at h
    case h_2 => exact h.elim
    rename_i hd
    exact ⟨_, h, rfl, fun w => by simp [convert, run_underlying hs, run_underlying hd]⟩

theorem lenI_sound {t ty : TypeId} {x : Value} {K : Value → Prop} (h : lenI P t x K) : ∃ r, K r ∧ isU x = false ∧ ∀ w, (Builtin.len_ #[t] ty #[x]).run P w = .ok r w := by
  unfold lenI at h
  split at h
  case h_4 => exact h.elim
  · simp only [isStrT] at h
    split at h
    case h_2 => exact h.elim
    rename_i hd
    exact ⟨_, h, rfl, fun w => by simp [Builtin.len_, run_underlying hd, goInt]⟩
  · simp only [isSlcT] at h
    split at h
    case h_2 => exact h.elim
    rename_i hd
    exact ⟨_, h, rfl, fun w => by simp [Builtin.len_, run_underlying hd, goInt]⟩
  · split at h
    case h_2 => exact h.elim
    rename_i hd
    exact ⟨_, h, rfl, fun w => by simp [Builtin.len_, run_underlying hd, goInt]⟩

theorem maxI_sound {ts : Array TypeId} {ty : TypeId} {x y : Value} {K : Value → Prop} (h : maxI x y K) : ∃ r, K r ∧ isU x = false ∧ isU y = false ∧ ∀ w, (Builtin.max_ ts ty #[x, y]).run P w = .ok r w := by
  unfold maxI at h
  split at h
  case h_2 => exact h.elim
  split at h
  case h_2 => exact h.elim
  exact ⟨_, h, rfl, rfl, fun w => by simp [Builtin.max_, Builtin.max2]⟩
theorem minI_sound {ts : Array TypeId} {ty : TypeId} {x y : Value} {K : Value → Prop} (h : minI x y K) : ∃ r, K r ∧ isU x = false ∧ isU y = false ∧ ∀ w, (Builtin.min_ ts ty #[x, y]).run P w = .ok r w := by
  unfold minI at h
  split at h
  case h_2 => exact h.elim
  split at h
  case h_2 => exact h.elim
  exact ⟨_, h, rfl, rfl, fun w => by simp [Builtin.min_, Builtin.min2]⟩

theorem nilckI_sound {v : Value} {K : Value → Prop} (h : nilckI v K) : ∃ b o, v = .pointer (some ⟨b, o, none⟩) ∧ K v := by
  unfold nilckI at h
  split at h
  case h_2 => exact h.elim
  obtain ⟨b, o, rfl, hK⟩ := h
  exact ⟨b, o, rfl, hK⟩

theorem loB_sound {v : Option Value} {h : Nat} {K : Nat → Prop} {m : Bool} (hh : loB v h K) : ∃ l, K l ∧ l ≤ h ∧ (∀ x, v = some x → isU x = false) ∧ ∀ w, (match v with
    | some v => Instr.sliceBound v h (if m then .slice3C else .sliceB)
    | none => (pure 0 : Sem Nat)).run P w = .ok l w := by
  unfold loB at hh
  split at hh
  case h_3 => exact hh.elim
  · exact ⟨_, hh, Nat.zero_le _, by simp, fun w => rfl⟩
  · obtain ⟨hb, hK⟩ := hh
    exact ⟨_, hK, by omega, by rintro x ⟨⟩; rfl, fun w => by simp [Instr.sliceBound, asIntOf, hb]⟩

theorem sliceI_sound {t : TypeId} {x : Value} {lo hi mx : Option Value} {K : Value → Prop} (h : sliceI P t x lo hi mx K) :
    ∃ r, K r ∧ isU x = false ∧ (∀ y, lo = some y → isU y = false) ∧ (∀ y, hi = some y → isU y = false) ∧ (∀ y, mx = some y → isU y = false) ∧ ∀ w, (Instr.sliceAt t x lo hi mx).run P w = .ok r w := by
  unfold sliceI at h
  split at h
  case h_3 => exact h.elim
  · rename_i s
    simp only [isStrT] at h
    split at h
    case h_2 => exact h.elim
    rename_i hd
    simp only [cond_true] at h
    cases mx with
    | some m => exact h.elim
    | none =>
      have key : ∃ u, (∃ l, K (.string (s.extract l u)) ∧ (∀ y, lo = some y → isU y = false) ∧ ∀ w, (match lo with
          | some v => Instr.sliceBound v u (if (none : Option Value).isSome then .slice3C else .sliceB)
          | none => (pure 0 : Sem Nat)).run P w = .ok l w) ∧ (∀ y, hi = some y → isU y = false) ∧ ∀ w, (match hi with
          | some v => Instr.sliceBound v s.size .sliceAlen
          | none => (pure s.size : Sem Nat)).run P w = .ok u w := by
        simp only [hiB] at h
        split at h
        case h_3 => exact h.elim
        · obtain ⟨l, hK, _, hU, hl⟩ := loB_sound (P := P) (m := (none : Option Value).isSome) h
          exact ⟨s.size, ⟨l, hK, hU, hl⟩, by simp, fun w => rfl⟩
        · obtain ⟨hb, h⟩ := h
          obtain ⟨l, hK, _, hU, hl⟩ := loB_sound (P := P) (m := (none : Option Value).isSome) h
          exact ⟨_, ⟨l, hK, hU, hl⟩, by rintro x ⟨⟩; rfl, fun w => by simp [Instr.sliceBound, asIntOf, hb]⟩
      obtain ⟨u, ⟨l, hK, hU, hl⟩, hU', hu⟩ := key
      refine ⟨_, hK, rfl, hU, hU', by simp, fun w => ?_⟩
      cases hi <;> cases lo <;> simp only [Option.isSome_none, Bool.false_eq_true, if_false] at hu hl <;>
        simp only [Instr.sliceAt, Instr.slice, Sem.run_bind, run_underlying hd, Result.andThen_ok, Instr.sliceBounds, hu, hl, Sem.run_pure, Option.isSome_none, Bool.false_eq_true, if_false]
  · rename_i base n c
    split at h
    case h_2 => exact h.elim
    rename_i e hd
    cases hi' : (P.info? e).isSome with
    | false => rw [hi'] at h; exact h.elim
    | true =>
      rw [hi'] at h
      simp only [cond_true] at h
      have key : ∃ m u, (∃ l, K (.slice (subA base l m (szT P e)) (u - l) (m - l)) ∧ (∀ y, lo = some y → isU y = false) ∧ ∀ w, (match lo with
          | some v => Instr.sliceBound v u (if mx.isSome then .slice3C else .sliceB)
          | none => (pure 0 : Sem Nat)).run P w = .ok l w) ∧ (∀ y, hi = some y → isU y = false) ∧ (∀ y, mx = some y → isU y = false) ∧ (∀ w, (match mx with
          | some v => Instr.sliceBound v c .slice3Acap
          | none => (pure c : Sem Nat)).run P w = .ok m w) ∧ (∀ w, (match hi, mx with
          | some v, some _ => Instr.sliceBound v m .slice3B
          | some v, none => Instr.sliceBound v m .sliceAcap
          | none, none => (pure n : Sem Nat)
          | none, some _ => stuck "Slice: max without high").run P w = .ok u w) := by
        split at h
        · split at h
          case h_2 => exact h.elim
          obtain ⟨l, hK, _, hU, hl⟩ := loB_sound (P := P) (m := (none : Option Value).isSome) h
          exact ⟨c, n, ⟨l, hK, hU, hl⟩, by simp, by simp, fun w => rfl, fun w => rfl⟩
        · simp only [mxB] at h
          split at h
          case h_3 => exact h.elim
          · simp only [hiB] at h
            split at h
            case h_1 => rename_i hx; cases hx
            case h_3 => exact h.elim
            cases ‹some _ = some (Value.int _ _)›
            obtain ⟨hb, h⟩ := h
            obtain ⟨l, hK, _, hU, hl⟩ := loB_sound (P := P) (m := (none : Option Value).isSome) h
            exact ⟨c, _, ⟨l, hK, hU, hl⟩, by rintro x ⟨⟩; rfl, by simp, fun w => rfl, fun w => by simp [Instr.sliceBound, asIntOf, hb]⟩
          · rename_i k i
            obtain ⟨hb0, h⟩ := h
            simp only [hiB] at h
            split at h
            case h_1 => rename_i hx; cases hx
            case h_3 => exact h.elim
            cases ‹some _ = some (Value.int _ _)›
            obtain ⟨hb, h⟩ := h
            obtain ⟨l, hK, _, hU, hl⟩ := loB_sound (P := P) (m := (some (Value.int k i) : Option Value).isSome) h
            exact ⟨_, _, ⟨l, hK, hU, hl⟩, by rintro x ⟨⟩; rfl, by rintro x ⟨⟩; rfl, fun w => by simp [Instr.sliceBound, asIntOf, hb0], fun w => by simp [Instr.sliceBound, asIntOf] ; omega⟩
      obtain ⟨m, u, ⟨l, hK, hU, hl⟩, hU', hU'', hm, hu⟩ := key
      refine ⟨_, hK, rfl, hU, hU', hU'', fun w => ?_⟩
      cases hi <;> cases lo <;> cases mx <;> simp only [Option.isSome_none, Option.isSome_some, Bool.false_eq_true, if_false, if_true] at hm hu hl <;>
        simp only [Instr.sliceAt, Instr.slice, Sem.run_bind, run_underlying hd, Result.andThen_ok, Instr.sliceBounds, if_true, hm, hu, hl, Sem.run_pure, isSome_info hi', subA, Option.isSome_none, Option.isSome_some, Bool.false_eq_true, if_false]
end
end Go.Hb
