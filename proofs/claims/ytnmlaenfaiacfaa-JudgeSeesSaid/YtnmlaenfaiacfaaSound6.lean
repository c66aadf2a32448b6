/- SOUNDNESS OF THE INTERPRETER: regions, drawn ones too. -/
import Derived.Test.YtnmlaenfaiacfaaSound5
set_option linter.unusedVariables false
set_option linter.unusedSimpArgs false
set_option linter.unnecessarySimpa false
set_option linter.unusedSectionVars false
namespace Go.Hb

section
variable {P : Program} {ρ : Env} {a : Act} {w : World}

theorem Sub.know {ρ : Env} {a : Act} (h : Sub ρ a) {d : Nat} {v : Value} (hv : a.tmps.getD d undef = v) : Sub (pt ρ d v) a := by
  refine ⟨h.defers, by rw [length_pt]; exact h.size, fun t => ?_⟩
  rw [gt_pt]
  split
  · rename_i ht; rw [ht.1, hv]; exact Le.refl _
  · exact h.get t

theorem yielded_eq {all : List Oper} {j d : Nat} (hd : dstOf all j = some d) (hlt : d < a.tmps.size) :
    yielded all.toArray a.tmps j = match a.tmps.getD d undef with
      | .bool b => some b
      | _ => none := by
  unfold dstOf at hd
  unfold yielded
  simp only [List.getElem?_toArray]
  split at hd
  · rename_i o ho
    simp [ho, hd, hlt]
    cases a.tmps[d] <;> rfl
  · cases hd
theorem gt_lt {ρ : Env} {t : Nat} {v : Value} (h : gt ρ t = v) (hv : isU v = false) : t < ρ.length := by
  induction ρ generalizing t with
  | nil => subst h; simp [gt, isU, unk] at hv
  | cons x ρ ih => cases t with
    | zero => simp
    | succ t => have := ih (t := t) (by simpa [gt] using h); simp; omega

theorem guardI_sound {all : List Oper} {o : Oper} {yes no : Env → WP} (h : guardI all ρ o yes no w) (hs : Sub ρ a) :
    (Region.wanted o (yielded all.toArray a.tmps) = true ∧ ∃ ρ', Sub ρ' a ∧ yes ρ' w) ∨ (Region.wanted o (yielded all.toArray a.tmps) = false ∧ ∃ ρ', Sub ρ' a ∧ no ρ' w) := by
  unfold guardI at h
  unfold Region.wanted
  cases hg : o.guard with
  | none => simp only [hg] at h; exact .inl ⟨rfl, ρ, hs, h⟩
  | some g =>
    obtain ⟨j, want⟩ := g
    simp only [hg] at h
    cases hd : dstOf all j with
    | none =>
      simp only [hd] at h
      refine .inr ⟨?_, ρ, hs, h⟩
      have : yielded all.toArray a.tmps j = none := by
        unfold dstOf at hd
        unfold yielded
        simp only [List.getElem?_toArray]
        split at hd
        · rename_i o ho; simp [ho, hd]
        · rename_i ho; simp [ho]
      simp [this]
    | some d =>
      simp only [hd] at h
      have key : ∀ v, gt ρ d = v → isU v = false → a.tmps.getD d undef = v ∧ d < a.tmps.size := by
        intro v hv hu
        have := (hs.get d).eq (by rw [hv]; exact hu)
        exact ⟨this.trans hv, Nat.lt_of_lt_of_le (gt_lt hv hu) hs.size⟩
      cases hv : gt ρ d with
      | complex k x y => simp only [hv] at h; exact h.elim
      | bool b =>
        obtain ⟨h1, h2⟩ := key _ hv rfl
        simp only [yielded_eq hd h2, h1]
        simp only [hv] at h
        cases b <;> cases want <;> simp only [ite2, cond_true, cond_false] at h
        · exact .inl ⟨rfl, _, hs.know h1, h⟩
        · exact .inr ⟨rfl, _, hs.know h1, h⟩
        · exact .inr ⟨rfl, _, hs.know h1, h⟩
        · exact .inl ⟨rfl, _, hs.know h1, h⟩
      | _ =>
        obtain ⟨h1, h2⟩ := key _ hv rfl
        simp only [yielded_eq hd h2, h1]
        simp only [hv] at h
        exact .inr ⟨rfl, _, hs, h⟩

theorem opsI_sound {all : List Oper} {Q : Exit → Act → World → Prop} {K : Env → WP} (hn : ∀ ρ a w, K ρ w → Sub ρ a → Q .normal a w) :
    ∀ (l : List Oper) (ρ : Env) (a : Act) (w : World), opsI P all l ρ K w → Sub ρ a → wpList P all.toArray Q l a w
  | [], ρ, a, w, h, hs => hn _ _ _ h hs
  | o :: l, ρ, a, w, h, hs => by
    simp only [opsI] at h
    simp only [wpList]
    rcases guardI_sound h hs with ⟨hw, ρ', hs', h⟩ | ⟨hw, ρ', hs', h⟩
    · rw [if_pos hw]
      exact .inl (opI_sound h hs' fun v v' w' hle hK => opsI_sound hn l _ _ _ hK (hs'.put o.dst hle))
    · rw [if_neg (by simp [hw])]
      exact opsI_sound hn l _ _ _ h (hs'.put o.dst (Le.refl _))

/-! drawn regions -/
theorem memb_iff {i : Nat} : ∀ {l : List Nat}, memb i l = true ↔ i ∈ l
  | [] => by simp [memb]
  | j :: l => by
    simp only [memb, Bool.or_eq_true, List.mem_cons, memb_iff (l := l)]
    constructor
    · rintro (h | h)
      · exact .inl (Nat.eq_of_beq_eq_true h)
      · exact .inr h
    · rintro (h | h)
      · subst h; exact .inl (Nat.beq_refl _)
      · exact .inr h
theorem mem_edgesL {k : Nat} : ∀ {l : List Edge}, k ∈ edgesL l ↔ ∃ e ∈ l, Region.binds .any e = true ∧ e.on = k
  | [] => by simp [edgesL]
  | e :: l => by
    have ih := mem_edgesL (k := k) (l := l)
    simp only [edgesL]
    split <;> rename_i hg
    · simp only [ih, List.mem_cons, exists_eq_or_imp, Region.binds, hg]; simp
    · simp only [ih, List.mem_cons, exists_eq_or_imp, Region.binds, hg]; simp
    · have hb : Region.binds .any e = true := by
        unfold Region.binds
        split <;> first | rfl | (rename_i h; simp_all)
      simp only [List.mem_cons, ih, exists_eq_or_imp, hb, true_and]
      constructor
      · rintro (h | h)
        · exact .inl h.symm
        · exact .inr h
      · rintro (h | h)
        · exact .inl h.symm
        · exact .inr h

variable {all : List Oper}
theorem mem_waitsL {i k : Nat} {o : Oper} (ho : all[i]? = some o) : k ∈ waitsL all i ↔ ∃ e ∈ o.after, Region.binds .any e = true ∧ e.on = k := by
  simp only [waitsL, ho, mem_edgesL, Array.mem_toList_iff]

structure RelD (all : List Oper) (done : List Nat) (listed : Array Bool) : Prop where
  size : listed.size = all.length
  mem : ∀ j, j < all.length → listed.getD j false = memb j done
theorem RelD.getT {done : List Nat} {listed : Array Bool} (h : RelD all done listed) {j : Nat} (hj : j < all.length) : listed.getD j true = memb j done := by
  rw [← h.mem j hj]
  have : j < listed.size := by rw [h.size]; exact hj
  simp [this]

theorem rdy_iff {done : List Nat} {listed : Array Bool} (h : RelD all done listed) (hd : ∀ i ∈ done, i < all.length) {i : Nat} (hi : i < all.length) :
    rdy all done i = true ↔ i ∈ Region.ready .any all.toArray listed := by
  rw [mem_ready]
  obtain ⟨o, ho⟩ : ∃ o, all[i]? = some o := ⟨all[i], by simp [hi]⟩
  have ho' : all.toArray[i]? = some o := by simpa using ho
  simp only [rdy, Bool.and_eq_true, Bool.not_eq_true', List.all_eq_true]
  rw [h.getT hi]
  refine and_congr Iff.rfl ?_
  constructor
  · intro hw
    refine ⟨o, ho', fun e he hb => ?_⟩
    have h1 := hw e.on ((mem_waitsL ho).2 ⟨e, he, hb, rfl⟩)
    have h2 := hd _ (memb_iff.1 h1)
    rw [h.mem _ h2]; exact h1
  · rintro ⟨o', ho'', hall⟩ k hk
    have : o' = o := Option.some.inj (ho''.symm.trans ho')
    subst this
    obtain ⟨e, he, hb, rfl⟩ := (mem_waitsL ho).1 hk
    have h1 := hall e he hb
    by_cases h2 : e.on < all.length
    · rw [← h.mem _ h2]; exact h1
    · have : ¬ e.on < listed.size := by rw [h.size]; exact h2
      simp [this] at h1

def Closed (all : List Oper) (L : Nat → Bool) : Prop := ∀ j, L j = true → ∀ k ∈ waitsL all j, L k = true

theorem maskOf_spec {acc : List Nat} {k : Nat} : ∀ {es : List Nat}, (maskOf acc es).testBit k = true → ∃ e ∈ es, k = e ∨ (acc.getD e 0).testBit k = true
  | [], h => by simp [maskOf] at h
  | e :: es, h => by
    simp only [maskOf, Nat.testBit_or, Bool.or_eq_true, Nat.testBit_two_pow, decide_eq_true_eq] at h
    rcases h with (h | h) | h
    · exact ⟨e, .head _, .inl h.symm⟩
    · exact ⟨e, .head _, .inr h⟩
    · obtain ⟨e', he', h'⟩ := maskOf_spec h
      exact ⟨e', .tail _ he', h'⟩
theorem mkTab_spec : ∀ (l : List Oper) (acc : List Nat), all.drop acc.length = l →
    (∀ j k, (acc.getD j 0).testBit k = true → ∀ L, Closed all L → (∀ e ∈ waitsL all j, L e = true) → L k = true) →
    ∀ j k, ((mkTab l acc).getD j 0).testBit k = true → ∀ L, Closed all L → (∀ e ∈ waitsL all j, L e = true) → L k = true
  | [], acc, _, hacc => hacc
  | o :: l, acc, hl, hacc => by
    simp only [mkTab]
    have ho : all[acc.length]? = some o := by
      have : (all.drop acc.length)[0]? = some o := by rw [hl]; rfl
      simpa using this
    refine mkTab_spec l _ ?_ ?_
    · have : all.drop (acc.length + 1) = (all.drop acc.length).drop 1 := by rw [List.drop_drop]
      simp [this, hl]
    · intro j k hb L hL hj
      by_cases hjl : j < acc.length
      · have : (acc ++ [maskOf acc (edgesL o.after.toList)]).getD j 0 = acc.getD j 0 := by simp [List.getElem?_append_left hjl]
        rw [this] at hb
        exact hacc j k hb L hL hj
      · by_cases hje : j = acc.length
        · subst hje
          have : (acc ++ [maskOf acc (edgesL o.after.toList)]).getD acc.length 0 = maskOf acc (edgesL o.after.toList) := by simp
          rw [this] at hb
          obtain ⟨e, he, h⟩ := maskOf_spec hb
          have hw : e ∈ waitsL all acc.length := by simp only [waitsL, ho]; exact he
          rcases h with rfl | h
          · exact hj _ hw
          · exact hacc e k h L hL (hL e (hj e hw))
        · have : (acc ++ [maskOf acc (edgesL o.after.toList)]).getD j 0 = 0 := by
            have : acc.length + 1 ≤ j := by omega
            simp [List.getElem?_eq_none, this]
          rw [this] at hb
          simp at hb

/-- 'wpAny', and S is kept by each operation of which it is asked -/
def wpAnyM (P : Program) (ops : Array Oper) (Q : Exit → Act → World → Prop) (S : World → Prop) (need : Nat → Bool) : Nat → Array Bool → Act → World → Prop
  | 0, listed, a, w => Region.ready .any ops listed = [] ∧ Q .normal a w
  | fuel + 1, listed, a, w =>
    (Region.ready .any ops listed = [] → Q .normal a w) ∧
    ∀ i ∈ Region.ready .any ops listed, wpOp P ops Q i (fun a' w' => (need i = true → S w → S w') ∧ wpAnyM P ops Q S need fuel (listed.setIfInBounds i true) a' w') a w
theorem wpAny_of_M {ops : Array Oper} {Q : Exit → Act → World → Prop} {S : World → Prop} {need : Nat → Bool} : ∀ (fuel : Nat) (listed : Array Bool) (a : Act) (w : World), wpAnyM P ops Q S need fuel listed a w → wpAny P .any ops Q fuel listed a w
  | 0, _, _, _, h => h
  | fuel + 1, _, _, _, h => ⟨h.1, fun i hi => wpOp_mono (fun a' w' h' => wpAny_of_M fuel _ a' w' h'.2) (h.2 i hi)⟩

theorem wpAnyM_first {ops : Array Oper} {Q : Exit → Act → World → Prop} {S : World → Prop} {need : Nat → Bool} {c : Bool} {i : Nat} {oi : Oper} {v : Value} (hi : ops[i]? = some oi)
    (hsel : ∀ (j : Nat) (o : Oper) cs b, ops[j]? = some o → o.op ≠ .select cs b) (hQ : ∀ c a w, ¬ Q (.panic c) a w) (G : Array Bool → Prop)
    (hG : ∀ listed j, G listed → j ∈ Region.ready .any ops listed → G (listed.setIfInBounds j true))
    (hneed : ∀ listed j, G listed → j ∈ Region.ready .any ops listed → listed.getD i true = false → j ≠ i → c = true → need j = true) :
    ∀ (fuel : Nat) (listed : Array Bool) (a : Act) (w : World), G listed →
      (∀ j oj, ops[j]? = some oj → j ≠ i → listed.getD j true = false → (∀ e ∈ oj.after, Region.binds .any e = true → e.on ≠ i) → oi.apart ops oj = true) →
      i ∈ Region.ready .any ops listed → YieldsIf P ops (fun w => c = true → S w) oi v a → (c = true → S w) →
      wpAnyM P ops Q S need fuel (listed.setIfInBounds i true) (a.put oi.dst v) w → wpAnyM P ops Q S need (fuel + 1) listed a w := by
  intro fuel
  induction fuel with
  | zero =>
    intro listed a w hg _ hr hy hS H
    refine ⟨fun h => (by rw [h] at hr; cases hr), fun j hj => ?_⟩
    by_cases hji : j = i
    · subst hji; exact hy.wpOp hi hS ⟨fun _ h => h, H⟩
    · have := ready_mono hj hji
      rw [H.1] at this
      cases this
  | succ fuel ih =>
    intro listed a w hg hfree hr hy hS H
    refine ⟨fun h => (by rw [h] at hr; cases hr), fun j hj => ?_⟩
    by_cases hji : j = i
    · subst hji; exact hy.wpOp hi hS ⟨fun _ h => h, H⟩
    · have h1 := H.2 j (ready_mono hj hji)
      have hnd := hneed listed j hg hj (mem_ready.1 hr).1 hji
      obtain ⟨hjun, oj, hoj, hall⟩ := mem_ready.1 hj
      have hnot : ∀ e ∈ oj.after, Region.binds .any e = true → e.on ≠ i := fun e he hb heq => by
        have h1 := hall e he hb
        have h0 := (mem_ready.1 hr).1
        rw [heq] at h1
        rcases Nat.lt_or_ge i listed.size with h' | h'
        · simp [h'] at h0 h1; rw [h0] at h1; cases h1
        · simp [Array.getElem?_eq_none h'] at h1
      have h2 := wpOp_putIf hoj (hfree j oj hoj hji hjun hnot) (fun cs b => hsel i oi cs b hi) (fun cs b => hsel j oj cs b hoj) (fun c a w hq => (hQ c _ w hq).elim) hy h1
      have hfree' : ∀ k ok, ops[k]? = some ok → k ≠ i → (listed.setIfInBounds j true).getD k true = false →
          (∀ e ∈ ok.after, Region.binds .any e = true → e.on ≠ i) → oi.apart ops ok = true := fun k ok hk hki hun hno => by
        refine hfree k ok hk hki ?_ hno
        by_cases hjk : j = k
        · subst hjk; exact hjun
        · rw [getD_set_ne true hjk] at hun; exact hun
      refine wpOp_mono (fun a' w' h3 => ⟨h3.2.1, ih (listed.setIfInBounds j true) a' w' (hG _ _ hg hj) hfree' (ready_mono hr (Ne.symm hji)) h3.1 (fun hc => h3.2.1 (hnd hc) (hS hc)) ?_⟩) h2
      rw [Array.setIfInBounds_comm _ _ hji]
      exact h3.2.2

theorem RelD.set {done : List Nat} {listed : Array Bool} (h : RelD all done listed) {i : Nat} (hi : i < all.length) : RelD all (i :: done) (listed.setIfInBounds i true) := by
  refine ⟨by simp [h.size], fun j hj => ?_⟩
  by_cases hij : i = j
  · subst hij
    have : i < listed.size := by rw [h.size]; exact hi
    simp [this, memb, Nat.beq_refl]
  · rw [getD_set_ne false hij, h.mem j hj]
    have : Nat.beq j i = false := by
      cases hb : Nat.beq j i with
      | false => rfl
      | true => exact absurd (Nat.eq_of_beq_eq_true hb).symm hij
    simp [memb, this]

/-! an operation that is taken ahead of others: it gives one value in every world that meets S -/
theorem ldsS_sound {S : World → Prop} : ∀ (ks : List CK) (b o : Nat) (K : List Value → WP), ldsS S ks b o K w → ∃ vs, vs.length = ks.length ∧ K vs w ∧ ∀ w', S w' → ∀ (j : Nat) v, vs[j]? = some v → w'.cell? ⟨b, o + j, none⟩ = some v
  | [], _, _, _, h => ⟨[], rfl, h, by simp⟩
  | k :: ks, b, o, K, h => by
    simp only [ldsS] at h
    obtain ⟨x, hx, h⟩ := h
    obtain ⟨vs, hl, hK, hc⟩ := ldsS_sound ks b (o + 1) _ h
    refine ⟨_, by simp [hl], hK, fun w' hS j v hj => ?_⟩
    cases j with
    | zero => simp at hj; subst hj; exact hx w' hS
    | succ j =>
      have := hc w' hS j v (by simpa using hj)
      rwa [show o + 1 + j = o + (j + 1) by omega] at this

theorem loadSI_sound {S : World → Prop} {t : TypeId} {x : Value} {K : Value → WP} (h : loadSI P S t x K w) : ∃ v, isU x = false ∧ K v w ∧ ∀ w', S w' → (Instr.loadAt t x).run P w' = .ok v w' := by
  unfold loadSI at h
  cases x <;> try exact h.elim
  rename_i p
  rcases p with _ | ⟨b, o, _ | _⟩ <;> try exact h.elim
  cases hk : cks P 9 t with
  | none => simp only [hk] at h; exact h.elim
  | some ks =>
  simp only [hk] at h
  cases hc : ((P.underlying t).isSome && (P.info? t).isSome && Nat.beq (szT P t) ks.length) with
  | false => rw [hc] at h; exact h.elim
  | true =>
    rw [hc] at h
    simp only [Bool.and_eq_true] at hc
    obtain ⟨⟨hd, hi⟩, hl⟩ := hc
    obtain ⟨d, hd⟩ := Option.isSome_iff_exists.1 hd
    have hl' : szT P t = ks.length := Nat.eq_of_beq_eq_true hl
    simp only [cond_true] at h
    cases ha : aggT P t with
    | true =>
      simp only [ha] at h
      obtain ⟨vs, hvl, hK, hcs⟩ := ldsS_sound _ _ _ _ h
      exact ⟨_, rfl, hK, fun w' hS => by
        simp only [Instr.loadAt, Instr.sureAddr, Sem.run_bind, Sem.run_pure, Result.andThen_ok]
        exact loadVar_agg hd hi ha (by rw [hl', hvl]) (hcs w' hS)⟩
    | false =>
      simp only [ha] at h
      rcases ks with _ | ⟨k, _ | _⟩ <;> try exact h.elim
      obtain ⟨x, hx, hK⟩ := h
      exact ⟨_, rfl, hK, fun w' hS => by
        simp only [Instr.loadAt, Instr.sureAddr, Sem.run_bind, Sem.run_pure, Result.andThen_ok]
        exact loadVar_one hd ha (hx w' hS)⟩

theorem stI_sound {S : World → Prop} {o : Oper} {K : Value → WP} (h : stI P S ρ o.op K w) (hs : Sub ρ a) :
    ∃ v v', Le v v' ∧ K v w ∧ ∀ w', ((match o.op with | .load _ _ => true | _ => false) = true → S w') → (execOp a.eval o).run P w' = .ok (.value v') w' := by
  unfold stI at h
  cases hp : pureI P ρ o.op with
  | some F =>
    simp only [hp] at h
    obtain ⟨v, v', hle, hK, hg⟩ := pureI_sound hp h hs
    exact ⟨v, v', hle, hK, fun w' _ => hg w'⟩
  | none =>
    simp only [hp] at h
    obtain ⟨dst, op, ty, pos, after, guard⟩ := o
    cases op <;> try exact h.elim
    case load t x =>
      obtain ⟨v, hu, hK, hr⟩ := loadSI_sound h
      exact ⟨v, v, Le.refl _, hK, fun w' hS => by simp only [execOp, ev_eq hs rfl hu]; exact run_v' (hr w' (hS rfl))⟩

theorem freeL_spec {done : List Nat} {listed : Array Bool} (h : RelD all done listed) {i : Nat} {oi : Oper} (hf : freeL all done i oi = true) (j : Nat) (oj : Oper)
    (hj : all.toArray[j]? = some oj) (hne : j ≠ i) (hun : listed.getD j true = false) (hno : ∀ e ∈ oj.after, Region.binds .any e = true → e.on ≠ i) : oi.apart all.toArray oj = true := by
  have hj' : all[j]? = some oj := by simpa using hj
  have hlt : j < all.length := (List.getElem?_eq_some_iff.1 hj').1
  have h1 := List.all_eq_true.1 hf j (List.mem_range.2 hlt)
  simp only [hj', Bool.or_eq_true] at h1
  rcases h1 with ((h1 | h1) | h1) | h1
  · exact absurd (Nat.eq_of_beq_eq_true h1) hne
  · rw [h.getT hlt, h1] at hun; cases hun
  · obtain ⟨e, he, hb, heq⟩ := (mem_waitsL hj').1 (memb_iff.1 h1)
    exact absurd heq (hno e he hb)
  · exact h1

structure GoodL (all : List Oper) (listed : Array Bool) : Prop where
  size : listed.size = all.length
  closed : Closed all fun j => listed.getD j false

theorem GoodL.set {listed : Array Bool} (h : GoodL all listed) {j : Nat} (hj : j ∈ Region.ready .any all.toArray listed) : GoodL all (listed.setIfInBounds j true) := by
  obtain ⟨hjun, oj, hoj, hall⟩ := mem_ready.1 hj
  have hoj' : all[j]? = some oj := by simpa using hoj
  have hlt : j < all.length := (List.getElem?_eq_some_iff.1 hoj').1
  refine ⟨by simp [h.size], fun i hi k hk => ?_⟩
  by_cases hij : j = i
  · subst hij
    obtain ⟨e, he, hb, rfl⟩ := (mem_waitsL hoj').1 hk
    exact getD_set_true (hall e he hb)
  · simp only [getD_set_ne false hij] at hi
    exact getD_set_true (h.closed i hi k hk)

theorem nextA_spec {done : List Nat} {i : Nat} : ∀ {A : List Nat}, nextA all done A = some i → i ∈ A ∧ rdy all done i = true
  | [], h => by cases h
  | j :: A, h => by
    simp only [nextA] at h
    split at h
    · rename_i hj; cases h; exact ⟨.head _, hj⟩
    · have := nextA_spec h; exact ⟨.tail _ this.1, this.2⟩
theorem allW_spec : ∀ {l : List WP} {w : World}, allW l w → ∀ p ∈ l, p w
  | [], _, h, _, _ => h.elim
  | [q], _, h, p, hp => by
    cases hp with
    | head => exact h
    | tail _ h' => cases h'
  | q :: q' :: l, _, h, p, hp => by
    cases hp with
    | head => exact h.1
    | tail _ h' => exact allW_spec (l := q' :: l) h.2 p h'

theorem drawI_sound {Q : Exit → Act → World → Prop} {K : Env → WP} {S : World → Prop} {A : List Nat} (hn : ∀ ρ a w, K ρ w → Sub ρ a → Q .normal a w) (hQ : ∀ c a w, ¬ Q (.panic c) a w)
    (hsel : ∀ (j : Nat) (o : Oper) cs b, all.toArray[j]? = some o → o.op ≠ .select cs b) :
    ∀ (n : Nat) (done : List Nat) (listed : Array Bool) (ρ : Env) (a : Act) (w : World), RelD all done listed → GoodL all listed → (∀ i ∈ done, i < all.length) →
      (∀ i ∈ loadsOf all A, i < all.length → memb i done = false → S w) → Sub ρ a → drawI P all S A (loadsOf all A) (mkTab all []) n done ρ K w →
      wpAnyM P all.toArray Q S (needS (loadsOf all A) (mkTab all [])) n listed a w
  | 0, done, listed, ρ, a, w, hR, hG, hd, hS, hs, h => by
    simp only [drawI] at h
    cases hall : (List.range all.length).all (memb · done) with
    | false => rw [hall] at h; exact h.elim
    | true =>
      rw [hall] at h
      refine ⟨?_, hn _ _ _ h hs⟩
      cases hr : Region.ready .any all.toArray listed with
      | nil => rfl
      | cons i l =>
        exfalso
        have hi : i ∈ Region.ready .any all.toArray listed := by rw [hr]; exact .head _
        obtain ⟨h0, o, ho, _⟩ := mem_ready.1 hi
        have hlt : i < all.length := by have := (Array.getElem?_eq_some_iff.1 ho).1; simpa using this
        have := List.all_eq_true.1 hall i (List.mem_range.2 hlt)
        rw [hR.getT hlt, this] at h0
        cases h0
  | n + 1, done, listed, ρ, a, w, hR, hG, hd, hS, hs, h => by
    simp only [drawI] at h
    -- whoever is ready while an undone load that is taken ahead is about needs S
    have hneed : ∀ (L : Array Bool) (j k : Nat), GoodL all L → j ∈ Region.ready .any all.toArray L → k ∈ loadsOf all A → L.getD k false = false → needS (loadsOf all A) (mkTab all []) j = true := by
      intro L j k hL hj hk hkL
      simp only [needS, List.any_eq_true]
      refine ⟨k, hk, ?_⟩
      cases hb : ((mkTab all []).getD j 0).testBit k with
      | false => rfl
      | true =>
        exfalso
        obtain ⟨_, oj, hoj, hall⟩ := mem_ready.1 hj
        have hoj' : all[j]? = some oj := by simpa using hoj
        have := mkTab_spec (all := all) all [] (by simp) (by simp) j k hb (fun j => L.getD j false) hL.closed (fun e he => by
          obtain ⟨e', he', hb', rfl⟩ := (mem_waitsL hoj').1 he
          exact hall e' he' hb')
        rw [hkL] at this
        cases this
    cases hnx : nextA all done A with
    | none =>
      simp only [hnx] at h
      have hall := allW_spec h
      have hready : ∀ i ∈ Region.ready .any all.toArray listed, i < all.length ∧ rdy all done i = true := by
        intro i hi
        have hlt : i < all.length := by
          obtain ⟨_, oj, hoj, _⟩ := mem_ready.1 hi
          have := (Array.getElem?_eq_some_iff.1 hoj).1
          simpa using this
        exact ⟨hlt, (rdy_iff hR hd hlt).2 hi⟩
      have hne : Region.ready .any all.toArray listed ≠ [] := by
        intro h0
        cases hrl : readyL all done with
        | nil => rw [hrl] at h; exact h.elim
        | cons i l =>
          have hi : i ∈ readyL all done := by rw [hrl]; exact .head _
          simp only [readyL, List.mem_filter, List.mem_range] at hi
          have := (rdy_iff hR hd hi.1).1 hi.2
          rw [h0] at this; cases this
      refine ⟨fun h0 => absurd h0 hne, fun i hir => ?_⟩
      obtain ⟨hlt, hrd⟩ := hready i hir
      have hp := hall _ (List.mem_map.2 ⟨i, List.mem_filter.2 ⟨List.mem_range.2 hlt, hrd⟩, rfl⟩)
      obtain ⟨o, ho⟩ : ∃ o, all[i]? = some o := ⟨all[i], by simp [hlt]⟩
      have hoA : all.toArray[i]? = some o := by simpa using ho
      simp only [ho] at hp
      have hd' : ∀ k ∈ i :: done, k < all.length := by
        intro k hk
        cases hk with
        | head => exact hlt
        | tail _ h' => exact hd k h'
      have cont : ∀ ρ' a' w', Sub ρ' a' → keepS (needS (loadsOf all A) (mkTab all []) i) S (drawI P all S A (loadsOf all A) (mkTab all []) n (i :: done) ρ' K) w' →
          (needS (loadsOf all A) (mkTab all []) i = true → S w → S w') ∧ wpAnyM P all.toArray Q S (needS (loadsOf all A) (mkTab all [])) n (listed.setIfInBounds i true) a' w' := by
        intro ρ' a' w' hs' hk
        have hSw : needS (loadsOf all A) (mkTab all []) i = true → S w' := fun hnd => by rw [hnd] at hk; exact hk.1
        refine ⟨fun h1 _ => hSw h1, drawI_sound hn hQ hsel n (i :: done) _ ρ' a' w' (hR.set hlt) (hG.set hir) hd' (fun k hkA hkl hkd => ?_) hs' ?_⟩
        · apply hSw
          have hkd' : memb k done = false := by
            simp only [memb, Bool.or_eq_false_iff] at hkd; exact hkd.2
          exact hneed listed i k hG hir hkA (by rw [hR.mem k hkl]; exact hkd')
        · cases hnd : needS (loadsOf all A) (mkTab all []) i with
          | true => rw [hnd] at hk; exact hk.2
          | false => rw [hnd] at hk; exact hk
      unfold wpOp
      simp only [hoA]
      rcases guardI_sound hp hs with ⟨hw, ρ', hs', h⟩ | ⟨hw, ρ', hs', h⟩
      · rw [if_pos hw]
        exact .inl (opI_sound h hs' fun v v' w' hle hK => cont _ _ _ (hs'.put o.dst hle) hK)
      · rw [if_neg (by simp [hw])]
        exact cont _ _ _ (hs'.put o.dst (Le.refl _)) h
    | some i =>
      simp only [hnx] at h
      obtain ⟨hiA, hrd⟩ := nextA_spec hnx
      cases ho : all[i]? with
      | none => simp only [ho] at h; exact h.elim
      | some o =>
      simp only [ho] at h
      have hlt : i < all.length := (List.getElem?_eq_some_iff.1 ho).1
      have hoA : all.toArray[i]? = some o := by simpa using ho
      have hd' : ∀ k ∈ i :: done, k < all.length := by
        intro k hk
        cases hk with
        | head => exact hlt
        | tail _ h' => exact hd k h'
      cases hfr : freeL all done i o with
      | false => rw [hfr] at h; exact h.elim
      | true =>
        rw [hfr] at h
        simp only [cond_true] at h
        have hir := (rdy_iff hR hd hlt).1 hrd
        have hin : memb i done = false := by
          simp only [rdy, Bool.and_eq_true, Bool.not_eq_true'] at hrd; exact hrd.1
        have hSw : isLd all i = true → S w := fun hld => hS i (List.mem_filter.2 ⟨hiA, hld⟩) hlt hin
        have fin : ∀ v' ρ', YieldsIf P all.toArray (fun w => isLd all i = true → S w) o v' a → Sub ρ' (a.put o.dst v') → drawI P all S A (loadsOf all A) (mkTab all []) n (i :: done) ρ' K w →
            wpAnyM P all.toArray Q S (needS (loadsOf all A) (mkTab all [])) (n + 1) listed a w := by
          intro v' ρ' hy hs' hk
          refine wpAnyM_first (c := isLd all i) hoA hsel hQ (GoodL all) (fun L j hL hj => hL.set hj) (fun L j hL hj hun hji hld => ?_) n listed a w hG (freeL_spec hR hfr) hir hy hSw ?_
          · refine hneed L j i hL hj (List.mem_filter.2 ⟨hiA, hld⟩) ?_
            have : i < L.size := by rw [hL.size]; exact hlt
            simp [this] at hun ⊢
            exact hun
          · refine drawI_sound hn hQ hsel n (i :: done) _ ρ' _ w (hR.set hlt) (hG.set hir) hd' (fun k hkA hkl hkd => hS k hkA hkl ?_) hs' hk
            simp only [memb, Bool.or_eq_false_iff] at hkd; exact hkd.2
        rcases guardI_sound h hs with ⟨hw, ρ', hs', h⟩ | ⟨hw, ρ', hs', h⟩
        · obtain ⟨v, v', hle, hK, hr⟩ := stI_sound h hs'
          have hld : isLd all i = (match o.op with | .load _ _ => true | _ => false) := by simp only [isLd, ho]; cases o.op <;> rfl
          exact fin v' _ (.inl ⟨hw, fun w' hSc => by rw [hld] at hSc; exact hr w' hSc⟩) (hs'.put o.dst hle) hK
        · exact fin undef _ (.inr ⟨hw, rfl⟩) (hs'.put o.dst (Le.refl _)) h
end
end Go.Hb
