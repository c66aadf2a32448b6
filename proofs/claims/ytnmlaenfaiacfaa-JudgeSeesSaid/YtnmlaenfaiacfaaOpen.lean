/- WHAT AN ARGUMENT's READING SAYS OF ITS CELLS. No program. -/
import Derived.Test.YtnmlaenfaiacfaaLaw
import Derived.ProofKit
import Derived.SizedLaws
import Derived.ChangeArms
import Derived.ChangeMaps5
set_option linter.unusedVariables false
set_option linter.unusedSimpArgs false
set_option linter.unnecessarySimpa false
set_option linter.unusedSectionVars false
namespace Go.Hb
open Go.ChangeShapes Go.WideShapes Go.RowKit

def okV : CK → Value → Prop
  | .int k, v => ∃ n, v = .int k n ∧ (Lit.int k n).wf = true
  | .bool, v => ∃ b, v = .bool b
  | .str, v => ∃ s, v = .string s ∧ s.size ≤ reachBytes
  | _, _ => False
def okRow : List CK → List Value → Prop
  | [], [] => True
  | k :: ks, v :: vs => okV k v ∧ okRow ks vs
  | _, _ => False
theorem okRow_len : ∀ {ks : List CK} {vs : List Value}, okRow ks vs → vs.length = ks.length
  | [], [], _ => rfl
  | _ :: _, _ :: _, h => by simp [okRow_len h.2]
theorem okRow_append : ∀ {ks ls : List CK} {vs us : List Value}, okRow ks vs → okRow ls us → okRow (ks ++ ls) (vs ++ us)
  | [], _, [], _, _, h => h
  | _ :: _, _, _ :: _, _, h, h' => ⟨h.1, okRow_append h.2 h'⟩
theorem okRow_rep {ks : List CK} : ∀ {n : Nat} {rows : List (List Value)}, rows.length = n → (∀ r ∈ rows, okRow ks r) → okRow (repK ks n) rows.flatten
  | 0, [], _, _ => trivial
  | n + 1, r :: rows, h, hr => okRow_append (hr r (.head _)) (okRow_rep (by simpa using h) fun x hx => hr x (.tail _ hx))

def flatF (P : Program) (rec : TypeId → Option (List CK)) : Nat → List Field → Option (List CK)
  | _, [] => some []
  | o, f :: fs => if f.offset = o then match rec f.type with
    | some ks => if ks.length = P.cellsOf f.type then (flatF P rec (o + ks.length) fs).map (ks ++ ·) else none
    | none => none else none
def flatT (P : Program) : Nat → TypeId → Option (List CK)
  | 0, _ => none
  | d + 1, t => match P.underlying t with
    | some .bool => some [.bool]
    | some (.int k) => some [.int k]
    | some .string => some [.str]
    | some (.struct fs) => match flatF P (flatT P d) 0 fs.toList with
      | some ks => if ks.length = P.cellsOf t then some ks else none
      | none => none
    | some (.array n e) => match flatT P d e with
      | some ks => if ks.length = P.cellsOf e ∧ n * ks.length = P.cellsOf t then some (repK ks n) else none
      | none => none
    | _ => none

section
variable {H : Type} {enc : TypeId × Value → H} {P : Program} {W : World} {sp : Nat → Bool} {held : Bool} {base : Nat}
theorem mapM_all {α β : Type} {f : α → Option β} : ∀ {l : List α} {xs : List β}, l.mapM f = some xs → ∀ a ∈ l, ∃ y, f a = some y
  | [], _, _, _, h => by cases h
  | a :: l, xs, h, b, hb => by
    simp only [List.mapM_cons, Option.bind_eq_bind, Option.pure_def, Option.bind_eq_some_iff] at h
    obtain ⟨y, hy, ys, hys, _⟩ := h
    cases hb with
    | head => exact ⟨y, hy⟩
    | tail _ hb => exact mapM_all hys b hb
theorem mapM_get {α β : Type} {f : α → Option β} : ∀ {l : List α} {xs : List β} {i : Nat} {a : α}, l.mapM f = some xs → l[i]? = some a → ∃ y, xs[i]? = some y ∧ f a = some y
  | [], _, _, _, _, h => by simp at h
  | b :: l, xs, i, a, h, hi => by
    simp only [List.mapM_cons, Option.bind_eq_bind, Option.pure_def, Option.bind_eq_some_iff] at h
    obtain ⟨y, hy, ys, hys, hx⟩ := h
    cases hx
    cases i with
    | zero => simp only [List.getElem?_cons_zero, Option.some.injEq] at hi; subst hi; exact ⟨y, rfl, hy⟩
    | succ i => exact mapM_get (l := l) (i := i) hys (by simpa using hi)
/-- all that is weighed is within the reach -/
def Light (P : Program) (t : TypeId) (d : DataW H) : Prop := ∀ n ∈ d.weights P t, n ≤ reachBytes
theorem mem_weightsAll {e : TypeId} : ∀ {ds : List (DataW H)} {d : DataW H} {n : Nat}, d ∈ ds → n ∈ d.weights P e → n ∈ DataW.weightsAll P e ds
  | [], _, _, h, _ => by cases h
  | x :: ds, d, n, h, hn => by
    simp only [DataW.weightsAll, List.mem_append]
    cases h with
    | head => exact .inl hn
    | tail _ h => exact .inr (mem_weightsAll h hn)
theorem light_each {ts : List TypeId} {ds : List (DataW H)} (h : ∀ n ∈ DataW.weightsEach P ts ds, n ≤ reachBytes) {j : Nat} {t : TypeId} {d : DataW H} (ht : ts[j]? = some t) (hd : ds[j]? = some d) : Light P t d := fun n hn =>
  h n (DataW.weights_mem_each ht hd n hn)
theorem light_all {e : TypeId} {ds : List (DataW H)} (h : ∀ n ∈ DataW.weightsAll P e ds, n ≤ reachBytes) {d : DataW H} (hd : d ∈ ds) : Light P e d := fun n hn => h n (mem_weightsAll hd hn)
theorem flatF_ok {rec : TypeId → Option (List CK)} {cs : List Value} (hrec : ∀ t ks us, rec t = some ks → (∃ fuel x, DataW.trod enc P W base sp held fuel t us = some x ∧ Light P t x.1) → okRow ks us) :
    ∀ (fs : List Field) (o : Nat) (ks : List CK), flatF P rec o fs = some ks → (∀ f ∈ fs, ∃ fuel x, DataW.trod enc P W base sp held fuel f.type ((cs.drop f.offset).take (P.cellsOf f.type)) = some x ∧ Light P f.type x.1) →
      okRow ks ((cs.drop o).take ks.length)
  | [], o, ks, h, _ => by simp only [flatF, Option.some.injEq] at h; subst h; simp [okRow]
  | f :: fs, o, ks, h, hf => by
    simp only [flatF] at h
    split at h
    case isFalse => cases h
    rename_i ho
    split at h
    case h_2 => cases h
    rename_i l hl
    split at h
    case isFalse => cases h
    rename_i hn
    simp only [Option.map_eq_some_iff] at h
    obtain ⟨m, hm, rfl⟩ := h
    have h1 := hrec _ _ _ hl (hf f (.head _))
    have h2 := flatF_ok hrec fs _ _ hm fun g hg => hf g (.tail _ hg)
    rw [ho, ← hn] at h1
    have : (cs.drop o).take (l ++ m).length = (cs.drop o).take l.length ++ (cs.drop (o + l.length)).take m.length := by
      rw [List.length_append, List.take_add, List.drop_drop]
    rw [this]
    exact okRow_append h1 h2
theorem flatT_ok : ∀ (d : Nat) (t : TypeId) (ks : List CK) (us : List Value), flatT P d t = some ks → (∃ fuel x, DataW.trod enc P W base sp held fuel t us = some x ∧ Light P t x.1) → okRow ks us := by
  intro d
  induction d with
  | zero => intro t ks us h; cases h
  | succ d ih =>
    intro t ks us h ⟨fuel, x, hx, hlt⟩
    unfold flatT at h
    cases hu : P.underlying t with
    | none => rw [hu] at h; cases h
    | some td =>
    rw [hu] at h
    cases td <;> try (cases h; done)
    case bool =>
      cases h
      obtain ⟨b, rfl, _⟩ := DataW.trod_bool hu hx
      exact ⟨⟨b, rfl⟩, trivial⟩
    case int k =>
      cases h
      obtain ⟨n, rfl, _, hw⟩ := DataW.trod_int hu hx
      exact ⟨⟨n, rfl, hw⟩, trivial⟩
    case string =>
      cases h
      obtain ⟨s, rfl, rfl, hw⟩ := DataW.trod_string hu hx
      have := hlt s.data.toList.length (by simp [DataW.weights])
      exact ⟨⟨s, rfl, by simpa using this⟩, trivial⟩
    case struct fs =>
      simp only at h
      split at h
      case h_2 => cases h
      rename_i l hl
      split at h
      case isFalse => cases h
      rename_i hn
      cases h
      cases fuel with
      | zero => cases hx
      | succ fuel =>
      unfold DataW.trod at hx
      rw [hu] at hx
      simp only at hx
      split at hx
      case isFalse => cases hx
      rename_i hlen
      simp only [Option.map_eq_some_iff] at hx
      obtain ⟨xs, hxs, rfl⟩ := hx
      have hlt' : ∀ n ∈ DataW.weightsEach P (fs.toList.map (·.type)) (xs.map (·.1)), n ≤ reachBytes := fun n hn => hlt n (by simp only [DataW.weights, hu]; exact hn)
      have := flatF_ok (enc := enc) (W := W) (sp := sp) (held := held) (base := base) (cs := us) ih fs.toList 0 _ hl fun f hf => by
        obtain ⟨i, hi, hfi⟩ := List.mem_iff_getElem.1 hf
        obtain ⟨y, hy, hfy⟩ := mapM_get hxs (List.getElem?_eq_getElem hi)
        rw [hfi] at hfy
        exact ⟨fuel, y, hfy, light_each hlt' (j := i) (by rw [List.getElem?_map, List.getElem?_eq_getElem hi, hfi]; rfl) (by rw [List.getElem?_map, hy]; rfl)⟩
      rw [List.drop_zero, List.take_of_length_le (by omega)] at this
      exact this
    case array n e =>
      simp only at h
      split at h
      case h_2 => cases h
      rename_i l hl
      split at h
      case isFalse => cases h
      rename_i hn
      cases h
      cases fuel with
      | zero => cases hx
      | succ fuel =>
      unfold DataW.trod at hx
      rw [hu] at hx
      simp only at hx
      split at hx
      case isFalse => cases hx
      rename_i hlen
      simp only [Option.map_eq_some_iff] at hx
      obtain ⟨xs, hxs, rfl⟩ := hx
      have hlt' : ∀ n ∈ DataW.weightsAll P e (xs.map (·.1)), n ≤ reachBytes := fun n hn => hlt n (by simp only [DataW.weights, hu]; exact hn)
      have hrows : us = ((List.range n).map fun i => (us.drop (i * P.cellsOf e)).take (P.cellsOf e)).flatten := by
        have : ∀ (n : Nat) (us : List Value), us.length = n * P.cellsOf e → us = ((List.range n).map fun i => (us.drop (i * P.cellsOf e)).take (P.cellsOf e)).flatten := by
          intro n
          induction n with
          | zero => intro us h; simpa using h
          | succ n ih =>
            intro us h
            rw [List.range_succ_eq_map]
            simp only [List.map_cons, List.map_map, List.flatten_cons, Nat.zero_mul, List.drop_zero]
            conv => lhs; rw [← List.take_append_drop (P.cellsOf e) us]
            congr 1
            rw [ih (us.drop (P.cellsOf e)) (by simp [h, Nat.add_mul])]
            congr 1
            apply List.map_congr_left
            intro i _
            simp only [Function.comp, List.drop_drop, Nat.succ_mul]
            rw [Nat.add_comm]
        exact this n us (by rw [hlen, ← hn.2, hn.1])
      rw [hrows]
      refine okRow_rep (by simp) fun r hr => ?_
      simp only [List.mem_map] at hr
      obtain ⟨i, hi, rfl⟩ := hr
      obtain ⟨j, hj, hji⟩ := List.mem_iff_getElem.1 hi
      obtain ⟨y, hy, hfy⟩ := mapM_get hxs (List.getElem?_eq_getElem hj)
      rw [hji] at hfy
      exact ih _ _ _ hl ⟨fuel, y, hfy, light_all hlt' (List.mem_map.2 ⟨y, List.mem_of_getElem? hy, rfl⟩)⟩

/-- a slice argument -/
theorem open_slc {t e : TypeId} {v : Value} {d : DataW H} {ps : List MemPlace} {ks : List CK} {r : Reach} {b0 : Nat} (ht : P.underlying t = some (.slice e)) (hks : flatT P 9 e = some ks) (hsz : P.cellsOf e = ks.length) (_hpos : 0 < ks.length)
    (hval : Value.okWide P W r b0 t v) (hd : DataW.Trod enc P W base sp held t v d ps) (hlt : Light P t d) :
    ∃ (s : Sl) (rows : List (List Value)), v = .slice s.a s.n s.c ∧ s.n = rows.length ∧ s.n * P.bytesOf e ≤ reachBytes ∧ Reads W ks.length s rows.flatten ∧ ∀ x ∈ rows, okRow ks x := by
  obtain ⟨a, len, cap, rfl⟩ := okWide_slice ht hval
  obtain ⟨fuel, hf⟩ := hd
  rcases DataW.trod_slice ht hf with ⟨h, _⟩ | ⟨a', len', cap', elems, rest, n, rfl, h, hd', _, hlc, hcm, hel, hcell, _, _⟩
  · simp only [Value.cells, List.cons.injEq, Value.slice.injEq, and_true] at h
    obtain ⟨rfl, rfl, rfl⟩ := h
    exact ⟨⟨none, 0, 0⟩, [], rfl, rfl, by simp, ⟨by simp, .inl ⟨rfl, rfl⟩⟩, fun _ hx => by cases hx⟩
  · simp only [Value.cells, List.cons.injEq, Value.slice.injEq, and_true] at h
    obtain ⟨rfl, rfl, rfl⟩ := h
    simp only [Prod.mk.injEq] at hd'
    obtain ⟨rfl, rfl⟩ := hd'
    have hwt : (elems.length + rest.length) * P.bytesOf e ≤ reachBytes := by
      have := hlt ((elems.length + rest.length) * P.bytesOf e) (by simp [DataW.weights, ht])
      exact this
    have hle : ∀ y ∈ elems, Light P e y.1 := fun y hy => light_all (P := P) (e := e) (ds := elems.map (·.1)) (fun n hn => hlt n (by simp only [DataW.weights, ht, List.mem_cons, List.mem_append]; exact .inr (.inl hn))) (List.mem_map.2 ⟨y, hy, rfl⟩)
    have hspot : a'.spot = none := by
      simp only [Value.okWide, ht, Cell.okWide, Cell.ok] at hval
      exact hval.2.2.2.1
    obtain ⟨b, o, spot⟩ := a'
    simp only at hspot
    subst hspot
    have hrow : ∀ i, i < len → ∃ c, W.cells? base (Addr.add ⟨b, o, none⟩ (i * P.cellsOf e)) (P.cellsOf e) = some c ∧ okRow ks c := by
      intro i hi
      have h1 := hcell i hi
      rw [List.getElem?_eq_getElem (by omega)] at h1
      simp only [Option.bind_eq_some_iff] at h1
      obtain ⟨c, hc, hx⟩ := h1
      exact ⟨c, hc, flatT_ok 9 e ks c hks ⟨_, _, hx, hle _ (List.getElem_mem _)⟩⟩
    have hrow2 : ∀ i, ∃ c, i < len → W.cells? base (Addr.add ⟨b, o, none⟩ (i * P.cellsOf e)) (P.cellsOf e) = some c ∧ okRow ks c := by
      intro i
      by_cases hi : i < len
      · obtain ⟨c, hc⟩ := hrow i hi; exact ⟨c, fun _ => hc⟩
      · exact ⟨[], fun h => absurd h hi⟩
    let f : Nat → List Value := fun i => Classical.choose (hrow2 i)
    have hf : ∀ i, i < len → W.cells? base (Addr.add ⟨b, o, none⟩ (i * P.cellsOf e)) (P.cellsOf e) = some (f i) ∧ okRow ks (f i) := fun i hi => Classical.choose_spec (hrow2 i) hi
    have hadd : ∀ j, Addr.add ⟨b, o, none⟩ j = ⟨b, o + j, none⟩ := by
      intro j
      unfold Addr.add
      split
      · simp_all
      · rfl
    have hcells : ∀ (i n : Nat) (c : List Value), W.cells? base ⟨b, i, none⟩ n = some c → c.length = n ∧ ∀ j, j < n → W.cell? ⟨b, i + j, none⟩ = c[j]? := by
      intro i n c h
      unfold World.cells? at h
      have h : (List.range n).mapM (fun i_1 => W.cell? (Addr.add ⟨b, i, none⟩ i_1)) = some c := by
        by_cases hb : base ≤ b
        · rwa [if_pos hb] at h
        · rw [if_neg hb] at h; cases h
      have : ∀ (l : List Nat) (c : List Value), l.mapM (fun i_1 => W.cell? (Addr.add ⟨b, i, none⟩ i_1)) = some c → c.length = l.length ∧ ∀ j (hj : j < l.length), W.cell? (Addr.add ⟨b, i, none⟩ l[j]) = c[j]? := by
        intro l
        induction l with
        | nil => intro c h; simp only [List.mapM_nil, Option.pure_def, Option.some.injEq] at h; subst h; exact ⟨rfl, fun j hj => by simp at hj⟩
        | cons x l ih =>
          intro c h
          simp only [List.mapM_cons, Option.bind_eq_bind, Option.pure_def, Option.bind_eq_some_iff] at h
          obtain ⟨y, hy, ys, hys, hc⟩ := h
          cases hc
          obtain ⟨h1, h2⟩ := ih ys hys
          refine ⟨by simp [h1], fun j hj => ?_⟩
          cases j with
          | zero => simpa using hy
          | succ j => simpa using h2 j (by simpa using hj)
      obtain ⟨h1, h2⟩ := this _ _ h
      refine ⟨by simpa using h1, fun j hj => ?_⟩
      have := h2 j (by simpa using hj)
      simp only [List.getElem_range] at this
      rw [← this]
      unfold Addr.add
      split
      · simp_all
      · rfl
    refine ⟨⟨some ⟨b, o, none⟩, len, cap⟩, (List.range len).map f, rfl, by simp, by simp only; exact Nat.le_trans (Nat.mul_le_mul_right _ (by omega)) hwt, ⟨?_, .inr ⟨b, o, rfl, ?_⟩⟩, ?_⟩
    · simp only
      have : ∀ (l : List (List Value)), (∀ x ∈ l, x.length = ks.length) → l.flatten.length = l.length * ks.length := by
        intro l
        induction l with
        | nil => simp
        | cons x l ih => intro h; simp [ih fun y hy => h y (.tail _ hy), h x (.head _), Nat.add_mul, Nat.add_comm]
      rw [this]
      · simp
      · intro x hx
        simp only [List.mem_map, List.mem_range] at hx
        obtain ⟨i, hi, rfl⟩ := hx
        exact okRow_len (hf i hi).2
    · have : ∀ (n : Nat) (g : Nat → List Value) (p : Nat), (∀ i, i < n → (g i).length = ks.length ∧ ∀ j, j < ks.length → W.cell? ⟨b, p + i * ks.length + j, none⟩ = (g i)[j]?) →
          ∀ j, j < ((List.range n).map g).flatten.length → W.cell? ⟨b, p + j, none⟩ = ((List.range n).map g).flatten[j]? := by
        intro n
        induction n with
        | zero => intro g p _ j hj; simp at hj
        | succ n ih =>
          intro g p h j hj
          have hr : (List.range (n + 1)).map g = g 0 :: (List.range n).map (g ∘ Nat.succ) := by
            rw [List.range_succ_eq_map]; simp
          rw [hr] at hj ⊢
          simp only [List.flatten_cons] at hj ⊢
          obtain ⟨h0, h0'⟩ := h 0 (by omega)
          by_cases hj0 : j < ks.length
          · rw [List.getElem?_append_left (by omega)]
            simpa using h0' j hj0
          · rw [List.getElem?_append_right (by omega)]
            have := ih (g ∘ Nat.succ) (p + ks.length) (fun i hi => by
              obtain ⟨a1, a2⟩ := h (i + 1) (by omega)
              refine ⟨a1, fun j hj => ?_⟩
              have := a2 j hj
              show _ = (g (i + 1))[j]?
              rw [← this]
              congr 2
              rw [Nat.add_mul]; omega) (j - ks.length) (by simp at hj ⊢; omega)
            rw [h0, ← this]
            congr 2
            omega
      refine this len f o fun i hi => ?_
      obtain ⟨h1, h2⟩ := hf i hi
      rw [hadd, hsz] at h1
      obtain ⟨h3, h4⟩ := hcells _ _ _ h1
      exact ⟨h3, h4⟩
    · intro x hx
      simp only [List.mem_map, List.mem_range] at hx
      obtain ⟨i, hi, rfl⟩ := hx
      exact (hf i hi).2

/-- an array argument -/
theorem open_arr {t e : TypeId} {n : Nat} {v : Value} {d : DataW H} {ps : List MemPlace} {ks : List CK} {r : Reach} {b0 : Nat} (ht : P.underlying t = some (.array n e)) (hks : flatT P 9 t = some ks)
    (hval : Value.okWide P W r b0 t v) (hd : DataW.Trod enc P W base sp held t v d ps) (hlt : Light P t d) : ∃ cs : List Value, v = .agg cs.toArray ∧ okRow ks cs := by
  simp only [Value.okWide, ht] at hval
  obtain ⟨cs, rfl, _⟩ := hval
  obtain ⟨fuel, hf⟩ := hd
  exact ⟨cs.toList, by simp, flatT_ok 9 t ks _ hks ⟨fuel, _, hf, hlt⟩⟩
theorem row_ints {k : IntKind} : ∀ {n : Nat} {cs : List Value}, okRow (repK [.int k] n) cs → ∃ l : List Int, cs = l.map (.int k) ∧ l.length = n ∧ ∀ n ∈ l, (Lit.int k n).wf = true
  | 0, [], _ => ⟨[], rfl, rfl, fun _ h => by cases h⟩
  | n + 1, v :: cs, h => by
    obtain ⟨⟨m, hv, hw⟩, h2⟩ := (show okV (.int k) v ∧ okRow (repK [.int k] n) cs from h)
    obtain ⟨l, h1, h3, h4⟩ := row_ints h2
    subst hv
    exact ⟨m :: l, by simp [h1], by simp [h3], fun x hx => by
      cases hx with
      | head => exact hw
      | tail _ hx => exact h4 x hx⟩

/-- rows of one integer -/
theorem rows_ints {k : IntKind} : ∀ {rows : List (List Value)}, (∀ x ∈ rows, okRow [.int k] x) → ∃ l : List Int, rows.flatten = l.map (.int k) ∧ l.length = rows.length ∧ ∀ n ∈ l, (Lit.int k n).wf = true
  | [], _ => ⟨[], rfl, rfl, fun _ h => by cases h⟩
  | x :: rows, h => by
    obtain ⟨l, h1, h2, h3⟩ := rows_ints (rows := rows) fun y hy => h y (.tail _ hy)
    have hx := h x (.head _)
    match x, hx with
    | [v], ⟨⟨n, hv, hw⟩, _⟩ =>
      subst hv
      exact ⟨n :: l, by simp [h1], by simp [h2], fun m hm => by
        cases hm with
        | head => exact hw
        | tail _ hm => exact h3 m hm⟩
end

/-- THE STEP OF A LAW's ROW -/
theorem law_lifted {H : Type} {enc : TypeId × Value → H} {C : Checked} {os : Os} {f : FuncId} {fn : Func} {s : ChangeSpec} {conds : List PathCond} {bt : TypeId}
    (own : ownKnob C.prog.godebug = none) (started : os.Started) (noInit : C.prog.inits.idxOf? f = none) (hfn : C.prog.funcs[f]? = some fn)
    (witness : ∃ (w : World) (tape : Tape) (i : Input), w.os = os ∧ (w.forCall tape i).Shaped C.prog ∧ i.vars = [] ∧ Input.okWide C.prog (w.forCall tape i) .any w.heap.size f i ∧
      s.pre6 enc C.prog fn conds false (w.forCall tape i).memory i.args ∧ ({} : Assume).holds C.prog (lone (Frame.enter C.prog f i.args .normal) [] (w.forCall tape i)))
    (hv : s.vars = []) (hrt : fn.resultTypes = #[bt]) (hb : C.prog.underlying bt = some .bool) (hpl : (fn.params.toList.all fun t => plainT C.prog 9 t) = true)
    (contract : ∀ (W : World) (base : Nat) (args : Array Value) (ds : List (DataW H)) (p : List MemPlace),
      (∀ (j : Nat) t v, fn.params[j]? = some t → args[j]? = some v → Value.okWide C.prog W .any base t v) →
      DataW.TrodAll enc C.prog W 0 (fun _ => true) true fn.params.toList args.toList ds p →
      (∀ n ∈ DataW.weightsEach C.prog fn.params.toList ds, n ≤ reachBytes) →
      ((s.fn H ds).results = [.lit (.bool true)] ∧ (s.fn H ds).args = ds ∧ (s.fn H ds).vars = []) ∧
      Calls C.prog f args W fun e W' => e = .returned (.bool true) ∧ KeptH W W') :
    ReturnsInHanded {} C os f .any (s.pre6 enc C.prog fn conds false) (s.post enc C.prog fn false true false false) := by
  refine returnsInHanded_of_change_sized own started noInit hfn witness ?_
  intro W base args ds gs before hval hW _ hwt _
  have hW' := hW
  obtain ⟨p, q, hA, hV, rfl, _, _⟩ := hW
  have hgs : gs = [] := by
    rw [hv] at hV
    cases gs with
    | nil => rfl
    | cons _ _ => exact hV.elim
  subst hgs
  have hvt : s.plain.varTypes C.prog = [] := by
    unfold DataSpec.varTypes; rw [show s.plain.vars = s.vars from rfl, hv]; rfl
  obtain ⟨h1, h2⟩ := contract W base args ds p hval hA (by
    intro n hn
    rw [hvt, List.append_nil, List.append_nil] at hwt
    simpa using List.all_eq_true.1 hwt n hn)
  refine h2.mono fun e W' ⟨he, hk⟩ => ⟨_, he, ?_⟩
  exact law_post hv hrt hb hpl hW' (by simpa using h1) hk
end Go.Hb
