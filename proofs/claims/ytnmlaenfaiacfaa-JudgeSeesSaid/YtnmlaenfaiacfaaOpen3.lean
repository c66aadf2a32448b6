/- AN ARGUMENT's ROWS OF STRUCTS THAT HOLD A SLICE OF TEXTS. No program. -/
import Derived.Test.YtnmlaenfaiacfaaOpen2
import Derived.Test.YtnmlaenfaiacfaaLaw2
set_option linter.unusedVariables false
set_option linter.unusedSimpArgs false
set_option linter.unnecessarySimpa false
set_option linter.unusedSectionVars false
namespace Go.Hb
open Go.ChangeShapes Go.WideShapes Go.RowKit
/-- a slice that may have an odd address where it holds nothing -/
def ReadsR0 (W : World) (s : Sl) {α : Type} (E : Rec α) (rows : List α) : Prop := s.n = rows.length ∧ (rows = [] ∨ ReadsR W s E rows)
/-- what an operation answered: its slice, and what that reads as -/
structure Ans where
  err : Int
  hit : Bool
  val : ByteArray
  sl : Sl
  gone : List ByteArray
instance : Inhabited Ans := ⟨⟨0, false, ⟨#[]⟩, ⟨none, 0, 0⟩, []⟩⟩
def ansR : Rec Ans := ⟨4, fun a => [.int .i64 a.err, .bool a.hit, .string a.val, .slice a.sl.a a.sl.n a.sl.c], fun _ => rfl⟩
instance : PosR ansR := ⟨by decide⟩
instance : OkR ansR := ⟨fun _ => rfl⟩
structure AnsOk (W : World) (a : Ans) : Prop where
  err : okK .i64 a.err
  val : okStr a.val
  rd : ReadsR0 W a.sl Rec.str a.gone
  gone : ∀ g ∈ a.gone, okStr g
def stF (P : Program) (t : TypeId) : List (TypeId × Nat) := match P.underlying t with
  | some (.struct fs) => fs.toList.map fun f => (f.type, f.offset)
  | _ => []
section
variable {H : Type} {enc : TypeId × Value → H} {P : Program} {W : World} {sp : Nat → Bool} {held : Bool} {base : Nat}
theorem cells_spot {a : Addr} {n : Nat} {c : List Value} (h : W.cells? base a n = some c) (hn : 0 < n) : a.spot = none := by
  unfold World.cells? at h
  have h : (List.range n).mapM (fun i => W.cell? (Addr.add a i)) = some c := by
    by_cases hb : base ≤ a.block
    · rwa [if_pos hb] at h
    · rw [if_neg hb] at h; cases h
  obtain ⟨y, hy⟩ := mapM_all h 0 (by simp [hn])
  have ha : Addr.add a 0 = a := by simp [Addr.add]
  rw [ha] at hy
  unfold World.cell? at hy
  split at hy
  · split at hy
    · cases hy
    · rename_i hs; cases hsp : a.spot <;> simp_all
  · cases hy
theorem addr_add0 {b o j : Nat} : Addr.add ⟨b, o, none⟩ j = ⟨b, o + j, none⟩ := by
  unfold Addr.add
  split
  · simp_all
  · rfl
theorem cells_get {b i n : Nat} {c : List Value} (h : W.cells? base ⟨b, i, none⟩ n = some c) : c.length = n ∧ ∀ j, j < n → W.cell? ⟨b, i + j, none⟩ = c[j]? := by
  unfold World.cells? at h
  have h : (List.range n).mapM (fun i_1 => W.cell? (Addr.add ⟨b, i, none⟩ i_1)) = some c := by
    by_cases hb : base ≤ b
    · rwa [if_pos hb] at h
    · rw [if_neg hb] at h; cases h
  have : ∀ (l : List Nat) (c : List Value), l.mapM (fun i_1 => W.cell? (Addr.add ⟨b, i, none⟩ i_1)) = some c → c.length = l.length ∧ ∀ j (hj : j < l.length), W.cell? (Addr.add ⟨b, i, none⟩ l[j]) = c[j]? := by
    intro l
    induction l with
    | nil => intro c h; simp only [List.mapM_nil, Option.pure_def, Option.some.injEq] at h; subst h; exact ⟨rfl, fun j hj => by simp at hj⟩
    | cons x l ih =>
      intro c h
      simp only [List.mapM_cons, Option.bind_eq_bind, Option.pure_def, Option.bind_eq_some_iff] at h
      obtain ⟨y, hy, ys, hys, hc⟩ := h
      cases hc
      obtain ⟨h1, h2⟩ := ih ys hys
      refine ⟨by simp [h1], fun j hj => ?_⟩
      cases j with
      | zero => simpa using hy
      | succ j => simpa using h2 j (by simpa using hj)
  obtain ⟨h1, h2⟩ := this _ _ h
  refine ⟨by simpa using h1, fun j hj => ?_⟩
  have := h2 j (by simpa using hj)
  simp only [List.getElem_range] at this
  rw [← this, addr_add0]
/-- the rows of a slice's cells -/
theorem slc_rows {Q : List Value → Prop} {a : Addr} {m len cap : Nat} (hpos : 0 < m) (hrow : ∀ i, i < len → ∃ c, W.cells? base (a.add (i * m)) m = some c ∧ Q c) :
    ∃ rows : List (List Value), rows.length = len ∧ (∀ x ∈ rows, Q x) ∧ (len = 0 ∨ Reads W m ⟨some a, len, cap⟩ rows.flatten) := by
  by_cases h0 : len = 0
  · exact ⟨[], h0.symm, fun _ h => (by cases h), .inl h0⟩
  obtain ⟨c0, hc0, _⟩ := hrow 0 (by omega)
  have ha : Addr.add a (0 * m) = a := by simp [Addr.add]
  rw [ha] at hc0
  have hspot := cells_spot hc0 hpos
  obtain ⟨b, o, spot⟩ := a
  simp only at hspot
  subst hspot
  have hrow2 : ∀ i, ∃ c, i < len → W.cells? base (Addr.add ⟨b, o, none⟩ (i * m)) m = some c ∧ Q c := by
    intro i
    by_cases hi : i < len
    · obtain ⟨c, hc⟩ := hrow i hi; exact ⟨c, fun _ => hc⟩
    · exact ⟨[], fun h => absurd h hi⟩
  let f : Nat → List Value := fun i => Classical.choose (hrow2 i)
  have hf : ∀ i, i < len → W.cells? base (Addr.add ⟨b, o, none⟩ (i * m)) m = some (f i) ∧ Q (f i) := fun i hi => Classical.choose_spec (hrow2 i) hi
  refine ⟨(List.range len).map f, by simp, ?_, .inr ⟨?_, .inr ⟨b, o, rfl, ?_⟩⟩⟩
  · intro x hx
    simp only [List.mem_map, List.mem_range] at hx
    obtain ⟨i, hi, rfl⟩ := hx
    exact (hf i hi).2
  · simp only
    have : ∀ (l : List (List Value)), (∀ x ∈ l, x.length = m) → l.flatten.length = l.length * m := by
      intro l
      induction l with
      | nil => simp
      | cons x l ih => intro h; simp [ih fun y hy => h y (.tail _ hy), h x (.head _), Nat.add_mul, Nat.add_comm]
    rw [this]
    · simp
    · intro x hx
      simp only [List.mem_map, List.mem_range] at hx
      obtain ⟨i, hi, rfl⟩ := hx
      have h1 := (hf i hi).1
      rw [addr_add0] at h1
      exact (cells_get h1).1
  · have : ∀ (n : Nat) (g : Nat → List Value) (p : Nat), (∀ i, i < n → (g i).length = m ∧ ∀ j, j < m → W.cell? ⟨b, p + i * m + j, none⟩ = (g i)[j]?) →
        ∀ j, j < ((List.range n).map g).flatten.length → W.cell? ⟨b, p + j, none⟩ = ((List.range n).map g).flatten[j]? := by
      intro n
      induction n with
      | zero => intro g p _ j hj; simp at hj
      | succ n ih =>
        intro g p h j hj
        have hr : (List.range (n + 1)).map g = g 0 :: (List.range n).map (g ∘ Nat.succ) := by
          rw [List.range_succ_eq_map]; simp
        rw [hr] at hj ⊢
        simp only [List.flatten_cons] at hj ⊢
        obtain ⟨h0, h0'⟩ := h 0 (by omega)
        by_cases hj0 : j < m
        · rw [List.getElem?_append_left (by omega)]
          simpa using h0' j hj0
        · rw [List.getElem?_append_right (by omega)]
          have := ih (g ∘ Nat.succ) (p + m) (fun i hi => by
            obtain ⟨a1, a2⟩ := h (i + 1) (by omega)
            refine ⟨a1, fun j hj => ?_⟩
            have := a2 j hj
            show _ = (g (i + 1))[j]?
            rw [← this]
            congr 2
            rw [Nat.add_mul]; omega) (j - m) (by simp at hj ⊢; omega)
          rw [h0, ← this]
          congr 2
          omega
    refine this len f o fun i hi => ?_
    obtain ⟨h1, h2⟩ := hf i hi
    rw [addr_add0] at h1
    exact cells_get h1
theorem trod_st {t : TypeId} {us : List Value} {x : DataW H × List MemPlace} {fuel : Nat} {fs : Array Field} (hu : P.underlying t = some (.struct fs)) (hx : DataW.trod enc P W base sp held fuel t us = some x) (hlt : Light P t x.1) :
    us.length = P.cellsOf t ∧ ∀ p ∈ stF P t, ∃ fuel y, DataW.trod enc P W base sp held fuel p.1 ((us.drop p.2).take (P.cellsOf p.1)) = some y ∧ Light P p.1 y.1 := by
  cases fuel with
  | zero => cases hx
  | succ fuel =>
  unfold DataW.trod at hx
  rw [hu] at hx
  simp only at hx
  split at hx
  case isFalse => cases hx
  rename_i hlen
  simp only [Option.map_eq_some_iff] at hx
  obtain ⟨xs, hxs, rfl⟩ := hx
  have hlt' : ∀ n ∈ DataW.weightsEach P (fs.toList.map (·.type)) (xs.map (·.1)), n ≤ reachBytes := fun n hn => hlt n (by simp only [DataW.weights, hu]; exact hn)
  refine ⟨hlen, fun p hp => ?_⟩
  simp only [stF, hu, List.mem_map] at hp
  obtain ⟨f, hf, rfl⟩ := hp
  obtain ⟨i, hi, hfi⟩ := List.mem_iff_getElem.1 hf
  obtain ⟨y, hy, hfy⟩ := mapM_get hxs (List.getElem?_eq_getElem hi)
  rw [hfi] at hfy
  exact ⟨fuel, y, hfy, light_each hlt' (j := i) (by rw [List.getElem?_map, List.getElem?_eq_getElem hi, hfi]; rfl) (by rw [List.getElem?_map, hy]; rfl)⟩
theorem trod_sst {t e : TypeId} {cs : List Value} {x : DataW H × List MemPlace} {fuel : Nat} (ht : P.underlying t = some (.slice e)) (he : P.underlying e = some .string) (h1 : P.cellsOf e = 1) (hx : DataW.trod enc P W base sp held fuel t cs = some x) (hlt : Light P t x.1) :
    ∃ (s : Sl) (l : List ByteArray), cs = [.slice s.a s.n s.c] ∧ ReadsR0 W s Rec.str l ∧ (∀ g ∈ l, okStr g) := by
  rcases DataW.trod_slice ht hx with ⟨h, _⟩ | ⟨a', len', cap', elems, rest, n, rfl, h, hd', _, hlc, hcm, hel, hcell, _, _⟩
  · exact ⟨⟨none, 0, 0⟩, [], h, ⟨rfl, .inl rfl⟩, fun _ hx => by cases hx⟩
  · subst hd'
    have hle : ∀ y ∈ elems, Light P e y.1 := fun y hy => light_all (P := P) (e := e) (ds := elems.map (·.1)) (fun n hn => hlt n (by simp only [DataW.weights, ht, List.mem_cons, List.mem_append]; exact .inr (.inl hn))) (List.mem_map.2 ⟨y, hy, rfl⟩)
    obtain ⟨rows, hr1, hr2, hr3⟩ := slc_rows (W := W) (base := base) (Q := okRow [.str]) (a := a') (m := 1) (len := len') (cap := cap') Nat.one_pos fun i hi => by
      have h2 := hcell i hi
      rw [List.getElem?_eq_getElem (by omega)] at h2
      simp only [Option.bind_eq_some_iff] at h2
      obtain ⟨c, hc, hx⟩ := h2
      rw [h1] at hc
      exact ⟨c, hc, flatT_ok 9 e _ c (by unfold flatT; rw [he]) ⟨_, _, hx, hle _ (List.getElem_mem _)⟩⟩
    obtain ⟨l, h3, h4, h5⟩ := rows_rec Rec.str okStr of_str hr2
    refine ⟨⟨some a', len', cap'⟩, l, h, ⟨?_, ?_⟩, h5⟩
    · show len' = l.length; omega
    · rcases hr3 with h6 | h6
      · left; exact List.length_eq_zero_iff.1 (by omega)
      · right; exact ReadsR.of Nat.one_pos (by rw [← h3]; exact h6)
/-- an argument: a slice of answers -/
theorem open_ans {t e t0 t1 t2 t3 t4 : TypeId} {v : Value} {d : DataW H} {ps : List MemPlace} {r : Reach} {b0 : Nat} (ht : P.underlying t = some (.slice e)) (he : isStT P e = true) (hfs : stF P e = [(t0, 0), (t1, 1), (t2, 2), (t3, 3)])
    (h0 : P.underlying t0 = some (.int .i64)) (h1 : P.underlying t1 = some .bool) (h2 : P.underlying t2 = some .string) (h3 : P.underlying t3 = some (.slice t4)) (h4 : P.underlying t4 = some .string) (hc4 : P.cellsOf t4 = 1)
    (hc : P.cellsOf e = 4) (hcs : P.cellsOf t0 = 1 ∧ P.cellsOf t1 = 1 ∧ P.cellsOf t2 = 1 ∧ P.cellsOf t3 = 1)
    (hval : Value.okWide P W r b0 t v) (hd : DataW.Trod enc P W base sp held t v d ps) (hlt : Light P t d) :
    ∃ (s : Sl) (l : List Ans), v = .slice s.a s.n s.c ∧ ReadsR W s ansR l ∧ (∀ a ∈ l, AnsOk W a) ∧ l.length * P.bytesOf e ≤ reachBytes ∧ s.n ≤ s.c := by
  obtain ⟨a, len, cap, rfl⟩ := okWide_slice ht hval
  have hcap := slc_cap ht hd
  obtain ⟨fuel, hf⟩ := hd
  obtain ⟨fs, hu⟩ : ∃ fs, P.underlying e = some (.struct fs) := by
    unfold isStT at he
    split at he
    · exact ⟨_, by assumption⟩
    · cases he
  rcases DataW.trod_slice ht hf with ⟨h, _⟩ | ⟨a', len', cap', elems, rest, n, rfl, h, hd', _, hlc, hcm, hel, hcell, _, _⟩
  · simp only [Value.cells, List.cons.injEq, Value.slice.injEq, and_true] at h
    obtain ⟨rfl, rfl, rfl⟩ := h
    exact ⟨⟨none, 0, 0⟩, [], rfl, ⟨rfl, .inl ⟨rfl, rfl⟩⟩, fun _ hx => (by cases hx), by simp, Nat.le_refl _⟩
  · simp only [Value.cells, List.cons.injEq, Value.slice.injEq, and_true] at h
    obtain ⟨rfl, rfl, rfl⟩ := h
    simp only [Prod.mk.injEq] at hd'
    obtain ⟨rfl, rfl⟩ := hd'
    have hwt : (elems.length + rest.length) * P.bytesOf e ≤ reachBytes := by
      have := hlt ((elems.length + rest.length) * P.bytesOf e) (by simp [DataW.weights, ht])
      exact this
    have hle : ∀ y ∈ elems, Light P e y.1 := fun y hy => light_all (P := P) (e := e) (ds := elems.map (·.1)) (fun n hn => hlt n (by simp only [DataW.weights, ht, List.mem_cons, List.mem_append]; exact .inr (.inl hn))) (List.mem_map.2 ⟨y, hy, rfl⟩)
    obtain ⟨rows, hr1, hr2, hr3⟩ := slc_rows (W := W) (base := base) (Q := fun us => ∃ a : Ans, us = ansR.cells a ∧ AnsOk W a) (a := a') (m := 4) (len := len) (cap := cap) (by omega) fun i hi => by
      have h2' := hcell i hi
      rw [List.getElem?_eq_getElem (by omega)] at h2'
      simp only [Option.bind_eq_some_iff] at h2'
      obtain ⟨c, hcc, hx⟩ := h2'
      rw [hc] at hcc
      refine ⟨c, hcc, ?_⟩
      obtain ⟨hl, hp⟩ := trod_st hu hx (hle _ (List.getElem_mem _))
      rw [hc] at hl
      rw [hfs] at hp
      match c, hl with
      | [v0, v1, v2, v3], _ =>
        obtain ⟨f0, x0, e0, g0⟩ := hp (t0, 0) (by simp)
        obtain ⟨f1, x1, e1, g1⟩ := hp (t1, 1) (by simp)
        obtain ⟨f2, x2, e2, g2⟩ := hp (t2, 2) (by simp)
        obtain ⟨f3, x3, e3, g3⟩ := hp (t3, 3) (by simp)
        simp only [hcs.1, hcs.2.1, hcs.2.2.1, hcs.2.2.2, List.drop_zero, List.drop_succ_cons, List.take_succ_cons, List.take_zero] at e0 e1 e2 e3
        obtain ⟨n0, k0, _, w0⟩ := DataW.trod_int h0 e0
        obtain ⟨n1, k1, _⟩ := DataW.trod_bool h1 e1
        have k2 := flatT_ok 9 t2 [.str] _ (by unfold flatT; rw [h2]) ⟨f2, x2, e2, g2⟩
        obtain ⟨⟨n2, k2, w2⟩, _⟩ := (show okV .str v2 ∧ okRow [] [] from k2)
        obtain ⟨s3, l3, k3, r3, o3⟩ := trod_sst h3 h4 hc4 e3 g3
        simp only [List.cons.injEq, and_true] at k0 k1 k3
        subst k0 k1 k2 k3
        exact ⟨⟨n0, n1, n2, s3, l3⟩, rfl, w0, w2, r3, o3⟩
    have hl : ∃ l : List Ans, rows.flatten = ansR.flat l ∧ l.length = rows.length ∧ ∀ a ∈ l, AnsOk W a := by
      clear hr1 hr3
      induction rows with
      | nil => exact ⟨[], rfl, rfl, fun _ h => (by cases h)⟩
      | cons x rows ih =>
        obtain ⟨l, h1, h2, h3⟩ := ih fun y hy => hr2 y (.tail _ hy)
        obtain ⟨a, rfl, ha⟩ := hr2 x (.head _)
        refine ⟨a :: l, ?_, by simp [h2], fun b hb => ?_⟩
        · rw [List.flatten_cons, h1]; rfl
        · cases hb with
          | head => exact ha
          | tail _ hb => exact h3 b hb
    obtain ⟨l, h3, h4, h5⟩ := hl
    refine ⟨⟨some a', len, cap⟩, l, rfl, ?_, h5, ?_, hcap⟩
    · rcases hr3 with h6 | h6
      · have : l = [] := List.length_eq_zero_iff.1 (by omega)
        subst this
        have hspot : a'.spot = none := by
          simp only [Value.okWide, ht, Cell.okWide, Cell.ok] at hval
          exact hval.2.2.2.1
        obtain ⟨b, o, spot⟩ := a'
        simp only at hspot
        subst hspot
        exact ⟨h6, .inr ⟨b, o, rfl, fun i j a ha => by simp at ha⟩⟩
      · exact ReadsR.of (by decide) (by rw [← h3]; exact h6)
    · have : l.length ≤ elems.length + rest.length := by omega
      exact Nat.le_trans (Nat.mul_le_mul_right _ this) hwt
end
end Go.Hb
