/- FROM A CONTRACT TO A LAW's ROW: what was there stands as it stood. No program. -/
import Derived.Test.YtnmlaenfaiacfaaSL2
import Derived.ProofKit
import Derived.OpenShut
import Derived.JoinedOf
import Derived.ChangeSame
set_option linter.unusedVariables false
set_option linter.unusedSimpArgs false
set_option linter.unnecessarySimpa false
set_option linter.unusedSectionVars false
namespace Go.Hb
open Go.ChangeShapes Go.WideShapes

structure KeptH (W W' : World) : Prop where
  os : W'.os = W.os
  out : W'.output = W.output
  heap : ∀ (b : Nat) (o : Obj), W.heap[b]? = some o → W'.heap[b]? = some o
theorem Sat.kept {W w : World} {q : Nat} {L : List HP} (h : Sat W w L) (hq : L[q]? = some (old W)) : KeptH W w := by
  obtain ⟨g, hg, ho⟩ := h.get hq
  exact ⟨h.os, h.out, fun b o hb => hg _ _ (ho _ _ hb)⟩
theorem Sat.begin (W : World) : Sat W W [old W] :=
  ⟨rfl, rfl, heapOf W, fun _ => none, subH.refl _, (fun _ _ hx => by cases hx), fun _ => .inr rfl, subH.refl _, trivial⟩

section
variable {H : Type} {enc : TypeId × Value → H} {P : Program} {W W' : World}
theorem KeptH.cell (hk : KeptH W W') {a : Addr} {v : Value} (h : W.cell? a = some v) : W'.cell? a = some v := by
  unfold World.cell? at h ⊢
  cases hb : W.heap[a.block]? with
  | none => rw [hb] at h; cases h
  | some o => rw [hk.heap _ _ hb]; rw [hb] at h; exact h
theorem mapM_kept {α β : Type} {f g : α → Option β} : ∀ {l : List α} {xs : List β}, l.mapM f = some xs → (∀ i ∈ l, ∀ y ∈ xs, f i = some y → g i = some y) → l.mapM g = some xs
  | [], xs, h, _ => by simpa using h
  | a :: l, xs, h, hg => by
    simp only [List.mapM_cons, Option.bind_eq_bind, Option.pure_def, Option.bind_eq_some_iff] at h
    obtain ⟨y, hy, ys, hys, hx⟩ := h
    cases hx
    simp only [List.mapM_cons, Option.bind_eq_bind, Option.pure_def, Option.bind_eq_some_iff]
    exact ⟨y, hg a (.head _) y (.head _) hy, ys, mapM_kept hys (fun i hi z hz => hg i (.tail _ hi) z (.tail _ hz)), rfl⟩
theorem cells_kept (hk : KeptH W W') {base : Nat} {a : Addr} {n : Nat} {cs : List Value} (h : W.cells? base a n = some cs) : W'.cells? base a n = some cs := by
  unfold World.cells? at h ⊢
  split at h
  · rename_i hb
    rw [if_pos hb]
    exact mapM_kept h fun i _ y _ hy => hk.cell hy
  · cases h

def plainT (P : Program) : Nat → TypeId → Bool
  | 0, _ => false
  | d + 1, t => match P.underlying t with
    | some .bool | some (.int _) | some .string => true
    | some (.struct fs) => fs.toList.all fun f => plainT P d f.type
    | some (.array _ e) => plainT P d e
    | some (.slice e) => !Nat.beq (P.cellsOf e) 0 && plainT P d e
    | _ => false

theorem mem_row {a : Addr} {n : Nat} (hn : 0 < n) : ∃ p ∈ MemPlace.row a n, p.block = a.block := by
  refine ⟨MemPlace.cell a.block a.off, ?_, rfl⟩
  unfold MemPlace.row
  simp only [List.mem_map, List.mem_range]
  exact ⟨0, hn, by simp [MemPlace.cell]⟩

theorem trod_kept (hk : KeptH W W') {sp : Nat → Bool} : ∀ (d fuel : Nat) (t : TypeId) (cs : List Value) (x : DataW H × List MemPlace), plainT P d t = true →
    DataW.trod enc P W 0 (fun _ => true) true fuel t cs = some x → (∀ p ∈ x.2, sp p.block = true) → DataW.trod enc P W' 0 sp true fuel t cs = some x := by
  intro d
  induction d with
  | zero => intro fuel t cs x h; cases h
  | succ d ih =>
    intro fuel t cs x hp h hs
    cases fuel with
    | zero => cases h
    | succ fuel =>
      unfold plainT at hp
      cases hu : P.underlying t with
      | none => rw [hu] at hp; cases hp
      | some td =>
      rw [hu] at hp
      unfold DataW.trod at h ⊢
      rw [hu] at h ⊢
      cases td <;> try (cases hp; done)
      case bool => rcases cs with _ | ⟨v, _ | _⟩ <;> first | exact h | (cases v <;> exact h)
      case int k => rcases cs with _ | ⟨v, _ | _⟩ <;> first | exact h | (cases v <;> exact h)
      case string => rcases cs with _ | ⟨v, _ | _⟩ <;> first | exact h | (cases v <;> exact h)
      case struct fs =>
        simp only at h ⊢
        split at h
        · rename_i hl
          rw [if_pos hl]
          simp only [Option.map_eq_some_iff] at h ⊢
          obtain ⟨xs, hxs, rfl⟩ := h
          refine ⟨xs, mapM_kept hxs fun f hf y hy hfy => ?_, rfl⟩
          exact ih fuel _ _ y (List.all_eq_true.1 hp f hf) hfy fun p hp' => hs p (List.mem_flatMap.2 ⟨y, hy, hp'⟩)
        · cases h
      case array n e =>
        simp only at h ⊢
        split at h
        · rename_i hl
          rw [if_pos hl]
          simp only [Option.map_eq_some_iff] at h ⊢
          obtain ⟨xs, hxs, rfl⟩ := h
          refine ⟨xs, mapM_kept hxs fun f hf y hy hfy => ?_, rfl⟩
          exact ih fuel _ _ y hp hfy fun p hp' => hs p (List.mem_flatMap.2 ⟨y, hy, hp'⟩)
        · cases h
      case slice e =>
        simp only [Bool.and_eq_true, Bool.not_eq_eq_eq_not, Bool.not_true] at hp
        obtain ⟨hne, hpe⟩ := hp
        have hne' : P.cellsOf e ≠ 0 := fun h0 => by rw [h0] at hne; cases hne
        cases cs with
        | nil => exact h
        | cons v cs =>
        cases cs with
        | cons _ _ => cases v <;> first | exact h | (rename_i sa len cap; cases sa <;> first | exact h | cases h | (cases len <;> cases cap <;> first | exact h | cases h))
        | nil =>
        cases v <;> first | exact h | skip
        rename_i sa len cap
        cases sa with
        | none => first | exact h | (cases len <;> cases cap <;> first | exact h | cases h)
        | some a =>
        simp only at h ⊢
        split at h
        case isFalse => cases h
        rename_i hb
        rw [if_pos hb]
        simp only [if_true, Option.bind_eq_some_iff, Option.map_eq_some_iff] at h ⊢
        obtain ⟨elems, hel, rest, hre, rfl⟩ := h
        have one : ∀ (zs : List (DataW H × List MemPlace)) (i : Nat) (y : DataW H × List MemPlace), y ∈ zs → (∀ z ∈ zs, ∀ p ∈ z.2, sp p.block = true) →
            (W.cells? 0 (a.add (i * P.cellsOf e)) (P.cellsOf e)).bind (DataW.trod enc P W 0 (fun _ => true) true fuel e) = some y →
            (W'.cells? 0 (a.add (i * P.cellsOf e)) (P.cellsOf e)).bind (DataW.trod enc P W' 0 sp true fuel e) = some y := by
          intro zs i y hy hz h
          simp only [Option.bind_eq_some_iff] at h ⊢
          obtain ⟨c, hc, hd⟩ := h
          exact ⟨c, cells_kept hk hc, ih fuel e c y hpe hd (hz y hy)⟩
        have hall : ∀ z ∈ elems ++ rest, ∀ p ∈ z.2, sp p.block = true := fun z hz p hp => hs p (List.mem_append_right _ (List.mem_flatMap.2 ⟨z, hz, hp⟩))
        refine ⟨elems, mapM_kept hel fun i _ y hy h => one elems i y hy (fun z hz => hall z (List.mem_append_left _ hz)) h, rest, ?_, rfl⟩
        have hlr : rest.length = cap - len := by
          have : ∀ {l : List Nat} {f : Nat → Option (DataW H × List MemPlace)} {xs}, l.mapM f = some xs → xs.length = l.length := by
            intro l
            induction l with
            | nil => intro f xs h; simp at h; subst h; rfl
            | cons i l ih =>
              intro f xs h
              simp only [List.mapM_cons, Option.bind_eq_bind, Option.pure_def, Option.bind_eq_some_iff] at h
              obtain ⟨y, _, ys, hys, hx⟩ := h
              cases hx
              simp [ih hys]
          simpa using this hre
        have hkeep : (List.range (cap - len)).mapM (fun j => (W'.cells? 0 (a.add ((len + j) * P.cellsOf e)) (P.cellsOf e)).bind (DataW.trod enc P W' 0 sp true fuel e)) = some rest :=
          mapM_kept hre fun j _ y hy h => one rest (len + j) y hy (fun z hz => hall z (List.mem_append_right _ hz)) h
        by_cases h0 : (elems.length + rest.length) * P.cellsOf e = 0
        · have hr0 : rest = [] := by
            rcases Nat.mul_eq_zero.1 h0 with h1 | h1
            · exact List.length_eq_zero_iff.1 (by omega)
            · exact absurd h1 hne'
          split
          · exact hkeep
          · rw [hr0]
        · have hsa : sp a.block = true := by
            obtain ⟨p, hp, hpb⟩ := mem_row (a := a) (Nat.pos_of_ne_zero h0)
            rw [← hpb]; exact hs p (List.mem_append_left _ hp)
          rw [if_pos hsa]
          exact hkeep

theorem trodAll_kept (hk : KeptH W W') {sp : Nat → Bool} : ∀ {ts : List TypeId} {vs : List Value} {ds : List (DataW H)} {ps : List MemPlace}, (ts.all fun t => plainT P 9 t) = true →
    DataW.TrodAll enc P W 0 (fun _ => true) true ts vs ds ps → (∀ p ∈ ps, sp p.block = true) → DataW.TrodAll enc P W' 0 sp true ts vs ds ps
  | [], [], [], _, _, h, _ => h
  | t :: ts, v :: vs, d :: ds, _, hp, ⟨p, q, ⟨fuel, h1⟩, h2, hpq⟩, hs => by
    subst hpq
    simp only [List.all_cons, Bool.and_eq_true] at hp
    exact ⟨p, q, ⟨fuel, trod_kept hk 9 fuel t _ _ hp.1 h1 fun x hx => hs x (List.mem_append_left _ hx)⟩, trodAll_kept hk hp.2 h2 fun x hx => hs x (List.mem_append_right _ hx), rfl⟩
  | [], _ :: _, _, _, _, h, _ => h.elim
  | [], [], _ :: _, _, _, h, _ => h.elim
  | _ :: _, [], _, _, _, h, _ => h.elim
  | _ :: _, _ :: _, [], _, _, h, _ => h.elim

/-- a law's post: true, and all stands as it stood -/
theorem law_post {f : Func} {s : ChangeSpec} {bt : TypeId} {args : Array Value} {ds gs : List (DataW H)} {before : List MemPlace} (hv : s.vars = []) (hrt : f.resultTypes = #[bt]) (hb : P.underlying bt = some .bool)
    (hpl : (f.params.toList.all fun t => plainT P 9 t) = true) (hW : DataW.Whole enc P f.params.toList s.vars false W args.toList ds gs before)
    (hs : (s.fn H (ds ++ gs)).results = [.lit (.bool true)] ∧ (s.fn H (ds ++ gs)).args = ds ∧ (s.fn H (ds ++ gs)).vars = []) (hk : KeptH W W') :
    s.post enc P f false true false false W args (.bool true) W' := by
  have hW' := hW
  obtain ⟨p, q, hA, hV, rfl, hz, hn⟩ := hW
  have hV' : gs = [] ∧ q = [] := by
    rw [hv] at hV
    cases gs with
    | nil => exact ⟨rfl, hV⟩
    | cons _ _ => exact hV.elim
  obtain ⟨rfl, rfl⟩ := hV'
  refine ⟨ds, [], p ++ [], [], p, [], hW', ?_, ?_, ?_, ?_, fun h => by cases h⟩
  · rw [hs.1, hrt]
    exact ⟨[], [], ⟨1, by simp [DataW.trod, Value.cells, hb]⟩, rfl, rfl⟩
  · rw [hs.2.1]
    exact trodAll_kept hk hpl hA fun x hx => by simpa using hW'.lt x (by simpa using hx)
  · rw [hs.2.2, hv]; rfl
  · refine ⟨hk.os, hk.out, fun i hi => ?_⟩
    have h1 : W.heap[i]? = some W.heap[i] := by simp [hi]
    have h2 := hk.heap i _ h1
    rw [h1, h2]
    cases W.heap[i] <;> first | exact ⟨rfl, rfl, rfl, fun _ _ => rfl⟩ | exact .inr ⟨rfl, rfl⟩ | rfl
end
end Go.Hb
