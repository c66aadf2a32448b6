/- OPEN ADDRESSING, in plain lists: places that are empty (0), gone (1), full (2). No program. -/
import Derived.Test.YtnmlaenfaiacfaaSL5
set_option linter.unusedVariables false
set_option linter.unusedSimpArgs false
set_option linter.unnecessarySimpa false
set_option linter.unusedSectionVars false
namespace Go.Hb

structure Pl (V : Type) where
  is_ : Int
  key : ByteArray
  v : V
instance {V : Type} [Inhabited V] : Inhabited (Pl V) := ⟨⟨0, ⟨#[]⟩, default⟩⟩
def plR {V : Type} (RV : Rec V) : Rec (Pl V) := ⟨2 + RV.sz, fun p => .int .i64 p.is_ :: .string p.key :: RV.cells p.v, fun p => by simp [RV.len]; omega⟩
instance {V : Type} {RV : Rec V} : PosR (plR RV) := ⟨by show 0 < 2 + _; omega⟩

section
variable {V : Type} [Inhabited V]
def isAt (ps : List (Pl V)) (i : Nat) : Int := (ps.getD i default).is_
def keyAt (ps : List (Pl V)) (i : Nat) : ByteArray := (ps.getD i default).key
def findP (ps : List (Pl V)) (k : ByteArray) : Nat → Option Nat → Nat → Nat × Bool
  | 0, _, i => (i, false)
  | f + 1, free, i =>
    if isAt ps i = 2 ∧ keyAt ps i = k then (i, true)
    else if isAt ps i = 1 ∧ free = none then findP ps k f (some i) ((i + 1) % ps.length)
    else if isAt ps i = 0 then (free.getD i, false)
    else findP ps k f free ((i + 1) % ps.length)
def hitAt (ps : List (Pl V)) (k : ByteArray) (i : Nat) : Prop := isAt ps i = 2 ∧ keyAt ps i = k
theorem step_mod (i e n : Nat) : ((i + 1) % n + e) % n = (i + (e + 1)) % n := by
  rw [Nat.mod_add_mod]; congr 1; omega
theorem findP_true (ps : List (Pl V)) (k : ByteArray) : ∀ (f : Nat) (free : Option Nat) (i : Nat), i < ps.length → (findP ps k f free i).2 = true → hitAt ps k (findP ps k f free i).1 ∧ (findP ps k f free i).1 < ps.length
  | 0, _, _, _, h => by simp [findP] at h
  | f + 1, free, i, hi, h => by
    have hm : (i + 1) % ps.length < ps.length := Nat.mod_lt _ (by omega)
    unfold findP at h ⊢
    split at h
    · rename_i h1; rw [if_pos h1]; exact ⟨h1, hi⟩
    · rename_i h1; rw [if_neg h1]
      split at h
      · rename_i h2; rw [if_pos h2]; exact findP_true ps k f _ _ hm h
      · rename_i h2; rw [if_neg h2]
        split at h
        · simp at h
        · rename_i h3; rw [if_neg h3]; exact findP_true ps k f _ _ hm h
theorem findP_false (ps : List (Pl V)) (k : ByteArray) : ∀ (f : Nat) (free : Option Nat) (i : Nat), i < ps.length → (∃ e, e < f ∧ isAt ps ((i + e) % ps.length) = 0) → (findP ps k f free i).2 = false →
    ∃ d, isAt ps ((i + d) % ps.length) = 0 ∧ (∀ e, e < d → isAt ps ((i + e) % ps.length) ≠ 0 ∧ ¬ hitAt ps k ((i + e) % ps.length)) ∧
      (∀ j, free = some j → (findP ps k f free i).1 = j) ∧ (free = none → ∃ e, e ≤ d ∧ (findP ps k f free i).1 = (i + e) % ps.length ∧ isAt ps ((i + e) % ps.length) ≠ 2)
  | 0, _, _, _, ⟨e, he, _⟩, _ => by omega
  | f + 1, free, i, hi, ⟨e, he, hz⟩, h => by
    have hm : (i + 1) % ps.length < ps.length := Nat.mod_lt _ (by omega)
    have hi0 : (i + 0) % ps.length = i := by rw [Nat.add_zero, Nat.mod_eq_of_lt hi]
    have next : isAt ps i ≠ 0 → ∃ e', e' < f ∧ isAt ps (((i + 1) % ps.length + e') % ps.length) = 0 := by
      intro hne
      cases e with
      | zero => rw [hi0] at hz; exact absurd hz hne
      | succ e => exact ⟨e, by omega, by rw [step_mod]; exact hz⟩
    unfold findP at h ⊢
    split at h
    · simp at h
    rename_i h1
    rw [if_neg h1]
    split at h
    · rename_i h2
      rw [if_pos h2]
      obtain ⟨d, d1, d2, d3, d4⟩ := findP_false ps k f (some i) _ hm (next (by rw [h2.1]; decide)) h
      refine ⟨d + 1, by rw [step_mod] at d1; exact d1, fun e he => ?_, fun j hj => (by rw [h2.2] at hj; cases hj), fun _ => ?_⟩
      · cases e with
        | zero => rw [hi0]; exact ⟨by rw [h2.1]; decide, h1⟩
        | succ e => have := d2 e (by omega); rw [step_mod] at this; exact this
      · exact ⟨0, by omega, by rw [hi0]; exact d3 i rfl, by rw [hi0, h2.1]; decide⟩
    · rename_i h2
      rw [if_neg h2]
      split at h
      · rename_i h3
        rw [if_pos h3]
        refine ⟨0, by rw [hi0]; exact h3, fun e he => by omega, fun j hj => by rw [hj]; rfl, fun hf => ⟨0, by omega, by rw [hf, hi0]; rfl, by rw [hi0, h3]; decide⟩⟩
      · rename_i h3
        rw [if_neg h3]
        obtain ⟨d, d1, d2, d3, d4⟩ := findP_false ps k f free _ hm (next h3) h
        refine ⟨d + 1, by rw [step_mod] at d1; exact d1, fun e he => ?_, d3, fun hf => ?_⟩
        · cases e with
          | zero => rw [hi0]; exact ⟨h3, h1⟩
          | succ e => have := d2 e (by omega); rw [step_mod] at this; exact this
        · obtain ⟨e, e1, e2, e3⟩ := d4 hf
          exact ⟨e + 1, by omega, by rw [e2, step_mod], by rw [step_mod] at e3; exact e3⟩

/-! what is full -/
def optP (p : Pl V) : List (ByteArray × V) := if p.is_ = 2 then [(p.key, p.v)] else []
theorem optP_pos {p : Pl V} (h : p.is_ = 2) : optP p = [(p.key, p.v)] := if_pos h
theorem optP_neg {p : Pl V} (h : p.is_ ≠ 2) : optP p = [] := if_neg h
def fullP (ps : List (Pl V)) : List (ByteArray × V) := ps.flatMap optP
theorem fullP_append (a b : List (Pl V)) : fullP (a ++ b) = fullP a ++ fullP b := by simp [fullP]
theorem split_at {α : Type} [Inhabited α] {l : List α} {i : Nat} (h : i < l.length) : l = l.take i ++ l.getD i default :: l.drop (i + 1) := by
  rw [List.getD_eq_getElem?_getD, List.getElem?_eq_getElem h]; simp
theorem set_split {α : Type} {l : List α} {i : Nat} (h : i < l.length) (a : α) : l.set i a = l.take i ++ a :: l.drop (i + 1) := by
  rw [List.set_eq_take_append_cons_drop, if_pos h]
theorem fullP_at {ps : List (Pl V)} {i : Nat} (h : i < ps.length) : (fullP ps).Perm (optP (ps.getD i default) ++ fullP (ps.take i ++ ps.drop (i + 1))) := by
  have : fullP ps = fullP (ps.take i) ++ (optP (ps.getD i default) ++ fullP (ps.drop (i + 1))) := by
    conv => lhs; rw [split_at h]
    rw [fullP_append]; rfl
  rw [this, fullP_append]
  rw [← List.append_assoc, ← List.append_assoc]
  exact List.Perm.append_right _ List.perm_append_comm
theorem fullP_set {ps : List (Pl V)} {i : Nat} (h : i < ps.length) (p : Pl V) : (fullP (ps.set i p)).Perm (optP p ++ fullP (ps.take i ++ ps.drop (i + 1))) := by
  have : fullP (ps.set i p) = fullP (ps.take i) ++ (optP p ++ fullP (ps.drop (i + 1))) := by
    rw [set_split h, fullP_append]; rfl
  rw [this, fullP_append]
  rw [← List.append_assoc, ← List.append_assoc]
  exact List.Perm.append_right _ List.perm_append_comm
def usedP (ps : List (Pl V)) : Nat := ps.countP fun p => decide (p.is_ ≠ 0)
theorem usedP_set {ps : List (Pl V)} {i : Nat} (h : i < ps.length) (p : Pl V) (hp : p.is_ ≠ 0) : usedP (ps.set i p) = usedP ps + (if isAt ps i = 0 then 1 else 0) := by
  have h1 : usedP ps = usedP (ps.take i) + ((if isAt ps i = 0 then 0 else 1) + usedP (ps.drop (i + 1))) := by
    conv => lhs; rw [split_at h]
    unfold usedP isAt
    rw [List.countP_append, List.countP_cons]
    by_cases h0 : (ps.getD i default).is_ = 0 <;> simp [h0] <;> omega
  have h2 : usedP (ps.set i p) = usedP (ps.take i) + (1 + usedP (ps.drop (i + 1))) := by
    rw [set_split h]
    unfold usedP
    rw [List.countP_append, List.countP_cons]
    simp [hp]; omega
  rw [h1, h2]; split <;> omega
theorem usedP_empty {ps : List (Pl V)} (h : usedP ps < ps.length) : ∃ i, i < ps.length ∧ isAt ps i = 0 := by
  unfold usedP at h
  induction ps with
  | nil => simp at h
  | cons p ps ih =>
    by_cases hp : p.is_ = 0
    · exact ⟨0, by simp, hp⟩
    · rw [List.countP_cons, if_pos (by simp [hp])] at h
      simp only [List.length_cons] at h
      obtain ⟨i, hi, hz⟩ := ih (by omega)
      exact ⟨i + 1, by simpa using hi, hz⟩
theorem isAt_set {ps : List (Pl V)} {i j : Nat} (h : i < ps.length) (p : Pl V) : isAt (ps.set i p) j = if j = i then p.is_ else isAt ps j := by
  unfold isAt
  rw [List.getD_eq_getElem?_getD, List.getElem?_set, List.getD_eq_getElem?_getD]
  by_cases e : i = j
  · subst e; simp [h]
  · rw [if_neg e, if_neg (Ne.symm e)]
theorem keyAt_set {ps : List (Pl V)} {i j : Nat} (h : i < ps.length) (p : Pl V) : keyAt (ps.set i p) j = if j = i then p.key else keyAt ps j := by
  unfold keyAt
  rw [List.getD_eq_getElem?_getD, List.getElem?_set, List.getD_eq_getElem?_getD]
  by_cases e : i = j
  · subst e; simp [h]
  · rw [if_neg e, if_neg (Ne.symm e)]

/-- keys and values stand in the places, each where it is found -/
structure IxInv (st : ByteArray → Nat) (ps : List (Pl V)) (m : List (ByteArray × V)) : Prop where
  big : 8 ≤ ps.length
  small : ps.length < 4611686018427387904
  start : ∀ k, st k < ps.length
  perm : (fullP ps).Perm m
  nodup : (m.map (·.1)).Nodup
  reach : ∀ i, i < ps.length → isAt ps i = 2 → ∃ e, i = (st (keyAt ps i) + e) % ps.length ∧ ∀ e', e' < e → isAt ps ((st (keyAt ps i) + e') % ps.length) ≠ 0
  room : usedP ps < ps.length
section
variable {st : ByteArray → Nat} {ps : List (Pl V)} {m : List (ByteArray × V)}
theorem IxInv.stop (h : IxInv st ps m) (k : ByteArray) : ∃ e, e < ps.length ∧ isAt ps ((st k + e) % ps.length) = 0 := by
  obtain ⟨i, hi, hz⟩ := usedP_empty h.room
  have hs := h.start k
  by_cases hle : st k ≤ i
  · exact ⟨i - st k, by omega, by rw [show st k + (i - st k) = i by omega, Nat.mod_eq_of_lt hi]; exact hz⟩
  · refine ⟨i + ps.length - st k, by omega, ?_⟩
    rw [show st k + (i + ps.length - st k) = i + ps.length by omega, Nat.add_mod_right, Nat.mod_eq_of_lt hi]; exact hz
def findI (st : ByteArray → Nat) (ps : List (Pl V)) (k : ByteArray) : Nat × Bool := findP ps k ps.length none (st k)
theorem mem_full {i : Nat} (hi : i < ps.length) (h2 : isAt ps i = 2) : (keyAt ps i, (ps.getD i default).v) ∈ fullP ps := by
  refine (fullP_at hi).symm.subset ?_
  have : optP (ps.getD i default) = [(keyAt ps i, (ps.getD i default).v)] := optP_pos h2
  rw [this]; simp
theorem full_mem {e : ByteArray × V} (h : e ∈ fullP ps) : ∃ i, i < ps.length ∧ isAt ps i = 2 ∧ keyAt ps i = e.1 ∧ (ps.getD i default).v = e.2 := by
  unfold fullP at h
  rw [List.mem_flatMap] at h
  obtain ⟨p, hp, he⟩ := h
  obtain ⟨i, hi, rfl⟩ := List.mem_iff_getElem.1 hp
  unfold optP at he
  split at he
  · rename_i h2
    simp only [List.mem_singleton] at he
    have hg : ps.getD i default = ps[i] := by rw [List.getD_eq_getElem?_getD, List.getElem?_eq_getElem hi]; rfl
    refine ⟨i, hi, by unfold isAt; rw [hg]; exact h2, by unfold keyAt; rw [hg, he], by rw [hg, he]⟩
  · cases he
def mGet (m : List (ByteArray × V)) (k : ByteArray) : Option V := (m.find? fun e => decide (e.1 = k)).map (·.2)
theorem mGet_some {k : ByteArray} {v : V} (hn : (m.map (·.1)).Nodup) : mGet m k = some v ↔ (k, v) ∈ m := by
  unfold mGet
  induction m with
  | nil => simp
  | cons e m ih =>
    simp only [List.map_cons, List.nodup_cons] at hn
    rw [List.find?_cons]
    by_cases he : e.1 = k
    · subst he
      simp only [decide_true, Option.map_some, Option.some.injEq]
      constructor
      · rintro rfl; simp
      · intro h
        rcases List.mem_cons.1 h with h | h
        · exact (congrArg Prod.snd h).symm
        · exact absurd (List.mem_map_of_mem (f := (·.1)) h) hn.1
    · simp only [he, decide_false]
      rw [ih hn.2]
      constructor
      · exact fun h => List.mem_cons_of_mem _ h
      · intro h
        rcases List.mem_cons.1 h with h | h
        · subst h; exact absurd rfl he
        · exact h
theorem mGet_none {k : ByteArray} : mGet m k = none ↔ ∀ e ∈ m, e.1 ≠ k := by
  unfold mGet
  simp
theorem mGet_perm {m' : List (ByteArray × V)} (hn : (m.map (·.1)).Nodup) (hp : m.Perm m') (k : ByteArray) : mGet m k = mGet m' k := by
  have hn' : (m'.map (·.1)).Nodup := (hp.map _).nodup_iff.1 hn
  cases h : mGet m k with
  | some v => exact ((mGet_some hn').2 (hp.subset ((mGet_some hn).1 h))).symm
  | none => exact (mGet_none.2 fun e he => mGet_none.1 h e (hp.symm.subset he)).symm
theorem IxInv.hit (h : IxInv st ps m) {k : ByteArray} (hf : (findI st ps k).2 = true) : (findI st ps k).1 < ps.length ∧ hitAt ps k (findI st ps k).1 ∧ mGet m k = some (ps.getD (findI st ps k).1 default).v := by
  obtain ⟨h1, h2⟩ := findP_true ps k ps.length none (st k) (h.start k) hf
  refine ⟨h2, h1, (mGet_some h.nodup).2 ?_⟩
  have := mem_full (i := (findI st ps k).1) h2 h1.1
  rw [show keyAt ps (findI st ps k).1 = k from h1.2] at this
  exact h.perm.subset this
theorem IxInv.miss (h : IxInv st ps m) {k : ByteArray} (hf : (findI st ps k).2 = false) : (findI st ps k).1 < ps.length ∧ isAt ps (findI st ps k).1 ≠ 2 ∧ mGet m k = none ∧
    ∃ e, (findI st ps k).1 = (st k + e) % ps.length ∧ ∀ e', e' < e → isAt ps ((st k + e') % ps.length) ≠ 0 := by
  obtain ⟨d, d1, d2, _, d4⟩ := findP_false ps k ps.length none (st k) (h.start k) (h.stop k) hf
  obtain ⟨e, e1, e2, e3⟩ := d4 rfl
  have hp : 0 < ps.length := by have := h.big; omega
  have hfe : (findI st ps k).1 = (st k + e) % ps.length := e2
  refine ⟨by rw [hfe]; exact Nat.mod_lt _ hp, by rw [hfe]; exact e3, ?_, e, hfe, fun e' he' => (d2 e' (by omega)).1⟩
  rw [mGet_none]
  intro x hx hk
  obtain ⟨i, hi, i2, ik, _⟩ := full_mem (h.perm.symm.subset hx)
  obtain ⟨a, a1, a2⟩ := h.reach i hi i2
  rw [ik, hk] at a1 a2
  by_cases hda : d < a
  · exact a2 d hda d1
  · by_cases hde : d = a
    · subst hde; rw [← a1, i2] at d1; cases d1
    · have := (d2 a (by omega)).2
      rw [← a1] at this
      exact this ⟨i2, by rw [ik, hk]⟩
/-- another value -/
def mSet (m : List (ByteArray × V)) (k : ByteArray) (v : V) : List (ByteArray × V) := m.map fun e => if e.1 = k then (k, v) else e
def mDel (m : List (ByteArray × V)) (k : ByteArray) : List (ByteArray × V) := m.filter fun e => decide (e.1 ≠ k)
def mPut (m : List (ByteArray × V)) (k : ByteArray) (v : V) : List (ByteArray × V) := match mGet m k with
  | some _ => mSet m k v
  | none => (k, v) :: m
theorem mSet_keys (m : List (ByteArray × V)) (k : ByteArray) (v : V) : (mSet m k v).map (·.1) = m.map (·.1) := by
  unfold mSet
  rw [List.map_map]
  apply List.map_congr_left
  intro e _
  simp only [Function.comp]
  split
  · rename_i h; exact h.symm
  · rfl
theorem perm_one {j : Nat} {k : ByteArray} (hj : j < ps.length) (hit : hitAt ps k j) (hp : (fullP ps).Perm m) : ((k, (ps.getD j default).v) :: fullP (ps.take j ++ ps.drop (j + 1))).Perm m := by
  have h1 := (fullP_at hj).symm.trans hp
  have : optP (ps.getD j default) = [(k, (ps.getD j default).v)] := by rw [← hit.2]; exact optP_pos hit.1
  rw [this] at h1; exact h1
theorem IxInv.set (h : IxInv st ps m) {k : ByteArray} {v : V} {j : Nat} (hj : j < ps.length) (hit : hitAt ps k j) : IxInv st (ps.set j { ps.getD j default with v := v }) (mSet m k v) := by
  have h0 := perm_one hj hit h.perm
  have hn := (h0.map (·.1)).nodup_iff.2 h.nodup
  simp only [List.map_cons, List.nodup_cons] at hn
  have hset : (fullP (ps.set j { ps.getD j default with v := v })).Perm ((k, v) :: fullP (ps.take j ++ ps.drop (j + 1))) := by
    have := fullP_set hj { ps.getD j default with v := v }
    have e : optP { ps.getD j default with v := v } = [(k, v)] := by rw [← hit.2]; exact optP_pos (p := { ps.getD j default with v := v }) hit.1
    rw [e] at this; exact this
  have hm : (mSet m k v).Perm ((k, v) :: fullP (ps.take j ++ ps.drop (j + 1))) := by
    have h1 : (mSet m k v).Perm (mSet ((k, (ps.getD j default).v) :: fullP (ps.take j ++ ps.drop (j + 1))) k v) := (h0.map _).symm
    refine h1.trans ?_
    unfold mSet
    rw [List.map_cons, if_pos rfl]
    rw [List.map_congr_left (g := id) (fun e he => ?_), List.map_id]
    rw [if_neg]; rfl
    intro hk
    exact hn.1 (by rw [← hk]; exact List.mem_map_of_mem he)
  have hi : ∀ x, isAt (ps.set j { ps.getD j default with v := v }) x = isAt ps x := by
    intro x; rw [isAt_set hj]; split
    · rename_i e; subst e; rfl
    · rfl
  have hk : ∀ x, keyAt (ps.set j { ps.getD j default with v := v }) x = keyAt ps x := by
    intro x; rw [keyAt_set hj]; split
    · rename_i e; subst e; rfl
    · rfl
  refine ⟨by rw [List.length_set]; exact h.big, by rw [List.length_set]; exact h.small, by rw [List.length_set]; exact h.start, hset.trans hm.symm, by rw [mSet_keys]; exact h.nodup, ?_, ?_⟩
  · intro i hil h2
    rw [List.length_set] at hil ⊢
    rw [hi] at h2
    simp only [hi, hk]
    exact h.reach i hil h2
  · rw [usedP_set hj _ (by show isAt ps j ≠ 0; rw [hit.1]; decide), List.length_set, if_neg (by rw [hit.1]; decide)]
    exact h.room
theorem reach_set {p : Pl V} {j : Nat} (h : IxInv st ps m) (hj : j < ps.length) (hp : p.is_ ≠ 0) (hnew : p.is_ = 2 → ∃ e, j = (st p.key + e) % ps.length ∧ ∀ e', e' < e → isAt ps ((st p.key + e') % ps.length) ≠ 0) :
    ∀ i, i < (ps.set j p).length → isAt (ps.set j p) i = 2 → ∃ e, i = (st (keyAt (ps.set j p) i) + e) % (ps.set j p).length ∧ ∀ e', e' < e → isAt (ps.set j p) ((st (keyAt (ps.set j p) i) + e') % (ps.set j p).length) ≠ 0 := by
  intro i hi h2
  rw [List.length_set] at hi ⊢
  have mono : ∀ x, isAt ps x ≠ 0 → isAt (ps.set j p) x ≠ 0 := by
    intro x hx; rw [isAt_set hj]; split
    · exact hp
    · exact hx
  rw [isAt_set hj] at h2
  rw [keyAt_set hj]
  by_cases e : i = j
  · subst e
    rw [if_pos rfl] at h2 ⊢
    obtain ⟨e, e1, e2⟩ := hnew h2
    exact ⟨e, e1, fun e' he' => mono _ (e2 e' he')⟩
  · rw [if_neg e] at h2 ⊢
    obtain ⟨e, e1, e2⟩ := h.reach i hi h2
    exact ⟨e, e1, fun e' he' => mono _ (e2 e' he')⟩
theorem IxInv.add (h : IxInv st ps m) {k : ByteArray} {v : V} {j : Nat} (hj : j < ps.length) (h2 : isAt ps j ≠ 2) (hno : mGet m k = none)
    (hr : ∃ e, j = (st k + e) % ps.length ∧ ∀ e', e' < e → isAt ps ((st k + e') % ps.length) ≠ 0) (hroom : usedP ps + 1 < ps.length) : IxInv st (ps.set j ⟨2, k, v⟩) ((k, v) :: m) := by
  have hfull : (fullP (ps.set j ⟨2, k, v⟩)).Perm ((k, v) :: m) := by
    have h1 := fullP_set hj (⟨2, k, v⟩ : Pl V)
    have h3 := (fullP_at hj).symm.trans h.perm
    have e1 : optP (⟨2, k, v⟩ : Pl V) = [(k, v)] := rfl
    have e2 : optP (ps.getD j default) = [] := optP_neg h2
    rw [e1] at h1
    rw [e2, List.nil_append] at h3
    exact h1.trans (List.Perm.cons _ h3)
  refine ⟨by rw [List.length_set]; exact h.big, by rw [List.length_set]; exact h.small, by rw [List.length_set]; exact h.start, hfull, ?_, reach_set h hj (by show (2 : Int) ≠ 0; decide) (fun _ => hr), ?_⟩
  · rw [List.map_cons, List.nodup_cons]
    refine ⟨fun hm => ?_, h.nodup⟩
    rw [List.mem_map] at hm
    obtain ⟨e, he, hk⟩ := hm
    exact mGet_none.1 hno e he hk
  · rw [usedP_set hj _ (by show (2 : Int) ≠ 0; decide), List.length_set]; split <;> omega
theorem IxInv.del (h : IxInv st ps m) {k : ByteArray} {z : Pl V} {j : Nat} (hj : j < ps.length) (hit : hitAt ps k j) (hz : z.is_ = 1) : IxInv st (ps.set j z) (mDel m k) := by
  have h0 := perm_one hj hit h.perm
  have hn := (h0.map (·.1)).nodup_iff.2 h.nodup
  simp only [List.map_cons, List.nodup_cons] at hn
  have hset : (fullP (ps.set j z)).Perm (fullP (ps.take j ++ ps.drop (j + 1))) := by
    have := fullP_set hj z
    have e : optP z = [] := by unfold optP; rw [if_neg (by rw [hz]; decide)]
    rw [e] at this; exact this
  have hm : (mDel m k).Perm (fullP (ps.take j ++ ps.drop (j + 1))) := by
    have h1 : (mDel m k).Perm (mDel ((k, (ps.getD j default).v) :: fullP (ps.take j ++ ps.drop (j + 1))) k) := (h0.filter _).symm
    refine h1.trans ?_
    unfold mDel
    rw [List.filter_cons_of_neg (by simp)]
    rw [List.filter_eq_self.2]
    intro e he
    simp only [ne_eq, decide_not, Bool.not_eq_eq_eq_not, Bool.not_true, decide_eq_false_iff_not]
    intro hk
    exact hn.1 (by rw [← hk]; exact List.mem_map_of_mem he)
  refine ⟨by rw [List.length_set]; exact h.big, by rw [List.length_set]; exact h.small, by rw [List.length_set]; exact h.start, hset.trans hm.symm, ?_, reach_set h hj (by rw [hz]; decide) (fun h2 => by rw [hz] at h2; cases h2), ?_⟩
  · exact (List.Nodup.sublist ((List.filter_sublist).map _) h.nodup)
  · rw [usedP_set hj _ (by rw [hz]; decide), List.length_set, if_neg (by rw [hit.1]; decide)]
    exact h.room
theorem mDel_len (hn : (m.map (·.1)).Nodup) {k : ByteArray} {v : V} (h : mGet m k = some v) : (mDel m k).length + 1 = m.length := by
  have hm := (mGet_some hn).1 h
  obtain ⟨a, b, rfl⟩ := List.append_of_mem hm
  unfold mDel
  simp only [List.map_append, List.map_cons] at hn
  rw [List.nodup_append] at hn
  simp only [List.nodup_cons] at hn
  rw [List.filter_append, List.filter_cons_of_neg (by simp), List.filter_eq_self.2, List.filter_eq_self.2]
  · simp; omega
  · intro e he
    simp only [ne_eq, decide_not, Bool.not_eq_eq_eq_not, Bool.not_true, decide_eq_false_iff_not]
    rintro rfl
    exact hn.2.1.1 (List.mem_map_of_mem he)
  · intro e he
    simp only [ne_eq, decide_not, Bool.not_eq_eq_eq_not, Bool.not_true, decide_eq_false_iff_not]
    rintro rfl
    exact hn.2.2 _ (List.mem_map_of_mem he) e.1 (by simp) rfl
theorem IxInv.used_le (h : IxInv st ps m) : m.length ≤ usedP ps := by
  rw [← h.perm.length_eq]
  unfold fullP usedP
  induction ps with
  | nil => simp
  | cons p ps ih =>
    have ih' : (List.flatMap optP ps).length ≤ ps.countP fun p => decide (p.is_ ≠ 0) := by
      clear h ih
      induction ps with
      | nil => simp
      | cons q ps ih =>
        rw [List.flatMap_cons, List.length_append, List.countP_cons]
        unfold optP
        by_cases hq : q.is_ = 2
        · rw [if_pos hq, if_pos (by rw [hq]; decide)]; simp only [List.length_cons, List.length_nil]
          have := ih
          unfold optP at this; omega
        · rw [if_neg hq]; simp only [List.length_nil]
          have := ih
          unfold optP at this; omega
    rw [List.flatMap_cons, List.length_append, List.countP_cons]
    by_cases hq : p.is_ = 2
    · have : optP p = [(p.key, p.v)] := by unfold optP; rw [if_pos hq]
      rw [this, if_pos (by rw [hq]; decide)]; simp only [List.length_cons, List.length_nil]; omega
    · have : optP p = [] := by unfold optP; rw [if_neg hq]
      rw [this]; simp only [List.length_nil]; omega
theorem IxInv.new {n : Nat} {z : Pl V} (hz : z.is_ = 0) (h8 : 8 ≤ n) (hn : n < 4611686018427387904) (hst : ∀ k, st k < n) : IxInv st (List.replicate n z) [] := by
  have hu : usedP (List.replicate n z) = 0 := by
    unfold usedP; rw [List.countP_eq_zero]
    intro a ha
    rw [List.eq_of_mem_replicate ha]; simp [hz]
  refine ⟨by simpa using h8, by simpa using hn, by simpa using hst, ?_, by simp, ?_, by rw [hu]; simp; omega⟩
  · have : fullP (List.replicate n z) = [] := by
      unfold fullP; rw [List.flatMap_eq_nil_iff]
      intro a ha
      rw [List.eq_of_mem_replicate ha]; unfold optP; rw [if_neg (by rw [hz]; decide)]
    rw [this]
  · intro i hi h2
    rw [List.length_replicate] at hi
    unfold isAt at h2
    rw [List.getD_eq_getElem?_getD, List.getElem?_eq_getElem (by simpa using hi)] at h2
    simp only [List.getElem_replicate, Option.getD_some, hz] at h2
    cases h2
end
end
end Go.Hb
