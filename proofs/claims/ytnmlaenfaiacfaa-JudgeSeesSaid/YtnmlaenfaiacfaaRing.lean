/- ROWS IN AN ARENA, in plain lists: links that go round over place 0. No program. -/
set_option linter.unusedVariables false
set_option linter.unusedSimpArgs false
set_option linter.unnecessarySimpa false
set_option linter.unusedSectionVars false
namespace Go.Hb

def upd {α : Type} (f : Nat → α) (a : Nat) (b : α) : Nat → α := fun x => if x = a then b else f x
theorem upd_same {α : Type} (f : Nat → α) (a : Nat) (b : α) : upd f a b a = b := by simp [upd]
theorem upd_other {α : Type} {f : Nat → α} {a : Nat} {b : α} {x : Nat} (h : x ≠ a) : upd f a b x = f x := by simp [upd, h]

def Links (nx pv : Nat → Nat) : List Nat → Prop
  | [] => True
  | [_] => True
  | x :: y :: t => nx x = y ∧ pv y = x ∧ Links nx pv (y :: t)
variable {nx pv nx' pv' : Nat → Nat}
theorem Links.mono : ∀ {w : List Nat}, Links nx pv w → (∀ x ∈ w.dropLast, nx' x = nx x) → (∀ y ∈ w.tail, pv' y = pv y) → Links nx' pv' w
  | [], _, _, _ => trivial
  | [_], _, _, _ => trivial
  | x :: y :: t, ⟨h1, h2, h3⟩, ha, hb => by
    refine ⟨by rw [ha x (by simp)]; exact h1, by rw [hb y (by simp)]; exact h2, h3.mono (fun z hz => ha z ?_) fun z hz => hb z ?_⟩
    · simp only [List.dropLast_cons_cons]; exact List.mem_cons_of_mem _ hz
    · simp only [List.tail_cons]; exact List.mem_cons_of_mem _ hz
theorem Links.append : ∀ {a b : List Nat} {x : Nat}, Links nx pv (a ++ x :: b) ↔ Links nx pv (a ++ [x]) ∧ Links nx pv (x :: b)
  | [], b, x => by simp [Links]
  | [y], b, x => by simp [Links, and_assoc]
  | y :: z :: t, b, x => by
    have := Links.append (a := z :: t) (b := b) (x := x)
    simp only [List.cons_append, Links] at this ⊢
    rw [this]
    simp [and_assoc]
/-- the row of handles 'ord' stands in the links, over 0 -/
def Stands (nx pv : Nat → Nat) (ord : List Nat) : Prop := Links nx pv (0 :: (ord ++ [0]))

theorem stands_front {ord : List Nat} (h : Stands nx pv ord) : nx 0 = ord.headD 0 := by
  cases ord with
  | nil => exact h.1
  | cons x t => exact h.1
theorem stands_back {ord : List Nat} (h : Stands nx pv ord) : pv 0 = ord.getLastD 0 := by
  rcases List.eq_nil_or_concat ord with rfl | ⟨l, x, rfl⟩
  · exact h.2.1
  · have e : 0 :: ((l ++ [x]) ++ [0]) = (0 :: l) ++ x :: [0] := by simp
    unfold Stands at h
    simp only [List.concat_eq_append] at h ⊢
    rw [e, Links.append] at h
    rw [h.2.2.1]
    simp [List.getLastD_eq_getLast?]
theorem stands_at {l1 l2 : List Nat} {x : Nat} (h : Stands nx pv (l1 ++ x :: l2)) : nx x = l2.headD 0 ∧ pv x = l1.getLastD 0 := by
  have e : 0 :: ((l1 ++ x :: l2) ++ [0]) = (0 :: l1) ++ x :: (l2 ++ [0]) := by simp
  unfold Stands at h
  rw [e, Links.append] at h
  refine ⟨?_, ?_⟩
  · cases l2 with
    | nil => exact h.2.1
    | cons y t => exact h.2.1
  · rcases List.eq_nil_or_concat l1 with rfl | ⟨l, y, rfl⟩
    · exact h.1.2.1
    · have e2 : 0 :: (l ++ [y]) ++ [x] = (0 :: l) ++ y :: [x] := by simp
      simp only [List.concat_eq_append] at h ⊢
      rw [e2, Links.append] at h
      rw [h.1.2.2.1]
      simp [List.getLastD_eq_getLast?]
/-- a handle that is not there laid between two neighbours -/
theorem stands_lay {l1 l2 : List Nat} {x : Nat} (h : Stands nx pv (l1 ++ l2)) (hx : x ∉ 0 :: (l1 ++ l2)) (hn : (0 :: (l1 ++ l2)).Nodup) :
    Stands (upd (upd nx x (l2.headD 0)) (l1.getLastD 0) x) (upd (upd pv x (l1.getLastD 0)) (l2.headD 0) x) (l1 ++ x :: l2) := by
  obtain ⟨p, A, hA⟩ : ∃ p A, 0 :: l1 = A ++ [p] := ⟨(0 :: l1).getLast (by simp), (0 :: l1).dropLast, (List.dropLast_concat_getLast (by simp)).symm⟩
  obtain ⟨n, B, hB⟩ : ∃ n B, l2 ++ [0] = n :: B := by
    cases l2 with
    | nil => exact ⟨0, [], rfl⟩
    | cons y t => exact ⟨y, t ++ [0], rfl⟩
  have hp : l1.getLastD 0 = p := by
    have := congrArg (fun l => l.getLastD 0) hA
    simp only [List.getLastD_cons] at this
    rw [this]; simp [List.getLastD_eq_getLast?]
  have hnn : l2.headD 0 = n := by
    cases l2 with
    | nil => simp at hB; simp [hB.1]
    | cons y t => simp at hB; simp [hB.1]
  rw [hp, hnn]
  have hw : 0 :: ((l1 ++ l2) ++ [0]) = A ++ p :: (n :: B) := by
    have : 0 :: ((l1 ++ l2) ++ [0]) = (0 :: l1) ++ (l2 ++ [0]) := by simp
    rw [this, hA, hB]; simp
  have hw' : 0 :: ((l1 ++ x :: l2) ++ [0]) = A ++ p :: (x :: (n :: B)) := by
    have : 0 :: ((l1 ++ x :: l2) ++ [0]) = (0 :: l1) ++ x :: (l2 ++ [0]) := by simp
    rw [this, hA, hB]; simp
  unfold Stands at h ⊢
  rw [hw] at h
  rw [hw']
  obtain ⟨ha, hb⟩ := Links.append.1 h
  obtain ⟨_, _, hc⟩ := hb
  -- no one twice
  have hd1 : (A ++ p :: (n :: B).dropLast).Nodup := by
    have : (0 :: ((l1 ++ l2) ++ [0])).dropLast = 0 :: (l1 ++ l2) := by
      rw [show 0 :: ((l1 ++ l2) ++ [0]) = (0 :: (l1 ++ l2)) ++ [0] by simp, List.dropLast_concat]
    rw [hw, List.dropLast_append_of_ne_nil (by simp)] at this
    rw [← this] at hn
    simpa using hn
  have hd2 : ((A ++ p :: (n :: B)).tail).Nodup := by
    rw [← hw]
    simp only [List.tail_cons]
    rw [List.nodup_append]
    simp only [List.nodup_cons] at hn
    exact ⟨hn.2, by simp, fun a ha b hb => by simp at hb; subst hb; intro hab; subst hab; exact hn.1 ha⟩
  have hx1 : x ∉ A ++ p :: (n :: B) := by
    rw [← hw]
    simp only [List.mem_cons, List.mem_append, not_or] at hx ⊢
    exact ⟨hx.1, ⟨⟨hx.2.1, hx.2.2⟩, hx.1, by simp⟩⟩
  have hxp : x ≠ p := fun e => hx1 (by simp [e])
  have hxn : x ≠ n := fun e => hx1 (by simp [e])
  rw [Links.append]
  refine ⟨ha.mono (fun y hy => ?_) (fun y hy => ?_), ?_⟩
  · rw [List.dropLast_concat] at hy
    have hyp : y ≠ p := by
      intro e; subst e
      rw [List.nodup_append] at hd1
      exact hd1.2.2 y hy y (by simp) rfl
    have hyx : y ≠ x := by rintro rfl; exact hx1 (by simp [hy])
    rw [upd_other hyp, upd_other hyx]
  · have hyn : y ≠ n := by
      rintro rfl
      cases A with
      | nil => simp at hy
      | cons a A' =>
        simp only [List.cons_append, List.tail_cons] at hy hd2
        rw [List.nodup_append] at hd2
        rcases List.mem_append.1 hy with hy | hy
        · exact hd2.2.2 y hy y (by simp) rfl
        · simp at hy; subst hy; simp at hd2
    have hyx : y ≠ x := by
      rintro rfl
      exact hx1 (by
        have := List.mem_of_mem_tail hy
        rcases List.mem_append.1 this with h | h
        · simp [h]
        · simp at h; simp [h])
    rw [upd_other hyn, upd_other hyx]
  refine ⟨upd_same _ _ _, ?_, ?_⟩
  · rw [upd_other hxn, upd_same]
  refine ⟨?_, upd_same _ _ _, hc.mono (fun y hy => ?_) (fun y hy => ?_)⟩
  · rw [upd_other hxp, upd_same]
  · have hyp : y ≠ p := by
      rintro rfl
      rw [List.nodup_append] at hd1
      simp only [List.nodup_cons] at hd1
      exact hd1.2.1.1 hy
    have hyx : y ≠ x := by
      rintro rfl
      exact hx1 (by have := (List.dropLast_sublist _).subset hy; simp at this; rcases this with h | h <;> simp [h])
    rw [upd_other hyp, upd_other hyx]
  · simp only [List.tail_cons] at hy
    have hyn : y ≠ n := by
      rintro rfl
      cases A with
      | nil =>
        simp only [List.nil_append, List.tail_cons, List.nodup_cons] at hd2
        exact hd2.1 hy
      | cons a A' =>
        simp only [List.cons_append, List.tail_cons] at hd2
        rw [List.nodup_append] at hd2
        simp only [List.nodup_cons] at hd2
        exact hd2.2.1.2.1 hy
    have hyx : y ≠ x := by rintro rfl; exact hx1 (by simp [hy])
    rw [upd_other hyn, upd_other hyx]
/-- a handle lifted from between its neighbours -/
theorem stands_lift {l1 l2 : List Nat} {x : Nat} (h : Stands nx pv (l1 ++ x :: l2)) (hn : (0 :: (l1 ++ x :: l2)).Nodup) :
    Stands (upd nx (l1.getLastD 0) (l2.headD 0)) (upd pv (l2.headD 0) (l1.getLastD 0)) (l1 ++ l2) := by
  obtain ⟨p, A, hA⟩ : ∃ p A, 0 :: l1 = A ++ [p] := ⟨(0 :: l1).getLast (by simp), (0 :: l1).dropLast, (List.dropLast_concat_getLast (by simp)).symm⟩
  obtain ⟨n, B, hB⟩ : ∃ n B, l2 ++ [0] = n :: B := by
    cases l2 with
    | nil => exact ⟨0, [], rfl⟩
    | cons y t => exact ⟨y, t ++ [0], rfl⟩
  have hp : l1.getLastD 0 = p := by
    have := congrArg (fun l => l.getLastD 0) hA
    simp only [List.getLastD_cons] at this
    rw [this]; simp [List.getLastD_eq_getLast?]
  have hnn : l2.headD 0 = n := by
    cases l2 with
    | nil => simp at hB; simp [hB.1]
    | cons y t => simp at hB; simp [hB.1]
  rw [hp, hnn]
  have hw : 0 :: ((l1 ++ l2) ++ [0]) = A ++ p :: (n :: B) := by
    have : 0 :: ((l1 ++ l2) ++ [0]) = (0 :: l1) ++ (l2 ++ [0]) := by simp
    rw [this, hA, hB]; simp
  have hw' : 0 :: ((l1 ++ x :: l2) ++ [0]) = A ++ p :: (x :: (n :: B)) := by
    have : 0 :: ((l1 ++ x :: l2) ++ [0]) = (0 :: l1) ++ x :: (l2 ++ [0]) := by simp
    rw [this, hA, hB]; simp
  unfold Stands at h ⊢
  rw [hw'] at h
  rw [hw]
  obtain ⟨ha, hb⟩ := Links.append.1 h
  obtain ⟨_, _, _, _, hc⟩ := hb
  have hn' : (0 :: (l1 ++ l2)).Nodup := by
    simp only [List.nodup_cons, List.mem_append, List.mem_cons, not_or, List.nodup_append] at hn ⊢
    exact ⟨⟨hn.1.1, hn.1.2.2⟩, hn.2.1, hn.2.2.1.2, fun a ha b hb => hn.2.2.2 a ha b (.inr hb)⟩
  have hd1 : (A ++ p :: (n :: B).dropLast).Nodup := by
    have : (0 :: ((l1 ++ l2) ++ [0])).dropLast = 0 :: (l1 ++ l2) := by
      rw [show 0 :: ((l1 ++ l2) ++ [0]) = (0 :: (l1 ++ l2)) ++ [0] by simp, List.dropLast_concat]
    rw [hw, List.dropLast_append_of_ne_nil (by simp)] at this
    rw [← this] at hn'
    simpa using hn'
  have hd2 : ((A ++ p :: (n :: B)).tail).Nodup := by
    rw [← hw]
    simp only [List.tail_cons]
    rw [List.nodup_append]
    simp only [List.nodup_cons] at hn'
    exact ⟨hn'.2, by simp, fun a ha b hb => by simp at hb; subst hb; intro hab; subst hab; exact hn'.1 ha⟩
  rw [Links.append]
  refine ⟨ha.mono (fun y hy => ?_) (fun y hy => ?_), upd_same _ _ _, upd_same _ _ _, hc.mono (fun y hy => ?_) (fun y hy => ?_)⟩
  · rw [List.dropLast_concat] at hy
    have hyp : y ≠ p := by
      intro e; subst e
      rw [List.nodup_append] at hd1
      exact hd1.2.2 y hy y (by simp) rfl
    rw [upd_other hyp]
  · have hyn : y ≠ n := by
      rintro rfl
      cases A with
      | nil => simp at hy
      | cons a A' =>
        simp only [List.cons_append, List.tail_cons] at hy hd2
        rw [List.nodup_append] at hd2
        rcases List.mem_append.1 hy with hy | hy
        · exact hd2.2.2 y hy y (by simp) rfl
        · simp at hy; subst hy; simp at hd2
    rw [upd_other hyn]
  · have hyp : y ≠ p := by
      rintro rfl
      rw [List.nodup_append] at hd1
      simp only [List.nodup_cons] at hd1
      exact hd1.2.1.1 hy
    rw [upd_other hyp]
  · simp only [List.tail_cons] at hy
    have hyn : y ≠ n := by
      rintro rfl
      cases A with
      | nil =>
        simp only [List.nil_append, List.tail_cons, List.nodup_cons] at hd2
        exact hd2.1 hy
      | cons a A' =>
        simp only [List.cons_append, List.tail_cons] at hd2
        rw [List.nodup_append] at hd2
        simp only [List.nodup_cons] at hd2
        exact hd2.2.1.2.1 hy
    rw [upd_other hyn]
end Go.Hb
