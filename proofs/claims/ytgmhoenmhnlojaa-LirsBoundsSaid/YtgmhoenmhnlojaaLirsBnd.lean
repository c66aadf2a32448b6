/- What LIRS's text says of hot keys. No program. -/
import Derived.Test.YtgmhoenmhnlojaaLirsTxt
set_option linter.unusedVariables false
set_option linter.unusedSimpArgs false
set_option linter.unnecessarySimpa false
set_option linter.unusedSectionVars false
namespace Go.Hb
def hcL : List UInt8 → Nat
  | a :: b :: t => if a = 59 then 0 else (if a = 47 ∧ b = 104 then 1 else 0) + hcL (b :: t)
  | _ => 0
def plainL (k : ByteArray) : Prop := ∀ b ∈ k.data.toList, b ≠ 47 ∧ b ≠ 59
theorem hcL_skip : ∀ {l T : List UInt8}, (∀ b ∈ l, b ≠ 47 ∧ b ≠ 59) → hcL (l ++ T) = hcL T
  | [], T, _ => rfl
  | a :: l, T, h => by
    have ha := h a (.head _)
    have ih := hcL_skip (l := l) (T := T) fun b hb => h b (.tail _ hb)
    rw [← ih]
    show hcL (a :: (l ++ T)) = _
    cases hc : l ++ T with
    | nil => rfl
    | cons b t =>
      rw [hcL, if_neg ha.2, if_neg (fun h => ha.1 h.1), Nat.zero_add]
theorem hcL_stop (rest : List UInt8) : hcL (59 :: rest) = 0 := by
  cases rest with
  | nil => rfl
  | cons b t => rw [hcL, if_pos rfl]
def entL (e : ByteArray × Int) : List UInt8 := 32 :: (e.1.data.toList ++ (kindT e.2).data.toList)
theorem hcL_ent {e : ByteArray × Int} {T : List UInt8} (hp : plainL e.1) (hk : e.2 = 1 ∨ e.2 = 2 ∨ e.2 = 3) : hcL (entL e ++ T) = (if e.2 = 1 then 1 else 0) + hcL T := by
  have h1 : entL e ++ T = (32 :: e.1.data.toList) ++ ((kindT e.2).data.toList ++ T) := by simp [entL]
  rw [h1, hcL_skip (fun b hb => by
    rcases List.mem_cons.1 hb with rfl | hb
    · decide
    · exact hp b hb)]
  have h2 : ∀ c : UInt8, c ≠ 47 → c ≠ 59 → hcL (47 :: c :: T) = (if c = 104 then 1 else 0) + hcL T := by
    intro c h47 h59
    have h3 : hcL (c :: T) = hcL T := hcL_skip (l := [c]) fun b hb => by rw [List.mem_singleton] at hb; rw [hb]; exact ⟨h47, h59⟩
    rw [hcL, if_neg (by decide), h3]
    congr 1
    by_cases hc : c = 104
    · rw [if_pos hc, if_pos ⟨rfl, hc⟩]
    · rw [if_neg hc, if_neg (fun h => hc h.2)]
  rcases hk with h | h | h
  · rw [h]; exact h2 104 (by decide) (by decide)
  · rw [h]; exact h2 99 (by decide) (by decide)
  · rw [h]; exact h2 103 (by decide) (by decide)
theorem hcL_ents : ∀ {S : SL} {T : List UInt8}, (∀ e ∈ S, plainL e.1) → (∀ e ∈ S, e.2 = 1 ∨ e.2 = 2 ∨ e.2 = 3) → hcL (S.flatMap entL ++ T) = lCnt S 1 + hcL T
  | [], T, _, _ => by simp [lCnt]
  | e :: S, T, hp, hk => by
    have ih := hcL_ents (S := S) (T := T) (fun a ha => hp a (.tail _ ha)) fun a ha => hk a (.tail _ ha)
    rw [List.flatMap_cons, List.append_assoc, hcL_ent (hp e (.head _)) (hk e (.head _)), ih]
    unfold lCnt
    rw [List.countP_cons]
    simp only [decide_eq_true_eq]
    omega
theorem lTxtS_bytes : ∀ (S : SL) (a : ByteArray), (S.foldl (fun a e => a ++ ((tSp ++ e.1) ++ kindT e.2)) a).data.toList = a.data.toList ++ S.flatMap entL
  | [], a => by simp
  | e :: S, a => by
    rw [List.foldl_cons, lTxtS_bytes S, List.flatMap_cons]
    simp [entL, tSp]
theorem lTxtQ_bytes : ∀ (q : List ByteArray) (a : ByteArray), ∃ r, (q.foldl (fun a k => a ++ (tSp ++ k)) a).data.toList = a.data.toList ++ r
  | [], a => ⟨[], by simp⟩
  | k :: q, a => by
    obtain ⟨r, hr⟩ := lTxtQ_bytes q (a ++ (tSp ++ k))
    refine ⟨(tSp ++ k).data.toList ++ r, ?_⟩
    rw [List.foldl_cons, hr]; simp
theorem lTxt_hot {x : LirsS} (h : LW x) (hp : ∀ e ∈ x.s, plainL e.1) : hcL (lTxt x).data.toList = lCnt x.s 1 := by
  obtain ⟨r, hr⟩ := lTxtQ_bytes x.q (lTxtS x.s ++ ⟨#[59, 81, 58]⟩)
  have h1 : (lTxt x).data.toList = [83, 58] ++ (x.s.flatMap entL ++ 59 :: ([81, 58] ++ r)) := by
    unfold lTxt lTxtQ
    rw [hr]
    have h2 : (lTxtS x.s).data.toList = [83, 58] ++ x.s.flatMap entL := lTxtS_bytes x.s ⟨#[83, 58]⟩
    have h3 : (lTxtS x.s ++ (⟨#[59, 81, 58]⟩ : ByteArray)).data.toList = (lTxtS x.s).data.toList ++ [59, 81, 58] := by simp
    rw [h3, h2]; simp
  rw [h1, hcL_skip (by intro b hb; simp at hb; rcases hb with rfl | rfl <;> decide), hcL_ents hp h.kinds, hcL_stop]
  rfl
/-- step by step -/
theorem hcL_step {B : List UInt8} {i : Nat} (hi : i + 1 < B.length) : hcL (B.drop i) = if (B[i]?.getD 0) = 59 then 0 else (if (B[i]?.getD 0) = 47 ∧ (B[i + 1]?.getD 0) = 104 then 1 else 0) + hcL (B.drop (i + 1)) := by
  have h1 : B.drop i = B[i] :: B.drop (i + 1) := List.drop_eq_getElem_cons (by omega)
  have h2 : B.drop (i + 1) = B[i + 1] :: B.drop (i + 1 + 1) := List.drop_eq_getElem_cons (by omega)
  rw [h1, h2, hcL, ← h2]
  rw [List.getElem?_eq_getElem (show i < B.length by omega), List.getElem?_eq_getElem (show i + 1 < B.length by omega)]
  rfl
theorem hcL_end {B : List UInt8} {i : Nat} (hi : B.length ≤ i + 1) : hcL (B.drop i) = 0 := by
  match h : B.drop i with
  | [] => rfl
  | [a] => rfl
  | a :: b :: t =>
    have := congrArg List.length h
    simp only [List.length_drop, List.length_cons] at this
    omega
end Go.Hb
