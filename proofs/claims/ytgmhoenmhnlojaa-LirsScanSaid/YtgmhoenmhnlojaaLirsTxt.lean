/- LIRS's state as a text. No program. -/
import Derived.Test.YtgmhoenmhnlojaaLirsAll
set_option linter.unusedVariables false
set_option linter.unusedSimpArgs false
set_option linter.unnecessarySimpa false
set_option linter.unusedSectionVars false
namespace Go.Hb
def tSp : ByteArray := ⟨#[32]⟩
def kindT (i : Int) : ByteArray := if i = 1 then ⟨#[47, 104]⟩ else if i = 2 then ⟨#[47, 99]⟩ else ⟨#[47, 103]⟩
def lTxtS (S : SL) : ByteArray := S.foldl (fun a e => a ++ ((tSp ++ e.1) ++ kindT e.2)) ⟨#[83, 58]⟩
def lTxtQ (a : ByteArray) (q : List ByteArray) : ByteArray := q.foldl (fun a k => a ++ (tSp ++ k)) (a ++ ⟨#[59, 81, 58]⟩)
def lTxt (x : LirsS) : ByteArray := lTxtQ (lTxtS x.s) x.q
theorem ba_size_append (a b : ByteArray) : (a ++ b).size = a.size + b.size := ByteArray.size_append
theorem bytesL_append (a b : ByteArray) : bytesL (a ++ b) = bytesL a ++ bytesL b := by simp [bytesL]
theorem bytesL_len (a : ByteArray) : (bytesL a).length = a.size := by simp [bytesL]
theorem kindT_size (i : Int) : (kindT i).size = 2 := by
  unfold kindT
  split
  · rfl
  · split <;> rfl
theorem lTxtS_snoc {S : SL} {j : Nat} (hj : j < S.length) : lTxtS (S.take (j + 1)) = lTxtS (S.take j) ++ ((tSp ++ (S.getD j default).1) ++ kindT (S.getD j default).2) := by
  unfold lTxtS
  rw [take_snoc hj, List.foldl_append]; rfl
theorem lTxtQ_snoc {a : ByteArray} {q : List ByteArray} {j : Nat} (hj : j < q.length) : lTxtQ a (q.take (j + 1)) = lTxtQ a (q.take j) ++ (tSp ++ q.getD j default) := by
  unfold lTxtQ
  rw [take_snoc hj, List.foldl_append]; rfl
theorem lTxtS_size {S : SL} (h : ∀ e ∈ S, e.1.size < 64) : ∀ j, j ≤ S.length → (lTxtS (S.take j)).size ≤ 2 + 67 * j
  | 0, _ => by simp [lTxtS]; decide
  | j + 1, hj => by
    rw [lTxtS_snoc (by omega), ba_size_append, ba_size_append, ba_size_append, kindT_size]
    have h1 := lTxtS_size h j (by omega)
    have h2 := h _ (getD_mem (d := default) (show j < S.length by omega))
    have h3 : tSp.size = 1 := rfl
    omega
theorem lTxtQ_size {a : ByteArray} {q : List ByteArray} (h : ∀ k ∈ q, k.size < 64) : ∀ j, j ≤ q.length → (lTxtQ a (q.take j)).size ≤ a.size + 3 + 65 * j
  | 0, _ => by
    have : (⟨#[59, 81, 58]⟩ : ByteArray).size = 3 := rfl
    simp only [lTxtQ, List.take_zero, List.foldl_nil, ba_size_append]; omega
  | j + 1, hj => by
    rw [lTxtQ_snoc (by omega), ba_size_append, ba_size_append]
    have h1 := lTxtQ_size (a := a) h j (by omega)
    have h2 := h _ (getD_mem (d := default) (show j < q.length by omega))
    have h3 : tSp.size = 1 := rfl
    omega
theorem lTxt_size {x : LirsS} (h : LW x) : (lTxt x).size ≤ 5 + 67 * x.s.length + 65 * x.q.length := by
  have h1 := lTxtS_size h.ssm x.s.length (Nat.le_refl _)
  have h2 := lTxtQ_size (a := lTxtS x.s) h.qsm x.q.length (Nat.le_refl _)
  rw [List.take_length] at h1 h2
  unfold lTxt; omega
theorem lTxtQ_pos {a : ByteArray} {q : List ByteArray} : (lTxtQ a q).size ≠ 0 := by
  have : ∀ (q : List ByteArray) (a : ByteArray), a.size ≤ (q.foldl (fun a k => a ++ (tSp ++ k)) a).size := by
    intro q
    induction q with
    | nil => intro a; exact Nat.le_refl _
    | cons k q ih =>
      intro a
      rw [List.foldl_cons]
      refine Nat.le_trans ?_ (ih _)
      rw [ba_size_append]; omega
  have h2 := this q (a ++ ⟨#[59, 81, 58]⟩)
  rw [ba_size_append] at h2
  have h3 : (⟨#[59, 81, 58]⟩ : ByteArray).size = 3 := rfl
  unfold lTxtQ
  omega
end Go.Hb
