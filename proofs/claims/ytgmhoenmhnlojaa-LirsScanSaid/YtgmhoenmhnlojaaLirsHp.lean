/- lirs.Engine: what its lists and its index hold. No program. -/
import Derived.Test.YtgmhoenmhnlojaaLirsPure
import Derived.Test.YtgmhoenmhnlojaaIndexHp
set_option linter.unusedVariables false
set_option linter.unusedSimpArgs false
set_option linter.unnecessarySimpa false
set_option linter.unusedSectionVars false
namespace Go.Hb
/-- a test as a word of its sides -/
class IteP (b : Bool) (p q : outParam Prop) : Prop where
  t : b = true → p
  f : b = false → q
instance (priority := low) IteP.any {b : Bool} : IteP b (b = true) (b = false) := ⟨id, id⟩
instance IteP.dec {p : Prop} [Decidable p] : IteP (decide p) p (¬ p) := ⟨of_decide_eq_true, of_decide_eq_false⟩
instance IteP.ndec {p : Prop} [Decidable p] : IteP (!decide p) (¬ p) p := ⟨fun h => by simpa using h, fun h => by simpa using h⟩
instance IteP.eqI {a b : Int} : IteP (a == b) (a = b) (¬ a = b) := ⟨fun h => by simpa using h, fun h => by simpa using h⟩
instance IteP.neI {a b : Int} : IteP (a != b) (¬ a = b) (a = b) := ⟨fun h => by simpa using h, fun h => by simpa using h⟩
instance IteP.eqS {a b : ByteArray} : IteP (sEq a b) (a = b) (¬ a = b) := ⟨fun h => by rw [sEq_eq] at h; simpa using h, fun h => by rw [sEq_eq] at h; simpa using h⟩
instance IteP.neS {a b : ByteArray} : IteP (!sEq a b) (¬ a = b) (a = b) := ⟨fun h => by rw [sEq_eq] at h; simpa using h, fun h => by rw [sEq_eq] at h; simpa using h⟩
theorem ite_by {w : World} {b : Bool} {p q : Prop} {K M : WP} [h : IteP b p q] (h1 : p → K w) (h2 : q → M w) : ite2 b K M w := ite_cases (fun e => h1 (h.t e)) fun e => h2 (h.f e)
abbrev LRow := List (Nat × ByteArray)
def rowHd (row : LRow) (k : ByteArray) : Int := ((row.find? fun e => decide (e.2 = k)).map fun e => (e.1 : Int)).getD 0
def rowDel (row : LRow) (k : ByteArray) : LRow := row.filter fun e => decide (e.2 ≠ k)
theorem rowDel_keys (row : LRow) (k : ByteArray) : (rowDel row k).map (·.2) = gTake (row.map (·.2)) k := by unfold rowDel gTake; rw [List.filter_map]; rfl
theorem rowHd_none {row : LRow} {k : ByteArray} (h : k ∉ row.map (·.2)) : rowHd row k = 0 := by
  unfold rowHd
  have : (row.find? fun e => decide (e.2 = k)) = none := by
    rw [List.find?_eq_none]
    intro e he
    simp only [decide_eq_true_eq]
    intro hk
    exact h (List.mem_map.2 ⟨e, he, hk⟩)
  rw [this]; rfl
theorem rowHd_del_ne {row : LRow} {k key : ByteArray} (h : k ≠ key) : rowHd (rowDel row key) k = rowHd row k := by
  unfold rowHd rowDel
  rw [List.find?_filter]
  congr 2
  apply congrFun
  apply congrArg
  funext e
  by_cases hk : e.2 = k
  · simp [hk, h]
  · simp [hk]
theorem rowHd_del {row : LRow} {key : ByteArray} : rowHd (rowDel row key) key = 0 := rowHd_none (by rw [rowDel_keys]; exact fun h => (gTake_mem.1 h).2 rfl)
theorem rowHd_snoc_ne {row : LRow} {k key : ByteArray} {h : Nat} (hk : k ≠ key) : rowHd (row ++ [(h, key)]) k = rowHd row k := by
  unfold rowHd
  rw [List.find?_append]
  have : ([(h, key)].find? fun e => decide (e.2 = k)) = none := by simp [Ne.symm hk]
  rw [this, Option.or_none]
theorem rowHd_snoc {row : LRow} {key : ByteArray} {h : Nat} (hk : key ∉ row.map (·.2)) : rowHd (row ++ [(h, key)]) key = (h : Int) := by
  unfold rowHd
  rw [List.find?_append]
  have : (row.find? fun e => decide (e.2 = key)) = none := by
    rw [List.find?_eq_none]
    intro e he
    simp only [decide_eq_true_eq]
    intro h2
    exact hk (List.mem_map.2 ⟨e, he, h2⟩)
  rw [this]; simp
theorem rowHd_at {row : LRow} {k : ByteArray} (hn : (row.map (·.2)).Nodup) {i : Nat} {e : Nat × ByteArray} (h : row[i]? = some e) (hk : e.2 = k) : rowHd row k = (e.1 : Int) := by
  induction row generalizing i with
  | nil => simp at h
  | cons a row ih =>
    rw [List.map_cons, List.nodup_cons] at hn
    cases i with
    | zero =>
      simp only [List.getElem?_cons_zero, Option.some.injEq] at h
      subst h
      unfold rowHd; rw [List.find?_cons_of_pos (by simpa using hk)]; rfl
    | succ i =>
      simp only [List.getElem?_cons_succ] at h
      have hne : a.2 ≠ k := fun ha => hn.1 (List.mem_map.2 ⟨e, List.mem_of_getElem? h, by rw [hk, ha]⟩)
      have := ih hn.2 h
      unfold rowHd at this ⊢
      rw [List.find?_cons_of_neg (by simpa using hne)]; exact this
theorem erase_del {row : LRow} {k : ByteArray} (hn : (row.map (·.2)).Nodup) {i : Nat} {e : Nat × ByteArray} (h : row[i]? = some e) (hk : e.2 = k) : row.eraseIdx i = rowDel row k := by
  induction row generalizing i with
  | nil => simp at h
  | cons a row ih =>
    rw [List.map_cons, List.nodup_cons] at hn
    cases i with
    | zero =>
      simp only [List.getElem?_cons_zero, Option.some.injEq] at h
      subst h
      have h1 : rowDel row k = row := by
        unfold rowDel
        rw [List.filter_eq_self]
        intro x hx
        exact decide_eq_true fun hxk => hn.1 (List.mem_map.2 ⟨x, hx, by rw [hxk, hk]⟩)
      unfold rowDel
      rw [List.filter_cons_of_neg (by simpa using hk)]
      exact h1.symm
    | succ i =>
      simp only [List.getElem?_cons_succ] at h
      have hne : a.2 ≠ k := fun ha => hn.1 (List.mem_map.2 ⟨e, List.mem_of_getElem? h, by rw [hk, ha]⟩)
      have := ih hn.2 h
      unfold rowDel at this ⊢
      rw [List.filter_cons_of_pos (by simpa using hne), List.eraseIdx_cons_succ, this]
theorem del_none {row : LRow} {k : ByteArray} (h : k ∉ row.map (·.2)) : rowDel row k = row := by
  unfold rowDel
  rw [List.filter_eq_self]
  intro x hx
  exact decide_eq_true fun hxk => h (List.mem_map.2 ⟨x, hx, hxk⟩)
/-- a handle that is a key's, or 0 -/
theorem rem_hd {row : LRow} {k : ByteArray} (hn : (row.map (·.2)).Nodup) (hh : (row.map (·.1)).Nodup) (hp : ∀ e ∈ row, 0 < e.1) :
    (match rAt row (rowHd row k) with | some i => row.eraseIdx i | none => row) = rowDel row k ∧ ((rAt row (rowHd row k)).isSome = decide (k ∈ row.map (·.2))) := by
  by_cases hk : k ∈ row.map (·.2)
  · obtain ⟨e, he, hek⟩ := List.mem_map.1 hk
    obtain ⟨i, hi, hie⟩ := List.mem_iff_getElem.1 he
    have h1 : row[i]? = some e := by rw [List.getElem?_eq_getElem hi, hie]
    have h2 := rowHd_at hn h1 hek
    have h3 := rAt_of hh h1
    rw [h2, h3]
    exact ⟨erase_del hn h1 hek, by simp [hk]⟩
  · rw [rowHd_none hk]
    have : rAt row 0 = none := by
      rw [rAt_none]
      intro e he
      have := hp e he
      omega
    rw [this]
    exact ⟨(del_none hk).symm, by simp [hk]⟩
theorem lst_pos {W w : World} {M : List HP} {b : Nat} {row : LRow} {free : List Nat} (h : Sat W w (lst .string b row free :: M)) : (row.map (·.1)).Nodup ∧ ∀ e ∈ row, 0 < e.1 := by
  refine ⟨lst_nodup h, fun e he => ?_⟩
  obtain ⟨s, f, ls, hi, _⟩ := lst_open h
  have h1 : e.1 ∈ (rowV Value.string row).map (·.1) := by rw [rowV_fst]; exact List.mem_map.2 ⟨e, he, rfl⟩
  exact ((hi.all e.1).1 (.inl h1)).1

/-! what the index says -/
abbrev LE := Int × Int × Int
def lK (S : SL) (q : List ByteArray) (k : ByteArray) : Int := if k ∈ lKeys S then lIs S k else if k ∈ q then 2 else 0
abbrev LM := List (ByteArray × LE)
def lG (m : LM) (k : ByteArray) : LE := (mGet m k).getD (0, 0, 0)
theorem lG_put {m : LM} (hn : (m.map (·.1)).Nodup) (key : ByteArray) (n : LE) (k : ByteArray) : lG (mPut m key n) k = if k = key then n else lG m k := by
  have hput : ∀ x, (x, lG (mPut m key n) x) = (x, lG (mPut m key n) x) := fun _ => rfl
  unfold lG
  have hnd : ((mPut m key n).map (·.1)).Nodup := by
    unfold mPut
    split
    · rw [mSet_keys]; exact hn
    · rename_i h
      rw [List.map_cons, List.nodup_cons]
      refine ⟨fun hm => ?_, hn⟩
      obtain ⟨e, he, hek⟩ := List.mem_map.1 hm
      exact mGet_none.1 h e he hek
  by_cases hk : k = key
  · subst hk
    rw [if_pos rfl]
    have : mGet (mPut m k n) k = some n := by
      rw [mGet_some hnd]
      unfold mPut
      split
      · rename_i u hu
        unfold mSet
        exact List.mem_map.2 ⟨(k, u), (mGet_some hn).1 hu, by simp⟩
      · exact .head _
    rw [this]; rfl
  · rw [if_neg hk]
    congr 1
    cases hg : mGet m k with
    | none =>
      rw [mGet_none] at hg ⊢
      intro e he
      unfold mPut at he
      split at he
      · unfold mSet at he
        obtain ⟨a, ha, rfl⟩ := List.mem_map.1 he
        split
        · exact Ne.symm hk
        · exact hg a ha
      · rcases List.mem_cons.1 he with rfl | he
        · exact Ne.symm hk
        · exact hg e he
    | some v =>
      rw [mGet_some hnd]
      have hm := (mGet_some hn).1 hg
      unfold mPut
      split
      · unfold mSet
        exact List.mem_map.2 ⟨(k, v), hm, by simp [hk]⟩
      · exact .tail _ hm
theorem mPut_nodup {m : LM} (hn : (m.map (·.1)).Nodup) (key : ByteArray) (n : LE) : ((mPut m key n).map (·.1)).Nodup := by
  unfold mPut
  split
  · rw [mSet_keys]; exact hn
  · rename_i h
    rw [List.map_cons, List.nodup_cons]
    refine ⟨fun hm => ?_, hn⟩
    obtain ⟨e, he, hek⟩ := List.mem_map.1 hm
    exact mGet_none.1 h e he hek
theorem lG_del {m : LM} (hn : (m.map (·.1)).Nodup) (key : ByteArray) (k : ByteArray) : lG (mDel m key) k = if k = key then (0, 0, 0) else lG m k := by
  unfold lG
  have hnd : ((mDel m key).map (·.1)).Nodup := hn.sublist (List.filter_sublist.map _)
  by_cases hk : k = key
  · subst hk
    rw [if_pos rfl]
    have : mGet (mDel m k) k = none := by
      rw [mGet_none]
      intro e he
      simpa using (List.mem_filter.1 he).2
    rw [this]; rfl
  · rw [if_neg hk]
    congr 1
    cases hg : mGet m k with
    | none =>
      rw [mGet_none] at hg ⊢
      intro e he
      exact hg e (List.mem_filter.1 he).1
    | some v =>
      rw [mGet_some hnd]
      exact List.mem_filter.2 ⟨(mGet_some hn).1 hg, by simpa using hk⟩
/-- set: with nothing it is forgotten -/
def lSet (m : LM) (key : ByteArray) (n : LE) : LM := if n.1 = 0 then mDel m key else mPut m key n
structure LX (N : Nat) (x : LirsS) (sr : LRow) (sf : List Nat) (qr : LRow) (qf : List Nat) (m : LM) : Prop where
  w : LW x
  sk : sr.map (·.2) = lKeys x.s
  qk : qr.map (·.2) = x.q
  ent : ∀ k, lG m k = (lK x.s x.q k, rowHd sr k, rowHd qr k)
  mn : (m.map (·.1)).Nodup
  msm : ∀ e ∈ m, e.1.size < 4611686018427387904
  ns : sr.length + sf.length ≤ N
  nq : qr.length + qf.length ≤ N
  nz : ∀ e ∈ m, e.2.1 ≠ 0
section
variable {N : Nat} {x y : LirsS} {sr sr' qr qr' : LRow} {sf sf' qf qf' : List Nat} {m : LM} {key : ByteArray}
theorem nodup_sub_len : ∀ {a b : List ByteArray}, a.Nodup → (∀ k ∈ a, k ∈ b) → a.length ≤ b.length
  | [], _, _, _ => by simp
  | k :: a, b, hn, hs => by
    rw [List.nodup_cons] at hn
    have h1 : ∀ j ∈ a, j ∈ gTake b k := fun j hj => gTake_mem.2 ⟨hs j (.tail _ hj), fun h => hn.1 (by rw [← h]; exact hj)⟩
    have h2 := nodup_sub_len hn.2 h1
    have h3 : (gTake b k).length < b.length := List.length_filter_lt_length_iff_exists.2 ⟨k, hs k (.head _), by simp⟩
    simp only [List.length_cons]
    omega
theorem LX.nm (h : LX N x sr sf qr qf m) : m.length ≤ N + N := by
  have h1 : (m.map (·.1)).length ≤ (sr.map (·.2) ++ qr.map (·.2)).length := by
    refine nodup_sub_len h.mn fun k hk => ?_
    obtain ⟨e, he, rfl⟩ := List.mem_map.1 hk
    have h2 : lG m e.1 = e.2 := by unfold lG; rw [(mGet_some h.mn).2 he]; rfl
    have h3 := h.nz e he
    rw [← h2, h.ent] at h3
    simp only at h3
    rw [List.mem_append, h.sk, h.qk]
    unfold lK at h3
    by_cases a : e.1 ∈ lKeys x.s
    · exact .inl a
    · rw [if_neg a] at h3
      by_cases b : e.1 ∈ x.q
      · exact .inr b
      · rw [if_neg b] at h3; exact absurd rfl h3
  have := h.ns; have := h.nq
  simp only [List.length_map, List.length_append] at h1
  omega
theorem LX.upd (h : LX N x sr sf qr qf m) (hw : LW y) (hsk : sr'.map (·.2) = lKeys y.s) (hqk : qr'.map (·.2) = y.q) (hz : key.size < 64) {n : LE} {N' : Nat}
    (h1 : ∀ k, k ≠ key → lK y.s y.q k = lK x.s x.q k ∧ rowHd sr' k = rowHd sr k ∧ rowHd qr' k = rowHd qr k) (h2 : n = (lK y.s y.q key, rowHd sr' key, rowHd qr' key)) (h0 : n.1 = 0 → n = (0, 0, 0))
    (ns : sr'.length + sf'.length ≤ N') (nq : qr'.length + qf'.length ≤ N') : LX N' y sr' sf' qr' qf' (lSet m key n) := by
  unfold lSet
  split
  · rename_i hn0
    refine ⟨hw, hsk, hqk, fun k => ?_, h.mn.sublist (List.filter_sublist.map _), mDel_sub (P := fun k => k.size < 4611686018427387904) h.msm, ns, nq, fun e he => h.nz e (List.mem_filter.1 he).1⟩
    rw [lG_del h.mn]
    split
    · rename_i hk; rw [hk, ← h2, h0 hn0]
    · rename_i hk; rw [h.ent, (h1 k hk).1, (h1 k hk).2.1, (h1 k hk).2.2]
  · refine ⟨hw, hsk, hqk, fun k => ?_, mPut_nodup h.mn _ _, mPut_keys (P := fun k => k.size < 4611686018427387904) h.msm (by omega), ns, nq, fun e he => ?_⟩
    rotate_left
    · unfold mPut at he
      split at he
      · unfold mSet at he
        obtain ⟨a, ha, rfl⟩ := List.mem_map.1 he
        split
        · assumption
        · exact h.nz a ha
      · rcases List.mem_cons.1 he with rfl | he
        · assumption
        · exact h.nz e he
    rw [lG_put h.mn]
    split
    · rename_i hk; rw [hk, ← h2]
    · rename_i hk; rw [h.ent, (h1 k hk).1, (h1 k hk).2.1, (h1 k hk).2.2]
theorem lIs_filter {S : SL} {k : ByteArray} (hk : k ≠ key) : lIs (lOut S key) k = lIs S k := by
  unfold lIs lOut
  rw [List.find?_filter]
  congr 2
  apply congrFun
  apply congrArg
  funext e
  by_cases h : e.1 = k
  · simp [h, hk]
  · simp [h]
theorem lIs_snoc_ne {S : SL} {k : ByteArray} {i : Int} (hk : k ≠ key) : lIs (S ++ [(key, i)]) k = lIs S k := by
  unfold lIs
  rw [List.find?_append]
  have : ([(key, i)].find? fun e => decide (e.1 = k)) = none := by simp [Ne.symm hk]
  rw [this, Option.or_none]
theorem lIs_ghost_ne {S : SL} {k : ByteArray} (hk : k ≠ key) : lIs (lGhost S key) k = lIs S k := by
  unfold lIs lGhost
  rw [List.find?_map]
  induction S with
  | nil => rfl
  | cons a S ih =>
    by_cases ha : a.1 = k
    · rw [List.find?_cons_of_pos (by simp [ha, hk]), List.find?_cons_of_pos (by simpa using ha)]
      simp [ha, hk]
    · rw [List.find?_cons_of_neg, List.find?_cons_of_neg (by simpa using ha)]
      · exact ih
      · simp only [Function.comp]
        split
        · simpa using Ne.symm hk
        · simpa using ha
theorem lKeys_out_mem {S : SL} {k : ByteArray} (hk : k ≠ key) : k ∈ lKeys (lOut S key) ↔ k ∈ lKeys S := by rw [lKeys_out, gTake_mem]; exact ⟨fun h => h.1, fun h => ⟨h, hk⟩⟩
theorem lKeys_snoc {S : SL} {i : Int} : lKeys (S ++ [(key, i)]) = lKeys S ++ [key] := by simp [lKeys]
/-- the kind of another key -/
theorem lK_ne {S S' : SL} {q q' : List ByteArray} {k : ByteArray} (h1 : k ∈ lKeys S' ↔ k ∈ lKeys S) (h2 : lIs S' k = lIs S k) (h3 : k ∈ q' ↔ k ∈ q) : lK S' q' k = lK S q k := by
  unfold lK
  by_cases a : k ∈ lKeys S
  · rw [if_pos a, if_pos (h1.2 a), h2]
  · rw [if_neg a, if_neg (fun h => a (h1.1 h))]
    by_cases b : k ∈ q
    · rw [if_pos b, if_pos (h3.2 b)]
    · rw [if_neg b, if_neg (fun h => b (h3.1 h))]
theorem lIs_top (S : SL) (i : Int) : lIs (lTop S key i) key = i := by
  unfold lTop lIs
  rw [List.find?_append]
  have : (lOut S key).find? (fun e => decide (e.1 = key)) = none := by
    rw [List.find?_eq_none]
    intro e he
    simpa using (mem_lOut.1 he).2
  rw [this]; simp
theorem lKeys_top (S : SL) (i : Int) : lKeys (lTop S key i) = gTake (lKeys S) key ++ [key] := by unfold lTop; rw [lKeys_snoc, lKeys_out]
theorem lK_top (S : SL) (q : List ByteArray) (i : Int) : lK (lTop S key i) q key = i := by
  unfold lK
  rw [if_pos (by rw [lKeys_top]; simp), lIs_top]
theorem lK_top_ne {S : SL} {q q' : List ByteArray} {i : Int} {k : ByteArray} (hk : k ≠ key) (h3 : k ∈ q' ↔ k ∈ q) : lK (lTop S key i) q' k = lK S q k :=
  lK_ne (by rw [lKeys_top, List.mem_append, List.mem_singleton, gTake_mem]; constructor
            · rintro (h | h)
              · exact h.1
              · exact absurd h hk
            · intro h; exact .inl ⟨h, hk⟩) (by unfold lTop; rw [lIs_snoc_ne hk, lIs_filter hk]) h3
theorem lK_out_ne {S : SL} {q q' : List ByteArray} {k : ByteArray} (hk : k ≠ key) (h3 : k ∈ q' ↔ k ∈ q) : lK (lOut S key) q' k = lK S q k := lK_ne (lKeys_out_mem hk) (lIs_filter hk) h3
theorem lK_out (S : SL) (q : List ByteArray) : lK (lOut S key) q key = if key ∈ q then 2 else 0 := by
  unfold lK
  rw [if_neg (by rw [lKeys_out]; exact fun h => (gTake_mem.1 h).2 rfl)]
theorem gTake_ne_mem {q : List ByteArray} {k : ByteArray} (hk : k ≠ key) : k ∈ gTake q key ↔ k ∈ q := by rw [gTake_mem]; exact ⟨fun h => h.1, fun h => ⟨h, hk⟩⟩
theorem snoc_ne_mem {q : List ByteArray} {k : ByteArray} (hk : k ≠ key) : k ∈ q ++ [key] ↔ k ∈ q := by
  rw [List.mem_append, List.mem_singleton]
  exact ⟨fun h => h.elim id fun h => absurd h hk, .inl⟩
theorem del_not (row : LRow) (k : ByteArray) : k ∉ (rowDel row k).map (·.2) := by rw [rowDel_keys]; exact fun h => (gTake_mem.1 h).2 rfl
theorem lK_one (h : LW x) (k : ByteArray) : lK x.s x.q k = 1 ↔ (k, (1 : Int)) ∈ x.s := by
  unfold lK
  by_cases a : k ∈ lKeys x.s
  · rw [if_pos a]; exact lIs_iff h.sn (by decide)
  · rw [if_neg a]
    have hno : (k, (1 : Int)) ∉ x.s := fun hm => a (List.mem_map.2 ⟨_, hm, rfl⟩)
    constructor
    · intro h; split at h <;> omega
    · intro h; exact absurd h hno
theorem lK_three (h : LW x) (k : ByteArray) : lK x.s x.q k = 3 ↔ (k, (3 : Int)) ∈ x.s := by
  unfold lK
  by_cases a : k ∈ lKeys x.s
  · rw [if_pos a]; exact lIs_iff h.sn (by decide)
  · rw [if_neg a]
    have hno : (k, (3 : Int)) ∉ x.s := fun hm => a (List.mem_map.2 ⟨_, hm, rfl⟩)
    constructor
    · intro h; split at h <;> omega
    · intro h; exact absurd h hno
theorem lK_two (h : LW x) (k : ByteArray) : lK x.s x.q k = 2 ↔ k ∈ x.q := by
  unfold lK
  by_cases a : k ∈ lKeys x.s
  · rw [if_pos a, lIs_iff h.sn (by decide)]
    constructor
    · intro h2; exact h.coldq _ h2 rfl
    · intro hq
      obtain ⟨e, he, rfl⟩ := List.mem_map.1 a
      rcases h.kinds e he with h1 | h1 | h1
      · exact absurd hq (h.hotq e he h1)
      · rw [← h1]; exact he
      · exact absurd hq (h.ghq e he h1)
  · rw [if_neg a]
    constructor
    · intro h; split at h
      · rename_i hq; exact hq
      · omega
    · intro h; rw [if_pos h]
theorem lK_range (h : LW x) (k : ByteArray) : lK x.s x.q k = 0 ∨ lK x.s x.q k = 1 ∨ lK x.s x.q k = 2 ∨ lK x.s x.q k = 3 := by
  unfold lK
  by_cases a : k ∈ lKeys x.s
  · rw [if_pos a]
    obtain ⟨e, he, rfl⟩ := List.mem_map.1 a
    have : lIs x.s e.1 = e.2 := (lIs_iff h.sn (by rcases h.kinds e he with h1 | h1 | h1 <;> omega)).2 he
    rw [this]
    rcases h.kinds e he with h1 | h1 | h1 <;> simp [h1]
  · rw [if_neg a]; split <;> simp
theorem lOut_lOut (S : SL) (k : ByteArray) : lOut (lOut S k) k = lOut S k := lOut_not (by rw [lKeys_out]; exact fun h => (gTake_mem.1 h).2 rfl)
theorem lOut_top (S : SL) (k : ByteArray) (i : Int) : lOut (lTop S k i) k = lOut S k := by
  have h1 : lOut (lTop S k i) k = lOut (lOut S k) k ++ lOut [(k, i)] k := by unfold lTop lOut; rw [List.filter_append]
  rw [h1, lOut_lOut]; simp [lOut]
theorem lOut_ghost (S : SL) (k : ByteArray) : lOut (lGhost S k) k = lOut S k := by
  unfold lOut lGhost
  induction S with
  | nil => rfl
  | cons a S ih =>
    rw [List.map_cons]
    by_cases h : a.1 = k
    · rw [if_pos h, List.filter_cons_of_neg (by simp), List.filter_cons_of_neg (by simpa using h), ih]
    · rw [if_neg h, List.filter_cons_of_pos (by simpa using h), List.filter_cons_of_pos (by simpa using h), ih]
/-- counts behind a note -/
theorem cnt_by (hx : LW x) (hy : LW y) (h : lOut y.s key = lOut x.s key) :
    (lCnt x.s 1 : Int) + (if lK x.s x.q key = 1 then -1 else 0) + (if lK y.s y.q key = 1 then 1 else 0) = (lCnt y.s 1 : Int) ∧ (lCnt x.s 3 : Int) + (if lK x.s x.q key = 3 then -1 else 0) + (if lK y.s y.q key = 3 then 1 else 0) = (lCnt y.s 3 : Int) := by
  have a1 := lCnt_out (k := key) hx.sn 1
  have a3 := lCnt_out (k := key) hx.sn 3
  have b1 := lCnt_out (k := key) hy.sn 1
  have b3 := lCnt_out (k := key) hy.sn 3
  rw [h] at b1 b3
  simp only [lK_one hx, lK_three hx, lK_one hy, lK_three hy]
  constructor
  · split <;> split <;> simp_all <;> omega
  · split <;> split <;> simp_all <;> omega
/-! a row behind a removal, and behind a push at its end -/
structure RowCut (row : LRow) (free : List Nat) (key : ByteArray) (row' : LRow) (free' : List Nat) : Prop where
  keys : row'.map (·.2) = gTake (row.map (·.2)) key
  ne : ∀ k, k ≠ key → rowHd row' k = rowHd row k
  at0 : rowHd row' key = 0
  len : row'.length + free'.length ≤ row.length + free.length
structure RowPut (row : LRow) (free : List Nat) (key : ByteArray) (row' : LRow) (free' : List Nat) : Prop where
  keys : row'.map (·.2) = gTake (row.map (·.2)) key ++ [key]
  ne : ∀ k, k ≠ key → rowHd row' k = rowHd row k
  len : row'.length + free'.length ≤ row.length + free.length + 1
end
/-! the chunk -/
abbrev LXs := (Nat × Nat × Nat) × (LRow × List Nat × LRow × List Nat × LM)
def eCells (c : Int) (s : Nat × Nat × Nat) (h g : Int) : List Value := [.int .i64 c, .int .i64 (lMost c), .pointer (some ⟨s.1, 0, none⟩), .pointer (some ⟨s.2.1, 0, none⟩), .pointer (some ⟨s.2.2, 0, none⟩), .int .i64 h, .int .i64 g]
abbrev eB (b : Nat) (c : Int) (sb qb xb : Nat) (h g : Int) : HP := blk b [.int .i64 c, .int .i64 (lMost c), .pointer (some ⟨sb, 0, none⟩), .pointer (some ⟨qb, 0, none⟩), .pointer (some ⟨xb, 0, none⟩), .int .i64 h, .int .i64 g]
abbrev rB (b : Nat) (c : Int) (s q : Sl) : HP := blk b [.slice s.a s.n s.c, .slice q.a q.n q.c, .int .i64 c]
def lirR (b : Nat) (c : Int) (N : Nat) (x : LirsS) : HP := exH fun (z : LXs) => andH (LX N x z.2.1 z.2.2.1 z.2.2.2.1 z.2.2.2.2.1 z.2.2.2.2.2)
  (allH [blk b (eCells c z.1 (lCnt x.s 1) (lCnt x.s 3)), lst .string z.1.1 z.2.1 z.2.2.1, lst .string z.1.2.1 z.2.2.2.1 z.2.2.2.2.1, ixr Rec.iii z.1.2.2 0 z.2.2.2.2.2])
section
variable {W w : World} {M L : List HP} {b : Nat} {c : Int} {N : Nat} {x : LirsS}
instance At.lirR : At (lirR b c N x :: L) b (lirR b c N x) (fun x => x :: L) := ⟨here_pos⟩
theorem lir_open (h : Sat W w (lirR b c N x :: M)) : ∃ (sb qb xb : Nat) (sr : LRow) (sf : List Nat) (qr : LRow) (qf : List Nat) (m : LM), LX N x sr sf qr qf m ∧
    Sat W w (blk b [.int .i64 c, .int .i64 (lMost c), .pointer (some ⟨sb, 0, none⟩), .pointer (some ⟨qb, 0, none⟩), .pointer (some ⟨xb, 0, none⟩), .int .i64 (lCnt x.s 1), .int .i64 (lCnt x.s 3)] :: lst .string sb sr sf :: lst .string qb qr qf :: ixr Rec.iii xb 0 m :: M) := by
  obtain ⟨⟨⟨sb, qb, xb⟩, ⟨sr, sf, qr, qf, m⟩⟩, h⟩ := h.openE
  obtain ⟨hi, h⟩ := h.openA
  exact ⟨sb, qb, xb, sr, sf, qr, qf, m, hi, h.openL⟩
theorem lir_shut {sb qb xb : Nat} {sr : LRow} {sf : List Nat} {qr : LRow} {qf : List Nat} {m : LM} {h1 h3 : Int} (hi : LX N x sr sf qr qf m) (e1 : h1 = lCnt x.s 1) (e3 : h3 = lCnt x.s 3)
    (h : Sat W w (blk b [.int .i64 c, .int .i64 (lMost c), .pointer (some ⟨sb, 0, none⟩), .pointer (some ⟨qb, 0, none⟩), .pointer (some ⟨xb, 0, none⟩), .int .i64 h1, .int .i64 h3] :: lst .string sb sr sf :: lst .string qb qr qf :: ixr Rec.iii xb 0 m :: M)) :
    Sat W w (lirR b c N x :: M) := by
  subst e1 e3
  exact Sat.shutE ((sb, qb, xb), (sr, sf, qr, qf, m)) (Sat.shutA hi (Sat.shutL (Ps := [_, _, _, _]) h))
theorem LX.more {N' : Nat} {sr : LRow} {sf : List Nat} {qr : LRow} {qf : List Nat} {m : LM} (h : LX N x sr sf qr qf m) (hN : N ≤ N') : LX N' x sr sf qr qf m :=
  ⟨h.w, h.sk, h.qk, h.ent, h.mn, h.msm, Nat.le_trans h.ns hN, Nat.le_trans h.nq hN, h.nz⟩
theorem lir_more {N' : Nat} (h : Sat W w (lirR b c N x :: M)) (hN : N ≤ N') : Sat W w (lirR b c N' x :: M) := by
  obtain ⟨sb, qb, xb, sr, sf, qr, qf, m, hi, h⟩ := lir_open h
  exact lir_shut (hi.more hN) rfl rfl h
theorem lir_w (h : Sat W w (lirR b c N x :: M)) : LW x ∧ x.s.length ≤ N ∧ x.q.length ≤ N := by
  obtain ⟨sb, qb, xb, sr, sf, qr, qf, m, hi, h⟩ := lir_open h
  have h1 := congrArg List.length hi.sk
  have h2 := congrArg List.length hi.qk
  have := hi.ns; have := hi.nq
  simp only [List.length_map, lKeys] at h1 h2
  exact ⟨hi.w, by omega, by omega⟩
end
end Go.Hb
