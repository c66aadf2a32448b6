/- LIRS: hot keys stay. No program. -/
import Derived.Test.YtgmhoenmhnlojaaLirsTxt
import Derived.Test.YtgmhoenmhnlojaaLirsRef2
set_option linter.unusedVariables false
set_option linter.unusedSimpArgs false
set_option linter.unnecessarySimpa false
set_option linter.unusedSectionVars false
namespace Go.Hb
/-- hot keys H, all known keys K -/
structure LHot (c : Int) (x : LirsS) (n : Nat) (H : List ByteArray) (K : ByteArray → Prop) : Prop where
  ok : LOk c x
  cnt : lCnt x.s 1 = n
  hot : ∀ h ∈ H, (h, (1 : Int)) ∈ x.s
  known : ∀ k, (k ∈ lKeys x.s ∨ k ∈ x.q) → K k
section
variable {c : Int} {x y : LirsS} {n : Nat} {H : List ByteArray} {K : ByteArray → Prop} {k : ByteArray}
theorem lFp_keys {z : LirsS} {j : ByteArray} (h : j ∈ lKeys (lFp c z).s) : j ∈ lKeys z.s := by
  obtain ⟨e, he, rfl⟩ := List.mem_map.1 h
  exact List.mem_map.2 ⟨e, ((lPrune_sub _).trans (lForgetN_sub _ _)).subset he, rfl⟩
theorem lFp_hot {z : LirsS} {j : ByteArray} (hw : LW z) (h : (j, (1 : Int)) ∈ z.s) : (j, (1 : Int)) ∈ (lFp c z).s := by
  have h1 := (lFp_res (c := c) hw.sn).1
  have h2 : j ∈ lRes (lFp c z) := by rw [h1]; exact mem_lRes.2 (.inr h)
  rcases mem_lRes.1 h2 with h3 | h3
  · exact absurd h3 (hw.hotq _ h rfl)
  · exact h3
/-- behind the making of room -/
theorem LHot.room (h : LHot c x n H K) (hn : (n : Int) = lMost c) : LHot c (lRoom c x).2 n H K := by
  have hc1 := h.ok.c1
  have hmp := lMost_pos hc1
  have hw := h.ok.w
  unfold lRoom
  split
  · rename_i hl
    have h0 : lLen x ≠ 0 := by omega
    obtain ⟨_, hev⟩ := lEvict_ok h.ok h0
    obtain ⟨q1, t, hq⟩ : ∃ q1 t, x.q = q1 :: t := by
      cases hh : x.q with
      | nil => exfalso; unfold lLen at hl; rw [hh, h.cnt] at hl; simp only [List.length_nil, Nat.zero_add] at hl; omega
      | cons a t => exact ⟨a, t, rfl⟩
    have e1 : (lEvict c x).2 = lFp c ⟨lGhost x.s q1, t⟩ := by
      unfold lEvict
      rw [if_neg h0]
      have e0 : lEv0 x = x := if_neg (by rw [hq]; simp)
      rw [e0, hq]; rfl
    have hwg := hw.ghost hq
    have hno : (q1, (1 : Int)) ∉ x.s := fun hx => hw.hotq _ hx rfl (by rw [hq]; exact .head _)
    have hc0 := lCnt_out (k := q1) hw.sn 1
    rw [if_neg hno] at hc0
    have hcg := (lCnt_ghost (k := q1) hw.sn).1
    refine ⟨hev.ok, ?_, fun j hj => ?_, fun j hj => ?_⟩
    · show lCnt (lEvict c x).2.s 1 = n
      rw [e1, (lFp_res hwg.sn).2.2.1]
      show lCnt (lGhost x.s q1) 1 = n
      have := h.cnt
      omega
    · show (j, (1 : Int)) ∈ (lEvict c x).2.s
      rw [e1]
      have hjs := h.hot j hj
      refine lFp_hot hwg (mem_lGhost.2 (.inl ⟨hjs, fun he => hno ?_⟩))
      have he : j = q1 := he
      rw [← he]; exact hjs
    · have hj : j ∈ lKeys (lEvict c x).2.s ∨ j ∈ (lEvict c x).2.q := hj
      rw [e1] at hj
      rcases hj with hj | hj
      · have := lFp_keys hj
        rw [lKeys_ghost] at this
        exact h.known j (.inl this)
      · exact h.known j (.inr (by rw [hq]; exact .tail _ hj))
  · exact h
/-- one that nobody knows comes: hot, while there may be more -/
theorem LHot.warm (h : LHot c x n H K) (hk : ¬ K k) (hz : k.size < 64) (hn : (n : Int) < lMost c) (hl : (lLen x : Int) < c) :
    LHot c (lAcc c x k).2 (n + 1) (H ++ [k]) (fun j => K j ∨ j = k) := by
  have hw := h.ok.w
  have hks : k ∉ lKeys x.s := fun hx => hk (h.known k (.inl hx))
  have hkq : k ∉ x.q := fun hx => hk (h.known k (.inr hx))
  have hno : (k, (1 : Int)) ∉ x.s := fun hx => hks (List.mem_map.2 ⟨_, hx, rfl⟩)
  have hno2 : ¬ lIs x.s k = 1 := fun hx => hno ((lIs_iff hw.sn (by decide)).1 hx)
  have hok := (lAcc_law h.ok (k := k) hz).1
  have e1 : (lAcc c x k).2 = lFp c ⟨lTop x.s k 1, x.q⟩ := by
    unfold lAcc
    rw [if_neg (fun hx => hx.elim hno2 fun hx => hkq hx.1), if_neg hkq]
    have e2 : lRoom c x = ([], x) := if_neg (by omega)
    rw [e2]
    simp only
    unfold lNew
    rw [if_pos (.inl (by rw [h.cnt]; exact hn)), heats_new hw hkq hno (by rw [h.cnt]; exact hn)]
  have hwt : LW ⟨lTop x.s k 1, x.q⟩ := by
    have := hw.heat (k := k) hz
    unfold lHeat0 at this
    rw [gTake_not hkq] at this
    exact this
  refine ⟨hok, ?_, fun j hj => ?_, fun j hj => ?_⟩
  · rw [e1, (lFp_res hwt.sn).2.2.1]
    show lCnt (lTop x.s k 1) 1 = n + 1
    rw [lCnt_top, lOut_not hks, h.cnt, if_pos rfl]
  · rw [e1]
    refine lFp_hot hwt (mem_lTop.2 ?_)
    rcases List.mem_append.1 hj with hj | hj
    · exact .inl ⟨h.hot j hj, fun he => hk (by rw [← (show j = k from he)]; exact h.known j (.inl (List.mem_map.2 ⟨_, h.hot j hj, rfl⟩)))⟩
    · rw [List.mem_singleton] at hj
      exact .inr (by rw [hj])
  · rw [e1] at hj
    rcases hj with hj | hj
    · have := lFp_keys hj
      rw [show (⟨lTop x.s k 1, x.q⟩ : LirsS).s = lTop x.s k 1 from rfl, lKeys_top, List.mem_append, List.mem_singleton] at this
      rcases this with hx | hx
      · exact .inl (h.known j (.inl (gTake_mem.1 hx).1))
      · exact .inr hx
    · exact .inl (h.known j (.inr hj))
/-- .. cold, when there are as many hot ones as may be -/
theorem LHot.scan (h : LHot c x n H K) (hk : ¬ K k) (hz : k.size < 64) (hn : (n : Int) = lMost c) : LHot c (lAcc c x k).2 n H (fun j => K j ∨ j = k) := by
  have hw := h.ok.w
  have hks : k ∉ lKeys x.s := fun hx => hk (h.known k (.inl hx))
  have hkq : k ∉ x.q := fun hx => hk (h.known k (.inr hx))
  have hno : (k, (1 : Int)) ∉ x.s := fun hx => hks (List.mem_map.2 ⟨_, hx, rfl⟩)
  have hno2 : ¬ lIs x.s k = 1 := fun hx => hno ((lIs_iff hw.sn (by decide)).1 hx)
  have hok := (lAcc_law h.ok (k := k) hz).1
  have hR := h.room hn
  generalize hy : (lRoom c x).2 = y at hR
  have hwy := hR.ok.w
  have hys : k ∉ lKeys y.s := fun hx => hk (hR.known k (.inl hx))
  have hyq : k ∉ y.q := fun hx => hk (hR.known k (.inr hx))
  have hyno : (k, (1 : Int)) ∉ y.s := fun hx => hys (List.mem_map.2 ⟨_, hx, rfl⟩)
  have hy3 : ¬ lIs y.s k = 3 := fun hx => hys (List.mem_map.2 ⟨_, (lIs_iff hwy.sn (by decide)).1 hx, rfl⟩)
  have e1 : (lAcc c x k).2 = lFp c (lChills y k) := by
    unfold lAcc
    rw [if_neg (fun hx => hx.elim hno2 fun hx => hkq hx.1), if_neg hkq]
    show lFp c (lNew c (lRoom c x).2 k) = _
    rw [hy]
    unfold lNew
    rw [if_neg (fun hx => hx.elim (fun hx => by rw [hR.cnt] at hx; omega) hy3)]
  have hwt := hwy.chill (k := k) hz
  have hcr := lChills_res hwy hyno
  refine ⟨hok, ?_, fun j hj => ?_, fun j hj => ?_⟩
  · rw [e1, (lFp_res hwt.sn).2.2.1, hcr.2.1, hR.cnt]
  · rw [e1]
    have hj2 := hR.hot j hj
    refine lFp_hot hwt ?_
    show (j, (1 : Int)) ∈ lTop y.s k 2
    exact mem_lTop.2 (.inl ⟨hj2, fun he => hyno (by rw [← (show j = k from he)]; exact hj2)⟩)
  · rw [e1] at hj
    rcases hj with hj | hj
    · have := lFp_keys hj
      rw [show (lChills y k).s = lTop y.s k 2 from rfl, lKeys_top, List.mem_append, List.mem_singleton] at this
      rcases this with hx | hx
      · exact .inl (hR.known j (.inl (gTake_mem.1 hx).1))
      · exact .inr hx
    · have : j ∈ gTake y.q k ++ [k] := hj
      rw [List.mem_append, List.mem_singleton] at this
      rcases this with hx | hx
      · exact .inl (hR.known j (.inr (gTake_mem.1 hx).1))
      · exact .inr hx
theorem lHot0 (h1 : 1 ≤ c) (h2 : c ≤ 1024) : LHot c lirs0 0 [] (fun _ => False) := ⟨lOk0 h1 h2, rfl, by simp, fun k h => by simp [lirs0, lKeys] at h⟩
end
end Go.Hb
