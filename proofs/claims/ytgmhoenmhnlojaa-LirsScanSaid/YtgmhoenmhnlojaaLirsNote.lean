/- lirs.Engine: what is noted at each change. No program. -/
import Derived.Test.YtgmhoenmhnlojaaLirsHp
set_option linter.unusedVariables false
set_option linter.unusedSimpArgs false
set_option linter.unnecessarySimpa false
set_option linter.unusedSectionVars false
namespace Go.Hb
theorem rowPlace_of {T : Type} {row : List (Nat × T)} {i : Nat} (h : i < row.length) : rowPlace row i = row[i].1 := by
  unfold rowPlace; rw [List.getD_eq_getElem?_getD, List.getElem?_map, List.getElem?_eq_getElem h]; rfl
theorem rAt_place {T : Type} {row : List (Nat × T)} (hn : (row.map (·.1)).Nodup) {i : Nat} (h : i < row.length) : rAt row (rowPlace row i : Int) = some i := by
  rw [rowPlace_of h]; exact rAt_of hn (List.getElem?_eq_getElem h)
theorem rowNext_place {T : Type} {row : List (Nat × T)} (hn : (row.map (·.1)).Nodup) {i : Nat} (h : i < row.length) : rowNext row (rowPlace row i : Int) = rowPlace row (i + 1) := by
  unfold rowNext; rw [rAt_place hn h]
theorem rowPlace_none {T : Type} {row : List (Nat × T)} {i : Nat} (h : row.length ≤ i) : rowPlace row i = 0 := by
  unfold rowPlace; rw [List.getD_eq_getElem?_getD, List.getElem?_eq_none (by simpa using h)]; rfl
theorem rowVal_place {T : Type} {row : List (Nat × T)} (hn : (row.map (·.1)).Nodup) {i : Nat} (h : i < row.length) : rowVal row (rowPlace row i : Int) = some row[i].2 := by
  unfold rowVal; rw [rAt_place hn h]; simp [h]
theorem rowHd_pos {row : LRow} {k : ByteArray} (hp : ∀ e ∈ row, 0 < e.1) (h : k ∈ row.map (·.2)) : rowHd row k ≠ 0 := by
  unfold rowHd
  cases hf : (row.find? fun e => decide (e.2 = k)) with
  | none =>
    rw [List.find?_eq_none] at hf
    obtain ⟨e, he, hk⟩ := List.mem_map.1 h
    exact absurd (by simpa using hk) (hf e he)
  | some e =>
    have := hp e (List.mem_of_find?_eq_some hf)
    simp; omega
theorem exM_of {L : Nat → WP} {w : World} (m : Nat) (h : L m w) : exM L w := ⟨m, h⟩
def lLow (m : LM) (f : Option ByteArray) : ByteArray × LE := match f with
  | some k => (k, lG m k)
  | none => (⟨#[]⟩, (0, 0, 0))
section
variable {N : Nat} {x y : LirsS} {sr sr' qr qr' : LRow} {sf sf' qf qf' : List Nat} {m : LM} {key : ByteArray}
theorem LX.snd (h : LX N x sr sf qr qf m) : (sr.map (·.2)).Nodup ∧ (qr.map (·.2)).Nodup := ⟨by rw [h.sk]; exact h.w.sn, by rw [h.qk]; exact h.w.qn⟩
theorem LX.q0 (h : LX N x sr sf qr qf m) (hk : key ∉ x.q) : rowHd qr key = 0 := rowHd_none (by rw [h.qk]; exact hk)
theorem LX.s0 (h : LX N x sr sf qr qf m) (hk : key ∉ lKeys x.s) : rowHd sr key = 0 := rowHd_none (by rw [h.sk]; exact hk)
theorem lK_zero (hx : LW x) (h : lK x.s x.q key = 0) : key ∉ lKeys x.s ∧ key ∉ x.q := by
  unfold lK at h
  by_cases a : key ∈ lKeys x.s
  · rw [if_pos a] at h
    exact absurd a ((lIs_zero hx.kinds).1 h)
  · rw [if_neg a] at h
    refine ⟨a, fun hq => ?_⟩
    rw [if_pos hq] at h; omega
theorem lK_at (h : LW x) {e : ByteArray × Int} (he : e ∈ x.s) : lK x.s x.q e.1 = e.2 := by
  have : e.1 ∈ lKeys x.s := List.mem_map.2 ⟨_, he, rfl⟩
  unfold lK
  rw [if_pos this]
  exact (lIs_iff h.sn (by rcases h.kinds _ he with h | h | h <;> omega)).2 he
theorem LX.lift (h : LX N x sr sf qr qf m) {e : Int} (he : (key, e) ∈ x.s) (hne : e ≠ 1) (hc : RowCut sr sf key sr' sf') :
    LX N ⟨lOut x.s key, x.q⟩ sr' sf' qr qf (lSet m key (if lK x.s x.q key = 3 then 0 else lK x.s x.q key, 0, rowHd qr key)) ∧ (if lK x.s x.q key = 3 then 0 else lK x.s x.q key) = lK (lOut x.s key) x.q key := by
  have h2 : (if lK x.s x.q key = 3 then 0 else lK x.s x.q key) = lK (lOut x.s key) x.q key := by
    rw [lK_out]
    by_cases hq : key ∈ x.q
    · rw [(lK_two h.w key).2 hq, if_pos hq]; rfl
    · have a2 : lK x.s x.q key ≠ 2 := fun h2 => hq ((lK_two h.w key).1 h2)
      have a1 : lK x.s x.q key ≠ 1 := fun h1 => hne (nodup_val h.w.sn he ((lK_one h.w key).1 h1))
      rw [if_neg hq]
      rcases lK_range h.w key with a | a | a | a
      · rw [a]; rfl
      · exact absurd a a1
      · exact absurd a a2
      · rw [a]; rfl
  refine ⟨?_, h2⟩
  have hl := hc.len; have ns := h.ns
  refine h.upd (y := ⟨lOut x.s key, x.q⟩) (key := key) (h.w.sub List.filter_sublist) (by rw [hc.keys, h.sk]; exact (lKeys_out _ _).symm) h.qk (h.w.ssm _ he) (fun k hk => ⟨lK_out_ne hk Iff.rfl, hc.ne k hk, rfl⟩) (by rw [h2, hc.at0]) (fun h0 => ?_) (by omega) h.nq
  simp only at h0
  rw [h2, lK_out] at h0
  have hq : key ∉ x.q := fun hq => by rw [if_pos hq] at h0; omega
  rw [h2, lK_out, if_neg hq, h.q0 hq]
theorem LX.heat (h : LX N x sr sf qr qf m) (hz : key.size < 64) (hp : RowPut sr sf key sr' sf') (hc : RowCut qr qf key qr' qf') : LX (N + 1) (lHeat0 x key) sr' sf' qr' qf' (lSet m key (1, rowHd sr' key, 0)) := by
  have hl := hc.len; have ns := h.ns; have hl2 := hp.len; have nq := h.nq
  refine h.upd (h.w.heat hz) (by rw [hp.keys, h.sk]; exact (lKeys_top _ _).symm) (by rw [hc.keys, h.qk]; rfl) hz (fun k hk => ⟨lK_top_ne hk (gTake_ne_mem hk), hp.ne k hk, hc.ne k hk⟩) ?_ (fun h0 => ?_) (by omega) (by omega)
  · rw [hc.at0]; unfold lHeat0; simp only; rw [lK_top]
  · simp at h0
theorem LX.chill (h : LX N x sr sf qr qf m) (hz : key.size < 64) (hp : RowPut sr sf key sr' sf') (hc : RowPut qr qf key qr' qf') : LX (N + 1) (lChills x key) sr' sf' qr' qf' (lSet m key (2, rowHd sr' key, rowHd qr' key)) := by
  have hl := hc.len; have ns := h.ns; have hl2 := hp.len; have nq := h.nq
  refine h.upd (h.w.chill hz) (by rw [hp.keys, h.sk]; exact (lKeys_top _ _).symm) (by rw [hc.keys, h.qk]; rfl) hz (fun k hk => ⟨lK_top_ne hk ((snoc_ne_mem hk).trans (gTake_ne_mem hk)), hp.ne k hk, hc.ne k hk⟩) ?_ (fun h0 => ?_) (by omega) (by omega)
  · unfold lChills; simp only; rw [lK_top]
  · simp at h0
theorem LX.cool (h : LX N x sr sf qr qf m) (he : (key, (1 : Int)) ∈ x.s) (hc : RowCut sr sf key sr' sf') (hp : RowPut qr qf key qr' qf') : LX (N + 1) ⟨lOut x.s key, x.q ++ [key]⟩ sr' sf' qr' qf' (lSet m key (2, 0, rowHd qr' key)) := by
  have hl := hc.len; have ns := h.ns; have hl2 := hp.len; have nq := h.nq
  refine h.upd (h.w.cool he) (by rw [hc.keys, h.sk]; exact (lKeys_out _ _).symm) (by rw [hp.keys, h.qk, gTake_not (h.w.hotq _ he rfl)]) (h.w.ssm _ he) (fun k hk => ⟨lK_out_ne hk (snoc_ne_mem hk), hc.ne k hk, hp.ne k hk⟩) ?_ (fun h0 => ?_) (by omega) (by omega)
  · rw [lK_out, hc.at0, if_pos (by simp)]
  · simp at h0
theorem LX.ghost (h : LX N x sr sf qr qf m) {t : List ByteArray} (hq : x.q = key :: t) (hpos : ∀ e ∈ sr, 0 < e.1) (hc : RowCut qr qf key qr' qf') :
    LX N ⟨lGhost x.s key, t⟩ sr sf qr' qf' (lSet m key (if rowHd sr key = 0 then 0 else 3, rowHd sr key, 0)) ∧ (if rowHd sr key = 0 then (0 : Int) else 3) = lK (lGhost x.s key) t key := by
  have hl := hc.len; have ns := h.ns; have nq := h.nq
  have hn := h.w.qn
  rw [hq, List.nodup_cons] at hn
  have e2 : (if rowHd sr key = 0 then (0 : Int) else 3) = lK (lGhost x.s key) t key := by
    have hw := h.w.ghost hq
    by_cases a : key ∈ lKeys x.s
    · have : rowHd sr key ≠ 0 := rowHd_pos hpos (by rw [h.sk]; exact a)
      rw [if_neg this]
      exact ((lK_three (x := ⟨lGhost x.s key, t⟩) hw key).2 (mem_lGhost.2 (.inr ⟨rfl, a⟩))).symm
    · rw [if_pos (h.s0 a)]
      unfold lK
      rw [if_neg (by rw [lKeys_ghost]; exact a), if_neg hn.1]
  refine ⟨?_, e2⟩
  have ht : gTake x.q key = t := by rw [hq]; exact gTake_head (by rw [← hq]; exact h.w.qn)
  refine h.upd (h.w.ghost hq) (by rw [h.sk, lKeys_ghost]) (by rw [hc.keys, h.qk, ht]) (h.w.qsm _ (by rw [hq]; exact .head _)) (fun k hk => ⟨lK_ne (by rw [lKeys_ghost]) (lIs_ghost_ne hk) ?_, rfl, hc.ne k hk⟩) (by rw [e2, hc.at0]) (fun h0 => ?_) (by omega) (by omega)
  · rw [← ht]; exact gTake_ne_mem hk
  · simp only at h0 ⊢
    split at h0
    · rename_i h1; rw [if_pos h1, h1]
    · omega
theorem LX.rem (h : LX N x sr sf qr qf m) (hz : key.size < 64) (hc : RowCut sr sf key sr' sf') (hc2 : RowCut qr qf key qr' qf') : LX N ⟨lOut x.s key, gTake x.q key⟩ sr' sf' qr' qf' (lSet m key (0, 0, 0)) := by
  have hl := hc.len; have ns := h.ns; have hl2 := hc2.len; have nq := h.nq
  refine h.upd (h.w.rem key) (by rw [hc.keys, h.sk]; exact (lKeys_out _ _).symm) (by rw [hc2.keys, h.qk]) hz (fun k hk => ⟨lK_out_ne hk (gTake_ne_mem hk), hc.ne k hk, hc2.ne k hk⟩) ?_ (fun _ => rfl) (by omega) (by omega)
  rw [lK_out, hc.at0, hc2.at0, if_neg (fun h => (gTake_mem.1 h).2 rfl)]
end
end Go.Hb
