/- the laws' 'texts': two rows of texts are alike. -/
import Derived.Test.YtchlicgjdlkidaaDoorShal
import Derived.Test.YtchlicgjdlkidaaDoorSL5
import Derived.IntWalk
set_option linter.unusedVariables false
set_option linter.unusedSimpArgs false
set_option linter.unnecessarySimpa false
set_option linter.unusedSectionVars false
namespace Go.Proofs.YtchlicgjdlkidaaDoor
open Go.Hb Go.IntWalk
theorem c1 {P : Program} {f : FuncId} {args : Array Value} {w : World} {v0 : Value} {S : World → Prop} (h : Calls P f args w fun e w' => ∃ v, e = .returned v ∧ (v = v0 ∧ S w')) :
    Calls P f args w fun e w' => e = .returned v0 ∧ S w' := h.mono fun _ _ ⟨_, he, hv, hs⟩ => ⟨by rw [he, hv], hs⟩
section
variable {W w : World} {L : List HP} {a b : Sl} {xs ys : List ByteArray}
set_option maxRecDepth 100000 in
theorem hoardlaw10_texts_loop [ha : Rdb W L a Rec.str xs] [hb : Rdb W L b Rec.str ys] (hl : xs.length = ys.length) (hsz : xs.length < 4611686018427387904) : ∀ (m i : Nat) (w : World), i + m = xs.length → xs.take i = ys.take i → Sat W w L →
    hoardlaw10_texts_l1 idJ (fun v w' => v = .bool (decide (xs = ys)) ∧ Sat W w' L) (m + 1) a b (i : Int) w := by
  intro m
  induction m with
  | zero =>
    intro i w hi ht hs
    have hn := rdb_len (s := a) hs
    rw [hoardlaw10_texts_l1_raw]
    refine ite_false (by simp; omega) ?_
    rw [hoardlaw10_texts_j2_def, hoardlaw10_texts_j2_raw]
    refine ⟨?_, hs⟩
    rw [List.take_of_length_le (by omega), List.take_of_length_le (by omega)] at ht
    simp [ht]
  | succ m ih =>
    intro i w hi ht hs
    have hn := rdb_len (s := a) hs
    have hn2 := rdb_len (s := b) hs
    rw [hoardlaw10_texts_l1_raw]
    refine ite_true (by simp; omega) ?_
    repeat (first | with_reducible refine nilck_some ?_ | ((with_reducible refine atLd ?_); first | refine ld_b hs ?_ | refine ld_b (x := ⟨_, _, _⟩) hs ?_ | refine ld_r0 hs ?_ | refine ld_r1 hs ?_ | refine ld_r2 hs ?_ | refine ld_r3 hs ?_ | refine ld_r4 hs ?_ | refine ld_rd0 ha_ hs ?_ | refine ld_rd1 ha_ hs ?_ | refine ld_rd2 ha_ hs ?_ | refine ld_rd3 ha_ hs ?_ | refine ld_rd4 ha_ hs ?_ | refine ld_rd5 ha_ hs ?_ | fail) | ((with_reducible refine isSt ?_); first | refine st_b hs fun w hs => ?_ | refine st_rec5 hs fun w hs => ?_ | refine st_rec4 hs fun w hs => ?_ | refine st_rec3 hs fun w hs => ?_ | refine st_rec2 hs fun w hs => ?_ | refine st_r0 hs fun w hs => ?_ | refine st_r1 hs fun w hs => ?_ | fail) | ((with_reducible refine isIdx ?_); first | refine idx_s hs fun b_ o_ hs => ?_ | refine idx_a hs ?_ | refine idx_rd hs fun b_ o_ ha_ => ?_ | fail) | ((with_reducible refine isNew ?_); first | refine newB_at hs fun b_ w hs => ?_ | fail) | ((with_reducible refine isLdS ?_); first | refine ldS_b ?_ | refine ldS_b (x := ⟨_, _, _⟩) ?_ | refine ldS_r0 ?_ | refine ldS_r1 ?_ | refine ldS_r2 ?_ | refine ldS_r3 ?_ | refine ldS_rs0 hs ?_ | refine ldS_rs1 hs ?_ | refine ldS_rs2 hs ?_ | refine ldS_rs3 hs ?_ | refine ldS_rd0 ha_ ?_ | refine ldS_rd1 ha_ ?_ | refine ldS_rd2 ha_ ?_ | refine ldS_rd3 ha_ ?_ | refine ldS_rd4 ha_ ?_ | refine ldS_rd5 ha_ ?_ | fail) | ((with_reducible refine isKeep ?_); first | refine keep_of hs ?_ | refine keep_imp hs ?_ | fail) | ((with_reducible refine isWhen ?_); first | refine when_om ?_ | fail) | ((with_reducible refine isDraw ?_); first | refine drawW_sat hs fun w hs => ?_ | fail))
    rw [sEq_eq, Int.toNat_natCast]
    have e1 : xs.take (i + 1) = xs.take i ++ [xs.getD i default] := by
      exact take_snoc (by omega)
    have e2 : ys.take (i + 1) = ys.take i ++ [ys.getD i default] := by
      exact take_snoc (by omega)
    refine ite_cases (fun h1 => ?_) (fun h1 => ?_)
    · simp only [Bool.not_eq_true', decide_eq_false_iff_not] at h1
      refine ⟨?_, hs⟩
      have : xs ≠ ys := by rintro rfl; exact h1 rfl
      simp [this]
    · simp only [Bool.not_eq_false', decide_eq_true_eq] at h1
      rw [i64_in _ (by omega)]
      exact ih (i + 1) w (by omega) (by rw [e1, e2, ht, h1]) hs
set_option maxRecDepth 100000 in
theorem hoardlaw10_texts_at [ha : Rdb W L a Rec.str xs] [hb : Rdb W L b Rec.str ys] (hs : Sat W w L) (hsz : xs.length < 4611686018427387904) :
    Calls Tryd.prog id_hoardlaw10_texts #[.slice a.a a.n a.c, .slice b.a b.n b.c] w fun e w' => e = .returned (.bool (decide (xs = ys))) ∧ Sat W w' L := by
  refine c1 (hoardlaw10_texts_calls ?_)
  rw [hoardlaw10_texts_def, hoardlaw10_texts_raw]
  have hn := rdb_len (s := a) hs
  have hn2 := rdb_len (s := b) hs
  rw [hn, hn2]
  refine ite_cases (fun h1 => ?_) (fun h1 => ?_)
  · have : xs ≠ ys := by rintro rfl; simp at h1
    exact ⟨by simp [this], hs⟩
  · have hl : xs.length = ys.length := by simp at h1; omega
    exact ⟨_, hoardlaw10_texts_loop (ha := ha) (hb := hb) hl hsz xs.length 0 w (by omega) (by simp) hs⟩
end
end Go.Proofs.YtchlicgjdlkidaaDoor
