/- hoardref13: contracts. -/
import Derived.Test.YtgmhoenmhnlojaaLirsTxt
import Derived.Test.YtgmhoenmhnlojaaLaw2
set_option linter.unusedVariables false
set_option linter.unusedSimpArgs false
set_option linter.unnecessarySimpa false
set_option linter.unusedSectionVars false
namespace Go.Hb
def kB (i : Int) : Int := if i = 1 then 104 else if i = 3 then 103 else 99
theorem kB_hot {i : Int} : kB i = 104 ↔ i = 1 := by
  unfold kB
  split
  · simp_all
  · split <;> simp_all
theorem kB_gh {i : Int} : kB i = 103 ↔ i = 3 := by
  unfold kB
  split
  · rename_i h; subst h; simp
  · split
    · simp_all
    · simp_all
def lcR : Rec (ByteArray × Int) := ⟨2, fun e => [.string e.1, .int .u8 (kB e.2)], fun _ => rfl⟩
instance : OkR lcR := ⟨fun _ => rfl⟩
instance : PosR lcR := ⟨by decide⟩
def rrR (b : Nat) (c : Int) (x : LirsS) : HP := exH fun (z : Sl × Sl) => allH [blk b [.slice z.1.a z.1.n z.1.c, .slice z.2.a z.2.n z.2.c, .int .i64 c], recs lcR z.1 x.s, recs Rec.str z.2 x.q]
section
variable {W w : World} {M L : List HP} {b : Nat} {c : Int} {x : LirsS}
instance At.rrR : At (rrR b c x :: L) b (rrR b c x) (fun x => x :: L) := ⟨here_pos⟩
theorem rr_open (h : Sat W w (rrR b c x :: M)) : ∃ s q : Sl, (s.n = x.s.length ∧ s.n ≤ s.c) ∧ (q.n = x.q.length ∧ q.n ≤ q.c) ∧ Sat W w (blk b [.slice s.a s.n s.c, .slice q.a q.n q.c, .int .i64 c] :: recs lcR s x.s :: recs Rec.str q x.q :: M) := by
  obtain ⟨⟨s, q⟩, h⟩ := h.openE
  have h := h.openL
  have h : Sat W w (blk b [.slice s.a s.n s.c, .slice q.a q.n q.c, .int .i64 c] :: recs lcR s x.s :: recs Rec.str q x.q :: M) := h
  exact ⟨s, q, recs_len (s := s) h, recs_len (s := q) h, h⟩
theorem rr_shut (s q : Sl) (h : Sat W w (blk b [.slice s.a s.n s.c, .slice q.a q.n q.c, .int .i64 c] :: recs lcR s x.s :: recs Rec.str q x.q :: M)) : Sat W w (rrR b c x :: M) := Sat.shutE (s, q) (Sat.shutL (Ps := [_, _, _]) h)
theorem rr_cap (h : Sat W w (rrR b c x :: M)) : w.cell? ⟨b, 2, none⟩ = some (.int .i64 c) := by
  obtain ⟨s, q, _, _, h⟩ := rr_open h
  exact h.cell (q := 0) rfl
end
def lAt (S : SL) (k : ByteArray) : Int := match S.findIdx? fun e => decide (e.1 = k) with
  | some i => (i : Int)
  | none => -1
theorem lCnt_snoc {S : SL} {i : Int} {j : Nat} (hj : j < S.length) : lCnt (S.take (j + 1)) i = lCnt (S.take j) i + (if (S.getD j default).2 = i then 1 else 0) := by
  unfold lCnt
  rw [take_snoc hj, List.countP_append, List.countP_cons]
  simp
theorem lOut_snoc {S : SL} {k : ByteArray} {j : Nat} (hj : j < S.length) : lOut (S.take (j + 1)) k = lOut (S.take j) k ++ (if (S.getD j default).1 = k then [] else [S.getD j default]) := by
  unfold lOut
  rw [take_snoc hj, List.filter_append]
  congr 1
  rw [List.filter_cons]
  split <;> split <;> simp_all
theorem gTake_snoc {q : List ByteArray} {k : ByteArray} {j : Nat} (hj : j < q.length) : gTake (q.take (j + 1)) k = gTake (q.take j) k ++ (if q.getD j default = k then [] else [q.getD j default]) := by
  unfold gTake
  rw [take_snoc hj, List.filter_append]
  congr 1
  rw [List.filter_cons]
  split <;> split <;> simp_all
theorem lOut_len (S : SL) (k : ByteArray) : (lOut S k).length ≤ S.length := List.length_filter_le _ _
theorem lTop_len (S : SL) (k : ByteArray) (i : Int) : (lTop S k i).length ≤ S.length + 1 := by have := lOut_len S k; unfold lTop; simp; omega
theorem lPrune_len (S : SL) : (lPrune S).length ≤ S.length := (lPrune_sub S).length_le
theorem lFirst_drop {S : SL} {i : Int} {j : Nat} (hj : j < S.length) : lFirst (S.drop j) i = if (S.getD j default).2 = i then some (S.getD j default).1 else lFirst (S.drop (j + 1)) i := by
  have hd : S.getD j default = S[j] := by rw [List.getD_eq_getElem?_getD, List.getElem?_eq_getElem hj]; rfl
  rw [hd, List.drop_eq_getElem_cons hj]
  unfold lFirst
  by_cases h : S[j].2 = i
  · rw [if_pos h, List.find?_cons_of_pos (by simpa using h)]; rfl
  · rw [if_neg h, List.find?_cons_of_neg (by simpa using h)]
end Go.Hb
namespace Go.Proofs.Ytgmhoenmhnlojaa
open Go.Hb Go.IntWalk
section
variable {W w : World} {L M : List HP} {F : HP → List HP} {b : Nat} {c : Int} {x y : LirsS} {key : ByteArray} {s q : Sl}
theorem r13_out (h : Sat W w L) [hA : At L b (rrR b c x) F] (hz : x.s.length < 1000000) : Calls Try.prog id_hoardref13_Engine_out #[.pointer (some ⟨b, 0, none⟩), .string key] w fun e w' => e = .returned (.tuple #[]) ∧ Sat W w' (F (rrR b c ⟨lOut x.s key, x.q⟩)) := by
  refine At.call1 (hA := hA) h fun M hs => ?_
  clear h hA
  refine c1 (hoardref13_Engine_out_calls ?_)
  rw [hoardref13_Engine_out_def, hoardref13_Engine_out_raw]
  obtain ⟨s, q, hs1, hq1, hs⟩ := rr_open hs
  have hs := Sat.nilR lcR hs
  have loop : ∀ (f j : Nat) (w : World) (acc : Sl), j + f = x.s.length → Sat W w (recs lcR acc (lOut (x.s.take j) key) :: rB b c s q :: recs lcR s x.s :: recs Rec.str q x.q :: M) →
      hoardref13_Engine_out_l1 idJ (fun v w' => v = .tuple #[] ∧ Sat W w' (rrR b c ⟨lOut x.s key, x.q⟩ :: M)) (f + 1) (some ⟨b, 0, none⟩) key acc (j : Int) w := by
    clear hs
    intro f
    induction f with
    | zero =>
      intro j w acc hif hs
      rw [hoardref13_Engine_out_l1_raw]
      repeat (first | with_reducible refine nilck_some ?_ | ((with_reducible refine atLd ?_); first | refine ld_b hs ?_ | refine ld_b (x := ⟨_, _, _⟩) hs ?_ | refine ld_r0 hs ?_ | refine ld_r1 hs ?_ | refine ld_rd0 ha_ hs ?_ | refine ld_rd1 ha_ hs ?_) | ((with_reducible refine isSt ?_); first | refine st_b hs fun w hs => ?_ | refine st_r0 hs fun w hs => ?_ | refine st_r1 hs fun w hs => ?_) | ((with_reducible refine isIdx ?_); first | refine idx_s hs fun b_ o_ hs => ?_ | refine idx_rd hs fun b_ o_ ha_ => ?_) | with_reducible refine newB_at hs fun b_ w hs => ?_ | ((with_reducible refine isLdS ?_); first | refine ldS_b ?_ | refine ldS_b (x := ⟨_, _, _⟩) ?_ | refine ldS_rs0 hs ?_ | refine ldS_rd0 ha_ ?_) | ((with_reducible refine isKeep ?_); first | refine keep_of hs ?_ | refine keep_imp hs ?_) | with_reducible refine when_om ?_ | with_reducible refine drawW_sat hs fun w hs => ?_)
      refine ite_false (decide_eq_false (by omega)) ?_
      rw [hoardref13_Engine_out_j2_def, hoardref13_Engine_out_j2_raw]
      rw [List.take_of_length_le (by omega)] at hs
      repeat (first | with_reducible refine nilck_some ?_ | ((with_reducible refine atLd ?_); first | refine ld_b hs ?_ | refine ld_b (x := ⟨_, _, _⟩) hs ?_ | refine ld_r0 hs ?_ | refine ld_r1 hs ?_ | refine ld_rd0 ha_ hs ?_ | refine ld_rd1 ha_ hs ?_) | ((with_reducible refine isSt ?_); first | refine st_b hs fun w hs => ?_ | refine st_r0 hs fun w hs => ?_ | refine st_r1 hs fun w hs => ?_) | ((with_reducible refine isIdx ?_); first | refine idx_s hs fun b_ o_ hs => ?_ | refine idx_rd hs fun b_ o_ ha_ => ?_) | with_reducible refine newB_at hs fun b_ w hs => ?_ | ((with_reducible refine isLdS ?_); first | refine ldS_b ?_ | refine ldS_b (x := ⟨_, _, _⟩) ?_ | refine ldS_rs0 hs ?_ | refine ldS_rd0 ha_ ?_) | ((with_reducible refine isKeep ?_); first | refine keep_of hs ?_ | refine keep_imp hs ?_) | with_reducible refine when_om ?_ | with_reducible refine drawW_sat hs fun w hs => ?_)
      exact ⟨rfl, rr_shut acc q (by exact Sat.fin hs)⟩
    | succ f ih =>
      intro j w acc hif hs
      rw [hoardref13_Engine_out_l1_raw]
      repeat (first | with_reducible refine nilck_some ?_ | ((with_reducible refine atLd ?_); first | refine ld_b hs ?_ | refine ld_b (x := ⟨_, _, _⟩) hs ?_ | refine ld_r0 hs ?_ | refine ld_r1 hs ?_ | refine ld_rd0 ha_ hs ?_ | refine ld_rd1 ha_ hs ?_) | ((with_reducible refine isSt ?_); first | refine st_b hs fun w hs => ?_ | refine st_r0 hs fun w hs => ?_ | refine st_r1 hs fun w hs => ?_) | ((with_reducible refine isIdx ?_); first | refine idx_s hs fun b_ o_ hs => ?_ | refine idx_rd hs fun b_ o_ ha_ => ?_) | with_reducible refine newB_at hs fun b_ w hs => ?_ | ((with_reducible refine isLdS ?_); first | refine ldS_b ?_ | refine ldS_b (x := ⟨_, _, _⟩) ?_ | refine ldS_rs0 hs ?_ | refine ldS_rd0 ha_ ?_) | ((with_reducible refine isKeep ?_); first | refine keep_of hs ?_ | refine keep_imp hs ?_) | with_reducible refine when_om ?_ | with_reducible refine drawW_sat hs fun w hs => ?_)
      refine ite_true (decide_eq_true (by omega)) ?_
      repeat (first | with_reducible refine nilck_some ?_ | ((with_reducible refine atLd ?_); first | refine ld_b hs ?_ | refine ld_b (x := ⟨_, _, _⟩) hs ?_ | refine ld_r0 hs ?_ | refine ld_r1 hs ?_ | refine ld_rd0 ha_ hs ?_ | refine ld_rd1 ha_ hs ?_) | ((with_reducible refine isSt ?_); first | refine st_b hs fun w hs => ?_ | refine st_r0 hs fun w hs => ?_ | refine st_r1 hs fun w hs => ?_) | ((with_reducible refine isIdx ?_); first | refine idx_s hs fun b_ o_ hs => ?_ | refine idx_rd hs fun b_ o_ ha_ => ?_) | with_reducible refine newB_at hs fun b_ w hs => ?_ | ((with_reducible refine isLdS ?_); first | refine ldS_b ?_ | refine ldS_b (x := ⟨_, _, _⟩) ?_ | refine ldS_rs0 hs ?_ | refine ldS_rd0 ha_ ?_) | ((with_reducible refine isKeep ?_); first | refine keep_of hs ?_ | refine keep_imp hs ?_) | with_reducible refine when_om ?_ | with_reducible refine drawW_sat hs fun w hs => ?_)
      rw [Int.toNat_natCast]
      have hsn := lOut_snoc (S := x.s) (k := key) (j := j) (by omega)
      have hln := lOut_len (x.s.take j) key
      have hw : IntKind.wrap .i64 ((j : Int) + 1) = ((j + 1 : Nat) : Int) := by rw [i64_in _ (by omega)]; omega
      rw [List.length_take] at hln
      with_reducible refine ite_by (fun h1 => ?_) (fun h1 => ?_)
      · rw [if_neg h1] at hsn
        repeat (first | with_reducible refine nilck_some ?_ | ((with_reducible refine atLd ?_); first | refine ld_b hs ?_ | refine ld_b (x := ⟨_, _, _⟩) hs ?_ | refine ld_r0 hs ?_ | refine ld_r1 hs ?_ | refine ld_rd0 ha_ hs ?_ | refine ld_rd1 ha_ hs ?_) | ((with_reducible refine isSt ?_); first | refine st_b hs fun w hs => ?_ | refine st_r0 hs fun w hs => ?_ | refine st_r1 hs fun w hs => ?_) | ((with_reducible refine isIdx ?_); first | refine idx_s hs fun b_ o_ hs => ?_ | refine idx_rd hs fun b_ o_ ha_ => ?_) | with_reducible refine newB_at hs fun b_ w hs => ?_ | ((with_reducible refine isLdS ?_); first | refine ldS_b ?_ | refine ldS_b (x := ⟨_, _, _⟩) ?_ | refine ldS_rs0 hs ?_ | refine ldS_rd0 ha_ ?_) | ((with_reducible refine isKeep ?_); first | refine keep_of hs ?_ | refine keep_imp hs ?_) | with_reducible refine when_om ?_ | with_reducible refine drawW_sat hs fun w hs => ?_)
        refine app_one (s := acc) (a := x.s.getD j default) hs rfl rfl rfl rfl (by decide) (by omega) fun s2 w hs2 hs => ?_
        rw [← hsn] at hs
        rw [hw]
        exact ih (j + 1) w s2 (by omega) (by exact Sat.fin hs)
      · rw [if_pos h1, List.append_nil] at hsn
        rw [← hsn] at hs
        rw [hw]
        exact ih (j + 1) w acc (by omega) (by exact Sat.fin hs)
  refine exM_of (x.s.length + 1) ?_
  exact loop x.s.length 0 w ⟨none, 0, 0⟩ (by omega) (by exact Sat.fin hs)
theorem r13_leave (h : Sat W w L) [hA : At L b (rrR b c x) F] (hz : x.q.length < 1000000) : Calls Try.prog id_hoardref13_Engine_leave #[.pointer (some ⟨b, 0, none⟩), .string key] w fun e w' => e = .returned (.tuple #[]) ∧ Sat W w' (F (rrR b c ⟨x.s, gTake x.q key⟩)) := by
  refine At.call1 (hA := hA) h fun M hs => ?_
  clear h hA
  refine c1 (hoardref13_Engine_leave_calls ?_)
  rw [hoardref13_Engine_leave_def, hoardref13_Engine_leave_raw]
  obtain ⟨s, q, hs1, hq1, hs⟩ := rr_open hs
  have hs := Sat.nilR Rec.str hs
  have loop : ∀ (f j : Nat) (w : World) (acc : Sl), j + f = x.q.length → Sat W w (recs Rec.str acc (gTake (x.q.take j) key) :: rB b c s q :: recs lcR s x.s :: recs Rec.str q x.q :: M) →
      hoardref13_Engine_leave_l1 idJ (fun v w' => v = .tuple #[] ∧ Sat W w' (rrR b c ⟨x.s, gTake x.q key⟩ :: M)) (f + 1) (some ⟨b, 0, none⟩) key acc (j : Int) w := by
    clear hs
    intro f
    induction f with
    | zero =>
      intro j w acc hif hs
      rw [hoardref13_Engine_leave_l1_raw]
      repeat (first | with_reducible refine nilck_some ?_ | ((with_reducible refine atLd ?_); first | refine ld_b hs ?_ | refine ld_b (x := ⟨_, _, _⟩) hs ?_ | refine ld_r0 hs ?_ | refine ld_r1 hs ?_ | refine ld_rd0 ha_ hs ?_ | refine ld_rd1 ha_ hs ?_) | ((with_reducible refine isSt ?_); first | refine st_b hs fun w hs => ?_ | refine st_r0 hs fun w hs => ?_ | refine st_r1 hs fun w hs => ?_) | ((with_reducible refine isIdx ?_); first | refine idx_s hs fun b_ o_ hs => ?_ | refine idx_rd hs fun b_ o_ ha_ => ?_) | with_reducible refine newB_at hs fun b_ w hs => ?_ | ((with_reducible refine isLdS ?_); first | refine ldS_b ?_ | refine ldS_b (x := ⟨_, _, _⟩) ?_ | refine ldS_rs0 hs ?_ | refine ldS_rd0 ha_ ?_) | ((with_reducible refine isKeep ?_); first | refine keep_of hs ?_ | refine keep_imp hs ?_) | with_reducible refine when_om ?_ | with_reducible refine drawW_sat hs fun w hs => ?_)
      refine ite_false (decide_eq_false (by omega)) ?_
      rw [hoardref13_Engine_leave_j2_def, hoardref13_Engine_leave_j2_raw]
      rw [List.take_of_length_le (by omega)] at hs
      repeat (first | with_reducible refine nilck_some ?_ | ((with_reducible refine atLd ?_); first | refine ld_b hs ?_ | refine ld_b (x := ⟨_, _, _⟩) hs ?_ | refine ld_r0 hs ?_ | refine ld_r1 hs ?_ | refine ld_rd0 ha_ hs ?_ | refine ld_rd1 ha_ hs ?_) | ((with_reducible refine isSt ?_); first | refine st_b hs fun w hs => ?_ | refine st_r0 hs fun w hs => ?_ | refine st_r1 hs fun w hs => ?_) | ((with_reducible refine isIdx ?_); first | refine idx_s hs fun b_ o_ hs => ?_ | refine idx_rd hs fun b_ o_ ha_ => ?_) | with_reducible refine newB_at hs fun b_ w hs => ?_ | ((with_reducible refine isLdS ?_); first | refine ldS_b ?_ | refine ldS_b (x := ⟨_, _, _⟩) ?_ | refine ldS_rs0 hs ?_ | refine ldS_rd0 ha_ ?_) | ((with_reducible refine isKeep ?_); first | refine keep_of hs ?_ | refine keep_imp hs ?_) | with_reducible refine when_om ?_ | with_reducible refine drawW_sat hs fun w hs => ?_)
      exact ⟨rfl, rr_shut s acc (by exact Sat.fin hs)⟩
    | succ f ih =>
      intro j w acc hif hs
      rw [hoardref13_Engine_leave_l1_raw]
      repeat (first | with_reducible refine nilck_some ?_ | ((with_reducible refine atLd ?_); first | refine ld_b hs ?_ | refine ld_b (x := ⟨_, _, _⟩) hs ?_ | refine ld_r0 hs ?_ | refine ld_r1 hs ?_ | refine ld_rd0 ha_ hs ?_ | refine ld_rd1 ha_ hs ?_) | ((with_reducible refine isSt ?_); first | refine st_b hs fun w hs => ?_ | refine st_r0 hs fun w hs => ?_ | refine st_r1 hs fun w hs => ?_) | ((with_reducible refine isIdx ?_); first | refine idx_s hs fun b_ o_ hs => ?_ | refine idx_rd hs fun b_ o_ ha_ => ?_) | with_reducible refine newB_at hs fun b_ w hs => ?_ | ((with_reducible refine isLdS ?_); first | refine ldS_b ?_ | refine ldS_b (x := ⟨_, _, _⟩) ?_ | refine ldS_rs0 hs ?_ | refine ldS_rd0 ha_ ?_) | ((with_reducible refine isKeep ?_); first | refine keep_of hs ?_ | refine keep_imp hs ?_) | with_reducible refine when_om ?_ | with_reducible refine drawW_sat hs fun w hs => ?_)
      refine ite_true (decide_eq_true (by omega)) ?_
      repeat (first | with_reducible refine nilck_some ?_ | ((with_reducible refine atLd ?_); first | refine ld_b hs ?_ | refine ld_b (x := ⟨_, _, _⟩) hs ?_ | refine ld_r0 hs ?_ | refine ld_r1 hs ?_ | refine ld_rd0 ha_ hs ?_ | refine ld_rd1 ha_ hs ?_) | ((with_reducible refine isSt ?_); first | refine st_b hs fun w hs => ?_ | refine st_r0 hs fun w hs => ?_ | refine st_r1 hs fun w hs => ?_) | ((with_reducible refine isIdx ?_); first | refine idx_s hs fun b_ o_ hs => ?_ | refine idx_rd hs fun b_ o_ ha_ => ?_) | with_reducible refine newB_at hs fun b_ w hs => ?_ | ((with_reducible refine isLdS ?_); first | refine ldS_b ?_ | refine ldS_b (x := ⟨_, _, _⟩) ?_ | refine ldS_rs0 hs ?_ | refine ldS_rd0 ha_ ?_) | ((with_reducible refine isKeep ?_); first | refine keep_of hs ?_ | refine keep_imp hs ?_) | with_reducible refine when_om ?_ | with_reducible refine drawW_sat hs fun w hs => ?_)
      rw [Int.toNat_natCast]
      have hsn := gTake_snoc (q := x.q) (k := key) (j := j) (by omega)
      have hln := gTake_len (x.q.take j) key
      have hw : IntKind.wrap .i64 ((j : Int) + 1) = ((j + 1 : Nat) : Int) := by rw [i64_in _ (by omega)]; omega
      rw [List.length_take] at hln
      with_reducible refine ite_by (fun h1 => ?_) (fun h1 => ?_)
      · rw [if_neg h1] at hsn
        repeat (first | with_reducible refine nilck_some ?_ | ((with_reducible refine atLd ?_); first | refine ld_b hs ?_ | refine ld_b (x := ⟨_, _, _⟩) hs ?_ | refine ld_r0 hs ?_ | refine ld_r1 hs ?_ | refine ld_rd0 ha_ hs ?_ | refine ld_rd1 ha_ hs ?_) | ((with_reducible refine isSt ?_); first | refine st_b hs fun w hs => ?_ | refine st_r0 hs fun w hs => ?_ | refine st_r1 hs fun w hs => ?_) | ((with_reducible refine isIdx ?_); first | refine idx_s hs fun b_ o_ hs => ?_ | refine idx_rd hs fun b_ o_ ha_ => ?_) | with_reducible refine newB_at hs fun b_ w hs => ?_ | ((with_reducible refine isLdS ?_); first | refine ldS_b ?_ | refine ldS_b (x := ⟨_, _, _⟩) ?_ | refine ldS_rs0 hs ?_ | refine ldS_rd0 ha_ ?_) | ((with_reducible refine isKeep ?_); first | refine keep_of hs ?_ | refine keep_imp hs ?_) | with_reducible refine when_om ?_ | with_reducible refine drawW_sat hs fun w hs => ?_)
        refine app_one (s := acc) (a := x.q.getD j default) hs rfl rfl rfl rfl (by decide) (by omega) fun s2 w hs2 hs => ?_
        rw [← hsn] at hs
        rw [hw]
        exact ih (j + 1) w s2 (by omega) (by exact Sat.fin hs)
      · rw [if_pos h1, List.append_nil] at hsn
        rw [← hsn] at hs
        rw [hw]
        exact ih (j + 1) w acc (by omega) (by exact Sat.fin hs)
  refine exM_of (x.q.length + 1) ?_
  exact loop x.q.length 0 w ⟨none, 0, 0⟩ (by omega) (by exact Sat.fin hs)
theorem r13_count_at {i : Int} {is : Int} (hi : ∀ j, kB j = is ↔ j = i) (hz : x.s.length < 1000000) (hs1 : s.n = x.s.length ∧ s.n ≤ s.c) (hs : Sat W w (rB b c s q :: recs lcR s x.s :: recs Rec.str q x.q :: M)) :
    Calls Try.prog id_hoardref13_Engine_count #[.pointer (some ⟨b, 0, none⟩), .int .u8 is] w fun e w' => e = .returned (.int .i64 (lCnt x.s i : Int)) ∧ Sat W w' (rB b c s q :: recs lcR s x.s :: recs Rec.str q x.q :: M) := by
  refine c1 (hoardref13_Engine_count_calls ?_)
  rw [hoardref13_Engine_count_def, hoardref13_Engine_count_raw]
  have loop : ∀ (f j : Nat) (w : World), j + f = x.s.length → Sat W w (rB b c s q :: recs lcR s x.s :: recs Rec.str q x.q :: M) →
      hoardref13_Engine_count_l1 idJ (fun v w' => v = .int .i64 (lCnt x.s i : Int) ∧ Sat W w' (rB b c s q :: recs lcR s x.s :: recs Rec.str q x.q :: M)) (f + 1) (some ⟨b, 0, none⟩) is (lCnt (x.s.take j) i : Int) (j : Int) w := by
    clear hs
    intro f
    induction f with
    | zero =>
      intro j w hif hs
      rw [hoardref13_Engine_count_l1_raw]
      repeat (first | with_reducible refine nilck_some ?_ | ((with_reducible refine atLd ?_); first | refine ld_b hs ?_ | refine ld_b (x := ⟨_, _, _⟩) hs ?_ | refine ld_r0 hs ?_ | refine ld_r1 hs ?_ | refine ld_rd0 ha_ hs ?_ | refine ld_rd1 ha_ hs ?_) | ((with_reducible refine isSt ?_); first | refine st_b hs fun w hs => ?_ | refine st_r0 hs fun w hs => ?_ | refine st_r1 hs fun w hs => ?_) | ((with_reducible refine isIdx ?_); first | refine idx_s hs fun b_ o_ hs => ?_ | refine idx_rd hs fun b_ o_ ha_ => ?_) | with_reducible refine newB_at hs fun b_ w hs => ?_ | ((with_reducible refine isLdS ?_); first | refine ldS_b ?_ | refine ldS_b (x := ⟨_, _, _⟩) ?_ | refine ldS_rs0 hs ?_ | refine ldS_rd0 ha_ ?_) | ((with_reducible refine isKeep ?_); first | refine keep_of hs ?_ | refine keep_imp hs ?_) | with_reducible refine when_om ?_ | with_reducible refine drawW_sat hs fun w hs => ?_)
      refine ite_false (decide_eq_false (by omega)) ?_
      rw [hoardref13_Engine_count_j2_def, hoardref13_Engine_count_j2_raw]
      rw [List.take_of_length_le (by omega)]
      exact ⟨rfl, by exact Sat.fin hs⟩
    | succ f ih =>
      intro j w hif hs
      rw [hoardref13_Engine_count_l1_raw]
      repeat (first | with_reducible refine nilck_some ?_ | ((with_reducible refine atLd ?_); first | refine ld_b hs ?_ | refine ld_b (x := ⟨_, _, _⟩) hs ?_ | refine ld_r0 hs ?_ | refine ld_r1 hs ?_ | refine ld_rd0 ha_ hs ?_ | refine ld_rd1 ha_ hs ?_) | ((with_reducible refine isSt ?_); first | refine st_b hs fun w hs => ?_ | refine st_r0 hs fun w hs => ?_ | refine st_r1 hs fun w hs => ?_) | ((with_reducible refine isIdx ?_); first | refine idx_s hs fun b_ o_ hs => ?_ | refine idx_rd hs fun b_ o_ ha_ => ?_) | with_reducible refine newB_at hs fun b_ w hs => ?_ | ((with_reducible refine isLdS ?_); first | refine ldS_b ?_ | refine ldS_b (x := ⟨_, _, _⟩) ?_ | refine ldS_rs0 hs ?_ | refine ldS_rd0 ha_ ?_) | ((with_reducible refine isKeep ?_); first | refine keep_of hs ?_ | refine keep_imp hs ?_) | with_reducible refine when_om ?_ | with_reducible refine drawW_sat hs fun w hs => ?_)
      refine ite_true (decide_eq_true (by omega)) ?_
      repeat (first | with_reducible refine nilck_some ?_ | ((with_reducible refine atLd ?_); first | refine ld_b hs ?_ | refine ld_b (x := ⟨_, _, _⟩) hs ?_ | refine ld_r0 hs ?_ | refine ld_r1 hs ?_ | refine ld_rd0 ha_ hs ?_ | refine ld_rd1 ha_ hs ?_) | ((with_reducible refine isSt ?_); first | refine st_b hs fun w hs => ?_ | refine st_r0 hs fun w hs => ?_ | refine st_r1 hs fun w hs => ?_) | ((with_reducible refine isIdx ?_); first | refine idx_s hs fun b_ o_ hs => ?_ | refine idx_rd hs fun b_ o_ ha_ => ?_) | with_reducible refine newB_at hs fun b_ w hs => ?_ | ((with_reducible refine isLdS ?_); first | refine ldS_b ?_ | refine ldS_b (x := ⟨_, _, _⟩) ?_ | refine ldS_rs0 hs ?_ | refine ldS_rd0 ha_ ?_) | ((with_reducible refine isKeep ?_); first | refine keep_of hs ?_ | refine keep_imp hs ?_) | with_reducible refine when_om ?_ | with_reducible refine drawW_sat hs fun w hs => ?_)
      rw [Int.toNat_natCast]
      have hsn := lCnt_snoc (S := x.s) (i := i) (j := j) (by omega)
      have hln := lCnt_le (x.s.take j) i
      have hw : IntKind.wrap .i64 ((j : Int) + 1) = ((j + 1 : Nat) : Int) := by rw [i64_in _ (by omega)]; omega
      rw [List.length_take] at hln
      with_reducible refine ite_by (fun h1 => ?_) (fun h1 => ?_)
      · rw [if_pos ((hi _).1 h1)] at hsn
        rw [hw, show IntKind.wrap .i64 ((lCnt (x.s.take j) i : Int) + 1) = (lCnt (x.s.take (j + 1)) i : Int) by rw [i64_in _ (by omega)]; omega]
        exact ih (j + 1) w (by omega) (by exact Sat.fin hs)
      · rw [if_neg (fun h => h1 ((hi _).2 h))] at hsn
        rw [hw, show (lCnt (x.s.take j) i : Int) = (lCnt (x.s.take (j + 1)) i : Int) by omega]
        exact ih (j + 1) w (by omega) (by exact Sat.fin hs)
  refine exM_of (x.s.length + 1) ?_
  have := loop x.s.length 0 w (by omega) (by exact Sat.fin hs)
  exact this
theorem r13_count {i : Int} {is : Int} (h : Sat W w L) [hA : At L b (rrR b c x) F] (hi : ∀ j, kB j = is ↔ j = i) (hz : x.s.length < 1000000) : Calls Try.prog id_hoardref13_Engine_count #[.pointer (some ⟨b, 0, none⟩), .int .u8 is] w fun e w' => e = .returned (.int .i64 (lCnt x.s i : Int)) ∧ Sat W w' (F (rrR b c x)) := by
  refine At.call1 (hA := hA) h fun M hs => ?_
  obtain ⟨s, q, hs1, hq1, hs⟩ := rr_open hs
  exact (r13_count_at hi hz hs1 hs).mono fun e w ⟨he, hs⟩ => ⟨he, rr_shut s q hs⟩
theorem r13_at (h : Sat W w L) [hA : At L b (rrR b c x) F] (hz : x.s.length < 1000000) : Calls Try.prog id_hoardref13_Engine_at #[.pointer (some ⟨b, 0, none⟩), .string key] w fun e w' => ∃ v : Int, (e = .returned (.int .i64 v) ∧ ((v = -1 ∧ key ∉ lKeys x.s) ∨ ∃ i : Nat, v = (i : Int) ∧ i < x.s.length ∧ (x.s.getD i default).1 = key)) ∧ Sat W w' (F (rrR b c x)) := by
  refine At.one (hA := hA) h fun M hs hb => ?_
  clear h hA
  refine (hoardref13_Engine_at_calls (Q := fun v w' => ∃ u : Int, (v = .int .i64 u ∧ ((u = -1 ∧ key ∉ lKeys x.s) ∨ ∃ i : Nat, u = (i : Int) ∧ i < x.s.length ∧ (x.s.getD i default).1 = key)) ∧ Sat W w' (rrR b c x :: M)) ?_).mono fun e w' ⟨v, he, u, ⟨hv, hu⟩, hs⟩ => ⟨u, ⟨by rw [he, hv], hu⟩, hb _ _ hs⟩
  clear hb
  rw [hoardref13_Engine_at_def, hoardref13_Engine_at_raw]
  obtain ⟨s, q, hs1, hq1, hs⟩ := rr_open hs
  have loop : ∀ (f j : Nat) (w : World), j + f = x.s.length → key ∉ lKeys (x.s.take j) → Sat W w (rB b c s q :: recs lcR s x.s :: recs Rec.str q x.q :: M) →
      hoardref13_Engine_at_l1 idJ (fun v w' => ∃ u : Int, (v = .int .i64 u ∧ ((u = -1 ∧ key ∉ lKeys x.s) ∨ ∃ i : Nat, u = (i : Int) ∧ i < x.s.length ∧ (x.s.getD i default).1 = key)) ∧ Sat W w' (rrR b c x :: M)) (f + 1) (some ⟨b, 0, none⟩) key (j : Int) w := by
    clear hs
    intro f
    induction f with
    | zero =>
      intro j w hif hno hs
      rw [hoardref13_Engine_at_l1_raw]
      repeat (first | with_reducible refine nilck_some ?_ | ((with_reducible refine atLd ?_); first | refine ld_b hs ?_ | refine ld_b (x := ⟨_, _, _⟩) hs ?_ | refine ld_r0 hs ?_ | refine ld_r1 hs ?_ | refine ld_rd0 ha_ hs ?_ | refine ld_rd1 ha_ hs ?_) | ((with_reducible refine isSt ?_); first | refine st_b hs fun w hs => ?_ | refine st_r0 hs fun w hs => ?_ | refine st_r1 hs fun w hs => ?_) | ((with_reducible refine isIdx ?_); first | refine idx_s hs fun b_ o_ hs => ?_ | refine idx_rd hs fun b_ o_ ha_ => ?_) | with_reducible refine newB_at hs fun b_ w hs => ?_ | ((with_reducible refine isLdS ?_); first | refine ldS_b ?_ | refine ldS_b (x := ⟨_, _, _⟩) ?_ | refine ldS_rs0 hs ?_ | refine ldS_rd0 ha_ ?_) | ((with_reducible refine isKeep ?_); first | refine keep_of hs ?_ | refine keep_imp hs ?_) | with_reducible refine when_om ?_ | with_reducible refine drawW_sat hs fun w hs => ?_)
      refine ite_false (decide_eq_false (by omega)) ?_
      rw [hoardref13_Engine_at_j2_def, hoardref13_Engine_at_j2_raw]
      rw [List.take_of_length_le (by omega)] at hno
      exact ⟨-1, ⟨rfl, .inl ⟨rfl, hno⟩⟩, rr_shut s q (by exact Sat.fin hs)⟩
    | succ f ih =>
      intro j w hif hno hs
      rw [hoardref13_Engine_at_l1_raw]
      repeat (first | with_reducible refine nilck_some ?_ | ((with_reducible refine atLd ?_); first | refine ld_b hs ?_ | refine ld_b (x := ⟨_, _, _⟩) hs ?_ | refine ld_r0 hs ?_ | refine ld_r1 hs ?_ | refine ld_rd0 ha_ hs ?_ | refine ld_rd1 ha_ hs ?_) | ((with_reducible refine isSt ?_); first | refine st_b hs fun w hs => ?_ | refine st_r0 hs fun w hs => ?_ | refine st_r1 hs fun w hs => ?_) | ((with_reducible refine isIdx ?_); first | refine idx_s hs fun b_ o_ hs => ?_ | refine idx_rd hs fun b_ o_ ha_ => ?_) | with_reducible refine newB_at hs fun b_ w hs => ?_ | ((with_reducible refine isLdS ?_); first | refine ldS_b ?_ | refine ldS_b (x := ⟨_, _, _⟩) ?_ | refine ldS_rs0 hs ?_ | refine ldS_rd0 ha_ ?_) | ((with_reducible refine isKeep ?_); first | refine keep_of hs ?_ | refine keep_imp hs ?_) | with_reducible refine when_om ?_ | with_reducible refine drawW_sat hs fun w hs => ?_)
      refine ite_true (decide_eq_true (by omega)) ?_
      repeat (first | with_reducible refine nilck_some ?_ | ((with_reducible refine atLd ?_); first | refine ld_b hs ?_ | refine ld_b (x := ⟨_, _, _⟩) hs ?_ | refine ld_r0 hs ?_ | refine ld_r1 hs ?_ | refine ld_rd0 ha_ hs ?_ | refine ld_rd1 ha_ hs ?_) | ((with_reducible refine isSt ?_); first | refine st_b hs fun w hs => ?_ | refine st_r0 hs fun w hs => ?_ | refine st_r1 hs fun w hs => ?_) | ((with_reducible refine isIdx ?_); first | refine idx_s hs fun b_ o_ hs => ?_ | refine idx_rd hs fun b_ o_ ha_ => ?_) | with_reducible refine newB_at hs fun b_ w hs => ?_ | ((with_reducible refine isLdS ?_); first | refine ldS_b ?_ | refine ldS_b (x := ⟨_, _, _⟩) ?_ | refine ldS_rs0 hs ?_ | refine ldS_rd0 ha_ ?_) | ((with_reducible refine isKeep ?_); first | refine keep_of hs ?_ | refine keep_imp hs ?_) | with_reducible refine when_om ?_ | with_reducible refine drawW_sat hs fun w hs => ?_)
      rw [Int.toNat_natCast]
      have hw : IntKind.wrap .i64 ((j : Int) + 1) = ((j + 1 : Nat) : Int) := by rw [i64_in _ (by omega)]; omega
      with_reducible refine ite_by (fun h1 => ?_) (fun h1 => ?_)
      · exact ⟨_, ⟨rfl, .inr ⟨j, rfl, by omega, h1⟩⟩, rr_shut s q (by exact Sat.fin hs)⟩
      · rw [hw]
        refine ih (j + 1) w (by omega) ?_ (by exact Sat.fin hs)
        unfold lKeys at hno ⊢
        rw [take_snoc (by omega), List.map_append, List.mem_append]
        rintro (h | h)
        · exact hno h
        · simp at h; exact h1 h.symm
  refine exM_of (x.s.length + 1) ?_
  exact loop x.s.length 0 w (by omega) (by simp [lKeys]) (by exact Sat.fin hs)
theorem r13_inQ (h : Sat W w L) [hA : At L b (rrR b c x) F] (hz : x.q.length < 1000000) : Calls Try.prog id_hoardref13_Engine_inQ #[.pointer (some ⟨b, 0, none⟩), .string key] w fun e w' => e = .returned (.bool (decide (key ∈ x.q))) ∧ Sat W w' (F (rrR b c x)) := by
  refine At.call1 (hA := hA) h fun M hs => ?_
  clear h hA
  refine c1 (hoardref13_Engine_inQ_calls ?_)
  rw [hoardref13_Engine_inQ_def, hoardref13_Engine_inQ_raw]
  obtain ⟨s, q, hs1, hq1, hs⟩ := rr_open hs
  have loop : ∀ (f j : Nat) (w : World), j + f = x.q.length → key ∉ x.q.take j → Sat W w (rB b c s q :: recs lcR s x.s :: recs Rec.str q x.q :: M) →
      hoardref13_Engine_inQ_l1 idJ (fun v w' => v = .bool (decide (key ∈ x.q)) ∧ Sat W w' (rrR b c x :: M)) (f + 1) (some ⟨b, 0, none⟩) key (j : Int) w := by
    clear hs
    intro f
    induction f with
    | zero =>
      intro j w hif hno hs
      rw [hoardref13_Engine_inQ_l1_raw]
      repeat (first | with_reducible refine nilck_some ?_ | ((with_reducible refine atLd ?_); first | refine ld_b hs ?_ | refine ld_b (x := ⟨_, _, _⟩) hs ?_ | refine ld_r0 hs ?_ | refine ld_r1 hs ?_ | refine ld_rd0 ha_ hs ?_ | refine ld_rd1 ha_ hs ?_) | ((with_reducible refine isSt ?_); first | refine st_b hs fun w hs => ?_ | refine st_r0 hs fun w hs => ?_ | refine st_r1 hs fun w hs => ?_) | ((with_reducible refine isIdx ?_); first | refine idx_s hs fun b_ o_ hs => ?_ | refine idx_rd hs fun b_ o_ ha_ => ?_) | with_reducible refine newB_at hs fun b_ w hs => ?_ | ((with_reducible refine isLdS ?_); first | refine ldS_b ?_ | refine ldS_b (x := ⟨_, _, _⟩) ?_ | refine ldS_rs0 hs ?_ | refine ldS_rd0 ha_ ?_) | ((with_reducible refine isKeep ?_); first | refine keep_of hs ?_ | refine keep_imp hs ?_) | with_reducible refine when_om ?_ | with_reducible refine drawW_sat hs fun w hs => ?_)
      refine ite_false (decide_eq_false (by omega)) ?_
      rw [hoardref13_Engine_inQ_j2_def, hoardref13_Engine_inQ_j2_raw]
      rw [List.take_of_length_le (by omega)] at hno
      exact ⟨by rw [decide_eq_false hno], rr_shut s q (by exact Sat.fin hs)⟩
    | succ f ih =>
      intro j w hif hno hs
      rw [hoardref13_Engine_inQ_l1_raw]
      repeat (first | with_reducible refine nilck_some ?_ | ((with_reducible refine atLd ?_); first | refine ld_b hs ?_ | refine ld_b (x := ⟨_, _, _⟩) hs ?_ | refine ld_r0 hs ?_ | refine ld_r1 hs ?_ | refine ld_rd0 ha_ hs ?_ | refine ld_rd1 ha_ hs ?_) | ((with_reducible refine isSt ?_); first | refine st_b hs fun w hs => ?_ | refine st_r0 hs fun w hs => ?_ | refine st_r1 hs fun w hs => ?_) | ((with_reducible refine isIdx ?_); first | refine idx_s hs fun b_ o_ hs => ?_ | refine idx_rd hs fun b_ o_ ha_ => ?_) | with_reducible refine newB_at hs fun b_ w hs => ?_ | ((with_reducible refine isLdS ?_); first | refine ldS_b ?_ | refine ldS_b (x := ⟨_, _, _⟩) ?_ | refine ldS_rs0 hs ?_ | refine ldS_rd0 ha_ ?_) | ((with_reducible refine isKeep ?_); first | refine keep_of hs ?_ | refine keep_imp hs ?_) | with_reducible refine when_om ?_ | with_reducible refine drawW_sat hs fun w hs => ?_)
      refine ite_true (decide_eq_true (by omega)) ?_
      repeat (first | with_reducible refine nilck_some ?_ | ((with_reducible refine atLd ?_); first | refine ld_b hs ?_ | refine ld_b (x := ⟨_, _, _⟩) hs ?_ | refine ld_r0 hs ?_ | refine ld_r1 hs ?_ | refine ld_rd0 ha_ hs ?_ | refine ld_rd1 ha_ hs ?_) | ((with_reducible refine isSt ?_); first | refine st_b hs fun w hs => ?_ | refine st_r0 hs fun w hs => ?_ | refine st_r1 hs fun w hs => ?_) | ((with_reducible refine isIdx ?_); first | refine idx_s hs fun b_ o_ hs => ?_ | refine idx_rd hs fun b_ o_ ha_ => ?_) | with_reducible refine newB_at hs fun b_ w hs => ?_ | ((with_reducible refine isLdS ?_); first | refine ldS_b ?_ | refine ldS_b (x := ⟨_, _, _⟩) ?_ | refine ldS_rs0 hs ?_ | refine ldS_rd0 ha_ ?_) | ((with_reducible refine isKeep ?_); first | refine keep_of hs ?_ | refine keep_imp hs ?_) | with_reducible refine when_om ?_ | with_reducible refine drawW_sat hs fun w hs => ?_)
      rw [Int.toNat_natCast]
      have hw : IntKind.wrap .i64 ((j : Int) + 1) = ((j + 1 : Nat) : Int) := by rw [i64_in _ (by omega)]; omega
      with_reducible refine ite_by (fun h1 => ?_) (fun h1 => ?_)
      · have : key ∈ x.q := h1 ▸ getD_mem (by omega)
        exact ⟨by rw [decide_eq_true this], rr_shut s q (by exact Sat.fin hs)⟩
      · rw [hw]
        refine ih (j + 1) w (by omega) ?_ (by exact Sat.fin hs)
        rw [take_snoc (by omega), List.mem_append]
        rintro (h | h)
        · exact hno h
        · simp at h; exact h1 h.symm
  refine exM_of (x.q.length + 1) ?_
  exact loop x.q.length 0 w (by omega) (by simp) (by exact Sat.fin hs)
def lIsB (S : SL) (k : ByteArray) : Int := if k ∈ lKeys S then kB (lIs S k) else 0
theorem r13_is (h : Sat W w L) [hA : At L b (rrR b c x) F] (hw : LW x) (hz : x.s.length < 1000000) : Calls Try.prog id_hoardref13_Engine_is #[.pointer (some ⟨b, 0, none⟩), .string key] w fun e w' => e = .returned (.int .u8 (lIsB x.s key)) ∧ Sat W w' (F (rrR b c x)) := by
  refine At.call1 (hA := hA) h fun M hs => ?_
  clear h hA
  refine c1 (hoardref13_Engine_is_calls ?_)
  rw [hoardref13_Engine_is_def, hoardref13_Engine_is_raw]
  refine (r13_at hs hz).mono fun e w ⟨v, ⟨he, hv⟩, hs⟩ => ⟨v, he, ?_⟩
  rcases hv with ⟨rfl, hno⟩ | ⟨i, rfl, hi, hk⟩
  · refine ite_true rfl ?_
    unfold lIsB
    rw [if_neg hno]
    exact ⟨rfl, hs⟩
  · refine ite_false (decide_eq_false (by omega)) ?_
    obtain ⟨s, q, hs1, hq1, hs⟩ := rr_open hs
    repeat (first | with_reducible refine nilck_some ?_ | ((with_reducible refine atLd ?_); first | refine ld_b hs ?_ | refine ld_b (x := ⟨_, _, _⟩) hs ?_ | refine ld_r0 hs ?_ | refine ld_r1 hs ?_ | refine ld_rd0 ha_ hs ?_ | refine ld_rd1 ha_ hs ?_) | ((with_reducible refine isSt ?_); first | refine st_b hs fun w hs => ?_ | refine st_r0 hs fun w hs => ?_ | refine st_r1 hs fun w hs => ?_) | ((with_reducible refine isIdx ?_); first | refine idx_s hs fun b_ o_ hs => ?_ | refine idx_rd hs fun b_ o_ ha_ => ?_) | with_reducible refine newB_at hs fun b_ w hs => ?_ | ((with_reducible refine isLdS ?_); first | refine ldS_b ?_ | refine ldS_b (x := ⟨_, _, _⟩) ?_ | refine ldS_rs0 hs ?_ | refine ldS_rd0 ha_ ?_) | ((with_reducible refine isKeep ?_); first | refine keep_of hs ?_ | refine keep_imp hs ?_) | with_reducible refine when_om ?_ | with_reducible refine drawW_sat hs fun w hs => ?_)
    rw [Int.toNat_natCast]
    have hm : x.s.getD i default ∈ x.s := getD_mem hi
    have h1 : key ∈ lKeys x.s := List.mem_map.2 ⟨_, hm, hk⟩
    have h2 : lIs x.s key = (x.s.getD i default).2 := by rw [← hk]; exact (lIs_iff hw.sn (by rcases hw.kinds _ hm with h | h | h <;> omega)).2 hm
    unfold lIsB
    rw [if_pos h1, h2]
    exact ⟨rfl, rr_shut s q (by exact Sat.fin hs)⟩
theorem r13_Has (h : Sat W w L) [hA : At L b (rrR b c x) F] (hw : LW x) (hz : x.s.length < 1000000) (hzq : x.q.length < 1000000) : Calls Try.prog id_hoardref13_Engine_Has #[.pointer (some ⟨b, 0, none⟩), .string key] w fun e w' => e = .returned (.bool (decide (key ∈ lRes x))) ∧ Sat W w' (F (rrR b c x)) := by
  refine At.call1 (hA := hA) h fun M hs => ?_
  clear h hA
  refine c1 (hoardref13_Engine_Has_calls ?_)
  rw [hoardref13_Engine_Has_def, hoardref13_Engine_Has_raw]
  refine call1_of (r13_is hs hw hz) fun e w ⟨he, hs⟩ => ⟨_, he, ?_⟩
  with_reducible refine ite_by (fun h1 => ?_) (fun h1 => ?_)
  · have : key ∈ lRes x := by
      unfold lIsB at h1
      split at h1
      · exact mem_lRes.2 (.inr ((lIs_iff hw.sn (by decide)).1 (kB_hot.1 h1)))
      · omega
    exact ⟨by rw [decide_eq_true this], hs⟩
  · refine call1_of (r13_inQ hs hzq) fun e w ⟨he, hs⟩ => ⟨_, he, ?_⟩
    have : decide (key ∈ x.q) = decide (key ∈ lRes x) := by
      rw [Bool.eq_iff_iff, decide_eq_true_eq, decide_eq_true_eq, mem_lRes]
      refine ⟨.inl, fun h => h.elim id fun h => absurd ?_ h1⟩
      unfold lIsB
      have hm : key ∈ lKeys x.s := List.mem_map.2 ⟨_, h, rfl⟩
      rw [if_pos hm, (lIs_iff hw.sn (by decide)).2 h]; rfl
    exact ⟨by rw [this], hs⟩
theorem r13_most (h : Sat W w L) [hA : At L b (rrR b c x) F] (h1 : 1 ≤ c) (h2 : c ≤ 1024) : Calls Try.prog id_hoardref13_Engine_most #[.pointer (some ⟨b, 0, none⟩)] w fun e w' => e = .returned (.int .i64 (lMost c)) ∧ Sat W w' (F (rrR b c x)) := by
  refine At.call1 (hA := hA) h fun M hs => ?_
  clear h hA
  refine c1 (hoardref13_Engine_most_calls ?_)
  rw [hoardref13_Engine_most_def, hoardref13_Engine_most_raw]
  obtain ⟨s, q, hs1, hq1, hs⟩ := rr_open hs
  repeat (first | with_reducible refine nilck_some ?_ | ((with_reducible refine atLd ?_); first | refine ld_b hs ?_ | refine ld_b (x := ⟨_, _, _⟩) hs ?_ | refine ld_r0 hs ?_ | refine ld_r1 hs ?_ | refine ld_rd0 ha_ hs ?_ | refine ld_rd1 ha_ hs ?_) | ((with_reducible refine isSt ?_); first | refine st_b hs fun w hs => ?_ | refine st_r0 hs fun w hs => ?_ | refine st_r1 hs fun w hs => ?_) | ((with_reducible refine isIdx ?_); first | refine idx_s hs fun b_ o_ hs => ?_ | refine idx_rd hs fun b_ o_ ha_ => ?_) | with_reducible refine newB_at hs fun b_ w hs => ?_ | ((with_reducible refine isLdS ?_); first | refine ldS_b ?_ | refine ldS_b (x := ⟨_, _, _⟩) ?_ | refine ldS_rs0 hs ?_ | refine ldS_rd0 ha_ ?_) | ((with_reducible refine isKeep ?_); first | refine keep_of hs ?_ | refine keep_imp hs ?_) | with_reducible refine when_om ?_ | with_reducible refine drawW_sat hs fun w hs => ?_)
  have e1 : Int.tdiv c 10 = c / 10 := by rw [Int.tdiv_eq_ediv_of_nonneg (by omega)]
  have e2 : IntKind.wrap .i64 (c - (if (IntKind.wrap .i64 (Int.tdiv c (10 : Int))) > (1 : Int) then (IntKind.wrap .i64 (Int.tdiv c (10 : Int))) else (1 : Int))) = lMost c := by
    rw [e1, i64_in (c / 10) (by omega), i64_in _ (by split <;> omega)]
    unfold lMost; split <;> omega
  rw [e2]
  exact ⟨rfl, rr_shut s q (by exact Sat.fin hs)⟩
theorem r13_Room (h : Sat W w L) [hA : At L b (rrR b c x) F] : Calls Try.prog id_hoardref13_Engine_Room #[.pointer (some ⟨b, 0, none⟩)] w fun e w' => e = .returned (.int .i64 c) ∧ Sat W w' (F (rrR b c x)) := by
  refine At.call1 (hA := hA) h fun M hs => ?_
  clear h hA
  refine c1 (hoardref13_Engine_Room_calls ?_)
  rw [hoardref13_Engine_Room_def, hoardref13_Engine_Room_raw]
  obtain ⟨s, q, hs1, hq1, hs⟩ := rr_open hs
  repeat (first | with_reducible refine nilck_some ?_ | ((with_reducible refine atLd ?_); first | refine ld_b hs ?_ | refine ld_b (x := ⟨_, _, _⟩) hs ?_ | refine ld_r0 hs ?_ | refine ld_r1 hs ?_ | refine ld_rd0 ha_ hs ?_ | refine ld_rd1 ha_ hs ?_) | ((with_reducible refine isSt ?_); first | refine st_b hs fun w hs => ?_ | refine st_r0 hs fun w hs => ?_ | refine st_r1 hs fun w hs => ?_) | ((with_reducible refine isIdx ?_); first | refine idx_s hs fun b_ o_ hs => ?_ | refine idx_rd hs fun b_ o_ ha_ => ?_) | with_reducible refine newB_at hs fun b_ w hs => ?_ | ((with_reducible refine isLdS ?_); first | refine ldS_b ?_ | refine ldS_b (x := ⟨_, _, _⟩) ?_ | refine ldS_rs0 hs ?_ | refine ldS_rd0 ha_ ?_) | ((with_reducible refine isKeep ?_); first | refine keep_of hs ?_ | refine keep_imp hs ?_) | with_reducible refine when_om ?_ | with_reducible refine drawW_sat hs fun w hs => ?_)
  exact ⟨rfl, rr_shut s q (by exact Sat.fin hs)⟩
theorem r13_Len (h : Sat W w L) [hA : At L b (rrR b c x) F] (hz : x.s.length < 1000000) (hzq : x.q.length < 1000000) : Calls Try.prog id_hoardref13_Engine_Len #[.pointer (some ⟨b, 0, none⟩)] w fun e w' => e = .returned (.int .i64 (lLen x : Int)) ∧ Sat W w' (F (rrR b c x)) := by
  refine At.call1 (hA := hA) h fun M hs => ?_
  clear h hA
  refine c1 (hoardref13_Engine_Len_calls ?_)
  rw [hoardref13_Engine_Len_def, hoardref13_Engine_Len_raw]
  have hl := lCnt_le x.s 1
  obtain ⟨s, q, hs1, hq1, hs⟩ := rr_open hs
  refine drawW_only [rB b c s q] hs fun w hs => ?_
  repeat (first | with_reducible refine nilck_some ?_ | ((with_reducible refine atLd ?_); first | refine ld_b hs ?_ | refine ld_b (x := ⟨_, _, _⟩) hs ?_ | refine ld_r0 hs ?_ | refine ld_r1 hs ?_ | refine ld_rd0 ha_ hs ?_ | refine ld_rd1 ha_ hs ?_) | ((with_reducible refine isSt ?_); first | refine st_b hs fun w hs => ?_ | refine st_r0 hs fun w hs => ?_ | refine st_r1 hs fun w hs => ?_) | ((with_reducible refine isIdx ?_); first | refine idx_s hs fun b_ o_ hs => ?_ | refine idx_rd hs fun b_ o_ ha_ => ?_) | with_reducible refine newB_at hs fun b_ w hs => ?_ | ((with_reducible refine isLdS ?_); first | refine ldS_b ?_ | refine ldS_b (x := ⟨_, _, _⟩) ?_ | refine ldS_rs0 hs ?_ | refine ldS_rd0 ha_ ?_) | ((with_reducible refine isKeep ?_); first | refine keep_of hs ?_ | refine keep_imp hs ?_) | with_reducible refine when_om ?_ | with_reducible refine drawW_sat hs fun w hs => ?_)
  refine call1_of (r13_count_at (fun _ => kB_hot) hz hs1 hs) fun e w ⟨he, hs⟩ => ⟨_, he, ?_⟩
  repeat (first | with_reducible refine nilck_some ?_ | ((with_reducible refine atLd ?_); first | refine ld_b hs ?_ | refine ld_b (x := ⟨_, _, _⟩) hs ?_ | refine ld_r0 hs ?_ | refine ld_r1 hs ?_ | refine ld_rd0 ha_ hs ?_ | refine ld_rd1 ha_ hs ?_) | ((with_reducible refine isSt ?_); first | refine st_b hs fun w hs => ?_ | refine st_r0 hs fun w hs => ?_ | refine st_r1 hs fun w hs => ?_) | ((with_reducible refine isIdx ?_); first | refine idx_s hs fun b_ o_ hs => ?_ | refine idx_rd hs fun b_ o_ ha_ => ?_) | with_reducible refine newB_at hs fun b_ w hs => ?_ | ((with_reducible refine isLdS ?_); first | refine ldS_b ?_ | refine ldS_b (x := ⟨_, _, _⟩) ?_ | refine ldS_rs0 hs ?_ | refine ldS_rd0 ha_ ?_) | ((with_reducible refine isKeep ?_); first | refine keep_of hs ?_ | refine keep_imp hs ?_) | with_reducible refine when_om ?_ | with_reducible refine drawW_sat hs fun w hs => ?_)
  rw [i64_in _ (by omega), hq1.1]
  exact ⟨by unfold lLen; simp, rr_shut s q (by exact Sat.fin hs)⟩
theorem r13_top {i is : Int} (h : Sat W w L) [hA : At L b (rrR b c x) F] (hi : kB i = is) (hz : x.s.length < 1000000) : Calls Try.prog id_hoardref13_Engine_top #[.pointer (some ⟨b, 0, none⟩), .string key, .int .u8 is] w fun e w' => e = .returned (.tuple #[]) ∧ Sat W w' (F (rrR b c ⟨lTop x.s key i, x.q⟩)) := by
  refine At.call1 (hA := hA) h fun M hs => ?_
  clear h hA
  refine c1 (hoardref13_Engine_top_calls ?_)
  rw [hoardref13_Engine_top_def, hoardref13_Engine_top_raw]
  refine call0_of (r13_out hs hz) fun e w ⟨he, hs⟩ => ⟨he, ?_⟩
  have hl := lOut_len x.s key
  obtain ⟨s, q, hs1, hq1, hs⟩ := rr_open hs
  simp only at hs1
  subst hi
  repeat (first | with_reducible refine nilck_some ?_ | ((with_reducible refine atLd ?_); first | refine ld_b hs ?_ | refine ld_b (x := ⟨_, _, _⟩) hs ?_ | refine ld_r0 hs ?_ | refine ld_r1 hs ?_ | refine ld_rd0 ha_ hs ?_ | refine ld_rd1 ha_ hs ?_) | ((with_reducible refine isSt ?_); first | refine st_b hs fun w hs => ?_ | refine st_r0 hs fun w hs => ?_ | refine st_r1 hs fun w hs => ?_) | ((with_reducible refine isIdx ?_); first | refine idx_s hs fun b_ o_ hs => ?_ | refine idx_rd hs fun b_ o_ ha_ => ?_) | with_reducible refine newB_at hs fun b_ w hs => ?_ | ((with_reducible refine isLdS ?_); first | refine ldS_b ?_ | refine ldS_b (x := ⟨_, _, _⟩) ?_ | refine ldS_rs0 hs ?_ | refine ldS_rd0 ha_ ?_) | ((with_reducible refine isKeep ?_); first | refine keep_of hs ?_ | refine keep_imp hs ?_) | with_reducible refine when_om ?_ | with_reducible refine drawW_sat hs fun w hs => ?_)
  refine app_one (s := s) (a := (key, i)) hs rfl rfl rfl rfl (by decide) (by simp only; omega) fun s2 w hs2 hs => ?_
  repeat (first | with_reducible refine nilck_some ?_ | ((with_reducible refine atLd ?_); first | refine ld_b hs ?_ | refine ld_b (x := ⟨_, _, _⟩) hs ?_ | refine ld_r0 hs ?_ | refine ld_r1 hs ?_ | refine ld_rd0 ha_ hs ?_ | refine ld_rd1 ha_ hs ?_) | ((with_reducible refine isSt ?_); first | refine st_b hs fun w hs => ?_ | refine st_r0 hs fun w hs => ?_ | refine st_r1 hs fun w hs => ?_) | ((with_reducible refine isIdx ?_); first | refine idx_s hs fun b_ o_ hs => ?_ | refine idx_rd hs fun b_ o_ ha_ => ?_) | with_reducible refine newB_at hs fun b_ w hs => ?_ | ((with_reducible refine isLdS ?_); first | refine ldS_b ?_ | refine ldS_b (x := ⟨_, _, _⟩) ?_ | refine ldS_rs0 hs ?_ | refine ldS_rd0 ha_ ?_) | ((with_reducible refine isKeep ?_); first | refine keep_of hs ?_ | refine keep_imp hs ?_) | with_reducible refine when_om ?_ | with_reducible refine drawW_sat hs fun w hs => ?_)
  exact ⟨rfl, rr_shut s2 q (by exact Sat.fin hs)⟩
theorem lPrune_cons_hot {a : ByteArray × Int} {t : SL} (h : a.2 = 1) : lPrune (a :: t) = a :: t := by unfold lPrune; rw [List.dropWhile_cons, if_neg (by simp [h])]
theorem lPrune_cons_not {a : ByteArray × Int} {t : SL} (h : a.2 ≠ 1) : lPrune (a :: t) = lPrune t := by unfold lPrune; rw [List.dropWhile_cons, if_pos (by simp [h])]
theorem r13_prune (h : Sat W w L) [hA : At L b (rrR b c x) F] (hz : x.s.length < 1000000) : Calls Try.prog id_hoardref13_Engine_prune #[.pointer (some ⟨b, 0, none⟩)] w fun e w' => e = .returned (.tuple #[]) ∧ Sat W w' (F (rrR b c (lPr x))) := by
  refine At.call1 (hA := hA) h fun M hs => ?_
  clear h hA
  refine c1 (hoardref13_Engine_prune_calls ?_)
  rw [hoardref13_Engine_prune_def, hoardref13_Engine_prune_raw]
  have loop : ∀ (f : Nat) (S : SL) (w : World), S.length = f → f < 1000000 → Sat W w (rrR b c ⟨S, x.q⟩ :: M) →
      hoardref13_Engine_prune_l1 idJ (fun v w' => v = .tuple #[] ∧ Sat W w' (rrR b c ⟨lPrune S, x.q⟩ :: M)) (f + 1) (some ⟨b, 0, none⟩) w := by
    clear hs
    intro f
    induction f with
    | zero =>
      intro S w hf hz hs
      have hS : S = [] := List.length_eq_zero_iff.1 hf
      subst hS
      rw [hoardref13_Engine_prune_l1_raw]
      obtain ⟨s, q, hs1, hq1, hs⟩ := rr_open hs
      simp only [List.length_nil] at hs1
      repeat (first | with_reducible refine nilck_some ?_ | ((with_reducible refine atLd ?_); first | refine ld_b hs ?_ | refine ld_b (x := ⟨_, _, _⟩) hs ?_ | refine ld_r0 hs ?_ | refine ld_r1 hs ?_ | refine ld_rd0 ha_ hs ?_ | refine ld_rd1 ha_ hs ?_) | ((with_reducible refine isSt ?_); first | refine st_b hs fun w hs => ?_ | refine st_r0 hs fun w hs => ?_ | refine st_r1 hs fun w hs => ?_) | ((with_reducible refine isIdx ?_); first | refine idx_s hs fun b_ o_ hs => ?_ | refine idx_rd hs fun b_ o_ ha_ => ?_) | with_reducible refine newB_at hs fun b_ w hs => ?_ | ((with_reducible refine isLdS ?_); first | refine ldS_b ?_ | refine ldS_b (x := ⟨_, _, _⟩) ?_ | refine ldS_rs0 hs ?_ | refine ldS_rd0 ha_ ?_) | ((with_reducible refine isKeep ?_); first | refine keep_of hs ?_ | refine keep_imp hs ?_) | with_reducible refine when_om ?_ | with_reducible refine drawW_sat hs fun w hs => ?_)
      refine ite_false (decide_eq_false (by omega)) ?_
      exact ⟨rfl, rr_shut s q (by exact Sat.fin hs)⟩
    | succ f ih =>
      intro S w hf hz hs
      obtain ⟨a, t, rfl⟩ : ∃ a t, S = a :: t := by
        cases S with
        | nil => simp at hf
        | cons a t => exact ⟨a, t, rfl⟩
      rw [hoardref13_Engine_prune_l1_raw]
      obtain ⟨s, q, hs1, hq1, hs⟩ := rr_open hs
      simp only [List.length_cons] at hs1 hf
      repeat (first | with_reducible refine nilck_some ?_ | ((with_reducible refine atLd ?_); first | refine ld_b hs ?_ | refine ld_b (x := ⟨_, _, _⟩) hs ?_ | refine ld_r0 hs ?_ | refine ld_r1 hs ?_ | refine ld_rd0 ha_ hs ?_ | refine ld_rd1 ha_ hs ?_) | ((with_reducible refine isSt ?_); first | refine st_b hs fun w hs => ?_ | refine st_r0 hs fun w hs => ?_ | refine st_r1 hs fun w hs => ?_) | ((with_reducible refine isIdx ?_); first | refine idx_s hs fun b_ o_ hs => ?_ | refine idx_rd hs fun b_ o_ ha_ => ?_) | with_reducible refine newB_at hs fun b_ w hs => ?_ | ((with_reducible refine isLdS ?_); first | refine ldS_b ?_ | refine ldS_b (x := ⟨_, _, _⟩) ?_ | refine ldS_rs0 hs ?_ | refine ldS_rd0 ha_ ?_) | ((with_reducible refine isKeep ?_); first | refine keep_of hs ?_ | refine keep_imp hs ?_) | with_reducible refine when_om ?_ | with_reducible refine drawW_sat hs fun w hs => ?_)
      refine ite_true (decide_eq_true (by omega)) ?_
      repeat (first | with_reducible refine nilck_some ?_ | ((with_reducible refine atLd ?_); first | refine ld_b hs ?_ | refine ld_b (x := ⟨_, _, _⟩) hs ?_ | refine ld_r0 hs ?_ | refine ld_r1 hs ?_ | refine ld_rd0 ha_ hs ?_ | refine ld_rd1 ha_ hs ?_) | ((with_reducible refine isSt ?_); first | refine st_b hs fun w hs => ?_ | refine st_r0 hs fun w hs => ?_ | refine st_r1 hs fun w hs => ?_) | ((with_reducible refine isIdx ?_); first | refine idx_s hs fun b_ o_ hs => ?_ | refine idx_rd hs fun b_ o_ ha_ => ?_) | with_reducible refine newB_at hs fun b_ w hs => ?_ | ((with_reducible refine isLdS ?_); first | refine ldS_b ?_ | refine ldS_b (x := ⟨_, _, _⟩) ?_ | refine ldS_rs0 hs ?_ | refine ldS_rd0 ha_ ?_) | ((with_reducible refine isKeep ?_); first | refine keep_of hs ?_ | refine keep_imp hs ?_) | with_reducible refine when_om ?_ | with_reducible refine drawW_sat hs fun w hs => ?_)
      have hg : ((a :: t).getD (Int.toNat 0) default) = a := rfl
      rw [hg]
      with_reducible refine ite_by (fun h1 => ?_) (fun h1 => ?_)
      · have h1 : a.2 ≠ 1 := fun h => h1 (kB_hot.2 h)
        rw [lPrune_cons_not h1, hoardref13_Engine_prune_j2_def, hoardref13_Engine_prune_j2_raw]
        repeat (first | with_reducible refine nilck_some ?_ | ((with_reducible refine atLd ?_); first | refine ld_b hs ?_ | refine ld_b (x := ⟨_, _, _⟩) hs ?_ | refine ld_r0 hs ?_ | refine ld_r1 hs ?_ | refine ld_rd0 ha_ hs ?_ | refine ld_rd1 ha_ hs ?_) | ((with_reducible refine isSt ?_); first | refine st_b hs fun w hs => ?_ | refine st_r0 hs fun w hs => ?_ | refine st_r1 hs fun w hs => ?_) | ((with_reducible refine isIdx ?_); first | refine idx_s hs fun b_ o_ hs => ?_ | refine idx_rd hs fun b_ o_ ha_ => ?_) | with_reducible refine newB_at hs fun b_ w hs => ?_ | ((with_reducible refine isLdS ?_); first | refine ldS_b ?_ | refine ldS_b (x := ⟨_, _, _⟩) ?_ | refine ldS_rs0 hs ?_ | refine ldS_rd0 ha_ ?_) | ((with_reducible refine isKeep ?_); first | refine keep_of hs ?_ | refine keep_imp hs ?_) | with_reducible refine when_om ?_ | with_reducible refine drawW_sat hs fun w hs => ?_)
        refine app_own hs lcR (rows := []) rfl rfl (new := t) (rd_sub (s := s) (E := lcR) (rows := a :: t) (lo := 1) (c := s.c) hs (k := t.length) (by simp; omega) (by simp; omega) (by rw [hs1.1]; simp [lcR]) |>.trans (by simp)) (by simp; omega) (okC_flat _) rfl (by decide) (by simp; omega) fun s2 w hs2 hs => ?_
        rw [List.nil_append] at hs
        repeat (first | with_reducible refine nilck_some ?_ | ((with_reducible refine atLd ?_); first | refine ld_b hs ?_ | refine ld_b (x := ⟨_, _, _⟩) hs ?_ | refine ld_r0 hs ?_ | refine ld_r1 hs ?_ | refine ld_rd0 ha_ hs ?_ | refine ld_rd1 ha_ hs ?_) | ((with_reducible refine isSt ?_); first | refine st_b hs fun w hs => ?_ | refine st_r0 hs fun w hs => ?_ | refine st_r1 hs fun w hs => ?_) | ((with_reducible refine isIdx ?_); first | refine idx_s hs fun b_ o_ hs => ?_ | refine idx_rd hs fun b_ o_ ha_ => ?_) | with_reducible refine newB_at hs fun b_ w hs => ?_ | ((with_reducible refine isLdS ?_); first | refine ldS_b ?_ | refine ldS_b (x := ⟨_, _, _⟩) ?_ | refine ldS_rs0 hs ?_ | refine ldS_rd0 ha_ ?_) | ((with_reducible refine isKeep ?_); first | refine keep_of hs ?_ | refine keep_imp hs ?_) | with_reducible refine when_om ?_ | with_reducible refine drawW_sat hs fun w hs => ?_)
        exact ih t w (by omega) (by omega) (rr_shut s2 q (by exact Sat.fin hs))
      · have h1 : a.2 = 1 := kB_hot.1 h1
        rw [lPrune_cons_hot h1]
        exact ⟨rfl, rr_shut s q (by exact Sat.fin hs)⟩
  refine exM_of (x.s.length + 1) ?_
  exact loop x.s.length x.s w rfl hz hs
theorem r13_cools (h : Sat W w L) [hA : At L b (rrR b c x) F] (hz : x.s.length < 1000000) (hzq : x.q.length < 1000000) : Calls Try.prog id_hoardref13_Engine_cools #[.pointer (some ⟨b, 0, none⟩)] w fun e w' => e = .returned (.tuple #[]) ∧ Sat W w' (F (rrR b c (lCools x))) := by
  refine At.call1 (hA := hA) h fun M hs => ?_
  clear h hA
  refine c1 (hoardref13_Engine_cools_calls ?_)
  rw [hoardref13_Engine_cools_def, hoardref13_Engine_cools_raw]
  have loop : ∀ (f j : Nat) (w : World), j + f = x.s.length → lFirst (x.s.drop j) 1 = lFirst x.s 1 → Sat W w (rrR b c x :: M) →
      hoardref13_Engine_cools_l1 idJ (fun v w' => v = .tuple #[] ∧ Sat W w' (rrR b c (lCools x) :: M)) (f + 1) (some ⟨b, 0, none⟩) (j : Int) w := by
    clear hs
    intro f
    induction f with
    | zero =>
      intro j w hif hno hs
      rw [hoardref13_Engine_cools_l1_raw]
      obtain ⟨s, q, hs1, hq1, hs⟩ := rr_open hs
      repeat (first | with_reducible refine nilck_some ?_ | ((with_reducible refine atLd ?_); first | refine ld_b hs ?_ | refine ld_b (x := ⟨_, _, _⟩) hs ?_ | refine ld_r0 hs ?_ | refine ld_r1 hs ?_ | refine ld_rd0 ha_ hs ?_ | refine ld_rd1 ha_ hs ?_) | ((with_reducible refine isSt ?_); first | refine st_b hs fun w hs => ?_ | refine st_r0 hs fun w hs => ?_ | refine st_r1 hs fun w hs => ?_) | ((with_reducible refine isIdx ?_); first | refine idx_s hs fun b_ o_ hs => ?_ | refine idx_rd hs fun b_ o_ ha_ => ?_) | with_reducible refine newB_at hs fun b_ w hs => ?_ | ((with_reducible refine isLdS ?_); first | refine ldS_b ?_ | refine ldS_b (x := ⟨_, _, _⟩) ?_ | refine ldS_rs0 hs ?_ | refine ldS_rd0 ha_ ?_) | ((with_reducible refine isKeep ?_); first | refine keep_of hs ?_ | refine keep_imp hs ?_) | with_reducible refine when_om ?_ | with_reducible refine drawW_sat hs fun w hs => ?_)
      refine ite_false (decide_eq_false (by omega)) ?_
      rw [hoardref13_Engine_cools_j2_def, hoardref13_Engine_cools_j2_raw]
      refine call0_of (r13_prune (x := x) (rr_shut s q hs) hz) fun e w ⟨he, hs⟩ => ⟨he, ?_⟩
      rw [List.drop_eq_nil_of_le (by omega)] at hno
      have e1 : lCools x = lPr x := by unfold lCools lCool0 lPr; rw [← hno]; rfl
      rw [e1]
      exact ⟨rfl, hs⟩
    | succ f ih =>
      intro j w hif hno hs
      rw [hoardref13_Engine_cools_l1_raw]
      obtain ⟨s, q, hs1, hq1, hs⟩ := rr_open hs
      repeat (first | with_reducible refine nilck_some ?_ | ((with_reducible refine atLd ?_); first | refine ld_b hs ?_ | refine ld_b (x := ⟨_, _, _⟩) hs ?_ | refine ld_r0 hs ?_ | refine ld_r1 hs ?_ | refine ld_rd0 ha_ hs ?_ | refine ld_rd1 ha_ hs ?_) | ((with_reducible refine isSt ?_); first | refine st_b hs fun w hs => ?_ | refine st_r0 hs fun w hs => ?_ | refine st_r1 hs fun w hs => ?_) | ((with_reducible refine isIdx ?_); first | refine idx_s hs fun b_ o_ hs => ?_ | refine idx_rd hs fun b_ o_ ha_ => ?_) | with_reducible refine newB_at hs fun b_ w hs => ?_ | ((with_reducible refine isLdS ?_); first | refine ldS_b ?_ | refine ldS_b (x := ⟨_, _, _⟩) ?_ | refine ldS_rs0 hs ?_ | refine ldS_rd0 ha_ ?_) | ((with_reducible refine isKeep ?_); first | refine keep_of hs ?_ | refine keep_imp hs ?_) | with_reducible refine when_om ?_ | with_reducible refine drawW_sat hs fun w hs => ?_)
      refine ite_true (decide_eq_true (by omega)) ?_
      repeat (first | with_reducible refine nilck_some ?_ | ((with_reducible refine atLd ?_); first | refine ld_b hs ?_ | refine ld_b (x := ⟨_, _, _⟩) hs ?_ | refine ld_r0 hs ?_ | refine ld_r1 hs ?_ | refine ld_rd0 ha_ hs ?_ | refine ld_rd1 ha_ hs ?_) | ((with_reducible refine isSt ?_); first | refine st_b hs fun w hs => ?_ | refine st_r0 hs fun w hs => ?_ | refine st_r1 hs fun w hs => ?_) | ((with_reducible refine isIdx ?_); first | refine idx_s hs fun b_ o_ hs => ?_ | refine idx_rd hs fun b_ o_ ha_ => ?_) | with_reducible refine newB_at hs fun b_ w hs => ?_ | ((with_reducible refine isLdS ?_); first | refine ldS_b ?_ | refine ldS_b (x := ⟨_, _, _⟩) ?_ | refine ldS_rs0 hs ?_ | refine ldS_rd0 ha_ ?_) | ((with_reducible refine isKeep ?_); first | refine keep_of hs ?_ | refine keep_imp hs ?_) | with_reducible refine when_om ?_ | with_reducible refine drawW_sat hs fun w hs => ?_)
      rw [Int.toNat_natCast]
      have hw : IntKind.wrap .i64 ((j : Int) + 1) = ((j + 1 : Nat) : Int) := by rw [i64_in _ (by omega)]; omega
      have hd := lFirst_drop (S := x.s) (i := 1) (j := j) (by omega)
      with_reducible refine ite_by (fun h1 => ?_) (fun h1 => ?_)
      · rw [if_pos (kB_hot.1 h1)] at hd
        rw [hd] at hno
        repeat (first | with_reducible refine nilck_some ?_ | ((with_reducible refine atLd ?_); first | refine ld_b hs ?_ | refine ld_b (x := ⟨_, _, _⟩) hs ?_ | refine ld_r0 hs ?_ | refine ld_r1 hs ?_ | refine ld_rd0 ha_ hs ?_ | refine ld_rd1 ha_ hs ?_) | ((with_reducible refine isSt ?_); first | refine st_b hs fun w hs => ?_ | refine st_r0 hs fun w hs => ?_ | refine st_r1 hs fun w hs => ?_) | ((with_reducible refine isIdx ?_); first | refine idx_s hs fun b_ o_ hs => ?_ | refine idx_rd hs fun b_ o_ ha_ => ?_) | with_reducible refine newB_at hs fun b_ w hs => ?_ | ((with_reducible refine isLdS ?_); first | refine ldS_b ?_ | refine ldS_b (x := ⟨_, _, _⟩) ?_ | refine ldS_rs0 hs ?_ | refine ldS_rd0 ha_ ?_) | ((with_reducible refine isKeep ?_); first | refine keep_of hs ?_ | refine keep_imp hs ?_) | with_reducible refine when_om ?_ | with_reducible refine drawW_sat hs fun w hs => ?_)
        have e1 : lCool0 x = ⟨lOut x.s (x.s.getD j default).1, x.q ++ [(x.s.getD j default).1]⟩ := by unfold lCool0; rw [← hno]
        have hs : Sat W w (rrR b c x :: M) := rr_shut s q (by exact Sat.fin hs)
        refine call0_of (r13_out hs hz) fun e w ⟨he, hs⟩ => ⟨he, ?_⟩
        obtain ⟨s, q, hs1, hq1, hs⟩ := rr_open hs
        simp only at hq1
        repeat (first | with_reducible refine nilck_some ?_ | ((with_reducible refine atLd ?_); first | refine ld_b hs ?_ | refine ld_b (x := ⟨_, _, _⟩) hs ?_ | refine ld_r0 hs ?_ | refine ld_r1 hs ?_ | refine ld_rd0 ha_ hs ?_ | refine ld_rd1 ha_ hs ?_) | ((with_reducible refine isSt ?_); first | refine st_b hs fun w hs => ?_ | refine st_r0 hs fun w hs => ?_ | refine st_r1 hs fun w hs => ?_) | ((with_reducible refine isIdx ?_); first | refine idx_s hs fun b_ o_ hs => ?_ | refine idx_rd hs fun b_ o_ ha_ => ?_) | with_reducible refine newB_at hs fun b_ w hs => ?_ | ((with_reducible refine isLdS ?_); first | refine ldS_b ?_ | refine ldS_b (x := ⟨_, _, _⟩) ?_ | refine ldS_rs0 hs ?_ | refine ldS_rd0 ha_ ?_) | ((with_reducible refine isKeep ?_); first | refine keep_of hs ?_ | refine keep_imp hs ?_) | with_reducible refine when_om ?_ | with_reducible refine drawW_sat hs fun w hs => ?_)
        refine app_one (s := q) (a := (x.s.getD j default).1) hs rfl rfl rfl rfl (by decide) (by simp only; omega) fun s2 w hs2 hs => ?_
        repeat (first | with_reducible refine nilck_some ?_ | ((with_reducible refine atLd ?_); first | refine ld_b hs ?_ | refine ld_b (x := ⟨_, _, _⟩) hs ?_ | refine ld_r0 hs ?_ | refine ld_r1 hs ?_ | refine ld_rd0 ha_ hs ?_ | refine ld_rd1 ha_ hs ?_) | ((with_reducible refine isSt ?_); first | refine st_b hs fun w hs => ?_ | refine st_r0 hs fun w hs => ?_ | refine st_r1 hs fun w hs => ?_) | ((with_reducible refine isIdx ?_); first | refine idx_s hs fun b_ o_ hs => ?_ | refine idx_rd hs fun b_ o_ ha_ => ?_) | with_reducible refine newB_at hs fun b_ w hs => ?_ | ((with_reducible refine isLdS ?_); first | refine ldS_b ?_ | refine ldS_b (x := ⟨_, _, _⟩) ?_ | refine ldS_rs0 hs ?_ | refine ldS_rd0 ha_ ?_) | ((with_reducible refine isKeep ?_); first | refine keep_of hs ?_ | refine keep_imp hs ?_) | with_reducible refine when_om ?_ | with_reducible refine drawW_sat hs fun w hs => ?_)
        rw [hoardref13_Engine_cools_j2_def, hoardref13_Engine_cools_j2_raw]
        have hl := lOut_len x.s (x.s.getD j default).1
        have hs : Sat W w (rrR b c (lCool0 x) :: M) := by rw [e1]; exact rr_shut s s2 (by exact Sat.fin hs)
        refine call0_of (r13_prune hs (by rw [e1]; simp only; omega)) fun e w ⟨he, hs⟩ => ⟨he, ?_⟩
        exact ⟨rfl, hs⟩
      · rw [if_neg (fun h => h1 (kB_hot.2 h))] at hd
        rw [hw]
        exact ih (j + 1) w (by omega) (by rw [← hd, hno]) (rr_shut s q (by exact Sat.fin hs))
  refine exM_of (x.s.length + 1) ?_
  exact loop x.s.length 0 w (by omega) rfl hs
end
end Go.Proofs.Ytgmhoenmhnlojaa
