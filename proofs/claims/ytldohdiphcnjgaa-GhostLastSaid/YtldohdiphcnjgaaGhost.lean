/- hoard/ghost and hoardref16: contracts over one chunk. -/
import Derived.Test.YtldohdiphcnjgaaGhostHp
import Derived.Test.YtldohdiphcnjgaaIndexInt
import Derived.Test.YtldohdiphcnjgaaList2S
set_option linter.unusedVariables false
set_option linter.unusedSimpArgs false
set_option linter.unnecessarySimpa false
set_option linter.unusedSectionVars false
namespace Go.Proofs.Ytldohdiphcnjgaa
open Go.Hb Go.IntWalk
section
variable {W w : World} {L M : List HP} {F : HP → List HP} {b : Nat} {room : Int} {N : Nat} {ks : List ByteArray} {k : ByteArray}
theorem gh_Has (h : Sat W w L) [hA : At L b (ghR b room N ks) F] (hz : k.size < 4611686018427387904) : Calls Try.prog id_ghost_Ghost_Has #[.pointer (some ⟨b, 0, none⟩), .string k] w fun e w' => e = .returned (.bool (gHas ks k)) ∧ Sat W w' (F (ghR b room N ks)) := by
  refine At.call1 (hA := hA) h fun M hs => ?_
  clear h hA
  refine c1 (ghost_Ghost_Has_calls ?_)
  rw [ghost_Ghost_Has_def, ghost_Ghost_Has_raw]
  obtain ⟨lb, xb, row, free, m, hi, hN, hs⟩ := gh_open hs
  refine ite_false rfl ?_
  repeat (first | with_reducible refine nilck_some ?_ | ((with_reducible refine atLd ?_); first | refine ld_b hs ?_ | refine ld_b (x := ⟨_, _, _⟩) hs ?_ | refine ld_r0 hs ?_ | refine ld_r1 hs ?_ | refine ld_r2 hs ?_ | refine ld_r3 hs ?_ | refine ld_r4 hs ?_ | refine ld_rd0 ha_ hs ?_ | refine ld_rd1 ha_ hs ?_ | refine ld_rd2 ha_ hs ?_ | refine ld_rd3 ha_ hs ?_ | refine ld_rd4 ha_ hs ?_ | fail) | ((with_reducible refine isSt ?_); first | refine st_b hs fun w hs => ?_ | refine st_rec5 hs fun w hs => ?_ | refine st_rec4 hs fun w hs => ?_ | refine st_rec3 hs fun w hs => ?_ | refine st_rec2 hs fun w hs => ?_ | refine st_r0 hs fun w hs => ?_ | refine st_r1 hs fun w hs => ?_ | fail) | ((with_reducible refine isIdx ?_); first | refine idx_s hs fun b_ o_ hs => ?_ | refine idx_a hs ?_ | refine idx_rd hs fun b_ o_ ha_ => ?_ | fail) | ((with_reducible refine isNew ?_); first | refine newB_at hs fun b_ w hs => ?_ | fail) | ((with_reducible refine isLdS ?_); first | refine ldS_b ?_ | refine ldS_b (x := ⟨_, _, _⟩) ?_ | refine ldS_r0 ?_ | refine ldS_r1 ?_ | refine ldS_r2 ?_ | refine ldS_r3 ?_ | refine ldS_rs0 hs ?_ | refine ldS_rs1 hs ?_ | refine ldS_rs2 hs ?_ | refine ldS_rs3 hs ?_ | refine ldS_rd0 ha_ ?_ | refine ldS_rd1 ha_ ?_ | refine ldS_rd2 ha_ ?_ | refine ldS_rd3 ha_ ?_ | fail) | ((with_reducible refine isKeep ?_); first | refine keep_of hs ?_ | refine keep_imp hs ?_ | fail) | ((with_reducible refine isWhen ?_); first | refine when_om ?_ | fail) | ((with_reducible refine isDraw ?_); first | refine drawW_sat hs fun w hs => ?_ | fail))
  refine call2_of (int_Get hs hz) fun e w ⟨he, hs⟩ => ⟨_, _, he, ?_⟩
  exact ⟨by rw [hi.has], gh_shut hi hN (by exact Sat.fin hs)⟩
theorem gh_Len (h : Sat W w L) [hA : At L b (ghR b room N ks) F] : Calls Try.prog id_ghost_Ghost_Len #[.pointer (some ⟨b, 0, none⟩)] w fun e w' => e = .returned (.int .i64 (ks.length : Int)) ∧ Sat W w' (F (ghR b room N ks)) := by
  refine At.call1 (hA := hA) h fun M hs => ?_
  clear h hA
  refine c1 (ghost_Ghost_Len_calls ?_)
  rw [ghost_Ghost_Len_def, ghost_Ghost_Len_raw]
  obtain ⟨lb, xb, row, free, m, hi, hN, hs⟩ := gh_open hs
  refine ite_false rfl ?_
  repeat (first | with_reducible refine nilck_some ?_ | ((with_reducible refine atLd ?_); first | refine ld_b hs ?_ | refine ld_b (x := ⟨_, _, _⟩) hs ?_ | refine ld_r0 hs ?_ | refine ld_r1 hs ?_ | refine ld_r2 hs ?_ | refine ld_r3 hs ?_ | refine ld_r4 hs ?_ | refine ld_rd0 ha_ hs ?_ | refine ld_rd1 ha_ hs ?_ | refine ld_rd2 ha_ hs ?_ | refine ld_rd3 ha_ hs ?_ | refine ld_rd4 ha_ hs ?_ | fail) | ((with_reducible refine isSt ?_); first | refine st_b hs fun w hs => ?_ | refine st_rec5 hs fun w hs => ?_ | refine st_rec4 hs fun w hs => ?_ | refine st_rec3 hs fun w hs => ?_ | refine st_rec2 hs fun w hs => ?_ | refine st_r0 hs fun w hs => ?_ | refine st_r1 hs fun w hs => ?_ | fail) | ((with_reducible refine isIdx ?_); first | refine idx_s hs fun b_ o_ hs => ?_ | refine idx_a hs ?_ | refine idx_rd hs fun b_ o_ ha_ => ?_ | fail) | ((with_reducible refine isNew ?_); first | refine newB_at hs fun b_ w hs => ?_ | fail) | ((with_reducible refine isLdS ?_); first | refine ldS_b ?_ | refine ldS_b (x := ⟨_, _, _⟩) ?_ | refine ldS_r0 ?_ | refine ldS_r1 ?_ | refine ldS_r2 ?_ | refine ldS_r3 ?_ | refine ldS_rs0 hs ?_ | refine ldS_rs1 hs ?_ | refine ldS_rs2 hs ?_ | refine ldS_rs3 hs ?_ | refine ldS_rd0 ha_ ?_ | refine ldS_rd1 ha_ ?_ | refine ldS_rd2 ha_ ?_ | refine ldS_rd3 ha_ ?_ | fail) | ((with_reducible refine isKeep ?_); first | refine keep_of hs ?_ | refine keep_imp hs ?_ | fail) | ((with_reducible refine isWhen ?_); first | refine when_om ?_ | fail) | ((with_reducible refine isDraw ?_); first | refine drawW_sat hs fun w hs => ?_ | fail))
  refine call1_of (string_Len hs) fun e w ⟨he, hs⟩ => ⟨_, he, ?_⟩
  exact ⟨by rw [hi.len.2], gh_shut hi hN (by exact Sat.fin hs)⟩
theorem gh_Keys (h : Sat W w L) [hA : At L b (ghR b room N ks) F] (hb : N < 800000000) : Calls Try.prog id_ghost_Ghost_Keys #[.pointer (some ⟨b, 0, none⟩)] w fun e w' => ∃ l : Sl, e = .returned (.slice l.a l.n l.c) ∧ Sat W w' (recs Rec.str l ks :: F (ghR b room N ks)) := by
  refine At.oneX (hA := hA) h fun M hs hb2 => ?_
  refine (ghost_Ghost_Keys_calls (Q := fun v w' => ∃ l : Sl, v = .slice l.a l.n l.c ∧ Sat W w' (ghR b room N ks :: recs Rec.str l ks :: M)) ?_).mono fun e w' ⟨v, he, l, hv, hs⟩ => ⟨l, by rw [he, hv], ?_⟩
  · rw [ghost_Ghost_Keys_def, ghost_Ghost_Keys_raw]
    obtain ⟨lb, xb, row, free, m, hi, hN, hs⟩ := gh_open hs
    refine ite_false rfl ?_
    repeat (first | with_reducible refine nilck_some ?_ | ((with_reducible refine atLd ?_); first | refine ld_b hs ?_ | refine ld_b (x := ⟨_, _, _⟩) hs ?_ | refine ld_r0 hs ?_ | refine ld_r1 hs ?_ | refine ld_r2 hs ?_ | refine ld_r3 hs ?_ | refine ld_r4 hs ?_ | refine ld_rd0 ha_ hs ?_ | refine ld_rd1 ha_ hs ?_ | refine ld_rd2 ha_ hs ?_ | refine ld_rd3 ha_ hs ?_ | refine ld_rd4 ha_ hs ?_ | fail) | ((with_reducible refine isSt ?_); first | refine st_b hs fun w hs => ?_ | refine st_rec5 hs fun w hs => ?_ | refine st_rec4 hs fun w hs => ?_ | refine st_rec3 hs fun w hs => ?_ | refine st_rec2 hs fun w hs => ?_ | refine st_r0 hs fun w hs => ?_ | refine st_r1 hs fun w hs => ?_ | fail) | ((with_reducible refine isIdx ?_); first | refine idx_s hs fun b_ o_ hs => ?_ | refine idx_a hs ?_ | refine idx_rd hs fun b_ o_ ha_ => ?_ | fail) | ((with_reducible refine isNew ?_); first | refine newB_at hs fun b_ w hs => ?_ | fail) | ((with_reducible refine isLdS ?_); first | refine ldS_b ?_ | refine ldS_b (x := ⟨_, _, _⟩) ?_ | refine ldS_r0 ?_ | refine ldS_r1 ?_ | refine ldS_r2 ?_ | refine ldS_r3 ?_ | refine ldS_rs0 hs ?_ | refine ldS_rs1 hs ?_ | refine ldS_rs2 hs ?_ | refine ldS_rs3 hs ?_ | refine ldS_rd0 ha_ ?_ | refine ldS_rd1 ha_ ?_ | refine ldS_rd2 ha_ ?_ | refine ldS_rd3 ha_ ?_ | fail) | ((with_reducible refine isKeep ?_); first | refine keep_of hs ?_ | refine keep_imp hs ?_ | fail) | ((with_reducible refine isWhen ?_); first | refine when_om ?_ | fail) | ((with_reducible refine isDraw ?_); first | refine drawW_sat hs fun w hs => ?_ | fail))
    refine (string_All hs (by omega)).mono fun e w ⟨l, he, hs⟩ => ⟨_, he, ?_⟩
    rw [hi.keys] at hs
    exact ⟨l, rfl, gh_shut (row := row) (free := free) (m := m) hi hN (by exact Sat.fin hs)⟩
  · exact hb2 _ _ [recs Rec.str l ks] hs
theorem gh_Take (h : Sat W w L) [hA : At L b (ghR b room N ks) F] (hz : k.size < 4611686018427387904) (hb : N < 800000000) : Calls Try.prog id_ghost_Ghost_Take #[.pointer (some ⟨b, 0, none⟩), .string k] w fun e w' => e = .returned (.bool (gHas ks k)) ∧ Sat W w' (F (ghR b room N (gTake ks k))) := by
  refine At.call1 (hA := hA) h fun M hs => ?_
  clear h hA
  refine c1 (ghost_Ghost_Take_calls ?_)
  rw [ghost_Ghost_Take_def, ghost_Ghost_Take_raw]
  obtain ⟨lb, xb, row, free, m, hi, hN, hs⟩ := gh_open hs
  have hl := hi.len
  have hhas := hi.has (k := k)
  refine ite_false rfl ?_
  repeat (first | with_reducible refine nilck_some ?_ | ((with_reducible refine atLd ?_); first | refine ld_b hs ?_ | refine ld_b (x := ⟨_, _, _⟩) hs ?_ | refine ld_r0 hs ?_ | refine ld_r1 hs ?_ | refine ld_r2 hs ?_ | refine ld_r3 hs ?_ | refine ld_r4 hs ?_ | refine ld_rd0 ha_ hs ?_ | refine ld_rd1 ha_ hs ?_ | refine ld_rd2 ha_ hs ?_ | refine ld_rd3 ha_ hs ?_ | refine ld_rd4 ha_ hs ?_ | fail) | ((with_reducible refine isSt ?_); first | refine st_b hs fun w hs => ?_ | refine st_rec5 hs fun w hs => ?_ | refine st_rec4 hs fun w hs => ?_ | refine st_rec3 hs fun w hs => ?_ | refine st_rec2 hs fun w hs => ?_ | refine st_r0 hs fun w hs => ?_ | refine st_r1 hs fun w hs => ?_ | fail) | ((with_reducible refine isIdx ?_); first | refine idx_s hs fun b_ o_ hs => ?_ | refine idx_a hs ?_ | refine idx_rd hs fun b_ o_ ha_ => ?_ | fail) | ((with_reducible refine isNew ?_); first | refine newB_at hs fun b_ w hs => ?_ | fail) | ((with_reducible refine isLdS ?_); first | refine ldS_b ?_ | refine ldS_b (x := ⟨_, _, _⟩) ?_ | refine ldS_r0 ?_ | refine ldS_r1 ?_ | refine ldS_r2 ?_ | refine ldS_r3 ?_ | refine ldS_rs0 hs ?_ | refine ldS_rs1 hs ?_ | refine ldS_rs2 hs ?_ | refine ldS_rs3 hs ?_ | refine ldS_rd0 ha_ ?_ | refine ldS_rd1 ha_ ?_ | refine ldS_rd2 ha_ ?_ | refine ldS_rd3 ha_ ?_ | fail) | ((with_reducible refine isKeep ?_); first | refine keep_of hs ?_ | refine keep_imp hs ?_ | fail) | ((with_reducible refine isWhen ?_); first | refine when_om ?_ | fail) | ((with_reducible refine isDraw ?_); first | refine drawW_sat hs fun w hs => ?_ | fail))
  refine call2_of (int_Delete hs hz (by omega)) fun e w ⟨he, hs⟩ => ⟨_, _, he, ?_⟩
  cases hg : mGet m k with
  | none =>
    rw [hg] at hhas
    obtain ⟨h1, h2, h3⟩ := hi.miss hg
    refine ite_false rfl ?_
    rw [← hhas, h2]
    exact ⟨rfl, gh_shut h3 hN (by exact Sat.fin hs)⟩
  | some x =>
    rw [hg] at hhas
    have hnd := lst_nodup (mk := .string) (b := lb) (row := row) (free := free) (M := blk b [.int .i64 room, .pointer (some ⟨lb, 0, none⟩), .pointer (some ⟨xb, 0, none⟩)] :: ixr (Rec.int .i64) xb 0 (mDel m k) :: M) (by exact Sat.fin hs)
    obtain ⟨i, h1, h2⟩ := hi.hit hg hnd
    refine ite_true rfl ?_
    repeat (first | with_reducible refine nilck_some ?_ | ((with_reducible refine atLd ?_); first | refine ld_b hs ?_ | refine ld_b (x := ⟨_, _, _⟩) hs ?_ | refine ld_r0 hs ?_ | refine ld_r1 hs ?_ | refine ld_r2 hs ?_ | refine ld_r3 hs ?_ | refine ld_r4 hs ?_ | refine ld_rd0 ha_ hs ?_ | refine ld_rd1 ha_ hs ?_ | refine ld_rd2 ha_ hs ?_ | refine ld_rd3 ha_ hs ?_ | refine ld_rd4 ha_ hs ?_ | fail) | ((with_reducible refine isSt ?_); first | refine st_b hs fun w hs => ?_ | refine st_rec5 hs fun w hs => ?_ | refine st_rec4 hs fun w hs => ?_ | refine st_rec3 hs fun w hs => ?_ | refine st_rec2 hs fun w hs => ?_ | refine st_r0 hs fun w hs => ?_ | refine st_r1 hs fun w hs => ?_ | fail) | ((with_reducible refine isIdx ?_); first | refine idx_s hs fun b_ o_ hs => ?_ | refine idx_a hs ?_ | refine idx_rd hs fun b_ o_ ha_ => ?_ | fail) | ((with_reducible refine isNew ?_); first | refine newB_at hs fun b_ w hs => ?_ | fail) | ((with_reducible refine isLdS ?_); first | refine ldS_b ?_ | refine ldS_b (x := ⟨_, _, _⟩) ?_ | refine ldS_r0 ?_ | refine ldS_r1 ?_ | refine ldS_r2 ?_ | refine ldS_r3 ?_ | refine ldS_rs0 hs ?_ | refine ldS_rs1 hs ?_ | refine ldS_rs2 hs ?_ | refine ldS_rs3 hs ?_ | refine ldS_rd0 ha_ ?_ | refine ldS_rd1 ha_ ?_ | refine ldS_rd2 ha_ ?_ | refine ldS_rd3 ha_ ?_ | fail) | ((with_reducible refine isKeep ?_); first | refine keep_of hs ?_ | refine keep_imp hs ?_ | fail) | ((with_reducible refine isWhen ?_); first | refine when_om ?_ | fail) | ((with_reducible refine isDraw ?_); first | refine drawW_sat hs fun w hs => ?_ | fail))
    refine call2_of (string_Remove hs (by omega)) fun e w ⟨he, hs⟩ => ⟨_, _, he, ?_⟩
    simp only [Option.getD_some, h1] at hs
    rw [← hhas]
    obtain ⟨_, _, _, _, hlt⟩ := rAt_some h1
    refine ⟨rfl, gh_shut h2 ?_ (by exact Sat.fin hs)⟩
    rw [List.length_eraseIdx, if_pos hlt]
    simp; omega
theorem gh_Add (h : Sat W w L) [hA : At L b (ghR b room N ks) F] (hz : k.size < 4611686018427387904) (hb : N < 700000000) : Calls Try.prog id_ghost_Ghost_Add #[.pointer (some ⟨b, 0, none⟩), .string k] w fun e w' => e = .returned (.tuple #[.string (gGone room ks k), .bool (gFull room ks k)]) ∧ Sat W w' (F (ghR b room (N + 1) (gAdd room ks k))) := by
  refine At.call1 (hA := hA) h fun M hs => ?_
  clear h hA
  refine c1 (ghost_Ghost_Add_calls ?_)
  rw [ghost_Ghost_Add_def, ghost_Ghost_Add_raw]
  refine ite_false rfl ?_
  refine call1_of (gh_Take hs hz (by omega)) fun e w ⟨he, hs⟩ => ⟨_, he, ?_⟩
  obtain ⟨lb, xb, row, free, m, hi, hN, hs⟩ := gh_open hs
  have hl := hi.len
  have hk : k ∉ gTake ks k := fun h => (gTake_mem.1 h).2 rfl
  refine drawW_only [blk b [.int .i64 room, .pointer (some ⟨lb, 0, none⟩), .pointer (some ⟨xb, 0, none⟩)]] hs fun w hs => ?_
  repeat (first | with_reducible refine nilck_some ?_ | ((with_reducible refine atLd ?_); first | refine ld_b hs ?_ | refine ld_b (x := ⟨_, _, _⟩) hs ?_ | refine ld_r0 hs ?_ | refine ld_r1 hs ?_ | refine ld_r2 hs ?_ | refine ld_r3 hs ?_ | refine ld_r4 hs ?_ | refine ld_rd0 ha_ hs ?_ | refine ld_rd1 ha_ hs ?_ | refine ld_rd2 ha_ hs ?_ | refine ld_rd3 ha_ hs ?_ | refine ld_rd4 ha_ hs ?_ | fail) | ((with_reducible refine isSt ?_); first | refine st_b hs fun w hs => ?_ | refine st_rec5 hs fun w hs => ?_ | refine st_rec4 hs fun w hs => ?_ | refine st_rec3 hs fun w hs => ?_ | refine st_rec2 hs fun w hs => ?_ | refine st_r0 hs fun w hs => ?_ | refine st_r1 hs fun w hs => ?_ | fail) | ((with_reducible refine isIdx ?_); first | refine idx_s hs fun b_ o_ hs => ?_ | refine idx_a hs ?_ | refine idx_rd hs fun b_ o_ ha_ => ?_ | fail) | ((with_reducible refine isNew ?_); first | refine newB_at hs fun b_ w hs => ?_ | fail) | ((with_reducible refine isLdS ?_); first | refine ldS_b ?_ | refine ldS_b (x := ⟨_, _, _⟩) ?_ | refine ldS_r0 ?_ | refine ldS_r1 ?_ | refine ldS_r2 ?_ | refine ldS_r3 ?_ | refine ldS_rs0 hs ?_ | refine ldS_rs1 hs ?_ | refine ldS_rs2 hs ?_ | refine ldS_rs3 hs ?_ | refine ldS_rd0 ha_ ?_ | refine ldS_rd1 ha_ ?_ | refine ldS_rd2 ha_ ?_ | refine ldS_rd3 ha_ ?_ | fail) | ((with_reducible refine isKeep ?_); first | refine keep_of hs ?_ | refine keep_imp hs ?_ | fail) | ((with_reducible refine isWhen ?_); first | refine when_om ?_ | fail) | ((with_reducible refine isDraw ?_); first | refine drawW_sat hs fun w hs => ?_ | fail))
  refine call1_of (string_PushBack hs (by omega)) fun e w ⟨he, hs⟩ => ⟨_, he, ?_⟩
  repeat (first | with_reducible refine nilck_some ?_ | ((with_reducible refine atLd ?_); first | refine ld_b hs ?_ | refine ld_b (x := ⟨_, _, _⟩) hs ?_ | refine ld_r0 hs ?_ | refine ld_r1 hs ?_ | refine ld_r2 hs ?_ | refine ld_r3 hs ?_ | refine ld_r4 hs ?_ | refine ld_rd0 ha_ hs ?_ | refine ld_rd1 ha_ hs ?_ | refine ld_rd2 ha_ hs ?_ | refine ld_rd3 ha_ hs ?_ | refine ld_rd4 ha_ hs ?_ | fail) | ((with_reducible refine isSt ?_); first | refine st_b hs fun w hs => ?_ | refine st_rec5 hs fun w hs => ?_ | refine st_rec4 hs fun w hs => ?_ | refine st_rec3 hs fun w hs => ?_ | refine st_rec2 hs fun w hs => ?_ | refine st_r0 hs fun w hs => ?_ | refine st_r1 hs fun w hs => ?_ | fail) | ((with_reducible refine isIdx ?_); first | refine idx_s hs fun b_ o_ hs => ?_ | refine idx_a hs ?_ | refine idx_rd hs fun b_ o_ ha_ => ?_ | fail) | ((with_reducible refine isNew ?_); first | refine newB_at hs fun b_ w hs => ?_ | fail) | ((with_reducible refine isLdS ?_); first | refine ldS_b ?_ | refine ldS_b (x := ⟨_, _, _⟩) ?_ | refine ldS_r0 ?_ | refine ldS_r1 ?_ | refine ldS_r2 ?_ | refine ldS_r3 ?_ | refine ldS_rs0 hs ?_ | refine ldS_rs1 hs ?_ | refine ldS_rs2 hs ?_ | refine ldS_rs3 hs ?_ | refine ldS_rd0 ha_ ?_ | refine ldS_rd1 ha_ ?_ | refine ldS_rd2 ha_ ?_ | refine ldS_rd3 ha_ ?_ | fail) | ((with_reducible refine isKeep ?_); first | refine keep_of hs ?_ | refine keep_imp hs ?_ | fail) | ((with_reducible refine isWhen ?_); first | refine when_om ?_ | fail) | ((with_reducible refine isDraw ?_); first | refine drawW_sat hs fun w hs => ?_ | fail))
  refine call1_of (int_Put hs hz hi.small_m (by omega)) fun e w ⟨he, hs⟩ => ⟨_, he, ?_⟩
  have hi2 := hi.push hk hz (hdl row free)
  have hN2 : (row ++ [(hdl row free, k)]).length + free.dropLast.length ≤ N + 1 := by simp; omega
  refine drawW_only [blk b [.int .i64 room, .pointer (some ⟨lb, 0, none⟩), .pointer (some ⟨xb, 0, none⟩)]] hs fun w hs => ?_
  repeat (first | with_reducible refine nilck_some ?_ | ((with_reducible refine atLd ?_); first | refine ld_b hs ?_ | refine ld_b (x := ⟨_, _, _⟩) hs ?_ | refine ld_r0 hs ?_ | refine ld_r1 hs ?_ | refine ld_r2 hs ?_ | refine ld_r3 hs ?_ | refine ld_r4 hs ?_ | refine ld_rd0 ha_ hs ?_ | refine ld_rd1 ha_ hs ?_ | refine ld_rd2 ha_ hs ?_ | refine ld_rd3 ha_ hs ?_ | refine ld_rd4 ha_ hs ?_ | fail) | ((with_reducible refine isSt ?_); first | refine st_b hs fun w hs => ?_ | refine st_rec5 hs fun w hs => ?_ | refine st_rec4 hs fun w hs => ?_ | refine st_rec3 hs fun w hs => ?_ | refine st_rec2 hs fun w hs => ?_ | refine st_r0 hs fun w hs => ?_ | refine st_r1 hs fun w hs => ?_ | fail) | ((with_reducible refine isIdx ?_); first | refine idx_s hs fun b_ o_ hs => ?_ | refine idx_a hs ?_ | refine idx_rd hs fun b_ o_ ha_ => ?_ | fail) | ((with_reducible refine isNew ?_); first | refine newB_at hs fun b_ w hs => ?_ | fail) | ((with_reducible refine isLdS ?_); first | refine ldS_b ?_ | refine ldS_b (x := ⟨_, _, _⟩) ?_ | refine ldS_r0 ?_ | refine ldS_r1 ?_ | refine ldS_r2 ?_ | refine ldS_r3 ?_ | refine ldS_rs0 hs ?_ | refine ldS_rs1 hs ?_ | refine ldS_rs2 hs ?_ | refine ldS_rs3 hs ?_ | refine ldS_rd0 ha_ ?_ | refine ldS_rd1 ha_ ?_ | refine ldS_rd2 ha_ ?_ | refine ldS_rd3 ha_ ?_ | fail) | ((with_reducible refine isKeep ?_); first | refine keep_of hs ?_ | refine keep_imp hs ?_ | fail) | ((with_reducible refine isWhen ?_); first | refine when_om ?_ | fail) | ((with_reducible refine isDraw ?_); first | refine drawW_sat hs fun w hs => ?_ | fail))
  refine call1_of (string_Len hs) fun e w ⟨he, hs⟩ => ⟨_, he, ?_⟩
  repeat (first | with_reducible refine nilck_some ?_ | ((with_reducible refine atLd ?_); first | refine ld_b hs ?_ | refine ld_b (x := ⟨_, _, _⟩) hs ?_ | refine ld_r0 hs ?_ | refine ld_r1 hs ?_ | refine ld_r2 hs ?_ | refine ld_r3 hs ?_ | refine ld_r4 hs ?_ | refine ld_rd0 ha_ hs ?_ | refine ld_rd1 ha_ hs ?_ | refine ld_rd2 ha_ hs ?_ | refine ld_rd3 ha_ hs ?_ | refine ld_rd4 ha_ hs ?_ | fail) | ((with_reducible refine isSt ?_); first | refine st_b hs fun w hs => ?_ | refine st_rec5 hs fun w hs => ?_ | refine st_rec4 hs fun w hs => ?_ | refine st_rec3 hs fun w hs => ?_ | refine st_rec2 hs fun w hs => ?_ | refine st_r0 hs fun w hs => ?_ | refine st_r1 hs fun w hs => ?_ | fail) | ((with_reducible refine isIdx ?_); first | refine idx_s hs fun b_ o_ hs => ?_ | refine idx_a hs ?_ | refine idx_rd hs fun b_ o_ ha_ => ?_ | fail) | ((with_reducible refine isNew ?_); first | refine newB_at hs fun b_ w hs => ?_ | fail) | ((with_reducible refine isLdS ?_); first | refine ldS_b ?_ | refine ldS_b (x := ⟨_, _, _⟩) ?_ | refine ldS_r0 ?_ | refine ldS_r1 ?_ | refine ldS_r2 ?_ | refine ldS_r3 ?_ | refine ldS_rs0 hs ?_ | refine ldS_rs1 hs ?_ | refine ldS_rs2 hs ?_ | refine ldS_rs3 hs ?_ | refine ldS_rd0 ha_ ?_ | refine ldS_rd1 ha_ ?_ | refine ldS_rd2 ha_ ?_ | refine ldS_rd3 ha_ ?_ | fail) | ((with_reducible refine isKeep ?_); first | refine keep_of hs ?_ | refine keep_imp hs ?_ | fail) | ((with_reducible refine isWhen ?_); first | refine when_om ?_ | fail) | ((with_reducible refine isDraw ?_); first | refine drawW_sat hs fun w hs => ?_ | fail))
  rw [show (row ++ [(hdl row free, k)]).length = (gTake ks k ++ [k]).length by rw [hi2.len.2]]
  have hs := gh_shut (b := b) (room := room) (lb := lb) (xb := xb) (M := M) hi2 hN2 (by exact Sat.fin hs)
  refine ite_cases (fun h1 => ?_) (fun h1 => ?_)
  · have h1 := of_decide_eq_true h1
    have e1 : gAdd room ks k = gTake ks k ++ [k] := if_pos h1
    have e2 : gGone room ks k = str_empty := if_pos h1
    have e3 : gFull room ks k = false := by unfold gFull; rw [decide_eq_true h1]; rfl
    rw [e1, e2, e3]
    exact ⟨rfl, hs⟩
  · have h1 := of_decide_eq_false h1
    have hnd := (gh_inv hs).1
    have hsm := (gh_inv hs).2.2
    obtain ⟨x, t, hx⟩ : ∃ x t, gTake ks k ++ [k] = x :: t := by
      cases hc : gTake ks k ++ [k] with
      | nil => simp at hc
      | cons x t => exact ⟨x, t, rfl⟩
    have e1 : gAdd room ks k = t := by unfold gAdd; rw [if_neg h1, hx]; rfl
    have e2 : gGone room ks k = x := by unfold gGone; rw [if_neg h1, hx]; rfl
    have e3 : gFull room ks k = true := by unfold gFull; rw [decide_eq_false h1]; rfl
    rw [e1, e2, e3]
    rw [hx] at hs hnd hsm
    obtain ⟨lb, xb, row, free, m, hi, hN, hs⟩ := gh_open hs
    refine drawW_only [blk b [.int .i64 room, .pointer (some ⟨lb, 0, none⟩), .pointer (some ⟨xb, 0, none⟩)]] hs fun w hs => ?_
    repeat (first | with_reducible refine nilck_some ?_ | ((with_reducible refine atLd ?_); first | refine ld_b hs ?_ | refine ld_b (x := ⟨_, _, _⟩) hs ?_ | refine ld_r0 hs ?_ | refine ld_r1 hs ?_ | refine ld_r2 hs ?_ | refine ld_r3 hs ?_ | refine ld_r4 hs ?_ | refine ld_rd0 ha_ hs ?_ | refine ld_rd1 ha_ hs ?_ | refine ld_rd2 ha_ hs ?_ | refine ld_rd3 ha_ hs ?_ | refine ld_rd4 ha_ hs ?_ | fail) | ((with_reducible refine isSt ?_); first | refine st_b hs fun w hs => ?_ | refine st_rec5 hs fun w hs => ?_ | refine st_rec4 hs fun w hs => ?_ | refine st_rec3 hs fun w hs => ?_ | refine st_rec2 hs fun w hs => ?_ | refine st_r0 hs fun w hs => ?_ | refine st_r1 hs fun w hs => ?_ | fail) | ((with_reducible refine isIdx ?_); first | refine idx_s hs fun b_ o_ hs => ?_ | refine idx_a hs ?_ | refine idx_rd hs fun b_ o_ ha_ => ?_ | fail) | ((with_reducible refine isNew ?_); first | refine newB_at hs fun b_ w hs => ?_ | fail) | ((with_reducible refine isLdS ?_); first | refine ldS_b ?_ | refine ldS_b (x := ⟨_, _, _⟩) ?_ | refine ldS_r0 ?_ | refine ldS_r1 ?_ | refine ldS_r2 ?_ | refine ldS_r3 ?_ | refine ldS_rs0 hs ?_ | refine ldS_rs1 hs ?_ | refine ldS_rs2 hs ?_ | refine ldS_rs3 hs ?_ | refine ldS_rd0 ha_ ?_ | refine ldS_rd1 ha_ ?_ | refine ldS_rd2 ha_ ?_ | refine ldS_rd3 ha_ ?_ | fail) | ((with_reducible refine isKeep ?_); first | refine keep_of hs ?_ | refine keep_imp hs ?_ | fail) | ((with_reducible refine isWhen ?_); first | refine when_om ?_ | fail) | ((with_reducible refine isDraw ?_); first | refine drawW_sat hs fun w hs => ?_ | fail))
    refine call1_of (string_Front hs) fun e w ⟨he, hs⟩ => ⟨_, he, ?_⟩
    repeat (first | with_reducible refine nilck_some ?_ | ((with_reducible refine atLd ?_); first | refine ld_b hs ?_ | refine ld_b (x := ⟨_, _, _⟩) hs ?_ | refine ld_r0 hs ?_ | refine ld_r1 hs ?_ | refine ld_r2 hs ?_ | refine ld_r3 hs ?_ | refine ld_r4 hs ?_ | refine ld_rd0 ha_ hs ?_ | refine ld_rd1 ha_ hs ?_ | refine ld_rd2 ha_ hs ?_ | refine ld_rd3 ha_ hs ?_ | refine ld_rd4 ha_ hs ?_ | fail) | ((with_reducible refine isSt ?_); first | refine st_b hs fun w hs => ?_ | refine st_rec5 hs fun w hs => ?_ | refine st_rec4 hs fun w hs => ?_ | refine st_rec3 hs fun w hs => ?_ | refine st_rec2 hs fun w hs => ?_ | refine st_r0 hs fun w hs => ?_ | refine st_r1 hs fun w hs => ?_ | fail) | ((with_reducible refine isIdx ?_); first | refine idx_s hs fun b_ o_ hs => ?_ | refine idx_a hs ?_ | refine idx_rd hs fun b_ o_ ha_ => ?_ | fail) | ((with_reducible refine isNew ?_); first | refine newB_at hs fun b_ w hs => ?_ | fail) | ((with_reducible refine isLdS ?_); first | refine ldS_b ?_ | refine ldS_b (x := ⟨_, _, _⟩) ?_ | refine ldS_r0 ?_ | refine ldS_r1 ?_ | refine ldS_r2 ?_ | refine ldS_r3 ?_ | refine ldS_rs0 hs ?_ | refine ldS_rs1 hs ?_ | refine ldS_rs2 hs ?_ | refine ldS_rs3 hs ?_ | refine ldS_rd0 ha_ ?_ | refine ldS_rd1 ha_ ?_ | refine ldS_rd2 ha_ ?_ | refine ldS_rd3 ha_ ?_ | fail) | ((with_reducible refine isKeep ?_); first | refine keep_of hs ?_ | refine keep_imp hs ?_ | fail) | ((with_reducible refine isWhen ?_); first | refine when_om ?_ | fail) | ((with_reducible refine isDraw ?_); first | refine drawW_sat hs fun w hs => ?_ | fail))
    refine call2_of (string_Get hs) fun e w ⟨he, hs⟩ => ⟨_, _, he, ?_⟩
    have hndr := lst_nodup (mk := .string) (b := lb) (row := row) (free := free) (M := blk b [.int .i64 room, .pointer (some ⟨lb, 0, none⟩), .pointer (some ⟨xb, 0, none⟩)] :: ixr (Rec.int .i64) xb 0 m :: M) (by exact Sat.fin hs)
    obtain ⟨p, rest, hrow⟩ : ∃ p rest, row = (p, x) :: rest := by
      have := hi.keys
      cases hc : row with
      | nil => rw [hc] at this; cases this
      | cons e r =>
        rw [hc] at this
        rw [List.map_cons, List.cons.injEq] at this
        exact ⟨e.1, r, by rw [← this.1]⟩
    have hat : rAt row ((rowPlace row 0 : Nat) : Int) = some 0 := by
      have h0 : rowPlace row 0 = p := by rw [hrow]; rfl
      rw [h0]
      exact rAt_of hndr (i := 0) (e := (p, x)) (by rw [hrow]; rfl)
    have hval : rowVal row ((rowPlace row 0 : Nat) : Int) = some x := by
      unfold rowVal
      rw [hat, hrow]; rfl
    rw [hval, hat]
    have hs := gh_shut (b := b) (room := room) (lb := lb) (xb := xb) (M := M) hi hN (by exact Sat.fin hs)
    have hzx : x.size < 4611686018427387904 := hsm x (by simp)
    refine call1_of (gh_Take hs hzx (by omega)) fun e w ⟨he, hs⟩ => ⟨_, he, ?_⟩
    simp only [Option.getD_some] at hs
    rw [gTake_head hnd] at hs
    exact ⟨rfl, hs⟩
theorem clamp_at {n low high : Int} (hs : Sat W w L) : Calls Try.prog id_fix_Clamp #[.int .i64 n, .int .i64 low, .int .i64 high] w fun e w' => e = .returned (.int .i64 (if high < (if low > n then low else n) then high else (if low > n then low else n))) ∧ Sat W w' L := by
  refine c1 (fix_Clamp_calls ?_)
  rw [fix_Clamp_def, fix_Clamp_raw]
  exact ⟨rfl, hs⟩
theorem gh_New (hs : Sat W w L) {r : Int} : Calls Try.prog id_ghost_New #[.int .i64 r] w fun e w' => ∃ b, e = .returned (.pointer (some ⟨b, 0, none⟩)) ∧ Sat W w' (ghR b (clampR r) 0 [] :: L) := by
  refine (ghost_New_calls (Q := fun v w' => ∃ b, v = .pointer (some ⟨b, 0, none⟩) ∧ Sat W w' (ghR b (clampR r) 0 [] :: L)) ?_).mono fun e w' ⟨v, he, b, hv, hs⟩ => ⟨b, by rw [he, hv], hs⟩
  rw [ghost_New_def, ghost_New_raw]
  refine call1_of (clamp_at hs) fun e w ⟨he, hs⟩ => ⟨_, he, ?_⟩
  refine (string_New hs).mono fun e w ⟨lb, he, hs⟩ => ⟨_, he, ?_⟩
  refine (int_New hs).mono fun e w ⟨xb, he, hs⟩ => ⟨_, he, ?_⟩
  repeat (first | with_reducible refine nilck_some ?_ | ((with_reducible refine atLd ?_); first | refine ld_b hs ?_ | refine ld_b (x := ⟨_, _, _⟩) hs ?_ | refine ld_r0 hs ?_ | refine ld_r1 hs ?_ | refine ld_r2 hs ?_ | refine ld_r3 hs ?_ | refine ld_r4 hs ?_ | refine ld_rd0 ha_ hs ?_ | refine ld_rd1 ha_ hs ?_ | refine ld_rd2 ha_ hs ?_ | refine ld_rd3 ha_ hs ?_ | refine ld_rd4 ha_ hs ?_ | fail) | ((with_reducible refine isSt ?_); first | refine st_b hs fun w hs => ?_ | refine st_rec5 hs fun w hs => ?_ | refine st_rec4 hs fun w hs => ?_ | refine st_rec3 hs fun w hs => ?_ | refine st_rec2 hs fun w hs => ?_ | refine st_r0 hs fun w hs => ?_ | refine st_r1 hs fun w hs => ?_ | fail) | ((with_reducible refine isIdx ?_); first | refine idx_s hs fun b_ o_ hs => ?_ | refine idx_a hs ?_ | refine idx_rd hs fun b_ o_ ha_ => ?_ | fail) | ((with_reducible refine isNew ?_); first | refine newB_at hs fun b_ w hs => ?_ | fail) | ((with_reducible refine isLdS ?_); first | refine ldS_b ?_ | refine ldS_b (x := ⟨_, _, _⟩) ?_ | refine ldS_r0 ?_ | refine ldS_r1 ?_ | refine ldS_r2 ?_ | refine ldS_r3 ?_ | refine ldS_rs0 hs ?_ | refine ldS_rs1 hs ?_ | refine ldS_rs2 hs ?_ | refine ldS_rs3 hs ?_ | refine ldS_rd0 ha_ ?_ | refine ldS_rd1 ha_ ?_ | refine ldS_rd2 ha_ ?_ | refine ldS_rd3 ha_ ?_ | fail) | ((with_reducible refine isKeep ?_); first | refine keep_of hs ?_ | refine keep_imp hs ?_ | fail) | ((with_reducible refine isWhen ?_); first | refine when_om ?_ | fail) | ((with_reducible refine isDraw ?_); first | refine drawW_sat hs fun w hs => ?_ | fail))
  exact ⟨_, rfl, gh_shut (lb := lb) (xb := xb) (row := []) (free := []) (m := []) ⟨rfl, by simp, List.Perm.refl _, by simp⟩ (Nat.le_refl _) (by exact Sat.fin hs)⟩

/-! the reference -/
section
variable {s : Sl}
theorem r16_New (hs : Sat W w L) {r : Int} : Calls Try.prog id_hoardref16_New #[.int .i64 r] w fun e w' => ∃ b, e = .returned (.pointer (some ⟨b, 0, none⟩)) ∧ Sat W w' (blk b [.slice none 0 0, .int .i64 (clampR r)] :: recs Rec.str ⟨none, 0, 0⟩ [] :: L) := by
  refine (hoardref16_New_calls (Q := fun v w' => ∃ b, v = .pointer (some ⟨b, 0, none⟩) ∧ Sat W w' (blk b [.slice none 0 0, .int .i64 (clampR r)] :: recs Rec.str ⟨none, 0, 0⟩ [] :: L)) ?_).mono fun e w' ⟨v, he, b, hv, hs⟩ => ⟨b, by rw [he, hv], hs⟩
  rw [hoardref16_New_def, hoardref16_New_raw]
  have hs := Sat.nilR Rec.str hs
  repeat (first | with_reducible refine nilck_some ?_ | ((with_reducible refine atLd ?_); first | refine ld_b hs ?_ | refine ld_b (x := ⟨_, _, _⟩) hs ?_ | refine ld_r0 hs ?_ | refine ld_r1 hs ?_ | refine ld_r2 hs ?_ | refine ld_r3 hs ?_ | refine ld_r4 hs ?_ | refine ld_rd0 ha_ hs ?_ | refine ld_rd1 ha_ hs ?_ | refine ld_rd2 ha_ hs ?_ | refine ld_rd3 ha_ hs ?_ | refine ld_rd4 ha_ hs ?_ | fail) | ((with_reducible refine isSt ?_); first | refine st_b hs fun w hs => ?_ | refine st_rec5 hs fun w hs => ?_ | refine st_rec4 hs fun w hs => ?_ | refine st_rec3 hs fun w hs => ?_ | refine st_rec2 hs fun w hs => ?_ | refine st_r0 hs fun w hs => ?_ | refine st_r1 hs fun w hs => ?_ | fail) | ((with_reducible refine isIdx ?_); first | refine idx_s hs fun b_ o_ hs => ?_ | refine idx_a hs ?_ | refine idx_rd hs fun b_ o_ ha_ => ?_ | fail) | ((with_reducible refine isNew ?_); first | refine newB_at hs fun b_ w hs => ?_ | fail) | ((with_reducible refine isLdS ?_); first | refine ldS_b ?_ | refine ldS_b (x := ⟨_, _, _⟩) ?_ | refine ldS_r0 ?_ | refine ldS_r1 ?_ | refine ldS_r2 ?_ | refine ldS_r3 ?_ | refine ldS_rs0 hs ?_ | refine ldS_rs1 hs ?_ | refine ldS_rs2 hs ?_ | refine ldS_rs3 hs ?_ | refine ldS_rd0 ha_ ?_ | refine ldS_rd1 ha_ ?_ | refine ldS_rd2 ha_ ?_ | refine ldS_rd3 ha_ ?_ | fail) | ((with_reducible refine isKeep ?_); first | refine keep_of hs ?_ | refine keep_imp hs ?_ | fail) | ((with_reducible refine isWhen ?_); first | refine when_om ?_ | fail) | ((with_reducible refine isDraw ?_); first | refine drawW_sat hs fun w hs => ?_ | fail))
  exact ⟨_, rfl, by exact Sat.fin hs⟩
theorem r16_Has (hs : Sat W w (blk b [.slice s.a s.n s.c, .int .i64 room] :: recs Rec.str s ks :: M)) (hk : ks.length < 1000000000) : Calls Try.prog id_hoardref16_Ghost_Has #[.pointer (some ⟨b, 0, none⟩), .string k] w fun e w' => e = .returned (.bool (gHas ks k)) ∧ Sat W w' (blk b [.slice s.a s.n s.c, .int .i64 room] :: recs Rec.str s ks :: M) := by
  refine c1 (hoardref16_Ghost_Has_calls ?_)
  rw [hoardref16_Ghost_Has_def, hoardref16_Ghost_Has_raw]
  have hn := rdb_len (s := s) hs
  have loop : ∀ (f i : Nat) (w : World), i + f = ks.length → k ∉ ks.take i → Sat W w (blk b [.slice s.a s.n s.c, .int .i64 room] :: recs Rec.str s ks :: M) →
      hoardref16_Ghost_Has_l1 idJ (fun v w' => v = .bool (gHas ks k) ∧ Sat W w' (blk b [.slice s.a s.n s.c, .int .i64 room] :: recs Rec.str s ks :: M)) (f + 1) (some ⟨b, 0, none⟩) k (i : Int) w := by
    intro f
    induction f with
    | zero =>
      intro i w hi hno hs
      rw [hoardref16_Ghost_Has_l1_raw]
      repeat (first | with_reducible refine nilck_some ?_ | ((with_reducible refine atLd ?_); first | refine ld_b hs ?_ | refine ld_b (x := ⟨_, _, _⟩) hs ?_ | refine ld_r0 hs ?_ | refine ld_r1 hs ?_ | refine ld_r2 hs ?_ | refine ld_r3 hs ?_ | refine ld_r4 hs ?_ | refine ld_rd0 ha_ hs ?_ | refine ld_rd1 ha_ hs ?_ | refine ld_rd2 ha_ hs ?_ | refine ld_rd3 ha_ hs ?_ | refine ld_rd4 ha_ hs ?_ | fail) | ((with_reducible refine isSt ?_); first | refine st_b hs fun w hs => ?_ | refine st_rec5 hs fun w hs => ?_ | refine st_rec4 hs fun w hs => ?_ | refine st_rec3 hs fun w hs => ?_ | refine st_rec2 hs fun w hs => ?_ | refine st_r0 hs fun w hs => ?_ | refine st_r1 hs fun w hs => ?_ | fail) | ((with_reducible refine isIdx ?_); first | refine idx_s hs fun b_ o_ hs => ?_ | refine idx_a hs ?_ | refine idx_rd hs fun b_ o_ ha_ => ?_ | fail) | ((with_reducible refine isNew ?_); first | refine newB_at hs fun b_ w hs => ?_ | fail) | ((with_reducible refine isLdS ?_); first | refine ldS_b ?_ | refine ldS_b (x := ⟨_, _, _⟩) ?_ | refine ldS_r0 ?_ | refine ldS_r1 ?_ | refine ldS_r2 ?_ | refine ldS_r3 ?_ | refine ldS_rs0 hs ?_ | refine ldS_rs1 hs ?_ | refine ldS_rs2 hs ?_ | refine ldS_rs3 hs ?_ | refine ldS_rd0 ha_ ?_ | refine ldS_rd1 ha_ ?_ | refine ldS_rd2 ha_ ?_ | refine ldS_rd3 ha_ ?_ | fail) | ((with_reducible refine isKeep ?_); first | refine keep_of hs ?_ | refine keep_imp hs ?_ | fail) | ((with_reducible refine isWhen ?_); first | refine when_om ?_ | fail) | ((with_reducible refine isDraw ?_); first | refine drawW_sat hs fun w hs => ?_ | fail))
      refine ite_false (decide_eq_false (by omega)) ?_
      rw [hoardref16_Ghost_Has_j2_def, hoardref16_Ghost_Has_j2_raw]
      rw [List.take_of_length_le (by omega)] at hno
      exact ⟨by rw [gHas_not.2 hno], by exact Sat.fin hs⟩
    | succ f ih =>
      intro i w hi hno hs
      rw [hoardref16_Ghost_Has_l1_raw]
      repeat (first | with_reducible refine nilck_some ?_ | ((with_reducible refine atLd ?_); first | refine ld_b hs ?_ | refine ld_b (x := ⟨_, _, _⟩) hs ?_ | refine ld_r0 hs ?_ | refine ld_r1 hs ?_ | refine ld_r2 hs ?_ | refine ld_r3 hs ?_ | refine ld_r4 hs ?_ | refine ld_rd0 ha_ hs ?_ | refine ld_rd1 ha_ hs ?_ | refine ld_rd2 ha_ hs ?_ | refine ld_rd3 ha_ hs ?_ | refine ld_rd4 ha_ hs ?_ | fail) | ((with_reducible refine isSt ?_); first | refine st_b hs fun w hs => ?_ | refine st_rec5 hs fun w hs => ?_ | refine st_rec4 hs fun w hs => ?_ | refine st_rec3 hs fun w hs => ?_ | refine st_rec2 hs fun w hs => ?_ | refine st_r0 hs fun w hs => ?_ | refine st_r1 hs fun w hs => ?_ | fail) | ((with_reducible refine isIdx ?_); first | refine idx_s hs fun b_ o_ hs => ?_ | refine idx_a hs ?_ | refine idx_rd hs fun b_ o_ ha_ => ?_ | fail) | ((with_reducible refine isNew ?_); first | refine newB_at hs fun b_ w hs => ?_ | fail) | ((with_reducible refine isLdS ?_); first | refine ldS_b ?_ | refine ldS_b (x := ⟨_, _, _⟩) ?_ | refine ldS_r0 ?_ | refine ldS_r1 ?_ | refine ldS_r2 ?_ | refine ldS_r3 ?_ | refine ldS_rs0 hs ?_ | refine ldS_rs1 hs ?_ | refine ldS_rs2 hs ?_ | refine ldS_rs3 hs ?_ | refine ldS_rd0 ha_ ?_ | refine ldS_rd1 ha_ ?_ | refine ldS_rd2 ha_ ?_ | refine ldS_rd3 ha_ ?_ | fail) | ((with_reducible refine isKeep ?_); first | refine keep_of hs ?_ | refine keep_imp hs ?_ | fail) | ((with_reducible refine isWhen ?_); first | refine when_om ?_ | fail) | ((with_reducible refine isDraw ?_); first | refine drawW_sat hs fun w hs => ?_ | fail))
      refine ite_true (decide_eq_true (by omega)) ?_
      repeat (first | with_reducible refine nilck_some ?_ | ((with_reducible refine atLd ?_); first | refine ld_b hs ?_ | refine ld_b (x := ⟨_, _, _⟩) hs ?_ | refine ld_r0 hs ?_ | refine ld_r1 hs ?_ | refine ld_r2 hs ?_ | refine ld_r3 hs ?_ | refine ld_r4 hs ?_ | refine ld_rd0 ha_ hs ?_ | refine ld_rd1 ha_ hs ?_ | refine ld_rd2 ha_ hs ?_ | refine ld_rd3 ha_ hs ?_ | refine ld_rd4 ha_ hs ?_ | fail) | ((with_reducible refine isSt ?_); first | refine st_b hs fun w hs => ?_ | refine st_rec5 hs fun w hs => ?_ | refine st_rec4 hs fun w hs => ?_ | refine st_rec3 hs fun w hs => ?_ | refine st_rec2 hs fun w hs => ?_ | refine st_r0 hs fun w hs => ?_ | refine st_r1 hs fun w hs => ?_ | fail) | ((with_reducible refine isIdx ?_); first | refine idx_s hs fun b_ o_ hs => ?_ | refine idx_a hs ?_ | refine idx_rd hs fun b_ o_ ha_ => ?_ | fail) | ((with_reducible refine isNew ?_); first | refine newB_at hs fun b_ w hs => ?_ | fail) | ((with_reducible refine isLdS ?_); first | refine ldS_b ?_ | refine ldS_b (x := ⟨_, _, _⟩) ?_ | refine ldS_r0 ?_ | refine ldS_r1 ?_ | refine ldS_r2 ?_ | refine ldS_r3 ?_ | refine ldS_rs0 hs ?_ | refine ldS_rs1 hs ?_ | refine ldS_rs2 hs ?_ | refine ldS_rs3 hs ?_ | refine ldS_rd0 ha_ ?_ | refine ldS_rd1 ha_ ?_ | refine ldS_rd2 ha_ ?_ | refine ldS_rd3 ha_ ?_ | fail) | ((with_reducible refine isKeep ?_); first | refine keep_of hs ?_ | refine keep_imp hs ?_ | fail) | ((with_reducible refine isWhen ?_); first | refine when_om ?_ | fail) | ((with_reducible refine isDraw ?_); first | refine drawW_sat hs fun w hs => ?_ | fail))
      rw [sEq_eq, Int.toNat_natCast]
      have e1 : ks.take (i + 1) = ks.take i ++ [ks.getD i default] := take_snoc (by omega)
      refine ite_cases (fun h1 => ?_) (fun h1 => ?_)
      · have h1 := of_decide_eq_true h1
        have hin : k ∈ ks := by
          have : k ∈ ks.take (i + 1) := by rw [e1, ← h1]; simp
          exact List.mem_of_mem_take this
        exact ⟨by rw [gHas_iff.2 hin], by exact Sat.fin hs⟩
      · have h1 := of_decide_eq_false h1
        rw [i64_in _ (by omega)]
        refine ih (i + 1) w (by omega) ?_ (by exact Sat.fin hs)
        rw [e1, List.mem_append, List.mem_singleton]
        rintro (h | h)
        · exact hno h
        · exact h1 h.symm
  exact ⟨ks.length + 1, loop ks.length 0 w (by omega) (by simp) hs⟩
theorem r16_Take (hs : Sat W w (blk b [.slice s.a s.n s.c, .int .i64 room] :: recs Rec.str s ks :: M)) (hk : ks.length < 1000000000) : Calls Try.prog id_hoardref16_Ghost_Take #[.pointer (some ⟨b, 0, none⟩), .string k] w fun e w' => e = .returned (.bool (gHas ks k)) ∧ ∃ s' : Sl, Sat W w' (blk b [.slice s'.a s'.n s'.c, .int .i64 room] :: recs Rec.str s' (gTake ks k) :: M) := by
  refine c1 (hoardref16_Ghost_Take_calls ?_)
  rw [hoardref16_Ghost_Take_def, hoardref16_Ghost_Take_raw]
  refine call1_of (r16_Has hs hk) fun e w ⟨he, hs⟩ => ⟨_, he, ?_⟩
  have hn := rdb_len (s := s) hs
  have loop : ∀ (f i : Nat) (w : World) (l : Sl), i + f = ks.length → Sat W w (recs Rec.str l (gTake (ks.take i) k) :: blk b [.slice s.a s.n s.c, .int .i64 room] :: recs Rec.str s ks :: M) →
      hoardref16_Ghost_Take_l1 idJ (fun v w' => v = .bool (gHas ks k) ∧ ∃ s' : Sl, Sat W w' (blk b [.slice s'.a s'.n s'.c, .int .i64 room] :: recs Rec.str s' (gTake ks k) :: M)) (f + 1) (some ⟨b, 0, none⟩) k (gHas ks k) l (i : Int) w := by
    intro f
    induction f with
    | zero =>
      intro i w l hi hs
      rw [hoardref16_Ghost_Take_l1_raw]
      repeat (first | with_reducible refine nilck_some ?_ | ((with_reducible refine atLd ?_); first | refine ld_b hs ?_ | refine ld_b (x := ⟨_, _, _⟩) hs ?_ | refine ld_r0 hs ?_ | refine ld_r1 hs ?_ | refine ld_r2 hs ?_ | refine ld_r3 hs ?_ | refine ld_r4 hs ?_ | refine ld_rd0 ha_ hs ?_ | refine ld_rd1 ha_ hs ?_ | refine ld_rd2 ha_ hs ?_ | refine ld_rd3 ha_ hs ?_ | refine ld_rd4 ha_ hs ?_ | fail) | ((with_reducible refine isSt ?_); first | refine st_b hs fun w hs => ?_ | refine st_rec5 hs fun w hs => ?_ | refine st_rec4 hs fun w hs => ?_ | refine st_rec3 hs fun w hs => ?_ | refine st_rec2 hs fun w hs => ?_ | refine st_r0 hs fun w hs => ?_ | refine st_r1 hs fun w hs => ?_ | fail) | ((with_reducible refine isIdx ?_); first | refine idx_s hs fun b_ o_ hs => ?_ | refine idx_a hs ?_ | refine idx_rd hs fun b_ o_ ha_ => ?_ | fail) | ((with_reducible refine isNew ?_); first | refine newB_at hs fun b_ w hs => ?_ | fail) | ((with_reducible refine isLdS ?_); first | refine ldS_b ?_ | refine ldS_b (x := ⟨_, _, _⟩) ?_ | refine ldS_r0 ?_ | refine ldS_r1 ?_ | refine ldS_r2 ?_ | refine ldS_r3 ?_ | refine ldS_rs0 hs ?_ | refine ldS_rs1 hs ?_ | refine ldS_rs2 hs ?_ | refine ldS_rs3 hs ?_ | refine ldS_rd0 ha_ ?_ | refine ldS_rd1 ha_ ?_ | refine ldS_rd2 ha_ ?_ | refine ldS_rd3 ha_ ?_ | fail) | ((with_reducible refine isKeep ?_); first | refine keep_of hs ?_ | refine keep_imp hs ?_ | fail) | ((with_reducible refine isWhen ?_); first | refine when_om ?_ | fail) | ((with_reducible refine isDraw ?_); first | refine drawW_sat hs fun w hs => ?_ | fail))
      refine ite_false (decide_eq_false (by omega)) ?_
      rw [hoardref16_Ghost_Take_j2_def, hoardref16_Ghost_Take_j2_raw]
      rw [List.take_of_length_le (by omega)] at hs
      repeat (first | with_reducible refine nilck_some ?_ | ((with_reducible refine atLd ?_); first | refine ld_b hs ?_ | refine ld_b (x := ⟨_, _, _⟩) hs ?_ | refine ld_r0 hs ?_ | refine ld_r1 hs ?_ | refine ld_r2 hs ?_ | refine ld_r3 hs ?_ | refine ld_r4 hs ?_ | refine ld_rd0 ha_ hs ?_ | refine ld_rd1 ha_ hs ?_ | refine ld_rd2 ha_ hs ?_ | refine ld_rd3 ha_ hs ?_ | refine ld_rd4 ha_ hs ?_ | fail) | ((with_reducible refine isSt ?_); first | refine st_b hs fun w hs => ?_ | refine st_rec5 hs fun w hs => ?_ | refine st_rec4 hs fun w hs => ?_ | refine st_rec3 hs fun w hs => ?_ | refine st_rec2 hs fun w hs => ?_ | refine st_r0 hs fun w hs => ?_ | refine st_r1 hs fun w hs => ?_ | fail) | ((with_reducible refine isIdx ?_); first | refine idx_s hs fun b_ o_ hs => ?_ | refine idx_a hs ?_ | refine idx_rd hs fun b_ o_ ha_ => ?_ | fail) | ((with_reducible refine isNew ?_); first | refine newB_at hs fun b_ w hs => ?_ | fail) | ((with_reducible refine isLdS ?_); first | refine ldS_b ?_ | refine ldS_b (x := ⟨_, _, _⟩) ?_ | refine ldS_r0 ?_ | refine ldS_r1 ?_ | refine ldS_r2 ?_ | refine ldS_r3 ?_ | refine ldS_rs0 hs ?_ | refine ldS_rs1 hs ?_ | refine ldS_rs2 hs ?_ | refine ldS_rs3 hs ?_ | refine ldS_rd0 ha_ ?_ | refine ldS_rd1 ha_ ?_ | refine ldS_rd2 ha_ ?_ | refine ldS_rd3 ha_ ?_ | fail) | ((with_reducible refine isKeep ?_); first | refine keep_of hs ?_ | refine keep_imp hs ?_ | fail) | ((with_reducible refine isWhen ?_); first | refine when_om ?_ | fail) | ((with_reducible refine isDraw ?_); first | refine drawW_sat hs fun w hs => ?_ | fail))
      exact ⟨rfl, l, by exact Sat.fin hs⟩
    | succ f ih =>
      intro i w l hi hs
      rw [hoardref16_Ghost_Take_l1_raw]
      repeat (first | with_reducible refine nilck_some ?_ | ((with_reducible refine atLd ?_); first | refine ld_b hs ?_ | refine ld_b (x := ⟨_, _, _⟩) hs ?_ | refine ld_r0 hs ?_ | refine ld_r1 hs ?_ | refine ld_r2 hs ?_ | refine ld_r3 hs ?_ | refine ld_r4 hs ?_ | refine ld_rd0 ha_ hs ?_ | refine ld_rd1 ha_ hs ?_ | refine ld_rd2 ha_ hs ?_ | refine ld_rd3 ha_ hs ?_ | refine ld_rd4 ha_ hs ?_ | fail) | ((with_reducible refine isSt ?_); first | refine st_b hs fun w hs => ?_ | refine st_rec5 hs fun w hs => ?_ | refine st_rec4 hs fun w hs => ?_ | refine st_rec3 hs fun w hs => ?_ | refine st_rec2 hs fun w hs => ?_ | refine st_r0 hs fun w hs => ?_ | refine st_r1 hs fun w hs => ?_ | fail) | ((with_reducible refine isIdx ?_); first | refine idx_s hs fun b_ o_ hs => ?_ | refine idx_a hs ?_ | refine idx_rd hs fun b_ o_ ha_ => ?_ | fail) | ((with_reducible refine isNew ?_); first | refine newB_at hs fun b_ w hs => ?_ | fail) | ((with_reducible refine isLdS ?_); first | refine ldS_b ?_ | refine ldS_b (x := ⟨_, _, _⟩) ?_ | refine ldS_r0 ?_ | refine ldS_r1 ?_ | refine ldS_r2 ?_ | refine ldS_r3 ?_ | refine ldS_rs0 hs ?_ | refine ldS_rs1 hs ?_ | refine ldS_rs2 hs ?_ | refine ldS_rs3 hs ?_ | refine ldS_rd0 ha_ ?_ | refine ldS_rd1 ha_ ?_ | refine ldS_rd2 ha_ ?_ | refine ldS_rd3 ha_ ?_ | fail) | ((with_reducible refine isKeep ?_); first | refine keep_of hs ?_ | refine keep_imp hs ?_ | fail) | ((with_reducible refine isWhen ?_); first | refine when_om ?_ | fail) | ((with_reducible refine isDraw ?_); first | refine drawW_sat hs fun w hs => ?_ | fail))
      refine ite_true (decide_eq_true (by omega)) ?_
      repeat (first | with_reducible refine nilck_some ?_ | ((with_reducible refine atLd ?_); first | refine ld_b hs ?_ | refine ld_b (x := ⟨_, _, _⟩) hs ?_ | refine ld_r0 hs ?_ | refine ld_r1 hs ?_ | refine ld_r2 hs ?_ | refine ld_r3 hs ?_ | refine ld_r4 hs ?_ | refine ld_rd0 ha_ hs ?_ | refine ld_rd1 ha_ hs ?_ | refine ld_rd2 ha_ hs ?_ | refine ld_rd3 ha_ hs ?_ | refine ld_rd4 ha_ hs ?_ | fail) | ((with_reducible refine isSt ?_); first | refine st_b hs fun w hs => ?_ | refine st_rec5 hs fun w hs => ?_ | refine st_rec4 hs fun w hs => ?_ | refine st_rec3 hs fun w hs => ?_ | refine st_rec2 hs fun w hs => ?_ | refine st_r0 hs fun w hs => ?_ | refine st_r1 hs fun w hs => ?_ | fail) | ((with_reducible refine isIdx ?_); first | refine idx_s hs fun b_ o_ hs => ?_ | refine idx_a hs ?_ | refine idx_rd hs fun b_ o_ ha_ => ?_ | fail) | ((with_reducible refine isNew ?_); first | refine newB_at hs fun b_ w hs => ?_ | fail) | ((with_reducible refine isLdS ?_); first | refine ldS_b ?_ | refine ldS_b (x := ⟨_, _, _⟩) ?_ | refine ldS_r0 ?_ | refine ldS_r1 ?_ | refine ldS_r2 ?_ | refine ldS_r3 ?_ | refine ldS_rs0 hs ?_ | refine ldS_rs1 hs ?_ | refine ldS_rs2 hs ?_ | refine ldS_rs3 hs ?_ | refine ldS_rd0 ha_ ?_ | refine ldS_rd1 ha_ ?_ | refine ldS_rd2 ha_ ?_ | refine ldS_rd3 ha_ ?_ | fail) | ((with_reducible refine isKeep ?_); first | refine keep_of hs ?_ | refine keep_imp hs ?_ | fail) | ((with_reducible refine isWhen ?_); first | refine when_om ?_ | fail) | ((with_reducible refine isDraw ?_); first | refine drawW_sat hs fun w hs => ?_ | fail))
      rw [sEq_eq, Int.toNat_natCast]
      have e1 : ks.take (i + 1) = ks.take i ++ [ks.getD i default] := take_snoc (by omega)
      have hlen := gTake_len (ks.take i) k
      rw [List.length_take] at hlen
      refine ite_cases (fun h1 => ?_) (fun h1 => ?_)
      · have h1 : ks.getD i default ≠ k := by simpa using h1
        repeat (first | with_reducible refine nilck_some ?_ | ((with_reducible refine atLd ?_); first | refine ld_b hs ?_ | refine ld_b (x := ⟨_, _, _⟩) hs ?_ | refine ld_r0 hs ?_ | refine ld_r1 hs ?_ | refine ld_r2 hs ?_ | refine ld_r3 hs ?_ | refine ld_r4 hs ?_ | refine ld_rd0 ha_ hs ?_ | refine ld_rd1 ha_ hs ?_ | refine ld_rd2 ha_ hs ?_ | refine ld_rd3 ha_ hs ?_ | refine ld_rd4 ha_ hs ?_ | fail) | ((with_reducible refine isSt ?_); first | refine st_b hs fun w hs => ?_ | refine st_rec5 hs fun w hs => ?_ | refine st_rec4 hs fun w hs => ?_ | refine st_rec3 hs fun w hs => ?_ | refine st_rec2 hs fun w hs => ?_ | refine st_r0 hs fun w hs => ?_ | refine st_r1 hs fun w hs => ?_ | fail) | ((with_reducible refine isIdx ?_); first | refine idx_s hs fun b_ o_ hs => ?_ | refine idx_a hs ?_ | refine idx_rd hs fun b_ o_ ha_ => ?_ | fail) | ((with_reducible refine isNew ?_); first | refine newB_at hs fun b_ w hs => ?_ | fail) | ((with_reducible refine isLdS ?_); first | refine ldS_b ?_ | refine ldS_b (x := ⟨_, _, _⟩) ?_ | refine ldS_r0 ?_ | refine ldS_r1 ?_ | refine ldS_r2 ?_ | refine ldS_r3 ?_ | refine ldS_rs0 hs ?_ | refine ldS_rs1 hs ?_ | refine ldS_rs2 hs ?_ | refine ldS_rs3 hs ?_ | refine ldS_rd0 ha_ ?_ | refine ldS_rd1 ha_ ?_ | refine ldS_rd2 ha_ ?_ | refine ldS_rd3 ha_ ?_ | fail) | ((with_reducible refine isKeep ?_); first | refine keep_of hs ?_ | refine keep_imp hs ?_ | fail) | ((with_reducible refine isWhen ?_); first | refine when_om ?_ | fail) | ((with_reducible refine isDraw ?_); first | refine drawW_sat hs fun w hs => ?_ | fail))
        refine app_one (s := l) (a := ks.getD i default) hs rfl rfl rfl rfl (by decide) (by omega) fun s2 w hs2 hs => ?_
        rw [i64_in _ (by omega)]
        refine ih (i + 1) w s2 (by omega) ?_
        have e2 : gTake (ks.take (i + 1)) k = gTake (ks.take i) k ++ [ks.getD i default] := by rw [e1]; exact gTake_ne h1
        rw [e2]
        exact Sat.fin hs
      · have h1 : ks.getD i default = k := by simpa using h1
        rw [i64_in _ (by omega)]
        refine ih (i + 1) w l (by omega) ?_
        have e2 : gTake (ks.take (i + 1)) k = gTake (ks.take i) k := by rw [e1]; exact gTake_eq h1
        rw [e2]
        exact Sat.fin hs
  refine ⟨ks.length + 1, loop ks.length 0 w ⟨none, 0, 0⟩ (by omega) ?_⟩
  exact Sat.nilR Rec.str hs
theorem r16_Add (hs : Sat W w (blk b [.slice s.a s.n s.c, .int .i64 room] :: recs Rec.str s ks :: M)) (hk : ks.length < 900000000) : Calls Try.prog id_hoardref16_Ghost_Add #[.pointer (some ⟨b, 0, none⟩), .string k] w fun e w' => e = .returned (.tuple #[.string (gGone room ks k), .bool (gFull room ks k)]) ∧ ∃ s' : Sl, Sat W w' (blk b [.slice s'.a s'.n s'.c, .int .i64 room] :: recs Rec.str s' (gAdd room ks k) :: M) := by
  refine c1 (hoardref16_Ghost_Add_calls ?_)
  rw [hoardref16_Ghost_Add_def, hoardref16_Ghost_Add_raw]
  refine call1_of (r16_Take hs (by omega)) fun e w ⟨he, s, hs⟩ => ⟨_, he, ?_⟩
  have hlen := gTake_len ks k
  repeat (first | with_reducible refine nilck_some ?_ | ((with_reducible refine atLd ?_); first | refine ld_b hs ?_ | refine ld_b (x := ⟨_, _, _⟩) hs ?_ | refine ld_r0 hs ?_ | refine ld_r1 hs ?_ | refine ld_r2 hs ?_ | refine ld_r3 hs ?_ | refine ld_r4 hs ?_ | refine ld_rd0 ha_ hs ?_ | refine ld_rd1 ha_ hs ?_ | refine ld_rd2 ha_ hs ?_ | refine ld_rd3 ha_ hs ?_ | refine ld_rd4 ha_ hs ?_ | fail) | ((with_reducible refine isSt ?_); first | refine st_b hs fun w hs => ?_ | refine st_rec5 hs fun w hs => ?_ | refine st_rec4 hs fun w hs => ?_ | refine st_rec3 hs fun w hs => ?_ | refine st_rec2 hs fun w hs => ?_ | refine st_r0 hs fun w hs => ?_ | refine st_r1 hs fun w hs => ?_ | fail) | ((with_reducible refine isIdx ?_); first | refine idx_s hs fun b_ o_ hs => ?_ | refine idx_a hs ?_ | refine idx_rd hs fun b_ o_ ha_ => ?_ | fail) | ((with_reducible refine isNew ?_); first | refine newB_at hs fun b_ w hs => ?_ | fail) | ((with_reducible refine isLdS ?_); first | refine ldS_b ?_ | refine ldS_b (x := ⟨_, _, _⟩) ?_ | refine ldS_r0 ?_ | refine ldS_r1 ?_ | refine ldS_r2 ?_ | refine ldS_r3 ?_ | refine ldS_rs0 hs ?_ | refine ldS_rs1 hs ?_ | refine ldS_rs2 hs ?_ | refine ldS_rs3 hs ?_ | refine ldS_rd0 ha_ ?_ | refine ldS_rd1 ha_ ?_ | refine ldS_rd2 ha_ ?_ | refine ldS_rd3 ha_ ?_ | fail) | ((with_reducible refine isKeep ?_); first | refine keep_of hs ?_ | refine keep_imp hs ?_ | fail) | ((with_reducible refine isWhen ?_); first | refine when_om ?_ | fail) | ((with_reducible refine isDraw ?_); first | refine drawW_sat hs fun w hs => ?_ | fail))
  refine app_one (s := s) (a := k) hs rfl rfl rfl rfl (by decide) (by omega) fun s2 w hs2 hs => ?_
  repeat (first | with_reducible refine nilck_some ?_ | ((with_reducible refine atLd ?_); first | refine ld_b hs ?_ | refine ld_b (x := ⟨_, _, _⟩) hs ?_ | refine ld_r0 hs ?_ | refine ld_r1 hs ?_ | refine ld_r2 hs ?_ | refine ld_r3 hs ?_ | refine ld_r4 hs ?_ | refine ld_rd0 ha_ hs ?_ | refine ld_rd1 ha_ hs ?_ | refine ld_rd2 ha_ hs ?_ | refine ld_rd3 ha_ hs ?_ | refine ld_rd4 ha_ hs ?_ | fail) | ((with_reducible refine isSt ?_); first | refine st_b hs fun w hs => ?_ | refine st_rec5 hs fun w hs => ?_ | refine st_rec4 hs fun w hs => ?_ | refine st_rec3 hs fun w hs => ?_ | refine st_rec2 hs fun w hs => ?_ | refine st_r0 hs fun w hs => ?_ | refine st_r1 hs fun w hs => ?_ | fail) | ((with_reducible refine isIdx ?_); first | refine idx_s hs fun b_ o_ hs => ?_ | refine idx_a hs ?_ | refine idx_rd hs fun b_ o_ ha_ => ?_ | fail) | ((with_reducible refine isNew ?_); first | refine newB_at hs fun b_ w hs => ?_ | fail) | ((with_reducible refine isLdS ?_); first | refine ldS_b ?_ | refine ldS_b (x := ⟨_, _, _⟩) ?_ | refine ldS_r0 ?_ | refine ldS_r1 ?_ | refine ldS_r2 ?_ | refine ldS_r3 ?_ | refine ldS_rs0 hs ?_ | refine ldS_rs1 hs ?_ | refine ldS_rs2 hs ?_ | refine ldS_rs3 hs ?_ | refine ldS_rd0 ha_ ?_ | refine ldS_rd1 ha_ ?_ | refine ldS_rd2 ha_ ?_ | refine ldS_rd3 ha_ ?_ | fail) | ((with_reducible refine isKeep ?_); first | refine keep_of hs ?_ | refine keep_imp hs ?_ | fail) | ((with_reducible refine isWhen ?_); first | refine when_om ?_ | fail) | ((with_reducible refine isDraw ?_); first | refine drawW_sat hs fun w hs => ?_ | fail))
  have hn := rdb_len (s := s2) hs
  rw [hn]
  refine ite_cases (fun h1 => ?_) (fun h1 => ?_)
  · have h1 : ¬ ((gTake ks k ++ [k]).length : Int) ≤ room := by have := of_decide_eq_true h1; omega
    obtain ⟨x, t, hx⟩ : ∃ x t, gTake ks k ++ [k] = x :: t := by
      cases hc : gTake ks k ++ [k] with
      | nil => simp at hc
      | cons x t => exact ⟨x, t, rfl⟩
    have e1 : gAdd room ks k = t := by unfold gAdd; rw [if_neg h1, hx]; rfl
    have e2 : gGone room ks k = x := by unfold gGone; rw [if_neg h1, hx]; rfl
    have e3 : gFull room ks k = true := by unfold gFull; rw [decide_eq_false h1]; rfl
    have hxl : (x :: t).length ≤ 900000000 := by rw [← hx]; simp; omega
    rw [e1, e2, e3]
    rw [hx] at hs hn
    have hcc := recs_len (s := s2) (E := Rec.str) (rows := x :: t) hs
    rw [List.length_cons] at hn hxl
    repeat (first | with_reducible refine nilck_some ?_ | ((with_reducible refine atLd ?_); first | refine ld_b hs ?_ | refine ld_b (x := ⟨_, _, _⟩) hs ?_ | refine ld_r0 hs ?_ | refine ld_r1 hs ?_ | refine ld_r2 hs ?_ | refine ld_r3 hs ?_ | refine ld_r4 hs ?_ | refine ld_rd0 ha_ hs ?_ | refine ld_rd1 ha_ hs ?_ | refine ld_rd2 ha_ hs ?_ | refine ld_rd3 ha_ hs ?_ | refine ld_rd4 ha_ hs ?_ | fail) | ((with_reducible refine isSt ?_); first | refine st_b hs fun w hs => ?_ | refine st_rec5 hs fun w hs => ?_ | refine st_rec4 hs fun w hs => ?_ | refine st_rec3 hs fun w hs => ?_ | refine st_rec2 hs fun w hs => ?_ | refine st_r0 hs fun w hs => ?_ | refine st_r1 hs fun w hs => ?_ | fail) | ((with_reducible refine isIdx ?_); first | refine idx_s hs fun b_ o_ hs => ?_ | refine idx_a hs ?_ | refine idx_rd hs fun b_ o_ ha_ => ?_ | fail) | ((with_reducible refine isNew ?_); first | refine newB_at hs fun b_ w hs => ?_ | fail) | ((with_reducible refine isLdS ?_); first | refine ldS_b ?_ | refine ldS_b (x := ⟨_, _, _⟩) ?_ | refine ldS_r0 ?_ | refine ldS_r1 ?_ | refine ldS_r2 ?_ | refine ldS_r3 ?_ | refine ldS_rs0 hs ?_ | refine ldS_rs1 hs ?_ | refine ldS_rs2 hs ?_ | refine ldS_rs3 hs ?_ | refine ldS_rd0 ha_ ?_ | refine ldS_rd1 ha_ ?_ | refine ldS_rd2 ha_ ?_ | refine ldS_rd3 ha_ ?_ | fail) | ((with_reducible refine isKeep ?_); first | refine keep_of hs ?_ | refine keep_imp hs ?_ | fail) | ((with_reducible refine isWhen ?_); first | refine when_om ?_ | fail) | ((with_reducible refine isDraw ?_); first | refine drawW_sat hs fun w hs => ?_ | fail))
    rw [show s2.n - Int.toNat 1 = t.length by have : Int.toNat 1 = 1 := rfl; omega]
    have hxt : (x :: t).length = t.length + 1 := List.length_cons
    refine app_own hs Rec.str (rows := []) rfl rfl (new := t) (rd_sub (s := s2) (E := Rec.str) (rows := x :: t) (lo := 1) (c := s2.c) hs (k := t.length) (by omega) (by omega) rfl |>.trans (by simp)) (by omega) (okC_flat _) rfl (by decide) (by simp; omega) fun s3 w hs3 hs => ?_
    repeat (first | with_reducible refine nilck_some ?_ | ((with_reducible refine atLd ?_); first | refine ld_b hs ?_ | refine ld_b (x := ⟨_, _, _⟩) hs ?_ | refine ld_r0 hs ?_ | refine ld_r1 hs ?_ | refine ld_r2 hs ?_ | refine ld_r3 hs ?_ | refine ld_r4 hs ?_ | refine ld_rd0 ha_ hs ?_ | refine ld_rd1 ha_ hs ?_ | refine ld_rd2 ha_ hs ?_ | refine ld_rd3 ha_ hs ?_ | refine ld_rd4 ha_ hs ?_ | fail) | ((with_reducible refine isSt ?_); first | refine st_b hs fun w hs => ?_ | refine st_rec5 hs fun w hs => ?_ | refine st_rec4 hs fun w hs => ?_ | refine st_rec3 hs fun w hs => ?_ | refine st_rec2 hs fun w hs => ?_ | refine st_r0 hs fun w hs => ?_ | refine st_r1 hs fun w hs => ?_ | fail) | ((with_reducible refine isIdx ?_); first | refine idx_s hs fun b_ o_ hs => ?_ | refine idx_a hs ?_ | refine idx_rd hs fun b_ o_ ha_ => ?_ | fail) | ((with_reducible refine isNew ?_); first | refine newB_at hs fun b_ w hs => ?_ | fail) | ((with_reducible refine isLdS ?_); first | refine ldS_b ?_ | refine ldS_b (x := ⟨_, _, _⟩) ?_ | refine ldS_r0 ?_ | refine ldS_r1 ?_ | refine ldS_r2 ?_ | refine ldS_r3 ?_ | refine ldS_rs0 hs ?_ | refine ldS_rs1 hs ?_ | refine ldS_rs2 hs ?_ | refine ldS_rs3 hs ?_ | refine ldS_rd0 ha_ ?_ | refine ldS_rd1 ha_ ?_ | refine ldS_rd2 ha_ ?_ | refine ldS_rd3 ha_ ?_ | fail) | ((with_reducible refine isKeep ?_); first | refine keep_of hs ?_ | refine keep_imp hs ?_ | fail) | ((with_reducible refine isWhen ?_); first | refine when_om ?_ | fail) | ((with_reducible refine isDraw ?_); first | refine drawW_sat hs fun w hs => ?_ | fail))
    exact ⟨rfl, s3, by exact Sat.fin hs⟩
  · have h1 : ((gTake ks k ++ [k]).length : Int) ≤ room := by have := of_decide_eq_false h1; omega
    have e1 : gAdd room ks k = gTake ks k ++ [k] := if_pos h1
    have e2 : gGone room ks k = str_empty := if_pos h1
    have e3 : gFull room ks k = false := by unfold gFull; rw [decide_eq_true h1]; rfl
    rw [e1, e2, e3]
    exact ⟨rfl, s2, by exact Sat.fin hs⟩
end
end
end Go.Proofs.Ytldohdiphcnjgaa
