/- GhostPlays, GhostOfNothing, GhostOwn: walks. -/
import Derived.Test.YtldohdiphcnjgaaGhost
import Derived.Test.YtldohdiphcnjgaaLaw2
set_option linter.unusedVariables false
set_option linter.unusedSimpArgs false
set_option linter.unnecessarySimpa false
set_option linter.unusedSectionVars false
namespace Go.Hb
structure Act16 where
  kind : Int
  key : ByteArray
instance : Inhabited Act16 := ⟨⟨0, ⟨#[]⟩⟩⟩
def act16R : Rec Act16 := ⟨2, fun a => [.int .i64 a.kind, .string a.key], fun _ => rfl⟩
instance : PosR act16R := ⟨by decide⟩
def act16ok (a : Act16) : Prop := okStr a.key
theorem of_act16 (x : List Value) (h : okRow [.int .i64, .str] x) : ∃ a, x = act16R.cells a ∧ act16ok a := by
  obtain ⟨v0, v1, rfl⟩ : ∃ v0 v1, x = [v0, v1] := by
    have hl := okRow_len h
    match x, hl with
    | [v0, v1], _ => exact ⟨v0, v1, rfl⟩
  obtain ⟨h0, h1, _⟩ := h
  obtain ⟨k, rfl, _⟩ := h0
  obtain ⟨s, rfl, hs⟩ := h1
  exact ⟨⟨k, s⟩, rfl, hs⟩
end Go.Hb
namespace Go.Proofs.Ytldohdiphcnjgaa
open Go.Hb Go.IntWalk
section
variable {W w : World} {L M : List HP} {F : HP → List HP}
theorem known16 (hs : Sat W w L) : Calls Try.prog id_hoardlaw16_known #[] w fun e w' => e = .returned (.bool true) ∧ Sat W w' L := by
  refine c1 (hoardlaw16_known_calls ?_)
  rw [hoardlaw16_known_def, hoardlaw16_known_raw]
  refine (gh_New hs).mono fun e w ⟨b, he, hs⟩ => ⟨_, he, ite_false rfl ?_⟩
  have e0 : clampR 2 = 2 := by decide
  have z1 : str_a.size < 4611686018427387904 := by decide
  have z2 : str_b.size < 4611686018427387904 := by decide
  have z3 : str_c.size < 4611686018427387904 := by decide
  have e1 : gAdd 2 [] str_a = [str_a] := by decide
  have e2 : gAdd 2 [str_a] str_b = [str_a, str_b] := by decide
  have e3 : gAdd 2 [str_a, str_b] str_a = [str_b, str_a] := by decide
  have e4 : gAdd 2 [str_b, str_a] str_c = [str_a, str_c] := by decide
  have e5 : gGone 2 [str_b, str_a] str_c = str_b := by decide
  have e6 : gFull 2 [str_b, str_a] str_c = true := by decide
  rw [e0] at hs
  refine call2_of (gh_Add hs z1 (by omega)) fun e w ⟨he, hs⟩ => ⟨_, _, he, ?_⟩
  rw [e1] at hs
  refine call2_of (gh_Add hs z2 (by omega)) fun e w ⟨he, hs⟩ => ⟨_, _, he, ?_⟩
  rw [e2] at hs
  refine call2_of (gh_Add hs z1 (by omega)) fun e w ⟨he, hs⟩ => ⟨_, _, he, ?_⟩
  rw [e3] at hs
  refine call2_of (gh_Add hs z3 (by omega)) fun e w ⟨he, hs⟩ => ⟨_, _, he, ?_⟩
  rw [e4] at hs
  rw [e5, e6]
  refine ite_true rfl (ite_true (by rw [sEq_eq]; simp) ?_)
  refine (gh_Keys hs (by omega)).mono fun e w ⟨k1, he, hs⟩ => ⟨_, he, ?_⟩
  repeat (first | with_reducible refine nilck_some ?_ | ((with_reducible refine atLd ?_); first | refine ld_b hs ?_ | refine ld_b (x := ⟨_, _, _⟩) hs ?_ | refine ld_r0 hs ?_ | refine ld_r1 hs ?_ | refine ld_r2 hs ?_ | refine ld_r3 hs ?_ | refine ld_r4 hs ?_ | refine ld_rd0 ha_ hs ?_ | refine ld_rd1 ha_ hs ?_ | refine ld_rd2 ha_ hs ?_ | refine ld_rd3 ha_ hs ?_ | refine ld_rd4 ha_ hs ?_ | fail) | ((with_reducible refine isSt ?_); first | refine st_b hs fun w hs => ?_ | refine st_rec5 hs fun w hs => ?_ | refine st_rec4 hs fun w hs => ?_ | refine st_rec3 hs fun w hs => ?_ | refine st_rec2 hs fun w hs => ?_ | refine st_r0 hs fun w hs => ?_ | refine st_r1 hs fun w hs => ?_ | fail) | ((with_reducible refine isIdx ?_); first | refine idx_s hs fun b_ o_ hs => ?_ | refine idx_a hs ?_ | refine idx_rd hs fun b_ o_ ha_ => ?_ | fail) | ((with_reducible refine isNew ?_); first | refine newB_at hs fun b_ w hs => ?_ | fail) | ((with_reducible refine isLdS ?_); first | refine ldS_b ?_ | refine ldS_b (x := ⟨_, _, _⟩) ?_ | refine ldS_r0 ?_ | refine ldS_r1 ?_ | refine ldS_r2 ?_ | refine ldS_r3 ?_ | refine ldS_rs0 hs ?_ | refine ldS_rs1 hs ?_ | refine ldS_rs2 hs ?_ | refine ldS_rs3 hs ?_ | refine ldS_rd0 ha_ ?_ | refine ldS_rd1 ha_ ?_ | refine ldS_rd2 ha_ ?_ | refine ldS_rd3 ha_ ?_ | fail) | ((with_reducible refine isKeep ?_); first | refine keep_of hs ?_ | refine keep_imp hs ?_ | fail) | ((with_reducible refine isWhen ?_); first | refine when_om ?_ | fail) | ((with_reducible refine isDraw ?_); first | refine drawW_sat hs fun w hs => ?_ | fail))
  have hs2 : Sat W w (recs Rec.str ⟨some ⟨b_, 0, none⟩, 2, 2⟩ [str_a, str_c] :: recs Rec.str k1 [str_a, str_c] :: ghR b 2 4 [str_a, str_c] :: L) := Sat.blkS (b := b_) Rec.str [str_a, str_c] hs rfl rfl
  refine call1_of (hoardlaw16_texts_at (a := k1) (b := ⟨some ⟨b_, 0, none⟩, 2, 2⟩) hs2 (by decide)) fun e w ⟨he, hs⟩ => ⟨_, he, ?_⟩
  exact ⟨by simp, by exact Sat.fin hs⟩
set_option maxRecDepth 100000 in
/-- are acts more than is looked at? if not, the first keys are short -/
theorem heavy16 {s0 : Sl} {acts : List Act16} [hr : Rdb W L s0 act16R acts] (hs : Sat W w L) : Calls Try.prog id_hoardlaw16_heavy #[.slice s0.a s0.n s0.c] w fun e w' => ∃ b : Bool, e = .returned (.bool b) ∧ (b = false → ∀ i, i < acts.length → i < 200 → (acts.getD i default).key.size ≤ 40) ∧ Sat W w' L := by
  refine (hoardlaw16_heavy_calls (Q := fun v w' => ∃ b : Bool, v = .bool b ∧ (b = false → ∀ i, i < acts.length → i < 200 → (acts.getD i default).key.size ≤ 40) ∧ Sat W w' L) ?_).mono fun e w' ⟨v, he, b, hv, hs⟩ => ⟨b, by rw [he, hv], hs⟩
  rw [hoardlaw16_heavy_def, hoardlaw16_heavy_raw]
  obtain ⟨N, hN⟩ : ∃ N : Nat, N = 201 := ⟨_, rfl⟩
  have loop : ∀ (m i : Nat) (w : World), i + m = N → (∀ j, j < i → j < acts.length → (acts.getD j default).key.size ≤ 40) → Sat W w L → hoardlaw16_heavy_l1 idJ (fun v w' => ∃ b : Bool, v = .bool b ∧ (b = false → ∀ i, i < acts.length → i < 200 → (acts.getD i default).key.size ≤ 40) ∧ Sat W w' L) (m + 1) s0 (i : Int) w := by
    intro m
    induction m with
    | zero =>
      intro i w hi hp hs
      have hn := rdb_len (s := s0) hs
      rw [hoardlaw16_heavy_l1_raw]
      (first | with_reducible refine ite_ltI (fun h1 => ?_) (fun h1 => ?_) | with_reducible refine ite_leI (fun h1 => ?_) (fun h1 => ?_) | with_reducible refine ite_gtI (fun h1 => ?_) (fun h1 => ?_) | with_reducible refine ite_geI (fun h1 => ?_) (fun h1 => ?_) | with_reducible refine ite_eqI (fun h1 => ?_) (fun h1 => ?_) | with_reducible refine ite_neI (fun h1 => ?_) (fun h1 => ?_) | with_reducible refine ite_eqS (fun h1 => ?_) (fun h1 => ?_) | with_reducible refine ite_neS (fun h1 => ?_) (fun h1 => ?_) | with_reducible refine ite_dec (fun h1 => ?_) (fun h1 => ?_) | with_reducible refine ite_ndec (fun h1 => ?_) (fun h1 => ?_) | with_reducible refine ite_some (fun i_ h1 => ?_) (fun h1 => ?_) | with_reducible refine ite_nsome (fun h1 => ?_) (fun i_ h1 => ?_) | with_reducible refine ite_cases (fun h1 => ?_) (fun h1 => ?_))
      · with_reducible refine ite_ltI (fun h2 => absurd h2 (by omega)) (fun h2 => ?_)
        rw [hoardlaw16_heavy_j3_def, hoardlaw16_heavy_j3_raw]
        exact ⟨_, rfl, fun _ j hj hj2 => hp j (by omega) hj, hs⟩
      · rw [hoardlaw16_heavy_j3_def, hoardlaw16_heavy_j3_raw]
        exact ⟨_, rfl, fun _ j hj hj2 => hp j (by omega) hj, hs⟩
    | succ m ih =>
      intro i w hi hp hs
      have hn := rdb_len (s := s0) hs
      rw [hoardlaw16_heavy_l1_raw]
      (first | with_reducible refine ite_ltI (fun h1 => ?_) (fun h1 => ?_) | with_reducible refine ite_leI (fun h1 => ?_) (fun h1 => ?_) | with_reducible refine ite_gtI (fun h1 => ?_) (fun h1 => ?_) | with_reducible refine ite_geI (fun h1 => ?_) (fun h1 => ?_) | with_reducible refine ite_eqI (fun h1 => ?_) (fun h1 => ?_) | with_reducible refine ite_neI (fun h1 => ?_) (fun h1 => ?_) | with_reducible refine ite_eqS (fun h1 => ?_) (fun h1 => ?_) | with_reducible refine ite_neS (fun h1 => ?_) (fun h1 => ?_) | with_reducible refine ite_dec (fun h1 => ?_) (fun h1 => ?_) | with_reducible refine ite_ndec (fun h1 => ?_) (fun h1 => ?_) | with_reducible refine ite_some (fun i_ h1 => ?_) (fun h1 => ?_) | with_reducible refine ite_nsome (fun h1 => ?_) (fun i_ h1 => ?_) | with_reducible refine ite_cases (fun h1 => ?_) (fun h1 => ?_))
      · (first | with_reducible refine ite_ltI (fun h2 => ?_) (fun h2 => ?_) | with_reducible refine ite_leI (fun h2 => ?_) (fun h2 => ?_) | with_reducible refine ite_gtI (fun h2 => ?_) (fun h2 => ?_) | with_reducible refine ite_geI (fun h2 => ?_) (fun h2 => ?_) | with_reducible refine ite_eqI (fun h2 => ?_) (fun h2 => ?_) | with_reducible refine ite_neI (fun h2 => ?_) (fun h2 => ?_) | with_reducible refine ite_eqS (fun h2 => ?_) (fun h2 => ?_) | with_reducible refine ite_neS (fun h2 => ?_) (fun h2 => ?_) | with_reducible refine ite_dec (fun h2 => ?_) (fun h2 => ?_) | with_reducible refine ite_ndec (fun h2 => ?_) (fun h2 => ?_) | with_reducible refine ite_some (fun i_ h2 => ?_) (fun h2 => ?_) | with_reducible refine ite_nsome (fun h2 => ?_) (fun i_ h2 => ?_) | with_reducible refine ite_cases (fun h2 => ?_) (fun h2 => ?_))
        · rw [hoardlaw16_heavy_j2_def, hoardlaw16_heavy_j2_raw]
          repeat (first | with_reducible refine nilck_some ?_ | ((with_reducible refine atLd ?_); first | refine ld_b hs ?_ | refine ld_b (x := ⟨_, _, _⟩) hs ?_ | refine ld_r0 hs ?_ | refine ld_r1 hs ?_ | refine ld_r2 hs ?_ | refine ld_r3 hs ?_ | refine ld_r4 hs ?_ | refine ld_rd0 ha_ hs ?_ | refine ld_rd1 ha_ hs ?_ | refine ld_rd2 ha_ hs ?_ | refine ld_rd3 ha_ hs ?_ | refine ld_rd4 ha_ hs ?_ | fail) | ((with_reducible refine isSt ?_); first | refine st_b hs fun w hs => ?_ | refine st_rec5 hs fun w hs => ?_ | refine st_rec4 hs fun w hs => ?_ | refine st_rec3 hs fun w hs => ?_ | refine st_rec2 hs fun w hs => ?_ | refine st_r0 hs fun w hs => ?_ | refine st_r1 hs fun w hs => ?_ | fail) | ((with_reducible refine isIdx ?_); first | refine idx_s hs fun b_ o_ hs => ?_ | refine idx_a hs ?_ | refine idx_rd hs fun b_ o_ ha_ => ?_ | fail) | ((with_reducible refine isNew ?_); first | refine newB_at hs fun b_ w hs => ?_ | fail) | ((with_reducible refine isLdS ?_); first | refine ldS_b ?_ | refine ldS_b (x := ⟨_, _, _⟩) ?_ | refine ldS_r0 ?_ | refine ldS_r1 ?_ | refine ldS_r2 ?_ | refine ldS_r3 ?_ | refine ldS_rs0 hs ?_ | refine ldS_rs1 hs ?_ | refine ldS_rs2 hs ?_ | refine ldS_rs3 hs ?_ | refine ldS_rd0 ha_ ?_ | refine ldS_rd1 ha_ ?_ | refine ldS_rd2 ha_ ?_ | refine ldS_rd3 ha_ ?_ | fail) | ((with_reducible refine isKeep ?_); first | refine keep_of hs ?_ | refine keep_imp hs ?_ | fail) | ((with_reducible refine isWhen ?_); first | refine when_om ?_ | fail) | ((with_reducible refine isDraw ?_); first | refine drawW_sat hs fun w hs => ?_ | fail))
          rw [Int.toNat_natCast]
          (first | with_reducible refine ite_ltI (fun h3 => ?_) (fun h3 => ?_) | with_reducible refine ite_leI (fun h3 => ?_) (fun h3 => ?_) | with_reducible refine ite_gtI (fun h3 => ?_) (fun h3 => ?_) | with_reducible refine ite_geI (fun h3 => ?_) (fun h3 => ?_) | with_reducible refine ite_eqI (fun h3 => ?_) (fun h3 => ?_) | with_reducible refine ite_neI (fun h3 => ?_) (fun h3 => ?_) | with_reducible refine ite_eqS (fun h3 => ?_) (fun h3 => ?_) | with_reducible refine ite_neS (fun h3 => ?_) (fun h3 => ?_) | with_reducible refine ite_dec (fun h3 => ?_) (fun h3 => ?_) | with_reducible refine ite_ndec (fun h3 => ?_) (fun h3 => ?_) | with_reducible refine ite_some (fun i_ h3 => ?_) (fun h3 => ?_) | with_reducible refine ite_nsome (fun h3 => ?_) (fun i_ h3 => ?_) | with_reducible refine ite_cases (fun h3 => ?_) (fun h3 => ?_))
          · exact ⟨_, rfl, (fun h => by cases h), hs⟩
          · rw [i64_in _ (by omega)]
            refine ih (i + 1) w (by omega) (fun j hj hj2 => ?_) hs
            by_cases hji : j = i
            · subst hji; omega
            · exact hp j (by omega) hj2
        · rw [hoardlaw16_heavy_j3_def, hoardlaw16_heavy_j3_raw]
          exact ⟨_, rfl, fun _ j hj hj2 => hp j (by omega) hj, hs⟩
      · rw [hoardlaw16_heavy_j3_def, hoardlaw16_heavy_j3_raw]
        exact ⟨_, rfl, fun _ j hj hj2 => hp j (by omega) hj, hs⟩
  refine ⟨N + 1, ?_⟩
  exact loop N 0 w (by omega) (fun j hj => by omega) hs

/-! a nil Ghost -/
theorem gnil_Add (hs : Sat W w L) {k : ByteArray} : Calls Try.prog id_ghost_Ghost_Add #[.pointer none, .string k] w fun e w' => e = .returned (.tuple #[.string str_empty, .bool false]) ∧ Sat W w' L := by
  refine c1 (ghost_Ghost_Add_calls ?_)
  rw [ghost_Ghost_Add_def, ghost_Ghost_Add_raw]
  exact ite_true rfl ⟨rfl, hs⟩
theorem gnil_Take (hs : Sat W w L) {k : ByteArray} : Calls Try.prog id_ghost_Ghost_Take #[.pointer none, .string k] w fun e w' => e = .returned (.bool false) ∧ Sat W w' L := by
  refine c1 (ghost_Ghost_Take_calls ?_)
  rw [ghost_Ghost_Take_def, ghost_Ghost_Take_raw]
  exact ite_true rfl ⟨rfl, hs⟩
theorem gnil_Has (hs : Sat W w L) {k : ByteArray} : Calls Try.prog id_ghost_Ghost_Has #[.pointer none, .string k] w fun e w' => e = .returned (.bool false) ∧ Sat W w' L := by
  refine c1 (ghost_Ghost_Has_calls ?_)
  rw [ghost_Ghost_Has_def, ghost_Ghost_Has_raw]
  exact ite_true rfl ⟨rfl, hs⟩
theorem gnil_Keys (hs : Sat W w L) : Calls Try.prog id_ghost_Ghost_Keys #[.pointer none] w fun e w' => e = .returned (.slice none 0 0) ∧ Sat W w' L := by
  refine c1 (ghost_Ghost_Keys_calls ?_)
  rw [ghost_Ghost_Keys_def, ghost_Ghost_Keys_raw]
  exact ite_true rfl ⟨rfl, hs⟩
theorem gnil_Len (hs : Sat W w L) : Calls Try.prog id_ghost_Ghost_Len #[.pointer none] w fun e w' => e = .returned (.int .i64 0) ∧ Sat W w' L := by
  refine c1 (ghost_Ghost_Len_calls ?_)
  rw [ghost_Ghost_Len_def, ghost_Ghost_Len_raw]
  exact ite_true rfl ⟨rfl, hs⟩
theorem gnothing_walk {s : ByteArray} : Calls Try.prog id_hoardlaw16_GhostOfNothing #[.string s] W fun e w' => e = .returned (.bool true) ∧ KeptH W w' := by
  have hs := Sat.begin W
  refine law_of (hoardlaw16_GhostOfNothing_calls ?_)
  rw [hoardlaw16_GhostOfNothing_def, hoardlaw16_GhostOfNothing_raw]
  (first | with_reducible refine ite_ltI (fun h1 => ?_) (fun h1 => ?_) | with_reducible refine ite_leI (fun h1 => ?_) (fun h1 => ?_) | with_reducible refine ite_gtI (fun h1 => ?_) (fun h1 => ?_) | with_reducible refine ite_geI (fun h1 => ?_) (fun h1 => ?_) | with_reducible refine ite_eqI (fun h1 => ?_) (fun h1 => ?_) | with_reducible refine ite_neI (fun h1 => ?_) (fun h1 => ?_) | with_reducible refine ite_eqS (fun h1 => ?_) (fun h1 => ?_) | with_reducible refine ite_neS (fun h1 => ?_) (fun h1 => ?_) | with_reducible refine ite_dec (fun h1 => ?_) (fun h1 => ?_) | with_reducible refine ite_ndec (fun h1 => ?_) (fun h1 => ?_) | with_reducible refine ite_some (fun i_ h1 => ?_) (fun h1 => ?_) | with_reducible refine ite_nsome (fun h1 => ?_) (fun i_ h1 => ?_) | with_reducible refine ite_cases (fun h1 => ?_) (fun h1 => ?_))
  · exact ⟨rfl, hs⟩
  refine call2_of (gnil_Add hs) fun e w ⟨he, hs⟩ => ⟨_, _, he, ite_true (by rw [sEq_eq]; simp) (ite_true rfl ?_)⟩
  refine call1_of (gnil_Take hs) fun e w ⟨he, hs⟩ => ⟨_, he, ite_true rfl ?_⟩
  refine call1_of (gnil_Has hs) fun e w ⟨he, hs⟩ => ⟨_, he, ite_true rfl ?_⟩
  refine (gnil_Keys hs).mono fun e w ⟨he, hs⟩ => ⟨⟨none, 0, 0⟩, he, ite_true rfl ?_⟩
  refine call1_of (gnil_Len hs) fun e w ⟨he, hs⟩ => ⟨_, he, ite_true rfl ?_⟩
  exact call1_of (known16 hs) fun e w ⟨he, hs⟩ => ⟨_, he, rfl, hs⟩

set_option maxHeartbeats 1000000 in
set_option maxRecDepth 100000 in
theorem gplays_walk {room : Int} {s0 : Sl} {acts : List Act16} [hr : ReadsR W s0 act16R acts] : Calls Try.prog id_hoardlaw16_GhostPlays #[.int .i64 room, .slice s0.a s0.n s0.c] W fun e w' => e = .returned (.bool true) ∧ KeptH W w' := by
  have hs := Sat.begin W
  refine law_of (hoardlaw16_GhostPlays_calls ?_)
  rw [hoardlaw16_GhostPlays_def, hoardlaw16_GhostPlays_raw]
  refine (heavy16 (s0 := s0) hs).mono fun e w ⟨hv, he, hsz, hs⟩ => ⟨_, he, ?_⟩
  refine ite_cases (fun h1 => ⟨rfl, hs⟩) (fun h1 => ?_)
  have hsz := hsz h1
  refine (gh_New hs).mono fun e w ⟨b, he, hs⟩ => ⟨_, he, ?_⟩
  refine (r16_New hs).mono fun e w ⟨b2, he, hs⟩ => ⟨_, he, ite_false rfl ?_⟩
  generalize clampR room = r at hs
  have fin : ∀ w (s : Sl) (n : Nat) ks, n ≤ 300 → Sat W w [blk b2 [.slice s.a s.n s.c, .int .i64 r], recs Rec.str s ks, ghR b r n ks, old W] → hoardlaw16_GhostPlays_j4 idJ (fun v w' => v = .bool true ∧ Sat W w' [old W]) (some ⟨b, 0, none⟩) (some ⟨b2, 0, none⟩) w := by
    intro w s n ks hn hs
    rw [hoardlaw16_GhostPlays_j4_def, hoardlaw16_GhostPlays_j4_raw]
    refine drawW_only [blk b2 [.slice s.a s.n s.c, .int .i64 r]] hs fun w hs => ?_
    repeat (first | with_reducible refine nilck_some ?_ | ((with_reducible refine atLd ?_); first | refine ld_b hs ?_ | refine ld_b (x := ⟨_, _, _⟩) hs ?_ | refine ld_r0 hs ?_ | refine ld_r1 hs ?_ | refine ld_r2 hs ?_ | refine ld_r3 hs ?_ | refine ld_r4 hs ?_ | refine ld_rd0 ha_ hs ?_ | refine ld_rd1 ha_ hs ?_ | refine ld_rd2 ha_ hs ?_ | refine ld_rd3 ha_ hs ?_ | refine ld_rd4 ha_ hs ?_ | fail) | ((with_reducible refine isSt ?_); first | refine st_b hs fun w hs => ?_ | refine st_rec5 hs fun w hs => ?_ | refine st_rec4 hs fun w hs => ?_ | refine st_rec3 hs fun w hs => ?_ | refine st_rec2 hs fun w hs => ?_ | refine st_r0 hs fun w hs => ?_ | refine st_r1 hs fun w hs => ?_ | fail) | ((with_reducible refine isIdx ?_); first | refine idx_s hs fun b_ o_ hs => ?_ | refine idx_a hs ?_ | refine idx_rd hs fun b_ o_ ha_ => ?_ | fail) | ((with_reducible refine isNew ?_); first | refine newB_at hs fun b_ w hs => ?_ | fail) | ((with_reducible refine isLdS ?_); first | refine ldS_b ?_ | refine ldS_b (x := ⟨_, _, _⟩) ?_ | refine ldS_r0 ?_ | refine ldS_r1 ?_ | refine ldS_r2 ?_ | refine ldS_r3 ?_ | refine ldS_rs0 hs ?_ | refine ldS_rs1 hs ?_ | refine ldS_rs2 hs ?_ | refine ldS_rs3 hs ?_ | refine ldS_rd0 ha_ ?_ | refine ldS_rd1 ha_ ?_ | refine ldS_rd2 ha_ ?_ | refine ldS_rd3 ha_ ?_ | fail) | ((with_reducible refine isKeep ?_); first | refine keep_of hs ?_ | refine keep_imp hs ?_ | fail) | ((with_reducible refine isWhen ?_); first | refine when_om ?_ | fail) | ((with_reducible refine isDraw ?_); first | refine drawW_sat hs fun w hs => ?_ | fail))
    have hkl : ks.length ≤ n := (gh_inv (b := b) (room := r) (N := n) (ks := ks) (M := [blk b2 [.slice s.a s.n s.c, .int .i64 r], recs Rec.str s ks, old W]) (by exact Sat.fin hs)).2.1
    refine (gh_Keys hs (by omega)).mono fun e w ⟨k1, he, hs⟩ => ⟨_, he, ?_⟩
    repeat (first | with_reducible refine nilck_some ?_ | ((with_reducible refine atLd ?_); first | refine ld_b hs ?_ | refine ld_b (x := ⟨_, _, _⟩) hs ?_ | refine ld_r0 hs ?_ | refine ld_r1 hs ?_ | refine ld_r2 hs ?_ | refine ld_r3 hs ?_ | refine ld_r4 hs ?_ | refine ld_rd0 ha_ hs ?_ | refine ld_rd1 ha_ hs ?_ | refine ld_rd2 ha_ hs ?_ | refine ld_rd3 ha_ hs ?_ | refine ld_rd4 ha_ hs ?_ | fail) | ((with_reducible refine isSt ?_); first | refine st_b hs fun w hs => ?_ | refine st_rec5 hs fun w hs => ?_ | refine st_rec4 hs fun w hs => ?_ | refine st_rec3 hs fun w hs => ?_ | refine st_rec2 hs fun w hs => ?_ | refine st_r0 hs fun w hs => ?_ | refine st_r1 hs fun w hs => ?_ | fail) | ((with_reducible refine isIdx ?_); first | refine idx_s hs fun b_ o_ hs => ?_ | refine idx_a hs ?_ | refine idx_rd hs fun b_ o_ ha_ => ?_ | fail) | ((with_reducible refine isNew ?_); first | refine newB_at hs fun b_ w hs => ?_ | fail) | ((with_reducible refine isLdS ?_); first | refine ldS_b ?_ | refine ldS_b (x := ⟨_, _, _⟩) ?_ | refine ldS_r0 ?_ | refine ldS_r1 ?_ | refine ldS_r2 ?_ | refine ldS_r3 ?_ | refine ldS_rs0 hs ?_ | refine ldS_rs1 hs ?_ | refine ldS_rs2 hs ?_ | refine ldS_rs3 hs ?_ | refine ldS_rd0 ha_ ?_ | refine ldS_rd1 ha_ ?_ | refine ldS_rd2 ha_ ?_ | refine ldS_rd3 ha_ ?_ | fail) | ((with_reducible refine isKeep ?_); first | refine keep_of hs ?_ | refine keep_imp hs ?_ | fail) | ((with_reducible refine isWhen ?_); first | refine when_om ?_ | fail) | ((with_reducible refine isDraw ?_); first | refine drawW_sat hs fun w hs => ?_ | fail))
    refine call1_of (hoardlaw16_texts_at (a := k1) (b := s) hs (by omega)) fun e w ⟨he, hs⟩ => ⟨_, he, ite_true (by simp) ?_⟩
    exact call1_of (known16 hs) fun e w ⟨he, hs⟩ => ⟨_, he, rfl, by exact Sat.fin hs⟩
  obtain ⟨N, hN⟩ : ∃ N : Nat, N = 201 := ⟨_, rfl⟩
  have loop : ∀ (f i : Nat) (w : World) (s : Sl) (ks : List ByteArray), i + f = N → Sat W w [blk b2 [.slice s.a s.n s.c, .int .i64 r], recs Rec.str s ks, ghR b r i ks, old W] → hoardlaw16_GhostPlays_l1 idJ (fun v w' => v = .bool true ∧ Sat W w' [old W]) (f + 1) s0 (some ⟨b, 0, none⟩) (some ⟨b2, 0, none⟩) (i : Int) w := by
    intro f
    induction f with
    | zero =>
      intro i w s ks hi hs
      rw [hoardlaw16_GhostPlays_l1_raw]
      (first | with_reducible refine ite_ltI (fun h1 => ?_) (fun h1 => ?_) | with_reducible refine ite_leI (fun h1 => ?_) (fun h1 => ?_) | with_reducible refine ite_gtI (fun h1 => ?_) (fun h1 => ?_) | with_reducible refine ite_geI (fun h1 => ?_) (fun h1 => ?_) | with_reducible refine ite_eqI (fun h1 => ?_) (fun h1 => ?_) | with_reducible refine ite_neI (fun h1 => ?_) (fun h1 => ?_) | with_reducible refine ite_eqS (fun h1 => ?_) (fun h1 => ?_) | with_reducible refine ite_neS (fun h1 => ?_) (fun h1 => ?_) | with_reducible refine ite_dec (fun h1 => ?_) (fun h1 => ?_) | with_reducible refine ite_ndec (fun h1 => ?_) (fun h1 => ?_) | with_reducible refine ite_some (fun i_ h1 => ?_) (fun h1 => ?_) | with_reducible refine ite_nsome (fun h1 => ?_) (fun i_ h1 => ?_) | with_reducible refine ite_cases (fun h1 => ?_) (fun h1 => ?_))
      · with_reducible refine ite_ltI (fun h2 => absurd h2 (by omega)) (fun h2 => ?_)
        exact fin w s i ks (by omega) hs
      · exact fin w s i ks (by omega) hs
    | succ f ih =>
      intro i w s ks hi hs
      have hn := rdb_len (s := s0) hs
      rw [hoardlaw16_GhostPlays_l1_raw]
      (first | with_reducible refine ite_ltI (fun h1 => ?_) (fun h1 => ?_) | with_reducible refine ite_leI (fun h1 => ?_) (fun h1 => ?_) | with_reducible refine ite_gtI (fun h1 => ?_) (fun h1 => ?_) | with_reducible refine ite_geI (fun h1 => ?_) (fun h1 => ?_) | with_reducible refine ite_eqI (fun h1 => ?_) (fun h1 => ?_) | with_reducible refine ite_neI (fun h1 => ?_) (fun h1 => ?_) | with_reducible refine ite_eqS (fun h1 => ?_) (fun h1 => ?_) | with_reducible refine ite_neS (fun h1 => ?_) (fun h1 => ?_) | with_reducible refine ite_dec (fun h1 => ?_) (fun h1 => ?_) | with_reducible refine ite_ndec (fun h1 => ?_) (fun h1 => ?_) | with_reducible refine ite_some (fun i_ h1 => ?_) (fun h1 => ?_) | with_reducible refine ite_nsome (fun h1 => ?_) (fun i_ h1 => ?_) | with_reducible refine ite_cases (fun h1 => ?_) (fun h1 => ?_))
      · (first | with_reducible refine ite_ltI (fun h2 => ?_) (fun h2 => ?_) | with_reducible refine ite_leI (fun h2 => ?_) (fun h2 => ?_) | with_reducible refine ite_gtI (fun h2 => ?_) (fun h2 => ?_) | with_reducible refine ite_geI (fun h2 => ?_) (fun h2 => ?_) | with_reducible refine ite_eqI (fun h2 => ?_) (fun h2 => ?_) | with_reducible refine ite_neI (fun h2 => ?_) (fun h2 => ?_) | with_reducible refine ite_eqS (fun h2 => ?_) (fun h2 => ?_) | with_reducible refine ite_neS (fun h2 => ?_) (fun h2 => ?_) | with_reducible refine ite_dec (fun h2 => ?_) (fun h2 => ?_) | with_reducible refine ite_ndec (fun h2 => ?_) (fun h2 => ?_) | with_reducible refine ite_some (fun i_ h2 => ?_) (fun h2 => ?_) | with_reducible refine ite_nsome (fun h2 => ?_) (fun i_ h2 => ?_) | with_reducible refine ite_cases (fun h2 => ?_) (fun h2 => ?_))
        · have hkey := hsz i (by omega) (by omega)
          have next : ∀ (w : World) (s : Sl) (ks : List ByteArray), Sat W w [blk b2 [.slice s.a s.n s.c, .int .i64 r], recs Rec.str s ks, ghR b r (i + 1) ks, old W] → hoardlaw16_GhostPlays_j3 idJ (fun v w' => v = .bool true ∧ Sat W w' [old W]) (f + 1) s0 (some ⟨b, 0, none⟩) (some ⟨b2, 0, none⟩) (i : Int) w := by
            intro w s ks hs
            have hkl := (gh_inv (b := b) (room := r) (N := i + 1) (ks := ks) (M := [blk b2 [.slice s.a s.n s.c, .int .i64 r], recs Rec.str s ks, old W]) (by exact Sat.fin hs)).2.1
            have hsl := rdb_len (s := s) hs
            rw [hoardlaw16_GhostPlays_j3_def, hoardlaw16_GhostPlays_j3_raw]
            refine drawW_only [blk b2 [.slice s.a s.n s.c, .int .i64 r], old W] hs fun w hs => ?_
            repeat (first | with_reducible refine nilck_some ?_ | ((with_reducible refine atLd ?_); first | refine ld_b hs ?_ | refine ld_b (x := ⟨_, _, _⟩) hs ?_ | refine ld_r0 hs ?_ | refine ld_r1 hs ?_ | refine ld_r2 hs ?_ | refine ld_r3 hs ?_ | refine ld_r4 hs ?_ | refine ld_rd0 ha_ hs ?_ | refine ld_rd1 ha_ hs ?_ | refine ld_rd2 ha_ hs ?_ | refine ld_rd3 ha_ hs ?_ | refine ld_rd4 ha_ hs ?_ | fail) | ((with_reducible refine isSt ?_); first | refine st_b hs fun w hs => ?_ | refine st_rec5 hs fun w hs => ?_ | refine st_rec4 hs fun w hs => ?_ | refine st_rec3 hs fun w hs => ?_ | refine st_rec2 hs fun w hs => ?_ | refine st_r0 hs fun w hs => ?_ | refine st_r1 hs fun w hs => ?_ | fail) | ((with_reducible refine isIdx ?_); first | refine idx_s hs fun b_ o_ hs => ?_ | refine idx_a hs ?_ | refine idx_rd hs fun b_ o_ ha_ => ?_ | fail) | ((with_reducible refine isNew ?_); first | refine newB_at hs fun b_ w hs => ?_ | fail) | ((with_reducible refine isLdS ?_); first | refine ldS_b ?_ | refine ldS_b (x := ⟨_, _, _⟩) ?_ | refine ldS_r0 ?_ | refine ldS_r1 ?_ | refine ldS_r2 ?_ | refine ldS_r3 ?_ | refine ldS_rs0 hs ?_ | refine ldS_rs1 hs ?_ | refine ldS_rs2 hs ?_ | refine ldS_rs3 hs ?_ | refine ldS_rd0 ha_ ?_ | refine ldS_rd1 ha_ ?_ | refine ldS_rd2 ha_ ?_ | refine ldS_rd3 ha_ ?_ | fail) | ((with_reducible refine isKeep ?_); first | refine keep_of hs ?_ | refine keep_imp hs ?_ | fail) | ((with_reducible refine isWhen ?_); first | refine when_om ?_ | fail) | ((with_reducible refine isDraw ?_); first | refine drawW_sat hs fun w hs => ?_ | fail))
            rw [Int.toNat_natCast]
            refine call1_of (gh_Has hs (by omega)) fun e w ⟨he, hs⟩ => ⟨_, he, ?_⟩
            repeat (first | with_reducible refine nilck_some ?_ | ((with_reducible refine atLd ?_); first | refine ld_b hs ?_ | refine ld_b (x := ⟨_, _, _⟩) hs ?_ | refine ld_r0 hs ?_ | refine ld_r1 hs ?_ | refine ld_r2 hs ?_ | refine ld_r3 hs ?_ | refine ld_r4 hs ?_ | refine ld_rd0 ha_ hs ?_ | refine ld_rd1 ha_ hs ?_ | refine ld_rd2 ha_ hs ?_ | refine ld_rd3 ha_ hs ?_ | refine ld_rd4 ha_ hs ?_ | fail) | ((with_reducible refine isSt ?_); first | refine st_b hs fun w hs => ?_ | refine st_rec5 hs fun w hs => ?_ | refine st_rec4 hs fun w hs => ?_ | refine st_rec3 hs fun w hs => ?_ | refine st_rec2 hs fun w hs => ?_ | refine st_r0 hs fun w hs => ?_ | refine st_r1 hs fun w hs => ?_ | fail) | ((with_reducible refine isIdx ?_); first | refine idx_s hs fun b_ o_ hs => ?_ | refine idx_a hs ?_ | refine idx_rd hs fun b_ o_ ha_ => ?_ | fail) | ((with_reducible refine isNew ?_); first | refine newB_at hs fun b_ w hs => ?_ | fail) | ((with_reducible refine isLdS ?_); first | refine ldS_b ?_ | refine ldS_b (x := ⟨_, _, _⟩) ?_ | refine ldS_r0 ?_ | refine ldS_r1 ?_ | refine ldS_r2 ?_ | refine ldS_r3 ?_ | refine ldS_rs0 hs ?_ | refine ldS_rs1 hs ?_ | refine ldS_rs2 hs ?_ | refine ldS_rs3 hs ?_ | refine ldS_rd0 ha_ ?_ | refine ldS_rd1 ha_ ?_ | refine ldS_rd2 ha_ ?_ | refine ldS_rd3 ha_ ?_ | fail) | ((with_reducible refine isKeep ?_); first | refine keep_of hs ?_ | refine keep_imp hs ?_ | fail) | ((with_reducible refine isWhen ?_); first | refine when_om ?_ | fail) | ((with_reducible refine isDraw ?_); first | refine drawW_sat hs fun w hs => ?_ | fail))
            refine call1_of (r16_Has (W := W) (M := [ghR b r (i + 1) ks, old W]) (room := r) (ks := ks) (s := s) (by exact Sat.fin hs) (by omega)) fun e w ⟨he, hs⟩ => ⟨_, he, ?_⟩
            repeat (first | with_reducible refine nilck_some ?_ | ((with_reducible refine atLd ?_); first | refine ld_b hs ?_ | refine ld_b (x := ⟨_, _, _⟩) hs ?_ | refine ld_r0 hs ?_ | refine ld_r1 hs ?_ | refine ld_r2 hs ?_ | refine ld_r3 hs ?_ | refine ld_r4 hs ?_ | refine ld_rd0 ha_ hs ?_ | refine ld_rd1 ha_ hs ?_ | refine ld_rd2 ha_ hs ?_ | refine ld_rd3 ha_ hs ?_ | refine ld_rd4 ha_ hs ?_ | fail) | ((with_reducible refine isSt ?_); first | refine st_b hs fun w hs => ?_ | refine st_rec5 hs fun w hs => ?_ | refine st_rec4 hs fun w hs => ?_ | refine st_rec3 hs fun w hs => ?_ | refine st_rec2 hs fun w hs => ?_ | refine st_r0 hs fun w hs => ?_ | refine st_r1 hs fun w hs => ?_ | fail) | ((with_reducible refine isIdx ?_); first | refine idx_s hs fun b_ o_ hs => ?_ | refine idx_a hs ?_ | refine idx_rd hs fun b_ o_ ha_ => ?_ | fail) | ((with_reducible refine isNew ?_); first | refine newB_at hs fun b_ w hs => ?_ | fail) | ((with_reducible refine isLdS ?_); first | refine ldS_b ?_ | refine ldS_b (x := ⟨_, _, _⟩) ?_ | refine ldS_r0 ?_ | refine ldS_r1 ?_ | refine ldS_r2 ?_ | refine ldS_r3 ?_ | refine ldS_rs0 hs ?_ | refine ldS_rs1 hs ?_ | refine ldS_rs2 hs ?_ | refine ldS_rs3 hs ?_ | refine ldS_rd0 ha_ ?_ | refine ldS_rd1 ha_ ?_ | refine ldS_rd2 ha_ ?_ | refine ldS_rd3 ha_ ?_ | fail) | ((with_reducible refine isKeep ?_); first | refine keep_of hs ?_ | refine keep_imp hs ?_ | fail) | ((with_reducible refine isWhen ?_); first | refine when_om ?_ | fail) | ((with_reducible refine isDraw ?_); first | refine drawW_sat hs fun w hs => ?_ | fail))
            refine ite_false (by simp) ?_
            repeat (first | with_reducible refine nilck_some ?_ | ((with_reducible refine atLd ?_); first | refine ld_b hs ?_ | refine ld_b (x := ⟨_, _, _⟩) hs ?_ | refine ld_r0 hs ?_ | refine ld_r1 hs ?_ | refine ld_r2 hs ?_ | refine ld_r3 hs ?_ | refine ld_r4 hs ?_ | refine ld_rd0 ha_ hs ?_ | refine ld_rd1 ha_ hs ?_ | refine ld_rd2 ha_ hs ?_ | refine ld_rd3 ha_ hs ?_ | refine ld_rd4 ha_ hs ?_ | fail) | ((with_reducible refine isSt ?_); first | refine st_b hs fun w hs => ?_ | refine st_rec5 hs fun w hs => ?_ | refine st_rec4 hs fun w hs => ?_ | refine st_rec3 hs fun w hs => ?_ | refine st_rec2 hs fun w hs => ?_ | refine st_r0 hs fun w hs => ?_ | refine st_r1 hs fun w hs => ?_ | fail) | ((with_reducible refine isIdx ?_); first | refine idx_s hs fun b_ o_ hs => ?_ | refine idx_a hs ?_ | refine idx_rd hs fun b_ o_ ha_ => ?_ | fail) | ((with_reducible refine isNew ?_); first | refine newB_at hs fun b_ w hs => ?_ | fail) | ((with_reducible refine isLdS ?_); first | refine ldS_b ?_ | refine ldS_b (x := ⟨_, _, _⟩) ?_ | refine ldS_r0 ?_ | refine ldS_r1 ?_ | refine ldS_r2 ?_ | refine ldS_r3 ?_ | refine ldS_rs0 hs ?_ | refine ldS_rs1 hs ?_ | refine ldS_rs2 hs ?_ | refine ldS_rs3 hs ?_ | refine ldS_rd0 ha_ ?_ | refine ldS_rd1 ha_ ?_ | refine ldS_rd2 ha_ ?_ | refine ldS_rd3 ha_ ?_ | fail) | ((with_reducible refine isKeep ?_); first | refine keep_of hs ?_ | refine keep_imp hs ?_ | fail) | ((with_reducible refine isWhen ?_); first | refine when_om ?_ | fail) | ((with_reducible refine isDraw ?_); first | refine drawW_sat hs fun w hs => ?_ | fail))
            refine call1_of (gh_Len hs) fun e w ⟨he, hs⟩ => ⟨_, he, ?_⟩
            repeat (first | with_reducible refine nilck_some ?_ | ((with_reducible refine atLd ?_); first | refine ld_b hs ?_ | refine ld_b (x := ⟨_, _, _⟩) hs ?_ | refine ld_r0 hs ?_ | refine ld_r1 hs ?_ | refine ld_r2 hs ?_ | refine ld_r3 hs ?_ | refine ld_r4 hs ?_ | refine ld_rd0 ha_ hs ?_ | refine ld_rd1 ha_ hs ?_ | refine ld_rd2 ha_ hs ?_ | refine ld_rd3 ha_ hs ?_ | refine ld_rd4 ha_ hs ?_ | fail) | ((with_reducible refine isSt ?_); first | refine st_b hs fun w hs => ?_ | refine st_rec5 hs fun w hs => ?_ | refine st_rec4 hs fun w hs => ?_ | refine st_rec3 hs fun w hs => ?_ | refine st_rec2 hs fun w hs => ?_ | refine st_r0 hs fun w hs => ?_ | refine st_r1 hs fun w hs => ?_ | fail) | ((with_reducible refine isIdx ?_); first | refine idx_s hs fun b_ o_ hs => ?_ | refine idx_a hs ?_ | refine idx_rd hs fun b_ o_ ha_ => ?_ | fail) | ((with_reducible refine isNew ?_); first | refine newB_at hs fun b_ w hs => ?_ | fail) | ((with_reducible refine isLdS ?_); first | refine ldS_b ?_ | refine ldS_b (x := ⟨_, _, _⟩) ?_ | refine ldS_r0 ?_ | refine ldS_r1 ?_ | refine ldS_r2 ?_ | refine ldS_r3 ?_ | refine ldS_rs0 hs ?_ | refine ldS_rs1 hs ?_ | refine ldS_rs2 hs ?_ | refine ldS_rs3 hs ?_ | refine ldS_rd0 ha_ ?_ | refine ldS_rd1 ha_ ?_ | refine ldS_rd2 ha_ ?_ | refine ldS_rd3 ha_ ?_ | fail) | ((with_reducible refine isKeep ?_); first | refine keep_of hs ?_ | refine keep_imp hs ?_ | fail) | ((with_reducible refine isWhen ?_); first | refine when_om ?_ | fail) | ((with_reducible refine isDraw ?_); first | refine drawW_sat hs fun w hs => ?_ | fail))
            refine ite_false (by rw [hsl]; simp) ?_
            rw [i64_in _ (by omega)]
            exact ih (i + 1) w s ks (by omega) hs
          have hkl := (gh_inv (b := b) (room := r) (N := i) (ks := ks) (M := [blk b2 [.slice s.a s.n s.c, .int .i64 r], recs Rec.str s ks, old W]) (by exact Sat.fin hs)).2.1
          rw [hoardlaw16_GhostPlays_j2_def, hoardlaw16_GhostPlays_j2_raw]
          repeat (first | with_reducible refine nilck_some ?_ | ((with_reducible refine atLd ?_); first | refine ld_b hs ?_ | refine ld_b (x := ⟨_, _, _⟩) hs ?_ | refine ld_r0 hs ?_ | refine ld_r1 hs ?_ | refine ld_r2 hs ?_ | refine ld_r3 hs ?_ | refine ld_r4 hs ?_ | refine ld_rd0 ha_ hs ?_ | refine ld_rd1 ha_ hs ?_ | refine ld_rd2 ha_ hs ?_ | refine ld_rd3 ha_ hs ?_ | refine ld_rd4 ha_ hs ?_ | fail) | ((with_reducible refine isSt ?_); first | refine st_b hs fun w hs => ?_ | refine st_rec5 hs fun w hs => ?_ | refine st_rec4 hs fun w hs => ?_ | refine st_rec3 hs fun w hs => ?_ | refine st_rec2 hs fun w hs => ?_ | refine st_r0 hs fun w hs => ?_ | refine st_r1 hs fun w hs => ?_ | fail) | ((with_reducible refine isIdx ?_); first | refine idx_s hs fun b_ o_ hs => ?_ | refine idx_a hs ?_ | refine idx_rd hs fun b_ o_ ha_ => ?_ | fail) | ((with_reducible refine isNew ?_); first | refine newB_at hs fun b_ w hs => ?_ | fail) | ((with_reducible refine isLdS ?_); first | refine ldS_b ?_ | refine ldS_b (x := ⟨_, _, _⟩) ?_ | refine ldS_r0 ?_ | refine ldS_r1 ?_ | refine ldS_r2 ?_ | refine ldS_r3 ?_ | refine ldS_rs0 hs ?_ | refine ldS_rs1 hs ?_ | refine ldS_rs2 hs ?_ | refine ldS_rs3 hs ?_ | refine ldS_rd0 ha_ ?_ | refine ldS_rd1 ha_ ?_ | refine ldS_rd2 ha_ ?_ | refine ldS_rd3 ha_ ?_ | fail) | ((with_reducible refine isKeep ?_); first | refine keep_of hs ?_ | refine keep_imp hs ?_ | fail) | ((with_reducible refine isWhen ?_); first | refine when_om ?_ | fail) | ((with_reducible refine isDraw ?_); first | refine drawW_sat hs fun w hs => ?_ | fail))
          rw [Int.toNat_natCast]
          (first | with_reducible refine ite_ltI (fun h3 => ?_) (fun h3 => ?_) | with_reducible refine ite_leI (fun h3 => ?_) (fun h3 => ?_) | with_reducible refine ite_gtI (fun h3 => ?_) (fun h3 => ?_) | with_reducible refine ite_geI (fun h3 => ?_) (fun h3 => ?_) | with_reducible refine ite_eqI (fun h3 => ?_) (fun h3 => ?_) | with_reducible refine ite_neI (fun h3 => ?_) (fun h3 => ?_) | with_reducible refine ite_eqS (fun h3 => ?_) (fun h3 => ?_) | with_reducible refine ite_neS (fun h3 => ?_) (fun h3 => ?_) | with_reducible refine ite_dec (fun h3 => ?_) (fun h3 => ?_) | with_reducible refine ite_ndec (fun h3 => ?_) (fun h3 => ?_) | with_reducible refine ite_some (fun i_ h3 => ?_) (fun h3 => ?_) | with_reducible refine ite_nsome (fun h3 => ?_) (fun i_ h3 => ?_) | with_reducible refine ite_cases (fun h3 => ?_) (fun h3 => ?_))
          · repeat (first | with_reducible refine nilck_some ?_ | ((with_reducible refine atLd ?_); first | refine ld_b hs ?_ | refine ld_b (x := ⟨_, _, _⟩) hs ?_ | refine ld_r0 hs ?_ | refine ld_r1 hs ?_ | refine ld_r2 hs ?_ | refine ld_r3 hs ?_ | refine ld_r4 hs ?_ | refine ld_rd0 ha_ hs ?_ | refine ld_rd1 ha_ hs ?_ | refine ld_rd2 ha_ hs ?_ | refine ld_rd3 ha_ hs ?_ | refine ld_rd4 ha_ hs ?_ | fail) | ((with_reducible refine isSt ?_); first | refine st_b hs fun w hs => ?_ | refine st_rec5 hs fun w hs => ?_ | refine st_rec4 hs fun w hs => ?_ | refine st_rec3 hs fun w hs => ?_ | refine st_rec2 hs fun w hs => ?_ | refine st_r0 hs fun w hs => ?_ | refine st_r1 hs fun w hs => ?_ | fail) | ((with_reducible refine isIdx ?_); first | refine idx_s hs fun b_ o_ hs => ?_ | refine idx_a hs ?_ | refine idx_rd hs fun b_ o_ ha_ => ?_ | fail) | ((with_reducible refine isNew ?_); first | refine newB_at hs fun b_ w hs => ?_ | fail) | ((with_reducible refine isLdS ?_); first | refine ldS_b ?_ | refine ldS_b (x := ⟨_, _, _⟩) ?_ | refine ldS_r0 ?_ | refine ldS_r1 ?_ | refine ldS_r2 ?_ | refine ldS_r3 ?_ | refine ldS_rs0 hs ?_ | refine ldS_rs1 hs ?_ | refine ldS_rs2 hs ?_ | refine ldS_rs3 hs ?_ | refine ldS_rd0 ha_ ?_ | refine ldS_rd1 ha_ ?_ | refine ldS_rd2 ha_ ?_ | refine ldS_rd3 ha_ ?_ | fail) | ((with_reducible refine isKeep ?_); first | refine keep_of hs ?_ | refine keep_imp hs ?_ | fail) | ((with_reducible refine isWhen ?_); first | refine when_om ?_ | fail) | ((with_reducible refine isDraw ?_); first | refine drawW_sat hs fun w hs => ?_ | fail))
            refine call2_of (gh_Add hs (by omega) (by omega)) fun e w ⟨he, hs⟩ => ⟨_, _, he, ?_⟩
            repeat (first | with_reducible refine nilck_some ?_ | ((with_reducible refine atLd ?_); first | refine ld_b hs ?_ | refine ld_b (x := ⟨_, _, _⟩) hs ?_ | refine ld_r0 hs ?_ | refine ld_r1 hs ?_ | refine ld_r2 hs ?_ | refine ld_r3 hs ?_ | refine ld_r4 hs ?_ | refine ld_rd0 ha_ hs ?_ | refine ld_rd1 ha_ hs ?_ | refine ld_rd2 ha_ hs ?_ | refine ld_rd3 ha_ hs ?_ | refine ld_rd4 ha_ hs ?_ | fail) | ((with_reducible refine isSt ?_); first | refine st_b hs fun w hs => ?_ | refine st_rec5 hs fun w hs => ?_ | refine st_rec4 hs fun w hs => ?_ | refine st_rec3 hs fun w hs => ?_ | refine st_rec2 hs fun w hs => ?_ | refine st_r0 hs fun w hs => ?_ | refine st_r1 hs fun w hs => ?_ | fail) | ((with_reducible refine isIdx ?_); first | refine idx_s hs fun b_ o_ hs => ?_ | refine idx_a hs ?_ | refine idx_rd hs fun b_ o_ ha_ => ?_ | fail) | ((with_reducible refine isNew ?_); first | refine newB_at hs fun b_ w hs => ?_ | fail) | ((with_reducible refine isLdS ?_); first | refine ldS_b ?_ | refine ldS_b (x := ⟨_, _, _⟩) ?_ | refine ldS_r0 ?_ | refine ldS_r1 ?_ | refine ldS_r2 ?_ | refine ldS_r3 ?_ | refine ldS_rs0 hs ?_ | refine ldS_rs1 hs ?_ | refine ldS_rs2 hs ?_ | refine ldS_rs3 hs ?_ | refine ldS_rd0 ha_ ?_ | refine ldS_rd1 ha_ ?_ | refine ldS_rd2 ha_ ?_ | refine ldS_rd3 ha_ ?_ | fail) | ((with_reducible refine isKeep ?_); first | refine keep_of hs ?_ | refine keep_imp hs ?_ | fail) | ((with_reducible refine isWhen ?_); first | refine when_om ?_ | fail) | ((with_reducible refine isDraw ?_); first | refine drawW_sat hs fun w hs => ?_ | fail))
            refine call2_of (r16_Add (W := W) (M := [ghR b r (i + 1) (gAdd r ks (acts.getD i default).key), old W]) (room := r) (ks := ks) (s := s) (by exact Sat.fin hs) (by omega)) fun e w ⟨he, s2, hs⟩ => ⟨_, _, he, ?_⟩
            refine ite_false (by rw [sEq_eq]; simp) (ite_false (by simp) ?_)
            exact next w s2 _ hs
          · refine drawW_only [old W] hs fun w hs => ?_
            repeat (first | with_reducible refine nilck_some ?_ | ((with_reducible refine atLd ?_); first | refine ld_b hs ?_ | refine ld_b (x := ⟨_, _, _⟩) hs ?_ | refine ld_r0 hs ?_ | refine ld_r1 hs ?_ | refine ld_r2 hs ?_ | refine ld_r3 hs ?_ | refine ld_r4 hs ?_ | refine ld_rd0 ha_ hs ?_ | refine ld_rd1 ha_ hs ?_ | refine ld_rd2 ha_ hs ?_ | refine ld_rd3 ha_ hs ?_ | refine ld_rd4 ha_ hs ?_ | fail) | ((with_reducible refine isSt ?_); first | refine st_b hs fun w hs => ?_ | refine st_rec5 hs fun w hs => ?_ | refine st_rec4 hs fun w hs => ?_ | refine st_rec3 hs fun w hs => ?_ | refine st_rec2 hs fun w hs => ?_ | refine st_r0 hs fun w hs => ?_ | refine st_r1 hs fun w hs => ?_ | fail) | ((with_reducible refine isIdx ?_); first | refine idx_s hs fun b_ o_ hs => ?_ | refine idx_a hs ?_ | refine idx_rd hs fun b_ o_ ha_ => ?_ | fail) | ((with_reducible refine isNew ?_); first | refine newB_at hs fun b_ w hs => ?_ | fail) | ((with_reducible refine isLdS ?_); first | refine ldS_b ?_ | refine ldS_b (x := ⟨_, _, _⟩) ?_ | refine ldS_r0 ?_ | refine ldS_r1 ?_ | refine ldS_r2 ?_ | refine ldS_r3 ?_ | refine ldS_rs0 hs ?_ | refine ldS_rs1 hs ?_ | refine ldS_rs2 hs ?_ | refine ldS_rs3 hs ?_ | refine ldS_rd0 ha_ ?_ | refine ldS_rd1 ha_ ?_ | refine ldS_rd2 ha_ ?_ | refine ldS_rd3 ha_ ?_ | fail) | ((with_reducible refine isKeep ?_); first | refine keep_of hs ?_ | refine keep_imp hs ?_ | fail) | ((with_reducible refine isWhen ?_); first | refine when_om ?_ | fail) | ((with_reducible refine isDraw ?_); first | refine drawW_sat hs fun w hs => ?_ | fail))
            refine call1_of (gh_Take hs (by omega) (by omega)) fun e w ⟨he, hs⟩ => ⟨_, he, ?_⟩
            repeat (first | with_reducible refine nilck_some ?_ | ((with_reducible refine atLd ?_); first | refine ld_b hs ?_ | refine ld_b (x := ⟨_, _, _⟩) hs ?_ | refine ld_r0 hs ?_ | refine ld_r1 hs ?_ | refine ld_r2 hs ?_ | refine ld_r3 hs ?_ | refine ld_r4 hs ?_ | refine ld_rd0 ha_ hs ?_ | refine ld_rd1 ha_ hs ?_ | refine ld_rd2 ha_ hs ?_ | refine ld_rd3 ha_ hs ?_ | refine ld_rd4 ha_ hs ?_ | fail) | ((with_reducible refine isSt ?_); first | refine st_b hs fun w hs => ?_ | refine st_rec5 hs fun w hs => ?_ | refine st_rec4 hs fun w hs => ?_ | refine st_rec3 hs fun w hs => ?_ | refine st_rec2 hs fun w hs => ?_ | refine st_r0 hs fun w hs => ?_ | refine st_r1 hs fun w hs => ?_ | fail) | ((with_reducible refine isIdx ?_); first | refine idx_s hs fun b_ o_ hs => ?_ | refine idx_a hs ?_ | refine idx_rd hs fun b_ o_ ha_ => ?_ | fail) | ((with_reducible refine isNew ?_); first | refine newB_at hs fun b_ w hs => ?_ | fail) | ((with_reducible refine isLdS ?_); first | refine ldS_b ?_ | refine ldS_b (x := ⟨_, _, _⟩) ?_ | refine ldS_r0 ?_ | refine ldS_r1 ?_ | refine ldS_r2 ?_ | refine ldS_r3 ?_ | refine ldS_rs0 hs ?_ | refine ldS_rs1 hs ?_ | refine ldS_rs2 hs ?_ | refine ldS_rs3 hs ?_ | refine ldS_rd0 ha_ ?_ | refine ldS_rd1 ha_ ?_ | refine ldS_rd2 ha_ ?_ | refine ldS_rd3 ha_ ?_ | fail) | ((with_reducible refine isKeep ?_); first | refine keep_of hs ?_ | refine keep_imp hs ?_ | fail) | ((with_reducible refine isWhen ?_); first | refine when_om ?_ | fail) | ((with_reducible refine isDraw ?_); first | refine drawW_sat hs fun w hs => ?_ | fail))
            refine call1_of (r16_Take (W := W) (M := [ghR b r i (gTake ks (acts.getD i default).key), old W]) (room := r) (ks := ks) (s := s) (by exact Sat.fin hs) (by omega)) fun e w ⟨he, s2, hs⟩ => ⟨_, he, ?_⟩
            refine ite_false (by simp) ?_
            have hs : Sat W w (ghR b r i (gTake ks (acts.getD i default).key) :: [blk b2 [.slice s2.a s2.n s2.c, .int .i64 r], recs Rec.str s2 (gTake ks (acts.getD i default).key), old W]) := by exact Sat.fin hs
            obtain ⟨lb, xb, row, free, m, hin, hN, hs⟩ := gh_open hs
            have hs := gh_shut (N := i + 1) hin (by omega) hs
            exact next w s2 _ (by exact Sat.fin hs)
        · exact fin w s i ks (by omega) hs
      · exact fin w s i ks (by omega) hs
  refine ⟨N + 1, ?_⟩
  exact loop N 0 w ⟨none, 0, 0⟩ [] (by omega) hs

set_option maxHeartbeats 1000000 in
set_option maxRecDepth 100000 in
theorem gown_walk {room : Int} {s0 : Sl} {l : List ByteArray} {key : ByteArray} [hr : ReadsR W s0 Rec.str l] : Calls Try.prog id_hoardlaw16_GhostOwn #[.int .i64 room, .slice s0.a s0.n s0.c, .string key] W fun e w' => e = .returned (.bool true) ∧ KeptH W w' := by
  have hs := Sat.begin W
  refine law_of (hoardlaw16_GhostOwn_calls ?_)
  rw [hoardlaw16_GhostOwn_def, hoardlaw16_GhostOwn_raw]
  have hn := rdb_len (s := s0) hs
  (first | with_reducible refine ite_ltI (fun h1 => ?_) (fun h1 => ?_) | with_reducible refine ite_leI (fun h1 => ?_) (fun h1 => ?_) | with_reducible refine ite_gtI (fun h1 => ?_) (fun h1 => ?_) | with_reducible refine ite_geI (fun h1 => ?_) (fun h1 => ?_) | with_reducible refine ite_eqI (fun h1 => ?_) (fun h1 => ?_) | with_reducible refine ite_neI (fun h1 => ?_) (fun h1 => ?_) | with_reducible refine ite_eqS (fun h1 => ?_) (fun h1 => ?_) | with_reducible refine ite_neS (fun h1 => ?_) (fun h1 => ?_) | with_reducible refine ite_dec (fun h1 => ?_) (fun h1 => ?_) | with_reducible refine ite_ndec (fun h1 => ?_) (fun h1 => ?_) | with_reducible refine ite_some (fun i_ h1 => ?_) (fun h1 => ?_) | with_reducible refine ite_nsome (fun h1 => ?_) (fun i_ h1 => ?_) | with_reducible refine ite_cases (fun h1 => ?_) (fun h1 => ?_))
  · exact ⟨rfl, hs⟩
  (first | with_reducible refine ite_ltI (fun h2 => ?_) (fun h2 => ?_) | with_reducible refine ite_leI (fun h2 => ?_) (fun h2 => ?_) | with_reducible refine ite_gtI (fun h2 => ?_) (fun h2 => ?_) | with_reducible refine ite_geI (fun h2 => ?_) (fun h2 => ?_) | with_reducible refine ite_eqI (fun h2 => ?_) (fun h2 => ?_) | with_reducible refine ite_neI (fun h2 => ?_) (fun h2 => ?_) | with_reducible refine ite_eqS (fun h2 => ?_) (fun h2 => ?_) | with_reducible refine ite_neS (fun h2 => ?_) (fun h2 => ?_) | with_reducible refine ite_dec (fun h2 => ?_) (fun h2 => ?_) | with_reducible refine ite_ndec (fun h2 => ?_) (fun h2 => ?_) | with_reducible refine ite_some (fun i_ h2 => ?_) (fun h2 => ?_) | with_reducible refine ite_nsome (fun h2 => ?_) (fun i_ h2 => ?_) | with_reducible refine ite_cases (fun h2 => ?_) (fun h2 => ?_))
  · exact ⟨rfl, hs⟩
  rw [hoardlaw16_GhostOwn_j1_def, hoardlaw16_GhostOwn_j1_raw]
  refine (gh_New hs).mono fun e w ⟨b, he, hs⟩ => ⟨_, he, ite_false rfl ?_⟩
  generalize clampR room = r at hs
  have fin : ∀ w (was k : Sl) (ks js : List ByteArray), Sat W w [recs Rec.str was ks, recs Rec.str k js, ghR b r l.length ks, old W] → hoardlaw16_GhostOwn_j5 idJ (fun v w' => v = .bool true ∧ Sat W w' [old W]) key (some ⟨b, 0, none⟩) was w := by
    intro w was k ks js hs
    have hkl := (gh_inv (b := b) (room := r) (N := l.length) (ks := ks) (M := [recs Rec.str was ks, recs Rec.str k js, old W]) (by exact Sat.fin hs)).2.1
    rw [hoardlaw16_GhostOwn_j5_def, hoardlaw16_GhostOwn_j5_raw]
    refine (gh_Keys hs (by omega)).mono fun e w ⟨k1, he, hs⟩ => ⟨_, he, ?_⟩
    refine call1_of (hoardlaw16_texts_at (a := k1) (b := was) hs (by omega)) fun e w ⟨he, hs⟩ => ⟨_, he, ite_false (by simp) ?_⟩
    refine call1_of (gh_Has hs (by omega)) fun e w ⟨he, hs⟩ => ⟨_, he, ?_⟩
    refine call1_of (gh_Take hs (by omega) (by omega)) fun e w ⟨he, hs⟩ => ⟨_, he, ite_true (by simp) ?_⟩
    have hno : gHas (gTake ks key) key = false := gHas_not.2 fun h => (gTake_mem.1 h).2 rfl
    refine call1_of (gh_Has hs (by omega)) fun e w ⟨he, hs⟩ => ⟨_, he, ite_true (by rw [hno]; rfl) ?_⟩
    refine call1_of (gh_Take hs (by omega) (by omega)) fun e w ⟨he, hs⟩ => ⟨_, he, ite_true (by rw [hno]; rfl) ?_⟩
    exact call1_of (known16 hs) fun e w ⟨he, hs⟩ => ⟨_, he, rfl, by exact Sat.fin hs⟩
  have spoil : ∀ (ks : List ByteArray) (k was : Sl) (f i : Nat) (w : World) (js : List ByteArray), js.length ≤ 300 → i + f = js.length → Sat W w [recs Rec.str was ks, recs Rec.str k js, ghR b r l.length ks, old W] →
      hoardlaw16_GhostOwn_l4 idJ (fun v w' => v = .bool true ∧ Sat W w' [old W]) (f + 1) key (some ⟨b, 0, none⟩) k was (i : Int) w := by
    intro ks k was f
    induction f with
    | zero =>
      intro i w js hjl hi hs
      have hn := rdb_len (s := k) hs
      rw [hoardlaw16_GhostOwn_l4_raw]
      exact ite_false (decide_eq_false (by omega)) (fin w was k ks js hs)
    | succ f ih =>
      intro i w js hjl hi hs
      have hn := rdb_len (s := k) hs
      rw [hoardlaw16_GhostOwn_l4_raw]
      refine ite_true (decide_eq_true (by omega)) ?_
      repeat (first | with_reducible refine nilck_some ?_ | ((with_reducible refine atLd ?_); first | refine ld_b hs ?_ | refine ld_b (x := ⟨_, _, _⟩) hs ?_ | refine ld_r0 hs ?_ | refine ld_r1 hs ?_ | refine ld_r2 hs ?_ | refine ld_r3 hs ?_ | refine ld_r4 hs ?_ | refine ld_rd0 ha_ hs ?_ | refine ld_rd1 ha_ hs ?_ | refine ld_rd2 ha_ hs ?_ | refine ld_rd3 ha_ hs ?_ | refine ld_rd4 ha_ hs ?_ | fail) | ((with_reducible refine isSt ?_); first | refine st_b hs fun w hs => ?_ | refine st_rec5 hs fun w hs => ?_ | refine st_rec4 hs fun w hs => ?_ | refine st_rec3 hs fun w hs => ?_ | refine st_rec2 hs fun w hs => ?_ | refine st_r0 hs fun w hs => ?_ | refine st_r1 hs fun w hs => ?_ | fail) | ((with_reducible refine isIdx ?_); first | refine idx_s hs fun b_ o_ hs => ?_ | refine idx_a hs ?_ | refine idx_rd hs fun b_ o_ ha_ => ?_ | fail) | ((with_reducible refine isNew ?_); first | refine newB_at hs fun b_ w hs => ?_ | fail) | ((with_reducible refine isLdS ?_); first | refine ldS_b ?_ | refine ldS_b (x := ⟨_, _, _⟩) ?_ | refine ldS_r0 ?_ | refine ldS_r1 ?_ | refine ldS_r2 ?_ | refine ldS_r3 ?_ | refine ldS_rs0 hs ?_ | refine ldS_rs1 hs ?_ | refine ldS_rs2 hs ?_ | refine ldS_rs3 hs ?_ | refine ldS_rd0 ha_ ?_ | refine ldS_rd1 ha_ ?_ | refine ldS_rd2 ha_ ?_ | refine ldS_rd3 ha_ ?_ | fail) | ((with_reducible refine isKeep ?_); first | refine keep_of hs ?_ | refine keep_imp hs ?_ | fail) | ((with_reducible refine isWhen ?_); first | refine when_om ?_ | fail) | ((with_reducible refine isDraw ?_); first | refine drawW_sat hs fun w hs => ?_ | fail))
      rw [i64_in _ (by omega)]
      refine ih (i + 1) w _ ?_ ?_ (by exact Sat.fin hs)
      · simp; omega
      · simp; omega
  have loop : ∀ (f i : Nat) (w : World) (ks : List ByteArray), i + f = l.length → Sat W w [ghR b r i ks, old W] → hoardlaw16_GhostOwn_l2 idJ (fun v w' => v = .bool true ∧ Sat W w' [old W]) (f + 1) s0 key (some ⟨b, 0, none⟩) (i : Int) w := by
    intro f
    induction f with
    | zero =>
      intro i w ks hi hs
      have hil : i = l.length := by omega
      rw [hil] at hs
      have hkl := (gh_inv hs).2.1
      rw [hoardlaw16_GhostOwn_l2_raw]
      refine ite_false (decide_eq_false (by omega)) ?_
      rw [hoardlaw16_GhostOwn_j3_def, hoardlaw16_GhostOwn_j3_raw]
      refine (gh_Keys hs (by omega)).mono fun e w ⟨k, he, hs⟩ => ⟨_, he, ?_⟩
      have hk := rdb_len (s := k) hs
      repeat (first | with_reducible refine nilck_some ?_ | ((with_reducible refine atLd ?_); first | refine ld_b hs ?_ | refine ld_b (x := ⟨_, _, _⟩) hs ?_ | refine ld_r0 hs ?_ | refine ld_r1 hs ?_ | refine ld_r2 hs ?_ | refine ld_r3 hs ?_ | refine ld_r4 hs ?_ | refine ld_rd0 ha_ hs ?_ | refine ld_rd1 ha_ hs ?_ | refine ld_rd2 ha_ hs ?_ | refine ld_rd3 ha_ hs ?_ | refine ld_rd4 ha_ hs ?_ | fail) | ((with_reducible refine isSt ?_); first | refine st_b hs fun w hs => ?_ | refine st_rec5 hs fun w hs => ?_ | refine st_rec4 hs fun w hs => ?_ | refine st_rec3 hs fun w hs => ?_ | refine st_rec2 hs fun w hs => ?_ | refine st_r0 hs fun w hs => ?_ | refine st_r1 hs fun w hs => ?_ | fail) | ((with_reducible refine isIdx ?_); first | refine idx_s hs fun b_ o_ hs => ?_ | refine idx_a hs ?_ | refine idx_rd hs fun b_ o_ ha_ => ?_ | fail) | ((with_reducible refine isNew ?_); first | refine newB_at hs fun b_ w hs => ?_ | fail) | ((with_reducible refine isLdS ?_); first | refine ldS_b ?_ | refine ldS_b (x := ⟨_, _, _⟩) ?_ | refine ldS_r0 ?_ | refine ldS_r1 ?_ | refine ldS_r2 ?_ | refine ldS_r3 ?_ | refine ldS_rs0 hs ?_ | refine ldS_rs1 hs ?_ | refine ldS_rs2 hs ?_ | refine ldS_rs3 hs ?_ | refine ldS_rd0 ha_ ?_ | refine ldS_rd1 ha_ ?_ | refine ldS_rd2 ha_ ?_ | refine ldS_rd3 ha_ ?_ | fail) | ((with_reducible refine isKeep ?_); first | refine keep_of hs ?_ | refine keep_imp hs ?_ | fail) | ((with_reducible refine isWhen ?_); first | refine when_om ?_ | fail) | ((with_reducible refine isDraw ?_); first | refine drawW_sat hs fun w hs => ?_ | fail))
      refine app_own hs Rec.str (rows := []) rfl rfl (rd_rdb (s := k) hs) hk (okC_flat _) rfl (by decide) (by simp; omega) fun s2 w hs2 hs => ?_
      refine ⟨ks.length + 1, ?_⟩
      exact spoil ks k s2 _ 0 w ks (by omega) (by omega) (by rw [List.nil_append] at hs; exact hs)
    | succ f ih =>
      intro i w ks hi hs
      rw [hoardlaw16_GhostOwn_l2_raw]
      refine ite_true (decide_eq_true (by omega)) ?_
      repeat (first | with_reducible refine nilck_some ?_ | ((with_reducible refine atLd ?_); first | refine ld_b hs ?_ | refine ld_b (x := ⟨_, _, _⟩) hs ?_ | refine ld_r0 hs ?_ | refine ld_r1 hs ?_ | refine ld_r2 hs ?_ | refine ld_r3 hs ?_ | refine ld_r4 hs ?_ | refine ld_rd0 ha_ hs ?_ | refine ld_rd1 ha_ hs ?_ | refine ld_rd2 ha_ hs ?_ | refine ld_rd3 ha_ hs ?_ | refine ld_rd4 ha_ hs ?_ | fail) | ((with_reducible refine isSt ?_); first | refine st_b hs fun w hs => ?_ | refine st_rec5 hs fun w hs => ?_ | refine st_rec4 hs fun w hs => ?_ | refine st_rec3 hs fun w hs => ?_ | refine st_rec2 hs fun w hs => ?_ | refine st_r0 hs fun w hs => ?_ | refine st_r1 hs fun w hs => ?_ | fail) | ((with_reducible refine isIdx ?_); first | refine idx_s hs fun b_ o_ hs => ?_ | refine idx_a hs ?_ | refine idx_rd hs fun b_ o_ ha_ => ?_ | fail) | ((with_reducible refine isNew ?_); first | refine newB_at hs fun b_ w hs => ?_ | fail) | ((with_reducible refine isLdS ?_); first | refine ldS_b ?_ | refine ldS_b (x := ⟨_, _, _⟩) ?_ | refine ldS_r0 ?_ | refine ldS_r1 ?_ | refine ldS_r2 ?_ | refine ldS_r3 ?_ | refine ldS_rs0 hs ?_ | refine ldS_rs1 hs ?_ | refine ldS_rs2 hs ?_ | refine ldS_rs3 hs ?_ | refine ldS_rd0 ha_ ?_ | refine ldS_rd1 ha_ ?_ | refine ldS_rd2 ha_ ?_ | refine ldS_rd3 ha_ ?_ | fail) | ((with_reducible refine isKeep ?_); first | refine keep_of hs ?_ | refine keep_imp hs ?_ | fail) | ((with_reducible refine isWhen ?_); first | refine when_om ?_ | fail) | ((with_reducible refine isDraw ?_); first | refine drawW_sat hs fun w hs => ?_ | fail))
      rw [Int.toNat_natCast]
      (first | with_reducible refine ite_ltI (fun h3 => ?_) (fun h3 => ?_) | with_reducible refine ite_leI (fun h3 => ?_) (fun h3 => ?_) | with_reducible refine ite_gtI (fun h3 => ?_) (fun h3 => ?_) | with_reducible refine ite_geI (fun h3 => ?_) (fun h3 => ?_) | with_reducible refine ite_eqI (fun h3 => ?_) (fun h3 => ?_) | with_reducible refine ite_neI (fun h3 => ?_) (fun h3 => ?_) | with_reducible refine ite_eqS (fun h3 => ?_) (fun h3 => ?_) | with_reducible refine ite_neS (fun h3 => ?_) (fun h3 => ?_) | with_reducible refine ite_dec (fun h3 => ?_) (fun h3 => ?_) | with_reducible refine ite_ndec (fun h3 => ?_) (fun h3 => ?_) | with_reducible refine ite_some (fun i_ h3 => ?_) (fun h3 => ?_) | with_reducible refine ite_nsome (fun h3 => ?_) (fun i_ h3 => ?_) | with_reducible refine ite_cases (fun h3 => ?_) (fun h3 => ?_))
      · exact ⟨rfl, by exact Sat.fin hs⟩
      repeat (first | with_reducible refine nilck_some ?_ | ((with_reducible refine atLd ?_); first | refine ld_b hs ?_ | refine ld_b (x := ⟨_, _, _⟩) hs ?_ | refine ld_r0 hs ?_ | refine ld_r1 hs ?_ | refine ld_r2 hs ?_ | refine ld_r3 hs ?_ | refine ld_r4 hs ?_ | refine ld_rd0 ha_ hs ?_ | refine ld_rd1 ha_ hs ?_ | refine ld_rd2 ha_ hs ?_ | refine ld_rd3 ha_ hs ?_ | refine ld_rd4 ha_ hs ?_ | fail) | ((with_reducible refine isSt ?_); first | refine st_b hs fun w hs => ?_ | refine st_rec5 hs fun w hs => ?_ | refine st_rec4 hs fun w hs => ?_ | refine st_rec3 hs fun w hs => ?_ | refine st_rec2 hs fun w hs => ?_ | refine st_r0 hs fun w hs => ?_ | refine st_r1 hs fun w hs => ?_ | fail) | ((with_reducible refine isIdx ?_); first | refine idx_s hs fun b_ o_ hs => ?_ | refine idx_a hs ?_ | refine idx_rd hs fun b_ o_ ha_ => ?_ | fail) | ((with_reducible refine isNew ?_); first | refine newB_at hs fun b_ w hs => ?_ | fail) | ((with_reducible refine isLdS ?_); first | refine ldS_b ?_ | refine ldS_b (x := ⟨_, _, _⟩) ?_ | refine ldS_r0 ?_ | refine ldS_r1 ?_ | refine ldS_r2 ?_ | refine ldS_r3 ?_ | refine ldS_rs0 hs ?_ | refine ldS_rs1 hs ?_ | refine ldS_rs2 hs ?_ | refine ldS_rs3 hs ?_ | refine ldS_rd0 ha_ ?_ | refine ldS_rd1 ha_ ?_ | refine ldS_rd2 ha_ ?_ | refine ldS_rd3 ha_ ?_ | fail) | ((with_reducible refine isKeep ?_); first | refine keep_of hs ?_ | refine keep_imp hs ?_ | fail) | ((with_reducible refine isWhen ?_); first | refine when_om ?_ | fail) | ((with_reducible refine isDraw ?_); first | refine drawW_sat hs fun w hs => ?_ | fail))
      refine call2_of (gh_Add hs (by omega) (by omega)) fun e w ⟨he, hs⟩ => ⟨_, _, he, ?_⟩
      rw [i64_in _ (by omega)]
      exact ih (i + 1) w _ (by omega) hs
  exact ⟨l.length + 1, loop l.length 0 w [] (by omega) hs⟩
end
end Go.Proofs.Ytldohdiphcnjgaa
