/- hoardlaw27: heavy, long, known; judge.Wrong, hoardref27.Wrong. -/
import Derived.Test.YtnmlaenfaiacfaaJudge3
set_option linter.unusedVariables false
set_option linter.unusedSimpArgs false
set_option linter.unnecessarySimpa false
set_option linter.unusedSectionVars false
namespace Go.Hb
structure InOk (W : World) (ops : List OpV) (rs : List Ans) : Prop where
  key : ∀ i, i < ops.length → i < 120 → (ops.getD i default).key.size ≤ 40
  opn : ∀ i, i < ops.length → okK .i64 (ops.getD i default).n
  len : ∀ i, i < rs.length → i < 120 → (rs.getD i default).gone.length ≤ 30
  gone : ∀ i, i < rs.length → i < 120 → ∀ g ∈ (rs.getD i default).gone, g.size ≤ 40
  rd : ∀ i, i < rs.length → ReadsR0 W (rs.getD i default).sl Rec.str (rs.getD i default).gone
theorem getD_mem {α : Type} [Inhabited α] {l : List α} {i : Nat} (h : i < l.length) : l.getD i default ∈ l := by
  rw [List.getD_eq_getElem?_getD, List.getElem?_eq_getElem h]; exact List.getElem_mem h
theorem drop_getD {α : Type} [Inhabited α] {l : List α} {i : Nat} (h : i < l.length) : l.drop i = l.getD i default :: l.drop (i + 1) := by
  rw [List.drop_eq_getElem_cons h, List.getD_eq_getElem?_getD, List.getElem?_eq_getElem h]; rfl
theorem jWrong_step {sh : Int} {s : JS} {ops : List OpV} {rs : List Ans} {i : Nat} (h1 : i < ops.length) (h2 : i < rs.length) : jWrong sh i s (ops.drop i) (rs.drop i) =
    if jSays sh s (ops.getD i default) (rs.getD i default).err (rs.getD i default).hit (rs.getD i default).val (rs.getD i default).gone then jWrong sh (i + 1) (jNext s (ops.getD i default) (rs.getD i default).err (rs.getD i default).gone) (ops.drop (i + 1)) (rs.drop (i + 1)) else (i : Int) := by
  rw [drop_getD h1, drop_getD h2, jWrong]
theorem jWrong_end {sh : Int} {s : JS} {ops : List OpV} {rs : List Ans} {i : Nat} (h : ops.length ≤ i ∨ rs.length ≤ i) : jWrong sh i s (ops.drop i) (rs.drop i) = -1 := by
  rcases h with h | h
  · rw [List.drop_eq_nil_of_le h]; unfold jWrong; rfl
  · rw [List.drop_eq_nil_of_le h]; cases ops.drop i <;> (unfold jWrong; rfl)
theorem JOk.new {room : Int} (h : okK .i64 room) : JOk ⟨[], 0, room⟩ := ⟨⟨by simp [RiseM, Rising], by simp, by simp⟩, Int.le_refl 0, (by show (0 : Int) ≤ 1125899906842624; decide), h⟩
end Go.Hb
namespace Go.Proofs.Ytnmlaenfaiacfaa
open Go.Hb Go.IntWalk
section
variable {W w : World} {L M : List HP} {F : HP → List HP} {b sb : Nat} {sh room err kind : Int} {s : JS} {hit : Bool} {val k q : ByteArray} {o : OpV} {sl s0 s1 : Sl} {gone ks : List ByteArray} {ops : List OpV} {rs : List Ans}
theorem heavy27 [hr : Rdb W L s0 opR ops] (hs : Sat W w L) : Calls Try.prog id_hoardlaw27_heavy #[.slice s0.a s0.n s0.c] w fun e w' => ∃ b : Bool, e = .returned (.bool b) ∧ (b = false → ∀ i, i < ops.length → i < 120 → (ops.getD i default).key.size ≤ 40) ∧ Sat W w' L := by
  refine (hoardlaw27_heavy_calls (Q := fun v w' => ∃ b : Bool, v = .bool b ∧ (b = false → ∀ i, i < ops.length → i < 120 → (ops.getD i default).key.size ≤ 40) ∧ Sat W w' L) ?_).mono fun e w' ⟨v, he, b, hv, hs⟩ => ⟨b, by rw [he, hv], hs⟩
  rw [hoardlaw27_heavy_def, hoardlaw27_heavy_raw]
  obtain ⟨N, hN⟩ : ∃ N : Nat, N = 121 := ⟨_, rfl⟩
  have loop : ∀ (m i : Nat) (w : World), i + m = N → (∀ j, j < i → j < ops.length → (ops.getD j default).key.size ≤ 40) → Sat W w L → hoardlaw27_heavy_l1 idJ (fun v w' => ∃ b : Bool, v = .bool b ∧ (b = false → ∀ i, i < ops.length → i < 120 → (ops.getD i default).key.size ≤ 40) ∧ Sat W w' L) (m + 1) s0 (i : Int) w := by
    intro m
    induction m with
    | zero =>
      intro i w hi hp hs
      have hn := rdb_len (s := s0) hs
      rw [hoardlaw27_heavy_l1_raw]
      (first | with_reducible refine ite_ltI (fun h1 => ?_) (fun h1 => ?_) | with_reducible refine ite_leI (fun h1 => ?_) (fun h1 => ?_) | with_reducible refine ite_gtI (fun h1 => ?_) (fun h1 => ?_) | with_reducible refine ite_geI (fun h1 => ?_) (fun h1 => ?_) | with_reducible refine ite_eqI (fun h1 => ?_) (fun h1 => ?_) | with_reducible refine ite_neI (fun h1 => ?_) (fun h1 => ?_) | with_reducible refine ite_eqS (fun h1 => ?_) (fun h1 => ?_) | with_reducible refine ite_neS (fun h1 => ?_) (fun h1 => ?_) | with_reducible refine ite_dec (fun h1 => ?_) (fun h1 => ?_) | with_reducible refine ite_ndec (fun h1 => ?_) (fun h1 => ?_) | with_reducible refine ite_some (fun i_ h1 => ?_) (fun h1 => ?_) | with_reducible refine ite_nsome (fun h1 => ?_) (fun i_ h1 => ?_) | with_reducible refine ite_cases (fun h1 => ?_) (fun h1 => ?_))
      · with_reducible refine ite_ltI (fun h2 => absurd h2 (by omega)) (fun h2 => ?_)
        rw [hoardlaw27_heavy_j3_def, hoardlaw27_heavy_j3_raw]
        exact ⟨_, rfl, fun _ j hj hj2 => hp j (by omega) hj, hs⟩
      · rw [hoardlaw27_heavy_j3_def, hoardlaw27_heavy_j3_raw]
        exact ⟨_, rfl, fun _ j hj hj2 => hp j (by omega) hj, hs⟩
    | succ m ih =>
      intro i w hi hp hs
      have hn := rdb_len (s := s0) hs
      rw [hoardlaw27_heavy_l1_raw]
      (first | with_reducible refine ite_ltI (fun h1 => ?_) (fun h1 => ?_) | with_reducible refine ite_leI (fun h1 => ?_) (fun h1 => ?_) | with_reducible refine ite_gtI (fun h1 => ?_) (fun h1 => ?_) | with_reducible refine ite_geI (fun h1 => ?_) (fun h1 => ?_) | with_reducible refine ite_eqI (fun h1 => ?_) (fun h1 => ?_) | with_reducible refine ite_neI (fun h1 => ?_) (fun h1 => ?_) | with_reducible refine ite_eqS (fun h1 => ?_) (fun h1 => ?_) | with_reducible refine ite_neS (fun h1 => ?_) (fun h1 => ?_) | with_reducible refine ite_dec (fun h1 => ?_) (fun h1 => ?_) | with_reducible refine ite_ndec (fun h1 => ?_) (fun h1 => ?_) | with_reducible refine ite_some (fun i_ h1 => ?_) (fun h1 => ?_) | with_reducible refine ite_nsome (fun h1 => ?_) (fun i_ h1 => ?_) | with_reducible refine ite_cases (fun h1 => ?_) (fun h1 => ?_))
      · (first | with_reducible refine ite_ltI (fun h2 => ?_) (fun h2 => ?_) | with_reducible refine ite_leI (fun h2 => ?_) (fun h2 => ?_) | with_reducible refine ite_gtI (fun h2 => ?_) (fun h2 => ?_) | with_reducible refine ite_geI (fun h2 => ?_) (fun h2 => ?_) | with_reducible refine ite_eqI (fun h2 => ?_) (fun h2 => ?_) | with_reducible refine ite_neI (fun h2 => ?_) (fun h2 => ?_) | with_reducible refine ite_eqS (fun h2 => ?_) (fun h2 => ?_) | with_reducible refine ite_neS (fun h2 => ?_) (fun h2 => ?_) | with_reducible refine ite_dec (fun h2 => ?_) (fun h2 => ?_) | with_reducible refine ite_ndec (fun h2 => ?_) (fun h2 => ?_) | with_reducible refine ite_some (fun i_ h2 => ?_) (fun h2 => ?_) | with_reducible refine ite_nsome (fun h2 => ?_) (fun i_ h2 => ?_) | with_reducible refine ite_cases (fun h2 => ?_) (fun h2 => ?_))
        · rw [hoardlaw27_heavy_j2_def, hoardlaw27_heavy_j2_raw]
          repeat (first | with_reducible refine nilck_some ?_ | ((with_reducible refine atLd ?_); first | refine ld_b hs ?_ | refine ld_b (x := ⟨_, _, _⟩) hs ?_ | refine ld_r0 hs ?_ | refine ld_r1 hs ?_ | refine ld_r2 hs ?_ | refine ld_r3 hs ?_ | refine ld_r4 hs ?_ | refine ld_rd0 ha_ hs ?_ | refine ld_rd1 ha_ hs ?_ | refine ld_rd2 ha_ hs ?_ | refine ld_rd3 ha_ hs ?_ | refine ld_rd4 ha_ hs ?_ | refine ld_rd5 ha_ hs ?_ | fail) | ((with_reducible refine isSt ?_); first | refine st_b hs fun w hs => ?_ | refine st_rec5 hs fun w hs => ?_ | refine st_rec4 hs fun w hs => ?_ | refine st_rec3 hs fun w hs => ?_ | refine st_rec2 hs fun w hs => ?_ | refine st_r0 hs fun w hs => ?_ | refine st_r1 hs fun w hs => ?_ | fail) | ((with_reducible refine isIdx ?_); first | refine idx_s hs fun b_ o_ hs => ?_ | refine idx_a hs ?_ | refine idx_rd hs fun b_ o_ ha_ => ?_ | fail) | ((with_reducible refine isNew ?_); first | refine newB_at hs fun b_ w hs => ?_ | fail) | ((with_reducible refine isLdS ?_); first | refine ldS_b ?_ | refine ldS_b (x := ⟨_, _, _⟩) ?_ | refine ldS_r0 ?_ | refine ldS_r1 ?_ | refine ldS_r2 ?_ | refine ldS_r3 ?_ | refine ldS_rs0 hs ?_ | refine ldS_rs1 hs ?_ | refine ldS_rs2 hs ?_ | refine ldS_rs3 hs ?_ | refine ldS_rd0 ha_ ?_ | refine ldS_rd1 ha_ ?_ | refine ldS_rd2 ha_ ?_ | refine ldS_rd3 ha_ ?_ | refine ldS_rd4 ha_ ?_ | refine ldS_rd5 ha_ ?_ | fail) | ((with_reducible refine isKeep ?_); first | refine keep_of hs ?_ | refine keep_imp hs ?_ | fail) | ((with_reducible refine isWhen ?_); first | refine when_om ?_ | fail) | ((with_reducible refine isDraw ?_); first | refine drawW_sat hs fun w hs => ?_ | fail))
          rw [Int.toNat_natCast]
          (first | with_reducible refine ite_ltI (fun h3 => ?_) (fun h3 => ?_) | with_reducible refine ite_leI (fun h3 => ?_) (fun h3 => ?_) | with_reducible refine ite_gtI (fun h3 => ?_) (fun h3 => ?_) | with_reducible refine ite_geI (fun h3 => ?_) (fun h3 => ?_) | with_reducible refine ite_eqI (fun h3 => ?_) (fun h3 => ?_) | with_reducible refine ite_neI (fun h3 => ?_) (fun h3 => ?_) | with_reducible refine ite_eqS (fun h3 => ?_) (fun h3 => ?_) | with_reducible refine ite_neS (fun h3 => ?_) (fun h3 => ?_) | with_reducible refine ite_dec (fun h3 => ?_) (fun h3 => ?_) | with_reducible refine ite_ndec (fun h3 => ?_) (fun h3 => ?_) | with_reducible refine ite_some (fun i_ h3 => ?_) (fun h3 => ?_) | with_reducible refine ite_nsome (fun h3 => ?_) (fun i_ h3 => ?_) | with_reducible refine ite_cases (fun h3 => ?_) (fun h3 => ?_))
          · exact ⟨_, rfl, (fun h => by cases h), hs⟩
          · repeat (first | with_reducible refine nilck_some ?_ | ((with_reducible refine atLd ?_); first | refine ld_b hs ?_ | refine ld_b (x := ⟨_, _, _⟩) hs ?_ | refine ld_r0 hs ?_ | refine ld_r1 hs ?_ | refine ld_r2 hs ?_ | refine ld_r3 hs ?_ | refine ld_r4 hs ?_ | refine ld_rd0 ha_ hs ?_ | refine ld_rd1 ha_ hs ?_ | refine ld_rd2 ha_ hs ?_ | refine ld_rd3 ha_ hs ?_ | refine ld_rd4 ha_ hs ?_ | refine ld_rd5 ha_ hs ?_ | fail) | ((with_reducible refine isSt ?_); first | refine st_b hs fun w hs => ?_ | refine st_rec5 hs fun w hs => ?_ | refine st_rec4 hs fun w hs => ?_ | refine st_rec3 hs fun w hs => ?_ | refine st_rec2 hs fun w hs => ?_ | refine st_r0 hs fun w hs => ?_ | refine st_r1 hs fun w hs => ?_ | fail) | ((with_reducible refine isIdx ?_); first | refine idx_s hs fun b_ o_ hs => ?_ | refine idx_a hs ?_ | refine idx_rd hs fun b_ o_ ha_ => ?_ | fail) | ((with_reducible refine isNew ?_); first | refine newB_at hs fun b_ w hs => ?_ | fail) | ((with_reducible refine isLdS ?_); first | refine ldS_b ?_ | refine ldS_b (x := ⟨_, _, _⟩) ?_ | refine ldS_r0 ?_ | refine ldS_r1 ?_ | refine ldS_r2 ?_ | refine ldS_r3 ?_ | refine ldS_rs0 hs ?_ | refine ldS_rs1 hs ?_ | refine ldS_rs2 hs ?_ | refine ldS_rs3 hs ?_ | refine ldS_rd0 ha_ ?_ | refine ldS_rd1 ha_ ?_ | refine ldS_rd2 ha_ ?_ | refine ldS_rd3 ha_ ?_ | refine ldS_rd4 ha_ ?_ | refine ldS_rd5 ha_ ?_ | fail) | ((with_reducible refine isKeep ?_); first | refine keep_of hs ?_ | refine keep_imp hs ?_ | fail) | ((with_reducible refine isWhen ?_); first | refine when_om ?_ | fail) | ((with_reducible refine isDraw ?_); first | refine drawW_sat hs fun w hs => ?_ | fail))
            (first | with_reducible refine ite_ltI (fun h4 => ?_) (fun h4 => ?_) | with_reducible refine ite_leI (fun h4 => ?_) (fun h4 => ?_) | with_reducible refine ite_gtI (fun h4 => ?_) (fun h4 => ?_) | with_reducible refine ite_geI (fun h4 => ?_) (fun h4 => ?_) | with_reducible refine ite_eqI (fun h4 => ?_) (fun h4 => ?_) | with_reducible refine ite_neI (fun h4 => ?_) (fun h4 => ?_) | with_reducible refine ite_eqS (fun h4 => ?_) (fun h4 => ?_) | with_reducible refine ite_neS (fun h4 => ?_) (fun h4 => ?_) | with_reducible refine ite_dec (fun h4 => ?_) (fun h4 => ?_) | with_reducible refine ite_ndec (fun h4 => ?_) (fun h4 => ?_) | with_reducible refine ite_some (fun i_ h4 => ?_) (fun h4 => ?_) | with_reducible refine ite_nsome (fun h4 => ?_) (fun i_ h4 => ?_) | with_reducible refine ite_cases (fun h4 => ?_) (fun h4 => ?_))
            · exact ⟨_, rfl, (fun h => by cases h), hs⟩
            rw [i64_in _ (by omega)]
            refine ih (i + 1) w (by omega) (fun j hj hj2 => ?_) hs
            by_cases hji : j = i
            · subst hji; omega
            · exact hp j (by omega) hj2
        · rw [hoardlaw27_heavy_j3_def, hoardlaw27_heavy_j3_raw]
          exact ⟨_, rfl, fun _ j hj hj2 => hp j (by omega) hj, hs⟩
      · rw [hoardlaw27_heavy_j3_def, hoardlaw27_heavy_j3_raw]
        exact ⟨_, rfl, fun _ j hj hj2 => hp j (by omega) hj, hs⟩
  refine ⟨N + 1, ?_⟩
  exact loop N 0 w (by omega) (fun j hj => by omega) hs
set_option maxRecDepth 100000 in
theorem long27 [hO : AtO L W] [hr : ReadsR W s1 ansR rs] (hok : ∀ a ∈ rs, AnsOk W a) (hs : Sat W w L) : Calls Try.prog id_hoardlaw27_long #[.slice s1.a s1.n s1.c] w fun e w' => ∃ b : Bool, e = .returned (.bool b) ∧ (b = false → ∀ i, i < rs.length → i < 120 → (rs.getD i default).gone.length ≤ 30 ∧ ∀ g ∈ (rs.getD i default).gone, g.size ≤ 40) ∧ Sat W w' L := by
  obtain ⟨Q, hQ⟩ : ∃ Q : Value → WP, Q = (fun v w' => ∃ b : Bool, v = .bool b ∧ (b = false → ∀ i, i < rs.length → i < 120 → (rs.getD i default).gone.length ≤ 30 ∧ ∀ g ∈ (rs.getD i default).gone, g.size ≤ 40) ∧ Sat W w' L) := ⟨_, rfl⟩
  refine (hoardlaw27_long_calls (Q := Q) ?_).mono fun e w' h => by rw [hQ] at h; obtain ⟨v, he, b, hv, hs⟩ := h; exact ⟨b, by rw [he, hv], hs⟩
  rw [hoardlaw27_long_def, hoardlaw27_long_raw]
  obtain ⟨N, hN⟩ : ∃ N : Nat, N = 121 := ⟨_, rfl⟩
  have tru : ∀ w, Sat W w L → Q (.bool true) w := fun w hs => by rw [hQ]; exact ⟨_, rfl, (fun h => by cases h), hs⟩
  have fin : ∀ (w : World) (i : Nat), (rs.length ≤ i ∨ 120 ≤ i) → (∀ j, j < i → j < rs.length → (rs.getD j default).gone.length ≤ 30 ∧ ∀ g ∈ (rs.getD j default).gone, g.size ≤ 40) → Sat W w L → hoardlaw27_long_j6 idJ Q w := by
    intro w i h hp hs
    rw [hoardlaw27_long_j6_def, hoardlaw27_long_j6_raw, hQ]
    exact ⟨_, rfl, fun _ j hj hj2 => hp j (by omega) hj, hs⟩
  have loop : ∀ (m i : Nat) (w : World), i + m = N → (∀ j, j < i → j < rs.length → (rs.getD j default).gone.length ≤ 30 ∧ ∀ g ∈ (rs.getD j default).gone, g.size ≤ 40) → Sat W w L → hoardlaw27_long_l1 idJ Q (m + 1) s1 (i : Int) w := by
    intro m
    induction m with
    | zero =>
      intro i w hi hp hs
      have hn := rdb_len (s := s1) hs
      rw [hoardlaw27_long_l1_raw]
      (first | with_reducible refine ite_ltI (fun h1 => ?_) (fun h1 => ?_) | with_reducible refine ite_leI (fun h1 => ?_) (fun h1 => ?_) | with_reducible refine ite_gtI (fun h1 => ?_) (fun h1 => ?_) | with_reducible refine ite_geI (fun h1 => ?_) (fun h1 => ?_) | with_reducible refine ite_eqI (fun h1 => ?_) (fun h1 => ?_) | with_reducible refine ite_neI (fun h1 => ?_) (fun h1 => ?_) | with_reducible refine ite_eqS (fun h1 => ?_) (fun h1 => ?_) | with_reducible refine ite_neS (fun h1 => ?_) (fun h1 => ?_) | with_reducible refine ite_dec (fun h1 => ?_) (fun h1 => ?_) | with_reducible refine ite_ndec (fun h1 => ?_) (fun h1 => ?_) | with_reducible refine ite_some (fun i_ h1 => ?_) (fun h1 => ?_) | with_reducible refine ite_nsome (fun h1 => ?_) (fun i_ h1 => ?_) | with_reducible refine ite_cases (fun h1 => ?_) (fun h1 => ?_))
      · with_reducible refine ite_ltI (fun h2 => absurd h2 (by omega)) (fun h2 => ?_)
        exact fin w i (by omega) hp hs
      · exact fin w i (by omega) hp hs
    | succ m ih =>
      intro i w hi hp hs
      have hn := rdb_len (s := s1) hs
      rw [hoardlaw27_long_l1_raw]
      (first | with_reducible refine ite_ltI (fun h1 => ?_) (fun h1 => ?_) | with_reducible refine ite_leI (fun h1 => ?_) (fun h1 => ?_) | with_reducible refine ite_gtI (fun h1 => ?_) (fun h1 => ?_) | with_reducible refine ite_geI (fun h1 => ?_) (fun h1 => ?_) | with_reducible refine ite_eqI (fun h1 => ?_) (fun h1 => ?_) | with_reducible refine ite_neI (fun h1 => ?_) (fun h1 => ?_) | with_reducible refine ite_eqS (fun h1 => ?_) (fun h1 => ?_) | with_reducible refine ite_neS (fun h1 => ?_) (fun h1 => ?_) | with_reducible refine ite_dec (fun h1 => ?_) (fun h1 => ?_) | with_reducible refine ite_ndec (fun h1 => ?_) (fun h1 => ?_) | with_reducible refine ite_some (fun i_ h1 => ?_) (fun h1 => ?_) | with_reducible refine ite_nsome (fun h1 => ?_) (fun i_ h1 => ?_) | with_reducible refine ite_cases (fun h1 => ?_) (fun h1 => ?_))
      · (first | with_reducible refine ite_ltI (fun h2 => ?_) (fun h2 => ?_) | with_reducible refine ite_leI (fun h2 => ?_) (fun h2 => ?_) | with_reducible refine ite_gtI (fun h2 => ?_) (fun h2 => ?_) | with_reducible refine ite_geI (fun h2 => ?_) (fun h2 => ?_) | with_reducible refine ite_eqI (fun h2 => ?_) (fun h2 => ?_) | with_reducible refine ite_neI (fun h2 => ?_) (fun h2 => ?_) | with_reducible refine ite_eqS (fun h2 => ?_) (fun h2 => ?_) | with_reducible refine ite_neS (fun h2 => ?_) (fun h2 => ?_) | with_reducible refine ite_dec (fun h2 => ?_) (fun h2 => ?_) | with_reducible refine ite_ndec (fun h2 => ?_) (fun h2 => ?_) | with_reducible refine ite_some (fun i_ h2 => ?_) (fun h2 => ?_) | with_reducible refine ite_nsome (fun h2 => ?_) (fun i_ h2 => ?_) | with_reducible refine ite_cases (fun h2 => ?_) (fun h2 => ?_))
        · rw [hoardlaw27_long_j2_def, hoardlaw27_long_j2_raw]
          repeat (first | with_reducible refine nilck_some ?_ | ((with_reducible refine atLd ?_); first | refine ld_b hs ?_ | refine ld_b (x := ⟨_, _, _⟩) hs ?_ | refine ld_r0 hs ?_ | refine ld_r1 hs ?_ | refine ld_r2 hs ?_ | refine ld_r3 hs ?_ | refine ld_r4 hs ?_ | refine ld_rd0 ha_ hs ?_ | refine ld_rd1 ha_ hs ?_ | refine ld_rd2 ha_ hs ?_ | refine ld_rd3 ha_ hs ?_ | refine ld_rd4 ha_ hs ?_ | refine ld_rd5 ha_ hs ?_ | fail) | ((with_reducible refine isSt ?_); first | refine st_b hs fun w hs => ?_ | refine st_rec5 hs fun w hs => ?_ | refine st_rec4 hs fun w hs => ?_ | refine st_rec3 hs fun w hs => ?_ | refine st_rec2 hs fun w hs => ?_ | refine st_r0 hs fun w hs => ?_ | refine st_r1 hs fun w hs => ?_ | fail) | ((with_reducible refine isIdx ?_); first | refine idx_s hs fun b_ o_ hs => ?_ | refine idx_a hs ?_ | refine idx_rd hs fun b_ o_ ha_ => ?_ | fail) | ((with_reducible refine isNew ?_); first | refine newB_at hs fun b_ w hs => ?_ | fail) | ((with_reducible refine isLdS ?_); first | refine ldS_b ?_ | refine ldS_b (x := ⟨_, _, _⟩) ?_ | refine ldS_r0 ?_ | refine ldS_r1 ?_ | refine ldS_r2 ?_ | refine ldS_r3 ?_ | refine ldS_rs0 hs ?_ | refine ldS_rs1 hs ?_ | refine ldS_rs2 hs ?_ | refine ldS_rs3 hs ?_ | refine ldS_rd0 ha_ ?_ | refine ldS_rd1 ha_ ?_ | refine ldS_rd2 ha_ ?_ | refine ldS_rd3 ha_ ?_ | refine ldS_rd4 ha_ ?_ | refine ldS_rd5 ha_ ?_ | fail) | ((with_reducible refine isKeep ?_); first | refine keep_of hs ?_ | refine keep_imp hs ?_ | fail) | ((with_reducible refine isWhen ?_); first | refine when_om ?_ | fail) | ((with_reducible refine isDraw ?_); first | refine drawW_sat hs fun w hs => ?_ | fail))
          rw [Int.toNat_natCast]
          have hil : i < rs.length := by omega
          have hrd := (hok _ (getD_mem hil)).rd
          have hlen := hrd.1
          (first | with_reducible refine ite_ltI (fun h3 => ?_) (fun h3 => ?_) | with_reducible refine ite_leI (fun h3 => ?_) (fun h3 => ?_) | with_reducible refine ite_gtI (fun h3 => ?_) (fun h3 => ?_) | with_reducible refine ite_geI (fun h3 => ?_) (fun h3 => ?_) | with_reducible refine ite_eqI (fun h3 => ?_) (fun h3 => ?_) | with_reducible refine ite_neI (fun h3 => ?_) (fun h3 => ?_) | with_reducible refine ite_eqS (fun h3 => ?_) (fun h3 => ?_) | with_reducible refine ite_neS (fun h3 => ?_) (fun h3 => ?_) | with_reducible refine ite_dec (fun h3 => ?_) (fun h3 => ?_) | with_reducible refine ite_ndec (fun h3 => ?_) (fun h3 => ?_) | with_reducible refine ite_some (fun i_ h3 => ?_) (fun h3 => ?_) | with_reducible refine ite_nsome (fun h3 => ?_) (fun i_ h3 => ?_) | with_reducible refine ite_cases (fun h3 => ?_) (fun h3 => ?_))
          · exact tru w hs
          repeat (first | with_reducible refine nilck_some ?_ | ((with_reducible refine atLd ?_); first | refine ld_b hs ?_ | refine ld_b (x := ⟨_, _, _⟩) hs ?_ | refine ld_r0 hs ?_ | refine ld_r1 hs ?_ | refine ld_r2 hs ?_ | refine ld_r3 hs ?_ | refine ld_r4 hs ?_ | refine ld_rd0 ha_ hs ?_ | refine ld_rd1 ha_ hs ?_ | refine ld_rd2 ha_ hs ?_ | refine ld_rd3 ha_ hs ?_ | refine ld_rd4 ha_ hs ?_ | refine ld_rd5 ha_ hs ?_ | fail) | ((with_reducible refine isSt ?_); first | refine st_b hs fun w hs => ?_ | refine st_rec5 hs fun w hs => ?_ | refine st_rec4 hs fun w hs => ?_ | refine st_rec3 hs fun w hs => ?_ | refine st_rec2 hs fun w hs => ?_ | refine st_r0 hs fun w hs => ?_ | refine st_r1 hs fun w hs => ?_ | fail) | ((with_reducible refine isIdx ?_); first | refine idx_s hs fun b_ o_ hs => ?_ | refine idx_a hs ?_ | refine idx_rd hs fun b_ o_ ha_ => ?_ | fail) | ((with_reducible refine isNew ?_); first | refine newB_at hs fun b_ w hs => ?_ | fail) | ((with_reducible refine isLdS ?_); first | refine ldS_b ?_ | refine ldS_b (x := ⟨_, _, _⟩) ?_ | refine ldS_r0 ?_ | refine ldS_r1 ?_ | refine ldS_r2 ?_ | refine ldS_r3 ?_ | refine ldS_rs0 hs ?_ | refine ldS_rs1 hs ?_ | refine ldS_rs2 hs ?_ | refine ldS_rs3 hs ?_ | refine ldS_rd0 ha_ ?_ | refine ldS_rd1 ha_ ?_ | refine ldS_rd2 ha_ ?_ | refine ldS_rd3 ha_ ?_ | refine ldS_rd4 ha_ ?_ | refine ldS_rd5 ha_ ?_ | fail) | ((with_reducible refine isKeep ?_); first | refine keep_of hs ?_ | refine keep_imp hs ?_ | fail) | ((with_reducible refine isWhen ?_); first | refine when_om ?_ | fail) | ((with_reducible refine isDraw ?_); first | refine drawW_sat hs fun w hs => ?_ | fail))
          (first | with_reducible refine ite_ltI (fun h4 => ?_) (fun h4 => ?_) | with_reducible refine ite_leI (fun h4 => ?_) (fun h4 => ?_) | with_reducible refine ite_gtI (fun h4 => ?_) (fun h4 => ?_) | with_reducible refine ite_geI (fun h4 => ?_) (fun h4 => ?_) | with_reducible refine ite_eqI (fun h4 => ?_) (fun h4 => ?_) | with_reducible refine ite_neI (fun h4 => ?_) (fun h4 => ?_) | with_reducible refine ite_eqS (fun h4 => ?_) (fun h4 => ?_) | with_reducible refine ite_neS (fun h4 => ?_) (fun h4 => ?_) | with_reducible refine ite_dec (fun h4 => ?_) (fun h4 => ?_) | with_reducible refine ite_ndec (fun h4 => ?_) (fun h4 => ?_) | with_reducible refine ite_some (fun i_ h4 => ?_) (fun h4 => ?_) | with_reducible refine ite_nsome (fun h4 => ?_) (fun i_ h4 => ?_) | with_reducible refine ite_cases (fun h4 => ?_) (fun h4 => ?_))
          · exact tru w hs
          rw [hoardlaw27_long_j3_def, hoardlaw27_long_j3_raw]
          have inner : ∀ (g k : Nat) (w : World), k + g = (rs.getD i default).gone.length → (∀ c, c < k → ((rs.getD i default).gone.getD c default).size ≤ 40) → Sat W w L → hoardlaw27_long_l4 idJ Q (m + 1) (g + 1) s1 (i : Int) (k : Int) w := by
            intro g
            induction g with
            | zero =>
              intro k w hk hp2 hs
              rw [hoardlaw27_long_l4_raw]
              repeat (first | with_reducible refine nilck_some ?_ | ((with_reducible refine atLd ?_); first | refine ld_b hs ?_ | refine ld_b (x := ⟨_, _, _⟩) hs ?_ | refine ld_r0 hs ?_ | refine ld_r1 hs ?_ | refine ld_r2 hs ?_ | refine ld_r3 hs ?_ | refine ld_r4 hs ?_ | refine ld_rd0 ha_ hs ?_ | refine ld_rd1 ha_ hs ?_ | refine ld_rd2 ha_ hs ?_ | refine ld_rd3 ha_ hs ?_ | refine ld_rd4 ha_ hs ?_ | refine ld_rd5 ha_ hs ?_ | fail) | ((with_reducible refine isSt ?_); first | refine st_b hs fun w hs => ?_ | refine st_rec5 hs fun w hs => ?_ | refine st_rec4 hs fun w hs => ?_ | refine st_rec3 hs fun w hs => ?_ | refine st_rec2 hs fun w hs => ?_ | refine st_r0 hs fun w hs => ?_ | refine st_r1 hs fun w hs => ?_ | fail) | ((with_reducible refine isIdx ?_); first | refine idx_s hs fun b_ o_ hs => ?_ | refine idx_a hs ?_ | refine idx_rd hs fun b_ o_ ha_ => ?_ | fail) | ((with_reducible refine isNew ?_); first | refine newB_at hs fun b_ w hs => ?_ | fail) | ((with_reducible refine isLdS ?_); first | refine ldS_b ?_ | refine ldS_b (x := ⟨_, _, _⟩) ?_ | refine ldS_r0 ?_ | refine ldS_r1 ?_ | refine ldS_r2 ?_ | refine ldS_r3 ?_ | refine ldS_rs0 hs ?_ | refine ldS_rs1 hs ?_ | refine ldS_rs2 hs ?_ | refine ldS_rs3 hs ?_ | refine ldS_rd0 ha_ ?_ | refine ldS_rd1 ha_ ?_ | refine ldS_rd2 ha_ ?_ | refine ldS_rd3 ha_ ?_ | refine ldS_rd4 ha_ ?_ | refine ldS_rd5 ha_ ?_ | fail) | ((with_reducible refine isKeep ?_); first | refine keep_of hs ?_ | refine keep_imp hs ?_ | fail) | ((with_reducible refine isWhen ?_); first | refine when_om ?_ | fail) | ((with_reducible refine isDraw ?_); first | refine drawW_sat hs fun w hs => ?_ | fail))
              rw [Int.toNat_natCast]
              refine ite_false (decide_eq_false (by omega)) ?_
              rw [hoardlaw27_long_j5_def, hoardlaw27_long_j5_raw, i64_in _ (by omega)]
              refine ih (i + 1) w (by omega) (fun j hj hj2 => ?_) hs
              by_cases hji : j = i
              · subst hji
                refine ⟨by omega, fun g hg => ?_⟩
                obtain ⟨c, hc, rfl⟩ := List.mem_iff_getElem.1 hg
                have := hp2 c (by omega)
                rw [List.getD_eq_getElem?_getD, List.getElem?_eq_getElem hc] at this
                exact this
              · exact hp j (by omega) hj2
            | succ g ihg =>
              intro k w hk hp2 hs
              rw [hoardlaw27_long_l4_raw]
              haveI hR := reads0 hrd (i := k) (by omega)
              repeat (first | with_reducible refine nilck_some ?_ | ((with_reducible refine atLd ?_); first | refine ld_b hs ?_ | refine ld_b (x := ⟨_, _, _⟩) hs ?_ | refine ld_r0 hs ?_ | refine ld_r1 hs ?_ | refine ld_r2 hs ?_ | refine ld_r3 hs ?_ | refine ld_r4 hs ?_ | refine ld_rd0 ha_ hs ?_ | refine ld_rd1 ha_ hs ?_ | refine ld_rd2 ha_ hs ?_ | refine ld_rd3 ha_ hs ?_ | refine ld_rd4 ha_ hs ?_ | refine ld_rd5 ha_ hs ?_ | fail) | ((with_reducible refine isSt ?_); first | refine st_b hs fun w hs => ?_ | refine st_rec5 hs fun w hs => ?_ | refine st_rec4 hs fun w hs => ?_ | refine st_rec3 hs fun w hs => ?_ | refine st_rec2 hs fun w hs => ?_ | refine st_r0 hs fun w hs => ?_ | refine st_r1 hs fun w hs => ?_ | fail) | ((with_reducible refine isIdx ?_); first | refine idx_s hs fun b_ o_ hs => ?_ | refine idx_a hs ?_ | refine idx_rd hs fun b_ o_ ha_ => ?_ | fail) | ((with_reducible refine isNew ?_); first | refine newB_at hs fun b_ w hs => ?_ | fail) | ((with_reducible refine isLdS ?_); first | refine ldS_b ?_ | refine ldS_b (x := ⟨_, _, _⟩) ?_ | refine ldS_r0 ?_ | refine ldS_r1 ?_ | refine ldS_r2 ?_ | refine ldS_r3 ?_ | refine ldS_rs0 hs ?_ | refine ldS_rs1 hs ?_ | refine ldS_rs2 hs ?_ | refine ldS_rs3 hs ?_ | refine ldS_rd0 ha_ ?_ | refine ldS_rd1 ha_ ?_ | refine ldS_rd2 ha_ ?_ | refine ldS_rd3 ha_ ?_ | refine ldS_rd4 ha_ ?_ | refine ldS_rd5 ha_ ?_ | fail) | ((with_reducible refine isKeep ?_); first | refine keep_of hs ?_ | refine keep_imp hs ?_ | fail) | ((with_reducible refine isWhen ?_); first | refine when_om ?_ | fail) | ((with_reducible refine isDraw ?_); first | refine drawW_sat hs fun w hs => ?_ | fail))
              rw [Int.toNat_natCast]
              refine ite_true (decide_eq_true (by omega)) ?_
              repeat (first | with_reducible refine nilck_some ?_ | ((with_reducible refine atLd ?_); first | refine ld_b hs ?_ | refine ld_b (x := ⟨_, _, _⟩) hs ?_ | refine ld_r0 hs ?_ | refine ld_r1 hs ?_ | refine ld_r2 hs ?_ | refine ld_r3 hs ?_ | refine ld_r4 hs ?_ | refine ld_rd0 ha_ hs ?_ | refine ld_rd1 ha_ hs ?_ | refine ld_rd2 ha_ hs ?_ | refine ld_rd3 ha_ hs ?_ | refine ld_rd4 ha_ hs ?_ | refine ld_rd5 ha_ hs ?_ | fail) | ((with_reducible refine isSt ?_); first | refine st_b hs fun w hs => ?_ | refine st_rec5 hs fun w hs => ?_ | refine st_rec4 hs fun w hs => ?_ | refine st_rec3 hs fun w hs => ?_ | refine st_rec2 hs fun w hs => ?_ | refine st_r0 hs fun w hs => ?_ | refine st_r1 hs fun w hs => ?_ | fail) | ((with_reducible refine isIdx ?_); first | refine idx_s hs fun b_ o_ hs => ?_ | refine idx_a hs ?_ | refine idx_rd hs fun b_ o_ ha_ => ?_ | fail) | ((with_reducible refine isNew ?_); first | refine newB_at hs fun b_ w hs => ?_ | fail) | ((with_reducible refine isLdS ?_); first | refine ldS_b ?_ | refine ldS_b (x := ⟨_, _, _⟩) ?_ | refine ldS_r0 ?_ | refine ldS_r1 ?_ | refine ldS_r2 ?_ | refine ldS_r3 ?_ | refine ldS_rs0 hs ?_ | refine ldS_rs1 hs ?_ | refine ldS_rs2 hs ?_ | refine ldS_rs3 hs ?_ | refine ldS_rd0 ha_ ?_ | refine ldS_rd1 ha_ ?_ | refine ldS_rd2 ha_ ?_ | refine ldS_rd3 ha_ ?_ | refine ldS_rd4 ha_ ?_ | refine ldS_rd5 ha_ ?_ | fail) | ((with_reducible refine isKeep ?_); first | refine keep_of hs ?_ | refine keep_imp hs ?_ | fail) | ((with_reducible refine isWhen ?_); first | refine when_om ?_ | fail) | ((with_reducible refine isDraw ?_); first | refine drawW_sat hs fun w hs => ?_ | fail))
              simp only [Int.toNat_natCast]
              repeat (first | with_reducible refine nilck_some ?_ | ((with_reducible refine atLd ?_); first | refine ld_b hs ?_ | refine ld_b (x := ⟨_, _, _⟩) hs ?_ | refine ld_r0 hs ?_ | refine ld_r1 hs ?_ | refine ld_r2 hs ?_ | refine ld_r3 hs ?_ | refine ld_r4 hs ?_ | refine ld_rd0 ha_ hs ?_ | refine ld_rd1 ha_ hs ?_ | refine ld_rd2 ha_ hs ?_ | refine ld_rd3 ha_ hs ?_ | refine ld_rd4 ha_ hs ?_ | refine ld_rd5 ha_ hs ?_ | fail) | ((with_reducible refine isSt ?_); first | refine st_b hs fun w hs => ?_ | refine st_rec5 hs fun w hs => ?_ | refine st_rec4 hs fun w hs => ?_ | refine st_rec3 hs fun w hs => ?_ | refine st_rec2 hs fun w hs => ?_ | refine st_r0 hs fun w hs => ?_ | refine st_r1 hs fun w hs => ?_ | fail) | ((with_reducible refine isIdx ?_); first | refine idx_s hs fun b_ o_ hs => ?_ | refine idx_a hs ?_ | refine idx_rd hs fun b_ o_ ha_ => ?_ | fail) | ((with_reducible refine isNew ?_); first | refine newB_at hs fun b_ w hs => ?_ | fail) | ((with_reducible refine isLdS ?_); first | refine ldS_b ?_ | refine ldS_b (x := ⟨_, _, _⟩) ?_ | refine ldS_r0 ?_ | refine ldS_r1 ?_ | refine ldS_r2 ?_ | refine ldS_r3 ?_ | refine ldS_rs0 hs ?_ | refine ldS_rs1 hs ?_ | refine ldS_rs2 hs ?_ | refine ldS_rs3 hs ?_ | refine ldS_rd0 ha_ ?_ | refine ldS_rd1 ha_ ?_ | refine ldS_rd2 ha_ ?_ | refine ldS_rd3 ha_ ?_ | refine ldS_rd4 ha_ ?_ | refine ldS_rd5 ha_ ?_ | fail) | ((with_reducible refine isKeep ?_); first | refine keep_of hs ?_ | refine keep_imp hs ?_ | fail) | ((with_reducible refine isWhen ?_); first | refine when_om ?_ | fail) | ((with_reducible refine isDraw ?_); first | refine drawW_sat hs fun w hs => ?_ | fail))
              try simp only [Int.toNat_natCast]
              (first | with_reducible refine ite_ltI (fun h5 => ?_) (fun h5 => ?_) | with_reducible refine ite_leI (fun h5 => ?_) (fun h5 => ?_) | with_reducible refine ite_gtI (fun h5 => ?_) (fun h5 => ?_) | with_reducible refine ite_geI (fun h5 => ?_) (fun h5 => ?_) | with_reducible refine ite_eqI (fun h5 => ?_) (fun h5 => ?_) | with_reducible refine ite_neI (fun h5 => ?_) (fun h5 => ?_) | with_reducible refine ite_eqS (fun h5 => ?_) (fun h5 => ?_) | with_reducible refine ite_neS (fun h5 => ?_) (fun h5 => ?_) | with_reducible refine ite_dec (fun h5 => ?_) (fun h5 => ?_) | with_reducible refine ite_ndec (fun h5 => ?_) (fun h5 => ?_) | with_reducible refine ite_some (fun i_ h5 => ?_) (fun h5 => ?_) | with_reducible refine ite_nsome (fun h5 => ?_) (fun i_ h5 => ?_) | with_reducible refine ite_cases (fun h5 => ?_) (fun h5 => ?_))
              · exact tru w hs
              rw [i64_in _ (by omega)]
              refine ihg (k + 1) w (by omega) (fun c hc => ?_) hs
              by_cases hck : c = k
              · subst hck; omega
              · exact hp2 c (by omega)
          exact ⟨(rs.getD i default).gone.length + 1, inner _ 0 w (by omega) (fun c h => by omega) hs⟩
        · exact fin w i (by omega) hp hs
      · exact fin w i (by omega) hp hs
  refine ⟨N + 1, ?_⟩
  exact loop N 0 w (by omega) (fun j hj => by omega) hs
theorem known27 [hO : AtO L W] (hs : Sat W w L) : Calls Try.prog id_hoardlaw27_known #[] w fun e w' => e = .returned (.bool true) ∧ Sat W w' L := by
  refine c1 (hoardlaw27_known_calls ?_)
  rw [hoardlaw27_known_def, hoardlaw27_known_raw]
  refine call1_of (jg_New hs) fun e w ⟨b, he, hs⟩ => ⟨_, he, ?_⟩
  refine ite_true rfl ?_
  have hj : JOk ⟨[], 0, 1⟩ := JOk.new rfl
  refine call1_of (jg_See (o := ⟨1, str_a, str_empty, 0⟩) (err := 0) (hit := true) (val := str_x) (sl := ⟨none, 0, 0⟩) (gone := []) hs hj (by simp) rfl ⟨rfl, .inl rfl⟩ (by simp) (by simp) (by decide)) fun e w ⟨he, hs⟩ => ⟨_, he, ?_⟩
  have hsay : jSays 1 ⟨[], 0, 1⟩ ⟨1, str_a, str_empty, 0⟩ 0 true str_x [] = false := by
    unfold jSays jRight
    have : (tGet ([] : TT) str_a (jNow 0 ⟨1, str_a, str_empty, 0⟩)).2 = false := rfl
    simp [this]
  exact ⟨by rw [hsay]; rfl, by exact Sat.fin hs⟩
set_option maxRecDepth 100000 in
theorem jg_Wrong [hO : AtO L W] [hr0 : ReadsR W s0 opR ops] [hr1 : ReadsR W s1 ansR rs] (hs : Sat W w L) (hin : InOk W ops rs) (hl0 : ops.length ≤ 120) (hl1 : rs.length ≤ 120) (hroom : okK .i64 room) :
    Calls Try.prog id_judge_Wrong #[.int .i64 sh, .int .i64 room, .slice s0.a s0.n s0.c, .slice s1.a s1.n s1.c] w fun e w' => e = .returned (.int .i64 (jWrong sh 0 ⟨[], 0, room⟩ ops rs)) ∧ Sat W w' L := by
  refine c1 (judge_Wrong_calls ?_)
  rw [judge_Wrong_def, judge_Wrong_raw]
  have e0 := hr0.len
  have e1 := hr1.len
  refine call1_of (jg_New hs) fun e w ⟨b, he, hs⟩ => ⟨_, he, ?_⟩
  obtain ⟨t, ht⟩ : ∃ t : Nat, (t : Int) = (if (s1.n : Int) < (s0.n : Int) then (s1.n : Int) else (s0.n : Int)) := ⟨if s1.n < s0.n then s1.n else s0.n, by split <;> split <;> omega⟩
  have ht2 : t ≤ ops.length ∧ t ≤ rs.length ∧ (ops.length ≤ t ∨ rs.length ≤ t) := by split at ht <;> omega
  rw [← ht]
  have loop : ∀ (f i : Nat) (s : JS) (w : World), i + f = t → JOk s → s.T.length ≤ i → Sat W w (jgR b sh s :: L) →
      judge_Wrong_l1 idJ (fun v w' => v = .int .i64 (jWrong sh i s (ops.drop i) (rs.drop i)) ∧ Sat W w' L) (f + 1) s0 s1 (some ⟨b, 0, none⟩) (t : Int) (i : Int) w := by
    intro f
    induction f with
    | zero =>
      intro i s w hi hj hl hs
      rw [judge_Wrong_l1_raw]
      refine ite_false (decide_eq_false (by omega)) ?_
      rw [judge_Wrong_j2_def, judge_Wrong_j2_raw]
      exact ⟨by rw [jWrong_end (by omega)], by exact Sat.fin hs⟩
    | succ f ih =>
      intro i s w hi hj hl hs
      rw [judge_Wrong_l1_raw]
      refine ite_true (decide_eq_true (by omega)) ?_
      have h0 : i < ops.length := by omega
      have h1 : i < rs.length := by omega
      with_reducible refine drawW_sat hs fun w hs => ?_
      with_reducible refine idx_rd hs fun b1 o1 ha1 => ?_
      refine ldS_rd0 ha1 ?_
      refine ldS_rd1 ha1 ?_
      refine ldS_rd2 ha1 ?_
      refine ldS_rd3 ha1 ?_
      with_reducible refine idx_rd hs fun b2 o2 ha2 => ?_
      refine ld_rd0 ha2 hs ?_
      refine ld_rd1 ha2 hs ?_
      refine ld_rd2 ha2 hs ?_
      refine ld_rd3 ha2 hs ?_
      with_reducible refine keep_of hs ?_
      simp only [Int.toNat_natCast]
      refine call1_of (jg_See (o := ops.getD i default) (err := (rs.getD i default).err) (hit := (rs.getD i default).hit) (val := (rs.getD i default).val) (sl := (rs.getD i default).sl) hs hj (by omega) (hin.opn i h0) (hin.rd i h1) (hin.gone i h1 (by omega)) (hin.len i h1 (by omega)) (hin.key i h0 (by omega))) fun e w ⟨he, hs⟩ => ⟨_, he, ?_⟩
      rw [jWrong_step h0 h1]
      obtain ⟨hj2, hl2⟩ := hj.next (hin.opn i h0) (rs.getD i default).err (rs.getD i default).gone
      refine ite_cases (fun h2 => ?_) (fun h2 => ?_)
      · have h2 : jSays sh s (ops.getD i default) (rs.getD i default).err (rs.getD i default).hit (rs.getD i default).val (rs.getD i default).gone = false := by simpa using h2
        exact ⟨by rw [h2]; rfl, by exact Sat.fin hs⟩
      · have h2 : jSays sh s (ops.getD i default) (rs.getD i default).err (rs.getD i default).hit (rs.getD i default).val (rs.getD i default).gone = true := by simpa using h2
        rw [h2, i64_in _ (by omega)]
        exact ih (i + 1) _ w (by omega) hj2 (by omega) hs
  have := loop t 0 ⟨[], 0, room⟩ w (by omega) (JOk.new hroom) (by simp) hs
  exact ⟨t + 1, this⟩
set_option maxRecDepth 100000 in
theorem jr_Wrong [hO : AtO L W] [hr0 : ReadsR W s0 opR ops] [hr1 : ReadsR W s1 ansR rs] (hs : Sat W w L) (hin : InOk W ops rs) (hl0 : ops.length ≤ 120) (hl1 : rs.length ≤ 120) (hroom : okK .i64 room) :
    Calls Try.prog id_hoardref27_Wrong #[.int .i64 sh, .int .i64 room, .slice s0.a s0.n s0.c, .slice s1.a s1.n s1.c] w fun e w' => e = .returned (.int .i64 (jWrong sh 0 ⟨[], 0, room⟩ ops rs)) ∧ Sat W w' L := by
  refine c1 (hoardref27_Wrong_calls ?_)
  rw [hoardref27_Wrong_def, hoardref27_Wrong_raw]
  have e0 := hr0.len
  have e1 := hr1.len
  refine call1_of (jr_New hs) fun e w ⟨b, he, hs⟩ => ⟨_, he, ?_⟩
  have fin : ∀ (i : Nat) (s : JS) (w : World), (ops.length ≤ i ∨ rs.length ≤ i) → Sat W w (jrR b sh s :: L) → hoardref27_Wrong_j3 idJ (fun v w' => v = .int .i64 (jWrong sh i s (ops.drop i) (rs.drop i)) ∧ Sat W w' L) w := by
    intro i s w h hs
    rw [hoardref27_Wrong_j3_def, hoardref27_Wrong_j3_raw]
    exact ⟨by rw [jWrong_end h], by exact Sat.fin hs⟩
  have loop : ∀ (f i : Nat) (s : JS) (w : World), i + f = ops.length → JOk s → s.T.length ≤ i → Sat W w (jrR b sh s :: L) →
      hoardref27_Wrong_l1 idJ (fun v w' => v = .int .i64 (jWrong sh i s (ops.drop i) (rs.drop i)) ∧ Sat W w' L) (f + 1) s0 s1 (some ⟨b, 0, none⟩) (i : Int) w := by
    intro f
    induction f with
    | zero =>
      intro i s w hi hj hl hs
      rw [hoardref27_Wrong_l1_raw]
      refine ite_false (decide_eq_false (by omega)) ?_
      exact fin i s w (by omega) hs
    | succ f ih =>
      intro i s w hi hj hl hs
      rw [hoardref27_Wrong_l1_raw]
      refine ite_true (decide_eq_true (by omega)) ?_
      (first | with_reducible refine ite_ltI (fun h1 => ?_) (fun h1 => ?_) | with_reducible refine ite_leI (fun h1 => ?_) (fun h1 => ?_) | with_reducible refine ite_gtI (fun h1 => ?_) (fun h1 => ?_) | with_reducible refine ite_geI (fun h1 => ?_) (fun h1 => ?_) | with_reducible refine ite_eqI (fun h1 => ?_) (fun h1 => ?_) | with_reducible refine ite_neI (fun h1 => ?_) (fun h1 => ?_) | with_reducible refine ite_eqS (fun h1 => ?_) (fun h1 => ?_) | with_reducible refine ite_neS (fun h1 => ?_) (fun h1 => ?_) | with_reducible refine ite_dec (fun h1 => ?_) (fun h1 => ?_) | with_reducible refine ite_ndec (fun h1 => ?_) (fun h1 => ?_) | with_reducible refine ite_some (fun i_ h1 => ?_) (fun h1 => ?_) | with_reducible refine ite_nsome (fun h1 => ?_) (fun i_ h1 => ?_) | with_reducible refine ite_cases (fun h1 => ?_) (fun h1 => ?_))
      rotate_left
      · exact fin i s w (by omega) hs
      rw [hoardref27_Wrong_j2_def, hoardref27_Wrong_j2_raw]
      have h0 : i < ops.length := by omega
      have h1 : i < rs.length := by omega
      with_reducible refine drawW_sat hs fun w hs => ?_
      with_reducible refine idx_rd hs fun b1 o1 ha1 => ?_
      refine ldS_rd0 ha1 ?_
      refine ldS_rd1 ha1 ?_
      refine ldS_rd2 ha1 ?_
      refine ldS_rd3 ha1 ?_
      with_reducible refine idx_rd hs fun b2 o2 ha2 => ?_
      refine ld_rd0 ha2 hs ?_
      refine ld_rd1 ha2 hs ?_
      refine ld_rd2 ha2 hs ?_
      refine ld_rd3 ha2 hs ?_
      with_reducible refine keep_of hs ?_
      simp only [Int.toNat_natCast]
      refine call1_of (jr_See (o := ops.getD i default) (err := (rs.getD i default).err) (hit := (rs.getD i default).hit) (val := (rs.getD i default).val) (sl := (rs.getD i default).sl) hs hj (by omega) (hin.opn i h0) (hin.rd i h1) (hin.len i h1 (by omega))) fun e w ⟨he, hs⟩ => ⟨_, he, ?_⟩
      rw [jWrong_step h0 h1]
      obtain ⟨hj2, hl2⟩ := hj.next (hin.opn i h0) (rs.getD i default).err (rs.getD i default).gone
      refine ite_cases (fun h2 => ?_) (fun h2 => ?_)
      · have h2 : jSays sh s (ops.getD i default) (rs.getD i default).err (rs.getD i default).hit (rs.getD i default).val (rs.getD i default).gone = false := by simpa using h2
        exact ⟨by rw [h2]; rfl, by exact Sat.fin hs⟩
      · have h2 : jSays sh s (ops.getD i default) (rs.getD i default).err (rs.getD i default).hit (rs.getD i default).val (rs.getD i default).gone = true := by simpa using h2
        rw [h2, i64_in _ (by omega)]
        exact ih (i + 1) _ w (by omega) hj2 (by omega) hs
  have := loop ops.length 0 ⟨[], 0, room⟩ w (by omega) (JOk.new hroom) (by simp) hs
  exact ⟨ops.length + 1, this⟩
end
end Go.Proofs.Ytnmlaenfaiacfaa
