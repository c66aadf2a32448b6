/- ListOwn, ListNumbers, ListMoves, ListHandles, ListPlays, ListOfNothing: walks. -/
import Derived.Test.YtadljdjlemfdjaaList2S
import Derived.Test.YtadljdjlemfdjaaList2I
import Derived.Test.YtadljdjlemfdjaaListRef
import Derived.Test.YtadljdjlemfdjaaLaw2
set_option linter.unusedVariables false
set_option linter.unusedSimpArgs false
set_option linter.unnecessarySimpa false
set_option linter.unusedSectionVars false
namespace Go.Hb
structure Act4 where
  kind : Int
  h : Int
  s : ByteArray
instance : Inhabited Act4 := ⟨⟨0, 0, ⟨#[]⟩⟩⟩
def act4R : Rec Act4 := ⟨3, fun a => [.int .i64 a.kind, .int .i64 a.h, .string a.s], fun _ => rfl⟩
instance : PosR act4R := ⟨by decide⟩
def act4ok (a : Act4) : Prop := okStr a.s
theorem of_act4 (x : List Value) (h : okRow [.int .i64, .int .i64, .str] x) : ∃ a, x = act4R.cells a ∧ act4ok a := by
  obtain ⟨v0, v1, v2, rfl⟩ : ∃ v0 v1 v2, x = [v0, v1, v2] := by
    have hl := okRow_len h
    match x, hl with
    | [v0, v1, v2], _ => exact ⟨v0, v1, v2, rfl⟩
  obtain ⟨h0, h1, h2, _⟩ := h
  obtain ⟨k, rfl, _⟩ := h0
  obtain ⟨h, rfl, _⟩ := h1
  obtain ⟨s, rfl, hs⟩ := h2
  exact ⟨⟨k, h, s⟩, rfl, hs⟩
/-- the row behind pushes at the back -/
def rowN {T : Type} (l : List T) : List (Nat × T) := l.mapIdx fun i s => (i + 1, s)
theorem rowN_snd {T : Type} (l : List T) : (rowN l).map (·.2) = l := by
  apply List.ext_getElem?
  intro i; simp [rowN]
  cases l[i]? <;> rfl
theorem rowN_len {T : Type} (l : List T) : (rowN l).length = l.length := by simp [rowN]
theorem rowN_push {T : Type} (l : List T) (x : T) : rowN l ++ [(hdl (rowN l) [], x)] = rowN (l ++ [x]) := by
  have : hdl (rowN l) [] = l.length + 1 := by simp [hdl, rowN_len]
  rw [this]; simp [rowN, List.mapIdx_append]
theorem rowN_at {T : Type} {l : List T} {h : Int} (h1 : 1 ≤ h) (h2 : h ≤ l.length) : rAt (rowN l) h = some (h.toNat - 1) := by
  unfold rAt
  rw [List.findIdx?_eq_some_iff_getElem]
  refine ⟨by rw [rowN_len]; omega, ?_, fun j hj => ?_⟩
  · simp [rowN]; omega
  · simp [rowN]; omega
end Go.Hb
namespace Go.Proofs.Ytadljdjlemfdjaa
open Go.Hb Go.IntWalk
section
variable {W w : World} {L M : List HP} {F : HP → List HP}
theorem known4 (hs : Sat W w L) : Calls Try.prog id_hoardlaw4_known #[] w fun e w' => e = .returned (.bool true) ∧ Sat W w' L := by
  refine c1 (hoardlaw4_known_calls ?_)
  rw [hoardlaw4_known_def, hoardlaw4_known_raw]
  refine (string_New hs).mono fun e w ⟨b, he, hs⟩ => ⟨_, he, ?_⟩
  refine call1_of (string_PushBack hs (by decide)) fun e w ⟨he, hs⟩ => ⟨_, he, ?_⟩
  refine call1_of (string_PushBack hs (by decide)) fun e w ⟨he, hs⟩ => ⟨_, he, ?_⟩
  refine call2_of (string_Remove hs (by decide)) fun e w ⟨he, hs⟩ => ⟨_, _, he, ?_⟩
  have hs : Sat W w (lst .string b [(2, str_b)] [1] :: L) := hs
  refine call1_of (string_PushFront hs (by decide)) fun e w ⟨he, hs⟩ => ⟨_, he, ?_⟩
  have hs : Sat W w (lst .string b [(1, str_c), (2, str_b)] [] :: L) := hs
  refine ite_true rfl (ite_true rfl (ite_true rfl (ite_true (by rw [sEq_eq]; rfl) (ite_true rfl ?_))))
  refine (string_All hs (by decide)).mono fun e w ⟨m, he, hs⟩ => ⟨_, he, ?_⟩
  refine newB_at hs fun b2 w hs => ?_
  have hs := hs.blkS (b := b2) Rec.str [str_c, str_b] (n := 2) rfl rfl
  refine call1_of (hoardlaw4_texts_at (a := m) (b := ⟨some ⟨b2, 0, none⟩, 2, 2⟩) hs (by decide)) fun e w ⟨he, hs⟩ => ⟨_, he, ?_⟩
  exact ⟨rfl, hs.drop.drop.drop⟩

theorem own_l3 {s0 : Sl} {xs : List ByteArray} [hr : ReadsR W s0 Rec.str xs] {b : Nat} {Q : Value → WP} (hx : xs.length ≤ 100) (hQ : ∀ w, Sat W w [old W] → Q (.bool true) w) {s : Sl} :
    ∀ (m i : Nat) (w : World) (ys : List ByteArray), i + m = ys.length → ys.length ≤ 100 → (∀ s ∈ ys, s.size ≤ reachBytes + 1) → (∀ s ∈ ys.drop i, s.size ≤ reachBytes) → Sat W w [recs Rec.str s ys, lst .string b (rowN xs) [], old W] → hoardlaw4_ListOwn_l3 idJ Q (m + 1) s0 (some ⟨b, 0, none⟩) s (i : Int) w := by
  intro m
  induction m with
  | zero =>
    intro i w ys hi hy hz hz2 hs
    have hn := (recs_len (s := s) hs).1
    rw [hoardlaw4_ListOwn_l3_raw]
    refine ite_false (decide_eq_false (by omega)) ?_
    rw [hoardlaw4_ListOwn_j4_def, hoardlaw4_ListOwn_j4_raw]
    refine (string_All hs (by rw [rowN_len]; simp; omega)).mono fun e w ⟨m, he, hs⟩ => ⟨_, he, ?_⟩
    rw [rowN_snd] at hs
    refine call1_of (hoardlaw4_texts_at (a := m) (b := s0) hs (by omega)) fun e w ⟨he, hs⟩ => ⟨_, he, ?_⟩
    refine ite_true (by simp) ?_
    refine call1_of (known4 hs) fun e w ⟨he, hs⟩ => ⟨_, he, hQ _ (by exact Sat.fin hs)⟩
  | succ m ih =>
    intro i w ys hi hy hz hz2 hs
    have hn := (recs_len (s := s) hs).1
    rw [hoardlaw4_ListOwn_l3_raw]
    refine ite_true (decide_eq_true (by omega)) ?_
    have hsz : (ys.getD (i : Int).toNat default).size ≤ reachBytes := by
      rw [Int.toNat_natCast, List.getD_eq_getElem?_getD, List.getElem?_eq_getElem (by omega)]
      exact hz2 _ (by rw [List.mem_iff_getElem]; exact ⟨0, by simp; omega, by simp⟩)
    repeat (first | with_reducible refine nilck_some ?_ | ((with_reducible refine atLd ?_); first | refine ld_b hs ?_ | refine ld_b (x := ⟨_, _, _⟩) hs ?_ | refine ld_r0 hs ?_ | refine ld_r1 hs ?_ | refine ld_r2 hs ?_ | refine ld_r3 hs ?_ | refine ld_r4 hs ?_ | refine ld_rd0 ha_ hs ?_ | refine ld_rd1 ha_ hs ?_ | refine ld_rd2 ha_ hs ?_ | refine ld_rd3 ha_ hs ?_ | refine ld_rd4 ha_ hs ?_ | fail) | ((with_reducible refine isSt ?_); first | refine st_b hs fun w hs => ?_ | refine st_rec5 hs fun w hs => ?_ | refine st_rec4 hs fun w hs => ?_ | refine st_rec3 hs fun w hs => ?_ | refine st_rec2 hs fun w hs => ?_ | refine st_r0 hs fun w hs => ?_ | refine st_r1 hs fun w hs => ?_ | fail) | ((with_reducible refine isIdx ?_); first | refine idx_s hs fun b_ o_ hs => ?_ | refine idx_a hs ?_ | refine idx_rd hs fun b_ o_ ha_ => ?_ | fail) | ((with_reducible refine isNew ?_); first | refine newB_at hs fun b_ w hs => ?_ | fail) | ((with_reducible refine isLdS ?_); first | refine ldS_b ?_ | refine ldS_b (x := ⟨_, _, _⟩) ?_ | refine ldS_r0 ?_ | refine ldS_r1 ?_ | refine ldS_r2 ?_ | refine ldS_r3 ?_ | refine ldS_rs0 hs ?_ | refine ldS_rs1 hs ?_ | refine ldS_rs2 hs ?_ | refine ldS_rs3 hs ?_ | refine ldS_rd0 ha_ ?_ | refine ldS_rd1 ha_ ?_ | refine ldS_rd2 ha_ ?_ | refine ldS_rd3 ha_ ?_ | fail) | ((with_reducible refine isKeep ?_); first | refine keep_of hs ?_ | refine keep_imp hs ?_ | fail) | ((with_reducible refine isWhen ?_); first | refine when_om ?_ | fail) | ((with_reducible refine isDraw ?_); first | refine drawW_sat hs fun w hs => ?_ | fail))
    refine when_of (by unfold reachBytes at hsz; rw [show str_x.size = 1 from rfl]; omega) ?_
    rw [Int.toNat_natCast] at hsz
    repeat (first | with_reducible refine nilck_some ?_ | ((with_reducible refine atLd ?_); first | refine ld_b hs ?_ | refine ld_b (x := ⟨_, _, _⟩) hs ?_ | refine ld_r0 hs ?_ | refine ld_r1 hs ?_ | refine ld_r2 hs ?_ | refine ld_r3 hs ?_ | refine ld_r4 hs ?_ | refine ld_rd0 ha_ hs ?_ | refine ld_rd1 ha_ hs ?_ | refine ld_rd2 ha_ hs ?_ | refine ld_rd3 ha_ hs ?_ | refine ld_rd4 ha_ hs ?_ | fail) | ((with_reducible refine isSt ?_); first | refine st_b hs fun w hs => ?_ | refine st_rec5 hs fun w hs => ?_ | refine st_rec4 hs fun w hs => ?_ | refine st_rec3 hs fun w hs => ?_ | refine st_rec2 hs fun w hs => ?_ | refine st_r0 hs fun w hs => ?_ | refine st_r1 hs fun w hs => ?_ | fail) | ((with_reducible refine isIdx ?_); first | refine idx_s hs fun b_ o_ hs => ?_ | refine idx_a hs ?_ | refine idx_rd hs fun b_ o_ ha_ => ?_ | fail) | ((with_reducible refine isNew ?_); first | refine newB_at hs fun b_ w hs => ?_ | fail) | ((with_reducible refine isLdS ?_); first | refine ldS_b ?_ | refine ldS_b (x := ⟨_, _, _⟩) ?_ | refine ldS_r0 ?_ | refine ldS_r1 ?_ | refine ldS_r2 ?_ | refine ldS_r3 ?_ | refine ldS_rs0 hs ?_ | refine ldS_rs1 hs ?_ | refine ldS_rs2 hs ?_ | refine ldS_rs3 hs ?_ | refine ldS_rd0 ha_ ?_ | refine ldS_rd1 ha_ ?_ | refine ldS_rd2 ha_ ?_ | refine ldS_rd3 ha_ ?_ | fail) | ((with_reducible refine isKeep ?_); first | refine keep_of hs ?_ | refine keep_imp hs ?_ | fail) | ((with_reducible refine isWhen ?_); first | refine when_om ?_ | fail) | ((with_reducible refine isDraw ?_); first | refine drawW_sat hs fun w hs => ?_ | fail))
    rw [i64_in _ (by omega)]
    refine ih (i + 1) w (ys.set i (str_x ++ ys.getD i default)) (by simp; omega) (by simp; omega) ?_ ?_ (by simp only [Int.toNat_natCast] at hs; exact Sat.fin hs)
    · intro s hs
      rcases List.mem_or_eq_of_mem_set hs with h | h
      · exact hz s h
      · subst h
        simp only [ByteArray.size_append]
        have : str_x.size = 1 := rfl
        omega
    · intro s hs
      rw [List.drop_set_of_lt (by omega)] at hs
      exact hz2 s (List.mem_of_mem_drop (by rw [List.drop_drop]; exact hs))
theorem own_walk {s0 : Sl} {xs : List ByteArray} [hr : ReadsR W s0 Rec.str xs] (hw : ∀ s ∈ xs, okStr s) : Calls Try.prog id_hoardlaw4_ListOwn #[.slice s0.a s0.n s0.c] W fun e w' => e = .returned (.bool true) ∧ KeptH W w' := by
  have hs := Sat.begin W
  refine law_of (hoardlaw4_ListOwn_calls ?_)
  rw [hoardlaw4_ListOwn_def, hoardlaw4_ListOwn_raw]
  have hn := rdb_len (s := s0) hs
  (first | with_reducible refine ite_ltI (fun h1 => ?_) (fun h1 => ?_) | with_reducible refine ite_leI (fun h1 => ?_) (fun h1 => ?_) | with_reducible refine ite_gtI (fun h1 => ?_) (fun h1 => ?_) | with_reducible refine ite_geI (fun h1 => ?_) (fun h1 => ?_) | with_reducible refine ite_eqI (fun h1 => ?_) (fun h1 => ?_) | with_reducible refine ite_neI (fun h1 => ?_) (fun h1 => ?_) | with_reducible refine ite_eqS (fun h1 => ?_) (fun h1 => ?_) | with_reducible refine ite_neS (fun h1 => ?_) (fun h1 => ?_) | with_reducible refine ite_dec (fun h1 => ?_) (fun h1 => ?_) | with_reducible refine ite_ndec (fun h1 => ?_) (fun h1 => ?_) | with_reducible refine ite_some (fun i_ h1 => ?_) (fun h1 => ?_) | with_reducible refine ite_nsome (fun h1 => ?_) (fun i_ h1 => ?_) | with_reducible refine ite_cases (fun h1 => ?_) (fun h1 => ?_))
  · exact ⟨rfl, hs⟩
  refine (string_New hs).mono fun e w ⟨b, he, hs⟩ => ⟨_, he, ?_⟩
  refine ⟨xs.length + 1, ?_⟩
  have loop : ∀ (m i : Nat) (w : World), i + m = xs.length → Sat W w [lst .string b (rowN (xs.take i)) [], old W] → hoardlaw4_ListOwn_l1 idJ (fun v w' => v = .bool true ∧ Sat W w' [old W]) (m + 1) s0 (some ⟨b, 0, none⟩) (i : Int) w := by
    intro m
    induction m with
    | zero =>
      intro i w hi hs
      rw [hoardlaw4_ListOwn_l1_raw]
      refine ite_false (decide_eq_false (by omega)) ?_
      rw [hoardlaw4_ListOwn_j2_def, hoardlaw4_ListOwn_j2_raw]
      rw [List.take_of_length_le (by omega)] at hs
      refine (string_All hs (by rw [rowN_len]; simp; omega)).mono fun e w ⟨m, he, hs⟩ => ⟨_, he, ?_⟩
      rw [rowN_snd] at hs
      refine ⟨_, own_l3 (xs := xs) (by omega) (fun w hs => ⟨rfl, hs⟩) xs.length 0 w xs (by omega) (by omega) (fun s hs => by have := hw s hs; unfold okStr at this; omega) (fun s hs => hw s (List.mem_of_mem_drop hs)) hs⟩
    | succ m ih =>
      intro i w hi hs
      rw [hoardlaw4_ListOwn_l1_raw]
      refine ite_true (decide_eq_true (by omega)) ?_
      repeat (first | with_reducible refine nilck_some ?_ | ((with_reducible refine atLd ?_); first | refine ld_b hs ?_ | refine ld_b (x := ⟨_, _, _⟩) hs ?_ | refine ld_r0 hs ?_ | refine ld_r1 hs ?_ | refine ld_r2 hs ?_ | refine ld_r3 hs ?_ | refine ld_r4 hs ?_ | refine ld_rd0 ha_ hs ?_ | refine ld_rd1 ha_ hs ?_ | refine ld_rd2 ha_ hs ?_ | refine ld_rd3 ha_ hs ?_ | refine ld_rd4 ha_ hs ?_ | fail) | ((with_reducible refine isSt ?_); first | refine st_b hs fun w hs => ?_ | refine st_rec5 hs fun w hs => ?_ | refine st_rec4 hs fun w hs => ?_ | refine st_rec3 hs fun w hs => ?_ | refine st_rec2 hs fun w hs => ?_ | refine st_r0 hs fun w hs => ?_ | refine st_r1 hs fun w hs => ?_ | fail) | ((with_reducible refine isIdx ?_); first | refine idx_s hs fun b_ o_ hs => ?_ | refine idx_a hs ?_ | refine idx_rd hs fun b_ o_ ha_ => ?_ | fail) | ((with_reducible refine isNew ?_); first | refine newB_at hs fun b_ w hs => ?_ | fail) | ((with_reducible refine isLdS ?_); first | refine ldS_b ?_ | refine ldS_b (x := ⟨_, _, _⟩) ?_ | refine ldS_r0 ?_ | refine ldS_r1 ?_ | refine ldS_r2 ?_ | refine ldS_r3 ?_ | refine ldS_rs0 hs ?_ | refine ldS_rs1 hs ?_ | refine ldS_rs2 hs ?_ | refine ldS_rs3 hs ?_ | refine ldS_rd0 ha_ ?_ | refine ldS_rd1 ha_ ?_ | refine ldS_rd2 ha_ ?_ | refine ldS_rd3 ha_ ?_ | fail) | ((with_reducible refine isKeep ?_); first | refine keep_of hs ?_ | refine keep_imp hs ?_ | fail) | ((with_reducible refine isWhen ?_); first | refine when_om ?_ | fail) | ((with_reducible refine isDraw ?_); first | refine drawW_sat hs fun w hs => ?_ | fail))
      refine call1_of (string_PushBack hs (by rw [rowN_len]; simp; omega)) fun e w ⟨he, hs⟩ => ⟨_, he, ?_⟩
      rw [rowN_push, Int.toNat_natCast, ← take_snoc (by omega)] at hs
      rw [i64_in _ (by omega)]
      exact ih (i + 1) w (by omega) hs
  exact loop xs.length 0 w (by omega) hs

theorem heavy4 {s0 : Sl} {acts : List Act4} [hr : Rdb W L s0 act4R acts] (hs : Sat W w L) : Calls Try.prog id_hoardlaw4_heavy #[.slice s0.a s0.n s0.c] w fun e w' => ∃ b : Bool, e = .returned (.bool b) ∧ Sat W w' L := by
  refine (hoardlaw4_heavy_calls (Q := fun v w' => ∃ b : Bool, v = .bool b ∧ Sat W w' L) ?_).mono fun e w' ⟨v, he, b, hv, hs⟩ => ⟨b, by rw [he, hv], hs⟩
  rw [hoardlaw4_heavy_def, hoardlaw4_heavy_raw]
  obtain ⟨N, hN⟩ : ∃ N : Nat, N = 151 := ⟨_, rfl⟩
  have loop : ∀ (m i : Nat) (w : World), i + m = N → Sat W w L → hoardlaw4_heavy_l1 idJ (fun v w' => ∃ b : Bool, v = .bool b ∧ Sat W w' L) (m + 1) s0 (i : Int) w := by
    intro m
    induction m with
    | zero =>
      intro i w hi hs
      rw [hoardlaw4_heavy_l1_raw]
      (first | with_reducible refine ite_ltI (fun h1 => ?_) (fun h1 => ?_) | with_reducible refine ite_leI (fun h1 => ?_) (fun h1 => ?_) | with_reducible refine ite_gtI (fun h1 => ?_) (fun h1 => ?_) | with_reducible refine ite_geI (fun h1 => ?_) (fun h1 => ?_) | with_reducible refine ite_eqI (fun h1 => ?_) (fun h1 => ?_) | with_reducible refine ite_neI (fun h1 => ?_) (fun h1 => ?_) | with_reducible refine ite_eqS (fun h1 => ?_) (fun h1 => ?_) | with_reducible refine ite_neS (fun h1 => ?_) (fun h1 => ?_) | with_reducible refine ite_dec (fun h1 => ?_) (fun h1 => ?_) | with_reducible refine ite_ndec (fun h1 => ?_) (fun h1 => ?_) | with_reducible refine ite_some (fun i_ h1 => ?_) (fun h1 => ?_) | with_reducible refine ite_nsome (fun h1 => ?_) (fun i_ h1 => ?_) | with_reducible refine ite_cases (fun h1 => ?_) (fun h1 => ?_))
      · with_reducible refine ite_ltI (fun h2 => absurd h2 (by omega)) (fun h2 => ?_)
        rw [hoardlaw4_heavy_j3_def, hoardlaw4_heavy_j3_raw]
        exact ⟨_, rfl, hs⟩
      · rw [hoardlaw4_heavy_j3_def, hoardlaw4_heavy_j3_raw]
        exact ⟨_, rfl, hs⟩
    | succ m ih =>
      intro i w hi hs
      have hn := rdb_len (s := s0) hs
      rw [hoardlaw4_heavy_l1_raw]
      (first | with_reducible refine ite_ltI (fun h1 => ?_) (fun h1 => ?_) | with_reducible refine ite_leI (fun h1 => ?_) (fun h1 => ?_) | with_reducible refine ite_gtI (fun h1 => ?_) (fun h1 => ?_) | with_reducible refine ite_geI (fun h1 => ?_) (fun h1 => ?_) | with_reducible refine ite_eqI (fun h1 => ?_) (fun h1 => ?_) | with_reducible refine ite_neI (fun h1 => ?_) (fun h1 => ?_) | with_reducible refine ite_eqS (fun h1 => ?_) (fun h1 => ?_) | with_reducible refine ite_neS (fun h1 => ?_) (fun h1 => ?_) | with_reducible refine ite_dec (fun h1 => ?_) (fun h1 => ?_) | with_reducible refine ite_ndec (fun h1 => ?_) (fun h1 => ?_) | with_reducible refine ite_some (fun i_ h1 => ?_) (fun h1 => ?_) | with_reducible refine ite_nsome (fun h1 => ?_) (fun i_ h1 => ?_) | with_reducible refine ite_cases (fun h1 => ?_) (fun h1 => ?_))
      · (first | with_reducible refine ite_ltI (fun h2 => ?_) (fun h2 => ?_) | with_reducible refine ite_leI (fun h2 => ?_) (fun h2 => ?_) | with_reducible refine ite_gtI (fun h2 => ?_) (fun h2 => ?_) | with_reducible refine ite_geI (fun h2 => ?_) (fun h2 => ?_) | with_reducible refine ite_eqI (fun h2 => ?_) (fun h2 => ?_) | with_reducible refine ite_neI (fun h2 => ?_) (fun h2 => ?_) | with_reducible refine ite_eqS (fun h2 => ?_) (fun h2 => ?_) | with_reducible refine ite_neS (fun h2 => ?_) (fun h2 => ?_) | with_reducible refine ite_dec (fun h2 => ?_) (fun h2 => ?_) | with_reducible refine ite_ndec (fun h2 => ?_) (fun h2 => ?_) | with_reducible refine ite_some (fun i_ h2 => ?_) (fun h2 => ?_) | with_reducible refine ite_nsome (fun h2 => ?_) (fun i_ h2 => ?_) | with_reducible refine ite_cases (fun h2 => ?_) (fun h2 => ?_))
        · rw [hoardlaw4_heavy_j2_def, hoardlaw4_heavy_j2_raw]
          repeat (first | with_reducible refine nilck_some ?_ | ((with_reducible refine atLd ?_); first | refine ld_b hs ?_ | refine ld_b (x := ⟨_, _, _⟩) hs ?_ | refine ld_r0 hs ?_ | refine ld_r1 hs ?_ | refine ld_r2 hs ?_ | refine ld_r3 hs ?_ | refine ld_r4 hs ?_ | refine ld_rd0 ha_ hs ?_ | refine ld_rd1 ha_ hs ?_ | refine ld_rd2 ha_ hs ?_ | refine ld_rd3 ha_ hs ?_ | refine ld_rd4 ha_ hs ?_ | fail) | ((with_reducible refine isSt ?_); first | refine st_b hs fun w hs => ?_ | refine st_rec5 hs fun w hs => ?_ | refine st_rec4 hs fun w hs => ?_ | refine st_rec3 hs fun w hs => ?_ | refine st_rec2 hs fun w hs => ?_ | refine st_r0 hs fun w hs => ?_ | refine st_r1 hs fun w hs => ?_ | fail) | ((with_reducible refine isIdx ?_); first | refine idx_s hs fun b_ o_ hs => ?_ | refine idx_a hs ?_ | refine idx_rd hs fun b_ o_ ha_ => ?_ | fail) | ((with_reducible refine isNew ?_); first | refine newB_at hs fun b_ w hs => ?_ | fail) | ((with_reducible refine isLdS ?_); first | refine ldS_b ?_ | refine ldS_b (x := ⟨_, _, _⟩) ?_ | refine ldS_r0 ?_ | refine ldS_r1 ?_ | refine ldS_r2 ?_ | refine ldS_r3 ?_ | refine ldS_rs0 hs ?_ | refine ldS_rs1 hs ?_ | refine ldS_rs2 hs ?_ | refine ldS_rs3 hs ?_ | refine ldS_rd0 ha_ ?_ | refine ldS_rd1 ha_ ?_ | refine ldS_rd2 ha_ ?_ | refine ldS_rd3 ha_ ?_ | fail) | ((with_reducible refine isKeep ?_); first | refine keep_of hs ?_ | refine keep_imp hs ?_ | fail) | ((with_reducible refine isWhen ?_); first | refine when_om ?_ | fail) | ((with_reducible refine isDraw ?_); first | refine drawW_sat hs fun w hs => ?_ | fail))
          (first | with_reducible refine ite_ltI (fun h3 => ?_) (fun h3 => ?_) | with_reducible refine ite_leI (fun h3 => ?_) (fun h3 => ?_) | with_reducible refine ite_gtI (fun h3 => ?_) (fun h3 => ?_) | with_reducible refine ite_geI (fun h3 => ?_) (fun h3 => ?_) | with_reducible refine ite_eqI (fun h3 => ?_) (fun h3 => ?_) | with_reducible refine ite_neI (fun h3 => ?_) (fun h3 => ?_) | with_reducible refine ite_eqS (fun h3 => ?_) (fun h3 => ?_) | with_reducible refine ite_neS (fun h3 => ?_) (fun h3 => ?_) | with_reducible refine ite_dec (fun h3 => ?_) (fun h3 => ?_) | with_reducible refine ite_ndec (fun h3 => ?_) (fun h3 => ?_) | with_reducible refine ite_some (fun i_ h3 => ?_) (fun h3 => ?_) | with_reducible refine ite_nsome (fun h3 => ?_) (fun i_ h3 => ?_) | with_reducible refine ite_cases (fun h3 => ?_) (fun h3 => ?_))
          · exact ⟨_, rfl, hs⟩
          · rw [i64_in _ (by omega)]
            exact ih (i + 1) w (by omega) hs
        · rw [hoardlaw4_heavy_j3_def, hoardlaw4_heavy_j3_raw]
          exact ⟨_, rfl, hs⟩
      · rw [hoardlaw4_heavy_j3_def, hoardlaw4_heavy_j3_raw]
        exact ⟨_, rfl, hs⟩
  refine ⟨N + 1, ?_⟩
  exact loop N 0 w (by omega) hs

/-! a nil list -/
theorem nil_has (hs : Sat W w L) {x : Int} : Calls Try.prog id_list_List_string_has #[.pointer none, .int .i64 x] w fun e w' => e = .returned (.bool false) ∧ Sat W w' L := by
  refine c1 (list_List_string_has_calls ?_)
  rw [list_List_string_has_def, list_List_string_has_raw]
  exact ite_false rfl ⟨rfl, hs⟩
theorem nil_Get (hs : Sat W w L) {x : Int} : Calls Try.prog id_list_List_string_Get #[.pointer none, .int .i64 x] w fun e w' => e = .returned (.tuple #[.string str_empty, .bool false]) ∧ Sat W w' L := by
  refine c1 (list_List_string_Get_calls ?_)
  rw [list_List_string_Get_def, list_List_string_Get_raw]
  exact call1_of (nil_has hs) fun e w ⟨he, hs⟩ => ⟨_, he, ite_true rfl ⟨rfl, hs⟩⟩
theorem nil_Remove (hs : Sat W w L) {x : Int} : Calls Try.prog id_list_List_string_Remove #[.pointer none, .int .i64 x] w fun e w' => e = .returned (.tuple #[.string str_empty, .bool false]) ∧ Sat W w' L := by
  refine c1 (list_List_string_Remove_calls ?_)
  rw [list_List_string_Remove_def, list_List_string_Remove_raw]
  exact call2_of (nil_Get hs) fun e w ⟨he, hs⟩ => ⟨_, _, he, ite_false rfl ⟨rfl, hs⟩⟩
theorem nil_PushFront (hs : Sat W w L) {x : ByteArray} : Calls Try.prog id_list_List_string_PushFront #[.pointer none, .string x] w fun e w' => e = .returned (.int .i64 0) ∧ Sat W w' L := by
  refine c1 (list_List_string_PushFront_calls ?_)
  rw [list_List_string_PushFront_def, list_List_string_PushFront_raw]
  exact ite_true rfl ⟨rfl, hs⟩
theorem nil_PushBack (hs : Sat W w L) {x : ByteArray} : Calls Try.prog id_list_List_string_PushBack #[.pointer none, .string x] w fun e w' => e = .returned (.int .i64 0) ∧ Sat W w' L := by
  refine c1 (list_List_string_PushBack_calls ?_)
  rw [list_List_string_PushBack_def, list_List_string_PushBack_raw]
  exact ite_true rfl ⟨rfl, hs⟩
theorem nil_Set (hs : Sat W w L) {x : Int} {v : ByteArray} : Calls Try.prog id_list_List_string_Set #[.pointer none, .int .i64 x, .string v] w fun e w' => e = .returned (.bool false) ∧ Sat W w' L := by
  refine c1 (list_List_string_Set_calls ?_)
  rw [list_List_string_Set_def, list_List_string_Set_raw]
  exact call1_of (nil_has hs) fun e w ⟨he, hs⟩ => ⟨_, he, ite_true rfl ⟨rfl, hs⟩⟩
theorem nil_ToFront (hs : Sat W w L) {x : Int} : Calls Try.prog id_list_List_string_ToFront #[.pointer none, .int .i64 x] w fun e w' => e = .returned (.bool false) ∧ Sat W w' L := by
  refine c1 (list_List_string_ToFront_calls ?_)
  rw [list_List_string_ToFront_def, list_List_string_ToFront_raw]
  exact call1_of (nil_has hs) fun e w ⟨he, hs⟩ => ⟨_, he, ite_true rfl ⟨rfl, hs⟩⟩
theorem nil_ToBack (hs : Sat W w L) {x : Int} : Calls Try.prog id_list_List_string_ToBack #[.pointer none, .int .i64 x] w fun e w' => e = .returned (.bool false) ∧ Sat W w' L := by
  refine c1 (list_List_string_ToBack_calls ?_)
  rw [list_List_string_ToBack_def, list_List_string_ToBack_raw]
  exact call1_of (nil_has hs) fun e w ⟨he, hs⟩ => ⟨_, he, ite_true rfl ⟨rfl, hs⟩⟩
theorem nil_Front (hs : Sat W w L) : Calls Try.prog id_list_List_string_Front #[.pointer none] w fun e w' => e = .returned (.int .i64 0) ∧ Sat W w' L := by
  refine c1 (list_List_string_Front_calls ?_)
  rw [list_List_string_Front_def, list_List_string_Front_raw]
  exact ite_true rfl ⟨rfl, hs⟩
theorem nil_Back (hs : Sat W w L) : Calls Try.prog id_list_List_string_Back #[.pointer none] w fun e w' => e = .returned (.int .i64 0) ∧ Sat W w' L := by
  refine c1 (list_List_string_Back_calls ?_)
  rw [list_List_string_Back_def, list_List_string_Back_raw]
  exact ite_true rfl ⟨rfl, hs⟩
theorem nil_Len (hs : Sat W w L) : Calls Try.prog id_list_List_string_Len #[.pointer none] w fun e w' => e = .returned (.int .i64 0) ∧ Sat W w' L := by
  refine c1 (list_List_string_Len_calls ?_)
  rw [list_List_string_Len_def, list_List_string_Len_raw]
  exact ite_true rfl ⟨rfl, hs⟩
theorem nil_Next (hs : Sat W w L) {x : Int} : Calls Try.prog id_list_List_string_Next #[.pointer none, .int .i64 x] w fun e w' => e = .returned (.int .i64 0) ∧ Sat W w' L := by
  refine c1 (list_List_string_Next_calls ?_)
  rw [list_List_string_Next_def, list_List_string_Next_raw]
  exact call1_of (nil_has hs) fun e w ⟨he, hs⟩ => ⟨_, he, ite_true rfl ⟨rfl, hs⟩⟩
theorem nil_Prev (hs : Sat W w L) {x : Int} : Calls Try.prog id_list_List_string_Prev #[.pointer none, .int .i64 x] w fun e w' => e = .returned (.int .i64 0) ∧ Sat W w' L := by
  refine c1 (list_List_string_Prev_calls ?_)
  rw [list_List_string_Prev_def, list_List_string_Prev_raw]
  exact call1_of (nil_has hs) fun e w ⟨he, hs⟩ => ⟨_, he, ite_true rfl ⟨rfl, hs⟩⟩
theorem nil_All (hs : Sat W w L) : Calls Try.prog id_list_List_string_All #[.pointer none] w fun e w' => e = .returned (.slice none 0 0) ∧ Sat W w' L := by
  refine c1 (list_List_string_All_calls ?_)
  rw [list_List_string_All_def, list_List_string_All_raw]
  refine call1_of (nil_Front hs) fun e w ⟨he, hs⟩ => ⟨_, he, 0 + 1, ?_⟩
  show list_List_string_All_l1 idJ _ (0 + 1) _ _ _ _
  rw [list_List_string_All_l1_raw]
  refine ite_false rfl ?_
  rw [list_List_string_All_j2_def, list_List_string_All_j2_raw]
  exact ⟨rfl, hs⟩
theorem nothing_walk {h : Int} {s : ByteArray} : Calls Try.prog id_hoardlaw4_ListOfNothing #[.int .i64 h, .string s] W fun e w' => e = .returned (.bool true) ∧ KeptH W w' := by
  have hs := Sat.begin W
  refine law_of (hoardlaw4_ListOfNothing_calls ?_)
  rw [hoardlaw4_ListOfNothing_def, hoardlaw4_ListOfNothing_raw]
  refine call2_of (nil_Get hs) fun e w ⟨he, hs⟩ => ⟨_, _, he, ?_⟩
  refine call2_of (nil_Remove hs) fun e w ⟨he, hs⟩ => ⟨_, _, he, ?_⟩
  refine call1_of (nil_PushFront hs) fun e w ⟨he, hs⟩ => ⟨_, he, ite_true rfl ?_⟩
  refine call1_of (nil_PushBack hs) fun e w ⟨he, hs⟩ => ⟨_, he, ite_true rfl ?_⟩
  refine ite_true (by rw [sEq_eq]; rfl) (ite_true rfl (ite_true (by rw [sEq_eq]; rfl) (ite_true rfl ?_)))
  refine call1_of (nil_Set hs) fun e w ⟨he, hs⟩ => ⟨_, he, ite_true rfl ?_⟩
  refine call1_of (nil_ToFront hs) fun e w ⟨he, hs⟩ => ⟨_, he, ite_true rfl ?_⟩
  refine call1_of (nil_ToBack hs) fun e w ⟨he, hs⟩ => ⟨_, he, ite_true rfl ?_⟩
  refine call1_of (nil_Front hs) fun e w ⟨he, hs⟩ => ⟨_, he, ite_true rfl ?_⟩
  refine call1_of (nil_Back hs) fun e w ⟨he, hs⟩ => ⟨_, he, ite_true rfl ?_⟩
  refine call1_of (nil_Next hs) fun e w ⟨he, hs⟩ => ⟨_, he, ite_true rfl ?_⟩
  refine call1_of (nil_Prev hs) fun e w ⟨he, hs⟩ => ⟨_, he, ite_true rfl ?_⟩
  refine call1_of (nil_Len hs) fun e w ⟨he, hs⟩ => ⟨_, he, ite_true rfl ?_⟩
  refine (nil_All hs).mono fun e w ⟨he, hs⟩ => ⟨⟨none, 0, 0⟩, he, ite_true rfl ?_⟩
  exact call1_of (known4 hs) fun e w ⟨he, hs⟩ => ⟨_, he, rfl, hs⟩

/-! scripts -/
theorem act4_at {b1 b2 : Nat} {row : List (Nat × ByteArray)} {free : List Nat} {k h : Int} {s : ByteArray} (hr : row.length + free.length < 1000000000) (hs : Sat W w (lst .string b1 row free :: rlst b2 row free :: L)) :
    Calls Try.prog id_hoardlaw4_act #[.pointer (some ⟨b1, 0, none⟩), .pointer (some ⟨b2, 0, none⟩), .agg #[.int .i64 k, .int .i64 h, .string s]] w fun e w' => e = .returned (.bool true) ∧
      ∃ row' free', row'.length + free'.length ≤ row.length + free.length + 1 ∧ (row'.length + free'.length ≤ row.length + free.length ∨ row'.length = row.length + free.length + 1) ∧ Sat W w' (lst .string b1 row' free' :: rlst b2 row' free' :: L) := by
  refine (hoardlaw4_act_calls (Q := fun v w' => v = .bool true ∧ ∃ row' free', row'.length + free'.length ≤ row.length + free.length + 1 ∧ (row'.length + free'.length ≤ row.length + free.length ∨ row'.length = row.length + free.length + 1) ∧ Sat W w' (lst .string b1 row' free' :: rlst b2 row' free' :: L)) ?_).mono fun e w' ⟨v, he, hv, hs⟩ => ⟨by rw [he, hv], hs⟩
  rw [hoardlaw4_act_def, hoardlaw4_act_raw]
  have hfree : free = [] ∨ 0 < free.length := by cases free <;> simp
  have hdp : free.dropLast.length = free.length - 1 := by simp
  repeat (first | with_reducible refine nilck_some ?_ | ((with_reducible refine atLd ?_); first | refine ld_b hs ?_ | refine ld_b (x := ⟨_, _, _⟩) hs ?_ | refine ld_r0 hs ?_ | refine ld_r1 hs ?_ | refine ld_r2 hs ?_ | refine ld_r3 hs ?_ | refine ld_r4 hs ?_ | refine ld_rd0 ha_ hs ?_ | refine ld_rd1 ha_ hs ?_ | refine ld_rd2 ha_ hs ?_ | refine ld_rd3 ha_ hs ?_ | refine ld_rd4 ha_ hs ?_ | fail) | ((with_reducible refine isSt ?_); first | refine st_b hs fun w hs => ?_ | refine st_rec5 hs fun w hs => ?_ | refine st_rec4 hs fun w hs => ?_ | refine st_rec3 hs fun w hs => ?_ | refine st_rec2 hs fun w hs => ?_ | refine st_r0 hs fun w hs => ?_ | refine st_r1 hs fun w hs => ?_ | fail) | ((with_reducible refine isIdx ?_); first | refine idx_s hs fun b_ o_ hs => ?_ | refine idx_a hs ?_ | refine idx_rd hs fun b_ o_ ha_ => ?_ | fail) | ((with_reducible refine isNew ?_); first | refine newB_at hs fun b_ w hs => ?_ | fail) | ((with_reducible refine isLdS ?_); first | refine ldS_b ?_ | refine ldS_b (x := ⟨_, _, _⟩) ?_ | refine ldS_r0 ?_ | refine ldS_r1 ?_ | refine ldS_r2 ?_ | refine ldS_r3 ?_ | refine ldS_rs0 hs ?_ | refine ldS_rs1 hs ?_ | refine ldS_rs2 hs ?_ | refine ldS_rs3 hs ?_ | refine ldS_rd0 ha_ ?_ | refine ldS_rd1 ha_ ?_ | refine ldS_rd2 ha_ ?_ | refine ldS_rd3 ha_ ?_ | fail) | ((with_reducible refine isKeep ?_); first | refine keep_of hs ?_ | refine keep_imp hs ?_ | fail) | ((with_reducible refine isWhen ?_); first | refine when_om ?_ | fail) | ((with_reducible refine isDraw ?_); first | refine drawW_sat hs fun w hs => ?_ | fail))
  (first | with_reducible refine ite_ltI (fun h1 => ?_) (fun h1 => ?_) | with_reducible refine ite_leI (fun h1 => ?_) (fun h1 => ?_) | with_reducible refine ite_gtI (fun h1 => ?_) (fun h1 => ?_) | with_reducible refine ite_geI (fun h1 => ?_) (fun h1 => ?_) | with_reducible refine ite_eqI (fun h1 => ?_) (fun h1 => ?_) | with_reducible refine ite_neI (fun h1 => ?_) (fun h1 => ?_) | with_reducible refine ite_eqS (fun h1 => ?_) (fun h1 => ?_) | with_reducible refine ite_neS (fun h1 => ?_) (fun h1 => ?_) | with_reducible refine ite_dec (fun h1 => ?_) (fun h1 => ?_) | with_reducible refine ite_ndec (fun h1 => ?_) (fun h1 => ?_) | with_reducible refine ite_some (fun i_ h1 => ?_) (fun h1 => ?_) | with_reducible refine ite_nsome (fun h1 => ?_) (fun i_ h1 => ?_) | with_reducible refine ite_cases (fun h1 => ?_) (fun h1 => ?_))
  · refine drawW_only [blk b_ [.int .i64 k, .int .i64 h, .string s]] hs fun w hs => ?_
    repeat (first | with_reducible refine nilck_some ?_ | ((with_reducible refine atLd ?_); first | refine ld_b hs ?_ | refine ld_b (x := ⟨_, _, _⟩) hs ?_ | refine ld_r0 hs ?_ | refine ld_r1 hs ?_ | refine ld_r2 hs ?_ | refine ld_r3 hs ?_ | refine ld_r4 hs ?_ | refine ld_rd0 ha_ hs ?_ | refine ld_rd1 ha_ hs ?_ | refine ld_rd2 ha_ hs ?_ | refine ld_rd3 ha_ hs ?_ | refine ld_rd4 ha_ hs ?_ | fail) | ((with_reducible refine isSt ?_); first | refine st_b hs fun w hs => ?_ | refine st_rec5 hs fun w hs => ?_ | refine st_rec4 hs fun w hs => ?_ | refine st_rec3 hs fun w hs => ?_ | refine st_rec2 hs fun w hs => ?_ | refine st_r0 hs fun w hs => ?_ | refine st_r1 hs fun w hs => ?_ | fail) | ((with_reducible refine isIdx ?_); first | refine idx_s hs fun b_ o_ hs => ?_ | refine idx_a hs ?_ | refine idx_rd hs fun b_ o_ ha_ => ?_ | fail) | ((with_reducible refine isNew ?_); first | refine newB_at hs fun b_ w hs => ?_ | fail) | ((with_reducible refine isLdS ?_); first | refine ldS_b ?_ | refine ldS_b (x := ⟨_, _, _⟩) ?_ | refine ldS_r0 ?_ | refine ldS_r1 ?_ | refine ldS_r2 ?_ | refine ldS_r3 ?_ | refine ldS_rs0 hs ?_ | refine ldS_rs1 hs ?_ | refine ldS_rs2 hs ?_ | refine ldS_rs3 hs ?_ | refine ldS_rd0 ha_ ?_ | refine ldS_rd1 ha_ ?_ | refine ldS_rd2 ha_ ?_ | refine ldS_rd3 ha_ ?_ | fail) | ((with_reducible refine isKeep ?_); first | refine keep_of hs ?_ | refine keep_imp hs ?_ | fail) | ((with_reducible refine isWhen ?_); first | refine when_om ?_ | fail) | ((with_reducible refine isDraw ?_); first | refine drawW_sat hs fun w hs => ?_ | fail))
    refine call1_of (string_PushFront hs (by omega)) fun e w ⟨he, hs⟩ => ⟨_, he, ?_⟩
    repeat (first | with_reducible refine nilck_some ?_ | ((with_reducible refine atLd ?_); first | refine ld_b hs ?_ | refine ld_b (x := ⟨_, _, _⟩) hs ?_ | refine ld_r0 hs ?_ | refine ld_r1 hs ?_ | refine ld_r2 hs ?_ | refine ld_r3 hs ?_ | refine ld_r4 hs ?_ | refine ld_rd0 ha_ hs ?_ | refine ld_rd1 ha_ hs ?_ | refine ld_rd2 ha_ hs ?_ | refine ld_rd3 ha_ hs ?_ | refine ld_rd4 ha_ hs ?_ | fail) | ((with_reducible refine isSt ?_); first | refine st_b hs fun w hs => ?_ | refine st_rec5 hs fun w hs => ?_ | refine st_rec4 hs fun w hs => ?_ | refine st_rec3 hs fun w hs => ?_ | refine st_rec2 hs fun w hs => ?_ | refine st_r0 hs fun w hs => ?_ | refine st_r1 hs fun w hs => ?_ | fail) | ((with_reducible refine isIdx ?_); first | refine idx_s hs fun b_ o_ hs => ?_ | refine idx_a hs ?_ | refine idx_rd hs fun b_ o_ ha_ => ?_ | fail) | ((with_reducible refine isNew ?_); first | refine newB_at hs fun b_ w hs => ?_ | fail) | ((with_reducible refine isLdS ?_); first | refine ldS_b ?_ | refine ldS_b (x := ⟨_, _, _⟩) ?_ | refine ldS_r0 ?_ | refine ldS_r1 ?_ | refine ldS_r2 ?_ | refine ldS_r3 ?_ | refine ldS_rs0 hs ?_ | refine ldS_rs1 hs ?_ | refine ldS_rs2 hs ?_ | refine ldS_rs3 hs ?_ | refine ldS_rd0 ha_ ?_ | refine ldS_rd1 ha_ ?_ | refine ldS_rd2 ha_ ?_ | refine ldS_rd3 ha_ ?_ | fail) | ((with_reducible refine isKeep ?_); first | refine keep_of hs ?_ | refine keep_imp hs ?_ | fail) | ((with_reducible refine isWhen ?_); first | refine when_om ?_ | fail) | ((with_reducible refine isDraw ?_); first | refine drawW_sat hs fun w hs => ?_ | fail))
    refine call1_of (r4_PushFront hs (by omega)) fun e w ⟨he, hs⟩ => ⟨_, he, ?_⟩
    refine ⟨by simp, _, _, ?_, ?_, by exact Sat.fin hs⟩
    · simp only [List.length_cons]; omega
    · simp only [List.length_cons]; rcases hfree with rfl | h0
      · right; simp
      · left; omega
  (first | with_reducible refine ite_ltI (fun h2 => ?_) (fun h2 => ?_) | with_reducible refine ite_leI (fun h2 => ?_) (fun h2 => ?_) | with_reducible refine ite_gtI (fun h2 => ?_) (fun h2 => ?_) | with_reducible refine ite_geI (fun h2 => ?_) (fun h2 => ?_) | with_reducible refine ite_eqI (fun h2 => ?_) (fun h2 => ?_) | with_reducible refine ite_neI (fun h2 => ?_) (fun h2 => ?_) | with_reducible refine ite_eqS (fun h2 => ?_) (fun h2 => ?_) | with_reducible refine ite_neS (fun h2 => ?_) (fun h2 => ?_) | with_reducible refine ite_dec (fun h2 => ?_) (fun h2 => ?_) | with_reducible refine ite_ndec (fun h2 => ?_) (fun h2 => ?_) | with_reducible refine ite_some (fun i_ h2 => ?_) (fun h2 => ?_) | with_reducible refine ite_nsome (fun h2 => ?_) (fun i_ h2 => ?_) | with_reducible refine ite_cases (fun h2 => ?_) (fun h2 => ?_))
  · refine drawW_only [blk b_ [.int .i64 k, .int .i64 h, .string s]] hs fun w hs => ?_
    repeat (first | with_reducible refine nilck_some ?_ | ((with_reducible refine atLd ?_); first | refine ld_b hs ?_ | refine ld_b (x := ⟨_, _, _⟩) hs ?_ | refine ld_r0 hs ?_ | refine ld_r1 hs ?_ | refine ld_r2 hs ?_ | refine ld_r3 hs ?_ | refine ld_r4 hs ?_ | refine ld_rd0 ha_ hs ?_ | refine ld_rd1 ha_ hs ?_ | refine ld_rd2 ha_ hs ?_ | refine ld_rd3 ha_ hs ?_ | refine ld_rd4 ha_ hs ?_ | fail) | ((with_reducible refine isSt ?_); first | refine st_b hs fun w hs => ?_ | refine st_rec5 hs fun w hs => ?_ | refine st_rec4 hs fun w hs => ?_ | refine st_rec3 hs fun w hs => ?_ | refine st_rec2 hs fun w hs => ?_ | refine st_r0 hs fun w hs => ?_ | refine st_r1 hs fun w hs => ?_ | fail) | ((with_reducible refine isIdx ?_); first | refine idx_s hs fun b_ o_ hs => ?_ | refine idx_a hs ?_ | refine idx_rd hs fun b_ o_ ha_ => ?_ | fail) | ((with_reducible refine isNew ?_); first | refine newB_at hs fun b_ w hs => ?_ | fail) | ((with_reducible refine isLdS ?_); first | refine ldS_b ?_ | refine ldS_b (x := ⟨_, _, _⟩) ?_ | refine ldS_r0 ?_ | refine ldS_r1 ?_ | refine ldS_r2 ?_ | refine ldS_r3 ?_ | refine ldS_rs0 hs ?_ | refine ldS_rs1 hs ?_ | refine ldS_rs2 hs ?_ | refine ldS_rs3 hs ?_ | refine ldS_rd0 ha_ ?_ | refine ldS_rd1 ha_ ?_ | refine ldS_rd2 ha_ ?_ | refine ldS_rd3 ha_ ?_ | fail) | ((with_reducible refine isKeep ?_); first | refine keep_of hs ?_ | refine keep_imp hs ?_ | fail) | ((with_reducible refine isWhen ?_); first | refine when_om ?_ | fail) | ((with_reducible refine isDraw ?_); first | refine drawW_sat hs fun w hs => ?_ | fail))
    refine call1_of (string_PushBack hs (by omega)) fun e w ⟨he, hs⟩ => ⟨_, he, ?_⟩
    repeat (first | with_reducible refine nilck_some ?_ | ((with_reducible refine atLd ?_); first | refine ld_b hs ?_ | refine ld_b (x := ⟨_, _, _⟩) hs ?_ | refine ld_r0 hs ?_ | refine ld_r1 hs ?_ | refine ld_r2 hs ?_ | refine ld_r3 hs ?_ | refine ld_r4 hs ?_ | refine ld_rd0 ha_ hs ?_ | refine ld_rd1 ha_ hs ?_ | refine ld_rd2 ha_ hs ?_ | refine ld_rd3 ha_ hs ?_ | refine ld_rd4 ha_ hs ?_ | fail) | ((with_reducible refine isSt ?_); first | refine st_b hs fun w hs => ?_ | refine st_rec5 hs fun w hs => ?_ | refine st_rec4 hs fun w hs => ?_ | refine st_rec3 hs fun w hs => ?_ | refine st_rec2 hs fun w hs => ?_ | refine st_r0 hs fun w hs => ?_ | refine st_r1 hs fun w hs => ?_ | fail) | ((with_reducible refine isIdx ?_); first | refine idx_s hs fun b_ o_ hs => ?_ | refine idx_a hs ?_ | refine idx_rd hs fun b_ o_ ha_ => ?_ | fail) | ((with_reducible refine isNew ?_); first | refine newB_at hs fun b_ w hs => ?_ | fail) | ((with_reducible refine isLdS ?_); first | refine ldS_b ?_ | refine ldS_b (x := ⟨_, _, _⟩) ?_ | refine ldS_r0 ?_ | refine ldS_r1 ?_ | refine ldS_r2 ?_ | refine ldS_r3 ?_ | refine ldS_rs0 hs ?_ | refine ldS_rs1 hs ?_ | refine ldS_rs2 hs ?_ | refine ldS_rs3 hs ?_ | refine ldS_rd0 ha_ ?_ | refine ldS_rd1 ha_ ?_ | refine ldS_rd2 ha_ ?_ | refine ldS_rd3 ha_ ?_ | fail) | ((with_reducible refine isKeep ?_); first | refine keep_of hs ?_ | refine keep_imp hs ?_ | fail) | ((with_reducible refine isWhen ?_); first | refine when_om ?_ | fail) | ((with_reducible refine isDraw ?_); first | refine drawW_sat hs fun w hs => ?_ | fail))
    refine call1_of (r4_PushBack hs (by omega)) fun e w ⟨he, hs⟩ => ⟨_, he, ?_⟩
    refine ⟨by simp, _, _, ?_, ?_, by exact Sat.fin hs⟩
    · simp only [List.length_append, List.length_cons, List.length_nil]; omega
    · simp only [List.length_append, List.length_cons, List.length_nil]; rcases hfree with rfl | h0
      · right; simp
      · left; omega
  (first | with_reducible refine ite_ltI (fun h3 => ?_) (fun h3 => ?_) | with_reducible refine ite_leI (fun h3 => ?_) (fun h3 => ?_) | with_reducible refine ite_gtI (fun h3 => ?_) (fun h3 => ?_) | with_reducible refine ite_geI (fun h3 => ?_) (fun h3 => ?_) | with_reducible refine ite_eqI (fun h3 => ?_) (fun h3 => ?_) | with_reducible refine ite_neI (fun h3 => ?_) (fun h3 => ?_) | with_reducible refine ite_eqS (fun h3 => ?_) (fun h3 => ?_) | with_reducible refine ite_neS (fun h3 => ?_) (fun h3 => ?_) | with_reducible refine ite_dec (fun h3 => ?_) (fun h3 => ?_) | with_reducible refine ite_ndec (fun h3 => ?_) (fun h3 => ?_) | with_reducible refine ite_some (fun i_ h3 => ?_) (fun h3 => ?_) | with_reducible refine ite_nsome (fun h3 => ?_) (fun i_ h3 => ?_) | with_reducible refine ite_cases (fun h3 => ?_) (fun h3 => ?_))
  · repeat (first | with_reducible refine nilck_some ?_ | ((with_reducible refine atLd ?_); first | refine ld_b hs ?_ | refine ld_b (x := ⟨_, _, _⟩) hs ?_ | refine ld_r0 hs ?_ | refine ld_r1 hs ?_ | refine ld_r2 hs ?_ | refine ld_r3 hs ?_ | refine ld_r4 hs ?_ | refine ld_rd0 ha_ hs ?_ | refine ld_rd1 ha_ hs ?_ | refine ld_rd2 ha_ hs ?_ | refine ld_rd3 ha_ hs ?_ | refine ld_rd4 ha_ hs ?_ | fail) | ((with_reducible refine isSt ?_); first | refine st_b hs fun w hs => ?_ | refine st_rec5 hs fun w hs => ?_ | refine st_rec4 hs fun w hs => ?_ | refine st_rec3 hs fun w hs => ?_ | refine st_rec2 hs fun w hs => ?_ | refine st_r0 hs fun w hs => ?_ | refine st_r1 hs fun w hs => ?_ | fail) | ((with_reducible refine isIdx ?_); first | refine idx_s hs fun b_ o_ hs => ?_ | refine idx_a hs ?_ | refine idx_rd hs fun b_ o_ ha_ => ?_ | fail) | ((with_reducible refine isNew ?_); first | refine newB_at hs fun b_ w hs => ?_ | fail) | ((with_reducible refine isLdS ?_); first | refine ldS_b ?_ | refine ldS_b (x := ⟨_, _, _⟩) ?_ | refine ldS_r0 ?_ | refine ldS_r1 ?_ | refine ldS_r2 ?_ | refine ldS_r3 ?_ | refine ldS_rs0 hs ?_ | refine ldS_rs1 hs ?_ | refine ldS_rs2 hs ?_ | refine ldS_rs3 hs ?_ | refine ldS_rd0 ha_ ?_ | refine ldS_rd1 ha_ ?_ | refine ldS_rd2 ha_ ?_ | refine ldS_rd3 ha_ ?_ | fail) | ((with_reducible refine isKeep ?_); first | refine keep_of hs ?_ | refine keep_imp hs ?_ | fail) | ((with_reducible refine isWhen ?_); first | refine when_om ?_ | fail) | ((with_reducible refine isDraw ?_); first | refine drawW_sat hs fun w hs => ?_ | fail))
    refine call2_of (string_Remove hs (by omega)) fun e w ⟨he, hs⟩ => ⟨_, _, he, ?_⟩
    repeat (first | with_reducible refine nilck_some ?_ | ((with_reducible refine atLd ?_); first | refine ld_b hs ?_ | refine ld_b (x := ⟨_, _, _⟩) hs ?_ | refine ld_r0 hs ?_ | refine ld_r1 hs ?_ | refine ld_r2 hs ?_ | refine ld_r3 hs ?_ | refine ld_r4 hs ?_ | refine ld_rd0 ha_ hs ?_ | refine ld_rd1 ha_ hs ?_ | refine ld_rd2 ha_ hs ?_ | refine ld_rd3 ha_ hs ?_ | refine ld_rd4 ha_ hs ?_ | fail) | ((with_reducible refine isSt ?_); first | refine st_b hs fun w hs => ?_ | refine st_rec5 hs fun w hs => ?_ | refine st_rec4 hs fun w hs => ?_ | refine st_rec3 hs fun w hs => ?_ | refine st_rec2 hs fun w hs => ?_ | refine st_r0 hs fun w hs => ?_ | refine st_r1 hs fun w hs => ?_ | fail) | ((with_reducible refine isIdx ?_); first | refine idx_s hs fun b_ o_ hs => ?_ | refine idx_a hs ?_ | refine idx_rd hs fun b_ o_ ha_ => ?_ | fail) | ((with_reducible refine isNew ?_); first | refine newB_at hs fun b_ w hs => ?_ | fail) | ((with_reducible refine isLdS ?_); first | refine ldS_b ?_ | refine ldS_b (x := ⟨_, _, _⟩) ?_ | refine ldS_r0 ?_ | refine ldS_r1 ?_ | refine ldS_r2 ?_ | refine ldS_r3 ?_ | refine ldS_rs0 hs ?_ | refine ldS_rs1 hs ?_ | refine ldS_rs2 hs ?_ | refine ldS_rs3 hs ?_ | refine ldS_rd0 ha_ ?_ | refine ldS_rd1 ha_ ?_ | refine ldS_rd2 ha_ ?_ | refine ldS_rd3 ha_ ?_ | fail) | ((with_reducible refine isKeep ?_); first | refine keep_of hs ?_ | refine keep_imp hs ?_ | fail) | ((with_reducible refine isWhen ?_); first | refine when_om ?_ | fail) | ((with_reducible refine isDraw ?_); first | refine drawW_sat hs fun w hs => ?_ | fail))
    refine call2_of (r4_Remove hs (by omega)) fun e w ⟨he, hs⟩ => ⟨_, _, he, ?_⟩
    refine ite_true (by rw [sEq_eq]; simp) ?_
    refine ⟨by simp, _, _, ?_, ?_, by exact Sat.fin hs⟩
    · cases hx : rAt row h with
      | none => simp only []; omega
      | some i => obtain ⟨_, _, _, _, hlt⟩ := rAt_some hx; simp [List.length_eraseIdx, hlt]; omega
    · left; cases hx : rAt row h with
      | none => simp only []; omega
      | some i => obtain ⟨_, _, _, _, hlt⟩ := rAt_some hx; simp [List.length_eraseIdx, hlt]; omega
  (first | with_reducible refine ite_ltI (fun h4 => ?_) (fun h4 => ?_) | with_reducible refine ite_leI (fun h4 => ?_) (fun h4 => ?_) | with_reducible refine ite_gtI (fun h4 => ?_) (fun h4 => ?_) | with_reducible refine ite_geI (fun h4 => ?_) (fun h4 => ?_) | with_reducible refine ite_eqI (fun h4 => ?_) (fun h4 => ?_) | with_reducible refine ite_neI (fun h4 => ?_) (fun h4 => ?_) | with_reducible refine ite_eqS (fun h4 => ?_) (fun h4 => ?_) | with_reducible refine ite_neS (fun h4 => ?_) (fun h4 => ?_) | with_reducible refine ite_dec (fun h4 => ?_) (fun h4 => ?_) | with_reducible refine ite_ndec (fun h4 => ?_) (fun h4 => ?_) | with_reducible refine ite_some (fun i_ h4 => ?_) (fun h4 => ?_) | with_reducible refine ite_nsome (fun h4 => ?_) (fun i_ h4 => ?_) | with_reducible refine ite_cases (fun h4 => ?_) (fun h4 => ?_))
  · refine drawW_only [blk b_ [.int .i64 k, .int .i64 h, .string s]] hs fun w hs => ?_
    repeat (first | with_reducible refine nilck_some ?_ | ((with_reducible refine atLd ?_); first | refine ld_b hs ?_ | refine ld_b (x := ⟨_, _, _⟩) hs ?_ | refine ld_r0 hs ?_ | refine ld_r1 hs ?_ | refine ld_r2 hs ?_ | refine ld_r3 hs ?_ | refine ld_r4 hs ?_ | refine ld_rd0 ha_ hs ?_ | refine ld_rd1 ha_ hs ?_ | refine ld_rd2 ha_ hs ?_ | refine ld_rd3 ha_ hs ?_ | refine ld_rd4 ha_ hs ?_ | fail) | ((with_reducible refine isSt ?_); first | refine st_b hs fun w hs => ?_ | refine st_rec5 hs fun w hs => ?_ | refine st_rec4 hs fun w hs => ?_ | refine st_rec3 hs fun w hs => ?_ | refine st_rec2 hs fun w hs => ?_ | refine st_r0 hs fun w hs => ?_ | refine st_r1 hs fun w hs => ?_ | fail) | ((with_reducible refine isIdx ?_); first | refine idx_s hs fun b_ o_ hs => ?_ | refine idx_a hs ?_ | refine idx_rd hs fun b_ o_ ha_ => ?_ | fail) | ((with_reducible refine isNew ?_); first | refine newB_at hs fun b_ w hs => ?_ | fail) | ((with_reducible refine isLdS ?_); first | refine ldS_b ?_ | refine ldS_b (x := ⟨_, _, _⟩) ?_ | refine ldS_r0 ?_ | refine ldS_r1 ?_ | refine ldS_r2 ?_ | refine ldS_r3 ?_ | refine ldS_rs0 hs ?_ | refine ldS_rs1 hs ?_ | refine ldS_rs2 hs ?_ | refine ldS_rs3 hs ?_ | refine ldS_rd0 ha_ ?_ | refine ldS_rd1 ha_ ?_ | refine ldS_rd2 ha_ ?_ | refine ldS_rd3 ha_ ?_ | fail) | ((with_reducible refine isKeep ?_); first | refine keep_of hs ?_ | refine keep_imp hs ?_ | fail) | ((with_reducible refine isWhen ?_); first | refine when_om ?_ | fail) | ((with_reducible refine isDraw ?_); first | refine drawW_sat hs fun w hs => ?_ | fail))
    refine call1_of (string_Set hs) fun e w ⟨he, hs⟩ => ⟨_, he, ?_⟩
    repeat (first | with_reducible refine nilck_some ?_ | ((with_reducible refine atLd ?_); first | refine ld_b hs ?_ | refine ld_b (x := ⟨_, _, _⟩) hs ?_ | refine ld_r0 hs ?_ | refine ld_r1 hs ?_ | refine ld_r2 hs ?_ | refine ld_r3 hs ?_ | refine ld_r4 hs ?_ | refine ld_rd0 ha_ hs ?_ | refine ld_rd1 ha_ hs ?_ | refine ld_rd2 ha_ hs ?_ | refine ld_rd3 ha_ hs ?_ | refine ld_rd4 ha_ hs ?_ | fail) | ((with_reducible refine isSt ?_); first | refine st_b hs fun w hs => ?_ | refine st_rec5 hs fun w hs => ?_ | refine st_rec4 hs fun w hs => ?_ | refine st_rec3 hs fun w hs => ?_ | refine st_rec2 hs fun w hs => ?_ | refine st_r0 hs fun w hs => ?_ | refine st_r1 hs fun w hs => ?_ | fail) | ((with_reducible refine isIdx ?_); first | refine idx_s hs fun b_ o_ hs => ?_ | refine idx_a hs ?_ | refine idx_rd hs fun b_ o_ ha_ => ?_ | fail) | ((with_reducible refine isNew ?_); first | refine newB_at hs fun b_ w hs => ?_ | fail) | ((with_reducible refine isLdS ?_); first | refine ldS_b ?_ | refine ldS_b (x := ⟨_, _, _⟩) ?_ | refine ldS_r0 ?_ | refine ldS_r1 ?_ | refine ldS_r2 ?_ | refine ldS_r3 ?_ | refine ldS_rs0 hs ?_ | refine ldS_rs1 hs ?_ | refine ldS_rs2 hs ?_ | refine ldS_rs3 hs ?_ | refine ldS_rd0 ha_ ?_ | refine ldS_rd1 ha_ ?_ | refine ldS_rd2 ha_ ?_ | refine ldS_rd3 ha_ ?_ | fail) | ((with_reducible refine isKeep ?_); first | refine keep_of hs ?_ | refine keep_imp hs ?_ | fail) | ((with_reducible refine isWhen ?_); first | refine when_om ?_ | fail) | ((with_reducible refine isDraw ?_); first | refine drawW_sat hs fun w hs => ?_ | fail))
    refine call1_of (r4_Set hs (by omega)) fun e w ⟨he, hs⟩ => ⟨_, he, ?_⟩
    have hl : (match rAt row h with | some i => rowSet row i s | none => row).length = row.length := by
      cases rAt row h <;> simp [rowSet]
    exact ⟨by simp, _, free, by rw [hl]; omega, .inl (by rw [hl]; omega), by exact Sat.fin hs⟩
  (first | with_reducible refine ite_ltI (fun h5 => ?_) (fun h5 => ?_) | with_reducible refine ite_leI (fun h5 => ?_) (fun h5 => ?_) | with_reducible refine ite_gtI (fun h5 => ?_) (fun h5 => ?_) | with_reducible refine ite_geI (fun h5 => ?_) (fun h5 => ?_) | with_reducible refine ite_eqI (fun h5 => ?_) (fun h5 => ?_) | with_reducible refine ite_neI (fun h5 => ?_) (fun h5 => ?_) | with_reducible refine ite_eqS (fun h5 => ?_) (fun h5 => ?_) | with_reducible refine ite_neS (fun h5 => ?_) (fun h5 => ?_) | with_reducible refine ite_dec (fun h5 => ?_) (fun h5 => ?_) | with_reducible refine ite_ndec (fun h5 => ?_) (fun h5 => ?_) | with_reducible refine ite_some (fun i_ h5 => ?_) (fun h5 => ?_) | with_reducible refine ite_nsome (fun h5 => ?_) (fun i_ h5 => ?_) | with_reducible refine ite_cases (fun h5 => ?_) (fun h5 => ?_))
  · refine drawW_only [blk b_ [.int .i64 k, .int .i64 h, .string s]] hs fun w hs => ?_
    repeat (first | with_reducible refine nilck_some ?_ | ((with_reducible refine atLd ?_); first | refine ld_b hs ?_ | refine ld_b (x := ⟨_, _, _⟩) hs ?_ | refine ld_r0 hs ?_ | refine ld_r1 hs ?_ | refine ld_r2 hs ?_ | refine ld_r3 hs ?_ | refine ld_r4 hs ?_ | refine ld_rd0 ha_ hs ?_ | refine ld_rd1 ha_ hs ?_ | refine ld_rd2 ha_ hs ?_ | refine ld_rd3 ha_ hs ?_ | refine ld_rd4 ha_ hs ?_ | fail) | ((with_reducible refine isSt ?_); first | refine st_b hs fun w hs => ?_ | refine st_rec5 hs fun w hs => ?_ | refine st_rec4 hs fun w hs => ?_ | refine st_rec3 hs fun w hs => ?_ | refine st_rec2 hs fun w hs => ?_ | refine st_r0 hs fun w hs => ?_ | refine st_r1 hs fun w hs => ?_ | fail) | ((with_reducible refine isIdx ?_); first | refine idx_s hs fun b_ o_ hs => ?_ | refine idx_a hs ?_ | refine idx_rd hs fun b_ o_ ha_ => ?_ | fail) | ((with_reducible refine isNew ?_); first | refine newB_at hs fun b_ w hs => ?_ | fail) | ((with_reducible refine isLdS ?_); first | refine ldS_b ?_ | refine ldS_b (x := ⟨_, _, _⟩) ?_ | refine ldS_r0 ?_ | refine ldS_r1 ?_ | refine ldS_r2 ?_ | refine ldS_r3 ?_ | refine ldS_rs0 hs ?_ | refine ldS_rs1 hs ?_ | refine ldS_rs2 hs ?_ | refine ldS_rs3 hs ?_ | refine ldS_rd0 ha_ ?_ | refine ldS_rd1 ha_ ?_ | refine ldS_rd2 ha_ ?_ | refine ldS_rd3 ha_ ?_ | fail) | ((with_reducible refine isKeep ?_); first | refine keep_of hs ?_ | refine keep_imp hs ?_ | fail) | ((with_reducible refine isWhen ?_); first | refine when_om ?_ | fail) | ((with_reducible refine isDraw ?_); first | refine drawW_sat hs fun w hs => ?_ | fail))
    refine call1_of (string_ToFront hs) fun e w ⟨he, hs⟩ => ⟨_, he, ?_⟩
    repeat (first | with_reducible refine nilck_some ?_ | ((with_reducible refine atLd ?_); first | refine ld_b hs ?_ | refine ld_b (x := ⟨_, _, _⟩) hs ?_ | refine ld_r0 hs ?_ | refine ld_r1 hs ?_ | refine ld_r2 hs ?_ | refine ld_r3 hs ?_ | refine ld_r4 hs ?_ | refine ld_rd0 ha_ hs ?_ | refine ld_rd1 ha_ hs ?_ | refine ld_rd2 ha_ hs ?_ | refine ld_rd3 ha_ hs ?_ | refine ld_rd4 ha_ hs ?_ | fail) | ((with_reducible refine isSt ?_); first | refine st_b hs fun w hs => ?_ | refine st_rec5 hs fun w hs => ?_ | refine st_rec4 hs fun w hs => ?_ | refine st_rec3 hs fun w hs => ?_ | refine st_rec2 hs fun w hs => ?_ | refine st_r0 hs fun w hs => ?_ | refine st_r1 hs fun w hs => ?_ | fail) | ((with_reducible refine isIdx ?_); first | refine idx_s hs fun b_ o_ hs => ?_ | refine idx_a hs ?_ | refine idx_rd hs fun b_ o_ ha_ => ?_ | fail) | ((with_reducible refine isNew ?_); first | refine newB_at hs fun b_ w hs => ?_ | fail) | ((with_reducible refine isLdS ?_); first | refine ldS_b ?_ | refine ldS_b (x := ⟨_, _, _⟩) ?_ | refine ldS_r0 ?_ | refine ldS_r1 ?_ | refine ldS_r2 ?_ | refine ldS_r3 ?_ | refine ldS_rs0 hs ?_ | refine ldS_rs1 hs ?_ | refine ldS_rs2 hs ?_ | refine ldS_rs3 hs ?_ | refine ldS_rd0 ha_ ?_ | refine ldS_rd1 ha_ ?_ | refine ldS_rd2 ha_ ?_ | refine ldS_rd3 ha_ ?_ | fail) | ((with_reducible refine isKeep ?_); first | refine keep_of hs ?_ | refine keep_imp hs ?_ | fail) | ((with_reducible refine isWhen ?_); first | refine when_om ?_ | fail) | ((with_reducible refine isDraw ?_); first | refine drawW_sat hs fun w hs => ?_ | fail))
    refine call1_of (r4_ToFront hs (by omega)) fun e w ⟨he, hs⟩ => ⟨_, he, ?_⟩
    have hl : (match rAt row h with | some i => rowItem row i ++ row.eraseIdx i | none => row).length = row.length := by
      cases hx : rAt row h with
      | none => rfl
      | some i => obtain ⟨_, he, _, _, hlt⟩ := rAt_some hx; simp [rowItem, he, List.length_eraseIdx, hlt]; omega
    exact ⟨by simp, _, free, by rw [hl]; omega, .inl (by rw [hl]; omega), by exact Sat.fin hs⟩
  (first | with_reducible refine ite_ltI (fun h6 => ?_) (fun h6 => ?_) | with_reducible refine ite_leI (fun h6 => ?_) (fun h6 => ?_) | with_reducible refine ite_gtI (fun h6 => ?_) (fun h6 => ?_) | with_reducible refine ite_geI (fun h6 => ?_) (fun h6 => ?_) | with_reducible refine ite_eqI (fun h6 => ?_) (fun h6 => ?_) | with_reducible refine ite_neI (fun h6 => ?_) (fun h6 => ?_) | with_reducible refine ite_eqS (fun h6 => ?_) (fun h6 => ?_) | with_reducible refine ite_neS (fun h6 => ?_) (fun h6 => ?_) | with_reducible refine ite_dec (fun h6 => ?_) (fun h6 => ?_) | with_reducible refine ite_ndec (fun h6 => ?_) (fun h6 => ?_) | with_reducible refine ite_some (fun i_ h6 => ?_) (fun h6 => ?_) | with_reducible refine ite_nsome (fun h6 => ?_) (fun i_ h6 => ?_) | with_reducible refine ite_cases (fun h6 => ?_) (fun h6 => ?_))
  · refine drawW_only [blk b_ [.int .i64 k, .int .i64 h, .string s]] hs fun w hs => ?_
    repeat (first | with_reducible refine nilck_some ?_ | ((with_reducible refine atLd ?_); first | refine ld_b hs ?_ | refine ld_b (x := ⟨_, _, _⟩) hs ?_ | refine ld_r0 hs ?_ | refine ld_r1 hs ?_ | refine ld_r2 hs ?_ | refine ld_r3 hs ?_ | refine ld_r4 hs ?_ | refine ld_rd0 ha_ hs ?_ | refine ld_rd1 ha_ hs ?_ | refine ld_rd2 ha_ hs ?_ | refine ld_rd3 ha_ hs ?_ | refine ld_rd4 ha_ hs ?_ | fail) | ((with_reducible refine isSt ?_); first | refine st_b hs fun w hs => ?_ | refine st_rec5 hs fun w hs => ?_ | refine st_rec4 hs fun w hs => ?_ | refine st_rec3 hs fun w hs => ?_ | refine st_rec2 hs fun w hs => ?_ | refine st_r0 hs fun w hs => ?_ | refine st_r1 hs fun w hs => ?_ | fail) | ((with_reducible refine isIdx ?_); first | refine idx_s hs fun b_ o_ hs => ?_ | refine idx_a hs ?_ | refine idx_rd hs fun b_ o_ ha_ => ?_ | fail) | ((with_reducible refine isNew ?_); first | refine newB_at hs fun b_ w hs => ?_ | fail) | ((with_reducible refine isLdS ?_); first | refine ldS_b ?_ | refine ldS_b (x := ⟨_, _, _⟩) ?_ | refine ldS_r0 ?_ | refine ldS_r1 ?_ | refine ldS_r2 ?_ | refine ldS_r3 ?_ | refine ldS_rs0 hs ?_ | refine ldS_rs1 hs ?_ | refine ldS_rs2 hs ?_ | refine ldS_rs3 hs ?_ | refine ldS_rd0 ha_ ?_ | refine ldS_rd1 ha_ ?_ | refine ldS_rd2 ha_ ?_ | refine ldS_rd3 ha_ ?_ | fail) | ((with_reducible refine isKeep ?_); first | refine keep_of hs ?_ | refine keep_imp hs ?_ | fail) | ((with_reducible refine isWhen ?_); first | refine when_om ?_ | fail) | ((with_reducible refine isDraw ?_); first | refine drawW_sat hs fun w hs => ?_ | fail))
    refine call1_of (string_ToBack hs) fun e w ⟨he, hs⟩ => ⟨_, he, ?_⟩
    repeat (first | with_reducible refine nilck_some ?_ | ((with_reducible refine atLd ?_); first | refine ld_b hs ?_ | refine ld_b (x := ⟨_, _, _⟩) hs ?_ | refine ld_r0 hs ?_ | refine ld_r1 hs ?_ | refine ld_r2 hs ?_ | refine ld_r3 hs ?_ | refine ld_r4 hs ?_ | refine ld_rd0 ha_ hs ?_ | refine ld_rd1 ha_ hs ?_ | refine ld_rd2 ha_ hs ?_ | refine ld_rd3 ha_ hs ?_ | refine ld_rd4 ha_ hs ?_ | fail) | ((with_reducible refine isSt ?_); first | refine st_b hs fun w hs => ?_ | refine st_rec5 hs fun w hs => ?_ | refine st_rec4 hs fun w hs => ?_ | refine st_rec3 hs fun w hs => ?_ | refine st_rec2 hs fun w hs => ?_ | refine st_r0 hs fun w hs => ?_ | refine st_r1 hs fun w hs => ?_ | fail) | ((with_reducible refine isIdx ?_); first | refine idx_s hs fun b_ o_ hs => ?_ | refine idx_a hs ?_ | refine idx_rd hs fun b_ o_ ha_ => ?_ | fail) | ((with_reducible refine isNew ?_); first | refine newB_at hs fun b_ w hs => ?_ | fail) | ((with_reducible refine isLdS ?_); first | refine ldS_b ?_ | refine ldS_b (x := ⟨_, _, _⟩) ?_ | refine ldS_r0 ?_ | refine ldS_r1 ?_ | refine ldS_r2 ?_ | refine ldS_r3 ?_ | refine ldS_rs0 hs ?_ | refine ldS_rs1 hs ?_ | refine ldS_rs2 hs ?_ | refine ldS_rs3 hs ?_ | refine ldS_rd0 ha_ ?_ | refine ldS_rd1 ha_ ?_ | refine ldS_rd2 ha_ ?_ | refine ldS_rd3 ha_ ?_ | fail) | ((with_reducible refine isKeep ?_); first | refine keep_of hs ?_ | refine keep_imp hs ?_ | fail) | ((with_reducible refine isWhen ?_); first | refine when_om ?_ | fail) | ((with_reducible refine isDraw ?_); first | refine drawW_sat hs fun w hs => ?_ | fail))
    refine call1_of (r4_ToBack hs (by omega)) fun e w ⟨he, hs⟩ => ⟨_, he, ?_⟩
    have hl : (match rAt row h with | some i => row.eraseIdx i ++ rowItem row i | none => row).length = row.length := by
      cases hx : rAt row h with
      | none => rfl
      | some i => obtain ⟨_, he, _, _, hlt⟩ := rAt_some hx; simp [rowItem, he, List.length_eraseIdx, hlt]; omega
    exact ⟨by simp, _, free, by rw [hl]; omega, .inl (by rw [hl]; omega), by exact Sat.fin hs⟩
  · repeat (first | with_reducible refine nilck_some ?_ | ((with_reducible refine atLd ?_); first | refine ld_b hs ?_ | refine ld_b (x := ⟨_, _, _⟩) hs ?_ | refine ld_r0 hs ?_ | refine ld_r1 hs ?_ | refine ld_r2 hs ?_ | refine ld_r3 hs ?_ | refine ld_r4 hs ?_ | refine ld_rd0 ha_ hs ?_ | refine ld_rd1 ha_ hs ?_ | refine ld_rd2 ha_ hs ?_ | refine ld_rd3 ha_ hs ?_ | refine ld_rd4 ha_ hs ?_ | fail) | ((with_reducible refine isSt ?_); first | refine st_b hs fun w hs => ?_ | refine st_rec5 hs fun w hs => ?_ | refine st_rec4 hs fun w hs => ?_ | refine st_rec3 hs fun w hs => ?_ | refine st_rec2 hs fun w hs => ?_ | refine st_r0 hs fun w hs => ?_ | refine st_r1 hs fun w hs => ?_ | fail) | ((with_reducible refine isIdx ?_); first | refine idx_s hs fun b_ o_ hs => ?_ | refine idx_a hs ?_ | refine idx_rd hs fun b_ o_ ha_ => ?_ | fail) | ((with_reducible refine isNew ?_); first | refine newB_at hs fun b_ w hs => ?_ | fail) | ((with_reducible refine isLdS ?_); first | refine ldS_b ?_ | refine ldS_b (x := ⟨_, _, _⟩) ?_ | refine ldS_r0 ?_ | refine ldS_r1 ?_ | refine ldS_r2 ?_ | refine ldS_r3 ?_ | refine ldS_rs0 hs ?_ | refine ldS_rs1 hs ?_ | refine ldS_rs2 hs ?_ | refine ldS_rs3 hs ?_ | refine ldS_rd0 ha_ ?_ | refine ldS_rd1 ha_ ?_ | refine ldS_rd2 ha_ ?_ | refine ldS_rd3 ha_ ?_ | fail) | ((with_reducible refine isKeep ?_); first | refine keep_of hs ?_ | refine keep_imp hs ?_ | fail) | ((with_reducible refine isWhen ?_); first | refine when_om ?_ | fail) | ((with_reducible refine isDraw ?_); first | refine drawW_sat hs fun w hs => ?_ | fail))
    refine call2_of (string_Get hs) fun e w ⟨he, hs⟩ => ⟨_, _, he, ?_⟩
    repeat (first | with_reducible refine nilck_some ?_ | ((with_reducible refine atLd ?_); first | refine ld_b hs ?_ | refine ld_b (x := ⟨_, _, _⟩) hs ?_ | refine ld_r0 hs ?_ | refine ld_r1 hs ?_ | refine ld_r2 hs ?_ | refine ld_r3 hs ?_ | refine ld_r4 hs ?_ | refine ld_rd0 ha_ hs ?_ | refine ld_rd1 ha_ hs ?_ | refine ld_rd2 ha_ hs ?_ | refine ld_rd3 ha_ hs ?_ | refine ld_rd4 ha_ hs ?_ | fail) | ((with_reducible refine isSt ?_); first | refine st_b hs fun w hs => ?_ | refine st_rec5 hs fun w hs => ?_ | refine st_rec4 hs fun w hs => ?_ | refine st_rec3 hs fun w hs => ?_ | refine st_rec2 hs fun w hs => ?_ | refine st_r0 hs fun w hs => ?_ | refine st_r1 hs fun w hs => ?_ | fail) | ((with_reducible refine isIdx ?_); first | refine idx_s hs fun b_ o_ hs => ?_ | refine idx_a hs ?_ | refine idx_rd hs fun b_ o_ ha_ => ?_ | fail) | ((with_reducible refine isNew ?_); first | refine newB_at hs fun b_ w hs => ?_ | fail) | ((with_reducible refine isLdS ?_); first | refine ldS_b ?_ | refine ldS_b (x := ⟨_, _, _⟩) ?_ | refine ldS_r0 ?_ | refine ldS_r1 ?_ | refine ldS_r2 ?_ | refine ldS_r3 ?_ | refine ldS_rs0 hs ?_ | refine ldS_rs1 hs ?_ | refine ldS_rs2 hs ?_ | refine ldS_rs3 hs ?_ | refine ldS_rd0 ha_ ?_ | refine ldS_rd1 ha_ ?_ | refine ldS_rd2 ha_ ?_ | refine ldS_rd3 ha_ ?_ | fail) | ((with_reducible refine isKeep ?_); first | refine keep_of hs ?_ | refine keep_imp hs ?_ | fail) | ((with_reducible refine isWhen ?_); first | refine when_om ?_ | fail) | ((with_reducible refine isDraw ?_); first | refine drawW_sat hs fun w hs => ?_ | fail))
    refine call2_of (r4_Get hs (by omega)) fun e w ⟨he, hs⟩ => ⟨_, _, he, ?_⟩
    refine drawW_only [blk b_ [.int .i64 k, .int .i64 h, .string s]] hs fun w hs => ?_
    refine ite_true (by rw [sEq_eq]; simp) (ite_true (by simp) ?_)
    repeat (first | with_reducible refine nilck_some ?_ | ((with_reducible refine atLd ?_); first | refine ld_b hs ?_ | refine ld_b (x := ⟨_, _, _⟩) hs ?_ | refine ld_r0 hs ?_ | refine ld_r1 hs ?_ | refine ld_r2 hs ?_ | refine ld_r3 hs ?_ | refine ld_r4 hs ?_ | refine ld_rd0 ha_ hs ?_ | refine ld_rd1 ha_ hs ?_ | refine ld_rd2 ha_ hs ?_ | refine ld_rd3 ha_ hs ?_ | refine ld_rd4 ha_ hs ?_ | fail) | ((with_reducible refine isSt ?_); first | refine st_b hs fun w hs => ?_ | refine st_rec5 hs fun w hs => ?_ | refine st_rec4 hs fun w hs => ?_ | refine st_rec3 hs fun w hs => ?_ | refine st_rec2 hs fun w hs => ?_ | refine st_r0 hs fun w hs => ?_ | refine st_r1 hs fun w hs => ?_ | fail) | ((with_reducible refine isIdx ?_); first | refine idx_s hs fun b_ o_ hs => ?_ | refine idx_a hs ?_ | refine idx_rd hs fun b_ o_ ha_ => ?_ | fail) | ((with_reducible refine isNew ?_); first | refine newB_at hs fun b_ w hs => ?_ | fail) | ((with_reducible refine isLdS ?_); first | refine ldS_b ?_ | refine ldS_b (x := ⟨_, _, _⟩) ?_ | refine ldS_r0 ?_ | refine ldS_r1 ?_ | refine ldS_r2 ?_ | refine ldS_r3 ?_ | refine ldS_rs0 hs ?_ | refine ldS_rs1 hs ?_ | refine ldS_rs2 hs ?_ | refine ldS_rs3 hs ?_ | refine ldS_rd0 ha_ ?_ | refine ldS_rd1 ha_ ?_ | refine ldS_rd2 ha_ ?_ | refine ldS_rd3 ha_ ?_ | fail) | ((with_reducible refine isKeep ?_); first | refine keep_of hs ?_ | refine keep_imp hs ?_ | fail) | ((with_reducible refine isWhen ?_); first | refine when_om ?_ | fail) | ((with_reducible refine isDraw ?_); first | refine drawW_sat hs fun w hs => ?_ | fail))
    refine call1_of (string_Next hs) fun e w ⟨he, hs⟩ => ⟨_, he, ?_⟩
    repeat (first | with_reducible refine nilck_some ?_ | ((with_reducible refine atLd ?_); first | refine ld_b hs ?_ | refine ld_b (x := ⟨_, _, _⟩) hs ?_ | refine ld_r0 hs ?_ | refine ld_r1 hs ?_ | refine ld_r2 hs ?_ | refine ld_r3 hs ?_ | refine ld_r4 hs ?_ | refine ld_rd0 ha_ hs ?_ | refine ld_rd1 ha_ hs ?_ | refine ld_rd2 ha_ hs ?_ | refine ld_rd3 ha_ hs ?_ | refine ld_rd4 ha_ hs ?_ | fail) | ((with_reducible refine isSt ?_); first | refine st_b hs fun w hs => ?_ | refine st_rec5 hs fun w hs => ?_ | refine st_rec4 hs fun w hs => ?_ | refine st_rec3 hs fun w hs => ?_ | refine st_rec2 hs fun w hs => ?_ | refine st_r0 hs fun w hs => ?_ | refine st_r1 hs fun w hs => ?_ | fail) | ((with_reducible refine isIdx ?_); first | refine idx_s hs fun b_ o_ hs => ?_ | refine idx_a hs ?_ | refine idx_rd hs fun b_ o_ ha_ => ?_ | fail) | ((with_reducible refine isNew ?_); first | refine newB_at hs fun b_ w hs => ?_ | fail) | ((with_reducible refine isLdS ?_); first | refine ldS_b ?_ | refine ldS_b (x := ⟨_, _, _⟩) ?_ | refine ldS_r0 ?_ | refine ldS_r1 ?_ | refine ldS_r2 ?_ | refine ldS_r3 ?_ | refine ldS_rs0 hs ?_ | refine ldS_rs1 hs ?_ | refine ldS_rs2 hs ?_ | refine ldS_rs3 hs ?_ | refine ldS_rd0 ha_ ?_ | refine ldS_rd1 ha_ ?_ | refine ldS_rd2 ha_ ?_ | refine ldS_rd3 ha_ ?_ | fail) | ((with_reducible refine isKeep ?_); first | refine keep_of hs ?_ | refine keep_imp hs ?_ | fail) | ((with_reducible refine isWhen ?_); first | refine when_om ?_ | fail) | ((with_reducible refine isDraw ?_); first | refine drawW_sat hs fun w hs => ?_ | fail))
    refine call1_of (r4_Next hs (by omega)) fun e w ⟨he, hs⟩ => ⟨_, he, ?_⟩
    repeat (first | with_reducible refine nilck_some ?_ | ((with_reducible refine atLd ?_); first | refine ld_b hs ?_ | refine ld_b (x := ⟨_, _, _⟩) hs ?_ | refine ld_r0 hs ?_ | refine ld_r1 hs ?_ | refine ld_r2 hs ?_ | refine ld_r3 hs ?_ | refine ld_r4 hs ?_ | refine ld_rd0 ha_ hs ?_ | refine ld_rd1 ha_ hs ?_ | refine ld_rd2 ha_ hs ?_ | refine ld_rd3 ha_ hs ?_ | refine ld_rd4 ha_ hs ?_ | fail) | ((with_reducible refine isSt ?_); first | refine st_b hs fun w hs => ?_ | refine st_rec5 hs fun w hs => ?_ | refine st_rec4 hs fun w hs => ?_ | refine st_rec3 hs fun w hs => ?_ | refine st_rec2 hs fun w hs => ?_ | refine st_r0 hs fun w hs => ?_ | refine st_r1 hs fun w hs => ?_ | fail) | ((with_reducible refine isIdx ?_); first | refine idx_s hs fun b_ o_ hs => ?_ | refine idx_a hs ?_ | refine idx_rd hs fun b_ o_ ha_ => ?_ | fail) | ((with_reducible refine isNew ?_); first | refine newB_at hs fun b_ w hs => ?_ | fail) | ((with_reducible refine isLdS ?_); first | refine ldS_b ?_ | refine ldS_b (x := ⟨_, _, _⟩) ?_ | refine ldS_r0 ?_ | refine ldS_r1 ?_ | refine ldS_r2 ?_ | refine ldS_r3 ?_ | refine ldS_rs0 hs ?_ | refine ldS_rs1 hs ?_ | refine ldS_rs2 hs ?_ | refine ldS_rs3 hs ?_ | refine ldS_rd0 ha_ ?_ | refine ldS_rd1 ha_ ?_ | refine ldS_rd2 ha_ ?_ | refine ldS_rd3 ha_ ?_ | fail) | ((with_reducible refine isKeep ?_); first | refine keep_of hs ?_ | refine keep_imp hs ?_ | fail) | ((with_reducible refine isWhen ?_); first | refine when_om ?_ | fail) | ((with_reducible refine isDraw ?_); first | refine drawW_sat hs fun w hs => ?_ | fail))
    refine ite_true (by simp) ?_
    repeat (first | with_reducible refine nilck_some ?_ | ((with_reducible refine atLd ?_); first | refine ld_b hs ?_ | refine ld_b (x := ⟨_, _, _⟩) hs ?_ | refine ld_r0 hs ?_ | refine ld_r1 hs ?_ | refine ld_r2 hs ?_ | refine ld_r3 hs ?_ | refine ld_r4 hs ?_ | refine ld_rd0 ha_ hs ?_ | refine ld_rd1 ha_ hs ?_ | refine ld_rd2 ha_ hs ?_ | refine ld_rd3 ha_ hs ?_ | refine ld_rd4 ha_ hs ?_ | fail) | ((with_reducible refine isSt ?_); first | refine st_b hs fun w hs => ?_ | refine st_rec5 hs fun w hs => ?_ | refine st_rec4 hs fun w hs => ?_ | refine st_rec3 hs fun w hs => ?_ | refine st_rec2 hs fun w hs => ?_ | refine st_r0 hs fun w hs => ?_ | refine st_r1 hs fun w hs => ?_ | fail) | ((with_reducible refine isIdx ?_); first | refine idx_s hs fun b_ o_ hs => ?_ | refine idx_a hs ?_ | refine idx_rd hs fun b_ o_ ha_ => ?_ | fail) | ((with_reducible refine isNew ?_); first | refine newB_at hs fun b_ w hs => ?_ | fail) | ((with_reducible refine isLdS ?_); first | refine ldS_b ?_ | refine ldS_b (x := ⟨_, _, _⟩) ?_ | refine ldS_r0 ?_ | refine ldS_r1 ?_ | refine ldS_r2 ?_ | refine ldS_r3 ?_ | refine ldS_rs0 hs ?_ | refine ldS_rs1 hs ?_ | refine ldS_rs2 hs ?_ | refine ldS_rs3 hs ?_ | refine ldS_rd0 ha_ ?_ | refine ldS_rd1 ha_ ?_ | refine ldS_rd2 ha_ ?_ | refine ldS_rd3 ha_ ?_ | fail) | ((with_reducible refine isKeep ?_); first | refine keep_of hs ?_ | refine keep_imp hs ?_ | fail) | ((with_reducible refine isWhen ?_); first | refine when_om ?_ | fail) | ((with_reducible refine isDraw ?_); first | refine drawW_sat hs fun w hs => ?_ | fail))
    refine call1_of (string_Prev hs) fun e w ⟨he, hs⟩ => ⟨_, he, ?_⟩
    repeat (first | with_reducible refine nilck_some ?_ | ((with_reducible refine atLd ?_); first | refine ld_b hs ?_ | refine ld_b (x := ⟨_, _, _⟩) hs ?_ | refine ld_r0 hs ?_ | refine ld_r1 hs ?_ | refine ld_r2 hs ?_ | refine ld_r3 hs ?_ | refine ld_r4 hs ?_ | refine ld_rd0 ha_ hs ?_ | refine ld_rd1 ha_ hs ?_ | refine ld_rd2 ha_ hs ?_ | refine ld_rd3 ha_ hs ?_ | refine ld_rd4 ha_ hs ?_ | fail) | ((with_reducible refine isSt ?_); first | refine st_b hs fun w hs => ?_ | refine st_rec5 hs fun w hs => ?_ | refine st_rec4 hs fun w hs => ?_ | refine st_rec3 hs fun w hs => ?_ | refine st_rec2 hs fun w hs => ?_ | refine st_r0 hs fun w hs => ?_ | refine st_r1 hs fun w hs => ?_ | fail) | ((with_reducible refine isIdx ?_); first | refine idx_s hs fun b_ o_ hs => ?_ | refine idx_a hs ?_ | refine idx_rd hs fun b_ o_ ha_ => ?_ | fail) | ((with_reducible refine isNew ?_); first | refine newB_at hs fun b_ w hs => ?_ | fail) | ((with_reducible refine isLdS ?_); first | refine ldS_b ?_ | refine ldS_b (x := ⟨_, _, _⟩) ?_ | refine ldS_r0 ?_ | refine ldS_r1 ?_ | refine ldS_r2 ?_ | refine ldS_r3 ?_ | refine ldS_rs0 hs ?_ | refine ldS_rs1 hs ?_ | refine ldS_rs2 hs ?_ | refine ldS_rs3 hs ?_ | refine ldS_rd0 ha_ ?_ | refine ldS_rd1 ha_ ?_ | refine ldS_rd2 ha_ ?_ | refine ldS_rd3 ha_ ?_ | fail) | ((with_reducible refine isKeep ?_); first | refine keep_of hs ?_ | refine keep_imp hs ?_ | fail) | ((with_reducible refine isWhen ?_); first | refine when_om ?_ | fail) | ((with_reducible refine isDraw ?_); first | refine drawW_sat hs fun w hs => ?_ | fail))
    refine call1_of (r4_Prev hs (by omega)) fun e w ⟨he, hs⟩ => ⟨_, he, ?_⟩
    exact ⟨by simp, row, free, by omega, .inl (by omega), by exact Sat.fin hs⟩
theorem rlst_new {b : Nat} (hs : Sat W w (blk b [.slice none 0 0, .slice none 0 0, .int .i64 0] :: L)) : Sat W w (rlst b [] [] :: L) := by
  have hs := Sat.nilR Rec.nat (Sat.nilR cellR hs)
  exact rlst_shut ⟨none, 0, 0⟩ ⟨none, 0, 0⟩ (n := 0) rfl (by exact Sat.fin hs)
theorem plays_walk {s0 : Sl} {acts : List Act4} [hr : ReadsR W s0 act4R acts] : Calls Try.prog id_hoardlaw4_ListPlays #[.slice s0.a s0.n s0.c] W fun e w' => e = .returned (.bool true) ∧ KeptH W w' := by
  have hs := Sat.begin W
  refine law_of (hoardlaw4_ListPlays_calls ?_)
  rw [hoardlaw4_ListPlays_def, hoardlaw4_ListPlays_raw]
  refine (heavy4 (s0 := s0) hs).mono fun e w ⟨hv, he, hs⟩ => ⟨_, he, ?_⟩
  (first | with_reducible refine ite_ltI (fun h1 => ?_) (fun h1 => ?_) | with_reducible refine ite_leI (fun h1 => ?_) (fun h1 => ?_) | with_reducible refine ite_gtI (fun h1 => ?_) (fun h1 => ?_) | with_reducible refine ite_geI (fun h1 => ?_) (fun h1 => ?_) | with_reducible refine ite_eqI (fun h1 => ?_) (fun h1 => ?_) | with_reducible refine ite_neI (fun h1 => ?_) (fun h1 => ?_) | with_reducible refine ite_eqS (fun h1 => ?_) (fun h1 => ?_) | with_reducible refine ite_neS (fun h1 => ?_) (fun h1 => ?_) | with_reducible refine ite_dec (fun h1 => ?_) (fun h1 => ?_) | with_reducible refine ite_ndec (fun h1 => ?_) (fun h1 => ?_) | with_reducible refine ite_some (fun i_ h1 => ?_) (fun h1 => ?_) | with_reducible refine ite_nsome (fun h1 => ?_) (fun i_ h1 => ?_) | with_reducible refine ite_cases (fun h1 => ?_) (fun h1 => ?_))
  · exact ⟨rfl, hs⟩
  refine (string_New hs).mono fun e w ⟨b, he, hs⟩ => ⟨_, he, ?_⟩
  refine newB_at hs fun b2 w hs => ?_
  have hs : Sat W w [lst .string b [] [], rlst b2 [] [], old W] := (rlst_new hs).perm (List.Perm.swap _ _ _)
  have fin : ∀ w row free, Sat W w [lst .string b row free, rlst b2 row free, old W] → hoardlaw4_ListPlays_j3 idJ (fun v w' => v = .bool true ∧ Sat W w' [old W]) w := by
    intro w row free hs
    rw [hoardlaw4_ListPlays_j3_def, hoardlaw4_ListPlays_j3_raw]
    exact call1_of (known4 hs) fun e w ⟨he, hs⟩ => ⟨_, he, rfl, by exact Sat.fin hs⟩
  obtain ⟨N, hN⟩ : ∃ N : Nat, N = 151 := ⟨_, rfl⟩
  have loop : ∀ (m i : Nat) (w : World) (row : List (Nat × ByteArray)) (free : List Nat), i + m = N → row.length + free.length ≤ i → Sat W w [lst .string b row free, rlst b2 row free, old W] → hoardlaw4_ListPlays_l1 idJ (fun v w' => v = .bool true ∧ Sat W w' [old W]) (m + 1) s0 (some ⟨b, 0, none⟩) b2 0 (i : Int) w := by
    intro m
    induction m with
    | zero =>
      intro i w row free hi hl hs
      rw [hoardlaw4_ListPlays_l1_raw]
      (first | with_reducible refine ite_ltI (fun h1 => ?_) (fun h1 => ?_) | with_reducible refine ite_leI (fun h1 => ?_) (fun h1 => ?_) | with_reducible refine ite_gtI (fun h1 => ?_) (fun h1 => ?_) | with_reducible refine ite_geI (fun h1 => ?_) (fun h1 => ?_) | with_reducible refine ite_eqI (fun h1 => ?_) (fun h1 => ?_) | with_reducible refine ite_neI (fun h1 => ?_) (fun h1 => ?_) | with_reducible refine ite_eqS (fun h1 => ?_) (fun h1 => ?_) | with_reducible refine ite_neS (fun h1 => ?_) (fun h1 => ?_) | with_reducible refine ite_dec (fun h1 => ?_) (fun h1 => ?_) | with_reducible refine ite_ndec (fun h1 => ?_) (fun h1 => ?_) | with_reducible refine ite_some (fun i_ h1 => ?_) (fun h1 => ?_) | with_reducible refine ite_nsome (fun h1 => ?_) (fun i_ h1 => ?_) | with_reducible refine ite_cases (fun h1 => ?_) (fun h1 => ?_))
      · with_reducible refine ite_ltI (fun h2 => absurd h2 (by omega)) (fun h2 => fin w row free hs)
      · exact fin w row free hs
    | succ m ih =>
      intro i w row free hi hl hs
      have hn := rdb_len (s := s0) hs
      rw [hoardlaw4_ListPlays_l1_raw]
      (first | with_reducible refine ite_ltI (fun h1 => ?_) (fun h1 => ?_) | with_reducible refine ite_leI (fun h1 => ?_) (fun h1 => ?_) | with_reducible refine ite_gtI (fun h1 => ?_) (fun h1 => ?_) | with_reducible refine ite_geI (fun h1 => ?_) (fun h1 => ?_) | with_reducible refine ite_eqI (fun h1 => ?_) (fun h1 => ?_) | with_reducible refine ite_neI (fun h1 => ?_) (fun h1 => ?_) | with_reducible refine ite_eqS (fun h1 => ?_) (fun h1 => ?_) | with_reducible refine ite_neS (fun h1 => ?_) (fun h1 => ?_) | with_reducible refine ite_dec (fun h1 => ?_) (fun h1 => ?_) | with_reducible refine ite_ndec (fun h1 => ?_) (fun h1 => ?_) | with_reducible refine ite_some (fun i_ h1 => ?_) (fun h1 => ?_) | with_reducible refine ite_nsome (fun h1 => ?_) (fun i_ h1 => ?_) | with_reducible refine ite_cases (fun h1 => ?_) (fun h1 => ?_))
      · (first | with_reducible refine ite_ltI (fun h2 => ?_) (fun h2 => ?_) | with_reducible refine ite_leI (fun h2 => ?_) (fun h2 => ?_) | with_reducible refine ite_gtI (fun h2 => ?_) (fun h2 => ?_) | with_reducible refine ite_geI (fun h2 => ?_) (fun h2 => ?_) | with_reducible refine ite_eqI (fun h2 => ?_) (fun h2 => ?_) | with_reducible refine ite_neI (fun h2 => ?_) (fun h2 => ?_) | with_reducible refine ite_eqS (fun h2 => ?_) (fun h2 => ?_) | with_reducible refine ite_neS (fun h2 => ?_) (fun h2 => ?_) | with_reducible refine ite_dec (fun h2 => ?_) (fun h2 => ?_) | with_reducible refine ite_ndec (fun h2 => ?_) (fun h2 => ?_) | with_reducible refine ite_some (fun i_ h2 => ?_) (fun h2 => ?_) | with_reducible refine ite_nsome (fun h2 => ?_) (fun i_ h2 => ?_) | with_reducible refine ite_cases (fun h2 => ?_) (fun h2 => ?_))
        · rw [hoardlaw4_ListPlays_j2_def, hoardlaw4_ListPlays_j2_raw]
          repeat (first | with_reducible refine nilck_some ?_ | ((with_reducible refine atLd ?_); first | refine ld_b hs ?_ | refine ld_b (x := ⟨_, _, _⟩) hs ?_ | refine ld_r0 hs ?_ | refine ld_r1 hs ?_ | refine ld_r2 hs ?_ | refine ld_r3 hs ?_ | refine ld_r4 hs ?_ | refine ld_rd0 ha_ hs ?_ | refine ld_rd1 ha_ hs ?_ | refine ld_rd2 ha_ hs ?_ | refine ld_rd3 ha_ hs ?_ | refine ld_rd4 ha_ hs ?_ | fail) | ((with_reducible refine isSt ?_); first | refine st_b hs fun w hs => ?_ | refine st_rec5 hs fun w hs => ?_ | refine st_rec4 hs fun w hs => ?_ | refine st_rec3 hs fun w hs => ?_ | refine st_rec2 hs fun w hs => ?_ | refine st_r0 hs fun w hs => ?_ | refine st_r1 hs fun w hs => ?_ | fail) | ((with_reducible refine isIdx ?_); first | refine idx_s hs fun b_ o_ hs => ?_ | refine idx_a hs ?_ | refine idx_rd hs fun b_ o_ ha_ => ?_ | fail) | ((with_reducible refine isNew ?_); first | refine newB_at hs fun b_ w hs => ?_ | fail) | ((with_reducible refine isLdS ?_); first | refine ldS_b ?_ | refine ldS_b (x := ⟨_, _, _⟩) ?_ | refine ldS_r0 ?_ | refine ldS_r1 ?_ | refine ldS_r2 ?_ | refine ldS_r3 ?_ | refine ldS_rs0 hs ?_ | refine ldS_rs1 hs ?_ | refine ldS_rs2 hs ?_ | refine ldS_rs3 hs ?_ | refine ldS_rd0 ha_ ?_ | refine ldS_rd1 ha_ ?_ | refine ldS_rd2 ha_ ?_ | refine ldS_rd3 ha_ ?_ | fail) | ((with_reducible refine isKeep ?_); first | refine keep_of hs ?_ | refine keep_imp hs ?_ | fail) | ((with_reducible refine isWhen ?_); first | refine when_om ?_ | fail) | ((with_reducible refine isDraw ?_); first | refine drawW_sat hs fun w hs => ?_ | fail))
          refine call1_of (act4_at (by omega) hs) fun e w ⟨he, row, free, hl2, _, hs⟩ => ⟨_, he, ite_false rfl ?_⟩
          refine call1_of (string_Front hs) fun e w ⟨he, hs⟩ => ⟨_, he, ?_⟩
          refine call1_of (r4_Front hs (by omega)) fun e w ⟨he, hs⟩ => ⟨_, he, ite_false (by simp) ?_⟩
          refine call1_of (string_Back hs) fun e w ⟨he, hs⟩ => ⟨_, he, ?_⟩
          refine call1_of (r4_Back hs (by omega)) fun e w ⟨he, hs⟩ => ⟨_, he, ite_false (by simp) ?_⟩
          refine (string_All hs (by omega)).mono fun e w ⟨m1, he, hs⟩ => ⟨_, he, ?_⟩
          refine (r4_All hs (by omega)).mono fun e w ⟨m2, he, hs⟩ => ⟨_, he, ?_⟩
          refine call1_of (hoardlaw4_texts_at (a := m1) (b := m2) hs (by simp; omega)) fun e w ⟨he, hs⟩ => ⟨_, he, ite_false (by simp) ?_⟩
          refine call1_of (string_Len hs) fun e w ⟨he, hs⟩ => ⟨_, he, ?_⟩
          refine (r4_All hs (by omega)).mono fun e w ⟨m3, he, hs⟩ => ⟨_, he, ?_⟩
          have hn3 := (recs_len (s := m3) hs).1
          simp only [List.length_map] at hn3
          refine ite_false (by rw [hn3]; simp) ?_
          rw [i64_in _ (by omega)]
          exact ih (i + 1) w row free (by omega) (by omega) (by exact Sat.fin hs)
        · exact fin w row free hs
      · exact fin w row free hs
  refine ⟨N + 1, ?_⟩
  exact loop N 0 w [] [] (by omega) (by simp) hs
end
end Go.Proofs.Ytadljdjlemfdjaa
