/- ListOwn, ListNumbers, ListMoves, ListHandles, ListPlays, ListOfNothing: walks. -/
import Derived.Test.YtadljdjlemfdjaaList2S
import Derived.Test.YtadljdjlemfdjaaList2I
import Derived.Test.YtadljdjlemfdjaaListRef
import Derived.Test.YtadljdjlemfdjaaLaw2
set_option linter.unusedVariables false
set_option linter.unusedSimpArgs false
set_option linter.unnecessarySimpa false
set_option linter.unusedSectionVars false
namespace Go.Hb
structure Act4 where
  kind : Int
  h : Int
  s : ByteArray
instance : Inhabited Act4 := ⟨⟨0, 0, ⟨#[]⟩⟩⟩
def act4R : Rec Act4 := ⟨3, fun a => [.int .i64 a.kind, .int .i64 a.h, .string a.s], fun _ => rfl⟩
instance : PosR act4R := ⟨by decide⟩
def act4ok (a : Act4) : Prop := okStr a.s
theorem of_act4 (x : List Value) (h : okRow [.int .i64, .int .i64, .str] x) : ∃ a, x = act4R.cells a ∧ act4ok a := by
  obtain ⟨v0, v1, v2, rfl⟩ : ∃ v0 v1 v2, x = [v0, v1, v2] := by
    have hl := okRow_len h
    match x, hl with
    | [v0, v1, v2], _ => exact ⟨v0, v1, v2, rfl⟩
  obtain ⟨h0, h1, h2, _⟩ := h
  obtain ⟨k, rfl, _⟩ := h0
  obtain ⟨h, rfl, _⟩ := h1
  obtain ⟨s, rfl, hs⟩ := h2
  exact ⟨⟨k, h, s⟩, rfl, hs⟩
/-- the row behind pushes at the back -/
def rowN {T : Type} (l : List T) : List (Nat × T) := l.mapIdx fun i s => (i + 1, s)
theorem rowN_snd {T : Type} (l : List T) : (rowN l).map (·.2) = l := by
  apply List.ext_getElem?
  intro i; simp [rowN]
  cases l[i]? <;> rfl
theorem rowN_len {T : Type} (l : List T) : (rowN l).length = l.length := by simp [rowN]
theorem rowN_push {T : Type} (l : List T) (x : T) : rowN l ++ [(hdl (rowN l) [], x)] = rowN (l ++ [x]) := by
  have : hdl (rowN l) [] = l.length + 1 := by simp [hdl, rowN_len]
  rw [this]; simp [rowN, List.mapIdx_append]
theorem rowN_at {T : Type} {l : List T} {h : Int} (h1 : 1 ≤ h) (h2 : h ≤ l.length) : rAt (rowN l) h = some (h.toNat - 1) := by
  unfold rAt
  rw [List.findIdx?_eq_some_iff_getElem]
  refine ⟨by rw [rowN_len]; omega, ?_, fun j hj => ?_⟩
  · simp [rowN]; omega
  · simp [rowN]; omega
end Go.Hb
namespace Go.Proofs.Ytadljdjlemfdjaa
open Go.Hb Go.IntWalk
section
variable {W w : World} {L M : List HP} {F : HP → List HP}
theorem known4 (hs : Sat W w L) : Calls Try.prog id_hoardlaw4_known #[] w fun e w' => e = .returned (.bool true) ∧ Sat W w' L := by
  refine c1 (hoardlaw4_known_calls ?_)
  rw [hoardlaw4_known_def, hoardlaw4_known_raw]
  refine (string_New hs).mono fun e w ⟨b, he, hs⟩ => ⟨_, he, ?_⟩
  refine call1_of (string_PushBack hs (by decide)) fun e w ⟨he, hs⟩ => ⟨_, he, ?_⟩
  refine call1_of (string_PushBack hs (by decide)) fun e w ⟨he, hs⟩ => ⟨_, he, ?_⟩
  refine call2_of (string_Remove hs (by decide)) fun e w ⟨he, hs⟩ => ⟨_, _, he, ?_⟩
  have hs : Sat W w (lst .string b [(2, str_b)] [1] :: L) := hs
  refine call1_of (string_PushFront hs (by decide)) fun e w ⟨he, hs⟩ => ⟨_, he, ?_⟩
  have hs : Sat W w (lst .string b [(1, str_c), (2, str_b)] [] :: L) := hs
  refine ite_true rfl (ite_true rfl (ite_true rfl (ite_true (by rw [sEq_eq]; rfl) (ite_true rfl ?_))))
  refine (string_All hs (by decide)).mono fun e w ⟨m, he, hs⟩ => ⟨_, he, ?_⟩
  refine newB_at hs fun b2 w hs => ?_
  have hs := hs.blkS (b := b2) Rec.str [str_c, str_b] (n := 2) rfl rfl
  refine call1_of (hoardlaw4_texts_at (a := m) (b := ⟨some ⟨b2, 0, none⟩, 2, 2⟩) hs (by decide)) fun e w ⟨he, hs⟩ => ⟨_, he, ?_⟩
  exact ⟨rfl, hs.drop.drop.drop⟩

theorem own_l3 {s0 : Sl} {xs : List ByteArray} [hr : ReadsR W s0 Rec.str xs] {b : Nat} {Q : Value → WP} (hx : xs.length ≤ 100) (hQ : ∀ w, Sat W w [old W] → Q (.bool true) w) {s : Sl} :
    ∀ (m i : Nat) (w : World) (ys : List ByteArray), i + m = ys.length → ys.length ≤ 100 → (∀ s ∈ ys, s.size ≤ reachBytes + 1) → (∀ s ∈ ys.drop i, s.size ≤ reachBytes) → Sat W w [recs Rec.str s ys, lst .string b (rowN xs) [], old W] → hoardlaw4_ListOwn_l3 idJ Q (m + 1) s0 (some ⟨b, 0, none⟩) s (i : Int) w := by
  intro m
  induction m with
  | zero =>
    intro i w ys hi hy hz hz2 hs
    have hn := (recs_len (s := s) hs).1
    rw [hoardlaw4_ListOwn_l3_raw]
    refine ite_false (by simp; omega) ?_
    rw [hoardlaw4_ListOwn_j4_def, hoardlaw4_ListOwn_j4_raw]
    refine (string_All hs (by rw [rowN_len]; simp; omega)).mono fun e w ⟨m, he, hs⟩ => ⟨_, he, ?_⟩
    rw [rowN_snd] at hs
    refine call1_of (hoardlaw4_texts_at (a := m) (b := s0) hs (by omega)) fun e w ⟨he, hs⟩ => ⟨_, he, ?_⟩
    refine ite_true (by simp) ?_
    refine call1_of (known4 hs) fun e w ⟨he, hs⟩ => ⟨_, he, hQ _ (by exact Sat.fin hs)⟩
  | succ m ih =>
    intro i w ys hi hy hz hz2 hs
    have hn := (recs_len (s := s) hs).1
    rw [hoardlaw4_ListOwn_l3_raw]
    refine ite_true (by simp; omega) ?_
    have hsz : (ys.getD (i : Int).toNat default).size ≤ reachBytes := by
      rw [Int.toNat_natCast, List.getD_eq_getElem?_getD, List.getElem?_eq_getElem (by omega)]
      exact hz2 _ (by rw [List.mem_iff_getElem]; exact ⟨0, by simp; omega, by simp⟩)
    repeat (first | with_reducible refine nilck_some ?_ | ((with_reducible refine atLd ?_); first | refine ld_b hs ?_ | refine ld_b (x := ⟨_, _, _⟩) hs ?_ | refine ld_r0 hs ?_ | refine ld_r1 hs ?_ | refine ld_r2 hs ?_ | refine ld_r3 hs ?_ | refine ld_r4 hs ?_ | refine ld_rd0 ha_ hs ?_ | refine ld_rd1 ha_ hs ?_ | refine ld_rd2 ha_ hs ?_ | refine ld_rd3 ha_ hs ?_ | refine ld_rd4 ha_ hs ?_ | fail) | ((with_reducible refine isSt ?_); first | refine st_b hs fun w hs => ?_ | refine st_rec5 hs fun w hs => ?_ | refine st_rec4 hs fun w hs => ?_ | refine st_rec3 hs fun w hs => ?_ | refine st_rec2 hs fun w hs => ?_ | refine st_r0 hs fun w hs => ?_ | refine st_r1 hs fun w hs => ?_ | fail) | ((with_reducible refine isIdx ?_); first | refine idx_s hs fun b_ o_ hs => ?_ | refine idx_a hs ?_ | refine idx_rd hs fun b_ o_ ha_ => ?_ | fail) | ((with_reducible refine isNew ?_); first | refine newB_at hs fun b_ w hs => ?_ | fail) | ((with_reducible refine isLdS ?_); first | refine ldS_b ?_ | refine ldS_b (x := ⟨_, _, _⟩) ?_ | refine ldS_r0 ?_ | refine ldS_r1 ?_ | refine ldS_r2 ?_ | refine ldS_r3 ?_ | refine ldS_rs0 hs ?_ | refine ldS_rs1 hs ?_ | refine ldS_rs2 hs ?_ | refine ldS_rs3 hs ?_ | refine ldS_rd0 ha_ ?_ | refine ldS_rd1 ha_ ?_ | refine ldS_rd2 ha_ ?_ | refine ldS_rd3 ha_ ?_ | fail) | ((with_reducible refine isKeep ?_); first | refine keep_of hs ?_ | refine keep_imp hs ?_ | fail) | ((with_reducible refine isWhen ?_); first | refine when_om ?_ | fail) | ((with_reducible refine isDraw ?_); first | refine drawW_sat hs fun w hs => ?_ | fail))
    refine when_of (by unfold reachBytes at hsz; rw [show str_x.size = 1 from rfl]; omega) ?_
    rw [Int.toNat_natCast] at hsz
    repeat (first | with_reducible refine nilck_some ?_ | ((with_reducible refine atLd ?_); first | refine ld_b hs ?_ | refine ld_b (x := ⟨_, _, _⟩) hs ?_ | refine ld_r0 hs ?_ | refine ld_r1 hs ?_ | refine ld_r2 hs ?_ | refine ld_r3 hs ?_ | refine ld_r4 hs ?_ | refine ld_rd0 ha_ hs ?_ | refine ld_rd1 ha_ hs ?_ | refine ld_rd2 ha_ hs ?_ | refine ld_rd3 ha_ hs ?_ | refine ld_rd4 ha_ hs ?_ | fail) | ((with_reducible refine isSt ?_); first | refine st_b hs fun w hs => ?_ | refine st_rec5 hs fun w hs => ?_ | refine st_rec4 hs fun w hs => ?_ | refine st_rec3 hs fun w hs => ?_ | refine st_rec2 hs fun w hs => ?_ | refine st_r0 hs fun w hs => ?_ | refine st_r1 hs fun w hs => ?_ | fail) | ((with_reducible refine isIdx ?_); first | refine idx_s hs fun b_ o_ hs => ?_ | refine idx_a hs ?_ | refine idx_rd hs fun b_ o_ ha_ => ?_ | fail) | ((with_reducible refine isNew ?_); first | refine newB_at hs fun b_ w hs => ?_ | fail) | ((with_reducible refine isLdS ?_); first | refine ldS_b ?_ | refine ldS_b (x := ⟨_, _, _⟩) ?_ | refine ldS_r0 ?_ | refine ldS_r1 ?_ | refine ldS_r2 ?_ | refine ldS_r3 ?_ | refine ldS_rs0 hs ?_ | refine ldS_rs1 hs ?_ | refine ldS_rs2 hs ?_ | refine ldS_rs3 hs ?_ | refine ldS_rd0 ha_ ?_ | refine ldS_rd1 ha_ ?_ | refine ldS_rd2 ha_ ?_ | refine ldS_rd3 ha_ ?_ | fail) | ((with_reducible refine isKeep ?_); first | refine keep_of hs ?_ | refine keep_imp hs ?_ | fail) | ((with_reducible refine isWhen ?_); first | refine when_om ?_ | fail) | ((with_reducible refine isDraw ?_); first | refine drawW_sat hs fun w hs => ?_ | fail))
    rw [i64_in _ (by omega)]
    refine ih (i + 1) w (ys.set i (str_x ++ ys.getD i default)) (by simp; omega) (by simp; omega) ?_ ?_ (by simp only [Int.toNat_natCast] at hs; exact Sat.fin hs)
    · intro s hs
      rcases List.mem_or_eq_of_mem_set hs with h | h
      · exact hz s h
      · subst h
        simp only [ByteArray.size_append]
        have : str_x.size = 1 := rfl
        omega
    · intro s hs
      rw [List.drop_set_of_lt (by omega)] at hs
      exact hz2 s (List.mem_of_mem_drop (by rw [List.drop_drop]; exact hs))
theorem own_walk {s0 : Sl} {xs : List ByteArray} [hr : ReadsR W s0 Rec.str xs] (hw : ∀ s ∈ xs, okStr s) : Calls Try.prog id_hoardlaw4_ListOwn #[.slice s0.a s0.n s0.c] W fun e w' => e = .returned (.bool true) ∧ KeptH W w' := by
  have hs := Sat.begin W
  refine law_of (hoardlaw4_ListOwn_calls ?_)
  rw [hoardlaw4_ListOwn_def, hoardlaw4_ListOwn_raw]
  have hn := rdb_len (s := s0) hs
  (first | with_reducible refine ite_ltI (fun h1 => ?_) (fun h1 => ?_) | with_reducible refine ite_leI (fun h1 => ?_) (fun h1 => ?_) | with_reducible refine ite_gtI (fun h1 => ?_) (fun h1 => ?_) | with_reducible refine ite_geI (fun h1 => ?_) (fun h1 => ?_) | with_reducible refine ite_eqI (fun h1 => ?_) (fun h1 => ?_) | with_reducible refine ite_neI (fun h1 => ?_) (fun h1 => ?_) | with_reducible refine ite_eqS (fun h1 => ?_) (fun h1 => ?_) | with_reducible refine ite_neS (fun h1 => ?_) (fun h1 => ?_) | with_reducible refine ite_dec (fun h1 => ?_) (fun h1 => ?_) | with_reducible refine ite_ndec (fun h1 => ?_) (fun h1 => ?_) | with_reducible refine ite_some (fun i_ h1 => ?_) (fun h1 => ?_) | with_reducible refine ite_nsome (fun h1 => ?_) (fun i_ h1 => ?_) | with_reducible refine ite_cases (fun h1 => ?_) (fun h1 => ?_))
  · exact ⟨rfl, hs⟩
  refine (string_New hs).mono fun e w ⟨b, he, hs⟩ => ⟨_, he, ?_⟩
  refine ⟨xs.length + 1, ?_⟩
  have loop : ∀ (m i : Nat) (w : World), i + m = xs.length → Sat W w [lst .string b (rowN (xs.take i)) [], old W] → hoardlaw4_ListOwn_l1 idJ (fun v w' => v = .bool true ∧ Sat W w' [old W]) (m + 1) s0 (some ⟨b, 0, none⟩) (i : Int) w := by
    intro m
    induction m with
    | zero =>
      intro i w hi hs
      rw [hoardlaw4_ListOwn_l1_raw]
      refine ite_false (by simp; omega) ?_
      rw [hoardlaw4_ListOwn_j2_def, hoardlaw4_ListOwn_j2_raw]
      rw [List.take_of_length_le (by omega)] at hs
      refine (string_All hs (by rw [rowN_len]; simp; omega)).mono fun e w ⟨m, he, hs⟩ => ⟨_, he, ?_⟩
      rw [rowN_snd] at hs
      refine ⟨_, own_l3 (xs := xs) (by omega) (fun w hs => ⟨rfl, hs⟩) xs.length 0 w xs (by omega) (by omega) (fun s hs => by have := hw s hs; unfold okStr at this; omega) (fun s hs => hw s (List.mem_of_mem_drop hs)) hs⟩
    | succ m ih =>
      intro i w hi hs
      rw [hoardlaw4_ListOwn_l1_raw]
      refine ite_true (by simp; omega) ?_
      repeat (first | with_reducible refine nilck_some ?_ | ((with_reducible refine atLd ?_); first | refine ld_b hs ?_ | refine ld_b (x := ⟨_, _, _⟩) hs ?_ | refine ld_r0 hs ?_ | refine ld_r1 hs ?_ | refine ld_r2 hs ?_ | refine ld_r3 hs ?_ | refine ld_r4 hs ?_ | refine ld_rd0 ha_ hs ?_ | refine ld_rd1 ha_ hs ?_ | refine ld_rd2 ha_ hs ?_ | refine ld_rd3 ha_ hs ?_ | refine ld_rd4 ha_ hs ?_ | fail) | ((with_reducible refine isSt ?_); first | refine st_b hs fun w hs => ?_ | refine st_rec5 hs fun w hs => ?_ | refine st_rec4 hs fun w hs => ?_ | refine st_rec3 hs fun w hs => ?_ | refine st_rec2 hs fun w hs => ?_ | refine st_r0 hs fun w hs => ?_ | refine st_r1 hs fun w hs => ?_ | fail) | ((with_reducible refine isIdx ?_); first | refine idx_s hs fun b_ o_ hs => ?_ | refine idx_a hs ?_ | refine idx_rd hs fun b_ o_ ha_ => ?_ | fail) | ((with_reducible refine isNew ?_); first | refine newB_at hs fun b_ w hs => ?_ | fail) | ((with_reducible refine isLdS ?_); first | refine ldS_b ?_ | refine ldS_b (x := ⟨_, _, _⟩) ?_ | refine ldS_r0 ?_ | refine ldS_r1 ?_ | refine ldS_r2 ?_ | refine ldS_r3 ?_ | refine ldS_rs0 hs ?_ | refine ldS_rs1 hs ?_ | refine ldS_rs2 hs ?_ | refine ldS_rs3 hs ?_ | refine ldS_rd0 ha_ ?_ | refine ldS_rd1 ha_ ?_ | refine ldS_rd2 ha_ ?_ | refine ldS_rd3 ha_ ?_ | fail) | ((with_reducible refine isKeep ?_); first | refine keep_of hs ?_ | refine keep_imp hs ?_ | fail) | ((with_reducible refine isWhen ?_); first | refine when_om ?_ | fail) | ((with_reducible refine isDraw ?_); first | refine drawW_sat hs fun w hs => ?_ | fail))
      refine call1_of (string_PushBack hs (by rw [rowN_len]; simp; omega)) fun e w ⟨he, hs⟩ => ⟨_, he, ?_⟩
      rw [rowN_push, Int.toNat_natCast, ← take_snoc (by omega)] at hs
      rw [i64_in _ (by omega)]
      exact ih (i + 1) w (by omega) hs
  exact loop xs.length 0 w (by omega) hs
end
end Go.Proofs.Ytadljdjlemfdjaa
