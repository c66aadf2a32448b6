/- hoardref4: contracts over one chunk. -/
import Derived.Test.YtadljdjlemfdjaaTexts
import Derived.Test.YtadljdjlemfdjaaListPure
import Derived.IntWalk
set_option linter.unusedVariables false
set_option linter.unusedSimpArgs false
set_option linter.unnecessarySimpa false
set_option linter.unusedSectionVars false
namespace Go.Hb
def cellR : Rec (Nat × ByteArray) := ⟨2, fun e => [.int .i64 (e.1 : Int), .string e.2], fun _ => rfl⟩
instance : OkR cellR := ⟨fun _ => rfl⟩
instance : PosR cellR := ⟨by decide⟩
instance {e : Nat × ByteArray} {v : ByteArray} : SetR cellR e 1 (.string v) (e.1, v) := ⟨rfl, by decide⟩
def rlst (b : Nat) (row : List (Nat × ByteArray)) (free : List Nat) : HP :=
  exH fun (x : Sl × Sl) => allH [blk b [.slice x.1.a x.1.n x.1.c, .slice x.2.a x.2.n x.2.c, .int .i64 ((row.length + free.length : Nat) : Int)], recs cellR x.1 row, recs Rec.nat x.2 free]
def atI {T : Type} (row : List (Nat × T)) (h : Int) : Int := match rAt row h with
  | some i => (i : Int)
  | none => -1
section
variable {b : Nat} {row : List (Nat × ByteArray)} {free : List Nat} {W w : World} {M L : List HP}
instance At.rlst : At (rlst b row free :: L) b (rlst b row free) (fun x => x :: L) := ⟨here_pos⟩
theorem rlst_open (h : Sat W w (rlst b row free :: M)) : ∃ (s f : Sl), (s.n = row.length ∧ f.n = free.length ∧ s.n ≤ s.c ∧ f.n ≤ f.c) ∧
    Sat W w (blk b [.slice s.a s.n s.c, .slice f.a f.n f.c, .int .i64 ((row.length + free.length : Nat) : Int)] :: recs cellR s row :: recs Rec.nat f free :: M) := by
  obtain ⟨⟨s, f⟩, h⟩ := h.openE
  have h := h.openL
  have h : Sat W w (blk b [.slice s.a s.n s.c, .slice f.a f.n f.c, .int .i64 ((row.length + free.length : Nat) : Int)] :: recs cellR s row :: recs Rec.nat f free :: M) := h
  have h1 := recs_len (s := s) h
  have h2 := recs_len (s := f) h
  exact ⟨s, f, ⟨h1.1, h2.1, h1.2, h2.2⟩, h⟩
theorem rlst_shut (s f : Sl) {n : Int} (hn : n = ((row.length + free.length : Nat) : Int))
    (h : Sat W w (blk b [.slice s.a s.n s.c, .slice f.a f.n f.c, .int .i64 n] :: recs cellR s row :: recs Rec.nat f free :: M)) : Sat W w (rlst b row free :: M) := by
  subst hn
  exact Sat.shutE (s, f) (Sat.shutL (Ps := [_, _, _]) h)
end
end Go.Hb
namespace Go.Proofs.Ytadljdjlemfdjaa
open Go.Hb Go.IntWalk
section
variable {W w : World} {L M : List HP} {F : HP → List HP} {b : Nat} {row : List (Nat × ByteArray)} {free : List Nat}
theorem at_lt {T : Type} {row : List (Nat × T)} {x : Int} : atI row x < (row.length : Int) := by
  unfold atI
  cases h : rAt row x with
  | none => simp only []; omega
  | some i => obtain ⟨_, _, _, _, h5⟩ := rAt_some h; simp only []; omega
theorem r4_at_loop {s f : Sl} {n : Int} {x : Int} {Q : Value → WP} (hr : row.length < 1099511627776) (hQ : ∀ w, Sat W w (blk b [.slice s.a s.n s.c, .slice f.a f.n f.c, .int .i64 n] :: recs cellR s row :: recs Rec.nat f free :: M) → Q (.int .i64 (atI row x)) w) : ∀ (m i : Nat) (w : World), i + m = row.length → (∀ e ∈ row.take i, (e.1 : Int) ≠ x) → Sat W w (blk b [.slice s.a s.n s.c, .slice f.a f.n f.c, .int .i64 n] :: recs cellR s row :: recs Rec.nat f free :: M) →
    hoardref4_List_at_l1 idJ Q (m + 1) (some ⟨b, 0, none⟩) x (i : Int) w := by
  intro m
  induction m with
  | zero =>
    intro i w hi ht hs
    have hn := (recs_len (s := s) hs).1
    rw [hoardref4_List_at_l1_raw]
    repeat (first | with_reducible refine nilck_some ?_ | ((with_reducible refine atLd ?_); first | refine ld_b hs ?_ | refine ld_b (x := ⟨_, _, _⟩) hs ?_ | refine ld_r0 hs ?_ | refine ld_r1 hs ?_ | refine ld_r2 hs ?_ | refine ld_r3 hs ?_ | refine ld_r4 hs ?_ | refine ld_rd0 ha_ hs ?_ | refine ld_rd1 ha_ hs ?_ | refine ld_rd2 ha_ hs ?_ | refine ld_rd3 ha_ hs ?_ | refine ld_rd4 ha_ hs ?_ | fail) | ((with_reducible refine isSt ?_); first | refine st_b hs fun w hs => ?_ | refine st_rec5 hs fun w hs => ?_ | refine st_rec4 hs fun w hs => ?_ | refine st_rec3 hs fun w hs => ?_ | refine st_rec2 hs fun w hs => ?_ | refine st_r0 hs fun w hs => ?_ | refine st_r1 hs fun w hs => ?_ | fail) | ((with_reducible refine isIdx ?_); first | refine idx_s hs fun b_ o_ hs => ?_ | refine idx_a hs ?_ | refine idx_rd hs fun b_ o_ ha_ => ?_ | fail) | ((with_reducible refine isNew ?_); first | refine newB_at hs fun b_ w hs => ?_ | fail) | ((with_reducible refine isLdS ?_); first | refine ldS_b ?_ | refine ldS_b (x := ⟨_, _, _⟩) ?_ | refine ldS_r0 ?_ | refine ldS_r1 ?_ | refine ldS_r2 ?_ | refine ldS_r3 ?_ | refine ldS_rs0 hs ?_ | refine ldS_rs1 hs ?_ | refine ldS_rs2 hs ?_ | refine ldS_rs3 hs ?_ | refine ldS_rd0 ha_ ?_ | refine ldS_rd1 ha_ ?_ | refine ldS_rd2 ha_ ?_ | refine ldS_rd3 ha_ ?_ | fail) | ((with_reducible refine isKeep ?_); first | refine keep_of hs ?_ | refine keep_imp hs ?_ | fail) | ((with_reducible refine isWhen ?_); first | refine when_om ?_ | fail) | ((with_reducible refine isDraw ?_); first | refine drawW_sat hs fun w hs => ?_ | fail))
    refine ite_false (by simp; omega) ?_
    rw [hoardref4_List_at_j2_def, hoardref4_List_at_j2_raw]
    rw [List.take_of_length_le (by omega)] at ht
    have e : atI row x = -1 := by unfold atI; rw [rAt_none.2 ht]
    rw [← e]; exact hQ w hs
  | succ m ih =>
    intro i w hi ht hs
    have hn := (recs_len (s := s) hs).1
    rw [hoardref4_List_at_l1_raw]
    repeat (first | with_reducible refine nilck_some ?_ | ((with_reducible refine atLd ?_); first | refine ld_b hs ?_ | refine ld_b (x := ⟨_, _, _⟩) hs ?_ | refine ld_r0 hs ?_ | refine ld_r1 hs ?_ | refine ld_r2 hs ?_ | refine ld_r3 hs ?_ | refine ld_r4 hs ?_ | refine ld_rd0 ha_ hs ?_ | refine ld_rd1 ha_ hs ?_ | refine ld_rd2 ha_ hs ?_ | refine ld_rd3 ha_ hs ?_ | refine ld_rd4 ha_ hs ?_ | fail) | ((with_reducible refine isSt ?_); first | refine st_b hs fun w hs => ?_ | refine st_rec5 hs fun w hs => ?_ | refine st_rec4 hs fun w hs => ?_ | refine st_rec3 hs fun w hs => ?_ | refine st_rec2 hs fun w hs => ?_ | refine st_r0 hs fun w hs => ?_ | refine st_r1 hs fun w hs => ?_ | fail) | ((with_reducible refine isIdx ?_); first | refine idx_s hs fun b_ o_ hs => ?_ | refine idx_a hs ?_ | refine idx_rd hs fun b_ o_ ha_ => ?_ | fail) | ((with_reducible refine isNew ?_); first | refine newB_at hs fun b_ w hs => ?_ | fail) | ((with_reducible refine isLdS ?_); first | refine ldS_b ?_ | refine ldS_b (x := ⟨_, _, _⟩) ?_ | refine ldS_r0 ?_ | refine ldS_r1 ?_ | refine ldS_r2 ?_ | refine ldS_r3 ?_ | refine ldS_rs0 hs ?_ | refine ldS_rs1 hs ?_ | refine ldS_rs2 hs ?_ | refine ldS_rs3 hs ?_ | refine ldS_rd0 ha_ ?_ | refine ldS_rd1 ha_ ?_ | refine ldS_rd2 ha_ ?_ | refine ldS_rd3 ha_ ?_ | fail) | ((with_reducible refine isKeep ?_); first | refine keep_of hs ?_ | refine keep_imp hs ?_ | fail) | ((with_reducible refine isWhen ?_); first | refine when_om ?_ | fail) | ((with_reducible refine isDraw ?_); first | refine drawW_sat hs fun w hs => ?_ | fail))
    refine ite_true (by simp; omega) ?_
    repeat (first | with_reducible refine nilck_some ?_ | ((with_reducible refine atLd ?_); first | refine ld_b hs ?_ | refine ld_b (x := ⟨_, _, _⟩) hs ?_ | refine ld_r0 hs ?_ | refine ld_r1 hs ?_ | refine ld_r2 hs ?_ | refine ld_r3 hs ?_ | refine ld_r4 hs ?_ | refine ld_rd0 ha_ hs ?_ | refine ld_rd1 ha_ hs ?_ | refine ld_rd2 ha_ hs ?_ | refine ld_rd3 ha_ hs ?_ | refine ld_rd4 ha_ hs ?_ | fail) | ((with_reducible refine isSt ?_); first | refine st_b hs fun w hs => ?_ | refine st_rec5 hs fun w hs => ?_ | refine st_rec4 hs fun w hs => ?_ | refine st_rec3 hs fun w hs => ?_ | refine st_rec2 hs fun w hs => ?_ | refine st_r0 hs fun w hs => ?_ | refine st_r1 hs fun w hs => ?_ | fail) | ((with_reducible refine isIdx ?_); first | refine idx_s hs fun b_ o_ hs => ?_ | refine idx_a hs ?_ | refine idx_rd hs fun b_ o_ ha_ => ?_ | fail) | ((with_reducible refine isNew ?_); first | refine newB_at hs fun b_ w hs => ?_ | fail) | ((with_reducible refine isLdS ?_); first | refine ldS_b ?_ | refine ldS_b (x := ⟨_, _, _⟩) ?_ | refine ldS_r0 ?_ | refine ldS_r1 ?_ | refine ldS_r2 ?_ | refine ldS_r3 ?_ | refine ldS_rs0 hs ?_ | refine ldS_rs1 hs ?_ | refine ldS_rs2 hs ?_ | refine ldS_rs3 hs ?_ | refine ldS_rd0 ha_ ?_ | refine ldS_rd1 ha_ ?_ | refine ldS_rd2 ha_ ?_ | refine ldS_rd3 ha_ ?_ | fail) | ((with_reducible refine isKeep ?_); first | refine keep_of hs ?_ | refine keep_imp hs ?_ | fail) | ((with_reducible refine isWhen ?_); first | refine when_om ?_ | fail) | ((with_reducible refine isDraw ?_); first | refine drawW_sat hs fun w hs => ?_ | fail))
    rw [Int.toNat_natCast]
    have hx : row[i]? = some (row.getD i default) := getD_some (by omega)
    refine ite_cases (fun h1 => ?_) (fun h1 => ?_)
    · have : rAt row x = some i := by
        unfold rAt
        rw [List.findIdx?_eq_some_iff_getElem]
        refine ⟨by omega, ?_, fun j hj => ?_⟩
        · rw [(List.getElem?_eq_some_iff.1 hx).2]; simpa using h1
        · have := ht row[j] (List.mem_iff_getElem.2 ⟨j, by simp; omega, by simp⟩)
          simpa using this
      have e : atI row x = (i : Int) := by unfold atI; rw [this]
      rw [← e]; exact hQ w (by exact Sat.fin hs)
    · rw [i64_in _ (by omega)]
      refine ih (i + 1) w (by omega) (fun e he => ?_) (by exact Sat.fin hs)
      rw [List.take_add_one, hx] at he
      rcases List.mem_append.1 he with he | he
      · exact ht e he
      · simp at he; subst he; simpa using h1
theorem r4_at (h : Sat W w L) [hA : At L b (rlst b row free) F] {x : Int} (hr : row.length < 1099511627776) : Calls Try.prog id_hoardref4_List_at #[.pointer (some ⟨b, 0, none⟩), .int .i64 x] w fun e w' => e = .returned (.int .i64 (atI row x)) ∧ Sat W w' (F (rlst b (row) (free))) := by
  refine At.call1 (hA := hA) h fun M hs => ?_
  clear h hA
  refine c1 (hoardref4_List_at_calls ?_)
  rw [hoardref4_List_at_def, hoardref4_List_at_raw]
  obtain ⟨s, f, ⟨hn, hf, hc, hfc⟩, hs⟩ := rlst_open hs
  exact ⟨_, r4_at_loop hr (fun w hs => ⟨rfl, rlst_shut s f rfl hs⟩) row.length 0 w (by omega) (by simp) hs⟩
theorem r4_place (h : Sat W w L) [hA : At L b (rlst b row free) F] {i : Int} (hr : row.length < 1099511627776) : Calls Try.prog id_hoardref4_List_place #[.pointer (some ⟨b, 0, none⟩), .int .i64 i] w fun e w' => e = .returned (.int .i64 ((if i < 0 then 0 else rowPlace row i.toNat : Nat) : Int)) ∧ Sat W w' (F (rlst b (row) (free))) := by
  refine At.call1 (hA := hA) h fun M hs => ?_
  clear h hA
  refine c1 (hoardref4_List_place_calls ?_)
  rw [hoardref4_List_place_def, hoardref4_List_place_raw]
  refine ite_cases (fun h1 => ?_) (fun h1 => ?_)
  · rw [if_pos (by simpa using h1)]; exact ⟨rfl, hs⟩
  obtain ⟨s, f, ⟨hn, hf, hc, hfc⟩, hs⟩ := rlst_open hs
  simp only [decide_eq_false_iff_not] at h1
  rw [if_neg h1]
  repeat (first | with_reducible refine nilck_some ?_ | ((with_reducible refine atLd ?_); first | refine ld_b hs ?_ | refine ld_b (x := ⟨_, _, _⟩) hs ?_ | refine ld_r0 hs ?_ | refine ld_r1 hs ?_ | refine ld_r2 hs ?_ | refine ld_r3 hs ?_ | refine ld_r4 hs ?_ | refine ld_rd0 ha_ hs ?_ | refine ld_rd1 ha_ hs ?_ | refine ld_rd2 ha_ hs ?_ | refine ld_rd3 ha_ hs ?_ | refine ld_rd4 ha_ hs ?_ | fail) | ((with_reducible refine isSt ?_); first | refine st_b hs fun w hs => ?_ | refine st_rec5 hs fun w hs => ?_ | refine st_rec4 hs fun w hs => ?_ | refine st_rec3 hs fun w hs => ?_ | refine st_rec2 hs fun w hs => ?_ | refine st_r0 hs fun w hs => ?_ | refine st_r1 hs fun w hs => ?_ | fail) | ((with_reducible refine isIdx ?_); first | refine idx_s hs fun b_ o_ hs => ?_ | refine idx_a hs ?_ | refine idx_rd hs fun b_ o_ ha_ => ?_ | fail) | ((with_reducible refine isNew ?_); first | refine newB_at hs fun b_ w hs => ?_ | fail) | ((with_reducible refine isLdS ?_); first | refine ldS_b ?_ | refine ldS_b (x := ⟨_, _, _⟩) ?_ | refine ldS_r0 ?_ | refine ldS_r1 ?_ | refine ldS_r2 ?_ | refine ldS_r3 ?_ | refine ldS_rs0 hs ?_ | refine ldS_rs1 hs ?_ | refine ldS_rs2 hs ?_ | refine ldS_rs3 hs ?_ | refine ldS_rd0 ha_ ?_ | refine ldS_rd1 ha_ ?_ | refine ldS_rd2 ha_ ?_ | refine ldS_rd3 ha_ ?_ | fail) | ((with_reducible refine isKeep ?_); first | refine keep_of hs ?_ | refine keep_imp hs ?_ | fail) | ((with_reducible refine isWhen ?_); first | refine when_om ?_ | fail) | ((with_reducible refine isDraw ?_); first | refine drawW_sat hs fun w hs => ?_ | fail))
  refine ite_cases (fun h2 => ?_) (fun h2 => ?_)
  · simp only [ge_iff_le, decide_eq_true_eq] at h2
    have : rowPlace row i.toNat = 0 := by
      unfold rowPlace; rw [List.getD_eq_getElem?_getD, List.getElem?_eq_none (by simp; omega)]; rfl
    rw [this]; exact ⟨rfl, rlst_shut s f rfl hs⟩
  · simp only [ge_iff_le, decide_eq_false_iff_not] at h2
    rw [hoardref4_List_place_j1_def, hoardref4_List_place_j1_raw]
    repeat (first | with_reducible refine nilck_some ?_ | ((with_reducible refine atLd ?_); first | refine ld_b hs ?_ | refine ld_b (x := ⟨_, _, _⟩) hs ?_ | refine ld_r0 hs ?_ | refine ld_r1 hs ?_ | refine ld_r2 hs ?_ | refine ld_r3 hs ?_ | refine ld_r4 hs ?_ | refine ld_rd0 ha_ hs ?_ | refine ld_rd1 ha_ hs ?_ | refine ld_rd2 ha_ hs ?_ | refine ld_rd3 ha_ hs ?_ | refine ld_rd4 ha_ hs ?_ | fail) | ((with_reducible refine isSt ?_); first | refine st_b hs fun w hs => ?_ | refine st_rec5 hs fun w hs => ?_ | refine st_rec4 hs fun w hs => ?_ | refine st_rec3 hs fun w hs => ?_ | refine st_rec2 hs fun w hs => ?_ | refine st_r0 hs fun w hs => ?_ | refine st_r1 hs fun w hs => ?_ | fail) | ((with_reducible refine isIdx ?_); first | refine idx_s hs fun b_ o_ hs => ?_ | refine idx_a hs ?_ | refine idx_rd hs fun b_ o_ ha_ => ?_ | fail) | ((with_reducible refine isNew ?_); first | refine newB_at hs fun b_ w hs => ?_ | fail) | ((with_reducible refine isLdS ?_); first | refine ldS_b ?_ | refine ldS_b (x := ⟨_, _, _⟩) ?_ | refine ldS_r0 ?_ | refine ldS_r1 ?_ | refine ldS_r2 ?_ | refine ldS_r3 ?_ | refine ldS_rs0 hs ?_ | refine ldS_rs1 hs ?_ | refine ldS_rs2 hs ?_ | refine ldS_rs3 hs ?_ | refine ldS_rd0 ha_ ?_ | refine ldS_rd1 ha_ ?_ | refine ldS_rd2 ha_ ?_ | refine ldS_rd3 ha_ ?_ | fail) | ((with_reducible refine isKeep ?_); first | refine keep_of hs ?_ | refine keep_imp hs ?_ | fail) | ((with_reducible refine isWhen ?_); first | refine when_om ?_ | fail) | ((with_reducible refine isDraw ?_); first | refine drawW_sat hs fun w hs => ?_ | fail))
    refine ⟨?_, rlst_shut s f rfl (by exact Sat.fin hs)⟩
    unfold rowPlace
    rw [List.getD_eq_getElem?_getD, List.getD_eq_getElem?_getD, List.getElem?_map, List.getElem?_eq_getElem (by omega)]; rfl
theorem r4_Front (h : Sat W w L) [hA : At L b (rlst b row free) F] (hr : row.length + free.length < 1099511627776) : Calls Try.prog id_hoardref4_List_Front #[.pointer (some ⟨b, 0, none⟩)] w fun e w' => e = .returned (.int .i64 (rowPlace row 0 : Int)) ∧ Sat W w' (F (rlst b (row) (free))) := by
  refine At.call1 (hA := hA) h fun M hs => ?_
  clear h hA
  refine c1 (hoardref4_List_Front_calls ?_)
  rw [hoardref4_List_Front_def, hoardref4_List_Front_raw]
  refine call1_of (r4_place hs (by omega)) fun e w ⟨he, hs⟩ => ⟨_, he, ?_⟩
  exact ⟨by simp, hs⟩
theorem r4_Back (h : Sat W w L) [hA : At L b (rlst b row free) F] (hr : row.length + free.length < 1099511627776) : Calls Try.prog id_hoardref4_List_Back #[.pointer (some ⟨b, 0, none⟩)] w fun e w' => e = .returned (.int .i64 (rowLast row : Int)) ∧ Sat W w' (F (rlst b (row) (free))) := by
  refine At.call1 (hA := hA) h fun M hs => ?_
  clear h hA
  refine c1 (hoardref4_List_Back_calls ?_)
  rw [hoardref4_List_Back_def, hoardref4_List_Back_raw]
  obtain ⟨s, f, ⟨hn, hf, hc, hfc⟩, hs⟩ := rlst_open hs
  repeat (first | with_reducible refine nilck_some ?_ | ((with_reducible refine atLd ?_); first | refine ld_b hs ?_ | refine ld_b (x := ⟨_, _, _⟩) hs ?_ | refine ld_r0 hs ?_ | refine ld_r1 hs ?_ | refine ld_r2 hs ?_ | refine ld_r3 hs ?_ | refine ld_r4 hs ?_ | refine ld_rd0 ha_ hs ?_ | refine ld_rd1 ha_ hs ?_ | refine ld_rd2 ha_ hs ?_ | refine ld_rd3 ha_ hs ?_ | refine ld_rd4 ha_ hs ?_ | fail) | ((with_reducible refine isSt ?_); first | refine st_b hs fun w hs => ?_ | refine st_rec5 hs fun w hs => ?_ | refine st_rec4 hs fun w hs => ?_ | refine st_rec3 hs fun w hs => ?_ | refine st_rec2 hs fun w hs => ?_ | refine st_r0 hs fun w hs => ?_ | refine st_r1 hs fun w hs => ?_ | fail) | ((with_reducible refine isIdx ?_); first | refine idx_s hs fun b_ o_ hs => ?_ | refine idx_a hs ?_ | refine idx_rd hs fun b_ o_ ha_ => ?_ | fail) | ((with_reducible refine isNew ?_); first | refine newB_at hs fun b_ w hs => ?_ | fail) | ((with_reducible refine isLdS ?_); first | refine ldS_b ?_ | refine ldS_b (x := ⟨_, _, _⟩) ?_ | refine ldS_r0 ?_ | refine ldS_r1 ?_ | refine ldS_r2 ?_ | refine ldS_r3 ?_ | refine ldS_rs0 hs ?_ | refine ldS_rs1 hs ?_ | refine ldS_rs2 hs ?_ | refine ldS_rs3 hs ?_ | refine ldS_rd0 ha_ ?_ | refine ldS_rd1 ha_ ?_ | refine ldS_rd2 ha_ ?_ | refine ldS_rd3 ha_ ?_ | fail) | ((with_reducible refine isKeep ?_); first | refine keep_of hs ?_ | refine keep_imp hs ?_ | fail) | ((with_reducible refine isWhen ?_); first | refine when_om ?_ | fail) | ((with_reducible refine isDraw ?_); first | refine drawW_sat hs fun w hs => ?_ | fail))
  have hs := rlst_shut s f rfl hs
  refine call1_of (r4_place hs (by omega)) fun e w ⟨he, hs⟩ => ⟨_, he, ?_⟩
  refine ⟨?_, hs⟩
  rw [i64_in _ (by omega), rowLast, hn]
  by_cases h0 : row.length = 0
  · rw [if_pos h0, if_pos (show (row.length : Int) - 1 < 0 by omega)]
  · rw [if_neg h0, if_neg (show ¬ (row.length : Int) - 1 < 0 by omega)]
    congr 3; omega
theorem r4_Get (h : Sat W w L) [hA : At L b (rlst b row free) F] {x : Int} (hr : row.length + free.length < 1099511627776) : Calls Try.prog id_hoardref4_List_Get #[.pointer (some ⟨b, 0, none⟩), .int .i64 x] w fun e w' => e = .returned (.tuple #[.string ((rowVal row x).getD str_empty), .bool (rAt row x).isSome]) ∧ Sat W w' (F (rlst b (row) (free))) := by
  refine At.call1 (hA := hA) h fun M hs => ?_
  clear h hA
  refine c1 (hoardref4_List_Get_calls ?_)
  rw [hoardref4_List_Get_def, hoardref4_List_Get_raw]
  refine call1_of (r4_at hs (by omega)) fun e w ⟨he, hs⟩ => ⟨_, he, ?_⟩
  refine ite_cases (fun h1 => ?_) (fun h1 => ?_)
  · cases hx : rAt row x with
    | none => refine ⟨?_, hs⟩; simp only [rowVal, hx]; rfl
    | some i =>
      have hv : atI row x = (i : Int) := by simp only [atI, hx]
      rw [hv, decide_eq_true_eq] at h1
      have h1 : (i : Int) < 0 := h1
      omega
  obtain ⟨s, f, ⟨hn, hf, hc, hfc⟩, hs⟩ := rlst_open hs
  have hlt := at_lt (row := row) (x := x)
  cases hx : rAt row x with
  | none => simp [atI, hx] at h1
  | some i =>
    have hv : atI row x = (i : Int) := by simp only [atI, hx]
    rw [hv] at hlt ⊢
    repeat (first | with_reducible refine nilck_some ?_ | ((with_reducible refine atLd ?_); first | refine ld_b hs ?_ | refine ld_b (x := ⟨_, _, _⟩) hs ?_ | refine ld_r0 hs ?_ | refine ld_r1 hs ?_ | refine ld_r2 hs ?_ | refine ld_r3 hs ?_ | refine ld_r4 hs ?_ | refine ld_rd0 ha_ hs ?_ | refine ld_rd1 ha_ hs ?_ | refine ld_rd2 ha_ hs ?_ | refine ld_rd3 ha_ hs ?_ | refine ld_rd4 ha_ hs ?_ | fail) | ((with_reducible refine isSt ?_); first | refine st_b hs fun w hs => ?_ | refine st_rec5 hs fun w hs => ?_ | refine st_rec4 hs fun w hs => ?_ | refine st_rec3 hs fun w hs => ?_ | refine st_rec2 hs fun w hs => ?_ | refine st_r0 hs fun w hs => ?_ | refine st_r1 hs fun w hs => ?_ | fail) | ((with_reducible refine isIdx ?_); first | refine idx_s hs fun b_ o_ hs => ?_ | refine idx_a hs ?_ | refine idx_rd hs fun b_ o_ ha_ => ?_ | fail) | ((with_reducible refine isNew ?_); first | refine newB_at hs fun b_ w hs => ?_ | fail) | ((with_reducible refine isLdS ?_); first | refine ldS_b ?_ | refine ldS_b (x := ⟨_, _, _⟩) ?_ | refine ldS_r0 ?_ | refine ldS_r1 ?_ | refine ldS_r2 ?_ | refine ldS_r3 ?_ | refine ldS_rs0 hs ?_ | refine ldS_rs1 hs ?_ | refine ldS_rs2 hs ?_ | refine ldS_rs3 hs ?_ | refine ldS_rd0 ha_ ?_ | refine ldS_rd1 ha_ ?_ | refine ldS_rd2 ha_ ?_ | refine ldS_rd3 ha_ ?_ | fail) | ((with_reducible refine isKeep ?_); first | refine keep_of hs ?_ | refine keep_imp hs ?_ | fail) | ((with_reducible refine isWhen ?_); first | refine when_om ?_ | fail) | ((with_reducible refine isDraw ?_); first | refine drawW_sat hs fun w hs => ?_ | fail))
    refine ⟨?_, rlst_shut s f rfl (by exact Sat.fin hs)⟩
    simp only [rowVal, hx, Int.toNat_natCast]
    rw [List.getElem?_eq_getElem (by omega), List.getD_eq_getElem?_getD, List.getElem?_eq_getElem (by omega)]; rfl
theorem r4_Set (h : Sat W w L) [hA : At L b (rlst b row free) F] {x : Int} {v : ByteArray} (hr : row.length + free.length < 1099511627776) : Calls Try.prog id_hoardref4_List_Set #[.pointer (some ⟨b, 0, none⟩), .int .i64 x, .string v] w fun e w' => e = .returned (.bool (rAt row x).isSome) ∧ Sat W w' (F (rlst b (match rAt row x with | some i => rowSet row i v | none => row) (free))) := by
  refine At.call1 (hA := hA) h fun M hs => ?_
  clear h hA
  refine c1 (hoardref4_List_Set_calls ?_)
  rw [hoardref4_List_Set_def, hoardref4_List_Set_raw]
  refine call1_of (r4_at hs (by omega)) fun e w ⟨he, hs⟩ => ⟨_, he, ?_⟩
  have hlt := at_lt (row := row) (x := x)
  cases hx : rAt row x with
  | none =>
    have hv : atI row x = -1 := by simp only [atI, hx]
    rw [hv]
    exact ite_false (by simp) ⟨rfl, hs⟩
  | some i =>
    have hv : atI row x = (i : Int) := by simp only [atI, hx]
    rw [hv] at hlt ⊢
    refine ite_true (by simp) ?_
    obtain ⟨s, f, ⟨hn, hf, hc, hfc⟩, hs⟩ := rlst_open hs
    repeat (first | with_reducible refine nilck_some ?_ | ((with_reducible refine atLd ?_); first | refine ld_b hs ?_ | refine ld_b (x := ⟨_, _, _⟩) hs ?_ | refine ld_r0 hs ?_ | refine ld_r1 hs ?_ | refine ld_r2 hs ?_ | refine ld_r3 hs ?_ | refine ld_r4 hs ?_ | refine ld_rd0 ha_ hs ?_ | refine ld_rd1 ha_ hs ?_ | refine ld_rd2 ha_ hs ?_ | refine ld_rd3 ha_ hs ?_ | refine ld_rd4 ha_ hs ?_ | fail) | ((with_reducible refine isSt ?_); first | refine st_b hs fun w hs => ?_ | refine st_rec5 hs fun w hs => ?_ | refine st_rec4 hs fun w hs => ?_ | refine st_rec3 hs fun w hs => ?_ | refine st_rec2 hs fun w hs => ?_ | refine st_r0 hs fun w hs => ?_ | refine st_r1 hs fun w hs => ?_ | fail) | ((with_reducible refine isIdx ?_); first | refine idx_s hs fun b_ o_ hs => ?_ | refine idx_a hs ?_ | refine idx_rd hs fun b_ o_ ha_ => ?_ | fail) | ((with_reducible refine isNew ?_); first | refine newB_at hs fun b_ w hs => ?_ | fail) | ((with_reducible refine isLdS ?_); first | refine ldS_b ?_ | refine ldS_b (x := ⟨_, _, _⟩) ?_ | refine ldS_r0 ?_ | refine ldS_r1 ?_ | refine ldS_r2 ?_ | refine ldS_r3 ?_ | refine ldS_rs0 hs ?_ | refine ldS_rs1 hs ?_ | refine ldS_rs2 hs ?_ | refine ldS_rs3 hs ?_ | refine ldS_rd0 ha_ ?_ | refine ldS_rd1 ha_ ?_ | refine ldS_rd2 ha_ ?_ | refine ldS_rd3 ha_ ?_ | fail) | ((with_reducible refine isKeep ?_); first | refine keep_of hs ?_ | refine keep_imp hs ?_ | fail) | ((with_reducible refine isWhen ?_); first | refine when_om ?_ | fail) | ((with_reducible refine isDraw ?_); first | refine drawW_sat hs fun w hs => ?_ | fail))
    simp only [Int.toNat_natCast] at hs
    refine ⟨by simp, rlst_shut s f (n := ((row.length + free.length : Nat) : Int)) ?_ ?_⟩
    · simp [rowSet]
    · have : rowSet row i v = row.set i ((row.getD i default).1, v) := by
        unfold rowSet
        congr 2
        rw [List.getD_eq_getElem?_getD, List.getD_eq_getElem?_getD, List.getElem?_map, List.getElem?_eq_getElem (by omega)]; rfl
      simp only [this]
      exact Sat.fin hs
theorem r4_handle (hr : row.length + free.length < 1099511627776) (hs : Sat W w (rlst b row free :: M)) :
    Calls Try.prog id_hoardref4_List_handle #[.pointer (some ⟨b, 0, none⟩)] w fun e w' => e = .returned (.int .i64 (hdl row free : Int)) ∧ ∃ (s f : Sl), s.n = row.length ∧ Sat W w' (blk b [.slice s.a s.n s.c, .slice f.a f.n f.c, .int .i64 ((row.length + free.dropLast.length + 1 : Nat) : Int)] :: recs cellR s row :: recs Rec.nat f free.dropLast :: M) := by
  refine c1 (hoardref4_List_handle_calls ?_)
  rw [hoardref4_List_handle_def, hoardref4_List_handle_raw]
  obtain ⟨s, f, ⟨hn, hf, hc, hfc⟩, hs⟩ := rlst_open hs
  repeat (first | with_reducible refine nilck_some ?_ | ((with_reducible refine atLd ?_); first | refine ld_b hs ?_ | refine ld_b (x := ⟨_, _, _⟩) hs ?_ | refine ld_r0 hs ?_ | refine ld_r1 hs ?_ | refine ld_r2 hs ?_ | refine ld_r3 hs ?_ | refine ld_r4 hs ?_ | refine ld_rd0 ha_ hs ?_ | refine ld_rd1 ha_ hs ?_ | refine ld_rd2 ha_ hs ?_ | refine ld_rd3 ha_ hs ?_ | refine ld_rd4 ha_ hs ?_ | fail) | ((with_reducible refine isSt ?_); first | refine st_b hs fun w hs => ?_ | refine st_rec5 hs fun w hs => ?_ | refine st_rec4 hs fun w hs => ?_ | refine st_rec3 hs fun w hs => ?_ | refine st_rec2 hs fun w hs => ?_ | refine st_r0 hs fun w hs => ?_ | refine st_r1 hs fun w hs => ?_ | fail) | ((with_reducible refine isIdx ?_); first | refine idx_s hs fun b_ o_ hs => ?_ | refine idx_a hs ?_ | refine idx_rd hs fun b_ o_ ha_ => ?_ | fail) | ((with_reducible refine isNew ?_); first | refine newB_at hs fun b_ w hs => ?_ | fail) | ((with_reducible refine isLdS ?_); first | refine ldS_b ?_ | refine ldS_b (x := ⟨_, _, _⟩) ?_ | refine ldS_r0 ?_ | refine ldS_r1 ?_ | refine ldS_r2 ?_ | refine ldS_r3 ?_ | refine ldS_rs0 hs ?_ | refine ldS_rs1 hs ?_ | refine ldS_rs2 hs ?_ | refine ldS_rs3 hs ?_ | refine ldS_rd0 ha_ ?_ | refine ldS_rd1 ha_ ?_ | refine ldS_rd2 ha_ ?_ | refine ldS_rd3 ha_ ?_ | fail) | ((with_reducible refine isKeep ?_); first | refine keep_of hs ?_ | refine keep_imp hs ?_ | fail) | ((with_reducible refine isWhen ?_); first | refine when_om ?_ | fail) | ((with_reducible refine isDraw ?_); first | refine drawW_sat hs fun w hs => ?_ | fail))
  refine ite_cases (fun h1 => ?_) (fun h1 => ?_)
  · have hfe : free = [] := List.length_eq_zero_iff.1 (by simp at h1; omega)
    subst hfe
    repeat (first | with_reducible refine nilck_some ?_ | ((with_reducible refine atLd ?_); first | refine ld_b hs ?_ | refine ld_b (x := ⟨_, _, _⟩) hs ?_ | refine ld_r0 hs ?_ | refine ld_r1 hs ?_ | refine ld_r2 hs ?_ | refine ld_r3 hs ?_ | refine ld_r4 hs ?_ | refine ld_rd0 ha_ hs ?_ | refine ld_rd1 ha_ hs ?_ | refine ld_rd2 ha_ hs ?_ | refine ld_rd3 ha_ hs ?_ | refine ld_rd4 ha_ hs ?_ | fail) | ((with_reducible refine isSt ?_); first | refine st_b hs fun w hs => ?_ | refine st_rec5 hs fun w hs => ?_ | refine st_rec4 hs fun w hs => ?_ | refine st_rec3 hs fun w hs => ?_ | refine st_rec2 hs fun w hs => ?_ | refine st_r0 hs fun w hs => ?_ | refine st_r1 hs fun w hs => ?_ | fail) | ((with_reducible refine isIdx ?_); first | refine idx_s hs fun b_ o_ hs => ?_ | refine idx_a hs ?_ | refine idx_rd hs fun b_ o_ ha_ => ?_ | fail) | ((with_reducible refine isNew ?_); first | refine newB_at hs fun b_ w hs => ?_ | fail) | ((with_reducible refine isLdS ?_); first | refine ldS_b ?_ | refine ldS_b (x := ⟨_, _, _⟩) ?_ | refine ldS_r0 ?_ | refine ldS_r1 ?_ | refine ldS_r2 ?_ | refine ldS_r3 ?_ | refine ldS_rs0 hs ?_ | refine ldS_rs1 hs ?_ | refine ldS_rs2 hs ?_ | refine ldS_rs3 hs ?_ | refine ldS_rd0 ha_ ?_ | refine ldS_rd1 ha_ ?_ | refine ldS_rd2 ha_ ?_ | refine ldS_rd3 ha_ ?_ | fail) | ((with_reducible refine isKeep ?_); first | refine keep_of hs ?_ | refine keep_imp hs ?_ | fail) | ((with_reducible refine isWhen ?_); first | refine when_om ?_ | fail) | ((with_reducible refine isDraw ?_); first | refine drawW_sat hs fun w hs => ?_ | fail))
    simp only [List.length_nil] at hr hs ⊢
    rw [i64_in _ (by omega)] at hs
    rw [i64_in _ (by omega)]
    refine ⟨by simp [hdl], s, f, hn, ?_⟩
    simp only [List.dropLast_nil, List.length_nil]
    exact Sat.fin hs
  · have hne : free ≠ [] := by rintro rfl; simp [hf] at h1
    have hlen : 0 < free.length := List.length_pos_iff.2 hne
    have hwr : IntKind.wrap .i64 ((f.n : Int) - 1) = ((free.length - 1 : Nat) : Int) := by rw [i64_in _ (by omega)]; omega
    repeat (first | with_reducible refine nilck_some ?_ | ((with_reducible refine atLd ?_); first | refine ld_b hs ?_ | refine ld_b (x := ⟨_, _, _⟩) hs ?_ | refine ld_r0 hs ?_ | refine ld_r1 hs ?_ | refine ld_r2 hs ?_ | refine ld_r3 hs ?_ | refine ld_r4 hs ?_ | refine ld_rd0 ha_ hs ?_ | refine ld_rd1 ha_ hs ?_ | refine ld_rd2 ha_ hs ?_ | refine ld_rd3 ha_ hs ?_ | refine ld_rd4 ha_ hs ?_ | fail) | ((with_reducible refine isSt ?_); first | refine st_b hs fun w hs => ?_ | refine st_rec5 hs fun w hs => ?_ | refine st_rec4 hs fun w hs => ?_ | refine st_rec3 hs fun w hs => ?_ | refine st_rec2 hs fun w hs => ?_ | refine st_r0 hs fun w hs => ?_ | refine st_r1 hs fun w hs => ?_ | fail) | ((with_reducible refine isIdx ?_); first | refine idx_s hs fun b_ o_ hs => ?_ | refine idx_a hs ?_ | refine idx_rd hs fun b_ o_ ha_ => ?_ | fail) | ((with_reducible refine isNew ?_); first | refine newB_at hs fun b_ w hs => ?_ | fail) | ((with_reducible refine isLdS ?_); first | refine ldS_b ?_ | refine ldS_b (x := ⟨_, _, _⟩) ?_ | refine ldS_r0 ?_ | refine ldS_r1 ?_ | refine ldS_r2 ?_ | refine ldS_r3 ?_ | refine ldS_rs0 hs ?_ | refine ldS_rs1 hs ?_ | refine ldS_rs2 hs ?_ | refine ldS_rs3 hs ?_ | refine ldS_rd0 ha_ ?_ | refine ldS_rd1 ha_ ?_ | refine ldS_rd2 ha_ ?_ | refine ldS_rd3 ha_ ?_ | fail) | ((with_reducible refine isKeep ?_); first | refine keep_of hs ?_ | refine keep_imp hs ?_ | fail) | ((with_reducible refine isWhen ?_); first | refine when_om ?_ | fail) | ((with_reducible refine isDraw ?_); first | refine drawW_sat hs fun w hs => ?_ | fail))
    simp only [hwr, Int.toNat_natCast]
    have hlast : free.getD (free.length - 1) default = hdl row free := by
      rw [hdl, List.getLastD_eq_getLast?, List.getLast?_eq_getElem?, List.getD_eq_getElem?_getD, List.getElem?_eq_getElem (by omega)]; rfl
    repeat (first | with_reducible refine nilck_some ?_ | ((with_reducible refine atLd ?_); first | refine ld_b hs ?_ | refine ld_b (x := ⟨_, _, _⟩) hs ?_ | refine ld_r0 hs ?_ | refine ld_r1 hs ?_ | refine ld_r2 hs ?_ | refine ld_r3 hs ?_ | refine ld_r4 hs ?_ | refine ld_rd0 ha_ hs ?_ | refine ld_rd1 ha_ hs ?_ | refine ld_rd2 ha_ hs ?_ | refine ld_rd3 ha_ hs ?_ | refine ld_rd4 ha_ hs ?_ | fail) | ((with_reducible refine isSt ?_); first | refine st_b hs fun w hs => ?_ | refine st_rec5 hs fun w hs => ?_ | refine st_rec4 hs fun w hs => ?_ | refine st_rec3 hs fun w hs => ?_ | refine st_rec2 hs fun w hs => ?_ | refine st_r0 hs fun w hs => ?_ | refine st_r1 hs fun w hs => ?_ | fail) | ((with_reducible refine isIdx ?_); first | refine idx_s hs fun b_ o_ hs => ?_ | refine idx_a hs ?_ | refine idx_rd hs fun b_ o_ ha_ => ?_ | fail) | ((with_reducible refine isNew ?_); first | refine newB_at hs fun b_ w hs => ?_ | fail) | ((with_reducible refine isLdS ?_); first | refine ldS_b ?_ | refine ldS_b (x := ⟨_, _, _⟩) ?_ | refine ldS_r0 ?_ | refine ldS_r1 ?_ | refine ldS_r2 ?_ | refine ldS_r3 ?_ | refine ldS_rs0 hs ?_ | refine ldS_rs1 hs ?_ | refine ldS_rs2 hs ?_ | refine ldS_rs3 hs ?_ | refine ldS_rd0 ha_ ?_ | refine ldS_rd1 ha_ ?_ | refine ldS_rd2 ha_ ?_ | refine ldS_rd3 ha_ ?_ | fail) | ((with_reducible refine isKeep ?_); first | refine keep_of hs ?_ | refine keep_imp hs ?_ | fail) | ((with_reducible refine isWhen ?_); first | refine when_om ?_ | fail) | ((with_reducible refine isDraw ?_); first | refine drawW_sat hs fun w hs => ?_ | fail))
    have hs := hs.shut f
    refine app_own hs Rec.nat (rows := []) rfl rfl (new := free.dropLast) (rd_sub (s := f) (E := Rec.nat) (rows := free) (lo := 0) (c := f.c) hs (k := free.length - 1) (by omega) (by omega) rfl |>.trans (by rw [List.drop_zero, ← List.dropLast_eq_take])) (by simp) (okC_flat _) rfl (by decide) (by simp; omega) fun f2 w hf2 hs => ?_
    repeat (first | with_reducible refine nilck_some ?_ | ((with_reducible refine atLd ?_); first | refine ld_b hs ?_ | refine ld_b (x := ⟨_, _, _⟩) hs ?_ | refine ld_r0 hs ?_ | refine ld_r1 hs ?_ | refine ld_r2 hs ?_ | refine ld_r3 hs ?_ | refine ld_r4 hs ?_ | refine ld_rd0 ha_ hs ?_ | refine ld_rd1 ha_ hs ?_ | refine ld_rd2 ha_ hs ?_ | refine ld_rd3 ha_ hs ?_ | refine ld_rd4 ha_ hs ?_ | fail) | ((with_reducible refine isSt ?_); first | refine st_b hs fun w hs => ?_ | refine st_rec5 hs fun w hs => ?_ | refine st_rec4 hs fun w hs => ?_ | refine st_rec3 hs fun w hs => ?_ | refine st_rec2 hs fun w hs => ?_ | refine st_r0 hs fun w hs => ?_ | refine st_r1 hs fun w hs => ?_ | fail) | ((with_reducible refine isIdx ?_); first | refine idx_s hs fun b_ o_ hs => ?_ | refine idx_a hs ?_ | refine idx_rd hs fun b_ o_ ha_ => ?_ | fail) | ((with_reducible refine isNew ?_); first | refine newB_at hs fun b_ w hs => ?_ | fail) | ((with_reducible refine isLdS ?_); first | refine ldS_b ?_ | refine ldS_b (x := ⟨_, _, _⟩) ?_ | refine ldS_r0 ?_ | refine ldS_r1 ?_ | refine ldS_r2 ?_ | refine ldS_r3 ?_ | refine ldS_rs0 hs ?_ | refine ldS_rs1 hs ?_ | refine ldS_rs2 hs ?_ | refine ldS_rs3 hs ?_ | refine ldS_rd0 ha_ ?_ | refine ldS_rd1 ha_ ?_ | refine ldS_rd2 ha_ ?_ | refine ldS_rd3 ha_ ?_ | fail) | ((with_reducible refine isKeep ?_); first | refine keep_of hs ?_ | refine keep_imp hs ?_ | fail) | ((with_reducible refine isWhen ?_); first | refine when_om ?_ | fail) | ((with_reducible refine isDraw ?_); first | refine drawW_sat hs fun w hs => ?_ | fail))
    rw [hlast]
    refine ⟨rfl, s, f2, hn, ?_⟩
    have e : row.length + free.length = row.length + free.dropLast.length + 1 := by simp; omega
    rw [e] at hs
    exact Sat.fin hs
theorem r4_PushFront (h : Sat W w L) [hA : At L b (rlst b row free) F] {v : ByteArray} (hr : row.length + free.length < 1099511627776) : Calls Try.prog id_hoardref4_List_PushFront #[.pointer (some ⟨b, 0, none⟩), .string v] w fun e w' => e = .returned (.int .i64 (hdl row free : Int)) ∧ Sat W w' (F (rlst b ((hdl row free, v) :: row) (free.dropLast))) := by
  refine At.call1 (hA := hA) h fun M hs => ?_
  clear h hA
  refine c1 (hoardref4_List_PushFront_calls ?_)
  rw [hoardref4_List_PushFront_def, hoardref4_List_PushFront_raw]
  refine call1_of (r4_handle hr hs) fun e w ⟨he, s, f, hn, hs⟩ => ⟨_, he, ?_⟩
  have hdp : free.dropLast.length ≤ free.length := by simp
  repeat (first | with_reducible refine nilck_some ?_ | ((with_reducible refine atLd ?_); first | refine ld_b hs ?_ | refine ld_b (x := ⟨_, _, _⟩) hs ?_ | refine ld_r0 hs ?_ | refine ld_r1 hs ?_ | refine ld_r2 hs ?_ | refine ld_r3 hs ?_ | refine ld_r4 hs ?_ | refine ld_rd0 ha_ hs ?_ | refine ld_rd1 ha_ hs ?_ | refine ld_rd2 ha_ hs ?_ | refine ld_rd3 ha_ hs ?_ | refine ld_rd4 ha_ hs ?_ | fail) | ((with_reducible refine isSt ?_); first | refine st_b hs fun w hs => ?_ | refine st_rec5 hs fun w hs => ?_ | refine st_rec4 hs fun w hs => ?_ | refine st_rec3 hs fun w hs => ?_ | refine st_rec2 hs fun w hs => ?_ | refine st_r0 hs fun w hs => ?_ | refine st_r1 hs fun w hs => ?_ | fail) | ((with_reducible refine isIdx ?_); first | refine idx_s hs fun b_ o_ hs => ?_ | refine idx_a hs ?_ | refine idx_rd hs fun b_ o_ ha_ => ?_ | fail) | ((with_reducible refine isNew ?_); first | refine newB_at hs fun b_ w hs => ?_ | fail) | ((with_reducible refine isLdS ?_); first | refine ldS_b ?_ | refine ldS_b (x := ⟨_, _, _⟩) ?_ | refine ldS_r0 ?_ | refine ldS_r1 ?_ | refine ldS_r2 ?_ | refine ldS_r3 ?_ | refine ldS_rs0 hs ?_ | refine ldS_rs1 hs ?_ | refine ldS_rs2 hs ?_ | refine ldS_rs3 hs ?_ | refine ldS_rd0 ha_ ?_ | refine ldS_rd1 ha_ ?_ | refine ldS_rd2 ha_ ?_ | refine ldS_rd3 ha_ ?_ | fail) | ((with_reducible refine isKeep ?_); first | refine keep_of hs ?_ | refine keep_imp hs ?_ | fail) | ((with_reducible refine isWhen ?_); first | refine when_om ?_ | fail) | ((with_reducible refine isDraw ?_); first | refine drawW_sat hs fun w hs => ?_ | fail))
  refine app_own hs cellR (rows := [(hdl row free, v)]) rfl rfl (rd_rdb (s := s) hs) hn (okC_flat _) rfl (by decide) (by simp; omega) fun s2 w hs2 hs => ?_
  repeat (first | with_reducible refine nilck_some ?_ | ((with_reducible refine atLd ?_); first | refine ld_b hs ?_ | refine ld_b (x := ⟨_, _, _⟩) hs ?_ | refine ld_r0 hs ?_ | refine ld_r1 hs ?_ | refine ld_r2 hs ?_ | refine ld_r3 hs ?_ | refine ld_r4 hs ?_ | refine ld_rd0 ha_ hs ?_ | refine ld_rd1 ha_ hs ?_ | refine ld_rd2 ha_ hs ?_ | refine ld_rd3 ha_ hs ?_ | refine ld_rd4 ha_ hs ?_ | fail) | ((with_reducible refine isSt ?_); first | refine st_b hs fun w hs => ?_ | refine st_rec5 hs fun w hs => ?_ | refine st_rec4 hs fun w hs => ?_ | refine st_rec3 hs fun w hs => ?_ | refine st_rec2 hs fun w hs => ?_ | refine st_r0 hs fun w hs => ?_ | refine st_r1 hs fun w hs => ?_ | fail) | ((with_reducible refine isIdx ?_); first | refine idx_s hs fun b_ o_ hs => ?_ | refine idx_a hs ?_ | refine idx_rd hs fun b_ o_ ha_ => ?_ | fail) | ((with_reducible refine isNew ?_); first | refine newB_at hs fun b_ w hs => ?_ | fail) | ((with_reducible refine isLdS ?_); first | refine ldS_b ?_ | refine ldS_b (x := ⟨_, _, _⟩) ?_ | refine ldS_r0 ?_ | refine ldS_r1 ?_ | refine ldS_r2 ?_ | refine ldS_r3 ?_ | refine ldS_rs0 hs ?_ | refine ldS_rs1 hs ?_ | refine ldS_rs2 hs ?_ | refine ldS_rs3 hs ?_ | refine ldS_rd0 ha_ ?_ | refine ldS_rd1 ha_ ?_ | refine ldS_rd2 ha_ ?_ | refine ldS_rd3 ha_ ?_ | fail) | ((with_reducible refine isKeep ?_); first | refine keep_of hs ?_ | refine keep_imp hs ?_ | fail) | ((with_reducible refine isWhen ?_); first | refine when_om ?_ | fail) | ((with_reducible refine isDraw ?_); first | refine drawW_sat hs fun w hs => ?_ | fail))
  refine ⟨rfl, rlst_shut s2 f (n := ((row.length + free.dropLast.length + 1 : Nat) : Int)) (by simp; omega) (by exact Sat.fin hs)⟩
theorem r4_PushBack (h : Sat W w L) [hA : At L b (rlst b row free) F] {v : ByteArray} (hr : row.length + free.length < 1099511627776) : Calls Try.prog id_hoardref4_List_PushBack #[.pointer (some ⟨b, 0, none⟩), .string v] w fun e w' => e = .returned (.int .i64 (hdl row free : Int)) ∧ Sat W w' (F (rlst b (row ++ [(hdl row free, v)]) (free.dropLast))) := by
  refine At.call1 (hA := hA) h fun M hs => ?_
  clear h hA
  refine c1 (hoardref4_List_PushBack_calls ?_)
  rw [hoardref4_List_PushBack_def, hoardref4_List_PushBack_raw]
  refine call1_of (r4_handle hr hs) fun e w ⟨he, s, f, hn, hs⟩ => ⟨_, he, ?_⟩
  have hdp : free.dropLast.length ≤ free.length := by simp
  repeat (first | with_reducible refine nilck_some ?_ | ((with_reducible refine atLd ?_); first | refine ld_b hs ?_ | refine ld_b (x := ⟨_, _, _⟩) hs ?_ | refine ld_r0 hs ?_ | refine ld_r1 hs ?_ | refine ld_r2 hs ?_ | refine ld_r3 hs ?_ | refine ld_r4 hs ?_ | refine ld_rd0 ha_ hs ?_ | refine ld_rd1 ha_ hs ?_ | refine ld_rd2 ha_ hs ?_ | refine ld_rd3 ha_ hs ?_ | refine ld_rd4 ha_ hs ?_ | fail) | ((with_reducible refine isSt ?_); first | refine st_b hs fun w hs => ?_ | refine st_rec5 hs fun w hs => ?_ | refine st_rec4 hs fun w hs => ?_ | refine st_rec3 hs fun w hs => ?_ | refine st_rec2 hs fun w hs => ?_ | refine st_r0 hs fun w hs => ?_ | refine st_r1 hs fun w hs => ?_ | fail) | ((with_reducible refine isIdx ?_); first | refine idx_s hs fun b_ o_ hs => ?_ | refine idx_a hs ?_ | refine idx_rd hs fun b_ o_ ha_ => ?_ | fail) | ((with_reducible refine isNew ?_); first | refine newB_at hs fun b_ w hs => ?_ | fail) | ((with_reducible refine isLdS ?_); first | refine ldS_b ?_ | refine ldS_b (x := ⟨_, _, _⟩) ?_ | refine ldS_r0 ?_ | refine ldS_r1 ?_ | refine ldS_r2 ?_ | refine ldS_r3 ?_ | refine ldS_rs0 hs ?_ | refine ldS_rs1 hs ?_ | refine ldS_rs2 hs ?_ | refine ldS_rs3 hs ?_ | refine ldS_rd0 ha_ ?_ | refine ldS_rd1 ha_ ?_ | refine ldS_rd2 ha_ ?_ | refine ldS_rd3 ha_ ?_ | fail) | ((with_reducible refine isKeep ?_); first | refine keep_of hs ?_ | refine keep_imp hs ?_ | fail) | ((with_reducible refine isWhen ?_); first | refine when_om ?_ | fail) | ((with_reducible refine isDraw ?_); first | refine drawW_sat hs fun w hs => ?_ | fail))
  refine app_one (s := s) (a := (hdl row free, v)) hs rfl rfl rfl rfl (by decide) (by omega) fun s2 w hs2 hs => ?_
  repeat (first | with_reducible refine nilck_some ?_ | ((with_reducible refine atLd ?_); first | refine ld_b hs ?_ | refine ld_b (x := ⟨_, _, _⟩) hs ?_ | refine ld_r0 hs ?_ | refine ld_r1 hs ?_ | refine ld_r2 hs ?_ | refine ld_r3 hs ?_ | refine ld_r4 hs ?_ | refine ld_rd0 ha_ hs ?_ | refine ld_rd1 ha_ hs ?_ | refine ld_rd2 ha_ hs ?_ | refine ld_rd3 ha_ hs ?_ | refine ld_rd4 ha_ hs ?_ | fail) | ((with_reducible refine isSt ?_); first | refine st_b hs fun w hs => ?_ | refine st_rec5 hs fun w hs => ?_ | refine st_rec4 hs fun w hs => ?_ | refine st_rec3 hs fun w hs => ?_ | refine st_rec2 hs fun w hs => ?_ | refine st_r0 hs fun w hs => ?_ | refine st_r1 hs fun w hs => ?_ | fail) | ((with_reducible refine isIdx ?_); first | refine idx_s hs fun b_ o_ hs => ?_ | refine idx_a hs ?_ | refine idx_rd hs fun b_ o_ ha_ => ?_ | fail) | ((with_reducible refine isNew ?_); first | refine newB_at hs fun b_ w hs => ?_ | fail) | ((with_reducible refine isLdS ?_); first | refine ldS_b ?_ | refine ldS_b (x := ⟨_, _, _⟩) ?_ | refine ldS_r0 ?_ | refine ldS_r1 ?_ | refine ldS_r2 ?_ | refine ldS_r3 ?_ | refine ldS_rs0 hs ?_ | refine ldS_rs1 hs ?_ | refine ldS_rs2 hs ?_ | refine ldS_rs3 hs ?_ | refine ldS_rd0 ha_ ?_ | refine ldS_rd1 ha_ ?_ | refine ldS_rd2 ha_ ?_ | refine ldS_rd3 ha_ ?_ | fail) | ((with_reducible refine isKeep ?_); first | refine keep_of hs ?_ | refine keep_imp hs ?_ | fail) | ((with_reducible refine isWhen ?_); first | refine when_om ?_ | fail) | ((with_reducible refine isDraw ?_); first | refine drawW_sat hs fun w hs => ?_ | fail))
  refine ⟨rfl, rlst_shut s2 f (n := ((row.length + free.dropLast.length + 1 : Nat) : Int)) (by simp; omega) (by exact Sat.fin hs)⟩
theorem r4_out {i : Nat} (hi : i < row.length) {s f : Sl} {n : Int} (hr : row.length < 1099511627776) (hs : Sat W w (blk b [.slice s.a s.n s.c, .slice f.a f.n f.c, .int .i64 n] :: recs cellR s row :: recs Rec.nat f free :: M)) :
    Calls Try.prog id_hoardref4_List_out #[.pointer (some ⟨b, 0, none⟩), .int .i64 (i : Int)] w fun e w' => e = .returned (.agg #[.int .i64 ((row.getD i default).1 : Int), .string (row.getD i default).2]) ∧
      ∃ s2 : Sl, Sat W w' (blk b [.slice s2.a s2.n s2.c, .slice f.a f.n f.c, .int .i64 n] :: recs cellR s2 (row.eraseIdx i) :: recs Rec.nat f free :: M) := by
  refine c1 (hoardref4_List_out_calls ?_)
  rw [hoardref4_List_out_def, hoardref4_List_out_raw]
  have hn := recs_len (s := s) hs
  have hwr : IntKind.wrap .i64 ((i : Int) + 1) = ((i + 1 : Nat) : Int) := by rw [i64_in _ (by omega)]; omega
  repeat (first | with_reducible refine nilck_some ?_ | ((with_reducible refine atLd ?_); first | refine ld_b hs ?_ | refine ld_b (x := ⟨_, _, _⟩) hs ?_ | refine ld_r0 hs ?_ | refine ld_r1 hs ?_ | refine ld_r2 hs ?_ | refine ld_r3 hs ?_ | refine ld_r4 hs ?_ | refine ld_rd0 ha_ hs ?_ | refine ld_rd1 ha_ hs ?_ | refine ld_rd2 ha_ hs ?_ | refine ld_rd3 ha_ hs ?_ | refine ld_rd4 ha_ hs ?_ | fail) | ((with_reducible refine isSt ?_); first | refine st_b hs fun w hs => ?_ | refine st_rec5 hs fun w hs => ?_ | refine st_rec4 hs fun w hs => ?_ | refine st_rec3 hs fun w hs => ?_ | refine st_rec2 hs fun w hs => ?_ | refine st_r0 hs fun w hs => ?_ | refine st_r1 hs fun w hs => ?_ | fail) | ((with_reducible refine isIdx ?_); first | refine idx_s hs fun b_ o_ hs => ?_ | refine idx_a hs ?_ | refine idx_rd hs fun b_ o_ ha_ => ?_ | fail) | ((with_reducible refine isNew ?_); first | refine newB_at hs fun b_ w hs => ?_ | fail) | ((with_reducible refine isLdS ?_); first | refine ldS_b ?_ | refine ldS_b (x := ⟨_, _, _⟩) ?_ | refine ldS_r0 ?_ | refine ldS_r1 ?_ | refine ldS_r2 ?_ | refine ldS_r3 ?_ | refine ldS_rs0 hs ?_ | refine ldS_rs1 hs ?_ | refine ldS_rs2 hs ?_ | refine ldS_rs3 hs ?_ | refine ldS_rd0 ha_ ?_ | refine ldS_rd1 ha_ ?_ | refine ldS_rd2 ha_ ?_ | refine ldS_rd3 ha_ ?_ | fail) | ((with_reducible refine isKeep ?_); first | refine keep_of hs ?_ | refine keep_imp hs ?_ | fail) | ((with_reducible refine isWhen ?_); first | refine when_om ?_ | fail) | ((with_reducible refine isDraw ?_); first | refine drawW_sat hs fun w hs => ?_ | fail))
  simp only [hwr, Int.toNat_natCast]
  repeat (first | with_reducible refine nilck_some ?_ | ((with_reducible refine atLd ?_); first | refine ld_b hs ?_ | refine ld_b (x := ⟨_, _, _⟩) hs ?_ | refine ld_r0 hs ?_ | refine ld_r1 hs ?_ | refine ld_r2 hs ?_ | refine ld_r3 hs ?_ | refine ld_r4 hs ?_ | refine ld_rd0 ha_ hs ?_ | refine ld_rd1 ha_ hs ?_ | refine ld_rd2 ha_ hs ?_ | refine ld_rd3 ha_ hs ?_ | refine ld_rd4 ha_ hs ?_ | fail) | ((with_reducible refine isSt ?_); first | refine st_b hs fun w hs => ?_ | refine st_rec5 hs fun w hs => ?_ | refine st_rec4 hs fun w hs => ?_ | refine st_rec3 hs fun w hs => ?_ | refine st_rec2 hs fun w hs => ?_ | refine st_r0 hs fun w hs => ?_ | refine st_r1 hs fun w hs => ?_ | fail) | ((with_reducible refine isIdx ?_); first | refine idx_s hs fun b_ o_ hs => ?_ | refine idx_a hs ?_ | refine idx_rd hs fun b_ o_ ha_ => ?_ | fail) | ((with_reducible refine isNew ?_); first | refine newB_at hs fun b_ w hs => ?_ | fail) | ((with_reducible refine isLdS ?_); first | refine ldS_b ?_ | refine ldS_b (x := ⟨_, _, _⟩) ?_ | refine ldS_r0 ?_ | refine ldS_r1 ?_ | refine ldS_r2 ?_ | refine ldS_r3 ?_ | refine ldS_rs0 hs ?_ | refine ldS_rs1 hs ?_ | refine ldS_rs2 hs ?_ | refine ldS_rs3 hs ?_ | refine ldS_rd0 ha_ ?_ | refine ldS_rd1 ha_ ?_ | refine ldS_rd2 ha_ ?_ | refine ldS_rd3 ha_ ?_ | fail) | ((with_reducible refine isKeep ?_); first | refine keep_of hs ?_ | refine keep_imp hs ?_ | fail) | ((with_reducible refine isWhen ?_); first | refine when_om ?_ | fail) | ((with_reducible refine isDraw ?_); first | refine drawW_sat hs fun w hs => ?_ | fail))
  refine app_own hs cellR (rows := []) rfl rfl (new := row.take i) (rd_sub (s := s) (E := cellR) (rows := row) (lo := 0) (c := s.c) hs (k := i) (by omega) (by omega) rfl) (by simp; omega) (okC_flat _) rfl (by decide) (by simp; omega) fun s2 w hs2 hs => ?_
  simp only [List.nil_append, List.length_nil, List.length_take, Nat.zero_add] at hs2 hs
  repeat (first | with_reducible refine nilck_some ?_ | ((with_reducible refine atLd ?_); first | refine ld_b hs ?_ | refine ld_b (x := ⟨_, _, _⟩) hs ?_ | refine ld_r0 hs ?_ | refine ld_r1 hs ?_ | refine ld_r2 hs ?_ | refine ld_r3 hs ?_ | refine ld_r4 hs ?_ | refine ld_rd0 ha_ hs ?_ | refine ld_rd1 ha_ hs ?_ | refine ld_rd2 ha_ hs ?_ | refine ld_rd3 ha_ hs ?_ | refine ld_rd4 ha_ hs ?_ | fail) | ((with_reducible refine isSt ?_); first | refine st_b hs fun w hs => ?_ | refine st_rec5 hs fun w hs => ?_ | refine st_rec4 hs fun w hs => ?_ | refine st_rec3 hs fun w hs => ?_ | refine st_rec2 hs fun w hs => ?_ | refine st_r0 hs fun w hs => ?_ | refine st_r1 hs fun w hs => ?_ | fail) | ((with_reducible refine isIdx ?_); first | refine idx_s hs fun b_ o_ hs => ?_ | refine idx_a hs ?_ | refine idx_rd hs fun b_ o_ ha_ => ?_ | fail) | ((with_reducible refine isNew ?_); first | refine newB_at hs fun b_ w hs => ?_ | fail) | ((with_reducible refine isLdS ?_); first | refine ldS_b ?_ | refine ldS_b (x := ⟨_, _, _⟩) ?_ | refine ldS_r0 ?_ | refine ldS_r1 ?_ | refine ldS_r2 ?_ | refine ldS_r3 ?_ | refine ldS_rs0 hs ?_ | refine ldS_rs1 hs ?_ | refine ldS_rs2 hs ?_ | refine ldS_rs3 hs ?_ | refine ldS_rd0 ha_ ?_ | refine ldS_rd1 ha_ ?_ | refine ldS_rd2 ha_ ?_ | refine ldS_rd3 ha_ ?_ | fail) | ((with_reducible refine isKeep ?_); first | refine keep_of hs ?_ | refine keep_imp hs ?_ | fail) | ((with_reducible refine isWhen ?_); first | refine when_om ?_ | fail) | ((with_reducible refine isDraw ?_); first | refine drawW_sat hs fun w hs => ?_ | fail))
  refine app_by (s := s2) (new := (row.drop (i + 1)).take (row.length - (i + 1))) hs (rd_sub (s := s) (E := cellR) (rows := row) (lo := i + 1) (c := s.c) hs (k := row.length - (i + 1)) (by omega) (by omega) (by rw [hn.1]; rfl)) (by simp; omega) (okC_flat _) rfl (by decide) (by simp; omega) fun s3 w hs3 hs => ?_
  repeat (first | with_reducible refine nilck_some ?_ | ((with_reducible refine atLd ?_); first | refine ld_b hs ?_ | refine ld_b (x := ⟨_, _, _⟩) hs ?_ | refine ld_r0 hs ?_ | refine ld_r1 hs ?_ | refine ld_r2 hs ?_ | refine ld_r3 hs ?_ | refine ld_r4 hs ?_ | refine ld_rd0 ha_ hs ?_ | refine ld_rd1 ha_ hs ?_ | refine ld_rd2 ha_ hs ?_ | refine ld_rd3 ha_ hs ?_ | refine ld_rd4 ha_ hs ?_ | fail) | ((with_reducible refine isSt ?_); first | refine st_b hs fun w hs => ?_ | refine st_rec5 hs fun w hs => ?_ | refine st_rec4 hs fun w hs => ?_ | refine st_rec3 hs fun w hs => ?_ | refine st_rec2 hs fun w hs => ?_ | refine st_r0 hs fun w hs => ?_ | refine st_r1 hs fun w hs => ?_ | fail) | ((with_reducible refine isIdx ?_); first | refine idx_s hs fun b_ o_ hs => ?_ | refine idx_a hs ?_ | refine idx_rd hs fun b_ o_ ha_ => ?_ | fail) | ((with_reducible refine isNew ?_); first | refine newB_at hs fun b_ w hs => ?_ | fail) | ((with_reducible refine isLdS ?_); first | refine ldS_b ?_ | refine ldS_b (x := ⟨_, _, _⟩) ?_ | refine ldS_r0 ?_ | refine ldS_r1 ?_ | refine ldS_r2 ?_ | refine ldS_r3 ?_ | refine ldS_rs0 hs ?_ | refine ldS_rs1 hs ?_ | refine ldS_rs2 hs ?_ | refine ldS_rs3 hs ?_ | refine ldS_rd0 ha_ ?_ | refine ldS_rd1 ha_ ?_ | refine ldS_rd2 ha_ ?_ | refine ldS_rd3 ha_ ?_ | fail) | ((with_reducible refine isKeep ?_); first | refine keep_of hs ?_ | refine keep_imp hs ?_ | fail) | ((with_reducible refine isWhen ?_); first | refine when_om ?_ | fail) | ((with_reducible refine isDraw ?_); first | refine drawW_sat hs fun w hs => ?_ | fail))
  have e : row.take i ++ (row.drop (i + 1)).take (row.length - (i + 1)) = row.eraseIdx i := by
    rw [List.eraseIdx_eq_take_drop_succ]; congr 1; exact List.take_of_length_le (by simp)
  rw [e] at hs
  simp only [Int.toNat_natCast]
  refine ⟨by trivial, s3, ?_⟩
  exact Sat.fin hs
theorem r4_Remove (h : Sat W w L) [hA : At L b (rlst b row free) F] {x : Int} (hr : row.length + free.length < 1099511627776) : Calls Try.prog id_hoardref4_List_Remove #[.pointer (some ⟨b, 0, none⟩), .int .i64 x] w fun e w' => e = .returned (.tuple #[.string ((rowVal row x).getD str_empty), .bool (rAt row x).isSome]) ∧ Sat W w' (F (rlst b (match rAt row x with | some i => row.eraseIdx i | none => row) (match rAt row x with | some i => free ++ [x.toNat] | none => free))) := by
  refine At.call1 (hA := hA) h fun M hs => ?_
  clear h hA
  refine c1 (hoardref4_List_Remove_calls ?_)
  rw [hoardref4_List_Remove_def, hoardref4_List_Remove_raw]
  refine call1_of (r4_at hs (by omega)) fun e w ⟨he, hs⟩ => ⟨_, he, ?_⟩
  have hlt := at_lt (row := row) (x := x)
  cases hx : rAt row x with
  | none =>
    have hv : atI row x = -1 := by simp only [atI, hx]
    rw [hv]
    exact ite_true (by simp) ⟨by simp [rowVal, hx], hs⟩
  | some i =>
    have hv : atI row x = (i : Int) := by simp only [atI, hx]
    rw [hv] at hlt ⊢
    refine ite_false (by simp) ?_
    obtain ⟨⟨k, v⟩, he2, rfl, _, hil⟩ := rAt_some hx
    obtain ⟨s, f, ⟨hn, hf, hc, hfc⟩, hs⟩ := rlst_open hs
    repeat (first | with_reducible refine nilck_some ?_ | ((with_reducible refine atLd ?_); first | refine ld_b hs ?_ | refine ld_b (x := ⟨_, _, _⟩) hs ?_ | refine ld_r0 hs ?_ | refine ld_r1 hs ?_ | refine ld_r2 hs ?_ | refine ld_r3 hs ?_ | refine ld_r4 hs ?_ | refine ld_rd0 ha_ hs ?_ | refine ld_rd1 ha_ hs ?_ | refine ld_rd2 ha_ hs ?_ | refine ld_rd3 ha_ hs ?_ | refine ld_rd4 ha_ hs ?_ | fail) | ((with_reducible refine isSt ?_); first | refine st_b hs fun w hs => ?_ | refine st_rec5 hs fun w hs => ?_ | refine st_rec4 hs fun w hs => ?_ | refine st_rec3 hs fun w hs => ?_ | refine st_rec2 hs fun w hs => ?_ | refine st_r0 hs fun w hs => ?_ | refine st_r1 hs fun w hs => ?_ | fail) | ((with_reducible refine isIdx ?_); first | refine idx_s hs fun b_ o_ hs => ?_ | refine idx_a hs ?_ | refine idx_rd hs fun b_ o_ ha_ => ?_ | fail) | ((with_reducible refine isNew ?_); first | refine newB_at hs fun b_ w hs => ?_ | fail) | ((with_reducible refine isLdS ?_); first | refine ldS_b ?_ | refine ldS_b (x := ⟨_, _, _⟩) ?_ | refine ldS_r0 ?_ | refine ldS_r1 ?_ | refine ldS_r2 ?_ | refine ldS_r3 ?_ | refine ldS_rs0 hs ?_ | refine ldS_rs1 hs ?_ | refine ldS_rs2 hs ?_ | refine ldS_rs3 hs ?_ | refine ldS_rd0 ha_ ?_ | refine ldS_rd1 ha_ ?_ | refine ldS_rd2 ha_ ?_ | refine ldS_rd3 ha_ ?_ | fail) | ((with_reducible refine isKeep ?_); first | refine keep_of hs ?_ | refine keep_imp hs ?_ | fail) | ((with_reducible refine isWhen ?_); first | refine when_om ?_ | fail) | ((with_reducible refine isDraw ?_); first | refine drawW_sat hs fun w hs => ?_ | fail))
    refine app_one (s := f) (a := k) hs rfl rfl rfl rfl (by decide) (by omega) fun f2 w hf2 hs => ?_
    repeat (first | with_reducible refine nilck_some ?_ | ((with_reducible refine atLd ?_); first | refine ld_b hs ?_ | refine ld_b (x := ⟨_, _, _⟩) hs ?_ | refine ld_r0 hs ?_ | refine ld_r1 hs ?_ | refine ld_r2 hs ?_ | refine ld_r3 hs ?_ | refine ld_r4 hs ?_ | refine ld_rd0 ha_ hs ?_ | refine ld_rd1 ha_ hs ?_ | refine ld_rd2 ha_ hs ?_ | refine ld_rd3 ha_ hs ?_ | refine ld_rd4 ha_ hs ?_ | fail) | ((with_reducible refine isSt ?_); first | refine st_b hs fun w hs => ?_ | refine st_rec5 hs fun w hs => ?_ | refine st_rec4 hs fun w hs => ?_ | refine st_rec3 hs fun w hs => ?_ | refine st_rec2 hs fun w hs => ?_ | refine st_r0 hs fun w hs => ?_ | refine st_r1 hs fun w hs => ?_ | fail) | ((with_reducible refine isIdx ?_); first | refine idx_s hs fun b_ o_ hs => ?_ | refine idx_a hs ?_ | refine idx_rd hs fun b_ o_ ha_ => ?_ | fail) | ((with_reducible refine isNew ?_); first | refine newB_at hs fun b_ w hs => ?_ | fail) | ((with_reducible refine isLdS ?_); first | refine ldS_b ?_ | refine ldS_b (x := ⟨_, _, _⟩) ?_ | refine ldS_r0 ?_ | refine ldS_r1 ?_ | refine ldS_r2 ?_ | refine ldS_r3 ?_ | refine ldS_rs0 hs ?_ | refine ldS_rs1 hs ?_ | refine ldS_rs2 hs ?_ | refine ldS_rs3 hs ?_ | refine ldS_rd0 ha_ ?_ | refine ldS_rd1 ha_ ?_ | refine ldS_rd2 ha_ ?_ | refine ldS_rd3 ha_ ?_ | fail) | ((with_reducible refine isKeep ?_); first | refine keep_of hs ?_ | refine keep_imp hs ?_ | fail) | ((with_reducible refine isWhen ?_); first | refine when_om ?_ | fail) | ((with_reducible refine isDraw ?_); first | refine drawW_sat hs fun w hs => ?_ | fail))
    have hs2 : Sat W w (blk b [.slice s.a s.n s.c, .slice f2.a f2.n f2.c, .int .i64 ((row.length + free.length : Nat) : Int)] :: recs cellR s row :: recs Rec.nat f2 (free ++ [k]) :: M) := by exact Sat.fin hs
    refine (r4_out (i := i) (s := s) (f := f2) hil (by omega) hs2).mono fun e w ⟨he, s3, hs⟩ => ⟨_, _, he, ?_⟩
    refine ⟨?_, rlst_shut s3 f2 (n := ((row.length + free.length : Nat) : Int)) (by simp [List.length_eraseIdx, hil]; omega) (by simp only [Int.toNat_natCast]; exact hs)⟩
    simp only [rowVal, hx, he2, List.getD_eq_getElem?_getD]
    rfl
theorem r4_ToFront (h : Sat W w L) [hA : At L b (rlst b row free) F] {x : Int} (hr : row.length + free.length < 1099511627776) : Calls Try.prog id_hoardref4_List_ToFront #[.pointer (some ⟨b, 0, none⟩), .int .i64 x] w fun e w' => e = .returned (.bool (rAt row x).isSome) ∧ Sat W w' (F (rlst b (match rAt row x with | some i => rowItem row i ++ row.eraseIdx i | none => row) (free))) := by
  refine At.call1 (hA := hA) h fun M hs => ?_
  clear h hA
  refine c1 (hoardref4_List_ToFront_calls ?_)
  rw [hoardref4_List_ToFront_def, hoardref4_List_ToFront_raw]
  refine call1_of (r4_at hs (by omega)) fun e w ⟨he, hs⟩ => ⟨_, he, ?_⟩
  have hlt := at_lt (row := row) (x := x)
  cases hx : rAt row x with
  | none =>
    have hv : atI row x = -1 := by simp only [atI, hx]
    rw [hv]
    exact ite_false (by simp) ⟨by simp, hs⟩
  | some i =>
    have hv : atI row x = (i : Int) := by simp only [atI, hx]
    rw [hv] at hlt ⊢
    refine ite_true (by simp) ?_
    obtain ⟨⟨k, v⟩, he2, rfl, _, hil⟩ := rAt_some hx
    obtain ⟨s, f, ⟨hn, hf, hc, hfc⟩, hs⟩ := rlst_open hs
    refine (r4_out (i := i) (s := s) (f := f) hil (by omega) hs).mono fun e w ⟨he, s3, hs⟩ => ⟨_, _, he, ?_⟩
    have hlen : (row.eraseIdx i).length = row.length - 1 := by rw [List.length_eraseIdx, if_pos hil]
    have hn3 := recs_len (s := s3) hs
    repeat (first | with_reducible refine nilck_some ?_ | ((with_reducible refine atLd ?_); first | refine ld_b hs ?_ | refine ld_b (x := ⟨_, _, _⟩) hs ?_ | refine ld_r0 hs ?_ | refine ld_r1 hs ?_ | refine ld_r2 hs ?_ | refine ld_r3 hs ?_ | refine ld_r4 hs ?_ | refine ld_rd0 ha_ hs ?_ | refine ld_rd1 ha_ hs ?_ | refine ld_rd2 ha_ hs ?_ | refine ld_rd3 ha_ hs ?_ | refine ld_rd4 ha_ hs ?_ | fail) | ((with_reducible refine isSt ?_); first | refine st_b hs fun w hs => ?_ | refine st_rec5 hs fun w hs => ?_ | refine st_rec4 hs fun w hs => ?_ | refine st_rec3 hs fun w hs => ?_ | refine st_rec2 hs fun w hs => ?_ | refine st_r0 hs fun w hs => ?_ | refine st_r1 hs fun w hs => ?_ | fail) | ((with_reducible refine isIdx ?_); first | refine idx_s hs fun b_ o_ hs => ?_ | refine idx_a hs ?_ | refine idx_rd hs fun b_ o_ ha_ => ?_ | fail) | ((with_reducible refine isNew ?_); first | refine newB_at hs fun b_ w hs => ?_ | fail) | ((with_reducible refine isLdS ?_); first | refine ldS_b ?_ | refine ldS_b (x := ⟨_, _, _⟩) ?_ | refine ldS_r0 ?_ | refine ldS_r1 ?_ | refine ldS_r2 ?_ | refine ldS_r3 ?_ | refine ldS_rs0 hs ?_ | refine ldS_rs1 hs ?_ | refine ldS_rs2 hs ?_ | refine ldS_rs3 hs ?_ | refine ldS_rd0 ha_ ?_ | refine ldS_rd1 ha_ ?_ | refine ldS_rd2 ha_ ?_ | refine ldS_rd3 ha_ ?_ | fail) | ((with_reducible refine isKeep ?_); first | refine keep_of hs ?_ | refine keep_imp hs ?_ | fail) | ((with_reducible refine isWhen ?_); first | refine when_om ?_ | fail) | ((with_reducible refine isDraw ?_); first | refine drawW_sat hs fun w hs => ?_ | fail))
    refine app_own hs cellR (rows := [row.getD i default]) rfl rfl (rd_rdb (s := s3) hs) hn3.1 (okC_flat _) rfl (by decide) (by simp; omega) fun s4 w hs4 hs => ?_
    repeat (first | with_reducible refine nilck_some ?_ | ((with_reducible refine atLd ?_); first | refine ld_b hs ?_ | refine ld_b (x := ⟨_, _, _⟩) hs ?_ | refine ld_r0 hs ?_ | refine ld_r1 hs ?_ | refine ld_r2 hs ?_ | refine ld_r3 hs ?_ | refine ld_r4 hs ?_ | refine ld_rd0 ha_ hs ?_ | refine ld_rd1 ha_ hs ?_ | refine ld_rd2 ha_ hs ?_ | refine ld_rd3 ha_ hs ?_ | refine ld_rd4 ha_ hs ?_ | fail) | ((with_reducible refine isSt ?_); first | refine st_b hs fun w hs => ?_ | refine st_rec5 hs fun w hs => ?_ | refine st_rec4 hs fun w hs => ?_ | refine st_rec3 hs fun w hs => ?_ | refine st_rec2 hs fun w hs => ?_ | refine st_r0 hs fun w hs => ?_ | refine st_r1 hs fun w hs => ?_ | fail) | ((with_reducible refine isIdx ?_); first | refine idx_s hs fun b_ o_ hs => ?_ | refine idx_a hs ?_ | refine idx_rd hs fun b_ o_ ha_ => ?_ | fail) | ((with_reducible refine isNew ?_); first | refine newB_at hs fun b_ w hs => ?_ | fail) | ((with_reducible refine isLdS ?_); first | refine ldS_b ?_ | refine ldS_b (x := ⟨_, _, _⟩) ?_ | refine ldS_r0 ?_ | refine ldS_r1 ?_ | refine ldS_r2 ?_ | refine ldS_r3 ?_ | refine ldS_rs0 hs ?_ | refine ldS_rs1 hs ?_ | refine ldS_rs2 hs ?_ | refine ldS_rs3 hs ?_ | refine ldS_rd0 ha_ ?_ | refine ldS_rd1 ha_ ?_ | refine ldS_rd2 ha_ ?_ | refine ldS_rd3 ha_ ?_ | fail) | ((with_reducible refine isKeep ?_); first | refine keep_of hs ?_ | refine keep_imp hs ?_ | fail) | ((with_reducible refine isWhen ?_); first | refine when_om ?_ | fail) | ((with_reducible refine isDraw ?_); first | refine drawW_sat hs fun w hs => ?_ | fail))
    have hit : rowItem row i = [row.getD i default] := by
      simp only [rowItem, he2, List.getD_eq_getElem?_getD]; rfl
    simp only [hit]
    refine ⟨by simp, rlst_shut s4 f (n := ((row.length + free.length : Nat) : Int)) (by simp [hlen]; omega) (by exact Sat.fin hs)⟩
theorem r4_ToBack (h : Sat W w L) [hA : At L b (rlst b row free) F] {x : Int} (hr : row.length + free.length < 1099511627776) : Calls Try.prog id_hoardref4_List_ToBack #[.pointer (some ⟨b, 0, none⟩), .int .i64 x] w fun e w' => e = .returned (.bool (rAt row x).isSome) ∧ Sat W w' (F (rlst b (match rAt row x with | some i => row.eraseIdx i ++ rowItem row i | none => row) (free))) := by
  refine At.call1 (hA := hA) h fun M hs => ?_
  clear h hA
  refine c1 (hoardref4_List_ToBack_calls ?_)
  rw [hoardref4_List_ToBack_def, hoardref4_List_ToBack_raw]
  refine call1_of (r4_at hs (by omega)) fun e w ⟨he, hs⟩ => ⟨_, he, ?_⟩
  have hlt := at_lt (row := row) (x := x)
  cases hx : rAt row x with
  | none =>
    have hv : atI row x = -1 := by simp only [atI, hx]
    rw [hv]
    exact ite_false (by simp) ⟨by simp, hs⟩
  | some i =>
    have hv : atI row x = (i : Int) := by simp only [atI, hx]
    rw [hv] at hlt ⊢
    refine ite_true (by simp) ?_
    obtain ⟨⟨k, v⟩, he2, rfl, _, hil⟩ := rAt_some hx
    obtain ⟨s, f, ⟨hn, hf, hc, hfc⟩, hs⟩ := rlst_open hs
    refine (r4_out (i := i) (s := s) (f := f) hil (by omega) hs).mono fun e w ⟨he, s3, hs⟩ => ⟨_, _, he, ?_⟩
    have hlen : (row.eraseIdx i).length = row.length - 1 := by rw [List.length_eraseIdx, if_pos hil]
    have hn3 := recs_len (s := s3) hs
    repeat (first | with_reducible refine nilck_some ?_ | ((with_reducible refine atLd ?_); first | refine ld_b hs ?_ | refine ld_b (x := ⟨_, _, _⟩) hs ?_ | refine ld_r0 hs ?_ | refine ld_r1 hs ?_ | refine ld_r2 hs ?_ | refine ld_r3 hs ?_ | refine ld_r4 hs ?_ | refine ld_rd0 ha_ hs ?_ | refine ld_rd1 ha_ hs ?_ | refine ld_rd2 ha_ hs ?_ | refine ld_rd3 ha_ hs ?_ | refine ld_rd4 ha_ hs ?_ | fail) | ((with_reducible refine isSt ?_); first | refine st_b hs fun w hs => ?_ | refine st_rec5 hs fun w hs => ?_ | refine st_rec4 hs fun w hs => ?_ | refine st_rec3 hs fun w hs => ?_ | refine st_rec2 hs fun w hs => ?_ | refine st_r0 hs fun w hs => ?_ | refine st_r1 hs fun w hs => ?_ | fail) | ((with_reducible refine isIdx ?_); first | refine idx_s hs fun b_ o_ hs => ?_ | refine idx_a hs ?_ | refine idx_rd hs fun b_ o_ ha_ => ?_ | fail) | ((with_reducible refine isNew ?_); first | refine newB_at hs fun b_ w hs => ?_ | fail) | ((with_reducible refine isLdS ?_); first | refine ldS_b ?_ | refine ldS_b (x := ⟨_, _, _⟩) ?_ | refine ldS_r0 ?_ | refine ldS_r1 ?_ | refine ldS_r2 ?_ | refine ldS_r3 ?_ | refine ldS_rs0 hs ?_ | refine ldS_rs1 hs ?_ | refine ldS_rs2 hs ?_ | refine ldS_rs3 hs ?_ | refine ldS_rd0 ha_ ?_ | refine ldS_rd1 ha_ ?_ | refine ldS_rd2 ha_ ?_ | refine ldS_rd3 ha_ ?_ | fail) | ((with_reducible refine isKeep ?_); first | refine keep_of hs ?_ | refine keep_imp hs ?_ | fail) | ((with_reducible refine isWhen ?_); first | refine when_om ?_ | fail) | ((with_reducible refine isDraw ?_); first | refine drawW_sat hs fun w hs => ?_ | fail))
    refine app_one (s := s3) (a := row.getD i default) hs rfl rfl rfl rfl (by decide) (by omega) fun s4 w hs4 hs => ?_
    repeat (first | with_reducible refine nilck_some ?_ | ((with_reducible refine atLd ?_); first | refine ld_b hs ?_ | refine ld_b (x := ⟨_, _, _⟩) hs ?_ | refine ld_r0 hs ?_ | refine ld_r1 hs ?_ | refine ld_r2 hs ?_ | refine ld_r3 hs ?_ | refine ld_r4 hs ?_ | refine ld_rd0 ha_ hs ?_ | refine ld_rd1 ha_ hs ?_ | refine ld_rd2 ha_ hs ?_ | refine ld_rd3 ha_ hs ?_ | refine ld_rd4 ha_ hs ?_ | fail) | ((with_reducible refine isSt ?_); first | refine st_b hs fun w hs => ?_ | refine st_rec5 hs fun w hs => ?_ | refine st_rec4 hs fun w hs => ?_ | refine st_rec3 hs fun w hs => ?_ | refine st_rec2 hs fun w hs => ?_ | refine st_r0 hs fun w hs => ?_ | refine st_r1 hs fun w hs => ?_ | fail) | ((with_reducible refine isIdx ?_); first | refine idx_s hs fun b_ o_ hs => ?_ | refine idx_a hs ?_ | refine idx_rd hs fun b_ o_ ha_ => ?_ | fail) | ((with_reducible refine isNew ?_); first | refine newB_at hs fun b_ w hs => ?_ | fail) | ((with_reducible refine isLdS ?_); first | refine ldS_b ?_ | refine ldS_b (x := ⟨_, _, _⟩) ?_ | refine ldS_r0 ?_ | refine ldS_r1 ?_ | refine ldS_r2 ?_ | refine ldS_r3 ?_ | refine ldS_rs0 hs ?_ | refine ldS_rs1 hs ?_ | refine ldS_rs2 hs ?_ | refine ldS_rs3 hs ?_ | refine ldS_rd0 ha_ ?_ | refine ldS_rd1 ha_ ?_ | refine ldS_rd2 ha_ ?_ | refine ldS_rd3 ha_ ?_ | fail) | ((with_reducible refine isKeep ?_); first | refine keep_of hs ?_ | refine keep_imp hs ?_ | fail) | ((with_reducible refine isWhen ?_); first | refine when_om ?_ | fail) | ((with_reducible refine isDraw ?_); first | refine drawW_sat hs fun w hs => ?_ | fail))
    have hit : rowItem row i = [row.getD i default] := by
      simp only [rowItem, he2, List.getD_eq_getElem?_getD]; rfl
    simp only [hit]
    refine ⟨by simp, rlst_shut s4 f (n := ((row.length + free.length : Nat) : Int)) (by simp [hlen]; omega) (by exact Sat.fin hs)⟩
theorem r4_Next (h : Sat W w L) [hA : At L b (rlst b row free) F] {x : Int} (hr : row.length + free.length < 1099511627776) : Calls Try.prog id_hoardref4_List_Next #[.pointer (some ⟨b, 0, none⟩), .int .i64 x] w fun e w' => e = .returned (.int .i64 (rowNext row x : Int)) ∧ Sat W w' (F (rlst b (row) (free))) := by
  refine At.call1 (hA := hA) h fun M hs => ?_
  clear h hA
  refine c1 (hoardref4_List_Next_calls ?_)
  rw [hoardref4_List_Next_def, hoardref4_List_Next_raw]
  refine call1_of (r4_at hs (by omega)) fun e w ⟨he, hs⟩ => ⟨_, he, ?_⟩
  have hlt := at_lt (row := row) (x := x)
  cases hx : rAt row x with
  | none =>
    have hv : atI row x = -1 := by simp only [atI, hx]
    rw [hv]
    exact ite_true (by simp) ⟨by simp only [rowNext, hx]; rfl, hs⟩
  | some i =>
    have hv : atI row x = (i : Int) := by simp only [atI, hx]
    rw [hv] at hlt ⊢
    refine ite_false (by simp) ?_
    refine call1_of (r4_place hs (by omega)) fun e w ⟨he, hs⟩ => ⟨_, he, ?_⟩
    refine ⟨?_, hs⟩
    rw [i64_in _ (by omega)]
    simp only [rowNext, hx]
    rw [if_neg (by omega)]; congr 3
theorem r4_Prev (h : Sat W w L) [hA : At L b (rlst b row free) F] {x : Int} (hr : row.length + free.length < 1099511627776) : Calls Try.prog id_hoardref4_List_Prev #[.pointer (some ⟨b, 0, none⟩), .int .i64 x] w fun e w' => e = .returned (.int .i64 (rowPrev row x : Int)) ∧ Sat W w' (F (rlst b (row) (free))) := by
  refine At.call1 (hA := hA) h fun M hs => ?_
  clear h hA
  refine c1 (hoardref4_List_Prev_calls ?_)
  rw [hoardref4_List_Prev_def, hoardref4_List_Prev_raw]
  refine call1_of (r4_at hs (by omega)) fun e w ⟨he, hs⟩ => ⟨_, he, ?_⟩
  have hlt := at_lt (row := row) (x := x)
  cases hx : rAt row x with
  | none =>
    have hv : atI row x = -1 := by simp only [atI, hx]
    rw [hv]
    exact ite_true (by simp) ⟨by simp only [rowPrev, hx]; rfl, hs⟩
  | some i =>
    have hv : atI row x = (i : Int) := by simp only [atI, hx]
    rw [hv] at hlt ⊢
    refine ite_false (by simp) ?_
    refine call1_of (r4_place hs (by omega)) fun e w ⟨he, hs⟩ => ⟨_, he, ?_⟩
    refine ⟨?_, hs⟩
    rw [i64_in _ (by omega)]
    simp only [rowPrev, hx]
    rcases i with _ | i
    · rw [if_pos (by simp)]
    · rw [if_neg (by omega)]; congr 3; omega
theorem r4_All_loop {s f : Sl} {n : Int} {Q : Value → WP} (hr : row.length < 1099511627776)
    (hQ : ∀ w (m : Sl), Sat W w (recs Rec.str m (row.map (·.2)) :: blk b [.slice s.a s.n s.c, .slice f.a f.n f.c, .int .i64 n] :: recs cellR s row :: recs Rec.nat f free :: M) → Q (.slice m.a m.n m.c) w) :
    ∀ (m i : Nat) (w : World) (acc : Sl), i + m = row.length → Sat W w (recs Rec.str acc ((row.take i).map (·.2)) :: blk b [.slice s.a s.n s.c, .slice f.a f.n f.c, .int .i64 n] :: recs cellR s row :: recs Rec.nat f free :: M) →
    hoardref4_List_All_l1 idJ Q (m + 1) (some ⟨b, 0, none⟩) acc (i : Int) w := by
  intro m
  induction m with
  | zero =>
    intro i w acc hi hs
    have hn := (recs_len (s := s) hs).1
    rw [hoardref4_List_All_l1_raw]
    repeat (first | with_reducible refine nilck_some ?_ | ((with_reducible refine atLd ?_); first | refine ld_b hs ?_ | refine ld_b (x := ⟨_, _, _⟩) hs ?_ | refine ld_r0 hs ?_ | refine ld_r1 hs ?_ | refine ld_r2 hs ?_ | refine ld_r3 hs ?_ | refine ld_r4 hs ?_ | refine ld_rd0 ha_ hs ?_ | refine ld_rd1 ha_ hs ?_ | refine ld_rd2 ha_ hs ?_ | refine ld_rd3 ha_ hs ?_ | refine ld_rd4 ha_ hs ?_ | fail) | ((with_reducible refine isSt ?_); first | refine st_b hs fun w hs => ?_ | refine st_rec5 hs fun w hs => ?_ | refine st_rec4 hs fun w hs => ?_ | refine st_rec3 hs fun w hs => ?_ | refine st_rec2 hs fun w hs => ?_ | refine st_r0 hs fun w hs => ?_ | refine st_r1 hs fun w hs => ?_ | fail) | ((with_reducible refine isIdx ?_); first | refine idx_s hs fun b_ o_ hs => ?_ | refine idx_a hs ?_ | refine idx_rd hs fun b_ o_ ha_ => ?_ | fail) | ((with_reducible refine isNew ?_); first | refine newB_at hs fun b_ w hs => ?_ | fail) | ((with_reducible refine isLdS ?_); first | refine ldS_b ?_ | refine ldS_b (x := ⟨_, _, _⟩) ?_ | refine ldS_r0 ?_ | refine ldS_r1 ?_ | refine ldS_r2 ?_ | refine ldS_r3 ?_ | refine ldS_rs0 hs ?_ | refine ldS_rs1 hs ?_ | refine ldS_rs2 hs ?_ | refine ldS_rs3 hs ?_ | refine ldS_rd0 ha_ ?_ | refine ldS_rd1 ha_ ?_ | refine ldS_rd2 ha_ ?_ | refine ldS_rd3 ha_ ?_ | fail) | ((with_reducible refine isKeep ?_); first | refine keep_of hs ?_ | refine keep_imp hs ?_ | fail) | ((with_reducible refine isWhen ?_); first | refine when_om ?_ | fail) | ((with_reducible refine isDraw ?_); first | refine drawW_sat hs fun w hs => ?_ | fail))
    refine ite_false (by simp; omega) ?_
    rw [hoardref4_List_All_j2_def, hoardref4_List_All_j2_raw]
    rw [List.take_of_length_le (by omega)] at hs
    exact hQ w acc hs
  | succ m ih =>
    intro i w acc hi hs
    have hn := (recs_len (s := s) hs).1
    rw [hoardref4_List_All_l1_raw]
    repeat (first | with_reducible refine nilck_some ?_ | ((with_reducible refine atLd ?_); first | refine ld_b hs ?_ | refine ld_b (x := ⟨_, _, _⟩) hs ?_ | refine ld_r0 hs ?_ | refine ld_r1 hs ?_ | refine ld_r2 hs ?_ | refine ld_r3 hs ?_ | refine ld_r4 hs ?_ | refine ld_rd0 ha_ hs ?_ | refine ld_rd1 ha_ hs ?_ | refine ld_rd2 ha_ hs ?_ | refine ld_rd3 ha_ hs ?_ | refine ld_rd4 ha_ hs ?_ | fail) | ((with_reducible refine isSt ?_); first | refine st_b hs fun w hs => ?_ | refine st_rec5 hs fun w hs => ?_ | refine st_rec4 hs fun w hs => ?_ | refine st_rec3 hs fun w hs => ?_ | refine st_rec2 hs fun w hs => ?_ | refine st_r0 hs fun w hs => ?_ | refine st_r1 hs fun w hs => ?_ | fail) | ((with_reducible refine isIdx ?_); first | refine idx_s hs fun b_ o_ hs => ?_ | refine idx_a hs ?_ | refine idx_rd hs fun b_ o_ ha_ => ?_ | fail) | ((with_reducible refine isNew ?_); first | refine newB_at hs fun b_ w hs => ?_ | fail) | ((with_reducible refine isLdS ?_); first | refine ldS_b ?_ | refine ldS_b (x := ⟨_, _, _⟩) ?_ | refine ldS_r0 ?_ | refine ldS_r1 ?_ | refine ldS_r2 ?_ | refine ldS_r3 ?_ | refine ldS_rs0 hs ?_ | refine ldS_rs1 hs ?_ | refine ldS_rs2 hs ?_ | refine ldS_rs3 hs ?_ | refine ldS_rd0 ha_ ?_ | refine ldS_rd1 ha_ ?_ | refine ldS_rd2 ha_ ?_ | refine ldS_rd3 ha_ ?_ | fail) | ((with_reducible refine isKeep ?_); first | refine keep_of hs ?_ | refine keep_imp hs ?_ | fail) | ((with_reducible refine isWhen ?_); first | refine when_om ?_ | fail) | ((with_reducible refine isDraw ?_); first | refine drawW_sat hs fun w hs => ?_ | fail))
    refine ite_true (by simp; omega) ?_
    repeat (first | with_reducible refine nilck_some ?_ | ((with_reducible refine atLd ?_); first | refine ld_b hs ?_ | refine ld_b (x := ⟨_, _, _⟩) hs ?_ | refine ld_r0 hs ?_ | refine ld_r1 hs ?_ | refine ld_r2 hs ?_ | refine ld_r3 hs ?_ | refine ld_r4 hs ?_ | refine ld_rd0 ha_ hs ?_ | refine ld_rd1 ha_ hs ?_ | refine ld_rd2 ha_ hs ?_ | refine ld_rd3 ha_ hs ?_ | refine ld_rd4 ha_ hs ?_ | fail) | ((with_reducible refine isSt ?_); first | refine st_b hs fun w hs => ?_ | refine st_rec5 hs fun w hs => ?_ | refine st_rec4 hs fun w hs => ?_ | refine st_rec3 hs fun w hs => ?_ | refine st_rec2 hs fun w hs => ?_ | refine st_r0 hs fun w hs => ?_ | refine st_r1 hs fun w hs => ?_ | fail) | ((with_reducible refine isIdx ?_); first | refine idx_s hs fun b_ o_ hs => ?_ | refine idx_a hs ?_ | refine idx_rd hs fun b_ o_ ha_ => ?_ | fail) | ((with_reducible refine isNew ?_); first | refine newB_at hs fun b_ w hs => ?_ | fail) | ((with_reducible refine isLdS ?_); first | refine ldS_b ?_ | refine ldS_b (x := ⟨_, _, _⟩) ?_ | refine ldS_r0 ?_ | refine ldS_r1 ?_ | refine ldS_r2 ?_ | refine ldS_r3 ?_ | refine ldS_rs0 hs ?_ | refine ldS_rs1 hs ?_ | refine ldS_rs2 hs ?_ | refine ldS_rs3 hs ?_ | refine ldS_rd0 ha_ ?_ | refine ldS_rd1 ha_ ?_ | refine ldS_rd2 ha_ ?_ | refine ldS_rd3 ha_ ?_ | fail) | ((with_reducible refine isKeep ?_); first | refine keep_of hs ?_ | refine keep_imp hs ?_ | fail) | ((with_reducible refine isWhen ?_); first | refine when_om ?_ | fail) | ((with_reducible refine isDraw ?_); first | refine drawW_sat hs fun w hs => ?_ | fail))
    refine app_one (s := acc) (a := (row.getD i default).2) hs (by rw [Int.toNat_natCast]; rfl) rfl rfl rfl (by decide) (by simp; omega) fun s4 w hs4 hs => ?_
    rw [i64_in _ (by omega)]
    refine ih (i + 1) w s4 (by omega) ?_
    have e : (row.take i).map (·.2) ++ [(row.getD i default).2] = (row.take (i + 1)).map (·.2) := by
      rw [take_snoc (by omega), List.map_append]; rfl
    rw [e] at hs
    exact Sat.fin hs
theorem r4_All (h : Sat W w L) [hA : At L b (rlst b row free) F] (hr : row.length < 1099511627776) : Calls Try.prog id_hoardref4_List_All #[.pointer (some ⟨b, 0, none⟩)] w fun e w' => ∃ m : Sl, e = .returned (.slice m.a m.n m.c) ∧ Sat W w' (recs Rec.str m (row.map (·.2)) :: F (rlst b row free)) := by
  refine At.oneX (hA := hA) h fun M hs hb => ?_
  refine (hoardref4_List_All_calls (Q := fun v w' => ∃ m : Sl, v = .slice m.a m.n m.c ∧ Sat W w' (rlst b row free :: recs Rec.str m (row.map (·.2)) :: M)) ?_).mono fun e w' ⟨v, he, m, hv, hs⟩ => ⟨m, by rw [he, hv], ?_⟩
  · rw [hoardref4_List_All_def, hoardref4_List_All_raw]
    obtain ⟨s, f, ⟨hn, hf, hc, hfc⟩, hs⟩ := rlst_open hs
    have hs := Sat.nilR Rec.str hs
    have hl := r4_All_loop (row := row) (free := free) (M := M) (b := b) (s := s) (f := f) (n := ((row.length + free.length : Nat) : Int)) (Q := fun v w' => ∃ m : Sl, v = .slice m.a m.n m.c ∧ Sat W w' (rlst b row free :: recs Rec.str m (row.map (·.2)) :: M)) hr
      (fun w m hs => ⟨m, rfl, rlst_shut s f rfl (by exact Sat.fin hs)⟩) row.length 0 w ⟨none, 0, 0⟩ (by omega) hs
    exact ⟨_, hl⟩
  · exact hb _ _ [recs Rec.str m (row.map (·.2))] hs
end
end Go.Proofs.Ytadljdjlemfdjaa
