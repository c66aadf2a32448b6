/- hoard/list at int: contracts over one chunk. -/
import Derived.Test.YtadljdjlemfdjaaShal
import Derived.Test.YtadljdjlemfdjaaListPure
import Derived.Test.YtadljdjlemfdjaaSL5
import Derived.IntWalk
set_option linter.unusedVariables false
set_option linter.unusedSimpArgs false
set_option linter.unnecessarySimpa false
set_option linter.unusedSectionVars false
namespace Go.Proofs.Ytadljdjlemfdjaa
open Go.Hb Go.IntWalk
theorem int_c1 {P : Program} {f : FuncId} {args : Array Value} {w : World} {v0 : Value} {S : World → Prop} (h : Calls P f args w fun e w' => ∃ v, e = .returned v ∧ (v = v0 ∧ S w')) :
    Calls P f args w fun e w' => e = .returned v0 ∧ S w' := h.mono fun _ _ ⟨_, he, hv, hs⟩ => ⟨by rw [he, hv], hs⟩
section
variable {W w : World} {L M : List HP} {F : HP → List HP} {b : Nat} {row : List (Nat × Int)} {free : List Nat}
theorem int_lays_in {s f : Sl} {n : Int} {ls : List Lk} {fr : List Nat} {h p x : Nat} (hh : h < ls.length) (hp : p < ls.length) (hx : x < ls.length) (hs : Sat W w (blk b [.slice s.a s.n s.c, .slice f.a f.n f.c, .int .i64 n] :: recs lkR s ls :: recs Rec.nat f fr :: M)) :
    Calls Try.prog id_list_List_int_lays #[.pointer (some ⟨b, 0, none⟩), .int .i64 (h : Int), .int .i64 (p : Int), .int .i64 (x : Int)] w fun e w' => e = .returned (.tuple #[]) ∧ Sat W w' (blk b [.slice s.a s.n s.c, .slice f.a f.n f.c, .int .i64 n] :: recs lkR s (layL ls h p x) :: recs Rec.nat f fr :: M) := by
  refine int_c1 (list_List_int_lays_calls ?_)
  rw [list_List_int_lays_def, list_List_int_lays_raw]
  have hn := (recs_len (s := s) hs).1
  repeat (first | with_reducible refine nilck_some ?_ | ((with_reducible refine atLd ?_); first | refine ld_b hs ?_ | refine ld_b (x := ⟨_, _, _⟩) hs ?_ | refine ld_r0 hs ?_ | refine ld_r1 hs ?_ | refine ld_r2 hs ?_ | refine ld_r3 hs ?_ | refine ld_r4 hs ?_ | refine ld_rd0 ha_ hs ?_ | refine ld_rd1 ha_ hs ?_ | refine ld_rd2 ha_ hs ?_ | refine ld_rd3 ha_ hs ?_ | refine ld_rd4 ha_ hs ?_ | fail) | ((with_reducible refine isSt ?_); first | refine st_b hs fun w hs => ?_ | refine st_rec5 hs fun w hs => ?_ | refine st_rec4 hs fun w hs => ?_ | refine st_rec3 hs fun w hs => ?_ | refine st_rec2 hs fun w hs => ?_ | refine st_r0 hs fun w hs => ?_ | refine st_r1 hs fun w hs => ?_ | fail) | ((with_reducible refine isIdx ?_); first | refine idx_s hs fun b_ o_ hs => ?_ | refine idx_a hs ?_ | refine idx_rd hs fun b_ o_ ha_ => ?_ | fail) | ((with_reducible refine isNew ?_); first | refine newB_at hs fun b_ w hs => ?_ | fail) | ((with_reducible refine isLdS ?_); first | refine ldS_b ?_ | refine ldS_b (x := ⟨_, _, _⟩) ?_ | refine ldS_r0 ?_ | refine ldS_r1 ?_ | refine ldS_r2 ?_ | refine ldS_r3 ?_ | refine ldS_rs0 hs ?_ | refine ldS_rs1 hs ?_ | refine ldS_rs2 hs ?_ | refine ldS_rs3 hs ?_ | refine ldS_rd0 ha_ ?_ | refine ldS_rd1 ha_ ?_ | refine ldS_rd2 ha_ ?_ | refine ldS_rd3 ha_ ?_ | fail) | ((with_reducible refine isKeep ?_); first | refine keep_of hs ?_ | refine keep_imp hs ?_ | fail) | ((with_reducible refine isWhen ?_); first | refine when_om ?_ | fail) | ((with_reducible refine isDraw ?_); first | refine drawW_sat hs fun w hs => ?_ | fail))
  try simp only [Int.toNat_natCast] at hs
  refine ⟨rfl, ?_⟩
  exact Sat.fin hs
theorem int_has (h : Sat W w L) [hA : At L b (lst (Value.int .i64) b row free) F] {x : Int} : Calls Try.prog id_list_List_int_has #[.pointer (some ⟨b, 0, none⟩), .int .i64 x] w fun e w' => e = .returned (.bool (rAt row x).isSome) ∧ Sat W w' (F (lst (Value.int .i64) b (row) (free))) := by
  refine At.call1 (hA := hA) h fun M hs => ?_
  clear h hA
  refine int_c1 (list_List_int_has_calls ?_)
  rw [list_List_int_has_def, list_List_int_has_raw]
  obtain ⟨s, f, ls, hi, ⟨hn, hf, hl⟩, hs⟩ := lst_open hs
  have hh := hi.has x
  rw [rAt_V] at hh
  rw [← hn] at hh
  rw [← hh]
  refine ite_true rfl ?_
  refine ite_cases (fun h1 => ?_) (fun h1 => ⟨by simp only [h1, Bool.false_and], lst_shut s f hi rfl hs⟩)
  repeat (first | with_reducible refine nilck_some ?_ | ((with_reducible refine atLd ?_); first | refine ld_b hs ?_ | refine ld_b (x := ⟨_, _, _⟩) hs ?_ | refine ld_r0 hs ?_ | refine ld_r1 hs ?_ | refine ld_r2 hs ?_ | refine ld_r3 hs ?_ | refine ld_r4 hs ?_ | refine ld_rd0 ha_ hs ?_ | refine ld_rd1 ha_ hs ?_ | refine ld_rd2 ha_ hs ?_ | refine ld_rd3 ha_ hs ?_ | refine ld_rd4 ha_ hs ?_ | fail) | ((with_reducible refine isSt ?_); first | refine st_b hs fun w hs => ?_ | refine st_rec5 hs fun w hs => ?_ | refine st_rec4 hs fun w hs => ?_ | refine st_rec3 hs fun w hs => ?_ | refine st_rec2 hs fun w hs => ?_ | refine st_r0 hs fun w hs => ?_ | refine st_r1 hs fun w hs => ?_ | fail) | ((with_reducible refine isIdx ?_); first | refine idx_s hs fun b_ o_ hs => ?_ | refine idx_a hs ?_ | refine idx_rd hs fun b_ o_ ha_ => ?_ | fail) | ((with_reducible refine isNew ?_); first | refine newB_at hs fun b_ w hs => ?_ | fail) | ((with_reducible refine isLdS ?_); first | refine ldS_b ?_ | refine ldS_b (x := ⟨_, _, _⟩) ?_ | refine ldS_r0 ?_ | refine ldS_r1 ?_ | refine ldS_r2 ?_ | refine ldS_r3 ?_ | refine ldS_rs0 hs ?_ | refine ldS_rs1 hs ?_ | refine ldS_rs2 hs ?_ | refine ldS_rs3 hs ?_ | refine ldS_rd0 ha_ ?_ | refine ldS_rd1 ha_ ?_ | refine ldS_rd2 ha_ ?_ | refine ldS_rd3 ha_ ?_ | fail) | ((with_reducible refine isKeep ?_); first | refine keep_of hs ?_ | refine keep_imp hs ?_ | fail) | ((with_reducible refine isWhen ?_); first | refine when_om ?_ | fail) | ((with_reducible refine isDraw ?_); first | refine drawW_sat hs fun w hs => ?_ | fail))
  refine ite_cases (fun h2 => ?_) (fun h2 => ⟨by simp only [h1, h2, Bool.false_and, Bool.and_false], lst_shut s f hi rfl hs⟩)
  have h1' := of_decide_eq_true h1
  have h2' := of_decide_eq_true h2
  repeat (first | with_reducible refine nilck_some ?_ | ((with_reducible refine atLd ?_); first | refine ld_b hs ?_ | refine ld_b (x := ⟨_, _, _⟩) hs ?_ | refine ld_r0 hs ?_ | refine ld_r1 hs ?_ | refine ld_r2 hs ?_ | refine ld_r3 hs ?_ | refine ld_r4 hs ?_ | refine ld_rd0 ha_ hs ?_ | refine ld_rd1 ha_ hs ?_ | refine ld_rd2 ha_ hs ?_ | refine ld_rd3 ha_ hs ?_ | refine ld_rd4 ha_ hs ?_ | fail) | ((with_reducible refine isSt ?_); first | refine st_b hs fun w hs => ?_ | refine st_rec5 hs fun w hs => ?_ | refine st_rec4 hs fun w hs => ?_ | refine st_rec3 hs fun w hs => ?_ | refine st_rec2 hs fun w hs => ?_ | refine st_r0 hs fun w hs => ?_ | refine st_r1 hs fun w hs => ?_ | fail) | ((with_reducible refine isIdx ?_); first | refine idx_s hs fun b_ o_ hs => ?_ | refine idx_a hs ?_ | refine idx_rd hs fun b_ o_ ha_ => ?_ | fail) | ((with_reducible refine isNew ?_); first | refine newB_at hs fun b_ w hs => ?_ | fail) | ((with_reducible refine isLdS ?_); first | refine ldS_b ?_ | refine ldS_b (x := ⟨_, _, _⟩) ?_ | refine ldS_r0 ?_ | refine ldS_r1 ?_ | refine ldS_r2 ?_ | refine ldS_r3 ?_ | refine ldS_rs0 hs ?_ | refine ldS_rs1 hs ?_ | refine ldS_rs2 hs ?_ | refine ldS_rs3 hs ?_ | refine ldS_rd0 ha_ ?_ | refine ldS_rd1 ha_ ?_ | refine ldS_rd2 ha_ ?_ | refine ldS_rd3 ha_ ?_ | fail) | ((with_reducible refine isKeep ?_); first | refine keep_of hs ?_ | refine keep_imp hs ?_ | fail) | ((with_reducible refine isWhen ?_); first | refine when_om ?_ | fail) | ((with_reducible refine isDraw ?_); first | refine drawW_sat hs fun w hs => ?_ | fail))
  refine ⟨by simp only [h1, h2, Bool.true_and], lst_shut s f hi rfl ?_⟩
  exact Sat.fin hs
theorem int_Get (h : Sat W w L) [hA : At L b (lst (Value.int .i64) b row free) F] {x : Int} : Calls Try.prog id_list_List_int_Get #[.pointer (some ⟨b, 0, none⟩), .int .i64 x] w fun e w' => e = .returned (.tuple #[(Value.int .i64) ((rowVal row x).getD 0), .bool (rAt row x).isSome]) ∧ Sat W w' (F (lst (Value.int .i64) b (row) (free))) := by
  refine At.call1 (hA := hA) h fun M hs => ?_
  clear h hA
  refine int_c1 (list_List_int_Get_calls ?_)
  rw [list_List_int_Get_def, list_List_int_Get_raw]
  refine call1_of (int_has hs) fun e w ⟨he, hs⟩ => ⟨_, he, ?_⟩
  refine ite_cases (fun h1 => ?_) (fun h1 => ?_)
  · simp only [Bool.not_eq_true', Option.isSome_eq_false_iff, Option.isNone_iff_eq_none] at h1
    rw [rowVal, h1]
    exact ⟨rfl, hs⟩
  · simp only [Bool.not_eq_false', Option.isSome_iff_exists] at h1
    obtain ⟨i, h1⟩ := h1
    obtain ⟨s, f, ls, hi, ⟨hn, hf, hl⟩, hs⟩ := lst_open hs
    obtain ⟨k, v, rfl, hrv, hk, hkl, ht, hv, hr, _⟩ := hi.row_at (i := i) (by rw [rAt_V]; exact h1)
    have hv : (ls.getD k default).v = (Value.int .i64) ((rowVal row k).getD 0) := by rw [hv]; exact rowV_val h1 hrv
    repeat (first | with_reducible refine nilck_some ?_ | ((with_reducible refine atLd ?_); first | refine ld_b hs ?_ | refine ld_b (x := ⟨_, _, _⟩) hs ?_ | refine ld_r0 hs ?_ | refine ld_r1 hs ?_ | refine ld_r2 hs ?_ | refine ld_r3 hs ?_ | refine ld_r4 hs ?_ | refine ld_rd0 ha_ hs ?_ | refine ld_rd1 ha_ hs ?_ | refine ld_rd2 ha_ hs ?_ | refine ld_rd3 ha_ hs ?_ | refine ld_rd4 ha_ hs ?_ | fail) | ((with_reducible refine isSt ?_); first | refine st_b hs fun w hs => ?_ | refine st_rec5 hs fun w hs => ?_ | refine st_rec4 hs fun w hs => ?_ | refine st_rec3 hs fun w hs => ?_ | refine st_rec2 hs fun w hs => ?_ | refine st_r0 hs fun w hs => ?_ | refine st_r1 hs fun w hs => ?_ | fail) | ((with_reducible refine isIdx ?_); first | refine idx_s hs fun b_ o_ hs => ?_ | refine idx_a hs ?_ | refine idx_rd hs fun b_ o_ ha_ => ?_ | fail) | ((with_reducible refine isNew ?_); first | refine newB_at hs fun b_ w hs => ?_ | fail) | ((with_reducible refine isLdS ?_); first | refine ldS_b ?_ | refine ldS_b (x := ⟨_, _, _⟩) ?_ | refine ldS_r0 ?_ | refine ldS_r1 ?_ | refine ldS_r2 ?_ | refine ldS_r3 ?_ | refine ldS_rs0 hs ?_ | refine ldS_rs1 hs ?_ | refine ldS_rs2 hs ?_ | refine ldS_rs3 hs ?_ | refine ldS_rd0 ha_ ?_ | refine ldS_rd1 ha_ ?_ | refine ldS_rd2 ha_ ?_ | refine ldS_rd3 ha_ ?_ | fail) | ((with_reducible refine isKeep ?_); first | refine keep_of hs ?_ | refine keep_imp hs ?_ | fail) | ((with_reducible refine isWhen ?_); first | refine when_om ?_ | fail) | ((with_reducible refine isDraw ?_); first | refine drawW_sat hs fun w hs => ?_ | fail))
    refine ld_r0 (x := (rowVal row k).getD 0) hs ?_ (hc := by rw [Int.toNat_natCast]; simp only [lkR, Lk.cells, List.getElem?_cons_zero]; rw [hv]; rfl)
    rw [h1]
    refine ⟨rfl, lst_shut s f hi rfl ?_⟩
    exact Sat.fin hs
theorem int_take_in {v : Int} (hr : row.length + free.length < 1099511627776) (hs : Sat W w (lst (Value.int .i64) b row free :: M)) :
    Calls Try.prog id_list_List_int_take #[.pointer (some ⟨b, 0, none⟩), (Value.int .i64) v] w fun e w' => e = .returned (.int .i64 (hdl row free : Int)) ∧ ∃ (s f : Sl) (ls ls1 : List Lk), Inv ls free (rowV (Value.int .i64) row) ∧ s.n = ls1.length ∧ Taken ls free (rowV (Value.int .i64) row) ((Value.int .i64) v) (hdl row free) ls1 free.dropLast ∧
      Sat W w' (blk b [.slice s.a s.n s.c, .slice f.a f.n f.c, .int .i64 ((row.length : Int) + 1)] :: recs lkR s ls1 :: recs Rec.nat f free.dropLast :: M) := by
  refine int_c1 (list_List_int_take_calls ?_)
  rw [list_List_int_take_def, list_List_int_take_raw]
  obtain ⟨s, f, ls, hi, ⟨hn, hf, hl⟩, hs⟩ := lst_open hs
  have ht := hi.take ((Value.int .i64) v)
  have hh : takeH ls.length free = hdl row free := by unfold takeH hdl; rw [hl]
  rw [hh] at ht
  repeat (first | with_reducible refine nilck_some ?_ | ((with_reducible refine atLd ?_); first | refine ld_b hs ?_ | refine ld_b (x := ⟨_, _, _⟩) hs ?_ | refine ld_r0 hs ?_ | refine ld_r1 hs ?_ | refine ld_r2 hs ?_ | refine ld_r3 hs ?_ | refine ld_r4 hs ?_ | refine ld_rd0 ha_ hs ?_ | refine ld_rd1 ha_ hs ?_ | refine ld_rd2 ha_ hs ?_ | refine ld_rd3 ha_ hs ?_ | refine ld_rd4 ha_ hs ?_ | fail) | ((with_reducible refine isSt ?_); first | refine st_b hs fun w hs => ?_ | refine st_rec5 hs fun w hs => ?_ | refine st_rec4 hs fun w hs => ?_ | refine st_rec3 hs fun w hs => ?_ | refine st_rec2 hs fun w hs => ?_ | refine st_r0 hs fun w hs => ?_ | refine st_r1 hs fun w hs => ?_ | fail) | ((with_reducible refine isIdx ?_); first | refine idx_s hs fun b_ o_ hs => ?_ | refine idx_a hs ?_ | refine idx_rd hs fun b_ o_ ha_ => ?_ | fail) | ((with_reducible refine isNew ?_); first | refine newB_at hs fun b_ w hs => ?_ | fail) | ((with_reducible refine isLdS ?_); first | refine ldS_b ?_ | refine ldS_b (x := ⟨_, _, _⟩) ?_ | refine ldS_r0 ?_ | refine ldS_r1 ?_ | refine ldS_r2 ?_ | refine ldS_r3 ?_ | refine ldS_rs0 hs ?_ | refine ldS_rs1 hs ?_ | refine ldS_rs2 hs ?_ | refine ldS_rs3 hs ?_ | refine ldS_rd0 ha_ ?_ | refine ldS_rd1 ha_ ?_ | refine ldS_rd2 ha_ ?_ | refine ldS_rd3 ha_ ?_ | fail) | ((with_reducible refine isKeep ?_); first | refine keep_of hs ?_ | refine keep_imp hs ?_ | fail) | ((with_reducible refine isWhen ?_); first | refine when_om ?_ | fail) | ((with_reducible refine isDraw ?_); first | refine drawW_sat hs fun w hs => ?_ | fail))
  rw [hf]
  refine ite_cases (fun h1 => ?_) (fun h1 => ?_)
  · simp only [gt_iff_lt, decide_eq_true_eq] at h1
    have hne : free ≠ [] := by rintro rfl; simp at h1
    have hfc := (recs_len (s := f) hs).2
    have hwr : IntKind.wrap .i64 ((free.length : Int) - 1) = ((free.length - 1 : Nat) : Int) := by rw [i64_in _ (by omega)]; omega
    simp only [hwr, Int.toNat_natCast]
    repeat (first | with_reducible refine nilck_some ?_ | ((with_reducible refine atLd ?_); first | refine ld_b hs ?_ | refine ld_b (x := ⟨_, _, _⟩) hs ?_ | refine ld_r0 hs ?_ | refine ld_r1 hs ?_ | refine ld_r2 hs ?_ | refine ld_r3 hs ?_ | refine ld_r4 hs ?_ | refine ld_rd0 ha_ hs ?_ | refine ld_rd1 ha_ hs ?_ | refine ld_rd2 ha_ hs ?_ | refine ld_rd3 ha_ hs ?_ | refine ld_rd4 ha_ hs ?_ | fail) | ((with_reducible refine isSt ?_); first | refine st_b hs fun w hs => ?_ | refine st_rec5 hs fun w hs => ?_ | refine st_rec4 hs fun w hs => ?_ | refine st_rec3 hs fun w hs => ?_ | refine st_rec2 hs fun w hs => ?_ | refine st_r0 hs fun w hs => ?_ | refine st_r1 hs fun w hs => ?_ | fail) | ((with_reducible refine isIdx ?_); first | refine idx_s hs fun b_ o_ hs => ?_ | refine idx_a hs ?_ | refine idx_rd hs fun b_ o_ ha_ => ?_ | fail) | ((with_reducible refine isNew ?_); first | refine newB_at hs fun b_ w hs => ?_ | fail) | ((with_reducible refine isLdS ?_); first | refine ldS_b ?_ | refine ldS_b (x := ⟨_, _, _⟩) ?_ | refine ldS_r0 ?_ | refine ldS_r1 ?_ | refine ldS_r2 ?_ | refine ldS_r3 ?_ | refine ldS_rs0 hs ?_ | refine ldS_rs1 hs ?_ | refine ldS_rs2 hs ?_ | refine ldS_rs3 hs ?_ | refine ldS_rd0 ha_ ?_ | refine ldS_rd1 ha_ ?_ | refine ldS_rd2 ha_ ?_ | refine ldS_rd3 ha_ ?_ | fail) | ((with_reducible refine isKeep ?_); first | refine keep_of hs ?_ | refine keep_imp hs ?_ | fail) | ((with_reducible refine isWhen ?_); first | refine when_om ?_ | fail) | ((with_reducible refine isDraw ?_); first | refine drawW_sat hs fun w hs => ?_ | fail))
    have hs := cut_s (s := f) (lo := 0) (hi := free.length - 1) (c := f.c) (hs.shut f) rfl (by omega) (by omega) rfl (by decide)
    rw [list_List_int_take_j1_def, list_List_int_take_j1_raw]
    have hlast : free.getD (free.length - 1) default = hdl row free := by
      rw [hdl, List.getLastD_eq_getLast?, List.getLast?_eq_getElem?, List.getD_eq_getElem?_getD, List.getElem?_eq_getElem (by omega)]; rfl
    simp only [hlast] at hs ⊢
    rw [List.drop_zero, Nat.sub_zero, ← List.dropLast_eq_take] at hs
    have hlt := ht.lt
    have hlt2 : hdl row free < ls.length := by
      have := ht.lt; unfold takeL at this; rw [if_neg hne, List.length_set] at this; exact this
    repeat (first | with_reducible refine nilck_some ?_ | ((with_reducible refine atLd ?_); first | refine ld_b hs ?_ | refine ld_b (x := ⟨_, _, _⟩) hs ?_ | refine ld_r0 hs ?_ | refine ld_r1 hs ?_ | refine ld_r2 hs ?_ | refine ld_r3 hs ?_ | refine ld_r4 hs ?_ | refine ld_rd0 ha_ hs ?_ | refine ld_rd1 ha_ hs ?_ | refine ld_rd2 ha_ hs ?_ | refine ld_rd3 ha_ hs ?_ | refine ld_rd4 ha_ hs ?_ | fail) | ((with_reducible refine isSt ?_); first | refine st_b hs fun w hs => ?_ | refine st_rec5 hs fun w hs => ?_ | refine st_rec4 hs fun w hs => ?_ | refine st_rec3 hs fun w hs => ?_ | refine st_rec2 hs fun w hs => ?_ | refine st_r0 hs fun w hs => ?_ | refine st_r1 hs fun w hs => ?_ | fail) | ((with_reducible refine isIdx ?_); first | refine idx_s hs fun b_ o_ hs => ?_ | refine idx_a hs ?_ | refine idx_rd hs fun b_ o_ ha_ => ?_ | fail) | ((with_reducible refine isNew ?_); first | refine newB_at hs fun b_ w hs => ?_ | fail) | ((with_reducible refine isLdS ?_); first | refine ldS_b ?_ | refine ldS_b (x := ⟨_, _, _⟩) ?_ | refine ldS_r0 ?_ | refine ldS_r1 ?_ | refine ldS_r2 ?_ | refine ldS_r3 ?_ | refine ldS_rs0 hs ?_ | refine ldS_rs1 hs ?_ | refine ldS_rs2 hs ?_ | refine ldS_rs3 hs ?_ | refine ldS_rd0 ha_ ?_ | refine ldS_rd1 ha_ ?_ | refine ldS_rd2 ha_ ?_ | refine ldS_rd3 ha_ ?_ | fail) | ((with_reducible refine isKeep ?_); first | refine keep_of hs ?_ | refine keep_imp hs ?_ | fail) | ((with_reducible refine isWhen ?_); first | refine when_om ?_ | fail) | ((with_reducible refine isDraw ?_); first | refine drawW_sat hs fun w hs => ?_ | fail))
    rw [i64_in _ (by omega)] at hs
    simp only [Int.toNat_natCast] at hs
    refine ⟨by trivial, s, ⟨subA f.a 0 f.c 1, free.length - 1, f.c⟩, ls, takeL ls free ((Value.int .i64) v), hi, ?_, ht, ?_⟩
    · rw [takeL, if_neg hne, List.length_set]; exact hn
    · have hset : ls.set (hdl row free) ⟨(Value.int .i64) v, 0, 0, true⟩ = takeL ls free ((Value.int .i64) v) := by
        unfold takeL hdl; rw [if_neg hne]
        congr 1
        rcases List.eq_nil_or_concat free with rfl | ⟨m, x, rfl⟩
        · exact absurd rfl hne
        · simp [List.getLastD_eq_getLast?]
      rw [hset] at hs
      exact Sat.fin hs
  · simp only [gt_iff_lt, decide_eq_false_iff_not] at h1
    have hfe : free = [] := List.length_eq_zero_iff.1 (by omega)
    subst hfe
    have hn' := hn
    repeat (first | with_reducible refine nilck_some ?_ | ((with_reducible refine atLd ?_); first | refine ld_b hs ?_ | refine ld_b (x := ⟨_, _, _⟩) hs ?_ | refine ld_r0 hs ?_ | refine ld_r1 hs ?_ | refine ld_r2 hs ?_ | refine ld_r3 hs ?_ | refine ld_r4 hs ?_ | refine ld_rd0 ha_ hs ?_ | refine ld_rd1 ha_ hs ?_ | refine ld_rd2 ha_ hs ?_ | refine ld_rd3 ha_ hs ?_ | refine ld_rd4 ha_ hs ?_ | fail) | ((with_reducible refine isSt ?_); first | refine st_b hs fun w hs => ?_ | refine st_rec5 hs fun w hs => ?_ | refine st_rec4 hs fun w hs => ?_ | refine st_rec3 hs fun w hs => ?_ | refine st_rec2 hs fun w hs => ?_ | refine st_r0 hs fun w hs => ?_ | refine st_r1 hs fun w hs => ?_ | fail) | ((with_reducible refine isIdx ?_); first | refine idx_s hs fun b_ o_ hs => ?_ | refine idx_a hs ?_ | refine idx_rd hs fun b_ o_ ha_ => ?_ | fail) | ((with_reducible refine isNew ?_); first | refine newB_at hs fun b_ w hs => ?_ | fail) | ((with_reducible refine isLdS ?_); first | refine ldS_b ?_ | refine ldS_b (x := ⟨_, _, _⟩) ?_ | refine ldS_r0 ?_ | refine ldS_r1 ?_ | refine ldS_r2 ?_ | refine ldS_r3 ?_ | refine ldS_rs0 hs ?_ | refine ldS_rs1 hs ?_ | refine ldS_rs2 hs ?_ | refine ldS_rs3 hs ?_ | refine ldS_rd0 ha_ ?_ | refine ldS_rd1 ha_ ?_ | refine ldS_rd2 ha_ ?_ | refine ldS_rd3 ha_ ?_ | fail) | ((with_reducible refine isKeep ?_); first | refine keep_of hs ?_ | refine keep_imp hs ?_ | fail) | ((with_reducible refine isWhen ?_); first | refine when_om ?_ | fail) | ((with_reducible refine isDraw ?_); first | refine drawW_sat hs fun w hs => ?_ | fail))
    refine app_one (s := s) (a := (⟨.int .i64 (0 : Int), 0, 0, false⟩ : Lk)) hs rfl rfl rfl rfl (by decide) (by rw [hl]; simp only [List.length_nil]; simp only [List.length_nil] at hr; omega) fun s2 w hs2 hs => ?_
    repeat (first | with_reducible refine nilck_some ?_ | ((with_reducible refine atLd ?_); first | refine ld_b hs ?_ | refine ld_b (x := ⟨_, _, _⟩) hs ?_ | refine ld_r0 hs ?_ | refine ld_r1 hs ?_ | refine ld_r2 hs ?_ | refine ld_r3 hs ?_ | refine ld_r4 hs ?_ | refine ld_rd0 ha_ hs ?_ | refine ld_rd1 ha_ hs ?_ | refine ld_rd2 ha_ hs ?_ | refine ld_rd3 ha_ hs ?_ | refine ld_rd4 ha_ hs ?_ | fail) | ((with_reducible refine isSt ?_); first | refine st_b hs fun w hs => ?_ | refine st_rec5 hs fun w hs => ?_ | refine st_rec4 hs fun w hs => ?_ | refine st_rec3 hs fun w hs => ?_ | refine st_rec2 hs fun w hs => ?_ | refine st_r0 hs fun w hs => ?_ | refine st_r1 hs fun w hs => ?_ | fail) | ((with_reducible refine isIdx ?_); first | refine idx_s hs fun b_ o_ hs => ?_ | refine idx_a hs ?_ | refine idx_rd hs fun b_ o_ ha_ => ?_ | fail) | ((with_reducible refine isNew ?_); first | refine newB_at hs fun b_ w hs => ?_ | fail) | ((with_reducible refine isLdS ?_); first | refine ldS_b ?_ | refine ldS_b (x := ⟨_, _, _⟩) ?_ | refine ldS_r0 ?_ | refine ldS_r1 ?_ | refine ldS_r2 ?_ | refine ldS_r3 ?_ | refine ldS_rs0 hs ?_ | refine ldS_rs1 hs ?_ | refine ldS_rs2 hs ?_ | refine ldS_rs3 hs ?_ | refine ldS_rd0 ha_ ?_ | refine ldS_rd1 ha_ ?_ | refine ldS_rd2 ha_ ?_ | refine ldS_rd3 ha_ ?_ | fail) | ((with_reducible refine isKeep ?_); first | refine keep_of hs ?_ | refine keep_imp hs ?_ | fail) | ((with_reducible refine isWhen ?_); first | refine when_om ?_ | fail) | ((with_reducible refine isDraw ?_); first | refine drawW_sat hs fun w hs => ?_ | fail))
    rw [list_List_int_take_j1_def, list_List_int_take_j1_raw, hn]
    repeat (first | with_reducible refine nilck_some ?_ | ((with_reducible refine atLd ?_); first | refine ld_b hs ?_ | refine ld_b (x := ⟨_, _, _⟩) hs ?_ | refine ld_r0 hs ?_ | refine ld_r1 hs ?_ | refine ld_r2 hs ?_ | refine ld_r3 hs ?_ | refine ld_r4 hs ?_ | refine ld_rd0 ha_ hs ?_ | refine ld_rd1 ha_ hs ?_ | refine ld_rd2 ha_ hs ?_ | refine ld_rd3 ha_ hs ?_ | refine ld_rd4 ha_ hs ?_ | fail) | ((with_reducible refine isSt ?_); first | refine st_b hs fun w hs => ?_ | refine st_rec5 hs fun w hs => ?_ | refine st_rec4 hs fun w hs => ?_ | refine st_rec3 hs fun w hs => ?_ | refine st_rec2 hs fun w hs => ?_ | refine st_r0 hs fun w hs => ?_ | refine st_r1 hs fun w hs => ?_ | fail) | ((with_reducible refine isIdx ?_); first | refine idx_s hs fun b_ o_ hs => ?_ | refine idx_a hs ?_ | refine idx_rd hs fun b_ o_ ha_ => ?_ | fail) | ((with_reducible refine isNew ?_); first | refine newB_at hs fun b_ w hs => ?_ | fail) | ((with_reducible refine isLdS ?_); first | refine ldS_b ?_ | refine ldS_b (x := ⟨_, _, _⟩) ?_ | refine ldS_r0 ?_ | refine ldS_r1 ?_ | refine ldS_r2 ?_ | refine ldS_r3 ?_ | refine ldS_rs0 hs ?_ | refine ldS_rs1 hs ?_ | refine ldS_rs2 hs ?_ | refine ldS_rs3 hs ?_ | refine ldS_rd0 ha_ ?_ | refine ldS_rd1 ha_ ?_ | refine ldS_rd2 ha_ ?_ | refine ldS_rd3 ha_ ?_ | fail) | ((with_reducible refine isKeep ?_); first | refine keep_of hs ?_ | refine keep_imp hs ?_ | fail) | ((with_reducible refine isWhen ?_); first | refine when_om ?_ | fail) | ((with_reducible refine isDraw ?_); first | refine drawW_sat hs fun w hs => ?_ | fail))
    rw [i64_in _ (by omega)] at hs
    simp only [Int.toNat_natCast] at hs
    have hh2 : (ls.length : Int) = (hdl row [] : Int) := by rw [← hh]; rfl
    refine ⟨by rw [hh2], s2, f, ls, takeL ls [] ((Value.int .i64) v), hi, ?_, ht, ?_⟩
    · simp [takeL, hs2]
    · have hset : (ls ++ [(⟨.int .i64 (0 : Int), 0, 0, false⟩ : Lk)]).set ls.length ⟨(Value.int .i64) v, 0, 0, true⟩ = takeL ls [] ((Value.int .i64) v) := by
        simp [takeL]
      rw [hset] at hs
      exact Sat.fin hs
theorem int_PushFront (h : Sat W w L) [hA : At L b (lst (Value.int .i64) b row free) F] {v : Int} (hr : row.length + free.length < 1099511627776) : Calls Try.prog id_list_List_int_PushFront #[.pointer (some ⟨b, 0, none⟩), (Value.int .i64) v] w fun e w' => e = .returned (.int .i64 (hdl row free : Int)) ∧ Sat W w' (F (lst (Value.int .i64) b ((hdl row free, v) :: row) (free.dropLast))) := by
  refine At.call1 (hA := hA) h fun M hs => ?_
  clear h hA
  refine int_c1 (list_List_int_PushFront_calls ?_)
  rw [list_List_int_PushFront_def, list_List_int_PushFront_raw]
  refine ite_false rfl ?_
  refine call1_of (int_take_in hr hs) fun e w ⟨he, s, f, ls, ls1, hi, hn, ht, hs⟩ => ⟨_, he, ?_⟩
  have hlen := ht.le
  have hpos := hi.pos
  have hl1 := ht.lt
  repeat (first | with_reducible refine nilck_some ?_ | ((with_reducible refine atLd ?_); first | refine ld_b hs ?_ | refine ld_b (x := ⟨_, _, _⟩) hs ?_ | refine ld_r0 hs ?_ | refine ld_r1 hs ?_ | refine ld_r2 hs ?_ | refine ld_r3 hs ?_ | refine ld_r4 hs ?_ | refine ld_rd0 ha_ hs ?_ | refine ld_rd1 ha_ hs ?_ | refine ld_rd2 ha_ hs ?_ | refine ld_rd3 ha_ hs ?_ | refine ld_rd4 ha_ hs ?_ | fail) | ((with_reducible refine isSt ?_); first | refine st_b hs fun w hs => ?_ | refine st_rec5 hs fun w hs => ?_ | refine st_rec4 hs fun w hs => ?_ | refine st_rec3 hs fun w hs => ?_ | refine st_rec2 hs fun w hs => ?_ | refine st_r0 hs fun w hs => ?_ | refine st_r1 hs fun w hs => ?_ | fail) | ((with_reducible refine isIdx ?_); first | refine idx_s hs fun b_ o_ hs => ?_ | refine idx_a hs ?_ | refine idx_rd hs fun b_ o_ ha_ => ?_ | fail) | ((with_reducible refine isNew ?_); first | refine newB_at hs fun b_ w hs => ?_ | fail) | ((with_reducible refine isLdS ?_); first | refine ldS_b ?_ | refine ldS_b (x := ⟨_, _, _⟩) ?_ | refine ldS_r0 ?_ | refine ldS_r1 ?_ | refine ldS_r2 ?_ | refine ldS_r3 ?_ | refine ldS_rs0 hs ?_ | refine ldS_rs1 hs ?_ | refine ldS_rs2 hs ?_ | refine ldS_rs3 hs ?_ | refine ldS_rd0 ha_ ?_ | refine ldS_rd1 ha_ ?_ | refine ldS_rd2 ha_ ?_ | refine ldS_rd3 ha_ ?_ | fail) | ((with_reducible refine isKeep ?_); first | refine keep_of hs ?_ | refine keep_imp hs ?_ | fail) | ((with_reducible refine isWhen ?_); first | refine when_om ?_ | fail) | ((with_reducible refine isDraw ?_); first | refine drawW_sat hs fun w hs => ?_ | fail))
  have e1 : (ls1.getD (0 : Int).toNat default).next = ((rowV (Value.int .i64) row).map (·.1)).headD 0 := by
    show nxOf ls1 0 = _
    rw [ht.nx, upd_other (by have := ht.pos; omega), stands_front hi.stands]
  rw [e1]
  have hx : ((rowV (Value.int .i64) row).map (·.1)).headD 0 < ls.length := hi.bound mem_headD
  refine call0_of (int_lays_in (p := 0) hl1 (by omega) (by omega) (hs.shut s)) fun e w ⟨he, hs⟩ => ⟨he, ?_⟩
  refine ⟨rfl, lst_shut s f ?_ (by simp) hs⟩
  exact Inv.lay (r1 := []) (r2 := rowV (Value.int .i64) row) hi ht
theorem int_PushBack (h : Sat W w L) [hA : At L b (lst (Value.int .i64) b row free) F] {v : Int} (hr : row.length + free.length < 1099511627776) : Calls Try.prog id_list_List_int_PushBack #[.pointer (some ⟨b, 0, none⟩), (Value.int .i64) v] w fun e w' => e = .returned (.int .i64 (hdl row free : Int)) ∧ Sat W w' (F (lst (Value.int .i64) b (row ++ [(hdl row free, v)]) (free.dropLast))) := by
  refine At.call1 (hA := hA) h fun M hs => ?_
  clear h hA
  refine int_c1 (list_List_int_PushBack_calls ?_)
  rw [list_List_int_PushBack_def, list_List_int_PushBack_raw]
  refine ite_false rfl ?_
  refine call1_of (int_take_in hr hs) fun e w ⟨he, s, f, ls, ls1, hi, hn, ht, hs⟩ => ⟨_, he, ?_⟩
  have hlen := ht.le
  have hpos := hi.pos
  have hl1 := ht.lt
  repeat (first | with_reducible refine nilck_some ?_ | ((with_reducible refine atLd ?_); first | refine ld_b hs ?_ | refine ld_b (x := ⟨_, _, _⟩) hs ?_ | refine ld_r0 hs ?_ | refine ld_r1 hs ?_ | refine ld_r2 hs ?_ | refine ld_r3 hs ?_ | refine ld_r4 hs ?_ | refine ld_rd0 ha_ hs ?_ | refine ld_rd1 ha_ hs ?_ | refine ld_rd2 ha_ hs ?_ | refine ld_rd3 ha_ hs ?_ | refine ld_rd4 ha_ hs ?_ | fail) | ((with_reducible refine isSt ?_); first | refine st_b hs fun w hs => ?_ | refine st_rec5 hs fun w hs => ?_ | refine st_rec4 hs fun w hs => ?_ | refine st_rec3 hs fun w hs => ?_ | refine st_rec2 hs fun w hs => ?_ | refine st_r0 hs fun w hs => ?_ | refine st_r1 hs fun w hs => ?_ | fail) | ((with_reducible refine isIdx ?_); first | refine idx_s hs fun b_ o_ hs => ?_ | refine idx_a hs ?_ | refine idx_rd hs fun b_ o_ ha_ => ?_ | fail) | ((with_reducible refine isNew ?_); first | refine newB_at hs fun b_ w hs => ?_ | fail) | ((with_reducible refine isLdS ?_); first | refine ldS_b ?_ | refine ldS_b (x := ⟨_, _, _⟩) ?_ | refine ldS_r0 ?_ | refine ldS_r1 ?_ | refine ldS_r2 ?_ | refine ldS_r3 ?_ | refine ldS_rs0 hs ?_ | refine ldS_rs1 hs ?_ | refine ldS_rs2 hs ?_ | refine ldS_rs3 hs ?_ | refine ldS_rd0 ha_ ?_ | refine ldS_rd1 ha_ ?_ | refine ldS_rd2 ha_ ?_ | refine ldS_rd3 ha_ ?_ | fail) | ((with_reducible refine isKeep ?_); first | refine keep_of hs ?_ | refine keep_imp hs ?_ | fail) | ((with_reducible refine isWhen ?_); first | refine when_om ?_ | fail) | ((with_reducible refine isDraw ?_); first | refine drawW_sat hs fun w hs => ?_ | fail))
  have e1 : (ls1.getD (0 : Int).toNat default).prev = ((rowV (Value.int .i64) row).map (·.1)).getLastD 0 := by
    show pvOf ls1 0 = _
    rw [ht.pv, upd_other (by have := ht.pos; omega), stands_back hi.stands]
  rw [e1]
  have hx : ((rowV (Value.int .i64) row).map (·.1)).getLastD 0 < ls.length := hi.bound mem_lastD
  refine call0_of (int_lays_in (x := 0) hl1 (by omega) (by omega) (hs.shut s)) fun e w ⟨he, hs⟩ => ⟨he, ?_⟩
  refine ⟨rfl, lst_shut s f ?_ (by simp) hs⟩
  have := Inv.lay (r1 := rowV (Value.int .i64) row) (r2 := []) (by rw [List.append_nil]; exact hi) (by rw [List.append_nil]; exact ht)
  rw [show rowV (Value.int .i64) (row ++ [(hdl row free, v)]) = rowV (Value.int .i64) row ++ [(hdl row free, (Value.int .i64) v)] by simp [rowV]]
  exact this
theorem int_Front (h : Sat W w L) [hA : At L b (lst (Value.int .i64) b row free) F] : Calls Try.prog id_list_List_int_Front #[.pointer (some ⟨b, 0, none⟩)] w fun e w' => e = .returned (.int .i64 ((rowPlace row 0 : Nat) : Int)) ∧ Sat W w' (F (lst (Value.int .i64) b (row) (free))) := by
  refine At.call1 (hA := hA) h fun M hs => ?_
  clear h hA
  refine int_c1 (list_List_int_Front_calls ?_)
  rw [list_List_int_Front_def, list_List_int_Front_raw]
  refine ite_false rfl ?_
  obtain ⟨s, f, ls, hi, ⟨hn, hf, hl⟩, hs⟩ := lst_open hs
  have hpos := hi.pos
  repeat (first | with_reducible refine nilck_some ?_ | ((with_reducible refine atLd ?_); first | refine ld_b hs ?_ | refine ld_b (x := ⟨_, _, _⟩) hs ?_ | refine ld_r0 hs ?_ | refine ld_r1 hs ?_ | refine ld_r2 hs ?_ | refine ld_r3 hs ?_ | refine ld_r4 hs ?_ | refine ld_rd0 ha_ hs ?_ | refine ld_rd1 ha_ hs ?_ | refine ld_rd2 ha_ hs ?_ | refine ld_rd3 ha_ hs ?_ | refine ld_rd4 ha_ hs ?_ | fail) | ((with_reducible refine isSt ?_); first | refine st_b hs fun w hs => ?_ | refine st_rec5 hs fun w hs => ?_ | refine st_rec4 hs fun w hs => ?_ | refine st_rec3 hs fun w hs => ?_ | refine st_rec2 hs fun w hs => ?_ | refine st_r0 hs fun w hs => ?_ | refine st_r1 hs fun w hs => ?_ | fail) | ((with_reducible refine isIdx ?_); first | refine idx_s hs fun b_ o_ hs => ?_ | refine idx_a hs ?_ | refine idx_rd hs fun b_ o_ ha_ => ?_ | fail) | ((with_reducible refine isNew ?_); first | refine newB_at hs fun b_ w hs => ?_ | fail) | ((with_reducible refine isLdS ?_); first | refine ldS_b ?_ | refine ldS_b (x := ⟨_, _, _⟩) ?_ | refine ldS_r0 ?_ | refine ldS_r1 ?_ | refine ldS_r2 ?_ | refine ldS_r3 ?_ | refine ldS_rs0 hs ?_ | refine ldS_rs1 hs ?_ | refine ldS_rs2 hs ?_ | refine ldS_rs3 hs ?_ | refine ldS_rd0 ha_ ?_ | refine ldS_rd1 ha_ ?_ | refine ldS_rd2 ha_ ?_ | refine ldS_rd3 ha_ ?_ | fail) | ((with_reducible refine isKeep ?_); first | refine keep_of hs ?_ | refine keep_imp hs ?_ | fail) | ((with_reducible refine isWhen ?_); first | refine when_om ?_ | fail) | ((with_reducible refine isDraw ?_); first | refine drawW_sat hs fun w hs => ?_ | fail))
  refine ⟨?_, lst_shut s f hi rfl (by exact Sat.fin hs)⟩
  congr 2
  have := hi.front
  rw [rowV_place] at this
  exact this
theorem int_Back (h : Sat W w L) [hA : At L b (lst (Value.int .i64) b row free) F] : Calls Try.prog id_list_List_int_Back #[.pointer (some ⟨b, 0, none⟩)] w fun e w' => e = .returned (.int .i64 ((rowLast row : Nat) : Int)) ∧ Sat W w' (F (lst (Value.int .i64) b (row) (free))) := by
  refine At.call1 (hA := hA) h fun M hs => ?_
  clear h hA
  refine int_c1 (list_List_int_Back_calls ?_)
  rw [list_List_int_Back_def, list_List_int_Back_raw]
  refine ite_false rfl ?_
  obtain ⟨s, f, ls, hi, ⟨hn, hf, hl⟩, hs⟩ := lst_open hs
  have hpos := hi.pos
  repeat (first | with_reducible refine nilck_some ?_ | ((with_reducible refine atLd ?_); first | refine ld_b hs ?_ | refine ld_b (x := ⟨_, _, _⟩) hs ?_ | refine ld_r0 hs ?_ | refine ld_r1 hs ?_ | refine ld_r2 hs ?_ | refine ld_r3 hs ?_ | refine ld_r4 hs ?_ | refine ld_rd0 ha_ hs ?_ | refine ld_rd1 ha_ hs ?_ | refine ld_rd2 ha_ hs ?_ | refine ld_rd3 ha_ hs ?_ | refine ld_rd4 ha_ hs ?_ | fail) | ((with_reducible refine isSt ?_); first | refine st_b hs fun w hs => ?_ | refine st_rec5 hs fun w hs => ?_ | refine st_rec4 hs fun w hs => ?_ | refine st_rec3 hs fun w hs => ?_ | refine st_rec2 hs fun w hs => ?_ | refine st_r0 hs fun w hs => ?_ | refine st_r1 hs fun w hs => ?_ | fail) | ((with_reducible refine isIdx ?_); first | refine idx_s hs fun b_ o_ hs => ?_ | refine idx_a hs ?_ | refine idx_rd hs fun b_ o_ ha_ => ?_ | fail) | ((with_reducible refine isNew ?_); first | refine newB_at hs fun b_ w hs => ?_ | fail) | ((with_reducible refine isLdS ?_); first | refine ldS_b ?_ | refine ldS_b (x := ⟨_, _, _⟩) ?_ | refine ldS_r0 ?_ | refine ldS_r1 ?_ | refine ldS_r2 ?_ | refine ldS_r3 ?_ | refine ldS_rs0 hs ?_ | refine ldS_rs1 hs ?_ | refine ldS_rs2 hs ?_ | refine ldS_rs3 hs ?_ | refine ldS_rd0 ha_ ?_ | refine ldS_rd1 ha_ ?_ | refine ldS_rd2 ha_ ?_ | refine ldS_rd3 ha_ ?_ | fail) | ((with_reducible refine isKeep ?_); first | refine keep_of hs ?_ | refine keep_imp hs ?_ | fail) | ((with_reducible refine isWhen ?_); first | refine when_om ?_ | fail) | ((with_reducible refine isDraw ?_); first | refine drawW_sat hs fun w hs => ?_ | fail))
  refine ⟨?_, lst_shut s f hi rfl (by exact Sat.fin hs)⟩
  congr 2
  have := hi.back
  rw [rowV_place, rowV_len] at this
  exact this
theorem int_Next (h : Sat W w L) [hA : At L b (lst (Value.int .i64) b row free) F] {x : Int} : Calls Try.prog id_list_List_int_Next #[.pointer (some ⟨b, 0, none⟩), .int .i64 x] w fun e w' => e = .returned (.int .i64 (rowNext row x : Int)) ∧ Sat W w' (F (lst (Value.int .i64) b (row) (free))) := by
  refine At.call1 (hA := hA) h fun M hs => ?_
  clear h hA
  refine int_c1 (list_List_int_Next_calls ?_)
  rw [list_List_int_Next_def, list_List_int_Next_raw]
  refine call1_of (int_has hs) fun e w ⟨he, hs⟩ => ⟨_, he, ?_⟩
  refine ite_cases (fun h1 => ?_) (fun h1 => ?_)
  · simp only [Bool.not_eq_true', Option.isSome_eq_false_iff, Option.isNone_iff_eq_none] at h1
    refine ⟨by simp only [rowNext, h1]; rfl, hs⟩
  · simp only [Bool.not_eq_false', Option.isSome_iff_exists] at h1
    obtain ⟨i, h1⟩ := h1
    obtain ⟨s, f, ls, hi, ⟨hn, hf, hl⟩, hs⟩ := lst_open hs
    obtain ⟨k, v0, rfl, hrv, hk, hkl, ht, hv, hr2, hnx, hpv⟩ := hi.row_at (i := i) (by rw [rAt_V]; exact h1)
    repeat (first | with_reducible refine nilck_some ?_ | ((with_reducible refine atLd ?_); first | refine ld_b hs ?_ | refine ld_b (x := ⟨_, _, _⟩) hs ?_ | refine ld_r0 hs ?_ | refine ld_r1 hs ?_ | refine ld_r2 hs ?_ | refine ld_r3 hs ?_ | refine ld_r4 hs ?_ | refine ld_rd0 ha_ hs ?_ | refine ld_rd1 ha_ hs ?_ | refine ld_rd2 ha_ hs ?_ | refine ld_rd3 ha_ hs ?_ | refine ld_rd4 ha_ hs ?_ | fail) | ((with_reducible refine isSt ?_); first | refine st_b hs fun w hs => ?_ | refine st_rec5 hs fun w hs => ?_ | refine st_rec4 hs fun w hs => ?_ | refine st_rec3 hs fun w hs => ?_ | refine st_rec2 hs fun w hs => ?_ | refine st_r0 hs fun w hs => ?_ | refine st_r1 hs fun w hs => ?_ | fail) | ((with_reducible refine isIdx ?_); first | refine idx_s hs fun b_ o_ hs => ?_ | refine idx_a hs ?_ | refine idx_rd hs fun b_ o_ ha_ => ?_ | fail) | ((with_reducible refine isNew ?_); first | refine newB_at hs fun b_ w hs => ?_ | fail) | ((with_reducible refine isLdS ?_); first | refine ldS_b ?_ | refine ldS_b (x := ⟨_, _, _⟩) ?_ | refine ldS_r0 ?_ | refine ldS_r1 ?_ | refine ldS_r2 ?_ | refine ldS_r3 ?_ | refine ldS_rs0 hs ?_ | refine ldS_rs1 hs ?_ | refine ldS_rs2 hs ?_ | refine ldS_rs3 hs ?_ | refine ldS_rd0 ha_ ?_ | refine ldS_rd1 ha_ ?_ | refine ldS_rd2 ha_ ?_ | refine ldS_rd3 ha_ ?_ | fail) | ((with_reducible refine isKeep ?_); first | refine keep_of hs ?_ | refine keep_imp hs ?_ | fail) | ((with_reducible refine isWhen ?_); first | refine when_om ?_ | fail) | ((with_reducible refine isDraw ?_); first | refine drawW_sat hs fun w hs => ?_ | fail))
    refine ⟨?_, lst_shut s f hi rfl (by exact Sat.fin hs)⟩
    rw [Int.toNat_natCast]
    congr 2
    rw [rowV_place] at hnx
    simp only [rowNext, h1]
    exact hnx
theorem int_Prev (h : Sat W w L) [hA : At L b (lst (Value.int .i64) b row free) F] {x : Int} : Calls Try.prog id_list_List_int_Prev #[.pointer (some ⟨b, 0, none⟩), .int .i64 x] w fun e w' => e = .returned (.int .i64 (rowPrev row x : Int)) ∧ Sat W w' (F (lst (Value.int .i64) b (row) (free))) := by
  refine At.call1 (hA := hA) h fun M hs => ?_
  clear h hA
  refine int_c1 (list_List_int_Prev_calls ?_)
  rw [list_List_int_Prev_def, list_List_int_Prev_raw]
  refine call1_of (int_has hs) fun e w ⟨he, hs⟩ => ⟨_, he, ?_⟩
  refine ite_cases (fun h1 => ?_) (fun h1 => ?_)
  · simp only [Bool.not_eq_true', Option.isSome_eq_false_iff, Option.isNone_iff_eq_none] at h1
    refine ⟨by simp only [rowPrev, h1]; rfl, hs⟩
  · simp only [Bool.not_eq_false', Option.isSome_iff_exists] at h1
    obtain ⟨i, h1⟩ := h1
    obtain ⟨s, f, ls, hi, ⟨hn, hf, hl⟩, hs⟩ := lst_open hs
    obtain ⟨k, v0, rfl, hrv, hk, hkl, ht, hv, hr2, hnx, hpv⟩ := hi.row_at (i := i) (by rw [rAt_V]; exact h1)
    repeat (first | with_reducible refine nilck_some ?_ | ((with_reducible refine atLd ?_); first | refine ld_b hs ?_ | refine ld_b (x := ⟨_, _, _⟩) hs ?_ | refine ld_r0 hs ?_ | refine ld_r1 hs ?_ | refine ld_r2 hs ?_ | refine ld_r3 hs ?_ | refine ld_r4 hs ?_ | refine ld_rd0 ha_ hs ?_ | refine ld_rd1 ha_ hs ?_ | refine ld_rd2 ha_ hs ?_ | refine ld_rd3 ha_ hs ?_ | refine ld_rd4 ha_ hs ?_ | fail) | ((with_reducible refine isSt ?_); first | refine st_b hs fun w hs => ?_ | refine st_rec5 hs fun w hs => ?_ | refine st_rec4 hs fun w hs => ?_ | refine st_rec3 hs fun w hs => ?_ | refine st_rec2 hs fun w hs => ?_ | refine st_r0 hs fun w hs => ?_ | refine st_r1 hs fun w hs => ?_ | fail) | ((with_reducible refine isIdx ?_); first | refine idx_s hs fun b_ o_ hs => ?_ | refine idx_a hs ?_ | refine idx_rd hs fun b_ o_ ha_ => ?_ | fail) | ((with_reducible refine isNew ?_); first | refine newB_at hs fun b_ w hs => ?_ | fail) | ((with_reducible refine isLdS ?_); first | refine ldS_b ?_ | refine ldS_b (x := ⟨_, _, _⟩) ?_ | refine ldS_r0 ?_ | refine ldS_r1 ?_ | refine ldS_r2 ?_ | refine ldS_r3 ?_ | refine ldS_rs0 hs ?_ | refine ldS_rs1 hs ?_ | refine ldS_rs2 hs ?_ | refine ldS_rs3 hs ?_ | refine ldS_rd0 ha_ ?_ | refine ldS_rd1 ha_ ?_ | refine ldS_rd2 ha_ ?_ | refine ldS_rd3 ha_ ?_ | fail) | ((with_reducible refine isKeep ?_); first | refine keep_of hs ?_ | refine keep_imp hs ?_ | fail) | ((with_reducible refine isWhen ?_); first | refine when_om ?_ | fail) | ((with_reducible refine isDraw ?_); first | refine drawW_sat hs fun w hs => ?_ | fail))
    refine ⟨?_, lst_shut s f hi rfl (by exact Sat.fin hs)⟩
    rw [Int.toNat_natCast]
    congr 2
    rw [rowV_place] at hpv
    have : (ls.getD k default).prev = rowPrev row k := by
      refine hpv.trans ?_
      rcases i with _ | i
      · simp [rowPrev, h1]
      · simp [rowPrev, h1]
    rw [this]
theorem int_Len (h : Sat W w L) [hA : At L b (lst (Value.int .i64) b row free) F] : Calls Try.prog id_list_List_int_Len #[.pointer (some ⟨b, 0, none⟩)] w fun e w' => e = .returned (.int .i64 (row.length : Int)) ∧ Sat W w' (F (lst (Value.int .i64) b (row) (free))) := by
  refine At.call1 (hA := hA) h fun M hs => ?_
  clear h hA
  refine int_c1 (list_List_int_Len_calls ?_)
  rw [list_List_int_Len_def, list_List_int_Len_raw]
  refine ite_false rfl ?_
  obtain ⟨s, f, ls, hi, ⟨hn, hf, hl⟩, hs⟩ := lst_open hs
  repeat (first | with_reducible refine nilck_some ?_ | ((with_reducible refine atLd ?_); first | refine ld_b hs ?_ | refine ld_b (x := ⟨_, _, _⟩) hs ?_ | refine ld_r0 hs ?_ | refine ld_r1 hs ?_ | refine ld_r2 hs ?_ | refine ld_r3 hs ?_ | refine ld_r4 hs ?_ | refine ld_rd0 ha_ hs ?_ | refine ld_rd1 ha_ hs ?_ | refine ld_rd2 ha_ hs ?_ | refine ld_rd3 ha_ hs ?_ | refine ld_rd4 ha_ hs ?_ | fail) | ((with_reducible refine isSt ?_); first | refine st_b hs fun w hs => ?_ | refine st_rec5 hs fun w hs => ?_ | refine st_rec4 hs fun w hs => ?_ | refine st_rec3 hs fun w hs => ?_ | refine st_rec2 hs fun w hs => ?_ | refine st_r0 hs fun w hs => ?_ | refine st_r1 hs fun w hs => ?_ | fail) | ((with_reducible refine isIdx ?_); first | refine idx_s hs fun b_ o_ hs => ?_ | refine idx_a hs ?_ | refine idx_rd hs fun b_ o_ ha_ => ?_ | fail) | ((with_reducible refine isNew ?_); first | refine newB_at hs fun b_ w hs => ?_ | fail) | ((with_reducible refine isLdS ?_); first | refine ldS_b ?_ | refine ldS_b (x := ⟨_, _, _⟩) ?_ | refine ldS_r0 ?_ | refine ldS_r1 ?_ | refine ldS_r2 ?_ | refine ldS_r3 ?_ | refine ldS_rs0 hs ?_ | refine ldS_rs1 hs ?_ | refine ldS_rs2 hs ?_ | refine ldS_rs3 hs ?_ | refine ldS_rd0 ha_ ?_ | refine ldS_rd1 ha_ ?_ | refine ldS_rd2 ha_ ?_ | refine ldS_rd3 ha_ ?_ | fail) | ((with_reducible refine isKeep ?_); first | refine keep_of hs ?_ | refine keep_imp hs ?_ | fail) | ((with_reducible refine isWhen ?_); first | refine when_om ?_ | fail) | ((with_reducible refine isDraw ?_); first | refine drawW_sat hs fun w hs => ?_ | fail))
  exact ⟨rfl, lst_shut s f hi rfl hs⟩
theorem int_New (hs : Sat W w L) : Calls Try.prog id_list_New_int #[] w fun e w' => ∃ b, e = .returned (.pointer (some ⟨b, 0, none⟩)) ∧ Sat W w' (lst (Value.int .i64) b [] [] :: L) := by
  refine (list_New_int_calls (Q := fun v w' => ∃ b, v = .pointer (some ⟨b, 0, none⟩) ∧ Sat W w' (lst (Value.int .i64) b [] [] :: L)) ?_).mono fun e w' ⟨v, he, b, hv, hs⟩ => ⟨b, by rw [he, hv], hs⟩
  rw [list_New_int_def, list_New_int_raw]
  refine make_at (sz := 4) hs rfl (by omega) (by omega) (by omega) (by omega) fun s w hn _ _ hs => ?_
  have hs : Sat W w (recs lkR s [⟨.int .i64 (0 : Int), 0, 0, false⟩] :: L) := hs
  have hs := Sat.nilR Rec.nat hs
  repeat (first | with_reducible refine nilck_some ?_ | ((with_reducible refine atLd ?_); first | refine ld_b hs ?_ | refine ld_b (x := ⟨_, _, _⟩) hs ?_ | refine ld_r0 hs ?_ | refine ld_r1 hs ?_ | refine ld_r2 hs ?_ | refine ld_r3 hs ?_ | refine ld_r4 hs ?_ | refine ld_rd0 ha_ hs ?_ | refine ld_rd1 ha_ hs ?_ | refine ld_rd2 ha_ hs ?_ | refine ld_rd3 ha_ hs ?_ | refine ld_rd4 ha_ hs ?_ | fail) | ((with_reducible refine isSt ?_); first | refine st_b hs fun w hs => ?_ | refine st_rec5 hs fun w hs => ?_ | refine st_rec4 hs fun w hs => ?_ | refine st_rec3 hs fun w hs => ?_ | refine st_rec2 hs fun w hs => ?_ | refine st_r0 hs fun w hs => ?_ | refine st_r1 hs fun w hs => ?_ | fail) | ((with_reducible refine isIdx ?_); first | refine idx_s hs fun b_ o_ hs => ?_ | refine idx_a hs ?_ | refine idx_rd hs fun b_ o_ ha_ => ?_ | fail) | ((with_reducible refine isNew ?_); first | refine newB_at hs fun b_ w hs => ?_ | fail) | ((with_reducible refine isLdS ?_); first | refine ldS_b ?_ | refine ldS_b (x := ⟨_, _, _⟩) ?_ | refine ldS_r0 ?_ | refine ldS_r1 ?_ | refine ldS_r2 ?_ | refine ldS_r3 ?_ | refine ldS_rs0 hs ?_ | refine ldS_rs1 hs ?_ | refine ldS_rs2 hs ?_ | refine ldS_rs3 hs ?_ | refine ldS_rd0 ha_ ?_ | refine ldS_rd1 ha_ ?_ | refine ldS_rd2 ha_ ?_ | refine ldS_rd3 ha_ ?_ | fail) | ((with_reducible refine isKeep ?_); first | refine keep_of hs ?_ | refine keep_imp hs ?_ | fail) | ((with_reducible refine isWhen ?_); first | refine when_om ?_ | fail) | ((with_reducible refine isDraw ?_); first | refine drawW_sat hs fun w hs => ?_ | fail))
  refine ⟨_, rfl, lst_shut s ⟨none, 0, 0⟩ (ls := [⟨.int .i64 (0 : Int), 0, 0, false⟩]) (n := 0) ?_ rfl (by exact Sat.fin hs)⟩
  exact inv_new _
theorem int_All_loop {Q : Value → WP} (hr : row.length + free.length < 1099511627776)
    (hQ : ∀ w (m : Sl), Sat W w (recs (Rec.int .i64) m (row.map (·.2)) :: lst (Value.int .i64) b row free :: M) → Q (.slice m.a m.n m.c) w) :
    ∀ (m i : Nat) (w : World) (acc : Sl), i + m = row.length → Sat W w (recs (Rec.int .i64) acc ((row.take i).map (·.2)) :: lst (Value.int .i64) b row free :: M) →
    list_List_int_All_l1 idJ Q (m + 1) (some ⟨b, 0, none⟩) acc (rowPlace row i : Int) w := by
  intro m
  induction m with
  | zero =>
    intro i w acc hi hs
    rw [list_List_int_All_l1_raw]
    have e : rowPlace row i = 0 := by unfold rowPlace; rw [List.getD_eq_getElem?_getD, List.getElem?_eq_none (by simp; omega)]; rfl
    rw [e]
    refine ite_false rfl ?_
    rw [list_List_int_All_j2_def, list_List_int_All_j2_raw]
    rw [List.take_of_length_le (by omega)] at hs
    exact hQ w acc hs
  | succ m ih =>
    intro i w acc hi hs
    rw [list_List_int_All_l1_raw]
    have hs := (hs.perm (List.Perm.swap _ _ _))
    obtain ⟨s, f, ls, hin, ⟨hn, hf, hl⟩, hs⟩ := lst_open hs
    have hlt : i < row.length := by omega
    have hr1 : rAt row (rowPlace row i : Int) = some i := by
      have := rAt_of (row := rowV (Value.int .i64) row) (List.nodup_append.1 hin.nodup).1 (i := i) (e := (row[i].1, (Value.int .i64) row[i].2)) (by simp [rowV, hlt])
      rw [rAt_V] at this
      rw [show rowPlace row i = row[i].1 by unfold rowPlace; rw [List.getD_eq_getElem?_getD, List.getElem?_map, List.getElem?_eq_getElem hlt]; rfl]
      exact this
    obtain ⟨k, v, hk, hrv, hk0, hkl, ht, hv, hr2, _⟩ := hin.row_at (i := i) (by rw [rAt_V]; exact hr1)
    have hk : rowPlace row i = k := by omega
    have hv2 : v = (Value.int .i64) (row.getD i default).2 := by
      simp only [rowV, List.getElem?_map, List.getElem?_eq_getElem hlt, Option.map_some, Option.some.injEq, Prod.mk.injEq] at hrv
      rw [← hrv.2, List.getD_eq_getElem?_getD, List.getElem?_eq_getElem hlt]; rfl
    refine ite_true (by rw [hk]; simp; omega) ?_
    rw [hk] at hr1 ⊢
    repeat (first | with_reducible refine nilck_some ?_ | ((with_reducible refine atLd ?_); first | refine ld_b hs ?_ | refine ld_b (x := ⟨_, _, _⟩) hs ?_ | refine ld_r0 hs ?_ | refine ld_r1 hs ?_ | refine ld_r2 hs ?_ | refine ld_r3 hs ?_ | refine ld_r4 hs ?_ | refine ld_rd0 ha_ hs ?_ | refine ld_rd1 ha_ hs ?_ | refine ld_rd2 ha_ hs ?_ | refine ld_rd3 ha_ hs ?_ | refine ld_rd4 ha_ hs ?_ | fail) | ((with_reducible refine isSt ?_); first | refine st_b hs fun w hs => ?_ | refine st_rec5 hs fun w hs => ?_ | refine st_rec4 hs fun w hs => ?_ | refine st_rec3 hs fun w hs => ?_ | refine st_rec2 hs fun w hs => ?_ | refine st_r0 hs fun w hs => ?_ | refine st_r1 hs fun w hs => ?_ | fail) | ((with_reducible refine isIdx ?_); first | refine idx_s hs fun b_ o_ hs => ?_ | refine idx_a hs ?_ | refine idx_rd hs fun b_ o_ ha_ => ?_ | fail) | ((with_reducible refine isNew ?_); first | refine newB_at hs fun b_ w hs => ?_ | fail) | ((with_reducible refine isLdS ?_); first | refine ldS_b ?_ | refine ldS_b (x := ⟨_, _, _⟩) ?_ | refine ldS_r0 ?_ | refine ldS_r1 ?_ | refine ldS_r2 ?_ | refine ldS_r3 ?_ | refine ldS_rs0 hs ?_ | refine ldS_rs1 hs ?_ | refine ldS_rs2 hs ?_ | refine ldS_rs3 hs ?_ | refine ldS_rd0 ha_ ?_ | refine ldS_rd1 ha_ ?_ | refine ldS_rd2 ha_ ?_ | refine ldS_rd3 ha_ ?_ | fail) | ((with_reducible refine isKeep ?_); first | refine keep_of hs ?_ | refine keep_imp hs ?_ | fail) | ((with_reducible refine isWhen ?_); first | refine when_om ?_ | fail) | ((with_reducible refine isDraw ?_); first | refine drawW_sat hs fun w hs => ?_ | fail))
    refine ld_r0 (x := (row.getD i default).2) hs ?_ (hc := by rw [Int.toNat_natCast]; simp only [lkR, Lk.cells, List.getElem?_cons_zero]; rw [hv, hv2]; rfl)
    repeat (first | with_reducible refine nilck_some ?_ | ((with_reducible refine atLd ?_); first | refine ld_b hs ?_ | refine ld_b (x := ⟨_, _, _⟩) hs ?_ | refine ld_r0 hs ?_ | refine ld_r1 hs ?_ | refine ld_r2 hs ?_ | refine ld_r3 hs ?_ | refine ld_r4 hs ?_ | refine ld_rd0 ha_ hs ?_ | refine ld_rd1 ha_ hs ?_ | refine ld_rd2 ha_ hs ?_ | refine ld_rd3 ha_ hs ?_ | refine ld_rd4 ha_ hs ?_ | fail) | ((with_reducible refine isSt ?_); first | refine st_b hs fun w hs => ?_ | refine st_rec5 hs fun w hs => ?_ | refine st_rec4 hs fun w hs => ?_ | refine st_rec3 hs fun w hs => ?_ | refine st_rec2 hs fun w hs => ?_ | refine st_r0 hs fun w hs => ?_ | refine st_r1 hs fun w hs => ?_ | fail) | ((with_reducible refine isIdx ?_); first | refine idx_s hs fun b_ o_ hs => ?_ | refine idx_a hs ?_ | refine idx_rd hs fun b_ o_ ha_ => ?_ | fail) | ((with_reducible refine isNew ?_); first | refine newB_at hs fun b_ w hs => ?_ | fail) | ((with_reducible refine isLdS ?_); first | refine ldS_b ?_ | refine ldS_b (x := ⟨_, _, _⟩) ?_ | refine ldS_r0 ?_ | refine ldS_r1 ?_ | refine ldS_r2 ?_ | refine ldS_r3 ?_ | refine ldS_rs0 hs ?_ | refine ldS_rs1 hs ?_ | refine ldS_rs2 hs ?_ | refine ldS_rs3 hs ?_ | refine ldS_rd0 ha_ ?_ | refine ldS_rd1 ha_ ?_ | refine ldS_rd2 ha_ ?_ | refine ldS_rd3 ha_ ?_ | fail) | ((with_reducible refine isKeep ?_); first | refine keep_of hs ?_ | refine keep_imp hs ?_ | fail) | ((with_reducible refine isWhen ?_); first | refine when_om ?_ | fail) | ((with_reducible refine isDraw ?_); first | refine drawW_sat hs fun w hs => ?_ | fail))
    have hs := hs.shut s
    refine app_one (s := acc) (a := (row.getD i default).2) hs rfl rfl rfl rfl (by decide) (by simp; omega) fun s4 w hs4 hs => ?_
    have hs : Sat W w (lst (Value.int .i64) b row free :: recs (Rec.int .i64) s4 (List.map (·.2) (List.take i row) ++ [(row.getD i default).2]) :: M) := lst_shut s f hin rfl (by exact Sat.fin hs)
    have e : (row.take i).map (·.2) ++ [(row.getD i default).2] = (row.take (i + 1)).map (·.2) := by
      rw [take_snoc (by omega), List.map_append]; rfl
    rw [e] at hs
    refine call1_of (int_Next hs) fun e w ⟨he, hs⟩ => ⟨_, he, ?_⟩
    have e2 : rowNext row (k : Int) = rowPlace row (i + 1) := by unfold rowNext; rw [hr1]
    rw [e2]
    exact ih (i + 1) w s4 (by omega) (hs.perm (List.Perm.swap _ _ _))
theorem int_All (h : Sat W w L) [hA : At L b (lst (Value.int .i64) b row free) F] (hr : row.length + free.length < 1099511627776) : Calls Try.prog id_list_List_int_All #[.pointer (some ⟨b, 0, none⟩)] w fun e w' => ∃ m : Sl, e = .returned (.slice m.a m.n m.c) ∧ Sat W w' (recs (Rec.int .i64) m (row.map (·.2)) :: F (lst (Value.int .i64) b row free)) := by
  refine At.oneX (hA := hA) h fun M hs hb => ?_
  refine (list_List_int_All_calls (Q := fun v w' => ∃ m : Sl, v = .slice m.a m.n m.c ∧ Sat W w' (lst (Value.int .i64) b row free :: recs (Rec.int .i64) m (row.map (·.2)) :: M)) ?_).mono fun e w' ⟨v, he, m, hv, hs⟩ => ⟨m, by rw [he, hv], ?_⟩
  · rw [list_List_int_All_def, list_List_int_All_raw]
    refine call1_of (int_Front hs) fun e w ⟨he, hs⟩ => ⟨_, he, ?_⟩
    have hs := Sat.nilR (Rec.int .i64) hs
    have hl := int_All_loop (row := row) (free := free) (M := M) (b := b) (Q := fun v w' => ∃ m : Sl, v = .slice m.a m.n m.c ∧ Sat W w' (lst (Value.int .i64) b row free :: recs (Rec.int .i64) m (row.map (·.2)) :: M)) hr
      (fun w m hs => ⟨m, rfl, hs.perm (List.Perm.swap _ _ _)⟩) row.length 0 w ⟨none, 0, 0⟩ (by omega) hs
    exact ⟨_, hl⟩
  · exact hb _ _ [recs (Rec.int .i64) m (row.map (·.2))] hs
end
end Go.Proofs.Ytadljdjlemfdjaa
