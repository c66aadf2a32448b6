/- hoard/list at string: contracts over one chunk. -/
import Derived.Test.YtchlicgjdlkidaaDoorShal
import Derived.Test.YtchlicgjdlkidaaDoorListPure
import Derived.Test.YtchlicgjdlkidaaDoorSL5
import Derived.IntWalk
set_option linter.unusedVariables false
set_option linter.unusedSimpArgs false
set_option linter.unnecessarySimpa false
set_option linter.unusedSectionVars false
namespace Go.Proofs.YtchlicgjdlkidaaDoor
open Go.Hb Go.IntWalk
theorem string_c1 {P : Program} {f : FuncId} {args : Array Value} {w : World} {v0 : Value} {S : World → Prop} (h : Calls P f args w fun e w' => ∃ v, e = .returned v ∧ (v = v0 ∧ S w')) :
    Calls P f args w fun e w' => e = .returned v0 ∧ S w' := h.mono fun _ _ ⟨_, he, hv, hs⟩ => ⟨by rw [he, hv], hs⟩
section
variable {W w : World} {L M : List HP} {F : HP → List HP} {b : Nat} {row : List (Nat × ByteArray)} {free : List Nat}
theorem string_lays_in {s f : Sl} {n : Int} {ls : List Lk} {fr : List Nat} {h p x : Nat} (hh : h < ls.length) (hp : p < ls.length) (hx : x < ls.length) (hs : Sat W w (blk b [.slice s.a s.n s.c, .slice f.a f.n f.c, .int .i64 n] :: recs lkR s ls :: recs Rec.nat f fr :: M)) :
    Calls Tryd.prog id_list_List_string_lays #[.pointer (some ⟨b, 0, none⟩), .int .i64 (h : Int), .int .i64 (p : Int), .int .i64 (x : Int)] w fun e w' => e = .returned (.tuple #[]) ∧ Sat W w' (blk b [.slice s.a s.n s.c, .slice f.a f.n f.c, .int .i64 n] :: recs lkR s (layL ls h p x) :: recs Rec.nat f fr :: M) := by
  refine string_c1 (list_List_string_lays_calls ?_)
  rw [list_List_string_lays_def, list_List_string_lays_raw]
  have hn := (recs_len (s := s) hs).1
  repeat (first | with_reducible refine nilck_some ?_ | ((with_reducible refine atLd ?_); first | refine ld_b hs ?_ | refine ld_b (x := ⟨_, _, _⟩) hs ?_ | refine ld_r0 hs ?_ | refine ld_r1 hs ?_ | refine ld_r2 hs ?_ | refine ld_r3 hs ?_ | refine ld_r4 hs ?_ | refine ld_rd0 ha_ hs ?_ | refine ld_rd1 ha_ hs ?_ | refine ld_rd2 ha_ hs ?_ | refine ld_rd3 ha_ hs ?_ | refine ld_rd4 ha_ hs ?_ | refine ld_rd5 ha_ hs ?_ | fail) | ((with_reducible refine isSt ?_); first | refine st_b hs fun w hs => ?_ | refine st_rec5 hs fun w hs => ?_ | refine st_rec4 hs fun w hs => ?_ | refine st_rec3 hs fun w hs => ?_ | refine st_rec2 hs fun w hs => ?_ | refine st_r0 hs fun w hs => ?_ | refine st_r1 hs fun w hs => ?_ | fail) | ((with_reducible refine isIdx ?_); first | refine idx_s hs fun b_ o_ hs => ?_ | refine idx_a hs ?_ | refine idx_rd hs fun b_ o_ ha_ => ?_ | fail) | ((with_reducible refine isNew ?_); first | refine newB_at hs fun b_ w hs => ?_ | fail) | ((with_reducible refine isLdS ?_); first | refine ldS_b ?_ | refine ldS_b (x := ⟨_, _, _⟩) ?_ | refine ldS_r0 ?_ | refine ldS_r1 ?_ | refine ldS_r2 ?_ | refine ldS_r3 ?_ | refine ldS_rs0 hs ?_ | refine ldS_rs1 hs ?_ | refine ldS_rs2 hs ?_ | refine ldS_rs3 hs ?_ | refine ldS_rd0 ha_ ?_ | refine ldS_rd1 ha_ ?_ | refine ldS_rd2 ha_ ?_ | refine ldS_rd3 ha_ ?_ | refine ldS_rd4 ha_ ?_ | refine ldS_rd5 ha_ ?_ | fail) | ((with_reducible refine isKeep ?_); first | refine keep_of hs ?_ | refine keep_imp hs ?_ | fail) | ((with_reducible refine isWhen ?_); first | refine when_om ?_ | fail) | ((with_reducible refine isDraw ?_); first | refine drawW_sat hs fun w hs => ?_ | fail))
  try simp only [Int.toNat_natCast] at hs
  refine ⟨rfl, ?_⟩
  exact Sat.fin hs
theorem string_lifts_in {s f : Sl} {n : Int} {ls : List Lk} {fr : List Nat} {h : Nat} (hh : h < ls.length) (hp : pvOf ls h < ls.length) (hx : nxOf ls h < ls.length) (hs : Sat W w (blk b [.slice s.a s.n s.c, .slice f.a f.n f.c, .int .i64 n] :: recs lkR s ls :: recs Rec.nat f fr :: M)) :
    Calls Tryd.prog id_list_List_string_lifts #[.pointer (some ⟨b, 0, none⟩), .int .i64 (h : Int)] w fun e w' => e = .returned (.tuple #[]) ∧ Sat W w' (blk b [.slice s.a s.n s.c, .slice f.a f.n f.c, .int .i64 n] :: recs lkR s (liftL ls h) :: recs Rec.nat f fr :: M) := by
  refine string_c1 (list_List_string_lifts_calls ?_)
  rw [list_List_string_lifts_def, list_List_string_lifts_raw]
  have hn := (recs_len (s := s) hs).1
  have hp : (ls.getD (h : Int).toNat default).prev < ls.length := hp
  have hx : (ls.getD (h : Int).toNat default).next < ls.length := hx
  have hp1 : (ls.getD h default).prev < ls.length := hp
  have hx1 : (ls.getD h default).next < ls.length := hx
  repeat (first | with_reducible refine nilck_some ?_ | ((with_reducible refine atLd ?_); first | refine ld_b hs ?_ | refine ld_b (x := ⟨_, _, _⟩) hs ?_ | refine ld_r0 hs ?_ | refine ld_r1 hs ?_ | refine ld_r2 hs ?_ | refine ld_r3 hs ?_ | refine ld_r4 hs ?_ | refine ld_rd0 ha_ hs ?_ | refine ld_rd1 ha_ hs ?_ | refine ld_rd2 ha_ hs ?_ | refine ld_rd3 ha_ hs ?_ | refine ld_rd4 ha_ hs ?_ | refine ld_rd5 ha_ hs ?_ | fail) | ((with_reducible refine isSt ?_); first | refine st_b hs fun w hs => ?_ | refine st_rec5 hs fun w hs => ?_ | refine st_rec4 hs fun w hs => ?_ | refine st_rec3 hs fun w hs => ?_ | refine st_rec2 hs fun w hs => ?_ | refine st_r0 hs fun w hs => ?_ | refine st_r1 hs fun w hs => ?_ | fail) | ((with_reducible refine isIdx ?_); first | refine idx_s hs fun b_ o_ hs => ?_ | refine idx_a hs ?_ | refine idx_rd hs fun b_ o_ ha_ => ?_ | fail) | ((with_reducible refine isNew ?_); first | refine newB_at hs fun b_ w hs => ?_ | fail) | ((with_reducible refine isLdS ?_); first | refine ldS_b ?_ | refine ldS_b (x := ⟨_, _, _⟩) ?_ | refine ldS_r0 ?_ | refine ldS_r1 ?_ | refine ldS_r2 ?_ | refine ldS_r3 ?_ | refine ldS_rs0 hs ?_ | refine ldS_rs1 hs ?_ | refine ldS_rs2 hs ?_ | refine ldS_rs3 hs ?_ | refine ldS_rd0 ha_ ?_ | refine ldS_rd1 ha_ ?_ | refine ldS_rd2 ha_ ?_ | refine ldS_rd3 ha_ ?_ | refine ldS_rd4 ha_ ?_ | refine ldS_rd5 ha_ ?_ | fail) | ((with_reducible refine isKeep ?_); first | refine keep_of hs ?_ | refine keep_imp hs ?_ | fail) | ((with_reducible refine isWhen ?_); first | refine when_om ?_ | fail) | ((with_reducible refine isDraw ?_); first | refine drawW_sat hs fun w hs => ?_ | fail))
  try simp only [Int.toNat_natCast] at hs
  refine ⟨rfl, ?_⟩
  exact Sat.fin hs
theorem string_has (h : Sat W w L) [hA : At L b (lst .string b row free) F] {x : Int} : Calls Tryd.prog id_list_List_string_has #[.pointer (some ⟨b, 0, none⟩), .int .i64 x] w fun e w' => e = .returned (.bool (rAt row x).isSome) ∧ Sat W w' (F (lst .string b (row) (free))) := by
  refine At.call1 (hA := hA) h fun M hs => ?_
  clear h hA
  refine string_c1 (list_List_string_has_calls ?_)
  rw [list_List_string_has_def, list_List_string_has_raw]
  obtain ⟨s, f, ls, hi, ⟨hn, hf, hl⟩, hs⟩ := lst_open hs
  have hh := hi.has x
  rw [rAt_V] at hh
  rw [← hn] at hh
  rw [← hh]
  refine ite_true rfl ?_
  refine ite_cases (fun h1 => ?_) (fun h1 => ⟨by simp only [h1, Bool.false_and], lst_shut s f hi rfl hs⟩)
  repeat (first | with_reducible refine nilck_some ?_ | ((with_reducible refine atLd ?_); first | refine ld_b hs ?_ | refine ld_b (x := ⟨_, _, _⟩) hs ?_ | refine ld_r0 hs ?_ | refine ld_r1 hs ?_ | refine ld_r2 hs ?_ | refine ld_r3 hs ?_ | refine ld_r4 hs ?_ | refine ld_rd0 ha_ hs ?_ | refine ld_rd1 ha_ hs ?_ | refine ld_rd2 ha_ hs ?_ | refine ld_rd3 ha_ hs ?_ | refine ld_rd4 ha_ hs ?_ | refine ld_rd5 ha_ hs ?_ | fail) | ((with_reducible refine isSt ?_); first | refine st_b hs fun w hs => ?_ | refine st_rec5 hs fun w hs => ?_ | refine st_rec4 hs fun w hs => ?_ | refine st_rec3 hs fun w hs => ?_ | refine st_rec2 hs fun w hs => ?_ | refine st_r0 hs fun w hs => ?_ | refine st_r1 hs fun w hs => ?_ | fail) | ((with_reducible refine isIdx ?_); first | refine idx_s hs fun b_ o_ hs => ?_ | refine idx_a hs ?_ | refine idx_rd hs fun b_ o_ ha_ => ?_ | fail) | ((with_reducible refine isNew ?_); first | refine newB_at hs fun b_ w hs => ?_ | fail) | ((with_reducible refine isLdS ?_); first | refine ldS_b ?_ | refine ldS_b (x := ⟨_, _, _⟩) ?_ | refine ldS_r0 ?_ | refine ldS_r1 ?_ | refine ldS_r2 ?_ | refine ldS_r3 ?_ | refine ldS_rs0 hs ?_ | refine ldS_rs1 hs ?_ | refine ldS_rs2 hs ?_ | refine ldS_rs3 hs ?_ | refine ldS_rd0 ha_ ?_ | refine ldS_rd1 ha_ ?_ | refine ldS_rd2 ha_ ?_ | refine ldS_rd3 ha_ ?_ | refine ldS_rd4 ha_ ?_ | refine ldS_rd5 ha_ ?_ | fail) | ((with_reducible refine isKeep ?_); first | refine keep_of hs ?_ | refine keep_imp hs ?_ | fail) | ((with_reducible refine isWhen ?_); first | refine when_om ?_ | fail) | ((with_reducible refine isDraw ?_); first | refine drawW_sat hs fun w hs => ?_ | fail))
  refine ite_cases (fun h2 => ?_) (fun h2 => ⟨by simp only [h1, h2, Bool.false_and, Bool.and_false], lst_shut s f hi rfl hs⟩)
  have h1' := of_decide_eq_true h1
  have h2' := of_decide_eq_true h2
  repeat (first | with_reducible refine nilck_some ?_ | ((with_reducible refine atLd ?_); first | refine ld_b hs ?_ | refine ld_b (x := ⟨_, _, _⟩) hs ?_ | refine ld_r0 hs ?_ | refine ld_r1 hs ?_ | refine ld_r2 hs ?_ | refine ld_r3 hs ?_ | refine ld_r4 hs ?_ | refine ld_rd0 ha_ hs ?_ | refine ld_rd1 ha_ hs ?_ | refine ld_rd2 ha_ hs ?_ | refine ld_rd3 ha_ hs ?_ | refine ld_rd4 ha_ hs ?_ | refine ld_rd5 ha_ hs ?_ | fail) | ((with_reducible refine isSt ?_); first | refine st_b hs fun w hs => ?_ | refine st_rec5 hs fun w hs => ?_ | refine st_rec4 hs fun w hs => ?_ | refine st_rec3 hs fun w hs => ?_ | refine st_rec2 hs fun w hs => ?_ | refine st_r0 hs fun w hs => ?_ | refine st_r1 hs fun w hs => ?_ | fail) | ((with_reducible refine isIdx ?_); first | refine idx_s hs fun b_ o_ hs => ?_ | refine idx_a hs ?_ | refine idx_rd hs fun b_ o_ ha_ => ?_ | fail) | ((with_reducible refine isNew ?_); first | refine newB_at hs fun b_ w hs => ?_ | fail) | ((with_reducible refine isLdS ?_); first | refine ldS_b ?_ | refine ldS_b (x := ⟨_, _, _⟩) ?_ | refine ldS_r0 ?_ | refine ldS_r1 ?_ | refine ldS_r2 ?_ | refine ldS_r3 ?_ | refine ldS_rs0 hs ?_ | refine ldS_rs1 hs ?_ | refine ldS_rs2 hs ?_ | refine ldS_rs3 hs ?_ | refine ldS_rd0 ha_ ?_ | refine ldS_rd1 ha_ ?_ | refine ldS_rd2 ha_ ?_ | refine ldS_rd3 ha_ ?_ | refine ldS_rd4 ha_ ?_ | refine ldS_rd5 ha_ ?_ | fail) | ((with_reducible refine isKeep ?_); first | refine keep_of hs ?_ | refine keep_imp hs ?_ | fail) | ((with_reducible refine isWhen ?_); first | refine when_om ?_ | fail) | ((with_reducible refine isDraw ?_); first | refine drawW_sat hs fun w hs => ?_ | fail))
  refine ⟨by simp only [h1, h2, Bool.true_and], lst_shut s f hi rfl ?_⟩
  exact Sat.fin hs
theorem string_Get (h : Sat W w L) [hA : At L b (lst .string b row free) F] {x : Int} : Calls Tryd.prog id_list_List_string_Get #[.pointer (some ⟨b, 0, none⟩), .int .i64 x] w fun e w' => e = .returned (.tuple #[.string ((rowVal row x).getD str_empty), .bool (rAt row x).isSome]) ∧ Sat W w' (F (lst .string b (row) (free))) := by
  refine At.call1 (hA := hA) h fun M hs => ?_
  clear h hA
  refine string_c1 (list_List_string_Get_calls ?_)
  rw [list_List_string_Get_def, list_List_string_Get_raw]
  refine call1_of (string_has hs) fun e w ⟨he, hs⟩ => ⟨_, he, ?_⟩
  refine ite_cases (fun h1 => ?_) (fun h1 => ?_)
  · simp only [Bool.not_eq_true', Option.isSome_eq_false_iff, Option.isNone_iff_eq_none] at h1
    rw [rowVal, h1]
    exact ⟨rfl, hs⟩
  · simp only [Bool.not_eq_false', Option.isSome_iff_exists] at h1
    obtain ⟨i, h1⟩ := h1
    obtain ⟨s, f, ls, hi, ⟨hn, hf, hl⟩, hs⟩ := lst_open hs
    obtain ⟨k, v, rfl, hrv, hk, hkl, ht, hv, hr, _⟩ := hi.row_at (i := i) (by rw [rAt_V]; exact h1)
    have hv : (ls.getD k default).v = .string ((rowVal row k).getD str_empty) := by rw [hv]; exact rowV_val h1 hrv
    repeat (first | with_reducible refine nilck_some ?_ | ((with_reducible refine atLd ?_); first | refine ld_b hs ?_ | refine ld_b (x := ⟨_, _, _⟩) hs ?_ | refine ld_r0 hs ?_ | refine ld_r1 hs ?_ | refine ld_r2 hs ?_ | refine ld_r3 hs ?_ | refine ld_r4 hs ?_ | refine ld_rd0 ha_ hs ?_ | refine ld_rd1 ha_ hs ?_ | refine ld_rd2 ha_ hs ?_ | refine ld_rd3 ha_ hs ?_ | refine ld_rd4 ha_ hs ?_ | refine ld_rd5 ha_ hs ?_ | fail) | ((with_reducible refine isSt ?_); first | refine st_b hs fun w hs => ?_ | refine st_rec5 hs fun w hs => ?_ | refine st_rec4 hs fun w hs => ?_ | refine st_rec3 hs fun w hs => ?_ | refine st_rec2 hs fun w hs => ?_ | refine st_r0 hs fun w hs => ?_ | refine st_r1 hs fun w hs => ?_ | fail) | ((with_reducible refine isIdx ?_); first | refine idx_s hs fun b_ o_ hs => ?_ | refine idx_a hs ?_ | refine idx_rd hs fun b_ o_ ha_ => ?_ | fail) | ((with_reducible refine isNew ?_); first | refine newB_at hs fun b_ w hs => ?_ | fail) | ((with_reducible refine isLdS ?_); first | refine ldS_b ?_ | refine ldS_b (x := ⟨_, _, _⟩) ?_ | refine ldS_r0 ?_ | refine ldS_r1 ?_ | refine ldS_r2 ?_ | refine ldS_r3 ?_ | refine ldS_rs0 hs ?_ | refine ldS_rs1 hs ?_ | refine ldS_rs2 hs ?_ | refine ldS_rs3 hs ?_ | refine ldS_rd0 ha_ ?_ | refine ldS_rd1 ha_ ?_ | refine ldS_rd2 ha_ ?_ | refine ldS_rd3 ha_ ?_ | refine ldS_rd4 ha_ ?_ | refine ldS_rd5 ha_ ?_ | fail) | ((with_reducible refine isKeep ?_); first | refine keep_of hs ?_ | refine keep_imp hs ?_ | fail) | ((with_reducible refine isWhen ?_); first | refine when_om ?_ | fail) | ((with_reducible refine isDraw ?_); first | refine drawW_sat hs fun w hs => ?_ | fail))
    refine ld_r0 (x := (rowVal row k).getD str_empty) hs ?_ (hc := by rw [Int.toNat_natCast]; simp only [lkR, Lk.cells, List.getElem?_cons_zero]; rw [hv]; rfl)
    rw [h1]
    refine ⟨rfl, lst_shut s f hi rfl ?_⟩
    exact Sat.fin hs
theorem string_take_in {v : ByteArray} (hr : row.length + free.length < 1099511627776) (hs : Sat W w (lst .string b row free :: M)) :
    Calls Tryd.prog id_list_List_string_take #[.pointer (some ⟨b, 0, none⟩), .string v] w fun e w' => e = .returned (.int .i64 (hdl row free : Int)) ∧ ∃ (s f : Sl) (ls ls1 : List Lk), Inv ls free (rowV .string row) ∧ s.n = ls1.length ∧ Taken ls free (rowV .string row) (.string v) (hdl row free) ls1 free.dropLast ∧
      Sat W w' (blk b [.slice s.a s.n s.c, .slice f.a f.n f.c, .int .i64 ((row.length : Int) + 1)] :: recs lkR s ls1 :: recs Rec.nat f free.dropLast :: M) := by
  refine string_c1 (list_List_string_take_calls ?_)
  rw [list_List_string_take_def, list_List_string_take_raw]
  obtain ⟨s, f, ls, hi, ⟨hn, hf, hl⟩, hs⟩ := lst_open hs
  have ht := hi.take (.string v)
  have hh : takeH ls.length free = hdl row free := by unfold takeH hdl; rw [hl]
  rw [hh] at ht
  repeat (first | with_reducible refine nilck_some ?_ | ((with_reducible refine atLd ?_); first | refine ld_b hs ?_ | refine ld_b (x := ⟨_, _, _⟩) hs ?_ | refine ld_r0 hs ?_ | refine ld_r1 hs ?_ | refine ld_r2 hs ?_ | refine ld_r3 hs ?_ | refine ld_r4 hs ?_ | refine ld_rd0 ha_ hs ?_ | refine ld_rd1 ha_ hs ?_ | refine ld_rd2 ha_ hs ?_ | refine ld_rd3 ha_ hs ?_ | refine ld_rd4 ha_ hs ?_ | refine ld_rd5 ha_ hs ?_ | fail) | ((with_reducible refine isSt ?_); first | refine st_b hs fun w hs => ?_ | refine st_rec5 hs fun w hs => ?_ | refine st_rec4 hs fun w hs => ?_ | refine st_rec3 hs fun w hs => ?_ | refine st_rec2 hs fun w hs => ?_ | refine st_r0 hs fun w hs => ?_ | refine st_r1 hs fun w hs => ?_ | fail) | ((with_reducible refine isIdx ?_); first | refine idx_s hs fun b_ o_ hs => ?_ | refine idx_a hs ?_ | refine idx_rd hs fun b_ o_ ha_ => ?_ | fail) | ((with_reducible refine isNew ?_); first | refine newB_at hs fun b_ w hs => ?_ | fail) | ((with_reducible refine isLdS ?_); first | refine ldS_b ?_ | refine ldS_b (x := ⟨_, _, _⟩) ?_ | refine ldS_r0 ?_ | refine ldS_r1 ?_ | refine ldS_r2 ?_ | refine ldS_r3 ?_ | refine ldS_rs0 hs ?_ | refine ldS_rs1 hs ?_ | refine ldS_rs2 hs ?_ | refine ldS_rs3 hs ?_ | refine ldS_rd0 ha_ ?_ | refine ldS_rd1 ha_ ?_ | refine ldS_rd2 ha_ ?_ | refine ldS_rd3 ha_ ?_ | refine ldS_rd4 ha_ ?_ | refine ldS_rd5 ha_ ?_ | fail) | ((with_reducible refine isKeep ?_); first | refine keep_of hs ?_ | refine keep_imp hs ?_ | fail) | ((with_reducible refine isWhen ?_); first | refine when_om ?_ | fail) | ((with_reducible refine isDraw ?_); first | refine drawW_sat hs fun w hs => ?_ | fail))
  rw [hf]
  refine ite_cases (fun h1 => ?_) (fun h1 => ?_)
  · simp only [gt_iff_lt, decide_eq_true_eq] at h1
    have hne : free ≠ [] := by rintro rfl; simp at h1
    have hfc := (recs_len (s := f) hs).2
    have hwr : IntKind.wrap .i64 ((free.length : Int) - 1) = ((free.length - 1 : Nat) : Int) := by rw [i64_in _ (by omega)]; omega
    simp only [hwr, Int.toNat_natCast]
    repeat (first | with_reducible refine nilck_some ?_ | ((with_reducible refine atLd ?_); first | refine ld_b hs ?_ | refine ld_b (x := ⟨_, _, _⟩) hs ?_ | refine ld_r0 hs ?_ | refine ld_r1 hs ?_ | refine ld_r2 hs ?_ | refine ld_r3 hs ?_ | refine ld_r4 hs ?_ | refine ld_rd0 ha_ hs ?_ | refine ld_rd1 ha_ hs ?_ | refine ld_rd2 ha_ hs ?_ | refine ld_rd3 ha_ hs ?_ | refine ld_rd4 ha_ hs ?_ | refine ld_rd5 ha_ hs ?_ | fail) | ((with_reducible refine isSt ?_); first | refine st_b hs fun w hs => ?_ | refine st_rec5 hs fun w hs => ?_ | refine st_rec4 hs fun w hs => ?_ | refine st_rec3 hs fun w hs => ?_ | refine st_rec2 hs fun w hs => ?_ | refine st_r0 hs fun w hs => ?_ | refine st_r1 hs fun w hs => ?_ | fail) | ((with_reducible refine isIdx ?_); first | refine idx_s hs fun b_ o_ hs => ?_ | refine idx_a hs ?_ | refine idx_rd hs fun b_ o_ ha_ => ?_ | fail) | ((with_reducible refine isNew ?_); first | refine newB_at hs fun b_ w hs => ?_ | fail) | ((with_reducible refine isLdS ?_); first | refine ldS_b ?_ | refine ldS_b (x := ⟨_, _, _⟩) ?_ | refine ldS_r0 ?_ | refine ldS_r1 ?_ | refine ldS_r2 ?_ | refine ldS_r3 ?_ | refine ldS_rs0 hs ?_ | refine ldS_rs1 hs ?_ | refine ldS_rs2 hs ?_ | refine ldS_rs3 hs ?_ | refine ldS_rd0 ha_ ?_ | refine ldS_rd1 ha_ ?_ | refine ldS_rd2 ha_ ?_ | refine ldS_rd3 ha_ ?_ | refine ldS_rd4 ha_ ?_ | refine ldS_rd5 ha_ ?_ | fail) | ((with_reducible refine isKeep ?_); first | refine keep_of hs ?_ | refine keep_imp hs ?_ | fail) | ((with_reducible refine isWhen ?_); first | refine when_om ?_ | fail) | ((with_reducible refine isDraw ?_); first | refine drawW_sat hs fun w hs => ?_ | fail))
    have hs := cut_s (s := f) (lo := 0) (hi := free.length - 1) (c := f.c) (hs.shut f) rfl (by omega) (by omega) rfl (by decide)
    rw [list_List_string_take_j1_def, list_List_string_take_j1_raw]
    have hlast : free.getD (free.length - 1) default = hdl row free := by
      rw [hdl, List.getLastD_eq_getLast?, List.getLast?_eq_getElem?, List.getD_eq_getElem?_getD, List.getElem?_eq_getElem (by omega)]; rfl
    simp only [hlast] at hs ⊢
    rw [List.drop_zero, Nat.sub_zero, ← List.dropLast_eq_take] at hs
    have hlt := ht.lt
    have hlt2 : hdl row free < ls.length := by
      have := ht.lt; unfold takeL at this; rw [if_neg hne, List.length_set] at this; exact this
    repeat (first | with_reducible refine nilck_some ?_ | ((with_reducible refine atLd ?_); first | refine ld_b hs ?_ | refine ld_b (x := ⟨_, _, _⟩) hs ?_ | refine ld_r0 hs ?_ | refine ld_r1 hs ?_ | refine ld_r2 hs ?_ | refine ld_r3 hs ?_ | refine ld_r4 hs ?_ | refine ld_rd0 ha_ hs ?_ | refine ld_rd1 ha_ hs ?_ | refine ld_rd2 ha_ hs ?_ | refine ld_rd3 ha_ hs ?_ | refine ld_rd4 ha_ hs ?_ | refine ld_rd5 ha_ hs ?_ | fail) | ((with_reducible refine isSt ?_); first | refine st_b hs fun w hs => ?_ | refine st_rec5 hs fun w hs => ?_ | refine st_rec4 hs fun w hs => ?_ | refine st_rec3 hs fun w hs => ?_ | refine st_rec2 hs fun w hs => ?_ | refine st_r0 hs fun w hs => ?_ | refine st_r1 hs fun w hs => ?_ | fail) | ((with_reducible refine isIdx ?_); first | refine idx_s hs fun b_ o_ hs => ?_ | refine idx_a hs ?_ | refine idx_rd hs fun b_ o_ ha_ => ?_ | fail) | ((with_reducible refine isNew ?_); first | refine newB_at hs fun b_ w hs => ?_ | fail) | ((with_reducible refine isLdS ?_); first | refine ldS_b ?_ | refine ldS_b (x := ⟨_, _, _⟩) ?_ | refine ldS_r0 ?_ | refine ldS_r1 ?_ | refine ldS_r2 ?_ | refine ldS_r3 ?_ | refine ldS_rs0 hs ?_ | refine ldS_rs1 hs ?_ | refine ldS_rs2 hs ?_ | refine ldS_rs3 hs ?_ | refine ldS_rd0 ha_ ?_ | refine ldS_rd1 ha_ ?_ | refine ldS_rd2 ha_ ?_ | refine ldS_rd3 ha_ ?_ | refine ldS_rd4 ha_ ?_ | refine ldS_rd5 ha_ ?_ | fail) | ((with_reducible refine isKeep ?_); first | refine keep_of hs ?_ | refine keep_imp hs ?_ | fail) | ((with_reducible refine isWhen ?_); first | refine when_om ?_ | fail) | ((with_reducible refine isDraw ?_); first | refine drawW_sat hs fun w hs => ?_ | fail))
    rw [i64_in _ (by omega)] at hs
    simp only [Int.toNat_natCast] at hs
    refine ⟨by trivial, s, ⟨subA f.a 0 f.c 1, free.length - 1, f.c⟩, ls, takeL ls free (.string v), hi, ?_, ht, ?_⟩
    · rw [takeL, if_neg hne, List.length_set]; exact hn
    · have hset : ls.set (hdl row free) ⟨.string v, 0, 0, true⟩ = takeL ls free (.string v) := by
        unfold takeL hdl; rw [if_neg hne]
        congr 1
        rcases List.eq_nil_or_concat free with rfl | ⟨m, x, rfl⟩
        · exact absurd rfl hne
        · simp [List.getLastD_eq_getLast?]
      rw [hset] at hs
      exact Sat.fin hs
  · simp only [gt_iff_lt, decide_eq_false_iff_not] at h1
    have hfe : free = [] := List.length_eq_zero_iff.1 (by omega)
    subst hfe
    have hn' := hn
    repeat (first | with_reducible refine nilck_some ?_ | ((with_reducible refine atLd ?_); first | refine ld_b hs ?_ | refine ld_b (x := ⟨_, _, _⟩) hs ?_ | refine ld_r0 hs ?_ | refine ld_r1 hs ?_ | refine ld_r2 hs ?_ | refine ld_r3 hs ?_ | refine ld_r4 hs ?_ | refine ld_rd0 ha_ hs ?_ | refine ld_rd1 ha_ hs ?_ | refine ld_rd2 ha_ hs ?_ | refine ld_rd3 ha_ hs ?_ | refine ld_rd4 ha_ hs ?_ | refine ld_rd5 ha_ hs ?_ | fail) | ((with_reducible refine isSt ?_); first | refine st_b hs fun w hs => ?_ | refine st_rec5 hs fun w hs => ?_ | refine st_rec4 hs fun w hs => ?_ | refine st_rec3 hs fun w hs => ?_ | refine st_rec2 hs fun w hs => ?_ | refine st_r0 hs fun w hs => ?_ | refine st_r1 hs fun w hs => ?_ | fail) | ((with_reducible refine isIdx ?_); first | refine idx_s hs fun b_ o_ hs => ?_ | refine idx_a hs ?_ | refine idx_rd hs fun b_ o_ ha_ => ?_ | fail) | ((with_reducible refine isNew ?_); first | refine newB_at hs fun b_ w hs => ?_ | fail) | ((with_reducible refine isLdS ?_); first | refine ldS_b ?_ | refine ldS_b (x := ⟨_, _, _⟩) ?_ | refine ldS_r0 ?_ | refine ldS_r1 ?_ | refine ldS_r2 ?_ | refine ldS_r3 ?_ | refine ldS_rs0 hs ?_ | refine ldS_rs1 hs ?_ | refine ldS_rs2 hs ?_ | refine ldS_rs3 hs ?_ | refine ldS_rd0 ha_ ?_ | refine ldS_rd1 ha_ ?_ | refine ldS_rd2 ha_ ?_ | refine ldS_rd3 ha_ ?_ | refine ldS_rd4 ha_ ?_ | refine ldS_rd5 ha_ ?_ | fail) | ((with_reducible refine isKeep ?_); first | refine keep_of hs ?_ | refine keep_imp hs ?_ | fail) | ((with_reducible refine isWhen ?_); first | refine when_om ?_ | fail) | ((with_reducible refine isDraw ?_); first | refine drawW_sat hs fun w hs => ?_ | fail))
    refine app_one (s := s) (a := (⟨.string str_empty, 0, 0, false⟩ : Lk)) hs rfl rfl rfl rfl (by decide) (by rw [hl]; simp only [List.length_nil]; simp only [List.length_nil] at hr; omega) fun s2 w hs2 hs => ?_
    repeat (first | with_reducible refine nilck_some ?_ | ((with_reducible refine atLd ?_); first | refine ld_b hs ?_ | refine ld_b (x := ⟨_, _, _⟩) hs ?_ | refine ld_r0 hs ?_ | refine ld_r1 hs ?_ | refine ld_r2 hs ?_ | refine ld_r3 hs ?_ | refine ld_r4 hs ?_ | refine ld_rd0 ha_ hs ?_ | refine ld_rd1 ha_ hs ?_ | refine ld_rd2 ha_ hs ?_ | refine ld_rd3 ha_ hs ?_ | refine ld_rd4 ha_ hs ?_ | refine ld_rd5 ha_ hs ?_ | fail) | ((with_reducible refine isSt ?_); first | refine st_b hs fun w hs => ?_ | refine st_rec5 hs fun w hs => ?_ | refine st_rec4 hs fun w hs => ?_ | refine st_rec3 hs fun w hs => ?_ | refine st_rec2 hs fun w hs => ?_ | refine st_r0 hs fun w hs => ?_ | refine st_r1 hs fun w hs => ?_ | fail) | ((with_reducible refine isIdx ?_); first | refine idx_s hs fun b_ o_ hs => ?_ | refine idx_a hs ?_ | refine idx_rd hs fun b_ o_ ha_ => ?_ | fail) | ((with_reducible refine isNew ?_); first | refine newB_at hs fun b_ w hs => ?_ | fail) | ((with_reducible refine isLdS ?_); first | refine ldS_b ?_ | refine ldS_b (x := ⟨_, _, _⟩) ?_ | refine ldS_r0 ?_ | refine ldS_r1 ?_ | refine ldS_r2 ?_ | refine ldS_r3 ?_ | refine ldS_rs0 hs ?_ | refine ldS_rs1 hs ?_ | refine ldS_rs2 hs ?_ | refine ldS_rs3 hs ?_ | refine ldS_rd0 ha_ ?_ | refine ldS_rd1 ha_ ?_ | refine ldS_rd2 ha_ ?_ | refine ldS_rd3 ha_ ?_ | refine ldS_rd4 ha_ ?_ | refine ldS_rd5 ha_ ?_ | fail) | ((with_reducible refine isKeep ?_); first | refine keep_of hs ?_ | refine keep_imp hs ?_ | fail) | ((with_reducible refine isWhen ?_); first | refine when_om ?_ | fail) | ((with_reducible refine isDraw ?_); first | refine drawW_sat hs fun w hs => ?_ | fail))
    rw [list_List_string_take_j1_def, list_List_string_take_j1_raw, hn]
    repeat (first | with_reducible refine nilck_some ?_ | ((with_reducible refine atLd ?_); first | refine ld_b hs ?_ | refine ld_b (x := ⟨_, _, _⟩) hs ?_ | refine ld_r0 hs ?_ | refine ld_r1 hs ?_ | refine ld_r2 hs ?_ | refine ld_r3 hs ?_ | refine ld_r4 hs ?_ | refine ld_rd0 ha_ hs ?_ | refine ld_rd1 ha_ hs ?_ | refine ld_rd2 ha_ hs ?_ | refine ld_rd3 ha_ hs ?_ | refine ld_rd4 ha_ hs ?_ | refine ld_rd5 ha_ hs ?_ | fail) | ((with_reducible refine isSt ?_); first | refine st_b hs fun w hs => ?_ | refine st_rec5 hs fun w hs => ?_ | refine st_rec4 hs fun w hs => ?_ | refine st_rec3 hs fun w hs => ?_ | refine st_rec2 hs fun w hs => ?_ | refine st_r0 hs fun w hs => ?_ | refine st_r1 hs fun w hs => ?_ | fail) | ((with_reducible refine isIdx ?_); first | refine idx_s hs fun b_ o_ hs => ?_ | refine idx_a hs ?_ | refine idx_rd hs fun b_ o_ ha_ => ?_ | fail) | ((with_reducible refine isNew ?_); first | refine newB_at hs fun b_ w hs => ?_ | fail) | ((with_reducible refine isLdS ?_); first | refine ldS_b ?_ | refine ldS_b (x := ⟨_, _, _⟩) ?_ | refine ldS_r0 ?_ | refine ldS_r1 ?_ | refine ldS_r2 ?_ | refine ldS_r3 ?_ | refine ldS_rs0 hs ?_ | refine ldS_rs1 hs ?_ | refine ldS_rs2 hs ?_ | refine ldS_rs3 hs ?_ | refine ldS_rd0 ha_ ?_ | refine ldS_rd1 ha_ ?_ | refine ldS_rd2 ha_ ?_ | refine ldS_rd3 ha_ ?_ | refine ldS_rd4 ha_ ?_ | refine ldS_rd5 ha_ ?_ | fail) | ((with_reducible refine isKeep ?_); first | refine keep_of hs ?_ | refine keep_imp hs ?_ | fail) | ((with_reducible refine isWhen ?_); first | refine when_om ?_ | fail) | ((with_reducible refine isDraw ?_); first | refine drawW_sat hs fun w hs => ?_ | fail))
    rw [i64_in _ (by omega)] at hs
    simp only [Int.toNat_natCast] at hs
    have hh2 : (ls.length : Int) = (hdl row [] : Int) := by rw [← hh]; rfl
    refine ⟨by rw [hh2], s2, f, ls, takeL ls [] (.string v), hi, ?_, ht, ?_⟩
    · simp [takeL, hs2]
    · have hset : (ls ++ [(⟨.string str_empty, 0, 0, false⟩ : Lk)]).set ls.length ⟨.string v, 0, 0, true⟩ = takeL ls [] (.string v) := by
        simp [takeL]
      rw [hset] at hs
      exact Sat.fin hs
theorem string_PushBack (h : Sat W w L) [hA : At L b (lst .string b row free) F] {v : ByteArray} (hr : row.length + free.length < 1099511627776) : Calls Tryd.prog id_list_List_string_PushBack #[.pointer (some ⟨b, 0, none⟩), .string v] w fun e w' => e = .returned (.int .i64 (hdl row free : Int)) ∧ Sat W w' (F (lst .string b (row ++ [(hdl row free, v)]) (free.dropLast))) := by
  refine At.call1 (hA := hA) h fun M hs => ?_
  clear h hA
  refine string_c1 (list_List_string_PushBack_calls ?_)
  rw [list_List_string_PushBack_def, list_List_string_PushBack_raw]
  refine ite_false rfl ?_
  refine call1_of (string_take_in hr hs) fun e w ⟨he, s, f, ls, ls1, hi, hn, ht, hs⟩ => ⟨_, he, ?_⟩
  have hlen := ht.le
  have hpos := hi.pos
  have hl1 := ht.lt
  repeat (first | with_reducible refine nilck_some ?_ | ((with_reducible refine atLd ?_); first | refine ld_b hs ?_ | refine ld_b (x := ⟨_, _, _⟩) hs ?_ | refine ld_r0 hs ?_ | refine ld_r1 hs ?_ | refine ld_r2 hs ?_ | refine ld_r3 hs ?_ | refine ld_r4 hs ?_ | refine ld_rd0 ha_ hs ?_ | refine ld_rd1 ha_ hs ?_ | refine ld_rd2 ha_ hs ?_ | refine ld_rd3 ha_ hs ?_ | refine ld_rd4 ha_ hs ?_ | refine ld_rd5 ha_ hs ?_ | fail) | ((with_reducible refine isSt ?_); first | refine st_b hs fun w hs => ?_ | refine st_rec5 hs fun w hs => ?_ | refine st_rec4 hs fun w hs => ?_ | refine st_rec3 hs fun w hs => ?_ | refine st_rec2 hs fun w hs => ?_ | refine st_r0 hs fun w hs => ?_ | refine st_r1 hs fun w hs => ?_ | fail) | ((with_reducible refine isIdx ?_); first | refine idx_s hs fun b_ o_ hs => ?_ | refine idx_a hs ?_ | refine idx_rd hs fun b_ o_ ha_ => ?_ | fail) | ((with_reducible refine isNew ?_); first | refine newB_at hs fun b_ w hs => ?_ | fail) | ((with_reducible refine isLdS ?_); first | refine ldS_b ?_ | refine ldS_b (x := ⟨_, _, _⟩) ?_ | refine ldS_r0 ?_ | refine ldS_r1 ?_ | refine ldS_r2 ?_ | refine ldS_r3 ?_ | refine ldS_rs0 hs ?_ | refine ldS_rs1 hs ?_ | refine ldS_rs2 hs ?_ | refine ldS_rs3 hs ?_ | refine ldS_rd0 ha_ ?_ | refine ldS_rd1 ha_ ?_ | refine ldS_rd2 ha_ ?_ | refine ldS_rd3 ha_ ?_ | refine ldS_rd4 ha_ ?_ | refine ldS_rd5 ha_ ?_ | fail) | ((with_reducible refine isKeep ?_); first | refine keep_of hs ?_ | refine keep_imp hs ?_ | fail) | ((with_reducible refine isWhen ?_); first | refine when_om ?_ | fail) | ((with_reducible refine isDraw ?_); first | refine drawW_sat hs fun w hs => ?_ | fail))
  have e1 : (ls1.getD (0 : Int).toNat default).prev = ((rowV .string row).map (·.1)).getLastD 0 := by
    show pvOf ls1 0 = _
    rw [ht.pv, upd_other (by have := ht.pos; omega), stands_back hi.stands]
  rw [e1]
  have hx : ((rowV .string row).map (·.1)).getLastD 0 < ls.length := hi.bound mem_lastD
  refine call0_of (string_lays_in (x := 0) hl1 (by omega) (by omega) (hs.shut s)) fun e w ⟨he, hs⟩ => ⟨he, ?_⟩
  refine ⟨rfl, lst_shut s f ?_ (by simp) hs⟩
  have := Inv.lay (r1 := rowV .string row) (r2 := []) (by rw [List.append_nil]; exact hi) (by rw [List.append_nil]; exact ht)
  rw [show rowV .string (row ++ [(hdl row free, v)]) = rowV .string row ++ [(hdl row free, .string v)] by simp [rowV]]
  exact this
theorem string_Remove (h : Sat W w L) [hA : At L b (lst .string b row free) F] {x : Int} (hr : row.length + free.length < 1099511627776) : Calls Tryd.prog id_list_List_string_Remove #[.pointer (some ⟨b, 0, none⟩), .int .i64 x] w fun e w' => e = .returned (.tuple #[.string ((rowVal row x).getD str_empty), .bool (rAt row x).isSome]) ∧ Sat W w' (F (lst .string b (match rAt row x with | some i => row.eraseIdx i | none => row) (match rAt row x with | some i => free ++ [x.toNat] | none => free))) := by
  refine At.call1 (hA := hA) h fun M hs => ?_
  clear h hA
  refine string_c1 (list_List_string_Remove_calls ?_)
  rw [list_List_string_Remove_def, list_List_string_Remove_raw]
  refine call2_of (string_Get hs) fun e w ⟨he, hs⟩ => ⟨_, _, he, ?_⟩
  refine ite_cases (fun h1 => ?_) (fun h1 => ?_)
  · simp only [Option.isSome_iff_exists] at h1
    obtain ⟨i, h1⟩ := h1
    obtain ⟨s, f, ls, hi, ⟨hn, hf, hl⟩, hs⟩ := lst_open hs
    obtain ⟨k, v, rfl, hrv, hk, hkl, ht, hv, hr2, hnx, hpv⟩ := hi.row_at (i := i) (by rw [rAt_V]; exact h1)
    have hx := hi.next_lt hr2
    have hp := hi.prev_lt hr2
    refine call0_of (string_lifts_in hkl hp hx hs) fun e w ⟨he, hs⟩ => ⟨he, ?_⟩
    have hll := liftL_len ls k
    repeat (first | with_reducible refine nilck_some ?_ | ((with_reducible refine atLd ?_); first | refine ld_b hs ?_ | refine ld_b (x := ⟨_, _, _⟩) hs ?_ | refine ld_r0 hs ?_ | refine ld_r1 hs ?_ | refine ld_r2 hs ?_ | refine ld_r3 hs ?_ | refine ld_r4 hs ?_ | refine ld_rd0 ha_ hs ?_ | refine ld_rd1 ha_ hs ?_ | refine ld_rd2 ha_ hs ?_ | refine ld_rd3 ha_ hs ?_ | refine ld_rd4 ha_ hs ?_ | refine ld_rd5 ha_ hs ?_ | fail) | ((with_reducible refine isSt ?_); first | refine st_b hs fun w hs => ?_ | refine st_rec5 hs fun w hs => ?_ | refine st_rec4 hs fun w hs => ?_ | refine st_rec3 hs fun w hs => ?_ | refine st_rec2 hs fun w hs => ?_ | refine st_r0 hs fun w hs => ?_ | refine st_r1 hs fun w hs => ?_ | fail) | ((with_reducible refine isIdx ?_); first | refine idx_s hs fun b_ o_ hs => ?_ | refine idx_a hs ?_ | refine idx_rd hs fun b_ o_ ha_ => ?_ | fail) | ((with_reducible refine isNew ?_); first | refine newB_at hs fun b_ w hs => ?_ | fail) | ((with_reducible refine isLdS ?_); first | refine ldS_b ?_ | refine ldS_b (x := ⟨_, _, _⟩) ?_ | refine ldS_r0 ?_ | refine ldS_r1 ?_ | refine ldS_r2 ?_ | refine ldS_r3 ?_ | refine ldS_rs0 hs ?_ | refine ldS_rs1 hs ?_ | refine ldS_rs2 hs ?_ | refine ldS_rs3 hs ?_ | refine ldS_rd0 ha_ ?_ | refine ldS_rd1 ha_ ?_ | refine ldS_rd2 ha_ ?_ | refine ldS_rd3 ha_ ?_ | refine ldS_rd4 ha_ ?_ | refine ldS_rd5 ha_ ?_ | fail) | ((with_reducible refine isKeep ?_); first | refine keep_of hs ?_ | refine keep_imp hs ?_ | fail) | ((with_reducible refine isWhen ?_); first | refine when_om ?_ | fail) | ((with_reducible refine isDraw ?_); first | refine drawW_sat hs fun w hs => ?_ | fail))
    refine app_one (s := f) (a := k) hs rfl rfl rfl rfl (by decide) (by omega) fun f2 w hf2 hs => ?_
    repeat (first | with_reducible refine nilck_some ?_ | ((with_reducible refine atLd ?_); first | refine ld_b hs ?_ | refine ld_b (x := ⟨_, _, _⟩) hs ?_ | refine ld_r0 hs ?_ | refine ld_r1 hs ?_ | refine ld_r2 hs ?_ | refine ld_r3 hs ?_ | refine ld_r4 hs ?_ | refine ld_rd0 ha_ hs ?_ | refine ld_rd1 ha_ hs ?_ | refine ld_rd2 ha_ hs ?_ | refine ld_rd3 ha_ hs ?_ | refine ld_rd4 ha_ hs ?_ | refine ld_rd5 ha_ hs ?_ | fail) | ((with_reducible refine isSt ?_); first | refine st_b hs fun w hs => ?_ | refine st_rec5 hs fun w hs => ?_ | refine st_rec4 hs fun w hs => ?_ | refine st_rec3 hs fun w hs => ?_ | refine st_rec2 hs fun w hs => ?_ | refine st_r0 hs fun w hs => ?_ | refine st_r1 hs fun w hs => ?_ | fail) | ((with_reducible refine isIdx ?_); first | refine idx_s hs fun b_ o_ hs => ?_ | refine idx_a hs ?_ | refine idx_rd hs fun b_ o_ ha_ => ?_ | fail) | ((with_reducible refine isNew ?_); first | refine newB_at hs fun b_ w hs => ?_ | fail) | ((with_reducible refine isLdS ?_); first | refine ldS_b ?_ | refine ldS_b (x := ⟨_, _, _⟩) ?_ | refine ldS_r0 ?_ | refine ldS_r1 ?_ | refine ldS_r2 ?_ | refine ldS_r3 ?_ | refine ldS_rs0 hs ?_ | refine ldS_rs1 hs ?_ | refine ldS_rs2 hs ?_ | refine ldS_rs3 hs ?_ | refine ldS_rd0 ha_ ?_ | refine ldS_rd1 ha_ ?_ | refine ldS_rd2 ha_ ?_ | refine ldS_rd3 ha_ ?_ | refine ldS_rd4 ha_ ?_ | refine ldS_rd5 ha_ ?_ | fail) | ((with_reducible refine isKeep ?_); first | refine keep_of hs ?_ | refine keep_imp hs ?_ | fail) | ((with_reducible refine isWhen ?_); first | refine when_om ?_ | fail) | ((with_reducible refine isDraw ?_); first | refine drawW_sat hs fun w hs => ?_ | fail))
    rw [i64_in _ (by omega)] at hs
    simp only [Int.toNat_natCast] at hs
    rw [h1]
    have hlt : i < row.length := by
      obtain ⟨_, _, _, _, hlt⟩ := rAt_some h1; exact hlt
    refine ⟨rfl, lst_shut s f2 (n := (row.length : Int) - 1) (ls := (liftL ls k).set k ⟨.string str_empty, 0, 0, false⟩) ?_ (by rw [List.length_eraseIdx, if_pos hlt]; omega) (by exact Sat.fin hs)⟩
    rw [rowV_erase]
    exact hi.remove hr2 hk hkl hp hx
  · simp only [Option.isSome_eq_false_iff, Option.isNone_iff_eq_none] at h1
    rw [h1]
    exact ⟨rfl, hs⟩
theorem string_Front (h : Sat W w L) [hA : At L b (lst .string b row free) F] : Calls Tryd.prog id_list_List_string_Front #[.pointer (some ⟨b, 0, none⟩)] w fun e w' => e = .returned (.int .i64 ((rowPlace row 0 : Nat) : Int)) ∧ Sat W w' (F (lst .string b (row) (free))) := by
  refine At.call1 (hA := hA) h fun M hs => ?_
  clear h hA
  refine string_c1 (list_List_string_Front_calls ?_)
  rw [list_List_string_Front_def, list_List_string_Front_raw]
  refine ite_false rfl ?_
  obtain ⟨s, f, ls, hi, ⟨hn, hf, hl⟩, hs⟩ := lst_open hs
  have hpos := hi.pos
  repeat (first | with_reducible refine nilck_some ?_ | ((with_reducible refine atLd ?_); first | refine ld_b hs ?_ | refine ld_b (x := ⟨_, _, _⟩) hs ?_ | refine ld_r0 hs ?_ | refine ld_r1 hs ?_ | refine ld_r2 hs ?_ | refine ld_r3 hs ?_ | refine ld_r4 hs ?_ | refine ld_rd0 ha_ hs ?_ | refine ld_rd1 ha_ hs ?_ | refine ld_rd2 ha_ hs ?_ | refine ld_rd3 ha_ hs ?_ | refine ld_rd4 ha_ hs ?_ | refine ld_rd5 ha_ hs ?_ | fail) | ((with_reducible refine isSt ?_); first | refine st_b hs fun w hs => ?_ | refine st_rec5 hs fun w hs => ?_ | refine st_rec4 hs fun w hs => ?_ | refine st_rec3 hs fun w hs => ?_ | refine st_rec2 hs fun w hs => ?_ | refine st_r0 hs fun w hs => ?_ | refine st_r1 hs fun w hs => ?_ | fail) | ((with_reducible refine isIdx ?_); first | refine idx_s hs fun b_ o_ hs => ?_ | refine idx_a hs ?_ | refine idx_rd hs fun b_ o_ ha_ => ?_ | fail) | ((with_reducible refine isNew ?_); first | refine newB_at hs fun b_ w hs => ?_ | fail) | ((with_reducible refine isLdS ?_); first | refine ldS_b ?_ | refine ldS_b (x := ⟨_, _, _⟩) ?_ | refine ldS_r0 ?_ | refine ldS_r1 ?_ | refine ldS_r2 ?_ | refine ldS_r3 ?_ | refine ldS_rs0 hs ?_ | refine ldS_rs1 hs ?_ | refine ldS_rs2 hs ?_ | refine ldS_rs3 hs ?_ | refine ldS_rd0 ha_ ?_ | refine ldS_rd1 ha_ ?_ | refine ldS_rd2 ha_ ?_ | refine ldS_rd3 ha_ ?_ | refine ldS_rd4 ha_ ?_ | refine ldS_rd5 ha_ ?_ | fail) | ((with_reducible refine isKeep ?_); first | refine keep_of hs ?_ | refine keep_imp hs ?_ | fail) | ((with_reducible refine isWhen ?_); first | refine when_om ?_ | fail) | ((with_reducible refine isDraw ?_); first | refine drawW_sat hs fun w hs => ?_ | fail))
  refine ⟨?_, lst_shut s f hi rfl (by exact Sat.fin hs)⟩
  congr 2
  have := hi.front
  rw [rowV_place] at this
  exact this
theorem string_Next (h : Sat W w L) [hA : At L b (lst .string b row free) F] {x : Int} : Calls Tryd.prog id_list_List_string_Next #[.pointer (some ⟨b, 0, none⟩), .int .i64 x] w fun e w' => e = .returned (.int .i64 (rowNext row x : Int)) ∧ Sat W w' (F (lst .string b (row) (free))) := by
  refine At.call1 (hA := hA) h fun M hs => ?_
  clear h hA
  refine string_c1 (list_List_string_Next_calls ?_)
  rw [list_List_string_Next_def, list_List_string_Next_raw]
  refine call1_of (string_has hs) fun e w ⟨he, hs⟩ => ⟨_, he, ?_⟩
  refine ite_cases (fun h1 => ?_) (fun h1 => ?_)
  · simp only [Bool.not_eq_true', Option.isSome_eq_false_iff, Option.isNone_iff_eq_none] at h1
    refine ⟨by simp only [rowNext, h1]; rfl, hs⟩
  · simp only [Bool.not_eq_false', Option.isSome_iff_exists] at h1
    obtain ⟨i, h1⟩ := h1
    obtain ⟨s, f, ls, hi, ⟨hn, hf, hl⟩, hs⟩ := lst_open hs
    obtain ⟨k, v0, rfl, hrv, hk, hkl, ht, hv, hr2, hnx, hpv⟩ := hi.row_at (i := i) (by rw [rAt_V]; exact h1)
    repeat (first | with_reducible refine nilck_some ?_ | ((with_reducible refine atLd ?_); first | refine ld_b hs ?_ | refine ld_b (x := ⟨_, _, _⟩) hs ?_ | refine ld_r0 hs ?_ | refine ld_r1 hs ?_ | refine ld_r2 hs ?_ | refine ld_r3 hs ?_ | refine ld_r4 hs ?_ | refine ld_rd0 ha_ hs ?_ | refine ld_rd1 ha_ hs ?_ | refine ld_rd2 ha_ hs ?_ | refine ld_rd3 ha_ hs ?_ | refine ld_rd4 ha_ hs ?_ | refine ld_rd5 ha_ hs ?_ | fail) | ((with_reducible refine isSt ?_); first | refine st_b hs fun w hs => ?_ | refine st_rec5 hs fun w hs => ?_ | refine st_rec4 hs fun w hs => ?_ | refine st_rec3 hs fun w hs => ?_ | refine st_rec2 hs fun w hs => ?_ | refine st_r0 hs fun w hs => ?_ | refine st_r1 hs fun w hs => ?_ | fail) | ((with_reducible refine isIdx ?_); first | refine idx_s hs fun b_ o_ hs => ?_ | refine idx_a hs ?_ | refine idx_rd hs fun b_ o_ ha_ => ?_ | fail) | ((with_reducible refine isNew ?_); first | refine newB_at hs fun b_ w hs => ?_ | fail) | ((with_reducible refine isLdS ?_); first | refine ldS_b ?_ | refine ldS_b (x := ⟨_, _, _⟩) ?_ | refine ldS_r0 ?_ | refine ldS_r1 ?_ | refine ldS_r2 ?_ | refine ldS_r3 ?_ | refine ldS_rs0 hs ?_ | refine ldS_rs1 hs ?_ | refine ldS_rs2 hs ?_ | refine ldS_rs3 hs ?_ | refine ldS_rd0 ha_ ?_ | refine ldS_rd1 ha_ ?_ | refine ldS_rd2 ha_ ?_ | refine ldS_rd3 ha_ ?_ | refine ldS_rd4 ha_ ?_ | refine ldS_rd5 ha_ ?_ | fail) | ((with_reducible refine isKeep ?_); first | refine keep_of hs ?_ | refine keep_imp hs ?_ | fail) | ((with_reducible refine isWhen ?_); first | refine when_om ?_ | fail) | ((with_reducible refine isDraw ?_); first | refine drawW_sat hs fun w hs => ?_ | fail))
    refine ⟨?_, lst_shut s f hi rfl (by exact Sat.fin hs)⟩
    rw [Int.toNat_natCast]
    congr 2
    rw [rowV_place] at hnx
    simp only [rowNext, h1]
    exact hnx
theorem string_Len (h : Sat W w L) [hA : At L b (lst .string b row free) F] : Calls Tryd.prog id_list_List_string_Len #[.pointer (some ⟨b, 0, none⟩)] w fun e w' => e = .returned (.int .i64 (row.length : Int)) ∧ Sat W w' (F (lst .string b (row) (free))) := by
  refine At.call1 (hA := hA) h fun M hs => ?_
  clear h hA
  refine string_c1 (list_List_string_Len_calls ?_)
  rw [list_List_string_Len_def, list_List_string_Len_raw]
  refine ite_false rfl ?_
  obtain ⟨s, f, ls, hi, ⟨hn, hf, hl⟩, hs⟩ := lst_open hs
  repeat (first | with_reducible refine nilck_some ?_ | ((with_reducible refine atLd ?_); first | refine ld_b hs ?_ | refine ld_b (x := ⟨_, _, _⟩) hs ?_ | refine ld_r0 hs ?_ | refine ld_r1 hs ?_ | refine ld_r2 hs ?_ | refine ld_r3 hs ?_ | refine ld_r4 hs ?_ | refine ld_rd0 ha_ hs ?_ | refine ld_rd1 ha_ hs ?_ | refine ld_rd2 ha_ hs ?_ | refine ld_rd3 ha_ hs ?_ | refine ld_rd4 ha_ hs ?_ | refine ld_rd5 ha_ hs ?_ | fail) | ((with_reducible refine isSt ?_); first | refine st_b hs fun w hs => ?_ | refine st_rec5 hs fun w hs => ?_ | refine st_rec4 hs fun w hs => ?_ | refine st_rec3 hs fun w hs => ?_ | refine st_rec2 hs fun w hs => ?_ | refine st_r0 hs fun w hs => ?_ | refine st_r1 hs fun w hs => ?_ | fail) | ((with_reducible refine isIdx ?_); first | refine idx_s hs fun b_ o_ hs => ?_ | refine idx_a hs ?_ | refine idx_rd hs fun b_ o_ ha_ => ?_ | fail) | ((with_reducible refine isNew ?_); first | refine newB_at hs fun b_ w hs => ?_ | fail) | ((with_reducible refine isLdS ?_); first | refine ldS_b ?_ | refine ldS_b (x := ⟨_, _, _⟩) ?_ | refine ldS_r0 ?_ | refine ldS_r1 ?_ | refine ldS_r2 ?_ | refine ldS_r3 ?_ | refine ldS_rs0 hs ?_ | refine ldS_rs1 hs ?_ | refine ldS_rs2 hs ?_ | refine ldS_rs3 hs ?_ | refine ldS_rd0 ha_ ?_ | refine ldS_rd1 ha_ ?_ | refine ldS_rd2 ha_ ?_ | refine ldS_rd3 ha_ ?_ | refine ldS_rd4 ha_ ?_ | refine ldS_rd5 ha_ ?_ | fail) | ((with_reducible refine isKeep ?_); first | refine keep_of hs ?_ | refine keep_imp hs ?_ | fail) | ((with_reducible refine isWhen ?_); first | refine when_om ?_ | fail) | ((with_reducible refine isDraw ?_); first | refine drawW_sat hs fun w hs => ?_ | fail))
  exact ⟨rfl, lst_shut s f hi rfl hs⟩
theorem string_New (hs : Sat W w L) : Calls Tryd.prog id_list_New_string #[] w fun e w' => ∃ b, e = .returned (.pointer (some ⟨b, 0, none⟩)) ∧ Sat W w' (lst .string b [] [] :: L) := by
  refine (list_New_string_calls (Q := fun v w' => ∃ b, v = .pointer (some ⟨b, 0, none⟩) ∧ Sat W w' (lst .string b [] [] :: L)) ?_).mono fun e w' ⟨v, he, b, hv, hs⟩ => ⟨b, by rw [he, hv], hs⟩
  rw [list_New_string_def, list_New_string_raw]
  refine make_at (sz := 4) hs rfl (by omega) (by omega) (by omega) (by omega) fun s w hn _ _ hs => ?_
  have hs : Sat W w (recs lkR s [⟨.string str_empty, 0, 0, false⟩] :: L) := hs
  have hs := Sat.nilR Rec.nat hs
  repeat (first | with_reducible refine nilck_some ?_ | ((with_reducible refine atLd ?_); first | refine ld_b hs ?_ | refine ld_b (x := ⟨_, _, _⟩) hs ?_ | refine ld_r0 hs ?_ | refine ld_r1 hs ?_ | refine ld_r2 hs ?_ | refine ld_r3 hs ?_ | refine ld_r4 hs ?_ | refine ld_rd0 ha_ hs ?_ | refine ld_rd1 ha_ hs ?_ | refine ld_rd2 ha_ hs ?_ | refine ld_rd3 ha_ hs ?_ | refine ld_rd4 ha_ hs ?_ | refine ld_rd5 ha_ hs ?_ | fail) | ((with_reducible refine isSt ?_); first | refine st_b hs fun w hs => ?_ | refine st_rec5 hs fun w hs => ?_ | refine st_rec4 hs fun w hs => ?_ | refine st_rec3 hs fun w hs => ?_ | refine st_rec2 hs fun w hs => ?_ | refine st_r0 hs fun w hs => ?_ | refine st_r1 hs fun w hs => ?_ | fail) | ((with_reducible refine isIdx ?_); first | refine idx_s hs fun b_ o_ hs => ?_ | refine idx_a hs ?_ | refine idx_rd hs fun b_ o_ ha_ => ?_ | fail) | ((with_reducible refine isNew ?_); first | refine newB_at hs fun b_ w hs => ?_ | fail) | ((with_reducible refine isLdS ?_); first | refine ldS_b ?_ | refine ldS_b (x := ⟨_, _, _⟩) ?_ | refine ldS_r0 ?_ | refine ldS_r1 ?_ | refine ldS_r2 ?_ | refine ldS_r3 ?_ | refine ldS_rs0 hs ?_ | refine ldS_rs1 hs ?_ | refine ldS_rs2 hs ?_ | refine ldS_rs3 hs ?_ | refine ldS_rd0 ha_ ?_ | refine ldS_rd1 ha_ ?_ | refine ldS_rd2 ha_ ?_ | refine ldS_rd3 ha_ ?_ | refine ldS_rd4 ha_ ?_ | refine ldS_rd5 ha_ ?_ | fail) | ((with_reducible refine isKeep ?_); first | refine keep_of hs ?_ | refine keep_imp hs ?_ | fail) | ((with_reducible refine isWhen ?_); first | refine when_om ?_ | fail) | ((with_reducible refine isDraw ?_); first | refine drawW_sat hs fun w hs => ?_ | fail))
  refine ⟨_, rfl, lst_shut s ⟨none, 0, 0⟩ (ls := [⟨.string str_empty, 0, 0, false⟩]) (n := 0) ?_ rfl (by exact Sat.fin hs)⟩
  exact inv_new _
theorem string_All_loop {Q : Value → WP} (hr : row.length + free.length < 1099511627776)
    (hQ : ∀ w (m : Sl), Sat W w (recs (Rec.str) m (row.map (·.2)) :: lst .string b row free :: M) → Q (.slice m.a m.n m.c) w) :
    ∀ (m i : Nat) (w : World) (acc : Sl), i + m = row.length → Sat W w (recs (Rec.str) acc ((row.take i).map (·.2)) :: lst .string b row free :: M) →
    list_List_string_All_l1 idJ Q (m + 1) (some ⟨b, 0, none⟩) acc (rowPlace row i : Int) w := by
  intro m
  induction m with
  | zero =>
    intro i w acc hi hs
    rw [list_List_string_All_l1_raw]
    have e : rowPlace row i = 0 := by unfold rowPlace; rw [List.getD_eq_getElem?_getD, List.getElem?_eq_none (by simp; omega)]; rfl
    rw [e]
    refine ite_false rfl ?_
    rw [list_List_string_All_j2_def, list_List_string_All_j2_raw]
    rw [List.take_of_length_le (by omega)] at hs
    exact hQ w acc hs
  | succ m ih =>
    intro i w acc hi hs
    rw [list_List_string_All_l1_raw]
    have hs := (hs.perm (List.Perm.swap _ _ _))
    obtain ⟨s, f, ls, hin, ⟨hn, hf, hl⟩, hs⟩ := lst_open hs
    have hlt : i < row.length := by omega
    have hr1 : rAt row (rowPlace row i : Int) = some i := by
      have := rAt_of (row := rowV .string row) (List.nodup_append.1 hin.nodup).1 (i := i) (e := (row[i].1, .string row[i].2)) (by simp [rowV, hlt])
      rw [rAt_V] at this
      rw [show rowPlace row i = row[i].1 by unfold rowPlace; rw [List.getD_eq_getElem?_getD, List.getElem?_map, List.getElem?_eq_getElem hlt]; rfl]
      exact this
    obtain ⟨k, v, hk, hrv, hk0, hkl, ht, hv, hr2, _⟩ := hin.row_at (i := i) (by rw [rAt_V]; exact hr1)
    have hk : rowPlace row i = k := by omega
    have hv2 : v = .string (row.getD i default).2 := by
      simp only [rowV, List.getElem?_map, List.getElem?_eq_getElem hlt, Option.map_some, Option.some.injEq, Prod.mk.injEq] at hrv
      rw [← hrv.2, List.getD_eq_getElem?_getD, List.getElem?_eq_getElem hlt]; rfl
    refine ite_true (by rw [hk]; simp; omega) ?_
    rw [hk] at hr1 ⊢
    repeat (first | with_reducible refine nilck_some ?_ | ((with_reducible refine atLd ?_); first | refine ld_b hs ?_ | refine ld_b (x := ⟨_, _, _⟩) hs ?_ | refine ld_r0 hs ?_ | refine ld_r1 hs ?_ | refine ld_r2 hs ?_ | refine ld_r3 hs ?_ | refine ld_r4 hs ?_ | refine ld_rd0 ha_ hs ?_ | refine ld_rd1 ha_ hs ?_ | refine ld_rd2 ha_ hs ?_ | refine ld_rd3 ha_ hs ?_ | refine ld_rd4 ha_ hs ?_ | refine ld_rd5 ha_ hs ?_ | fail) | ((with_reducible refine isSt ?_); first | refine st_b hs fun w hs => ?_ | refine st_rec5 hs fun w hs => ?_ | refine st_rec4 hs fun w hs => ?_ | refine st_rec3 hs fun w hs => ?_ | refine st_rec2 hs fun w hs => ?_ | refine st_r0 hs fun w hs => ?_ | refine st_r1 hs fun w hs => ?_ | fail) | ((with_reducible refine isIdx ?_); first | refine idx_s hs fun b_ o_ hs => ?_ | refine idx_a hs ?_ | refine idx_rd hs fun b_ o_ ha_ => ?_ | fail) | ((with_reducible refine isNew ?_); first | refine newB_at hs fun b_ w hs => ?_ | fail) | ((with_reducible refine isLdS ?_); first | refine ldS_b ?_ | refine ldS_b (x := ⟨_, _, _⟩) ?_ | refine ldS_r0 ?_ | refine ldS_r1 ?_ | refine ldS_r2 ?_ | refine ldS_r3 ?_ | refine ldS_rs0 hs ?_ | refine ldS_rs1 hs ?_ | refine ldS_rs2 hs ?_ | refine ldS_rs3 hs ?_ | refine ldS_rd0 ha_ ?_ | refine ldS_rd1 ha_ ?_ | refine ldS_rd2 ha_ ?_ | refine ldS_rd3 ha_ ?_ | refine ldS_rd4 ha_ ?_ | refine ldS_rd5 ha_ ?_ | fail) | ((with_reducible refine isKeep ?_); first | refine keep_of hs ?_ | refine keep_imp hs ?_ | fail) | ((with_reducible refine isWhen ?_); first | refine when_om ?_ | fail) | ((with_reducible refine isDraw ?_); first | refine drawW_sat hs fun w hs => ?_ | fail))
    refine ld_r0 (x := (row.getD i default).2) hs ?_ (hc := by rw [Int.toNat_natCast]; simp only [lkR, Lk.cells, List.getElem?_cons_zero]; rw [hv, hv2]; rfl)
    repeat (first | with_reducible refine nilck_some ?_ | ((with_reducible refine atLd ?_); first | refine ld_b hs ?_ | refine ld_b (x := ⟨_, _, _⟩) hs ?_ | refine ld_r0 hs ?_ | refine ld_r1 hs ?_ | refine ld_r2 hs ?_ | refine ld_r3 hs ?_ | refine ld_r4 hs ?_ | refine ld_rd0 ha_ hs ?_ | refine ld_rd1 ha_ hs ?_ | refine ld_rd2 ha_ hs ?_ | refine ld_rd3 ha_ hs ?_ | refine ld_rd4 ha_ hs ?_ | refine ld_rd5 ha_ hs ?_ | fail) | ((with_reducible refine isSt ?_); first | refine st_b hs fun w hs => ?_ | refine st_rec5 hs fun w hs => ?_ | refine st_rec4 hs fun w hs => ?_ | refine st_rec3 hs fun w hs => ?_ | refine st_rec2 hs fun w hs => ?_ | refine st_r0 hs fun w hs => ?_ | refine st_r1 hs fun w hs => ?_ | fail) | ((with_reducible refine isIdx ?_); first | refine idx_s hs fun b_ o_ hs => ?_ | refine idx_a hs ?_ | refine idx_rd hs fun b_ o_ ha_ => ?_ | fail) | ((with_reducible refine isNew ?_); first | refine newB_at hs fun b_ w hs => ?_ | fail) | ((with_reducible refine isLdS ?_); first | refine ldS_b ?_ | refine ldS_b (x := ⟨_, _, _⟩) ?_ | refine ldS_r0 ?_ | refine ldS_r1 ?_ | refine ldS_r2 ?_ | refine ldS_r3 ?_ | refine ldS_rs0 hs ?_ | refine ldS_rs1 hs ?_ | refine ldS_rs2 hs ?_ | refine ldS_rs3 hs ?_ | refine ldS_rd0 ha_ ?_ | refine ldS_rd1 ha_ ?_ | refine ldS_rd2 ha_ ?_ | refine ldS_rd3 ha_ ?_ | refine ldS_rd4 ha_ ?_ | refine ldS_rd5 ha_ ?_ | fail) | ((with_reducible refine isKeep ?_); first | refine keep_of hs ?_ | refine keep_imp hs ?_ | fail) | ((with_reducible refine isWhen ?_); first | refine when_om ?_ | fail) | ((with_reducible refine isDraw ?_); first | refine drawW_sat hs fun w hs => ?_ | fail))
    have hs := hs.shut s
    refine app_one (s := acc) (a := (row.getD i default).2) hs rfl rfl rfl rfl (by decide) (by simp; omega) fun s4 w hs4 hs => ?_
    have hs : Sat W w (lst .string b row free :: recs (Rec.str) s4 (List.map (·.2) (List.take i row) ++ [(row.getD i default).2]) :: M) := lst_shut s f hin rfl (by exact Sat.fin hs)
    have e : (row.take i).map (·.2) ++ [(row.getD i default).2] = (row.take (i + 1)).map (·.2) := by
      rw [take_snoc (by omega), List.map_append]; rfl
    rw [e] at hs
    refine call1_of (string_Next hs) fun e w ⟨he, hs⟩ => ⟨_, he, ?_⟩
    have e2 : rowNext row (k : Int) = rowPlace row (i + 1) := by unfold rowNext; rw [hr1]
    rw [e2]
    exact ih (i + 1) w s4 (by omega) (hs.perm (List.Perm.swap _ _ _))
theorem string_All (h : Sat W w L) [hA : At L b (lst .string b row free) F] (hr : row.length + free.length < 1099511627776) : Calls Tryd.prog id_list_List_string_All #[.pointer (some ⟨b, 0, none⟩)] w fun e w' => ∃ m : Sl, e = .returned (.slice m.a m.n m.c) ∧ Sat W w' (recs (Rec.str) m (row.map (·.2)) :: F (lst .string b row free)) := by
  refine At.oneX (hA := hA) h fun M hs hb => ?_
  refine (list_List_string_All_calls (Q := fun v w' => ∃ m : Sl, v = .slice m.a m.n m.c ∧ Sat W w' (lst .string b row free :: recs (Rec.str) m (row.map (·.2)) :: M)) ?_).mono fun e w' ⟨v, he, m, hv, hs⟩ => ⟨m, by rw [he, hv], ?_⟩
  · rw [list_List_string_All_def, list_List_string_All_raw]
    refine call1_of (string_Front hs) fun e w ⟨he, hs⟩ => ⟨_, he, ?_⟩
    have hs := Sat.nilR (Rec.str) hs
    have hl := string_All_loop (row := row) (free := free) (M := M) (b := b) (Q := fun v w' => ∃ m : Sl, v = .slice m.a m.n m.c ∧ Sat W w' (lst .string b row free :: recs (Rec.str) m (row.map (·.2)) :: M)) hr
      (fun w m hs => ⟨m, rfl, hs.perm (List.Perm.swap _ _ _)⟩) row.length 0 w ⟨none, 0, 0⟩ (by omega) hs
    exact ⟨_, hl⟩
  · exact hb _ _ [recs (Rec.str) m (row.map (·.2))] hs
end
end Go.Proofs.YtchlicgjdlkidaaDoor
