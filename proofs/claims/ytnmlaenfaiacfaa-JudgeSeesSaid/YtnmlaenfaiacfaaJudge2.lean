/- judge.Judge.goes, notes, See; Wrong. -/
import Derived.Test.YtnmlaenfaiacfaaJudge
set_option linter.unusedVariables false
set_option linter.unusedSimpArgs false
set_option linter.unnecessarySimpa false
set_option linter.unusedSectionVars false
namespace Go.Proofs.Ytnmlaenfaiacfaa
open Go.Hb Go.IntWalk
noncomputable def mkt : TypeId × TypeId := mapKT Try.prog ty_map_string_bool
section
variable {W w : World} {L M : List HP} {F : HP → List HP} {b sb : Nat} {sh room err kind : Int} {s : JS} {hit : Bool} {val k q : ByteArray} {o : OpV} {sl : Sl} {gone ks : List ByteArray}
theorem mlook {K : Bool → WP} (h : Sat W w L) [hA : At L sb (setC Try.prog mkt.1 mkt.2 sb ks) F] (hq : q.size ≤ maxLen) (hK : K (sHas ks q) w) : mLook Try.prog ty_map_string_bool (.map (some sb)) (.string q) .bool K w :=
  mLook_at (P := Try.prog) (kt := mkt.1) (et := mkt.2) (by kernel_rfl) (by kernel_rfl) (by kernel_rfl) (fun w => by kernel_rfl) h (hA := hA) hq hK
theorem mup {K : WP} (h : Sat W w L) [hA : At L sb (setC Try.prog mkt.1 mkt.2 sb ks) F] (hq : q.size ≤ maxLen) (hn : ks.length < maxLen) (hK : ∀ w', Sat W w' (F (setC Try.prog mkt.1 mkt.2 sb (q :: ks))) → K w') : mUp Try.prog ty_map_string_bool (.map (some sb)) (.string q) (.bool true) K w :=
  mUp_at (P := Try.prog) (kt := mkt.1) (et := mkt.2) (by kernel_rfl) (by kernel_rfl) (by kernel_rfl) h (hA := hA) hq hn hK
theorem maxLen_big : (1000 : Nat) ≤ maxLen := by decide
theorem may_of (kind : Int) : (jMay kind = true ∧ ((kind = 1 ∨ kind = 3 ∨ kind = 4) ∧ jSoft kind = true ∨ (kind = 2 ∨ kind = 9) ∧ jSoft kind = false)) ∨ (jMay kind = false ∧ kind ≠ 1 ∧ kind ≠ 2 ∧ kind ≠ 3 ∧ kind ≠ 4 ∧ kind ≠ 9) := by
  unfold jMay jSoft
  by_cases h : kind = 1 ∨ kind = 3 ∨ kind = 4
  · left; exact ⟨decide_eq_true (by omega), .inl ⟨h, decide_eq_true h⟩⟩
  · by_cases h2 : kind = 2 ∨ kind = 9
    · left; exact ⟨decide_eq_true (by omega), .inr ⟨h2, decide_eq_false h⟩⟩
    · right; exact ⟨decide_eq_false (by omega), by omega, by omega, by omega, by omega, by omega⟩
theorem jg_goes [hO : AtO L W] (hs : Sat W w (jgR b sh s :: L)) (hr : ReadsR0 W sl Rec.str gone) (hg : ∀ g ∈ gone, g.size ≤ 40) (hn : gone.length ≤ 30) :
    Calls Try.prog id_judge_Judge_goes #[.pointer (some ⟨b, 0, none⟩), .int .i64 kind, .slice sl.a sl.n sl.c] w fun e w' => e = .returned (.bool (jGoes s.T s.now kind gone)) ∧ Sat W w' (jgR b sh s :: L) := by
  refine c1 (judge_Judge_goes_calls ?_)
  rw [judge_Judge_goes_def, judge_Judge_goes_raw]
  refine newM_at (P := Try.prog) (kt := mkt.1) (et := mkt.2) hs fun sb w hs => ?_
  have hlen := hr.1
  have hbig := maxLen_big
  have loop : ∀ (f i : Nat) (w : World) (ks : List ByteArray), i + f = gone.length → (∀ q, sHas ks q = true ↔ ∃ k, k < i ∧ gone.getD k default = q) → ks.length ≤ i → (∀ a c, c < a → a < i → gone.getD a default ≠ gone.getD c default) →
      (∀ a, a < i → jOk s.T s.now kind (gone.getD a default) = true) → Sat W w (setC Try.prog mkt.1 mkt.2 sb ks :: jgR b sh s :: L) →
      judge_Judge_goes_l1 idJ (fun v w' => v = .bool (jGoes s.T s.now kind gone) ∧ Sat W w' (jgR b sh s :: L)) (f + 1) (some ⟨b, 0, none⟩) kind (some sb) sl (sl.n : Int) (i : Int) w := by
    intro f
    induction f with
    | zero =>
      intro i w ks hi hks hkl hdis hok hs
      rw [judge_Judge_goes_l1_raw]
      refine ite_false (decide_eq_false (by omega)) ?_
      rw [judge_Judge_goes_j4_def, judge_Judge_goes_j4_raw]
      exact ⟨by rw [jGoes_true ⟨fun a c h1 h2 => hdis a c h1 (by omega), fun a h1 => hok a (by omega)⟩], by exact Sat.fin hs⟩
    | succ f ih =>
      intro i w ks hi hks hkl hdis hok hs
      rw [judge_Judge_goes_l1_raw]
      refine ite_true (decide_eq_true (by omega)) ?_
      have hil : i < gone.length := by omega
      haveI hR := reads0 hr hil
      have hsz := hg (gone.getD i default) (by rw [List.getD_eq_getElem?_getD, List.getElem?_eq_getElem hil]; exact List.getElem_mem hil)
      have hs : Sat W w (jgR b sh s :: setC Try.prog mkt.1 mkt.2 sb ks :: L) := by exact Sat.fin hs
      obtain ⟨tb, hs⟩ := jg_open hs
      repeat (first | with_reducible refine nilck_some ?_ | ((with_reducible refine atLd ?_); first | refine ld_b hs ?_ | refine ld_b (x := ⟨_, _, _⟩) hs ?_ | refine ld_r0 hs ?_ | refine ld_r1 hs ?_ | refine ld_r2 hs ?_ | refine ld_r3 hs ?_ | refine ld_r4 hs ?_ | refine ld_rd0 ha_ hs ?_ | refine ld_rd1 ha_ hs ?_ | refine ld_rd2 ha_ hs ?_ | refine ld_rd3 ha_ hs ?_ | refine ld_rd4 ha_ hs ?_ | refine ld_rd5 ha_ hs ?_ | fail) | ((with_reducible refine isSt ?_); first | refine st_b hs fun w hs => ?_ | refine st_rec5 hs fun w hs => ?_ | refine st_rec4 hs fun w hs => ?_ | refine st_rec3 hs fun w hs => ?_ | refine st_rec2 hs fun w hs => ?_ | refine st_r0 hs fun w hs => ?_ | refine st_r1 hs fun w hs => ?_ | fail) | ((with_reducible refine isIdx ?_); first | refine idx_s hs fun b_ o_ hs => ?_ | refine idx_a hs ?_ | refine idx_rd hs fun b_ o_ ha_ => ?_ | fail) | ((with_reducible refine isNew ?_); first | refine newB_at hs fun b_ w hs => ?_ | fail) | ((with_reducible refine isLdS ?_); first | refine ldS_b ?_ | refine ldS_b (x := ⟨_, _, _⟩) ?_ | refine ldS_r0 ?_ | refine ldS_r1 ?_ | refine ldS_r2 ?_ | refine ldS_r3 ?_ | refine ldS_rs0 hs ?_ | refine ldS_rs1 hs ?_ | refine ldS_rs2 hs ?_ | refine ldS_rs3 hs ?_ | refine ldS_rd0 ha_ ?_ | refine ldS_rd1 ha_ ?_ | refine ldS_rd2 ha_ ?_ | refine ldS_rd3 ha_ ?_ | refine ldS_rd4 ha_ ?_ | refine ldS_rd5 ha_ ?_ | fail) | ((with_reducible refine isKeep ?_); first | refine keep_of hs ?_ | refine keep_imp hs ?_ | fail) | ((with_reducible refine isWhen ?_); first | refine when_om ?_ | fail) | ((with_reducible refine isDraw ?_); first | refine drawW_sat hs fun w hs => ?_ | fail))
      simp only [Int.toNat_natCast]
      refine call2_of (tab_Get hs (by omega)) fun e w ⟨he, hs⟩ => ⟨_, _, he, ?_⟩
      have bad : ∀ w, Sat W w (blk b [.pointer (some ⟨tb, 0, none⟩), .int .i64 sh, .int .i64 s.room, .int .i64 s.now] :: tabR tb s.T :: setC Try.prog mkt.1 mkt.2 sb ks :: L) → jGoes s.T s.now kind gone = false → (Value.bool false = .bool (jGoes s.T s.now kind gone) ∧ Sat W w (jgR b sh s :: L)) := by
        intro w hs hf
        have hs := jg_shut tb hs
        exact ⟨by rw [hf], by exact Sat.fin hs⟩
      have j3 : ∀ (al : Bool) (w : World), al = (jSoft kind && (tGet s.T (gone.getD i default) s.now).2) → jMay kind = true →
          Sat W w (blk b [.pointer (some ⟨tb, 0, none⟩), .int .i64 sh, .int .i64 s.room, .int .i64 s.now] :: tabR tb s.T :: setC Try.prog mkt.1 mkt.2 sb ks :: L) →
          judge_Judge_goes_j3 idJ (fun v w' => v = .bool (jGoes s.T s.now kind gone) ∧ Sat W w' (jgR b sh s :: L)) (f + 1) (some ⟨b, 0, none⟩) kind (some sb) (gone.getD i default) al sl (sl.n : Int) (i : Int) w := by
        intro al w hal hmay hs
        rw [judge_Judge_goes_j3_def, judge_Judge_goes_j3_raw]
        refine ite_cases (fun h1 => ?_) (fun h1 => ?_)
        · exact bad w hs (goes_bad hil (jOk_soft (hal.symm.trans h1)))
        refine mlook hs (by omega) ?_
        refine ite_cases (fun h2 => ?_) (fun h2 => ?_)
        · obtain ⟨k, hk, hkq⟩ := (hks _).1 h2
          exact bad w hs (goes_dup hk hil hkq.symm)
        repeat (first | with_reducible refine nilck_some ?_ | ((with_reducible refine atLd ?_); first | refine ld_b hs ?_ | refine ld_b (x := ⟨_, _, _⟩) hs ?_ | refine ld_r0 hs ?_ | refine ld_r1 hs ?_ | refine ld_r2 hs ?_ | refine ld_r3 hs ?_ | refine ld_r4 hs ?_ | refine ld_rd0 ha_ hs ?_ | refine ld_rd1 ha_ hs ?_ | refine ld_rd2 ha_ hs ?_ | refine ld_rd3 ha_ hs ?_ | refine ld_rd4 ha_ hs ?_ | refine ld_rd5 ha_ hs ?_ | fail) | ((with_reducible refine isSt ?_); first | refine st_b hs fun w hs => ?_ | refine st_rec5 hs fun w hs => ?_ | refine st_rec4 hs fun w hs => ?_ | refine st_rec3 hs fun w hs => ?_ | refine st_rec2 hs fun w hs => ?_ | refine st_r0 hs fun w hs => ?_ | refine st_r1 hs fun w hs => ?_ | fail) | ((with_reducible refine isIdx ?_); first | refine idx_s hs fun b_ o_ hs => ?_ | refine idx_a hs ?_ | refine idx_rd hs fun b_ o_ ha_ => ?_ | fail) | ((with_reducible refine isNew ?_); first | refine newB_at hs fun b_ w hs => ?_ | fail) | ((with_reducible refine isLdS ?_); first | refine ldS_b ?_ | refine ldS_b (x := ⟨_, _, _⟩) ?_ | refine ldS_r0 ?_ | refine ldS_r1 ?_ | refine ldS_r2 ?_ | refine ldS_r3 ?_ | refine ldS_rs0 hs ?_ | refine ldS_rs1 hs ?_ | refine ldS_rs2 hs ?_ | refine ldS_rs3 hs ?_ | refine ldS_rd0 ha_ ?_ | refine ldS_rd1 ha_ ?_ | refine ldS_rd2 ha_ ?_ | refine ldS_rd3 ha_ ?_ | refine ldS_rd4 ha_ ?_ | refine ldS_rd5 ha_ ?_ | fail) | ((with_reducible refine isKeep ?_); first | refine keep_of hs ?_ | refine keep_imp hs ?_ | fail) | ((with_reducible refine isWhen ?_); first | refine when_om ?_ | fail) | ((with_reducible refine isDraw ?_); first | refine drawW_sat hs fun w hs => ?_ | fail))
        refine call1_of (tab_Has hs (by omega)) fun e w ⟨he, hs⟩ => ⟨_, he, ?_⟩
        refine ite_cases (fun h3 => ?_) (fun h3 => ?_)
        · exact bad w hs (goes_bad hil (jOk_has (by simpa using h3)))
        refine mup hs (by omega) (by omega) fun w hs => ?_
        rw [i64_in _ (by omega)]
        have hs := jg_shut tb hs
        refine ih (i + 1) w (gone.getD i default :: ks) (by omega) (fun q => ?_) (Nat.succ_le_succ hkl) (fun a c h4 h5 => ?_) (fun a h4 => ?_) (by exact Sat.fin hs)
        · rw [sHas_iff, List.mem_cons, ← sHas_iff, hks q]
          constructor
          · rintro (h | ⟨k, h5, h6⟩)
            · exact ⟨i, by omega, h.symm⟩
            · exact ⟨k, by omega, h6⟩
          · rintro ⟨k, h5, h6⟩
            by_cases hki : k = i
            · subst hki; exact .inl h6.symm
            · exact .inr ⟨k, by omega, h6⟩
        · by_cases hai : a = i
          · subst hai
            intro h6
            rw [(hks _).2 ⟨c, h4, h6.symm⟩] at h2
            cases h2
          · exact hdis a c h4 (by omega)
        · by_cases hai : a = i
          · subst hai
            exact jOk_ok hmay (hal.symm.trans h1) (by simpa using h3)
          · exact hok a (by omega)
      have j2 : ∀ (t : Bool), (t = true → jSoft kind = true ∧ jMay kind = true) → (t = false → jSoft kind = false) → judge_Judge_goes_j2 idJ (fun v w' => v = .bool (jGoes s.T s.now kind gone) ∧ Sat W w' (jgR b sh s :: L)) (f + 1) (some ⟨b, 0, none⟩) kind (some sb) (gone.getD i default) (tGet s.T (gone.getD i default) s.now).2 sl (sl.n : Int) (i : Int) kind t w := by
        intro t h1 h2
        rw [judge_Judge_goes_j2_def, judge_Judge_goes_j2_raw]
        refine ite_cases (fun h => ?_) (fun h => ?_)
        · exact j3 _ w (by rw [(h1 h).1, Bool.true_and]) (h1 h).2 hs
        have h2 := h2 h
        have hno : kind ≠ 2 → kind ≠ 9 → jMay kind = false := fun e1 e2 => by
          rcases may_of kind with ⟨_, ⟨_, h3⟩ | ⟨h3, _⟩⟩ | ⟨h3, _⟩
          · rw [h2] at h3; cases h3
          · omega
          · exact h3
        have hyes : kind = 2 ∨ kind = 9 → jMay kind = true := fun h => decide_eq_true (by omega)
        (first | with_reducible refine ite_ltI (fun h3 => ?_) (fun h3 => ?_) | with_reducible refine ite_leI (fun h3 => ?_) (fun h3 => ?_) | with_reducible refine ite_gtI (fun h3 => ?_) (fun h3 => ?_) | with_reducible refine ite_geI (fun h3 => ?_) (fun h3 => ?_) | with_reducible refine ite_eqI (fun h3 => ?_) (fun h3 => ?_) | with_reducible refine ite_neI (fun h3 => ?_) (fun h3 => ?_) | with_reducible refine ite_eqS (fun h3 => ?_) (fun h3 => ?_) | with_reducible refine ite_neS (fun h3 => ?_) (fun h3 => ?_) | with_reducible refine ite_dec (fun h3 => ?_) (fun h3 => ?_) | with_reducible refine ite_ndec (fun h3 => ?_) (fun h3 => ?_) | with_reducible refine ite_some (fun i_ h3 => ?_) (fun h3 => ?_) | with_reducible refine ite_nsome (fun h3 => ?_) (fun i_ h3 => ?_) | with_reducible refine ite_cases (fun h3 => ?_) (fun h3 => ?_))
        · refine ite_true (by simpa using h3) ?_
          with_reducible refine j3 _ w ?_ (hyes (.inl h3)) hs
          rw [h2, Bool.false_and]
        (first | with_reducible refine ite_ltI (fun h4 => ?_) (fun h4 => ?_) | with_reducible refine ite_leI (fun h4 => ?_) (fun h4 => ?_) | with_reducible refine ite_gtI (fun h4 => ?_) (fun h4 => ?_) | with_reducible refine ite_geI (fun h4 => ?_) (fun h4 => ?_) | with_reducible refine ite_eqI (fun h4 => ?_) (fun h4 => ?_) | with_reducible refine ite_neI (fun h4 => ?_) (fun h4 => ?_) | with_reducible refine ite_eqS (fun h4 => ?_) (fun h4 => ?_) | with_reducible refine ite_neS (fun h4 => ?_) (fun h4 => ?_) | with_reducible refine ite_dec (fun h4 => ?_) (fun h4 => ?_) | with_reducible refine ite_ndec (fun h4 => ?_) (fun h4 => ?_) | with_reducible refine ite_some (fun i_ h4 => ?_) (fun h4 => ?_) | with_reducible refine ite_nsome (fun h4 => ?_) (fun i_ h4 => ?_) | with_reducible refine ite_cases (fun h4 => ?_) (fun h4 => ?_))
        · with_reducible refine j3 _ w ?_ (hyes (.inr h4)) hs
          rw [h2, Bool.false_and]
        · exact bad w hs (goes_bad hil (jOk_may (hno h3 h4)))
      have yes : kind = 1 ∨ kind = 3 ∨ kind = 4 → jSoft kind = true ∧ jMay kind = true := fun h => ⟨decide_eq_true h, decide_eq_true (by omega)⟩
      have no : kind ≠ 1 → kind ≠ 3 → kind ≠ 4 → jSoft kind = false := fun h1 h2 h3 => decide_eq_false (by omega)
      (first | with_reducible refine ite_ltI (fun h1 => ?_) (fun h1 => ?_) | with_reducible refine ite_leI (fun h1 => ?_) (fun h1 => ?_) | with_reducible refine ite_gtI (fun h1 => ?_) (fun h1 => ?_) | with_reducible refine ite_geI (fun h1 => ?_) (fun h1 => ?_) | with_reducible refine ite_eqI (fun h1 => ?_) (fun h1 => ?_) | with_reducible refine ite_neI (fun h1 => ?_) (fun h1 => ?_) | with_reducible refine ite_eqS (fun h1 => ?_) (fun h1 => ?_) | with_reducible refine ite_neS (fun h1 => ?_) (fun h1 => ?_) | with_reducible refine ite_dec (fun h1 => ?_) (fun h1 => ?_) | with_reducible refine ite_ndec (fun h1 => ?_) (fun h1 => ?_) | with_reducible refine ite_some (fun i_ h1 => ?_) (fun h1 => ?_) | with_reducible refine ite_nsome (fun h1 => ?_) (fun i_ h1 => ?_) | with_reducible refine ite_cases (fun h1 => ?_) (fun h1 => ?_))
      · exact j2 _ (fun _ => yes (.inl h1)) (fun h => absurd h1 (by simpa using h))
      (first | with_reducible refine ite_ltI (fun h2 => ?_) (fun h2 => ?_) | with_reducible refine ite_leI (fun h2 => ?_) (fun h2 => ?_) | with_reducible refine ite_gtI (fun h2 => ?_) (fun h2 => ?_) | with_reducible refine ite_geI (fun h2 => ?_) (fun h2 => ?_) | with_reducible refine ite_eqI (fun h2 => ?_) (fun h2 => ?_) | with_reducible refine ite_neI (fun h2 => ?_) (fun h2 => ?_) | with_reducible refine ite_eqS (fun h2 => ?_) (fun h2 => ?_) | with_reducible refine ite_neS (fun h2 => ?_) (fun h2 => ?_) | with_reducible refine ite_dec (fun h2 => ?_) (fun h2 => ?_) | with_reducible refine ite_ndec (fun h2 => ?_) (fun h2 => ?_) | with_reducible refine ite_some (fun i_ h2 => ?_) (fun h2 => ?_) | with_reducible refine ite_nsome (fun h2 => ?_) (fun i_ h2 => ?_) | with_reducible refine ite_cases (fun h2 => ?_) (fun h2 => ?_))
      · exact j2 _ (fun _ => yes (.inr (.inl h2))) (fun h => absurd h2 (by simpa using h))
      · exact j2 _ (fun h => yes (.inr (.inr (by simpa using h)))) (fun h => no h1 h2 (by simpa using h))
  exact ⟨gone.length + 1, loop gone.length 0 w [] (by omega) (fun q => by simp [sHas]) (by simp) (fun a c _ h => by omega) (fun a h => by omega) hs⟩
theorem jg_notes [hO : AtO L W] (hs : Sat W w (jgR b sh s :: L)) (hi : TOk s.T) (hl : s.T.length < 700000000) (hr : ReadsR0 W sl Rec.str gone) (hg : ∀ g ∈ gone, g.size ≤ 40) (hn : gone.length ≤ 30) (hz : o.key.size ≤ 40) :
    Calls Try.prog id_judge_Judge_notes #[.pointer (some ⟨b, 0, none⟩), .agg #[.int .i64 o.kind, .string o.key, .string o.val, .int .i64 o.n], .slice sl.a sl.n sl.c] w fun e w' => e = .returned (.tuple #[]) ∧ Sat W w' (jgR b sh ⟨jNotes s.T s.now o gone, s.now, jRoom s.room o⟩ :: L) := by
  refine c1 (judge_Judge_notes_calls ?_)
  rw [judge_Judge_notes_def, judge_Judge_notes_raw]
  refine newB_at hs fun ob w hs => ?_
  have hlen := hr.1
  have hgl := gone_tok hi gone
  have hm : (gone.foldl rDel s.T).length < 800000000 := by omega
  have fin : ∀ (w : World), Sat W w (blk ob [.int .i64 o.kind, .string o.key, .string o.val, .int .i64 o.n] :: jgR b sh ⟨gone.foldl rDel s.T, s.now, s.room⟩ :: L) →
      judge_Judge_notes_j2 idJ (fun v w' => v = .tuple #[] ∧ Sat W w' (jgR b sh ⟨jNotes s.T s.now o gone, s.now, jRoom s.room o⟩ :: L)) (some ⟨b, 0, none⟩) ob 0 w := by
    intro w hs
    rw [judge_Judge_notes_j2_def, judge_Judge_notes_j2_raw]
    have hs : Sat W w (jgR b sh ⟨gone.foldl rDel s.T, s.now, s.room⟩ :: blk ob [.int .i64 o.kind, .string o.key, .string o.val, .int .i64 o.n] :: L) := by exact Sat.fin hs
    obtain ⟨tb, hs⟩ := jg_open hs
    unfold jNotes jRoom
    repeat (first | with_reducible refine nilck_some ?_ | ((with_reducible refine atLd ?_); first | refine ld_b hs ?_ | refine ld_b (x := ⟨_, _, _⟩) hs ?_ | refine ld_r0 hs ?_ | refine ld_r1 hs ?_ | refine ld_r2 hs ?_ | refine ld_r3 hs ?_ | refine ld_r4 hs ?_ | refine ld_rd0 ha_ hs ?_ | refine ld_rd1 ha_ hs ?_ | refine ld_rd2 ha_ hs ?_ | refine ld_rd3 ha_ hs ?_ | refine ld_rd4 ha_ hs ?_ | refine ld_rd5 ha_ hs ?_ | fail) | ((with_reducible refine isSt ?_); first | refine st_b hs fun w hs => ?_ | refine st_rec5 hs fun w hs => ?_ | refine st_rec4 hs fun w hs => ?_ | refine st_rec3 hs fun w hs => ?_ | refine st_rec2 hs fun w hs => ?_ | refine st_r0 hs fun w hs => ?_ | refine st_r1 hs fun w hs => ?_ | fail) | ((with_reducible refine isIdx ?_); first | refine idx_s hs fun b_ o_ hs => ?_ | refine idx_a hs ?_ | refine idx_rd hs fun b_ o_ ha_ => ?_ | fail) | ((with_reducible refine isNew ?_); first | refine newB_at hs fun b_ w hs => ?_ | fail) | ((with_reducible refine isLdS ?_); first | refine ldS_b ?_ | refine ldS_b (x := ⟨_, _, _⟩) ?_ | refine ldS_r0 ?_ | refine ldS_r1 ?_ | refine ldS_r2 ?_ | refine ldS_r3 ?_ | refine ldS_rs0 hs ?_ | refine ldS_rs1 hs ?_ | refine ldS_rs2 hs ?_ | refine ldS_rs3 hs ?_ | refine ldS_rd0 ha_ ?_ | refine ldS_rd1 ha_ ?_ | refine ldS_rd2 ha_ ?_ | refine ldS_rd3 ha_ ?_ | refine ldS_rd4 ha_ ?_ | refine ldS_rd5 ha_ ?_ | fail) | ((with_reducible refine isKeep ?_); first | refine keep_of hs ?_ | refine keep_imp hs ?_ | fail) | ((with_reducible refine isWhen ?_); first | refine when_om ?_ | fail) | ((with_reducible refine isDraw ?_); first | refine drawW_sat hs fun w hs => ?_ | fail))
    (first | with_reducible refine ite_ltI (fun h1 => ?_) (fun h1 => ?_) | with_reducible refine ite_leI (fun h1 => ?_) (fun h1 => ?_) | with_reducible refine ite_gtI (fun h1 => ?_) (fun h1 => ?_) | with_reducible refine ite_geI (fun h1 => ?_) (fun h1 => ?_) | with_reducible refine ite_eqI (fun h1 => ?_) (fun h1 => ?_) | with_reducible refine ite_neI (fun h1 => ?_) (fun h1 => ?_) | with_reducible refine ite_eqS (fun h1 => ?_) (fun h1 => ?_) | with_reducible refine ite_neS (fun h1 => ?_) (fun h1 => ?_) | with_reducible refine ite_dec (fun h1 => ?_) (fun h1 => ?_) | with_reducible refine ite_ndec (fun h1 => ?_) (fun h1 => ?_) | with_reducible refine ite_some (fun i_ h1 => ?_) (fun h1 => ?_) | with_reducible refine ite_nsome (fun h1 => ?_) (fun i_ h1 => ?_) | with_reducible refine ite_cases (fun h1 => ?_) (fun h1 => ?_))
    · repeat (first | with_reducible refine nilck_some ?_ | ((with_reducible refine atLd ?_); first | refine ld_b hs ?_ | refine ld_b (x := ⟨_, _, _⟩) hs ?_ | refine ld_r0 hs ?_ | refine ld_r1 hs ?_ | refine ld_r2 hs ?_ | refine ld_r3 hs ?_ | refine ld_r4 hs ?_ | refine ld_rd0 ha_ hs ?_ | refine ld_rd1 ha_ hs ?_ | refine ld_rd2 ha_ hs ?_ | refine ld_rd3 ha_ hs ?_ | refine ld_rd4 ha_ hs ?_ | refine ld_rd5 ha_ hs ?_ | fail) | ((with_reducible refine isSt ?_); first | refine st_b hs fun w hs => ?_ | refine st_rec5 hs fun w hs => ?_ | refine st_rec4 hs fun w hs => ?_ | refine st_rec3 hs fun w hs => ?_ | refine st_rec2 hs fun w hs => ?_ | refine st_r0 hs fun w hs => ?_ | refine st_r1 hs fun w hs => ?_ | fail) | ((with_reducible refine isIdx ?_); first | refine idx_s hs fun b_ o_ hs => ?_ | refine idx_a hs ?_ | refine idx_rd hs fun b_ o_ ha_ => ?_ | fail) | ((with_reducible refine isNew ?_); first | refine newB_at hs fun b_ w hs => ?_ | fail) | ((with_reducible refine isLdS ?_); first | refine ldS_b ?_ | refine ldS_b (x := ⟨_, _, _⟩) ?_ | refine ldS_r0 ?_ | refine ldS_r1 ?_ | refine ldS_r2 ?_ | refine ldS_r3 ?_ | refine ldS_rs0 hs ?_ | refine ldS_rs1 hs ?_ | refine ldS_rs2 hs ?_ | refine ldS_rs3 hs ?_ | refine ldS_rd0 ha_ ?_ | refine ldS_rd1 ha_ ?_ | refine ldS_rd2 ha_ ?_ | refine ldS_rd3 ha_ ?_ | refine ldS_rd4 ha_ ?_ | refine ldS_rd5 ha_ ?_ | fail) | ((with_reducible refine isKeep ?_); first | refine keep_of hs ?_ | refine keep_imp hs ?_ | fail) | ((with_reducible refine isWhen ?_); first | refine when_om ?_ | fail) | ((with_reducible refine isDraw ?_); first | refine drawW_sat hs fun w hs => ?_ | fail))
      refine call2_of (tab_Put hs hm) fun e w ⟨he, hs⟩ => ⟨_, _, he, ?_⟩
      rw [if_pos h1, if_neg (by omega)]
      have hs := jg_shut tb hs
      exact ⟨rfl, by exact Sat.fin hs⟩
    rw [if_neg h1]
    (first | with_reducible refine ite_ltI (fun h2 => ?_) (fun h2 => ?_) | with_reducible refine ite_leI (fun h2 => ?_) (fun h2 => ?_) | with_reducible refine ite_gtI (fun h2 => ?_) (fun h2 => ?_) | with_reducible refine ite_geI (fun h2 => ?_) (fun h2 => ?_) | with_reducible refine ite_eqI (fun h2 => ?_) (fun h2 => ?_) | with_reducible refine ite_neI (fun h2 => ?_) (fun h2 => ?_) | with_reducible refine ite_eqS (fun h2 => ?_) (fun h2 => ?_) | with_reducible refine ite_neS (fun h2 => ?_) (fun h2 => ?_) | with_reducible refine ite_dec (fun h2 => ?_) (fun h2 => ?_) | with_reducible refine ite_ndec (fun h2 => ?_) (fun h2 => ?_) | with_reducible refine ite_some (fun i_ h2 => ?_) (fun h2 => ?_) | with_reducible refine ite_nsome (fun h2 => ?_) (fun i_ h2 => ?_) | with_reducible refine ite_cases (fun h2 => ?_) (fun h2 => ?_))
    · repeat (first | with_reducible refine nilck_some ?_ | ((with_reducible refine atLd ?_); first | refine ld_b hs ?_ | refine ld_b (x := ⟨_, _, _⟩) hs ?_ | refine ld_r0 hs ?_ | refine ld_r1 hs ?_ | refine ld_r2 hs ?_ | refine ld_r3 hs ?_ | refine ld_r4 hs ?_ | refine ld_rd0 ha_ hs ?_ | refine ld_rd1 ha_ hs ?_ | refine ld_rd2 ha_ hs ?_ | refine ld_rd3 ha_ hs ?_ | refine ld_rd4 ha_ hs ?_ | refine ld_rd5 ha_ hs ?_ | fail) | ((with_reducible refine isSt ?_); first | refine st_b hs fun w hs => ?_ | refine st_rec5 hs fun w hs => ?_ | refine st_rec4 hs fun w hs => ?_ | refine st_rec3 hs fun w hs => ?_ | refine st_rec2 hs fun w hs => ?_ | refine st_r0 hs fun w hs => ?_ | refine st_r1 hs fun w hs => ?_ | fail) | ((with_reducible refine isIdx ?_); first | refine idx_s hs fun b_ o_ hs => ?_ | refine idx_a hs ?_ | refine idx_rd hs fun b_ o_ ha_ => ?_ | fail) | ((with_reducible refine isNew ?_); first | refine newB_at hs fun b_ w hs => ?_ | fail) | ((with_reducible refine isLdS ?_); first | refine ldS_b ?_ | refine ldS_b (x := ⟨_, _, _⟩) ?_ | refine ldS_r0 ?_ | refine ldS_r1 ?_ | refine ldS_r2 ?_ | refine ldS_r3 ?_ | refine ldS_rs0 hs ?_ | refine ldS_rs1 hs ?_ | refine ldS_rs2 hs ?_ | refine ldS_rs3 hs ?_ | refine ldS_rd0 ha_ ?_ | refine ldS_rd1 ha_ ?_ | refine ldS_rd2 ha_ ?_ | refine ldS_rd3 ha_ ?_ | refine ldS_rd4 ha_ ?_ | refine ldS_rd5 ha_ ?_ | fail) | ((with_reducible refine isKeep ?_); first | refine keep_of hs ?_ | refine keep_imp hs ?_ | fail) | ((with_reducible refine isWhen ?_); first | refine when_om ?_ | fail) | ((with_reducible refine isDraw ?_); first | refine drawW_sat hs fun w hs => ?_ | fail))
      refine call1_of (tab_Delete hs (by omega) hm) fun e w ⟨he, hs⟩ => ⟨_, he, ?_⟩
      rw [if_pos h2, if_neg (by omega)]
      have hs := jg_shut tb hs
      exact ⟨rfl, by exact Sat.fin hs⟩
    rw [if_neg h2]
    (first | with_reducible refine ite_ltI (fun h3 => ?_) (fun h3 => ?_) | with_reducible refine ite_leI (fun h3 => ?_) (fun h3 => ?_) | with_reducible refine ite_gtI (fun h3 => ?_) (fun h3 => ?_) | with_reducible refine ite_geI (fun h3 => ?_) (fun h3 => ?_) | with_reducible refine ite_eqI (fun h3 => ?_) (fun h3 => ?_) | with_reducible refine ite_neI (fun h3 => ?_) (fun h3 => ?_) | with_reducible refine ite_eqS (fun h3 => ?_) (fun h3 => ?_) | with_reducible refine ite_neS (fun h3 => ?_) (fun h3 => ?_) | with_reducible refine ite_dec (fun h3 => ?_) (fun h3 => ?_) | with_reducible refine ite_ndec (fun h3 => ?_) (fun h3 => ?_) | with_reducible refine ite_some (fun i_ h3 => ?_) (fun h3 => ?_) | with_reducible refine ite_nsome (fun h3 => ?_) (fun i_ h3 => ?_) | with_reducible refine ite_cases (fun h3 => ?_) (fun h3 => ?_))
    · repeat (first | with_reducible refine nilck_some ?_ | ((with_reducible refine atLd ?_); first | refine ld_b hs ?_ | refine ld_b (x := ⟨_, _, _⟩) hs ?_ | refine ld_r0 hs ?_ | refine ld_r1 hs ?_ | refine ld_r2 hs ?_ | refine ld_r3 hs ?_ | refine ld_r4 hs ?_ | refine ld_rd0 ha_ hs ?_ | refine ld_rd1 ha_ hs ?_ | refine ld_rd2 ha_ hs ?_ | refine ld_rd3 ha_ hs ?_ | refine ld_rd4 ha_ hs ?_ | refine ld_rd5 ha_ hs ?_ | fail) | ((with_reducible refine isSt ?_); first | refine st_b hs fun w hs => ?_ | refine st_rec5 hs fun w hs => ?_ | refine st_rec4 hs fun w hs => ?_ | refine st_rec3 hs fun w hs => ?_ | refine st_rec2 hs fun w hs => ?_ | refine st_r0 hs fun w hs => ?_ | refine st_r1 hs fun w hs => ?_ | fail) | ((with_reducible refine isIdx ?_); first | refine idx_s hs fun b_ o_ hs => ?_ | refine idx_a hs ?_ | refine idx_rd hs fun b_ o_ ha_ => ?_ | fail) | ((with_reducible refine isNew ?_); first | refine newB_at hs fun b_ w hs => ?_ | fail) | ((with_reducible refine isLdS ?_); first | refine ldS_b ?_ | refine ldS_b (x := ⟨_, _, _⟩) ?_ | refine ldS_r0 ?_ | refine ldS_r1 ?_ | refine ldS_r2 ?_ | refine ldS_r3 ?_ | refine ldS_rs0 hs ?_ | refine ldS_rs1 hs ?_ | refine ldS_rs2 hs ?_ | refine ldS_rs3 hs ?_ | refine ldS_rd0 ha_ ?_ | refine ldS_rd1 ha_ ?_ | refine ldS_rd2 ha_ ?_ | refine ldS_rd3 ha_ ?_ | refine ldS_rd4 ha_ ?_ | refine ldS_rd5 ha_ ?_ | fail) | ((with_reducible refine isKeep ?_); first | refine keep_of hs ?_ | refine keep_imp hs ?_ | fail) | ((with_reducible refine isWhen ?_); first | refine when_om ?_ | fail) | ((with_reducible refine isDraw ?_); first | refine drawW_sat hs fun w hs => ?_ | fail))
      rw [if_pos h3]
      have hs := jg_shut tb hs
      exact ⟨rfl, by exact Sat.fin hs⟩
    · rw [if_neg h3]
      have hs := jg_shut tb hs
      exact ⟨rfl, by exact Sat.fin hs⟩
  have loop : ∀ (f i : Nat) (w : World), i + f = gone.length → Sat W w (blk ob [.int .i64 o.kind, .string o.key, .string o.val, .int .i64 o.n] :: jgR b sh ⟨(gone.take i).foldl rDel s.T, s.now, s.room⟩ :: L) →
      judge_Judge_notes_l1 idJ (fun v w' => v = .tuple #[] ∧ Sat W w' (jgR b sh ⟨jNotes s.T s.now o gone, s.now, jRoom s.room o⟩ :: L)) (f + 1) (some ⟨b, 0, none⟩) ob 0 sl (sl.n : Int) (i : Int) w := by
    intro f
    induction f with
    | zero =>
      intro i w hi hs
      rw [judge_Judge_notes_l1_raw]
      refine ite_false (decide_eq_false (by omega)) ?_
      rw [List.take_of_length_le (by omega)] at hs
      exact fin w hs
    | succ f ih =>
      intro i w hi2 hs
      rw [judge_Judge_notes_l1_raw]
      refine ite_true (decide_eq_true (by omega)) ?_
      have hil : i < gone.length := by omega
      haveI hR := reads0 hr hil
      have hsz := hg (gone.getD i default) (by rw [List.getD_eq_getElem?_getD, List.getElem?_eq_getElem hil]; exact List.getElem_mem hil)
      have hgi := gone_tok hi (gone.take i)
      have hmi : ((gone.take i).foldl rDel s.T).length < 800000000 := by omega
      have hs : Sat W w (jgR b sh ⟨(gone.take i).foldl rDel s.T, s.now, s.room⟩ :: blk ob [.int .i64 o.kind, .string o.key, .string o.val, .int .i64 o.n] :: L) := by exact Sat.fin hs
      obtain ⟨tb, hs⟩ := jg_open hs
      repeat (first | with_reducible refine nilck_some ?_ | ((with_reducible refine atLd ?_); first | refine ld_b hs ?_ | refine ld_b (x := ⟨_, _, _⟩) hs ?_ | refine ld_r0 hs ?_ | refine ld_r1 hs ?_ | refine ld_r2 hs ?_ | refine ld_r3 hs ?_ | refine ld_r4 hs ?_ | refine ld_rd0 ha_ hs ?_ | refine ld_rd1 ha_ hs ?_ | refine ld_rd2 ha_ hs ?_ | refine ld_rd3 ha_ hs ?_ | refine ld_rd4 ha_ hs ?_ | refine ld_rd5 ha_ hs ?_ | fail) | ((with_reducible refine isSt ?_); first | refine st_b hs fun w hs => ?_ | refine st_rec5 hs fun w hs => ?_ | refine st_rec4 hs fun w hs => ?_ | refine st_rec3 hs fun w hs => ?_ | refine st_rec2 hs fun w hs => ?_ | refine st_r0 hs fun w hs => ?_ | refine st_r1 hs fun w hs => ?_ | fail) | ((with_reducible refine isIdx ?_); first | refine idx_s hs fun b_ o_ hs => ?_ | refine idx_a hs ?_ | refine idx_rd hs fun b_ o_ ha_ => ?_ | fail) | ((with_reducible refine isNew ?_); first | refine newB_at hs fun b_ w hs => ?_ | fail) | ((with_reducible refine isLdS ?_); first | refine ldS_b ?_ | refine ldS_b (x := ⟨_, _, _⟩) ?_ | refine ldS_r0 ?_ | refine ldS_r1 ?_ | refine ldS_r2 ?_ | refine ldS_r3 ?_ | refine ldS_rs0 hs ?_ | refine ldS_rs1 hs ?_ | refine ldS_rs2 hs ?_ | refine ldS_rs3 hs ?_ | refine ldS_rd0 ha_ ?_ | refine ldS_rd1 ha_ ?_ | refine ldS_rd2 ha_ ?_ | refine ldS_rd3 ha_ ?_ | refine ldS_rd4 ha_ ?_ | refine ldS_rd5 ha_ ?_ | fail) | ((with_reducible refine isKeep ?_); first | refine keep_of hs ?_ | refine keep_imp hs ?_ | fail) | ((with_reducible refine isWhen ?_); first | refine when_om ?_ | fail) | ((with_reducible refine isDraw ?_); first | refine drawW_sat hs fun w hs => ?_ | fail))
      simp only [Int.toNat_natCast]
      refine call1_of (tab_Delete hs (by omega) hmi) fun e w ⟨he, hs⟩ => ⟨_, he, ?_⟩
      rw [i64_in _ (by omega)]
      rw [← gone_snoc hil] at hs
      have hs := jg_shut tb hs
      exact ih (i + 1) w (by omega) (by exact Sat.fin hs)
  exact ⟨gone.length + 1, loop gone.length 0 w (by omega) hs⟩
theorem jg_See [hO : AtO L W] (hs : Sat W w (jgR b sh s :: L)) (hj : JOk s) (hl : s.T.length < 700000000) (hn0 : okK .i64 o.n) (hr : ReadsR0 W sl Rec.str gone) (hg : ∀ g ∈ gone, g.size ≤ 40) (hn : gone.length ≤ 30) (hz : o.key.size ≤ 40) :
    Calls Try.prog id_judge_Judge_See #[.pointer (some ⟨b, 0, none⟩), .agg #[.int .i64 o.kind, .string o.key, .string o.val, .int .i64 o.n], .agg #[.int .i64 err, .bool hit, .string val, .slice sl.a sl.n sl.c]] w fun e w' =>
      e = .returned (.bool (jSays sh s o err hit val gone)) ∧ Sat W w' (jgR b sh (jNext s o err gone) :: L) := by
  refine c1 (judge_Judge_See_calls ?_)
  rw [judge_Judge_See_def, judge_Judge_See_raw]
  have hlen := hr.1
  refine newB_at hs fun ob w hs => ?_
  refine newB_at hs fun rb w hs => ?_
  refine ite_false rfl ?_
  unfold jSays jNext
  repeat (first | with_reducible refine nilck_some ?_ | ((with_reducible refine atLd ?_); first | refine ld_b hs ?_ | refine ld_b (x := ⟨_, _, _⟩) hs ?_ | refine ld_r0 hs ?_ | refine ld_r1 hs ?_ | refine ld_r2 hs ?_ | refine ld_r3 hs ?_ | refine ld_r4 hs ?_ | refine ld_rd0 ha_ hs ?_ | refine ld_rd1 ha_ hs ?_ | refine ld_rd2 ha_ hs ?_ | refine ld_rd3 ha_ hs ?_ | refine ld_rd4 ha_ hs ?_ | refine ld_rd5 ha_ hs ?_ | fail) | ((with_reducible refine isSt ?_); first | refine st_b hs fun w hs => ?_ | refine st_rec5 hs fun w hs => ?_ | refine st_rec4 hs fun w hs => ?_ | refine st_rec3 hs fun w hs => ?_ | refine st_rec2 hs fun w hs => ?_ | refine st_r0 hs fun w hs => ?_ | refine st_r1 hs fun w hs => ?_ | fail) | ((with_reducible refine isIdx ?_); first | refine idx_s hs fun b_ o_ hs => ?_ | refine idx_a hs ?_ | refine idx_rd hs fun b_ o_ ha_ => ?_ | fail) | ((with_reducible refine isNew ?_); first | refine newB_at hs fun b_ w hs => ?_ | fail) | ((with_reducible refine isLdS ?_); first | refine ldS_b ?_ | refine ldS_b (x := ⟨_, _, _⟩) ?_ | refine ldS_r0 ?_ | refine ldS_r1 ?_ | refine ldS_r2 ?_ | refine ldS_r3 ?_ | refine ldS_rs0 hs ?_ | refine ldS_rs1 hs ?_ | refine ldS_rs2 hs ?_ | refine ldS_rs3 hs ?_ | refine ldS_rd0 ha_ ?_ | refine ldS_rd1 ha_ ?_ | refine ldS_rd2 ha_ ?_ | refine ldS_rd3 ha_ ?_ | refine ldS_rd4 ha_ ?_ | refine ldS_rd5 ha_ ?_ | fail) | ((with_reducible refine isKeep ?_); first | refine keep_of hs ?_ | refine keep_imp hs ?_ | fail) | ((with_reducible refine isWhen ?_); first | refine when_om ?_ | fail) | ((with_reducible refine isDraw ?_); first | refine drawW_sat hs fun w hs => ?_ | fail))
  (first | with_reducible refine ite_ltI (fun he => ?_) (fun he => ?_) | with_reducible refine ite_leI (fun he => ?_) (fun he => ?_) | with_reducible refine ite_gtI (fun he => ?_) (fun he => ?_) | with_reducible refine ite_geI (fun he => ?_) (fun he => ?_) | with_reducible refine ite_eqI (fun he => ?_) (fun he => ?_) | with_reducible refine ite_neI (fun he => ?_) (fun he => ?_) | with_reducible refine ite_eqS (fun he => ?_) (fun he => ?_) | with_reducible refine ite_neS (fun he => ?_) (fun he => ?_) | with_reducible refine ite_dec (fun he => ?_) (fun he => ?_) | with_reducible refine ite_ndec (fun he => ?_) (fun he => ?_) | with_reducible refine ite_some (fun i_ he => ?_) (fun he => ?_) | with_reducible refine ite_nsome (fun he => ?_) (fun i_ he => ?_) | with_reducible refine ite_cases (fun he => ?_) (fun he => ?_))
  · rw [if_pos he, if_pos he]
    repeat (first | with_reducible refine nilck_some ?_ | ((with_reducible refine atLd ?_); first | refine ld_b hs ?_ | refine ld_b (x := ⟨_, _, _⟩) hs ?_ | refine ld_r0 hs ?_ | refine ld_r1 hs ?_ | refine ld_r2 hs ?_ | refine ld_r3 hs ?_ | refine ld_r4 hs ?_ | refine ld_rd0 ha_ hs ?_ | refine ld_rd1 ha_ hs ?_ | refine ld_rd2 ha_ hs ?_ | refine ld_rd3 ha_ hs ?_ | refine ld_rd4 ha_ hs ?_ | refine ld_rd5 ha_ hs ?_ | fail) | ((with_reducible refine isSt ?_); first | refine st_b hs fun w hs => ?_ | refine st_rec5 hs fun w hs => ?_ | refine st_rec4 hs fun w hs => ?_ | refine st_rec3 hs fun w hs => ?_ | refine st_rec2 hs fun w hs => ?_ | refine st_r0 hs fun w hs => ?_ | refine st_r1 hs fun w hs => ?_ | fail) | ((with_reducible refine isIdx ?_); first | refine idx_s hs fun b_ o_ hs => ?_ | refine idx_a hs ?_ | refine idx_rd hs fun b_ o_ ha_ => ?_ | fail) | ((with_reducible refine isNew ?_); first | refine newB_at hs fun b_ w hs => ?_ | fail) | ((with_reducible refine isLdS ?_); first | refine ldS_b ?_ | refine ldS_b (x := ⟨_, _, _⟩) ?_ | refine ldS_r0 ?_ | refine ldS_r1 ?_ | refine ldS_r2 ?_ | refine ldS_r3 ?_ | refine ldS_rs0 hs ?_ | refine ldS_rs1 hs ?_ | refine ldS_rs2 hs ?_ | refine ldS_rs3 hs ?_ | refine ldS_rd0 ha_ ?_ | refine ldS_rd1 ha_ ?_ | refine ldS_rd2 ha_ ?_ | refine ldS_rd3 ha_ ?_ | refine ldS_rd4 ha_ ?_ | refine ldS_rd5 ha_ ?_ | fail) | ((with_reducible refine isKeep ?_); first | refine keep_of hs ?_ | refine keep_imp hs ?_ | fail) | ((with_reducible refine isWhen ?_); first | refine when_om ?_ | fail) | ((with_reducible refine isDraw ?_); first | refine drawW_sat hs fun w hs => ?_ | fail))
    have hj0 : (⟨s.T, s.now, s.room⟩ : JS) = s := rfl
    cases hit with
    | true => exact ⟨by simp, by exact Sat.fin hs⟩
    | false =>
      refine ite_true rfl ?_
      repeat (first | with_reducible refine nilck_some ?_ | ((with_reducible refine atLd ?_); first | refine ld_b hs ?_ | refine ld_b (x := ⟨_, _, _⟩) hs ?_ | refine ld_r0 hs ?_ | refine ld_r1 hs ?_ | refine ld_r2 hs ?_ | refine ld_r3 hs ?_ | refine ld_r4 hs ?_ | refine ld_rd0 ha_ hs ?_ | refine ld_rd1 ha_ hs ?_ | refine ld_rd2 ha_ hs ?_ | refine ld_rd3 ha_ hs ?_ | refine ld_rd4 ha_ hs ?_ | refine ld_rd5 ha_ hs ?_ | fail) | ((with_reducible refine isSt ?_); first | refine st_b hs fun w hs => ?_ | refine st_rec5 hs fun w hs => ?_ | refine st_rec4 hs fun w hs => ?_ | refine st_rec3 hs fun w hs => ?_ | refine st_rec2 hs fun w hs => ?_ | refine st_r0 hs fun w hs => ?_ | refine st_r1 hs fun w hs => ?_ | fail) | ((with_reducible refine isIdx ?_); first | refine idx_s hs fun b_ o_ hs => ?_ | refine idx_a hs ?_ | refine idx_rd hs fun b_ o_ ha_ => ?_ | fail) | ((with_reducible refine isNew ?_); first | refine newB_at hs fun b_ w hs => ?_ | fail) | ((with_reducible refine isLdS ?_); first | refine ldS_b ?_ | refine ldS_b (x := ⟨_, _, _⟩) ?_ | refine ldS_r0 ?_ | refine ldS_r1 ?_ | refine ldS_r2 ?_ | refine ldS_r3 ?_ | refine ldS_rs0 hs ?_ | refine ldS_rs1 hs ?_ | refine ldS_rs2 hs ?_ | refine ldS_rs3 hs ?_ | refine ldS_rd0 ha_ ?_ | refine ldS_rd1 ha_ ?_ | refine ldS_rd2 ha_ ?_ | refine ldS_rd3 ha_ ?_ | refine ldS_rd4 ha_ ?_ | refine ldS_rd5 ha_ ?_ | fail) | ((with_reducible refine isKeep ?_); first | refine keep_of hs ?_ | refine keep_imp hs ?_ | fail) | ((with_reducible refine isWhen ?_); first | refine when_om ?_ | fail) | ((with_reducible refine isDraw ?_); first | refine drawW_sat hs fun w hs => ?_ | fail))
      cases hv : sEq val str_empty with
      | false =>
        refine ite_false rfl ⟨?_, by exact Sat.fin hs⟩
        rw [sEq_eq] at hv
        have : (decide (val = ⟨#[]⟩)) = false := hv
        rw [this]; simp
      | true =>
        refine ite_true rfl ?_
        repeat (first | with_reducible refine nilck_some ?_ | ((with_reducible refine atLd ?_); first | refine ld_b hs ?_ | refine ld_b (x := ⟨_, _, _⟩) hs ?_ | refine ld_r0 hs ?_ | refine ld_r1 hs ?_ | refine ld_r2 hs ?_ | refine ld_r3 hs ?_ | refine ld_r4 hs ?_ | refine ld_rd0 ha_ hs ?_ | refine ld_rd1 ha_ hs ?_ | refine ld_rd2 ha_ hs ?_ | refine ld_rd3 ha_ hs ?_ | refine ld_rd4 ha_ hs ?_ | refine ld_rd5 ha_ hs ?_ | fail) | ((with_reducible refine isSt ?_); first | refine st_b hs fun w hs => ?_ | refine st_rec5 hs fun w hs => ?_ | refine st_rec4 hs fun w hs => ?_ | refine st_rec3 hs fun w hs => ?_ | refine st_rec2 hs fun w hs => ?_ | refine st_r0 hs fun w hs => ?_ | refine st_r1 hs fun w hs => ?_ | fail) | ((with_reducible refine isIdx ?_); first | refine idx_s hs fun b_ o_ hs => ?_ | refine idx_a hs ?_ | refine idx_rd hs fun b_ o_ ha_ => ?_ | fail) | ((with_reducible refine isNew ?_); first | refine newB_at hs fun b_ w hs => ?_ | fail) | ((with_reducible refine isLdS ?_); first | refine ldS_b ?_ | refine ldS_b (x := ⟨_, _, _⟩) ?_ | refine ldS_r0 ?_ | refine ldS_r1 ?_ | refine ldS_r2 ?_ | refine ldS_r3 ?_ | refine ldS_rs0 hs ?_ | refine ldS_rs1 hs ?_ | refine ldS_rs2 hs ?_ | refine ldS_rs3 hs ?_ | refine ldS_rd0 ha_ ?_ | refine ldS_rd1 ha_ ?_ | refine ldS_rd2 ha_ ?_ | refine ldS_rd3 ha_ ?_ | refine ldS_rd4 ha_ ?_ | refine ldS_rd5 ha_ ?_ | fail) | ((with_reducible refine isKeep ?_); first | refine keep_of hs ?_ | refine keep_imp hs ?_ | fail) | ((with_reducible refine isWhen ?_); first | refine when_om ?_ | fail) | ((with_reducible refine isDraw ?_); first | refine drawW_sat hs fun w hs => ?_ | fail))
        refine ⟨?_, by exact Sat.fin hs⟩
        rw [sEq_eq] at hv
        have : (decide (val = ⟨#[]⟩)) = true := hv
        rw [this, hlen]
        congr 1
        rw [Bool.eq_iff_iff]
        simp
  have he : ¬ err ≠ 0 := fun h => h he
  rw [if_neg he, if_neg he]
  have hnow := jNow_in (o := o) hj.now0 hj.nowM
  -- what was done is noted; is it too much?
  have j3 : ∀ (ok : Bool) (w : World), ok = (jRight s.T (jNow s.now o) o.kind o.key hit val && jGoes s.T (jNow s.now o) o.kind gone) →
      Sat W w (blk rb [.int .i64 err, .bool hit, .string val, .slice sl.a sl.n sl.c] :: blk ob [.int .i64 o.kind, .string o.key, .string o.val, .int .i64 o.n] :: jgR b sh ⟨s.T, jNow s.now o, s.room⟩ :: L) →
      judge_Judge_See_j3 idJ (fun v w' => v = .bool ((jRight s.T (jNow s.now o) o.kind o.key hit val && jGoes s.T (jNow s.now o) o.kind gone) && jFits (jNotes s.T (jNow s.now o) o gone) sh (jRoom s.room o)) ∧ Sat W w' (jgR b sh ⟨jNotes s.T (jNow s.now o) o gone, jNow s.now o, jRoom s.room o⟩ :: L)) (some ⟨b, 0, none⟩) ob 0 rb 0 ok w := by
    intro ok w hok hs
    rw [judge_Judge_See_j3_def, judge_Judge_See_j3_raw, ← hok]
    repeat (first | with_reducible refine nilck_some ?_ | ((with_reducible refine atLd ?_); first | refine ld_b hs ?_ | refine ld_b (x := ⟨_, _, _⟩) hs ?_ | refine ld_r0 hs ?_ | refine ld_r1 hs ?_ | refine ld_r2 hs ?_ | refine ld_r3 hs ?_ | refine ld_r4 hs ?_ | refine ld_rd0 ha_ hs ?_ | refine ld_rd1 ha_ hs ?_ | refine ld_rd2 ha_ hs ?_ | refine ld_rd3 ha_ hs ?_ | refine ld_rd4 ha_ hs ?_ | refine ld_rd5 ha_ hs ?_ | fail) | ((with_reducible refine isSt ?_); first | refine st_b hs fun w hs => ?_ | refine st_rec5 hs fun w hs => ?_ | refine st_rec4 hs fun w hs => ?_ | refine st_rec3 hs fun w hs => ?_ | refine st_rec2 hs fun w hs => ?_ | refine st_r0 hs fun w hs => ?_ | refine st_r1 hs fun w hs => ?_ | fail) | ((with_reducible refine isIdx ?_); first | refine idx_s hs fun b_ o_ hs => ?_ | refine idx_a hs ?_ | refine idx_rd hs fun b_ o_ ha_ => ?_ | fail) | ((with_reducible refine isNew ?_); first | refine newB_at hs fun b_ w hs => ?_ | fail) | ((with_reducible refine isLdS ?_); first | refine ldS_b ?_ | refine ldS_b (x := ⟨_, _, _⟩) ?_ | refine ldS_r0 ?_ | refine ldS_r1 ?_ | refine ldS_r2 ?_ | refine ldS_r3 ?_ | refine ldS_rs0 hs ?_ | refine ldS_rs1 hs ?_ | refine ldS_rs2 hs ?_ | refine ldS_rs3 hs ?_ | refine ldS_rd0 ha_ ?_ | refine ldS_rd1 ha_ ?_ | refine ldS_rd2 ha_ ?_ | refine ldS_rd3 ha_ ?_ | refine ldS_rd4 ha_ ?_ | refine ldS_rd5 ha_ ?_ | fail) | ((with_reducible refine isKeep ?_); first | refine keep_of hs ?_ | refine keep_imp hs ?_ | fail) | ((with_reducible refine isWhen ?_); first | refine when_om ?_ | fail) | ((with_reducible refine isDraw ?_); first | refine drawW_sat hs fun w hs => ?_ | fail))
    have hs : Sat W w (jgR b sh ⟨s.T, jNow s.now o, s.room⟩ :: blk rb [.int .i64 err, .bool hit, .string val, .slice sl.a sl.n sl.c] :: blk ob [.int .i64 o.kind, .string o.key, .string o.val, .int .i64 o.n] :: L) := by exact Sat.fin hs
    refine call0_of (jg_notes hs hj.tok hl hr hg hn hz) fun e w ⟨he, hs⟩ => ⟨he, ?_⟩
    refine ite_cases (fun h => ?_) (fun h => ?_)
    · refine call1_of (jg_fits hs) fun e w ⟨he, hs⟩ => ⟨_, he, ?_⟩
      exact ⟨by rw [h]; rfl, by exact Sat.fin hs⟩
    · exact ⟨by rw [h]; rfl, by exact Sat.fin hs⟩
  have j2 : ∀ (w : World), Sat W w (blk rb [.int .i64 err, .bool hit, .string val, .slice sl.a sl.n sl.c] :: blk ob [.int .i64 o.kind, .string o.key, .string o.val, .int .i64 o.n] :: jgR b sh ⟨s.T, jNow s.now o, s.room⟩ :: L) →
      judge_Judge_See_j2 idJ (fun v w' => v = .bool ((jRight s.T (jNow s.now o) o.kind o.key hit val && jGoes s.T (jNow s.now o) o.kind gone) && jFits (jNotes s.T (jNow s.now o) o gone) sh (jRoom s.room o)) ∧ Sat W w' (jgR b sh ⟨jNotes s.T (jNow s.now o) o gone, jNow s.now o, jRoom s.room o⟩ :: L)) (some ⟨b, 0, none⟩) ob 0 rb 0 w := by
    intro w hs
    rw [judge_Judge_See_j2_def, judge_Judge_See_j2_raw]
    repeat (first | with_reducible refine nilck_some ?_ | ((with_reducible refine atLd ?_); first | refine ld_b hs ?_ | refine ld_b (x := ⟨_, _, _⟩) hs ?_ | refine ld_r0 hs ?_ | refine ld_r1 hs ?_ | refine ld_r2 hs ?_ | refine ld_r3 hs ?_ | refine ld_r4 hs ?_ | refine ld_rd0 ha_ hs ?_ | refine ld_rd1 ha_ hs ?_ | refine ld_rd2 ha_ hs ?_ | refine ld_rd3 ha_ hs ?_ | refine ld_rd4 ha_ hs ?_ | refine ld_rd5 ha_ hs ?_ | fail) | ((with_reducible refine isSt ?_); first | refine st_b hs fun w hs => ?_ | refine st_rec5 hs fun w hs => ?_ | refine st_rec4 hs fun w hs => ?_ | refine st_rec3 hs fun w hs => ?_ | refine st_rec2 hs fun w hs => ?_ | refine st_r0 hs fun w hs => ?_ | refine st_r1 hs fun w hs => ?_ | fail) | ((with_reducible refine isIdx ?_); first | refine idx_s hs fun b_ o_ hs => ?_ | refine idx_a hs ?_ | refine idx_rd hs fun b_ o_ ha_ => ?_ | fail) | ((with_reducible refine isNew ?_); first | refine newB_at hs fun b_ w hs => ?_ | fail) | ((with_reducible refine isLdS ?_); first | refine ldS_b ?_ | refine ldS_b (x := ⟨_, _, _⟩) ?_ | refine ldS_r0 ?_ | refine ldS_r1 ?_ | refine ldS_r2 ?_ | refine ldS_r3 ?_ | refine ldS_rs0 hs ?_ | refine ldS_rs1 hs ?_ | refine ldS_rs2 hs ?_ | refine ldS_rs3 hs ?_ | refine ldS_rd0 ha_ ?_ | refine ldS_rd1 ha_ ?_ | refine ldS_rd2 ha_ ?_ | refine ldS_rd3 ha_ ?_ | refine ldS_rd4 ha_ ?_ | refine ldS_rd5 ha_ ?_ | fail) | ((with_reducible refine isKeep ?_); first | refine keep_of hs ?_ | refine keep_imp hs ?_ | fail) | ((with_reducible refine isWhen ?_); first | refine when_om ?_ | fail) | ((with_reducible refine isDraw ?_); first | refine drawW_sat hs fun w hs => ?_ | fail))
    refine call1_of (jg_tells (err := err) (hit := hit) (val := val) (sl := sl) hs (by omega)) fun e w ⟨he, hs⟩ => ⟨_, he, ?_⟩
    refine ite_cases (fun h => ?_) (fun h => ?_)
    · have h : jRight s.T (jNow s.now o) o.kind o.key hit val = true := h
      repeat (first | with_reducible refine nilck_some ?_ | ((with_reducible refine atLd ?_); first | refine ld_b hs ?_ | refine ld_b (x := ⟨_, _, _⟩) hs ?_ | refine ld_r0 hs ?_ | refine ld_r1 hs ?_ | refine ld_r2 hs ?_ | refine ld_r3 hs ?_ | refine ld_r4 hs ?_ | refine ld_rd0 ha_ hs ?_ | refine ld_rd1 ha_ hs ?_ | refine ld_rd2 ha_ hs ?_ | refine ld_rd3 ha_ hs ?_ | refine ld_rd4 ha_ hs ?_ | refine ld_rd5 ha_ hs ?_ | fail) | ((with_reducible refine isSt ?_); first | refine st_b hs fun w hs => ?_ | refine st_rec5 hs fun w hs => ?_ | refine st_rec4 hs fun w hs => ?_ | refine st_rec3 hs fun w hs => ?_ | refine st_rec2 hs fun w hs => ?_ | refine st_r0 hs fun w hs => ?_ | refine st_r1 hs fun w hs => ?_ | fail) | ((with_reducible refine isIdx ?_); first | refine idx_s hs fun b_ o_ hs => ?_ | refine idx_a hs ?_ | refine idx_rd hs fun b_ o_ ha_ => ?_ | fail) | ((with_reducible refine isNew ?_); first | refine newB_at hs fun b_ w hs => ?_ | fail) | ((with_reducible refine isLdS ?_); first | refine ldS_b ?_ | refine ldS_b (x := ⟨_, _, _⟩) ?_ | refine ldS_r0 ?_ | refine ldS_r1 ?_ | refine ldS_r2 ?_ | refine ldS_r3 ?_ | refine ldS_rs0 hs ?_ | refine ldS_rs1 hs ?_ | refine ldS_rs2 hs ?_ | refine ldS_rs3 hs ?_ | refine ldS_rd0 ha_ ?_ | refine ldS_rd1 ha_ ?_ | refine ldS_rd2 ha_ ?_ | refine ldS_rd3 ha_ ?_ | refine ldS_rd4 ha_ ?_ | refine ldS_rd5 ha_ ?_ | fail) | ((with_reducible refine isKeep ?_); first | refine keep_of hs ?_ | refine keep_imp hs ?_ | fail) | ((with_reducible refine isWhen ?_); first | refine when_om ?_ | fail) | ((with_reducible refine isDraw ?_); first | refine drawW_sat hs fun w hs => ?_ | fail))
      have hs : Sat W w (jgR b sh ⟨s.T, jNow s.now o, s.room⟩ :: blk rb [.int .i64 err, .bool hit, .string val, .slice sl.a sl.n sl.c] :: blk ob [.int .i64 o.kind, .string o.key, .string o.val, .int .i64 o.n] :: L) := by exact Sat.fin hs
      refine call1_of (jg_goes (kind := o.kind) hs hr hg hn) fun e w ⟨he, hs⟩ => ⟨_, he, ?_⟩
      with_reducible refine j3 _ w ?_ (by exact Sat.fin hs)
      rw [h, Bool.true_and]
    · have h : jRight s.T (jNow s.now o) o.kind o.key hit val = false := h
      with_reducible refine j3 _ w ?_ hs
      rw [h, Bool.false_and]
  have j1 : ∀ (t : Bool) (w : World), (t = true ↔ (o.kind = 4 ∧ 0 < o.n)) → Sat W w (blk rb [.int .i64 err, .bool hit, .string val, .slice sl.a sl.n sl.c] :: blk ob [.int .i64 o.kind, .string o.key, .string o.val, .int .i64 o.n] :: jgR b sh s :: L) →
      judge_Judge_See_j1 idJ (fun v w' => v = .bool ((jRight s.T (jNow s.now o) o.kind o.key hit val && jGoes s.T (jNow s.now o) o.kind gone) && jFits (jNotes s.T (jNow s.now o) o gone) sh (jRoom s.room o)) ∧ Sat W w' (jgR b sh ⟨jNotes s.T (jNow s.now o) o gone, jNow s.now o, jRoom s.room o⟩ :: L)) (some ⟨b, 0, none⟩) ob 0 rb 0 t w := by
    intro t w ht hs
    rw [judge_Judge_See_j1_def, judge_Judge_See_j1_raw]
    refine ite_cases (fun h => ?_) (fun h => ?_)
    · have hk := ht.1 h
      have hs : Sat W w (jgR b sh s :: blk rb [.int .i64 err, .bool hit, .string val, .slice sl.a sl.n sl.c] :: blk ob [.int .i64 o.kind, .string o.key, .string o.val, .int .i64 o.n] :: L) := by exact Sat.fin hs
      obtain ⟨tb, hs⟩ := jg_open hs
      have h0 := hj.now0
      have h1 := hj.nowM
      repeat (first | with_reducible refine nilck_some ?_ | ((with_reducible refine atLd ?_); first | refine ld_b hs ?_ | refine ld_b (x := ⟨_, _, _⟩) hs ?_ | refine ld_r0 hs ?_ | refine ld_r1 hs ?_ | refine ld_r2 hs ?_ | refine ld_r3 hs ?_ | refine ld_r4 hs ?_ | refine ld_rd0 ha_ hs ?_ | refine ld_rd1 ha_ hs ?_ | refine ld_rd2 ha_ hs ?_ | refine ld_rd3 ha_ hs ?_ | refine ld_rd4 ha_ hs ?_ | refine ld_rd5 ha_ hs ?_ | fail) | ((with_reducible refine isSt ?_); first | refine st_b hs fun w hs => ?_ | refine st_rec5 hs fun w hs => ?_ | refine st_rec4 hs fun w hs => ?_ | refine st_rec3 hs fun w hs => ?_ | refine st_rec2 hs fun w hs => ?_ | refine st_r0 hs fun w hs => ?_ | refine st_r1 hs fun w hs => ?_ | fail) | ((with_reducible refine isIdx ?_); first | refine idx_s hs fun b_ o_ hs => ?_ | refine idx_a hs ?_ | refine idx_rd hs fun b_ o_ ha_ => ?_ | fail) | ((with_reducible refine isNew ?_); first | refine newB_at hs fun b_ w hs => ?_ | fail) | ((with_reducible refine isLdS ?_); first | refine ldS_b ?_ | refine ldS_b (x := ⟨_, _, _⟩) ?_ | refine ldS_r0 ?_ | refine ldS_r1 ?_ | refine ldS_r2 ?_ | refine ldS_r3 ?_ | refine ldS_rs0 hs ?_ | refine ldS_rs1 hs ?_ | refine ldS_rs2 hs ?_ | refine ldS_rs3 hs ?_ | refine ldS_rd0 ha_ ?_ | refine ldS_rd1 ha_ ?_ | refine ldS_rd2 ha_ ?_ | refine ldS_rd3 ha_ ?_ | refine ldS_rd4 ha_ ?_ | refine ldS_rd5 ha_ ?_ | fail) | ((with_reducible refine isKeep ?_); first | refine keep_of hs ?_ | refine keep_imp hs ?_ | fail) | ((with_reducible refine isWhen ?_); first | refine when_om ?_ | fail) | ((with_reducible refine isDraw ?_); first | refine drawW_sat hs fun w hs => ?_ | fail))
      have hs := jg_shut tb hs
      refine j2 w ?_
      have e : IntKind.wrap .i64 (s.now + (if (IntKind.wrap .i64 ((1125899906842624 : Int) - s.now)) < o.n then (IntKind.wrap .i64 ((1125899906842624 : Int) - s.now)) else o.n)) = jNow s.now o := by
        rw [i64_in (1125899906842624 - s.now) (by omega)]
        unfold jNow
        rw [if_pos hk]
        split
        · rw [i64_in _ (by omega)]; omega
        · rw [i64_in _ (by omega)]; omega
      rw [e] at hs
      exact Sat.fin hs
    · have hk : ¬ (o.kind = 4 ∧ 0 < o.n) := fun hk => by rw [ht.2 hk] at h; cases h
      have e : jNow s.now o = s.now := by unfold jNow; rw [if_neg hk]
      refine j2 w ?_
      rw [e]
      exact hs
  repeat (first | with_reducible refine nilck_some ?_ | ((with_reducible refine atLd ?_); first | refine ld_b hs ?_ | refine ld_b (x := ⟨_, _, _⟩) hs ?_ | refine ld_r0 hs ?_ | refine ld_r1 hs ?_ | refine ld_r2 hs ?_ | refine ld_r3 hs ?_ | refine ld_r4 hs ?_ | refine ld_rd0 ha_ hs ?_ | refine ld_rd1 ha_ hs ?_ | refine ld_rd2 ha_ hs ?_ | refine ld_rd3 ha_ hs ?_ | refine ld_rd4 ha_ hs ?_ | refine ld_rd5 ha_ hs ?_ | fail) | ((with_reducible refine isSt ?_); first | refine st_b hs fun w hs => ?_ | refine st_rec5 hs fun w hs => ?_ | refine st_rec4 hs fun w hs => ?_ | refine st_rec3 hs fun w hs => ?_ | refine st_rec2 hs fun w hs => ?_ | refine st_r0 hs fun w hs => ?_ | refine st_r1 hs fun w hs => ?_ | fail) | ((with_reducible refine isIdx ?_); first | refine idx_s hs fun b_ o_ hs => ?_ | refine idx_a hs ?_ | refine idx_rd hs fun b_ o_ ha_ => ?_ | fail) | ((with_reducible refine isNew ?_); first | refine newB_at hs fun b_ w hs => ?_ | fail) | ((with_reducible refine isLdS ?_); first | refine ldS_b ?_ | refine ldS_b (x := ⟨_, _, _⟩) ?_ | refine ldS_r0 ?_ | refine ldS_r1 ?_ | refine ldS_r2 ?_ | refine ldS_r3 ?_ | refine ldS_rs0 hs ?_ | refine ldS_rs1 hs ?_ | refine ldS_rs2 hs ?_ | refine ldS_rs3 hs ?_ | refine ldS_rd0 ha_ ?_ | refine ldS_rd1 ha_ ?_ | refine ldS_rd2 ha_ ?_ | refine ldS_rd3 ha_ ?_ | refine ldS_rd4 ha_ ?_ | refine ldS_rd5 ha_ ?_ | fail) | ((with_reducible refine isKeep ?_); first | refine keep_of hs ?_ | refine keep_imp hs ?_ | fail) | ((with_reducible refine isWhen ?_); first | refine when_om ?_ | fail) | ((with_reducible refine isDraw ?_); first | refine drawW_sat hs fun w hs => ?_ | fail))
  (first | with_reducible refine ite_ltI (fun h1 => ?_) (fun h1 => ?_) | with_reducible refine ite_leI (fun h1 => ?_) (fun h1 => ?_) | with_reducible refine ite_gtI (fun h1 => ?_) (fun h1 => ?_) | with_reducible refine ite_geI (fun h1 => ?_) (fun h1 => ?_) | with_reducible refine ite_eqI (fun h1 => ?_) (fun h1 => ?_) | with_reducible refine ite_neI (fun h1 => ?_) (fun h1 => ?_) | with_reducible refine ite_eqS (fun h1 => ?_) (fun h1 => ?_) | with_reducible refine ite_neS (fun h1 => ?_) (fun h1 => ?_) | with_reducible refine ite_dec (fun h1 => ?_) (fun h1 => ?_) | with_reducible refine ite_ndec (fun h1 => ?_) (fun h1 => ?_) | with_reducible refine ite_some (fun i_ h1 => ?_) (fun h1 => ?_) | with_reducible refine ite_nsome (fun h1 => ?_) (fun i_ h1 => ?_) | with_reducible refine ite_cases (fun h1 => ?_) (fun h1 => ?_))
  · repeat (first | with_reducible refine nilck_some ?_ | ((with_reducible refine atLd ?_); first | refine ld_b hs ?_ | refine ld_b (x := ⟨_, _, _⟩) hs ?_ | refine ld_r0 hs ?_ | refine ld_r1 hs ?_ | refine ld_r2 hs ?_ | refine ld_r3 hs ?_ | refine ld_r4 hs ?_ | refine ld_rd0 ha_ hs ?_ | refine ld_rd1 ha_ hs ?_ | refine ld_rd2 ha_ hs ?_ | refine ld_rd3 ha_ hs ?_ | refine ld_rd4 ha_ hs ?_ | refine ld_rd5 ha_ hs ?_ | fail) | ((with_reducible refine isSt ?_); first | refine st_b hs fun w hs => ?_ | refine st_rec5 hs fun w hs => ?_ | refine st_rec4 hs fun w hs => ?_ | refine st_rec3 hs fun w hs => ?_ | refine st_rec2 hs fun w hs => ?_ | refine st_r0 hs fun w hs => ?_ | refine st_r1 hs fun w hs => ?_ | fail) | ((with_reducible refine isIdx ?_); first | refine idx_s hs fun b_ o_ hs => ?_ | refine idx_a hs ?_ | refine idx_rd hs fun b_ o_ ha_ => ?_ | fail) | ((with_reducible refine isNew ?_); first | refine newB_at hs fun b_ w hs => ?_ | fail) | ((with_reducible refine isLdS ?_); first | refine ldS_b ?_ | refine ldS_b (x := ⟨_, _, _⟩) ?_ | refine ldS_r0 ?_ | refine ldS_r1 ?_ | refine ldS_r2 ?_ | refine ldS_r3 ?_ | refine ldS_rs0 hs ?_ | refine ldS_rs1 hs ?_ | refine ldS_rs2 hs ?_ | refine ldS_rs3 hs ?_ | refine ldS_rd0 ha_ ?_ | refine ldS_rd1 ha_ ?_ | refine ldS_rd2 ha_ ?_ | refine ldS_rd3 ha_ ?_ | refine ldS_rd4 ha_ ?_ | refine ldS_rd5 ha_ ?_ | fail) | ((with_reducible refine isKeep ?_); first | refine keep_of hs ?_ | refine keep_imp hs ?_ | fail) | ((with_reducible refine isWhen ?_); first | refine when_om ?_ | fail) | ((with_reducible refine isDraw ?_); first | refine drawW_sat hs fun w hs => ?_ | fail))
    with_reducible refine j1 _ w ?_ hs
    rw [decide_eq_true_eq]
    constructor
    · intro h; exact ⟨h1, h⟩
    · intro h; exact h.2
  · with_reducible refine j1 _ w ?_ hs
    constructor
    · intro h; cases h
    · intro h; exact absurd h.1 h1
end
end Go.Proofs.Ytnmlaenfaiacfaa
