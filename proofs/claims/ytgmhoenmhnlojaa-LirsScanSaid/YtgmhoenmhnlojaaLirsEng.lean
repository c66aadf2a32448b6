/- lirs.Engine: the walk of its inner steps. -/
import Derived.Test.YtgmhoenmhnlojaaLirsRows
import Derived.Test.YtgmhoenmhnlojaaLirsNote
set_option linter.unusedVariables false
set_option linter.unusedSimpArgs false
set_option linter.unnecessarySimpa false
set_option linter.unusedSectionVars false
namespace Go.Proofs.Ytgmhoenmhnlojaa
open Go.Hb Go.IntWalk
section
variable {W w : World} {L M : List HP} {F : HP → List HP} {b nb tb : Nat} {c : Int} {N N' : Nat} {x y : LirsS} {sb qb xb : Nat} {row sr sr' qr qr' : LRow} {free sf sf' qf qf' : List Nat} {m : LM} {key : ByteArray} {h g i : Int}
theorem lirs_lowest_loop {Q : Value → WP} (hi : LX N x sr sf qr qf m) (hn : (sr.map (·.1)).Nodup) (hp : ∀ e ∈ sr, 0 < e.1)
    (hQ : ∀ w, Sat W w (eB b c sb qb xb h g :: lst .string sb sr sf :: lst .string qb qr qf :: ixr Rec.iii xb 0 m :: M) →
      Q (.tuple #[.string (lLow m (lFirst x.s i)).1, .agg #[.int .i64 (lLow m (lFirst x.s i)).2.1, .int .i64 (lLow m (lFirst x.s i)).2.2.1, .int .i64 (lLow m (lFirst x.s i)).2.2.2]]) w) :
    ∀ (d j : Nat) (w : World), j + d = sr.length → lFirst (x.s.drop j) i = lFirst x.s i →
      Sat W w (blk tb [.int .i64 0, .int .i64 0, .int .i64 0] :: eB b c sb qb xb h g :: lst .string sb sr sf :: lst .string qb qr qf :: ixr Rec.iii xb 0 m :: M) →
      lirs_Engine_lowest_l1 idJ Q (d + 1) (some ⟨b, 0, none⟩) i tb 0 (rowPlace sr j : Int) w := by
  have hlen : sr.length = x.s.length := by have := congrArg List.length hi.sk; simpa [lKeys] using this
  intro d
  induction d with
  | zero =>
    intro j w hj hf hs
    rw [lirs_Engine_lowest_l1_raw, rowPlace_none (by omega)]
    with_reducible refine ite_by (fun h1 => ?_) (fun h1 => ?_)
    · exact absurd rfl h1
    rw [lirs_Engine_lowest_j2_def, lirs_Engine_lowest_j2_raw]
    have e : lFirst x.s i = none := by rw [← hf, List.drop_eq_nil_of_le (by omega)]; rfl
    repeat (first | with_reducible refine nilck_some ?_ | ((with_reducible refine atLd ?_); first | refine ld_b hs ?_ | refine ld_b (x := ⟨_, _, _⟩) hs ?_ | refine ld_r0 hs ?_ | refine ld_r1 hs ?_ | refine ld_rd0 ha_ hs ?_ | refine ld_rd1 ha_ hs ?_) | ((with_reducible refine isSt ?_); first | refine st_b hs fun w hs => ?_ | refine st_r0 hs fun w hs => ?_ | refine st_r1 hs fun w hs => ?_) | ((with_reducible refine isIdx ?_); first | refine idx_s hs fun b_ o_ hs => ?_ | refine idx_rd hs fun b_ o_ ha_ => ?_) | with_reducible refine newB_at hs fun b_ w hs => ?_ | ((with_reducible refine isLdS ?_); first | refine ldS_b ?_ | refine ldS_b (x := ⟨_, _, _⟩) ?_ | refine ldS_rs0 hs ?_ | refine ldS_rd0 ha_ ?_) | ((with_reducible refine isKeep ?_); first | refine keep_of hs ?_ | refine keep_imp hs ?_) | with_reducible refine when_om ?_ | with_reducible refine drawW_sat hs fun w hs => ?_)
    have := hQ w (by exact Sat.fin hs)
    rw [e] at this
    exact this
  | succ d ih =>
    intro j w hj hf hs
    rw [lirs_Engine_lowest_l1_raw]
    have hlt : j < sr.length := by omega
    have hlt2 : j < x.s.length := by omega
    have hpl := rowPlace_of hlt
    have hpos := hp _ (List.getElem_mem hlt)
    refine ite_true (by rw [hpl]; simp; omega) ?_
    repeat (first | with_reducible refine nilck_some ?_ | ((with_reducible refine atLd ?_); first | refine ld_b hs ?_ | refine ld_b (x := ⟨_, _, _⟩) hs ?_ | refine ld_r0 hs ?_ | refine ld_r1 hs ?_ | refine ld_rd0 ha_ hs ?_ | refine ld_rd1 ha_ hs ?_) | ((with_reducible refine isSt ?_); first | refine st_b hs fun w hs => ?_ | refine st_r0 hs fun w hs => ?_ | refine st_r1 hs fun w hs => ?_) | ((with_reducible refine isIdx ?_); first | refine idx_s hs fun b_ o_ hs => ?_ | refine idx_rd hs fun b_ o_ ha_ => ?_) | with_reducible refine newB_at hs fun b_ w hs => ?_ | ((with_reducible refine isLdS ?_); first | refine ldS_b ?_ | refine ldS_b (x := ⟨_, _, _⟩) ?_ | refine ldS_rs0 hs ?_ | refine ldS_rd0 ha_ ?_) | ((with_reducible refine isKeep ?_); first | refine keep_of hs ?_ | refine keep_imp hs ?_) | with_reducible refine when_om ?_ | with_reducible refine drawW_sat hs fun w hs => ?_)
    refine call2_of (string_Get hs) fun e w ⟨he, hs⟩ => ⟨_, _, he, ?_⟩
    rw [rowVal_place hn hlt]
    rw [Option.getD_some]
    have hkey : sr[j].2 = x.s[j].1 := by
      have := congrArg (fun l : List ByteArray => l[j]?) hi.sk
      simp only [lKeys, List.getElem?_map, List.getElem?_eq_getElem hlt, List.getElem?_eq_getElem hlt2, Option.map_some, Option.some.injEq] at this
      exact this
    have hmem : x.s[j] ∈ x.s := List.getElem_mem hlt2
    have hz := hi.w.ssm _ hmem
    have his : lK x.s x.q x.s[j].1 = x.s[j].2 := lK_at hi.w hmem
    have hdrop : x.s.drop j = x.s[j] :: x.s.drop (j + 1) := List.drop_eq_getElem_cons hlt2
    have hfst : lFirst x.s i = if x.s[j].2 = i then some x.s[j].1 else lFirst (x.s.drop (j + 1)) i := by
      rw [← hf, hdrop]
      unfold lFirst
      by_cases h : x.s[j].2 = i
      · rw [if_pos h, List.find?_cons_of_pos (by simpa using h)]; rfl
      · rw [if_neg h, List.find?_cons_of_neg (by simpa using h)]
    rw [hkey]
    repeat (first | with_reducible refine nilck_some ?_ | ((with_reducible refine atLd ?_); first | refine ld_b hs ?_ | refine ld_b (x := ⟨_, _, _⟩) hs ?_ | refine ld_r0 hs ?_ | refine ld_r1 hs ?_ | refine ld_rd0 ha_ hs ?_ | refine ld_rd1 ha_ hs ?_) | ((with_reducible refine isSt ?_); first | refine st_b hs fun w hs => ?_ | refine st_r0 hs fun w hs => ?_ | refine st_r1 hs fun w hs => ?_) | ((with_reducible refine isIdx ?_); first | refine idx_s hs fun b_ o_ hs => ?_ | refine idx_rd hs fun b_ o_ ha_ => ?_) | with_reducible refine newB_at hs fun b_ w hs => ?_ | ((with_reducible refine isLdS ?_); first | refine ldS_b ?_ | refine ldS_b (x := ⟨_, _, _⟩) ?_ | refine ldS_rs0 hs ?_ | refine ldS_rd0 ha_ ?_) | ((with_reducible refine isKeep ?_); first | refine keep_of hs ?_ | refine keep_imp hs ?_) | with_reducible refine when_om ?_ | with_reducible refine drawW_sat hs fun w hs => ?_)
    refine (entry_Get hs (by omega)).mono fun e w ⟨he, hs⟩ => ⟨_, _, _, _, he, ?_⟩
    have hG : (mGet m x.s[j].1).getD ((0, 0, 0) : Int × Int × Int) = lG m x.s[j].1 := rfl
    rw [hG]
    have hG1 : (lG m x.s[j].1).1 = x.s[j].2 := by rw [hi.ent]; exact his
    repeat (first | with_reducible refine nilck_some ?_ | ((with_reducible refine atLd ?_); first | refine ld_b hs ?_ | refine ld_b (x := ⟨_, _, _⟩) hs ?_ | refine ld_r0 hs ?_ | refine ld_r1 hs ?_ | refine ld_rd0 ha_ hs ?_ | refine ld_rd1 ha_ hs ?_) | ((with_reducible refine isSt ?_); first | refine st_b hs fun w hs => ?_ | refine st_r0 hs fun w hs => ?_ | refine st_r1 hs fun w hs => ?_) | ((with_reducible refine isIdx ?_); first | refine idx_s hs fun b_ o_ hs => ?_ | refine idx_rd hs fun b_ o_ ha_ => ?_) | with_reducible refine newB_at hs fun b_ w hs => ?_ | ((with_reducible refine isLdS ?_); first | refine ldS_b ?_ | refine ldS_b (x := ⟨_, _, _⟩) ?_ | refine ldS_rs0 hs ?_ | refine ldS_rd0 ha_ ?_) | ((with_reducible refine isKeep ?_); first | refine keep_of hs ?_ | refine keep_imp hs ?_) | with_reducible refine when_om ?_ | with_reducible refine drawW_sat hs fun w hs => ?_)
    with_reducible refine ite_by (fun h1 => ?_) (fun h1 => ?_)
    · rw [hG1] at h1
      rw [if_pos h1] at hfst
      repeat (first | with_reducible refine nilck_some ?_ | ((with_reducible refine atLd ?_); first | refine ld_b hs ?_ | refine ld_b (x := ⟨_, _, _⟩) hs ?_ | refine ld_r0 hs ?_ | refine ld_r1 hs ?_ | refine ld_rd0 ha_ hs ?_ | refine ld_rd1 ha_ hs ?_) | ((with_reducible refine isSt ?_); first | refine st_b hs fun w hs => ?_ | refine st_r0 hs fun w hs => ?_ | refine st_r1 hs fun w hs => ?_) | ((with_reducible refine isIdx ?_); first | refine idx_s hs fun b_ o_ hs => ?_ | refine idx_rd hs fun b_ o_ ha_ => ?_) | with_reducible refine newB_at hs fun b_ w hs => ?_ | ((with_reducible refine isLdS ?_); first | refine ldS_b ?_ | refine ldS_b (x := ⟨_, _, _⟩) ?_ | refine ldS_rs0 hs ?_ | refine ldS_rd0 ha_ ?_) | ((with_reducible refine isKeep ?_); first | refine keep_of hs ?_ | refine keep_imp hs ?_) | with_reducible refine when_om ?_ | with_reducible refine drawW_sat hs fun w hs => ?_)
      have := hQ w (by exact Sat.fin hs)
      rw [hfst] at this
      exact this
    · rw [hG1] at h1
      rw [if_neg h1] at hfst
      repeat (first | with_reducible refine nilck_some ?_ | ((with_reducible refine atLd ?_); first | refine ld_b hs ?_ | refine ld_b (x := ⟨_, _, _⟩) hs ?_ | refine ld_r0 hs ?_ | refine ld_r1 hs ?_ | refine ld_rd0 ha_ hs ?_ | refine ld_rd1 ha_ hs ?_) | ((with_reducible refine isSt ?_); first | refine st_b hs fun w hs => ?_ | refine st_r0 hs fun w hs => ?_ | refine st_r1 hs fun w hs => ?_) | ((with_reducible refine isIdx ?_); first | refine idx_s hs fun b_ o_ hs => ?_ | refine idx_rd hs fun b_ o_ ha_ => ?_) | with_reducible refine newB_at hs fun b_ w hs => ?_ | ((with_reducible refine isLdS ?_); first | refine ldS_b ?_ | refine ldS_b (x := ⟨_, _, _⟩) ?_ | refine ldS_rs0 hs ?_ | refine ldS_rd0 ha_ ?_) | ((with_reducible refine isKeep ?_); first | refine keep_of hs ?_ | refine keep_imp hs ?_) | with_reducible refine when_om ?_ | with_reducible refine drawW_sat hs fun w hs => ?_)
      refine call1_of (string_Next hs) fun e w ⟨he, hs⟩ => ⟨_, he, ?_⟩
      rw [rowNext_place hn hlt]
      exact ih (j + 1) w (by omega) hfst.symm (by exact Sat.fin hs)
theorem lirs_lowest_at (hi : LX N x sr sf qr qf m) (hs : Sat W w (eB b c sb qb xb h g :: lst .string sb sr sf :: lst .string qb qr qf :: ixr Rec.iii xb 0 m :: M)) :
    Calls Try.prog id_lirs_Engine_lowest #[.pointer (some ⟨b, 0, none⟩), .int .i64 i] w fun e w' => e = .returned (.tuple #[.string (lLow m (lFirst x.s i)).1, .agg #[.int .i64 (lLow m (lFirst x.s i)).2.1, .int .i64 (lLow m (lFirst x.s i)).2.2.1, .int .i64 (lLow m (lFirst x.s i)).2.2.2]]) ∧
      Sat W w' (eB b c sb qb xb h g :: lst .string sb sr sf :: lst .string qb qr qf :: ixr Rec.iii xb 0 m :: M) := by
  obtain ⟨hn, hp⟩ := lst_pos (b := sb) (row := sr) (free := sf) (M := eB b c sb qb xb h g :: lst .string qb qr qf :: ixr Rec.iii xb 0 m :: M) (by exact Sat.fin hs)
  refine c1 (lirs_Engine_lowest_calls ?_)
  rw [lirs_Engine_lowest_def, lirs_Engine_lowest_raw]
  refine newB_at hs fun tb w hs => ?_
  repeat (first | with_reducible refine nilck_some ?_ | ((with_reducible refine atLd ?_); first | refine ld_b hs ?_ | refine ld_b (x := ⟨_, _, _⟩) hs ?_ | refine ld_r0 hs ?_ | refine ld_r1 hs ?_ | refine ld_rd0 ha_ hs ?_ | refine ld_rd1 ha_ hs ?_) | ((with_reducible refine isSt ?_); first | refine st_b hs fun w hs => ?_ | refine st_r0 hs fun w hs => ?_ | refine st_r1 hs fun w hs => ?_) | ((with_reducible refine isIdx ?_); first | refine idx_s hs fun b_ o_ hs => ?_ | refine idx_rd hs fun b_ o_ ha_ => ?_) | with_reducible refine newB_at hs fun b_ w hs => ?_ | ((with_reducible refine isLdS ?_); first | refine ldS_b ?_ | refine ldS_b (x := ⟨_, _, _⟩) ?_ | refine ldS_rs0 hs ?_ | refine ldS_rd0 ha_ ?_) | ((with_reducible refine isKeep ?_); first | refine keep_of hs ?_ | refine keep_imp hs ?_) | with_reducible refine when_om ?_ | with_reducible refine drawW_sat hs fun w hs => ?_)
  refine call1_of (string_Front hs) fun e w ⟨he, hs⟩ => ⟨_, he, ?_⟩
  refine exM_of (sr.length + 1) ?_
  exact lirs_lowest_loop hi hn hp (fun w hs => ⟨rfl, hs⟩) sr.length 0 w (by omega) rfl (by exact Sat.fin hs)
theorem lirs_lifts_at (hi : LX N x sr sf qr qf m) {e : Int} (he : (key, e) ∈ x.s) (hne : e ≠ 1) (hN : N < 400000000)
    (hs : Sat W w (eB b c sb qb xb ((lCnt x.s 1 : Int)) ((lCnt x.s 3 : Int)) :: lst .string sb sr sf :: lst .string qb qr qf :: ixr Rec.iii xb 0 m :: M)) :
    Calls Try.prog id_lirs_Engine_lifts #[.pointer (some ⟨b, 0, none⟩), .agg #[.int .i64 (lG m key).1, .int .i64 (lG m key).2.1, .int .i64 (lG m key).2.2], .string key] w fun e w' => e = .returned (.tuple #[]) ∧ Sat W w' (lirR b c N ⟨lOut x.s key, x.q⟩ :: M) := by
  refine c1 (lirs_Engine_lifts_calls ?_)
  rw [lirs_Engine_lifts_def, lirs_Engine_lifts_raw, hi.ent]
  have hns := hi.ns
  have hz : key.size < 64 := hi.w.ssm _ he
  refine newB_at hs fun nb w hs => ?_
  repeat (first | with_reducible refine nilck_some ?_ | ((with_reducible refine atLd ?_); first | refine ld_b hs ?_ | refine ld_b (x := ⟨_, _, _⟩) hs ?_ | refine ld_r0 hs ?_ | refine ld_r1 hs ?_ | refine ld_rd0 ha_ hs ?_ | refine ld_rd1 ha_ hs ?_) | ((with_reducible refine isSt ?_); first | refine st_b hs fun w hs => ?_ | refine st_r0 hs fun w hs => ?_ | refine st_r1 hs fun w hs => ?_) | ((with_reducible refine isIdx ?_); first | refine idx_s hs fun b_ o_ hs => ?_ | refine idx_rd hs fun b_ o_ ha_ => ?_) | with_reducible refine newB_at hs fun b_ w hs => ?_ | ((with_reducible refine isLdS ?_); first | refine ldS_b ?_ | refine ldS_b (x := ⟨_, _, _⟩) ?_ | refine ldS_rs0 hs ?_ | refine ldS_rd0 ha_ ?_) | ((with_reducible refine isKeep ?_); first | refine keep_of hs ?_ | refine keep_imp hs ?_) | with_reducible refine when_om ?_ | with_reducible refine drawW_sat hs fun w hs => ?_)
  refine call2_of (row_Remove hs (by omega) hi.snd.1 rfl) fun e w ⟨⟨_, _, he⟩, f', hc, hs⟩ => ⟨_, _, he, ?_⟩
  obtain ⟨hu, hk⟩ := hi.lift (sf' := f') ‹(key, _) ∈ x.s› hne hc
  repeat (first | with_reducible refine nilck_some ?_ | ((with_reducible refine atLd ?_); first | refine ld_b hs ?_ | refine ld_b (x := ⟨_, _, _⟩) hs ?_ | refine ld_r0 hs ?_ | refine ld_r1 hs ?_ | refine ld_rd0 ha_ hs ?_ | refine ld_rd1 ha_ hs ?_) | ((with_reducible refine isSt ?_); first | refine st_b hs fun w hs => ?_ | refine st_r0 hs fun w hs => ?_ | refine st_r1 hs fun w hs => ?_) | ((with_reducible refine isIdx ?_); first | refine idx_s hs fun b_ o_ hs => ?_ | refine idx_rd hs fun b_ o_ ha_ => ?_) | with_reducible refine newB_at hs fun b_ w hs => ?_ | ((with_reducible refine isLdS ?_); first | refine ldS_b ?_ | refine ldS_b (x := ⟨_, _, _⟩) ?_ | refine ldS_rs0 hs ?_ | refine ldS_rd0 ha_ ?_) | ((with_reducible refine isKeep ?_); first | refine keep_of hs ?_ | refine keep_imp hs ?_) | with_reducible refine when_om ?_ | with_reducible refine drawW_sat hs fun w hs => ?_)
  with_reducible refine ite_by (fun h3 => ?_) (fun h3 => ?_)
  · rw [if_pos h3] at hu hk
    repeat (first | with_reducible refine nilck_some ?_ | ((with_reducible refine atLd ?_); first | refine ld_b hs ?_ | refine ld_b (x := ⟨_, _, _⟩) hs ?_ | refine ld_r0 hs ?_ | refine ld_r1 hs ?_ | refine ld_rd0 ha_ hs ?_ | refine ld_rd1 ha_ hs ?_) | ((with_reducible refine isSt ?_); first | refine st_b hs fun w hs => ?_ | refine st_r0 hs fun w hs => ?_ | refine st_r1 hs fun w hs => ?_) | ((with_reducible refine isIdx ?_); first | refine idx_s hs fun b_ o_ hs => ?_ | refine idx_rd hs fun b_ o_ ha_ => ?_) | with_reducible refine newB_at hs fun b_ w hs => ?_ | ((with_reducible refine isLdS ?_); first | refine ldS_b ?_ | refine ldS_b (x := ⟨_, _, _⟩) ?_ | refine ldS_rs0 hs ?_ | refine ldS_rd0 ha_ ?_) | ((with_reducible refine isKeep ?_); first | refine keep_of hs ?_ | refine keep_imp hs ?_) | with_reducible refine when_om ?_ | with_reducible refine drawW_sat hs fun w hs => ?_)
    refine call0_of (lirs_set_at (W := W) (M := M) (c := c) (b := b) (n := (0, 0, rowHd qr key)) hi hu hz (lOut_lOut _ _) hk hN (by exact Sat.fin hs)) fun e w ⟨he, hs⟩ => ⟨he, ?_⟩
    exact ⟨rfl, hs⟩
  · rw [if_neg h3] at hu hk
    repeat (first | with_reducible refine nilck_some ?_ | ((with_reducible refine atLd ?_); first | refine ld_b hs ?_ | refine ld_b (x := ⟨_, _, _⟩) hs ?_ | refine ld_r0 hs ?_ | refine ld_r1 hs ?_ | refine ld_rd0 ha_ hs ?_ | refine ld_rd1 ha_ hs ?_) | ((with_reducible refine isSt ?_); first | refine st_b hs fun w hs => ?_ | refine st_r0 hs fun w hs => ?_ | refine st_r1 hs fun w hs => ?_) | ((with_reducible refine isIdx ?_); first | refine idx_s hs fun b_ o_ hs => ?_ | refine idx_rd hs fun b_ o_ ha_ => ?_) | with_reducible refine newB_at hs fun b_ w hs => ?_ | ((with_reducible refine isLdS ?_); first | refine ldS_b ?_ | refine ldS_b (x := ⟨_, _, _⟩) ?_ | refine ldS_rs0 hs ?_ | refine ldS_rd0 ha_ ?_) | ((with_reducible refine isKeep ?_); first | refine keep_of hs ?_ | refine keep_imp hs ?_) | with_reducible refine when_om ?_ | with_reducible refine drawW_sat hs fun w hs => ?_)
    refine call0_of (lirs_set_at (W := W) (M := M) (c := c) (b := b) (n := (lK x.s x.q key, 0, rowHd qr key)) hi hu hz (lOut_lOut _ _) hk hN (by exact Sat.fin hs)) fun e w ⟨he, hs⟩ => ⟨he, ?_⟩
    exact ⟨rfl, hs⟩
theorem lOut_head {k : ByteArray × Int} {t : SL} (h : (lKeys (k :: t)).Nodup) : lOut (k :: t) k.1 = t := by
  have h1 : lOut (k :: t) k.1 = lOut t k.1 := by unfold lOut; rw [List.filter_cons_of_neg (by simp)]
  rw [h1]
  exact lOut_not (by unfold lKeys at h; rw [List.map_cons, List.nodup_cons] at h; exact h.1)
theorem lirs_prunes_loop (hN : N < 400000000) : ∀ (d : Nat) (S : SL) (w : World), S.length = d → Sat W w (lirR b c N ⟨S, y.q⟩ :: M) → lirs_Engine_prunes_l1 idJ (fun v w' => v = .tuple #[] ∧ Sat W w' (lirR b c N ⟨lPrune S, y.q⟩ :: M)) (d + 1) (some ⟨b, 0, none⟩) w := by
  intro d
  induction d with
  | zero =>
    intro S w hS hs
    have e0 : S = [] := List.length_eq_zero_iff.1 hS
    subst e0
    obtain ⟨sb, qb, xb, sr, sf, qr, qf, m, hi, hs⟩ := lir_open hs
    have hl : sr = [] := by have := hi.sk; simpa [lKeys] using this
    subst hl
    rw [lirs_Engine_prunes_l1_raw]
    repeat (first | with_reducible refine nilck_some ?_ | ((with_reducible refine atLd ?_); first | refine ld_b hs ?_ | refine ld_b (x := ⟨_, _, _⟩) hs ?_ | refine ld_r0 hs ?_ | refine ld_r1 hs ?_ | refine ld_rd0 ha_ hs ?_ | refine ld_rd1 ha_ hs ?_) | ((with_reducible refine isSt ?_); first | refine st_b hs fun w hs => ?_ | refine st_r0 hs fun w hs => ?_ | refine st_r1 hs fun w hs => ?_) | ((with_reducible refine isIdx ?_); first | refine idx_s hs fun b_ o_ hs => ?_ | refine idx_rd hs fun b_ o_ ha_ => ?_) | with_reducible refine newB_at hs fun b_ w hs => ?_ | ((with_reducible refine isLdS ?_); first | refine ldS_b ?_ | refine ldS_b (x := ⟨_, _, _⟩) ?_ | refine ldS_rs0 hs ?_ | refine ldS_rd0 ha_ ?_) | ((with_reducible refine isKeep ?_); first | refine keep_of hs ?_ | refine keep_imp hs ?_) | with_reducible refine when_om ?_ | with_reducible refine drawW_sat hs fun w hs => ?_)
    refine call1_of (string_Len hs) fun e w ⟨he, hs⟩ => ⟨_, he, ?_⟩
    refine ite_false rfl ?_
    exact ⟨rfl, lir_shut hi rfl rfl (by exact Sat.fin hs)⟩
  | succ d ih =>
    intro S w hS hs
    obtain ⟨a, t, hat⟩ : ∃ a t, S = a :: t := by
      cases S with
      | nil => simp at hS
      | cons a t => exact ⟨a, t, rfl⟩
    subst hat
    obtain ⟨sb, qb, xb, sr, sf, qr, qf, m, hi, hs⟩ := lir_open hs
    obtain ⟨hn, hp⟩ := lst_pos (b := sb) (row := sr) (free := sf) (M := eB b c sb qb xb ((lCnt (a :: t) 1 : Int)) ((lCnt (a :: t) 3 : Int)) :: lst .string qb qr qf :: ixr Rec.iii xb 0 m :: M) (by exact Sat.fin hs)
    have hlen : sr.length = d + 1 := by have := congrArg List.length hi.sk; rw [← hS]; simpa [lKeys] using this
    rw [lirs_Engine_prunes_l1_raw]
    repeat (first | with_reducible refine nilck_some ?_ | ((with_reducible refine atLd ?_); first | refine ld_b hs ?_ | refine ld_b (x := ⟨_, _, _⟩) hs ?_ | refine ld_r0 hs ?_ | refine ld_r1 hs ?_ | refine ld_rd0 ha_ hs ?_ | refine ld_rd1 ha_ hs ?_) | ((with_reducible refine isSt ?_); first | refine st_b hs fun w hs => ?_ | refine st_r0 hs fun w hs => ?_ | refine st_r1 hs fun w hs => ?_) | ((with_reducible refine isIdx ?_); first | refine idx_s hs fun b_ o_ hs => ?_ | refine idx_rd hs fun b_ o_ ha_ => ?_) | with_reducible refine newB_at hs fun b_ w hs => ?_ | ((with_reducible refine isLdS ?_); first | refine ldS_b ?_ | refine ldS_b (x := ⟨_, _, _⟩) ?_ | refine ldS_rs0 hs ?_ | refine ldS_rd0 ha_ ?_) | ((with_reducible refine isKeep ?_); first | refine keep_of hs ?_ | refine keep_imp hs ?_) | with_reducible refine when_om ?_ | with_reducible refine drawW_sat hs fun w hs => ?_)
    refine call1_of (string_Len hs) fun e w ⟨he, hs⟩ => ⟨_, he, ?_⟩
    refine ite_true (decide_eq_true (by omega)) ?_
    refine drawW_only [eB b c sb qb xb ((lCnt (a :: t) 1 : Int)) ((lCnt (a :: t) 3 : Int))] hs fun w hs => ?_
    repeat (first | with_reducible refine nilck_some ?_ | ((with_reducible refine atLd ?_); first | refine ld_b hs ?_ | refine ld_b (x := ⟨_, _, _⟩) hs ?_ | refine ld_r0 hs ?_ | refine ld_r1 hs ?_ | refine ld_rd0 ha_ hs ?_ | refine ld_rd1 ha_ hs ?_) | ((with_reducible refine isSt ?_); first | refine st_b hs fun w hs => ?_ | refine st_r0 hs fun w hs => ?_ | refine st_r1 hs fun w hs => ?_) | ((with_reducible refine isIdx ?_); first | refine idx_s hs fun b_ o_ hs => ?_ | refine idx_rd hs fun b_ o_ ha_ => ?_) | with_reducible refine newB_at hs fun b_ w hs => ?_ | ((with_reducible refine isLdS ?_); first | refine ldS_b ?_ | refine ldS_b (x := ⟨_, _, _⟩) ?_ | refine ldS_rs0 hs ?_ | refine ldS_rd0 ha_ ?_) | ((with_reducible refine isKeep ?_); first | refine keep_of hs ?_ | refine keep_imp hs ?_) | with_reducible refine when_om ?_ | with_reducible refine drawW_sat hs fun w hs => ?_)
    refine call1_of (string_Front hs) fun e w ⟨he, hs⟩ => ⟨_, he, ?_⟩
    repeat (first | with_reducible refine nilck_some ?_ | ((with_reducible refine atLd ?_); first | refine ld_b hs ?_ | refine ld_b (x := ⟨_, _, _⟩) hs ?_ | refine ld_r0 hs ?_ | refine ld_r1 hs ?_ | refine ld_rd0 ha_ hs ?_ | refine ld_rd1 ha_ hs ?_) | ((with_reducible refine isSt ?_); first | refine st_b hs fun w hs => ?_ | refine st_r0 hs fun w hs => ?_ | refine st_r1 hs fun w hs => ?_) | ((with_reducible refine isIdx ?_); first | refine idx_s hs fun b_ o_ hs => ?_ | refine idx_rd hs fun b_ o_ ha_ => ?_) | with_reducible refine newB_at hs fun b_ w hs => ?_ | ((with_reducible refine isLdS ?_); first | refine ldS_b ?_ | refine ldS_b (x := ⟨_, _, _⟩) ?_ | refine ldS_rs0 hs ?_ | refine ldS_rd0 ha_ ?_) | ((with_reducible refine isKeep ?_); first | refine keep_of hs ?_ | refine keep_imp hs ?_) | with_reducible refine when_om ?_ | with_reducible refine drawW_sat hs fun w hs => ?_)
    refine call2_of (string_Get hs) fun e w ⟨he, hs⟩ => ⟨_, _, he, ?_⟩
    have hlt : 0 < sr.length := by omega
    rw [rowVal_place hn hlt]
    rw [Option.getD_some]
    have hkey : sr[0].2 = a.1 := by
      have := congrArg (fun l : List ByteArray => l[0]?) hi.sk
      simp only [lKeys, List.getElem?_map, List.getElem?_eq_getElem hlt, List.getElem?_cons_zero, Option.map_some, Option.some.injEq] at this
      exact this
    have hmem : (a.1, a.2) ∈ a :: t := .head _
    have hz : a.1.size < 64 := hi.w.ssm _ hmem
    have hkd : a.2 = 1 ∨ a.2 = 2 ∨ a.2 = 3 := hi.w.kinds _ hmem
    have hG1 : (lG m a.1).1 = a.2 := by
      rw [hi.ent]
      exact lK_at (e := (a.1, a.2)) hi.w hmem
    rw [hkey]
    repeat (first | with_reducible refine nilck_some ?_ | ((with_reducible refine atLd ?_); first | refine ld_b hs ?_ | refine ld_b (x := ⟨_, _, _⟩) hs ?_ | refine ld_r0 hs ?_ | refine ld_r1 hs ?_ | refine ld_rd0 ha_ hs ?_ | refine ld_rd1 ha_ hs ?_) | ((with_reducible refine isSt ?_); first | refine st_b hs fun w hs => ?_ | refine st_r0 hs fun w hs => ?_ | refine st_r1 hs fun w hs => ?_) | ((with_reducible refine isIdx ?_); first | refine idx_s hs fun b_ o_ hs => ?_ | refine idx_rd hs fun b_ o_ ha_ => ?_) | with_reducible refine newB_at hs fun b_ w hs => ?_ | ((with_reducible refine isLdS ?_); first | refine ldS_b ?_ | refine ldS_b (x := ⟨_, _, _⟩) ?_ | refine ldS_rs0 hs ?_ | refine ldS_rd0 ha_ ?_) | ((with_reducible refine isKeep ?_); first | refine keep_of hs ?_ | refine keep_imp hs ?_) | with_reducible refine when_om ?_ | with_reducible refine drawW_sat hs fun w hs => ?_)
    refine (entry_Get hs (by omega)).mono fun e w ⟨he, hs⟩ => ⟨_, _, _, _, he, ?_⟩
    have hG : (mGet m a.1).getD ((0, 0, 0) : Int × Int × Int) = lG m a.1 := rfl
    rw [hG]
    repeat (first | with_reducible refine nilck_some ?_ | ((with_reducible refine atLd ?_); first | refine ld_b hs ?_ | refine ld_b (x := ⟨_, _, _⟩) hs ?_ | refine ld_r0 hs ?_ | refine ld_r1 hs ?_ | refine ld_rd0 ha_ hs ?_ | refine ld_rd1 ha_ hs ?_) | ((with_reducible refine isSt ?_); first | refine st_b hs fun w hs => ?_ | refine st_r0 hs fun w hs => ?_ | refine st_r1 hs fun w hs => ?_) | ((with_reducible refine isIdx ?_); first | refine idx_s hs fun b_ o_ hs => ?_ | refine idx_rd hs fun b_ o_ ha_ => ?_) | with_reducible refine newB_at hs fun b_ w hs => ?_ | ((with_reducible refine isLdS ?_); first | refine ldS_b ?_ | refine ldS_b (x := ⟨_, _, _⟩) ?_ | refine ldS_rs0 hs ?_ | refine ldS_rd0 ha_ ?_) | ((with_reducible refine isKeep ?_); first | refine keep_of hs ?_ | refine keep_imp hs ?_) | with_reducible refine when_om ?_ | with_reducible refine drawW_sat hs fun w hs => ?_)
    with_reducible refine ite_by (fun h1 => ?_) (fun h1 => ?_)
    · rw [hG1] at h1
      have e1 : lPrune (a :: t) = a :: t := by unfold lPrune; rw [List.dropWhile_cons, if_neg (by simp [h1])]
      rw [e1]
      exact ⟨rfl, lir_shut hi rfl rfl (by exact Sat.fin hs)⟩
    · rw [hG1] at h1
      have e1 : lPrune (a :: t) = lPrune t := by unfold lPrune; rw [List.dropWhile_cons, if_pos (by simp [h1])]
      rw [e1]
      repeat (first | with_reducible refine nilck_some ?_ | ((with_reducible refine atLd ?_); first | refine ld_b hs ?_ | refine ld_b (x := ⟨_, _, _⟩) hs ?_ | refine ld_r0 hs ?_ | refine ld_r1 hs ?_ | refine ld_rd0 ha_ hs ?_ | refine ld_rd1 ha_ hs ?_) | ((with_reducible refine isSt ?_); first | refine st_b hs fun w hs => ?_ | refine st_r0 hs fun w hs => ?_ | refine st_r1 hs fun w hs => ?_) | ((with_reducible refine isIdx ?_); first | refine idx_s hs fun b_ o_ hs => ?_ | refine idx_rd hs fun b_ o_ ha_ => ?_) | with_reducible refine newB_at hs fun b_ w hs => ?_ | ((with_reducible refine isLdS ?_); first | refine ldS_b ?_ | refine ldS_b (x := ⟨_, _, _⟩) ?_ | refine ldS_rs0 hs ?_ | refine ldS_rd0 ha_ ?_) | ((with_reducible refine isKeep ?_); first | refine keep_of hs ?_ | refine keep_imp hs ?_) | with_reducible refine when_om ?_ | with_reducible refine drawW_sat hs fun w hs => ?_)
      refine call0_of (lirs_lifts_at (W := W) (M := M) (c := c) (b := b) hi hmem h1 hN (by exact Sat.fin hs)) fun e w ⟨he, hs⟩ => ⟨he, ?_⟩
      rw [show lOut (a :: t) a.1 = t from lOut_head hi.w.sn] at hs
      exact ih t w (by simpa using hS) hs
theorem lirs_prunes_at (hN : N < 400000000) (hs : Sat W w (lirR b c N x :: M)) : Calls Try.prog id_lirs_Engine_prunes #[.pointer (some ⟨b, 0, none⟩)] w fun e w' => e = .returned (.tuple #[]) ∧ Sat W w' (lirR b c N (lPr x) :: M) := by
  refine c1 (lirs_Engine_prunes_calls ?_)
  rw [lirs_Engine_prunes_def, lirs_Engine_prunes_raw]
  refine exM_of (x.s.length + 1) ?_
  exact lirs_prunes_loop (y := x) hN x.s.length x.s w rfl hs
theorem lirs_forgets_loop (hN : N < 400000000) : ∀ (d : Nat) (S : SL) (w : World), ((lCnt S 3 : Int) - c).toNat = d → 0 ≤ c → Sat W w (lirR b c N ⟨S, y.q⟩ :: M) → lirs_Engine_forgets_l1 idJ (fun v w' => v = .tuple #[] ∧ Sat W w' (lirR b c N ⟨lForgetN S d, y.q⟩ :: M)) (d + 1) (some ⟨b, 0, none⟩) w := by
  intro d
  induction d with
  | zero =>
    intro S w hS hc hs
    obtain ⟨sb, qb, xb, sr, sf, qr, qf, m, hi, hs⟩ := lir_open hs
    rw [lirs_Engine_forgets_l1_raw]
    repeat (first | with_reducible refine nilck_some ?_ | ((with_reducible refine atLd ?_); first | refine ld_b hs ?_ | refine ld_b (x := ⟨_, _, _⟩) hs ?_ | refine ld_r0 hs ?_ | refine ld_r1 hs ?_ | refine ld_rd0 ha_ hs ?_ | refine ld_rd1 ha_ hs ?_) | ((with_reducible refine isSt ?_); first | refine st_b hs fun w hs => ?_ | refine st_r0 hs fun w hs => ?_ | refine st_r1 hs fun w hs => ?_) | ((with_reducible refine isIdx ?_); first | refine idx_s hs fun b_ o_ hs => ?_ | refine idx_rd hs fun b_ o_ ha_ => ?_) | with_reducible refine newB_at hs fun b_ w hs => ?_ | ((with_reducible refine isLdS ?_); first | refine ldS_b ?_ | refine ldS_b (x := ⟨_, _, _⟩) ?_ | refine ldS_rs0 hs ?_ | refine ldS_rd0 ha_ ?_) | ((with_reducible refine isKeep ?_); first | refine keep_of hs ?_ | refine keep_imp hs ?_) | with_reducible refine when_om ?_ | with_reducible refine drawW_sat hs fun w hs => ?_)
    refine ite_false (decide_eq_false (by simp only; omega)) ?_
    exact ⟨rfl, lir_shut hi rfl rfl (by exact Sat.fin hs)⟩
  | succ d ih =>
    intro S w hS hc hs
    obtain ⟨sb, qb, xb, sr, sf, qr, qf, m, hi, hs⟩ := lir_open hs
    rw [lirs_Engine_forgets_l1_raw]
    repeat (first | with_reducible refine nilck_some ?_ | ((with_reducible refine atLd ?_); first | refine ld_b hs ?_ | refine ld_b (x := ⟨_, _, _⟩) hs ?_ | refine ld_r0 hs ?_ | refine ld_r1 hs ?_ | refine ld_rd0 ha_ hs ?_ | refine ld_rd1 ha_ hs ?_) | ((with_reducible refine isSt ?_); first | refine st_b hs fun w hs => ?_ | refine st_r0 hs fun w hs => ?_ | refine st_r1 hs fun w hs => ?_) | ((with_reducible refine isIdx ?_); first | refine idx_s hs fun b_ o_ hs => ?_ | refine idx_rd hs fun b_ o_ ha_ => ?_) | with_reducible refine newB_at hs fun b_ w hs => ?_ | ((with_reducible refine isLdS ?_); first | refine ldS_b ?_ | refine ldS_b (x := ⟨_, _, _⟩) ?_ | refine ldS_rs0 hs ?_ | refine ldS_rd0 ha_ ?_) | ((with_reducible refine isKeep ?_); first | refine keep_of hs ?_ | refine keep_imp hs ?_) | with_reducible refine when_om ?_ | with_reducible refine drawW_sat hs fun w hs => ?_)
    refine ite_true (decide_eq_true (by simp only; omega)) ?_
    refine (lirs_lowest_at (W := W) (M := M) (c := c) (b := b) (sb := sb) (qb := qb) (xb := xb) (h := (lCnt S 1 : Int)) (g := (lCnt S 3 : Int)) (i := 3) hi (by exact Sat.fin hs)).mono fun e w ⟨he, hs⟩ => ⟨_, _, _, _, he, ?_⟩
    cases hf : lFirst S 3 with
    | none => have := lFirst_none.1 hf; omega
    | some k =>
      have hm := lFirst_mem hf
      have e1 : lForgetN S (d + 1) = lForgetN (lOut S k) d := by rw [lForgetN, hf]
      rw [e1]
      rw [show lLow m (some k) = (k, lG m k) from rfl]
      repeat (first | with_reducible refine nilck_some ?_ | ((with_reducible refine atLd ?_); first | refine ld_b hs ?_ | refine ld_b (x := ⟨_, _, _⟩) hs ?_ | refine ld_r0 hs ?_ | refine ld_r1 hs ?_ | refine ld_rd0 ha_ hs ?_ | refine ld_rd1 ha_ hs ?_) | ((with_reducible refine isSt ?_); first | refine st_b hs fun w hs => ?_ | refine st_r0 hs fun w hs => ?_ | refine st_r1 hs fun w hs => ?_) | ((with_reducible refine isIdx ?_); first | refine idx_s hs fun b_ o_ hs => ?_ | refine idx_rd hs fun b_ o_ ha_ => ?_) | with_reducible refine newB_at hs fun b_ w hs => ?_ | ((with_reducible refine isLdS ?_); first | refine ldS_b ?_ | refine ldS_b (x := ⟨_, _, _⟩) ?_ | refine ldS_rs0 hs ?_ | refine ldS_rd0 ha_ ?_) | ((with_reducible refine isKeep ?_); first | refine keep_of hs ?_ | refine keep_imp hs ?_) | with_reducible refine when_om ?_ | with_reducible refine drawW_sat hs fun w hs => ?_)
      refine call0_of (lirs_lifts_at (W := W) (M := M) (c := c) (b := b) hi hm (by decide) hN (by exact Sat.fin hs)) fun e w ⟨he, hs⟩ => ⟨he, ?_⟩
      have h3 := lCnt_out (k := k) hi.w.sn 3
      simp only [if_pos hm] at h3
      exact ih (lOut S k) w (by omega) hc hs
theorem lirs_forgets_at (hN : N < 400000000) (hc : 0 ≤ c) (hs : Sat W w (lirR b c N x :: M)) : Calls Try.prog id_lirs_Engine_forgets #[.pointer (some ⟨b, 0, none⟩)] w fun e w' => e = .returned (.tuple #[]) ∧ Sat W w' (lirR b c N ⟨lForget c x.s, x.q⟩ :: M) := by
  refine c1 (lirs_Engine_forgets_calls ?_)
  rw [lirs_Engine_forgets_def, lirs_Engine_forgets_raw]
  refine exM_of (((lCnt x.s 3 : Int) - c).toNat + 1) ?_
  exact lirs_forgets_loop (y := x) hN _ x.s w rfl hc hs
theorem lirs_cools_at (hN : N < 300000000) (hp : 0 < lCnt x.s 1) (hs : Sat W w (lirR b c N x :: M)) : Calls Try.prog id_lirs_Engine_cools #[.pointer (some ⟨b, 0, none⟩)] w fun e w' => e = .returned (.tuple #[]) ∧ Sat W w' (lirR b c (N + 1) (lCools x) :: M) := by
  refine c1 (lirs_Engine_cools_calls ?_)
  rw [lirs_Engine_cools_def, lirs_Engine_cools_raw]
  obtain ⟨sb, qb, xb, sr, sf, qr, qf, m, hi, hs⟩ := lir_open hs
  have hns := hi.ns
  have hnq := hi.nq
  refine (lirs_lowest_at (W := W) (M := M) (c := c) (b := b) (sb := sb) (qb := qb) (xb := xb) (h := (lCnt x.s 1 : Int)) (g := (lCnt x.s 3 : Int)) (i := 1) hi (by exact Sat.fin hs)).mono fun e w ⟨he, hs⟩ => ⟨_, _, _, _, he, ?_⟩
  cases hf : lFirst x.s 1 with
  | none => have := lFirst_none.1 hf; omega
  | some k =>
    have hm := lFirst_mem hf
    have hz : k.size < 64 := hi.w.ssm _ hm
    rw [show lLow m (some k) = (k, lG m k) from rfl, hi.ent]
    refine newB_at hs fun nb w hs => ?_
    repeat (first | with_reducible refine nilck_some ?_ | ((with_reducible refine atLd ?_); first | refine ld_b hs ?_ | refine ld_b (x := ⟨_, _, _⟩) hs ?_ | refine ld_r0 hs ?_ | refine ld_r1 hs ?_ | refine ld_rd0 ha_ hs ?_ | refine ld_rd1 ha_ hs ?_) | ((with_reducible refine isSt ?_); first | refine st_b hs fun w hs => ?_ | refine st_r0 hs fun w hs => ?_ | refine st_r1 hs fun w hs => ?_) | ((with_reducible refine isIdx ?_); first | refine idx_s hs fun b_ o_ hs => ?_ | refine idx_rd hs fun b_ o_ ha_ => ?_) | with_reducible refine newB_at hs fun b_ w hs => ?_ | ((with_reducible refine isLdS ?_); first | refine ldS_b ?_ | refine ldS_b (x := ⟨_, _, _⟩) ?_ | refine ldS_rs0 hs ?_ | refine ldS_rd0 ha_ ?_) | ((with_reducible refine isKeep ?_); first | refine keep_of hs ?_ | refine keep_imp hs ?_) | with_reducible refine when_om ?_ | with_reducible refine drawW_sat hs fun w hs => ?_)
    refine call2_of (row_Remove hs (by omega) hi.snd.1 rfl) fun e w ⟨⟨_, _, he⟩, f', hc, hs⟩ => ⟨_, _, he, ?_⟩
    repeat (first | with_reducible refine nilck_some ?_ | ((with_reducible refine atLd ?_); first | refine ld_b hs ?_ | refine ld_b (x := ⟨_, _, _⟩) hs ?_ | refine ld_r0 hs ?_ | refine ld_r1 hs ?_ | refine ld_rd0 ha_ hs ?_ | refine ld_rd1 ha_ hs ?_) | ((with_reducible refine isSt ?_); first | refine st_b hs fun w hs => ?_ | refine st_r0 hs fun w hs => ?_ | refine st_r1 hs fun w hs => ?_) | ((with_reducible refine isIdx ?_); first | refine idx_s hs fun b_ o_ hs => ?_ | refine idx_rd hs fun b_ o_ ha_ => ?_) | with_reducible refine newB_at hs fun b_ w hs => ?_ | ((with_reducible refine isLdS ?_); first | refine ldS_b ?_ | refine ldS_b (x := ⟨_, _, _⟩) ?_ | refine ldS_rs0 hs ?_ | refine ldS_rd0 ha_ ?_) | ((with_reducible refine isKeep ?_); first | refine keep_of hs ?_ | refine keep_imp hs ?_) | with_reducible refine when_om ?_ | with_reducible refine drawW_sat hs fun w hs => ?_)
    refine call0_of (lirs_end_at (W := W) (M := lst .string sb (rowDel sr k) f' :: ixr Rec.iii xb 0 m :: M) (c := c) (b := b) (nb := nb) (sb := sb) (qb := qb) (xb := xb) (h := (lCnt x.s 1 : Int)) (g := (lCnt x.s 3 : Int)) (i := 2) (s := 0) (q := rowHd qr k) (key := k) (qr := qr) (qf := qf) (by exact Sat.fin hs) (by omega) hi.snd.2 rfl) fun e w ⟨he, qr', qf', hp2, hs⟩ => ⟨he, ?_⟩
    repeat (first | with_reducible refine nilck_some ?_ | ((with_reducible refine atLd ?_); first | refine ld_b hs ?_ | refine ld_b (x := ⟨_, _, _⟩) hs ?_ | refine ld_r0 hs ?_ | refine ld_r1 hs ?_ | refine ld_rd0 ha_ hs ?_ | refine ld_rd1 ha_ hs ?_) | ((with_reducible refine isSt ?_); first | refine st_b hs fun w hs => ?_ | refine st_r0 hs fun w hs => ?_ | refine st_r1 hs fun w hs => ?_) | ((with_reducible refine isIdx ?_); first | refine idx_s hs fun b_ o_ hs => ?_ | refine idx_rd hs fun b_ o_ ha_ => ?_) | with_reducible refine newB_at hs fun b_ w hs => ?_ | ((with_reducible refine isLdS ?_); first | refine ldS_b ?_ | refine ldS_b (x := ⟨_, _, _⟩) ?_ | refine ldS_rs0 hs ?_ | refine ldS_rd0 ha_ ?_) | ((with_reducible refine isKeep ?_); first | refine keep_of hs ?_ | refine keep_imp hs ?_) | with_reducible refine when_om ?_ | with_reducible refine drawW_sat hs fun w hs => ?_)
    have hu := hi.cool hm hc hp2
    have hk : (2 : Int) = lK (lOut x.s k) (x.q ++ [k]) k := by rw [lK_out, if_pos (by simp)]
    refine call0_of (lirs_set_at (W := W) (M := M) (c := c) (b := b) (n := (2, 0, rowHd qr' k)) hi hu hz (lOut_lOut _ _) hk (by omega) (by exact Sat.fin hs)) fun e w ⟨he, hs⟩ => ⟨he, ?_⟩
    refine call0_of (lirs_prunes_at (by omega) hs) fun e w ⟨he, hs⟩ => ⟨he, ?_⟩
    have e1 : lCools x = lPr ⟨lOut x.s k, x.q ++ [k]⟩ := by unfold lCools lCool0 lPr; rw [hf]
    rw [e1]
    exact ⟨rfl, hs⟩
theorem lirs_heats_at (hi : LX N x sr sf qr qf m) (hz : key.size < 64) (hm : 0 ≤ lMost c) (hN : N < 200000000) {n : LE} (hn : n.2 = (rowHd sr key, rowHd qr key))
    (hs : Sat W w (eB b c sb qb xb ((lCnt x.s 1 : Int)) ((lCnt x.s 3 : Int)) :: lst .string sb sr sf :: lst .string qb qr qf :: ixr Rec.iii xb 0 m :: M)) :
    Calls Try.prog id_lirs_Engine_heats #[.pointer (some ⟨b, 0, none⟩), .agg #[.int .i64 n.1, .int .i64 n.2.1, .int .i64 n.2.2], .string key] w fun e w' => e = .returned (.tuple #[]) ∧ Sat W w' (lirR b c (N + 2) (lHeats c x key) :: M) := by
  refine c1 (lirs_Engine_heats_calls ?_)
  rw [lirs_Engine_heats_def, lirs_Engine_heats_raw, hn]
  have hns := hi.ns
  have hnq := hi.nq
  refine newB_at hs fun nb w hs => ?_
  repeat (first | with_reducible refine nilck_some ?_ | ((with_reducible refine atLd ?_); first | refine ld_b hs ?_ | refine ld_b (x := ⟨_, _, _⟩) hs ?_ | refine ld_r0 hs ?_ | refine ld_r1 hs ?_ | refine ld_rd0 ha_ hs ?_ | refine ld_rd1 ha_ hs ?_) | ((with_reducible refine isSt ?_); first | refine st_b hs fun w hs => ?_ | refine st_r0 hs fun w hs => ?_ | refine st_r1 hs fun w hs => ?_) | ((with_reducible refine isIdx ?_); first | refine idx_s hs fun b_ o_ hs => ?_ | refine idx_rd hs fun b_ o_ ha_ => ?_) | with_reducible refine newB_at hs fun b_ w hs => ?_ | ((with_reducible refine isLdS ?_); first | refine ldS_b ?_ | refine ldS_b (x := ⟨_, _, _⟩) ?_ | refine ldS_rs0 hs ?_ | refine ldS_rd0 ha_ ?_) | ((with_reducible refine isKeep ?_); first | refine keep_of hs ?_ | refine keep_imp hs ?_) | with_reducible refine when_om ?_ | with_reducible refine drawW_sat hs fun w hs => ?_)
  refine call0_of (lirs_top_at (W := W) (M := lst .string qb qr qf :: ixr Rec.iii xb 0 m :: M) (c := c) (b := b) (nb := nb) (sb := sb) (qb := qb) (xb := xb) (h := (lCnt x.s 1 : Int)) (g := (lCnt x.s 3 : Int)) (i := 1) (s := rowHd sr key) (q := rowHd qr key) (key := key) (sr := sr) (sf := sf) (by exact Sat.fin hs) (by omega) hi.snd.1 rfl) fun e w ⟨he, sr', sf', hp, hs⟩ => ⟨he, ?_⟩
  refine call0_of (lirs_leaves_at (W := W) (M := lst .string sb sr' sf' :: ixr Rec.iii xb 0 m :: M) (c := c) (b := b) (nb := nb) (sb := sb) (qb := qb) (xb := xb) (h := (lCnt x.s 1 : Int)) (g := (lCnt x.s 3 : Int)) (i := 1) (s := rowHd sr' key) (q := rowHd qr key) (key := key) (qr := qr) (qf := qf) (by exact Sat.fin hs) (by omega) hi.snd.2 rfl) fun e w ⟨he, qf', hc, hs⟩ => ⟨he, ?_⟩
  repeat (first | with_reducible refine nilck_some ?_ | ((with_reducible refine atLd ?_); first | refine ld_b hs ?_ | refine ld_b (x := ⟨_, _, _⟩) hs ?_ | refine ld_r0 hs ?_ | refine ld_r1 hs ?_ | refine ld_rd0 ha_ hs ?_ | refine ld_rd1 ha_ hs ?_) | ((with_reducible refine isSt ?_); first | refine st_b hs fun w hs => ?_ | refine st_r0 hs fun w hs => ?_ | refine st_r1 hs fun w hs => ?_) | ((with_reducible refine isIdx ?_); first | refine idx_s hs fun b_ o_ hs => ?_ | refine idx_rd hs fun b_ o_ ha_ => ?_) | with_reducible refine newB_at hs fun b_ w hs => ?_ | ((with_reducible refine isLdS ?_); first | refine ldS_b ?_ | refine ldS_b (x := ⟨_, _, _⟩) ?_ | refine ldS_rs0 hs ?_ | refine ldS_rd0 ha_ ?_) | ((with_reducible refine isKeep ?_); first | refine keep_of hs ?_ | refine keep_imp hs ?_) | with_reducible refine when_om ?_ | with_reducible refine drawW_sat hs fun w hs => ?_)
  have hu := hi.heat hz hp hc
  have hk : (1 : Int) = lK (lTop x.s key 1) (gTake x.q key) key := (lK_top _ _ _).symm
  refine call0_of (lirs_set_at (W := W) (M := M) (c := c) (b := b) (n := (1, rowHd sr' key, 0)) hi hu hz (lOut_top _ _ _) hk (by omega) (by exact Sat.fin hs)) fun e w ⟨he, hs⟩ => ⟨he, ?_⟩
  obtain ⟨sb, qb, xb, sr, sf, qr, qf, m, hi, hs⟩ := lir_open hs
  repeat (first | with_reducible refine nilck_some ?_ | ((with_reducible refine atLd ?_); first | refine ld_b hs ?_ | refine ld_b (x := ⟨_, _, _⟩) hs ?_ | refine ld_r0 hs ?_ | refine ld_r1 hs ?_ | refine ld_rd0 ha_ hs ?_ | refine ld_rd1 ha_ hs ?_) | ((with_reducible refine isSt ?_); first | refine st_b hs fun w hs => ?_ | refine st_r0 hs fun w hs => ?_ | refine st_r1 hs fun w hs => ?_) | ((with_reducible refine isIdx ?_); first | refine idx_s hs fun b_ o_ hs => ?_ | refine idx_rd hs fun b_ o_ ha_ => ?_) | with_reducible refine newB_at hs fun b_ w hs => ?_ | ((with_reducible refine isLdS ?_); first | refine ldS_b ?_ | refine ldS_b (x := ⟨_, _, _⟩) ?_ | refine ldS_rs0 hs ?_ | refine ldS_rd0 ha_ ?_) | ((with_reducible refine isKeep ?_); first | refine keep_of hs ?_ | refine keep_imp hs ?_) | with_reducible refine when_om ?_ | with_reducible refine drawW_sat hs fun w hs => ?_)
  unfold lHeats
  with_reducible refine ite_by (fun h1 => ?_) (fun h1 => ?_)
  · rw [if_pos (by omega)]
    refine call0_of (lirs_cools_at (W := W) (M := M) (b := b) (c := c) (N := N + 1) (x := lHeat0 x key) (by omega) (by omega) (lir_shut hi rfl rfl (by exact Sat.fin hs))) fun e w ⟨he, hs⟩ => ⟨he, ?_⟩
    exact ⟨rfl, hs⟩
  · rw [if_neg (by omega)]
    exact ⟨rfl, lir_more (lir_shut hi rfl rfl (by exact Sat.fin hs)) (by omega)⟩
theorem lirs_chills_at (hi : LX N x sr sf qr qf m) (hz : key.size < 64) (hN : N < 200000000) {n : LE} (hn : n.2 = (rowHd sr key, rowHd qr key))
    (hs : Sat W w (eB b c sb qb xb ((lCnt x.s 1 : Int)) ((lCnt x.s 3 : Int)) :: lst .string sb sr sf :: lst .string qb qr qf :: ixr Rec.iii xb 0 m :: M)) :
    Calls Try.prog id_lirs_Engine_chills #[.pointer (some ⟨b, 0, none⟩), .agg #[.int .i64 n.1, .int .i64 n.2.1, .int .i64 n.2.2], .string key] w fun e w' => e = .returned (.tuple #[]) ∧ Sat W w' (lirR b c (N + 2) (lChills x key) :: M) := by
  refine c1 (lirs_Engine_chills_calls ?_)
  rw [lirs_Engine_chills_def, lirs_Engine_chills_raw, hn]
  have hns := hi.ns
  have hnq := hi.nq
  refine newB_at hs fun nb w hs => ?_
  repeat (first | with_reducible refine nilck_some ?_ | ((with_reducible refine atLd ?_); first | refine ld_b hs ?_ | refine ld_b (x := ⟨_, _, _⟩) hs ?_ | refine ld_r0 hs ?_ | refine ld_r1 hs ?_ | refine ld_rd0 ha_ hs ?_ | refine ld_rd1 ha_ hs ?_) | ((with_reducible refine isSt ?_); first | refine st_b hs fun w hs => ?_ | refine st_r0 hs fun w hs => ?_ | refine st_r1 hs fun w hs => ?_) | ((with_reducible refine isIdx ?_); first | refine idx_s hs fun b_ o_ hs => ?_ | refine idx_rd hs fun b_ o_ ha_ => ?_) | with_reducible refine newB_at hs fun b_ w hs => ?_ | ((with_reducible refine isLdS ?_); first | refine ldS_b ?_ | refine ldS_b (x := ⟨_, _, _⟩) ?_ | refine ldS_rs0 hs ?_ | refine ldS_rd0 ha_ ?_) | ((with_reducible refine isKeep ?_); first | refine keep_of hs ?_ | refine keep_imp hs ?_) | with_reducible refine when_om ?_ | with_reducible refine drawW_sat hs fun w hs => ?_)
  refine call0_of (lirs_top_at (W := W) (M := lst .string qb qr qf :: ixr Rec.iii xb 0 m :: M) (c := c) (b := b) (nb := nb) (sb := sb) (qb := qb) (xb := xb) (h := (lCnt x.s 1 : Int)) (g := (lCnt x.s 3 : Int)) (i := 2) (s := rowHd sr key) (q := rowHd qr key) (key := key) (sr := sr) (sf := sf) (by exact Sat.fin hs) (by omega) hi.snd.1 rfl) fun e w ⟨he, sr', sf', hp, hs⟩ => ⟨he, ?_⟩
  refine call0_of (lirs_end_at (W := W) (M := lst .string sb sr' sf' :: ixr Rec.iii xb 0 m :: M) (c := c) (b := b) (nb := nb) (sb := sb) (qb := qb) (xb := xb) (h := (lCnt x.s 1 : Int)) (g := (lCnt x.s 3 : Int)) (i := 2) (s := rowHd sr' key) (q := rowHd qr key) (key := key) (qr := qr) (qf := qf) (by exact Sat.fin hs) (by omega) hi.snd.2 rfl) fun e w ⟨he, qr', qf', hc, hs⟩ => ⟨he, ?_⟩
  repeat (first | with_reducible refine nilck_some ?_ | ((with_reducible refine atLd ?_); first | refine ld_b hs ?_ | refine ld_b (x := ⟨_, _, _⟩) hs ?_ | refine ld_r0 hs ?_ | refine ld_r1 hs ?_ | refine ld_rd0 ha_ hs ?_ | refine ld_rd1 ha_ hs ?_) | ((with_reducible refine isSt ?_); first | refine st_b hs fun w hs => ?_ | refine st_r0 hs fun w hs => ?_ | refine st_r1 hs fun w hs => ?_) | ((with_reducible refine isIdx ?_); first | refine idx_s hs fun b_ o_ hs => ?_ | refine idx_rd hs fun b_ o_ ha_ => ?_) | with_reducible refine newB_at hs fun b_ w hs => ?_ | ((with_reducible refine isLdS ?_); first | refine ldS_b ?_ | refine ldS_b (x := ⟨_, _, _⟩) ?_ | refine ldS_rs0 hs ?_ | refine ldS_rd0 ha_ ?_) | ((with_reducible refine isKeep ?_); first | refine keep_of hs ?_ | refine keep_imp hs ?_) | with_reducible refine when_om ?_ | with_reducible refine drawW_sat hs fun w hs => ?_)
  have hu := hi.chill hz hp hc
  have hk : (2 : Int) = lK (lTop x.s key 2) (gTake x.q key ++ [key]) key := (lK_top _ _ _).symm
  refine call0_of (lirs_set_at (W := W) (M := M) (c := c) (b := b) (n := (2, rowHd sr' key, rowHd qr' key)) hi hu hz (lOut_top _ _ _) hk (by omega) (by exact Sat.fin hs)) fun e w ⟨he, hs⟩ => ⟨he, ?_⟩
  exact ⟨rfl, lir_more hs (by omega)⟩
end
end Go.Proofs.Ytgmhoenmhnlojaa
