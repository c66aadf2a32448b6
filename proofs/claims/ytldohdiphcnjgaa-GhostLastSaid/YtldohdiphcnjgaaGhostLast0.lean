/- GhostLast, walked: the last keys, each once. -/
import Derived.Test.YtldohdiphcnjgaaGhostLaws
set_option linter.unusedVariables false
set_option linter.unusedSimpArgs false
set_option linter.unnecessarySimpa false
set_option linter.unusedSectionVars false
namespace Go.Hb
def lastD : List ByteArray → List ByteArray
  | [] => []
  | x :: s => if x ∈ lastD s then lastD s else x :: lastD s
def lastN (r : Nat) (l : List ByteArray) : List ByteArray := l.drop (l.length - r)
theorem lastN_app {r : Nat} {a b : List ByteArray} (h : r ≤ b.length) : lastN r (a ++ b) = lastN r b := by
  unfold lastN
  rw [List.length_append, show a.length + b.length - r = a.length + (b.length - r) by omega, List.drop_append, List.drop_eq_nil_of_le (by omega), show a.length + (b.length - r) - a.length = b.length - r by omega]
  rfl
theorem lastN_all {r : Nat} {l : List ByteArray} (h : l.length ≤ r) : lastN r l = l := by unfold lastN; rw [Nat.sub_eq_zero_of_le h]; rfl
theorem lastN_split (r : Nat) (l : List ByteArray) : ∃ a, l = a ++ lastN r l ∧ (lastN r l).length = min r l.length := ⟨l.take (l.length - r), (List.take_append_drop _ _).symm, by unfold lastN; rw [List.length_drop]; omega⟩
theorem lastD_nodup : ∀ l, (lastD l).Nodup
  | [] => by simp [lastD]
  | x :: s => by
    unfold lastD
    split
    · exact lastD_nodup s
    · rename_i h; exact List.nodup_cons.2 ⟨h, lastD_nodup s⟩
theorem lastD_suf : ∀ (p s : List ByteArray), ∃ a, lastD (p ++ s) = a ++ lastD s
  | [], s => ⟨[], rfl⟩
  | x :: p, s => by
    obtain ⟨a, ha⟩ := lastD_suf p s
    show ∃ b, (if x ∈ lastD (p ++ s) then lastD (p ++ s) else x :: lastD (p ++ s)) = b ++ lastD s
    split
    · exact ⟨a, ha⟩
    · exact ⟨x :: a, by rw [ha]; rfl⟩
theorem lastD_snoc (x : ByteArray) : ∀ l, lastD (l ++ [x]) = gTake (lastD l) x ++ [x]
  | [] => by simp [lastD, gTake]
  | a :: l => by
    have ih := lastD_snoc x l
    show (if a ∈ lastD (l ++ [x]) then lastD (l ++ [x]) else a :: lastD (l ++ [x])) = gTake (if a ∈ lastD l then lastD l else a :: lastD l) x ++ [x]
    rw [ih]
    by_cases hx : a = x
    · subst hx
      rw [if_pos (by simp)]
      split
      · rfl
      · simp [gTake]
    · by_cases hm : a ∈ lastD l
      · rw [if_pos (List.mem_append_left _ (gTake_mem.2 ⟨hm, hx⟩)), if_pos hm]
      · rw [if_neg (by rw [List.mem_append, List.mem_singleton]; rintro (h | h); exact hm (gTake_mem.1 h).1; exact hx h), if_neg hm]
        simp [gTake, hx]
theorem gTake_len1' {l : List ByteArray} {k : ByteArray} (hn : l.Nodup) (hk : k ∈ l) : (gTake l k).length + 1 = l.length := by
  have hp : l.Perm (k :: gTake l k) := (List.perm_ext_iff_of_nodup hn (List.nodup_cons.2 ⟨fun h => (gTake_mem.1 h).2 rfl, gTake_nodup hn⟩)).2 fun x => by
    rw [List.mem_cons, gTake_mem]
    constructor
    · intro h
      by_cases hx : x = k
      · exact .inl hx
      · exact .inr ⟨h, hx⟩
    · rintro (rfl | h)
      · exact hk
      · exact h.1
  rw [hp.length_eq]; rfl
theorem gRun_last (r : Nat) (h1 : 1 ≤ r) (x : ByteArray) (l : List ByteArray) : gAdd (r : Int) (lastN r (lastD l)) x = lastN r (lastD (l ++ [x])) := by
  rw [lastD_snoc]
  obtain ⟨a, ha, hl⟩ := lastN_split r (lastD l)
  have hn := lastD_nodup l
  generalize lastN r (lastD l) = R at *
  have hnl : (lastD l).length = a.length + R.length := by rw [ha]; simp
  rw [ha] at hn ⊢
  have h2 := List.nodup_append.1 hn
  have hga : gTake (a ++ R) x = gTake a x ++ gTake R x := by unfold gTake; exact List.filter_append ..
  rw [hga, List.append_assoc]
  unfold gAdd
  by_cases hx : x ∈ R
  · have hxa : x ∉ a := fun h => h2.2.2 x h x hx rfl
    have hlen := gTake_len1' h2.2.1 hx
    rw [gTake_not hxa, if_pos (by simp only [List.length_append, List.length_cons, List.length_nil]; omega)]
    by_cases ha0 : a = []
    · subst ha0
      rw [List.nil_append, lastN_all (by simp only [List.length_append, List.length_cons, List.length_nil]; omega)]
    · have : 0 < a.length := List.length_pos_iff.2 ha0
      rw [lastN_app (by simp only [List.length_append, List.length_cons, List.length_nil]; omega), lastN_all (by simp only [List.length_append, List.length_cons, List.length_nil]; omega)]
  · rw [gTake_not hx]
    split
    · rename_i hle
      simp only [List.length_append, List.length_cons, List.length_nil] at hle
      have : a = [] := List.length_eq_zero_iff.1 (by omega)
      subst this
      have : gTake [] x = [] := rfl
      rw [this, List.nil_append, lastN_all (by simp only [List.length_append, List.length_cons, List.length_nil]; omega)]
    · rename_i hle
      simp only [List.length_append, List.length_cons, List.length_nil] at hle
      rw [lastN_app (by simp only [List.length_append, List.length_cons, List.length_nil]; omega)]
      unfold lastN
      congr 1
      simp only [List.length_append, List.length_cons, List.length_nil]; omega
end Go.Hb
namespace Go.Proofs.Ytldohdiphcnjgaa
open Go.Hb Go.IntWalk
section
variable {W w : World} {L M : List HP} {F : HP → List HP}
set_option maxHeartbeats 1000000 in
set_option maxRecDepth 100000 in
theorem glast_walk {room : Int} {s0 : Sl} {l : List ByteArray} [hr : ReadsR W s0 Rec.str l] : Calls Try.prog id_hoardlaw16_GhostLast #[.int .i64 room, .slice s0.a s0.n s0.c] W fun e w' => e = .returned (.bool true) ∧ KeptH W w' := by
  have hs := Sat.begin W
  refine law_of (hoardlaw16_GhostLast_calls ?_)
  rw [hoardlaw16_GhostLast_def, hoardlaw16_GhostLast_raw]
  have hn := rdb_len (s := s0) hs
  (first | with_reducible refine ite_ltI (fun h1 => ?_) (fun h1 => ?_) | with_reducible refine ite_leI (fun h1 => ?_) (fun h1 => ?_) | with_reducible refine ite_gtI (fun h1 => ?_) (fun h1 => ?_) | with_reducible refine ite_geI (fun h1 => ?_) (fun h1 => ?_) | with_reducible refine ite_eqI (fun h1 => ?_) (fun h1 => ?_) | with_reducible refine ite_neI (fun h1 => ?_) (fun h1 => ?_) | with_reducible refine ite_eqS (fun h1 => ?_) (fun h1 => ?_) | with_reducible refine ite_neS (fun h1 => ?_) (fun h1 => ?_) | with_reducible refine ite_dec (fun h1 => ?_) (fun h1 => ?_) | with_reducible refine ite_ndec (fun h1 => ?_) (fun h1 => ?_) | with_reducible refine ite_some (fun i_ h1 => ?_) (fun h1 => ?_) | with_reducible refine ite_nsome (fun h1 => ?_) (fun i_ h1 => ?_) | with_reducible refine ite_cases (fun h1 => ?_) (fun h1 => ?_))
  · exact ⟨rfl, hs⟩
  (first | with_reducible refine ite_ltI (fun h2 => ?_) (fun h2 => ?_) | with_reducible refine ite_leI (fun h2 => ?_) (fun h2 => ?_) | with_reducible refine ite_gtI (fun h2 => ?_) (fun h2 => ?_) | with_reducible refine ite_geI (fun h2 => ?_) (fun h2 => ?_) | with_reducible refine ite_eqI (fun h2 => ?_) (fun h2 => ?_) | with_reducible refine ite_neI (fun h2 => ?_) (fun h2 => ?_) | with_reducible refine ite_eqS (fun h2 => ?_) (fun h2 => ?_) | with_reducible refine ite_neS (fun h2 => ?_) (fun h2 => ?_) | with_reducible refine ite_dec (fun h2 => ?_) (fun h2 => ?_) | with_reducible refine ite_ndec (fun h2 => ?_) (fun h2 => ?_) | with_reducible refine ite_some (fun i_ h2 => ?_) (fun h2 => ?_) | with_reducible refine ite_nsome (fun h2 => ?_) (fun i_ h2 => ?_) | with_reducible refine ite_cases (fun h2 => ?_) (fun h2 => ?_))
  · exact ⟨rfl, hs⟩
  (first | with_reducible refine ite_ltI (fun h3 => ?_) (fun h3 => ?_) | with_reducible refine ite_leI (fun h3 => ?_) (fun h3 => ?_) | with_reducible refine ite_gtI (fun h3 => ?_) (fun h3 => ?_) | with_reducible refine ite_geI (fun h3 => ?_) (fun h3 => ?_) | with_reducible refine ite_eqI (fun h3 => ?_) (fun h3 => ?_) | with_reducible refine ite_neI (fun h3 => ?_) (fun h3 => ?_) | with_reducible refine ite_eqS (fun h3 => ?_) (fun h3 => ?_) | with_reducible refine ite_neS (fun h3 => ?_) (fun h3 => ?_) | with_reducible refine ite_dec (fun h3 => ?_) (fun h3 => ?_) | with_reducible refine ite_ndec (fun h3 => ?_) (fun h3 => ?_) | with_reducible refine ite_some (fun i_ h3 => ?_) (fun h3 => ?_) | with_reducible refine ite_nsome (fun h3 => ?_) (fun i_ h3 => ?_) | with_reducible refine ite_cases (fun h3 => ?_) (fun h3 => ?_))
  · exact ⟨rfl, hs⟩
  obtain ⟨r, hrm⟩ : ∃ r : Nat, room = (r : Int) := ⟨room.toNat, by omega⟩
  have hcl : clampR room = (r : Int) := by unfold clampR; rw [hrm]; split <;> split <;> omega
  rw [hoardlaw16_GhostLast_j1_def, hoardlaw16_GhostLast_j1_raw]
  refine (gh_New hs).mono fun e w ⟨b, he, hs⟩ => ⟨_, he, ite_false rfl ?_⟩
  rw [hcl] at hs
  rw [hrm]
  have fin : ∀ w (want : Sl) (ws : List ByteArray), ws = lastN r (lastD l) → Sat W w [recs Rec.str want ws, ghR b r l.length (lastN r (lastD l)), old W] → hoardlaw16_GhostLast_j9 idJ (fun v w' => v = .bool true ∧ Sat W w' [old W]) (some ⟨b, 0, none⟩) want w := by
    intro w want ws hw hs
    have hkl := (gh_inv (b := b) (room := r) (N := l.length) (ks := lastN r (lastD l)) (M := [recs Rec.str want ws, old W]) (by exact Sat.fin hs)).2.1
    rw [hoardlaw16_GhostLast_j9_def, hoardlaw16_GhostLast_j9_raw]
    refine (gh_Keys hs (by omega)).mono fun e w ⟨k1, he, hs⟩ => ⟨_, he, ?_⟩
    refine call1_of (hoardlaw16_texts_at (a := k1) (b := want) hs (by omega)) fun e w ⟨he, hs⟩ => ⟨_, he, ite_true (by simp [hw]) ?_⟩
    exact call1_of (known16 hs) fun e w ⟨he, hs⟩ => ⟨_, he, rfl, by exact Sat.fin hs⟩
  have back : ∀ (f : Nat) (w : World) (want : Sl), f ≤ l.length → (lastD (l.drop f)).length ≤ r → Sat W w [recs Rec.str want (lastD (l.drop f)), ghR b r l.length (lastN r (lastD l)), old W] →
      hoardlaw16_GhostLast_l4 idJ (fun v w' => v = .bool true ∧ Sat W w' [old W]) (f + 1) (r : Int) s0 (some ⟨b, 0, none⟩) want ((f : Int) - 1) w := by
    intro f
    induction f with
    | zero =>
      intro w want hf hlr hs
      rw [hoardlaw16_GhostLast_l4_raw]
      refine ite_false (decide_eq_false (by omega)) ?_
      rw [List.drop_zero] at hlr hs
      exact fin w want _ (lastN_all hlr).symm hs
    | succ f ih =>
      intro w want hf hlr hs
      have hwn := rdb_len (s := want) hs
      rw [hoardlaw16_GhostLast_l4_raw]
      refine ite_true (decide_eq_true (by omega)) ?_
      (first | with_reducible refine ite_ltI (fun h5 => ?_) (fun h5 => ?_) | with_reducible refine ite_leI (fun h5 => ?_) (fun h5 => ?_) | with_reducible refine ite_gtI (fun h5 => ?_) (fun h5 => ?_) | with_reducible refine ite_geI (fun h5 => ?_) (fun h5 => ?_) | with_reducible refine ite_eqI (fun h5 => ?_) (fun h5 => ?_) | with_reducible refine ite_neI (fun h5 => ?_) (fun h5 => ?_) | with_reducible refine ite_eqS (fun h5 => ?_) (fun h5 => ?_) | with_reducible refine ite_neS (fun h5 => ?_) (fun h5 => ?_) | with_reducible refine ite_dec (fun h5 => ?_) (fun h5 => ?_) | with_reducible refine ite_ndec (fun h5 => ?_) (fun h5 => ?_) | with_reducible refine ite_some (fun i_ h5 => ?_) (fun h5 => ?_) | with_reducible refine ite_nsome (fun h5 => ?_) (fun i_ h5 => ?_) | with_reducible refine ite_cases (fun h5 => ?_) (fun h5 => ?_))
      · rw [hoardlaw16_GhostLast_j5_def, hoardlaw16_GhostLast_j5_raw]
        have hcast : ((f + 1 : Nat) : Int) - 1 = (f : Int) := by omega
        rw [hcast]
        have hdrop : l.drop f = l.getD f default :: l.drop (f + 1) := by
          rw [List.getD_eq_getElem?_getD, List.getElem?_eq_getElem (by omega)]
          exact List.drop_eq_getElem_cons (by omega)
        generalize hx : l.getD f default = x at hdrop
        generalize hT : lastD (l.drop (f + 1)) = T at *
        have hD : lastD (l.drop f) = if x ∈ T then T else x :: T := by rw [hdrop, ← hT]; rfl
        have hTr : T.length < r := by omega
        -- behind the inner loop
        have j7 : ∀ (w : World), Sat W w [recs Rec.str want T, ghR b r l.length (lastN r (lastD l)), old W] → hoardlaw16_GhostLast_j7 idJ (fun v w' => v = .bool true ∧ Sat W w' [old W]) (f + 1) (r : Int) s0 (some ⟨b, 0, none⟩) want (f : Int) (decide (x ∈ T)) w := by
          intro w hs
          rw [hoardlaw16_GhostLast_j7_def, hoardlaw16_GhostLast_j7_raw]
          (first | with_reducible refine ite_ltI (fun h6 => ?_) (fun h6 => ?_) | with_reducible refine ite_leI (fun h6 => ?_) (fun h6 => ?_) | with_reducible refine ite_gtI (fun h6 => ?_) (fun h6 => ?_) | with_reducible refine ite_geI (fun h6 => ?_) (fun h6 => ?_) | with_reducible refine ite_eqI (fun h6 => ?_) (fun h6 => ?_) | with_reducible refine ite_neI (fun h6 => ?_) (fun h6 => ?_) | with_reducible refine ite_eqS (fun h6 => ?_) (fun h6 => ?_) | with_reducible refine ite_neS (fun h6 => ?_) (fun h6 => ?_) | with_reducible refine ite_dec (fun h6 => ?_) (fun h6 => ?_) | with_reducible refine ite_ndec (fun h6 => ?_) (fun h6 => ?_) | with_reducible refine ite_some (fun i_ h6 => ?_) (fun h6 => ?_) | with_reducible refine ite_nsome (fun h6 => ?_) (fun i_ h6 => ?_) | with_reducible refine ite_cases (fun h6 => ?_) (fun h6 => ?_))
          · repeat (first | with_reducible refine nilck_some ?_ | ((with_reducible refine atLd ?_); first | refine ld_b hs ?_ | refine ld_b (x := ⟨_, _, _⟩) hs ?_ | refine ld_r0 hs ?_ | refine ld_r1 hs ?_ | refine ld_r2 hs ?_ | refine ld_r3 hs ?_ | refine ld_r4 hs ?_ | refine ld_rd0 ha_ hs ?_ | refine ld_rd1 ha_ hs ?_ | refine ld_rd2 ha_ hs ?_ | refine ld_rd3 ha_ hs ?_ | refine ld_rd4 ha_ hs ?_ | fail) | ((with_reducible refine isSt ?_); first | refine st_b hs fun w hs => ?_ | refine st_rec5 hs fun w hs => ?_ | refine st_rec4 hs fun w hs => ?_ | refine st_rec3 hs fun w hs => ?_ | refine st_rec2 hs fun w hs => ?_ | refine st_r0 hs fun w hs => ?_ | refine st_r1 hs fun w hs => ?_ | fail) | ((with_reducible refine isIdx ?_); first | refine idx_s hs fun b_ o_ hs => ?_ | refine idx_a hs ?_ | refine idx_rd hs fun b_ o_ ha_ => ?_ | fail) | ((with_reducible refine isNew ?_); first | refine newB_at hs fun b_ w hs => ?_ | fail) | ((with_reducible refine isLdS ?_); first | refine ldS_b ?_ | refine ldS_b (x := ⟨_, _, _⟩) ?_ | refine ldS_r0 ?_ | refine ldS_r1 ?_ | refine ldS_r2 ?_ | refine ldS_r3 ?_ | refine ldS_rs0 hs ?_ | refine ldS_rs1 hs ?_ | refine ldS_rs2 hs ?_ | refine ldS_rs3 hs ?_ | refine ldS_rd0 ha_ ?_ | refine ldS_rd1 ha_ ?_ | refine ldS_rd2 ha_ ?_ | refine ldS_rd3 ha_ ?_ | fail) | ((with_reducible refine isKeep ?_); first | refine keep_of hs ?_ | refine keep_imp hs ?_ | fail) | ((with_reducible refine isWhen ?_); first | refine when_om ?_ | fail) | ((with_reducible refine isDraw ?_); first | refine drawW_sat hs fun w hs => ?_ | fail))
            simp only [Int.toNat_natCast, hx] at hs
            refine app_own hs Rec.str (rows := [x]) rfl rfl (rd_rdb (s := want) hs) (by omega) (okC_flat _) rfl (by decide) (by simp; omega) fun s2 w hs2 hs => ?_
            rw [hoardlaw16_GhostLast_j8_def, hoardlaw16_GhostLast_j8_raw]
            rw [i64_in _ (by omega)]
            rw [if_neg h6] at hD
            refine ih w s2 (by omega) (by rw [hD]; simp; omega) ?_
            rw [hD]
            have hs : Sat W w (recs Rec.str s2 (x :: T) :: [recs Rec.str want T, ghR b r l.length (lastN r (lastD l)), old W]) := by exact Sat.fin hs
            exact Sat.fin hs
          · rw [hoardlaw16_GhostLast_j8_def, hoardlaw16_GhostLast_j8_raw]
            rw [i64_in _ (by omega)]
            rw [if_pos h6] at hD
            refine ih w want (by omega) (by rw [hD]; omega) ?_
            rw [hD]
            exact hs
        have inner : ∀ (m k : Nat) (w : World), k + m = T.length → Sat W w [recs Rec.str want T, ghR b r l.length (lastN r (lastD l)), old W] → hoardlaw16_GhostLast_l6 idJ (fun v w' => v = .bool true ∧ Sat W w' [old W]) (f + 1) (m + 1) (r : Int) s0 (some ⟨b, 0, none⟩) want (f : Int) (decide (x ∈ T.take k)) (k : Int) w := by
          intro m
          induction m with
          | zero =>
            intro k w hk hs
            rw [hoardlaw16_GhostLast_l6_raw]
            refine ite_false (decide_eq_false (by omega)) ?_
            rw [List.take_of_length_le (by omega)]
            exact j7 w hs
          | succ m ih2 =>
            intro k w hk hs
            rw [hoardlaw16_GhostLast_l6_raw]
            refine ite_true (decide_eq_true (by omega)) ?_
            have ht : T.take (k + 1) = T.take k ++ [T.getD k default] := take_snoc (by omega)
            refine drawW_sat hs fun w hs => ?_
            refine ite_cases (fun h7 => ?_) (fun h7 => ?_)
            · repeat (first | with_reducible refine nilck_some ?_ | ((with_reducible refine atLd ?_); first | refine ld_b hs ?_ | refine ld_b (x := ⟨_, _, _⟩) hs ?_ | refine ld_r0 hs ?_ | refine ld_r1 hs ?_ | refine ld_r2 hs ?_ | refine ld_r3 hs ?_ | refine ld_r4 hs ?_ | refine ld_rd0 ha_ hs ?_ | refine ld_rd1 ha_ hs ?_ | refine ld_rd2 ha_ hs ?_ | refine ld_rd3 ha_ hs ?_ | refine ld_rd4 ha_ hs ?_ | fail) | ((with_reducible refine isSt ?_); first | refine st_b hs fun w hs => ?_ | refine st_rec5 hs fun w hs => ?_ | refine st_rec4 hs fun w hs => ?_ | refine st_rec3 hs fun w hs => ?_ | refine st_rec2 hs fun w hs => ?_ | refine st_r0 hs fun w hs => ?_ | refine st_r1 hs fun w hs => ?_ | fail) | ((with_reducible refine isIdx ?_); first | refine idx_s hs fun b_ o_ hs => ?_ | refine idx_a hs ?_ | refine idx_rd hs fun b_ o_ ha_ => ?_ | fail) | ((with_reducible refine isNew ?_); first | refine newB_at hs fun b_ w hs => ?_ | fail) | ((with_reducible refine isLdS ?_); first | refine ldS_b ?_ | refine ldS_b (x := ⟨_, _, _⟩) ?_ | refine ldS_r0 ?_ | refine ldS_r1 ?_ | refine ldS_r2 ?_ | refine ldS_r3 ?_ | refine ldS_rs0 hs ?_ | refine ldS_rs1 hs ?_ | refine ldS_rs2 hs ?_ | refine ldS_rs3 hs ?_ | refine ldS_rd0 ha_ ?_ | refine ldS_rd1 ha_ ?_ | refine ldS_rd2 ha_ ?_ | refine ldS_rd3 ha_ ?_ | fail) | ((with_reducible refine isKeep ?_); first | refine keep_of hs ?_ | refine keep_imp hs ?_ | fail) | ((with_reducible refine isWhen ?_); first | refine when_om ?_ | fail) | ((with_reducible refine isDraw ?_); first | refine drawW_sat hs fun w hs => ?_ | fail))
              rw [i64_in _ (by omega)]
              have := ih2 (k + 1) w (by omega) hs
              rw [ht, show decide (x ∈ T.take k ++ [T.getD k default]) = true by
                rw [decide_eq_true_eq, List.mem_append]; exact .inl (of_decide_eq_true h7)] at this
              exact this
            · repeat (first | with_reducible refine nilck_some ?_ | ((with_reducible refine atLd ?_); first | refine ld_b hs ?_ | refine ld_b (x := ⟨_, _, _⟩) hs ?_ | refine ld_r0 hs ?_ | refine ld_r1 hs ?_ | refine ld_r2 hs ?_ | refine ld_r3 hs ?_ | refine ld_r4 hs ?_ | refine ld_rd0 ha_ hs ?_ | refine ld_rd1 ha_ hs ?_ | refine ld_rd2 ha_ hs ?_ | refine ld_rd3 ha_ hs ?_ | refine ld_rd4 ha_ hs ?_ | fail) | ((with_reducible refine isSt ?_); first | refine st_b hs fun w hs => ?_ | refine st_rec5 hs fun w hs => ?_ | refine st_rec4 hs fun w hs => ?_ | refine st_rec3 hs fun w hs => ?_ | refine st_rec2 hs fun w hs => ?_ | refine st_r0 hs fun w hs => ?_ | refine st_r1 hs fun w hs => ?_ | fail) | ((with_reducible refine isIdx ?_); first | refine idx_s hs fun b_ o_ hs => ?_ | refine idx_a hs ?_ | refine idx_rd hs fun b_ o_ ha_ => ?_ | fail) | ((with_reducible refine isNew ?_); first | refine newB_at hs fun b_ w hs => ?_ | fail) | ((with_reducible refine isLdS ?_); first | refine ldS_b ?_ | refine ldS_b (x := ⟨_, _, _⟩) ?_ | refine ldS_r0 ?_ | refine ldS_r1 ?_ | refine ldS_r2 ?_ | refine ldS_r3 ?_ | refine ldS_rs0 hs ?_ | refine ldS_rs1 hs ?_ | refine ldS_rs2 hs ?_ | refine ldS_rs3 hs ?_ | refine ldS_rd0 ha_ ?_ | refine ldS_rd1 ha_ ?_ | refine ldS_rd2 ha_ ?_ | refine ldS_rd3 ha_ ?_ | fail) | ((with_reducible refine isKeep ?_); first | refine keep_of hs ?_ | refine keep_imp hs ?_ | fail) | ((with_reducible refine isWhen ?_); first | refine when_om ?_ | fail) | ((with_reducible refine isDraw ?_); first | refine drawW_sat hs fun w hs => ?_ | fail))
              rw [Int.toNat_natCast, Int.toNat_natCast, hx, sEq_eq]
              rw [i64_in _ (by omega)]
              have := ih2 (k + 1) w (by omega) (by exact Sat.fin hs)
              rw [ht, show decide (x ∈ T.take k ++ [T.getD k default]) = decide (T.getD k default = x) by
                rw [Bool.eq_iff_iff, decide_eq_true_eq, decide_eq_true_eq, List.mem_append, List.mem_singleton]
                constructor
                · rintro (h | h)
                  · exact absurd h (of_decide_eq_false h7)
                  · exact h.symm
                · intro h; exact .inr h.symm] at this
              exact this
        refine ⟨T.length + 1, ?_⟩
        have := inner T.length 0 w (by omega) hs
        rw [List.take_zero] at this
        exact this
      · refine fin w want _ ?_ hs
        obtain ⟨a, ha⟩ := lastD_suf (l.take (f + 1)) (l.drop (f + 1))
        rw [List.take_append_drop] at ha
        rw [ha, lastN_app (by omega), lastN_all hlr]
  have loop : ∀ (f i : Nat) (w : World), i + f = l.length → Sat W w [ghR b r i (lastN r (lastD (l.take i))), old W] → hoardlaw16_GhostLast_l2 idJ (fun v w' => v = .bool true ∧ Sat W w' [old W]) (f + 1) (r : Int) s0 (some ⟨b, 0, none⟩) (i : Int) w := by
    intro f
    induction f with
    | zero =>
      intro i w hi hs
      have hil : i = l.length := by omega
      rw [hoardlaw16_GhostLast_l2_raw]
      refine ite_false (decide_eq_false (by omega)) ?_
      rw [hoardlaw16_GhostLast_j3_def, hoardlaw16_GhostLast_j3_raw]
      rw [i64_in _ (by omega), hn]
      rw [List.take_of_length_le (by omega), hil] at hs
      refine ⟨l.length + 1, ?_⟩
      refine back l.length w ⟨none, 0, 0⟩ (Nat.le_refl _) ?_ ?_
      · rw [List.drop_length]; simp [lastD]
      · rw [List.drop_length]; exact Sat.nilR Rec.str hs
    | succ f ih =>
      intro i w hi hs
      rw [hoardlaw16_GhostLast_l2_raw]
      refine ite_true (decide_eq_true (by omega)) ?_
      repeat (first | with_reducible refine nilck_some ?_ | ((with_reducible refine atLd ?_); first | refine ld_b hs ?_ | refine ld_b (x := ⟨_, _, _⟩) hs ?_ | refine ld_r0 hs ?_ | refine ld_r1 hs ?_ | refine ld_r2 hs ?_ | refine ld_r3 hs ?_ | refine ld_r4 hs ?_ | refine ld_rd0 ha_ hs ?_ | refine ld_rd1 ha_ hs ?_ | refine ld_rd2 ha_ hs ?_ | refine ld_rd3 ha_ hs ?_ | refine ld_rd4 ha_ hs ?_ | fail) | ((with_reducible refine isSt ?_); first | refine st_b hs fun w hs => ?_ | refine st_rec5 hs fun w hs => ?_ | refine st_rec4 hs fun w hs => ?_ | refine st_rec3 hs fun w hs => ?_ | refine st_rec2 hs fun w hs => ?_ | refine st_r0 hs fun w hs => ?_ | refine st_r1 hs fun w hs => ?_ | fail) | ((with_reducible refine isIdx ?_); first | refine idx_s hs fun b_ o_ hs => ?_ | refine idx_a hs ?_ | refine idx_rd hs fun b_ o_ ha_ => ?_ | fail) | ((with_reducible refine isNew ?_); first | refine newB_at hs fun b_ w hs => ?_ | fail) | ((with_reducible refine isLdS ?_); first | refine ldS_b ?_ | refine ldS_b (x := ⟨_, _, _⟩) ?_ | refine ldS_r0 ?_ | refine ldS_r1 ?_ | refine ldS_r2 ?_ | refine ldS_r3 ?_ | refine ldS_rs0 hs ?_ | refine ldS_rs1 hs ?_ | refine ldS_rs2 hs ?_ | refine ldS_rs3 hs ?_ | refine ldS_rd0 ha_ ?_ | refine ldS_rd1 ha_ ?_ | refine ldS_rd2 ha_ ?_ | refine ldS_rd3 ha_ ?_ | fail) | ((with_reducible refine isKeep ?_); first | refine keep_of hs ?_ | refine keep_imp hs ?_ | fail) | ((with_reducible refine isWhen ?_); first | refine when_om ?_ | fail) | ((with_reducible refine isDraw ?_); first | refine drawW_sat hs fun w hs => ?_ | fail))
      rw [Int.toNat_natCast]
      (first | with_reducible refine ite_ltI (fun h3 => ?_) (fun h3 => ?_) | with_reducible refine ite_leI (fun h3 => ?_) (fun h3 => ?_) | with_reducible refine ite_gtI (fun h3 => ?_) (fun h3 => ?_) | with_reducible refine ite_geI (fun h3 => ?_) (fun h3 => ?_) | with_reducible refine ite_eqI (fun h3 => ?_) (fun h3 => ?_) | with_reducible refine ite_neI (fun h3 => ?_) (fun h3 => ?_) | with_reducible refine ite_eqS (fun h3 => ?_) (fun h3 => ?_) | with_reducible refine ite_neS (fun h3 => ?_) (fun h3 => ?_) | with_reducible refine ite_dec (fun h3 => ?_) (fun h3 => ?_) | with_reducible refine ite_ndec (fun h3 => ?_) (fun h3 => ?_) | with_reducible refine ite_some (fun i_ h3 => ?_) (fun h3 => ?_) | with_reducible refine ite_nsome (fun h3 => ?_) (fun i_ h3 => ?_) | with_reducible refine ite_cases (fun h3 => ?_) (fun h3 => ?_))
      · exact ⟨rfl, by exact Sat.fin hs⟩
      repeat (first | with_reducible refine nilck_some ?_ | ((with_reducible refine atLd ?_); first | refine ld_b hs ?_ | refine ld_b (x := ⟨_, _, _⟩) hs ?_ | refine ld_r0 hs ?_ | refine ld_r1 hs ?_ | refine ld_r2 hs ?_ | refine ld_r3 hs ?_ | refine ld_r4 hs ?_ | refine ld_rd0 ha_ hs ?_ | refine ld_rd1 ha_ hs ?_ | refine ld_rd2 ha_ hs ?_ | refine ld_rd3 ha_ hs ?_ | refine ld_rd4 ha_ hs ?_ | fail) | ((with_reducible refine isSt ?_); first | refine st_b hs fun w hs => ?_ | refine st_rec5 hs fun w hs => ?_ | refine st_rec4 hs fun w hs => ?_ | refine st_rec3 hs fun w hs => ?_ | refine st_rec2 hs fun w hs => ?_ | refine st_r0 hs fun w hs => ?_ | refine st_r1 hs fun w hs => ?_ | fail) | ((with_reducible refine isIdx ?_); first | refine idx_s hs fun b_ o_ hs => ?_ | refine idx_a hs ?_ | refine idx_rd hs fun b_ o_ ha_ => ?_ | fail) | ((with_reducible refine isNew ?_); first | refine newB_at hs fun b_ w hs => ?_ | fail) | ((with_reducible refine isLdS ?_); first | refine ldS_b ?_ | refine ldS_b (x := ⟨_, _, _⟩) ?_ | refine ldS_r0 ?_ | refine ldS_r1 ?_ | refine ldS_r2 ?_ | refine ldS_r3 ?_ | refine ldS_rs0 hs ?_ | refine ldS_rs1 hs ?_ | refine ldS_rs2 hs ?_ | refine ldS_rs3 hs ?_ | refine ldS_rd0 ha_ ?_ | refine ldS_rd1 ha_ ?_ | refine ldS_rd2 ha_ ?_ | refine ldS_rd3 ha_ ?_ | fail) | ((with_reducible refine isKeep ?_); first | refine keep_of hs ?_ | refine keep_imp hs ?_ | fail) | ((with_reducible refine isWhen ?_); first | refine when_om ?_ | fail) | ((with_reducible refine isDraw ?_); first | refine drawW_sat hs fun w hs => ?_ | fail))
      refine call2_of (gh_Add hs (by omega) (by omega)) fun e w ⟨he, hs⟩ => ⟨_, _, he, ?_⟩
      rw [i64_in _ (by omega)]
      refine ih (i + 1) w (by omega) ?_
      have ht : l.take (i + 1) = l.take i ++ [l.getD i default] := take_snoc (by omega)
      rw [ht, ← gRun_last r (by omega)]
      exact hs
  refine ⟨l.length + 1, loop l.length 0 w (by omega) ?_⟩
  have e0 : lastN r (lastD (l.take 0)) = [] := by rw [List.take_zero]; simp [lastN, lastD]
  rw [e0]; exact hs
end
end Go.Proofs.Ytldohdiphcnjgaa
