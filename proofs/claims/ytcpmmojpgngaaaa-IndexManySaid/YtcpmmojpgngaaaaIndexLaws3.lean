/- IndexMany: the walk. -/
import Derived.Test.YtcpmmojpgngaaaaIndexLaws
set_option linter.unusedVariables false
set_option linter.unusedSimpArgs false
set_option linter.unnecessarySimpa false
set_option linter.unusedSectionVars false
namespace Go.Hb
def kkB (n : Nat) : List UInt8 := [UInt8.ofNat 107, UInt8.ofNat (97 + n % 26), UInt8.ofNat (97 + n / 26 % 26), UInt8.ofNat (97 + n / 676 % 26)]
def kk (n : Nat) : ByteArray := ⟨(kkB n).toArray⟩
theorem kk_size (n : Nat) : (kk n).size = 4 := rfl
theorem ofNat_toNat {a : Nat} (h : a < 256) : (UInt8.ofNat a).toNat = a := by simp [UInt8.toNat_ofNat']; omega
theorem kk_inj {a b : Nat} (ha : a < 17576) (hb : b < 17576) (h : kk a = kk b) : a = b := by
  have h1 : (kkB a) = (kkB b) := by
    have := congrArg (fun s : ByteArray => s.data.toList) h
    simpa [kk] using this
  unfold kkB at h1
  simp only [List.cons.injEq, true_and, and_true] at h1
  obtain ⟨e1, e2, e3⟩ := h1
  have e1 := congrArg UInt8.toNat e1
  have e2 := congrArg UInt8.toNat e2
  have e3 := congrArg UInt8.toNat e3
  rw [ofNat_toNat (by omega), ofNat_toNat (by omega)] at e1 e2 e3
  omega
abbrev KM := List (ByteArray × ByteArray)
/-- the map of those i below n that P lets in -/
def kM (P : Nat → Bool) : Nat → KM
  | 0 => []
  | n + 1 => if P n then (kk n, kk (n + 1)) :: kM P n else kM P n
def kC (P : Nat → Bool) : Nat → Nat
  | 0 => 0
  | n + 1 => kC P n + (if P n then 1 else 0)
theorem kM_len (P : Nat → Bool) : ∀ n, (kM P n).length = kC P n
  | 0 => rfl
  | n + 1 => by
    have := kM_len P n
    unfold kM kC
    split <;> simp_all
theorem kC_le (P : Nat → Bool) : ∀ n, kC P n ≤ n
  | 0 => Nat.le_refl _
  | n + 1 => by
    have := kC_le P n
    unfold kC
    split <;> omega
theorem kM_mem {P : Nat → Bool} : ∀ {n : Nat} {e : ByteArray × ByteArray}, e ∈ kM P n → ∃ i, i < n ∧ P i = true ∧ e = (kk i, kk (i + 1))
  | 0, e, h => by cases h
  | n + 1, e, h => by
    unfold kM at h
    split at h
    · rename_i hp
      rcases List.mem_cons.1 h with h | h
      · exact ⟨n, by omega, hp, h⟩
      · obtain ⟨i, h1, h2, h3⟩ := kM_mem h
        exact ⟨i, by omega, h2, h3⟩
    · obtain ⟨i, h1, h2, h3⟩ := kM_mem h
      exact ⟨i, by omega, h2, h3⟩
theorem kM_small {P : Nat → Bool} {n : Nat} : ∀ e ∈ kM P n, e.1.size < 4611686018427387904 := fun e he => by
  obtain ⟨i, _, _, rfl⟩ := kM_mem he
  show (kk i).size < _
  rw [kk_size]; omega
theorem mGet_cons {m : KM} {k j v : ByteArray} : mGet ((k, v) :: m) j = if k = j then some v else mGet m j := by
  unfold mGet
  by_cases h : k = j
  · rw [if_pos h, List.find?_cons_of_pos (by simpa using h)]; rfl
  · rw [if_neg h, List.find?_cons_of_neg (by simpa using h)]
theorem kM_get {P : Nat → Bool} : ∀ {n i : Nat}, n < 17000 → i < 17000 → mGet (kM P n) (kk i) = if i < n ∧ P i = true then some (kk (i + 1)) else none
  | 0, i, _, _ => by simp [kM, mGet]
  | n + 1, i, hn, hi => by
    have ih := kM_get (P := P) (n := n) (i := i) (by omega) hi
    unfold kM
    by_cases hin : n = i
    · subst hin
      split
      · rename_i hp
        rw [mGet_cons, if_pos rfl, if_pos ⟨by omega, hp⟩]
      · rename_i hp
        rw [ih, if_neg (fun h => by omega), if_neg (fun h => hp h.2)]
    · split
      · have hne : kk n ≠ kk i := fun h => hin (kk_inj (by omega) (by omega) h)
        rw [mGet_cons, if_neg hne, ih]
        congr 1
        exact propext ⟨fun h => ⟨by omega, h.2⟩, fun h => ⟨by omega, h.2⟩⟩
      · rw [ih]
        congr 1
        exact propext ⟨fun h => ⟨by omega, h.2⟩, fun h => ⟨by omega, h.2⟩⟩
theorem kM_del {P P' : Nat → Bool} {i : Nat} (hi : i < 17000) (hP : ∀ j, P' j = (P j && decide (j ≠ i))) : ∀ {n : Nat}, n < 17000 → mDel (kM P n) (kk i) = kM P' n
  | 0, _ => rfl
  | n + 1, hn => by
    have ih := kM_del hi hP (n := n) (by omega)
    unfold kM
    by_cases hin : n = i
    · subst hin
      have h0 : P' n = false := by rw [hP]; simp
      rw [h0]
      simp only [Bool.false_eq_true, if_false]
      split
      · unfold mDel at ih ⊢
        rw [List.filter_cons_of_neg (by simp)]; exact ih
      · exact ih
    · have h0 : P' n = P n := by rw [hP]; simp [hin]
      rw [h0]
      split
      · have hne : kk n ≠ kk i := fun h => hin (kk_inj (by omega) (by omega) h)
        unfold mDel at ih ⊢
        rw [List.filter_cons_of_pos (by simpa using hne), ih]
      · exact ih
theorem kM_put {n : Nat} (hn : n < 17000) : mPut (kM (fun _ => true) n) (kk n) (kk (n + 1)) = kM (fun _ => true) (n + 1) := by
  have : mGet (kM (fun _ => true) n) (kk n) = none := by rw [kM_get hn hn, if_neg (fun h => by omega)]
  unfold mPut
  rw [this]
  rfl
theorem kC_congr {P Q : Nat → Bool} : ∀ {n : Nat}, (∀ i, i < n → P i = Q i) → kC P n = kC Q n
  | 0, _ => rfl
  | n + 1, h => by
    unfold kC
    rw [h n (by omega), kC_congr fun i hi => h i (by omega)]
theorem kC_stop {P : Nat → Bool} {n : Nat} : ∀ {m : Nat}, n ≤ m → (∀ i, n ≤ i → P i = false) → kC P m = kC P n
  | 0, h, _ => by have : n = 0 := by omega
                  rw [this]
  | m + 1, h, hp => by
    by_cases hm : n = m + 1
    · rw [hm]
    · have e : kC P (m + 1) = kC P m + (if P m then 1 else 0) := rfl
      rw [e, hp m (by omega), kC_stop (by omega) hp]; simp
theorem kM_congr {P Q : Nat → Bool} : ∀ {n : Nat}, (∀ i, i < n → P i = Q i) → kM P n = kM Q n
  | 0, _ => rfl
  | n + 1, h => by
    unfold kM
    rw [h n (by omega), kM_congr fun i hi => h i (by omega)]
theorem mult_step {d i j : Nat} (hi : i % d = 0) (hj : j % d = 0) (h : i < j) : i + d ≤ j := by
  have h1 : d ∣ j - i := Nat.dvd_sub (Nat.dvd_of_mod_eq_zero hj) (Nat.dvd_of_mod_eq_zero hi)
  have := Nat.le_of_dvd (by omega) h1
  omega
end Go.Hb
namespace Go.Proofs.Ytcpmmojpgngaaaa
open Go.Hb Go.IntWalk
section
variable {W w : World} {L M : List HP} {F : HP → List HP}
theorem kk_cells (n : Nat) : bytesL (kk n) = [.int .u8 107, .int .u8 ((97 + n % 26 : Nat) : Int), .int .u8 ((97 + n / 26 % 26 : Nat) : Int), .int .u8 ((97 + n / 676 % 26 : Nat) : Int)] := by
  have h1 : bytesL (kk n) = (kkB n).map fun b => Value.int .u8 (b.toNat : Int) := by simp [bytesL, kk]
  rw [h1]
  unfold kkB
  simp only [List.map_cons, List.map_nil]
  rw [ofNat_toNat (by omega), ofNat_toNat (by omega), ofNat_toNat (by omega), ofNat_toNat (by omega)]
  rfl
theorem key6 (hs : Sat W w L) {n : Int} {k : Nat} (hk : n = (k : Int)) (hn : k < 17000) : Calls Try.prog id_hoardlaw6_key #[.int .i64 n] w fun e w' => e = .returned (.string (kk k)) ∧ Sat W w' L := by
  subst hk
  refine c1 (hoardlaw6_key_calls ?_)
  rw [hoardlaw6_key_def, hoardlaw6_key_raw]
  refine when_of (by decide) (when_of (by decide) (when_of (by decide) (when_of (by decide) (when_of (by decide) ?_))))
  refine newB_at hs fun b w hs => ?_
  have e1 : ∀ a : Nat, IntKind.wrap .u8 (IntKind.wrap .i64 ((97 : Int) + ((a % 26 : Nat) : Int))) = ((97 + a % 26 : Nat) : Int) := fun a => by
    rw [i64_in _ (by omega), IntKind.wrap_u8]; omega
  have t1 : Int.tmod (k : Int) 26 = ((k % 26 : Nat) : Int) := by rw [Int.tmod_eq_emod_of_nonneg (by omega)]; omega
  have t2 : IntKind.wrap .i64 (Int.tdiv (k : Int) 26) = ((k / 26 : Nat) : Int) := by rw [Int.tdiv_eq_ediv_of_nonneg (by omega), i64_in _ (by omega)]; omega
  have t3 : IntKind.wrap .i64 (Int.tdiv (k : Int) 676) = ((k / 676 : Nat) : Int) := by rw [Int.tdiv_eq_ediv_of_nonneg (by omega), i64_in _ (by omega)]; omega
  have t4 : ∀ a : Nat, Int.tmod (a : Int) 26 = ((a % 26 : Nat) : Int) := fun a => by rw [Int.tmod_eq_emod_of_nonneg (by omega)]; omega
  rw [t2, t3, t4, t4, t4, e1, e1, e1] at hs
  refine ⟨kk k, ?_, rfl, by exact Sat.fin hs⟩
  rw [kk_cells]
  exact rd_blk 0 hs rfl rfl
set_option maxHeartbeats 1000000 in
set_option maxRecDepth 100000 in
theorem many_walk {sd n g : Int} : Calls Try.prog id_hoardlaw6_IndexMany #[.int .u64 sd, .int .i64 n, .int .i64 g] W fun e w' => e = .returned (.bool true) ∧ KeptH W w' := by
  have hs := Sat.begin W
  refine law_of (hoardlaw6_IndexMany_calls ?_)
  rw [hoardlaw6_IndexMany_def, hoardlaw6_IndexMany_raw]
  obtain ⟨q400, hq400⟩ : ∃ q : Int, q = 400 := ⟨_, rfl⟩
  rw [← hq400]
  (first | with_reducible refine ite_ltI (fun h1 => ?_) (fun h1 => ?_) | with_reducible refine ite_leI (fun h1 => ?_) (fun h1 => ?_) | with_reducible refine ite_gtI (fun h1 => ?_) (fun h1 => ?_) | with_reducible refine ite_geI (fun h1 => ?_) (fun h1 => ?_) | with_reducible refine ite_eqI (fun h1 => ?_) (fun h1 => ?_) | with_reducible refine ite_neI (fun h1 => ?_) (fun h1 => ?_) | with_reducible refine ite_eqS (fun h1 => ?_) (fun h1 => ?_) | with_reducible refine ite_neS (fun h1 => ?_) (fun h1 => ?_) | with_reducible refine ite_dec (fun h1 => ?_) (fun h1 => ?_) | with_reducible refine ite_ndec (fun h1 => ?_) (fun h1 => ?_) | with_reducible refine ite_some (fun i_ h1 => ?_) (fun h1 => ?_) | with_reducible refine ite_nsome (fun h1 => ?_) (fun i_ h1 => ?_) | with_reducible refine ite_cases (fun h1 => ?_) (fun h1 => ?_))
  · exact call1_of (known6 hs) fun e w ⟨he, hs⟩ => ⟨_, he, rfl, hs⟩
  (first | with_reducible refine ite_ltI (fun h2 => ?_) (fun h2 => ?_) | with_reducible refine ite_leI (fun h2 => ?_) (fun h2 => ?_) | with_reducible refine ite_gtI (fun h2 => ?_) (fun h2 => ?_) | with_reducible refine ite_geI (fun h2 => ?_) (fun h2 => ?_) | with_reducible refine ite_eqI (fun h2 => ?_) (fun h2 => ?_) | with_reducible refine ite_neI (fun h2 => ?_) (fun h2 => ?_) | with_reducible refine ite_eqS (fun h2 => ?_) (fun h2 => ?_) | with_reducible refine ite_neS (fun h2 => ?_) (fun h2 => ?_) | with_reducible refine ite_dec (fun h2 => ?_) (fun h2 => ?_) | with_reducible refine ite_ndec (fun h2 => ?_) (fun h2 => ?_) | with_reducible refine ite_some (fun i_ h2 => ?_) (fun h2 => ?_) | with_reducible refine ite_nsome (fun h2 => ?_) (fun i_ h2 => ?_) | with_reducible refine ite_cases (fun h2 => ?_) (fun h2 => ?_))
  · exact call1_of (known6 hs) fun e w ⟨he, hs⟩ => ⟨_, he, rfl, hs⟩
  (first | with_reducible refine ite_ltI (fun h3 => ?_) (fun h3 => ?_) | with_reducible refine ite_leI (fun h3 => ?_) (fun h3 => ?_) | with_reducible refine ite_gtI (fun h3 => ?_) (fun h3 => ?_) | with_reducible refine ite_geI (fun h3 => ?_) (fun h3 => ?_) | with_reducible refine ite_eqI (fun h3 => ?_) (fun h3 => ?_) | with_reducible refine ite_neI (fun h3 => ?_) (fun h3 => ?_) | with_reducible refine ite_eqS (fun h3 => ?_) (fun h3 => ?_) | with_reducible refine ite_neS (fun h3 => ?_) (fun h3 => ?_) | with_reducible refine ite_dec (fun h3 => ?_) (fun h3 => ?_) | with_reducible refine ite_ndec (fun h3 => ?_) (fun h3 => ?_) | with_reducible refine ite_some (fun i_ h3 => ?_) (fun h3 => ?_) | with_reducible refine ite_nsome (fun h3 => ?_) (fun i_ h3 => ?_) | with_reducible refine ite_cases (fun h3 => ?_) (fun h3 => ?_))
  · exact call1_of (known6 hs) fun e w ⟨he, hs⟩ => ⟨_, he, rfl, hs⟩
  (first | with_reducible refine ite_ltI (fun h4 => ?_) (fun h4 => ?_) | with_reducible refine ite_leI (fun h4 => ?_) (fun h4 => ?_) | with_reducible refine ite_gtI (fun h4 => ?_) (fun h4 => ?_) | with_reducible refine ite_geI (fun h4 => ?_) (fun h4 => ?_) | with_reducible refine ite_eqI (fun h4 => ?_) (fun h4 => ?_) | with_reducible refine ite_neI (fun h4 => ?_) (fun h4 => ?_) | with_reducible refine ite_eqS (fun h4 => ?_) (fun h4 => ?_) | with_reducible refine ite_neS (fun h4 => ?_) (fun h4 => ?_) | with_reducible refine ite_dec (fun h4 => ?_) (fun h4 => ?_) | with_reducible refine ite_ndec (fun h4 => ?_) (fun h4 => ?_) | with_reducible refine ite_some (fun i_ h4 => ?_) (fun h4 => ?_) | with_reducible refine ite_nsome (fun h4 => ?_) (fun i_ h4 => ?_) | with_reducible refine ite_cases (fun h4 => ?_) (fun h4 => ?_))
  · exact call1_of (known6 hs) fun e w ⟨he, hs⟩ => ⟨_, he, rfl, hs⟩
  obtain ⟨m, rfl⟩ : ∃ m : Nat, n = (m : Int) := ⟨n.toNat, by omega⟩
  obtain ⟨d, rfl⟩ : ∃ d : Nat, g = (d : Int) := ⟨g.toNat, by omega⟩
  have hm : m ≤ 400 := by omega
  have hd : 1 ≤ d := by omega
  have hd2 : d ≤ 20 := by omega
  clear h1 h2 h3 h4 hq400
  rw [hoardlaw6_IndexMany_j1_def, hoardlaw6_IndexMany_j1_raw]
  refine (string_New hs).mono fun e w ⟨b, he, hs⟩ => ⟨_, he, ?_⟩
  -- the last loop
  have look : ∀ (f i : Nat) (w : World), i + f = m + 5 → Sat W w [ixr Rec.str b sd (kM (fun i => decide (i % d ≠ 0)) m), old W] →
      hoardlaw6_IndexMany_l6 idJ (fun v w' => v = .bool true ∧ Sat W w' [old W]) (f + 1) (m : Int) (d : Int) (some ⟨b, 0, none⟩) (kC (fun i => decide (i % d ≠ 0) && decide (i < m)) i : Int) (i : Int) w := by
    clear hs
    intro f
    induction f with
    | zero =>
      intro i w hi hs
      rw [hoardlaw6_IndexMany_l6_raw]
      rw [i64_in ((m : Int) + 5) (by omega)]
      refine ite_false (decide_eq_false (by omega)) ?_
      rw [hoardlaw6_IndexMany_j8_def, hoardlaw6_IndexMany_j8_raw]
      refine call1_of (string_Len hs) fun e w ⟨he, hs⟩ => ⟨_, he, ?_⟩
      have e1 : kC (fun i => decide (i % d ≠ 0) && decide (i < m)) i = kC (fun i => decide (i % d ≠ 0)) m := by
        rw [kC_stop (n := m) (by omega) (fun j hj => by simp; omega)]
        exact kC_congr fun j hj => by simp [hj]
      refine ite_true (by rw [kM_len, e1]; simp) ?_
      exact call1_of (known6 hs) fun e w ⟨he, hs⟩ => ⟨_, he, rfl, by exact Sat.fin hs⟩
    | succ f ih =>
      intro i w hi hs
      rw [hoardlaw6_IndexMany_l6_raw]
      rw [i64_in ((m : Int) + 5) (by omega)]
      refine ite_true (decide_eq_true (by omega)) ?_
      refine call1_of (key6 hs (k := i) rfl (by omega)) fun e w ⟨he, hs⟩ => ⟨_, he, ?_⟩
      refine call2_of (string_Get hs (by rw [kk_size]; omega)) fun e w ⟨he, hs⟩ => ⟨_, _, he, ?_⟩
      rw [kM_get (by omega) (by omega)]
      have hcl := kC_le (fun i => decide (i % d ≠ 0) && decide (i < m)) i
      have hc : kC (fun i => decide (i % d ≠ 0) && decide (i < m)) (i + 1) = kC (fun i => decide (i % d ≠ 0) && decide (i < m)) i + (if (decide (i % d ≠ 0) && decide (i < m)) then 1 else 0) := rfl
      have hw : IntKind.wrap .i64 ((i : Int) + 1) = ((i + 1 : Nat) : Int) := by rw [i64_in _ (by omega)]; omega
      by_cases hin : i < m ∧ decide (i % d ≠ 0) = true
      · rw [if_pos hin]
        have hb : (decide (i % d ≠ 0) && decide (i < m)) = true := by rw [hin.2, decide_eq_true hin.1]; rfl
        rw [if_pos hb] at hc
        have ht : (Int.tmod (i : Int) (d : Int) != 0) = true := by
          rw [Int.tmod_eq_emod_of_nonneg (by omega), bne_iff_ne]
          have := of_decide_eq_true hin.2
          omega
        refine ite_true (decide_eq_true (by omega)) (when_of (by omega) ?_)
        rw [ht, hoardlaw6_IndexMany_j7_def, hoardlaw6_IndexMany_j7_raw]
        refine ite_false rfl (ite_true rfl ?_)
        refine call1_of (key6 hs (k := i + 1) hw (by omega)) fun e w ⟨he, hs⟩ => ⟨_, he, ?_⟩
        refine ite_false (by rw [sEq_eq]; simp) (ite_false rfl (ite_true rfl ?_))
        rw [hw, show IntKind.wrap .i64 ((kC (fun i => decide (i % d ≠ 0) && decide (i < m)) i : Int) + 1) = (kC (fun i => decide (i % d ≠ 0) && decide (i < m)) (i + 1) : Int) by rw [i64_in _ (by omega)]; omega]
        exact ih (i + 1) w (by omega) hs
      · rw [if_neg hin, show (none : Option ByteArray).getD str_empty = str_empty from rfl, show (none : Option ByteArray).isSome = false from rfl]
        have hb : ¬ (decide (i % d ≠ 0) && decide (i < m)) = true := fun h => by
          rw [Bool.and_eq_true] at h
          exact hin ⟨of_decide_eq_true h.2, h.1⟩
        rw [if_neg hb] at hc
        have j7 : ∀ (t : Bool), t = false → hoardlaw6_IndexMany_j7 idJ (fun v w' => v = .bool true ∧ Sat W w' [old W]) (f + 1) (m : Int) (d : Int) (some ⟨b, 0, none⟩) (kC (fun i => decide (i % d ≠ 0) && decide (i < m)) i : Int) (i : Int) str_empty false t w := by
          intro t ht
          rw [ht, hoardlaw6_IndexMany_j7_def, hoardlaw6_IndexMany_j7_raw]
          refine ite_false rfl (ite_false rfl (ite_true rfl ?_))
          refine ite_false (by rw [sEq_eq]; simp) (ite_false rfl ?_)
          rw [hw, show (kC (fun i => decide (i % d ≠ 0) && decide (i < m)) i : Int) = (kC (fun i => decide (i % d ≠ 0) && decide (i < m)) (i + 1) : Int) by omega]
          exact ih (i + 1) w (by omega) hs
        by_cases him : i < m
        · have ht : (Int.tmod (i : Int) (d : Int) != 0) = false := by
            have h0 : i % d = 0 := Classical.byContradiction fun h => hin ⟨him, decide_eq_true h⟩
            rw [Int.tmod_eq_emod_of_nonneg (by omega)]
            have : ((i : Int) % (d : Int)) = 0 := by omega
            rw [this]; rfl
          refine ite_true (decide_eq_true (by omega)) (when_of (by omega) ?_)
          exact j7 _ ht
        · refine ite_false (decide_eq_false (by omega)) ?_
          with_reducible refine j7 false rfl
  -- the deletions
  have dels : ∀ (f i : Nat) (w : World), i % d = 0 → i + f ≥ m → i < m + d → Sat W w [ixr Rec.str b sd (kM (fun j => decide (j % d ≠ 0 ∨ i ≤ j)) m), old W] →
      hoardlaw6_IndexMany_l4 idJ (fun v w' => v = .bool true ∧ Sat W w' [old W]) (f + 1) (m : Int) (d : Int) (some ⟨b, 0, none⟩) (i : Int) w := by
    clear hs
    have fin : ∀ (i : Nat) (w : World), m ≤ i → Sat W w [ixr Rec.str b sd (kM (fun j => decide (j % d ≠ 0 ∨ i ≤ j)) m), old W] → hoardlaw6_IndexMany_j5 idJ (fun v w' => v = .bool true ∧ Sat W w' [old W]) (m : Int) (d : Int) (some ⟨b, 0, none⟩) w := by
      intro i w hi hs
      rw [hoardlaw6_IndexMany_j5_def, hoardlaw6_IndexMany_j5_raw]
      have e1 : kM (fun j => decide (j % d ≠ 0 ∨ i ≤ j)) m = kM (fun j => decide (j % d ≠ 0)) m := kM_congr fun j hj => by
        congr 1; exact propext ⟨fun h => h.elim id fun h => by omega, .inl⟩
      rw [e1] at hs
      refine ⟨m + 5 + 1, ?_⟩
      exact look (m + 5) 0 w (by omega) hs
    intro f
    induction f with
    | zero =>
      intro i w hid hif hlt hs
      rw [hoardlaw6_IndexMany_l4_raw]
      refine ite_false (decide_eq_false (by omega)) ?_
      exact fin i w (by omega) hs
    | succ f ih =>
      intro i w hid hif hlt hs
      rw [hoardlaw6_IndexMany_l4_raw]
      (first | with_reducible refine ite_ltI (fun h5 => ?_) (fun h5 => ?_) | with_reducible refine ite_leI (fun h5 => ?_) (fun h5 => ?_) | with_reducible refine ite_gtI (fun h5 => ?_) (fun h5 => ?_) | with_reducible refine ite_geI (fun h5 => ?_) (fun h5 => ?_) | with_reducible refine ite_eqI (fun h5 => ?_) (fun h5 => ?_) | with_reducible refine ite_neI (fun h5 => ?_) (fun h5 => ?_) | with_reducible refine ite_eqS (fun h5 => ?_) (fun h5 => ?_) | with_reducible refine ite_neS (fun h5 => ?_) (fun h5 => ?_) | with_reducible refine ite_dec (fun h5 => ?_) (fun h5 => ?_) | with_reducible refine ite_ndec (fun h5 => ?_) (fun h5 => ?_) | with_reducible refine ite_some (fun i_ h5 => ?_) (fun h5 => ?_) | with_reducible refine ite_nsome (fun h5 => ?_) (fun i_ h5 => ?_) | with_reducible refine ite_cases (fun h5 => ?_) (fun h5 => ?_))
      · have him : i < m := by omega
        have hw : IntKind.wrap .i64 ((i : Int) + 1) = ((i + 1 : Nat) : Int) := by rw [i64_in _ (by omega)]; omega
        refine call1_of (key6 hs (k := i) rfl (by omega)) fun e w ⟨he, hs⟩ => ⟨_, he, ?_⟩
        have hl : (kM (fun j => decide (j % d ≠ 0 ∨ i ≤ j)) m).length < 900000000 := by have := kC_le (fun j => decide (j % d ≠ 0 ∨ i ≤ j)) m; rw [kM_len]; omega
        refine call2_of (string_Delete hs (by rw [kk_size]; omega) hl) fun e w ⟨he, hs⟩ => ⟨_, _, he, ?_⟩
        rw [kM_get (by omega) (by omega), if_pos ⟨him, decide_eq_true (.inr (Nat.le_refl _))⟩]
        refine ite_false rfl ?_
        refine call1_of (key6 hs (k := i + 1) hw (by omega)) fun e w ⟨he, hs⟩ => ⟨_, he, ?_⟩
        refine ite_false (by rw [sEq_eq]; simp) ?_
        rw [kM_del (P' := fun j => decide (j % d ≠ 0 ∨ i + d ≤ j)) (by omega) (fun j => ?_) (by omega)] at hs
        · rw [show IntKind.wrap .i64 ((i : Int) + (d : Int)) = ((i + d : Nat) : Int) by rw [i64_in _ (by omega)]; omega]
          exact ih (i + d) w (by rw [Nat.add_mod_right]; exact hid) (by omega) (by omega) hs
        · rw [Bool.eq_iff_iff, Bool.and_eq_true, decide_eq_true_eq, decide_eq_true_eq, decide_eq_true_eq]
          constructor
          · rintro (h | h)
            · exact ⟨.inl h, fun hj => h (by rw [hj]; exact hid)⟩
            · exact ⟨.inr (by omega), by omega⟩
          · rintro ⟨h1, h2⟩
            by_cases hj : j % d = 0
            · right
              rcases h1 with h1 | h1
              · exact absurd hj h1
              · exact mult_step hid hj (by omega)
            · exact .inl hj
      · exact fin i w (by omega) hs
  have puts : ∀ (f i : Nat) (w : World), i + f = m → Sat W w [ixr Rec.str b sd (kM (fun _ => true) i), old W] →
      hoardlaw6_IndexMany_l2 idJ (fun v w' => v = .bool true ∧ Sat W w' [old W]) (f + 1) (m : Int) (d : Int) (some ⟨b, 0, none⟩) (i : Int) w := by
    clear hs
    intro f
    induction f with
    | zero =>
      intro i w hi hs
      rw [hoardlaw6_IndexMany_l2_raw]
      refine ite_false (decide_eq_false (by omega)) ?_
      rw [hoardlaw6_IndexMany_j3_def, hoardlaw6_IndexMany_j3_raw]
      refine ⟨m + 1, ?_⟩
      refine dels m 0 w (Nat.zero_mod d) (by omega) (by omega) ?_
      have e1 : i = m := by omega
      rw [e1] at hs
      have e2 : (fun j : Nat => decide (j % d ≠ 0 ∨ 0 ≤ j)) = fun _ => true := funext fun j => decide_eq_true (.inr (Nat.zero_le _))
      rw [e2]; exact hs
    | succ f ih =>
      intro i w hi hs
      rw [hoardlaw6_IndexMany_l2_raw]
      refine ite_true (decide_eq_true (by omega)) ?_
      have hw : IntKind.wrap .i64 ((i : Int) + 1) = ((i + 1 : Nat) : Int) := by rw [i64_in _ (by omega)]; omega
      refine call1_of (key6 hs (k := i) rfl (by omega)) fun e w ⟨he, hs⟩ => ⟨_, he, ?_⟩
      refine call1_of (key6 hs (k := i + 1) hw (by omega)) fun e w ⟨he, hs⟩ => ⟨_, he, ?_⟩
      have hl : (kM (fun _ => true) i).length < 900000000 := by have := kC_le (fun _ => true) i; rw [kM_len]; omega
      refine call1_of (string_Put hs (by rw [kk_size]; omega) kM_small hl) fun e w ⟨he, hs⟩ => ⟨_, he, ?_⟩
      rw [kM_get (by omega) (by omega), if_neg (fun h => by omega)]
      refine ite_false rfl ?_
      rw [kM_put (by omega)] at hs
      rw [hw]
      exact ih (i + 1) w (by omega) hs
  refine ⟨m + 1, ?_⟩
  exact puts m 0 w (by omega) hs
end
end Go.Proofs.Ytcpmmojpgngaaaa
