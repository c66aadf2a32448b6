/- hoard/weigh and hoardref19: contracts (but for Next). -/
import Derived.Test.YtfighgokcocpbaaFixLaws
set_option linter.unusedVariables false
set_option linter.unusedSimpArgs false
set_option linter.unnecessarySimpa false
set_option linter.unusedSectionVars false
namespace Go.Proofs.Ytfighgokcocpbaa
open Go.Hb Go.IntWalk

theorem w1 : IntKind.wrap .i64 ((0 : Int) + (1 : Int)) = 1 := by decide +kernel
theorem w2 : IntKind.wrap .i64 ((1 : Int) + (1 : Int)) = 2 := by decide +kernel
theorem w3 : IntKind.wrap .i64 ((2 : Int) + (1 : Int)) = 3 := by decide +kernel
theorem w4 : IntKind.wrap .i64 ((3 : Int) + (1 : Int)) = 4 := by decide +kernel
theorem w5 : IntKind.wrap .i64 ((4 : Int) + (1 : Int)) = 5 := by decide +kernel

def keepZ : Nat → Int
  | 0 => 4294967296
  | n + 1 => IntKind.wrap .u64 (Int.tdiv (IntKind.wrap .u64 (keepZ n * 9)) 10)
def sum5 (a b c d e : Int) : Int := IntKind.wrap .u64 (IntKind.wrap .u64 (IntKind.wrap .u64 (IntKind.wrap .u64 (IntKind.wrap .u64 (0 + a) + b) + c) + d) + e)
def in1 (a : Int) : Bool := !decide (a < 42949672) && !decide (a > 4294967296)
def is5 (a b c d e : Int) : Bool := in1 a && (in1 b && (in1 c && (in1 d && (in1 e && (sum5 a b c d e == 4294967296)))))
def pick5 (a b c d e x : Int) : Int :=
  bif decide (IntKind.wrap .u64 (0 + a) > x) then 0 else bif decide (IntKind.wrap .u64 (IntKind.wrap .u64 (0 + a) + b) > x) then 1 else bif decide (IntKind.wrap .u64 (IntKind.wrap .u64 (IntKind.wrap .u64 (0 + a) + b) + c) > x) then 2
  else bif decide (IntKind.wrap .u64 (IntKind.wrap .u64 (IntKind.wrap .u64 (IntKind.wrap .u64 (0 + a) + b) + c) + d) > x) then 3 else 4
def u64s (ws : List Int) : List Value := ws.map (.int .u64)
def bestF (ws : List Int) : Nat → Nat → Nat → Nat
  | 0, _, b => b
  | n + 1, i, b => bestF ws n (i + 1) (if ws.getD i 0 > ws.getD b 0 then i else b)
def sumL (ws : List Int) : Int := sum5 (ws.getD 0 0) (ws.getD 1 0) (ws.getD 2 0) (ws.getD 3 0) (ws.getD 4 0)
def evenL (ws : List Int) : List Int := ws.set (bestF ws 5 0 0) (IntKind.wrap .u64 (ws.getD (bestF ws 5 0 0) 0 + IntKind.wrap .u64 (4294967296 - sumL ws)))
def agg5 (ws : List Int) : Value := .agg #[.int .u64 (ws.getD 0 0), .int .u64 (ws.getD 1 0), .int .u64 (ws.getD 2 0), .int .u64 (ws.getD 3 0), .int .u64 (ws.getD 4 0)]
theorem bestF_lt {ws : List Int} : ∀ {n i b : Nat}, i + n ≤ 5 → b < 5 → bestF ws n i b < 5
  | 0, _, _, _, hb => hb
  | n + 1, i, b, hi, hb => by
    show bestF ws n (i + 1) (if ws.getD i 0 > ws.getD b 0 then i else b) < 5
    have hb' : (if ws.getD i 0 > ws.getD b 0 then i else b) < 5 := by split <;> omega
    exact bestF_lt (by omega) hb'
theorem exM_of {L : Nat → WP} {w : World} (m : Nat) (h : L m w) : exM L w := ⟨m, h⟩

section
variable {W w : World} {M : List HP}
theorem keep_loop {Q : Value → WP} {t : Nat} (ht : t ≤ 15) (hQ : Q (.int .u64 (keepZ t)) w) : ∀ (m i : Nat), i + m = t → weigh_Keep_l1 idJ Q (m + 1) (keepZ i) (t : Int) (i : Int) w := by
  intro m
  induction m with
  | zero =>
    intro i hi
    rw [weigh_Keep_l1_raw]
    refine ite_false (by simp; omega) ?_
    rw [weigh_Keep_j2_def, weigh_Keep_j2_raw]
    obtain rfl : i = t := by omega
    exact hQ
  | succ m ih =>
    intro i hi
    rw [weigh_Keep_l1_raw]
    refine ite_true (by simp; omega) ?_
    refine when_of (by omega) ?_
    rw [i64_in _ (by omega)]
    exact ih (i + 1) (by omega)
theorem keep_at (h : Sat W w M) (k : Int) : Calls Try.prog id_weigh_Keep #[.int .i64 k] w fun e w' => e = .returned (.int .u64 (keepZ (clampZ k 0 15).toNat)) ∧ Sat W w' M := by
  refine c1 (weigh_Keep_calls ?_)
  rw [weigh_Keep_def, weigh_Keep_raw]
  refine call1_of (clamp_at h _ _ _) fun e w ⟨he, h⟩ => ⟨_, he, ?_⟩
  have hb := clampZ_bound k (lo := 0) (hi := 15) (by omega)
  have hz : clampZ k 0 15 = ((clampZ k 0 15).toNat : Int) := by omega
  generalize (clampZ k 0 15).toNat = t at hz ⊢
  rw [hz]
  exact ⟨_, keep_loop (by omega) ⟨rfl, h⟩ t 0 (by omega)⟩
theorem rkeep_loop {k : Int} {t : Nat} (hz : clampZ k 0 15 = (t : Int)) (ht : t ≤ 15) {Q : Value → WP} (hQ : ∀ w, Sat W w M → Q (.int .u64 (keepZ t)) w) : ∀ (m i : Nat) (w : World), i + m = t → Sat W w M → hoardref19_Keep_l1 idJ Q (m + 1) k (keepZ i) (i : Int) w := by
  intro m
  induction m with
  | zero =>
    intro i w hi h
    rw [hoardref19_Keep_l1_raw]
    refine call1_of (rclamp_at h _ _ _) fun e w ⟨he, h⟩ => ⟨_, he, ?_⟩
    refine ite_false (by simp [hz]; omega) ?_
    rw [hoardref19_Keep_j2_def, hoardref19_Keep_j2_raw]
    obtain rfl : i = t := by omega
    exact hQ w h
  | succ m ih =>
    intro i w hi h
    rw [hoardref19_Keep_l1_raw]
    refine call1_of (rclamp_at h _ _ _) fun e w ⟨he, h⟩ => ⟨_, he, ?_⟩
    refine ite_true (by simp [hz]; omega) ?_
    refine when_of (by omega) ?_
    rw [i64_in _ (by omega)]
    exact ih (i + 1) w (by omega) h
theorem rkeep_at (h : Sat W w M) (k : Int) : Calls Try.prog id_hoardref19_Keep #[.int .i64 k] w fun e w' => e = .returned (.int .u64 (keepZ (clampZ k 0 15).toNat)) ∧ Sat W w' M := by
  refine c1 (hoardref19_Keep_calls ?_)
  rw [hoardref19_Keep_def, hoardref19_Keep_raw]
  have hb := clampZ_bound k (lo := 0) (hi := 15) (by omega)
  have hz : clampZ k 0 15 = ((clampZ k 0 15).toNat : Int) := by omega
  generalize (clampZ k 0 15).toNat = t at hz ⊢
  exact ⟨_, rkeep_loop hz (by omega) (fun w h => ⟨rfl, h⟩) t 0 w (by omega) h⟩

theorem sum_at (h : Sat W w M) (a b c d e : Int) : Calls Try.prog id_weigh_Sum #[.agg #[.int .u64 a, .int .u64 b, .int .u64 c, .int .u64 d, .int .u64 e]] w fun e' w' => e' = .returned (.int .u64 (sum5 a b c d e)) ∧ Sat W w' M := by
  refine c1 (weigh_Sum_calls ?_)
  rw [weigh_Sum_def, weigh_Sum_raw]
  refine newB_at h fun b1 w h => ?_
  refine ld_at 0 (x := a) h rfl rfl (ld_at 0 (x := b) h rfl rfl (ld_at 0 (x := c) h rfl rfl (ld_at 0 (x := d) h rfl rfl (ld_at 0 (x := e) h rfl rfl ?_))))
  refine exM_of 6 ?_
  rw [weigh_Sum_l1_raw]; refine ite_true (by decide) (when_of (by decide) ⟨a, rfl, rfl, ?_⟩); rw [w1]
  rw [weigh_Sum_l1_raw]; refine ite_true (by decide) (when_of (by decide) ⟨b, rfl, rfl, ?_⟩); rw [w2]
  rw [weigh_Sum_l1_raw]; refine ite_true (by decide) (when_of (by decide) ⟨c, rfl, rfl, ?_⟩); rw [w3]
  rw [weigh_Sum_l1_raw]; refine ite_true (by decide) (when_of (by decide) ⟨d, rfl, rfl, ?_⟩); rw [w4]
  rw [weigh_Sum_l1_raw]; refine ite_true (by decide) (when_of (by decide) ⟨e, rfl, rfl, ?_⟩); rw [w5]
  rw [weigh_Sum_l1_raw]; refine ite_false (by decide) ?_
  rw [weigh_Sum_j2_def, weigh_Sum_j2_raw]
  exact ⟨rfl, h.drop⟩
theorem rsum_at (h : Sat W w M) (a b c d e : Int) : Calls Try.prog id_hoardref19_Sum #[.agg #[.int .u64 a, .int .u64 b, .int .u64 c, .int .u64 d, .int .u64 e]] w fun e' w' => e' = .returned (.int .u64 (sum5 a b c d e)) ∧ Sat W w' M := by
  refine c1 (hoardref19_Sum_calls ?_)
  rw [hoardref19_Sum_def, hoardref19_Sum_raw]
  refine newB_at h fun b1 w h => ?_
  refine exM_of 6 ?_
  rw [hoardref19_Sum_l1_raw]; refine ite_true (by decide) (when_of (by decide) (ld_at 0 (x := a) h rfl rfl ?_)); rw [w1]
  rw [hoardref19_Sum_l1_raw]; refine ite_true (by decide) (when_of (by decide) (ld_at 0 (x := b) h rfl rfl ?_)); rw [w2]
  rw [hoardref19_Sum_l1_raw]; refine ite_true (by decide) (when_of (by decide) (ld_at 0 (x := c) h rfl rfl ?_)); rw [w3]
  rw [hoardref19_Sum_l1_raw]; refine ite_true (by decide) (when_of (by decide) (ld_at 0 (x := d) h rfl rfl ?_)); rw [w4]
  rw [hoardref19_Sum_l1_raw]; refine ite_true (by decide) (when_of (by decide) (ld_at 0 (x := e) h rfl rfl ?_)); rw [w5]
  rw [hoardref19_Sum_l1_raw]; refine ite_false (by decide) ?_
  rw [hoardref19_Sum_j2_def, hoardref19_Sum_j2_raw]
  exact ⟨rfl, h.drop⟩
theorem in1_cases {a : Int} {K L : WP} (hf : in1 a = false → K w) (ht : in1 a = true → L w) : ite2 (decide (a < (42949672 : Int))) K (ite2 (decide (a > (4294967296 : Int))) K L) w := by
  refine ite_cases (fun h1 => hf ?_) (fun h1 => ite_cases (fun h2 => hf ?_) fun h2 => ht ?_)
  · simp only [in1, h1]; rfl
  · simp only [in1, h1, h2]; rfl
  · simp only [in1, h1, h2]; rfl
theorem is_at (h : Sat W w M) (a b c d e : Int) : Calls Try.prog id_weigh_Is #[.agg #[.int .u64 a, .int .u64 b, .int .u64 c, .int .u64 d, .int .u64 e]] w fun e' w' => e' = .returned (.bool (is5 a b c d e)) ∧ Sat W w' M := by
  refine c1 (weigh_Is_calls ?_)
  rw [weigh_Is_def, weigh_Is_raw]
  refine newB_at h fun b1 w h => ?_
  refine ld_at 0 (x := a) h rfl rfl (ld_at 0 (x := b) h rfl rfl (ld_at 0 (x := c) h rfl rfl (ld_at 0 (x := d) h rfl rfl (ld_at 0 (x := e) h rfl rfl ?_))))
  refine exM_of 6 ?_
  rw [weigh_Is_l1_raw]; refine ite_true (by decide) (when_of (by decide) ⟨a, rfl, rfl, in1_cases (fun hf => ⟨by simp [is5, hf], h.drop⟩) fun ha => ?_⟩); rw [w1]
  rw [weigh_Is_l1_raw]; refine ite_true (by decide) (when_of (by decide) ⟨b, rfl, rfl, in1_cases (fun hf => ⟨by simp [is5, hf], h.drop⟩) fun hb => ?_⟩); rw [w2]
  rw [weigh_Is_l1_raw]; refine ite_true (by decide) (when_of (by decide) ⟨c, rfl, rfl, in1_cases (fun hf => ⟨by simp [is5, hf], h.drop⟩) fun hc => ?_⟩); rw [w3]
  rw [weigh_Is_l1_raw]; refine ite_true (by decide) (when_of (by decide) ⟨d, rfl, rfl, in1_cases (fun hf => ⟨by simp [is5, hf], h.drop⟩) fun hd => ?_⟩); rw [w4]
  rw [weigh_Is_l1_raw]; refine ite_true (by decide) (when_of (by decide) ⟨e, rfl, rfl, in1_cases (fun hf => ⟨by simp [is5, hf], h.drop⟩) fun he => ?_⟩); rw [w5]
  rw [weigh_Is_l1_raw]; refine ite_false (by decide) ?_
  rw [weigh_Is_j2_def, weigh_Is_j2_raw]
  refine ld_at 0 (x := a) h rfl rfl (ld_at 0 (x := b) h rfl rfl (ld_at 0 (x := c) h rfl rfl (ld_at 0 (x := d) h rfl rfl (ld_at 0 (x := e) h rfl rfl ?_))))
  exact call1_of (sum_at h a b c d e) fun e' w ⟨he', h⟩ => ⟨_, he', by simp [is5, ha, hb, hc, hd, he], h.drop⟩
end
end Go.Proofs.Ytfighgokcocpbaa
