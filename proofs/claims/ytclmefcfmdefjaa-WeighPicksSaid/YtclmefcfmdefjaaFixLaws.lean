/- The laws of fix, walked (but for FixProducts). -/
import Derived.Test.YtclmefcfmdefjaaScale
set_option linter.unusedVariables false
namespace Go.Proofs.Ytclmefcfmdefjaa
open Go.Hb Go.IntWalk

theorem wf_i64 {a : Int} (h : (Lit.int .i64 a).wf = true) : -9223372036854775808 ≤ a ∧ a ≤ 9223372036854775807 := by
  simpa [Lit.wf, IntKind.min, IntKind.max, IntKind.signed, IntKind.bits] using h
theorem wf_u64 {a : Int} (h : (Lit.int .u64 a).wf = true) : ∃ n : Nat, a = (n : Int) ∧ n < 18446744073709551616 := by
  have h : 0 ≤ a ∧ a ≤ 18446744073709551615 := by simpa [Lit.wf, IntKind.min, IntKind.max, IntKind.signed, IntKind.bits] using h
  exact ⟨a.toNat, by omega, by omega⟩

theorem scaleN_comm (a b c : Nat) : scaleN a b c = scaleN b a c := by unfold scaleN; rw [Nat.mul_comm a b]
theorem scaleN_same {a n : Nat} (ha : a < 18446744073709551616) (hn : 0 < n) : scaleN a n n = a := by
  unfold scaleN
  have : a * n < n * 18446744073709551616 := by rw [Nat.mul_comm n]; exact Nat.mul_lt_mul_of_pos_right ha hn
  rw [if_neg (by omega), Nat.mul_div_cancel _ hn]
theorem scaleN_mono {a b c d : Nat} (h : a ≤ b) (hb : b < 18446744073709551616) (hc : c < 18446744073709551616) (hd : d < 18446744073709551616) : scaleN a c d ≤ scaleN b c d := by
  unfold scaleN
  have hm : a * c ≤ b * c := Nat.mul_le_mul_right _ h
  by_cases h1 : d * 18446744073709551616 ≤ a * c ∨ d = 0
  · rw [if_pos h1, if_pos (by omega)]; omega
  · rw [if_neg h1]
    split
    · rename_i h2
      have : a * c / d < 18446744073709551616 := by
        rw [Nat.div_lt_iff_lt_mul (by omega)]
        rw [Nat.mul_comm 18446744073709551616]; omega
      omega
    · exact Nat.div_le_div_right hm

section
variable {W : World}
theorem fixCounts_walk {a b c : Int} (ha : (Lit.int .i64 a).wf = true) (hb : (Lit.int .i64 b).wf = true) : Calls Try.prog id_hoardlaw2_FixCounts #[.int .i64 a, .int .i64 b, .int .i64 c] W fun e w' => e = .returned (.bool true) ∧ KeptH W w' := by
  have h := Sat.begin W
  have ha := wf_i64 ha
  have hb := wf_i64 hb
  refine (c1 (S := fun w' => Sat W w' [old W]) (hoardlaw2_FixCounts_calls ?_)).mono fun e w' ⟨he, hs⟩ => ⟨he, hs.kept (q := 0) rfl⟩
  rw [hoardlaw2_FixCounts_def, hoardlaw2_FixCounts_raw]
  refine call1_of (inc_at h hb.2 ha.1) fun e w ⟨he, h⟩ => ⟨_, he, ?_⟩
  refine call1_of (rinc_at h hb.2 ha.1) fun e w ⟨he, h⟩ => ⟨_, he, ?_⟩
  refine ite_true (by simp) ?_
  refine call1_of (add_at h a b) fun e w ⟨he, h⟩ => ⟨_, he, ?_⟩
  refine call1_of (radd_at h a b) fun e w ⟨he, h⟩ => ⟨_, he, ?_⟩
  refine ite_true (by simp) ?_
  refine call1_of (clamp_at h a b c) fun e w ⟨he, h⟩ => ⟨_, he, ?_⟩
  refine call1_of (rclamp_at h a b c) fun e w ⟨he, h⟩ => ⟨_, he, ?_⟩
  refine ite_true (by simp) ?_
  exact call1_of (fknown_at h) fun e w ⟨he, h⟩ => ⟨_, he, rfl, h⟩
theorem fixNever_walk {a b : Int} (ha : (Lit.int .i64 a).wf = true) (hb : (Lit.int .i64 b).wf = true) : Calls Try.prog id_hoardlaw2_FixNever #[.int .i64 a, .int .i64 b] W fun e w' => e = .returned (.bool true) ∧ KeptH W w' := by
  have h := Sat.begin W
  have ha := wf_i64 ha
  have hb := wf_i64 hb
  refine (c1 (S := fun w' => Sat W w' [old W]) (hoardlaw2_FixNever_calls ?_)).mono fun e w' ⟨he, hs⟩ => ⟨he, hs.kept (q := 0) rfl⟩
  rw [hoardlaw2_FixNever_def, hoardlaw2_FixNever_raw]
  refine call1_of (add_at h a b) fun e w ⟨he, h⟩ => ⟨_, he, ?_⟩
  have hb1 := clampZ_bound a (lo := 0) (hi := 1099511627776) (by omega)
  have hb2 := clampZ_bound b (lo := 0) (hi := 1099511627776) (by omega)
  have hz : 0 ≤ addZ a b ∧ addZ a b ≤ 1099511627776 := by unfold addZ; split <;> omega
  have hge : 0 ≤ a → a ≤ 1099511627776 → a ≤ addZ a b := by
    intro h0 h1
    have : clampZ a 0 1099511627776 = a := by unfold clampZ; split <;> split at * <;> omega
    unfold addZ
    rw [this] at hb1 ⊢
    split <;> omega
  refine ite_false (by simp; omega) ?_
  refine ite_false (by simp; omega) ?_
  have key : hoardlaw2_FixNever_j2 idJ (fun v w' => v = .bool true ∧ Sat W w' [old W]) a b w := by
    rw [hoardlaw2_FixNever_j2_def, hoardlaw2_FixNever_j2_raw]
    refine call1_of (inc_at h hb.2 ha.1) fun e w ⟨he, h⟩ => ⟨_, he, ?_⟩
    refine ite_true (by have : incZ a b ≥ a := (by unfold incZ; split <;> omega); simpa using this) ?_
    exact call1_of (fknown_at h) fun e w ⟨he, h⟩ => ⟨_, he, rfl, h⟩
  generalize hJ : hoardlaw2_FixNever_j2 idJ (fun v w' => v = .bool true ∧ Sat W w' [old W]) a b = J at key
  rw [hoardlaw2_FixNever_j1_def, hoardlaw2_FixNever_j1_raw, hJ]
  refine ite_cases (fun h0 => ?_) (fun _ => key)
  refine ite_cases (fun h1 => ?_) (fun _ => key)
  simp only [decide_eq_true_eq] at h0 h1
  exact ite_false (by have := hge h0 h1; simp; omega) key
theorem fixWhole_walk {a b : Int} (ha : (Lit.int .u64 a).wf = true) (hb : (Lit.int .u64 b).wf = true) : Calls Try.prog id_hoardlaw2_FixWhole #[.int .u64 a, .int .u64 b] W fun e w' => e = .returned (.bool true) ∧ KeptH W w' := by
  have h := Sat.begin W
  obtain ⟨a, rfl, ha'⟩ := wf_u64 ha; replace ha := ha'
  obtain ⟨n, rfl, hn⟩ := wf_u64 hb
  refine (c1 (S := fun w' => Sat W w' [old W]) (hoardlaw2_FixWhole_calls ?_)).mono fun e w' ⟨he, hs⟩ => ⟨he, hs.kept (q := 0) rfl⟩
  rw [hoardlaw2_FixWhole_def, hoardlaw2_FixWhole_raw, show (4294967296 : Int) = ((4294967296 : Nat) : Int) from rfl]
  refine ite_cases (fun hc => ?_) (fun hc => ?_)
  · refine call1_of (scale_at (c := 0) h ha ha (by omega)) fun e w ⟨he, h⟩ => ⟨_, he, ?_⟩
    have : scaleN a a 0 = 18446744073709551615 := by unfold scaleN; rw [if_pos (.inr rfl)]
    rw [this]
    refine ite_true (by simp) ?_
    exact call1_of (fknown_at h) fun e w ⟨he, h⟩ => ⟨_, he, rfl, h⟩
  · have hn0 : 0 < n := by simp at hc; omega
    refine call1_of (scale_at h ha hn hn) fun e w ⟨he, h⟩ => ⟨_, he, ?_⟩
    rw [scaleN_same ha hn0]
    refine ite_true (by simp) ?_
    refine call1_of (mul_at (b := 4294967296) h ha (by omega)) fun e w ⟨he, h⟩ => ⟨_, he, ?_⟩
    rw [scaleN_same ha (by omega)]
    refine ite_true (by simp) ?_
    exact call1_of (fknown_at h) fun e w ⟨he, h⟩ => ⟨_, he, rfl, h⟩
theorem fixTurns_walk {a b c : Int} (ha : (Lit.int .u64 a).wf = true) (hb : (Lit.int .u64 b).wf = true) (hc : (Lit.int .u64 c).wf = true) : Calls Try.prog id_hoardlaw2_FixTurns #[.int .u64 a, .int .u64 b, .int .u64 c] W fun e w' => e = .returned (.bool true) ∧ KeptH W w' := by
  have h := Sat.begin W
  obtain ⟨a, rfl, ha'⟩ := wf_u64 ha; replace ha := ha'
  obtain ⟨b, rfl, hb'⟩ := wf_u64 hb; replace hb := hb'
  obtain ⟨c, rfl, hc'⟩ := wf_u64 hc; replace hc := hc'
  refine (c1 (S := fun w' => Sat W w' [old W]) (hoardlaw2_FixTurns_calls ?_)).mono fun e w' ⟨he, hs⟩ => ⟨he, hs.kept (q := 0) rfl⟩
  rw [hoardlaw2_FixTurns_def, hoardlaw2_FixTurns_raw]
  refine call1_of (mul_at h ha hb) fun e w ⟨he, h⟩ => ⟨_, he, ?_⟩
  refine call1_of (mul_at h hb ha) fun e w ⟨he, h⟩ => ⟨_, he, ?_⟩
  refine ite_false (by rw [scaleN_comm a b]; simp) ?_
  refine call1_of (scale_at h ha hb hc) fun e w ⟨he, h⟩ => ⟨_, he, ?_⟩
  refine call1_of (scale_at h hb ha hc) fun e w ⟨he, h⟩ => ⟨_, he, ?_⟩
  refine ite_false (by rw [scaleN_comm a b]; simp) ?_
  rw [hoardlaw2_FixTurns_j1_def, hoardlaw2_FixTurns_j1_raw, show (4294967296 : Int) = ((4294967296 : Nat) : Int) from rfl]
  refine ite_cases (fun hx => ?_) (fun hx => ?_)
  · refine call1_of (mul_at h ha hc) fun e w ⟨he, h⟩ => ⟨_, he, ?_⟩
    refine call1_of (scale_at h ha hc (by omega)) fun e w ⟨he, h⟩ => ⟨_, he, ?_⟩
    refine ite_true (by simp) ?_
    exact call1_of (fknown_at h) fun e w ⟨he, h⟩ => ⟨_, he, rfl, h⟩
  · simp only [decide_eq_false_iff_not] at hx
    refine call1_of (scale_at h ha hc (by omega)) fun e w ⟨he, h⟩ => ⟨_, he, ?_⟩
    refine call1_of (scale_at h hb hc (by omega)) fun e w ⟨he, h⟩ => ⟨_, he, ?_⟩
    have := scaleN_mono (a := a) (b := b) (c := c) (d := 4294967296) (by omega) hb hc (by omega)
    refine ite_true (by exact decide_eq_true (Int.ofNat_le.2 this)) ?_
    refine call1_of (mul_at h ha hc) fun e w ⟨he, h⟩ => ⟨_, he, ?_⟩
    refine call1_of (scale_at h ha hc (by omega)) fun e w ⟨he, h⟩ => ⟨_, he, ?_⟩
    refine ite_true (by simp) ?_
    exact call1_of (fknown_at h) fun e w ⟨he, h⟩ => ⟨_, he, rfl, h⟩
end
end Go.Proofs.Ytclmefcfmdefjaa
