/- WeighKeeps and WeighLooks, walked. -/
import Derived.Test.YtclmefcfmdefjaaWeigh2
set_option linter.unusedVariables false
namespace Go.Proofs.Ytclmefcfmdefjaa
open Go.Hb Go.IntWalk
theorem keepZ_ok : ∀ k : Fin 16, ¬ keepZ k.val > 4294967296 ∧ ¬ keepZ k.val < 858993459 := by decide +kernel
theorem keepZ_fall : ∀ k : Fin 15, keepZ (k.val + 1) < keepZ k.val ∧ IntKind.wrap .u64 (10 * keepZ (k.val + 1)) ≤ IntKind.wrap .u64 (9 * keepZ k.val) ∧
    IntKind.wrap .u64 (10 * keepZ (k.val + 1)) > IntKind.wrap .u64 (IntKind.wrap .u64 (9 * keepZ k.val) - 10) := by decide +kernel
section
variable {W : World}
theorem weighKeeps_walk {k : Int} (hk : (Lit.int .i64 k).wf = true) : Calls Try.prog id_hoardlaw19_WeighKeeps #[.int .i64 k] W fun e w' => e = .returned (.bool true) ∧ KeptH W w' := by
  have h := Sat.begin W
  have hk := wf_i64 hk
  refine (c1 (S := fun w' => Sat W w' [old W]) (hoardlaw19_WeighKeeps_calls ?_)).mono fun e w' ⟨he, hs⟩ => ⟨he, hs.kept (q := 0) rfl⟩
  rw [hoardlaw19_WeighKeeps_def, hoardlaw19_WeighKeeps_raw]
  have hmin : IntKind.wrap .i64 ((if (14 : Int) < k then (14 : Int) else k) + 1) = (if (14 : Int) < k then (14 : Int) else k) + 1 := i64_in _ (by split <;> omega)
  rw [hmin]
  refine call1_of (keep_at h _) fun e w ⟨he, h⟩ => ⟨_, he, ?_⟩
  refine call1_of (keep_at h _) fun e w ⟨he, h⟩ => ⟨_, he, ?_⟩
  have hb := clampZ_bound k (lo := 0) (hi := 15) (by omega)
  have h1 := keepZ_ok ⟨(clampZ k 0 15).toNat, by omega⟩
  refine ite_false (decide_eq_false h1.1) ?_
  refine ite_false (decide_eq_false h1.2) ?_
  rw [hoardlaw19_WeighKeeps_j1_def, hoardlaw19_WeighKeeps_j1_raw]
  have fin : ∀ w, Sat W w [old W] → (call1 (.int .u64) Try.prog id_weigh_Keep [.int .i64 (0 : Int)] fun x_3 => ite2 (x_3 == (4294967296 : Int)) (call1 .bool Try.prog id_hoardlaw19_known [] fun x_4 => fun w' => (Value.bool x_4 = .bool true ∧ Sat W w' [old W])) (fun w' => (Value.bool false = .bool true ∧ Sat W w' [old W]))) w := by
    intro w h
    refine call1_of (keep_at h 0) fun e w ⟨he, h⟩ => ⟨_, he, ?_⟩
    refine ite_true (by decide +kernel) ?_
    exact call1_of (wknown_at h) fun e w ⟨he, h⟩ => ⟨_, he, rfl, h⟩
  refine ite_cases (fun h0 => fin _ h) (fun h0 => ?_)
  refine ite_cases (fun h14 => fin _ h) (fun h14 => ?_)
  simp only [decide_eq_false_iff_not] at h0 h14
  have hc1 : (clampZ k 0 15).toNat = k.toNat := by
    have : clampZ k 0 15 = k := by unfold clampZ; split <;> split at * <;> omega
    rw [this]
  have hc2 : (clampZ ((if (14 : Int) < k then (14 : Int) else k) + 1) 0 15).toNat = k.toNat + 1 := by
    rw [if_neg (by omega)]
    have : clampZ (k + 1) 0 15 = k + 1 := by unfold clampZ; split <;> split at * <;> omega
    rw [this]; omega
  have hf := keepZ_fall ⟨k.toNat, by omega⟩
  rw [hc1, hc2]
  refine ite_true (decide_eq_true hf.1) ?_
  refine ite_true (decide_eq_true hf.2.1) ?_
  exact ite_true (decide_eq_true hf.2.2) (fin _ h)
theorem weighLooks_walk (a b c d e : Int) {x k : Int} (hx : (Lit.int .u32 x).wf = true) : Calls Try.prog id_hoardlaw19_WeighLooks #[.agg #[.int .u64 a, .int .u64 b, .int .u64 c, .int .u64 d, .int .u64 e], .int .u32 x, .int .i64 k] W fun e w' => e = .returned (.bool true) ∧ KeptH W w' := by
  have h := Sat.begin W
  have hx : 0 ≤ x ∧ x ≤ 4294967295 := by simpa [Lit.wf, IntKind.min, IntKind.max, IntKind.signed, IntKind.bits] using hx
  refine (c1 (S := fun w' => Sat W w' [old W]) (hoardlaw19_WeighLooks_calls ?_)).mono fun e w' ⟨he, hs⟩ => ⟨he, hs.kept (q := 0) rfl⟩
  rw [hoardlaw19_WeighLooks_def, hoardlaw19_WeighLooks_raw]
  refine newB_at h fun b1 w h => ?_
  refine ld_at 0 (x := a) h rfl rfl (ld_at 0 (x := b) h rfl rfl (ld_at 0 (x := c) h rfl rfl (ld_at 0 (x := d) h rfl rfl (ld_at 0 (x := e) h rfl rfl ?_))))
  refine newB_at h fun b7 w h => ?_
  refine st_at 0 h rfl (by simp) fun w h => st_at 0 h rfl (by simp) fun w h => st_at 0 h rfl (by simp) fun w h => st_at 0 h rfl (by simp) fun w h => st_at 0 h rfl (by simp) fun w h => ?_
  have h : Sat W w [blk b7 (u64s [a, b, c, d, e]), blk b1 (u64s [a, b, c, d, e]), old W] := h
  refine drawW_by (fun w' => Sat W w' [blk b7 (u64s [a, b, c, d, e]), blk b1 (u64s [a, b, c, d, e]), old W]) h.drew ?_
  have h := h.drew
  refine ldS_by a (fun w' h' => h'.cell (q := 1) rfl) ?_
  refine ldS_by b (fun w' h' => h'.cell (q := 1) rfl) ?_
  refine ldS_by c (fun w' h' => h'.cell (q := 1) rfl) ?_
  refine ldS_by d (fun w' h' => h'.cell (q := 1) rfl) ?_
  refine ldS_by e (fun w' h' => h'.cell (q := 1) rfl) ?_
  refine ldS_by a (fun w' h' => h'.cell (q := 0) rfl) ?_
  refine ldS_by b (fun w' h' => h'.cell (q := 0) rfl) ?_
  refine ldS_by c (fun w' h' => h'.cell (q := 0) rfl) ?_
  refine ldS_by d (fun w' h' => h'.cell (q := 0) rfl) ?_
  refine ldS_by e (fun w' h' => h'.cell (q := 0) rfl) ?_
  refine call1_of (is_at h a b c d e) fun e' w ⟨he, h⟩ => ⟨_, he, keep_of h ?_⟩
  refine call1_of (ris_at h a b c d e) fun e' w ⟨he, h⟩ => ⟨_, he, keep_of h ?_⟩
  refine ite_true (by simp) ?_
  refine ldS_by a (fun w' h' => h'.cell (q := 1) rfl) ?_
  refine ldS_by b (fun w' h' => h'.cell (q := 1) rfl) ?_
  refine ldS_by c (fun w' h' => h'.cell (q := 1) rfl) ?_
  refine ldS_by d (fun w' h' => h'.cell (q := 1) rfl) ?_
  refine ldS_by e (fun w' h' => h'.cell (q := 1) rfl) ?_
  refine ldS_by a (fun w' h' => h'.cell (q := 0) rfl) ?_
  refine ldS_by b (fun w' h' => h'.cell (q := 0) rfl) ?_
  refine ldS_by c (fun w' h' => h'.cell (q := 0) rfl) ?_
  refine ldS_by d (fun w' h' => h'.cell (q := 0) rfl) ?_
  refine ldS_by e (fun w' h' => h'.cell (q := 0) rfl) ?_
  refine call1_of (sum_at h a b c d e) fun e' w ⟨he, h⟩ => ⟨_, he, keep_of h ?_⟩
  refine call1_of (rsum_at h a b c d e) fun e' w ⟨he, h⟩ => ⟨_, he, keep_of h ?_⟩
  refine ite_true (by simp) ?_
  refine ldS_by a (fun w' h' => h'.cell (q := 1) rfl) ?_
  refine ldS_by b (fun w' h' => h'.cell (q := 1) rfl) ?_
  refine ldS_by c (fun w' h' => h'.cell (q := 1) rfl) ?_
  refine ldS_by d (fun w' h' => h'.cell (q := 1) rfl) ?_
  refine ldS_by e (fun w' h' => h'.cell (q := 1) rfl) ?_
  refine ldS_by a (fun w' h' => h'.cell (q := 0) rfl) ?_
  refine ldS_by b (fun w' h' => h'.cell (q := 0) rfl) ?_
  refine ldS_by c (fun w' h' => h'.cell (q := 0) rfl) ?_
  refine ldS_by d (fun w' h' => h'.cell (q := 0) rfl) ?_
  refine ldS_by e (fun w' h' => h'.cell (q := 0) rfl) ?_
  refine call1_of (pick_at h a b c d e hx) fun e' w ⟨he, h⟩ => ⟨_, he, keep_of h ?_⟩
  refine call1_of (rpick_at h a b c d e hx) fun e' w ⟨he, h⟩ => ⟨_, he, ?_⟩
  refine ite_true (by simp) ?_
  refine call1_of (keep_at h k) fun e' w ⟨he, h⟩ => ⟨_, he, ?_⟩
  refine call1_of (rkeep_at h k) fun e' w ⟨he, h⟩ => ⟨_, he, ?_⟩
  refine ite_true (by simp) ?_
  refine (start_at h).mono fun e' w ⟨he, h⟩ => ⟨_, _, _, _, _, he, ?_⟩
  refine (rstart_at h).mono fun e' w ⟨he, h⟩ => ⟨_, _, _, _, _, he, ?_⟩
  refine ite_true (by simp) ?_
  exact call1_of (wknown_at h) fun e' w ⟨he, h⟩ => ⟨_, he, rfl, h.drop.drop⟩
end
end Go.Proofs.Ytclmefcfmdefjaa
