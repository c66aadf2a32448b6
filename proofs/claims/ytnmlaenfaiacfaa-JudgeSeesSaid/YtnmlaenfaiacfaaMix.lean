/- hoard/mix: Mix, Hash, Place. -/
import Derived.Test.YtnmlaenfaiacfaaTexts
import Derived.Test.YtnmlaenfaiacfaaIndexHp
set_option linter.unusedVariables false
set_option linter.unusedSimpArgs false
set_option linter.unnecessarySimpa false
set_option linter.unusedSectionVars false
namespace Go.Proofs.Ytnmlaenfaiacfaa
open Go.Hb Go.IntWalk
section
variable {W w : World} {L : List HP}
theorem mix_at (hs : Sat W w L) {x : Int} : Calls Try.prog id_mix_Mix #[.int .u64 x] w fun e w' => e = .returned (.int .u64 (mixV x)) ∧ Sat W w' L := by
  refine c1 (mix_Mix_calls ?_)
  rw [mix_Mix_def, mix_Mix_raw]
  exact ⟨by decide, by decide, by decide, rfl, hs⟩
theorem hash_at (hs : Sat W w L) {seed : Int} {s : ByteArray} (hz : s.size < 4611686018427387904) : Calls Try.prog id_mix_Hash #[.int .u64 seed, .string s] w fun e w' => e = .returned (.int .u64 (hashV seed s)) ∧ Sat W w' L := by
  refine c1 (mix_Hash_calls ?_)
  rw [mix_Hash_def, mix_Hash_raw]
  refine call1_of (mix_at hs) fun e w ⟨he, hs⟩ => ⟨_, he, ?_⟩
  have loop : ∀ (m i : Nat) (h : Int) (w : World), i + m = s.size → Sat W w L → mix_Hash_l1 idJ (fun v w' => v = .int .u64 (hashGo s m i h) ∧ Sat W w' L) (m + 1) s h (s.size : Int) (i : Int) w := by
    intro m
    induction m with
    | zero =>
      intro i h w hi hs
      rw [mix_Hash_l1_raw]
      refine ite_false (decide_eq_false (by omega)) ?_
      rw [mix_Hash_j2_def, mix_Hash_j2_raw]
      exact ⟨rfl, hs⟩
    | succ m ih =>
      intro i h w hi hs
      rw [mix_Hash_l1_raw]
      refine ite_true (decide_eq_true (by omega)) (when_of (by omega) ?_)
      refine call1_of (mix_at hs) fun e w ⟨he, hs⟩ => ⟨_, he, ?_⟩
      rw [i64_in _ (by omega)]
      exact ih (i + 1) _ w (by omega) hs
  rw [hashV_eq]
  refine ⟨s.size + 1, ?_⟩
  exact loop s.size 0 _ w (by omega) hs
theorem place_at (hs : Sat W w L) {h : Int} {n : Nat} (h0 : 0 ≤ h) (hn : 0 < n) (hb : n < 4611686018427387904) : Calls Try.prog id_mix_Place #[.int .u64 h, .int .i64 (n : Int)] w fun e w' => e = .returned (.int .i64 ((h.toNat % n : Nat) : Int)) ∧ Sat W w' L := by
  refine c1 (mix_Place_calls ?_)
  rw [mix_Place_def, mix_Place_raw]
  refine ite_false (decide_eq_false (by omega)) ?_
  rw [u64_in _ (by omega)]
  refine when_of (by omega) ⟨?_, hs⟩
  rw [Int.tmod_eq_emod_of_nonneg h0]
  have e1 : h % (n : Int) = ((h.toNat % n : Nat) : Int) := by
    rw [Int.natCast_emod, Int.toNat_of_nonneg h0]
  have := Nat.mod_lt h.toNat hn
  rw [e1, i64_in _ (by omega)]
end
end Go.Proofs.Ytnmlaenfaiacfaa
