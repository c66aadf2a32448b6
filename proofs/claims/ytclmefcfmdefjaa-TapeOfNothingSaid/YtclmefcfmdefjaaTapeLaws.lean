/- THE TAPE's LAWS, walked. -/
import Derived.Test.YtclmefcfmdefjaaTape
import Derived.Test.YtclmefcfmdefjaaLaw
set_option linter.unusedVariables false
namespace Go.Proofs.Ytclmefcfmdefjaa
open Go.Hb Go.IntWalk

section
variable {W w : World} {M : List HP}
theorem nextNil_at (h : Sat W w M) : Calls Try.prog id_tape_Tape_Next #[.pointer none] w fun e w' => e = .returned (.int .u32 0) ∧ Sat W w' M := by
  refine (tape_Tape_Next_calls (t0 := none) (Q := fun v w' => v = .int .u32 0 ∧ Sat W w' M) ?_).mono fun e w' ⟨v, he, hv, hs⟩ => ⟨by rw [he, hv], hs⟩
  rw [tape_Tape_Next_def, tape_Tape_Next_raw]
  exact ite_true rfl ⟨rfl, h⟩
theorem leftNil_at (h : Sat W w M) : Calls Try.prog id_tape_Tape_Left #[.pointer none] w fun e w' => e = .returned (.int .i64 0) ∧ Sat W w' M := by
  refine (tape_Tape_Left_calls (t0 := none) (Q := fun v w' => v = .int .i64 0 ∧ Sat W w' M) ?_).mono fun e w' ⟨v, he, hv, hs⟩ => ⟨by rw [he, hv], hs⟩
  rw [tape_Tape_Left_def, tape_Tape_Left_raw]
  exact ite_true rfl ⟨rfl, h⟩
theorem takenNil_at (h : Sat W w M) : Calls Try.prog id_tape_Tape_Taken #[.pointer none] w fun e w' => e = .returned (.int .i64 0) ∧ Sat W w' M := by
  refine (tape_Tape_Taken_calls (t0 := none) (Q := fun v w' => v = .int .i64 0 ∧ Sat W w' M) ?_).mono fun e w' ⟨v, he, hv, hs⟩ => ⟨by rw [he, hv], hs⟩
  rw [tape_Tape_Taken_def, tape_Tape_Taken_raw]
  exact ite_true rfl ⟨rfl, h⟩

theorem nothing_loop {n : Int} (hn : n ≤ 100) {Q : Value → WP} (hQ : ∀ w, Sat W w M → Q (.bool true) w) : ∀ (m : Nat) (i : Int) (w : World), 0 ≤ i → i ≤ n → m = (n - i).toNat → Sat W w M →
    hoardlaw3_TapeOfNothing_l2 idJ Q (m + 1) n none i w := by
  intro m
  induction m with
  | zero =>
    intro i w h0 h1 hm h
    rw [hoardlaw3_TapeOfNothing_l2_raw]
    refine ite_false (by simp; omega) ?_
    rw [hoardlaw3_TapeOfNothing_j3_def, hoardlaw3_TapeOfNothing_j3_raw]
    refine call1_of (leftNil_at h) fun e w ⟨he, h⟩ => ⟨_, he, ?_⟩
    refine ite_true rfl ?_
    refine call1_of (takenNil_at h) fun e w ⟨he, h⟩ => ⟨_, he, ?_⟩
    refine ite_true rfl ?_
    exact call1_of (known_at h) fun e w ⟨he, h⟩ => ⟨_, he, hQ _ h⟩
  | succ m ih =>
    intro i w h0 h1 hm h
    rw [hoardlaw3_TapeOfNothing_l2_raw]
    refine ite_true (by simp; omega) ?_
    refine call1_of (nextNil_at h) fun e w ⟨he, h⟩ => ⟨_, he, ?_⟩
    refine ite_false rfl ?_
    rw [i64_in _ (by omega)]
    exact ih _ _ (by omega) (by omega) (by omega) h
theorem tapeOfNothing_walk (n : Int) (W : World) : Calls Try.prog id_hoardlaw3_TapeOfNothing #[.int .i64 n] W fun e w' => e = .returned (.bool true) ∧ KeptH W w' := by
  refine (hoardlaw3_TapeOfNothing_calls (Q := fun v w' => v = .bool true ∧ Sat W w' [old W]) ?_).mono fun e w' ⟨v, he, hv, hs⟩ => ⟨by rw [he, hv], hs.kept (q := 0) rfl⟩
  have h := Sat.begin W
  rw [hoardlaw3_TapeOfNothing_def, hoardlaw3_TapeOfNothing_raw]
  refine ite_cases (fun hc => ?_) (fun hc => ?_)
  · exact call1_of (known_at h) fun e w ⟨he, h⟩ => ⟨_, he, rfl, h⟩
  refine ite_cases (fun hc' => ?_) (fun hc' => ?_)
  · exact call1_of (known_at h) fun e w ⟨he, h⟩ => ⟨_, he, rfl, h⟩
  simp only [decide_eq_false_iff_not] at hc hc'
  rw [hoardlaw3_TapeOfNothing_j1_def, hoardlaw3_TapeOfNothing_j1_raw]
  exact ⟨_, nothing_loop (by omega) (fun w h => ⟨rfl, h⟩) _ 0 _ (by omega) (by omega) rfl h⟩
end
end Go.Proofs.Ytclmefcfmdefjaa
