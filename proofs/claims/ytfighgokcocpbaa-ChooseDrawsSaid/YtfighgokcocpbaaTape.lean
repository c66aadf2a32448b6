/- THE TAPE (hoard/tape), its contracts, over the printed texts. -/
import Derived.Test.YtfighgokcocpbaaShal
import Derived.Test.YtfighgokcocpbaaSL2
import Derived.IntWalk
set_option linter.unusedVariables false
set_option linter.unusedSimpArgs false
set_option linter.unnecessarySimpa false
set_option linter.unusedSectionVars false
namespace Go.Proofs.Ytfighgokcocpbaa
open Go.Hb Go.IntWalk

def u32s (ds : List Int) : List Value := ds.map (.int .u32)
theorem u32s_len (ds : List Int) : (u32s ds).length = ds.length := by simp [u32s]
/-- block b is a tape of these draws, k of them taken -/
def tapeR (b : Nat) (ds : List Int) (k : Int) : HP := fun h => ∃ s : Sl, star (blk b [.slice s.a s.n s.c, .int .i64 k]) (slcv 1 s (u32s ds)) h

section
variable {W w : World} {M : List HP} {b : Nat} {ds : List Int} {k : Int}
theorem tape_open (h : Sat W w (tapeR b ds k :: M)) : ∃ s : Sl, s.n = ds.length ∧ Sat W w (blk b [.slice s.a s.n s.c, .int .i64 k] :: slcv 1 s (u32s ds) :: M) := by
  obtain ⟨s, h⟩ := h.ex (q := 0) rfl
  have h := h.split
  have := (slcv_facts h (q := 1) rfl).1
  rw [u32s_len] at this
  exact ⟨s, by omega, h⟩
theorem tape_shut {s : Sl} (h : Sat W w (blk b [.slice s.a s.n s.c, .int .i64 k] :: slcv 1 s (u32s ds) :: M)) : Sat W w (tapeR b ds k :: M) :=
  (h.join).turn (q := 0) (p' := tapeR b ds k) rfl fun g hg => ⟨s, hg⟩

theorem ttaken_at (h : Sat W w (tapeR b ds k :: M)) : Calls Try.prog id_tape_Tape_Taken #[.pointer (some ⟨b, 0, none⟩)] w fun e w' => e = .returned (.int .i64 k) ∧ Sat W w' (tapeR b ds k :: M) := by
  refine (tape_Tape_Taken_calls (Q := fun v w' => v = .int .i64 k ∧ Sat W w' (tapeR b ds k :: M)) ?_).mono fun e w' ⟨v, he, hv, hs⟩ => ⟨by rw [he, hv], hs⟩
  obtain ⟨s, hs, h⟩ := tape_open h
  rw [tape_Tape_Taken_def, tape_Tape_Taken_raw]
  refine ite_false rfl ?_
  refine nilck_some ?_
  refine ld_at 0 (x := k) h rfl rfl ?_
  exact ⟨rfl, tape_shut h⟩
theorem tnext_at (h : Sat W w (tapeR b ds k :: M)) (h0 : 0 ≤ k) (h1 : k < 1000000) (hd : ds.length < 1000000) : Calls Try.prog id_tape_Tape_Next #[.pointer (some ⟨b, 0, none⟩)] w fun e w' => e = .returned (.int .u32 (ds.getD k.toNat 0)) ∧ Sat W w' (tapeR b ds (k + 1) :: M) := by
  refine (tape_Tape_Next_calls (Q := fun v w' => v = .int .u32 (ds.getD k.toNat 0) ∧ Sat W w' (tapeR b ds (k + 1) :: M)) ?_).mono fun e w' ⟨v, he, hv, hs⟩ => ⟨by rw [he, hv], hs⟩
  obtain ⟨s, hs, h⟩ := tape_open h
  rw [tape_Tape_Next_def, tape_Tape_Next_raw]
  refine ite_false rfl ?_
  refine nilck_some ?_
  refine ld_at 0 (x := k) h rfl rfl ?_
  refine nilck_some ?_
  refine st_at 0 h rfl (by simp) fun w h => ?_
  rw [i64_in (k + 1) (by omega)] at h
  refine drawW_same ?_
  have h := h.drew
  refine nilck_some ?_
  refine ldS_same (x := k + 1) (h.cell (q := 0) rfl) ?_
  refine nilck_some ?_
  refine ld_at 0 (x := s) h rfl rfl ?_
  refine keep_of rfl ?_
  refine ite_cases (fun hc => ?_) (fun hc => ?_) <;> simp only [decide_eq_true_eq, decide_eq_false_iff_not] at hc
  · have hc : k + 1 > (s.n : Int) := hc
    refine ⟨?_, tape_shut h⟩
    rw [List.getD_eq_getElem?_getD, List.getElem?_eq_none (by omega)]; rfl
  · have hc : ¬ (k + 1 > (s.n : Int)) := hc
    refine drawW_same ?_
    have h := h.drew
    refine nilck_some ?_
    refine ldS_same (x := s) (h.cell (q := 0) rfl) ?_
    refine nilck_some ?_
    refine ld_at 0 (x := k + 1) h rfl rfl ?_
    refine keep_of rfl ?_
    rw [i64_in _ (by omega), Int.add_sub_cancel]
    refine idx_at 1 h rfl h0 (by omega) fun bb oo ha => ?_
    refine ld_slc 1 (j := k.toNat) (x := ds.getD k.toNat 0) h rfl ha (by omega) ?_ ?_
    · rw [u32s, List.getElem?_map, List.getD_eq_getElem?_getD, List.getElem?_eq_getElem (by omega)]; rfl
    · exact ⟨rfl, tape_shut h⟩
theorem tclone_at {s0 : Sl} (h : Sat W w M) (hr : ∀ w, Sat W w M → rdA w s0.a (s0.n * 1) = some (u32s ds)) (hn : s0.n = ds.length) (hd : ds.length < 1000000) : Calls Try.prog id_slices_Clone_s_uint32_uint32 #[.slice s0.a s0.n s0.c] w fun e w' => ∃ s : Sl, e = .returned (.slice s.a s.n s.c) ∧ Sat W w' (slcv 1 s (u32s ds) :: M) := by
  refine (slices_Clone_s_uint32_uint32_calls (Q := fun v w' => ∃ s : Sl, v = .slice s.a s.n s.c ∧ Sat W w' (slcv 1 s (u32s ds) :: M)) ?_).mono fun e w' ⟨v, he, s, hv, hs⟩ => ⟨s, by rw [he, hv], hs⟩
  rw [slices_Clone_s_uint32_uint32_def, slices_Clone_s_uint32_uint32_raw]
  refine ite_cases (fun hc => ?_) (fun hc => ?_)
  · obtain ⟨a, n, c⟩ := s0
    have ha : a = none := by simpa using hc
    subst ha
    have h1 := hr w h
    have : u32s ds = [] := by
      simp only [rdA, Option.some.injEq] at h1
      exact h1.symm
    refine ⟨⟨none, 0, 0⟩, rfl, ?_⟩
    rw [this]; exact nilS h
  · refine newS_at (sz := 1) (n := 0) h rfl fun b1 w h1 => ?_
    refine app_at 0 (vs := u32s ds) h1 rfl (hr w h1.drop) ?_ (by rw [u32s_len]; omega) rfl (by simp; omega) fun s' w' hn' _ _ h2 => ?_
    · generalize ds = l
      induction l with
      | nil => rfl
      | cons a l ih => exact ih
    · exact ⟨s', rfl, h2⟩
theorem tnew_at {s0 : Sl} (h : Sat W w M) (hr : ∀ w, Sat W w M → rdA w s0.a (s0.n * 1) = some (u32s ds)) (hn : s0.n = ds.length) (hd : ds.length < 1000000) : Calls Try.prog id_tape_New #[.slice s0.a s0.n s0.c] w fun e w' => ∃ b, e = .returned (.pointer (some ⟨b, 0, none⟩)) ∧ Sat W w' (tapeR b ds 0 :: M) := by
  refine (tape_New_calls (Q := fun v w' => ∃ b, v = .pointer (some ⟨b, 0, none⟩) ∧ Sat W w' (tapeR b ds 0 :: M)) ?_).mono fun e w' ⟨v, he, s, hv, hs⟩ => ⟨s, by rw [he, hv], hs⟩
  rw [tape_New_def, tape_New_raw]
  refine call1_of (tclone_at h hr hn hd) fun e w' ⟨s, he, h⟩ => ⟨s, he, ?_⟩
  refine newB_at h fun b w' h => ?_
  exact ⟨b, rfl, tape_shut h⟩
end
end Go.Proofs.Ytfighgokcocpbaa
