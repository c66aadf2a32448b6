/- hoardlaw3.TapeDraws, walked. -/
import Derived.Test.YtclmefcfmdefjaaTape
import Derived.Test.YtclmefcfmdefjaaLaw
namespace Go.Proofs.Ytclmefcfmdefjaa
open Go.Hb Go.IntWalk

section
variable {W : World} {l0 : Sl} {l : List Int} {n : Int} {t : Nat}
theorem draws_loop2 (hl : l0.n = l.length) (h500 : l.length ≤ 500) (hn0 : 0 ≤ n) (hn : n ≤ 600) (hr : Reads W 1 l0 (u32s l)) {M : List HP} {q : Nat} (hq : M[q]? = some (old W)) {Q : Value → WP} (hQ : ∀ w, Sat W w M → Q (.bool true) w) :
    ∀ (m : Nat) (i : Int) (w : World), 0 ≤ i → i ≤ n → m = (n - i).toNat → Sat W w (tapeR t l i :: M) → hoardlaw3_TapeDraws_l4 idJ Q (m + 1) l0 n (some ⟨t, 0, none⟩) i w := by
  intro m
  induction m with
  | zero =>
    intro i w h0 h1 hm h
    have hi : i = n := by omega
    subst hi
    rw [hoardlaw3_TapeDraws_l4_raw]
    refine ite_false (by simp) ?_
    rw [hoardlaw3_TapeDraws_j6_def, hoardlaw3_TapeDraws_j6_raw]
    refine call1_of (taken_at h) fun e w ⟨he, h⟩ => ⟨_, he, ?_⟩
    refine ite_true (by simp) ?_
    exact call1_of (known_at h) fun e w ⟨he, h⟩ => ⟨_, he, hQ _ h.drop⟩
  | succ m ih =>
    intro i w h0 h1 hm h
    rw [hoardlaw3_TapeDraws_l4_raw]
    refine ite_true (by simp; omega) ?_
    have key : ∀ want w, want = l.getD i.toNat 0 → Sat W w (tapeR t l i :: M) → hoardlaw3_TapeDraws_j5 idJ Q (m + 1) l0 n (some ⟨t, 0, none⟩) i want w := by
      intro want w hwant h
      rw [hoardlaw3_TapeDraws_j5_def, hoardlaw3_TapeDraws_j5_raw]
      refine call1_of (left_at h h0 (by omega) (by omega)) fun e w ⟨he, h⟩ => ⟨_, he, ?_⟩
      refine ite_false (by rw [i64_in _ (by omega), hl]; simp) ?_
      refine call1_of (taken_at h) fun e w ⟨he, h⟩ => ⟨_, he, ?_⟩
      refine ite_false (by simp) ?_
      refine call1_of (next_at h h0 (by omega) (by omega)) fun e w ⟨he, h⟩ => ⟨_, he, ?_⟩
      refine ite_false (by rw [hwant]; simp) ?_
      rw [i64_in _ (by omega)]
      exact ih _ _ (by omega) (by omega) (by omega) h
    refine ite_cases (fun hc => ?_) (fun hc => ?_) <;> simp only [decide_eq_true_eq, decide_eq_false_iff_not] at hc
    · refine idx_old hr h0 hc fun b o ha => ?_
      refine ld_olds (q + 1) (j := i.toNat) (x := l.getD i.toNat 0) h hq hr ha (by omega) ?_ (key _ _ rfl h)
      rw [u32s, List.getElem?_map, List.getD_eq_getElem?_getD, List.getElem?_eq_getElem (by omega)]; rfl
    · exact key _ _ (by rw [List.getD_eq_getElem?_getD, List.getElem?_eq_none (by omega)]; rfl) h
theorem draws_loop1 (hl : l0.n = l.length) (h500 : l.length ≤ 500) (hn0 : 0 ≤ n) (hn : n ≤ 600) (hr : Reads W 1 l0 (u32s l)) {s : Sl} (hs : s.n = l.length) {Q : Value → WP} (hQ : ∀ w, Sat W w [old W] → Q (.bool true) w) :
    ∀ (m : Nat) (i : Int) (cs : List Value) (w : World), 0 ≤ i → i ≤ l.length → m = (l.length - i).toNat → cs.length = l.length → Sat W w [tapeR t l 0, slcv 1 s cs, old W] → hoardlaw3_TapeDraws_l2 idJ Q (m + 1) l0 n s (some ⟨t, 0, none⟩) i w := by
  intro m
  induction m with
  | zero =>
    intro i cs w h0 h1 hm hcs h
    rw [hoardlaw3_TapeDraws_l2_raw]
    refine ite_false (by simp; omega) ?_
    rw [hoardlaw3_TapeDraws_j3_def, hoardlaw3_TapeDraws_j3_raw]
    exact ⟨_, draws_loop2 hl h500 hn0 hn hr (q := 1) rfl (fun w h => hQ w h.drop) _ 0 _ (by omega) hn0 rfl h⟩
  | succ m ih =>
    intro i cs w h0 h1 hm hcs h
    rw [hoardlaw3_TapeDraws_l2_raw]
    refine ite_true (by simp; omega) ?_
    refine idx_at 1 h rfl h0 (by omega) fun b o ha => ?_
    refine st_slc 1 (j := i.toNat) h rfl ha (by omega) (by omega) fun w h => ?_
    rw [i64_in _ (by omega)]
    exact ih _ (cs.set i.toNat (.int .u32 7)) _ (by omega) (by omega) (by omega) (by simpa using hcs) h
theorem okC_u32s (ds : List Int) : okC (u32s ds) = true := by
  induction ds with
  | nil => rfl
  | cons a l ih => exact ih
theorem tapeDraws_walk (hl : l0.n = l.length) (hr : Reads W 1 l0 (u32s l)) (n : Int) : Calls Try.prog id_hoardlaw3_TapeDraws #[.slice l0.a l0.n l0.c, .int .i64 n] W fun e w' => e = .returned (.bool true) ∧ KeptH W w' := by
  refine (hoardlaw3_TapeDraws_calls (Q := fun v w' => v = .bool true ∧ Sat W w' [old W]) ?_).mono fun e w' ⟨v, he, hv, hs⟩ => ⟨by rw [he, hv], hs.kept (q := 0) rfl⟩
  have h := Sat.begin W
  rw [hoardlaw3_TapeDraws_def, hoardlaw3_TapeDraws_raw]
  refine ite_cases (fun hc => ⟨rfl, h⟩) (fun hc => ?_)
  refine ite_cases (fun hc' => ⟨rfl, h⟩) (fun hc' => ?_)
  refine ite_cases (fun hc'' => ⟨rfl, h⟩) (fun hc'' => ?_)
  simp only [decide_eq_false_iff_not] at hc hc' hc''
  rw [hoardlaw3_TapeDraws_j1_def, hoardlaw3_TapeDraws_j1_raw]
  refine newS_at (sz := 1) (n := 0) h rfl fun b1 w h1 => ?_
  refine app_at 0 (vs := u32s l) h1 rfl (rd_old 1 h1 rfl hr) (okC_u32s l) (by rw [u32s_len]; omega) rfl (by simp; omega) fun s w hn' _ _ h2 => ?_
  have hs : s.n = l.length := by rw [hn', hl]; simp
  refine call1_of (new_at (ds := l) (s0 := s) h2 (fun w h => rd_slc 0 h rfl) hs (by omega)) fun e w ⟨t, he, h⟩ => ⟨_, he, ?_⟩
  exact ⟨_, draws_loop1 hl (by omega) (by omega) (by omega) hr hs (fun w h => ⟨rfl, h⟩) _ 0 (u32s l) _ (by omega) (by omega) rfl (u32s_len l) h⟩
end
end Go.Proofs.Ytclmefcfmdefjaa
