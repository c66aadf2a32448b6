/- WeighCalm, WeighAlike, WeighLoses, walked. -/
import Derived.Test.YtclmefcfmdefjaaWeighPure
set_option linter.unusedVariables false
namespace Go.Proofs.Ytclmefcfmdefjaa
open Go.Hb Go.IntWalk
section
variable {W w : World} {M : List HP}
theorem calm_loop {l0 : Sl} {rows : List (List Value)} (hl : l0.n = rows.length) (h50 : rows.length ≤ 50) (h5 : Row5 rows) (hlen : ∀ r ∈ rows, r.length = 5) (hr : Reads W 5 l0 rows.flatten) (all : Int) {b5 : Nat} {Q : Value → WP} (hQ : ∀ w, Sat W w [old W] → Q (.bool true) w) :
    ∀ (m i : Nat) (ws : List Int) (w : World), i + m = rows.length → is5L ws = true → Sat W w [blk b5 [.int .u64 (ws.getD 0 0), .int .u64 (ws.getD 1 0), .int .u64 (ws.getD 2 0), .int .u64 (ws.getD 3 0), .int .u64 (ws.getD 4 0)], old W] → hoardlaw19_WeighCalm_l1 idJ Q (m + 1) l0 all b5 0 (i : Int) w := by
  intro m
  induction m with
  | zero =>
    intro i ws w hi his h
    rw [hoardlaw19_WeighCalm_l1_raw]
    refine ite_false (by simp; omega) ?_
    rw [hoardlaw19_WeighCalm_j2_def, hoardlaw19_WeighCalm_j2_raw]
    refine drawW_by (fun w' => Sat W w' [blk b5 [.int .u64 (ws.getD 0 0), .int .u64 (ws.getD 1 0), .int .u64 (ws.getD 2 0), .int .u64 (ws.getD 3 0), .int .u64 (ws.getD 4 0)], old W]) h.drew ?_
    have h := h.drew
    refine ldS_by (ws.getD 0 0) (fun w' h' => h'.cell (q := 0) rfl) ?_
    refine ldS_by (ws.getD 1 0) (fun w' h' => h'.cell (q := 0) rfl) ?_
    refine ldS_by (ws.getD 2 0) (fun w' h' => h'.cell (q := 0) rfl) ?_
    refine ldS_by (ws.getD 3 0) (fun w' h' => h'.cell (q := 0) rfl) ?_
    refine ldS_by (ws.getD 4 0) (fun w' h' => h'.cell (q := 0) rfl) ?_
    refine ldS_by (ws.getD 0 0) (fun w' h' => h'.cell (q := 0) rfl) ?_
    refine ldS_by (ws.getD 1 0) (fun w' h' => h'.cell (q := 0) rfl) ?_
    refine ldS_by (ws.getD 2 0) (fun w' h' => h'.cell (q := 0) rfl) ?_
    refine ldS_by (ws.getD 3 0) (fun w' h' => h'.cell (q := 0) rfl) ?_
    refine ldS_by (ws.getD 4 0) (fun w' h' => h'.cell (q := 0) rfl) ?_
    have hc := calm his all
    refine (nextW_at h his 0 0 0 0 0 all).mono fun e' w ⟨he, h⟩ => ⟨_, _, _, _, _, he, keep_of h ?_⟩
    rw [hc 0 (by omega), hc 1 (by omega), hc 2 (by omega), hc 3 (by omega), hc 4 (by omega)]
    refine ite_true (by simp) ?_
    exact call1_of (wknown_at h) fun e' w ⟨he, h⟩ => ⟨_, he, hQ w h.drop⟩
  | succ m ih =>
    intro i ws w hi his h
    rw [hoardlaw19_WeighCalm_l1_raw]
    refine ite_true (by simp; omega) ?_
    obtain ⟨g0, g1, g2, g3, g4, hrow⟩ := h5 i (by omega)
    have hcell : ∀ (j : Nat) (x : Value), j < 5 → [Value.int .i64 g0, .int .i64 g1, .int .i64 g2, .int .i64 g3, .int .i64 g4][j]? = some x → rows.flatten[i * 5 + j]? = some x := fun j x hj hx => by
      rw [flat_get hlen hj, hrow]; exact hx
    refine drawW_by (fun w' => Sat W w' [blk b5 [.int .u64 (ws.getD 0 0), .int .u64 (ws.getD 1 0), .int .u64 (ws.getD 2 0), .int .u64 (ws.getD 3 0), .int .u64 (ws.getD 4 0)], old W]) h.drew ?_
    have h := h.drew
    refine ldS_by (ws.getD 0 0) (fun w' h' => h'.cell (q := 0) rfl) ?_
    refine ldS_by (ws.getD 1 0) (fun w' h' => h'.cell (q := 0) rfl) ?_
    refine ldS_by (ws.getD 2 0) (fun w' h' => h'.cell (q := 0) rfl) ?_
    refine ldS_by (ws.getD 3 0) (fun w' h' => h'.cell (q := 0) rfl) ?_
    refine ldS_by (ws.getD 4 0) (fun w' h' => h'.cell (q := 0) rfl) ?_
    refine idx_old hr (by omega) (by omega) fun bo oo ha => ?_
    refine ld_olds 1 (j := i * 5 + 0) (x := g0) h rfl hr ha (by simp only [Int.toNat_natCast]; omega) (hcell 0 _ (by omega) rfl) ?_
    refine ld_olds 1 (j := i * 5 + 1) (x := g1) h rfl hr ha (by simp only [Int.toNat_natCast]; omega) (hcell 1 _ (by omega) rfl) ?_
    refine ld_olds 1 (j := i * 5 + 2) (x := g2) h rfl hr ha (by simp only [Int.toNat_natCast]; omega) (hcell 2 _ (by omega) rfl) ?_
    refine ld_olds 1 (j := i * 5 + 3) (x := g3) h rfl hr ha (by simp only [Int.toNat_natCast]; omega) (hcell 3 _ (by omega) rfl) ?_
    refine ld_olds 1 (j := i * 5 + 4) (x := g4) h rfl hr ha (by simp only [Int.toNat_natCast]; omega) (hcell 4 _ (by omega) rfl) ?_
    refine keep_of h ?_
    refine (nextW_at h his g0 g1 g2 g3 g4 100).mono fun e' w ⟨he, h⟩ => ⟨_, _, _, _, _, he, ?_⟩
    have hn := nextW_is ws g0 g1 g2 g3 g4 100
    generalize nextW ws g0 g1 g2 g3 g4 100 = ws' at *
    refine st_at 0 h rfl (by simp) fun w h => st_at 0 h rfl (by simp) fun w h => st_at 0 h rfl (by simp) fun w h => st_at 0 h rfl (by simp) fun w h => st_at 0 h rfl (by simp) fun w h => ?_
    rw [i64_in _ (by omega)]
    exact ih (i + 1) ws' w (by omega) hn h
theorem weighCalm_walk {l0 : Sl} {rows : List (List Value)} (hl : l0.n = rows.length) (ho : ∀ x ∈ rows, okRow [.int .i64, .int .i64, .int .i64, .int .i64, .int .i64] x) (hr : Reads W 5 l0 rows.flatten) (all : Int) :
    Calls Try.prog id_hoardlaw19_WeighCalm #[.slice l0.a l0.n l0.c, .int .i64 all] W fun e w' => e = .returned (.bool true) ∧ KeptH W w' := by
  have h := Sat.begin W
  refine (c1 (S := fun w' => Sat W w' [old W]) (hoardlaw19_WeighCalm_calls ?_)).mono fun e w' ⟨he, hs⟩ => ⟨he, hs.kept (q := 0) rfl⟩
  rw [hoardlaw19_WeighCalm_def, hoardlaw19_WeighCalm_raw]
  refine ite_cases (fun hc => ⟨rfl, h⟩) (fun hc => ?_)
  simp only [decide_eq_false_iff_not] at hc
  refine (start_at h).mono fun e' w ⟨he, h⟩ => ⟨_, _, _, _, _, he, ?_⟩
  refine newB_at h fun b5 w h => ?_
  refine st_at 0 h rfl (by simp) fun w h => st_at 0 h rfl (by simp) fun w h => st_at 0 h rfl (by simp) fun w h => st_at 0 h rfl (by simp) fun w h => st_at 0 h rfl (by simp) fun w h => ?_
  exact ⟨_, calm_loop hl (by omega) (row5_of ho) (row5_len ho) hr all (fun w h => ⟨rfl, h⟩) rows.length 0 startL w (by omega) (by decide +kernel) h⟩
theorem weighAlike_walk (n all : Int) : Calls Try.prog id_hoardlaw19_WeighAlike #[.int .i64 n, .int .i64 all] W fun e w' => e = .returned (.bool true) ∧ KeptH W w' := by
  have h := Sat.begin W
  refine (c1 (S := fun w' => Sat W w' [old W]) (hoardlaw19_WeighAlike_calls ?_)).mono fun e w' ⟨he, hs⟩ => ⟨he, hs.kept (q := 0) rfl⟩
  rw [hoardlaw19_WeighAlike_def, hoardlaw19_WeighAlike_raw]
  refine ite_cases (fun hc => call1_of (wknown_at h) fun e' w ⟨he, h⟩ => ⟨_, he, rfl, h⟩) (fun hc => ?_)
  refine ite_cases (fun hc => call1_of (wknown_at h) fun e' w ⟨he, h⟩ => ⟨_, he, rfl, h⟩) (fun hc => ?_)
  refine ite_cases (fun hc => call1_of (wknown_at h) fun e' w ⟨he, h⟩ => ⟨_, he, rfl, h⟩) (fun hc => ?_)
  refine ite_cases (fun hc => call1_of (wknown_at h) fun e' w ⟨he, h⟩ => ⟨_, he, rfl, h⟩) (fun hc => ?_)
  rw [hoardlaw19_WeighAlike_j1_def, hoardlaw19_WeighAlike_j1_raw]
  refine (start_at h).mono fun e' w ⟨he, h⟩ => ⟨_, _, _, _, _, he, ?_⟩
  refine (nextW_at h (ws := startL) (by decide +kernel) n n n n n all).mono fun e' w ⟨he, h⟩ => ⟨_, _, _, _, _, he, ?_⟩
  obtain ⟨p, hp⟩ := alike_is n all
  rw [hp]
  have hal := alike_ok p
  generalize alikeL p.val = ws at *
  refine newB_at h fun b5 w h => ?_
  refine st_at 0 h rfl (by simp) fun w h => st_at 0 h rfl (by simp) fun w h => st_at 0 h rfl (by simp) fun w h => st_at 0 h rfl (by simp) fun w h => st_at 0 h rfl (by simp) fun w h => ?_
  refine exM_of 4 ?_
  rw [hoardlaw19_WeighAlike_l2_raw]; refine ite_true (by decide) ?_
  refine drawW_same ?_
  have h := h.drew
  refine when_of (by decide) (ldS_same (x := ws.getD 2 0) (h.cell (q := 0) rfl) (when_of (by decide) (ld_at 0 (x := ws.getD 1 0) h rfl rfl (keep_of rfl ?_))))
  refine ite_false (by rw [hal.1]; simp) ?_
  rw [w3]
  rw [hoardlaw19_WeighAlike_l2_raw]; refine ite_true (by decide) ?_
  refine drawW_same ?_
  have h := h.drew
  refine when_of (by decide) (ldS_same (x := ws.getD 3 0) (h.cell (q := 0) rfl) (when_of (by decide) (ld_at 0 (x := ws.getD 1 0) h rfl rfl (keep_of rfl ?_))))
  refine ite_false (by rw [hal.2.1]; simp) ?_
  rw [w4]
  rw [hoardlaw19_WeighAlike_l2_raw]; refine ite_true (by decide) ?_
  refine drawW_same ?_
  have h := h.drew
  refine when_of (by decide) (ldS_same (x := ws.getD 4 0) (h.cell (q := 0) rfl) (when_of (by decide) (ld_at 0 (x := ws.getD 1 0) h rfl rfl (keep_of rfl ?_))))
  refine ite_false (by rw [hal.2.2.1]; simp) ?_
  rw [w5]
  rw [hoardlaw19_WeighAlike_l2_raw]; refine ite_false (by decide) ?_
  rw [hoardlaw19_WeighAlike_j3_def, hoardlaw19_WeighAlike_j3_raw]
  refine when_of (by decide) (ld_at 0 (x := ws.getD 0 0) h rfl rfl (when_of (by decide) (ld_at 0 (x := ws.getD 1 0) h rfl rfl ?_)))
  refine ite_true (decide_eq_true hal.2.2.2.1) ?_
  refine when_of (by decide) (ld_at 0 (x := ws.getD 0 0) h rfl rfl (when_of (by decide) (ld_at 0 (x := ws.getD 1 0) h rfl rfl ?_)))
  refine ite_true (decide_eq_true hal.2.2.2.2) ?_
  exact call1_of (wknown_at h) fun e' w ⟨he, h⟩ => ⟨_, he, rfl, h.drop⟩
theorem loses_loop {k n : Nat} (hk : k < 5) (hn : n ≤ 200) {b5 : Nat} {Q : Value → WP} (hQ : ∀ w, Sat W w (blk b5 [.int .u64 ((losesL k n).getD 0 0), .int .u64 ((losesL k n).getD 1 0), .int .u64 ((losesL k n).getD 2 0), .int .u64 ((losesL k n).getD 3 0), .int .u64 ((losesL k n).getD 4 0)] :: M) → hoardlaw19_WeighLoses_j3 idJ Q (k : Int) b5 0 w) :
    ∀ (m i : Nat) (w : World), i + m = n → Sat W w (blk b5 [.int .u64 ((losesL k i).getD 0 0), .int .u64 ((losesL k i).getD 1 0), .int .u64 ((losesL k i).getD 2 0), .int .u64 ((losesL k i).getD 3 0), .int .u64 ((losesL k i).getD 4 0)] :: M) → hoardlaw19_WeighLoses_l2 idJ Q (m + 1) (k : Int) (n : Int) b5 0 (i : Int) w := by
  intro m
  induction m with
  | zero =>
    intro i w hi h
    rw [hoardlaw19_WeighLoses_l2_raw]
    refine ite_false (by simp; omega) ?_
    obtain rfl : i = n := by omega
    exact hQ w h
  | succ m ih =>
    intro i w hi h
    rw [hoardlaw19_WeighLoses_l2_raw]
    refine ite_true (by simp; omega) ?_
    refine newB_at h fun b11 w h => ?_
    refine when_of ⟨by omega, by omega⟩ ?_
    refine st_at 0 h rfl (by simp; omega) fun w h => ?_
    have hg : ([.int .i64 0, .int .i64 0, .int .i64 0, .int .i64 0, .int .i64 0] : List Value).set (0 + ((k : Nat) : Int).toNat * 1) (.int .i64 100) = [.int .i64 (losesG k 0), .int .i64 (losesG k 1), .int .i64 (losesG k 2), .int .i64 (losesG k 3), .int .i64 (losesG k 4)] := by
      rw [Int.toNat_natCast, Nat.mul_one, Nat.zero_add]
      have : k = 0 ∨ k = 1 ∨ k = 2 ∨ k = 3 ∨ k = 4 := by omega
      rcases this with rfl | rfl | rfl | rfl | rfl <;> rfl
    have h : Sat W w (blk b11 (([.int .i64 0, .int .i64 0, .int .i64 0, .int .i64 0, .int .i64 0] : List Value).set (0 + ((k : Nat) : Int).toNat * 1) (.int .i64 100)) :: blk b5 [.int .u64 ((losesL k i).getD 0 0), .int .u64 ((losesL k i).getD 1 0), .int .u64 ((losesL k i).getD 2 0), .int .u64 ((losesL k i).getD 3 0), .int .u64 ((losesL k i).getD 4 0)] :: M) := h
    rw [hg] at h
    refine ld_at 1 (x := (losesL k i).getD 0 0) h rfl rfl (ld_at 1 (x := (losesL k i).getD 1 0) h rfl rfl (ld_at 1 (x := (losesL k i).getD 2 0) h rfl rfl (ld_at 1 (x := (losesL k i).getD 3 0) h rfl rfl (ld_at 1 (x := (losesL k i).getD 4 0) h rfl rfl ?_))))
    refine ld_at 0 (x := losesG k 0) h rfl rfl (ld_at 0 (x := losesG k 1) h rfl rfl (ld_at 0 (x := losesG k 2) h rfl rfl (ld_at 0 (x := losesG k 3) h rfl rfl (ld_at 0 (x := losesG k 4) h rfl rfl ?_))))
    have hw : losesL k (i + 1) = nextW (losesL k i) (losesG k 0) (losesG k 1) (losesG k 2) (losesG k 3) (losesG k 4) 100 := rfl
    refine (nextW_at h (loses_is k i) (losesG k 0) (losesG k 1) (losesG k 2) (losesG k 3) (losesG k 4) 100).mono fun e' w ⟨he, h⟩ => ⟨_, _, _, _, _, he, ?_⟩
    rw [← hw]
    refine st_at 1 h rfl (by simp) fun w h => st_at 1 h rfl (by simp) fun w h => st_at 1 h rfl (by simp) fun w h => st_at 1 h rfl (by simp) fun w h => st_at 1 h rfl (by simp) fun w h => ?_
    rw [i64_in _ (by omega)]
    exact ih (i + 1) w (by omega) h.drop
theorem weighLoses_walk (kind epochs : Int) : Calls Try.prog id_hoardlaw19_WeighLoses #[.int .i64 kind, .int .i64 epochs] W fun e w' => e = .returned (.bool true) ∧ KeptH W w' := by
  have h := Sat.begin W
  refine (c1 (S := fun w' => Sat W w' [old W]) (hoardlaw19_WeighLoses_calls ?_)).mono fun e w' ⟨he, hs⟩ => ⟨he, hs.kept (q := 0) rfl⟩
  rw [hoardlaw19_WeighLoses_def, hoardlaw19_WeighLoses_raw]
  refine ite_cases (fun hc => call1_of (wknown_at h) fun e' w ⟨he, h⟩ => ⟨_, he, rfl, h⟩) (fun h1 => ?_)
  refine ite_cases (fun hc => call1_of (wknown_at h) fun e' w ⟨he, h⟩ => ⟨_, he, rfl, h⟩) (fun h2 => ?_)
  refine ite_cases (fun hc => call1_of (wknown_at h) fun e' w ⟨he, h⟩ => ⟨_, he, rfl, h⟩) (fun h3 => ?_)
  refine ite_cases (fun hc => call1_of (wknown_at h) fun e' w ⟨he, h⟩ => ⟨_, he, rfl, h⟩) (fun h4 => ?_)
  simp only [decide_eq_false_iff_not] at h1 h2 h3 h4
  obtain ⟨k, rfl⟩ : ∃ k : Nat, kind = (k : Int) := ⟨kind.toNat, by omega⟩
  obtain ⟨n, rfl⟩ : ∃ n : Nat, epochs = (n : Int) := ⟨epochs.toNat, by omega⟩
  rw [hoardlaw19_WeighLoses_j1_def, hoardlaw19_WeighLoses_j1_raw]
  refine (start_at h).mono fun e' w ⟨he, h⟩ => ⟨_, _, _, _, _, he, ?_⟩
  refine newB_at h fun b5 w h => ?_
  refine st_at 0 h rfl (by simp) fun w h => st_at 0 h rfl (by simp) fun w h => st_at 0 h rfl (by simp) fun w h => st_at 0 h rfl (by simp) fun w h => st_at 0 h rfl (by simp) fun w h => ?_
  refine ⟨_, loses_loop (k := k) (n := n) (by omega) (by omega) ?_ n 0 w (by omega) h⟩
  intro w h
  rw [hoardlaw19_WeighLoses_j3_def, hoardlaw19_WeighLoses_j3_raw]
  have h40 : (losesL k n).getD k 0 = 42949672 := by
    have := loses_floor (k := k) (by omega) (n - 3)
    rwa [show 3 + (n - 3) = n by omega] at this
  refine when_of ⟨by omega, by omega⟩ ?_
  refine ld_at 0 (x := (losesL k n).getD k 0) h rfl ?_ ?_
  · rw [Int.toNat_natCast, Nat.mul_one, Nat.zero_add]
    have : k = 0 ∨ k = 1 ∨ k = 2 ∨ k = 3 ∨ k = 4 := by omega
    rcases this with rfl | rfl | rfl | rfl | rfl <;> rfl
  rw [h40]
  refine ite_true (by decide) ?_
  exact call1_of (wknown_at h) fun e' w ⟨he, h⟩ => ⟨_, he, rfl, h.drop⟩
end
end Go.Proofs.Ytclmefcfmdefjaa
