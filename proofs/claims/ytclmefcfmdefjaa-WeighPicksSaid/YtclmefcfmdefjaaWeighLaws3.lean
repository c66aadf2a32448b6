/- WeighPicks, walked. -/
import Derived.Test.YtclmefcfmdefjaaWeighRowWalk
set_option linter.unusedVariables false
namespace Go.Proofs.Ytclmefcfmdefjaa
open Go.Hb Go.IntWalk
/-- the sum ahead of one -/
def lowL (ws : List Int) : Nat → Int
  | 0 => 0
  | n + 1 => lowL ws n + ws.getD n 0
theorem pick_ok {ws : List Int} (hi : is5L ws = true) {x : Int} (hx : 0 ≤ x ∧ x ≤ 4294967295) : ∃ p : Nat, pick5 (ws.getD 0 0) (ws.getD 1 0) (ws.getD 2 0) (ws.getD 3 0) (ws.getD 4 0) x = (p : Int) ∧ p < 5 ∧ lowL ws p ≤ x ∧ x < lowL ws p + ws.getD p 0 := by
  have h := (is5_iff _ _ _ _ _).1 hi
  have e1 : lowL ws 1 = ws.getD 0 0 := by simp [lowL]
  have e2 : lowL ws 2 = ws.getD 0 0 + ws.getD 1 0 := by simp [lowL]
  have e3 : lowL ws 3 = ws.getD 0 0 + ws.getD 1 0 + ws.getD 2 0 := by simp [lowL]
  have e4 : lowL ws 4 = ws.getD 0 0 + ws.getD 1 0 + ws.getD 2 0 + ws.getD 3 0 := by simp [lowL]
  have e0 : lowL ws 0 = 0 := rfl
  have w1 : IntKind.wrap .u64 (0 + ws.getD 0 0) = ws.getD 0 0 := by rw [IntKind.wrap_u64]; omega
  have w2 : IntKind.wrap .u64 (ws.getD 0 0 + ws.getD 1 0) = ws.getD 0 0 + ws.getD 1 0 := by rw [IntKind.wrap_u64]; omega
  have w3 : IntKind.wrap .u64 (ws.getD 0 0 + ws.getD 1 0 + ws.getD 2 0) = ws.getD 0 0 + ws.getD 1 0 + ws.getD 2 0 := by rw [IntKind.wrap_u64]; omega
  have w4 : IntKind.wrap .u64 (ws.getD 0 0 + ws.getD 1 0 + ws.getD 2 0 + ws.getD 3 0) = ws.getD 0 0 + ws.getD 1 0 + ws.getD 2 0 + ws.getD 3 0 := by rw [IntKind.wrap_u64]; omega
  unfold pick5
  rw [w1, w2, w3, w4]
  by_cases c0 : ws.getD 0 0 > x
  · exact ⟨0, by rw [decide_eq_true c0]; rfl, by omega, by omega, by omega⟩
  rw [decide_eq_false c0]
  by_cases c1 : ws.getD 0 0 + ws.getD 1 0 > x
  · exact ⟨1, by rw [decide_eq_true c1]; rfl, by omega, by omega, by omega⟩
  rw [decide_eq_false c1]
  by_cases c2 : ws.getD 0 0 + ws.getD 1 0 + ws.getD 2 0 > x
  · exact ⟨2, by rw [decide_eq_true c2]; rfl, by omega, by omega, by omega⟩
  rw [decide_eq_false c2]
  by_cases c3 : ws.getD 0 0 + ws.getD 1 0 + ws.getD 2 0 + ws.getD 3 0 > x
  · exact ⟨3, by rw [decide_eq_true c3]; rfl, by omega, by omega, by omega⟩
  rw [decide_eq_false c3]
  exact ⟨4, rfl, by omega, by omega, by omega⟩
theorem low_le {ws : List Int} (hi : is5L ws = true) : ∀ p : Nat, p ≤ 5 → 0 ≤ lowL ws p ∧ lowL ws p ≤ 4294967296 := by
  have h := (is5_iff _ _ _ _ _).1 hi
  intro p hp
  have : p = 0 ∨ p = 1 ∨ p = 2 ∨ p = 3 ∨ p = 4 ∨ p = 5 := by omega
  rcases this with rfl | rfl | rfl | rfl | rfl | rfl <;> simp only [lowL] <;> omega
section
variable {W w : World} {M : List HP}
theorem cells_get {ws : List Int} {i : Nat} (hi : i < 5) : ([.int .u64 (ws.getD 0 0), .int .u64 (ws.getD 1 0), .int .u64 (ws.getD 2 0), .int .u64 (ws.getD 3 0), .int .u64 (ws.getD 4 0)] : List Value)[0 + ((i : Nat) : Int).toNat * 1]? = some (.int .u64 (ws.getD i 0)) := by
  rw [Int.toNat_natCast, Nat.mul_one, Nat.zero_add]
  have : i = 0 ∨ i = 1 ∨ i = 2 ∨ i = 3 ∨ i = 4 := by omega
  rcases this with rfl | rfl | rfl | rfl | rfl <;> rfl
theorem low_loop {ws : List Int} (hi : is5L ws = true) {x : Int} {p : Nat} (hp : p < 5) {b5 : Nat} {Q : Value → WP} (hQ : ∀ w, Sat W w (blk b5 [.int .u64 (ws.getD 0 0), .int .u64 (ws.getD 1 0), .int .u64 (ws.getD 2 0), .int .u64 (ws.getD 3 0), .int .u64 (ws.getD 4 0)] :: M) → hoardlaw19_WeighPicks_j5 idJ Q x b5 0 (p : Int) (lowL ws p) w) :
    ∀ (m i : Nat) (w : World), i + m = p → Sat W w (blk b5 [.int .u64 (ws.getD 0 0), .int .u64 (ws.getD 1 0), .int .u64 (ws.getD 2 0), .int .u64 (ws.getD 3 0), .int .u64 (ws.getD 4 0)] :: M) → hoardlaw19_WeighPicks_l4 idJ Q (m + 1) x b5 0 (p : Int) (lowL ws i) (i : Int) w := by
  intro m
  induction m with
  | zero =>
    intro i w him h
    rw [hoardlaw19_WeighPicks_l4_raw]
    refine ite_false (by simp; omega) ?_
    obtain rfl : i = p := by omega
    exact hQ w h
  | succ m ih =>
    intro i w him h
    rw [hoardlaw19_WeighPicks_l4_raw]
    refine ite_true (by simp; omega) ?_
    refine when_of ⟨by omega, by omega⟩ ?_
    refine ld_at 0 (x := ws.getD i 0) h rfl (cells_get (by omega)) ?_
    have hl := low_le hi (i + 1) (by omega)
    rw [i64_in _ (by omega), show IntKind.wrap .u64 (lowL ws i + ws.getD i 0) = lowL ws (i + 1) by
      show IntKind.wrap .u64 (lowL ws (i + 1)) = _
      rw [IntKind.wrap_u64]; omega]
    exact ih (i + 1) w (by omega) h
theorem picks_end {ws : List Int} (hi : is5L ws = true) {x : Int} (hx : 0 ≤ x ∧ x ≤ 4294967295) {b5 : Nat} {Q : Value → WP} (hQ : ∀ w, Sat W w M → Q (.bool true) w) (h : Sat W w (blk b5 [.int .u64 (ws.getD 0 0), .int .u64 (ws.getD 1 0), .int .u64 (ws.getD 2 0), .int .u64 (ws.getD 3 0), .int .u64 (ws.getD 4 0)] :: M)) : hoardlaw19_WeighPicks_j2 idJ Q x b5 0 w := by
  rw [hoardlaw19_WeighPicks_j2_def, hoardlaw19_WeighPicks_j2_raw]
  refine ld_at 0 (x := ws.getD 0 0) h rfl rfl (ld_at 0 (x := ws.getD 1 0) h rfl rfl (ld_at 0 (x := ws.getD 2 0) h rfl rfl (ld_at 0 (x := ws.getD 3 0) h rfl rfl (ld_at 0 (x := ws.getD 4 0) h rfl rfl ?_))))
  refine call1_of (pick_at h _ _ _ _ _ hx) fun e' w ⟨he, h⟩ => ⟨_, he, ?_⟩
  obtain ⟨p, hp, hp5, hlo, hup⟩ := pick_ok hi hx
  rw [hp]
  refine ite_false (by simp) ?_
  refine ite_false (by simp; omega) ?_
  rw [hoardlaw19_WeighPicks_j3_def, hoardlaw19_WeighPicks_j3_raw]
  refine ⟨_, low_loop hi hp5 ?_ p 0 w (by omega) h⟩
  intro w h
  rw [hoardlaw19_WeighPicks_j5_def, hoardlaw19_WeighPicks_j5_raw, u32_64 hx]
  refine ite_true (decide_eq_true hlo) ?_
  refine when_of ⟨by omega, by omega⟩ ?_
  refine ld_at 0 (x := ws.getD p 0) h rfl (cells_get hp5) ?_
  have hl := low_le hi (p + 1) (by omega)
  rw [show IntKind.wrap .u64 (lowL ws p + ws.getD p 0) = lowL ws p + ws.getD p 0 by
    have : 0 ≤ lowL ws p + ws.getD p 0 ∧ lowL ws p + ws.getD p 0 ≤ 4294967296 := hl
    rw [IntKind.wrap_u64]; omega]
  refine ite_true (decide_eq_true hup) ?_
  exact call1_of (wknown_at h) fun e' w ⟨he, h⟩ => ⟨_, he, hQ w h.drop⟩
theorem picks_loop {l0 : Sl} {rows : List (List Value)} (hl : l0.n = rows.length) (h50 : rows.length ≤ 50) (h5 : Row5 rows) (hlen : ∀ r ∈ rows, r.length = 5) (hr : Reads W 5 l0 rows.flatten) {x : Int} (hx : 0 ≤ x ∧ x ≤ 4294967295) {b5 : Nat} {Q : Value → WP} (hQ : ∀ w, Sat W w [old W] → Q (.bool true) w) :
    ∀ (m i : Nat) (ws : List Int) (w : World), i + m = rows.length → is5L ws = true → Sat W w [blk b5 [.int .u64 (ws.getD 0 0), .int .u64 (ws.getD 1 0), .int .u64 (ws.getD 2 0), .int .u64 (ws.getD 3 0), .int .u64 (ws.getD 4 0)], old W] → hoardlaw19_WeighPicks_l1 idJ Q (m + 1) l0 x b5 0 (i : Int) w := by
  intro m
  induction m with
  | zero =>
    intro i ws w hi his h
    rw [hoardlaw19_WeighPicks_l1_raw]
    refine ite_false (by simp; omega) ?_
    exact picks_end his hx hQ h
  | succ m ih =>
    intro i ws w hi his h
    rw [hoardlaw19_WeighPicks_l1_raw]
    refine ite_true (by simp; omega) ?_
    obtain ⟨g0, g1, g2, g3, g4, hrow⟩ := h5 i (by omega)
    have hcell : ∀ (j : Nat) (x : Value), j < 5 → [Value.int .i64 g0, .int .i64 g1, .int .i64 g2, .int .i64 g3, .int .i64 g4][j]? = some x → rows.flatten[i * 5 + j]? = some x := fun j x hj hx => by
      rw [flat_get hlen hj, hrow]; exact hx
    refine drawW_by (fun w' => Sat W w' [blk b5 [.int .u64 (ws.getD 0 0), .int .u64 (ws.getD 1 0), .int .u64 (ws.getD 2 0), .int .u64 (ws.getD 3 0), .int .u64 (ws.getD 4 0)], old W]) h.drew ?_
    have h := h.drew
    refine ldS_by (ws.getD 0 0) (fun w' h' => h'.cell (q := 0) rfl) ?_
    refine ldS_by (ws.getD 1 0) (fun w' h' => h'.cell (q := 0) rfl) ?_
    refine ldS_by (ws.getD 2 0) (fun w' h' => h'.cell (q := 0) rfl) ?_
    refine ldS_by (ws.getD 3 0) (fun w' h' => h'.cell (q := 0) rfl) ?_
    refine ldS_by (ws.getD 4 0) (fun w' h' => h'.cell (q := 0) rfl) ?_
    refine idx_old hr (by omega) (by omega) fun bo oo ha => ?_
    refine ld_olds 1 (j := i * 5 + 0) (x := g0) h rfl hr ha (by simp only [Int.toNat_natCast]; omega) (hcell 0 _ (by omega) rfl) ?_
    refine ld_olds 1 (j := i * 5 + 1) (x := g1) h rfl hr ha (by simp only [Int.toNat_natCast]; omega) (hcell 1 _ (by omega) rfl) ?_
    refine ld_olds 1 (j := i * 5 + 2) (x := g2) h rfl hr ha (by simp only [Int.toNat_natCast]; omega) (hcell 2 _ (by omega) rfl) ?_
    refine ld_olds 1 (j := i * 5 + 3) (x := g3) h rfl hr ha (by simp only [Int.toNat_natCast]; omega) (hcell 3 _ (by omega) rfl) ?_
    refine ld_olds 1 (j := i * 5 + 4) (x := g4) h rfl hr ha (by simp only [Int.toNat_natCast]; omega) (hcell 4 _ (by omega) rfl) ?_
    refine keep_of h ?_
    refine (nextW_at h his g0 g1 g2 g3 g4 100).mono fun e' w ⟨he, h⟩ => ⟨_, _, _, _, _, he, ?_⟩
    have hn := nextW_is ws g0 g1 g2 g3 g4 100
    generalize nextW ws g0 g1 g2 g3 g4 100 = ws' at *
    refine st_at 0 h rfl (by simp) fun w h => st_at 0 h rfl (by simp) fun w h => st_at 0 h rfl (by simp) fun w h => st_at 0 h rfl (by simp) fun w h => st_at 0 h rfl (by simp) fun w h => ?_
    rw [i64_in _ (by omega)]
    exact ih (i + 1) ws' w (by omega) hn h
theorem weighPicks_walk {l0 : Sl} {rows : List (List Value)} (hl : l0.n = rows.length) (ho : ∀ x ∈ rows, okRow [.int .i64, .int .i64, .int .i64, .int .i64, .int .i64] x) (hr : Reads W 5 l0 rows.flatten) {x : Int} (hx : (Lit.int .u32 x).wf = true) :
    Calls Try.prog id_hoardlaw19_WeighPicks #[.slice l0.a l0.n l0.c, .int .u32 x] W fun e w' => e = .returned (.bool true) ∧ KeptH W w' := by
  have h := Sat.begin W
  have hx : 0 ≤ x ∧ x ≤ 4294967295 := by simpa [Lit.wf, IntKind.min, IntKind.max, IntKind.signed, IntKind.bits] using hx
  refine (c1 (S := fun w' => Sat W w' [old W]) (hoardlaw19_WeighPicks_calls ?_)).mono fun e w' ⟨he, hs⟩ => ⟨he, hs.kept (q := 0) rfl⟩
  rw [hoardlaw19_WeighPicks_def, hoardlaw19_WeighPicks_raw]
  refine ite_cases (fun hc => ⟨rfl, h⟩) (fun hc => ?_)
  simp only [decide_eq_false_iff_not] at hc
  refine (start_at h).mono fun e' w ⟨he, h⟩ => ⟨_, _, _, _, _, he, ?_⟩
  refine newB_at h fun b5 w h => ?_
  refine st_at 0 h rfl (by simp) fun w h => st_at 0 h rfl (by simp) fun w h => st_at 0 h rfl (by simp) fun w h => st_at 0 h rfl (by simp) fun w h => st_at 0 h rfl (by simp) fun w h => ?_
  exact ⟨_, picks_loop hl (by omega) (row5_of ho) (row5_len ho) hr hx (fun w h => ⟨rfl, h⟩) rows.length 0 startL w (by omega) (by decide +kernel) h⟩
end
end Go.Proofs.Ytclmefcfmdefjaa
