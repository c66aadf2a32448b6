/- WeighRow, WeighPicks, WeighCalm: rows of epochs. -/
import Derived.Test.YtclmefcfmdefjaaWeigh4
import Derived.Test.YtclmefcfmdefjaaWeighIs
import Derived.Test.YtclmefcfmdefjaaListRep
import Derived.Test.YtclmefcfmdefjaaOpen
set_option linter.unusedVariables false
namespace Go.Hb
theorem Reads.cellp {W : World} {sz : Nat} {s : Sl} {cs : List Value} {b o p j : Nat} {x : Value} (hr : Reads W sz s cs) (ha : s.a = some ⟨b, o, none⟩) (hp : p = o + j) (hc : cs[j]? = some x) : W.cell? ⟨b, p, none⟩ = some x := by
  subst hp
  rcases hr.2 with ⟨h', _⟩ | ⟨b', o', hsa, hcs⟩
  · rw [h'] at ha; cases ha
  · rw [hsa] at ha; cases ha
    rw [hcs j (List.getElem?_eq_some_iff.1 hc).1]; exact hc
/-- rows of five integers -/
def Row5 (rows : List (List Value)) : Prop := ∀ i, i < rows.length → ∃ g0 g1 g2 g3 g4 : Int, rows[i]? = some [.int .i64 g0, .int .i64 g1, .int .i64 g2, .int .i64 g3, .int .i64 g4]
theorem row5_of {rows : List (List Value)} (h : ∀ x ∈ rows, okRow [.int .i64, .int .i64, .int .i64, .int .i64, .int .i64] x) : Row5 rows := by
  intro i hi
  have hx := h rows[i] (List.getElem_mem hi)
  rw [List.getElem?_eq_getElem hi]
  generalize rows[i] = r at hx
  have hl : r.length = 5 := okRow_len hx
  obtain ⟨v0, v1, v2, v3, v4, rfl⟩ : ∃ v0 v1 v2 v3 v4, r = [v0, v1, v2, v3, v4] := by
    match r, hl with
    | [v0, v1, v2, v3, v4], _ => exact ⟨v0, v1, v2, v3, v4, rfl⟩
  obtain ⟨h0, h1, h2, h3, h4, _⟩ := hx
  obtain ⟨g0, rfl, _⟩ := h0
  obtain ⟨g1, rfl, _⟩ := h1
  obtain ⟨g2, rfl, _⟩ := h2
  obtain ⟨g3, rfl, _⟩ := h3
  obtain ⟨g4, rfl, _⟩ := h4
  exact ⟨g0, g1, g2, g3, g4, rfl⟩
theorem row5_len {rows : List (List Value)} (h : ∀ x ∈ rows, okRow [.int .i64, .int .i64, .int .i64, .int .i64, .int .i64] x) : ∀ r ∈ rows, r.length = 5 := fun r hr => okRow_len (h r hr)
end Go.Hb
namespace Go.Proofs.Ytclmefcfmdefjaa
open Go.Hb Go.IntWalk
theorem is5L_nat {ws : List Int} (h : is5L ws = true) : ∃ a b c d e : Nat, (ws.getD 0 0 = (a : Int) ∧ ws.getD 1 0 = (b : Int) ∧ ws.getD 2 0 = (c : Int) ∧ ws.getD 3 0 = (d : Int) ∧ ws.getD 4 0 = (e : Int)) ∧
    (42949672 ≤ a ∧ a ≤ 4294967296) ∧ (42949672 ≤ b ∧ b ≤ 4294967296) ∧ (42949672 ≤ c ∧ c ≤ 4294967296) ∧ (42949672 ≤ d ∧ d ≤ 4294967296) ∧ (42949672 ≤ e ∧ e ≤ 4294967296) ∧ a + b + c + d + e = 4294967296 := by
  have h := (is5_iff _ _ _ _ _).1 h
  exact ⟨(ws.getD 0 0).toNat, (ws.getD 1 0).toNat, (ws.getD 2 0).toNat, (ws.getD 3 0).toNat, (ws.getD 4 0).toNat, by omega, by omega⟩
/-- the weights behind an epoch -/
def nextW (ws : List Int) (g0 g1 g2 g3 g4 all : Int) : List Int := nextL (ws.getD 0 0).toNat (ws.getD 1 0).toNat (ws.getD 2 0).toNat (ws.getD 3 0).toNat (ws.getD 4 0).toNat g0 g1 g2 g3 g4 all
theorem nextW_is (ws : List Int) (g0 g1 g2 g3 g4 all : Int) : is5L (nextW ws g0 g1 g2 g3 g4 all) = true := nextL_is _ _ _ _ _ _ _ _ _ _ _
section
variable {W w : World} {M : List HP}
theorem nextW_at (h : Sat W w M) {ws : List Int} (hi : is5L ws = true) (g0 g1 g2 g3 g4 all : Int) : Calls Try.prog id_weigh_Next #[agg5 ws, .agg #[.int .i64 g0, .int .i64 g1, .int .i64 g2, .int .i64 g3, .int .i64 g4], .int .i64 all] w fun e' w' => e' = .returned (agg5 (nextW ws g0 g1 g2 g3 g4 all)) ∧ Sat W w' M := by
  obtain ⟨a, b, c, d, e, ⟨h0, h1, h2, h3, h4⟩, r⟩ := is5L_nat hi
  unfold nextW
  unfold agg5
  rw [h0, h1, h2, h3, h4]
  exact next_at h (by omega) (by omega) (by omega) (by omega) (by omega) g0 g1 g2 g3 g4 all
theorem rnextW_at (h : Sat W w M) {ws : List Int} (hi : is5L ws = true) (g0 g1 g2 g3 g4 all : Int) : Calls Try.prog id_hoardref19_Next #[agg5 ws, .agg #[.int .i64 g0, .int .i64 g1, .int .i64 g2, .int .i64 g3, .int .i64 g4], .int .i64 all] w fun e' w' => e' = .returned (agg5 (nextW ws g0 g1 g2 g3 g4 all)) ∧ Sat W w' M := by
  obtain ⟨a, b, c, d, e, ⟨h0, h1, h2, h3, h4⟩, r⟩ := is5L_nat hi
  unfold nextW
  unfold agg5
  rw [h0, h1, h2, h3, h4]
  exact rnext_at h (by omega) (by omega) (by omega) (by omega) (by omega) g0 g1 g2 g3 g4 all
theorem sumW (ws : List Int) (hi : is5L ws = true) : sum5 (ws.getD 0 0) (ws.getD 1 0) (ws.getD 2 0) (ws.getD 3 0) (ws.getD 4 0) = 4294967296 := by
  unfold is5L is5 at hi
  simp only [Bool.and_eq_true, beq_iff_eq] at hi
  exact hi.2.2.2.2.2
theorem row_loop {l0 : Sl} {rows : List (List Value)} (hl : l0.n = rows.length) (h200 : rows.length ≤ 200) (h5 : Row5 rows) (hlen : ∀ r ∈ rows, r.length = 5) (hr : Reads W 5 l0 rows.flatten) (all : Int) {b5 b6 : Nat} {Q : Value → WP} (hQ : ∀ w, Sat W w [old W] → Q (.bool true) w) :
    ∀ (m i : Nat) (ws : List Int) (w : World), i + m = rows.length → is5L ws = true → Sat W w [blk b6 [.int .u64 (ws.getD 0 0), .int .u64 (ws.getD 1 0), .int .u64 (ws.getD 2 0), .int .u64 (ws.getD 3 0), .int .u64 (ws.getD 4 0)], blk b5 [.int .u64 (ws.getD 0 0), .int .u64 (ws.getD 1 0), .int .u64 (ws.getD 2 0), .int .u64 (ws.getD 3 0), .int .u64 (ws.getD 4 0)], old W] → hoardlaw19_WeighRow_l1 idJ Q (m + 1) l0 all b5 0 b6 0 (i : Int) w := by
  intro m
  induction m with
  | zero =>
    intro i ws w hi his h
    rw [hoardlaw19_WeighRow_l1_raw]
    refine ite_false (by simp; omega) ?_
    rw [hoardlaw19_WeighRow_j3_def, hoardlaw19_WeighRow_j3_raw]
    refine ld_at 1 (x := ws.getD 0 0) h rfl rfl (ld_at 1 (x := ws.getD 1 0) h rfl rfl (ld_at 1 (x := ws.getD 2 0) h rfl rfl (ld_at 1 (x := ws.getD 3 0) h rfl rfl (ld_at 1 (x := ws.getD 4 0) h rfl rfl ?_))))
    refine ld_at 0 (x := ws.getD 0 0) h rfl rfl (ld_at 0 (x := ws.getD 1 0) h rfl rfl (ld_at 0 (x := ws.getD 2 0) h rfl rfl (ld_at 0 (x := ws.getD 3 0) h rfl rfl (ld_at 0 (x := ws.getD 4 0) h rfl rfl ?_))))
    refine ite_true (by simp) ?_
    refine ld_at 1 (x := ws.getD 0 0) h rfl rfl (ld_at 1 (x := ws.getD 1 0) h rfl rfl (ld_at 1 (x := ws.getD 2 0) h rfl rfl (ld_at 1 (x := ws.getD 3 0) h rfl rfl (ld_at 1 (x := ws.getD 4 0) h rfl rfl ?_))))
    refine call1_of (is_at h _ _ _ _ _) fun e' w ⟨he, h⟩ => ⟨_, he, ?_⟩
    refine ite_true his ?_
    exact call1_of (wknown_at h) fun e' w ⟨he, h⟩ => ⟨_, he, hQ w h.drop.drop⟩
  | succ m ih =>
    intro i ws w hi his h
    rw [hoardlaw19_WeighRow_l1_raw]
    refine ite_true (by simp; omega) ?_
    refine ld_at 1 (x := ws.getD 0 0) h rfl rfl (ld_at 1 (x := ws.getD 1 0) h rfl rfl (ld_at 1 (x := ws.getD 2 0) h rfl rfl (ld_at 1 (x := ws.getD 3 0) h rfl rfl (ld_at 1 (x := ws.getD 4 0) h rfl rfl ?_))))
    refine ld_at 0 (x := ws.getD 0 0) h rfl rfl (ld_at 0 (x := ws.getD 1 0) h rfl rfl (ld_at 0 (x := ws.getD 2 0) h rfl rfl (ld_at 0 (x := ws.getD 3 0) h rfl rfl (ld_at 0 (x := ws.getD 4 0) h rfl rfl ?_))))
    refine ite_false (by simp) ?_
    refine ld_at 1 (x := ws.getD 0 0) h rfl rfl (ld_at 1 (x := ws.getD 1 0) h rfl rfl (ld_at 1 (x := ws.getD 2 0) h rfl rfl (ld_at 1 (x := ws.getD 3 0) h rfl rfl (ld_at 1 (x := ws.getD 4 0) h rfl rfl ?_))))
    refine call1_of (is_at h _ _ _ _ _) fun e' w ⟨he, h⟩ => ⟨_, he, ?_⟩
    refine ite_false (by rw [show is5 (ws.getD 0 0) (ws.getD 1 0) (ws.getD 2 0) (ws.getD 3 0) (ws.getD 4 0) = true from his]; rfl) ?_
    refine ld_at 1 (x := ws.getD 0 0) h rfl rfl (ld_at 1 (x := ws.getD 1 0) h rfl rfl (ld_at 1 (x := ws.getD 2 0) h rfl rfl (ld_at 1 (x := ws.getD 3 0) h rfl rfl (ld_at 1 (x := ws.getD 4 0) h rfl rfl ?_))))
    refine call1_of (sum_at h _ _ _ _ _) fun e' w ⟨he, h⟩ => ⟨_, he, ?_⟩
    refine ite_false (by rw [sumW ws his]; rfl) ?_
    rw [hoardlaw19_WeighRow_j2_def, hoardlaw19_WeighRow_j2_raw]
    obtain ⟨g0, g1, g2, g3, g4, hrow⟩ := h5 i (by omega)
    have hcell : ∀ (j : Nat) (x : Value), j < 5 → [Value.int .i64 g0, .int .i64 g1, .int .i64 g2, .int .i64 g3, .int .i64 g4][j]? = some x → rows.flatten[i * 5 + j]? = some x := fun j x hj hx => by
      rw [flat_get hlen hj, hrow]; exact hx
    have h : Sat W w [blk b6 [.int .u64 (ws.getD 0 0), .int .u64 (ws.getD 1 0), .int .u64 (ws.getD 2 0), .int .u64 (ws.getD 3 0), .int .u64 (ws.getD 4 0)], blk b5 [.int .u64 (ws.getD 0 0), .int .u64 (ws.getD 1 0), .int .u64 (ws.getD 2 0), .int .u64 (ws.getD 3 0), .int .u64 (ws.getD 4 0)], old W] := h
    refine drawW_by (fun w' => Sat W w' [blk b6 [.int .u64 (ws.getD 0 0), .int .u64 (ws.getD 1 0), .int .u64 (ws.getD 2 0), .int .u64 (ws.getD 3 0), .int .u64 (ws.getD 4 0)], blk b5 [.int .u64 (ws.getD 0 0), .int .u64 (ws.getD 1 0), .int .u64 (ws.getD 2 0), .int .u64 (ws.getD 3 0), .int .u64 (ws.getD 4 0)], old W]) h.drew ?_
    have h := h.drew
    refine ldS_by (ws.getD 0 0) (fun w' h' => h'.cell (q := 1) rfl) ?_
    refine ldS_by (ws.getD 1 0) (fun w' h' => h'.cell (q := 1) rfl) ?_
    refine ldS_by (ws.getD 2 0) (fun w' h' => h'.cell (q := 1) rfl) ?_
    refine ldS_by (ws.getD 3 0) (fun w' h' => h'.cell (q := 1) rfl) ?_
    refine ldS_by (ws.getD 4 0) (fun w' h' => h'.cell (q := 1) rfl) ?_
    refine idx_old hr (by omega) (by omega) fun box oox hax => ?_
    refine ldS_by g0 (fun w' h' => h'.cell_old (q := 2) rfl (hr.cellp (j := i * 5 + 0) hax (by simp only [Int.toNat_natCast]; omega) (hcell 0 _ (by omega) rfl))) ?_
    refine ldS_by g1 (fun w' h' => h'.cell_old (q := 2) rfl (hr.cellp (j := i * 5 + 1) hax (by simp only [Int.toNat_natCast]; omega) (hcell 1 _ (by omega) rfl))) ?_
    refine ldS_by g2 (fun w' h' => h'.cell_old (q := 2) rfl (hr.cellp (j := i * 5 + 2) hax (by simp only [Int.toNat_natCast]; omega) (hcell 2 _ (by omega) rfl))) ?_
    refine ldS_by g3 (fun w' h' => h'.cell_old (q := 2) rfl (hr.cellp (j := i * 5 + 3) hax (by simp only [Int.toNat_natCast]; omega) (hcell 3 _ (by omega) rfl))) ?_
    refine ldS_by g4 (fun w' h' => h'.cell_old (q := 2) rfl (hr.cellp (j := i * 5 + 4) hax (by simp only [Int.toNat_natCast]; omega) (hcell 4 _ (by omega) rfl))) ?_
    refine ldS_by (ws.getD 0 0) (fun w' h' => h'.cell (q := 0) rfl) ?_
    refine ldS_by (ws.getD 1 0) (fun w' h' => h'.cell (q := 0) rfl) ?_
    refine ldS_by (ws.getD 2 0) (fun w' h' => h'.cell (q := 0) rfl) ?_
    refine ldS_by (ws.getD 3 0) (fun w' h' => h'.cell (q := 0) rfl) ?_
    refine ldS_by (ws.getD 4 0) (fun w' h' => h'.cell (q := 0) rfl) ?_
    refine idx_old hr (by omega) (by omega) fun boy ooy hay => ?_
    refine ldS_by g0 (fun w' h' => h'.cell_old (q := 2) rfl (hr.cellp (j := i * 5 + 0) hay (by simp only [Int.toNat_natCast]; omega) (hcell 0 _ (by omega) rfl))) ?_
    refine ldS_by g1 (fun w' h' => h'.cell_old (q := 2) rfl (hr.cellp (j := i * 5 + 1) hay (by simp only [Int.toNat_natCast]; omega) (hcell 1 _ (by omega) rfl))) ?_
    refine ldS_by g2 (fun w' h' => h'.cell_old (q := 2) rfl (hr.cellp (j := i * 5 + 2) hay (by simp only [Int.toNat_natCast]; omega) (hcell 2 _ (by omega) rfl))) ?_
    refine ldS_by g3 (fun w' h' => h'.cell_old (q := 2) rfl (hr.cellp (j := i * 5 + 3) hay (by simp only [Int.toNat_natCast]; omega) (hcell 3 _ (by omega) rfl))) ?_
    refine ldS_by g4 (fun w' h' => h'.cell_old (q := 2) rfl (hr.cellp (j := i * 5 + 4) hay (by simp only [Int.toNat_natCast]; omega) (hcell 4 _ (by omega) rfl))) ?_
    refine (nextW_at h his g0 g1 g2 g3 g4 all).mono fun e' w ⟨he, h⟩ => ⟨_, _, _, _, _, he, keep_of h ?_⟩
    refine (rnextW_at h his g0 g1 g2 g3 g4 all).mono fun e' w ⟨he, h⟩ => ⟨_, _, _, _, _, he, ?_⟩
    have hn := nextW_is ws g0 g1 g2 g3 g4 all
    generalize nextW ws g0 g1 g2 g3 g4 all = ws' at *
    refine st_at 1 h rfl (by simp) fun w h => st_at 1 h rfl (by simp) fun w h => st_at 1 h rfl (by simp) fun w h => st_at 1 h rfl (by simp) fun w h => st_at 1 h rfl (by simp) fun w h => ?_
    refine st_at 0 h rfl (by simp) fun w h => st_at 0 h rfl (by simp) fun w h => st_at 0 h rfl (by simp) fun w h => st_at 0 h rfl (by simp) fun w h => st_at 0 h rfl (by simp) fun w h => ?_
    rw [i64_in _ (by omega)]
    exact ih (i + 1) ws' w (by omega) hn h
theorem weighRow_walk {l0 : Sl} {rows : List (List Value)} (hl : l0.n = rows.length) (ho : ∀ x ∈ rows, okRow [.int .i64, .int .i64, .int .i64, .int .i64, .int .i64] x) (hr : Reads W 5 l0 rows.flatten) (all : Int) :
    Calls Try.prog id_hoardlaw19_WeighRow #[.slice l0.a l0.n l0.c, .int .i64 all] W fun e w' => e = .returned (.bool true) ∧ KeptH W w' := by
  have h := Sat.begin W
  refine (c1 (S := fun w' => Sat W w' [old W]) (hoardlaw19_WeighRow_calls ?_)).mono fun e w' ⟨he, hs⟩ => ⟨he, hs.kept (q := 0) rfl⟩
  rw [hoardlaw19_WeighRow_def, hoardlaw19_WeighRow_raw]
  refine ite_cases (fun hc => ⟨rfl, h⟩) (fun hc => ?_)
  simp only [decide_eq_false_iff_not] at hc
  refine (start_at h).mono fun e' w ⟨he, h⟩ => ⟨_, _, _, _, _, he, ?_⟩
  refine (rstart_at h).mono fun e' w ⟨he, h⟩ => ⟨_, _, _, _, _, he, ?_⟩
  refine newB_at h fun b5 w h => newB_at h fun b6 w h => ?_
  refine st_at 1 h rfl (by simp) fun w h => st_at 1 h rfl (by simp) fun w h => st_at 1 h rfl (by simp) fun w h => st_at 1 h rfl (by simp) fun w h => st_at 1 h rfl (by simp) fun w h => ?_
  refine st_at 0 h rfl (by simp) fun w h => st_at 0 h rfl (by simp) fun w h => st_at 0 h rfl (by simp) fun w h => st_at 0 h rfl (by simp) fun w h => st_at 0 h rfl (by simp) fun w h => ?_
  exact ⟨_, row_loop hl (by omega) (row5_of ho) (row5_len ho) hr all (fun w h => ⟨rfl, h⟩) rows.length 0 startL w (by omega) (by decide +kernel) h⟩
end
end Go.Proofs.Ytclmefcfmdefjaa
