/- arc.Engine as one chunk; what its rows are in plain lists. No program. -/
import Derived.Test.YtchlicgjdlkidaaDoorArcPure
import Derived.IntWalk
set_option linter.unusedVariables false
set_option linter.unusedSimpArgs false
set_option linter.unnecessarySimpa false
set_option linter.unusedSectionVars false
namespace Go.Hb
class IteP (b : Bool) (p q : outParam Prop) : Prop where
  t : b = true → p
  f : b = false → q
instance (priority := low) IteP.any {b : Bool} : IteP b (b = true) (b = false) := ⟨id, id⟩
instance IteP.dec {p : Prop} [Decidable p] : IteP (decide p) p (¬ p) := ⟨of_decide_eq_true, of_decide_eq_false⟩
instance IteP.ndec {p : Prop} [Decidable p] : IteP (!decide p) (¬ p) p := ⟨fun h => by simpa using h, fun h => by simpa using h⟩
instance IteP.eqI {a b : Int} : IteP (a == b) (a = b) (¬ a = b) := ⟨fun h => by simpa using h, fun h => by simpa using h⟩
instance IteP.neI {a b : Int} : IteP (a != b) (¬ a = b) (a = b) := ⟨fun h => by simpa using h, fun h => by simpa using h⟩
instance IteP.eqS {a b : ByteArray} : IteP (sEq a b) (a = b) (¬ a = b) := ⟨fun h => by rw [sEq_eq] at h; simpa using h, fun h => by rw [sEq_eq] at h; simpa using h⟩
instance IteP.neS {a b : ByteArray} : IteP (!sEq a b) (¬ a = b) (a = b) := ⟨fun h => by rw [sEq_eq] at h; simpa using h, fun h => by rw [sEq_eq] at h; simpa using h⟩
theorem ite_by {w : World} {b : Bool} {p q : Prop} {K M : WP} [h : IteP b p q] (h1 : p → K w) (h2 : q → M w) : ite2 b K M w := ite_cases (fun e => h1 (h.t e)) fun e => h2 (h.f e)
abbrev aB (b : Nat) (s : Sl) (xb : Nat) (c p : Int) : HP := blk b [.slice s.a s.n s.c, .pointer (some ⟨xb, 0, none⟩), .int .i64 c, .int .i64 p]
def arcR (b : Nat) (c : Int) (N : Nat) (x : ArcS) : HP := exH fun (z : Sl × Nat) => star (aB b z.1 z.2 c x.p) (rowsC z.1 z.2 N x.rows)
structure AW (x : ArcS) : Prop where
  nd : (x.t1 ++ (x.t2 ++ (x.b1 ++ x.b2))).Nodup
  small : ∀ k ∈ x.t1 ++ (x.t2 ++ (x.b1 ++ x.b2)), k.size < 64
section
variable {W w : World} {M L : List HP} {b N : Nat} {c : Int} {x : ArcS} {k : ByteArray}
instance At.arcR : At (arcR b c N x :: L) b (arcR b c N x) (fun x => x :: L) := ⟨here_pos⟩
theorem arc_open (h : Sat W w (arcR b c N x :: M)) : ∃ (s : Sl) (xb : Nat), Sat W w (aB b s xb c x.p :: rowsC s xb N x.rows :: M) := by
  obtain ⟨⟨s, xb⟩, h⟩ := h.openE
  exact ⟨s, xb, h.split⟩
theorem arc_shut {s : Sl} {xb : Nat} {p : Int} (h : Sat W w (aB b s xb c p :: rowsC s xb N x.rows :: M)) (hp : p = x.p) : Sat W w (arcR b c N x :: M) := by
  subst hp
  exact Sat.shutE (s, xb) h.join
theorem rows_flat (x : ArcS) : x.rows.flatten = x.t1 ++ (x.t2 ++ (x.b1 ++ x.b2)) := by simp [ArcS.rows]
theorem rows_w {s : Sl} {xb : Nat} (h : Sat W w (rowsC s xb N x.rows :: M)) : AW x := by
  obtain ⟨xs, m, hi, _⟩ := rows_op h
  exact ⟨by rw [← rows_flat]; exact hi.nd, fun k hk => hi.small k (by rw [rows_flat]; exact hk)⟩
theorem rows_lens {s : Sl} {xb : Nat} (h : Sat W w (rowsC s xb N x.rows :: M)) : x.t1.length ≤ N ∧ x.t2.length ≤ N ∧ x.b1.length ≤ N ∧ x.b2.length ≤ N := by
  obtain ⟨xs, m, hi, hN, _⟩ := rows_op h
  have h0 : ∀ (j : Nat) (r : List ByteArray), x.rows[j]? = some r → r.length ≤ N := by
    intro j r hr
    rw [← hi.keys] at hr
    unfold keysOf at hr
    rw [List.getElem?_map, List.getElem?_map] at hr
    cases hx : xs[j]? with
    | none => rw [hx] at hr; cases hr
    | some y =>
      rw [hx] at hr
      have := hN y (List.mem_of_getElem? hx)
      cases hr
      simp; omega
  exact ⟨h0 0 _ rfl, h0 1 _ rfl, h0 2 _ rfl, h0 3 _ rfl⟩
theorem arc_w (h : Sat W w (arcR b c N x :: M)) : AW x ∧ (x.t1.length ≤ N ∧ x.t2.length ≤ N ∧ x.b1.length ≤ N ∧ x.b2.length ≤ N) := by
  obtain ⟨s, xb, h⟩ := arc_open h
  exact ⟨rows_w (h.drop), rows_lens h.drop⟩
theorem arc_more {N' : Nat} (h : Sat W w (arcR b c N x :: M)) (hN : N ≤ N') : Sat W w (arcR b c N' x :: M) := by
  obtain ⟨s, xb, h⟩ := arc_open h
  have h1 := h.perm (List.Perm.swap _ _ _)
  obtain ⟨xs, m, hi, hNN, hn, h1⟩ := rows_op h1
  have h2 : Sat W w (rowsC s xb N' x.rows :: _) := rows_sh hi (fun y hy => Nat.le_trans (hNN y hy) hN) h1
  exact arc_shut (h2.perm (List.Perm.swap _ _ _)) rfl
theorem rows4 (x : ArcS) : x.rows.length = 4 := rfl
theorem rTake_rows (x : ArcS) (k : ByteArray) : rTake x.rows k = (aCut x k).rows := rfl
theorem rPush_rows0 (x : ArcS) (k : ByteArray) : rPush x.rows 0 k = (aPush1 x k).rows := rfl
theorem rPush_rows1 (x : ArcS) (k : ByteArray) : rPush x.rows 1 k = (aPush2 x k).rows := rfl
theorem AW.four (h : AW x) : (x.t1.Nodup ∧ x.t2.Nodup ∧ x.b1.Nodup ∧ x.b2.Nodup) ∧ (∀ k ∈ x.t1, k ∉ x.t2 ∧ k ∉ x.b1 ∧ k ∉ x.b2) ∧ (∀ k ∈ x.t2, k ∉ x.b1 ∧ k ∉ x.b2) ∧ (∀ k ∈ x.b1, k ∉ x.b2) := nodup4.1 h.nd
theorem AW.s1 (h : AW x) (h0 : 0 < x.t1.length) : (hd0 x.t1).size < 64 := h.small _ (List.mem_append_left _ (hd0_mem h0))
theorem AW.s2 (h : AW x) (h0 : 0 < x.t2.length) : (hd0 x.t2).size < 64 := h.small _ (List.mem_append_right _ (List.mem_append_left _ (hd0_mem h0)))
theorem AW.s3 (h : AW x) (h0 : 0 < x.b1.length) : (hd0 x.b1).size < 64 := h.small _ (List.mem_append_right _ (List.mem_append_right _ (List.mem_append_left _ (hd0_mem h0))))
theorem AW.s4 (h : AW x) (h0 : 0 < x.b2.length) : (hd0 x.b2).size < 64 := h.small _ (List.mem_append_right _ (List.mem_append_right _ (List.mem_append_right _ (hd0_mem h0))))
theorem cut_t1 (h : AW x) (h0 : 0 < x.t1.length) : aCut x (hd0 x.t1) = { x with t1 := x.t1.drop 1 } := by
  obtain ⟨⟨n1, n2, n3, n4⟩, a, b, c⟩ := h.four
  have hm := hd0_mem h0
  unfold aCut
  rw [gTake_hd n1 h0, gTake_not (a _ hm).1, gTake_not (a _ hm).2.1, gTake_not (a _ hm).2.2]
theorem cut_b1 (h : AW x) (h0 : 0 < x.b1.length) : aCut x (hd0 x.b1) = { x with b1 := x.b1.drop 1 } := by
  obtain ⟨⟨n1, n2, n3, n4⟩, a, b, c⟩ := h.four
  have hm := hd0_mem h0
  unfold aCut
  rw [gTake_hd n3 h0, gTake_not fun h => (a _ h).2.1 hm, gTake_not fun h => (b _ h).1 hm, gTake_not (c _ hm)]
theorem cut_b2 (h : AW x) (h0 : 0 < x.b2.length) : aCut x (hd0 x.b2) = { x with b2 := x.b2.drop 1 } := by
  obtain ⟨⟨n1, n2, n3, n4⟩, a, b, c⟩ := h.four
  have hm := hd0_mem h0
  unfold aCut
  rw [gTake_hd n4 h0, gTake_not fun h => (a _ h).2.2 hm, gTake_not fun h => (b _ h).2 hm, gTake_not fun h => c _ h hm]
theorem goes_t1 (h : AW x) (h0 : 0 < x.t1.length) : rPush x.rows 2 (hd0 x.t1) = (aGoes x true).2.rows := by
  have h1 := cut_t1 h h0
  have h2 : rPush x.rows 2 (hd0 x.t1) = [(aCut x (hd0 x.t1)).t1, (aCut x (hd0 x.t1)).t2, (aCut x (hd0 x.t1)).b1 ++ [hd0 x.t1], (aCut x (hd0 x.t1)).b2] := rfl
  rw [h2, h1]; rfl
theorem goes_t2 (h : AW x) (h0 : 0 < x.t2.length) : rPush x.rows 3 (hd0 x.t2) = (aGoes x false).2.rows := by
  obtain ⟨⟨n1, n2, n3, n4⟩, a, b, c⟩ := h.four
  have hm := hd0_mem h0
  have h2 : rPush x.rows 3 (hd0 x.t2) = [gTake x.t1 (hd0 x.t2), gTake x.t2 (hd0 x.t2), gTake x.b1 (hd0 x.t2), gTake x.b2 (hd0 x.t2) ++ [hd0 x.t2]] := rfl
  rw [h2, gTake_hd n2 h0, gTake_not fun h => (a _ h).1 hm, gTake_not (b _ hm).1, gTake_not (b _ hm).2]; rfl
theorem where_rows (x : ArcS) (k : ByteArray) : rWhere x.rows k = if k ∈ x.t1 then 0 else if k ∈ x.t2 then 1 else if k ∈ x.b1 then 2 else if k ∈ x.b2 then 3 else -1 := by
  unfold rWhere ArcS.rows
  simp only [List.findIdx?_cons, List.findIdx?_nil, gHas_eq, decide_eq_true_eq]
  by_cases h1 : k ∈ x.t1
  · simp [h1]
  · by_cases h2 : k ∈ x.t2
    · simp [h1, h2]
    · by_cases h3 : k ∈ x.b1
      · simp [h1, h2, h3]
      · by_cases h4 : k ∈ x.b2
        · simp [h1, h2, h3, h4]
        · simp [h1, h2, h3, h4]
def aRes (x : ArcS) : List ByteArray := x.t1 ++ x.t2
def aGhs (x : ArcS) : List ByteArray := x.b1 ++ x.b2
def aLen (x : ArcS) : Nat := x.t1.length + x.t2.length
theorem aRes_len (x : ArcS) : (aRes x).length = aLen x := by simp [aRes, aLen]
theorem mem_aRes {x : ArcS} : k ∈ aRes x ↔ k ∈ x.t1 ∨ k ∈ x.t2 := List.mem_append
theorem AW.res_nd (h : AW x) : (aRes x).Nodup := by
  obtain ⟨⟨n1, n2, n3, n4⟩, a, b, c⟩ := h.four
  exact List.nodup_append.2 ⟨n1, n2, fun y hy z hz hyz => (a y hy).1 (hyz ▸ hz)⟩
theorem aRes_small (h : AW x) (hk : k ∈ aRes x) : k.size < 64 := by
  refine h.small k ?_
  rcases mem_aRes.1 hk with h1 | h1
  · exact List.mem_append_left _ h1
  · exact List.mem_append_right _ (List.mem_append_left _ h1)
theorem aGhs_small (h : AW x) (hk : k ∈ aGhs x) : k.size < 64 := h.small k (List.mem_append_right _ (List.mem_append_right _ hk))
theorem aRes_eq (x : ArcS) : x.res = aRes x := rfl
/-- p's way up and down -/
theorem tdiv_nat (a b : Nat) : Int.tdiv (a : Int) (b : Int) = ((a / b : Nat) : Int) := by rw [Int.tdiv_eq_ediv_of_nonneg (by omega)]; rfl
theorem up_eq {a b N : Nat} {p c : Int} (ha : a ≤ N) (hN : N < 100000000) (hp : 0 ≤ p ∧ p ≤ 1024) :
    (if (IntKind.wrap .i64 (p + (if (IntKind.wrap .i64 (Int.tdiv (a : Int) (b : Int))) > (1 : Int) then (IntKind.wrap .i64 (Int.tdiv (a : Int) (b : Int))) else (1 : Int)))) < c then (IntKind.wrap .i64 (p + (if (IntKind.wrap .i64 (Int.tdiv (a : Int) (b : Int))) > (1 : Int) then (IntKind.wrap .i64 (Int.tdiv (a : Int) (b : Int))) else (1 : Int)))) else c) = min c (p + max 1 ((a / b : Nat) : Int)) := by
  have h1 : a / b ≤ a := Nat.div_le_self a b
  rw [tdiv_nat]
  generalize a / b = q at *
  rw [Go.IntWalk.i64_in (q : Int) (by omega), Go.IntWalk.i64_in _ (by split <;> omega)]
  split <;> split <;> omega
theorem down_eq {a b N : Nat} {p : Int} (ha : a ≤ N) (hN : N < 100000000) (hp : 0 ≤ p ∧ p ≤ 1024) :
    (if (IntKind.wrap .i64 (p - (if (IntKind.wrap .i64 (Int.tdiv (a : Int) (b : Int))) > (1 : Int) then (IntKind.wrap .i64 (Int.tdiv (a : Int) (b : Int))) else (1 : Int)))) > (0 : Int) then (IntKind.wrap .i64 (p - (if (IntKind.wrap .i64 (Int.tdiv (a : Int) (b : Int))) > (1 : Int) then (IntKind.wrap .i64 (Int.tdiv (a : Int) (b : Int))) else (1 : Int)))) else (0 : Int)) = max 0 (p - max 1 ((a / b : Nat) : Int)) := by
  have h1 : a / b ≤ a := Nat.div_le_self a b
  rw [tdiv_nat]
  generalize a / b = q at *
  rw [Go.IntWalk.i64_in (q : Int) (by omega), Go.IntWalk.i64_in _ (by split <;> omega)]
  split <;> split <;> omega
def roomR (r : Int) : Int := max 1 (min r 1024)
theorem roomR_range (r : Int) : 1 ≤ roomR r ∧ roomR r ≤ 1024 := by unfold roomR; omega
end
theorem ArcOk.w {c : Int} {x : ArcS} (h : ArcOk c x) : AW x := ⟨h.nd, h.small⟩
end Go.Hb
