/- TYPED CHUNKS, part 2: the words at the places that the texts spell; slices cut; rows out of rows. No program. -/
import Derived.Test.YtnmlaenfaiacfaaSL3
import Derived.Test.YtnmlaenfaiacfaaOpen
set_option linter.unusedVariables false
set_option linter.unusedSimpArgs false
set_option linter.unnecessarySimpa false
set_option linter.unusedSectionVars false
namespace Go.Hb

theorem atLd {k : CK} {b o : Nat} {K : k.ty → WP} {w : World} (h : ld k b o K w) : ld k b o K w := h
theorem isLdS {k : CK} {b o : Nat} {S : World → Prop} {K : k.ty → WP} {w : World} (h : ldS S k b o K w) : ldS S k b o K w := h
theorem isSt {b o : Nat} {v : Value} {K : WP} {w : World} (h : st b o v K w) : st b o v K w := h
theorem isIdx {a : Option Addr} {n : Nat} {i : Int} {K : Nat → Nat → WP} {w : World} (h : idx a n i K w) : idx a n i K w := h
theorem isNew {cs : List Value} {T : TypeId} {K : Nat → WP} {w : World} (h : newB cs T K w) : newB cs T K w := h
theorem isKeep {b : Bool} {S : World → Prop} {K : WP} {w : World} (h : keepS b S K w) : keepS b S K w := h
theorem isWhen {c : Prop} {K : WP} {w : World} (h : when c K w) : when c K w := h
theorem isDraw {K : (World → Prop) → WP} {w : World} (h : drawW K w) : drawW K w := h

def Rec.nat : Rec Nat := ⟨1, fun n => [.int .i64 (n : Int)], fun _ => rfl⟩
section
variable {L : List HP} {F : HP → List HP} {b : Nat} {s : Sl} {W W0 w : World}
variable {α : Type} [Inhabited α] {E : Rec α} {rows : List α}
section
variable {o i n j1 j2 j3 j4 j5 : Nat} {k : CK} {x : k.ty} {K : k.ty → WP}
theorem ld_r0 (h : Sat W0 w L) [hA : At L b (reca E b o s rows) F] (hK : K x w) (hi : i < rows.length := by first | omega | (simp only [List.length_set, List.length_append, List.length_cons, List.length_nil, List.length_take, List.length_drop, List.length_map, Int.toNat_natCast] <;> omega) | fail) (hc : (E.cells (rows.getD i default))[0]? = some (k.val x) := by exact rfl) (hn : n = E.sz := by exact rfl) (hu : k ≠ .any := by simp) : ld k b (o + i * n) K w :=
  ld_r (hA := hA) h (by rw [hn]; rfl) hi hc hK hu
theorem ld_r1 (h : Sat W0 w L) [hA : At L b (reca E b o s rows) F] (hK : K x w) (hi : i < rows.length := by first | omega | (simp only [List.length_set, List.length_append, List.length_cons, List.length_nil, List.length_take, List.length_drop, List.length_map, Int.toNat_natCast] <;> omega) | fail) (hc : (E.cells (rows.getD i default))[j1]? = some (k.val x) := by exact rfl) (hn : n = E.sz := by exact rfl) (hu : k ≠ .any := by simp) : ld k b (o + i * n + j1) K w :=
  ld_r (hA := hA) h (by rw [hn]; omega) hi hc hK hu
theorem ld_r2 (h : Sat W0 w L) [hA : At L b (reca E b o s rows) F] (hK : K x w) (hi : i < rows.length := by first | omega | (simp only [List.length_set, List.length_append, List.length_cons, List.length_nil, List.length_take, List.length_drop, List.length_map, Int.toNat_natCast] <;> omega) | fail) (hc : (E.cells (rows.getD i default))[j1 + j2]? = some (k.val x) := by exact rfl) (hn : n = E.sz := by exact rfl) (hu : k ≠ .any := by simp) : ld k b (o + i * n + j1 + j2) K w :=
  ld_r (hA := hA) h (by rw [hn]; omega) hi hc hK hu
theorem ld_r3 (h : Sat W0 w L) [hA : At L b (reca E b o s rows) F] (hK : K x w) (hi : i < rows.length := by first | omega | (simp only [List.length_set, List.length_append, List.length_cons, List.length_nil, List.length_take, List.length_drop, List.length_map, Int.toNat_natCast] <;> omega) | fail) (hc : (E.cells (rows.getD i default))[j1 + j2 + j3]? = some (k.val x) := by exact rfl) (hn : n = E.sz := by exact rfl) (hu : k ≠ .any := by simp) : ld k b (o + i * n + j1 + j2 + j3) K w :=
  ld_r (hA := hA) h (by rw [hn]; omega) hi hc hK hu
theorem ld_r4 (h : Sat W0 w L) [hA : At L b (reca E b o s rows) F] (hK : K x w) (hi : i < rows.length := by first | omega | (simp only [List.length_set, List.length_append, List.length_cons, List.length_nil, List.length_take, List.length_drop, List.length_map, Int.toNat_natCast] <;> omega) | fail) (hc : (E.cells (rows.getD i default))[j1 + j2 + j3 + j4]? = some (k.val x) := by exact rfl) (hn : n = E.sz := by exact rfl) (hu : k ≠ .any := by simp) : ld k b (o + i * n + j1 + j2 + j3 + j4) K w :=
  ld_r (hA := hA) h (by rw [hn]; omega) hi hc hK hu
theorem ldS_r0 [hA : At L b (reca E b o s rows) F] (hK : K x w) (hi : i < rows.length := by first | omega | (simp only [List.length_set, List.length_append, List.length_cons, List.length_nil, List.length_take, List.length_drop, List.length_map, Int.toNat_natCast] <;> omega) | fail) (hc : (E.cells (rows.getD i default))[0]? = some (k.val x) := by exact rfl) (hn : n = E.sz := by exact rfl) : ldS (fun w' => Sat W0 w' L) k b (o + i * n) K w :=
  ldS_r (hA := hA) (by rw [hn]; rfl) hi hc hK
theorem ldS_r1 [hA : At L b (reca E b o s rows) F] (hK : K x w) (hi : i < rows.length := by first | omega | (simp only [List.length_set, List.length_append, List.length_cons, List.length_nil, List.length_take, List.length_drop, List.length_map, Int.toNat_natCast] <;> omega) | fail) (hc : (E.cells (rows.getD i default))[j1]? = some (k.val x) := by exact rfl) (hn : n = E.sz := by exact rfl) : ldS (fun w' => Sat W0 w' L) k b (o + i * n + j1) K w :=
  ldS_r (hA := hA) (by rw [hn]; omega) hi hc hK
theorem ldS_r2 [hA : At L b (reca E b o s rows) F] (hK : K x w) (hi : i < rows.length := by first | omega | (simp only [List.length_set, List.length_append, List.length_cons, List.length_nil, List.length_take, List.length_drop, List.length_map, Int.toNat_natCast] <;> omega) | fail) (hc : (E.cells (rows.getD i default))[j1 + j2]? = some (k.val x) := by exact rfl) (hn : n = E.sz := by exact rfl) : ldS (fun w' => Sat W0 w' L) k b (o + i * n + j1 + j2) K w :=
  ldS_r (hA := hA) (by rw [hn]; omega) hi hc hK
theorem ldS_r3 [hA : At L b (reca E b o s rows) F] (hK : K x w) (hi : i < rows.length := by first | omega | (simp only [List.length_set, List.length_append, List.length_cons, List.length_nil, List.length_take, List.length_drop, List.length_map, Int.toNat_natCast] <;> omega) | fail) (hc : (E.cells (rows.getD i default))[j1 + j2 + j3]? = some (k.val x) := by exact rfl) (hn : n = E.sz := by exact rfl) : ldS (fun w' => Sat W0 w' L) k b (o + i * n + j1 + j2 + j3) K w :=
  ldS_r (hA := hA) (by rw [hn]; omega) hi hc hK
theorem ldS_rs {L' : List HP} {F' : HP → List HP} {rows' : List α} {w' : World} {p j : Nat} (h : Sat W0 w' L') [hB : At L' b (reca E b o s rows') F'] [hA : AtS L s (recs E s rows) F] (hp : p = o + (i * E.sz + j)) (hi : i < rows.length) (hc : (E.cells (rows.getD i default))[j]? = some (k.val x)) (hK : K x w) :
    ldS (fun w' => Sat W0 w' L) k b p K w := by
  have ha : s.a = some ⟨b, o, none⟩ := At.one (hA := hB) h fun _ h _ => h.pure (q := 0) rfl fun _ hg => hg.1
  subst hp
  refine ldS_by x (fun w' h => AtS.one (hA := hA) h fun _ h _ => ?_) hK
  have h2 := h.turn (q := 0) (p' := reca E b o s rows) rfl fun _ hg => ⟨ha, hg⟩
  exact (reca_cell h2 (getD_some hi) (by rw [← E.len (rows.getD i default)]; exact (List.getElem?_eq_some_iff.1 hc).1)).trans hc
theorem ldS_rs0 {L' : List HP} {F' : HP → List HP} {rows' : List α} {w' : World} (h : Sat W0 w' L') [hB : At L' b (reca E b o s rows') F'] [hA : AtS L s (recs E s rows) F] (hK : K x w) (hi : i < rows.length := by first | omega | (simp only [List.length_set, List.length_append, List.length_cons, List.length_nil, List.length_take, List.length_drop, List.length_map, Int.toNat_natCast] <;> omega) | fail) (hc : (E.cells (rows.getD i default))[0]? = some (k.val x) := by exact rfl) (hn : n = E.sz := by exact rfl) :
    ldS (fun w' => Sat W0 w' L) k b (o + i * n) K w := ldS_rs (hA := hA) (hB := hB) h (j := 0) (by rw [hn]; rfl) hi hc hK
theorem ldS_rs1 {L' : List HP} {F' : HP → List HP} {rows' : List α} {w' : World} (h : Sat W0 w' L') [hB : At L' b (reca E b o s rows') F'] [hA : AtS L s (recs E s rows) F] (hK : K x w) (hi : i < rows.length := by first | omega | (simp only [List.length_set, List.length_append, List.length_cons, List.length_nil, List.length_take, List.length_drop, List.length_map, Int.toNat_natCast] <;> omega) | fail) (hc : (E.cells (rows.getD i default))[j1]? = some (k.val x) := by exact rfl) (hn : n = E.sz := by exact rfl) :
    ldS (fun w' => Sat W0 w' L) k b (o + i * n + j1) K w := ldS_rs (hA := hA) (hB := hB) h (j := j1) (by rw [hn]; omega) hi hc hK
theorem ldS_rs2 {L' : List HP} {F' : HP → List HP} {rows' : List α} {w' : World} (h : Sat W0 w' L') [hB : At L' b (reca E b o s rows') F'] [hA : AtS L s (recs E s rows) F] (hK : K x w) (hi : i < rows.length := by first | omega | (simp only [List.length_set, List.length_append, List.length_cons, List.length_nil, List.length_take, List.length_drop, List.length_map, Int.toNat_natCast] <;> omega) | fail) (hc : (E.cells (rows.getD i default))[j1 + j2]? = some (k.val x) := by exact rfl) (hn : n = E.sz := by exact rfl) :
    ldS (fun w' => Sat W0 w' L) k b (o + i * n + j1 + j2) K w := ldS_rs (hA := hA) (hB := hB) h (j := j1 + j2) (by rw [hn]; omega) hi hc hK
theorem ldS_rs3 {L' : List HP} {F' : HP → List HP} {rows' : List α} {w' : World} (h : Sat W0 w' L') [hB : At L' b (reca E b o s rows') F'] [hA : AtS L s (recs E s rows) F] (hK : K x w) (hi : i < rows.length := by first | omega | (simp only [List.length_set, List.length_append, List.length_cons, List.length_nil, List.length_take, List.length_drop, List.length_map, Int.toNat_natCast] <;> omega) | fail) (hc : (E.cells (rows.getD i default))[j1 + j2 + j3]? = some (k.val x) := by exact rfl) (hn : n = E.sz := by exact rfl) :
    ldS (fun w' => Sat W0 w' L) k b (o + i * n + j1 + j2 + j3) K w := ldS_rs (hA := hA) (hB := hB) h (j := j1 + j2 + j3) (by rw [hn]; omega) hi hc hK
end
section
variable {o i n j1 j2 j3 : Nat} {v : Value} {a' : α} {K : WP}
theorem st_r0 (h : Sat W0 w L) [hA : At L b (reca E b o s rows) F] [hS : SetR E (rows.getD i default) 0 v a']
    (hK : ∀ w', Sat W0 w' (F (reca E b o s (rows.set i a'))) → K w') (hi : i < rows.length := by first | omega | (simp only [List.length_set, List.length_append, List.length_cons, List.length_nil, List.length_take, List.length_drop, List.length_map, Int.toNat_natCast] <;> omega) | fail) (hn : n = E.sz := by exact rfl) : st b (o + i * n) v K w :=
  st_r (hA := hA) h (by rw [hn]; rfl) hi hS.eq hS.lt hK
theorem st_r1 (h : Sat W0 w L) [hA : At L b (reca E b o s rows) F] [hS : SetR E (rows.getD i default) j1 v a']
    (hK : ∀ w', Sat W0 w' (F (reca E b o s (rows.set i a'))) → K w') (hi : i < rows.length := by first | omega | (simp only [List.length_set, List.length_append, List.length_cons, List.length_nil, List.length_take, List.length_drop, List.length_map, Int.toNat_natCast] <;> omega) | fail) (hn : n = E.sz := by exact rfl) : st b (o + i * n + j1) v K w :=
  st_r (hA := hA) h (by rw [hn]; omega) hi hS.eq hS.lt hK
end
/-- cells that are a record -/
class RecOf {α : Type} (E : Rec α) (vs : List Value) (a : outParam α) : Prop where
  eq : E.cells a = vs
section
variable {o i n : Nat} {a' : α} {K : WP}
theorem st_rec2 {v0 v1 : Value} (h : Sat W0 w L) [hA : At L b (reca E b o s rows) F] [hR : RecOf E [v0, v1] a']
    (hK : ∀ w', Sat W0 w' (F (reca E b o s (rows.set i a'))) → K w') (hi : i < rows.length := by first | omega | (simp only [List.length_set, List.length_append, List.length_cons, List.length_nil, List.length_take, List.length_drop, List.length_map, Int.toNat_natCast] <;> omega) | fail) (hn : n = E.sz := by exact rfl) : st b (o + i * n) v0 (st b (o + i * n + 1) v1 (K)) w :=
  st_rec (hA := hA) h hi hR.eq (by rw [hn]) hK rfl
theorem st_rec3 {v0 v1 v2 : Value} (h : Sat W0 w L) [hA : At L b (reca E b o s rows) F] [hR : RecOf E [v0, v1, v2] a']
    (hK : ∀ w', Sat W0 w' (F (reca E b o s (rows.set i a'))) → K w') (hi : i < rows.length := by first | omega | (simp only [List.length_set, List.length_append, List.length_cons, List.length_nil, List.length_take, List.length_drop, List.length_map, Int.toNat_natCast] <;> omega) | fail) (hn : n = E.sz := by exact rfl) : st b (o + i * n) v0 (st b (o + i * n + 1) v1 (st b (o + i * n + 1 + 1) v2 (K))) w :=
  st_rec (hA := hA) h hi hR.eq (by rw [hn]) hK rfl
theorem st_rec4 {v0 v1 v2 v3 : Value} (h : Sat W0 w L) [hA : At L b (reca E b o s rows) F] [hR : RecOf E [v0, v1, v2, v3] a']
    (hK : ∀ w', Sat W0 w' (F (reca E b o s (rows.set i a'))) → K w') (hi : i < rows.length := by first | omega | (simp only [List.length_set, List.length_append, List.length_cons, List.length_nil, List.length_take, List.length_drop, List.length_map, Int.toNat_natCast] <;> omega) | fail) (hn : n = E.sz := by exact rfl) : st b (o + i * n) v0 (st b (o + i * n + 1) v1 (st b (o + i * n + 1 + 1) v2 (st b (o + i * n + 1 + 1 + 1) v3 (K)))) w :=
  st_rec (hA := hA) h hi hR.eq (by rw [hn]) hK rfl
theorem st_rec5 {v0 v1 v2 v3 v4 : Value} (h : Sat W0 w L) [hA : At L b (reca E b o s rows) F] [hR : RecOf E [v0, v1, v2, v3, v4] a']
    (hK : ∀ w', Sat W0 w' (F (reca E b o s (rows.set i a'))) → K w') (hi : i < rows.length := by first | omega | (simp only [List.length_set, List.length_append, List.length_cons, List.length_nil, List.length_take, List.length_drop, List.length_map, Int.toNat_natCast] <;> omega) | fail) (hn : n = E.sz := by exact rfl) : st b (o + i * n) v0 (st b (o + i * n + 1) v1 (st b (o + i * n + 1 + 1) v2 (st b (o + i * n + 1 + 1 + 1) v3 (st b (o + i * n + 1 + 1 + 1 + 1) v4 (K))))) w :=
  st_rec (hA := hA) h hi hR.eq (by rw [hn]) hK rfl
end
instance SetR.int {k : IntKind} {a n : Int} : SetR (Rec.int k) a 0 (.int k n) n := ⟨rfl, Nat.one_pos⟩
instance SetR.str {a n : ByteArray} : SetR Rec.str a 0 (.string n) n := ⟨rfl, by decide⟩

/-! a slice cut -/
theorem addr_add (b o k : Nat) : Addr.add ⟨b, o, none⟩ k = ⟨b, o + k, none⟩ := by
  unfold Addr.add
  split
  · simp_all
  · rfl
theorem cut_s {lo hi c : Nat} {a : Option Addr} (h : Sat W0 w L) [hA : AtS L s (recs E s rows) F] (ha : a = subA s.a lo c E.sz) (hlo : lo ≤ hi) (hhi : hi ≤ rows.length) (hc : c = s.c) (hpos : 0 < E.sz) :
    Sat W0 w (F (recs E ⟨a, hi - lo, c - lo⟩ ((rows.drop lo).take (hi - lo)))) := by
  have hn := recs_len (hA := hA) h hpos
  refine AtS.one (hA := hA) h fun M h hb => hb _ _ (h.turn (q := 0) rfl fun g hg => ?_)
  subst ha hc
  obtain ⟨⟨h1, h2⟩, h3⟩ := hg
  refine ⟨⟨?_, ?_⟩, ?_⟩
  · rw [Rec.flat_length]; simp only [List.length_take, List.length_drop]; congr 1; omega
  · simp only; omega
  rcases h3 with ⟨h4, h5, h6⟩ | ⟨b, o, pre, tl, h4, h5, h6, h7⟩
  · left
    refine ⟨?_, ?_, ?_⟩
    · simp only; unfold subA; split
      · exact h4
      · rw [h4]; rfl
    · simp only; omega
    · simp only; omega
  · right
    have hrows : rows = rows.take lo ++ ((rows.drop lo).take (hi - lo) ++ rows.drop hi) := by
      conv => lhs; rw [← List.take_append_drop lo rows]
      congr 1
      conv => lhs; rw [← List.take_append_drop (hi - lo) (rows.drop lo)]
      rw [List.drop_drop]; congr 2; omega
    have hfl : E.flat rows = E.flat (rows.take lo) ++ (E.flat ((rows.drop lo).take (hi - lo)) ++ E.flat (rows.drop hi)) := by
      rw [← Rec.flat_append, ← Rec.flat_append]; exact congrArg E.flat hrows
    have hlast : (s.c - lo - (hi - lo)) * E.sz ≤ (E.flat (rows.drop hi) ++ tl).length := by
      rw [List.length_append, Rec.flat_length, List.length_drop]
      have : (s.c - lo - (hi - lo)) * E.sz = (rows.length - hi) * E.sz + (s.c - s.n) * E.sz := by rw [← Nat.add_mul]; congr 1; omega
      omega
    by_cases hm : s.c = lo
    · -- nothing behind: the place stays where it was
      have hlo' : lo = hi := by omega
      have hr : rows.length = lo := by omega
      refine ⟨b, o, pre, E.flat rows ++ tl, ?_, h5, ?_, ?_⟩
      · show subA s.a lo s.c E.sz = _
        unfold subA; rw [if_pos hm]; exact h4
      · have : (rows.drop lo).take (hi - lo) = [] := by rw [hlo', Nat.sub_self, List.take_zero]
        show Hb.blk b (pre ++ E.flat ((rows.drop lo).take (hi - lo)) ++ (E.flat rows ++ tl)) g
        rw [this, Rec.flat_nil, List.append_nil, ← List.append_assoc]; exact h6
      · have : s.c - lo - (hi - lo) = 0 := by omega
        show (s.c - lo - (hi - lo)) * E.sz ≤ _
        rw [this, Nat.zero_mul]; exact Nat.zero_le _
    · refine ⟨b, o + lo * E.sz, pre ++ E.flat (rows.take lo), E.flat (rows.drop hi) ++ tl, ?_, ?_, ?_, hlast⟩
      · show subA s.a lo s.c E.sz = _
        unfold subA; rw [if_neg hm, h4]
        simp only [Option.map_some, Option.some.injEq]
        exact addr_add _ _ _
      · rw [List.length_append, h5, Rec.flat_length, List.length_take, Nat.min_eq_left (by omega)]
      · show Hb.blk b (pre ++ E.flat (rows.take lo) ++ E.flat ((rows.drop lo).take (hi - lo)) ++ (E.flat (rows.drop hi) ++ tl)) g
        rw [hfl] at h6
        simpa [List.append_assoc] using h6
end
end Go.Hb
