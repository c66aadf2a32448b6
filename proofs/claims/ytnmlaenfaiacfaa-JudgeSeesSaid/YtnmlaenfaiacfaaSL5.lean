/- SLICES THAT ARE ONLY READ: what came in, or stands in a chunk. Texts compared. No program. -/
import Derived.Test.YtnmlaenfaiacfaaSL4
import Derived.Lib.Strings
set_option linter.unusedVariables false
set_option linter.unusedSimpArgs false
set_option linter.unnecessarySimpa false
set_option linter.unusedSectionVars false
namespace Go.Hb

/-- a slice reads, in a world, as these records -/
class ReadsR (W : World) (s : Sl) {α : outParam Type} (E : outParam (Rec α)) (rows : outParam (List α)) : Prop where
  len : s.n = rows.length
  at_ : (s.a = none ∧ s.n = 0) ∨ ∃ b o, s.a = some ⟨b, o, none⟩ ∧ ∀ i j a, rows[i]? = some a → j < E.sz → W.cell? ⟨b, o + (i * E.sz + j), none⟩ = (E.cells a)[j]?
theorem ReadsR.of {W : World} {s : Sl} {α : Type} {E : Rec α} {rows : List α} (hpos : 0 < E.sz) (h : Reads W E.sz s (E.flat rows)) : ReadsR W s E rows := by
  have hl : s.n = rows.length := by
    have := h.1; rw [Rec.flat_length] at this; exact (Nat.eq_of_mul_eq_mul_right hpos this).symm
  refine ⟨hl, ?_⟩
  rcases h.2 with h1 | ⟨b, o, h1, h2⟩
  · exact .inl h1
  · refine .inr ⟨b, o, h1, fun i j a ha hj => ?_⟩
    have hlt := (List.getElem?_eq_some_iff.1 ha).1
    rw [h2 (i * E.sz + j) (by rw [Rec.flat_length]; calc _ < i * E.sz + E.sz := by omega
      _ = (i + 1) * E.sz := by rw [Nat.add_mul, Nat.one_mul]
      _ ≤ _ := Nat.mul_le_mul_right _ (by omega)), Rec.flat_get ha hj]
/-- in whatever world the chunks stand -/
class Rdb (W0 : World) (L : List HP) (s : Sl) {α : outParam Type} (E : outParam (Rec α)) (rows : outParam (List α)) : Prop where
  rd : ∀ w, Sat W0 w L → ReadsR w s E rows
section
variable {L : List HP} {F : HP → List HP} {b : Nat} {s : Sl} {W W0 w : World}
section
variable {α : Type} {E : Rec α} {rows : List α}
class PosR {α : Type} (E : Rec α) : Prop where
  pos : 0 < E.sz
instance {k : IntKind} : PosR (Rec.int k) := ⟨Nat.one_pos⟩
instance : PosR Rec.str := ⟨Nat.one_pos⟩
instance : PosR Rec.nat := ⟨Nat.one_pos⟩
instance Rdb.recs [hA : AtS L s (recs E s rows) F] [hp : PosR E] : Rdb W0 L s E rows := ⟨fun w h => by
  refine AtS.one (hA := hA) h fun M h _ => ReadsR.of hp.pos ?_
  refine ⟨(slcv_facts (q := 0) h rfl).1, ?_⟩
  obtain ⟨g, hg, ⟨h1, h2⟩, h3⟩ := h.get (q := 0) rfl
  rcases h3 with ⟨h4, h5, _⟩ | ⟨b, o, pre, tl, h4, _⟩
  · exact .inl ⟨h4, h5⟩
  · exact .inr ⟨b, o, h4, fun j hj => slc_cell (q := 0) h rfl h4 hj⟩⟩
instance Rdb.reca {o : Nat} [hA : AtS L s (reca E b o s rows) F] [hp : PosR E] : Rdb W0 L s E rows := ⟨fun w h => by
  refine AtS.one (hA := hA) h fun M h _ => ?_
  have h' := h.turn (q := 0) (p' := Hb.recs E s rows) rfl fun _ hg => hg.2
  have h' : Sat W0 w (Hb.recs E s rows :: M) := h'
  exact (Rdb.recs (W0 := W0) (L := Hb.recs E s rows :: M)).rd w h'⟩
instance Rdb.old [hA : AtO L W] [hr : ReadsR W s E rows] : Rdb W0 L s E rows := ⟨fun w h => by
  obtain ⟨M, h1⟩ := hA.pos
  have h2 := h.perm h1
  refine ⟨hr.len, ?_⟩
  rcases hr.at_ with h3 | ⟨b, o, h3, h4⟩
  · exact .inl h3
  · refine .inr ⟨b, o, h3, fun i j a ha hj => ?_⟩
    have h5 := h4 i j a ha hj
    rw [List.getElem?_eq_getElem (by rw [E.len]; exact hj)] at h5 ⊢
    exact h2.cell_old (q := 0) rfl h5⟩
theorem rdb_len (h : Sat W0 w L) [hR : Rdb W0 L s E rows] : s.n = rows.length := (hR.rd w h).len
theorem idx_rd {i : Int} {K : Nat → Nat → WP} (h : Sat W0 w L) [hR : Rdb W0 L s E rows] (hK : ∀ b o, s.a = some ⟨b, o, none⟩ → K b o w) (h0 : 0 ≤ i := by first | omega | (simp only [List.length_set, List.length_append, List.length_cons, List.length_nil, List.length_take, List.length_drop, List.length_map, Int.toNat_natCast] <;> omega) | fail) (h1 : i < (s.n : Int) := by first | omega | (simp only [List.length_set, List.length_append, List.length_cons, List.length_nil, List.length_take, List.length_drop, List.length_map, Int.toNat_natCast] <;> omega) | fail) : idx s.a s.n i K w := by
  rcases (hR.rd w h).at_ with ⟨_, h3⟩ | ⟨b, o, h3, _⟩
  · omega
  · exact ⟨b, o, h3, ⟨h0, h1⟩, hK b o h3⟩
/-- all that is read, whole: for an append -/
theorem rd_rdb (h : Sat W0 w L) [hR : Rdb W0 L s E rows] : rdA w s.a (s.n * E.sz) = some (E.flat rows) := by
  have hr := hR.rd w h
  rw [hr.len]
  rcases hr.at_ with ⟨h1, h2⟩ | ⟨b, o, h1, h2⟩
  · have : rows = [] := List.length_eq_zero_iff.1 (by rw [← hr.len]; exact h2)
    rw [h1, this]; rfl
  · rw [h1, ← Rec.flat_length]
    refine rdL_of (E.flat rows) o fun j hj => ?_
    rw [Rec.flat_length] at hj
    have hsz : 0 < E.sz := Nat.pos_of_ne_zero fun h => by rw [h] at hj; omega
    have hd := Nat.div_add_mod j E.sz
    have hi : j / E.sz < rows.length := (Nat.div_lt_iff_lt_mul hsz).2 hj
    have hm := Nat.mod_lt j hsz
    have h3 := h2 (j / E.sz) (j % E.sz) rows[j / E.sz] (List.getElem?_eq_getElem hi) hm
    have hj2 : j / E.sz * E.sz + j % E.sz = j := by rw [Nat.mul_comm]; exact hd
    rw [hj2] at h3
    rw [h3, ← Rec.flat_get (List.getElem?_eq_getElem hi) hm, hj2]
end
section
variable {α : Type} [Inhabited α] {E : Rec α} {rows : List α}
theorem rd_cell {b o i j : Nat} (hR : ReadsR w s E rows) (ha : s.a = some ⟨b, o, none⟩) (hi : i < rows.length) (hj : j < E.sz) : w.cell? ⟨b, o + (i * E.sz + j), none⟩ = (E.cells (rows.getD i default))[j]? := by
  rcases hR.at_ with ⟨h3, _⟩ | ⟨b', o', h3, h4⟩
  · rw [h3] at ha; cases ha
  · rw [h3] at ha; cases ha
    exact h4 i j _ (getD_some hi) hj
theorem ld_rd {b o i j p : Nat} {k : CK} {x : k.ty} {K : k.ty → WP} (ha : s.a = some ⟨b, o, none⟩) (h : Sat W0 w L) [hR : Rdb W0 L s E rows] (hp : p = o + (i * E.sz + j)) (hi : i < rows.length)
    (hc : (E.cells (rows.getD i default))[j]? = some (k.val x)) (hK : K x w) (hu : k ≠ .any := by simp) : ld k b p K w := by
  subst hp
  exact ld_cell ((rd_cell (hR.rd w h) ha hi (by rw [← E.len (rows.getD i default)]; exact (List.getElem?_eq_some_iff.1 hc).1)).trans hc) hu hK
theorem ldS_rd {b o i j p : Nat} {k : CK} {x : k.ty} {K : k.ty → WP} (ha : s.a = some ⟨b, o, none⟩) [hR : Rdb W0 L s E rows] (hp : p = o + (i * E.sz + j)) (hi : i < rows.length)
    (hc : (E.cells (rows.getD i default))[j]? = some (k.val x)) (hK : K x w) : ldS (fun w' => Sat W0 w' L) k b p K w := by
  subst hp
  exact ldS_by x (fun w' h => (rd_cell (hR.rd w' h) ha hi (by rw [← E.len (rows.getD i default)]; exact (List.getElem?_eq_some_iff.1 hc).1)).trans hc) hK
section
variable {o i n j1 j2 j3 j4 : Nat} {k : CK} {x : k.ty} {K : k.ty → WP}
theorem ld_rd0 (ha : s.a = some ⟨b, o, none⟩) (h : Sat W0 w L) [hR : Rdb W0 L s E rows] (hK : K x w) (hi : i < rows.length := by first | omega | (simp only [List.length_set, List.length_append, List.length_cons, List.length_nil, List.length_take, List.length_drop, List.length_map, Int.toNat_natCast] <;> omega) | fail) (hc : (E.cells (rows.getD i default))[0]? = some (k.val x) := by exact rfl) (hn : n = E.sz := by exact rfl) (hu : k ≠ .any := by simp) : ld k b (o + i * n) K w :=
  ld_rd (hR := hR) ha h (j := 0) (by rw [hn]; rfl) hi hc hK hu
theorem ldS_rd0 (ha : s.a = some ⟨b, o, none⟩) [hR : Rdb W0 L s E rows] (hK : K x w) (hi : i < rows.length := by first | omega | (simp only [List.length_set, List.length_append, List.length_cons, List.length_nil, List.length_take, List.length_drop, List.length_map, Int.toNat_natCast] <;> omega) | fail) (hc : (E.cells (rows.getD i default))[0]? = some (k.val x) := by exact rfl) (hn : n = E.sz := by exact rfl) : ldS (fun w' => Sat W0 w' L) k b (o + i * n) K w :=
  ldS_rd (hR := hR) ha (j := 0) (by rw [hn]; rfl) hi hc hK
theorem ld_rd1 (ha : s.a = some ⟨b, o, none⟩) (h : Sat W0 w L) [hR : Rdb W0 L s E rows] (hK : K x w) (hi : i < rows.length := by first | omega | (simp only [List.length_set, List.length_append, List.length_cons, List.length_nil, List.length_take, List.length_drop, List.length_map, Int.toNat_natCast] <;> omega) | fail) (hc : (E.cells (rows.getD i default))[j1]? = some (k.val x) := by exact rfl) (hn : n = E.sz := by exact rfl) (hu : k ≠ .any := by simp) : ld k b (o + i * n + j1) K w :=
  ld_rd (hR := hR) ha h (j := j1) (by rw [hn]; omega) hi hc hK hu
theorem ldS_rd1 (ha : s.a = some ⟨b, o, none⟩) [hR : Rdb W0 L s E rows] (hK : K x w) (hi : i < rows.length := by first | omega | (simp only [List.length_set, List.length_append, List.length_cons, List.length_nil, List.length_take, List.length_drop, List.length_map, Int.toNat_natCast] <;> omega) | fail) (hc : (E.cells (rows.getD i default))[j1]? = some (k.val x) := by exact rfl) (hn : n = E.sz := by exact rfl) : ldS (fun w' => Sat W0 w' L) k b (o + i * n + j1) K w :=
  ldS_rd (hR := hR) ha (j := j1) (by rw [hn]; omega) hi hc hK
theorem ld_rd2 (ha : s.a = some ⟨b, o, none⟩) (h : Sat W0 w L) [hR : Rdb W0 L s E rows] (hK : K x w) (hi : i < rows.length := by first | omega | (simp only [List.length_set, List.length_append, List.length_cons, List.length_nil, List.length_take, List.length_drop, List.length_map, Int.toNat_natCast] <;> omega) | fail) (hc : (E.cells (rows.getD i default))[j1 + j2]? = some (k.val x) := by exact rfl) (hn : n = E.sz := by exact rfl) (hu : k ≠ .any := by simp) : ld k b (o + i * n + j1 + j2) K w :=
  ld_rd (hR := hR) ha h (j := j1 + j2) (by rw [hn]; omega) hi hc hK hu
theorem ldS_rd2 (ha : s.a = some ⟨b, o, none⟩) [hR : Rdb W0 L s E rows] (hK : K x w) (hi : i < rows.length := by first | omega | (simp only [List.length_set, List.length_append, List.length_cons, List.length_nil, List.length_take, List.length_drop, List.length_map, Int.toNat_natCast] <;> omega) | fail) (hc : (E.cells (rows.getD i default))[j1 + j2]? = some (k.val x) := by exact rfl) (hn : n = E.sz := by exact rfl) : ldS (fun w' => Sat W0 w' L) k b (o + i * n + j1 + j2) K w :=
  ldS_rd (hR := hR) ha (j := j1 + j2) (by rw [hn]; omega) hi hc hK
theorem ld_rd3 (ha : s.a = some ⟨b, o, none⟩) (h : Sat W0 w L) [hR : Rdb W0 L s E rows] (hK : K x w) (hi : i < rows.length := by first | omega | (simp only [List.length_set, List.length_append, List.length_cons, List.length_nil, List.length_take, List.length_drop, List.length_map, Int.toNat_natCast] <;> omega) | fail) (hc : (E.cells (rows.getD i default))[j1 + j2 + j3]? = some (k.val x) := by exact rfl) (hn : n = E.sz := by exact rfl) (hu : k ≠ .any := by simp) : ld k b (o + i * n + j1 + j2 + j3) K w :=
  ld_rd (hR := hR) ha h (j := j1 + j2 + j3) (by rw [hn]; omega) hi hc hK hu
theorem ldS_rd3 (ha : s.a = some ⟨b, o, none⟩) [hR : Rdb W0 L s E rows] (hK : K x w) (hi : i < rows.length := by first | omega | (simp only [List.length_set, List.length_append, List.length_cons, List.length_nil, List.length_take, List.length_drop, List.length_map, Int.toNat_natCast] <;> omega) | fail) (hc : (E.cells (rows.getD i default))[j1 + j2 + j3]? = some (k.val x) := by exact rfl) (hn : n = E.sz := by exact rfl) : ldS (fun w' => Sat W0 w' L) k b (o + i * n + j1 + j2 + j3) K w :=
  ldS_rd (hR := hR) ha (j := j1 + j2 + j3) (by rw [hn]; omega) hi hc hK
theorem ld_rd4 (ha : s.a = some ⟨b, o, none⟩) (h : Sat W0 w L) [hR : Rdb W0 L s E rows] (hK : K x w) (hi : i < rows.length := by first | omega | (simp only [List.length_set, List.length_append, List.length_cons, List.length_nil, List.length_take, List.length_drop, List.length_map, Int.toNat_natCast] <;> omega) | fail) (hc : (E.cells (rows.getD i default))[j1 + j2 + j3 + j4]? = some (k.val x) := by exact rfl) (hn : n = E.sz := by exact rfl) (hu : k ≠ .any := by simp) : ld k b (o + i * n + j1 + j2 + j3 + j4) K w :=
  ld_rd (hR := hR) ha h (j := j1 + j2 + j3 + j4) (by rw [hn]; omega) hi hc hK hu
theorem ldS_rd4 (ha : s.a = some ⟨b, o, none⟩) [hR : Rdb W0 L s E rows] (hK : K x w) (hi : i < rows.length := by first | omega | (simp only [List.length_set, List.length_append, List.length_cons, List.length_nil, List.length_take, List.length_drop, List.length_map, Int.toNat_natCast] <;> omega) | fail) (hc : (E.cells (rows.getD i default))[j1 + j2 + j3 + j4]? = some (k.val x) := by exact rfl) (hn : n = E.sz := by exact rfl) : ldS (fun w' => Sat W0 w' L) k b (o + i * n + j1 + j2 + j3 + j4) K w :=
  ldS_rd (hR := hR) ha (j := j1 + j2 + j3 + j4) (by rw [hn]; omega) hi hc hK
theorem ld_rd5 {j5 : Nat} (ha : s.a = some ⟨b, o, none⟩) (h : Sat W0 w L) [hR : Rdb W0 L s E rows] (hK : K x w) (hi : i < rows.length := by first | omega | (simp only [List.length_set, List.length_append, List.length_cons, List.length_nil, List.length_take, List.length_drop, List.length_map, Int.toNat_natCast] <;> omega) | fail) (hc : (E.cells (rows.getD i default))[j1 + j2 + j3 + j4 + j5]? = some (k.val x) := by exact rfl) (hn : n = E.sz := by exact rfl) (hu : k ≠ .any := by simp) : ld k b (o + i * n + j1 + j2 + j3 + j4 + j5) K w :=
  ld_rd (hR := hR) ha h (j := j1 + j2 + j3 + j4 + j5) (by rw [hn]; omega) hi hc hK hu
theorem ldS_rd5 {j5 : Nat} (ha : s.a = some ⟨b, o, none⟩) [hR : Rdb W0 L s E rows] (hK : K x w) (hi : i < rows.length := by first | omega | (simp only [List.length_set, List.length_append, List.length_cons, List.length_nil, List.length_take, List.length_drop, List.length_map, Int.toNat_natCast] <;> omega) | fail) (hc : (E.cells (rows.getD i default))[j1 + j2 + j3 + j4 + j5]? = some (k.val x) := by exact rfl) (hn : n = E.sz := by exact rfl) : ldS (fun w' => Sat W0 w' L) k b (o + i * n + j1 + j2 + j3 + j4 + j5) K w :=
  ldS_rd (hR := hR) ha (j := j1 + j2 + j3 + j4 + j5) (by rw [hn]; omega) hi hc hK
end
end
end
section
variable {L : List HP} {F : HP → List HP} {b : Nat} {s : Sl} {W W0 w : World} {α : Type} {E : Rec α} {rows : List α}
/-- a part of a slice, whole -/
theorem rd_sub {lo c k n : Nat} (h : Sat W0 w L) [hR : Rdb W0 L s E rows] (hk : lo + k ≤ rows.length) (hc : rows.length ≤ c) (hn : n = k * E.sz) : rdA w (subA s.a lo c E.sz) n = some (E.flat ((rows.drop lo).take k)) := by
  have hr := hR.rd w h
  have hfl : (E.flat ((rows.drop lo).take k)).length = k * E.sz := by
    rw [Rec.flat_length, List.length_take, List.length_drop, Nat.min_eq_left (by omega)]
  by_cases hk0 : k = 0
  · subst hk0
    rw [hn, Nat.zero_mul, List.take_zero, Rec.flat_nil]
    unfold subA
    rcases hr.at_ with ⟨h1, h2⟩ | ⟨b, o, h1, h2⟩
    · rw [h1]; simp [rdA]
    · rw [h1]; split
      · rfl
      · simp only [Option.map_some, addr_add]; rfl
  · rcases hr.at_ with ⟨h1, h2⟩ | ⟨b, o, h1, h2⟩
    · have := hr.len; omega
    · have hs : subA s.a lo c E.sz = some ⟨b, o + lo * E.sz, none⟩ := by
        unfold subA; rw [if_neg (by omega), h1]
        simp only [Option.map_some, addr_add]
      rw [hs, hn, ← hfl]
      refine rdL_of _ _ fun j hj => ?_
      rw [hfl] at hj
      have hsz : 0 < E.sz := Nat.pos_of_ne_zero fun h => by rw [h] at hj; omega
      have hd := Nat.div_add_mod j E.sz
      have hi : j / E.sz < k := (Nat.div_lt_iff_lt_mul hsz).2 hj
      have hm := Nat.mod_lt j hsz
      have hlt : lo + j / E.sz < rows.length := by omega
      have h3 := h2 (lo + j / E.sz) (j % E.sz) rows[lo + j / E.sz] (List.getElem?_eq_getElem hlt) hm
      have hj2 : j / E.sz * E.sz + j % E.sz = j := by rw [Nat.mul_comm]; exact hd
      have hj3 : o + ((lo + j / E.sz) * E.sz + j % E.sz) = o + lo * E.sz + j := by rw [Nat.add_mul]; omega
      rw [hj3] at h3
      rw [h3]
      have h4 : ((rows.drop lo).take k)[j / E.sz]? = some rows[lo + j / E.sz] := by
        rw [List.getElem?_take_of_lt hi, List.getElem?_drop, List.getElem?_eq_getElem hlt]
      rw [← Rec.flat_get h4 hm, hj2]
/-- a block that is a slice of records -/
theorem Sat.blkS {cs : List Value} {n : Nat} (E : Rec α) (rows : List α) [hA : At L b (blk b cs) F] (h : Sat W0 w L) (hc : E.flat rows = cs) (hn : rows.length = n) : Sat W0 w (F (Hb.recs E ⟨some ⟨b, 0, none⟩, n, n⟩ rows)) :=
  At.turn (hA := hA) h fun g hg => by
    subst hc hn
    exact ⟨⟨by rw [Rec.flat_length], Nat.le_refl _⟩, .inr ⟨b, 0, [], [], rfl, rfl, by simpa using hg, by simp⟩⟩
/-- append: what is read, behind a row of its own -/
theorem app_own {ty by_ k n : Nat} {z : List Value} {cs : List Value} {rows new : List α} {K : Sl → WP} {g : World → Option (List Value)} [Inhabited α] (h : Sat W0 w (blk b cs :: L)) (E : Rec α) (hc : E.flat rows = cs) (hk : rows.length = k) (hnew : g w = some (E.flat new)) (hn : n = new.length)
    (hok : okC (E.flat new) = true) (hz : z.length = E.sz) (hpos : 0 < E.sz) (hby : (rows.length + new.length) * by_ ≤ 140737488355328)
    (hK : ∀ s' w', s'.n = rows.length + new.length → Sat W0 w' (Hb.recs E s' (rows ++ new) :: L) → K s' w') : appendC ty E.sz by_ z ⟨some ⟨b, 0, none⟩, k, k⟩ n g K w := by
  have h2 : Sat W0 w (Hb.recs E ⟨some ⟨b, 0, none⟩, k, k⟩ rows :: L) := Sat.blkS (b := b) (L := blk b cs :: L) E rows h hc hk
  exact app_by (s := ⟨some ⟨b, 0, none⟩, k, k⟩) h2 hnew hn hok hz hpos hby hK
/-- a nil slice, as a row -/
theorem Sat.nilR (E : Rec α) (h : Sat W0 w L) : Sat W0 w (Hb.recs E ⟨none, 0, 0⟩ [] :: L) := nilS h
end
/-- cells that are no heaps of cells -/
class OkR {α : Type} (E : Rec α) : Prop where
  ok : ∀ a, okC (E.cells a) = true
theorem okC_append : ∀ {a b : List Value}, okC a = true → okC b = true → okC (a ++ b) = true
  | [], _, _, h => h
  | v :: a, b, h, h' => by cases v <;> first | exact okC_append (a := a) h h' | cases h
theorem okC_flat {α : Type} {E : Rec α} [h : OkR E] : ∀ (rows : List α), okC (E.flat rows) = true
  | [] => rfl
  | a :: rows => okC_append (h.ok a) (okC_flat rows)
instance : OkR Rec.str := ⟨fun _ => rfl⟩
instance {k : IntKind} : OkR (Rec.int k) := ⟨fun _ => rfl⟩
instance : OkR Rec.nat := ⟨fun _ => rfl⟩
theorem take_snoc {α : Type} [Inhabited α] {l : List α} {i : Nat} (h : i < l.length) : l.take (i + 1) = l.take i ++ [l.getD i default] := by
  rw [List.take_add_one, List.getD_eq_getElem?_getD, List.getElem?_eq_getElem h]; rfl
theorem sEq_eq (a b : ByteArray) : sEq a b = decide (a = b) := by
  unfold sEq
  rw [Bool.eq_iff_iff, beq_iff_eq, decide_eq_true_eq, ByteArray.toList_eq, ByteArray.toList_eq]
  constructor
  · intro h
    exact ByteArray.ext (Array.toList_inj.1 h)
  · rintro rfl; rfl
section
variable {K M : WP} {w : World} {a b : Int}
theorem ite_ltI (h1 : a < b → K w) (h2 : ¬ a < b → M w) : ite2 (decide (a < b)) K M w := ite_cases (fun h => h1 (of_decide_eq_true h)) fun h => h2 (of_decide_eq_false h)
theorem ite_leI (h1 : a ≤ b → K w) (h2 : ¬ a ≤ b → M w) : ite2 (decide (a ≤ b)) K M w := ite_cases (fun h => h1 (of_decide_eq_true h)) fun h => h2 (of_decide_eq_false h)
theorem ite_gtI (h1 : b < a → K w) (h2 : ¬ b < a → M w) : ite2 (decide (a > b)) K M w := ite_cases (fun h => h1 (of_decide_eq_true h)) fun h => h2 (of_decide_eq_false h)
theorem ite_geI (h1 : b ≤ a → K w) (h2 : ¬ b ≤ a → M w) : ite2 (decide (a ≥ b)) K M w := ite_cases (fun h => h1 (of_decide_eq_true h)) fun h => h2 (of_decide_eq_false h)
theorem ite_eqI (h1 : a = b → K w) (h2 : ¬ a = b → M w) : ite2 (a == b) K M w := ite_cases (fun h => h1 (by simpa using h)) fun h => h2 (by simpa using h)
theorem ite_neI (h1 : ¬ a = b → K w) (h2 : a = b → M w) : ite2 (a != b) K M w := ite_cases (fun h => h1 (by simpa using h)) fun h => h2 (by simpa using h)
theorem ite_eqS {a b : ByteArray} (h1 : a = b → K w) (h2 : ¬ a = b → M w) : ite2 (sEq a b) K M w := ite_cases (fun h => h1 (by rw [sEq_eq] at h; simpa using h)) fun h => h2 (by rw [sEq_eq] at h; simpa using h)
theorem ite_neS {a b : ByteArray} (h1 : ¬ a = b → K w) (h2 : a = b → M w) : ite2 (!sEq a b) K M w := ite_cases (fun h => h1 (by rw [sEq_eq] at h; simpa using h)) fun h => h2 (by rw [sEq_eq] at h; simpa using h)
theorem ite_dec {c : Prop} [Decidable c] (h1 : c → K w) (h2 : ¬ c → M w) : ite2 (decide c) K M w := ite_cases (fun h => h1 (of_decide_eq_true h)) fun h => h2 (of_decide_eq_false h)
theorem ite_ndec {c : Prop} [Decidable c] (h1 : ¬ c → K w) (h2 : c → M w) : ite2 (!decide c) K M w := ite_cases (fun h => h1 (by simpa using h)) fun h => h2 (by simpa using h)
theorem ite_some {α : Type} {o : Option α} (h1 : ∀ x, o = some x → K w) (h2 : o = none → M w) : ite2 o.isSome K M w := by
  cases o with
  | none => exact h2 rfl
  | some x => exact h1 x rfl
theorem ite_nsome {α : Type} {o : Option α} (h1 : o = none → K w) (h2 : ∀ x, o = some x → M w) : ite2 (!o.isSome) K M w := by
  cases o with
  | none => exact h1 rfl
  | some x => exact h2 x rfl
end
end Go.Hb
