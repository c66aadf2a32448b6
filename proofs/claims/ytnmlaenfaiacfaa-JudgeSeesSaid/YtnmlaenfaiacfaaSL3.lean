/- TYPED CHUNKS: records in slices, chunks found by their block; the words of the texts over them. No program. -/
import Derived.Test.YtnmlaenfaiacfaaSL2
import Derived.Test.YtnmlaenfaiacfaaListRep
set_option linter.unusedVariables false
set_option linter.unusedSimpArgs false
set_option linter.unnecessarySimpa false
set_option linter.unusedSectionVars false
namespace Go.Hb

/-- how a record lies in cells -/
structure Rec (α : Type) where
  sz : Nat
  cells : α → List Value
  len : ∀ a, (cells a).length = sz
def Rec.int (k : IntKind) : Rec Int := ⟨1, fun n => [.int k n], fun _ => rfl⟩
def Rec.str : Rec ByteArray := ⟨1, fun s => [.string s], fun _ => rfl⟩
def Rec.ptr : Rec Nat := ⟨1, fun b => [.pointer (some ⟨b, 0, none⟩)], fun _ => rfl⟩
def Rec.raw1 : Rec Value := ⟨1, fun v => [v], fun _ => rfl⟩
def Rec.flat {α : Type} (E : Rec α) (rows : List α) : List Value := (rows.map E.cells).flatten
section
variable {α : Type} {E : Rec α}
theorem Rec.rows (E : Rec α) {rows : List α} : ∀ r ∈ rows.map E.cells, r.length = E.sz := by
  intro r hr
  simp only [List.mem_map] at hr
  obtain ⟨l, _, rfl⟩ := hr
  exact E.len l
theorem Rec.flat_length (E : Rec α) (rows : List α) : (E.flat rows).length = rows.length * E.sz := by
  unfold Rec.flat; rw [flat_len E.rows]; simp
theorem Rec.flat_get {rows : List α} {i j : Nat} {a : α} (h : rows[i]? = some a) (hj : j < E.sz) : (E.flat rows)[i * E.sz + j]? = (E.cells a)[j]? := by
  unfold Rec.flat
  rw [Hb.flat_get E.rows hj, List.getElem?_map, h]; rfl
theorem Rec.flat_set {rows : List α} {i j : Nat} {a a' : α} {v : Value} (h : rows[i]? = some a) (hj : j < E.sz) (hl : (E.cells a).set j v = E.cells a') : (E.flat rows).set (i * E.sz + j) v = E.flat (rows.set i a') := by
  unfold Rec.flat
  rw [Hb.flat_set (r := E.cells a) E.rows hj (by rw [List.getElem?_map, h]; rfl), hl, List.map_set]
theorem Rec.flat_append (E : Rec α) (r1 r2 : List α) : E.flat (r1 ++ r2) = E.flat r1 ++ E.flat r2 := by simp [Rec.flat]
theorem Rec.flat_one (E : Rec α) (a : α) : E.flat [a] = E.cells a := by simp [Rec.flat]
theorem Rec.flat_nil (E : Rec α) : E.flat [] = [] := rfl
end

/-- a slice of records that is owned -/
def recs {α : Type} (E : Rec α) (s : Sl) (rows : List α) : HP := slcv E.sz s (E.flat rows)
/-- the same, with its place known -/
def reca {α : Type} (E : Rec α) (b o : Nat) (s : Sl) (rows : List α) : HP := fun h => s.a = some ⟨b, o, none⟩ ∧ recs E s rows h

/-! chunks found -/
class At (L : List HP) (b : Nat) (p : outParam HP) (F : outParam (HP → List HP)) : Prop where
  pos : ∃ M, L.Perm (p :: M) ∧ ∀ x, (F x).Perm (x :: M)
class AtS (L : List HP) (s : Sl) (p : outParam HP) (F : outParam (HP → List HP)) : Prop where
  pos : ∃ M, L.Perm (p :: M) ∧ ∀ x, (F x).Perm (x :: M)
class AtO (L : List HP) (W : outParam World) : Prop where
  pos : ∃ M, L.Perm (old W :: M)
section
variable {L : List HP} {F : HP → List HP} {p c : HP} {b : Nat} {s : Sl} {W W0 w : World}
instance (priority := low) At.there [h : At L b p F] : At (c :: L) b p (fun x => c :: F x) := ⟨by
  obtain ⟨M, h1, h2⟩ := h.pos
  exact ⟨c :: M, (List.Perm.cons c h1).trans (List.Perm.swap _ _ _), fun x => (List.Perm.cons c (h2 x)).trans (List.Perm.swap _ _ _)⟩⟩
instance (priority := low) AtS.there [h : AtS L s p F] : AtS (c :: L) s p (fun x => c :: F x) := ⟨by
  obtain ⟨M, h1, h2⟩ := h.pos
  exact ⟨c :: M, (List.Perm.cons c h1).trans (List.Perm.swap _ _ _), fun x => (List.Perm.cons c (h2 x)).trans (List.Perm.swap _ _ _)⟩⟩
instance (priority := low) AtO.there [h : AtO L W] : AtO (c :: L) W := ⟨by
  obtain ⟨M, h1⟩ := h.pos
  exact ⟨c :: M, (List.Perm.cons c h1).trans (List.Perm.swap _ _ _)⟩⟩
instance AtO.here : AtO (old W :: L) W := ⟨L, List.Perm.refl _⟩
theorem here_pos : ∃ M, (p :: L).Perm (p :: M) ∧ ∀ x, ((fun x => x :: L) x).Perm (x :: M) := ⟨L, List.Perm.refl _, fun _ => List.Perm.refl _⟩
instance At.blk {cs : List Value} : At (blk b cs :: L) b (blk b cs) (fun x => x :: L) := ⟨here_pos⟩
instance At.reca {α : Type} {E : Rec α} {o : Nat} {rows : List α} : At (reca E b o s rows :: L) b (reca E b o s rows) (fun x => x :: L) := ⟨here_pos⟩
instance AtS.recs {α : Type} {E : Rec α} {rows : List α} : AtS (recs E s rows :: L) s (recs E s rows) (fun x => x :: L) := ⟨here_pos⟩
instance AtS.reca {α : Type} {E : Rec α} {b o : Nat} {rows : List α} : AtS (Hb.reca E b o s rows :: L) s (Hb.reca E b o s rows) (fun x => x :: L) := ⟨here_pos⟩

theorem At.turn {p' : HP} [hA : At L b p F] (h : Sat W0 w L) (hp : ∀ g, p g → p' g) : Sat W0 w (F p') := by
  obtain ⟨M, h1, h2⟩ := hA.pos
  have h3 := h.perm h1
  exact (h3.turn (q := 0) rfl hp).perm (h2 p').symm
theorem At.fix [hA : At L b p F] (h : Sat W0 w L) : Sat W0 w (F p) := At.turn (hA := hA) h fun _ hg => hg
/-- a contract over one chunk, wherever it stands -/
theorem At.call {P : Program} {f : FuncId} {args : Array Value} {R : Ending → HP → Prop} [hA : At L b p F] (h : Sat W0 w L)
    (hC : ∀ M, Sat W0 w (p :: M) → Calls P f args w fun e w' => ∃ p', R e p' ∧ Sat W0 w' (p' :: M)) : Calls P f args w fun e w' => ∃ p', R e p' ∧ Sat W0 w' (F p') := by
  obtain ⟨M, h1, h2⟩ := hA.pos
  exact (hC M (h.perm h1)).mono fun e w' ⟨p', hr, hs⟩ => ⟨p', hr, hs.perm (h2 p').symm⟩
theorem At.call1 {P : Program} {f : FuncId} {args : Array Value} {e0 : Ending} {p' : HP} [hA : At L b p F] (h : Sat W0 w L)
    (hC : ∀ M, Sat W0 w (p :: M) → Calls P f args w fun e w' => e = e0 ∧ Sat W0 w' (p' :: M)) : Calls P f args w fun e w' => e = e0 ∧ Sat W0 w' (F p') := by
  obtain ⟨M, h1, h2⟩ := hA.pos
  exact (hC M (h.perm h1)).mono fun e w' ⟨hr, hs⟩ => ⟨hr, hs.perm (h2 p').symm⟩
/-- a step over one chunk -/
theorem At.one [hA : At L b p F] (h : Sat W0 w L) {C : Prop} (hC : ∀ M, Sat W0 w (p :: M) → (∀ w' p', Sat W0 w' (p' :: M) → Sat W0 w' (F p')) → C) : C := by
  obtain ⟨M, h1, h2⟩ := hA.pos
  exact hC M (h.perm h1) fun w' p' h => h.perm (h2 p').symm
/-- a step over one chunk that makes others -/
theorem At.oneX [hA : At L b p F] (h : Sat W0 w L) {C : Prop} (hC : ∀ M, Sat W0 w (p :: M) → (∀ w' p' (X : List HP), Sat W0 w' (p' :: (X ++ M)) → Sat W0 w' (X ++ F p')) → C) : C := by
  obtain ⟨M, h1, h2⟩ := hA.pos
  exact hC M (h.perm h1) fun w' p' X h => h.perm ((List.perm_middle.symm).trans (List.Perm.append_left X (h2 p').symm))
theorem AtS.one [hA : AtS L s p F] (h : Sat W0 w L) {C : Prop} (hC : ∀ M, Sat W0 w (p :: M) → (∀ w' p', Sat W0 w' (p' :: M) → Sat W0 w' (F p')) → C) : C := by
  obtain ⟨M, h1, h2⟩ := hA.pos
  exact hC M (h.perm h1) fun w' p' h => h.perm (h2 p').symm

/-! a store into cells that are typed out -/
class SetL (cs : List Value) (o : Nat) (v : Value) (cs' : outParam (List Value)) : Prop where
  eq : cs.set o v = cs'
  lt : o < cs.length
instance SetL.zero {x v : Value} {l : List Value} : SetL (x :: l) 0 v (v :: l) := ⟨rfl, by simp⟩
instance SetL.succ {x v : Value} {l l' : List Value} {n : Nat} [h : SetL l n v l'] : SetL (x :: l) (n + 1) v (x :: l') := ⟨by rw [← h.eq]; rfl, by have := h.lt; simp; omega⟩

theorem ld_b {k : CK} {o : Nat} {cs : List Value} {x : k.ty} {K : k.ty → WP} (h : Sat W0 w L) [hA : At L b (Hb.blk b cs) F] (hK : K x w) (hc : cs[o]? = some (k.val x) := by exact rfl) (hu : k ≠ .any := by simp) : ld k b o K w :=
  At.one (hA := hA) h fun _ h _ => ld_at 0 h rfl hc hK hu
theorem st_b {o : Nat} {cs cs' : List Value} {v : Value} {K : WP} (h : Sat W0 w L) [hA : At L b (Hb.blk b cs) F] [hS : SetL cs o v cs'] (hK : ∀ w', Sat W0 w' (F (Hb.blk b cs')) → K w') : st b o v K w :=
  At.one (hA := hA) h fun _ h hb => st_at 0 h rfl hS.lt fun w' h' => hK w' (hb _ _ (by rw [← hS.eq]; exact h'))
theorem ldS_b {k : CK} {o : Nat} {cs : List Value} {x : k.ty} {K : k.ty → WP} [hA : At L b (Hb.blk b cs) F] (hK : K x w) (hc : cs[o]? = some (k.val x) := by exact rfl) : ldS (fun w' => Sat W0 w' L) k b o K w :=
  ldS_by x (fun w' h => At.one (hA := hA) h fun _ h _ => (h.cell (q := 0) rfl).trans hc) hK
theorem drawW_sat {K : (World → Prop) → WP} (h : Sat W0 w L) (hK : ∀ w1, Sat W0 w1 L → K (fun w' => Sat W0 w' L) w1) : drawW K w := drawW_by (fun w' => Sat W0 w' L) h.drew (hK _ h.drew)

/-! records -/
section
variable {α : Type} [Inhabited α] {E : Rec α} {rows : List α}
theorem recs_len (h : Sat W0 w L) [hA : AtS L s (Hb.recs E s rows) F] (hpos : 0 < E.sz := by decide) : s.n = rows.length ∧ s.n ≤ s.c :=
  AtS.one (hA := hA) h fun _ h _ => by
    have := slcv_facts (q := 0) h rfl
    rw [Rec.flat_length] at this
    exact ⟨(Nat.eq_of_mul_eq_mul_right hpos this.1).symm, this.2⟩
theorem reca_len {b o : Nat} (h : Sat W0 w L) [hA : AtS L s (Hb.reca E b o s rows) F] (hpos : 0 < E.sz := by decide) : s.n = rows.length ∧ s.n ≤ s.c :=
  AtS.one (hA := hA) h fun _ h _ => by
    obtain ⟨g, _, _, hg, _⟩ := h.get (q := 0) rfl
    rw [Rec.flat_length] at hg
    exact ⟨(Nat.eq_of_mul_eq_mul_right hpos hg.1).symm, hg.2⟩
theorem idx_s {i : Int} {K : Nat → Nat → WP} (h : Sat W0 w L) [hA : AtS L s (Hb.recs E s rows) F]
    (hK : ∀ b o, Sat W0 w (F (Hb.reca E b o s rows)) → K b o w) (h0 : 0 ≤ i := by first | omega | (simp only [List.length_set, List.length_append, List.length_cons, List.length_nil, List.length_take, List.length_drop, List.length_map, Int.toNat_natCast] <;> omega) | fail) (h1 : i < (s.n : Int) := by first | omega | (simp only [List.length_set, List.length_append, List.length_cons, List.length_nil, List.length_take, List.length_drop, List.length_map, Int.toNat_natCast] <;> omega) | fail) : idx s.a s.n i K w :=
  AtS.one (hA := hA) h fun _ h hb => idx_at 0 h rfl h0 h1 fun b o ha => hK b o (hb _ _ (h.turn (q := 0) rfl fun _ hg => ⟨ha, hg⟩))
theorem idx_a {b o : Nat} {i : Int} {K : Nat → Nat → WP} (h : Sat W0 w L) [hA : AtS L s (Hb.reca E b o s rows) F] (hK : K b o w) (h0 : 0 ≤ i := by first | omega | (simp only [List.length_set, List.length_append, List.length_cons, List.length_nil, List.length_take, List.length_drop, List.length_map, Int.toNat_natCast] <;> omega) | fail) (h1 : i < (s.n : Int) := by first | omega | (simp only [List.length_set, List.length_append, List.length_cons, List.length_nil, List.length_take, List.length_drop, List.length_map, Int.toNat_natCast] <;> omega) | fail) : idx s.a s.n i K w :=
  AtS.one (hA := hA) h fun _ h _ => ⟨b, o, h.pure (q := 0) rfl fun _ hg => hg.1, ⟨h0, h1⟩, hK⟩
theorem reca_cell {b o i j : Nat} {a : α} {M : List HP} (h : Sat W0 w (Hb.reca E b o s rows :: M)) (hi : rows[i]? = some a) (hj : j < E.sz) : w.cell? ⟨b, o + (i * E.sz + j), none⟩ = (E.cells a)[j]? := by
  have ha : s.a = some ⟨b, o, none⟩ := h.pure (q := 0) rfl fun _ hg => hg.1
  have h' := h.turn (q := 0) (p' := Hb.recs E s rows) rfl fun _ hg => hg.2
  have hlt := (List.getElem?_eq_some_iff.1 hi).1
  have := slc_cell (q := 0) (j := i * E.sz + j) h' rfl ha (by rw [Rec.flat_length]; calc _ < i * E.sz + E.sz := by omega
    _ = (i + 1) * E.sz := by rw [Nat.add_mul, Nat.one_mul]
    _ ≤ _ := Nat.mul_le_mul_right _ (by omega))
  rw [this, Rec.flat_get hi hj]
theorem getD_some {i : Nat} (h : i < rows.length) : rows[i]? = some (rows.getD i default) := by
  rw [List.getD_eq_getElem?_getD, List.getElem?_eq_getElem h]; rfl
theorem ld_r {b o i j p : Nat} {k : CK} {x : k.ty} {K : k.ty → WP} (h : Sat W0 w L) [hA : At L b (Hb.reca E b o s rows) F] (hp : p = o + (i * E.sz + j)) (hi : i < rows.length)
    (hc : (E.cells (rows.getD i default))[j]? = some (k.val x)) (hK : K x w) (hu : k ≠ .any := by simp) : ld k b p K w := by
  subst hp
  refine At.one (hA := hA) h fun _ h _ => ld_cell ?_ hu hK
  rw [reca_cell h (getD_some hi) (by rw [← E.len (rows.getD i default)]; exact (List.getElem?_eq_some_iff.1 hc).1), hc]
theorem ldS_r {b o i j p : Nat} {k : CK} {x : k.ty} {K : k.ty → WP} [hA : At L b (Hb.reca E b o s rows) F] (hp : p = o + (i * E.sz + j)) (hi : i < rows.length)
    (hc : (E.cells (rows.getD i default))[j]? = some (k.val x)) (hK : K x w) : ldS (fun w' => Sat W0 w' L) k b p K w := by
  subst hp
  refine ldS_by x (fun w' h => At.one (hA := hA) h fun _ h _ => ?_) hK
  rw [reca_cell h (getD_some hi) (by rw [← E.len (rows.getD i default)]; exact (List.getElem?_eq_some_iff.1 hc).1), hc]
/-- a store into a record's field -/
class SetR {α : Type} (E : Rec α) (a : α) (j : Nat) (v : Value) (a' : outParam α) : Prop where
  eq : (E.cells a).set j v = E.cells a'
  lt : j < E.sz
theorem st_r {b o i j p : Nat} {v : Value} {a' : α} {K : WP} (h : Sat W0 w L) [hA : At L b (Hb.reca E b o s rows) F] (hp : p = o + (i * E.sz + j)) (hi : i < rows.length)
    (hS : (E.cells (rows.getD i default)).set j v = E.cells a') (hj : j < E.sz) (hK : ∀ w', Sat W0 w' (F (Hb.reca E b o s (rows.set i a'))) → K w') : st b p v K w := by
  subst hp
  refine At.one (hA := hA) h fun M h hb => ?_
  have ha : s.a = some ⟨b, o, none⟩ := h.pure (q := 0) rfl fun _ hg => hg.1
  have h' := h.turn (q := 0) (p' := Hb.recs E s rows) rfl fun _ hg => hg.2
  refine st_slc (q := 0) (j := i * E.sz + j) h' rfl ha rfl (by rw [Rec.flat_length]; calc _ < i * E.sz + E.sz := by omega
    _ = (i + 1) * E.sz := by rw [Nat.add_mul, Nat.one_mul]
    _ ≤ _ := Nat.mul_le_mul_right _ (by omega)) fun w' h2 => hK w' (hb _ _ ?_)
  rw [Rec.flat_set (getD_some hi) hj hS] at h2
  exact h2.turn (q := 0) rfl fun _ hg => ⟨ha, hg⟩

/-- a whole record stored -/
theorem st_rec1 {b o i p : Nat} {v0 : Value} {a' : α} {K : WP} (h : Sat W0 w L) [hA : At L b (Hb.reca E b o s rows) F] (hp : p = o + i * E.sz) (hi : i < rows.length)
    (ha : E.cells a' = [v0]) (hK : ∀ w', Sat W0 w' (F (Hb.reca E b o s (rows.set i a'))) → K w') : st b p v0 K w := by
  have hsz : E.sz = 1 := by rw [← E.len a', ha]; rfl
  have hl : ∀ a, (E.cells a).length = 1 := fun a => by rw [E.len, hsz]
  refine st_r (j := 0) (a' := a') (hA := hA) h (by omega) hi ?_ (by omega) hK
  have := hl (rows.getD i default)
  match E.cells (rows.getD i default), this with
  | [c], _ => rw [ha]; rfl
theorem sts_rec {b o i : Nat} {a' : α} {K : WP} (h : Sat W0 w L) [hA : At L b (Hb.reca E b o s rows) F] (hi : i < rows.length)
    (hK : ∀ w', Sat W0 w' (F (Hb.reca E b o s (rows.set i a'))) → K w') : sts (E.cells a') b (o + i * E.sz) K w := by
  refine At.one (hA := hA) h fun M h hb => ?_
  have ha : s.a = some ⟨b, o, none⟩ := h.pure (q := 0) rfl fun _ hg => hg.1
  have h' := h.turn (q := 0) (p' := Hb.recs E s rows) rfl fun _ hg => hg.2
  obtain ⟨pre, tl, hp, hl, hn, ht, h2⟩ := h'.openS (q := 0) rfl ha
  have h2 : Sat W0 w (Hb.blk b (pre ++ E.flat rows ++ tl) :: M) := h2
  have hrows : rows = rows.take i ++ rows[i] :: rows.drop (i + 1) := by simp
  have hset : rows.set i a' = rows.take i ++ a' :: rows.drop (i + 1) := by
    rw [List.set_eq_take_append_cons_drop, if_pos hi]
  have hfl : pre ++ E.flat rows ++ tl = (pre ++ E.flat (rows.take i)) ++ E.cells rows[i] ++ (E.flat (rows.drop (i + 1)) ++ tl) := by
    have hfr : E.flat rows = E.flat (rows.take i) ++ (E.cells rows[i] ++ E.flat (rows.drop (i + 1))) := by
      have h := congrArg E.flat hrows
      rw [Rec.flat_append] at h
      exact h
    rw [hfr]; simp only [List.append_assoc]
  have hfs : pre ++ E.flat (rows.set i a') ++ tl = (pre ++ E.flat (rows.take i)) ++ E.cells a' ++ (E.flat (rows.drop (i + 1)) ++ tl) := by
    rw [hset]; simp [Rec.flat]
  rw [hfl] at h2
  have hpl : (pre ++ E.flat (rows.take i)).length = o + i * E.sz := by
    rw [List.length_append, hp, Rec.flat_length, List.length_take, Nat.min_eq_left (by omega)]
  rw [← hpl]
  refine sts_slc 0 (E.cells a') w _ _ _ _ K h2 rfl (by rw [E.len, E.len]) fun w' h3 => hK w' (hb _ _ ?_)
  have h3 : Sat W0 w' (Hb.blk b (pre ++ E.flat (rows.take i) ++ E.cells a' ++ (E.flat (rows.drop (i + 1)) ++ tl)) :: M) := h3
  rw [← hfs] at h3
  have h4 := h3.shutS (q := 0) (s := s) (sz := E.sz) rfl ha hp (by rw [Rec.flat_length, List.length_set, ← Rec.flat_length]; exact hl) hn ht
  exact h4.turn (q := 0) rfl fun _ hg => ⟨ha, hg⟩
theorem st_rec {b o i p : Nat} {vs : List Value} {a' : α} {K K' : WP} (h : Sat W0 w L) [hA : At L b (Hb.reca E b o s rows) F] (hi : i < rows.length) (ha : E.cells a' = vs) (hp : p = o + i * E.sz)
    (hK : ∀ w', Sat W0 w' (F (Hb.reca E b o s (rows.set i a'))) → K w') (hw : sts vs b p K = K') : K' w := by
  subst hp hw ha
  exact sts_rec (hA := hA) h hi hK

/-! append: a record behind the row -/
theorem app_one {ty by_ : Nat} {z : List Value} {b : Nat} {cs : List Value} {a : α} {n : Nat} {K : Sl → WP} {F' : HP → List HP} (h : Sat W0 w L) [hA : AtS L s (Hb.recs E s rows) F] [hB : At L b (Hb.blk b cs) F'] (ha : E.cells a = cs) (hn : n = E.sz)
    (hok : okC cs = true) (hz : z.length = E.sz) (hpos : 0 < E.sz) (hby : (rows.length + 1) * by_ ≤ 140737488355328)
    (hK : ∀ s' w', s'.n = rows.length + 1 → Sat W0 w' (F (Hb.recs E s' (rows ++ [a]))) → K s' w') : appendC ty E.sz by_ z s 1 (fun w => rdA w (some ⟨b, 0, none⟩) n) K w := by
  have hnew : rdA w (some ⟨b, 0, none⟩) n = some (E.cells a) := by
    refine At.one (hA := hB) h fun _ h _ => ?_
    rw [ha]
    exact rd_blk 0 h rfl (by rw [hn, ← ha, E.len])
  have hl := (recs_len (hA := hA) h hpos).1
  refine AtS.one (hA := hA) h fun _ h hb => ?_
  refine app_at 0 (cs := E.flat rows) (vs := E.cells a) h rfl hnew (by rw [ha]; exact hok) (by rw [E.len]; omega) hz (by rw [hl]; exact hby) fun s' w' h1 h2 _ h3 => hK s' w' (by omega) (hb _ _ ?_)
  rw [← Rec.flat_one E a, ← Rec.flat_append] at h3
  exact h3
/-- append: a whole slice behind the row -/
theorem rd_recs {α : Type} {E : Rec α} {rows : List α} (h : Sat W0 w L) [hA : AtS L s (Hb.recs E s rows) F] : rdA w s.a (s.n * E.sz) = some (E.flat rows) :=
  AtS.one (hA := hA) h fun _ h _ => rd_slc 0 h rfl
theorem app_by {ty by_ : Nat} {z : List Value} {new : List α} {n : Nat} {K : Sl → WP} {g : World → Option (List Value)} (h : Sat W0 w L) [hA : AtS L s (Hb.recs E s rows) F] (hnew : g w = some (E.flat new)) (hn : n = new.length)
    (hok : okC (E.flat new) = true) (hz : z.length = E.sz) (hpos : 0 < E.sz) (hby : (rows.length + new.length) * by_ ≤ 140737488355328)
    (hK : ∀ s' w', s'.n = rows.length + new.length → Sat W0 w' (F (Hb.recs E s' (rows ++ new))) → K s' w') : appendC ty E.sz by_ z s n g K w := by
  have hl := (recs_len (hA := hA) h hpos).1
  refine AtS.one (hA := hA) h fun _ h hb => ?_
  refine app_at 0 (cs := E.flat rows) (vs := E.flat new) h rfl hnew hok (by rw [Rec.flat_length, hn]) hz (by rw [hl, hn]; exact hby) fun s' w' h1 h2 _ h3 => hK s' w' (by omega) (hb _ _ ?_)
  rw [← Rec.flat_append] at h3
  exact h3
end

/-! chunks weakened -/
theorem Sat.reca {α : Type} {E : Rec α} {b o : Nat} {rows : List α} [hA : At L b (Hb.reca E b o s rows) F] (h : Sat W0 w L) : Sat W0 w (F (Hb.recs E s rows)) :=
  At.turn (hA := hA) h fun _ hg => hg.2
theorem Sat.shut (s : Sl) {α : Type} {E : Rec α} {b o : Nat} {rows : List α} (h : Sat W0 w L) [hA : AtS L s (Hb.reca E b o s rows) F] : Sat W0 w (F (Hb.recs E s rows)) :=
  AtS.one (hA := hA) h fun M h hb => hb _ _ (h.turn (q := 0) rfl fun _ hg => hg.2)
/-- a chunk picked out of others -/
inductive Pull : List HP → HP → List HP → Prop where
  | here {p : HP} {L : List HP} : Pull (p :: L) p L
  | hereA {α : Type} {E : Rec α} {b o : Nat} {s : Sl} {rows : List α} {L : List HP} : Pull (Hb.reca E b o s rows :: L) (recs E s rows) L
  | there {p c : HP} {L M : List HP} : Pull L p M → Pull (c :: L) p (c :: M)
theorem Pull.stars {L M : List HP} {p : HP} (h : Pull L p M) : ∀ {g : Heap}, stars L g → stars (p :: M) g := by
  induction h with
  | here => exact fun h => h
  | hereA => exact fun ⟨h1, h2, a, b, c, d, e⟩ => ⟨h1, h2, a, b, c, d.2, e⟩
  | there _ ih => exact fun ⟨h1, h2, a, b, c, d, e⟩ => stars_swap ⟨h1, h2, a, b, c, d, ih e⟩
inductive Imp : List HP → List HP → Prop where
  | nil : Imp [] []
  | refl (L : List HP) : Imp L L
  | any (L : List HP) : Imp L []
  | cons {p : HP} {L M : List HP} : Imp L M → Imp (p :: L) (p :: M)
  | reca {α : Type} {E : Rec α} {b o : Nat} {s : Sl} {rows : List α} {L M : List HP} : Imp L M → Imp (Hb.reca E b o s rows :: L) (recs E s rows :: M)
  | drop {p : HP} {L M : List HP} : Imp L M → Imp (p :: L) M
  | pull {p : HP} {L L' M : List HP} : Pull L p L' → Imp L' M → Imp L (p :: M)
theorem Imp.stars {L M : List HP} (h : Imp L M) : ∀ {g : Heap}, stars L g → stars M g := by
  induction h with
  | nil => exact fun h => h
  | refl L => exact fun h => h
  | any L => exact fun _ => trivial
  | cons _ ih => exact fun ⟨h1, h2, a, b, c, d, e⟩ => ⟨h1, h2, a, b, c, d, ih e⟩
  | reca _ ih => exact fun ⟨h1, h2, a, b, c, d, e⟩ => ⟨h1, h2, a, b, c, d.2, ih e⟩
  | drop _ ih => exact fun ⟨h1, h2, a, b, c, d, e⟩ => stars_mono (ih e) b
  | pull hp _ ih =>
    intro g h
    obtain ⟨h1, h2, a, b, c, d, e⟩ := hp.stars h
    exact ⟨h1, h2, a, b, c, d, ih e⟩
theorem Sat.imp {M : List HP} (h : Sat W0 w L) (hi : Imp L M) : Sat W0 w M := ⟨h.os, h.out, hi.stars h.st⟩
theorem Sat.fin {M : List HP} (h : Sat W0 w L) (hi : Imp L M := by first | exact .refl _ | ((repeat (first | refine .cons ?_ | refine .reca ?_ | (apply Imp.pull; focus ((first | exact .there .here | exact .there .hereA | exact .there (.there .here) | exact .there (.there .hereA) | exact .there (.there (.there .here)) | exact .there (.there (.there .hereA)) | exact .there (.there (.there (.there .here))) | exact .there (.there (.there (.there .hereA))) | exact .there (.there (.there (.there (.there .here)))) | exact .there (.there (.there (.there (.there .hereA)))) | exact .there (.there (.there (.there (.there (.there .here))))) | exact .there (.there (.there (.there (.there (.there .hereA))))) | exact .there (.there (.there (.there (.there (.there (.there .here)))))) | exact .there (.there (.there (.there (.there (.there (.there .hereA)))))) | exact .there (.there (.there (.there (.there (.there (.there (.there .here))))))) | exact .there (.there (.there (.there (.there (.there (.there (.there .hereA))))))) | exact .there (.there (.there (.there (.there (.there (.there (.there (.there .here)))))))) | exact .there (.there (.there (.there (.there (.there (.there (.there (.there .hereA)))))))) | exact .there (.there (.there (.there (.there (.there (.there (.there (.there (.there .here))))))))) | exact .there (.there (.there (.there (.there (.there (.there (.there (.there (.there .hereA))))))))) | exact .there (.there (.there (.there (.there (.there (.there (.there (.there (.there (.there .here)))))))))) | exact .there (.there (.there (.there (.there (.there (.there (.there (.there (.there (.there .hereA)))))))))) | exact .there (.there (.there (.there (.there (.there (.there (.there (.there (.there (.there (.there .here))))))))))) | exact .there (.there (.there (.there (.there (.there (.there (.there (.there (.there (.there (.there .hereA)))))))))))))) | refine .drop ?_)); first | exact .any _ | exact .refl _ | fail) | fail) : Sat W0 w M := h.imp hi
theorem keep_imp {M : List HP} {K : WP} (h : Sat W0 w L) (hK : K w) (hi : Imp L M := by first | exact .refl _ | ((repeat (first | refine .cons ?_ | refine .reca ?_ | (apply Imp.pull; focus ((first | exact .there .here | exact .there .hereA | exact .there (.there .here) | exact .there (.there .hereA) | exact .there (.there (.there .here)) | exact .there (.there (.there .hereA)) | exact .there (.there (.there (.there .here))) | exact .there (.there (.there (.there .hereA))) | exact .there (.there (.there (.there (.there .here)))) | exact .there (.there (.there (.there (.there .hereA)))) | exact .there (.there (.there (.there (.there (.there .here))))) | exact .there (.there (.there (.there (.there (.there .hereA))))) | exact .there (.there (.there (.there (.there (.there (.there .here)))))) | exact .there (.there (.there (.there (.there (.there (.there .hereA)))))) | exact .there (.there (.there (.there (.there (.there (.there (.there .here))))))) | exact .there (.there (.there (.there (.there (.there (.there (.there .hereA))))))) | exact .there (.there (.there (.there (.there (.there (.there (.there (.there .here)))))))) | exact .there (.there (.there (.there (.there (.there (.there (.there (.there .hereA)))))))) | exact .there (.there (.there (.there (.there (.there (.there (.there (.there (.there .here))))))))) | exact .there (.there (.there (.there (.there (.there (.there (.there (.there (.there .hereA))))))))) | exact .there (.there (.there (.there (.there (.there (.there (.there (.there (.there (.there .here)))))))))) | exact .there (.there (.there (.there (.there (.there (.there (.there (.there (.there (.there .hereA)))))))))) | exact .there (.there (.there (.there (.there (.there (.there (.there (.there (.there (.there (.there .here))))))))))) | exact .there (.there (.there (.there (.there (.there (.there (.there (.there (.there (.there (.there .hereA)))))))))))))) | refine .drop ?_)); first | exact .any _ | exact .refl _ | fail) | fail) : keepS true (fun w' => Sat W0 w' M) K w := keep_of (h.imp hi) hK
theorem drawW_only (M : List HP) {K : (World → Prop) → WP} (h : Sat W0 w L) (hK : ∀ w1, Sat W0 w1 L → K (fun w' => Sat W0 w' M) w1) (hi : Imp L M := by first | exact .refl _ | ((repeat (first | refine .cons ?_ | refine .reca ?_ | (apply Imp.pull; focus ((first | exact .there .here | exact .there .hereA | exact .there (.there .here) | exact .there (.there .hereA) | exact .there (.there (.there .here)) | exact .there (.there (.there .hereA)) | exact .there (.there (.there (.there .here))) | exact .there (.there (.there (.there .hereA))) | exact .there (.there (.there (.there (.there .here)))) | exact .there (.there (.there (.there (.there .hereA)))) | exact .there (.there (.there (.there (.there (.there .here))))) | exact .there (.there (.there (.there (.there (.there .hereA))))) | exact .there (.there (.there (.there (.there (.there (.there .here)))))) | exact .there (.there (.there (.there (.there (.there (.there .hereA)))))) | exact .there (.there (.there (.there (.there (.there (.there (.there .here))))))) | exact .there (.there (.there (.there (.there (.there (.there (.there .hereA))))))) | exact .there (.there (.there (.there (.there (.there (.there (.there (.there .here)))))))) | exact .there (.there (.there (.there (.there (.there (.there (.there (.there .hereA)))))))) | exact .there (.there (.there (.there (.there (.there (.there (.there (.there (.there .here))))))))) | exact .there (.there (.there (.there (.there (.there (.there (.there (.there (.there .hereA))))))))) | exact .there (.there (.there (.there (.there (.there (.there (.there (.there (.there (.there .here)))))))))) | exact .there (.there (.there (.there (.there (.there (.there (.there (.there (.there (.there .hereA)))))))))) | exact .there (.there (.there (.there (.there (.there (.there (.there (.there (.there (.there (.there .here))))))))))) | exact .there (.there (.there (.there (.there (.there (.there (.there (.there (.there (.there (.there .hereA)))))))))))))) | refine .drop ?_)); first | exact .any _ | exact .refl _ | fail) | fail) : drawW K w := drawW_by (fun w' => Sat W0 w' M) (h.imp hi).drew (hK _ h.drew)
theorem when_om {c : Prop} {K : WP} (hK : K w) (hc : c := by first | omega | (simp only [List.length_set, List.length_append, List.length_cons, List.length_nil, List.length_take, List.length_drop, List.length_map, Int.toNat_natCast] <;> omega) | fail) : when c K w := when_of hc hK

/-! several chunks as one -/
def allH (Ps : List HP) : HP := fun h => stars Ps h
theorem Sat.openL : ∀ {Ps M : List HP}, Sat W0 w (allH Ps :: M) → Sat W0 w (Ps ++ M)
  | [], _, h => h.drop
  | p :: Ps, M, h => by
    have h1 : Sat W0 w (p :: allH Ps :: M) := Sat.split (p := p) (q := allH Ps) h
    have h2 := (h1.perm (List.Perm.swap _ _ _))
    exact (Sat.openL_aux h2)
where Sat.openL_aux {p : HP} {Ps M : List HP} (h : Sat W0 w (allH Ps :: p :: M)) : Sat W0 w (p :: Ps ++ M) :=
  (Sat.openL h).perm List.perm_middle
theorem Sat.shutL : ∀ {Ps M : List HP}, Sat W0 w (Ps ++ M) → Sat W0 w (allH Ps :: M)
  | [], M, h => ⟨h.os, h.out, fun _ => none, heapOf w, (fun _ _ hx => by cases hx), subH.refl _, fun _ => .inl rfl, trivial, h.st⟩
  | p :: Ps, M, h => by
    have h1 : Sat W0 w (Ps ++ (p :: M)) := h.perm List.perm_middle.symm
    exact Sat.join (p := p) (q := allH Ps) ((Sat.shutL h1).perm (List.Perm.swap _ _ _))
def exH {α : Type} (p : α → HP) : HP := fun h => ∃ x, p x h
def andH (c : Prop) (p : HP) : HP := fun h => c ∧ p h
theorem Sat.openE {α : Type} {p : α → HP} {M : List HP} (h : Sat W0 w (exH p :: M)) : ∃ x, Sat W0 w (p x :: M) := Sat.ex (q := 0) h rfl
theorem Sat.shutE {α : Type} {p : α → HP} {M : List HP} (x : α) (h : Sat W0 w (p x :: M)) : Sat W0 w (exH p :: M) := h.turn (q := 0) rfl fun _ hg => ⟨x, hg⟩
theorem Sat.openA {c : Prop} {p : HP} {M : List HP} (h : Sat W0 w (andH c p :: M)) : c ∧ Sat W0 w (p :: M) := ⟨h.pure (q := 0) rfl fun _ hg => hg.1, h.turn (q := 0) rfl fun _ hg => hg.2⟩
theorem Sat.shutA {c : Prop} {p : HP} {M : List HP} (hc : c) (h : Sat W0 w (p :: M)) : Sat W0 w (andH c p :: M) := h.turn (q := 0) rfl fun _ hg => ⟨hc, hg⟩
end

end Go.Hb
