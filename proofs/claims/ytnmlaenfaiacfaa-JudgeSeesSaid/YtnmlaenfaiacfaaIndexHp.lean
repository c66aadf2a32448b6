/- index.Index as one chunk: 'ixr'. A key's number. No program. -/
import Derived.Test.YtnmlaenfaiacfaaIndexPure
import Derived.OpenShut
import Derived.IntWalk
set_option linter.unusedVariables false
set_option linter.unusedSimpArgs false
set_option linter.unnecessarySimpa false
set_option linter.unusedSectionVars false
namespace Go.Hb
def mixV (x0 : Int) : Int :=
  (bits .xor .u64 (IntKind.wrap .u64 ((bits .xor .u64 (IntKind.wrap .u64 ((bits .xor .u64 x0 (shrV .u64 x0 (30 : Int))) * (13787848793156543929 : Int))) (shrV .u64 (IntKind.wrap .u64 ((bits .xor .u64 x0 (shrV .u64 x0 (30 : Int))) * (13787848793156543929 : Int))) (27 : Int))) * (10723151780598845931 : Int))) (shrV .u64 (IntKind.wrap .u64 ((bits .xor .u64 (IntKind.wrap .u64 ((bits .xor .u64 x0 (shrV .u64 x0 (30 : Int))) * (13787848793156543929 : Int))) (shrV .u64 (IntKind.wrap .u64 ((bits .xor .u64 x0 (shrV .u64 x0 (30 : Int))) * (13787848793156543929 : Int))) (27 : Int))) * (10723151780598845931 : Int))) (31 : Int)))
theorem mixV_in (x : Int) : 0 ≤ mixV x ∧ mixV x ≤ 18446744073709551615 := by
  have h : (Lit.int .u64 (mixV x)).wf = true := wf_bits _ _ _ _
  generalize mixV x = n at h
  simpa [Lit.wf, IntKind.min, IntKind.max, IntKind.signed, IntKind.bits] using h
def hashGo (s : ByteArray) : Nat → Nat → Int → Int
  | 0, _, h => h
  | m + 1, i, h => hashGo s m (i + 1) (mixV (IntKind.wrap .u64 ((bits .xor .u64 h (IntKind.wrap .u64 (byteAt s i))) + (11400714819323198485 : Int))))
def hashW (seed : Int) (s : ByteArray) : Int := hashGo s s.size 0 (mixV (bits .xor .u64 seed (IntKind.wrap .u64 (s.size : Int))))
/-- the number of a key, not to be unfolded -/
noncomputable def hashV (seed : Int) (s : ByteArray) : Int := Classical.choose (⟨hashW seed s, rfl⟩ : ∃ x, x = hashW seed s)
theorem hashV_eq (seed : Int) (s : ByteArray) : hashV seed s = hashW seed s := Classical.choose_spec (⟨hashW seed s, rfl⟩ : ∃ x, x = hashW seed s)
theorem hashGo_in (s : ByteArray) : ∀ (m i : Nat) (h : Int), (0 ≤ h ∧ h ≤ 18446744073709551615) → 0 ≤ hashGo s m i h ∧ hashGo s m i h ≤ 18446744073709551615
  | 0, _, _, h => h
  | m + 1, i, _, _ => hashGo_in s m (i + 1) _ (mixV_in _)
theorem hashV_in (seed : Int) (s : ByteArray) : 0 ≤ hashV seed s ∧ hashV seed s ≤ 18446744073709551615 := by
  rw [hashV_eq]; exact hashGo_in s _ _ _ (mixV_in _)
noncomputable def startV (seed : Int) (n : Nat) (k : ByteArray) : Nat := (hashV seed k).toNat % n
theorem startV_eq (seed : Int) (n : Nat) (k : ByteArray) : (hashV seed k).toNat % n = startV seed n k := by unfold startV; rfl
theorem startV_lt {seed : Int} {n : Nat} (h : 0 < n) (k : ByteArray) : startV seed n k < n := Nat.mod_lt _ h

def Rec.ii : Rec (Int × Int) := ⟨2, fun v => [.int .i64 v.1, .int .i64 v.2], fun _ => rfl⟩
def Rec.iii : Rec (Int × Int × Int) := ⟨3, fun v => [.int .i64 v.1, .int .i64 v.2.1, .int .i64 v.2.2], fun _ => rfl⟩
def Rec.si : Rec (ByteArray × Int) := ⟨2, fun v => [.string v.1, .int .i64 v.2], fun _ => rfl⟩
def frI : Option Nat → Int
  | some j => (j : Int)
  | none => -1
theorem frI_neg (f : Option Nat) : frI f < 0 ↔ f = none := by
  cases f with
  | none => simp [frI]
  | some j => simp [frI]
section
variable {V : Type} [Inhabited V]
noncomputable def ixr (RV : Rec V) (b : Nat) (seed : Int) (m : List (ByteArray × V)) : HP :=
  exH fun (x : Sl × List (Pl V)) => andH (IxInv (startV seed x.2.length) x.2 m ∧ 2 * usedP x.2 ≤ x.2.length)
    (allH [blk b [.int .u64 seed, .slice x.1.a x.1.n x.1.c, .int .i64 (m.length : Int), .int .i64 (usedP x.2 : Int)], recs (plR RV) x.1 x.2])
variable {RV : Rec V} {b : Nat} {seed : Int} {m : List (ByteArray × V)} {W w : World} {M L : List HP}
instance At.ixr : At (ixr RV b seed m :: L) b (ixr RV b seed m) (fun x => x :: L) := ⟨here_pos⟩
theorem ixr_open (h : Sat W w (ixr RV b seed m :: M)) : ∃ (s : Sl) (ps : List (Pl V)), IxInv (startV seed ps.length) ps m ∧ 2 * usedP ps ≤ ps.length ∧ s.n = ps.length ∧
    Sat W w (blk b [.int .u64 seed, .slice s.a s.n s.c, .int .i64 (m.length : Int), .int .i64 (usedP ps : Int)] :: recs (plR RV) s ps :: M) := by
  obtain ⟨⟨s, ps⟩, h⟩ := h.openE
  obtain ⟨⟨h1, h2⟩, h⟩ := h.openA
  have h := h.openL
  have h : Sat W w (blk b [.int .u64 seed, .slice s.a s.n s.c, .int .i64 (m.length : Int), .int .i64 (usedP ps : Int)] :: recs (plR RV) s ps :: M) := h
  exact ⟨s, ps, h1, h2, (recs_len (s := s) h (PosR.pos)).1, h⟩
theorem ixr_shut (s : Sl) {ps : List (Pl V)} {n u : Int} (h1 : IxInv (startV seed ps.length) ps m) (h2 : 2 * usedP ps ≤ ps.length) (hn : n = m.length) (hu : u = usedP ps)
    (h : Sat W w (blk b [.int .u64 seed, .slice s.a s.n s.c, .int .i64 n, .int .i64 u] :: recs (plR RV) s ps :: M)) : Sat W w (ixr RV b seed m :: M) := by
  subst hn hu
  exact Sat.shutE (s, ps) (Sat.shutA ⟨h1, h2⟩ (Sat.shutL (Ps := [_, _]) h))
/-- another order of the same -/
theorem IxInv.perm' {st : ByteArray → Nat} {ps : List (Pl V)} {m m' : List (ByteArray × V)} (h : IxInv st ps m) (hp : m.Perm m') : IxInv st ps m' :=
  ⟨h.big, h.small, h.start, h.perm.trans hp, (hp.map _).nodup_iff.1 h.nodup, h.reach, h.room⟩
theorem ixr_perm {m' : List (ByteArray × V)} (hp : m.Perm m') (h : Sat W w (ixr RV b seed m :: M)) : Sat W w (ixr RV b seed m' :: M) := by
  obtain ⟨s, ps, h1, h2, _, h⟩ := ixr_open h
  exact ixr_shut s (h1.perm' hp) h2 (by rw [hp.length_eq]) rfl h
theorem ixr_nodup (h : Sat W w (ixr RV b seed m :: M)) : (m.map (·.1)).Nodup := by
  obtain ⟨s, ps, h1, _⟩ := ixr_open h
  exact h1.nodup
theorem zrow_replicate {α : Type} (E : Rec α) (z : α) : ∀ n, zrow (E.cells z) n = E.flat (List.replicate n z)
  | 0 => rfl
  | n + 1 => by rw [zrow, zrow_replicate E z n, List.replicate_succ]; rfl
/-- a store of several cells inside of a record -/
theorem sts_sub {α : Type} [Inhabited α] {E : Rec α} {b o i n j : Nat} {s : Sl} {rows : List α} {F : HP → List HP} {vs pre mid tl : List Value} {a' : α} {K : WP} (h : Sat W w L) [hA : At L b (reca E b o s rows) F] (hn : n = E.sz) (hi : i < rows.length)
    (ha : E.cells (rows.getD i default) = pre ++ mid ++ tl) (hj : pre.length = j) (hm : mid.length = vs.length) (ha' : E.cells a' = pre ++ vs ++ tl) (hK : ∀ w', Sat W w' (F (reca E b o s (rows.set i a'))) → K w') : sts vs b (o + i * n + j) K w := by
  subst hn hj
  refine At.one (hA := hA) h fun M h hb => ?_
  have hsa : s.a = some ⟨b, o, none⟩ := h.pure (q := 0) rfl fun _ hg => hg.1
  have h' := h.turn (q := 0) (p' := recs E s rows) rfl fun _ hg => hg.2
  obtain ⟨pr, tl2, hp, hl, hn, ht, h2⟩ := h'.openS (q := 0) rfl hsa
  have h2 : Sat W w (blk b (pr ++ E.flat rows ++ tl2) :: M) := h2
  have hr : rows = rows.take i ++ rows.getD i default :: rows.drop (i + 1) := split_at hi
  have hfr : E.flat rows = E.flat (rows.take i) ++ (E.cells (rows.getD i default) ++ E.flat (rows.drop (i + 1))) := by
    have h := congrArg E.flat hr
    rw [Rec.flat_append] at h
    exact h
  have hfs : E.flat (rows.set i a') = E.flat (rows.take i) ++ (E.cells a' ++ E.flat (rows.drop (i + 1))) := by
    rw [set_split hi, Rec.flat_append]; rfl
  rw [hfr, ha] at h2
  have e1 : pr ++ (E.flat (rows.take i) ++ (pre ++ mid ++ tl ++ E.flat (rows.drop (i + 1)))) ++ tl2 = (pr ++ E.flat (rows.take i) ++ pre) ++ mid ++ (tl ++ E.flat (rows.drop (i + 1)) ++ tl2) := by simp only [List.append_assoc]
  have e2 : pr ++ (E.flat (rows.take i) ++ (pre ++ vs ++ tl ++ E.flat (rows.drop (i + 1)))) ++ tl2 = (pr ++ E.flat (rows.take i) ++ pre) ++ vs ++ (tl ++ E.flat (rows.drop (i + 1)) ++ tl2) := by simp only [List.append_assoc]
  rw [e1] at h2
  have hpl : (pr ++ E.flat (rows.take i) ++ pre).length = o + i * E.sz + pre.length := by
    rw [List.length_append, List.length_append, hp, Rec.flat_length, List.length_take, Nat.min_eq_left (by omega)]
  rw [← hpl]
  refine sts_slc 0 vs w _ _ mid _ K h2 rfl hm fun w' h3 => hK w' (hb _ _ ?_)
  have h3 : Sat W w' (blk b ((pr ++ E.flat (rows.take i) ++ pre) ++ vs ++ (tl ++ E.flat (rows.drop (i + 1)) ++ tl2)) :: M) := h3
  rw [← e2, ← ha', ← hfs] at h3
  have h4 := h3.shutS (q := 0) (s := s) (sz := E.sz) rfl hsa hp (by rw [Rec.flat_length, List.length_set, ← Rec.flat_length]; exact hl) hn ht
  exact h4.turn (q := 0) rfl fun _ hg => ⟨hsa, hg⟩
end
end Go.Hb
