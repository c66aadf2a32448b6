/- ghost.Ghost as one chunk; keys in order, each once. No program. -/
import Derived.Test.YtchlicgjdlkidaaDoorRisePure
import Derived.Test.YtchlicgjdlkidaaDoorListPure
set_option linter.unusedVariables false
set_option linter.unusedSimpArgs false
set_option linter.unnecessarySimpa false
set_option linter.unusedSectionVars false
namespace Go.Hb
theorem eraseIdx_map {α β : Type} (f : α → β) (l : List α) (i : Nat) : (l.eraseIdx i).map f = (l.map f).eraseIdx i := by
  simp only [List.eraseIdx_eq_take_drop_succ, List.map_append, List.map_take, List.map_drop]
def gTake (ks : List ByteArray) (k : ByteArray) : List ByteArray := ks.filter fun x => decide (x ≠ k)
def gHas (ks : List ByteArray) (k : ByteArray) : Bool := ks.any fun x => decide (x = k)
theorem gHas_iff {ks : List ByteArray} {k : ByteArray} : gHas ks k = true ↔ k ∈ ks := by simp [gHas]
instance memDec {k : ByteArray} {l : List ByteArray} : Decidable (k ∈ l) := decidable_of_iff (gHas l k = true) gHas_iff
theorem gHas_eq (l : List ByteArray) (k : ByteArray) : gHas l k = decide (k ∈ l) := by rw [Bool.eq_iff_iff, gHas_iff, decide_eq_true_eq]
theorem gHas_not {ks : List ByteArray} {k : ByteArray} : gHas ks k = false ↔ k ∉ ks := by rw [← gHas_iff]; simp
theorem gTake_not {ks : List ByteArray} {k : ByteArray} (h : k ∉ ks) : gTake ks k = ks := by
  unfold gTake
  rw [List.filter_eq_self]
  intro x hx
  exact decide_eq_true fun he => h (he ▸ hx)
theorem gTake_mem {ks : List ByteArray} {k x : ByteArray} : x ∈ gTake ks k ↔ x ∈ ks ∧ x ≠ k := by simp [gTake]
theorem gTake_len (ks : List ByteArray) (k : ByteArray) : (gTake ks k).length ≤ ks.length := List.length_filter_le _ _
theorem gTake_ne {l : List ByteArray} {y k : ByteArray} (h : y ≠ k) : gTake (l ++ [y]) k = gTake l k ++ [y] := by unfold gTake; rw [List.filter_append]; simp [h]
theorem gTake_eq {l : List ByteArray} {y k : ByteArray} (h : y = k) : gTake (l ++ [y]) k = gTake l k := by unfold gTake; rw [List.filter_append]; simp [h]
theorem gTake_nodup {ks : List ByteArray} {k : ByteArray} (h : ks.Nodup) : (gTake ks k).Nodup := h.sublist List.filter_sublist
theorem mDel_fst {V : Type} [Inhabited V] (m : List (ByteArray × V)) (k : ByteArray) : (mDel m k).map (·.1) = gTake (m.map (·.1)) k := by
  unfold mDel gTake
  rw [List.filter_map]; rfl
/-- keys behind an added one; what went -/
def gAdd (room : Int) (ks : List ByteArray) (k : ByteArray) : List ByteArray := if ((gTake ks k ++ [k]).length : Int) ≤ room then gTake ks k ++ [k] else (gTake ks k ++ [k]).drop 1
def gGone (room : Int) (ks : List ByteArray) (k : ByteArray) : ByteArray := if ((gTake ks k ++ [k]).length : Int) ≤ room then ⟨#[]⟩ else (gTake ks k ++ [k]).headD ⟨#[]⟩
def gFull (room : Int) (ks : List ByteArray) (k : ByteArray) : Bool := !decide (((gTake ks k ++ [k]).length : Int) ≤ room)
theorem gPut_nodup {ks : List ByteArray} {k : ByteArray} (h : ks.Nodup) : (gTake ks k ++ [k]).Nodup := by
  rw [List.nodup_append]
  refine ⟨gTake_nodup h, by simp, fun a ha b hb => ?_⟩
  rw [List.mem_singleton] at hb
  subst hb
  exact (gTake_mem.1 ha).2
theorem gTake_head {k : ByteArray} {t : List ByteArray} (h : (k :: t).Nodup) : gTake (k :: t) k = t := by
  have : gTake (k :: t) k = gTake t k := by simp [gTake]
  rw [this, gTake_not (List.nodup_cons.1 h).1]
theorem gAdd_nodup {room : Int} {ks : List ByteArray} {k : ByteArray} (h : ks.Nodup) : (gAdd room ks k).Nodup := by
  unfold gAdd
  split
  · exact gPut_nodup h
  · exact (gPut_nodup h).sublist (List.drop_sublist _ _)
theorem gAdd_mem {room : Int} {ks : List ByteArray} {k x : ByteArray} (h : x ∈ gAdd room ks k) : x ∈ ks ∨ x = k := by
  have : x ∈ gTake ks k ++ [k] := by
    unfold gAdd at h
    split at h
    · exact h
    · exact List.mem_of_mem_drop h
  rw [List.mem_append, List.mem_singleton] at this
  rcases this with h | h
  · exact .inl (gTake_mem.1 h).1
  · exact .inr h
theorem gAdd_len (room : Int) (ks : List ByteArray) (k : ByteArray) : (gAdd room ks k).length ≤ ks.length + 1 := by
  have := gTake_len ks k
  unfold gAdd
  split <;> simp <;> omega
def rowK (row : List (Nat × ByteArray)) : List (ByteArray × Int) := row.map fun e => (e.2, (e.1 : Int))
theorem rowK_fst (row : List (Nat × ByteArray)) : (rowK row).map (·.1) = row.map (·.2) := by simp [rowK]
structure GInv (ks : List ByteArray) (row : List (Nat × ByteArray)) (m : List (ByteArray × Int)) : Prop where
  keys : row.map (·.2) = ks
  nd : ks.Nodup
  perm : m.Perm (rowK row)
  small : ∀ k ∈ ks, k.size < 4611686018427387904
section
variable {ks : List ByteArray} {row : List (Nat × ByteArray)} {m : List (ByteArray × Int)} {k : ByteArray}
theorem GInv.mnd (hi : GInv ks row m) : (m.map (·.1)).Nodup := by
  have := (hi.perm.map (·.1)).nodup_iff.2 (by rw [rowK_fst, hi.keys]; exact hi.nd)
  exact this
theorem GInv.has (hi : GInv ks row m) : (mGet m k).isSome = gHas ks k := by
  have hm : ∀ x, x ∈ m.map (·.1) ↔ x ∈ ks := fun x => by rw [(hi.perm.map (·.1)).mem_iff, rowK_fst, hi.keys]
  cases hg : mGet m k with
  | none =>
    have := mGet_none.1 hg
    have h2 : k ∉ ks := by
      rw [← hm, List.mem_map]
      rintro ⟨e, he, rfl⟩
      exact this e he rfl
    rw [gHas_not.2 h2]; rfl
  | some v =>
    have := (mGet_some hi.mnd).1 hg
    have h2 : k ∈ ks := (hm k).1 (List.mem_map.2 ⟨_, this, rfl⟩)
    rw [gHas_iff.2 h2]; rfl
theorem GInv.small_m (hi : GInv ks row m) : ∀ e ∈ m, e.1.size < 4611686018427387904 := fun e he => by
  refine hi.small _ ?_
  rw [← hi.keys, ← rowK_fst, ← (hi.perm.map (·.1)).mem_iff]
  exact List.mem_map.2 ⟨e, he, rfl⟩
theorem GInv.len (hi : GInv ks row m) : m.length = row.length ∧ ks.length = row.length := by
  constructor
  · rw [hi.perm.length_eq]; simp [rowK]
  · rw [← hi.keys]; simp
theorem GInv.miss (hi : GInv ks row m) (hg : mGet m k = none) : k ∉ ks ∧ gTake ks k = ks ∧ GInv ks row (mDel m k) := by
  have h1 : k ∉ ks := by have := hi.has (k := k); rw [hg] at this; exact gHas_not.1 this.symm
  refine ⟨h1, gTake_not h1, hi.keys, hi.nd, ?_, hi.small⟩
  have : mDel m k = m := by
    unfold mDel
    rw [List.filter_eq_self]
    intro e he
    exact decide_eq_true (mGet_none.1 hg e he)
  rw [this]; exact hi.perm
theorem GInv.hit (hi : GInv ks row m) {h : Int} (hg : mGet m k = some h) (hn : (row.map (·.1)).Nodup) : ∃ i, rAt row h = some i ∧ GInv (gTake ks k) (row.eraseIdx i) (mDel m k) := by
  have h1 : (k, h) ∈ rowK row := hi.perm.mem_iff.1 ((mGet_some hi.mnd).1 hg)
  obtain ⟨i, hil, hi2⟩ := List.mem_iff_getElem.1 h1
  have hi3 : (rowK row)[i]? = some (k, h) := by rw [List.getElem?_eq_getElem hil, hi2]
  have hi4 : i < row.length := by simpa [rowK] using hil
  have he : (row[i].2, (row[i].1 : Int)) = (k, h) := by rw [← hi2]; simp [rowK]
  have hnR : ((rowK row).map (·.1)).Nodup := by rw [rowK_fst, hi.keys]; exact hi.nd
  have hdel := erase_eq_mDel hnR hi3
  have hK : rowK (row.eraseIdx i) = mDel (rowK row) k := by rw [← hdel]; exact eraseIdx_map _ _ _
  refine ⟨i, ?_, ?_, gTake_nodup hi.nd, ?_, fun x hx => hi.small x (gTake_mem.1 hx).1⟩
  · have := rAt_of hn (List.getElem?_eq_getElem hi4)
    have h5 : (row[i].1 : Int) = h := congrArg Prod.snd he
    rw [h5] at this
    exact this
  · rw [← rowK_fst, hK, mDel_fst, rowK_fst, hi.keys]
  · rw [hK]; exact mDel_perm hi.perm
theorem GInv.push (hi : GInv ks row m) (h1 : k ∉ ks) (hz : k.size < 4611686018427387904) (h : Nat) : GInv (ks ++ [k]) (row ++ [(h, k)]) (mPut m k (h : Int)) := by
  have hg : mGet m k = none := by
    have := hi.has (k := k)
    rw [gHas_not.2 h1] at this
    simpa using this
  refine ⟨by simp [hi.keys], ?_, ?_, fun x hx => ?_⟩
  · rw [List.nodup_append]
    refine ⟨hi.nd, by simp, fun a ha b hb => ?_⟩
    rw [List.mem_singleton] at hb
    subst hb
    rintro rfl
    exact h1 ha
  · have e1 : mPut m k (h : Int) = (k, (h : Int)) :: m := by unfold mPut; rw [hg]
    have e2 : rowK (row ++ [(h, k)]) = rowK row ++ [(k, (h : Int))] := by simp [rowK]
    rw [e1, e2]
    exact (hi.perm.cons _).trans (List.perm_append_singleton _ _).symm
  · rw [List.mem_append, List.mem_singleton] at hx
    rcases hx with hx | rfl
    · exact hi.small x hx
    · exact hz
end
section
variable {W w : World} {M L : List HP} {b : Nat} {room : Int} {N : Nat} {ks : List ByteArray}
theorem lst_nodup {T : Type} {mk : T → Value} {row : List (Nat × T)} {free : List Nat} (h : Sat W w (lst mk b row free :: M)) : (row.map (·.1)).Nodup := by
  obtain ⟨s, f, ls, hi, _⟩ := lst_open h
  have := hi.nodup
  rw [rowV_fst] at this
  exact (List.nodup_append.1 this).1
abbrev GX : Type := Nat × Nat × List (Nat × ByteArray) × List Nat × List (ByteArray × Int)
def ghR (b : Nat) (room : Int) (N : Nat) (ks : List ByteArray) : HP := exH fun (x : GX) => andH (GInv ks x.2.2.1 x.2.2.2.2 ∧ x.2.2.1.length + x.2.2.2.1.length ≤ N)
  (allH [blk b [.int .i64 room, .pointer (some ⟨x.1, 0, none⟩), .pointer (some ⟨x.2.1, 0, none⟩)], lst .string x.1 x.2.2.1 x.2.2.2.1, ixr (Rec.int .i64) x.2.1 0 x.2.2.2.2])
instance At.ghR : At (ghR b room N ks :: L) b (ghR b room N ks) (fun x => x :: L) := ⟨here_pos⟩
theorem gh_open (h : Sat W w (ghR b room N ks :: M)) : ∃ (lb xb : Nat) (row : List (Nat × ByteArray)) (free : List Nat) (m : List (ByteArray × Int)), GInv ks row m ∧ row.length + free.length ≤ N ∧
    Sat W w (blk b [.int .i64 room, .pointer (some ⟨lb, 0, none⟩), .pointer (some ⟨xb, 0, none⟩)] :: lst .string lb row free :: ixr (Rec.int .i64) xb 0 m :: M) := by
  obtain ⟨⟨lb, xb, row, free, m⟩, h⟩ := h.openE
  obtain ⟨hi, h⟩ := h.openA
  exact ⟨lb, xb, row, free, m, hi.1, hi.2, h.openL⟩
theorem gh_shut {lb xb : Nat} {row : List (Nat × ByteArray)} {free : List Nat} {m : List (ByteArray × Int)} (hi : GInv ks row m) (hN : row.length + free.length ≤ N)
    (h : Sat W w (blk b [.int .i64 room, .pointer (some ⟨lb, 0, none⟩), .pointer (some ⟨xb, 0, none⟩)] :: lst .string lb row free :: ixr (Rec.int .i64) xb 0 m :: M)) : Sat W w (ghR b room N ks :: M) :=
  Sat.shutE (lb, xb, row, free, m) (Sat.shutA ⟨hi, hN⟩ (Sat.shutL (Ps := [_, _, _]) h))
theorem gh_inv (h : Sat W w (ghR b room N ks :: M)) : ks.Nodup ∧ ks.length ≤ N ∧ ∀ k ∈ ks, k.size < 4611686018427387904 := by
  obtain ⟨lb, xb, row, free, m, hi, hN, _⟩ := gh_open h
  exact ⟨hi.nd, by have := hi.len; omega, hi.small⟩
def clampR (room : Int) : Int := if (1024 : Int) < (if (1 : Int) > room then (1 : Int) else room) then (1024 : Int) else (if (1 : Int) > room then (1 : Int) else room)
/-- the reference: keys, room -/
def rgh (b : Nat) (s : Sl) (room : Int) (ks : List ByteArray) : HP := allH [blk b [.slice s.a s.n s.c, .int .i64 room], recs Rec.str s ks]
end
end Go.Hb
