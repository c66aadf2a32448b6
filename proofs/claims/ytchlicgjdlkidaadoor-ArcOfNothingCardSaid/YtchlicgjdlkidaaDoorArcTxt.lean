/- arc's state as a text: strings.Join and strconv.Itoa by the shelf's contracts; a row's text. -/
import Derived.Test.YtchlicgjdlkidaaDoorArcEng
import Derived.Test.YtchlicgjdlkidaaDoorShelf
import Derived.Test.YtchlicgjdlkidaaDoorShalSt1
import Derived.Lib.LaidTab
import Derived.Lib.AppendIntMem
set_option linter.unusedVariables false
set_option linter.unusedSimpArgs false
set_option linter.unnecessarySimpa false
set_option linter.unusedSectionVars false
namespace Go.Hb
def tSp : ByteArray := ⟨#[32]⟩
def tCo : ByteArray := ⟨#[58]⟩
def tSe : ByteArray := ⟨#[59]⟩
def baL (l : List UInt8) : ByteArray := ⟨l.toArray⟩
theorem ba_size_append (a b : ByteArray) : (a ++ b).size = a.size + b.size := ByteArray.size_append
theorem ba_toL (a b : ByteArray) : (a ++ b).data.toList = a.data.toList ++ b.data.toList := by rw [ByteArray.data_append, Array.toList_append]
theorem ba_ext {a b : ByteArray} (h : a.data.toList = b.data.toList) : a = b := by
  cases a with | mk a => cases b with | mk b => simp only [ByteArray.mk.injEq]; exact Array.toList_inj.1 h
theorem baL_toL (l : List UInt8) : (baL l).data.toList = l := by simp [baL]
theorem baL_of (a : ByteArray) : baL a.data.toList = a := by simp [baL]
theorem ba_size_toL (a : ByteArray) : a.data.toList.length = a.size := by rw [Array.length_toList]; rfl
theorem baL_size (l : List UInt8) : (baL l).size = l.length := by rw [← ba_size_toL, baL_toL]
/-- a row as a text -/
def rowT (nm : ByteArray) (ks : List ByteArray) : ByteArray := ks.foldl (fun a k => a ++ (tSp ++ k)) (nm ++ tCo)
theorem rowT_toL (ks : List ByteArray) : ∀ a : ByteArray, (ks.foldl (fun a k => a ++ (tSp ++ k)) a).data.toList = a.data.toList ++ (ks.map fun k => 32 :: k.data.toList).flatten := by
  induction ks with
  | nil => intro a; simp
  | cons k ks ih =>
    intro a
    rw [List.foldl_cons, ih, ba_toL, ba_toL]
    have : tSp.data.toList = [32] := rfl
    rw [this]; simp
def joinT (xs : List ByteArray) (sep : ByteArray) : ByteArray := baL (Lib.join (xs.map (·.data.toList)) sep.data.toList)
theorem join_row (nm : ByteArray) (ks : List ByteArray) : (nm ++ tCo) ++ joinT (⟨#[]⟩ :: ks) tSp = rowT nm ks := by
  refine ba_ext ?_
  unfold joinT rowT
  rw [ba_toL, baL_toL, rowT_toL, List.map_cons, Lib.join_cons]
  have h1 : tSp.data.toList = [32] := rfl
  rw [h1]
  unfold Lib.joinTail
  simp [Function.comp_def]
theorem joinT_size (xs : List ByteArray) (sep : ByteArray) {m : Nat} (h : ∀ x ∈ xs, x.size ≤ m) : (Lib.join (xs.map (·.data.toList)) sep.data.toList).length ≤ (m + sep.size) * xs.length := by
  cases xs with
  | nil => simp [Lib.join, List.intercalate]
  | cons x r =>
    rw [List.map_cons, Lib.join_cons]
    have h1 := h x (.head _)
    have h2 : ∀ (r : List ByteArray), (∀ y ∈ r, y.size ≤ m) → (Lib.joinTail sep.data.toList (r.map (·.data.toList))).length ≤ (m + sep.size) * r.length := by
      intro r
      induction r with
      | nil => intro _; simp [Lib.joinTail]
      | cons y r ih =>
        intro h
        have h3 := ih fun z hz => h z (.tail _ hz)
        have h4 := h y (.head _)
        unfold Lib.joinTail at h3 ⊢
        rw [List.map_cons, List.map_cons, List.flatten_cons, List.length_append, List.length_append, List.length_cons, Nat.mul_succ, ba_size_toL, ba_size_toL]
        omega
    have h3 := h2 r fun z hz => h z (.tail _ hz)
    rw [List.length_append, List.length_cons, Nat.mul_succ, ba_size_toL]
    omega
theorem rowT_size {nm : ByteArray} {ks : List ByteArray} (h : ∀ k ∈ ks, k.size < 64) : (rowT nm ks).size ≤ nm.size + 1 + 65 * ks.length := by
  have h1 : (rowT nm ks).data.toList.length = (rowT nm ks).size := ba_size_toL _
  rw [← h1]
  unfold rowT
  rw [rowT_toL, ba_toL, List.length_append, List.length_append, ba_size_toL]
  have h2 : tCo.data.toList.length = 1 := rfl
  have h3 : ∀ ks : List ByteArray, (∀ k ∈ ks, k.size < 64) → ((ks.map fun k => (32 : UInt8) :: k.data.toList).flatten).length ≤ 65 * ks.length := by
    intro ks
    induction ks with
    | nil => intro _; simp
    | cons k ks ih =>
      intro h
      have h4 := ih fun z hz => h z (.tail _ hz)
      have h5 := h k (.head _)
      rw [List.map_cons, List.flatten_cons, List.length_append, List.length_cons, List.length_cons, ba_size_toL]
      omega
  have := h3 ks h
  omega
def digT (n : Nat) : ByteArray := baL (Lib.decDigits n)
theorem digT_size (n : Nat) (h : n ≤ 1024) : (digT n).size ≤ 4 := by
  unfold digT
  rw [baL_size, Lib.decDigits_length]
  by_cases h1 : n < 10
  · rw [Lib.nDigits_small h1]; omega
  · rw [Lib.nDigits_big h1]
    by_cases h2 : n / 10 < 10
    · rw [Lib.nDigits_small h2]; omega
    · rw [Lib.nDigits_big h2]
      by_cases h3 : n / 10 / 10 < 10
      · rw [Lib.nDigits_small h3]; omega
      · rw [Lib.nDigits_big h3, Lib.nDigits_small (by omega)]; omega
def sT1 : ByteArray := ⟨#[84, 49]⟩
def sT2 : ByteArray := ⟨#[84, 50]⟩
def sB1 : ByteArray := ⟨#[66, 49]⟩
def sB2 : ByteArray := ⟨#[66, 50]⟩
def sPc : ByteArray := ⟨#[112, 58, 32]⟩
def aTxt (x : ArcS) : ByteArray := ((((((((rowT sT1 x.t1) ++ tSe) ++ rowT sT2 x.t2) ++ tSe) ++ rowT sB1 x.b1) ++ tSe) ++ rowT sB2 x.b2) ++ (⟨#[59, 112, 58, 32]⟩ : ByteArray)) ++ digT x.p.toNat
theorem join_five (x : ArcS) : joinT [rowT sT1 x.t1, rowT sT2 x.t2, rowT sB1 x.b1, rowT sB2 x.b2, sPc ++ digT x.p.toNat] tSe = aTxt x := by
  refine ba_ext ?_
  unfold joinT aTxt
  rw [baL_toL, List.map_cons, Lib.join_cons]
  simp only [Lib.joinTail, List.map_cons, List.map_nil, List.flatten_cons, List.flatten_nil, ba_toL]
  have h1 : tSe.data.toList = [59] := rfl
  have h2 : sPc.data.toList = [112, 58, 32] := rfl
  rw [h1, h2]
  simp
section
variable {W0 W w w' : World} {L : List HP}
theorem Sat.below (h : Sat W0 w L) (hb : Go.RowKit.Below w.heap.size w w') : Sat W0 w' L := by
  refine ⟨hb.os.trans h.os, hb.output.trans h.out, stars_mono h.st fun b o hbo => ?_⟩
  have hlt : b < w.heap.size := (Array.getElem?_eq_some_iff.1 hbo).1
  show w'.heap[b]? = some o
  rw [hb.block b hlt]; exact hbo
theorem tab_old {P : Program} {nm : String} {k : IntKind} {zs : List Int} (h : Sat W0 w L) [hA : AtO L W] (hT : Lib.TabIs P W nm k zs) : Lib.TabIs P w nm k zs := by
  obtain ⟨M, h1⟩ := hA.pos
  obtain ⟨g, hg, hold⟩ := (h.perm h1).get (q := 0) rfl
  have hsub : ∀ (b : Nat) (o : Obj), W.heap[b]? = some o → w.heap[b]? = some o := fun b o hbo => hg b o (hold b o hbo)
  unfold Lib.TabIs World.var? at hT ⊢
  cases hn : P.globalNamed nm with
  | none => rw [hn] at hT; cases hT
  | some i =>
    rw [hn] at hT
    simp only [Option.bind_some] at hT ⊢
    cases ho : W.heap[i]? with
    | none => rw [ho] at hT; cases hT
    | some o => rw [hsub i o ho]; rw [ho] at hT; exact hT
end
end Go.Hb
namespace Go.Proofs.YtchlicgjdlkidaaDoor
open Go.Hb Go.IntWalk
abbrev TabW (W : World) : Prop := Lib.TabIs Tryd.prog W "internal/strconv.uint64pow10" .u64 Lib.pow10Tab
section
variable {W w : World} {L M : List HP} {F : HP → List HP} {b N : Nat} {c : Int} {x : ArcS} {key : ByteArray}
theorem join_at {s : Sl} {xs : List ByteArray} {sep : ByteArray} {m : Nat} (hs : Sat W w L) [hA : AtS L s (recs Rec.str s xs) F] (hm : ∀ x ∈ xs, x.size ≤ m) (hz : (m + sep.size) * xs.length ≤ 140737488355328) (hl : xs.length ≤ 140737488355328) :
    Calls Tryd.prog id_strings_Join #[.slice s.a s.n s.c, .string sep] w fun e w' => e = .returned (.string (joinT xs sep)) ∧ Sat W w' L := by
  have hlen := recs_len (s := s) hs (by decide)
  have hr : ReadsR w s Rec.str xs := Rdb.rd (W0 := W) (L := L) w hs
  cases xs with
  | nil =>
    have h0 : s.n = 0 := hlen.1
    rw [h0]
    exact (Go.Proofs.Tryd.strings_Join_none s.a s.c sep w).mono fun e w' ⟨he, hw⟩ => ⟨he, hw ▸ hs⟩
  | cons x r =>
    rcases hr.at_ with ⟨_, h0⟩ | ⟨bk, o, ha, hc⟩
    · rw [hlen.1] at h0; cases h0
    · have hcells : ∀ (j : Nat) y, (x :: r)[j]? = some y → w.cell? ⟨bk, o + j, none⟩ = some (.string y) := fun j y hy => by
        have := hc j 0 y hy (by decide)
        simpa [Rec.str] using this
      have hbk : bk < w.heap.size := by
        have h1 := hcells 0 x rfl
        have h2 : ∃ ob, w.heap[bk]? = some ob := by
          cases hb : w.heap[bk]? with
          | some ob => exact ⟨ob, rfl⟩
          | none => simp [World.cell?, hb] at h1
        obtain ⟨ob, h2⟩ := h2
        exact (Array.getElem?_eq_some_iff.1 h2).1
      rw [ha, hlen.1]
      exact (Go.Proofs.Tryd.strings_Join bk o s.c (x :: r) sep w hcells hbk hl (by rw [← hlen.1]; exact hlen.2) (Nat.le_trans (joinT_size (x :: r) sep hm) hz)).mono fun e w' ⟨he, hw⟩ => ⟨he, hs.below hw⟩
theorem itoa_at (hs : Sat W w L) [hO : AtO L W] (hT : TabW W) {n : Int} (h0 : 0 ≤ n) (h1 : n ≤ 1024) : Calls Tryd.prog id_strconv_Itoa #[.int .i64 n] w fun e w' => e = .returned (.string (digT n.toNat)) ∧ Sat W w' L := by
  refine (Go.Proofs.Tryd.strconv_Itoa n (by omega) (by omega) w (tab_old hs hT)).mono fun e w' ⟨he, k, os, hw⟩ => ⟨?_, ?_⟩
  · rw [he]
    unfold Lib.itoa digT baL
    rw [if_neg (by omega)]
  · subst hw
    exact hs.below (Lib.below_grow _ w (Nat.le_refl _) k os)
theorem arc_text_at {nm : ByteArray} {s : Sl} {ks : List ByteArray} (hs : Sat W w L) [hA : AtS L s (recs Rec.str s ks) F] (hz : ∀ k ∈ ks, k.size < 64) (hl : ks.length ≤ 100000000) (hn : nm.size ≤ 2) :
    Calls Tryd.prog id_arc_text #[.string nm, .slice s.a s.n s.c] w fun e w' => e = .returned (.string (rowT nm ks)) ∧ Sat W w' L := by
  refine c1 (arc_text_calls ?_)
  rw [arc_text_def, arc_text_raw]
  have e1 : str__x = tCo := rfl
  have e2 : str__xx = tSp := rfl
  have z1 : tCo.size = 1 := rfl
  have z2 : tSp.size = 1 := rfl
  rw [e1, e2]
  have hlen := (recs_len (s := s) hs (by decide)).1
  have hrz := rowT_size (nm := nm) hz
  refine when_of (by omega) ?_
  refine newB_at hs fun b1 w hs => ?_
  have hs := Sat.blkS (b := b1) (cs := [.string str_empty]) (n := 1) Rec.str [str_empty] hs rfl rfl
  refine app_by (s := ⟨some ⟨b1, 0, none⟩, 1, 1⟩) (new := ks) hs (rd_rdb (s := s) hs) hlen (okC_flat _) rfl (by decide) (by simp; omega) fun s2 w hs2 hs => ?_
  have e3 : [str_empty] ++ ks = ⟨#[]⟩ :: ks := rfl
  rw [e3] at hs
  have hm : ∀ y ∈ ((⟨#[]⟩ : ByteArray) :: ks), y.size ≤ 64 := by
    intro y hy
    rcases List.mem_cons.1 hy with rfl | hy
    · exact Nat.zero_le _
    · exact Nat.le_of_lt (hz y hy)
  refine call1_of (join_at (s := s2) hs hm (by rw [z2]; simp only [List.length_cons]; omega) (by simp only [List.length_cons]; omega)) fun e w ⟨he, hs⟩ => ⟨_, he, ?_⟩
  have hj := join_row nm ks
  have hsz : (nm ++ tCo).size + (joinT (⟨#[]⟩ :: ks) tSp).size = (rowT nm ks).size := by rw [← hj, ba_size_append (nm ++ tCo)]
  refine when_of (by omega) ?_
  rw [hj]
  exact ⟨rfl, by exact Sat.fin hs⟩
end
end Go.Proofs.YtchlicgjdlkidaaDoor
