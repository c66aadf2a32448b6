/- What judge (27) says, over plain lists: a table's rows, the clock, the room. No program steps. -/
import Derived.Test.YtnmlaenfaiacfaaTable
import Derived.Test.YtnmlaenfaiacfaaMapHp
import Derived.Test.YtnmlaenfaiacfaaOpen3
set_option linter.unusedVariables false
set_option linter.unusedSimpArgs false
set_option linter.unnecessarySimpa false
set_option linter.unusedSectionVars false
namespace Go.Hb
structure OpV where
  kind : Int
  key : ByteArray
  val : ByteArray
  n : Int
instance : Inhabited OpV := ⟨⟨0, ⟨#[]⟩, ⟨#[]⟩, 0⟩⟩
def opR : Rec OpV := ⟨4, fun o => [.int .i64 o.kind, .string o.key, .string o.val, .int .i64 o.n], fun _ => rfl⟩
instance : OkR opR := ⟨fun _ => rfl⟩
instance : PosR opR := ⟨by decide⟩
structure OpOk (o : OpV) : Prop where
  kind : okK .i64 o.kind
  key : okStr o.key
  val : okStr o.val
  n : okK .i64 o.n
theorem of_op (x : List Value) (h : okRow [.int .i64, .str, .str, .int .i64] x) : ∃ o, x = opR.cells o ∧ OpOk o := by
  obtain ⟨v0, v1, v2, v3, rfl⟩ : ∃ v0 v1 v2 v3, x = [v0, v1, v2, v3] := by
    have hl := okRow_len h
    match x, hl with
    | [v0, v1, v2, v3], _ => exact ⟨v0, v1, v2, v3, rfl⟩
  obtain ⟨h0, h1, h2, h3, _⟩ := h
  obtain ⟨k0, rfl, g0⟩ := h0
  obtain ⟨k1, rfl, g1⟩ := h1
  obtain ⟨k2, rfl, g2⟩ := h2
  obtain ⟨k3, rfl, g3⟩ := h3
  exact ⟨⟨k0, k1, k2, k3⟩, rfl, g0, g1, g2, g3⟩
def jMay (kind : Int) : Bool := decide (kind = 1 ∨ kind = 2 ∨ kind = 3 ∨ kind = 4 ∨ kind = 9)
def jSoft (kind : Int) : Bool := decide (kind = 1 ∨ kind = 3 ∨ kind = 4)
/-- may a key be gone? -/
def jOk (T : TT) (now kind : Int) (g : ByteArray) : Bool := jMay kind && !(jSoft kind && (tGet T g now).2) && (mGet T g).isSome
def GoesP (T : TT) (now kind : Int) (l : List ByteArray) : Prop := (∀ i k, k < i → i < l.length → l.getD i default ≠ l.getD k default) ∧ ∀ i, i < l.length → jOk T now kind (l.getD i default) = true
noncomputable def jGoes (T : TT) (now kind : Int) (l : List ByteArray) : Bool := @decide (GoesP T now kind l) (Classical.propDecidable _)
theorem jGoes_true {T : TT} {now kind : Int} {l : List ByteArray} (h : GoesP T now kind l) : jGoes T now kind l = true := @decide_eq_true _ (Classical.propDecidable _) h
theorem jGoes_false {T : TT} {now kind : Int} {l : List ByteArray} (h : ¬ GoesP T now kind l) : jGoes T now kind l = false := @decide_eq_false _ (Classical.propDecidable _) h
theorem goes_bad {T : TT} {now kind : Int} {l : List ByteArray} {i : Nat} (hi : i < l.length) (h : jOk T now kind (l.getD i default) = false) : jGoes T now kind l = false :=
  jGoes_false fun hg => by rw [hg.2 i hi] at h; cases h
theorem goes_dup {T : TT} {now kind : Int} {l : List ByteArray} {i k : Nat} (hk : k < i) (hi : i < l.length) (h : l.getD i default = l.getD k default) : jGoes T now kind l = false :=
  jGoes_false fun hg => hg.1 i k hk hi h
theorem jOk_may {T : TT} {now kind : Int} {g : ByteArray} (h : jMay kind = false) : jOk T now kind g = false := by unfold jOk; rw [h]; rfl
theorem jOk_soft {T : TT} {now kind : Int} {g : ByteArray} (h : (jSoft kind && (tGet T g now).2) = true) : jOk T now kind g = false := by unfold jOk; rw [h]; simp
theorem jOk_has {T : TT} {now kind : Int} {g : ByteArray} (h : (mGet T g).isSome = false) : jOk T now kind g = false := by unfold jOk; rw [h]; simp
theorem jOk_ok {T : TT} {now kind : Int} {g : ByteArray} (h1 : jMay kind = true) (h2 : (jSoft kind && (tGet T g now).2) = false) (h3 : (mGet T g).isSome = true) : jOk T now kind g = true := by unfold jOk; rw [h1, h2, h3]; rfl
def jRight (T : TT) (now kind : Int) (key : ByteArray) (hit : Bool) (val : ByteArray) : Bool :=
  if kind = 1 then (hit == (tGet T key now).2) && sEq val (tGet T key now).1 else if kind = 3 then hit == (tGet T key now).2 else true
def jNotes (T : TT) (now : Int) (o : OpV) (gone : List ByteArray) : TT :=
  if o.kind = 2 then tPut (gone.foldl rDel T) o.key o.val now o.n else if o.kind = 3 then rDel (gone.foldl rDel T) o.key else gone.foldl rDel T
def jFits (T : TT) (sh room : Int) : Bool := if sh < 0 ∨ 1048576 < sh ∨ room < 0 ∨ 1048576 < room then true else decide ((T.length : Int) ≤ sh * room)
structure JS where
  T : TT
  now : Int
  room : Int
def jNow (now : Int) (o : OpV) : Int := if o.kind = 4 ∧ 0 < o.n then now + min o.n (1125899906842624 - now) else now
def jRoom (room : Int) (o : OpV) : Int := if o.kind = 9 then o.n else room
def jNext (s : JS) (o : OpV) (err : Int) (gone : List ByteArray) : JS := if err ≠ 0 then s else ⟨jNotes s.T (jNow s.now o) o gone, jNow s.now o, jRoom s.room o⟩
noncomputable def jSays (sh : Int) (s : JS) (o : OpV) (err : Int) (hit : Bool) (val : ByteArray) (gone : List ByteArray) : Bool :=
  if err ≠ 0 then !hit && decide (val = ⟨#[]⟩) && decide (gone.length = 0)
  else (jRight s.T (jNow s.now o) o.kind o.key hit val && jGoes s.T (jNow s.now o) o.kind gone) && jFits (jNotes s.T (jNow s.now o) o gone) sh (jRoom s.room o)
structure JOk (s : JS) : Prop where
  tok : TOk s.T
  now0 : 0 ≤ s.now
  nowM : s.now ≤ 1125899906842624
  room : okK .i64 s.room
theorem gone_tok {T : TT} (h : TOk T) : ∀ (l : List ByteArray), TOk (l.foldl rDel T) ∧ (l.foldl rDel T).length ≤ T.length := by
  intro l
  induction l generalizing T with
  | nil => exact ⟨h, Nat.le_refl _⟩
  | cons g l ih =>
    obtain ⟨h1, h2⟩ := ih (h.del g)
    exact ⟨h1, Nat.le_trans h2 (rDel_len h g)⟩
theorem gone_snoc {T : TT} {l : List ByteArray} {i : Nat} (hi : i < l.length) : (l.take (i + 1)).foldl rDel T = rDel ((l.take i).foldl rDel T) (l.getD i default) := by
  rw [List.take_add_one, List.foldl_append, List.getD_eq_getElem?_getD, List.getElem?_eq_getElem hi]; rfl
theorem jNotes_tok {T : TT} (h : TOk T) (now : Int) (o : OpV) (gone : List ByteArray) : TOk (jNotes T now o gone) ∧ (jNotes T now o gone).length ≤ T.length + 1 := by
  obtain ⟨h1, h2⟩ := gone_tok h gone
  unfold jNotes
  split
  · exact ⟨h1.put _ _ _ _, Nat.le_trans (tPut_len h1 _ _ _ _) (by omega)⟩
  · split
    · exact ⟨h1.del _, Nat.le_trans (rDel_len h1 _) (by omega)⟩
    · exact ⟨h1, by omega⟩
theorem jNow_in {now : Int} {o : OpV} (h0 : 0 ≤ now) (h1 : now ≤ 1125899906842624) : 0 ≤ jNow now o ∧ jNow now o ≤ 1125899906842624 := by
  unfold jNow; split <;> omega
theorem JOk.next {s : JS} (h : JOk s) {o : OpV} (ho : okK .i64 o.n) (err : Int) (gone : List ByteArray) : JOk (jNext s o err gone) ∧ (jNext s o err gone).T.length ≤ s.T.length + 1 := by
  unfold jNext
  split
  · exact ⟨h, by omega⟩
  · obtain ⟨h1, h2⟩ := jNotes_tok h.tok (jNow s.now o) o gone
    obtain ⟨h3, h4⟩ := jNow_in (o := o) h.now0 h.nowM
    refine ⟨⟨h1, h3, h4, ?_⟩, h2⟩
    show okK .i64 (jRoom s.room o)
    unfold jRoom; split
    · exact ho
    · exact h.room
/-- the first pair that may not be, from i on -/
noncomputable def jWrong (sh : Int) : Nat → JS → List OpV → List Ans → Int
  | i, s, o :: os, a :: rs => if jSays sh s o a.err a.hit a.val a.gone then jWrong sh (i + 1) (jNext s o a.err a.gone) os rs else (i : Int)
  | _, _, _, _ => -1
end Go.Hb
