import Derived.Test.YtmefopmnjncdbaaGreatMn23
set_option linter.unusedVariables false
set_option linter.unusedSimpArgs false
set_option linter.unnecessarySimpa false
set_option linter.unusedSectionVars false
set_option maxRecDepth 100000
namespace Go.Hb
open Go.ChangeShapes Go.WideShapes Go.RowKit
def ReadsR0 (W:World) (s:Sl) {α:Type} (E:Rec α) (rows:List α):Prop:=s.n = rows.length /\ (rows = [] \/ ReadsR W s E rows)
structure Ans where
 err:Int
 hit:Bool
 val:ByteArray
 sl:Sl
 gone:List ByteArray
instance:Inhabited Ans:=⟨⟨0,false,⟨#[]⟩,⟨none,0,0⟩,[]⟩⟩
def ansR:Rec Ans:=⟨4,fun a=>[.int .i64 a.err,.bool a.hit,.string a.val,.slice a.sl.a a.sl.n a.sl.c],fun _=>rfl⟩
instance:PosR ansR:=⟨by decide⟩
def stF (P:Program) (t:TypeId):List (TypeId × Nat):=match P.underlying t with
 | some (.struct fs)=>fs.toList.map fun f=>(f.type,f.offset)
 | _=>[]
section
variable {H:Type} {enc:TypeId × Value -> H} {P:Program} {W:World} {sp:Nat -> Bool} {held:Bool} {base:Nat}
theorem cells_spot {a:Addr} {n:Nat} {c:List Value} (h:W.cells? base a n = some c) (hn:0 < n):a.spot = none:=by
 unfold World.cells? at h
 have h:(List.range n).mapM (fun i=>W.cell? (Addr.add a i)) = some c:=by
  by_cases hb:base <= a.block
  ·rwa [if_pos hb] at h
  ·rw [if_neg hb] at h; cases h
 obtain ⟨y,hy⟩:=mapM_all h 0 (by simp [hn])
 have ha:Addr.add a 0 = a:=by simp [Addr.add]
 rw [ha] at hy
 unfold World.cell? at hy
 split at hy
 ·split at hy
  ·cases hy
  ·rename_i hs; cases hsp:a.spot <;> simp_all
 ·cases hy
theorem addr_add0 {b o j:Nat}:Addr.add ⟨b,o,none⟩ j = ⟨b,o + j,none⟩:=by
 unfold Addr.add
 split
 ·simp_all
 ·rfl
theorem cells_get {b i n:Nat} {c:List Value} (h:W.cells? base ⟨b,i,none⟩ n = some c):c.length = n /\ ∀ j,j < n -> W.cell? ⟨b,i + j,none⟩ = c[j]?:=by
 unfold World.cells? at h
 have h:(List.range n).mapM (fun i_1=>W.cell? (Addr.add ⟨b,i,none⟩ i_1)) = some c:=by
  by_cases hb:base <= b
  ·rwa [if_pos hb] at h
  ·rw [if_neg hb] at h; cases h
 have:∀ (l:List Nat) (c:List Value),l.mapM (fun i_1=>W.cell? (Addr.add ⟨b,i,none⟩ i_1)) = some c -> c.length = l.length /\ ∀ j (hj:j < l.length),W.cell? (Addr.add ⟨b,i,none⟩ l[j]) = c[j]?:=by
  intro l
  induction l with
  | nil=>intro c h; simp only [List.mapM_nil,Option.pure_def,Option.some.injEq] at h; subst h; exact ⟨rfl,fun j hj=>by simp at hj⟩
  | cons x l ih=>
   intro c h
   simp only [List.mapM_cons,Option.bind_eq_bind,Option.pure_def,Option.bind_eq_some_iff] at h
   obtain ⟨y,hy,ys,hys,hc⟩:=h
   cases hc
   obtain ⟨h1,h2⟩:=ih ys hys
   refine ⟨by simp [h1],fun j hj=>?_⟩
   cases j with
   | zero=>simpa using hy
   | succ j=>simpa using h2 j (by simpa using hj)
 obtain ⟨h1,h2⟩:=this _ _ h
 refine ⟨by simpa using h1,fun j hj=>?_⟩
 have:=h2 j (by simpa using hj)
 simp only [List.getElem_range] at this
 rw [<- this,addr_add0]
theorem slc_rows {Q:List Value -> Prop} {a:Addr} {m len cap:Nat} (hpos:0 < m) (hrow:∀ i,i < len -> ∃ c,W.cells? base (a.add (i * m)) m = some c /\ Q c) :
  ∃ rows:List (List Value),rows.length = len /\ (∀ x ∈ rows,Q x) /\ (len = 0 \/ Reads W m ⟨some a,len,cap⟩ rows.flatten):=by
 by_cases h0:len = 0
 ·exact ⟨[],h0.symm,fun _ h=>(by cases h),.inl h0⟩
 obtain ⟨c0,hc0,_⟩:=hrow 0 (by omega)
 have ha:Addr.add a (0 * m) = a:=by simp [Addr.add]
 rw [ha] at hc0
 have hspot:=cells_spot hc0 hpos
 obtain ⟨b,o,spot⟩:=a
 simp only at hspot
 subst hspot
 have hrow2:∀ i,∃ c,i < len -> W.cells? base (Addr.add ⟨b,o,none⟩ (i * m)) m = some c /\ Q c:=by
  intro i
  by_cases hi:i < len
  ·obtain ⟨c,hc⟩:=hrow i hi; exact ⟨c,fun _=>hc⟩
  ·exact ⟨[],fun h=>absurd h hi⟩
 let f:Nat -> List Value:=fun i=>Classical.choose (hrow2 i)
 have hf:∀ i,i < len -> W.cells? base (Addr.add ⟨b,o,none⟩ (i * m)) m = some (f i) /\ Q (f i):=fun i hi=>Classical.choose_spec (hrow2 i) hi
 refine ⟨(List.range len).map f,by simp,?_,.inr ⟨?_,.inr ⟨b,o,rfl,?_⟩⟩⟩
 ·intro x hx
  simp only [List.mem_map,List.mem_range] at hx
  obtain ⟨i,hi,rfl⟩:=hx
  exact (hf i hi).2
 ·simp only
  have:∀ (l:List (List Value)),(∀ x ∈ l,x.length = m) -> l.flatten.length = l.length * m:=by
   intro l
   induction l with
   | nil=>simp
   | cons x l ih=>intro h; simp [ih fun y hy=>h y (.tail _ hy),h x (.head _),Nat.add_mul,Nat.add_comm]
  rw [this]
  ·simp
  ·intro x hx
   simp only [List.mem_map,List.mem_range] at hx
   obtain ⟨i,hi,rfl⟩:=hx
   have h1:=(hf i hi).1
   rw [addr_add0] at h1
   exact (cells_get h1).1
 ·have:∀ (n:Nat) (g:Nat -> List Value) (p:Nat),(∀ i,i < n -> (g i).length = m /\ ∀ j,j < m -> W.cell? ⟨b,p + i * m + j,none⟩ = (g i)[j]?) ->
    ∀ j,j < ((List.range n).map g).flatten.length -> W.cell? ⟨b,p + j,none⟩ = ((List.range n).map g).flatten[j]?:=by
   intro n
   induction n with
   | zero=>intro g p _ j hj; simp at hj
   | succ n ih=>
    intro g p h j hj
    have hr:(List.range (n + 1)).map g = g 0::(List.range n).map (g ∘ Nat.succ):=by
     rw [List.range_succ_eq_map]; simp
    rw [hr] at hj ⊢
    simp only [List.flatten_cons] at hj ⊢
    obtain ⟨h0,h0'⟩:=h 0 (by omega)
    by_cases hj0:j < m
    ·rw [List.getElem?_append_left (by omega)]
     simpa using h0' j hj0
    ·rw [List.getElem?_append_right (by omega)]
     have:=ih (g ∘ Nat.succ) (p + m) (fun i hi=>by
      obtain ⟨a1,a2⟩:=h (i + 1) (by omega)
      refine ⟨a1,fun j hj=>?_⟩
      have:=a2 j hj
      show _ = (g (i + 1))[j]?
      rw [<- this]
      congr 2
      rw [Nat.add_mul]; omega) (j - m) (by simp at hj ⊢; omega)
     rw [h0,<- this]
     congr 2
     omega
  refine this len f o fun i hi=>?_
  obtain ⟨h1,h2⟩:=hf i hi
  rw [addr_add0] at h1
  exact cells_get h1
theorem trod_st {t:TypeId} {us:List Value} {x:DataW H × List MemPlace} {fuel:Nat} {fs:Array Field} (hu:P.underlying t = some (.struct fs)) (hx:DataW.trod enc P W base sp held fuel t us = some x) (hlt:Light P t x.1) :
  us.length = P.cellsOf t /\ ∀ p ∈ stF P t,∃ fuel y,DataW.trod enc P W base sp held fuel p.1 ((us.drop p.2).take (P.cellsOf p.1)) = some y /\ Light P p.1 y.1:=by
 cases fuel with
 | zero=>cases hx
 | succ fuel=>
 unfold DataW.trod at hx
 rw [hu] at hx
 simp only at hx
 split at hx
 case isFalse=>cases hx
 rename_i hlen
 simp only [Option.map_eq_some_iff] at hx
 obtain ⟨xs,hxs,rfl⟩:=hx
 have hlt':∀ n ∈ DataW.weightsEach P (fs.toList.map (·.type)) (xs.map (·.1)),n <= reachBytes:=fun n hn=>hlt n (by simp only [DataW.weights,hu]; exact hn)
 refine ⟨hlen,fun p hp=>?_⟩
 simp only [stF,hu,List.mem_map] at hp
 obtain ⟨f,hf,rfl⟩:=hp
 obtain ⟨i,hi,hfi⟩:=List.mem_iff_getElem.1 hf
 obtain ⟨y,hy,hfy⟩:=mapM_get hxs (List.getElem?_eq_getElem hi)
 rw [hfi] at hfy
 exact ⟨fuel,y,hfy,light_each hlt' (j:=i) (by rw [List.getElem?_map,List.getElem?_eq_getElem hi,hfi]; rfl) (by rw [List.getElem?_map,hy]; rfl)⟩
end
end Go.Hb
namespace Go.Hb
structure OpV where
 kind:Int
 key:ByteArray
 val:ByteArray
 n:Int
instance:Inhabited OpV:=⟨⟨0,⟨#[]⟩,⟨#[]⟩,0⟩⟩
def opR:Rec OpV:=⟨4,fun o=>[.int .i64 o.kind,.string o.key,.string o.val,.int .i64 o.n],fun _=>rfl⟩
structure OpOk (o:OpV):Prop where
 kind:okK .i64 o.kind
 key:okStr o.key
 val:okStr o.val
 n:okK .i64 o.n
theorem of_op (x:List Value) (h:okRow [.int .i64,.str,.str,.int .i64] x):∃ o,x = opR.cells o /\ OpOk o:=by
 obtain ⟨v0,v1,v2,v3,rfl⟩:∃ v0 v1 v2 v3,x = [v0,v1,v2,v3]:=by
  have hl:=okRow_len h
  match x,hl with
  | [v0,v1,v2,v3],_=>exact ⟨v0,v1,v2,v3,rfl⟩
 obtain ⟨h0,h1,h2,h3,_⟩:=h
 obtain ⟨k0,rfl,g0⟩:=h0
 obtain ⟨k1,rfl,g1⟩:=h1
 obtain ⟨k2,rfl,g2⟩:=h2
 obtain ⟨k3,rfl,g3⟩:=h3
 exact ⟨⟨k0,k1,k2,k3⟩,rfl,g0,g1,g2,g3⟩
def jMay (kind:Int):Bool:=decide (kind = 1 \/ kind = 2 \/ kind = 3 \/ kind = 4 \/ kind = 9)
def jSoft (kind:Int):Bool:=decide (kind = 1 \/ kind = 3 \/ kind = 4)
def jOk (T:TT) (now kind:Int) (g:ByteArray):Bool:=jMay kind && !(jSoft kind && (tGet T g now).2) && (mGet T g).isSome
def GoesP (T:TT) (now kind:Int) (l:List ByteArray):Prop:=(∀ i k,k < i -> i < l.length -> l.getD i default ≠ l.getD k default) /\ ∀ i,i < l.length -> jOk T now kind (l.getD i default) = true
noncomputable def jGoes (T:TT) (now kind:Int) (l:List ByteArray):Bool:=@decide (GoesP T now kind l) (Classical.propDecidable _)
theorem jGoes_true {T:TT} {now kind:Int} {l:List ByteArray} (h:GoesP T now kind l):jGoes T now kind l = true:=@decide_eq_true _ (Classical.propDecidable _) h
theorem jGoes_false {T:TT} {now kind:Int} {l:List ByteArray} (h:¬ GoesP T now kind l):jGoes T now kind l = false:=@decide_eq_false _ (Classical.propDecidable _) h
theorem goes_bad {T:TT} {now kind:Int} {l:List ByteArray} {i:Nat} (hi:i < l.length) (h:jOk T now kind (l.getD i default) = false):jGoes T now kind l = false:=
 jGoes_false fun hg=>by rw [hg.2 i hi] at h; cases h
theorem goes_dup {T:TT} {now kind:Int} {l:List ByteArray} {i k:Nat} (hk:k < i) (hi:i < l.length) (h:l.getD i default = l.getD k default):jGoes T now kind l = false:=
 jGoes_false fun hg=>hg.1 i k hk hi h
theorem jOk_may {T:TT} {now kind:Int} {g:ByteArray} (h:jMay kind = false):jOk T now kind g = false:=by unfold jOk; rw [h]; rfl
theorem jOk_soft {T:TT} {now kind:Int} {g:ByteArray} (h:(jSoft kind && (tGet T g now).2) = true):jOk T now kind g = false:=by unfold jOk; rw [h]; simp
theorem jOk_has {T:TT} {now kind:Int} {g:ByteArray} (h:(mGet T g).isSome = false):jOk T now kind g = false:=by unfold jOk; rw [h]; simp
theorem jOk_ok {T:TT} {now kind:Int} {g:ByteArray} (h1:jMay kind = true) (h2:(jSoft kind && (tGet T g now).2) = false) (h3:(mGet T g).isSome = true):jOk T now kind g = true:=by unfold jOk; rw [h1,h2,h3]; rfl
def jRight (T:TT) (now kind:Int) (key:ByteArray) (hit:Bool) (val:ByteArray):Bool:=
 if kind = 1 then (hit == (tGet T key now).2) && sEq val (tGet T key now).1 else if kind = 3 then hit == (tGet T key now).2 else true
def jNotes (T:TT) (now:Int) (o:OpV) (gone:List ByteArray):TT:=
 if o.kind = 2 then tPut (gone.foldl rDel T) o.key o.val now o.n else if o.kind = 3 then rDel (gone.foldl rDel T) o.key else gone.foldl rDel T
def jFits (T:TT) (sh room:Int):Bool:=if sh < 0 \/ 1048576 < sh \/ room < 0 \/ 1048576 < room then true else decide ((T.length:Int) <= sh * room)
structure JS where
 T:TT
 now:Int
 room:Int
def jNow (now:Int) (o:OpV):Int:=if o.kind = 4 /\ 0 < o.n then now + min o.n (1125899906842624 - now) else now
def jRoom (room:Int) (o:OpV):Int:=if o.kind = 9 then o.n else room
def jNext (s:JS) (o:OpV) (err:Int) (gone:List ByteArray):JS:=if err ≠ 0 then s else ⟨jNotes s.T (jNow s.now o) o gone,jNow s.now o,jRoom s.room o⟩
noncomputable def jSays (sh:Int) (s:JS) (o:OpV) (err:Int) (hit:Bool) (val:ByteArray) (gone:List ByteArray):Bool:=
 if err ≠ 0 then !hit && decide (val = ⟨#[]⟩) && decide (gone.length = 0)
 else (jRight s.T (jNow s.now o) o.kind o.key hit val && jGoes s.T (jNow s.now o) o.kind gone) && jFits (jNotes s.T (jNow s.now o) o gone) sh (jRoom s.room o)
structure JOk (s:JS):Prop where
 tok:TOk s.T
 now0:0 <= s.now
 nowM:s.now <= 1125899906842624
 room:okK .i64 s.room
theorem gone_tok {T:TT} (h:TOk T):∀ (l:List ByteArray),TOk (l.foldl rDel T) /\ (l.foldl rDel T).length <= T.length:=by
 intro l
 induction l generalizing T with
 | nil=>exact ⟨h,Nat.le_refl _⟩
 | cons g l ih=>
  obtain ⟨h1,h2⟩:=ih (h.del g)
  exact ⟨h1,Nat.le_trans h2 (rDel_len h g)⟩
theorem gone_snoc {T:TT} {l:List ByteArray} {i:Nat} (hi:i < l.length):(l.take (i + 1)).foldl rDel T = rDel ((l.take i).foldl rDel T) (l.getD i default):=by
 rw [List.take_add_one,List.foldl_append,List.getD_eq_getElem?_getD,List.getElem?_eq_getElem hi]; rfl
theorem jNotes_tok {T:TT} (h:TOk T) (now:Int) (o:OpV) (gone:List ByteArray):TOk (jNotes T now o gone) /\ (jNotes T now o gone).length <= T.length + 1:=by
 obtain ⟨h1,h2⟩:=gone_tok h gone
 unfold jNotes
 split
 ·exact ⟨h1.put _ _ _ _,Nat.le_trans (tPut_len h1 _ _ _ _) (by omega)⟩
 ·split
  ·exact ⟨h1.del _,Nat.le_trans (rDel_len h1 _) (by omega)⟩
  ·exact ⟨h1,by omega⟩
theorem jNow_in {now:Int} {o:OpV} (h0:0 <= now) (h1:now <= 1125899906842624):0 <= jNow now o /\ jNow now o <= 1125899906842624:=by
 unfold jNow; split <;> omega
theorem JOk.next {s:JS} (h:JOk s) {o:OpV} (ho:okK .i64 o.n) (err:Int) (gone:List ByteArray):JOk (jNext s o err gone) /\ (jNext s o err gone).T.length <= s.T.length + 1:=by
 unfold jNext
 split
 ·exact ⟨h,by omega⟩
 ·obtain ⟨h1,h2⟩:=jNotes_tok h.tok (jNow s.now o) o gone
  obtain ⟨h3,h4⟩:=jNow_in (o:=o) h.now0 h.nowM
  refine ⟨⟨h1,h3,h4,?_⟩,h2⟩
  show okK .i64 (jRoom s.room o)
  unfold jRoom; split
  ·exact ho
  ·exact h.room
noncomputable def jWrong (sh:Int):Nat -> JS -> List OpV -> List Ans -> Int
 | i,s,o::os,a::rs=>if jSays sh s o a.err a.hit a.val a.gone then jWrong sh (i + 1) (jNext s o a.err a.gone) os rs else (i:Int)
 | _,_,_,_=>-1
end Go.Hb
namespace Go.Hb
open Go.Proofs.YtmefopmnjncdbaaGreat
noncomputable def shIx (m:Nat) (k:ByteArray):Nat:=(hashV 31 k % (m:Int)).toNat
theorem shIx_lt {m:Nat} (h:1 <= m) (k:ByteArray):shIx m k < m:=by
 unfold shIx
 have h1:=Int.emod_nonneg (hashV 31 k) (show (m:Int) ≠ 0 by omega)
 have h2:=Int.emod_lt_of_pos (hashV 31 k) (show (0:Int) < m by omega)
 omega
structure JR (sh:Nat) (Ts:List TT) (s:JS):Prop where
 len:Ts.length = sh
 sh1:1 <= sh
 sh8:sh <= 8
 tok:TOk s.T
 tabs:∀ T ∈ Ts,SdOk s.room T
 home:∀ (i:Nat) (T:TT),Ts[i]? = some T -> ∀ k ∈ kT T,shIx sh k = i
 same:∀ k,mGet s.T k = mGet (Ts.getD (shIx sh k) []) k
 now0:0 <= s.now
 nowM:s.now <= 1125899906842624
section
variable {sh:Nat} {Ts:List TT} {s:JS} {T:TT} {i:Nat} {k key:ByteArray} {g:BL} {now:Int}
theorem JR.at_ (h:JR sh Ts s) (k:ByteArray):∃ T,Ts[shIx sh k]? = some T /\ mGet s.T k = mGet T k:=by
 have hl:=shIx_lt h.sh1 k
 rw [<- h.len] at hl
 refine ⟨Ts[shIx Ts.length k]'(by rw [h.len] at hl ⊢; exact hl),?_,?_⟩
 ·have e:=h.len
  subst e
  exact List.getElem?_eq_getElem hl
 ·rw [h.same]
  have e:=h.len
  subst e
  rw [List.getD_eq_getElem?_getD,List.getElem?_eq_getElem hl]; rfl
theorem JR.of_home (h:JR sh Ts s) (hT:Ts[i]? = some T) (hk:shIx sh k = i):mGet s.T k = mGet T k:=by
 obtain ⟨T',h1,h2⟩:=h.at_ k
 rw [hk,hT] at h1
 cases h1
 exact h2
theorem nodup_flatten {α:Type}:∀ {L:List (List α)},(∀ l ∈ L,l.Nodup) -> (∀ (i j:Nat) (a b:List α),L[i]? = some a -> L[j]? = some b -> i ≠ j -> ∀ x ∈ a,x ∉ b) -> L.flatten.Nodup
 | [],_,_=>by simp
 | l::L,h1,h2=>by
  rw [List.flatten_cons,List.nodup_append]
  refine ⟨h1 l (.head _),nodup_flatten (fun l hl=>h1 l (.tail _ hl)) (fun i j a b ha hb hij=>h2 (i + 1) (j + 1) a b ha hb (by omega)),fun x hx y hy e=>?_⟩
  obtain ⟨b,hb,hyb⟩:=List.mem_flatten.1 hy
  obtain ⟨j,hj⟩:=List.mem_iff_getElem?.1 hb
  exact h2 0 (j + 1) l b rfl hj (by omega) x hx (e ▸ hyb)
theorem len_flatten {α:Type} {c:Nat}:∀ {L:List (List α)},(∀ l ∈ L,l.length <= c) -> L.flatten.length <= L.length * c
 | [],_=>by simp
 | l::L,h=>by
  have h1:=len_flatten (L:=L) fun l hl=>h l (.tail _ hl)
  have h2:=h l (.head _)
  rw [List.flatten_cons,List.length_append,List.length_cons,Nat.add_mul,Nat.one_mul]
  omega
theorem JR.fits (h:JR sh Ts s):jFits s.T sh s.room = true:=by
 have hsub:∀ k ∈ kT s.T,k ∈ (Ts.map kT).flatten:=fun k hk=>by
  obtain ⟨T,h1,h2⟩:=h.at_ k
  refine List.mem_flatten.2 ⟨kT T,List.mem_map_of_mem (List.mem_of_getElem? h1),?_⟩
  rw [kT_mem,<- h2]; exact kT_mem.1 hk
 have h1:=nodup_sub_len h.tok.rise.nodup hsub
 unfold jFits
 split
 ·rfl
 ·rename_i hn
  have hr:0 <= s.room:=by omega
  have h2:(Ts.map kT).flatten.length <= (Ts.map kT).length * s.room.toNat:=len_flatten fun l hl=>by
   obtain ⟨T,hT,rfl⟩:=List.mem_map.1 hl
   have:=(h.tabs T hT).len
   unfold kT
   rw [List.length_map]; omega
  rw [List.length_map,h.len] at h2
  have e:(kT s.T).length = s.T.length:=by unfold kT; rw [List.length_map]
  have e':(s.T.map (·.1)).length = s.T.length:=by rw [List.length_map]
  have e2:((sh * s.room.toNat:Nat):Int) = (sh:Int) * s.room:=by rw [Int.natCast_mul,Int.toNat_of_nonneg hr]
  apply decide_eq_true
  rw [<- e2]
  omega
theorem JR.dels {gs:List BL} {now room:Int} (h:JR sh Ts s) (hg:gs.length = sh) (hsub:∀ (i:Nat) (T:TT) (g:BL),Ts[i]? = some T -> gs[i]? = some g -> ∀ x ∈ g,x ∈ kT T)
  (hok:∀ (i:Nat) (T:TT) (g:BL),Ts[i]? = some T -> gs[i]? = some g -> SdOk room (delAll T g)) (h0:0 <= now) (h1:now <= 1125899906842624):JR sh (List.zipWith delAll Ts gs) ⟨delAll s.T gs.flatten,now,room⟩:=by
 have hz:∀ (i:Nat) (T':TT),(List.zipWith delAll Ts gs)[i]? = some T' -> ∃ (T:TT) (g:BL),Ts[i]? = some T /\ gs[i]? = some g /\ T' = delAll T g:=by
  intro i T' hT'
  rw [List.getElem?_zipWith] at hT'
  cases ha:Ts[i]? with
  | none=>rw [ha] at hT'; cases hT'
  | some T=>
   cases hb:gs[i]? with
   | none=>rw [ha,hb] at hT'; cases hT'
   | some g=>
    rw [ha,hb] at hT'
    cases hT'
    exact ⟨T,g,rfl,rfl,rfl⟩
 refine ⟨by rw [List.length_zipWith,h.len,hg,Nat.min_self],h.sh1,h.sh8,delAll_tok h.tok,fun T' hT'=>?_,fun i T' hT' k hk=>?_,fun k=>?_,h0,h1⟩
 ·obtain ⟨i,hi⟩:=List.mem_iff_getElem?.1 hT'
  obtain ⟨T,g,ha,hb,rfl⟩:=hz i T' hi
  exact hok i T g ha hb
 ·obtain ⟨T,g,ha,hb,rfl⟩:=hz i T' hT'
  exact h.home i T ha k ((kT_delAll (h.tabs T (List.mem_of_getElem? ha)).tok.rise).1 hk).1
 ·obtain ⟨T,ha,hs⟩:=h.at_ k
  have hil:=(List.getElem?_eq_some_iff.1 ha).1
  obtain ⟨g,hb⟩:∃ g,gs[shIx sh k]? = some g:=⟨_,List.getElem?_eq_getElem (by rw [hg]; exact shIx_lt h.sh1 k)⟩
  have e:(List.zipWith delAll Ts gs).getD (shIx sh k) [] = delAll T g:=by
   rw [List.getD_eq_getElem?_getD,List.getElem?_zipWith,ha,hb]; rfl
  rw [e]
  have hT:=(h.tabs T (List.mem_of_getElem? ha)).tok.rise
  have hmem:k ∈ gs.flatten ↔ k ∈ g:=by
   constructor
   ·intro hk
    obtain ⟨g',hg',hk'⟩:=List.mem_flatten.1 hk
    obtain ⟨j,hj⟩:=List.mem_iff_getElem?.1 hg'
    obtain ⟨T',hT'⟩:∃ T',Ts[j]? = some T':=⟨_,List.getElem?_eq_getElem (by rw [h.len,<- hg]; exact (List.getElem?_eq_some_iff.1 hj).1)⟩
    have hhome:=h.home j T' hT' k (hsub j T' g' hT' hj k hk')
    rw [hhome,hj] at hb
    cases hb
    exact hk'
   ·intro hk; exact List.mem_flatten.2 ⟨g,List.mem_of_getElem? hb,hk⟩
  by_cases hk:k ∈ g
  ·rw [(get_delAll h.tok.rise).1 (hmem.2 hk),(get_delAll hT).1 hk]
  ·rw [(get_delAll h.tok.rise).2 (fun h=>hk (hmem.1 h)),(get_delAll hT).2 hk,hs]
theorem JR.one {T':TT} {J':TT} (h:JR sh Ts s) (hT:Ts[i]? = some T) (hok:SdOk s.room T') (hJ:TOk J') (hh:∀ k ∈ kT T',shIx sh k = i)
  (hs:∀ k,(shIx sh k = i -> mGet J' k = mGet T' k) /\ (shIx sh k ≠ i -> mGet J' k = mGet s.T k)):JR sh (Ts.set i T') ⟨J',s.now,s.room⟩:=by
 have hil:=(List.getElem?_eq_some_iff.1 hT).1
 refine ⟨by rw [List.length_set]; exact h.len,h.sh1,h.sh8,hJ,fun T2 hT2=>?_,fun j T2 hT2 k hk=>?_,fun k=>?_,h.now0,h.nowM⟩
 ·rcases List.mem_or_eq_of_mem_set hT2 with h1 | h1
  ·exact h.tabs T2 h1
  ·exact h1 ▸ hok
 ·by_cases hij:i = j
  ·subst hij
   rw [List.getElem?_set_self hil] at hT2
   cases hT2
   exact hh k hk
  ·rw [List.getElem?_set_ne hij] at hT2
   exact h.home j T2 hT2 k hk
 ·show mGet J' k = _
  by_cases hk:shIx sh k = i
  ·rw [(hs k).1 hk,hk,List.getD_eq_getElem?_getD,List.getElem?_set_self hil]; rfl
  ·rw [(hs k).2 hk,List.getD_eq_getElem?_getD,List.getElem?_set_ne (fun e=>hk e.symm),<- List.getD_eq_getElem?_getD]
   exact h.same k
theorem goesP_of {kind:Int} {l:BL} {J:TT} (hn:l.Nodup) (h:∀ x ∈ l,jOk J now kind x = true):jGoes J now kind l = true:=by
 refine jGoes_true ⟨fun i k hki hi e=>?_,fun i hi=>h _ (getD_mem hi)⟩
 have hk:k < l.length:=by omega
 rw [List.getD_eq_getElem?_getD,List.getD_eq_getElem?_getD,List.getElem?_eq_getElem hi,List.getElem?_eq_getElem hk,Option.getD_some,Option.getD_some] at e
 exact List.pairwise_iff_getElem.1 (List.nodup_iff_pairwise_ne.1 hn) k i hk hi hki e.symm
theorem sdok_del {c:Int} {g:BL} (h:SdOk c T):SdOk c (delAll T g):=⟨delAll_tok h.tok,delAll_small (P:=fun k=>k.size <= 40) h.tok.rise h.small,by have:=delAll_len (g:=g) h.tok; have:=h.len; omega,h.c1,h.c2⟩
theorem JR.over (h:JR sh Ts s) (hT:Ts[shIx sh key]? = some T):JR sh (Ts.set (shIx sh key) (sOver T key s.now)) ⟨delAll s.T (gOver T key s.now),s.now,s.room⟩:=by
 have hS:=h.tabs T (List.mem_of_getElem? hT)
 rw [sOver_all]
 refine h.one hT (sdok_del hS) (delAll_tok h.tok) (fun k hk=>?_) (fun k=>⟨fun hk=>?_,fun hk=>?_⟩)
 ·exact h.home _ T hT k ((kT_delAll hS.tok.rise).1 hk).1
 ·by_cases hg:k ∈ gOver T key s.now
  ·rw [(get_delAll h.tok.rise).1 hg,(get_delAll hS.tok.rise).1 hg]
  ·rw [(get_delAll h.tok.rise).2 hg,(get_delAll hS.tok.rise).2 hg,h.of_home hT hk]
 ·refine (get_delAll h.tok.rise).2 fun hg=>?_
  exact hk (by rw [(gOver_mem hg).1])
theorem gOver_nodup:(gOver T key now).Nodup:=by unfold gOver; split <;> simp
theorem JR.goes_over {kind:Int} (h:JR sh Ts s) (hT:Ts[shIx sh key]? = some T) (hm:jMay kind = true):∀ x ∈ gOver T key s.now,jOk s.T s.now kind x = true:=by
 intro x hx
 obtain ⟨rfl,ho⟩:=gOver_mem hx
 have hg:=h.of_home hT rfl (k:=x)
 have ho2:tOv s.T x s.now = true:=by rw [tOv_congr hg]; exact ho
 unfold tOv at ho2
 rw [Bool.and_eq_true,Bool.not_eq_true'] at ho2
 exact jOk_ok hm (by rw [ho2.2]; simp) ho2.1
theorem over_has (hr:RiseM T):(mGet (sOver T key now) key).isSome = (tGet T key now).2:=by
 unfold sOver
 by_cases ho:tOv T key now = true
 ·rw [if_pos ho,get_del hr,if_pos rfl]
  unfold tOv at ho
  rw [Bool.and_eq_true,Bool.not_eq_true'] at ho
  rw [ho.2]; rfl
 ·rw [if_neg ho]
  unfold tOv at ho
  cases hg:(mGet T key).isSome with
  | false=>
   cases h2:(tGet T key now).2 with
   | false=>rfl
   | true=>rw [tGet_has h2] at hg; cases hg
  | true=>
   rw [hg,Bool.true_and,Bool.not_eq_true'] at ho
   cases h2:(tGet T key now).2 with
   | true=>rfl
   | false=>exact absurd h2 ho
theorem jNotes_none {o:OpV} (h2:o.kind ≠ 2) (h3:o.kind ≠ 3):jNotes s.T now o g = delAll s.T g:=by unfold jNotes; rw [if_neg h2,if_neg h3]; rfl
end
end Go.Hb
namespace Go.Hb
open Go.Proofs.YtmefopmnjncdbaaGreat
section
variable {sh:Nat} {Ts Ts':List TT} {s:JS} {T:TT} {i:Nat} {k key val:ByteArray} {g gone:BL} {now:Int} {o:OpV} {hit:Bool}
theorem jNext0:jNext s o 0 gone = ⟨jNotes s.T (jNow s.now o) o gone,jNow s.now o,jRoom s.room o⟩:=if_neg (by simp)
theorem says0 (hr:jRight s.T (jNow s.now o) o.kind o.key hit val = true) (hn:gone.Nodup) (hg:∀ x ∈ gone,jOk s.T (jNow s.now o) o.kind x = true) (hJ:JR sh Ts' (jNext s o 0 gone)):jSays sh s o 0 hit val gone = true:=by
 have h:=hJ.fits
 rw [jNext0] at h
 unfold jSays
 rw [if_neg (by simp),hr,goesP_of hn hg]
 exact h
theorem saysE {e:Int} (he:e ≠ 0):jSays sh s o e false ⟨#[]⟩ [] = true /\ jNext s o e [] = s:=by
 constructor
 ·unfold jSays; rw [if_pos he]; simp
 ·exact if_pos he
theorem jNow_same (h:o.kind ≠ 4):jNow s.now o = s.now:=by unfold jNow; rw [if_neg (by omega)]
theorem jRoom_same (h:o.kind ≠ 9):jRoom s.room o = s.room:=by unfold jRoom; rw [if_neg h]
theorem jRight_any (h1:o.kind ≠ 1) (h3:o.kind ≠ 3):jRight s.T now o.kind o.key hit val = true:=by unfold jRight; rw [if_neg h1,if_neg h3]
theorem saysN (h:JR sh Ts s) (h1:o.kind ≠ 1) (h2:o.kind ≠ 2) (h3:o.kind ≠ 3) (h4:o.kind ≠ 4) (h9:o.kind ≠ 9):jSays sh s o 0 hit val [] = true /\ jNext s o 0 [] = s:=by
 have e:jNext s o 0 [] = s:=by
  rw [jNext0,jNow_same h4,jRoom_same h9,jNotes_none h2 h3]; rfl
 exact ⟨says0 (jRight_any h1 h3) (by simp) (by simp) (Ts':=Ts) (by rw [e]; exact h),e⟩
theorem saysGet (h:JR sh Ts s) (hk:o.kind = 1) (hT:Ts[shIx sh o.key]? = some T):jSays sh s o 0 (tGet T o.key s.now).2 (tGet T o.key s.now).1 (gOver T o.key s.now) = true /\ JR sh (Ts.set (shIx sh o.key) (sOver T o.key s.now)) (jNext s o 0 (gOver T o.key s.now)):=by
 have hn:jNow s.now o = s.now:=jNow_same (by omega)
 have e:jNext s o 0 (gOver T o.key s.now) = ⟨delAll s.T (gOver T o.key s.now),s.now,s.room⟩:=by
  rw [jNext0,hn,jRoom_same (by omega),jNotes_none (by omega) (by omega)]
 have hJ:=h.over hT
 rw [<- e] at hJ
 have hg:=tGet_congr (now:=s.now) (h.of_home hT rfl)
 refine ⟨says0 ?_ gOver_nodup (fun x hx=>?_) hJ,hJ⟩
 ·unfold jRight
  rw [if_pos hk,hn,hg,sEq_eq]; simp
 ·rw [hn]; exact h.goes_over hT (by rw [hk]; rfl) x hx
theorem saysDel (h:JR sh Ts s) (hk:o.kind = 3) (hT:Ts[shIx sh o.key]? = some T) (hS:SdOk s.room (rDel (sOver T o.key s.now) o.key)):jSays sh s o 0 (mGet (sOver T o.key s.now) o.key).isSome ⟨#[]⟩ (gOver T o.key s.now) = true /\ JR sh (Ts.set (shIx sh o.key) (rDel (sOver T o.key s.now) o.key)) (jNext s o 0 (gOver T o.key s.now)):=by
 have hn:jNow s.now o = s.now:=jNow_same (by omega)
 have hTr:=(h.tabs T (List.mem_of_getElem? hT)).tok.rise
 have e:jNext s o 0 (gOver T o.key s.now) = ⟨delAll s.T (gOver T o.key s.now ++ [o.key]),s.now,s.room⟩:=by
  rw [jNext0,hn,jRoom_same (by omega)]
  unfold jNotes delAll
  rw [if_neg (by omega),if_pos hk,List.foldl_append]; rfl
 have e2:rDel (sOver T o.key s.now) o.key = delAll T (gOver T o.key s.now ++ [o.key]):=by
  rw [sOver_all]; unfold delAll; rw [List.foldl_append]; rfl
 have hm:∀ x,x ∈ gOver T o.key s.now ++ [o.key] ↔ x = o.key:=fun x=>by
  rw [List.mem_append,List.mem_singleton]
  exact ⟨fun hx=>hx.elim (fun hx=>(gOver_mem hx).1) id,.inr⟩
 have hJ:JR sh (Ts.set (shIx sh o.key) (rDel (sOver T o.key s.now) o.key)) (jNext s o 0 (gOver T o.key s.now)):=by
  rw [e2] at hS ⊢
  rw [e]
  refine h.one hT hS (delAll_tok h.tok) (fun k hk=>?_) (fun k=>⟨fun hk=>?_,fun hk=>?_⟩)
  ·exact h.home _ T hT k ((kT_delAll hTr).1 hk).1
  ·by_cases hg:k ∈ gOver T o.key s.now ++ [o.key]
   ·rw [(get_delAll h.tok.rise).1 hg,(get_delAll hTr).1 hg]
   ·rw [(get_delAll h.tok.rise).2 hg,(get_delAll hTr).2 hg,h.of_home hT hk]
  ·refine (get_delAll h.tok.rise).2 fun hg=>?_
   exact hk (by rw [(hm k).1 hg])
 have hg:=tGet_congr (now:=s.now) (h.of_home hT rfl)
 refine ⟨says0 ?_ gOver_nodup (fun x hx=>?_) hJ,hJ⟩
 ·unfold jRight
  rw [if_neg (by omega),if_pos hk,hn,hg,over_has hTr]; simp
 ·rw [hn]; exact h.goes_over hT (by rw [hk]; rfl) x hx
theorem saysPut (h:JR sh Ts s) (hk:o.kind = 2) (hT:Ts[shIx sh o.key]? = some T) (he:tErr o.key o.val s.now o.n = 0) (hg:g.Nodup) (hgT:∀ x ∈ g,x ∈ kT (sOver T o.key s.now)) (hgk:o.key ∉ g) (hS:SdOk s.room (tPut (delAll (sOver T o.key s.now) g) o.key o.val s.now o.n)) :
  jSays sh s o 0 false ⟨#[]⟩ (gOver T o.key s.now ++ g) = true /\ JR sh (Ts.set (shIx sh o.key) (tPut (delAll (sOver T o.key s.now) g) o.key o.val s.now o.n)) (jNext s o 0 (gOver T o.key s.now ++ g)):=by
 have hn:jNow s.now o = s.now:=jNow_same (by omega)
 have hTr:=(h.tabs T (List.mem_of_getElem? hT)).tok.rise
 have hGT:∀ x ∈ gOver T o.key s.now ++ g,x ∈ kT T:=fun x hx=>by
  rcases List.mem_append.1 hx with hx | hx
  ·obtain ⟨rfl,ho⟩:=gOver_mem hx
   unfold tOv at ho
   rw [Bool.and_eq_true] at ho
   exact kT_mem.2 ho.1
  ·have:=hgT x hx
   rw [sOver_all] at this
   exact ((kT_delAll hTr).1 this).1
 have e2:delAll (sOver T o.key s.now) g = delAll T (gOver T o.key s.now ++ g):=by
  rw [sOver_all]; unfold delAll; rw [List.foldl_append]
 have hnd:(gOver T o.key s.now ++ g).Nodup:=by
  rw [List.nodup_append]
  exact ⟨gOver_nodup,hg,fun x hx y hy hxy=>hgk (by rw [<- (gOver_mem hx).1,hxy]; exact hy)⟩
 rw [e2] at hS ⊢
 generalize gOver T o.key s.now ++ g = G at hS hGT hnd ⊢
 have e:jNext s o 0 G = ⟨tPut (delAll s.T G) o.key o.val s.now o.n,s.now,s.room⟩:=by
  rw [jNext0,hn,jRoom_same (by omega)]
  unfold jNotes delAll
  rw [if_pos hk]
 have hGi:∀ x ∈ G,shIx sh x = shIx sh o.key:=fun x hx=>h.home _ T hT x (hGT x hx)
 have ht1:=tPut_eq (T:=delAll s.T G) he
 have ht2:=tPut_eq (T:=delAll T G) he
 have hr1:=(delAll_tok (g:=G) h.tok).rise
 have hr2:=(delAll_tok (g:=G) (h.tabs T (List.mem_of_getElem? hT)).tok).rise
 have hJ:JR sh (Ts.set (shIx sh o.key) (tPut (delAll T G) o.key o.val s.now o.n)) (jNext s o 0 G):=by
  rw [e]
  refine h.one hT hS ((delAll_tok h.tok).put _ _ _ _) (fun k hk=>?_) (fun k=>⟨fun hk=>?_,fun hk=>?_⟩)
  ·rw [ht2,kT_put hr2] at hk
   rcases hk with hk | hk
   ·exact h.home _ T hT k ((kT_delAll hTr).1 hk).1
   ·rw [hk]
  ·rw [ht1,ht2,get_put hr1,get_put hr2]
   split
   ·rfl
   ·by_cases hg:k ∈ G
    ·rw [(get_delAll h.tok.rise).1 hg,(get_delAll hTr).1 hg]
    ·rw [(get_delAll h.tok.rise).2 hg,(get_delAll hTr).2 hg,h.of_home hT hk]
  ·rw [ht1,get_put hr1,if_neg fun e=>hk (by rw [e])]
   exact (get_delAll h.tok.rise).2 fun hg=>hk (hGi k hg)
 refine ⟨says0 (jRight_any (by omega) (by omega)) hnd (fun x hx=>?_) hJ,hJ⟩
 rw [hn,hk]
 refine jOk_ok rfl (by unfold jSoft; simp) ?_
 rw [h.of_home hT (hGi x hx)]
 exact kT_mem.1 (hGT x hx)
theorem JR.flat {gs:List BL} (h:JR sh Ts s) (hg:gs.length = sh) (hsub:∀ (i:Nat) (T:TT) (g:BL),Ts[i]? = some T -> gs[i]? = some g -> (∀ x ∈ g,x ∈ kT T) /\ g.Nodup):gs.flatten.Nodup /\ ∀ x ∈ gs.flatten,∃ (T:TT) (g:BL),Ts[shIx sh x]? = some T /\ gs[shIx sh x]? = some g /\ x ∈ g /\ mGet s.T x = mGet T x:=by
 have get:∀ (i:Nat) (g:BL),gs[i]? = some g -> ∃ T,Ts[i]? = some T:=fun i g hi=>⟨_,List.getElem?_eq_getElem (by rw [h.len,<- hg]; exact (List.getElem?_eq_some_iff.1 hi).1)⟩
 refine ⟨nodup_flatten (fun g hg=>?_) (fun i j a b ha hb hij x hx hxb=>?_),fun x hx=>?_⟩
 ·obtain ⟨i,hi⟩:=List.mem_iff_getElem?.1 hg
  obtain ⟨T,hT⟩:=get i g hi
  exact (hsub i T g hT hi).2
 ·obtain ⟨T,hT⟩:=get i a ha
  obtain ⟨T',hT'⟩:=get j b hb
  have h1:=h.home i T hT x ((hsub i T a hT ha).1 x hx)
  have h2:=h.home j T' hT' x ((hsub j T' b hT' hb).1 x hxb)
  exact hij (h1.symm.trans h2)
 ·obtain ⟨g,hgm,hx⟩:=List.mem_flatten.1 hx
  obtain ⟨i,hi⟩:=List.mem_iff_getElem?.1 hgm
  obtain ⟨T,hT⟩:=get i g hi
  have h1:=h.home i T hT x ((hsub i T g hT hi).1 x hx)
  refine ⟨T,g,by rw [h1]; exact hT,by rw [h1]; exact hi,hx,h.of_home hT h1⟩
theorem saysTick (h:JR sh Ts s) (hk:o.kind = 4) (h0:0 <= o.n) (h1:s.now + o.n <= 1125899906842624):jNow s.now o = s.now + o.n /\
  jSays sh s o 0 false ⟨#[]⟩ (Ts.map fun T=>tDue T (s.now + o.n)).flatten = true /\ JR sh (Ts.map fun T=>delAll T (tDue T (s.now + o.n))) (jNext s o 0 (Ts.map fun T=>tDue T (s.now + o.n)).flatten):=by
 have hn:jNow s.now o = s.now + o.n:=by unfold jNow; split <;> omega
 have hb:=h.now0
 have h00:0 <= s.now + o.n:=by omega
 generalize s.now + o.n = nw at *
 have e:jNext s o 0 (Ts.map fun T=>tDue T nw).flatten = ⟨delAll s.T (Ts.map fun T=>tDue T nw).flatten,nw,s.room⟩:=by
  rw [jNext0,hn,jRoom_same (by omega),jNotes_none (by omega) (by omega)]
 have hsub:∀ (i:Nat) (T:TT) (g:BL),Ts[i]? = some T -> (Ts.map fun T=>tDue T nw)[i]? = some g -> g = tDue T nw:=by
  intro i T g hT hg
  rw [List.getElem?_map,hT] at hg
  cases hg; rfl
 have hmem:∀ (T:TT) (x:ByteArray),T ∈ Ts -> x ∈ tDue T nw -> tOv T x nw = true:=fun T x hT hx=>tDue_mem (h.tabs T hT).tok.rise hx
 have hkT:∀ (T:TT) (x:ByteArray),T ∈ Ts -> x ∈ tDue T nw -> x ∈ kT T:=fun T x hT hx=>by
  have:=hmem T x hT hx
  unfold tOv at this
  rw [Bool.and_eq_true] at this
  exact kT_mem.2 this.1
 have hlen:(Ts.map fun T=>tDue T nw).length = sh:=by rw [List.length_map]; exact h.len
 have hJ:JR sh (Ts.map fun T=>delAll T (tDue T nw)) (jNext s o 0 (Ts.map fun T=>tDue T nw).flatten):=by
  rw [e]
  have hz:List.zipWith delAll Ts (Ts.map fun T=>tDue T nw) = Ts.map fun T=>delAll T (tDue T nw):=by
   rw [List.zipWith_map_right,List.zipWith_self]
  rw [<- hz]
  refine h.dels hlen (fun i T g hT hg x hx=>?_) (fun i T g hT hg=>?_) (by omega) h1
  ·rw [hsub i T g hT hg] at hx
   exact hkT T x (List.mem_of_getElem? hT) hx
  ·exact sdok_del (h.tabs T (List.mem_of_getElem? hT))
 obtain ⟨hnd,hfl⟩:=h.flat hlen fun i T g hT hg=>by
  rw [hsub i T g hT hg]
  exact ⟨fun x hx=>hkT T x (List.mem_of_getElem? hT) hx,tDue_nodup (h.tabs T (List.mem_of_getElem? hT)).tok.rise⟩
 refine ⟨hn,says0 (jRight_any (by omega) (by omega)) hnd (fun x hx=>?_) hJ,hJ⟩
 obtain ⟨T,g,hT,hg,hxg,hget⟩:=hfl x hx
 rw [hsub _ T g hT hg] at hxg
 have:=hmem T x (List.mem_of_getElem? hT) hxg
 unfold tOv at this
 rw [Bool.and_eq_true,Bool.not_eq_true'] at this
 rw [hn,hk]
 refine jOk_ok rfl ?_ (by rw [hget]; exact this.1)
 rw [tGet_congr hget,this.2]; simp
theorem saysRes {gs:List BL} (h:JR sh Ts s) (hk:o.kind = 9) (hg:gs.length = sh) (hsub:∀ (i:Nat) (T:TT) (g:BL),Ts[i]? = some T -> gs[i]? = some g -> (∀ x ∈ g,x ∈ kT T) /\ g.Nodup)
  (hok:∀ (i:Nat) (T:TT) (g:BL),Ts[i]? = some T -> gs[i]? = some g -> SdOk o.n (delAll T g)) :
  jSays sh s o 0 false ⟨#[]⟩ gs.flatten = true /\ JR sh (List.zipWith delAll Ts gs) (jNext s o 0 gs.flatten):=by
 have hn:jNow s.now o = s.now:=jNow_same (by omega)
 have e:jNext s o 0 gs.flatten = ⟨delAll s.T gs.flatten,s.now,o.n⟩:=by
  rw [jNext0,hn,jNotes_none (by omega) (by omega)]
  unfold jRoom; rw [if_pos hk]
 have hJ:JR sh (List.zipWith delAll Ts gs) (jNext s o 0 gs.flatten):=by
  rw [e]
  exact h.dels hg (fun i T g hT hg=>(hsub i T g hT hg).1) hok h.now0 h.nowM
 obtain ⟨hnd,hfl⟩:=h.flat hg hsub
 refine ⟨says0 (jRight_any (by omega) (by omega)) hnd (fun x hx=>?_) hJ,hJ⟩
 obtain ⟨T,g,hT,hg,hxg,hget⟩:=hfl x hx
 rw [hn,hk]
 refine jOk_ok rfl (by unfold jSoft; simp) ?_
 rw [hget]
 exact kT_mem.1 ((hsub _ T g hT hg).1 x hxg)
theorem JR.gone_in {e:Int} (h:JR sh Ts s) (hs:jSays sh s o e hit val gone = true):(∀ x ∈ gone,x.size <= 40) /\ gone.length <= 9000:=by
 have hk:∀ x ∈ kT s.T,x.size <= 40:=fun x hx=>by
  obtain ⟨T,hT,hg⟩:=h.at_ x
  have:x ∈ kT T:=by rw [kT_mem,<- hg]; exact kT_mem.1 hx
  obtain ⟨e,he,rfl⟩:=List.mem_map.1 this
  exact (h.tabs T (List.mem_of_getElem? hT)).small e he
 have hl:(kT s.T).length <= 8192:=by
  have hsub:∀ k ∈ kT s.T,k ∈ (Ts.map kT).flatten:=fun k hk=>by
   obtain ⟨T,h1,h2⟩:=h.at_ k
   refine List.mem_flatten.2 ⟨kT T,List.mem_map_of_mem (List.mem_of_getElem? h1),?_⟩
   rw [kT_mem,<- h2]; exact kT_mem.1 hk
  have h1:=nodup_sub_len h.tok.rise.nodup hsub
  have h2:(Ts.map kT).flatten.length <= (Ts.map kT).length * 1024:=len_flatten fun l hl=>by
   obtain ⟨T,hT,rfl⟩:=List.mem_map.1 hl
   have:=(h.tabs T hT).len
   have:=(h.tabs T hT).c2
   unfold kT
   rw [List.length_map]; omega
  rw [List.length_map,h.len] at h2
  have h8:=h.sh8
  have e:(kT s.T).length = (s.T.map (·.1)).length:=rfl
  rw [e]
  have:sh * 1024 <= 8 * 1024:=Nat.mul_le_mul_right _ h8
  omega
 by_cases he:e = 0
 ·subst he
  unfold jSays at hs
  rw [if_neg (by simp),Bool.and_eq_true,Bool.and_eq_true] at hs
  have hg:GoesP s.T (jNow s.now o) o.kind gone:=by
   have:=hs.1.2
   unfold jGoes at this
   exact @of_decide_eq_true _ (Classical.propDecidable _) this
  have hsub:∀ x ∈ gone,x ∈ kT s.T:=fun x hx=>by
   obtain ⟨i,hi⟩:=List.mem_iff_getElem?.1 hx
   obtain ⟨hil,hi⟩:=List.getElem?_eq_some_iff.1 hi
   have h2:=hg.2 i hil
   rw [List.getD_eq_getElem?_getD,List.getElem?_eq_getElem hil,hi,Option.getD_some] at h2
   unfold jOk at h2
   rw [Bool.and_eq_true] at h2
   exact kT_mem.2 h2.2
  have hnd:gone.Nodup:=by
   rw [List.nodup_iff_pairwise_ne,List.pairwise_iff_getElem]
   intro k i hk hi hki e
   refine hg.1 i k hki hi ?_
   rw [List.getD_eq_getElem?_getD,List.getElem?_eq_getElem hi,List.getD_eq_getElem?_getD,List.getElem?_eq_getElem hk,e]
  exact ⟨fun x hx=>hk x (hsub x hx),by have:=nodup_sub_len hnd hsub; omega⟩
 ·unfold jSays at hs
  rw [if_pos he,Bool.and_eq_true,decide_eq_true_eq,List.length_eq_zero_iff] at hs
  rw [hs.2]
  exact ⟨by simp,by simp⟩
theorem JR.new {room:Int} (h1:1 <= sh) (h8:sh <= 8) (hr:1 <= room) (hr2:room <= 1024):JR sh (List.replicate sh []) ⟨[],0,room⟩:=by
 have ht:TOk ([]:TT):=⟨by simp [RiseM,Rising],by simp,by simp⟩
 refine ⟨by simp,h1,h8,ht,fun T hT=>?_,fun i T hT k hk=>?_,fun k=>?_,Int.le_refl 0,(by show (0:Int) <= 1125899906842624; decide)⟩
 ·obtain rfl:=(List.mem_replicate.1 hT).2
  exact ⟨ht,by simp,by simp; omega,hr,hr2⟩
 ·obtain rfl:=(List.mem_replicate.1 (List.mem_of_getElem? hT)).2
  simp [kT] at hk
 ·have e:(List.replicate sh ([]:TT)).getD (shIx sh k) [] = []:=by
   rw [List.getD_eq_getElem?_getD,List.getElem?_replicate]; split <;> rfl
  show mGet [] k = _
  rw [e]
end
end Go.Hb
namespace Go.Hb
def jgR (b:Nat) (sh:Int) (s:JS):HP:=exH fun (tb:Nat)=>allH [blk b [.pointer (some ⟨tb,0,none⟩),.int .i64 sh,.int .i64 s.room,.int .i64 s.now],tabR tb s.T]
section
variable {b:Nat} {sh:Int} {s:JS} {W w:World} {M L:List HP}
instance At.jgR:At (jgR b sh s::L) b (jgR b sh s) (fun x=>x::L):=⟨here_pos⟩
theorem jg_open (h:Sat W w (jgR b sh s::M)):∃ tb,Sat W w (blk b [.pointer (some ⟨tb,0,none⟩),.int .i64 sh,.int .i64 s.room,.int .i64 s.now]::tabR tb s.T::M):=by
 obtain ⟨tb,h⟩:=h.openE
 exact ⟨tb,h.openL⟩
theorem jg_shut {T:TT} {now room:Int} (tb:Nat) (h:Sat W w (blk b [.pointer (some ⟨tb,0,none⟩),.int .i64 sh,.int .i64 room,.int .i64 now]::tabR tb T::M)):Sat W w (jgR b sh ⟨T,now,room⟩::M):=
 Sat.shutE tb (Sat.shutL (Ps:=[_,_]) h)
theorem reads0 {s:Sl} {rows:List ByteArray} (h:ReadsR0 W s Rec.str rows) {i:Nat} (hi:i < rows.length):ReadsR W s Rec.str rows:=by
 rcases h.2 with h1 | h1
 ·subst h1; simp at hi
 ·exact h1
def mapKT (P:Program) (t:TypeId):TypeId × TypeId:=match P.underlying t with
 | some (.map k e)=>(k,e)
 | _=>(0,0)
end
end Go.Hb
namespace Go.Proofs.YtmefopmnjncdbaaGreat
open Go.Hb Go.IntWalk
section
variable {W w:World} {L M:List HP} {F:HP -> List HP} {b:Nat} {sh room err:Int} {s:JS} {hit:Bool} {val k:ByteArray} {o:OpV} {sl:Sl} {gone:List ByteArray}
theorem jg_New (hs:Sat W w L):Calls Tryz.prog 13 #[.int .i64 sh,.int .i64 room] w fun e w'=>∃ b,e = .returned (.pointer (some ⟨b,0,none⟩)) /\ Sat W w' (jgR b sh ⟨[],0,room⟩::L):=by
 refine (cw f13_ok f13_raw (Q:=fun v w'=>∃ b,v = .pointer (some ⟨b,0,none⟩) /\ Sat W w' (jgR b sh ⟨[],0,room⟩::L)) ?_).mono fun e w' ⟨v,he,b,hv,hs⟩=>⟨b,by rw [he,hv],hs⟩
 refine call1_of (tab_New hs) fun e w ⟨tb,he,hs⟩=>⟨_,he,?_⟩
 repeat (first | ((with_reducible refine isNew ?_); first | refine newB_at hs fun b_ w hs=>?_ | fail) | fail)
 exact ⟨_,rfl,jg_shut tb hs⟩
theorem jg_tells (h:Sat W w L) [hA:At L b (jgR b sh s) F] (hz:o.key.size < 4611686018427387904):Calls Tryz.prog 32 #[.pointer (some ⟨b,0,none⟩),.agg #[.int .i64 o.kind,.string o.key,.string o.val,.int .i64 o.n],.agg #[.int .i64 err,.bool hit,.string val,.slice sl.a sl.n sl.c]] w fun e w'=>e = .returned (.bool (jRight s.T s.now o.kind o.key hit val)) /\ Sat W w' (F (jgR b sh s)):=by
 refine At.call1 (hA:=hA) h fun M hs=>?_
 clear h hA
 refine c1 (cw f32_ok f32_raw ?_)
 obtain ⟨tb,hs⟩:=jg_open hs
 repeat (first | with_reducible refine nilck_some ?_ | ((with_reducible refine atLd ?_); first | refine ld_b hs ?_ | fail) | ((with_reducible refine isNew ?_); first | refine newB_at hs fun b_ w hs=>?_ | fail) | ((with_reducible refine isLdS ?_); first | refine ldS_b ?_ | fail) | ((with_reducible refine isKeep ?_); first | refine keep_of hs ?_ | fail) | ((with_reducible refine isDraw ?_); first | refine drawW_sat hs fun w hs=>?_ | fail) | fail)
 refine call2_of (tab_Get hs hz) fun e w ⟨he,hs⟩=>⟨_,_,he,?_⟩
 repeat (first | ((with_reducible refine atLd ?_); first | refine ld_b hs ?_ | fail) | fail)
 by_cases h1:o.kind = 1
 ·refine ite_true (by simpa using h1) ?_
  repeat (first | ((with_reducible refine atLd ?_); first | refine ld_b hs ?_ | fail) | fail)
  cases h2:(hit == (tGet s.T o.key s.now).2) with
  | true=>
   refine ite_true rfl ?_
   repeat (first | ((with_reducible refine atLd ?_); first | refine ld_b hs ?_ | fail) | fail)
   refine ⟨?_,jg_shut tb (by exact Sat.fin hs)⟩
   unfold jRight; rw [if_pos h1,h2]; simp
  | false=>
   refine ite_false rfl ⟨?_,jg_shut tb (by exact Sat.fin hs)⟩
   unfold jRight; rw [if_pos h1,h2]; simp
 ·refine ite_false (by simpa using h1) ?_
  by_cases h3:o.kind = 3
  ·refine ite_true (by simpa using h3) ?_
   repeat (first | ((with_reducible refine atLd ?_); first | refine ld_b hs ?_ | fail) | fail)
   refine ⟨?_,jg_shut tb (by exact Sat.fin hs)⟩
   unfold jRight; rw [if_neg h1,if_pos h3]
  ·refine ite_false (by simpa using h3) ⟨?_,jg_shut tb (by exact Sat.fin hs)⟩
   unfold jRight; rw [if_neg h1,if_neg h3]
theorem prod_in {a c:Int} (h0:0 <= a) (h1:a <= 1048576) (h2:0 <= c) (h3:c <= 1048576):IntKind.wrap .i64 (a * c) = a * c:=by
 have h4:a * c <= 1048576 * 1048576:=Int.mul_le_mul h1 h3 h2 (by omega)
 have h5:0 <= a * c:=Int.mul_nonneg h0 h2
 exact i64_in _ (by omega)
theorem jg_fits (h:Sat W w L) [hA:At L b (jgR b sh s) F]:Calls Tryz.prog 35 #[.pointer (some ⟨b,0,none⟩)] w fun e w'=>e = .returned (.bool (jFits s.T sh s.room)) /\ Sat W w' (F (jgR b sh s)):=by
 refine At.call1 (hA:=hA) h fun M hs=>?_
 clear h hA
 refine c1 (cw f35_ok f35_raw ?_)
 unfold jFits
 obtain ⟨tb,hs⟩:=jg_open hs
 repeat (first | with_reducible refine nilck_some ?_ | ((with_reducible refine atLd ?_); first | refine ld_b hs ?_ | fail) | fail)
 with_reducible refine ite_ltI (fun h1=>?_) (fun h1=>?_)
 ·exact ⟨by rw [if_pos (.inl h1)],jg_shut tb (by exact Sat.fin hs)⟩
 repeat (first | with_reducible refine nilck_some ?_ | ((with_reducible refine atLd ?_); first | refine ld_b hs ?_ | fail) | fail)
 with_reducible refine ite_ltI (fun h2=>?_) (fun h2=>?_)
 ·exact ⟨by rw [if_pos (by omega)],jg_shut tb (by exact Sat.fin hs)⟩
 repeat (first | with_reducible refine nilck_some ?_ | ((with_reducible refine atLd ?_); first | refine ld_b hs ?_ | fail) | fail)
 with_reducible refine ite_ltI (fun h3=>?_) (fun h3=>?_)
 ·exact ⟨by rw [if_pos (by omega)],jg_shut tb (by exact Sat.fin hs)⟩
 repeat (first | with_reducible refine nilck_some ?_ | ((with_reducible refine atLd ?_); first | refine ld_b hs ?_ | fail) | fail)
 with_reducible refine ite_ltI (fun h4=>?_) (fun h4=>?_)
 ·exact ⟨by rw [if_pos (by omega)],jg_shut tb (by exact Sat.fin hs)⟩
 refine jw f35_j1_raw ?_
 rw [if_neg (by omega)]
 repeat (first | with_reducible refine nilck_some ?_ | ((with_reducible refine isLdS ?_); first | refine ldS_b ?_ | fail) | ((with_reducible refine isDraw ?_); first | refine drawW_sat hs fun w hs=>?_ | fail) | fail)
 refine call1_of (tab_Len hs) fun e w ⟨he,hs⟩=>⟨_,he,?_⟩
 repeat (first | ((with_reducible refine isKeep ?_); first | refine keep_of hs ?_ | fail) | fail)
 rw [prod_in (by omega) (by omega) (by omega) (by omega)]
 exact ⟨rfl,jg_shut tb (by exact Sat.fin hs)⟩
end
end Go.Proofs.YtmefopmnjncdbaaGreat
