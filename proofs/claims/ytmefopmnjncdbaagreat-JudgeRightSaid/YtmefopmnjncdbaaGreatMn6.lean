import Derived.OpenShut
import Derived.IntWalk
import Derived.Sort.EncStr
import Derived.Sort.Grow
import Derived.Sort.Walk0
import Derived.Test.YtmefopmnjncdbaaGreatMn5
set_option linter.unusedVariables false
set_option linter.unusedSimpArgs false
set_option linter.unnecessarySimpa false
set_option linter.unusedSectionVars false
set_option maxRecDepth 100000
namespace Go.Hb
structure Pl (V:Type) where
 is_:Int
 key:ByteArray
 v:V
instance {V:Type} [Inhabited V]:Inhabited (Pl V):=⟨⟨0,⟨#[]⟩,default⟩⟩
def plR {V:Type} (RV:Rec V):Rec (Pl V):=⟨2 + RV.sz,fun p=>.int .i64 p.is_::.string p.key::RV.cells p.v,fun p=>by simp [RV.len]; omega⟩
instance {V:Type} {RV:Rec V}:PosR (plR RV):=⟨by show 0 < 2 + _; omega⟩
section
variable {V:Type} [Inhabited V]
def isAt (ps:List (Pl V)) (i:Nat):Int:=(ps.getD i default).is_
def keyAt (ps:List (Pl V)) (i:Nat):ByteArray:=(ps.getD i default).key
def findP (ps:List (Pl V)) (k:ByteArray):Nat -> Option Nat -> Nat -> Nat × Bool
 | 0,_,i=>(i,false)
 | f + 1,free,i=>
  if isAt ps i = 2 /\ keyAt ps i = k then (i,true)
  else if isAt ps i = 1 /\ free = none then findP ps k f (some i) ((i + 1) % ps.length)
  else if isAt ps i = 0 then (free.getD i,false)
  else findP ps k f free ((i + 1) % ps.length)
def hitAt (ps:List (Pl V)) (k:ByteArray) (i:Nat):Prop:=isAt ps i = 2 /\ keyAt ps i = k
theorem step_mod (i e n:Nat):((i + 1) % n + e) % n = (i + (e + 1)) % n:=by
 rw [Nat.mod_add_mod]; congr 1; omega
theorem findP_true (ps:List (Pl V)) (k:ByteArray):∀ (f:Nat) (free:Option Nat) (i:Nat),i < ps.length -> (findP ps k f free i).2 = true -> hitAt ps k (findP ps k f free i).1 /\ (findP ps k f free i).1 < ps.length
 | 0,_,_,_,h=>by simp [findP] at h
 | f + 1,free,i,hi,h=>by
  have hm:(i + 1) % ps.length < ps.length:=Nat.mod_lt _ (by omega)
  unfold findP at h ⊢
  split at h
  ·rename_i h1; rw [if_pos h1]; exact ⟨h1,hi⟩
  ·rename_i h1; rw [if_neg h1]
   split at h
   ·rename_i h2; rw [if_pos h2]; exact findP_true ps k f _ _ hm h
   ·rename_i h2; rw [if_neg h2]
    split at h
    ·simp at h
    ·rename_i h3; rw [if_neg h3]; exact findP_true ps k f _ _ hm h
theorem findP_false (ps:List (Pl V)) (k:ByteArray):∀ (f:Nat) (free:Option Nat) (i:Nat),i < ps.length -> (∃ e,e < f /\ isAt ps ((i + e) % ps.length) = 0) -> (findP ps k f free i).2 = false ->
  ∃ d,isAt ps ((i + d) % ps.length) = 0 /\ (∀ e,e < d -> isAt ps ((i + e) % ps.length) ≠ 0 /\ ¬ hitAt ps k ((i + e) % ps.length)) /\
   (∀ j,free = some j -> (findP ps k f free i).1 = j) /\ (free = none -> ∃ e,e <= d /\ (findP ps k f free i).1 = (i + e) % ps.length /\ isAt ps ((i + e) % ps.length) ≠ 2)
 | 0,_,_,_,⟨e,he,_⟩,_=>by omega
 | f + 1,free,i,hi,⟨e,he,hz⟩,h=>by
  have hm:(i + 1) % ps.length < ps.length:=Nat.mod_lt _ (by omega)
  have hi0:(i + 0) % ps.length = i:=by rw [Nat.add_zero,Nat.mod_eq_of_lt hi]
  have next:isAt ps i ≠ 0 -> ∃ e',e' < f /\ isAt ps (((i + 1) % ps.length + e') % ps.length) = 0:=by
   intro hne
   cases e with
   | zero=>rw [hi0] at hz; exact absurd hz hne
   | succ e=>exact ⟨e,by omega,by rw [step_mod]; exact hz⟩
  unfold findP at h ⊢
  split at h
  ·simp at h
  rename_i h1
  rw [if_neg h1]
  split at h
  ·rename_i h2
   rw [if_pos h2]
   obtain ⟨d,d1,d2,d3,d4⟩:=findP_false ps k f (some i) _ hm (next (by rw [h2.1]; decide)) h
   refine ⟨d + 1,by rw [step_mod] at d1; exact d1,fun e he=>?_,fun j hj=>(by rw [h2.2] at hj; cases hj),fun _=>?_⟩
   ·cases e with
    | zero=>rw [hi0]; exact ⟨by rw [h2.1]; decide,h1⟩
    | succ e=>have:=d2 e (by omega); rw [step_mod] at this; exact this
   ·exact ⟨0,by omega,by rw [hi0]; exact d3 i rfl,by rw [hi0,h2.1]; decide⟩
  ·rename_i h2
   rw [if_neg h2]
   split at h
   ·rename_i h3
    rw [if_pos h3]
    refine ⟨0,by rw [hi0]; exact h3,fun e he=>by omega,fun j hj=>by rw [hj]; rfl,fun hf=>⟨0,by omega,by rw [hf,hi0]; rfl,by rw [hi0,h3]; decide⟩⟩
   ·rename_i h3
    rw [if_neg h3]
    obtain ⟨d,d1,d2,d3,d4⟩:=findP_false ps k f free _ hm (next h3) h
    refine ⟨d + 1,by rw [step_mod] at d1; exact d1,fun e he=>?_,d3,fun hf=>?_⟩
    ·cases e with
     | zero=>rw [hi0]; exact ⟨h3,h1⟩
     | succ e=>have:=d2 e (by omega); rw [step_mod] at this; exact this
    ·obtain ⟨e,e1,e2,e3⟩:=d4 hf
     exact ⟨e + 1,by omega,by rw [e2,step_mod],by rw [step_mod] at e3; exact e3⟩
def optP (p:Pl V):List (ByteArray × V):=if p.is_ = 2 then [(p.key,p.v)] else []
theorem optP_pos {p:Pl V} (h:p.is_ = 2):optP p = [(p.key,p.v)]:=if_pos h
theorem optP_neg {p:Pl V} (h:p.is_ ≠ 2):optP p = []:=if_neg h
def fullP (ps:List (Pl V)):List (ByteArray × V):=ps.flatMap optP
theorem fullP_append (a b:List (Pl V)):fullP (a ++ b) = fullP a ++ fullP b:=by simp [fullP]
theorem split_at {α:Type} [Inhabited α] {l:List α} {i:Nat} (h:i < l.length):l = l.take i ++ l.getD i default::l.drop (i + 1):=by
 rw [List.getD_eq_getElem?_getD,List.getElem?_eq_getElem h]; simp
theorem set_split {α:Type} {l:List α} {i:Nat} (h:i < l.length) (a:α):l.set i a = l.take i ++ a::l.drop (i + 1):=by
 rw [List.set_eq_take_append_cons_drop,if_pos h]
theorem fullP_at {ps:List (Pl V)} {i:Nat} (h:i < ps.length):(fullP ps).Perm (optP (ps.getD i default) ++ fullP (ps.take i ++ ps.drop (i + 1))):=by
 have:fullP ps = fullP (ps.take i) ++ (optP (ps.getD i default) ++ fullP (ps.drop (i + 1))):=by
  conv=>lhs; rw [split_at h]
  rw [fullP_append]; rfl
 rw [this,fullP_append]
 rw [<- List.append_assoc,<- List.append_assoc]
 exact List.Perm.append_right _ List.perm_append_comm
theorem fullP_set {ps:List (Pl V)} {i:Nat} (h:i < ps.length) (p:Pl V):(fullP (ps.set i p)).Perm (optP p ++ fullP (ps.take i ++ ps.drop (i + 1))):=by
 have:fullP (ps.set i p) = fullP (ps.take i) ++ (optP p ++ fullP (ps.drop (i + 1))):=by
  rw [set_split h,fullP_append]; rfl
 rw [this,fullP_append]
 rw [<- List.append_assoc,<- List.append_assoc]
 exact List.Perm.append_right _ List.perm_append_comm
def usedP (ps:List (Pl V)):Nat:=ps.countP fun p=>decide (p.is_ ≠ 0)
theorem usedP_set {ps:List (Pl V)} {i:Nat} (h:i < ps.length) (p:Pl V) (hp:p.is_ ≠ 0):usedP (ps.set i p) = usedP ps + (if isAt ps i = 0 then 1 else 0):=by
 have h1:usedP ps = usedP (ps.take i) + ((if isAt ps i = 0 then 0 else 1) + usedP (ps.drop (i + 1))):=by
  conv=>lhs; rw [split_at h]
  unfold usedP isAt
  rw [List.countP_append,List.countP_cons]
  by_cases h0:(ps.getD i default).is_ = 0 <;> simp [h0] <;> omega
 have h2:usedP (ps.set i p) = usedP (ps.take i) + (1 + usedP (ps.drop (i + 1))):=by
  rw [set_split h]
  unfold usedP
  rw [List.countP_append,List.countP_cons]
  simp [hp]; omega
 rw [h1,h2]; split <;> omega
theorem usedP_empty {ps:List (Pl V)} (h:usedP ps < ps.length):∃ i,i < ps.length /\ isAt ps i = 0:=by
 unfold usedP at h
 induction ps with
 | nil=>simp at h
 | cons p ps ih=>
  by_cases hp:p.is_ = 0
  ·exact ⟨0,by simp,hp⟩
  ·rw [List.countP_cons,if_pos (by simp [hp])] at h
   simp only [List.length_cons] at h
   obtain ⟨i,hi,hz⟩:=ih (by omega)
   exact ⟨i + 1,by simpa using hi,hz⟩
theorem isAt_set {ps:List (Pl V)} {i j:Nat} (h:i < ps.length) (p:Pl V):isAt (ps.set i p) j = if j = i then p.is_ else isAt ps j:=by
 unfold isAt
 rw [List.getD_eq_getElem?_getD,List.getElem?_set,List.getD_eq_getElem?_getD]
 by_cases e:i = j
 ·subst e; simp [h]
 ·rw [if_neg e,if_neg (Ne.symm e)]
theorem keyAt_set {ps:List (Pl V)} {i j:Nat} (h:i < ps.length) (p:Pl V):keyAt (ps.set i p) j = if j = i then p.key else keyAt ps j:=by
 unfold keyAt
 rw [List.getD_eq_getElem?_getD,List.getElem?_set,List.getD_eq_getElem?_getD]
 by_cases e:i = j
 ·subst e; simp [h]
 ·rw [if_neg e,if_neg (Ne.symm e)]
structure IxInv (st:ByteArray -> Nat) (ps:List (Pl V)) (m:List (ByteArray × V)):Prop where
 big:8 <= ps.length
 small:ps.length < 4611686018427387904
 start:∀ k,st k < ps.length
 perm:(fullP ps).Perm m
 nodup:(m.map (·.1)).Nodup
 reach:∀ i,i < ps.length -> isAt ps i = 2 -> ∃ e,i = (st (keyAt ps i) + e) % ps.length /\ ∀ e',e' < e -> isAt ps ((st (keyAt ps i) + e') % ps.length) ≠ 0
 room:usedP ps < ps.length
section
variable {st:ByteArray -> Nat} {ps:List (Pl V)} {m:List (ByteArray × V)}
theorem IxInv.stop (h:IxInv st ps m) (k:ByteArray):∃ e,e < ps.length /\ isAt ps ((st k + e) % ps.length) = 0:=by
 obtain ⟨i,hi,hz⟩:=usedP_empty h.room
 have hs:=h.start k
 by_cases hle:st k <= i
 ·exact ⟨i - st k,by omega,by rw [show st k + (i - st k) = i by omega,Nat.mod_eq_of_lt hi]; exact hz⟩
 ·refine ⟨i + ps.length - st k,by omega,?_⟩
  rw [show st k + (i + ps.length - st k) = i + ps.length by omega,Nat.add_mod_right,Nat.mod_eq_of_lt hi]; exact hz
def findI (st:ByteArray -> Nat) (ps:List (Pl V)) (k:ByteArray):Nat × Bool:=findP ps k ps.length none (st k)
theorem mem_full {i:Nat} (hi:i < ps.length) (h2:isAt ps i = 2):(keyAt ps i,(ps.getD i default).v) ∈ fullP ps:=by
 refine (fullP_at hi).symm.subset ?_
 have:optP (ps.getD i default) = [(keyAt ps i,(ps.getD i default).v)]:=optP_pos h2
 rw [this]; simp
theorem full_mem {e:ByteArray × V} (h:e ∈ fullP ps):∃ i,i < ps.length /\ isAt ps i = 2 /\ keyAt ps i = e.1 /\ (ps.getD i default).v = e.2:=by
 unfold fullP at h
 rw [List.mem_flatMap] at h
 obtain ⟨p,hp,he⟩:=h
 obtain ⟨i,hi,rfl⟩:=List.mem_iff_getElem.1 hp
 unfold optP at he
 split at he
 ·rename_i h2
  simp only [List.mem_singleton] at he
  have hg:ps.getD i default = ps[i]:=by rw [List.getD_eq_getElem?_getD,List.getElem?_eq_getElem hi]; rfl
  refine ⟨i,hi,by unfold isAt; rw [hg]; exact h2,by unfold keyAt; rw [hg,he],by rw [hg,he]⟩
 ·cases he
def mGet (m:List (ByteArray × V)) (k:ByteArray):Option V:=(m.find? fun e=>decide (e.1 = k)).map (·.2)
theorem mGet_some {k:ByteArray} {v:V} (hn:(m.map (·.1)).Nodup):mGet m k = some v ↔ (k,v) ∈ m:=by
 unfold mGet
 induction m with
 | nil=>simp
 | cons e m ih=>
  simp only [List.map_cons,List.nodup_cons] at hn
  rw [List.find?_cons]
  by_cases he:e.1 = k
  ·subst he
   simp only [decide_true,Option.map_some,Option.some.injEq]
   constructor
   ·rintro rfl; simp
   ·intro h
    rcases List.mem_cons.1 h with h | h
    ·exact (congrArg Prod.snd h).symm
    ·exact absurd (List.mem_map_of_mem (f:=(·.1)) h) hn.1
  ·simp only [he,decide_false]
   rw [ih hn.2]
   constructor
   ·exact fun h=>List.mem_cons_of_mem _ h
   ·intro h
    rcases List.mem_cons.1 h with h | h
    ·subst h; exact absurd rfl he
    ·exact h
theorem mGet_none {k:ByteArray}:mGet m k = none ↔ ∀ e ∈ m,e.1 ≠ k:=by
 unfold mGet
 simp
theorem mGet_perm {m':List (ByteArray × V)} (hn:(m.map (·.1)).Nodup) (hp:m.Perm m') (k:ByteArray):mGet m k = mGet m' k:=by
 have hn':(m'.map (·.1)).Nodup:=(hp.map _).nodup_iff.1 hn
 cases h:mGet m k with
 | some v=>exact ((mGet_some hn').2 (hp.subset ((mGet_some hn).1 h))).symm
 | none=>exact (mGet_none.2 fun e he=>mGet_none.1 h e (hp.symm.subset he)).symm
theorem IxInv.hit (h:IxInv st ps m) {k:ByteArray} (hf:(findI st ps k).2 = true):(findI st ps k).1 < ps.length /\ hitAt ps k (findI st ps k).1 /\ mGet m k = some (ps.getD (findI st ps k).1 default).v:=by
 obtain ⟨h1,h2⟩:=findP_true ps k ps.length none (st k) (h.start k) hf
 refine ⟨h2,h1,(mGet_some h.nodup).2 ?_⟩
 have:=mem_full (i:=(findI st ps k).1) h2 h1.1
 rw [show keyAt ps (findI st ps k).1 = k from h1.2] at this
 exact h.perm.subset this
theorem IxInv.miss (h:IxInv st ps m) {k:ByteArray} (hf:(findI st ps k).2 = false):(findI st ps k).1 < ps.length /\ isAt ps (findI st ps k).1 ≠ 2 /\ mGet m k = none /\
  ∃ e,(findI st ps k).1 = (st k + e) % ps.length /\ ∀ e',e' < e -> isAt ps ((st k + e') % ps.length) ≠ 0:=by
 obtain ⟨d,d1,d2,_,d4⟩:=findP_false ps k ps.length none (st k) (h.start k) (h.stop k) hf
 obtain ⟨e,e1,e2,e3⟩:=d4 rfl
 have hp:0 < ps.length:=by have:=h.big; omega
 have hfe:(findI st ps k).1 = (st k + e) % ps.length:=e2
 refine ⟨by rw [hfe]; exact Nat.mod_lt _ hp,by rw [hfe]; exact e3,?_,e,hfe,fun e' he'=>(d2 e' (by omega)).1⟩
 rw [mGet_none]
 intro x hx hk
 obtain ⟨i,hi,i2,ik,_⟩:=full_mem (h.perm.symm.subset hx)
 obtain ⟨a,a1,a2⟩:=h.reach i hi i2
 rw [ik,hk] at a1 a2
 by_cases hda:d < a
 ·exact a2 d hda d1
 ·by_cases hde:d = a
  ·subst hde; rw [<- a1,i2] at d1; cases d1
  ·have:=(d2 a (by omega)).2
   rw [<- a1] at this
   exact this ⟨i2,by rw [ik,hk]⟩
def mSet (m:List (ByteArray × V)) (k:ByteArray) (v:V):List (ByteArray × V):=m.map fun e=>if e.1 = k then (k,v) else e
def mDel (m:List (ByteArray × V)) (k:ByteArray):List (ByteArray × V):=m.filter fun e=>decide (e.1 ≠ k)
def mPut (m:List (ByteArray × V)) (k:ByteArray) (v:V):List (ByteArray × V):=match mGet m k with
 | some _=>mSet m k v
 | none=>(k,v)::m
theorem mSet_keys (m:List (ByteArray × V)) (k:ByteArray) (v:V):(mSet m k v).map (·.1) = m.map (·.1):=by
 unfold mSet
 rw [List.map_map]
 apply List.map_congr_left
 intro e _
 simp only [Function.comp]
 split
 ·rename_i h; exact h.symm
 ·rfl
theorem perm_one {j:Nat} {k:ByteArray} (hj:j < ps.length) (hit:hitAt ps k j) (hp:(fullP ps).Perm m):((k,(ps.getD j default).v)::fullP (ps.take j ++ ps.drop (j + 1))).Perm m:=by
 have h1:=(fullP_at hj).symm.trans hp
 have:optP (ps.getD j default) = [(k,(ps.getD j default).v)]:=by rw [<- hit.2]; exact optP_pos hit.1
 rw [this] at h1; exact h1
theorem IxInv.set (h:IxInv st ps m) {k:ByteArray} {v:V} {j:Nat} (hj:j < ps.length) (hit:hitAt ps k j):IxInv st (ps.set j { ps.getD j default with v:=v }) (mSet m k v):=by
 have h0:=perm_one hj hit h.perm
 have hn:=(h0.map (·.1)).nodup_iff.2 h.nodup
 simp only [List.map_cons,List.nodup_cons] at hn
 have hset:(fullP (ps.set j { ps.getD j default with v:=v })).Perm ((k,v)::fullP (ps.take j ++ ps.drop (j + 1))):=by
  have:=fullP_set hj { ps.getD j default with v:=v }
  have e:optP { ps.getD j default with v:=v } = [(k,v)]:=by rw [<- hit.2]; exact optP_pos (p:={ ps.getD j default with v:=v }) hit.1
  rw [e] at this; exact this
 have hm:(mSet m k v).Perm ((k,v)::fullP (ps.take j ++ ps.drop (j + 1))):=by
  have h1:(mSet m k v).Perm (mSet ((k,(ps.getD j default).v)::fullP (ps.take j ++ ps.drop (j + 1))) k v):=(h0.map _).symm
  refine h1.trans ?_
  unfold mSet
  rw [List.map_cons,if_pos rfl]
  rw [List.map_congr_left (g:=id) (fun e he=>?_),List.map_id]
  rw [if_neg]; rfl
  intro hk
  exact hn.1 (by rw [<- hk]; exact List.mem_map_of_mem he)
 have hi:∀ x,isAt (ps.set j { ps.getD j default with v:=v }) x = isAt ps x:=by
  intro x; rw [isAt_set hj]; split
  ·rename_i e; subst e; rfl
  ·rfl
 have hk:∀ x,keyAt (ps.set j { ps.getD j default with v:=v }) x = keyAt ps x:=by
  intro x; rw [keyAt_set hj]; split
  ·rename_i e; subst e; rfl
  ·rfl
 refine ⟨by rw [List.length_set]; exact h.big,by rw [List.length_set]; exact h.small,by rw [List.length_set]; exact h.start,hset.trans hm.symm,by rw [mSet_keys]; exact h.nodup,?_,?_⟩
 ·intro i hil h2
  rw [List.length_set] at hil ⊢
  rw [hi] at h2
  simp only [hi,hk]
  exact h.reach i hil h2
 ·rw [usedP_set hj _ (by show isAt ps j ≠ 0; rw [hit.1]; decide),List.length_set,if_neg (by rw [hit.1]; decide)]
  exact h.room
theorem reach_set {p:Pl V} {j:Nat} (h:IxInv st ps m) (hj:j < ps.length) (hp:p.is_ ≠ 0) (hnew:p.is_ = 2 -> ∃ e,j = (st p.key + e) % ps.length /\ ∀ e',e' < e -> isAt ps ((st p.key + e') % ps.length) ≠ 0) :
  ∀ i,i < (ps.set j p).length -> isAt (ps.set j p) i = 2 -> ∃ e,i = (st (keyAt (ps.set j p) i) + e) % (ps.set j p).length /\ ∀ e',e' < e -> isAt (ps.set j p) ((st (keyAt (ps.set j p) i) + e') % (ps.set j p).length) ≠ 0:=by
 intro i hi h2
 rw [List.length_set] at hi ⊢
 have mono:∀ x,isAt ps x ≠ 0 -> isAt (ps.set j p) x ≠ 0:=by
  intro x hx; rw [isAt_set hj]; split
  ·exact hp
  ·exact hx
 rw [isAt_set hj] at h2
 rw [keyAt_set hj]
 by_cases e:i = j
 ·subst e
  rw [if_pos rfl] at h2 ⊢
  obtain ⟨e,e1,e2⟩:=hnew h2
  exact ⟨e,e1,fun e' he'=>mono _ (e2 e' he')⟩
 ·rw [if_neg e] at h2 ⊢
  obtain ⟨e,e1,e2⟩:=h.reach i hi h2
  exact ⟨e,e1,fun e' he'=>mono _ (e2 e' he')⟩
theorem IxInv.add (h:IxInv st ps m) {k:ByteArray} {v:V} {j:Nat} (hj:j < ps.length) (h2:isAt ps j ≠ 2) (hno:mGet m k = none)
  (hr:∃ e,j = (st k + e) % ps.length /\ ∀ e',e' < e -> isAt ps ((st k + e') % ps.length) ≠ 0) (hroom:usedP ps + 1 < ps.length):IxInv st (ps.set j ⟨2,k,v⟩) ((k,v)::m):=by
 have hfull:(fullP (ps.set j ⟨2,k,v⟩)).Perm ((k,v)::m):=by
  have h1:=fullP_set hj (⟨2,k,v⟩:Pl V)
  have h3:=(fullP_at hj).symm.trans h.perm
  have e1:optP (⟨2,k,v⟩:Pl V) = [(k,v)]:=rfl
  have e2:optP (ps.getD j default) = []:=optP_neg h2
  rw [e1] at h1
  rw [e2,List.nil_append] at h3
  exact h1.trans (List.Perm.cons _ h3)
 refine ⟨by rw [List.length_set]; exact h.big,by rw [List.length_set]; exact h.small,by rw [List.length_set]; exact h.start,hfull,?_,reach_set h hj (by show (2:Int) ≠ 0; decide) (fun _=>hr),?_⟩
 ·rw [List.map_cons,List.nodup_cons]
  refine ⟨fun hm=>?_,h.nodup⟩
  rw [List.mem_map] at hm
  obtain ⟨e,he,hk⟩:=hm
  exact mGet_none.1 hno e he hk
 ·rw [usedP_set hj _ (by show (2:Int) ≠ 0; decide),List.length_set]; split <;> omega
theorem IxInv.del (h:IxInv st ps m) {k:ByteArray} {z:Pl V} {j:Nat} (hj:j < ps.length) (hit:hitAt ps k j) (hz:z.is_ = 1):IxInv st (ps.set j z) (mDel m k):=by
 have h0:=perm_one hj hit h.perm
 have hn:=(h0.map (·.1)).nodup_iff.2 h.nodup
 simp only [List.map_cons,List.nodup_cons] at hn
 have hset:(fullP (ps.set j z)).Perm (fullP (ps.take j ++ ps.drop (j + 1))):=by
  have:=fullP_set hj z
  have e:optP z = []:=by unfold optP; rw [if_neg (by rw [hz]; decide)]
  rw [e] at this; exact this
 have hm:(mDel m k).Perm (fullP (ps.take j ++ ps.drop (j + 1))):=by
  have h1:(mDel m k).Perm (mDel ((k,(ps.getD j default).v)::fullP (ps.take j ++ ps.drop (j + 1))) k):=(h0.filter _).symm
  refine h1.trans ?_
  unfold mDel
  rw [List.filter_cons_of_neg (by simp)]
  rw [List.filter_eq_self.2]
  intro e he
  simp only [ne_eq,decide_not,Bool.not_eq_eq_eq_not,Bool.not_true,decide_eq_false_iff_not]
  intro hk
  exact hn.1 (by rw [<- hk]; exact List.mem_map_of_mem he)
 refine ⟨by rw [List.length_set]; exact h.big,by rw [List.length_set]; exact h.small,by rw [List.length_set]; exact h.start,hset.trans hm.symm,?_,reach_set h hj (by rw [hz]; decide) (fun h2=>by rw [hz] at h2; cases h2),?_⟩
 ·exact (List.Nodup.sublist ((List.filter_sublist).map _) h.nodup)
 ·rw [usedP_set hj _ (by rw [hz]; decide),List.length_set,if_neg (by rw [hit.1]; decide)]
  exact h.room
theorem mDel_len (hn:(m.map (·.1)).Nodup) {k:ByteArray} {v:V} (h:mGet m k = some v):(mDel m k).length + 1 = m.length:=by
 have hm:=(mGet_some hn).1 h
 obtain ⟨a,b,rfl⟩:=List.append_of_mem hm
 unfold mDel
 simp only [List.map_append,List.map_cons] at hn
 rw [List.nodup_append] at hn
 simp only [List.nodup_cons] at hn
 rw [List.filter_append,List.filter_cons_of_neg (by simp),List.filter_eq_self.2,List.filter_eq_self.2]
 ·simp; omega
 ·intro e he
  simp only [ne_eq,decide_not,Bool.not_eq_eq_eq_not,Bool.not_true,decide_eq_false_iff_not]
  rintro rfl
  exact hn.2.1.1 (List.mem_map_of_mem he)
 ·intro e he
  simp only [ne_eq,decide_not,Bool.not_eq_eq_eq_not,Bool.not_true,decide_eq_false_iff_not]
  rintro rfl
  exact hn.2.2 _ (List.mem_map_of_mem he) e.1 (by simp) rfl
theorem IxInv.new {n:Nat} {z:Pl V} (hz:z.is_ = 0) (h8:8 <= n) (hn:n < 4611686018427387904) (hst:∀ k,st k < n):IxInv st (List.replicate n z) []:=by
 have hu:usedP (List.replicate n z) = 0:=by
  unfold usedP; rw [List.countP_eq_zero]
  intro a ha
  rw [List.eq_of_mem_replicate ha]; simp [hz]
 refine ⟨by simpa using h8,by simpa using hn,by simpa using hst,?_,by simp,?_,by rw [hu]; simp; omega⟩
 ·have:fullP (List.replicate n z) = []:=by
   unfold fullP; rw [List.flatMap_eq_nil_iff]
   intro a ha
   rw [List.eq_of_mem_replicate ha]; unfold optP; rw [if_neg (by rw [hz]; decide)]
  rw [this]
 ·intro i hi h2
  rw [List.length_replicate] at hi
  unfold isAt at h2
  rw [List.getD_eq_getElem?_getD,List.getElem?_eq_getElem (by simpa using hi)] at h2
  simp only [List.getElem_replicate,Option.getD_some,hz] at h2
  cases h2
end
end
end Go.Hb
namespace Go.Hb
def mixV (x0:Int):Int:=
 (bits .xor .u64 (IntKind.wrap .u64 ((bits .xor .u64 (IntKind.wrap .u64 ((bits .xor .u64 x0 (shrV .u64 x0 (30:Int))) * (13787848793156543929:Int))) (shrV .u64 (IntKind.wrap .u64 ((bits .xor .u64 x0 (shrV .u64 x0 (30:Int))) * (13787848793156543929:Int))) (27:Int))) * (10723151780598845931:Int))) (shrV .u64 (IntKind.wrap .u64 ((bits .xor .u64 (IntKind.wrap .u64 ((bits .xor .u64 x0 (shrV .u64 x0 (30:Int))) * (13787848793156543929:Int))) (shrV .u64 (IntKind.wrap .u64 ((bits .xor .u64 x0 (shrV .u64 x0 (30:Int))) * (13787848793156543929:Int))) (27:Int))) * (10723151780598845931:Int))) (31:Int)))
theorem mixV_in (x:Int):0 <= mixV x /\ mixV x <= 18446744073709551615:=by
 have h:(Lit.int .u64 (mixV x)).wf = true:=wf_bits _ _ _ _
 generalize mixV x = n at h
 simpa [Lit.wf,IntKind.min,IntKind.max,IntKind.signed,IntKind.bits] using h
def hashGo (s:ByteArray):Nat -> Nat -> Int -> Int
 | 0,_,h=>h
 | m + 1,i,h=>hashGo s m (i + 1) (mixV (IntKind.wrap .u64 ((bits .xor .u64 h (IntKind.wrap .u64 (byteAt s i))) + (11400714819323198485:Int))))
def hashW (seed:Int) (s:ByteArray):Int:=hashGo s s.size 0 (mixV (bits .xor .u64 seed (IntKind.wrap .u64 (s.size:Int))))
noncomputable def hashV (seed:Int) (s:ByteArray):Int:=Classical.choose (⟨hashW seed s,rfl⟩:∃ x,x = hashW seed s)
theorem hashV_eq (seed:Int) (s:ByteArray):hashV seed s = hashW seed s:=Classical.choose_spec (⟨hashW seed s,rfl⟩:∃ x,x = hashW seed s)
theorem hashGo_in (s:ByteArray):∀ (m i:Nat) (h:Int),(0 <= h /\ h <= 18446744073709551615) -> 0 <= hashGo s m i h /\ hashGo s m i h <= 18446744073709551615
 | 0,_,_,h=>h
 | m + 1,i,_,_=>hashGo_in s m (i + 1) _ (mixV_in _)
theorem hashV_in (seed:Int) (s:ByteArray):0 <= hashV seed s /\ hashV seed s <= 18446744073709551615:=by
 rw [hashV_eq]; exact hashGo_in s _ _ _ (mixV_in _)
noncomputable def startV (seed:Int) (n:Nat) (k:ByteArray):Nat:=(hashV seed k).toNat % n
theorem startV_eq (seed:Int) (n:Nat) (k:ByteArray):(hashV seed k).toNat % n = startV seed n k:=by unfold startV; rfl
theorem startV_lt {seed:Int} {n:Nat} (h:0 < n) (k:ByteArray):startV seed n k < n:=Nat.mod_lt _ h
def Rec.si:Rec (ByteArray × Int):=⟨2,fun v=>[.string v.1,.int .i64 v.2],fun _=>rfl⟩
def frI:Option Nat -> Int
 | some j=>(j:Int)
 | none=>-1
theorem frI_neg (f:Option Nat):frI f < 0 ↔ f = none:=by
 cases f with
 | none=>simp [frI]
 | some j=>simp [frI]
section
variable {V:Type} [Inhabited V]
noncomputable def ixr (RV:Rec V) (b:Nat) (seed:Int) (m:List (ByteArray × V)):HP:=
 exH fun (x:Sl × List (Pl V))=>andH (IxInv (startV seed x.2.length) x.2 m /\ 2 * usedP x.2 <= x.2.length)
  (allH [blk b [.int .u64 seed,.slice x.1.a x.1.n x.1.c,.int .i64 (m.length:Int),.int .i64 (usedP x.2:Int)],recs (plR RV) x.1 x.2])
variable {RV:Rec V} {b:Nat} {seed:Int} {m:List (ByteArray × V)} {W w:World} {M L:List HP}
instance At.ixr:At (ixr RV b seed m::L) b (ixr RV b seed m) (fun x=>x::L):=⟨here_pos⟩
theorem ixr_open (h:Sat W w (ixr RV b seed m::M)):∃ (s:Sl) (ps:List (Pl V)),IxInv (startV seed ps.length) ps m /\ 2 * usedP ps <= ps.length /\ s.n = ps.length /\
  Sat W w (blk b [.int .u64 seed,.slice s.a s.n s.c,.int .i64 (m.length:Int),.int .i64 (usedP ps:Int)]::recs (plR RV) s ps::M):=by
 obtain ⟨⟨s,ps⟩,h⟩:=h.openE
 obtain ⟨⟨h1,h2⟩,h⟩:=h.openA
 have h:=h.openL
 have h:Sat W w (blk b [.int .u64 seed,.slice s.a s.n s.c,.int .i64 (m.length:Int),.int .i64 (usedP ps:Int)]::recs (plR RV) s ps::M):=h
 exact ⟨s,ps,h1,h2,(recs_len (s:=s) h (PosR.pos)).1,h⟩
theorem ixr_shut (s:Sl) {ps:List (Pl V)} {n u:Int} (h1:IxInv (startV seed ps.length) ps m) (h2:2 * usedP ps <= ps.length) (hn:n = m.length) (hu:u = usedP ps)
  (h:Sat W w (blk b [.int .u64 seed,.slice s.a s.n s.c,.int .i64 n,.int .i64 u]::recs (plR RV) s ps::M)):Sat W w (ixr RV b seed m::M):=by
 subst hn hu
 exact Sat.shutE (s,ps) (Sat.shutA ⟨h1,h2⟩ (Sat.shutL (Ps:=[_,_]) h))
theorem IxInv.perm' {st:ByteArray -> Nat} {ps:List (Pl V)} {m m':List (ByteArray × V)} (h:IxInv st ps m) (hp:m.Perm m'):IxInv st ps m':=
 ⟨h.big,h.small,h.start,h.perm.trans hp,(hp.map _).nodup_iff.1 h.nodup,h.reach,h.room⟩
theorem ixr_perm {m':List (ByteArray × V)} (hp:m.Perm m') (h:Sat W w (ixr RV b seed m::M)):Sat W w (ixr RV b seed m'::M):=by
 obtain ⟨s,ps,h1,h2,_,h⟩:=ixr_open h
 exact ixr_shut s (h1.perm' hp) h2 (by rw [hp.length_eq]) rfl h
theorem zrow_replicate {α:Type} (E:Rec α) (z:α):∀ n,zrow (E.cells z) n = E.flat (List.replicate n z)
 | 0=>rfl
 | n + 1=>by rw [zrow,zrow_replicate E z n,List.replicate_succ]; rfl
theorem sts_sub {α:Type} [Inhabited α] {E:Rec α} {b o i n j:Nat} {s:Sl} {rows:List α} {F:HP -> List HP} {vs pre mid tl:List Value} {a':α} {K:WP} (h:Sat W w L) [hA:At L b (reca E b o s rows) F] (hn:n = E.sz) (hi:i < rows.length)
  (ha:E.cells (rows.getD i default) = pre ++ mid ++ tl) (hj:pre.length = j) (hm:mid.length = vs.length) (ha':E.cells a' = pre ++ vs ++ tl) (hK:∀ w',Sat W w' (F (reca E b o s (rows.set i a'))) -> K w'):sts vs b (o + i * n + j) K w:=by
 subst hn hj
 refine At.one (hA:=hA) h fun M h hb=>?_
 have hsa:s.a = some ⟨b,o,none⟩:=h.pure (q:=0) rfl fun _ hg=>hg.1
 have h':=h.turn (q:=0) (p':=recs E s rows) rfl fun _ hg=>hg.2
 obtain ⟨pr,tl2,hp,hl,hn,ht,h2⟩:=h'.openS (q:=0) rfl hsa
 have h2:Sat W w (blk b (pr ++ E.flat rows ++ tl2)::M):=h2
 have hr:rows = rows.take i ++ rows.getD i default::rows.drop (i + 1):=split_at hi
 have hfr:E.flat rows = E.flat (rows.take i) ++ (E.cells (rows.getD i default) ++ E.flat (rows.drop (i + 1))):=by
  have h:=congrArg E.flat hr
  rw [Rec.flat_append] at h
  exact h
 have hfs:E.flat (rows.set i a') = E.flat (rows.take i) ++ (E.cells a' ++ E.flat (rows.drop (i + 1))):=by
  rw [set_split hi,Rec.flat_append]; rfl
 rw [hfr,ha] at h2
 have e1:pr ++ (E.flat (rows.take i) ++ (pre ++ mid ++ tl ++ E.flat (rows.drop (i + 1)))) ++ tl2 = (pr ++ E.flat (rows.take i) ++ pre) ++ mid ++ (tl ++ E.flat (rows.drop (i + 1)) ++ tl2):=by simp only [List.append_assoc]
 have e2:pr ++ (E.flat (rows.take i) ++ (pre ++ vs ++ tl ++ E.flat (rows.drop (i + 1)))) ++ tl2 = (pr ++ E.flat (rows.take i) ++ pre) ++ vs ++ (tl ++ E.flat (rows.drop (i + 1)) ++ tl2):=by simp only [List.append_assoc]
 rw [e1] at h2
 have hpl:(pr ++ E.flat (rows.take i) ++ pre).length = o + i * E.sz + pre.length:=by
  rw [List.length_append,List.length_append,hp,Rec.flat_length,List.length_take,Nat.min_eq_left (by omega)]
 rw [<- hpl]
 refine sts_slc 0 vs w _ _ mid _ K h2 rfl hm fun w' h3=>hK w' (hb _ _ ?_)
 have h3:Sat W w' (blk b ((pr ++ E.flat (rows.take i) ++ pre) ++ vs ++ (tl ++ E.flat (rows.drop (i + 1)) ++ tl2))::M):=h3
 rw [<- e2,<- ha',<- hfs] at h3
 have h4:=h3.shutS (q:=0) (s:=s) (sz:=E.sz) rfl hsa hp (by rw [Rec.flat_length,List.length_set,<- Rec.flat_length]; exact hl) hn ht
 exact h4.turn (q:=0) rfl fun _ hg=>⟨hsa,hg⟩
end
end Go.Hb
namespace Go.Hb
open Go.Sort Go.Proofs
section
variable {W0 w w':World} {L M:List HP} {F:HP -> List HP} {b:Nat}
def txL (k:ByteArray):List UInt8:=k.data.toList
def txB (l:List UInt8):ByteArray:=⟨l.toArray⟩
theorem txB_L (k:ByteArray):txB (txL k) = k:=by unfold txB txL; simp
end
theorem sLt_eq (a b:ByteArray):sLt a b = decide (txL a < txL b):=by
 unfold sLt txL
 rw [ByteArray.toList_eq,ByteArray.toList_eq,bytesLess_eq]
theorem txL_inj {a b:ByteArray} (h:txL a = txL b):a = b:=by
 rw [<- txB_L a,<- txB_L b,h]
def Rising (l:List ByteArray):Prop:=l.Pairwise fun a b=>txL a < txL b
theorem Rising.nodup {l:List ByteArray} (h:Rising l):l.Nodup:=by
 refine List.Pairwise.imp (fun {a b} hab=>?_) h
 rintro rfl
 exact absurd hab (List.lt_irrefl _)
end Go.Hb
namespace Go.Hb
section
variable {V:Type} [Inhabited V]
def atR:List (ByteArray × V) -> ByteArray -> Nat × Bool
 | [],_=>(0,false)
 | e::r,k=>if sLt e.1 k then ((atR r k).1 + 1,(atR r k).2) else (0,decide (e.1 = k))
theorem atR_cons (e:ByteArray × V) (r:List (ByteArray × V)) (k:ByteArray):atR (e::r) k = if sLt e.1 k then ((atR r k).1 + 1,(atR r k).2) else (0,decide (e.1 = k)):=rfl
def RiseM (m:List (ByteArray × V)):Prop:=Rising (m.map (·.1))
theorem RiseM.nodup {m:List (ByteArray × V)} (h:RiseM m):(m.map (·.1)).Nodup:=Rising.nodup h
theorem RiseM.tail {e:ByteArray × V} {m:List (ByteArray × V)} (h:RiseM (e::m)):RiseM m:=by
 unfold RiseM Rising at h ⊢
 simp only [List.map_cons,List.pairwise_cons] at h
 exact h.2
theorem atR_le:∀ (m:List (ByteArray × V)) (k:ByteArray),(atR m k).1 <= m.length
 | [],_=>Nat.le_refl _
 | e::r,k=>by
  unfold atR
  split
  ·have:=atR_le r k; simp only [List.length_cons]; omega
  ·simp
theorem atR_true:∀ {m:List (ByteArray × V)} {k:ByteArray},(atR m k).2 = true -> ∃ v,m[(atR m k).1]? = some (k,v)
 | [],_,h=>by cases h
 | e::r,k,h=>by
  unfold atR at h ⊢
  split at h
  ·rename_i h1
   rw [if_pos h1]
   obtain ⟨v,hv⟩:=atR_true h
   exact ⟨v,by simpa using hv⟩
  ·rename_i h1
   rw [if_neg h1]
   simp only [decide_eq_true_eq] at h
   exact ⟨e.2,by simp [<- h]⟩
theorem lt_of_not {a k:ByteArray} (h1:sLt a k = false) (h2:a ≠ k):txL k < txL a:=by
 rw [sLt_eq] at h1
 have h3:txL k <= txL a:=by simpa using h1
 rcases List.le_iff_lt_or_eq.1 h3 with h | h
 ·exact h
 ·exact absurd (txL_inj h).symm h2
theorem atR_false:∀ {m:List (ByteArray × V)} {k:ByteArray},RiseM m -> (atR m k).2 = false -> (∀ e ∈ m,e.1 ≠ k) /\ ∀ v,RiseM (m.take (atR m k).1 ++ (k,v)::m.drop (atR m k).1)
 | [],_,_,_=>⟨(fun _ h=>by cases h),fun v=>by simp [RiseM,Rising,atR]⟩
 | e::r,k,hr,h=>by
  unfold atR at h ⊢
  split at h
  ·rename_i h1
   rw [if_pos h1]
   obtain ⟨h2,h3⟩:=atR_false hr.tail h
   have hlt:txL e.1 < txL k:=by rw [sLt_eq] at h1; simpa using h1
   refine ⟨fun x hx=>?_,fun v=>?_⟩
   ·rcases List.mem_cons.1 hx with rfl | hx
    ·intro he; rw [he] at hlt; exact absurd hlt (List.lt_irrefl _)
    ·exact h2 x hx
   ·have h4:=h3 v
    unfold RiseM Rising at h4 hr ⊢
    simp only [List.take_succ_cons,List.drop_succ_cons,List.cons_append,List.map_cons,List.pairwise_cons] at hr ⊢
    refine ⟨fun x hx=>?_,h4⟩
    simp only [List.map_append,List.map_cons,List.mem_append,List.mem_cons] at hx
    rcases hx with hx | hx | hx
    ·exact hr.1 x (((List.take_sublist _ _).map _).subset hx)
    ·rw [hx]; exact hlt
    ·exact hr.1 x (((List.drop_sublist _ _).map _).subset hx)
  ·rename_i h1
   rw [if_neg h1]
   simp only [decide_eq_false_iff_not] at h
   have hlt:=lt_of_not (by simpa using h1) h
   have hall:∀ x ∈ (e::r).map (·.1),txL k < txL x:=by
    intro x hx
    rw [List.map_cons,List.mem_cons] at hx
    rcases hx with rfl | hx
    ·exact hlt
    ·unfold RiseM Rising at hr
     simp only [List.map_cons,List.pairwise_cons] at hr
     exact List.lt_trans hlt (hr.1 x hx)
   refine ⟨fun x hx he=>?_,fun v=>?_⟩
   ·have:=hall x.1 (List.mem_map_of_mem hx)
    rw [he] at this; exact absurd this (List.lt_irrefl _)
   ·show RiseM ((k,v)::e::r)
    unfold RiseM Rising at hr ⊢
    rw [List.map_cons,List.pairwise_cons]
    exact ⟨hall,hr⟩
theorem mGet_at {m:List (ByteArray × V)} {k:ByteArray} (hr:RiseM m):mGet m k = if (atR m k).2 then (m[(atR m k).1]?).map (·.2) else none:=by
 cases h:(atR m k).2 with
 | true=>
  obtain ⟨v,hv⟩:=atR_true h
  rw [hv]
  exact (mGet_some hr.nodup).2 (List.mem_of_getElem? hv)
 | false=>exact mGet_none.2 (atR_false hr h).1
theorem map_set_same {m:List (ByteArray × V)} {i:Nat} {k:ByteArray} {v u:V} (h:m[i]? = some (k,v)):(m.set i (k,u)).map (·.1) = m.map (·.1):=by
 obtain ⟨hlt,hri⟩:=List.getElem?_eq_some_iff.1 h
 rw [List.map_set]
 apply List.ext_getElem?
 intro j
 rw [List.getElem?_set]
 split
 ·rename_i h; subst h; simp [hlt,hri]
 ·rfl
theorem rise_set {m:List (ByteArray × V)} {i:Nat} {k:ByteArray} {v u:V} (hr:RiseM m) (h:m[i]? = some (k,v)):RiseM (m.set i (k,u)):=by
 unfold RiseM; rw [map_set_same h]; exact hr
theorem set_eq_mSet {m:List (ByteArray × V)} {i:Nat} {k:ByteArray} {v u:V} (hn:(m.map (·.1)).Nodup) (h:m[i]? = some (k,v)):m.set i (k,u) = mSet m k u:=by
 obtain ⟨hlt,hri⟩:=List.getElem?_eq_some_iff.1 h
 unfold mSet
 apply List.ext_getElem?
 intro j
 rw [List.getElem?_set,List.getElem?_map]
 by_cases e:i = j
 ·subst e; simp [hlt,hri]
 ·rw [if_neg e]
  cases hj:m[j]? with
  | none=>rfl
  | some x=>
   simp only [Option.map_some]
   rw [if_neg]
   intro hk
   obtain ⟨hjl,hjx⟩:=List.getElem?_eq_some_iff.1 hj
   have:(m.map (·.1))[i]? = (m.map (·.1))[j]?:=by simp [hlt,hjl,hri,hjx,hk]
   exact e ((List.getElem?_inj (by simpa using hlt) hn).1 this)
theorem erase_eq_mDel {m:List (ByteArray × V)} {i:Nat} {k:ByteArray} {v:V} (hn:(m.map (·.1)).Nodup) (h:m[i]? = some (k,v)):m.eraseIdx i = mDel m k:=by
 obtain ⟨hlt,hri⟩:=List.getElem?_eq_some_iff.1 h
 have hs:m = m.take i ++ (k,v)::m.drop (i + 1):=by rw [<- hri]; simp
 rw [List.eraseIdx_eq_take_drop_succ]
 unfold mDel
 conv=>rhs; rw [hs]
 rw [hs] at hn
 simp only [List.map_append,List.map_cons] at hn
 rw [List.nodup_append] at hn
 simp only [List.nodup_cons] at hn
 rw [List.filter_append,List.filter_cons_of_neg (by simp),List.filter_eq_self.2,List.filter_eq_self.2]
 ·intro e he
  simp only [ne_eq,decide_not,Bool.not_eq_eq_eq_not,Bool.not_true,decide_eq_false_iff_not]
  rintro rfl
  exact hn.2.1.1 (List.mem_map_of_mem he)
 ·intro e he
  simp only [ne_eq,decide_not,Bool.not_eq_eq_eq_not,Bool.not_true,decide_eq_false_iff_not]
  rintro rfl
  exact hn.2.2 _ (List.mem_map_of_mem he) e.1 (by simp) rfl
def rPut (m:List (ByteArray × V)) (k:ByteArray) (v:V):List (ByteArray × V):=if (atR m k).2 then m.set (atR m k).1 (k,v) else m.take (atR m k).1 ++ (k,v)::m.drop (atR m k).1
theorem rPut_rise {m:List (ByteArray × V)} {k:ByteArray} {v:V} (hr:RiseM m):RiseM (rPut m k v):=by
 unfold rPut
 split
 ·rename_i h; obtain ⟨u,hu⟩:=atR_true h; exact rise_set hr hu
 ·rename_i h; exact (atR_false hr (by simpa using h)).2 v
theorem rPut_perm {m:List (ByteArray × V)} {k:ByteArray} {v:V} (hr:RiseM m):(rPut m k v).Perm (mPut m k v):=by
 unfold rPut mPut
 cases h:(atR m k).2 with
 | true=>
  obtain ⟨u,hu⟩:=atR_true h
  have hg:mGet m k = some u:=by rw [mGet_at hr,h,hu]; rfl
  rw [hg]
  simp only [if_true]
  rw [set_eq_mSet hr.nodup hu]
 | false=>
  have hg:mGet m k = none:=by rw [mGet_at hr,h]; rfl
  rw [hg]
  simp only [Bool.false_eq_true,if_false]
  refine List.perm_middle.trans ?_
  rw [List.take_append_drop]
def rDel (m:List (ByteArray × V)) (k:ByteArray):List (ByteArray × V):=if (atR m k).2 then m.eraseIdx (atR m k).1 else m
theorem rDel_eq {m:List (ByteArray × V)} {k:ByteArray} (hr:RiseM m):rDel m k = mDel m k:=by
 unfold rDel
 split
 ·rename_i h; obtain ⟨u,hu⟩:=atR_true h; exact erase_eq_mDel hr.nodup hu
 ·rename_i h
  have:=(atR_false hr (by simpa using h)).1
  unfold mDel
  rw [List.filter_eq_self.2]
  intro e he; simpa using this e he
theorem rDel_rise {m:List (ByteArray × V)} {k:ByteArray} (hr:RiseM m):RiseM (rDel m k):=by
 rw [rDel_eq hr]
 unfold RiseM Rising mDel at *
 exact List.Pairwise.sublist ((List.filter_sublist).map _) hr
theorem mPut_len (m:List (ByteArray × V)) (k:ByteArray) (v:V):(mPut m k v).length <= m.length + 1:=by
 unfold mPut
 cases mGet m k <;> simp [mSet]
theorem mDel_sub {m:List (ByteArray × V)} {k:ByteArray} {P:ByteArray -> Prop} (hm:∀ e ∈ m,P e.1):∀ e ∈ mDel m k,P e.1:=fun e he=>hm e (List.mem_filter.1 he).1
theorem mDel_le (m:List (ByteArray × V)) (k:ByteArray):(mDel m k).length <= m.length:=List.length_filter_le _ _
end
end Go.Hb




namespace Go.Hb
def gTake (ks:List ByteArray) (k:ByteArray):List ByteArray:=ks.filter fun x=>decide (x ≠ k)
def gHas (ks:List ByteArray) (k:ByteArray):Bool:=ks.any fun x=>decide (x = k)
theorem gHas_iff {ks:List ByteArray} {k:ByteArray}:gHas ks k = true ↔ k ∈ ks:=by simp [gHas]
instance memDec {k:ByteArray} {l:List ByteArray}:Decidable (k ∈ l):=decidable_of_iff (gHas l k = true) gHas_iff
theorem gHas_not {ks:List ByteArray} {k:ByteArray}:gHas ks k = false ↔ k ∉ ks:=by rw [<- gHas_iff]; simp
theorem gTake_not {ks:List ByteArray} {k:ByteArray} (h:k ∉ ks):gTake ks k = ks:=by
 unfold gTake
 rw [List.filter_eq_self]
 intro x hx
 exact decide_eq_true fun he=>h (he ▸ hx)
theorem gTake_mem {ks:List ByteArray} {k x:ByteArray}:x ∈ gTake ks k ↔ x ∈ ks /\ x ≠ k:=by simp [gTake]
theorem gTake_len (ks:List ByteArray) (k:ByteArray):(gTake ks k).length <= ks.length:=List.length_filter_le _ _
theorem gTake_ne {l:List ByteArray} {y k:ByteArray} (h:y ≠ k):gTake (l ++ [y]) k = gTake l k ++ [y]:=by unfold gTake; rw [List.filter_append]; simp [h]
theorem gTake_eq {l:List ByteArray} {y k:ByteArray} (h:y = k):gTake (l ++ [y]) k = gTake l k:=by unfold gTake; rw [List.filter_append]; simp [h]
theorem gTake_nodup {ks:List ByteArray} {k:ByteArray} (h:ks.Nodup):(gTake ks k).Nodup:=h.sublist List.filter_sublist
def gAdd (room:Int) (ks:List ByteArray) (k:ByteArray):List ByteArray:=if ((gTake ks k ++ [k]).length:Int) <= room then gTake ks k ++ [k] else (gTake ks k ++ [k]).drop 1
def gGone (room:Int) (ks:List ByteArray) (k:ByteArray):ByteArray:=if ((gTake ks k ++ [k]).length:Int) <= room then ⟨#[]⟩ else (gTake ks k ++ [k]).headD ⟨#[]⟩
def gFull (room:Int) (ks:List ByteArray) (k:ByteArray):Bool:=!decide (((gTake ks k ++ [k]).length:Int) <= room)
theorem gPut_nodup {ks:List ByteArray} {k:ByteArray} (h:ks.Nodup):(gTake ks k ++ [k]).Nodup:=by
 rw [List.nodup_append]
 refine ⟨gTake_nodup h,by simp,fun a ha b hb=>?_⟩
 rw [List.mem_singleton] at hb
 subst hb
 exact (gTake_mem.1 ha).2
theorem gTake_head {k:ByteArray} {t:List ByteArray} (h:(k::t).Nodup):gTake (k::t) k = t:=by
 have:gTake (k::t) k = gTake t k:=by simp [gTake]
 rw [this,gTake_not (List.nodup_cons.1 h).1]
section
variable {W w:World} {M L:List HP} {b:Nat} {room:Int} {N:Nat} {ks:List ByteArray}
def clampR (room:Int):Int:=if (1024:Int) < (if (1:Int) > room then (1:Int) else room) then (1024:Int) else (if (1:Int) > room then (1:Int) else room)
end
end Go.Hb
namespace Go.Hb
structure EAcc (R S:List ByteArray) (k:ByteArray) (hit:Bool) (g:List ByteArray):Prop where
 hits:hit = decide (k ∈ R)
 sub:∀ x ∈ g,x ∈ R
 le1:g.length <= 1
 no:k ∉ g
 calm:hit = true -> g = []
 mem:∀ x,x ∈ S ↔ (x ∈ R /\ x ∉ g) \/ x = k
theorem perm_of_mem {a b:List ByteArray} (ha:a.Nodup) (hb:b.Nodup) (h:∀ x,x ∈ a ↔ x ∈ b):a.Perm b:=(List.perm_ext_iff_of_nodup ha hb).2 h
section
variable {R S:List ByteArray} {k:ByteArray} {hit:Bool} {g:List ByteArray}
theorem gTake_perm1 {l:List ByteArray} (hn:l.Nodup) (hk:k ∈ l):l.Perm (k::gTake l k):=by
 refine perm_of_mem hn (List.nodup_cons.2 ⟨fun h=>(gTake_mem.1 h).2 rfl,gTake_nodup hn⟩) fun x=>?_
 rw [List.mem_cons,gTake_mem]
 constructor
 ·intro h
  by_cases hx:x = k
  ·exact .inl hx
  ·exact .inr ⟨h,hx⟩
 ·rintro (rfl | h)
  ·exact hk
  ·exact h.1
end
end Go.Hb
namespace Go.Hb
class IteP (b:Bool) (p q:outParam Prop):Prop where
 t:b = true -> p
 f:b = false -> q
instance IteP.dec {p:Prop} [Decidable p]:IteP (decide p) p (¬ p):=⟨of_decide_eq_true,of_decide_eq_false⟩
instance IteP.ndec {p:Prop} [Decidable p]:IteP (!decide p) (¬ p) p:=⟨fun h=>by simpa using h,fun h=>by simpa using h⟩
instance IteP.eqI {a b:Int}:IteP (a == b) (a = b) (¬ a = b):=⟨fun h=>by simpa using h,fun h=>by simpa using h⟩
instance IteP.neI {a b:Int}:IteP (a != b) (¬ a = b) (a = b):=⟨fun h=>by simpa using h,fun h=>by simpa using h⟩
instance IteP.eqS {a b:ByteArray}:IteP (sEq a b) (a = b) (¬ a = b):=⟨fun h=>by rw [sEq_eq] at h; simpa using h,fun h=>by rw [sEq_eq] at h; simpa using h⟩
instance IteP.neS {a b:ByteArray}:IteP (!sEq a b) (¬ a = b) (a = b):=⟨fun h=>by rw [sEq_eq] at h; simpa using h,fun h=>by rw [sEq_eq] at h; simpa using h⟩
theorem ite_by {w:World} {b:Bool} {p q:Prop} {K M:WP} [h:IteP b p q] (h1:p -> K w) (h2:q -> M w):ite2 b K M w:=ite_cases (fun e=>h1 (h.t e)) fun e=>h2 (h.f e)
theorem exM_of {L:Nat -> WP} {w:World} (m:Nat) (h:L m w):exM L w:=⟨m,h⟩
abbrev BL:=List ByteArray
structure EOk (c:Int) (R:BL):Prop where
 nd:R.Nodup
 small:∀ k ∈ R,k.size < 64
 room:(R.length:Int) <= c
 c1:1 <= c
 c2:c <= 1024
structure AccR (c:Int) (R:BL) (k:ByteArray) (hit:Bool) (g S:BL):Prop where
 acc:EAcc R S k hit g
 ok:EOk c S
 calm:(R.length:Int) < c -> g = []
structure LoadR (c:Int) (R:BL) (k:ByteArray) (yes:Bool) (S:BL):Prop where
 says:yes = decide (k ∉ R /\ (R.length:Int) < c)
 mem:∀ x,x ∈ S ↔ x ∈ R \/ (yes = true /\ x = k)
 ok:EOk c S
structure RemR (c:Int) (R:BL) (k:ByteArray) (yes:Bool) (S:BL):Prop where
 says:yes = decide (k ∈ R)
 mem:∀ x,x ∈ S ↔ x ∈ R /\ x ≠ k
 ok:EOk c S
structure EvR (c:Int) (R:BL) (k:ByteArray) (yes:Bool) (S:BL):Prop where
 says:yes = decide (0 < R.length)
 of:yes = true -> k ∈ R
 mem:∀ x,x ∈ S ↔ x ∈ R /\ ¬ (yes = true /\ x = k)
 ok:EOk c S
def RecR (c:Int) (R g S:BL):Prop:=(g = [] /\ S = R /\ (R.length:Int) < c) \/ (∃ x,g = [x] /\ EvR c R x true S /\ ¬ (R.length:Int) < c)
section
variable {c:Int} {R S T g:BL} {k x:ByteArray}
theorem EOk.perm (h:EOk c R) (hp:S.Perm R):EOk c S:=⟨hp.nodup_iff.2 h.nd,fun k hk=>h.small k (hp.mem_iff.1 hk),by rw [hp.length_eq]; exact h.room,h.c1,h.c2⟩
theorem EOk.nil (h1:1 <= c) (h2:c <= 1024):EOk c []:=⟨by simp,by simp,by simp; omega,h1,h2⟩
theorem perm_minus (hR:R.Nodup) (hS:S.Nodup) (hk:k ∈ R) (hm:∀ x,x ∈ S ↔ x ∈ R /\ x ≠ k):R.Perm (k::S):=
 perm_of_mem hR (List.nodup_cons.2 ⟨fun h=>((hm k).1 h).2 rfl,hS⟩) fun x=>by
  rw [List.mem_cons,hm]
  constructor
  ·intro h
   by_cases hx:x = k
   ·exact .inl hx
   ·exact .inr ⟨h,hx⟩
  ·rintro (rfl | h)
   ·exact hk
   ·exact h.1
theorem EvR.mem' (h:EvR c R k true S) (y:ByteArray):y ∈ S ↔ y ∈ R /\ y ≠ k:=by rw [h.mem]; simp
theorem EvR.perm (h:EvR c R k true S) (hR:EOk c R):R.Perm (k::S):=perm_minus hR.nd h.ok.nd (h.of rfl) h.mem'
theorem EvR.of_perm (hR:EOk c R) (hp:R.Perm (k::S)):EvR c R k true S:=by
 have h1:=hp.nodup_iff.1 hR.nd
 have h2:=hp.length_eq
 have hr:=hR.room
 simp only [List.length_cons] at h2
 refine ⟨(decide_eq_true (by omega)).symm,fun _=>hp.mem_iff.2 (.head _),fun x=>?_,(List.nodup_cons.1 h1).2,fun y hy=>hR.small y (hp.mem_iff.2 (.tail _ hy)),by omega,hR.c1,hR.c2⟩
 rw [hp.mem_iff,List.mem_cons]
 constructor
 ·intro h3; exact ⟨.inr h3,fun h4=>(List.nodup_cons.1 h1).1 (h4.2 ▸ h3)⟩
 ·rintro ⟨h3 | h3,h4⟩
  ·exact absurd ⟨rfl,h3⟩ h4
  ·exact h3
theorem EvR.none (hR:EOk c R) (h0:R.length = 0) {z:ByteArray}:EvR c R z false R:=⟨(decide_eq_false (by omega)).symm,by simp,by simp,hR⟩
theorem AccR.same (hR:EOk c R) (hk:k ∈ R) (hp:S.Perm R):AccR c R k true [] S:=
 ⟨⟨(decide_eq_true hk).symm,by simp,by simp,by simp,fun _=>rfl,fun x=>by
  rw [hp.mem_iff]
  constructor
  ·intro h; exact .inl ⟨h,by simp⟩
  ·rintro (h | rfl)
   ·exact h.1
   ·exact hk⟩,hR.perm hp,fun _=>rfl⟩
theorem AccR.miss (hR:EOk c R) (hk:k ∉ R) (hz:k.size < 64) (h:RecR c R g S) (hp:T.Perm (k::S)):AccR c R k false g T:=by
 have hhit:=(decide_eq_false hk).symm
 rcases h with ⟨rfl,rfl,hl⟩ | ⟨x,rfl,he,hl⟩
 ·refine ⟨⟨hhit,by simp,by simp,by simp,(fun h=>by cases h),fun y=>?_⟩,⟨hp.nodup_iff.2 (List.nodup_cons.2 ⟨hk,hR.nd⟩),fun y hy=>?_,by rw [hp.length_eq]; simp only [List.length_cons]; omega,hR.c1,hR.c2⟩,fun _=>rfl⟩
  ·rw [hp.mem_iff,List.mem_cons]
   constructor
   ·rintro (h | h)
    ·exact .inr h
    ·exact .inl ⟨h,by simp⟩
   ·rintro (h | h)
    ·exact .inr h.1
    ·exact .inl h
  ·rcases List.mem_cons.1 (hp.mem_iff.1 hy) with h | h
   ·exact h ▸ hz
   ·exact hR.small _ h
 ·have hx:=he.of rfl
  have hkS:k ∉ S:=fun h=>hk ((he.mem' k).1 h).1
  have hpl:=(he.perm hR).length_eq
  have hr:=hR.room
  simp only [List.length_cons] at hpl
  refine ⟨⟨hhit,fun y hy=>by rw [List.mem_singleton] at hy; exact hy ▸ hx,by simp,fun h=>hk (by rw [List.mem_singleton] at h; exact h ▸ hx),(fun h=>by cases h),fun y=>?_⟩,⟨hp.nodup_iff.2 (List.nodup_cons.2 ⟨hkS,he.ok.nd⟩),fun y hy=>?_,by rw [hp.length_eq]; simp only [List.length_cons]; omega,hR.c1,hR.c2⟩,fun h=>absurd h hl⟩
  ·rw [hp.mem_iff,List.mem_cons,he.mem',List.mem_singleton]
   constructor
   ·rintro (h | h)
    ·exact .inr h
    ·exact .inl h
   ·rintro (h | h)
    ·exact .inr h
    ·exact .inl h
  ·rcases List.mem_cons.1 (hp.mem_iff.1 hy) with h | h
   ·exact h ▸ hz
   ·exact he.ok.small _ h
theorem LoadR.no (hR:EOk c R) (h:¬ (k ∉ R /\ (R.length:Int) < c)):LoadR c R k false R:=⟨(decide_eq_false h).symm,by simp,hR⟩
theorem LoadR.yes (hR:EOk c R) (hz:k.size < 64) (h1:k ∉ R) (h2:(R.length:Int) < c) (hp:S.Perm (k::R)):LoadR c R k true S:=by
 refine ⟨(decide_eq_true ⟨h1,h2⟩).symm,fun x=>?_,hp.nodup_iff.2 (List.nodup_cons.2 ⟨h1,hR.nd⟩),fun y hy=>?_,by rw [hp.length_eq]; simp only [List.length_cons]; omega,hR.c1,hR.c2⟩
 ·rw [hp.mem_iff,List.mem_cons]
  constructor
  ·rintro (h | h)
   ·exact .inr ⟨rfl,h⟩
   ·exact .inl h
  ·rintro (h | h)
   ·exact .inr h
   ·exact .inl h.2
 ·rcases List.mem_cons.1 (hp.mem_iff.1 hy) with h | h
  ·exact h ▸ hz
  ·exact hR.small _ h
theorem RemR.no (hR:EOk c R) (h:k ∉ R):RemR c R k false R:=⟨(decide_eq_false h).symm,fun x=>⟨fun hx=>⟨hx,fun e=>h (e ▸ hx)⟩,fun hx=>hx.1⟩,hR⟩
theorem RemR.yes (hR:EOk c R) (h:k ∈ R) (hp:R.Perm (k::S)):RemR c R k true S:=by
 have he:=EvR.of_perm hR hp
 exact ⟨(decide_eq_true h).symm,he.mem',he.ok⟩
theorem gTake_app (a b:BL) (k:ByteArray):gTake (a ++ b) k = gTake a k ++ gTake b k:=List.filter_append ..
theorem RemR.cut2 {i a:BL} (hR:EOk c (i ++ a)) (h:k ∈ i ++ a):RemR c (i ++ a) k true (gTake i k ++ gTake a k):=by
 rw [<- gTake_app]; exact RemR.yes hR h (gTake_perm1 hR.nd h)
theorem RemR.cut3 {i a p:BL} (hR:EOk c (i ++ (a ++ p))) (h:k ∈ i ++ (a ++ p)):RemR c (i ++ (a ++ p)) k true (gTake i k ++ (gTake a k ++ gTake p k)):=by
 rw [<- gTake_app,<- gTake_app]; exact RemR.yes hR h (gTake_perm1 hR.nd h)
theorem perm_snoc1 {i a:BL}:((i ++ [k]) ++ a).Perm (k::(i ++ a)):=by
 rw [List.append_assoc]; exact List.perm_middle
theorem perm_snoc2 {i a:BL}:(i ++ (a ++ [k])).Perm (k::(i ++ a)):=by
 rw [<- List.append_assoc]; exact List.perm_append_comm
end
abbrev Rts (P:Program) (f:FuncId) (args:Array Value) (w:World) (Q:Value -> WP):Prop:=Calls P f args w fun e w'=>∃ v,e = .returned v /\ Q v w'
section
variable {P:Program} {f:FuncId} {args:List Value} {w:World} {Q:Value -> WP}
theorem call0_ret {K:WP} (hC:Rts P f args.toArray w Q) (hR:∀ v w',Q v w' -> v = .tuple #[] /\ K w'):call0 P f args K w:=
 call0_of hC fun e w' ⟨v,he,h⟩=>by obtain ⟨hv,h⟩:=hR v w' h; exact ⟨by rw [he,hv],h⟩
theorem call1_ret {k:CK} {K:k.ty -> WP} (hC:Rts P f args.toArray w Q) (hR:∀ v w',Q v w' -> ∃ x,v = k.val x /\ K x w'):call1 k P f args K w:=
 call1_of hC fun e w' ⟨v,he,h⟩=>by obtain ⟨x,hv,h⟩:=hR v w' h; exact ⟨x,by rw [he,hv],h⟩
theorem call2_ret {k l:CK} {K:k.ty -> l.ty -> WP} (hC:Rts P f args.toArray w Q) (hR:∀ v w',Q v w' -> ∃ x y,v = .tuple #[k.val x,l.val y] /\ K x y w'):call2 k l P f args K w:=
 call2_of hC fun e w' ⟨v,he,h⟩=>by obtain ⟨x,y,hv,h⟩:=hR v w' h; exact ⟨x,y,by rw [he,hv],h⟩
theorem Rts.mono {R:Value -> WP} {a:Array Value} (h:Rts P f a w Q) (hQ:∀ v w',Q v w' -> R v w'):Rts P f a w R:=Calls.mono h fun e w' ⟨v,he,h⟩=>⟨v,he,hQ v w' h⟩
end
def roomR (r:Int):Int:=max 1 (min r 1024)
theorem roomR_in (r:Int):1 <= roomR r /\ roomR r <= 1024:=by unfold roomR; omega
theorem room_eq (r:Int):(if (1024:Int) < (if (1:Int) > r then (1:Int) else r) then (1024:Int) else (if (1:Int) > r then (1:Int) else r)) = roomR r:=by unfold roomR; split <;> split <;> omega
def hd0 (l:BL):ByteArray:=l.headD ⟨#[]⟩
theorem gTake_hd {l:BL} (hn:l.Nodup) (h:0 < l.length):gTake l (hd0 l) = l.drop 1:=by
 cases l with
 | nil=>simp at h
 | cons x t=>exact gTake_head hn
theorem hd_getD {l:BL} (h:0 < l.length):l.getD (Int.toNat 0) default = hd0 l:=by
 cases l with
 | nil=>simp at h
 | cons a l=>rfl
theorem drop1_take {l:BL}:((l.drop 1).take (l.length - 1)) = l.drop 1:=List.take_of_length_le (by simp)
theorem getD_mem {α:Type} {d:α} {S:List α} {j:Nat} (hj:j < S.length):S.getD j d ∈ S:=by
 rw [List.getD_eq_getElem?_getD,List.getElem?_eq_getElem hj]; exact List.getElem_mem _
theorem gTake_snoc {q:BL} {k:ByteArray} {j:Nat} (hj:j < q.length):gTake (q.take (j + 1)) k = gTake (q.take j) k ++ (if q.getD j default = k then [] else [q.getD j default]):=by
 unfold gTake
 rw [take_snoc hj,List.filter_append]
 congr 1
 rw [List.filter_cons]
 split <;> split <;> simp_all
instance (priority:=low) Rdb.cons {W0:World} {L:List HP} {p:HP} {s:Sl} {α:Type} {E:Rec α} {rows:List α} [h:Rdb W0 L s E rows]:Rdb W0 (p::L) s E rows:=⟨fun w hs=>h.rd w hs.drop⟩
theorem cut1 {W w:World} {L:List HP} {F:HP -> List HP} {s:Sl} {xs:BL} (hs:Sat W w L) [hA:AtS L s (recs Rec.str s xs) F] (h0:0 < xs.length):Sat W w (F (recs Rec.str ⟨subA s.a (((1:Int)).toNat) s.c 1,s.n - ((1:Int)).toNat,s.c - ((1:Int)).toNat⟩ (xs.drop 1))):=by
 have hn:=(recs_len (s:=s) hs (by decide)).1
 have h1:=cut_s (hA:=hA) (lo:=1) (hi:=xs.length) (c:=s.c) hs rfl (by omega) (by omega) rfl (by decide)
 rw [drop1_take] at h1
 rw [hn]
 exact h1
end Go.Hb
