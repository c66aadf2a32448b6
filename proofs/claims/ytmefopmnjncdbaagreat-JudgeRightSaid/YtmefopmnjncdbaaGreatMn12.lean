import Derived.IntWalk
import Derived.Test.YtmefopmnjncdbaaGreatMn11
set_option linter.unusedVariables false
set_option linter.unusedSimpArgs false
set_option linter.unnecessarySimpa false
set_option linter.unusedSectionVars false
set_option maxRecDepth 100000
namespace Go.Hb
abbrev SL:=List (ByteArray × Int)
instance memDec2 {e:ByteArray × Int} {S:SL}:Decidable (e ∈ S):=decidable_of_iff (S.any (fun x=>decide (x = e)) = true) (by simp)
structure LirsS where
 s:SL
 q:List ByteArray
def lKeys (S:SL):List ByteArray:=S.map (·.1)
def lCnt (S:SL) (i:Int):Nat:=S.countP fun e=>decide (e.2 = i)
def lThose (S:SL) (i:Int):List ByteArray:=(S.filter fun e=>decide (e.2 = i)).map (·.1)
def lIs (S:SL) (k:ByteArray):Int:=((S.find? fun e=>decide (e.1 = k)).map (·.2)).getD 0
def lOut (S:SL) (k:ByteArray):SL:=S.filter fun e=>decide (e.1 ≠ k)
def lTop (S:SL) (k:ByteArray) (i:Int):SL:=lOut S k ++ [(k,i)]
def lPrune (S:SL):SL:=S.dropWhile fun e=>decide (e.2 ≠ 1)
def lFirst (S:SL) (i:Int):Option ByteArray:=(S.find? fun e=>decide (e.2 = i)).map (·.1)
def lGhost (S:SL) (k:ByteArray):SL:=S.map fun e=>if e.1 = k then (k,3) else e
def lMost (c:Int):Int:=c - max 1 (c / 10)
def lCool0 (x:LirsS):LirsS:=match lFirst x.s 1 with
 | some k=>⟨lOut x.s k,x.q ++ [k]⟩
 | none=>x
def lCools (x:LirsS):LirsS:=⟨lPrune (lCool0 x).s,(lCool0 x).q⟩
def lForgetN (S:SL):Nat -> SL
 | 0=>S
 | n + 1=>match lFirst S 3 with
  | some k=>lForgetN (lOut S k) n
  | none=>S
def lForget (c:Int) (S:SL):SL:=lForgetN S ((lCnt S 3:Int) - c).toNat
def lHeat0 (x:LirsS) (k:ByteArray):LirsS:=⟨lTop x.s k 1,gTake x.q k⟩
def lHeats (c:Int) (x:LirsS) (k:ByteArray):LirsS:=if lMost c < (lCnt (lHeat0 x k).s 1:Int) then lCools (lHeat0 x k) else lHeat0 x k
def lChills (x:LirsS) (k:ByteArray):LirsS:=⟨lTop x.s k 2,gTake x.q k ++ [k]⟩
def lLen (x:LirsS):Nat:=x.q.length + lCnt x.s 1
def lPr (x:LirsS):LirsS:=⟨lPrune x.s,x.q⟩
def lFp (c:Int) (x:LirsS):LirsS:=⟨lPrune (lForget c x.s),x.q⟩
def lEv0 (x:LirsS):LirsS:=if x.q = [] then lCools x else x
def lEvict (c:Int) (x:LirsS):(ByteArray × Bool) × LirsS:=
 if lLen x = 0 then ((⟨#[]⟩,false),x) else (((lEv0 x).q.headD ⟨#[]⟩,true),lFp c ⟨lGhost (lEv0 x).s ((lEv0 x).q.headD ⟨#[]⟩),(lEv0 x).q.drop 1⟩)
def lRoom (c:Int) (x:LirsS):List ByteArray × LirsS:=if c <= (lLen x:Int) then ([(lEvict c x).1.1],(lEvict c x).2) else ([],x)
def lNew (c:Int) (y:LirsS) (k:ByteArray):LirsS:=if (lCnt y.s 1:Int) < lMost c \/ lIs y.s k = 3 then lHeats c y k else lChills y k
def lAcc (c:Int) (x:LirsS) (k:ByteArray):(Bool × List ByteArray) × LirsS:=
 if lIs x.s k = 1 \/ (k ∈ x.q /\ lIs x.s k = 2) then ((true,[]),lPr (lHeats c x k))
 else if k ∈ x.q then ((true,[]),lPr (lChills x k))
 else ((false,(lRoom c x).1),lFp c (lNew c (lRoom c x).2 k))
def lRes (x:LirsS):List ByteArray:=x.q ++ lThose x.s 1
def lLoad (c:Int) (x:LirsS) (k:ByteArray):Bool × LirsS:=
 if lIs x.s k = 1 \/ k ∈ x.q \/ (lLen x:Int) = c then (false,x)
 else (true,lPr (if (lCnt x.s 1:Int) < lMost c then lHeats c x k else lChills x k))
def lRem (x:LirsS) (k:ByteArray):Bool × LirsS:=if lIs x.s k = 1 \/ k ∈ x.q then (true,lPr ⟨lOut x.s k,gTake x.q k⟩) else (false,x)
def lirs0:LirsS:=⟨[],[]⟩
structure LW (x:LirsS):Prop where
 sn:(lKeys x.s).Nodup
 qn:x.q.Nodup
 kinds:∀ e ∈ x.s,e.2 = 1 \/ e.2 = 2 \/ e.2 = 3
 hotq:∀ e ∈ x.s,e.2 = 1 -> e.1 ∉ x.q
 ghq:∀ e ∈ x.s,e.2 = 3 -> e.1 ∉ x.q
 coldq:∀ e ∈ x.s,e.2 = 2 -> e.1 ∈ x.q
 ssm:∀ e ∈ x.s,e.1.size < 64
 qsm:∀ k ∈ x.q,k.size < 64
structure LOk (c:Int) (x:LirsS):Prop where
 w:LW x
 c1:1 <= c
 c2:c <= 1024
 hots:(lCnt x.s 1:Int) <= lMost c
 ghs:(lCnt x.s 3:Int) <= c
 len:(lLen x:Int) <= c
section
variable {S:SL} {x:LirsS} {k:ByteArray} {c:Int} {i:Int}
theorem mem_lOut {e:ByteArray × Int}:e ∈ lOut S k ↔ e ∈ S /\ e.1 ≠ k:=by simp [lOut]
theorem mem_lTop {e:ByteArray × Int}:e ∈ lTop S k i ↔ (e ∈ S /\ e.1 ≠ k) \/ e = (k,i):=by unfold lTop; rw [List.mem_append,mem_lOut,List.mem_singleton]
theorem lKeys_out (S:SL) (k:ByteArray):lKeys (lOut S k) = gTake (lKeys S) k:=by unfold lKeys lOut gTake; rw [List.filter_map]; rfl
theorem lOut_not (h:k ∉ lKeys S):lOut S k = S:=by
 unfold lOut
 rw [List.filter_eq_self]
 intro e he
 exact decide_eq_true fun hk=>h (List.mem_map.2 ⟨e,he,hk⟩)
theorem lOut_nodup (h:(lKeys S).Nodup):(lKeys (lOut S k)).Nodup:=by rw [lKeys_out]; exact gTake_nodup h
theorem lTop_nodup (h:(lKeys S).Nodup):(lKeys (lTop S k i)).Nodup:=by
 unfold lTop
 have:lKeys (lOut S k ++ [(k,i)]) = gTake (lKeys S) k ++ [k]:=by rw [<- lKeys_out]; simp [lKeys]
 rw [this]; exact gPut_nodup h
theorem lKeys_ghost (S:SL) (k:ByteArray):lKeys (lGhost S k) = lKeys S:=by
 unfold lKeys lGhost
 rw [List.map_map]
 refine List.map_congr_left fun e _=>?_
 simp only [Function.comp]
 split
 ·rename_i h; exact h.symm
 ·rfl
theorem mem_lGhost {e:ByteArray × Int}:e ∈ lGhost S k ↔ (e ∈ S /\ e.1 ≠ k) \/ (e = (k,3) /\ k ∈ lKeys S):=by
 unfold lGhost lKeys
 simp only [List.mem_map]
 constructor
 ·rintro ⟨a,ha,rfl⟩
  split
  ·rename_i h; exact .inr ⟨rfl,a,ha,h⟩
  ·rename_i h; exact .inl ⟨ha,h⟩
 ·rintro (⟨h1,h2⟩ | ⟨rfl,a,ha,hk⟩)
  ·exact ⟨e,h1,by rw [if_neg h2]⟩
  ·exact ⟨a,ha,by rw [if_pos hk]⟩
theorem nodup_val {a b:Int} (h:(lKeys S).Nodup) (h1:(k,a) ∈ S) (h2:(k,b) ∈ S):a = b:=by
 have e1:mGet S k = some a:=(mGet_some h).2 h1
 have e2:mGet S k = some b:=(mGet_some h).2 h2
 rw [e1] at e2; exact Option.some.inj e2
theorem lIs_iff (h:(lKeys S).Nodup) (hi:i ≠ 0):lIs S k = i ↔ (k,i) ∈ S:=by
 rw [<- mGet_some (m:=S) h]
 unfold lIs mGet
 cases hf:(S.find? fun e=>decide (e.1 = k)) with
 | none=>
  simp only [Option.map_none,Option.getD_none]
  constructor
  ·intro h; exact absurd h.symm hi
  ·intro h; cases h
 | some e=>simp
theorem lPrune_sub (S:SL):(lPrune S).Sublist S:=List.dropWhile_sublist _
theorem lPrune_cnt (S:SL):lCnt (lPrune S) 1 = lCnt S 1:=by
 induction S with
 | nil=>rfl
 | cons a S ih=>
  unfold lPrune
  rw [List.dropWhile_cons]
  split
  ·rename_i ha
   simp only [ne_eq,decide_not,Bool.not_eq_eq_eq_not,Bool.not_true,decide_eq_false_iff_not] at ha
   show lCnt (lPrune S) 1 = _
   rw [ih]
   unfold lCnt
   rw [List.countP_cons_of_neg (by simpa using ha)]
  ·rfl
theorem lPrune_those (S:SL):lThose (lPrune S) 1 = lThose S 1:=by
 induction S with
 | nil=>rfl
 | cons a S ih=>
  unfold lPrune
  rw [List.dropWhile_cons]
  split
  ·rename_i ha
   simp only [ne_eq,decide_not,Bool.not_eq_eq_eq_not,Bool.not_true,decide_eq_false_iff_not] at ha
   show lThose (lPrune S) 1 = _
   rw [ih]
   unfold lThose
   rw [List.filter_cons_of_neg (by simpa using ha)]
  ·rfl
theorem lCnt_sub {T:SL} (h:T.Sublist S) (i:Int):lCnt T i <= lCnt S i:=h.countP_le
theorem lCnt_out (h:(lKeys S).Nodup) (i:Int):lCnt (lOut S k) i + (if (k,i) ∈ S then 1 else 0) = lCnt S i:=by
 induction S with
 | nil=>rfl
 | cons a S ih=>
  unfold lKeys at h
  rw [List.map_cons,List.nodup_cons] at h
  have ih:=ih h.2
  unfold lOut lCnt at ih ⊢
  by_cases hk:a.1 = k
  ·have hno:∀ j,(k,j) ∉ S:=fun j hj=>h.1 (List.mem_map.2 ⟨_,hj,hk.symm⟩)
   rw [List.filter_cons_of_neg (by simpa using hk),List.countP_cons]
   rw [if_neg (hno i)] at ih
   have hme:(k,i) ∈ a::S ↔ a.2 = i:=by
    rw [List.mem_cons]
    constructor
    ·rintro (h | h)
     ·rw [<- h]
     ·exact absurd h (hno i)
    ·intro h2; left; rw [<- hk,<- h2]
   simp only [hme,decide_eq_true_eq]
   omega
  ·rw [List.filter_cons_of_pos (by simpa using hk),List.countP_cons,List.countP_cons]
   have hme:(k,i) ∈ a::S ↔ (k,i) ∈ S:=by
    rw [List.mem_cons]
    constructor
    ·rintro (h | h)
     ·exact absurd (by rw [<- h]) hk
     ·exact h
    ·exact .inr
   simp only [hme]
   omega
theorem lCnt_top (j:Int):lCnt (lTop S k i) j = lCnt (lOut S k) j + (if i = j then 1 else 0):=by
 unfold lTop lCnt
 rw [List.countP_append,List.countP_cons]
 simp
theorem lCnt_ghost (h:(lKeys S).Nodup):lCnt (lGhost S k) 1 = lCnt (lOut S k) 1 /\ lCnt (lGhost S k) 3 <= lCnt S 3 + 1:=by
 induction S with
 | nil=>exact ⟨rfl,by simp [lCnt,lGhost]⟩
 | cons a S ih=>
  unfold lKeys at h
  rw [List.map_cons,List.nodup_cons] at h
  obtain ⟨ih1,ih2⟩:=ih h.2
  by_cases hk:a.1 = k
  ·have hno:k ∉ S.map (·.1):=by rw [<- hk]; exact h.1
   have e1:lGhost S k = S:=by
    unfold lGhost
    conv=>rhs; rw [<- List.map_id S]
    refine List.map_congr_left fun e he=>?_
    rw [if_neg (fun h2=>hno (List.mem_map.2 ⟨e,he,h2⟩))]; rfl
   have e2:lOut S k = S:=lOut_not hno
   have e3:lGhost (a::S) k = (k,3)::S:=by
    show (if a.1 = k then (k,3) else a)::lGhost S k = _
    rw [if_pos hk,e1]
   have e4:lOut (a::S) k = S:=by
    have:lOut (a::S) k = lOut S k:=by unfold lOut; rw [List.filter_cons_of_neg (by simpa using hk)]
    rw [this,e2]
   rw [e3,e4]
   unfold lCnt
   rw [List.countP_cons,List.countP_cons,List.countP_cons]
   simp
  ·have e3:lGhost (a::S) k = a::lGhost S k:=by
    show (if a.1 = k then (k,3) else a)::lGhost S k = _
    rw [if_neg hk]
   have e4:lOut (a::S) k = a::lOut S k:=by
    unfold lOut
    rw [List.filter_cons_of_pos (by simpa using hk)]
   rw [e3,e4]
   unfold lCnt at *
   constructor
   ·rw [List.countP_cons,List.countP_cons,ih1]
   ·rw [List.countP_cons,List.countP_cons]; omega
theorem lFirst_mem (h:lFirst S i = some k):(k,i) ∈ S:=by
 unfold lFirst at h
 cases hf:(S.find? fun e=>decide (e.2 = i)) with
 | none=>rw [hf] at h; cases h
 | some e=>
  rw [hf] at h
  simp only [Option.map_some,Option.some.injEq] at h
  have h1:=List.mem_of_find?_eq_some hf
  have h2:=List.find?_some hf
  simp only [decide_eq_true_eq] at h2
  rw [<- h,<- h2]; exact h1
theorem lFirst_none:lFirst S i = none ↔ lCnt S i = 0:=by
 unfold lFirst lCnt
 rw [Option.map_eq_none_iff,List.find?_eq_none,List.countP_eq_zero]
theorem lForgetN_sub:∀ (n:Nat) (S:SL),(lForgetN S n).Sublist S
 | 0,S=>List.Sublist.refl _
 | n + 1,S=>by
  unfold lForgetN
  split
  ·exact (lForgetN_sub n _).trans List.filter_sublist
  ·exact List.Sublist.refl _
theorem lForgetN_cnt:∀ (n:Nat) (S:SL),(lKeys S).Nodup -> lCnt (lForgetN S n) 3 = lCnt S 3 - n /\ (∀ e ∈ S,e.2 ≠ 3 -> e ∈ lForgetN S n)
 | 0,S,_=>⟨by simp [lForgetN],fun e he _=>he⟩
 | n + 1,S,h=>by
  unfold lForgetN
  split
  ·rename_i k hk
   have hm:=lFirst_mem hk
   have h1:=lCnt_out (k:=k) h 3
   rw [if_pos hm] at h1
   obtain ⟨h2,h3⟩:=lForgetN_cnt n (lOut S k) (lOut_nodup h)
   refine ⟨by omega,fun e he he3=>h3 e (mem_lOut.2 ⟨he,fun hek=>?_⟩) he3⟩
   have:e.2 = 3:=nodup_val (k:=k) h (by rw [<- hek]; exact he) hm
   exact he3 this
  ·rename_i hk
   have:=lFirst_none.1 hk
   exact ⟨by omega,fun e he _=>he⟩
theorem lForgetN_those:∀ (n:Nat) (S:SL),(lKeys S).Nodup -> lThose (lForgetN S n) 1 = lThose S 1 /\ lCnt (lForgetN S n) 1 = lCnt S 1
 | 0,S,_=>⟨rfl,rfl⟩
 | n + 1,S,h=>by
  unfold lForgetN
  split
  ·rename_i k hk
   have hm:=lFirst_mem hk
   obtain ⟨h2,h3⟩:=lForgetN_those n (lOut S k) (lOut_nodup h)
   have hne:∀ e ∈ S,e.2 = 1 -> e.1 ≠ k:=fun e he h1 hek=>by
    have:e.2 = 3:=nodup_val (k:=k) h (by rw [<- hek]; exact he) hm
    omega
   have h4:(lOut S k).filter (fun e=>decide (e.2 = 1)) = S.filter (fun e=>decide (e.2 = 1)):=by
    unfold lOut
    rw [List.filter_filter]
    refine List.filter_congr fun e he=>?_
    by_cases h1:e.2 = 1
    ·simp [h1,hne e he h1]
    ·simp [h1]
   rw [h2,h3]
   unfold lThose lCnt
   rw [h4,List.countP_eq_length_filter,List.countP_eq_length_filter,h4]
   exact ⟨rfl,rfl⟩
  ·exact ⟨rfl,rfl⟩
theorem lThose_mem:k ∈ lThose S i ↔ (k,i) ∈ S:=by
 unfold lThose
 simp only [List.mem_map,List.mem_filter,decide_eq_true_eq]
 constructor
 ·rintro ⟨e,⟨h1,h2⟩,rfl⟩; rw [<- h2]; exact h1
 ·intro h; exact ⟨_,⟨h,rfl⟩,rfl⟩
theorem lThose_len (S:SL) (i:Int):(lThose S i).length = lCnt S i:=by unfold lThose lCnt; rw [List.length_map,List.countP_eq_length_filter]
theorem mem_lRes:k ∈ lRes x ↔ k ∈ x.q \/ (k,1) ∈ x.s:=by unfold lRes; rw [List.mem_append,lThose_mem]
theorem lRes_len (x:LirsS):(lRes x).length = lLen x:=by unfold lRes lLen; rw [List.length_append,lThose_len]
theorem LW.res_nd (h:LW x):(lRes x).Nodup:=by
 unfold lRes
 rw [List.nodup_append]
 refine ⟨h.qn,?_,fun a ha b hb hab=>?_⟩
 ·exact h.sn.sublist (List.filter_sublist.map _)
 ·subst hab
  exact h.hotq _ (lThose_mem.1 hb) rfl ha
theorem LW.heat (h:LW x) (hz:k.size < 64):LW (lHeat0 x k):=by
 refine ⟨lTop_nodup h.sn,gTake_nodup h.qn,fun e he=>?_,fun e he h1=>?_,fun e he h1=>?_,fun e he h1=>?_,fun e he=>?_,fun y hy=>h.qsm y (gTake_mem.1 hy).1⟩
 ·rcases mem_lTop.1 he with ⟨he,_⟩ | rfl
  ·exact h.kinds e he
  ·exact .inl rfl
 ·rcases mem_lTop.1 he with ⟨he,hk⟩ | rfl
  ·exact fun hq=>h.hotq e he h1 (gTake_mem.1 hq).1
  ·exact fun hq=>(gTake_mem.1 hq).2 rfl
 ·rcases mem_lTop.1 he with ⟨he,hk⟩ | rfl
  ·exact fun hq=>h.ghq e he h1 (gTake_mem.1 hq).1
  ·cases h1
 ·rcases mem_lTop.1 he with ⟨he,hk⟩ | rfl
  ·exact gTake_mem.2 ⟨h.coldq e he h1,hk⟩
  ·cases h1
 ·rcases mem_lTop.1 he with ⟨he,hk⟩ | rfl
  ·exact h.ssm e he
  ·exact hz
theorem LW.chill (h:LW x) (hz:k.size < 64):LW (lChills x k):=by
 refine ⟨lTop_nodup h.sn,gPut_nodup h.qn,fun e he=>?_,fun e he h1=>?_,fun e he h1=>?_,fun e he h1=>?_,fun e he=>?_,fun y hy=>?_⟩
 ·rcases mem_lTop.1 he with ⟨he,_⟩ | rfl
  ·exact h.kinds e he
  ·exact .inr (.inl rfl)
 ·rcases mem_lTop.1 he with ⟨he,hk⟩ | rfl
  ·intro hq
   rcases List.mem_append.1 hq with hq | hq
   ·exact h.hotq e he h1 (gTake_mem.1 hq).1
   ·exact hk (List.mem_singleton.1 hq)
  ·cases h1
 ·rcases mem_lTop.1 he with ⟨he,hk⟩ | rfl
  ·intro hq
   rcases List.mem_append.1 hq with hq | hq
   ·exact h.ghq e he h1 (gTake_mem.1 hq).1
   ·exact hk (List.mem_singleton.1 hq)
  ·cases h1
 ·rcases mem_lTop.1 he with ⟨he,hk⟩ | rfl
  ·exact List.mem_append_left _ (gTake_mem.2 ⟨h.coldq e he h1,hk⟩)
  ·exact List.mem_append_right _ (List.mem_singleton.2 rfl)
 ·rcases mem_lTop.1 he with ⟨he,hk⟩ | rfl
  ·exact h.ssm e he
  ·exact hz
 ·rcases List.mem_append.1 hy with hy | hy
  ·exact h.qsm y (gTake_mem.1 hy).1
  ·rw [List.mem_singleton] at hy; subst hy; exact hz
theorem LW.sub (h:LW x) {T:SL} (hT:T.Sublist x.s):LW ⟨T,x.q⟩:=
 ⟨h.sn.sublist (hT.map _),h.qn,fun e he=>h.kinds e (hT.subset he),fun e he=>h.hotq e (hT.subset he),fun e he=>h.ghq e (hT.subset he),fun e he=>h.coldq e (hT.subset he),fun e he=>h.ssm e (hT.subset he),h.qsm⟩
theorem LW.cool (h:LW x) (hk:(k,1) ∈ x.s):LW ⟨lOut x.s k,x.q ++ [k]⟩:=by
 have hq:=h.hotq _ hk rfl
 refine ⟨lOut_nodup h.sn,?_,fun e he=>h.kinds e (mem_lOut.1 he).1,fun e he h1 hq2=>?_,fun e he h1 hq2=>?_,fun e he h1=>List.mem_append_left _ (h.coldq e (mem_lOut.1 he).1 h1),fun e he=>h.ssm e (mem_lOut.1 he).1,fun y hy=>?_⟩
 ·rw [List.nodup_append]
  exact ⟨h.qn,by simp,fun a ha b hb hab=>by rw [List.mem_singleton] at hb; subst hb; exact hq (hab ▸ ha)⟩
 ·rcases List.mem_append.1 hq2 with h2 | h2
  ·exact h.hotq e (mem_lOut.1 he).1 h1 h2
  ·exact (mem_lOut.1 he).2 (List.mem_singleton.1 h2)
 ·rcases List.mem_append.1 hq2 with h2 | h2
  ·exact h.ghq e (mem_lOut.1 he).1 h1 h2
  ·exact (mem_lOut.1 he).2 (List.mem_singleton.1 h2)
 ·rcases List.mem_append.1 hy with hy | hy
  ·exact h.qsm y hy
  ·rw [List.mem_singleton] at hy; subst hy; exact h.ssm _ hk
theorem LW.ghost {t:List ByteArray} (h:LW x) (hq:x.q = k::t):LW ⟨lGhost x.s k,t⟩:=by
 have hn:=h.qn
 rw [hq,List.nodup_cons] at hn
 have hsub:∀ y ∈ t,y ∈ x.q:=fun y hy=>by rw [hq]; exact .tail _ hy
 refine ⟨by rw [lKeys_ghost]; exact h.sn,hn.2,fun e he=>?_,fun e he h1=>?_,fun e he h1=>?_,fun e he h1=>?_,fun e he=>?_,fun y hy=>h.qsm y (hsub y hy)⟩
 ·rcases mem_lGhost.1 he with ⟨he,_⟩ | ⟨rfl,_⟩
  ·exact h.kinds e he
  ·exact .inr (.inr rfl)
 ·rcases mem_lGhost.1 he with ⟨he,hk⟩ | ⟨rfl,_⟩
  ·exact fun h2=>h.hotq e he h1 (hsub _ h2)
  ·cases h1
 ·rcases mem_lGhost.1 he with ⟨he,hk⟩ | ⟨rfl,_⟩
  ·exact fun h2=>h.ghq e he h1 (hsub _ h2)
  ·exact hn.1
 ·rcases mem_lGhost.1 he with ⟨he,hk⟩ | ⟨rfl,_⟩
  ·have:=h.coldq e he h1
   rw [hq] at this
   rcases List.mem_cons.1 this with h2 | h2
   ·exact absurd h2 hk
   ·exact h2
  ·cases h1
 ·rcases mem_lGhost.1 he with ⟨he,hk⟩ | ⟨rfl,_⟩
  ·exact h.ssm e he
  ·exact h.qsm k (by rw [hq]; exact .head _)
theorem LW.rem (h:LW x) (k:ByteArray):LW ⟨lOut x.s k,gTake x.q k⟩:=
 ⟨lOut_nodup h.sn,gTake_nodup h.qn,fun e he=>h.kinds e (mem_lOut.1 he).1,fun e he h1 hq=>h.hotq e (mem_lOut.1 he).1 h1 (gTake_mem.1 hq).1,fun e he h1 hq=>h.ghq e (mem_lOut.1 he).1 h1 (gTake_mem.1 hq).1,
  fun e he h1=>gTake_mem.2 ⟨h.coldq e (mem_lOut.1 he).1 h1,(mem_lOut.1 he).2⟩,fun e he=>h.ssm e (mem_lOut.1 he).1,fun y hy=>h.qsm y (gTake_mem.1 hy).1⟩
theorem lPr_res (x:LirsS):lRes (lPr x) = lRes x:=by unfold lRes lPr; rw [lPrune_those]
theorem lPr_len (x:LirsS):lLen (lPr x) = lLen x /\ lCnt (lPr x).s 1 = lCnt x.s 1 /\ lCnt (lPr x).s 3 <= lCnt x.s 3:=by
 refine ⟨?_,lPrune_cnt _,lCnt_sub (lPrune_sub _) 3⟩
 unfold lLen lPr; rw [lPrune_cnt]
theorem lFp_res (h:(lKeys x.s).Nodup):lRes (lFp c x) = lRes x /\ lLen (lFp c x) = lLen x /\ lCnt (lFp c x).s 1 = lCnt x.s 1 /\ (0 <= c -> (lCnt (lFp c x).s 3:Int) <= c):=by
 obtain ⟨h1,h2⟩:=lForgetN_those ((lCnt x.s 3:Int) - c).toNat x.s h
 obtain ⟨h3,_⟩:=lForgetN_cnt ((lCnt x.s 3:Int) - c).toNat x.s h
 have h4:=lCnt_sub (lPrune_sub (lForget c x.s)) 3
 refine ⟨?_,?_,?_,fun hc=>?_⟩
 ·unfold lRes lFp; rw [lPrune_those]; unfold lForget; rw [h1]
 ·unfold lLen lFp; rw [lPrune_cnt]; unfold lForget; rw [h2]
 ·unfold lFp; rw [lPrune_cnt]; unfold lForget; rw [h2]
 ·unfold lFp
  unfold lForget at h4 ⊢
  simp only
  omega
theorem LW.fp (h:LW x):LW (lFp c x):=h.sub ((lPrune_sub _).trans (lForgetN_sub _ _))
theorem LW.pr (h:LW x):LW (lPr x):=h.sub (lPrune_sub _)
theorem lCools_ok (h:LW x) (hp:0 < lCnt x.s 1):∃ k,(k,1) ∈ x.s /\ lCool0 x = ⟨lOut x.s k,x.q ++ [k]⟩ /\ LW (lCools x) /\ (∀ y,y ∈ lRes (lCools x) ↔ y ∈ lRes x) /\ lLen (lCools x) = lLen x /\ lCnt (lCools x).s 1 + 1 = lCnt x.s 1 /\ lCnt (lCools x).s 3 <= lCnt x.s 3:=by
 cases hf:lFirst x.s 1 with
 | none=>have:=lFirst_none.1 hf; omega
 | some k=>
  have hm:=lFirst_mem hf
  have e0:lCool0 x = ⟨lOut x.s k,x.q ++ [k]⟩:=by unfold lCool0; rw [hf]
  have hw:=h.cool hm
  have h1:=lCnt_out (k:=k) h.sn 1
  rw [if_pos hm] at h1
  have h3:=lCnt_out (k:=k) h.sn 3
  have h4:=lCnt_sub (lPrune_sub (lOut x.s k)) 3
  refine ⟨k,hm,e0,?_,fun y=>?_,?_,?_,?_⟩
  ·unfold lCools; rw [e0]; exact hw.sub (lPrune_sub _)
  ·have:lRes (lCools x) = lRes ⟨lOut x.s k,x.q ++ [k]⟩:=by unfold lCools; rw [e0]; exact lPr_res ⟨lOut x.s k,x.q ++ [k]⟩
   rw [this,mem_lRes,mem_lRes]
   simp only [List.mem_append,List.mem_singleton,mem_lOut]
   constructor
   ·rintro ((h | rfl) | h)
    ·exact .inl h
    ·exact .inr hm
    ·exact .inr h.1
   ·rintro (h | h)
    ·exact .inl (.inl h)
    ·by_cases hy:y = k
     ·exact .inl (.inr hy)
     ·exact .inr ⟨h,hy⟩
  ·unfold lCools lLen; rw [e0]; simp only [lPrune_cnt,List.length_append,List.length_cons,List.length_nil]; omega
  ·unfold lCools; rw [e0]; simp only [lPrune_cnt]; omega
  ·unfold lCools; rw [e0]; simp only; split at h3 <;> omega
theorem lHeat0_res (h:LW x):(∀ y,y ∈ lRes (lHeat0 x k) ↔ y ∈ lRes x \/ y = k) /\ lCnt (lHeat0 x k).s 1 + (if (k,1) ∈ x.s then 1 else 0) = lCnt x.s 1 + 1 /\ lLen (lHeat0 x k) + (if k ∈ lRes x then 1 else 0) = lLen x + 1 /\ lCnt (lHeat0 x k).s 3 <= lCnt x.s 3:=by
 have h1:=lCnt_out (k:=k) h.sn 1
 have h3:=lCnt_out (k:=k) h.sn 3
 have e1:lCnt (lHeat0 x k).s 1 = lCnt (lOut x.s k) 1 + 1:=by unfold lHeat0; simp only; rw [lCnt_top]; simp
 have e3:lCnt (lHeat0 x k).s 3 = lCnt (lOut x.s k) 3:=by unfold lHeat0; simp only; rw [lCnt_top]; simp
 refine ⟨fun y=>?_,by omega,?_,by omega⟩
 ·rw [mem_lRes,mem_lRes]
  unfold lHeat0
  simp only [gTake_mem,mem_lTop]
  constructor
  ·rintro (h | (h | h))
   ·exact .inl (.inl h.1)
   ·exact .inl (.inr h.1)
   ·exact .inr (by cases h; rfl)
  ·rintro (h | rfl)
   ·by_cases hy:y = k
    ·subst hy; exact .inr (.inr rfl)
    ·rcases h with h | h
     ·exact .inl ⟨h,hy⟩
     ·exact .inr (.inl ⟨h,hy⟩)
   ·exact .inr (.inr rfl)
 ·unfold lLen
  rw [e1]
  have e4:(lHeat0 x k).q = gTake x.q k:=rfl
  rw [e4]
  by_cases hq:k ∈ x.q
  ·have e5:=(gTake_perm1 h.qn hq).length_eq
   simp only [List.length_cons] at e5
   rw [if_pos (mem_lRes.2 (.inl hq))]
   rw [if_neg (fun hh=>h.hotq _ hh rfl hq)] at h1
   omega
  ·rw [gTake_not hq]
   by_cases hh:(k,1) ∈ x.s
   ·rw [if_pos (mem_lRes.2 (.inr hh))]
    rw [if_pos hh] at h1
    omega
   ·rw [if_neg (fun h=>(mem_lRes.1 h).elim hq hh)]
    rw [if_neg hh] at h1
    omega
theorem lHeats_ok (h:LW x) (hz:k.size < 64) (hm:0 <= lMost c) (hh:(lCnt x.s 1:Int) <= lMost c):LW (lHeats c x k) /\ (∀ y,y ∈ lRes (lHeats c x k) ↔ y ∈ lRes x \/ y = k) /\
  lLen (lHeats c x k) + (if k ∈ lRes x then 1 else 0) = lLen x + 1 /\ (lCnt (lHeats c x k).s 1:Int) <= lMost c /\ lCnt (lHeats c x k).s 3 <= lCnt x.s 3:=by
 obtain ⟨h1,h2,h3,h4⟩:=lHeat0_res h (k:=k)
 have hw:=h.heat (k:=k) hz
 unfold lHeats
 split
 ·rename_i hc
  obtain ⟨j,hj,e0,w1,w2,w3,w4,w5⟩:=lCools_ok hw (by omega)
  refine ⟨w1,fun y=>(w2 y).trans (h1 y),by omega,?_,by omega⟩
  split at h2 <;> omega
 ·rename_i hc
  exact ⟨hw,h1,h3,by omega,h4⟩
theorem lChills_res (h:LW x) (hk:(k,1) ∉ x.s):(∀ y,y ∈ lRes (lChills x k) ↔ y ∈ lRes x \/ y = k) /\ lCnt (lChills x k).s 1 = lCnt x.s 1 /\ lLen (lChills x k) + (if k ∈ lRes x then 1 else 0) = lLen x + 1 /\ lCnt (lChills x k).s 3 <= lCnt x.s 3:=by
 have h1:=lCnt_out (k:=k) h.sn 1
 have h3:=lCnt_out (k:=k) h.sn 3
 rw [if_neg hk] at h1
 have e1:lCnt (lChills x k).s 1 = lCnt (lOut x.s k) 1:=by unfold lChills; simp only; rw [lCnt_top]; simp
 have e3:lCnt (lChills x k).s 3 = lCnt (lOut x.s k) 3:=by unfold lChills; simp only; rw [lCnt_top]; simp
 refine ⟨fun y=>?_,by omega,?_,by omega⟩
 ·rw [mem_lRes,mem_lRes]
  unfold lChills
  simp only [List.mem_append,List.mem_singleton,gTake_mem,mem_lTop]
  constructor
  ·rintro ((h | h) | (h | h))
   ·exact .inl (.inl h.1)
   ·exact .inr h
   ·exact .inl (.inr h.1)
   ·cases h
  ·rintro (h | rfl)
   ·by_cases hy:y = k
    ·exact .inl (.inr hy)
    ·rcases h with h | h
     ·exact .inl (.inl ⟨h,hy⟩)
     ·exact .inr (.inl ⟨h,hy⟩)
   ·exact .inl (.inr rfl)
 ·unfold lLen
  rw [e1]
  have e4:(lChills x k).q = gTake x.q k ++ [k]:=rfl
  rw [e4,List.length_append]
  simp only [List.length_cons,List.length_nil]
  by_cases hq:k ∈ x.q
  ·have e5:=(gTake_perm1 h.qn hq).length_eq
   simp only [List.length_cons] at e5
   rw [if_pos (mem_lRes.2 (.inl hq))]
   omega
  ·rw [gTake_not hq,if_neg (fun h=>(mem_lRes.1 h).elim hq hk)]
   omega
structure LEv (c:Int) (x y:LirsS) (k:ByteArray):Prop where
 ok:LOk c y
 sub:k ∈ lRes x
 mem:∀ z,z ∈ lRes y ↔ z ∈ lRes x /\ z ≠ k
 len:lLen y + 1 = lLen x
theorem lEvict_ok (h:LOk c x) (hp:lLen x ≠ 0):(lEvict c x).1.2 = true /\ LEv c x (lEvict c x).2 (lEvict c x).1.1:=by
 have hc1:=h.c1
 have hE:∀ y:LirsS,LW y -> (lCnt y.s 1:Int) <= lMost c -> (∀ z,z ∈ lRes y ↔ z ∈ lRes x) -> lLen y = lLen x -> y.q ≠ [] -> LEv c x (lFp c ⟨lGhost y.s (y.q.headD ⟨#[]⟩),y.q.drop 1⟩) (y.q.headD ⟨#[]⟩):=by
  intro y hw hh hm hl hq
  obtain ⟨k,t,hk⟩:∃ k t,y.q = k::t:=by
   cases hq2:y.q with
   | nil=>exact absurd hq2 hq
   | cons k t=>exact ⟨k,t,rfl⟩
  have e1:y.q.headD ⟨#[]⟩ = k:=by rw [hk]; rfl
  have e2:y.q.drop 1 = t:=by rw [hk]; rfl
  rw [e1,e2]
  have hw2:=hw.ghost hk
  have hg:=lFp_res (c:=c) (x:=⟨lGhost y.s k,t⟩) hw2.sn
  obtain ⟨c1,c3⟩:=lCnt_ghost (k:=k) hw.sn
  have c0:=lCnt_out (k:=k) hw.sn 1
  have hkq:k ∈ y.q:=by rw [hk]; exact .head _
  have hno:(k,(1:Int)) ∉ y.s:=fun hx=>hw.hotq _ hx rfl hkq
  rw [if_neg hno] at c0
  have hlen:lLen ⟨lGhost y.s k,t⟩ + 1 = lLen y:=by
   unfold lLen; simp only; rw [hk,List.length_cons]; omega
  refine ⟨⟨hw2.fp,h.c1,h.c2,?_,hg.2.2.2 (by omega),?_⟩,(hm k).1 (mem_lRes.2 (.inl hkq)),fun z=>?_,?_⟩
  ·rw [hg.2.2.1]; simp only; omega
  ·rw [hg.2.1]; have:=h.len; omega
  ·rw [hg.1,<- hm z,mem_lRes,mem_lRes,hk]
   have hn:=hw.qn
   rw [hk,List.nodup_cons] at hn
   simp only [mem_lGhost,List.mem_cons]
   constructor
   ·rintro (hz | (⟨hz,hz2⟩ | ⟨hz,_⟩))
    ·exact ⟨.inl (.inr hz),fun hzk=>hn.1 (hzk ▸ hz)⟩
    ·exact ⟨.inr hz,hz2⟩
    ·cases hz
   ·rintro ⟨(rfl | hz) | hz,hne⟩
    ·exact absurd rfl hne
    ·exact .inl hz
    ·exact .inr (.inl ⟨hz,hne⟩)
  ·rw [hg.2.1]; omega
 unfold lEvict
 rw [if_neg hp]
 refine ⟨rfl,?_⟩
 simp only
 unfold lEv0
 split
 ·rename_i hq
  have hpos:0 < lCnt x.s 1:=by unfold lLen at hp; rw [hq] at hp; simp at hp; omega
  obtain ⟨j,hj,e0,w1,w2,w3,w4,w5⟩:=lCools_ok h.w hpos
  have hh:=h.hots
  exact hE _ w1 (by omega) w2 w3 (by unfold lCools; rw [e0]; simp)
 ·rename_i hq
  exact hE x h.w h.hots (fun z=>Iff.rfl) rfl hq
theorem lMost_pos (h1:1 <= c):0 <= lMost c /\ lMost c < c:=by unfold lMost; omega
theorem lAcc_law (h:LOk c x) (hz:k.size < 64):LOk c (lAcc c x k).2 /\ EAcc (lRes x) (lRes (lAcc c x k).2) k (lAcc c x k).1.1 (lAcc c x k).1.2:=by
 have hc1:=h.c1
 have hmp:=lMost_pos hc1
 have hlen:=h.len
 unfold lAcc
 split
 ·rename_i h1
  dsimp only
  have hk:k ∈ lRes x:=by
   rcases h1 with h1 | h1
   ·exact mem_lRes.2 (.inr ((lIs_iff h.w.sn (by decide)).1 h1))
   ·exact mem_lRes.2 (.inl h1.1)
  obtain ⟨w1,w2,w3,w4,w5⟩:=lHeats_ok h.w hz (c:=c) hmp.1 h.hots
  obtain ⟨p1,p2,p3⟩:=lPr_len (lHeats c x k)
  rw [if_pos hk] at w3
  have hg:=h.ghs
  refine ⟨⟨w1.pr,h.c1,h.c2,by rw [p2]; exact w4,by omega,by rw [p1]; omega⟩,⟨by simp [hk],by simp,by simp,by simp,fun _=>rfl,fun y=>?_⟩⟩
  rw [lPr_res,w2]; simp
 ·rename_i h1
  split
  ·rename_i hq
   dsimp only
   have hk:k ∈ lRes x:=mem_lRes.2 (.inl hq)
   have hno:(k,(1:Int)) ∉ x.s:=fun hx=>h.w.hotq _ hx rfl hq
   obtain ⟨w2,w4,w3,w5⟩:=lChills_res h.w hno
   obtain ⟨p1,p2,p3⟩:=lPr_len (lChills x k)
   rw [if_pos hk] at w3
   have hg:=h.ghs
   refine ⟨⟨(h.w.chill hz).pr,h.c1,h.c2,by rw [p2,w4]; exact h.hots,by omega,by rw [p1]; omega⟩,⟨by simp [hk],by simp,by simp,by simp,fun _=>rfl,fun y=>?_⟩⟩
   rw [lPr_res,w2]; simp
  ·rename_i hq
   have hno:(k,(1:Int)) ∉ x.s:=fun hx=>h1 (.inl ((lIs_iff h.w.sn (by decide)).2 hx))
   have hk:k ∉ lRes x:=fun hx=>(mem_lRes.1 hx).elim hq hno
   have hR:∃ g y,lRoom c x = (g,y) /\ LOk c y /\ (lLen y:Int) < c /\ (∀ z ∈ g,z ∈ lRes x) /\ g.length <= 1 /\ (∀ z,z ∈ lRes y ↔ z ∈ lRes x /\ z ∉ g):=by
    unfold lRoom
    split
    ·rename_i hl
     obtain ⟨_,he⟩:=lEvict_ok h (by omega)
     exact ⟨_,_,rfl,he.ok,by have:=he.len; omega,fun z hz=>by rw [List.mem_singleton] at hz; subst hz; exact he.sub,by simp,fun z=>by rw [he.mem,List.mem_singleton]⟩
    ·rename_i hl
     exact ⟨_,_,rfl,h,by omega,by simp,by simp,by simp⟩
   obtain ⟨g,y,e0,hy,hl,g1,g2,g3⟩:=hR
   rw [e0]
   simp only
   have hky:k ∉ lRes y:=fun hx=>hk ((g3 k).1 hx).1
   have hnoy:(k,(1:Int)) ∉ y.s:=fun hx=>hky (mem_lRes.2 (.inr hx))
   have hN:LW (lNew c y k) /\ (∀ z,z ∈ lRes (lNew c y k) ↔ z ∈ lRes y \/ z = k) /\ lLen (lNew c y k) = lLen y + 1 /\ (lCnt (lNew c y k).s 1:Int) <= lMost c:=by
    unfold lNew
    split
    ·obtain ⟨w1,w2,w3,w4,w5⟩:=lHeats_ok hy.w hz (c:=c) hmp.1 hy.hots
     rw [if_neg hky] at w3
     exact ⟨w1,w2,by omega,w4⟩
    ·obtain ⟨w2,w4,w3,w5⟩:=lChills_res hy.w hnoy
     rw [if_neg hky] at w3
     exact ⟨hy.w.chill hz,w2,by omega,by rw [w4]; exact hy.hots⟩
   obtain ⟨n1,n2,n3,n4⟩:=hN
   obtain ⟨f1,f2,f3,f4⟩:=lFp_res (c:=c) n1.sn
   refine ⟨⟨n1.fp,h.c1,h.c2,by rw [f3]; exact n4,f4 (by omega),by rw [f2]; omega⟩,⟨by simp [hk],g1,g2,fun hx=>hk (g1 k hx),fun h=>(by cases h),fun z=>?_⟩⟩
   rw [f1,n2,g3]
theorem lHas (h:LW x):(decide (lIs x.s k = 1) || decide (k ∈ x.q)) = decide (k ∈ lRes x):=by
 rw [Bool.eq_iff_iff]
 simp only [Bool.or_eq_true,decide_eq_true_eq]
 rw [mem_lRes,lIs_iff h.sn (by decide)]
 constructor
 ·rintro (h | h)
  ·exact .inr h
  ·exact .inl h
 ·rintro (h | h)
  ·exact .inr h
  ·exact .inl h
theorem lLoad_law (h:LOk c x) (hz:k.size < 64):LOk c (lLoad c x k).2 /\ (lLoad c x k).1 = decide (k ∉ lRes x /\ ((lRes x).length:Int) < c) /\ ((lLoad c x k).1 = true -> ∀ z,z ∈ lRes (lLoad c x k).2 ↔ z ∈ lRes x \/ z = k) /\ ((lLoad c x k).1 = false -> (lLoad c x k).2 = x):=by
 have hc1:=h.c1
 have hmp:=lMost_pos hc1
 have hlen:=h.len
 have hrl:=lRes_len x
 unfold lLoad
 split
 ·rename_i h1
  refine ⟨h,?_,fun h=>by (cases h),fun _=>rfl⟩
  symm
  rw [decide_eq_false_iff_not,mem_lRes]
  rintro ⟨h2,h3⟩
  rcases h1 with h1 | h1 | h1
  ·exact h2 (.inr ((lIs_iff h.w.sn (by decide)).1 h1))
  ·exact h2 (.inl h1)
  ·omega
 ·rename_i h1
  have hno:(k,(1:Int)) ∉ x.s:=fun hx=>h1 (.inl ((lIs_iff h.w.sn (by decide)).2 hx))
  have hk:k ∉ lRes x:=fun hx=>by
   rcases mem_lRes.1 hx with hx | hx
   ·exact h1 (.inr (.inl hx))
   ·exact hno hx
  have hl:(lLen x:Int) < c:=by
   have:¬ (lLen x:Int) = c:=fun hx=>h1 (.inr (.inr hx))
   omega
  have hg:=h.ghs
  dsimp only
  split
  ·obtain ⟨w1,w2,w3,w4,w5⟩:=lHeats_ok h.w hz (c:=c) hmp.1 h.hots
   rw [if_neg hk] at w3
   obtain ⟨p1,p2,p3⟩:=lPr_len (lHeats c x k)
   refine ⟨⟨w1.pr,h.c1,h.c2,by rw [p2]; exact w4,by omega,by rw [p1]; omega⟩,?_,fun _ z=>by rw [lPr_res,w2],fun h=>by cases h⟩
   symm; rw [decide_eq_true_eq]; exact ⟨hk,by omega⟩
  ·obtain ⟨w2,w4,w3,w5⟩:=lChills_res h.w hno
   rw [if_neg hk] at w3
   obtain ⟨p1,p2,p3⟩:=lPr_len (lChills x k)
   refine ⟨⟨(h.w.chill hz).pr,h.c1,h.c2,by rw [p2,w4]; exact h.hots,by omega,by rw [p1]; omega⟩,?_,fun _ z=>by rw [lPr_res,w2],fun h=>by cases h⟩
   symm; rw [decide_eq_true_eq]; exact ⟨hk,by omega⟩
theorem lRem_law (h:LOk c x):LOk c (lRem x k).2 /\ (lRem x k).1 = decide (k ∈ lRes x) /\ ((lRem x k).1 = true -> (∀ z,z ∈ lRes (lRem x k).2 ↔ z ∈ lRes x /\ z ≠ k) /\ (k,(3:Int)) ∉ (lRem x k).2.s) /\ ((lRem x k).1 = false -> (lRem x k).2 = x):=by
 have hc1:=h.c1
 have hlen:=h.len
 unfold lRem
 split
 ·rename_i h1
  dsimp only
  have hk:k ∈ lRes x:=by
   rcases h1 with h1 | h1
   ·exact mem_lRes.2 (.inr ((lIs_iff h.w.sn (by decide)).1 h1))
   ·exact mem_lRes.2 (.inl h1)
  have hw:=h.w.rem k
  obtain ⟨p1,p2,p3⟩:=lPr_len ⟨lOut x.s k,gTake x.q k⟩
  have c1:=lCnt_out (k:=k) h.w.sn 1
  have c3:=lCnt_out (k:=k) h.w.sn 3
  have hh:=h.hots
  have hg:=h.ghs
  have hq:=gTake_len x.q k
  refine ⟨⟨hw.pr,h.c1,h.c2,by rw [p2]; simp only; omega,by simp only at p3; omega,?_⟩,by simp [hk],fun _=>⟨fun z=>?_,fun hx=>?_⟩,fun h=>by cases h⟩
  ·rw [p1]; unfold lLen at hlen ⊢; simp only; omega
  ·rw [lPr_res,mem_lRes,mem_lRes]
   simp only [gTake_mem,mem_lOut]
   constructor
   ·rintro (h | h)
    ·exact ⟨.inl h.1,h.2⟩
    ·exact ⟨.inr h.1,h.2⟩
   ·rintro ⟨h | h,h2⟩
    ·exact .inl ⟨h,h2⟩
    ·exact .inr ⟨h,h2⟩
  ·have:=(lPrune_sub _).subset hx
   exact (mem_lOut.1 this).2 rfl
 ·rename_i h1
  refine ⟨h,?_,fun h=>by (cases h),fun _=>rfl⟩
  symm
  rw [decide_eq_false_iff_not,mem_lRes]
  rintro (h2 | h2)
  ·exact h1 (.inr h2)
  ·exact h1 (.inl ((lIs_iff h.w.sn (by decide)).2 h2))
theorem lOk0 (h1:1 <= c) (h2:c <= 1024):LOk c lirs0:=by
 have:=lMost_pos h1
 exact ⟨⟨by simp [lirs0,lKeys],by simp [lirs0],by simp [lirs0],by simp [lirs0],by simp [lirs0],by simp [lirs0],by simp [lirs0],by simp [lirs0]⟩,h1,h2,by simp only [lirs0,lCnt,List.countP_nil]; omega,by simp only [lirs0,lCnt,List.countP_nil]; omega,by simp only [lirs0,lLen,lCnt,List.countP_nil,List.length_nil]; omega⟩
end
end Go.Hb
namespace Go.Hb
abbrev LRow:=List (Nat × ByteArray)
abbrev LE:=Int × Int × Int
abbrev LM:=List (ByteArray × LE)
section
variable {N:Nat} {x y:LirsS} {sr sr' qr qr':LRow} {sf sf' qf qf':List Nat} {m:LM} {key:ByteArray}
theorem nodup_sub_len:∀ {a b:List ByteArray},a.Nodup -> (∀ k ∈ a,k ∈ b) -> a.length <= b.length
 | [],_,_,_=>by simp
 | k::a,b,hn,hs=>by
  rw [List.nodup_cons] at hn
  have h1:∀ j ∈ a,j ∈ gTake b k:=fun j hj=>gTake_mem.2 ⟨hs j (.tail _ hj),fun h=>hn.1 (by rw [<- h]; exact hj)⟩
  have h2:=nodup_sub_len hn.2 h1
  have h3:(gTake b k).length < b.length:=List.length_filter_lt_length_iff_exists.2 ⟨k,hs k (.head _),by simp⟩
  simp only [List.length_cons]
  omega
end
abbrev rB (b:Nat) (c:Int) (s q:Sl):HP:=blk b [.slice s.a s.n s.c,.slice q.a q.n q.c,.int .i64 c]
end Go.Hb
namespace Go.Hb
theorem lCnt_le (S:SL) (i:Int):lCnt S i <= S.length:=List.countP_le_length
end Go.Hb
namespace Go.Hb
theorem lThose_snoc {S:SL} {i:Int} {j:Nat} (hj:j < S.length):lThose (S.take (j + 1)) i = lThose (S.take j) i ++ (if (S.getD j default).2 = i then [(S.getD j default).1] else []):=by
 unfold lThose
 rw [take_snoc hj,List.filter_append,List.map_append]
 congr 1
 rw [List.filter_cons]
 split <;> split <;> simp_all
theorem lThose_tk (S:SL) (i:Int) (j:Nat):(lThose (S.take j) i).length <= j:=by
 unfold lThose
 rw [List.length_map]
 exact Nat.le_trans (List.length_filter_le _ _) (by simp; omega)
end Go.Hb
