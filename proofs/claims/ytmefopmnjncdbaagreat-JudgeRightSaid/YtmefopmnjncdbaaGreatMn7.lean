import Derived.IntWalk
import Derived.Test.YtmefopmnjncdbaaGreatMn6
set_option linter.unusedVariables false
set_option linter.unusedSimpArgs false
set_option linter.unnecessarySimpa false
set_option linter.unusedSectionVars false
set_option maxRecDepth 100000
namespace Go.Hb
structure ArcS where
 t1:List ByteArray
 t2:List ByteArray
 b1:List ByteArray
 b2:List ByteArray
 p:Int
def ArcS.res (s:ArcS):List ByteArray:=s.t1 ++ s.t2
def ArcS.gh (s:ArcS):List ByteArray:=s.b1 ++ s.b2
def arc0:ArcS:=⟨[],[],[],[],0⟩
structure ArcOk (c:Int) (s:ArcS):Prop where
 nd:(s.t1 ++ (s.t2 ++ (s.b1 ++ s.b2))).Nodup
 small:∀ k ∈ s.t1 ++ (s.t2 ++ (s.b1 ++ s.b2)),k.size < 64
 c1:1 <= c
 c2:c <= 1024
 p0:0 <= s.p
 p1:s.p <= c
 len:(s.t1.length:Int) + s.t2.length <= c
 l1:(s.t1.length:Int) + s.b1.length <= c
 tot:(s.t1.length:Int) + s.t2.length + s.b1.length + s.b2.length <= 2 * c
def aCut (s:ArcS) (k:ByteArray):ArcS:=⟨gTake s.t1 k,gTake s.t2 k,gTake s.b1 k,gTake s.b2 k,s.p⟩
def aPush1 (s:ArcS) (k:ByteArray):ArcS:={ aCut s k with t1:=gTake s.t1 k ++ [k] }
def aPush2 (s:ArcS) (k:ByteArray):ArcS:={ aCut s k with t2:=gTake s.t2 k ++ [k] }
def aGoes (s:ArcS) (first:Bool):ByteArray × ArcS:=
 if first then (hd0 s.t1,⟨s.t1.drop 1,s.t2,s.b1 ++ [hd0 s.t1],s.b2,s.p⟩) else (hd0 s.t2,⟨s.t1,s.t2.drop 1,s.b1,s.b2 ++ [hd0 s.t2],s.p⟩)
def aFirst (s:ArcS) (again:Bool):Bool:=decide (0 < s.t1.length) && (decide (s.p < (s.t1.length:Int)) || (decide ((s.t1.length:Int) = s.p) && again) || decide (s.t2.length = 0))
def aRep (c:Int) (s:ArcS) (again:Bool):List ByteArray × ArcS:=
 if (s.t1.length:Int) + s.t2.length < c then ([],s) else ([(aGoes s (aFirst s again)).1],(aGoes s (aFirst s again)).2)
def aComes (c:Int) (s:ArcS):List ByteArray × ArcS:=
 if c <= (s.t1.length:Int) + s.b1.length /\ (s.t1.length:Int) < c then aRep c { s with b1:=s.b1.drop 1 } false
 else if c <= (s.t1.length:Int) + s.b1.length then ([hd0 s.t1],{ s with t1:=s.t1.drop 1 })
 else if (s.t1.length:Int) + s.t2.length + s.b1.length + s.b2.length < c then ([],s)
 else if 2 * c <= (s.t1.length:Int) + s.t2.length + s.b1.length + s.b2.length then aRep c { s with b2:=s.b2.drop 1 } false
 else aRep c s false
def aUp (c:Int) (s:ArcS):ArcS:={ s with p:=min c (s.p + max 1 ((s.b2.length / s.b1.length:Nat):Int)) }
def aDown (s:ArcS):ArcS:={ s with p:=max 0 (s.p - max 1 ((s.b1.length / s.b2.length:Nat):Int)) }
def aAcc (c:Int) (s:ArcS) (k:ByteArray):(Bool × List ByteArray) × ArcS:=
 if k ∈ s.t1 \/ k ∈ s.t2 then ((true,[]),aPush2 s k)
 else if k ∈ s.b1 then ((false,(aRep c (aUp c s) false).1),aPush2 (aRep c (aUp c s) false).2 k)
 else if k ∈ s.b2 then ((false,(aRep c (aDown s) true).1),aPush2 (aRep c (aDown s) true).2 k)
 else ((false,(aComes c s).1),aPush1 (aComes c s).2 k)
def aLoad (c:Int) (s:ArcS) (k:ByteArray):Bool × ArcS:=
 if k ∈ s.t1 \/ k ∈ s.t2 \/ (s.t1.length:Int) + s.t2.length = c then (false,s)
 else (true,aTrim2 c (aTrim1 c (aPush1 s k)))
where
 aTrim1 (c:Int) (s:ArcS):ArcS:={ s with b1:=s.b1.drop (((s.t1.length:Int) + s.b1.length - c).toNat) }
 aTrim2 (c:Int) (s:ArcS):ArcS:={ s with b2:=s.b2.drop (((s.t1.length:Int) + s.t2.length + s.b1.length + s.b2.length - 2 * c).toNat) }
def aRem (s:ArcS) (k:ByteArray):Bool × ArcS:=if k ∈ s.t1 \/ k ∈ s.t2 then (true,aCut s k) else (false,s)
def aEvict (s:ArcS):(ByteArray × Bool) × ArcS:=
 if s.t1.length + s.t2.length = 0 then ((⟨#[]⟩,false),s)
 else (((aGoes s (decide (0 < s.t1.length) && (decide (s.p < (s.t1.length:Int)) || decide (s.t2.length = 0)))).1,true),(aGoes s (decide (0 < s.t1.length) && (decide (s.p < (s.t1.length:Int)) || decide (s.t2.length = 0)))).2)
section
variable {c:Int} {s:ArcS} {k:ByteArray}
theorem nodup4 {a b d e:List ByteArray}:(a ++ (b ++ (d ++ e))).Nodup ↔ (a.Nodup /\ b.Nodup /\ d.Nodup /\ e.Nodup) /\ (∀ x ∈ a,x ∉ b /\ x ∉ d /\ x ∉ e) /\ (∀ x ∈ b,x ∉ d /\ x ∉ e) /\ (∀ x ∈ d,x ∉ e):=by
 simp only [List.nodup_append,List.mem_append]
 constructor
 ·rintro ⟨h1,⟨h2,⟨h3,h4,h5⟩,h6⟩,h7⟩
  refine ⟨⟨h1,h2,h3,h4⟩,fun x hx=>⟨fun h=>h7 x hx x (.inl h) rfl,fun h=>h7 x hx x (.inr (.inl h)) rfl,fun h=>h7 x hx x (.inr (.inr h)) rfl⟩,fun x hx=>⟨fun h=>h6 x hx x (.inl h) rfl,fun h=>h6 x hx x (.inr h) rfl⟩,fun x hx h=>h5 x hx x h rfl⟩
 ·rintro ⟨⟨h1,h2,h3,h4⟩,h5,h6,h7⟩
  refine ⟨h1,⟨h2,⟨h3,h4,fun x hx y hy hxy=>h7 x hx (hxy ▸ hy)⟩,fun x hx y hy hxy=>?_⟩,fun x hx y hy hxy=>?_⟩
  ·subst hxy
   rcases hy with hy | hy
   ·exact (h6 x hx).1 hy
   ·exact (h6 x hx).2 hy
  ·subst hxy
   rcases hy with hy | hy | hy
   ·exact (h5 x hx).1 hy
   ·exact (h5 x hx).2.1 hy
   ·exact (h5 x hx).2.2 hy
theorem hd0_mem {l:List ByteArray} (h:0 < l.length):hd0 l ∈ l:=by
 cases l with
 | nil=>simp at h
 | cons a l=>exact .head _
theorem hd_split {l:List ByteArray} (h:0 < l.length):l = hd0 l::l.drop 1:=by
 cases l with
 | nil=>simp at h
 | cons a l=>rfl
theorem ArcOk.ok0 (h1:1 <= c) (h2:c <= 1024):ArcOk c arc0:=⟨by simp [arc0],by simp [arc0],h1,h2,by simp [arc0],by simp only [arc0]; omega,by simp [arc0]; omega,by simp [arc0]; omega,by simp [arc0]; omega⟩
structure Went (s s':ArcS) (g:List ByteArray):Prop where
 sub:∀ x ∈ g,x ∈ s.res
 le1:g.length <= 1
 res:s.res.Perm (g ++ s'.res)
 all:∀ x,x ∈ s'.t1 ++ (s'.t2 ++ (s'.b1 ++ s'.b2)) -> x ∈ s.t1 ++ (s.t2 ++ (s.b1 ++ s.b2))
theorem ArcOk.upd_p (h:ArcOk c s) {p:Int} (h0:0 <= p) (h1:p <= c):ArcOk c { s with p:=p }:=⟨h.nd,h.small,h.c1,h.c2,h0,h1,h.len,h.l1,h.tot⟩
theorem perm_goes1 {a b d e:List ByteArray} (h:0 < a.length):(a.drop 1 ++ (b ++ ((d ++ [hd0 a]) ++ e))).Perm (a ++ (b ++ (d ++ e))):=by
 have e1:a ++ (b ++ (d ++ e)) = hd0 a::(a.drop 1 ++ (b ++ (d ++ e))):=by
  conv=>lhs; rw [hd_split h]
  rfl
 rw [e1,<- List.append_assoc,<- List.append_assoc,<- List.append_assoc]
 have h2:(a.drop 1 ++ b ++ (d ++ [hd0 a]) ++ e).Perm (hd0 a::(a.drop 1 ++ b ++ d ++ e)):=by
  have:a.drop 1 ++ b ++ (d ++ [hd0 a]) ++ e = (a.drop 1 ++ b ++ d) ++ hd0 a::e:=by simp
  rw [this]; exact List.perm_middle
 simpa using h2
theorem perm_goes2 {a b d e:List ByteArray} (h:0 < b.length):(a ++ (b.drop 1 ++ (d ++ (e ++ [hd0 b])))).Perm (a ++ (b ++ (d ++ e))):=by
 refine List.Perm.append_left a ?_
 conv=>rhs; rw [hd_split h]
 have:b.drop 1 ++ (d ++ (e ++ [hd0 b])) = (b.drop 1 ++ (d ++ e)) ++ [hd0 b]:=by simp
 rw [this]
 exact List.perm_append_singleton _ _
theorem aGoes_ok (h:ArcOk c s) {first:Bool} (hf:first = true -> 0 < s.t1.length) (hs:first = false -> 0 < s.t2.length) :
  ArcOk c (aGoes s first).2 /\ Went s (aGoes s first).2 [(aGoes s first).1] /\ ((aGoes s first).2.t1.length:Int) + (aGoes s first).2.t2.length + 1 = (s.t1.length:Int) + s.t2.length /\
   ((aGoes s first).2.t1.length:Int) + (aGoes s first).2.b1.length = (s.t1.length:Int) + s.b1.length /\
   ((aGoes s first).2.t1.length:Int) + (aGoes s first).2.t2.length + (aGoes s first).2.b1.length + (aGoes s first).2.b2.length = (s.t1.length:Int) + s.t2.length + s.b1.length + s.b2.length:=by
 cases first with
 | true=>
  have h0:=hf rfl
  have hp:=perm_goes1 (b:=s.t2) (d:=s.b1) (e:=s.b2) h0
  have hl:=h.len; have hl1:=h.l1; have hl2:=h.tot
  simp only [aGoes,if_true]
  refine ⟨⟨hp.nodup_iff.2 h.nd,fun k hk=>h.small k (hp.mem_iff.1 hk),h.c1,h.c2,h.p0,h.p1,?_,?_,?_⟩,⟨fun x hx=>?_,by simp,?_,fun x hx=>hp.mem_iff.1 hx⟩,?_,?_,?_⟩
  ·simp only [List.length_drop]; omega
  ·simp only [List.length_drop,List.length_append,List.length_cons,List.length_nil]; omega
  ·simp only [List.length_drop,List.length_append,List.length_cons,List.length_nil]; omega
  ·rw [List.mem_singleton] at hx; subst hx; exact List.mem_append_left _ (hd0_mem h0)
  ·unfold ArcS.res
   conv=>lhs; rw [hd_split h0]
   simp
  ·simp only [List.length_drop]; omega
  ·simp only [List.length_drop,List.length_append,List.length_cons,List.length_nil]; omega
  ·simp only [List.length_drop,List.length_append,List.length_cons,List.length_nil]; omega
 | false=>
  have h0:=hs rfl
  have hp:=perm_goes2 (a:=s.t1) (d:=s.b1) (e:=s.b2) h0
  have hl:=h.len; have hl1:=h.l1; have hl2:=h.tot
  simp only [aGoes,Bool.false_eq_true,if_false]
  refine ⟨⟨hp.nodup_iff.2 h.nd,fun k hk=>h.small k (hp.mem_iff.1 hk),h.c1,h.c2,h.p0,h.p1,?_,h.l1,?_⟩,⟨fun x hx=>?_,by simp,?_,fun x hx=>hp.mem_iff.1 hx⟩,?_,?_,?_⟩
  ·simp only [List.length_drop]; omega
  ·simp only [List.length_drop,List.length_append,List.length_cons,List.length_nil]; omega
  ·rw [List.mem_singleton] at hx; subst hx; exact List.mem_append_right _ (hd0_mem h0)
  ·unfold ArcS.res
   conv=>lhs; rw [hd_split h0]
   exact List.perm_middle
  ·simp only [List.length_drop]; omega
  ·simp only
  ·simp only [List.length_drop,List.length_append,List.length_cons,List.length_nil]; omega
theorem aFirst_t1 {again:Bool} (h:aFirst s again = true):0 < s.t1.length:=by
 unfold aFirst at h
 simp only [Bool.and_eq_true,decide_eq_true_eq] at h
 exact h.1
theorem aFirst_t2 {again:Bool} (h:aFirst s again = false) (hl:0 < s.t1.length + s.t2.length):0 < s.t2.length:=by
 unfold aFirst at h
 by_cases h0:s.t2.length = 0
 ·have:0 < s.t1.length:=by omega
  simp [h0,this] at h
 ·omega
theorem aEv_t2 (h:(decide (0 < s.t1.length) && (decide (s.p < (s.t1.length:Int)) || decide (s.t2.length = 0))) = false) (hl:0 < s.t1.length + s.t2.length):0 < s.t2.length:=by
 by_cases h0:s.t2.length = 0
 ·have:0 < s.t1.length:=by omega
  simp [h0,this] at h
 ·omega
theorem Went.refl (s:ArcS):Went s s []:=⟨fun x hx=>by simp at hx,by simp,by simp,fun x hx=>hx⟩
theorem aRep_ok (h:ArcOk c s) (again:Bool):ArcOk c (aRep c s again).2 /\ Went s (aRep c s again).2 (aRep c s again).1 /\ ((aRep c s again).2.t1.length:Int) + (aRep c s again).2.t2.length < c /\
   ((aRep c s again).2.t1.length:Int) + (aRep c s again).2.b1.length = (s.t1.length:Int) + s.b1.length /\
   ((aRep c s again).2.t1.length:Int) + (aRep c s again).2.t2.length + (aRep c s again).2.b1.length + (aRep c s again).2.b2.length = (s.t1.length:Int) + s.t2.length + s.b1.length + s.b2.length:=by
 unfold aRep
 have h1:=h.len
 have h2:=h.c1
 split
 ·rename_i hl
  exact ⟨h,Went.refl s,hl,rfl,rfl⟩
 ·rename_i hl
  obtain ⟨a1,a2,a3,a4,a5⟩:=aGoes_ok h (first:=aFirst s again) aFirst_t1 (fun hf=>aFirst_t2 hf (by omega))
  exact ⟨a1,a2,by simp only; omega,a4,a5⟩
theorem aDropB1 (h:ArcOk c s) (n:Nat):ArcOk c { s with b1:=s.b1.drop n }:=by
 have hl:=h.len; have hl1:=h.l1; have hl2:=h.tot
 have hsub:(s.t1 ++ (s.t2 ++ (s.b1.drop n ++ s.b2))).Sublist (s.t1 ++ (s.t2 ++ (s.b1 ++ s.b2))):=((((List.drop_sublist n s.b1).append_right _).append_left _).append_left _)
 refine ⟨h.nd.sublist hsub,fun k hk=>h.small k (hsub.subset hk),h.c1,h.c2,h.p0,h.p1,h.len,?_,?_⟩
 ·simp only [List.length_drop]; omega
 ·simp only [List.length_drop]; omega
theorem aDropB2 (h:ArcOk c s) (n:Nat):ArcOk c { s with b2:=s.b2.drop n }:=by
 have hl:=h.len; have hl1:=h.l1; have hl2:=h.tot
 have hsub:(s.t1 ++ (s.t2 ++ (s.b1 ++ s.b2.drop n))).Sublist (s.t1 ++ (s.t2 ++ (s.b1 ++ s.b2))):=((((List.drop_sublist n s.b2).append_left _).append_left _).append_left _)
 refine ⟨h.nd.sublist hsub,fun k hk=>h.small k (hsub.subset hk),h.c1,h.c2,h.p0,h.p1,h.len,h.l1,?_⟩
 simp only [List.length_drop]; omega
theorem Went.of_b {s s1 s':ArcS} {g:List ByteArray} (h:Went s1 s' g) (h1:s1.t1 = s.t1) (h2:s1.t2 = s.t2) (hall:∀ x,x ∈ s1.t1 ++ (s1.t2 ++ (s1.b1 ++ s1.b2)) -> x ∈ s.t1 ++ (s.t2 ++ (s.b1 ++ s.b2))):Went s s' g:=by
 have hr:s1.res = s.res:=by unfold ArcS.res; rw [h1,h2]
 exact ⟨fun x hx=>hr ▸ h.sub x hx,h.le1,hr ▸ h.res,fun x hx=>hall x (h.all x hx)⟩
theorem aComes_ok (h:ArcOk c s):ArcOk c (aComes c s).2 /\ Went s (aComes c s).2 (aComes c s).1 /\ ((aComes c s).2.t1.length:Int) + (aComes c s).2.t2.length < c /\
   ((aComes c s).2.t1.length:Int) + (aComes c s).2.b1.length < c /\
   ((aComes c s).2.t1.length:Int) + (aComes c s).2.t2.length + (aComes c s).2.b1.length + (aComes c s).2.b2.length < 2 * c:=by
 have hc1:=h.c1; have hl:=h.len; have hl1:=h.l1; have hl2:=h.tot
 unfold aComes
 split
 ·rename_i h1
  obtain ⟨a1,a2,a3,a4,a5⟩:=aRep_ok (aDropB1 h 1) false
  simp only [List.length_drop] at a4 a5
  refine ⟨a1,a2.of_b rfl rfl (fun x hx=>?_),a3,by omega,by omega⟩
  simp only [List.mem_append] at hx ⊢
  rcases hx with hx | hx | hx | hx
  ·exact .inl hx
  ·exact .inr (.inl hx)
  ·exact .inr (.inr (.inl (List.mem_of_mem_drop hx)))
  ·exact .inr (.inr (.inr hx))
 ·rename_i h1
  split
  ·rename_i h2
   have h0:0 < s.t1.length:=by omega
   have hsub:(s.t1.drop 1 ++ (s.t2 ++ (s.b1 ++ s.b2))).Sublist (s.t1 ++ (s.t2 ++ (s.b1 ++ s.b2))):=(List.drop_sublist 1 s.t1).append_right _
   refine ⟨⟨h.nd.sublist hsub,fun k hk=>h.small k (hsub.subset hk),h.c1,h.c2,h.p0,h.p1,?_,?_,?_⟩,⟨fun x hx=>?_,by simp,?_,fun x hx=>hsub.subset hx⟩,?_,?_,?_⟩
   ·simp only [List.length_drop]; omega
   ·simp only [List.length_drop]; omega
   ·simp only [List.length_drop]; omega
   ·rw [List.mem_singleton] at hx; subst hx; exact List.mem_append_left _ (hd0_mem h0)
   ·unfold ArcS.res
    conv=>lhs; rw [hd_split h0]
    simp
   ·simp only [List.length_drop]; omega
   ·simp only [List.length_drop]; omega
   ·simp only [List.length_drop]; omega
  ·rename_i h2
   split
   ·rename_i h3
    exact ⟨h,Went.refl s,by simp only; omega,by simp only; omega,by simp only; omega⟩
   ·rename_i h3
    split
    ·rename_i h4
     obtain ⟨a1,a2,a3,a4,a5⟩:=aRep_ok (aDropB2 h 1) false
     simp only [List.length_drop] at a4 a5
     refine ⟨a1,a2.of_b rfl rfl (fun x hx=>?_),a3,by omega,by omega⟩
     simp only [List.mem_append] at hx ⊢
     rcases hx with hx | hx | hx | hx
     ·exact .inl hx
     ·exact .inr (.inl hx)
     ·exact .inr (.inr (.inl hx))
     ·exact .inr (.inr (.inr (List.mem_of_mem_drop hx)))
    ·rename_i h4
     obtain ⟨a1,a2,a3,a4,a5⟩:=aRep_ok h false
     exact ⟨a1,a2,a3,by omega,by omega⟩
theorem gTake_len1 {l:List ByteArray} (hn:l.Nodup) (hk:k ∈ l):(gTake l k).length + 1 = l.length:=by
 have:=(gTake_perm1 hn hk).length_eq
 simp only [List.length_cons] at this
 omega
theorem aCut_sub (s:ArcS) (k:ByteArray):((aCut s k).t1 ++ ((aCut s k).t2 ++ ((aCut s k).b1 ++ (aCut s k).b2))).Sublist (s.t1 ++ (s.t2 ++ (s.b1 ++ s.b2))):=
 (List.filter_sublist).append ((List.filter_sublist).append ((List.filter_sublist).append List.filter_sublist))
theorem aCut_not (s:ArcS) (k:ByteArray):k ∉ (aCut s k).t1 ++ ((aCut s k).t2 ++ ((aCut s k).b1 ++ (aCut s k).b2)):=by
 simp only [List.mem_append,aCut,gTake_mem]
 rintro (h | h | h | h) <;> exact h.2 rfl
theorem aCut_ok (h:ArcOk c s) (k:ByteArray):ArcOk c (aCut s k):=by
 have hl:=h.len; have hl1:=h.l1; have hl2:=h.tot
 have e1:=gTake_len s.t1 k; have e2:=gTake_len s.t2 k; have e3:=gTake_len s.b1 k; have e4:=gTake_len s.b2 k
 exact ⟨h.nd.sublist (aCut_sub s k),fun x hx=>h.small x ((aCut_sub s k).subset hx),h.c1,h.c2,h.p0,h.p1,by simp only [aCut]; omega,by simp only [aCut]; omega,by simp only [aCut]; omega⟩
theorem perm_push2 {a b d e:List ByteArray}:(a ++ ((b ++ [k]) ++ (d ++ e))).Perm (k::(a ++ (b ++ (d ++ e)))):=by
 have:a ++ ((b ++ [k]) ++ (d ++ e)) = (a ++ b) ++ k::(d ++ e):=by simp
 rw [this]
 refine List.perm_middle.trans ?_
 simp
theorem perm_push1 {a b d e:List ByteArray}:((a ++ [k]) ++ (b ++ (d ++ e))).Perm (k::(a ++ (b ++ (d ++ e)))):=by
 have:(a ++ [k]) ++ (b ++ (d ++ e)) = a ++ k::(b ++ (d ++ e)):=by simp
 rw [this]
 exact List.perm_middle
theorem aPush2_ok (h:ArcOk c s) (hz:k.size < 64) (hl:((aCut s k).t1.length:Int) + (aCut s k).t2.length < c) (ht:((aCut s k).t1.length:Int) + (aCut s k).t2.length + (aCut s k).b1.length + (aCut s k).b2.length < 2 * c):ArcOk c (aPush2 s k):=by
 have h2:=aCut_ok h k
 have hp:((aPush2 s k).t1 ++ ((aPush2 s k).t2 ++ ((aPush2 s k).b1 ++ (aPush2 s k).b2))).Perm (k::((aCut s k).t1 ++ ((aCut s k).t2 ++ ((aCut s k).b1 ++ (aCut s k).b2)))):=perm_push2
 refine ⟨hp.nodup_iff.2 (List.nodup_cons.2 ⟨aCut_not s k,h2.nd⟩),fun x hx=>?_,h.c1,h.c2,h.p0,h.p1,?_,h2.l1,?_⟩
 ·rw [hp.mem_iff,List.mem_cons] at hx
  rcases hx with rfl | hx
  ·exact hz
  ·exact h2.small x hx
 ·simp only [aPush2,aCut,List.length_append,List.length_cons,List.length_nil] at hl ⊢; omega
 ·simp only [aPush2,aCut,List.length_append,List.length_cons,List.length_nil] at ht ⊢; omega
theorem aPush1_ok (h:ArcOk c s) (hz:k.size < 64) (hl:((aCut s k).t1.length:Int) + (aCut s k).t2.length < c) (hb:((aCut s k).t1.length:Int) + (aCut s k).b1.length < c) (ht:((aCut s k).t1.length:Int) + (aCut s k).t2.length + (aCut s k).b1.length + (aCut s k).b2.length < 2 * c):ArcOk c (aPush1 s k):=by
 have h2:=aCut_ok h k
 have hp:((aPush1 s k).t1 ++ ((aPush1 s k).t2 ++ ((aPush1 s k).b1 ++ (aPush1 s k).b2))).Perm (k::((aCut s k).t1 ++ ((aCut s k).t2 ++ ((aCut s k).b1 ++ (aCut s k).b2)))):=perm_push1
 refine ⟨hp.nodup_iff.2 (List.nodup_cons.2 ⟨aCut_not s k,h2.nd⟩),fun x hx=>?_,h.c1,h.c2,h.p0,h.p1,?_,?_,?_⟩
 ·rw [hp.mem_iff,List.mem_cons] at hx
  rcases hx with rfl | hx
  ·exact hz
  ·exact h2.small x hx
 ·simp only [aPush1,aCut,List.length_append,List.length_cons,List.length_nil] at hl ⊢; omega
 ·simp only [aPush1,aCut,List.length_append,List.length_cons,List.length_nil] at hb ⊢; omega
 ·simp only [aPush1,aCut,List.length_append,List.length_cons,List.length_nil] at ht ⊢; omega
theorem aCut_len (h:ArcOk c s) (hk:k ∈ s.t1 ++ (s.t2 ++ (s.b1 ++ s.b2))):(aCut s k).t1.length + (aCut s k).t2.length + (aCut s k).b1.length + (aCut s k).b2.length + 1 = s.t1.length + s.t2.length + s.b1.length + s.b2.length:=by
 obtain ⟨⟨n1,n2,n3,n4⟩,x1,x2,x3⟩:=nodup4.1 h.nd
 simp only [List.mem_append] at hk
 simp only [aCut]
 rcases hk with hk | hk | hk | hk
 ·have:=gTake_len1 n1 hk; rw [gTake_not (x1 k hk).1,gTake_not (x1 k hk).2.1,gTake_not (x1 k hk).2.2]; omega
 ·have:=gTake_len1 n2 hk; rw [gTake_not (fun h=>(x1 k h).1 hk),gTake_not (x2 k hk).1,gTake_not (x2 k hk).2]; omega
 ·have:=gTake_len1 n3 hk; rw [gTake_not (fun h=>(x1 k h).2.1 hk),gTake_not (fun h=>(x2 k h).1 hk),gTake_not (x3 k hk)]; omega
 ·have:=gTake_len1 n4 hk; rw [gTake_not (fun h=>(x1 k h).2.2 hk),gTake_not (fun h=>(x2 k h).2 hk),gTake_not (fun h=>x3 k h hk)]; omega
theorem aCut_res (h:ArcOk c s) (hk:k ∈ s.res):(aCut s k).t1.length + (aCut s k).t2.length + 1 = s.t1.length + s.t2.length /\ s.res.Perm (k::(aCut s k).res):=by
 obtain ⟨⟨n1,n2,n3,n4⟩,x1,x2,x3⟩:=nodup4.1 h.nd
 have hnd:s.res.Nodup:=by
  unfold ArcS.res
  exact List.nodup_append.2 ⟨n1,n2,fun a ha b hb hab=>(x1 a ha).1 (hab ▸ hb)⟩
 have e1:(aCut s k).res = gTake s.res k:=by unfold ArcS.res aCut gTake; simp
 have e2:=gTake_len1 hnd hk
 constructor
 ·have:(aCut s k).res.length = (aCut s k).t1.length + (aCut s k).t2.length:=by simp [ArcS.res]
  have h3:s.res.length = s.t1.length + s.t2.length:=by simp [ArcS.res]
  rw [e1] at this; omega
 ·rw [e1]
  obtain ⟨l1,l2,hl⟩:=List.append_of_mem hk
  rw [hl] at hnd ⊢
  have h4:=List.nodup_append.1 hnd
  have h5:=List.nodup_cons.1 h4.2.1
  have h6:k ∉ l1:=fun h=>h4.2.2 k h k (.head _) rfl
  have:gTake (l1 ++ k::l2) k = l1 ++ l2:=by
   unfold gTake
   rw [List.filter_append]
   have a1:=gTake_not h6; have a2:=gTake_not h5.1
   unfold gTake at a1 a2
   rw [a1]
   simp only [ne_eq,not_true_eq_false,decide_false,Bool.false_eq_true,not_false_eq_true,List.filter_cons_of_neg]
   rw [a2]
  rw [this]
  exact List.perm_middle
theorem aCut_res_not (h:k ∉ s.res):(aCut s k).res = s.res:=by
 have:(aCut s k).res = gTake s.res k:=by unfold ArcS.res aCut gTake; simp
 rw [this]; exact gTake_not h
structure AccLaw (c:Int) (s s':ArcS) (k:ByteArray) (hit:Bool) (g:List ByteArray):Prop where
 ok:ArcOk c s'
 hits:hit = decide (k ∈ s.res)
 sub:∀ x ∈ g,x ∈ s.res
 le1:g.length <= 1
 no:k ∉ g
 calm:hit = true -> g = []
 res:∃ r,s.res.Perm (g ++ r) /\ (hit = true -> s'.res.Perm r) /\ (hit = false -> s'.res.Perm (k::r))
theorem res_mem:k ∈ s.res ↔ k ∈ s.t1 \/ k ∈ s.t2:=by unfold ArcS.res; exact List.mem_append
theorem aAcc_law (h:ArcOk c s) (hz:k.size < 64):AccLaw c s (aAcc c s k).2 k (aAcc c s k).1.1 (aAcc c s k).1.2:=by
 have hc1:=h.c1; have hl:=h.len; have hl1:=h.l1; have hl2:=h.tot
 unfold aAcc
 split
 ·rename_i h1
  have hk:k ∈ s.res:=res_mem.2 h1
  obtain ⟨e1,e2⟩:=aCut_res h hk
  have e3:=aCut_len h (k:=k) (by simp only [List.mem_append]; rcases h1 with h1 | h1 <;> simp [h1])
  refine ⟨aPush2_ok h hz (by omega) (by omega),by simp [hk],by simp,by simp,by simp,fun _=>rfl,⟨s.res,by simp,fun _=>?_,fun h=>by cases h⟩⟩
  refine List.Perm.trans ?_ e2.symm
  unfold ArcS.res aPush2 aCut
  simp only
  rw [<- List.append_assoc]
  exact List.perm_append_singleton _ _
 ·rename_i h1
  have hk:k ∉ s.res:=fun h=>h1 (res_mem.1 h)
  have fin:∀ (s1 s2:ArcS) (g:List ByteArray),ArcOk c s2 -> s1.res = s.res -> Went s1 s2 g -> (s2.t1.length:Int) + s2.t2.length < c -> (∀ x ∈ g,x ≠ k) -> k ∉ s2.res /\ (∃ r,s.res.Perm (g ++ r) /\ (aPush2 s2 k).res.Perm (k::r)) /\ (∃ r,s.res.Perm (g ++ r) /\ (aPush1 s2 k).res.Perm (k::r)):=by
   intro s1 s2 g h2 hr hw hlt hne
   have hk2:k ∉ s2.res:=fun hx=>hk (by rw [<- hr]; exact hw.res.mem_iff.2 (List.mem_append_right _ hx))
   have hcr:=aCut_res_not hk2
   refine ⟨hk2,⟨s2.res,hr ▸ hw.res,?_⟩,⟨s2.res,hr ▸ hw.res,?_⟩⟩
   ·rw [<- hcr]
    unfold ArcS.res aPush2 aCut
    simp only
    rw [<- List.append_assoc]
    exact List.perm_append_singleton _ _
   ·rw [<- hcr]
    unfold ArcS.res aPush1 aCut
    simp only
    have:gTake s2.t1 k ++ [k] ++ gTake s2.t2 k = gTake s2.t1 k ++ k::gTake s2.t2 k:=by simp
    rw [this]
    exact List.perm_middle
  split
  ·rename_i hb
   have hu:ArcOk c (aUp c s):=h.upd_p (by have:=h.p0; omega) (by omega)
   obtain ⟨a1,a2,a3,a4,a5⟩:=aRep_ok hu false
   have hg:∀ x ∈ (aRep c (aUp c s) false).1,x ≠ k:=fun x hx he=>hk (he ▸ a2.sub x hx)
   obtain ⟨f1,f2,_⟩:=fin (aUp c s) _ _ a1 rfl a2 a3 hg
   have hcl:=aCut_sub (aRep c (aUp c s) false).2 k
   have e3:=aCut_len a1 (k:=k)
   obtain ⟨⟨_,_,_,_⟩,x1,x2,x3⟩:=nodup4.1 a1.nd
   have hmem:k ∈ (aRep c (aUp c s) false).2.b1:=by
    unfold aRep
    split
    ·exact hb
    ·unfold aGoes
     split
     ·exact List.mem_append_left _ hb
     ·exact hb
   have e4:=e3 (by simp [hmem])
   have b1:=gTake_len (aRep c (aUp c s) false).2.t1 k
   have b2:=gTake_len (aRep c (aUp c s) false).2.t2 k
   refine ⟨aPush2_ok a1 hz ?_ ?_,by simp [hk],a2.sub,a2.le1,fun hx=>hg k hx rfl,(fun h=>by cases h),?_⟩
   ·simp only [aCut] at *; omega
   ·have:=a1.tot; omega
   ·obtain ⟨r,r1,r2⟩:=f2
    exact ⟨r,r1,(fun h=>by cases h),fun _=>r2⟩
  ·rename_i hb
   split
   ·rename_i hb2
    have hu:ArcOk c (aDown s):=h.upd_p (by omega) (by have:=h.p1; have:=h.p0; omega)
    obtain ⟨a1,a2,a3,a4,a5⟩:=aRep_ok hu true
    have hg:∀ x ∈ (aRep c (aDown s) true).1,x ≠ k:=fun x hx he=>hk (he ▸ a2.sub x hx)
    obtain ⟨f1,f2,_⟩:=fin (aDown s) _ _ a1 rfl a2 a3 hg
    have e3:=aCut_len a1 (k:=k)
    have hmem:k ∈ (aRep c (aDown s) true).2.b2:=by
     unfold aRep
     split
     ·exact hb2
     ·unfold aGoes
      split
      ·exact hb2
      ·exact List.mem_append_left _ hb2
    have e4:=e3 (by simp [hmem])
    have b1:=gTake_len (aRep c (aDown s) true).2.t1 k
    have b2:=gTake_len (aRep c (aDown s) true).2.t2 k
    refine ⟨aPush2_ok a1 hz ?_ ?_,by simp [hk],a2.sub,a2.le1,fun hx=>hg k hx rfl,(fun h=>by cases h),?_⟩
    ·simp only [aCut] at *; omega
    ·have:=a1.tot; omega
    ·obtain ⟨r,r1,r2⟩:=f2
     exact ⟨r,r1,(fun h=>by cases h),fun _=>r2⟩
   ·rename_i hb2
    obtain ⟨a1,a2,a3,a4,a5⟩:=aComes_ok h
    have hg:∀ x ∈ (aComes c s).1,x ≠ k:=fun x hx he=>hk (he ▸ a2.sub x hx)
    obtain ⟨f1,_,f2⟩:=fin s _ _ a1 rfl a2 a3 hg
    have b1:=gTake_len (aComes c s).2.t1 k
    have b2:=gTake_len (aComes c s).2.t2 k
    have b3:=gTake_len (aComes c s).2.b1 k
    have b4:=gTake_len (aComes c s).2.b2 k
    refine ⟨aPush1_ok a1 hz ?_ ?_ ?_,by simp [hk],a2.sub,a2.le1,fun hx=>hg k hx rfl,(fun h=>by cases h),?_⟩
    ·simp only [aCut]; omega
    ·simp only [aCut]; omega
    ·simp only [aCut]; omega
    ·obtain ⟨r,r1,r2⟩:=f2
     exact ⟨r,r1,(fun h=>by cases h),fun _=>r2⟩
structure LoadLaw (c:Int) (s s':ArcS) (k:ByteArray) (ok:Bool):Prop where
 inv:ArcOk c s'
 oks:ok = decide (k ∉ s.res /\ (s.res.length:Int) < c)
 res:(ok = true -> s'.res.Perm (k::s.res)) /\ (ok = false -> s' = s)
theorem aLoad_law (h:ArcOk c s) (hz:k.size < 64):LoadLaw c s (aLoad c s k).2 k (aLoad c s k).1:=by
 have hc1:=h.c1; have hl:=h.len; have hl1:=h.l1; have hl2:=h.tot
 have hrl:s.res.length = s.t1.length + s.t2.length:=by simp [ArcS.res]
 unfold aLoad
 split
 ·rename_i h1
  refine ⟨h,?_,fun h=>by (cases h),fun _=>rfl⟩
  symm
  rw [decide_eq_false_iff_not,res_mem]
  rintro ⟨h2,h3⟩
  rcases h1 with h1 | h1 | h1
  ·exact h2 (.inl h1)
  ·exact h2 (.inr h1)
  ·omega
 ·rename_i h1
  have h2:k ∉ s.res:=fun hx=>by
   rcases res_mem.1 hx with hx | hx
   ·exact h1 (.inl hx)
   ·exact h1 (.inr (.inl hx))
  have h3:(s.t1.length:Int) + s.t2.length < c:=by
   have:¬ (s.t1.length:Int) + s.t2.length = c:=fun hx=>h1 (.inr (.inr hx))
   omega
  have hcr:=aCut_res_not h2
  have hcut:=aCut_ok h k
  have n1:k ∉ s.t1:=fun hx=>h2 (res_mem.2 (.inl hx))
  have n2:k ∉ s.t2:=fun hx=>h2 (res_mem.2 (.inr hx))
  have b3:=gTake_len s.b1 k
  have b4:=gTake_len s.b2 k
  have hp:((aPush1 s k).t1 ++ ((aPush1 s k).t2 ++ ((aPush1 s k).b1 ++ (aPush1 s k).b2))).Perm (k::((aCut s k).t1 ++ ((aCut s k).t2 ++ ((aCut s k).b1 ++ (aCut s k).b2)))):=perm_push1
  have hnd:=hp.nodup_iff.2 (List.nodup_cons.2 ⟨aCut_not s k,hcut.nd⟩)
  have hsm:∀ x ∈ (aPush1 s k).t1 ++ ((aPush1 s k).t2 ++ ((aPush1 s k).b1 ++ (aPush1 s k).b2)),x.size < 64:=fun x hx=>by
   rw [hp.mem_iff,List.mem_cons] at hx
   rcases hx with rfl | hx
   ·exact hz
   ·exact hcut.small x hx
  have e1:(aPush1 s k).t1.length = s.t1.length + 1:=by simp only [aPush1]; rw [gTake_not n1]; simp
  have e2:(aPush1 s k).t2.length = s.t2.length:=by simp only [aPush1,aCut]; rw [gTake_not n2]
  have hsub:∀ n m,(((aPush1 s k).t1 ++ ((aPush1 s k).t2 ++ ((aPush1 s k).b1.drop n ++ (aPush1 s k).b2.drop m)))).Sublist ((aPush1 s k).t1 ++ ((aPush1 s k).t2 ++ ((aPush1 s k).b1 ++ (aPush1 s k).b2))):=fun n m=>
   (((List.drop_sublist n _).append (List.drop_sublist m _)).append_left _).append_left _
  refine ⟨?_,?_,fun _=>?_,fun h=>by cases h⟩
  ·refine ⟨hnd.sublist (hsub _ _),fun x hx=>hsm x ((hsub _ _).subset hx),h.c1,h.c2,h.p0,h.p1,?_,?_,?_⟩
   ·simp only [aLoad.aTrim1,aLoad.aTrim2,e1,e2]; omega
   ·simp only [aLoad.aTrim1,aLoad.aTrim2,List.length_drop,e1]; omega
   ·simp only [aLoad.aTrim1,aLoad.aTrim2,List.length_drop,e1,e2]; omega
  ·symm
   rw [decide_eq_true_eq]
   exact ⟨h2,by omega⟩
  ·show (gTake s.t1 k ++ [k] ++ gTake s.t2 k).Perm (k::s.res)
   rw [<- hcr]
   have:gTake s.t1 k ++ [k] ++ gTake s.t2 k = gTake s.t1 k ++ k::gTake s.t2 k:=by simp
   rw [this]
   exact List.perm_middle
theorem aRem_law (h:ArcOk c s):ArcOk c (aRem s k).2 /\ (aRem s k).1 = decide (k ∈ s.res) /\ ((aRem s k).1 = true -> s.res.Perm (k::(aRem s k).2.res) /\ k ∉ (aRem s k).2.res /\ k ∉ (aRem s k).2.gh) /\ ((aRem s k).1 = false -> (aRem s k).2 = s):=by
 unfold aRem
 split
 ·rename_i h1
  have hk:k ∈ s.res:=res_mem.2 h1
  have hn:=aCut_not s k
  simp only [List.mem_append,not_or] at hn
  refine ⟨aCut_ok h k,by simp [hk],fun _=>⟨(aCut_res h hk).2,?_,?_⟩,fun h=>by cases h⟩
  ·rw [res_mem,not_or]; exact ⟨hn.1,hn.2.1⟩
  ·unfold ArcS.gh; rw [List.mem_append,not_or]; exact hn.2.2
 ·rename_i h1
  exact ⟨h,by simp [res_mem,h1],(fun h=>by cases h),fun _=>rfl⟩
theorem aEvict_law (h:ArcOk c s):ArcOk c (aEvict s).2 /\ ((aEvict s).1.2 = decide (s.res.length ≠ 0)) /\ ((aEvict s).1.2 = true -> s.res.Perm ((aEvict s).1.1::(aEvict s).2.res)) /\ ((aEvict s).1.2 = false -> (aEvict s).2 = s /\ (aEvict s).1.1 = ⟨#[]⟩):=by
 have hrl:s.res.length = s.t1.length + s.t2.length:=by simp [ArcS.res]
 unfold aEvict
 split
 ·rename_i h1
  refine ⟨h,?_,fun h=>by (cases h),fun _=>⟨rfl,rfl⟩⟩
  symm; rw [decide_eq_false_iff_not]; omega
 ·rename_i h1
  obtain ⟨a1,a2,_⟩:=aGoes_ok h (first:=decide (0 < s.t1.length) && (decide (s.p < (s.t1.length:Int)) || decide (s.t2.length = 0))) (fun hf=>by simp only [Bool.and_eq_true,decide_eq_true_eq] at hf; exact hf.1) (fun hf=>aEv_t2 hf (by omega))
  refine ⟨a1,?_,fun _=>a2.res,fun h=>by cases h⟩
  symm; rw [decide_eq_true_eq]; omega
theorem ArcOk.res_nd (h:ArcOk c s):s.res.Nodup /\ s.gh.Nodup /\ (∀ x ∈ s.gh,x ∉ s.res) /\ (s.res.length:Int) <= c /\ (s.res.length:Int) + s.gh.length <= 2 * c:=by
 obtain ⟨⟨n1,n2,n3,n4⟩,x1,x2,x3⟩:=nodup4.1 h.nd
 have hl:=h.len; have hl2:=h.tot
 refine ⟨List.nodup_append.2 ⟨n1,n2,fun a ha b hb hab=>(x1 a ha).1 (hab ▸ hb)⟩,List.nodup_append.2 ⟨n3,n4,fun a ha b hb hab=>x3 a ha (hab ▸ hb)⟩,fun x hx hr=>?_,by simp only [ArcS.res,List.length_append]; omega,by simp only [ArcS.res,ArcS.gh,List.length_append]; omega⟩
 rcases res_mem.1 hr with hr | hr <;> rcases List.mem_append.1 hx with hx | hx
 ·exact (x1 x hr).2.1 hx
 ·exact (x1 x hr).2.2 hx
 ·exact (x2 x hr).1 hx
 ·exact (x2 x hr).2 hx
theorem aAcc_eacc (h:ArcOk c s) (hz:k.size < 64):EAcc s.res (aAcc c s k).2.res k (aAcc c s k).1.1 (aAcc c s k).1.2:=by
 have hl:=aAcc_law h hz
 obtain ⟨r,h1,h2,h3⟩:=hl.res
 have hn:=h.res_nd.1
 have hg:=h1.nodup_iff.1 hn
 rw [List.nodup_append] at hg
 have hr:∀ x,x ∈ r ↔ x ∈ s.res /\ x ∉ (aAcc c s k).1.2:=fun x=>by
  rw [h1.mem_iff,List.mem_append]
  constructor
  ·intro hx; exact ⟨.inr hx,fun hg2=>hg.2.2 x hg2 x hx rfl⟩
  ·rintro ⟨hx | hx,hx2⟩
   ·exact absurd hx hx2
   ·exact hx
 refine ⟨hl.hits,hl.sub,hl.le1,hl.no,hl.calm,fun x=>?_⟩
 cases hh:(aAcc c s k).1.1 with
 | true=>
  have hk:k ∈ s.res:=by have:=hl.hits; rw [hh] at this; exact of_decide_eq_true this.symm
  rw [(h2 hh).mem_iff,hr]
  constructor
  ·intro h; exact .inl h
  ·rintro (h | rfl)
   ·exact h
   ·exact ⟨hk,hl.no⟩
 | false=>
  rw [(h3 hh).mem_iff,List.mem_cons,hr]
  constructor
  ·rintro (rfl | h)
   ·exact .inr rfl
   ·exact .inl h
  ·rintro (h | rfl)
   ·exact .inr h
   ·exact .inl rfl
end
end Go.Hb
namespace Go.Hb
structure AW (x:ArcS):Prop where
 nd:(x.t1 ++ (x.t2 ++ (x.b1 ++ x.b2))).Nodup
 small:∀ k ∈ x.t1 ++ (x.t2 ++ (x.b1 ++ x.b2)),k.size < 64
section
variable {W w:World} {M L:List HP} {b N:Nat} {c:Int} {x:ArcS} {k:ByteArray}
theorem AW.four (h:AW x):(x.t1.Nodup /\ x.t2.Nodup /\ x.b1.Nodup /\ x.b2.Nodup) /\ (∀ k ∈ x.t1,k ∉ x.t2 /\ k ∉ x.b1 /\ k ∉ x.b2) /\ (∀ k ∈ x.t2,k ∉ x.b1 /\ k ∉ x.b2) /\ (∀ k ∈ x.b1,k ∉ x.b2):=nodup4.1 h.nd
def aRes (x:ArcS):List ByteArray:=x.t1 ++ x.t2
def aLen (x:ArcS):Nat:=x.t1.length + x.t2.length
theorem aRes_len (x:ArcS):(aRes x).length = aLen x:=by simp [aRes,aLen]
theorem mem_aRes {x:ArcS}:k ∈ aRes x ↔ k ∈ x.t1 \/ k ∈ x.t2:=List.mem_append
theorem AW.res_nd (h:AW x):(aRes x).Nodup:=by
 obtain ⟨⟨n1,n2,n3,n4⟩,a,b,c⟩:=h.four
 exact List.nodup_append.2 ⟨n1,n2,fun y hy z hz hyz=>(a y hy).1 (hyz ▸ hz)⟩
theorem aRes_small (h:AW x) (hk:k ∈ aRes x):k.size < 64:=by
 refine h.small k ?_
 rcases mem_aRes.1 hk with h1 | h1
 ·exact List.mem_append_left _ h1
 ·exact List.mem_append_right _ (List.mem_append_left _ h1)
theorem aRes_eq (x:ArcS):x.res = aRes x:=rfl
theorem tdiv_nat (a b:Nat):Int.tdiv (a:Int) (b:Int) = ((a / b:Nat):Int):=by rw [Int.tdiv_eq_ediv_of_nonneg (by omega)]; rfl
theorem up_eq {a b N:Nat} {p c:Int} (ha:a <= N) (hN:N < 100000000) (hp:0 <= p /\ p <= 1024) :
  (if (IntKind.wrap .i64 (p + (if (IntKind.wrap .i64 (Int.tdiv (a:Int) (b:Int))) > (1:Int) then (IntKind.wrap .i64 (Int.tdiv (a:Int) (b:Int))) else (1:Int)))) < c then (IntKind.wrap .i64 (p + (if (IntKind.wrap .i64 (Int.tdiv (a:Int) (b:Int))) > (1:Int) then (IntKind.wrap .i64 (Int.tdiv (a:Int) (b:Int))) else (1:Int)))) else c) = min c (p + max 1 ((a / b:Nat):Int)):=by
 have h1:a / b <= a:=Nat.div_le_self a b
 rw [tdiv_nat]
 generalize a / b = q at *
 rw [Go.IntWalk.i64_in (q:Int) (by omega),Go.IntWalk.i64_in _ (by split <;> omega)]
 split <;> split <;> omega
theorem down_eq {a b N:Nat} {p:Int} (ha:a <= N) (hN:N < 100000000) (hp:0 <= p /\ p <= 1024) :
  (if (IntKind.wrap .i64 (p - (if (IntKind.wrap .i64 (Int.tdiv (a:Int) (b:Int))) > (1:Int) then (IntKind.wrap .i64 (Int.tdiv (a:Int) (b:Int))) else (1:Int)))) > (0:Int) then (IntKind.wrap .i64 (p - (if (IntKind.wrap .i64 (Int.tdiv (a:Int) (b:Int))) > (1:Int) then (IntKind.wrap .i64 (Int.tdiv (a:Int) (b:Int))) else (1:Int)))) else (0:Int)) = max 0 (p - max 1 ((a / b:Nat):Int)):=by
 have h1:a / b <= a:=Nat.div_le_self a b
 rw [tdiv_nat]
 generalize a / b = q at *
 rw [Go.IntWalk.i64_in (q:Int) (by omega),Go.IntWalk.i64_in _ (by split <;> omega)]
 split <;> split <;> omega
end
theorem ArcOk.w {c:Int} {x:ArcS} (h:ArcOk c x):AW x:=⟨h.nd,h.small⟩
end Go.Hb
namespace Go.Proofs.YtmefopmnjncdbaaGreat
open Go.Hb Go.IntWalk
section
variable {W w:World} {L M:List HP} {F:HP -> List HP} {b N:Nat} {c:Int} {x:ArcS} {key:ByteArray}
theorem trim1_le {y:ArcS} (h:(y.t1.length:Int) + y.b1.length <= c):aLoad.aTrim1 c y = y:=by
 unfold aLoad.aTrim1
 rw [show ((y.t1.length:Int) + y.b1.length - c).toNat = 0 by omega]; rfl
theorem trim2_le {y:ArcS} (h:(y.t1.length:Int) + y.t2.length + y.b1.length + y.b2.length <= 2 * c):aLoad.aTrim2 c y = y:=by
 unfold aLoad.aTrim2
 rw [show ((y.t1.length:Int) + y.t2.length + y.b1.length + y.b2.length - 2 * c).toNat = 0 by omega]; rfl
theorem trim1_step {y:ArcS} (h:c < (y.t1.length:Int) + y.b1.length) (h0:0 < y.b1.length):aLoad.aTrim1 c { y with b1:=y.b1.drop 1 } = aLoad.aTrim1 c y:=by
 unfold aLoad.aTrim1
 simp only [List.length_drop,List.drop_drop]
 congr 2
 omega
theorem trim2_step {y:ArcS} (h:2 * c < (y.t1.length:Int) + y.t2.length + y.b1.length + y.b2.length) (h0:0 < y.b2.length):aLoad.aTrim2 c { y with b2:=y.b2.drop 1 } = aLoad.aTrim2 c y:=by
 unfold aLoad.aTrim2
 simp only [List.length_drop,List.drop_drop]
 congr 2
 omega
end
end Go.Proofs.YtmefopmnjncdbaaGreat
namespace Go.Hb
theorem rows_rec {α:Type} (E:Rec α) (P:α -> Prop) {ks:List CK} (hks:∀ x,okRow ks x -> ∃ a,x = E.cells a /\ P a):∀ {rows:List (List Value)},(∀ x ∈ rows,okRow ks x) ->
  ∃ l:List α,rows.flatten = E.flat l /\ l.length = rows.length /\ ∀ a ∈ l,P a
 | [],_=>⟨[],rfl,rfl,fun _ h=>by cases h⟩
 | x::rows,h=>by
  obtain ⟨l,h1,h2,h3⟩:=rows_rec E P hks (rows:=rows) fun y hy=>h y (.tail _ hy)
  obtain ⟨a,rfl,ha⟩:=hks x (h x (.head _))
  refine ⟨a::l,?_,by simp [h2],fun b hb=>?_⟩
  ·rw [List.flatten_cons,h1]; rfl
  ·cases hb with
   | head=>exact ha
   | tail _ hb=>exact h3 b hb
def okK (k:IntKind) (n:Int):Prop:=(Lit.int k n).wf = true
def okStr (s:ByteArray):Prop:=s.size <= reachBytes
def Rec.bool:Rec Bool:=⟨1,fun b=>[.bool b],fun _=>rfl⟩
instance:PosR Rec.bool:=⟨Nat.one_pos⟩
theorem of_ik {k:IntKind} (x:List Value) (h:okRow [.int k] x):∃ a,x = (Rec.int k).cells a /\ okK k a:=by
 match x,h with
 | [v],⟨⟨s,hv,hw⟩,_⟩=>subst hv; exact ⟨s,rfl,hw⟩
theorem arg_rec {α:Type} {W:World} {s:Sl} {ks:List CK} {rows:List (List Value)} (E:Rec α) (P:α -> Prop) (hks:∀ x,okRow ks x -> ∃ a,x = E.cells a /\ P a) (hpos:0 < E.sz) (hsz:E.sz = ks.length)
  (hr:Reads W ks.length s rows.flatten) (ho:∀ x ∈ rows,okRow ks x):∃ l:List α,ReadsR W s E l /\ l.length = rows.length /\ ∀ a ∈ l,P a:=by
 obtain ⟨l,h1,h2,h3⟩:=rows_rec E P hks ho
 refine ⟨l,ReadsR.of hpos ?_,h2,h3⟩
 rw [<- h1,hsz]; exact hr
def isStT (P:Program) (t:TypeId):Bool:=match P.underlying t with
 | some (.struct _)=>true
 | _=>false
theorem Sat.keptO {W w:World} {L:List HP} [hA:AtO L W] (h:Sat W w L):KeptH W w:=by
 obtain ⟨M,h1⟩:=hA.pos
 exact (h.perm h1).kept (q:=0) rfl
theorem law_of {P:Program} {f:FuncId} {args:Array Value} {W:World} {v0:Value} (h:Calls P f args W fun e w'=>∃ v,e = .returned v /\ (v = v0 /\ Sat W w' [old W])):Calls P f args W fun e w'=>e = .returned v0 /\ KeptH W w':=
 h.mono fun _ _ ⟨_,he,hv,hs⟩=>⟨by rw [he,hv],hs.keptO⟩
end Go.Hb
