/- For every argument hoardtop.TopClients returns true, and each argument reads behind the call as it read before. No condition. -/
import Derived.Test.YtjipofkjmmpjdaaGreatRows
import Derived.Test.YtjipofkjmmpjdaaGreatQClients5
set_option linter.unusedVariables false
set_option linter.unusedSimpArgs false
set_option linter.unnecessarySimpa false
set_option linter.unusedSectionVars false
set_option maxRecDepth 100000
namespace Go.Hb
open Go.Proofs.YtjipofkjmmpjdaaGreat
section
variable{sh:Nat}{Ts Ts':List TT}{s:JS}{T:TT}{i:Nat}{k key val:BA}{g gone:BL}{now:Int}{o:F1}{hit:Bool}
theorem Er:Dc s o 0 gone=⟨Ft s.T (Du s.now o) o gone,Du s.now o,IW s.room o⟩:=if_neg (by simp)
theorem Vu(hr:Fu s.T (Du s.now o) o.kind o.key hit val=true)(hn:gone.Nodup)(hg:∀x∈gone,jOk s.T (Du s.now o) o.kind x=true)(hJ:JR sh Ts' (Dc s o 0 gone)):E8 sh s o 0 hit val gone=true:=by
 have h:=hJ.fits;rw[Er] at h;unfold E8;rw[if_neg (by simp),hr,Asy hn hg];exact h
theorem A9l{e:Int}(he:e≠0):E8 sh s o e false ⟨#[]⟩ []=true/\Dc s o e []=s:=by
 constructor
 ·unfold E8;rw[if_pos he];simp
 ·exact if_pos he
theorem E0(h:o.kind≠4):Du s.now o=s.now:=by unfold Du;rw[if_neg (by omega)]
theorem DO(h:o.kind≠9):IW s.room o=s.room:=by unfold IW;rw[if_neg h]
theorem I8(h1:o.kind≠1)(h3:o.kind≠3):Fu s.T now o.kind o.key hit val=true:=by unfold Fu;rw[if_neg h1,if_neg h3]
theorem Aiu(h:JR sh Ts s)(h1:o.kind≠1)(h2:o.kind≠2)(h3:o.kind≠3)(h4:o.kind≠4)(h9:o.kind≠9):E8 sh s o 0 hit val []=true/\Dc s o 0 []=s:=by
 have e:Dc s o 0 []=s:=by
  rw[Er,E0 h4,DO h9,Ho h2 h3];rfl
 exact⟨Vu (I8 h1 h3) (by simp) (by simp) (Ts':=Ts) (by rw[e];exact h),e⟩
theorem A25(h:JR sh Ts s)(hk:o.kind=1)(hT:Ts[Bl sh o.key]? = some T):E8 sh s o 0 (Dy T o.key s.now).2 (Dy T o.key s.now).1 (BS T o.key s.now)=true/\JR sh (Ts.set (Bl sh o.key) (Cb T o.key s.now)) (Dc s o 0 (BS T o.key s.now)):=by
 have hn:Du s.now o=s.now:=E0 (by omega);have e:Dc s o 0 (BS T o.key s.now)=⟨A3 s.T (BS T o.key s.now),s.now,s.room⟩:=by
  rw[Er,hn,DO (by omega),Ho (by omega) (by omega)]
 have hJ:=h.over hT;rw[<- e] at hJ;have hg:=IR (now:=s.now) (h.of_home hT rfl);refine⟨Vu ?_ Jq (λx hx=>?_) hJ,hJ⟩
 ·unfold Fu;rw[if_pos hk,hn,hg,HE];simp
 ·rw[hn];exact h.goes_over hT (by rw[hk];rfl) x hx
theorem A24(h:JR sh Ts s)(hk:o.kind=3)(hT:Ts[Bl sh o.key]? = some T)(hS:Lo s.room (CY (Cb T o.key s.now) o.key)):E8 sh s o 0 (AC (Cb T o.key s.now) o.key).isSome ⟨#[]⟩ (BS T o.key s.now)=true/\JR sh (Ts.set (Bl sh o.key) (CY (Cb T o.key s.now) o.key)) (Dc s o 0 (BS T o.key s.now)):=by
 have hn:Du s.now o=s.now:=E0 (by omega);have hTr:=(h.tabs T (List.mem_of_getElem? hT)).tok.rise;have e:Dc s o 0 (BS T o.key s.now)=⟨A3 s.T (BS T o.key s.now++[o.key]),s.now,s.room⟩:=by
  rw[Er,hn,DO (by omega)];unfold Ft A3;rw[if_neg (by omega),if_pos hk,List.foldl_append];rfl
 have e2:CY (Cb T o.key s.now) o.key=A3 T (BS T o.key s.now++[o.key]):=by
  rw[Fe];unfold A3;rw[List.foldl_append];rfl
 have hm:∀x,x∈BS T o.key s.now++[o.key]↔x=o.key:=λx=>by
  rw[List.mem_append,List.mem_singleton];exact⟨λhx=>hx.elim (λhx=>(HT hx).1) id,.inr⟩
 have hJ:JR sh (Ts.set (Bl sh o.key) (CY (Cb T o.key s.now) o.key)) (Dc s o 0 (BS T o.key s.now)):=by
  rw[e2] at hS ⊢;rw[e];refine h.one hT hS (CJ h.tok) (λk hk=>?_) (λk=>⟨λhk=>?_,λhk=>?_⟩)
  ·exact h.home _ T hT k ((FK hTr).1 hk).1
  ·by_cases hg:k∈BS T o.key s.now++[o.key]
   ·rw[(BC h.tok.rise).1 hg,(BC hTr).1 hg]
   ·rw[(BC h.tok.rise).2 hg,(BC hTr).2 hg,h.of_home hT hk]
  ·refine(BC h.tok.rise).2 λhg=>?_;exact hk (by rw[(hm k).1 hg])
 have hg:=IR (now:=s.now) (h.of_home hT rfl);refine⟨Vu ?_ Jq (λx hx=>?_) hJ,hJ⟩
 ·unfold Fu;rw[if_neg (by omega),if_pos hk,hn,hg,Auc hTr];simp
 ·rw[hn];exact h.goes_over hT (by rw[hk];rfl) x hx
theorem A26(h:JR sh Ts s)(hk:o.kind=2)(hT:Ts[Bl sh o.key]? = some T)(he:E7 o.key o.val s.now o.n=0)(hg:g.Nodup)(hgT:∀x∈g,x∈kT (Cb T o.key s.now))(hgk:o.key∉g)(hS:Lo s.room (EY (A3 (Cb T o.key s.now) g) o.key o.val s.now o.n)) :
  E8 sh s o 0 false ⟨#[]⟩ (BS T o.key s.now++g)=true/\JR sh (Ts.set (Bl sh o.key) (EY (A3 (Cb T o.key s.now) g) o.key o.val s.now o.n)) (Dc s o 0 (BS T o.key s.now++g)):=by
 have hn:Du s.now o=s.now:=E0 (by omega);have hTr:=(h.tabs T (List.mem_of_getElem? hT)).tok.rise;have hGT:∀x∈BS T o.key s.now++g,x∈kT T:=λx hx=>by
  rcases List.mem_append.1 hx with hx|hx
  ·obtain⟨rfl,ho⟩:=HT hx;unfold OS at ho;rw[Bool.and_eq_true] at ho;exact Dx.2 ho.1
  ·have:=hgT x hx;rw[Fe] at this;exact((FK hTr).1 this).1
 have e2:A3 (Cb T o.key s.now) g=A3 T (BS T o.key s.now++g):=by
  rw[Fe];unfold A3;rw[List.foldl_append]
 have hnd:(BS T o.key s.now++g).Nodup:=by
  rw[List.nodup_append];exact⟨Jq,hg,λx hx y hy hxy=>hgk (by rw[<- (HT hx).1,hxy];exact hy)⟩
 rw[e2] at hS ⊢;generalize BS T o.key s.now++g=G at hS hGT hnd ⊢;have e:Dc s o 0 G=⟨EY (A3 s.T G) o.key o.val s.now o.n,s.now,s.room⟩:=by
  rw[Er,hn,DO (by omega)];unfold Ft A3;rw[if_pos hk]
 have hGi:∀x∈G,Bl sh x=Bl sh o.key:=λx hx=>h.home _ T hT x (hGT x hx);have ht1:=Qu (T:=A3 s.T G) he;have ht2:=Qu (T:=A3 T G) he;have hr1:=(CJ (g:=G) h.tok).rise;have hr2:=(CJ (g:=G) (h.tabs T (List.mem_of_getElem? hT)).tok).rise;have hJ:JR sh (Ts.set (Bl sh o.key) (EY (A3 T G) o.key o.val s.now o.n)) (Dc s o 0 G):=by
  rw[e];refine h.one hT hS ((CJ h.tok).put _ _ _ _) (λk hk=>?_) (λk=>⟨λhk=>?_,λhk=>?_⟩)
  ·rw[ht2,Afl hr2] at hk;rcases hk with hk|hk
   ·exact h.home _ T hT k ((FK hTr).1 hk).1
   ·rw[hk]
  ·rw[ht1,ht2,LL hr1,LL hr2];split
   ·rfl
   ·by_cases hg:k∈G
    ·rw[(BC h.tok.rise).1 hg,(BC hTr).1 hg]
    ·rw[(BC h.tok.rise).2 hg,(BC hTr).2 hg,h.of_home hT hk]
  ·rw[ht1,LL hr1,if_neg λe=>hk (by rw[e])];exact(BC h.tok.rise).2 λhg=>hk (hGi k hg)
 refine⟨Vu (I8 (by omega) (by omega)) hnd (λx hx=>?_) hJ,hJ⟩;rw[hn,hk];refine R0 rfl (by unfold LO;simp) ?_
 rw[h.of_home hT (hGi x hx)];exact Dx.1 (hGT x hx)
theorem JR.flat{gs:List BL}(h:JR sh Ts s)(hg:gs.length=sh)(hsub:∀(i:Nat)(T:TT)(g:BL),Ts[i]? = some T->gs[i]? = some g->(∀x∈g,x∈kT T)/\g.Nodup):gs.flatten.Nodup/\∀x∈gs.flatten,∃(T:TT) (g:BL),Ts[Bl sh x]? = some T/\gs[Bl sh x]? = some g/\x∈g/\AC s.T x=AC T x:=by
 have get:∀(i:Nat)(g:BL),gs[i]? = some g->∃T,Ts[i]? = some T:=λi g hi=>⟨_,List.getElem?_eq_getElem (by rw[h.len,<- hg];exact(List.getElem?_eq_some_iff.1 hi).1)⟩;refine⟨Kx (λg hg=>?_) (λi j a b ha hb hij x hx hxb=>?_),λx hx=>?_⟩
 ·obtain⟨i,hi⟩:=List.mem_iff_getElem?.1 hg;obtain⟨T,hT⟩:=get i g hi;exact(hsub i T g hT hi).2
 ·obtain⟨T,hT⟩:=get i a ha;obtain⟨T',hT'⟩:=get j b hb;have h1:=h.home i T hT x ((hsub i T a hT ha).1 x hx);have h2:=h.home j T' hT' x ((hsub j T' b hT' hb).1 x hxb);exact hij (h1.symm.trans h2)
 ·obtain⟨g,hgm,hx⟩:=List.mem_flatten.1 hx;obtain⟨i,hi⟩:=List.mem_iff_getElem?.1 hgm;obtain⟨T,hT⟩:=get i g hi;have h1:=h.home i T hT x ((hsub i T g hT hi).1 x hx);refine⟨T,g,by rw[h1];exact hT,by rw[h1];exact hi,hx,h.of_home hT h1⟩
theorem Auv(h:JR sh Ts s)(hk:o.kind=4)(h0:0<=o.n)(h1:s.now+o.n<=1125899906842624):Du s.now o=s.now+o.n /\
  E8 sh s o 0 false ⟨#[]⟩ (Ts.map λT=>Cq T (s.now+o.n)).flatten=true/\JR sh (Ts.map λT=>A3 T (Cq T (s.now+o.n))) (Dc s o 0 (Ts.map λT=>Cq T (s.now+o.n)).flatten):=by
 have hn:Du s.now o=s.now+o.n:=by unfold Du;split <;> omega
 have hb:=h.now0;have h00:0<=s.now+o.n:=by omega
 generalize s.now+o.n=nw at *;have e:Dc s o 0 (Ts.map λT=>Cq T nw).flatten=⟨A3 s.T (Ts.map λT=>Cq T nw).flatten,nw,s.room⟩:=by
  rw[Er,hn,DO (by omega),Ho (by omega) (by omega)]
 have hsub:∀(i:Nat)(T:TT)(g:BL),Ts[i]? = some T->(Ts.map λT=>Cq T nw)[i]? = some g->g=Cq T nw:=by
  intro i T g hT hg;rw[List.getElem?_map,hT] at hg;cases hg;rfl
 have hmem:∀(T:TT)(x:BA),T∈Ts->x∈Cq T nw->OS T x nw=true:=λT x hT hx=>Ab3 (h.tabs T hT).tok.rise hx;have hkT:∀(T:TT)(x:BA),T∈Ts->x∈Cq T nw->x∈kT T:=λT x hT hx=>by
  have:=hmem T x hT hx;unfold OS at this;rw[Bool.and_eq_true] at this;exact Dx.2 this.1
 have hlen:(Ts.map λT=>Cq T nw).length=sh:=by rw[List.length_map];exact h.len
 have hJ:JR sh (Ts.map λT=>A3 T (Cq T nw)) (Dc s o 0 (Ts.map λT=>Cq T nw).flatten):=by
  rw[e];have hz:List.zipWith A3 Ts (Ts.map λT=>Cq T nw)=Ts.map λT=>A3 T (Cq T nw):=by
   rw[List.zipWith_map_right,List.zipWith_self]
  rw[<- hz];refine h.dels hlen (λi T g hT hg x hx=>?_) (λi T g hT hg=>?_) (by omega) h1
  ·rw[hsub i T g hT hg] at hx;exact hkT T x (List.mem_of_getElem? hT) hx
  ·exact Abs (h.tabs T (List.mem_of_getElem? hT))
 obtain⟨hnd,hfl⟩:=h.flat hlen λi T g hT hg=>by
  rw[hsub i T g hT hg];exact⟨λx hx=>hkT T x (List.mem_of_getElem? hT) hx,S6 (h.tabs T (List.mem_of_getElem? hT)).tok.rise⟩
 refine⟨hn,Vu (I8 (by omega) (by omega)) hnd (λx hx=>?_) hJ,hJ⟩;obtain⟨T,g,hT,hg,hxg,hget⟩:=hfl x hx;rw[hsub _ T g hT hg] at hxg;have:=hmem T x (List.mem_of_getElem? hT) hxg;unfold OS at this;rw[Bool.and_eq_true,Bool.not_eq_true'] at this;rw[hn,hk];refine R0 rfl ?_ (by rw[hget];exact this.1)
 rw[IR hget,this.2];simp
theorem A27{gs:List BL}(h:JR sh Ts s)(hk:o.kind=9)(hg:gs.length=sh)(hsub:∀(i:Nat)(T:TT)(g:BL),Ts[i]? = some T->gs[i]? = some g->(∀x∈g,x∈kT T)/\g.Nodup)
  (hok:∀(i:Nat)(T:TT)(g:BL),Ts[i]? = some T->gs[i]? = some g->Lo o.n (A3 T g)) :
  E8 sh s o 0 false ⟨#[]⟩ gs.flatten=true/\JR sh (List.zipWith A3 Ts gs) (Dc s o 0 gs.flatten):=by
 have hn:Du s.now o=s.now:=E0 (by omega);have e:Dc s o 0 gs.flatten=⟨A3 s.T gs.flatten,s.now,o.n⟩:=by
  rw[Er,hn,Ho (by omega) (by omega)];unfold IW;rw[if_pos hk]
 have hJ:JR sh (List.zipWith A3 Ts gs) (Dc s o 0 gs.flatten):=by
  rw[e];exact h.dels hg (λi T g hT hg=>(hsub i T g hT hg).1) hok h.now0 h.nowM
 obtain⟨hnd,hfl⟩:=h.flat hg hsub;refine⟨Vu (I8 (by omega) (by omega)) hnd (λx hx=>?_) hJ,hJ⟩;obtain⟨T,g,hT,hg,hxg,hget⟩:=hfl x hx;rw[hn,hk];refine R0 rfl (by unfold LO;simp) ?_
 rw[hget];exact Dx.1 ((hsub _ T g hT hg).1 x hxg)
theorem JR.gone_in{e:Int}(h:JR sh Ts s)(hs:E8 sh s o e hit val gone=true):(∀x∈gone,x.size<=40)/\gone.length<=9000:=by
 have hk:∀x∈kT s.T,x.size<=40:=λx hx=>by
  obtain⟨T,hT,hg⟩:=h.at_ x;have:x∈kT T:=by rw[Dx,<- hg];exact Dx.1 hx
  obtain⟨e,he,rfl⟩:=List.mem_map.1 this;exact(h.tabs T (List.mem_of_getElem? hT)).small e he
 have hl:(kT s.T).length<=8192:=by
  have hsub:∀k∈kT s.T,k∈(Ts.map kT).flatten:=λk hk=>by
   obtain⟨T,h1,h2⟩:=h.at_ k;refine List.mem_flatten.2 ⟨kT T,List.mem_map_of_mem (List.mem_of_getElem? h1),?_⟩;rw[Dx,<- h2];exact Dx.1 hk
  have h1:=Di h.tok.rise.nodup hsub;have h2:(Ts.map kT).flatten.length<=(Ts.map kT).length*1024:=Hr λl hl=>by
   obtain⟨T,hT,rfl⟩:=List.mem_map.1 hl;have:=(h.tabs T hT).len;have:=(h.tabs T hT).c2;unfold kT;rw[List.length_map];omega
  rw[List.length_map,h.len] at h2;have h8:=h.sh8;have e:(kT s.T).length=(s.T.map (·.1)).length:=rfl;rw[e];have:sh*1024<=8*1024:=Nat.mul_le_mul_right _ h8;omega
 by_cases he:e=0
 ·subst he;unfold E8 at hs;rw[if_neg (by simp),Bool.and_eq_true,Bool.and_eq_true] at hs;have hg:Agp s.T (Du s.now o) o.kind gone:=by
   have:=hs.1.2;unfold HU at this;exact @of_decide_eq_true _ (Classical.propDecidable _) this
  have hsub:∀x∈gone,x∈kT s.T:=λx hx=>by
   obtain⟨i,hi⟩:=List.mem_iff_getElem?.1 hx;obtain⟨hil,hi⟩:=List.getElem?_eq_some_iff.1 hi;have h2:=hg.2 i hil;rw[List.getD_eq_getElem?_getD,List.getElem?_eq_getElem hil,hi,Option.getD_some] at h2;unfold jOk at h2;rw[Bool.and_eq_true] at h2;exact Dx.2 h2.2
  have hnd:gone.Nodup:=by
   rw[List.nodup_iff_pairwise_ne,List.pairwise_iff_getElem];intro k i hk hi hki e;refine hg.1 i k hki hi ?_;rw[List.getD_eq_getElem?_getD,List.getElem?_eq_getElem hi,List.getD_eq_getElem?_getD,List.getElem?_eq_getElem hk,e]
  exact⟨λx hx=>hk x (hsub x hx),by have:=Di hnd hsub;omega⟩
 ·unfold E8 at hs;rw[if_pos he,Bool.and_eq_true,decide_eq_true_eq,List.length_eq_zero_iff] at hs;rw[hs.2];exact⟨by simp,by simp⟩
theorem JR.new{room:Int}(h1:1<=sh)(h8:sh<=8)(hr:1<=room)(hr2:room<=1024):JR sh (List.replicate sh []) ⟨[],0,room⟩:=by
 have ht:IV ([]:TT):=⟨by simp[Ci,Ei],by simp,by simp⟩;refine⟨by simp,h1,h8,ht,λT hT=>?_,λi T hT k hk=>?_,λk=>?_,Int.le_refl 0,(by show(0:Int)<=1125899906842624;decide)⟩
 ·obtain rfl:=(List.mem_replicate.1 hT).2;exact⟨ht,by simp,by simp;omega,hr,hr2⟩
 ·obtain rfl:=(List.mem_replicate.1 (List.mem_of_getElem? hT)).2;simp[kT] at hk
 ·have e:(List.replicate sh ([]:TT)).getD (Bl sh k) []=[]:=by
   rw[List.getD_eq_getElem?_getD,List.getElem?_replicate];split <;> rfl
  show AC [] k=_;rw[e]
end
end Go.Hb
namespace Go.Hb
def jrR(b:Nat)(sh:Int)(s:JS):HP:=Ks λ(tb:Nat)=>AO [blk b [pq tb 0,.i s.now,.i sh,.i s.room],rtR tb s.T]
section
variable{b:Nat}{sh:Int}{s:JS}{W w:World}{M L:List HP}
instance At.jrR:At (jrR b sh s::L) b (jrR b sh s) (λx=>x::L):=⟨DU⟩
theorem JN(h:Ab W w (jrR b sh s::M)):∃tb,Ab W w (blk b [pq tb 0,.i s.now,.i sh,.i s.room]::rtR tb s.T::M):=by
 obtain⟨tb,h⟩:=h.openE;exact⟨tb,h.openL⟩
theorem Df{T:TT}{now room:Int}(tb:Nat)(h:Ab W w (blk b [pq tb 0,.i now,.i sh,.i room]::rtR tb T::M)):Ab W w (jrR b sh ⟨T,now,room⟩::M):=
 Ab.shutE tb (Ab.shutL (Ps:=[_,_]) h)
theorem FN{s:Sl}{rows:List BA}(h:Lm W s Rec.str rows){i:Nat}(hi:i<rows.length):CO W s Rec.str rows:=by
 rcases h.2 with h1|h1
 ·subst h1;simp at hi
 ·exact h1
end
end Go.Hb
namespace Go.Proofs.YtjipofkjmmpjdaaGreat
open Go.Hb Go.IntWalk
section
variable{W w:World}{L M:List HP}{F:HP->List HP}{b:Nat}{sh room err:Int}{s:JS}{hit:Bool}{val k:BA}{o:F1}{sl:Sl}{gone:List BA}
theorem A65(hs:Ab W w L):Calls PR 38 #[.i sh,.i room] w λe w'=>∃b,e = .returned (pq b 0)/\Ab W w' (jrR b sh ⟨[],0,room⟩::L):=by
 refine(cw ⟨mixed,Tryz.func38,rfl⟩ Az9 (Q:=λv w'=>∃b,v=pq b 0/\Ab W w' (jrR b sh ⟨[],0,room⟩::L)) ?_).mono λe w' ⟨v,he,b,hv,hs⟩=>⟨b,by rw[he,hv],hs⟩;refine Ah hs λtb w hs=>?_;have hs:=Ab.nilR GW hs;have hs:Ab W w (rtR tb []::L):=Fw ⟨none,0,0⟩ (by exact Ab.fin hs)
 repeat (first|((with_reducible refine Bf ?_);first|refine Ah hs λb_ w hs=>?_|fail)|fail)
 exact⟨_,rfl,Df tb (by exact Ab.fin hs)⟩
theorem Atb(h:Ab W w L)[hA:At L b (jrR b sh s) F](hi:IV s.T)(hm:s.T.length<1000000000):Calls PR 65 #[pq b 0,.agg #[.i o.kind,.s o.key,.s o.val,.i o.n],.agg #[.i err,.b hit,.s val,.l sl.a sl.n sl.c]] w λe w'=>e = .returned (.b (Fu s.T s.now o.kind o.key hit val))/\Ab W w' (F (jrR b sh s)):=by
 refine At.call1 (hA:=hA) h λM hs=>?_;clear h hA;refine c1 (cw ⟨mixed,Tryz.func65,rfl⟩ A0y ?_);obtain⟨tb,hs⟩:=JN hs
 repeat (first|with_reducible refine Aa ?_|((with_reducible refine Ax ?_);first|refine Ag hs ?_|fail)|((with_reducible refine Bf ?_);first|refine Ah hs λb_ w hs=>?_|fail)|((with_reducible refine AX ?_);first|refine Am ?_|fail)|((with_reducible refine AA ?_);first|refine A9 hs ?_|fail)|((with_reducible refine AZ ?_);first|refine As hs λw hs=>?_|fail)|fail)
 refine AH (Air hs hi hm) λe w ⟨he,hs⟩=>⟨_,_,he,?_⟩
 repeat (first|((with_reducible refine Ax ?_);first|refine Ag hs ?_|fail)|fail)
 by_cases h1:o.kind=1
 ·refine Ak (by simpa using h1) ?_
  repeat (first|((with_reducible refine Ax ?_);first|refine Ag hs ?_|fail)|fail)
  cases h2:(hit==(Dy s.T o.key s.now).2) with
  | true=>
   refine Ak rfl ?_
   repeat (first|((with_reducible refine Ax ?_);first|refine Ag hs ?_|fail)|fail)
   refine⟨?_,Df tb (by exact Ab.fin hs)⟩;unfold Fu;rw[if_pos h1,h2];simp
  | false=>
   refine Ac rfl ⟨?_,Df tb (by exact Ab.fin hs)⟩;unfold Fu;rw[if_pos h1,h2];simp
 ·refine Ac (by simpa using h1) ?_
  by_cases h3:o.kind=3
  ·refine Ak (by simpa using h3) ?_
   repeat (first|((with_reducible refine Ax ?_);first|refine Ag hs ?_|fail)|fail)
   refine⟨?_,Df tb (by exact Ab.fin hs)⟩;unfold Fu;rw[if_neg h1,if_pos h3]
  ·refine Ac (by simpa using h3) ⟨?_,Df tb (by exact Ab.fin hs)⟩;unfold Fu;rw[if_neg h1,if_neg h3]
theorem A2q{a c:Int}(h0:0<=a)(h1:a<=1048576)(h2:0<=c)(h3:c<=1048576):IntKind.wrap .i64 (a*c)=a*c:=by
 have h4:a*c<=1048576*1048576:=Int.mul_le_mul h1 h3 h2 (by omega);have h5:0<=a*c:=Int.mul_nonneg h0 h2;exact i64_in _ (by omega)
theorem A13(h:Ab W w L)[hA:At L b (jrR b sh s) F]:Calls PR 69 #[pq b 0] w λe w'=>e = .returned (.b (!UI s.T sh s.room))/\Ab W w' (F (jrR b sh s)):=by
 refine At.call1 (hA:=hA) h λM hs=>?_;clear h hA;refine c1 (cw ⟨mixed,Tryz.func69,rfl⟩ A02 ?_);unfold UI;obtain⟨tb,hs⟩:=JN hs
 repeat (first|with_reducible refine Aa ?_|((with_reducible refine Ax ?_);first|refine Ag hs ?_|fail)|fail)
 with_reducible refine Bg (λh1=>?_) (λh1=>?_)
 ·exact⟨by rw[if_pos (.inl h1)];rfl,Df tb (by exact Ab.fin hs)⟩
 repeat (first|with_reducible refine Aa ?_|((with_reducible refine Ax ?_);first|refine Ag hs ?_|fail)|fail)
 with_reducible refine Bg (λh2=>?_) (λh2=>?_)
 ·exact⟨by rw[if_pos (by omega)];rfl,Df tb (by exact Ab.fin hs)⟩
 repeat (first|with_reducible refine Aa ?_|((with_reducible refine Ax ?_);first|refine Ag hs ?_|fail)|fail)
 with_reducible refine Bg (λh3=>?_) (λh3=>?_)
 ·exact⟨by rw[if_pos (by omega)];rfl,Df tb (by exact Ab.fin hs)⟩
 repeat (first|with_reducible refine Aa ?_|((with_reducible refine Ax ?_);first|refine Ag hs ?_|fail)|fail)
 with_reducible refine Bg (λh4=>?_) (λh4=>?_)
 ·exact⟨by rw[if_pos (by omega)];rfl,Df tb (by exact Ab.fin hs)⟩
 refine jw Aex ?_;rw[if_neg (by omega)];have hs:Ab W w (rtR tb s.T::blk b [pq tb 0,.i s.now,.i sh,.i s.room]::M):=by exact Ab.fin hs
 obtain⟨sl,⟨hn,hc⟩,hs⟩:=Ka hs
 repeat (first|with_reducible refine Aa ?_|((with_reducible refine Ax ?_);first|refine Ag hs ?_|fail)|((with_reducible refine AX ?_);first|refine Am ?_|fail)|((with_reducible refine AA ?_);first|refine A9 hs ?_|fail)|((with_reducible refine AZ ?_);first|refine As hs λw hs=>?_|fail)|fail)
 rw[A2q (by omega) (by omega) (by omega) (by omega),hn];refine⟨?_,?_⟩
 ·congr 1;rw[Bool.eq_iff_iff];simp only[decide_eq_true_eq,Bool.not_eq_true',decide_eq_false_iff_not];omega
 ·have hs:Ab W w (blk tb [.l sl.a sl.n sl.c]::recs GW sl s.T::blk b [pq tb 0,.i s.now,.i sh,.i s.room]::M):=by exact Ab.fin hs
  have hs:=Fw sl hs;exact Df tb (by exact Ab.fin hs)
end
end Go.Proofs.YtjipofkjmmpjdaaGreat
namespace Go.Proofs.YtjipofkjmmpjdaaGreat
open Go.Hb Go.IntWalk
section
variable{W w:World}{L M:List HP}{F:HP->List HP}{b sb:Nat}{sh room err kind:Int}{s:JS}{hit:Bool}{val k q:BA}{o:F1}{sl:Sl}{gone ks:List BA}
def Amo(l:List BA):Prop:=∃i k,k<i/\i<l.length/\l.getD i default=l.getD k default
noncomputable def KH(l:List BA):Bool:=@decide (Amo l) (Classical.propDecidable _)
theorem A3o{l:List BA}(h:Amo l):KH l=true:=@decide_eq_true _ (Classical.propDecidable _) h
theorem A3n{l:List BA}(h:¬Amo l):KH l=false:=@decide_eq_false _ (Classical.propDecidable _) h
theorem Aua{l:List BA}(h:KH l=true):Amo l:=@of_decide_eq_true _ (Classical.propDecidable _) h
theorem Alf{l:List BA}(h:KH l=false):¬Amo l:=@of_decide_eq_false _ (Classical.propDecidable _) h
theorem Atc[hO:AtO L W](hs:Ab W w L)(hr:Lm W sl Rec.str gone)(hn:gone.length<=9000) :
  Calls PR 109 #[.l sl.a sl.n sl.c] w λe w'=>e = .returned (.b (KH gone))/\Ab W w' L:=by
 refine c1 (cw ⟨mixed,Tryz.func109,rfl⟩ Ano ?_);have hlen:=hr.1;have loop:∀(f i:Nat)(w:World),i+f=gone.length->(∀a c,c<a->a<i->gone.getD a default≠gone.getD c default)->Ab W w L ->
   Pc By (λv w'=>v = .b (KH gone)/\Ab W w' L) (f+1) sl (i:Int) w:=by
  intro f
  induction f with
  | zero=>
   intro i w hi hd hs;rw[Nb];refine Ac (decide_eq_false (by omega)) ?_;refine jw Ye ?_;exact⟨by rw[A3n λ⟨a,c,h1,h2,h3⟩=>hd a c h1 (by omega) h3],hs⟩
  | succ f ih=>
   intro i w hi hd hs;rw[Nb];refine Ak (decide_eq_true (by omega)) ?_;have hil:i<gone.length:=by omega
   haveI hR:=FN hr hil;have inner:∀(g k:Nat)(w:World),k+g=i->(∀c,c<k->gone.getD i default≠gone.getD c default)->Ab W w L ->
     Pd By (λv w'=>v = .b (KH gone)/\Ab W w' L) (f+1) (g+1) sl (i:Int) (k:Int) w:=by
    intro g
    induction g with
    | zero=>
     intro k w hk hd2 hs;rw[Nc];refine Ac (decide_eq_false (by omega)) ?_;refine jw Yd ?_;rw[i64_in _ (by omega)];refine ih (i+1) w (by omega) (λa c h1 h2=>?_) hs
     by_cases hai:a=i
     ·subst hai;exact hd2 c (by omega)
     ·exact hd a c h1 (by omega)
    | succ g ihg=>
     intro k w hk hd2 hs;rw[Nc];refine Ak (decide_eq_true (by omega)) ?_
     repeat (first|((with_reducible refine Ax ?_);first|refine AE ha_ hs ?_|fail)|((with_reducible refine AM ?_);first|refine AB hs λb_ o_ ha_=>?_|fail)|((with_reducible refine AX ?_);first|refine Bh ha_ ?_|fail)|((with_reducible refine AA ?_);first|refine A9 hs ?_|fail)|((with_reducible refine AZ ?_);first|refine As hs λw hs=>?_|fail)|fail)
     simp only[Int.toNat_natCast];cases hv:Vr (gone.getD i default) (gone.getD k default) with
     | true=>
      rw[HE,decide_eq_true_eq] at hv;exact⟨by rw[A3o ⟨i,k,by omega,hil,hv⟩],hs⟩
     | false=>
      rw[HE,decide_eq_false_iff_not] at hv;refine Ac rfl ?_;rw[i64_in _ (by omega)];refine ihg (k+1) w (by omega) (λc hc=>?_) hs
      by_cases hck:c=k
      ·subst hck;exact hv
      ·exact hd2 c (by omega)
   exact⟨i+1,inner i 0 w (by omega) (λc h=>by omega) hs⟩
 exact⟨gone.length+1,loop gone.length 0 w (by omega) (λa c _ h=>by omega) hs⟩
theorem A14[hO:AtO L W](hs:Ab W w (jrR b sh s::L))(hi:IV s.T)(hm:s.T.length<700000000)(hr:Lm W sl Rec.str gone)(hn:gone.length<=9000) :
  Calls PR 66 #[pq b 0,.agg #[.i o.kind,.s o.key,.s o.val,.i o.n],.l sl.a sl.n sl.c] w λe w'=>e = .returned (.b (HU s.T s.now o.kind gone))/\Ab W w' (jrR b sh s::L):=by
 refine c1 (cw ⟨mixed,Tryz.func66,rfl⟩ A0z ?_);refine Ah hs λob w hs=>?_;have hlen:=hr.1;refine An (Atc hs hr hn) λe w ⟨he,hs⟩=>⟨_,he,?_⟩;refine Al (λh1=>?_) (λh1=>?_)
 ·obtain⟨i,k,h2,h3,h4⟩:=Aua h1;exact⟨by rw[Asz h2 h3 h4],by exact Ab.fin hs⟩
 have hd:=Alf h1;have ne:∀i k,k<i->i<gone.length->gone.getD i default≠gone.getD k default:=λi k h2 h3 h4=>hd ⟨i,k,h2,h3,h4⟩;have loop:∀(f i:Nat)(w:World),i+f=gone.length->(∀a,a<i->(LO o.kind && (Dy s.T (gone.getD a default) s.now).2)=false/\(AC s.T (gone.getD a default)).isSome=true) ->
   Ab W w (blk ob [.i o.kind,.s o.key,.s o.val,.i o.n]::jrR b sh s::L) ->
   M6 By (λv w'=>v = .b (HU s.T s.now o.kind gone)/\Ab W w' (jrR b sh s::L)) (f+1) (some ⟨b,0,none⟩) sl ob 0 (i:Int) w:=by
  intro f
  induction f with
  | zero=>
   intro i w hi2 hok hs;rw[QV];refine Ac (decide_eq_false (by omega)) ?_;refine jw Aer ?_;have j3:∀(m:Bool)(w:World),m=Aas o.kind->Ab W w (blk ob [.i o.kind,.s o.key,.s o.val,.i o.n]::jrR b sh s::L) ->
     M5 By (λv w'=>v = .b (HU s.T s.now o.kind gone)/\Ab W w' (jrR b sh s::L)) sl m w:=by
    intro m w hm hs;refine jw Aes ?_;rw[hm]
    with_reducible refine Be (λh2=>?_) (λh2=>?_)
    ·exact⟨by rw[KG ⟨ne,λa h3=>by omega⟩],by exact Ab.fin hs⟩
    ·cases hmay:Aas o.kind with
     | true=>exact⟨by rw[KG ⟨ne,λa h3=>R0 hmay (hok a (by omega)).1 (hok a (by omega)).2⟩],by exact Ab.fin hs⟩
     | false=>exact⟨by rw[Ro (i:=0) (by omega) (A12 hmay)],by exact Ab.fin hs⟩
   have yes:(o.kind=1\/o.kind=2\/o.kind=3\/o.kind=4\/o.kind=9)->true=Aas o.kind:=λh=>(decide_eq_true h).symm
   repeat (first|((with_reducible refine Ax ?_);first|refine Ag hs ?_|fail)|fail)
   with_reducible refine Be (λh2=>?_) (λh2=>?_)
   ·with_reducible exact j3 _ w (yes (by omega)) hs
   repeat (first|((with_reducible refine Ax ?_);first|refine Ag hs ?_|fail)|fail)
   with_reducible refine Be (λh3=>?_) (λh3=>?_)
   ·with_reducible exact j3 _ w (yes (by omega)) hs
   repeat (first|((with_reducible refine Ax ?_);first|refine Ag hs ?_|fail)|fail)
   with_reducible refine Be (λh4=>?_) (λh4=>?_)
   ·with_reducible exact j3 _ w (yes (by omega)) hs
   repeat (first|((with_reducible refine Ax ?_);first|refine Ag hs ?_|fail)|fail)
   with_reducible refine Be (λh5=>?_) (λh5=>?_)
   ·with_reducible exact j3 _ w (yes (by omega)) hs
   repeat (first|((with_reducible refine Ax ?_);first|refine Ag hs ?_|fail)|fail)
   with_reducible refine j3 _ w ?_ hs
   unfold Aas;rw[Bool.eq_iff_iff,decide_eq_true_eq];constructor
   ·intro h;have:o.kind=9:=by simpa using h
    omega
   ·intro h;have:o.kind=9:=by omega
    simpa using this
  | succ f ih=>
   intro i w hi2 hok hs;rw[QV];refine Ak (decide_eq_true (by omega)) ?_;have hil:i<gone.length:=by omega
   haveI hR:=FN hr hil;have hs:Ab W w (jrR b sh s::blk ob [.i o.kind,.s o.key,.s o.val,.i o.n]::L):=by exact Ab.fin hs
   obtain⟨tb,hs⟩:=JN hs
   repeat (first|with_reducible refine Aa ?_|((with_reducible refine Ax ?_);first|refine AE ha_ hs ?_|fail)|((with_reducible refine AM ?_);first|refine AB hs λb_ o_ ha_=>?_|fail)|((with_reducible refine AX ?_);first|refine Am ?_|fail)|((with_reducible refine AA ?_);first|refine A9 hs ?_|fail)|((with_reducible refine AZ ?_);first|refine As hs λw hs=>?_|fail)|fail)
   simp only[Int.toNat_natCast];refine An (A2u hs hi.rise (by omega)) λe w ⟨he,hs⟩=>⟨_,he,?_⟩;refine Al (λh2=>?_) (λh2=>?_)
   ·have hs:=Df tb hs;exact⟨by rw[Ro hil (A11 (by simpa using h2))],by exact Ab.fin hs⟩
   have h2:(AC s.T (gone.getD i default)).isSome=true:=by simpa using h2
   repeat (first|with_reducible refine Aa ?_|((with_reducible refine Ax ?_);first|refine Ag hs ?_|fail)|((with_reducible refine AM ?_);first|refine AB hs λb_ o_ ha_=>?_|fail)|((with_reducible refine AX ?_);first|refine Am ?_|refine Bh ha_ ?_|fail)|((with_reducible refine AA ?_);first|refine A9 hs ?_|fail)|((with_reducible refine AZ ?_);first|refine As hs λw hs=>?_|fail)|fail)
   try simp only[Int.toNat_natCast]
   refine AH (Air hs hi (by omega)) λe w ⟨he,hs⟩=>⟨_,_,he,?_⟩;have next:∀w,(LO o.kind && (Dy s.T (gone.getD i default) s.now).2)=false->Ab W w (blk b [pq tb 0,.i s.now,.i sh,.i s.room]::rtR tb s.T::blk ob [.i o.kind,.s o.key,.s o.val,.i o.n]::L) ->
     M6 By (λv w'=>v = .b (HU s.T s.now o.kind gone)/\Ab W w' (jrR b sh s::L)) (f+1) (some ⟨b,0,none⟩) sl ob 0 (IntKind.wrap .i64 ((i:Int)+1)) w:=by
    intro w h3 hs;rw[i64_in _ (by omega)];have hs:=Df tb hs;refine ih (i+1) w (by omega) (λa h4=>?_) (by exact Ab.fin hs)
    by_cases hai:a=i
    ·subst hai;exact⟨h3,h2⟩
    ·exact hok a (by omega)
   refine Al (λh3=>?_) (λh3=>?_)
   ·have bad:∀w,(o.kind=1\/o.kind=3\/o.kind=4)->Ab W w (blk b [pq tb 0,.i s.now,.i sh,.i s.room]::rtR tb s.T::blk ob [.i o.kind,.s o.key,.s o.val,.i o.n]::L) ->
      (Value.bool false = .b (HU s.T s.now o.kind gone)/\Ab W w (jrR b sh s::L)):=by
     intro w h4 hs;have hs:=Df tb hs;refine⟨?_,by exact Ab.fin hs⟩;rw[Ro hil (As8 _)];rw[show LO o.kind=true from decide_eq_true h4,Bool.true_and];exact h3
    repeat (first|((with_reducible refine Ax ?_);first|refine Ag hs ?_|fail)|fail)
    with_reducible refine Be (λh4=>?_) (λh4=>?_)
    ·exact bad w (by omega) hs
    repeat (first|((with_reducible refine Ax ?_);first|refine Ag hs ?_|fail)|fail)
    with_reducible refine Be (λh5=>?_) (λh5=>?_)
    ·exact bad w (by omega) hs
    repeat (first|((with_reducible refine Ax ?_);first|refine Ag hs ?_|fail)|fail)
    with_reducible refine Be (λh6=>?_) (λh6=>?_)
    ·exact bad w (by omega) hs
    ·refine next w ?_ hs
     rw[show LO o.kind=false from decide_eq_false (by omega),Bool.false_and]
   ·refine next w ?_ hs
    rw[show(Dy s.T (gone.getD i default) s.now).2=false from h3,Bool.and_false]
 exact⟨gone.length+1,loop gone.length 0 w (by omega) (λa h=>by omega) hs⟩
theorem A66[hO:AtO L W](hs:Ab W w (jrR b sh s::L))(hj:JOk s)(hl:s.T.length<600000000)(hn0:okK .i64 o.n)(hr:Lm W sl Rec.str gone)(hn:gone.length<=9000) :
  Calls PR 39 #[pq b 0,.agg #[.i o.kind,.s o.key,.s o.val,.i o.n],.agg #[.i err,.b hit,.s val,.l sl.a sl.n sl.c]] w λe w'=>
   e = .returned (.b (E8 sh s o err hit val gone))/\Ab W w' (jrR b sh (Dc s o err gone)::L):=by
 refine c1 (cw ⟨mixed,Tryz.func39,rfl⟩ A0a ?_);have hlen:=hr.1;refine Ah hs λob w hs=>?_;refine Ah hs λrb w hs=>?_;unfold E8 Dc
 repeat (first|((with_reducible refine Ax ?_);first|refine Ag hs ?_|fail)|fail)
 with_reducible refine CW (λhe=>?_) (λhe=>?_)
 ·rw[if_pos he,if_pos he]
  repeat (first|((with_reducible refine Ax ?_);first|refine Ag hs ?_|fail)|fail)
  cases hit with
  | true=>exact⟨by simp,by exact Ab.fin hs⟩
  | false=>
   refine Ak rfl ?_
   repeat (first|((with_reducible refine Ax ?_);first|refine Ag hs ?_|fail)|fail)
   cases hv:Vr val Af with
   | false=>
    refine Ac rfl ⟨?_,by exact Ab.fin hs⟩;rw[HE] at hv;have:(decide (val=⟨#[]⟩))=false:=hv;rw[this];simp
   | true=>
    refine Ak rfl ?_
    repeat (first|((with_reducible refine Ax ?_);first|refine Ag hs ?_|fail)|fail)
    refine⟨?_,by exact Ab.fin hs⟩;rw[HE] at hv;have:(decide (val=⟨#[]⟩))=true:=hv;rw[this,hlen];congr 1;rw[Bool.eq_iff_iff];simp
 have he:¬err≠0:=λh=>h he;rw[if_neg he,if_neg he];have hnow:=Aid (o:=o) hj.now0 hj.nowM;have hgl:=Rp hj.tok gone;have hm:(gone.foldl CY s.T).length<800000000:=by omega
 obtain⟨R,hRd⟩:∃R:Bool,R=(Fu s.T (Du s.now o) o.kind o.key hit val && HU s.T (Du s.now o) o.kind gone):=⟨_,rfl⟩;rw[<- hRd];obtain⟨Q,hQ⟩:∃Q:VW,Q=(λv w'=>v = .b (R && UI (Ft s.T (Du s.now o) o gone) sh (IW s.room o))/\Ab W w' (jrR b sh ⟨Ft s.T (Du s.now o) o gone,Du s.now o,IW s.room o⟩::L)):=⟨_,rfl⟩;rw[<- hQ];have j6:∀(w:World),Ab W w (jrR b sh ⟨Ft s.T (Du s.now o) o gone,Du s.now o,IW s.room o⟩::L)->QO By Q (some ⟨b,0,none⟩) R w:=by
  intro w hs;refine jw Aec ?_;rw[hQ];refine Al (λh=>?_) (λh=>?_)
  ·refine An (A13 hs) λe w ⟨he,hs⟩=>⟨_,he,?_⟩;exact⟨by rw[h,Bool.not_not];rfl,by exact Ab.fin hs⟩
  ·exact⟨by rw[h];rfl,by exact Ab.fin hs⟩
 have j5:∀(w:World),Ab W w (blk ob [.i o.kind,.s o.key,.s o.val,.i o.n]::jrR b sh ⟨gone.foldl CY s.T,Du s.now o,s.room⟩::L)->Asd By Q (some ⟨b,0,none⟩) ob 0 R w:=by
  intro w hs;refine jw Aeb ?_;have hs:Ab W w (jrR b sh ⟨gone.foldl CY s.T,Du s.now o,s.room⟩::blk ob [.i o.kind,.s o.key,.s o.val,.i o.n]::L):=by exact Ab.fin hs
  obtain⟨tb,hs⟩:=JN hs;have hrise:=hgl.1.rise;unfold Ft IW at j6
  repeat (first|((with_reducible refine Ax ?_);first|refine Ag hs ?_|fail)|fail)
  with_reducible refine Be (λh1=>?_) (λh1=>?_)
  ·rw[if_pos h1,if_neg (by omega)] at j6
   repeat (first|with_reducible refine Aa ?_|((with_reducible refine Ax ?_);first|refine Ag hs ?_|fail)|((with_reducible refine AX ?_);first|refine Am ?_|fail)|((with_reducible refine AA ?_);first|refine A9 hs ?_|fail)|((with_reducible refine AZ ?_);first|refine As hs λw hs=>?_|fail)|fail)
   refine AH (A2v hs hrise hm) λe w ⟨he,hs⟩=>⟨_,_,he,?_⟩;have hs:=Df tb hs;exact j6 w (by exact Ab.fin hs)
  rw[if_neg h1] at j6
  with_reducible refine Be (λh2=>?_) (λh2=>?_)
  ·rw[if_pos h2,if_neg (by omega)] at j6
   repeat (first|with_reducible refine Aa ?_|((with_reducible refine Ax ?_);first|refine Ag hs ?_|fail)|((with_reducible refine AX ?_);first|refine Am ?_|fail)|((with_reducible refine AA ?_);first|refine A9 hs ?_|fail)|((with_reducible refine AZ ?_);first|refine As hs λw hs=>?_|fail)|fail)
   refine An (Sa hs hrise (Nat.lt_trans hm (by omega))) λe w ⟨he,hs⟩=>⟨_,he,?_⟩;have hs:=Df tb hs;exact j6 w (by exact Ab.fin hs)
  rw[if_neg h2] at j6
  with_reducible refine Be (λh3=>?_) (λh3=>?_)
  ·rw[if_pos h3] at j6
   repeat (first|with_reducible refine Aa ?_|((with_reducible refine Ax ?_);first|refine Ag hs ?_|fail)|((with_reducible refine AS ?_);first|refine A0 hs λw hs=>?_|fail)|fail)
   have hs:=Df tb hs;exact j6 w (by exact Ab.fin hs)
  ·rw[if_neg h3] at j6;have hs:=Df tb hs;exact j6 w (by exact Ab.fin hs)
 have loop:∀(f i:Nat)(w:World),i+f=gone.length->Ab W w (blk rb [.i err,.b hit,.s val,.l sl.a sl.n sl.c]::blk ob [.i o.kind,.s o.key,.s o.val,.i o.n]::jrR b sh ⟨(gone.take i).foldl CY s.T,Du s.now o,s.room⟩::L) ->
   W6 By Q (f+1) (some ⟨b,0,none⟩) ob 0 rb 0 R (i:Int) w:=by
  intro f
  induction f with
  | zero=>
   intro i w hi2 hs;rw[QP]
   repeat (first|((with_reducible refine Ax ?_);first|refine Ag hs ?_|fail)|fail)
   refine Ac (decide_eq_false (by omega)) ?_;rw[List.take_of_length_le (by omega)] at hs;exact j5 w (by exact Ab.fin hs)
  | succ f ih=>
   intro i w hi2 hs;rw[QP]
   repeat (first|((with_reducible refine Ax ?_);first|refine Ag hs ?_|fail)|fail)
   refine Ak (decide_eq_true (by omega)) ?_;have hil:i<gone.length:=by omega
   haveI hR:=FN hr hil;have hgi:=Rp hj.tok (gone.take i);have hmi:((gone.take i).foldl CY s.T).length<1000000000:=by omega
   have hs:Ab W w (jrR b sh ⟨(gone.take i).foldl CY s.T,Du s.now o,s.room⟩::blk rb [.i err,.b hit,.s val,.l sl.a sl.n sl.c]::blk ob [.i o.kind,.s o.key,.s o.val,.i o.n]::L):=by exact Ab.fin hs
   obtain⟨tb,hs⟩:=JN hs
   repeat (first|with_reducible refine Aa ?_|((with_reducible refine Ax ?_);first|refine Ag hs ?_|refine AE ha_ hs ?_|fail)|((with_reducible refine AM ?_);first|refine AB hs λb_ o_ ha_=>?_|fail)|((with_reducible refine AX ?_);first|refine Am ?_|fail)|((with_reducible refine AA ?_);first|refine A9 hs ?_|fail)|((with_reducible refine AZ ?_);first|refine As hs λw hs=>?_|fail)|fail)
   simp only[Int.toNat_natCast];refine An (Sa hs hgi.1.rise hmi) λe w ⟨he,hs⟩=>⟨_,he,?_⟩;rw[i64_in _ (by omega)];rw[<- Akn hil] at hs;have hs:=Df tb hs;exact ih (i+1) w (by omega) (by exact Ab.fin hs)
 have j3:∀(ok:Bool)(w:World),ok=R ->
   Ab W w (blk rb [.i err,.b hit,.s val,.l sl.a sl.n sl.c]::blk ob [.i o.kind,.s o.key,.s o.val,.i o.n]::jrR b sh ⟨s.T,Du s.now o,s.room⟩::L) ->
   Ad9 By Q (some ⟨b,0,none⟩) ob 0 rb 0 ok w:=by
  intro ok w hok hs;refine jw Aea ?_;rw[hok];exact⟨gone.length+1,loop gone.length 0 w (by omega) hs⟩
 have j2:∀(w:World),Ab W w (blk rb [.i err,.b hit,.s val,.l sl.a sl.n sl.c]::blk ob [.i o.kind,.s o.key,.s o.val,.i o.n]::jrR b sh ⟨s.T,Du s.now o,s.room⟩::L) ->
   Ad7 By Q (some ⟨b,0,none⟩) ob 0 rb 0 w:=by
  intro w hs;refine jw Ad8 ?_
  repeat (first|((with_reducible refine Ax ?_);first|refine Ag hs ?_|fail)|fail)
  refine An (Atb (s:=⟨s.T,Du s.now o,s.room⟩) (err:=err) (hit:=hit) (val:=val) (sl:=sl) hs hj.tok (Nat.lt_trans hl (by omega))) λe w ⟨he,hs⟩=>⟨_,he,?_⟩;refine Al (λh=>?_) (λh=>?_)
  ·have h:Fu s.T (Du s.now o) o.kind o.key hit val=true:=h
   repeat (first|((with_reducible refine Ax ?_);first|refine Ag hs ?_|fail)|fail)
   have hs:Ab W w (jrR b sh ⟨s.T,Du s.now o,s.room⟩::blk rb [.i err,.b hit,.s val,.l sl.a sl.n sl.c]::blk ob [.i o.kind,.s o.key,.s o.val,.i o.n]::L):=by exact Ab.fin hs
   refine An (A14 (o:=o) hs hj.tok (Nat.lt_trans hl (by omega)) hr hn) λe w ⟨he,hs⟩=>⟨_,he,?_⟩
   with_reducible refine j3 _ w ?_ (by exact Ab.fin hs)
   rw[hRd,h,Bool.true_and]
  ·have h:Fu s.T (Du s.now o) o.kind o.key hit val=false:=h
   with_reducible refine j3 _ w ?_ hs
   rw[hRd,h,Bool.false_and]
 have j1:∀(t:Bool)(w:World),(t=true↔(o.kind=4/\0<o.n))->Ab W w (blk rb [.i err,.b hit,.s val,.l sl.a sl.n sl.c]::blk ob [.i o.kind,.s o.key,.s o.val,.i o.n]::jrR b sh s::L) ->
   Ad5 By Q (some ⟨b,0,none⟩) ob 0 rb 0 t w:=by
  intro t w ht hs;refine jw Ad6 ?_;refine Al (λh=>?_) (λh=>?_)
  ·have hk:=ht.1 h;have hs:Ab W w (jrR b sh s::blk rb [.i err,.b hit,.s val,.l sl.a sl.n sl.c]::blk ob [.i o.kind,.s o.key,.s o.val,.i o.n]::L):=by exact Ab.fin hs
   obtain⟨tb,hs⟩:=JN hs;have h0:=hj.now0;have h1:=hj.nowM
   repeat (first|with_reducible refine Aa ?_|((with_reducible refine Ax ?_);first|refine Ag hs ?_|fail)|((with_reducible refine AS ?_);first|refine A0 hs λw hs=>?_|fail)|((with_reducible refine AX ?_);first|refine Am ?_|fail)|((with_reducible refine AA ?_);first|refine A9 hs ?_|fail)|((with_reducible refine AZ ?_);first|refine As hs λw hs=>?_|fail)|fail)
   have hs:=Df tb hs;refine j2 w ?_;have e:(if (IntKind.wrap .i64 (s.now+(if (1125899906842624:Int)<o.n then (1125899906842624:Int) else o.n)))<(1125899906842624:Int) then (IntKind.wrap .i64 (s.now+(if (1125899906842624:Int)<o.n then (1125899906842624:Int) else o.n))) else (1125899906842624:Int))=Du s.now o:=by
    have e1:IntKind.wrap .i64 (s.now+(if (1125899906842624:Int)<o.n then (1125899906842624:Int) else o.n))=s.now+(if (1125899906842624:Int)<o.n then (1125899906842624:Int) else o.n):=by
     split
     ·exact i64_in _ (by omega)
     ·exact i64_in _ (by omega)
    rw[e1];unfold Du;rw[if_pos hk];split <;> split <;> omega
   rw[e] at hs;exact Ab.fin hs
  ·have hk:¬(o.kind=4/\0<o.n):=λhk=>by rw[ht.2 hk] at h;cases h
   have e:Du s.now o=s.now:=by unfold Du;rw[if_neg hk]
   refine j2 w ?_;rw[e];exact hs
 repeat (first|((with_reducible refine Ax ?_);first|refine Ag hs ?_|fail)|fail)
 with_reducible refine Be (λh1=>?_) (λh1=>?_)
 ·repeat (first|((with_reducible refine Ax ?_);first|refine Ag hs ?_|fail)|fail)
  with_reducible refine j1 _ w ?_ hs
  rw[decide_eq_true_eq];constructor
  ·intro h;exact⟨h1,h⟩
  ·intro h;exact h.2
 ·with_reducible refine j1 _ w ?_ hs
  constructor
  ·intro h;cases h
  ·intro h;exact absurd h.1 h1
end
end Go.Proofs.YtjipofkjmmpjdaaGreat
namespace Go.Hb
structure A8r(W:World)(ops:List F1)(rs:List OT):Prop where
 key:∀i,i<ops.length->i<150->(ops.getD i default).key.size<=40
 opn:∀i,i<ops.length->okK .i64 (ops.getD i default).n
 len:∀i,i<rs.length->i<150->(rs.getD i default).gone.length<=9000
 gone:∀i,i<rs.length->i<150->∀g∈(rs.getD i default).gone,g.size<=40
 rd:∀i,i<rs.length->Lm W (rs.getD i default).sl Rec.str (rs.getD i default).gone
theorem Ti{α:Type}[Inhabited α]{l:List α}{i:Nat}(h:i<l.length):l.drop i=l.getD i default::l.drop (i+1):=by
 rw[List.drop_eq_getElem_cons h,List.getD_eq_getElem?_getD,List.getElem?_eq_getElem h];rfl
theorem Aau{sh:Int}{s:JS}{ops:List F1}{rs:List OT}{i:Nat}(h1:i<ops.length)(h2:i<rs.length):FJ sh i s (ops.drop i) (rs.drop i) =
  if E8 sh s (ops.getD i default) (rs.getD i default).err (rs.getD i default).hit (rs.getD i default).val (rs.getD i default).gone then FJ sh (i+1) (Dc s (ops.getD i default) (rs.getD i default).err (rs.getD i default).gone) (ops.drop (i+1)) (rs.drop (i+1)) else (i:Int):=by
 rw[Ti h1,Ti h2,FJ]
theorem Afj{sh:Int}{s:JS}{ops:List F1}{rs:List OT}{i:Nat}(h:ops.length<=i\/rs.length<=i):FJ sh i s (ops.drop i) (rs.drop i) = -1:=by
 rcases h with h|h
 ·rw[List.drop_eq_nil_of_le h];unfold FJ;rfl
 ·rw[List.drop_eq_nil_of_le h];cases ops.drop i <;> (unfold FJ;rfl)
theorem JOk.new{room:Int}(h:okK .i64 room):JOk ⟨[],0,room⟩:=⟨⟨by simp[Ci,Ei],by simp,by simp⟩,Int.le_refl 0,(by show(0:Int)<=1125899906842624;decide),h⟩
end Go.Hb
namespace Go.Proofs.YtjipofkjmmpjdaaGreat
open Go.Hb Go.IntWalk
section
variable{W w:World}{L M:List HP}{F:HP->List HP}{b sb:Nat}{sh room err kind:Int}{s:JS}{hit:Bool}{val k q:BA}{o:F1}{sl s0 s1:Sl}{gone ks:List BA}{ops:List F1}{rs:List OT}
set_option maxRecDepth 100000 in
theorem Ata[hO:AtO L W][hr0:CO W s0 opR ops][hr1:CO W s1 Ip rs](hs:Ab W w L)(hin:A8r W ops rs)(hl0:ops.length<=150)(hl1:rs.length<=150)(hroom:okK .i64 room) :
  Calls PR 17 #[.i sh,.i room,.l s0.a s0.n s0.c,.l s1.a s1.n s1.c] w λe w'=>e = .returned (.i (FJ sh 0 ⟨[],0,room⟩ ops rs))/\Ab W w' L:=by
 refine c1 (cw ⟨mixed,Tryz.func17,rfl⟩ Axc ?_);have e0:=hr0.len;have e1:=hr1.len;refine An (A65 hs) λe w ⟨b,he,hs⟩=>⟨_,he,?_⟩;have fin:∀(i:Nat)(s:JS)(w:World),(ops.length<=i\/rs.length<=i)->Ab W w (jrR b sh s::L)->Adj By (λv w'=>v = .i (FJ sh i s (ops.drop i) (rs.drop i))/\Ab W w' L) w:=by
  intro i s w h hs;refine jw Adk ?_;exact⟨by rw[Afj h],by exact Ab.fin hs⟩
 have loop:∀(f i:Nat)(s:JS)(w:World),i+f=ops.length->JOk s->s.T.length<=i->Ab W w (jrR b sh s::L) ->
   VU By (λv w'=>v = .i (FJ sh i s (ops.drop i) (rs.drop i))/\Ab W w' L) (f+1) s0 s1 (some ⟨b,0,none⟩) (i:Int) w:=by
  intro f
  induction f with
  | zero=>
   intro i s w hi hj hl hs;rw[QI];refine Ac (decide_eq_false (by omega)) ?_;exact fin i s w (by omega) hs
  | succ f ih=>
   intro i s w hi hj hl hs;rw[QI];refine Ak (decide_eq_true (by omega)) ?_
   with_reducible refine Bg (λh1=>?_) (λh1=>?_)
   rotate_left
   ·exact fin i s w (by omega) hs
   refine jw Adi ?_;have h0:i<ops.length:=by omega
   have h1:i<rs.length:=by omega
   with_reducible refine As hs λw hs=>?_
   with_reducible refine AB hs λb1 o1 ha1=>?_
   refine Bh ha1 ?_;refine Bp ha1 ?_;refine Bq ha1 ?_;refine Br ha1 ?_
   with_reducible refine AB hs λb2 o2 ha2=>?_
   refine AE ha2 hs ?_;refine BD ha2 hs ?_;refine BI ha2 hs ?_;refine BJ ha2 hs ?_
   with_reducible refine A9 hs ?_
   simp only[Int.toNat_natCast];refine An (A66 (o:=ops.getD i default) (err:=(rs.getD i default).err) (hit:=(rs.getD i default).hit) (val:=(rs.getD i default).val) (sl:=(rs.getD i default).sl) hs hj (by omega) (hin.opn i h0) (hin.rd i h1) (hin.len i h1 (by omega))) λe w ⟨he,hs⟩=>⟨_,he,?_⟩;rw[Aau h0 h1];obtain⟨hj2,hl2⟩:=hj.next (hin.opn i h0) (rs.getD i default).err (rs.getD i default).gone
   refine Al (λh2=>?_) (λh2=>?_)
   ·have h2:E8 sh s (ops.getD i default) (rs.getD i default).err (rs.getD i default).hit (rs.getD i default).val (rs.getD i default).gone=false:=by simpa using h2
    exact⟨by rw[h2];rfl,by exact Ab.fin hs⟩
   ·have h2:E8 sh s (ops.getD i default) (rs.getD i default).err (rs.getD i default).hit (rs.getD i default).val (rs.getD i default).gone=true:=by simpa using h2
    rw[h2,i64_in _ (by omega)];exact ih (i+1) _ w (by omega) hj2 (by omega) hs
 have:=loop ops.length 0 ⟨[],0,room⟩ w (by omega) (JOk.new hroom) (by simp) hs;exact⟨ops.length+1,this⟩
end
end Go.Proofs.YtjipofkjmmpjdaaGreat
namespace Go.Hb
def Aat:JS->List F1->List OT->JS
 | s,o::os,a::rs=>Aat (Dc s o a.err a.gone) os rs
 | s,_,_=>s
def Akq(sh:Int):JS->List F1->List OT->Prop
 | s,o::os,a::rs=>E8 sh s o a.err a.hit a.val a.gone=true/\Akq sh (Dc s o a.err a.gone) os rs
 | _,_,_=>True
section
variable{sh:Int}
theorem As7{s:JS}{ops:List F1}:Akq sh s ops []:=by cases ops <;> exact trivial
theorem As9{s:JS}{ops:List F1}:Aat s ops []=s:=by cases ops <;> rfl
theorem Rz:∀{rs:List OT}{ops:List F1}{s:JS}(i:Nat),Akq sh s ops rs->FJ sh i s ops rs = -1
 | [],ops,s,i,_=>by cases ops <;> rfl
 | r::rs,[],s,i,_=>rfl
 | r::rs,o::os,s,i,h=>by
  rw[FJ,if_pos h.1];exact Rz (i+1) h.2
end
theorem Ab.again{W w w':World}{L:List HP}(h:Ab W w L)(h2:Ab w w' [old w]):Ab W w' L:=by
 refine⟨h2.os.trans h.os,h2.out.trans h.out,?_⟩;obtain⟨h1,_,ha,_,_,hd,_⟩:=h2.st;exact La h.st (hd.trans ha)
end Go.Hb
namespace Go.Hb
open Go.Proofs.YtjipofkjmmpjdaaGreat
theorem A2s{rm now:Int}{X:List Sh}{o u:F1}{e:Int}{h:Bool}{x:BA}{g:BL}{rm1 now1:Int}{X1:List Sh}{e2:Int}{h2:Bool}{x2:BA}{g2:BL}{rm2 now2:Int}{X2:List Sh}
  (hX:∀z∈X,Lo rm z.1) (k1:o.kind=2) (k2:u.kind=1) (hu:u.key=o.key) (ht:E7 o.key o.val now o.n=0) (hp:SH rm now X o e h x g rm1 now1 X1) (hg:SH rm1 now1 X1 u e2 h2 x2 g2 rm2 now2 X2):e=0/\e2=0/\h2=true/\x2=o.val:=by
 obtain⟨hk,hv,hn0,hn1,hl0,hl1⟩:=Ms ht;have hm0:Kk u.key now=0:=by
  unfold Kk;rw[hu,if_neg (by rw[hk];simp),if_neg (by omega)]
 cases hp with
 | no he hN=>exact absurd ht (hN.n2 k1)
 | @put T kd p q g _ _ hT ho hnd hsub hng=>
  have hlt:=(List.getElem?_eq_some_iff.1 hT).1;have hok:=(hX _ (List.mem_of_getElem? hT)).tok;refine⟨rfl,?_⟩;cases hg with
  | no he hN=>exact absurd hm0 (hN.n1 k2)
  | @get T2 kd2 p2 q2 _ _ hT2 ho2=>
   refine⟨rfl,?_⟩;rw[List.length_set,hu,List.getElem?_set_self hlt] at hT2;simp only[Option.some.injEq,Prod.mk.injEq] at hT2;obtain⟨rfl,_,_⟩:=hT2;have hm:AC (EY (A3 (Cb T o.key now) g) o.key o.val now o.n) o.key=some (o.val,GZ now o.n):=by
    unfold EY;rw[if_pos ht,LL (CJ (Al1 hok)).rise,if_pos rfl]
   have hov:JB (GZ now o.n) now=false:=by
    unfold JB GZ;refine decide_eq_false λh=>?_;split at h <;> omega
   rw[hu];unfold Dy;rw[hm];simp[hov]
  | put h1=>omega
  | del h1=>omega
  | tick h1=>omega
  | drain h1=>omega
  | step h1=>omega
  | epoch h1=>omega
  | force h1=>omega
  | res h1=>omega
 | get h1=>omega
 | del h1=>omega
 | tick h1=>omega
 | drain h1=>omega
 | step h1=>omega
 | epoch h1=>omega
 | force h1=>omega
 | res h1=>omega
end Go.Hb
namespace Go.Proofs.YtjipofkjmmpjdaaGreat
open Go.Hb Go.IntWalk
section
variable{W w:World}{L M:List HP}{s0 r9 tp:Sl}{ops:List F1}{rs:List OT}{tape:List Int}{c0 c1 c2 c3 c4 c5 c6:Int}{b n:Nat}{rm now:Int}{X:List Sh}
theorem Avc(hs:Ab W w L):BB PR 10 #[.agg #[.i c0,.i c1,.i c2,.i c3,.i c4,.i c5,.i c6,.l tp.a tp.n tp.c]] w λv w'=>∃t:Bool,v = .b t/\(t=true->tp.n<=100/\c1<=64)/\Ab W w' L:=by
 refine cw ⟨mixed,Tryz.func10,rfl⟩ Awf ?_;refine Ah hs λb1 w hs=>?_;refine Ag hs ?_
 with_reducible refine A2 (λh1=>?_) (λh1=>?_)
 rotate_left
 ·exact⟨false,rfl,(λh=>by cases h),hs.drop⟩
 refine Ag hs ?_
 with_reducible refine A2 (λh2=>?_) (λh2=>?_)
 rotate_left
 ·exact⟨false,rfl,(λh=>by cases h),hs.drop⟩
 refine Ag hs ?_
 with_reducible refine A2 (λh3=>?_) (λh3=>?_)
 rotate_left
 ·exact⟨false,rfl,(λh=>by cases h),hs.drop⟩
 refine Ag (x:=tp) hs ?_;exact⟨_,rfl,λh=>by have:=of_decide_eq_true h;omega,hs.drop⟩
def A8s(ops:List F1):Prop:=∀i,i<ops.length->i<150->(ops.getD i default).key.size<=40
set_option maxRecDepth 100000 in
theorem Ab6[hr:IU W L s0 opR ops](hs:Ab W w L):BB PR 9 #[.l s0.a s0.n s0.c] w λv w'=>∃b:Bool,v = .b b/\(b=false->A8s ops)/\Ab W w' L:=by
 refine cw ⟨mixed,Tryz.func9,rfl⟩ A6x ?_;obtain⟨N,hN⟩:∃N:Nat,N=151:=⟨_,rfl⟩;have loop:∀(m i:Nat)(w:World),i+m=N->(∀j,j<i->j<ops.length->(ops.getD j default).key.size<=40)->Ab W w L->Ah8 By (λv w'=>∃b:Bool,v = .b b/\(b=false->A8s ops)/\Ab W w' L) (m+1) s0 (i:Int) w:=by
  intro m
  induction m with
  | zero=>
   intro i w hi hp hs;have hn:=Bt (s:=s0) hs;rw[UC]
   with_reducible refine A2 (λh1=>?_) (λh1=>?_)
   ·with_reducible refine Bg (λh2=>absurd h2 (by omega)) (λh2=>?_)
    refine jw JK ?_;exact⟨_,rfl,λ_ j hj hj2=>hp j (by omega) hj,hs⟩
   ·refine jw JK ?_;exact⟨_,rfl,λ_ j hj hj2=>hp j (by omega) hj,hs⟩
  | succ m ih=>
   intro i w hi hp hs;have hn:=Bt (s:=s0) hs;rw[UC]
   with_reducible refine A2 (λh1=>?_) (λh1=>?_)
   ·with_reducible refine A2 (λh2=>?_) (λh2=>?_)
    ·refine jw Akl ?_
     repeat (first|((with_reducible refine Ax ?_);first|refine BD ha_ hs ?_|fail)|((with_reducible refine AM ?_);first|refine AB hs λb_ o_ ha_=>?_|fail)|fail)
     rw[Int.toNat_natCast]
     with_reducible refine A2 (λh3=>?_) (λh3=>?_)
     ·exact⟨_,rfl,(λh=>by cases h),hs⟩
     ·repeat (first|((with_reducible refine Ax ?_);first|refine BD ha_ hs ?_|fail)|((with_reducible refine AM ?_);first|refine AB hs λb_ o_ ha_=>?_|fail)|fail)
      with_reducible refine A2 (λh4=>?_) (λh4=>?_)
      ·exact⟨_,rfl,(λh=>by cases h),hs⟩
      rw[i64_in _ (by omega)];refine ih (i+1) w (by omega) (λj hj hj2=>?_) hs
      by_cases hji:j=i
      ·subst hji;omega
      ·exact hp j (by omega) hj2
    ·refine jw JK ?_;exact⟨_,rfl,λ_ j hj hj2=>hp j (by omega) hj,hs⟩
   ·refine jw JK ?_;exact⟨_,rfl,λ_ j hj hj2=>hp j (by omega) hj,hs⟩
 refine⟨N+1,?_⟩;exact loop N 0 w (by omega) (λj hj=>by omega) hs
abbrev A91(c0 c1 c6:Int)(W:World)(L:List HP):VW:=λv w'=>(∃(b sh:Nat),c0=(sh:Int)/\v = .tuple #[pq b 0,.b true]/\Ab W w' (Kj b 0 c1 0 (List.replicate sh ([],c6,none))::L))\/(v = .tuple #[.p none,.b false]/\Ab W w' L)
theorem Ava[hr:IU W L tp (Rec.int .u32) tape](ht:tape.length<=1000)(hs:Ab W w L):BB PR 13 #[.agg #[.i c0,.i c1,.i c2,.i c3,.i c4,.i c5,.i c6,.l tp.a tp.n tp.c]] w (A91 c0 c1 c6 W L):=by
 refine cw ⟨mixed,Tryz.func13,rfl⟩ Aww ?_;refine Ah hs λb1 w hs=>?_
 iterate 7 refine Ag hs ?_
 refine Ag (x:=tp) hs ?_;refine AP (A4a ht hs) λv w h=>?_;rcases h with⟨b,sh,hsh,hv,hs⟩|⟨hno,e,he,hv,hs⟩
 ·exact⟨_,_,hv,Ac rfl (.inl ⟨b,sh,hsh,rfl,by exact Ab.fin hs⟩)⟩
 ·exact⟨_,_,hv,Ak (by simpa using he) (.inr ⟨rfl,hs.drop⟩)⟩
theorem Avb(hs:Ab W w L):BB PR 12 #[] w λv w'=>v = .b true/\Ab W w' L:=by
 refine cw ⟨mixed,Tryz.func12,rfl⟩ Awr ?_;have hs:=Ab.nilR (Rec.int .u32) hs;refine AP (A4a (tp:=⟨none,0,0⟩) (tape:=[]) (by simp) hs) λv w h=>?_;rcases h with⟨b,sh,hsh,hv,hs⟩|⟨hno,e,he,hv,hs⟩
 rotate_left
 ·exact absurd (by unfold Avh;omega) hno
 refine⟨_,_,hv,Ac rfl (Ac rfl ?_)⟩;refine jw Ada ?_;have hok:=Q2 hs;refine Calls.mono (A67 (o:=⟨2,Sy,Sz,0⟩) (by decide) (by decide) hs) λe_ w ⟨v,he,e,h,x,sg,gone,rm2,now2,X2,hv,hD,hs⟩=>⟨e,h,x,sg,by rw[he,hv],?_⟩;refine Calls.mono (A67 (o:=⟨1,Sy,⟨#[]⟩,0⟩) (by decide) (by decide) hs) λe_ w ⟨v,he,e2,h2,x2,sg2,gone2,rm3,now3,X3,hv,hD2,hs⟩=>⟨e2,h2,x2,sg2,by rw[he,hv],?_⟩;have hk:E7 Sy Sz 0 0=0:=by decide +kernel
 obtain⟨_,rfl,rfl,rfl⟩:=A2s (o:=⟨2,Sy,Sz,0⟩) (u:=⟨1,Sy,⟨#[]⟩,0⟩) (λz hz=>(hok.2 z hz).1) rfl rfl rfl hk hD hD2;refine Ah hs λb1 w hs=>?_;refine A0 hs λw hs=>A0 hs λw hs=>A0 hs λw hs=>A0 hs λw hs=>?_;refine Ag hs (Ak rfl ?_);refine Ag hs ?_;refine Ak (show Vr Sz Sz=true by decide +kernel) ?_;exact Ag hs ⟨rfl,by exact Ab.fin hs⟩
end
end Go.Proofs.YtjipofkjmmpjdaaGreat
namespace Go.Hb
open Go.Proofs.YtjipofkjmmpjdaaGreat
section
variable{rm now rm' now':Int}{X X':List Sh}{o:F1}{e:Int}{h:Bool}{v:BA}{gone:BL}{key:BA}
theorem XN{T:TT}{g:BL}{k:BA}:CY (A3 T g) k=A3 T (g++[k]):=by unfold A3;rw[List.foldl_append];rfl
theorem Qp{i:Nat}{z z':Sh}{P:Sh->Sh->Prop}(hi:X[i]? = some z)(hp:P z z')(hs:∀y,P y y):(X.set i z').length=X.length/\∀(j:Nat)(y:Sh),X[j]? = some y->∃y',(X.set i z')[j]? = some y'/\P y y':=by
 have hlt:=(List.getElem?_eq_some_iff.1 hi).1;refine⟨by rw[List.length_set],λj y hj=>?_⟩
 by_cases hij:j=i
 ·subst hij;rw[hi] at hj;cases hj;exact⟨z',by rw[List.getElem?_set_self hlt],hp⟩
 ·exact⟨y,by rw[List.getElem?_set_ne (λh=>hij h.symm)];exact hj,hs y⟩
def A93(n:Nat)(now:Int)(o:F1)(i:Nat)(z z':Sh):Prop:=(∃g,z'.1=A3 z.1 g)\/(o.kind=2/\i=Bl n o.key/\E7 o.key o.val now o.n=0/\∃g,z'.1=EY (A3 z.1 g) o.key o.val now o.n)
theorem SH.tab(hD:SH rm now X o e h v gone rm' now' X'):X'.length=X.length/\∀(i:Nat)(z:Sh),X[i]? = some z->∃z',X'[i]? = some z'/\A93 X.length now o i z z':=by
 have same:∀z:Sh,∃g,z.1=A3 z.1 g:=λz=>⟨[],rfl⟩;cases hD with
 | no he hN=>exact⟨rfl,λi z hz=>⟨z,hz,.inl (same z)⟩⟩
 | @get T kd p q hk hm hT ho=>
  have h1:=Qp (P:=λz z'=>∃g,z'.1=A3 z.1 g) hT (z':=(Cb T o.key now,kd,q)) ⟨_,Fe T o.key now⟩ same;exact⟨h1.1,λi z hz=>by obtain⟨z',a,b⟩:=h1.2 i z hz;exact⟨z',a,.inl b⟩⟩
 | @put T kd p q g hk ht hT ho hnd hsub hng=>
  have hlt:=(List.getElem?_eq_some_iff.1 hT).1;refine⟨by rw[List.length_set],λi z hz=>?_⟩
  by_cases hij:i=Bl X.length o.key
  ·subst hij;rw[hT] at hz;cases hz;refine⟨_,List.getElem?_set_self hlt,.inr ⟨hk,rfl,ht,BS T o.key now++g,?_⟩⟩;show EY (A3 (Cb T o.key now) g) o.key o.val now o.n=_;rw[Fe];unfold A3;rw[List.foldl_append]
  ·exact⟨z,by rw[List.getElem?_set_ne (λh=>hij h.symm)];exact hz,.inl (same z)⟩
 | @del T kd p q hk hm hT ho=>
  have h1:=Qp (P:=λz z'=>∃g,z'.1=A3 z.1 g) hT (z':=(CY (Cb T o.key now) o.key,kd,q)) ⟨_,by show CY (Cb T o.key now) o.key=_;rw[Fe,XN]⟩ same;exact⟨h1.1,λi z hz=>by obtain⟨z',a,b⟩:=h1.2 i z hz;exact⟨z',a,.inl b⟩⟩
 | tick hk h0 h1 hF=>exact⟨hF.len.symm,λi z hz=>by obtain⟨z',a,b⟩:=hF.get hz;exact⟨z',a,.inl ⟨_,b.1⟩⟩⟩
 | @drain h i T kd p q hk hn hT ho=>
  have h1:=Qp (P:=λz z'=>∃g,z'.1=A3 z.1 g) hT (z':=(T,kd,q)) (same _) same;exact⟨h1.1,λi z hz=>by obtain⟨z',a,b⟩:=h1.2 i z hz;exact⟨z',a,.inl b⟩⟩
 | @step h v i T kd p q hk hn hT ho hle=>
  have h1:=Qp (P:=λz z'=>∃g,z'.1=A3 z.1 g) hT (z':=(T,kd,RU q)) (same _) same;exact⟨h1.1,λi z hz=>by obtain⟨z',a,b⟩:=h1.2 i z hz;exact⟨z',a,.inl b⟩⟩
 | epoch hk hkd hF=>
  rcases hF with rfl|hF
  ·exact⟨rfl,λi z hz=>⟨z,hz,.inl (same z)⟩⟩
  ·exact⟨hF.len.symm,λi z hz=>by obtain⟨z',a,b⟩:=hF.get hz;exact⟨z',a,.inl ⟨[],b.1⟩⟩⟩
 | force hk hkd hF=>exact⟨hF.len.symm,λi z hz=>by obtain⟨z',a,b⟩:=hF.get hz;exact⟨z',a,.inl ⟨[],b.1⟩⟩⟩
 | res hk h1 h2 hF=>exact⟨hF.len.2.symm,λi z hz=>by obtain⟨g,z',a,c,b⟩:=hF.get hz;exact⟨z',c,.inl ⟨g,by rw[b.2.2]⟩⟩⟩
end
end Go.Hb
namespace Go.Hb
open Go.Proofs.YtjipofkjmmpjdaaGreat
def Kl(X:List Sh):List TT:=X.map (·.1)
theorem Aar{sh:Int}{o:F1}{a:OT}:∀{rs:List OT}{ops:List F1}{s:JS},Akq sh s ops rs->rs.length=ops.length->E8 sh (Aat s ops rs) o a.err a.hit a.val a.gone=true ->
  Akq sh s (ops++[o]) (rs++[a])/\Aat s (ops++[o]) (rs++[a])=Dc (Aat s ops rs) o a.err a.gone
 | [],[],s,_,_,h=>⟨⟨h,trivial⟩,rfl⟩
 | [],_::_,s,_,h,_=>by simp at h
 | _::_,[],s,_,h,_=>by simp at h
 | r::rs,p::ops,s,h1,h2,h3=>by
  obtain⟨h4,h5⟩:=Aar (rs:=rs) (ops:=ops) (s:=Dc s p r.err r.gone) h1.2 (by simpa using h2) h3;exact⟨⟨h1.1,h4⟩,h5⟩
section
variable{rm now rm' now':Int}{X X':List Sh}{o:F1}{e:Int}{h:Bool}{v:BA}{gone:BL}{s:JS}
theorem Xy{i:Nat}{z:Sh}(h:X[i]? = some z):(Kl X)[i]? = some z.1:=by unfold Kl;rw[List.getElem?_map,h];rfl
theorem Qv{i:Nat}{z:Sh}:Kl (X.set i z)=(Kl X).set i z.1:=by unfold Kl;rw[List.map_set]
theorem Ab4{i:Nat}{T:TT}{k:Int}{p q:Option Nat}(h:X[i]? = some (T,k,p)):Kl (X.set i (T,k,q))=Kl X:=by
 rw[Qv];have h1:=Xy h;obtain⟨hlt,he⟩:=List.getElem?_eq_some_iff.1 h1;have he:(Kl X)[i]=T:=he;show(Kl X).set i T=Kl X;rw[<- he,List.set_getElem_self]
theorem F2.tbsS{k:Int}(hF:F2 (swR k) X X'):Kl X'=Kl X:=by
 induction hF with
 | nil=>rfl
 | cons hr _ ih=>
  unfold Go.Hb.Kl at ih ⊢;rw[List.map_cons,List.map_cons,ih,hr.1]
theorem F2.tickS{nw:Int}(hF:F2 (exR nw) X X'):Kl X'=(Kl X).map λT=>A3 T (Cq T nw):=by
 induction hF with
 | nil=>rfl
 | cons hr _ ih=>
  unfold Go.Hb.Kl at ih ⊢;rw[List.map_cons,List.map_cons,List.map_cons,ih,hr.1]
theorem F3.res{r:Int}{G:List BL}(hF:F3 (rsR r) X G X'):Kl X'=List.zipWith A3 (Kl X) G/\∀(i:Nat)(T:TT)(g:BL),(Kl X)[i]? = some T->G[i]? = some g->(∀x∈g,x∈kT T)/\g.Nodup:=by
 induction hF with
 | nil=>exact⟨rfl,by simp[Kl]⟩
 | @cons z g z' X G X' hr _ ih=>
  obtain⟨⟨hnd,hsub⟩,_,rfl⟩:=hr;refine⟨?_,λi T g' h1 h2=>?_⟩
  ·have h1:=ih.1;unfold Kl at h1 ⊢;rw[List.map_cons,List.map_cons,List.zipWith_cons_cons,h1]
  ·cases i with
   | zero=>
    simp[Kl] at h1 h2;subst h1 h2;exact⟨hsub,hnd⟩
   | succ i=>
    exact ih.2 i T g' (by simpa[Kl] using h1) (by simpa using h2)
theorem SH.says(hJ:JR X.length (Kl X) s)(hn:s.now=now)(hr:s.room=rm)(hX':∀z∈X',Lo rm' z.1)(hD:SH rm now X o e h v gone rm' now' X') :
  E8 X.length s o e h v gone=true/\JR X'.length (Kl X') (Dc s o e gone)/\(Dc s o e gone).now=now'/\(Dc s o e gone).room=rm':=by
 have hl:=hD.tab.1;rw[hl];subst hn hr;have stay:∀{T:TT},T∈Kl X'->Lo rm' T:=λhT=>by
  obtain⟨z,hz,rfl⟩:=List.mem_map.1 hT;exact hX' z hz
 cases hD with
 | no he hN=>
  have h1:=A9l (sh:=X.length) (s:=s) (o:=o) he;rw[h1.2];exact⟨h1.1,hJ,rfl,rfl⟩
 | @get T kd p q hk hm hT ho=>
  have h1:=A25 hJ hk (Xy hT);rw[Qv];exact⟨h1.1,h1.2,by rw[Er];exact E0 (by omega),by rw[Er];exact DO (by omega)⟩
 | @put T kd p q g hk ht hT ho hnd hsub hng=>
  have hlt:=(List.getElem?_eq_some_iff.1 hT).1;have h1:=A26 hJ hk (Xy hT) ht hnd hsub hng (hX' _ (List.mem_of_getElem? (List.getElem?_set_self hlt)));rw[Qv];exact⟨h1.1,h1.2,by rw[Er];exact E0 (by omega),by rw[Er];exact DO (by omega)⟩
 | @del T kd p q hk hm hT ho=>
  have hlt:=(List.getElem?_eq_some_iff.1 hT).1;have h1:=A24 hJ hk (Xy hT) (hX' _ (List.mem_of_getElem? (List.getElem?_set_self hlt)));rw[Qv];exact⟨h1.1,h1.2,by rw[Er];exact E0 (by omega),by rw[Er];exact DO (by omega)⟩
 | tick hk h0 h1 hF=>
  have h2:=Auv hJ hk h0 h1;have e1:(X.map λz=>Cq z.1 (s.now+o.n))=(Kl X).map λT=>Cq T (s.now+o.n):=by unfold Kl;rw[List.map_map];rfl
  rw[hF.tickS,e1];exact⟨h2.2.1,h2.2.2,by rw[Er];exact h2.1,by rw[Er];exact DO (by omega)⟩
 | @drain h i T kd p q hk hn hT ho=>
  have h1:=Aiu (o:=o) (hit:=h) (val:=⟨#[]⟩) hJ (by omega) (by omega) (by omega) (by omega) (by omega);rw[Ab4 hT,h1.2];exact⟨h1.1,hJ,rfl,rfl⟩
 | @step h v i T kd p q hk hn hT ho hle=>
  have h1:=Aiu (o:=o) (hit:=h) (val:=v) hJ (by omega) (by omega) (by omega) (by omega) (by omega);rw[Ab4 hT,h1.2];exact⟨h1.1,hJ,rfl,rfl⟩
 | @epoch h v X' k hk hkd hF=>
  have h1:=Aiu (o:=o) (hit:=h) (val:=v) hJ (by omega) (by omega) (by omega) (by omega) (by omega);rw[h1.2];rcases hF with rfl|hF
  ·exact⟨h1.1,hJ,rfl,rfl⟩
  ·rw[hF.tbsS];exact⟨h1.1,hJ,rfl,rfl⟩
 | force hk hkd hF=>
  have h1:=Aiu (o:=o) (hit:=false) (val:=⟨#[]⟩) hJ (by omega) (by omega) (by omega) (by omega) (by omega);rw[hF.tbsS,h1.2];exact⟨h1.1,hJ,rfl,rfl⟩
 | @res X' G hk h1 h2 hF=>
  obtain⟨a,b⟩:=hF.res;have h3:=A27 hJ hk (by rw[<- hF.len.1]) b (λi T g h3 h4=>stay (by
   rw[a];refine List.mem_of_getElem? (i:=i) ?_;rw[List.getElem?_zipWith,h3,h4]))
  rw[a];exact⟨h3.1,h3.2,by rw[Er];exact E0 (by omega),by rw[Er];exact if_pos hk⟩
theorem SJ.says{os:List F1}{rs:List OT}{n:Nat}(hJ:JR n (Kl X) s)(hl:X.length=n)(hn:s.now=now)(hr:s.room=rm)(hR:SJ rm now X os rs rm' now' X') :
  Akq n s os rs/\JR n (Kl X') (Aat s os rs)/\(Aat s os rs).now=now'/\(Aat s os rs).room=rm'/\X'.length=n/\∀a∈rs,(∀g∈a.gone,g.size<=40)/\a.gone.length<=9000:=by
 induction hR with
 | nil=>
  rw[As9];exact⟨As7,hJ,hn,hr,hl,by simp⟩
 | @snoc os rs rm1 now1 rm2 now2 X1 X2 o a hR hD hok ih=>
  obtain⟨h1,h2,h3,h4,h5,h6⟩:=ih;have hlen:=hR.len;subst h5;have h7:=hD.says h2 h3 h4 hok;have hl2:=hD.tab.1;have h8:=Aar h1 (by omega) h7.1;rw[h8.2];refine⟨h8.1,by rw[<- hl2];rw[hl2] at h7 ⊢;exact h7.2.1,h7.2.2.1,h7.2.2.2,hl2,λb hb=>?_⟩
  rcases List.mem_append.1 hb with hb|hb
  ·exact h6 b hb
  ·rw[List.mem_singleton] at hb;subst hb;exact h2.gone_in h7.1
end
end Go.Hb
namespace Go.Proofs.YtjipofkjmmpjdaaGreat
open Go.Hb Go.IntWalk
section
variable{W w:World}{L M:List HP}{s0 tp:Sl}{ops:List F1}{b k:Nat}{rm now:Int}{X:List Sh}
theorem kn{Q:World->Prop}(hs:Ab W w L)(hQ:∀w,Ab W w L->Q w):call1 .bool PR 12 [] (λx w'=>(Value.bool x = .b true/\Q w')) w:=Ai (Avb hs) λv w ⟨hv,hs⟩=>⟨_,hv,rfl,hQ w hs⟩
end
end Go.Proofs.YtjipofkjmmpjdaaGreat
namespace Go.Hb
open Go.Proofs.YtjipofkjmmpjdaaGreat
def slQ:Rec Sl:=⟨1,λs=>[.l s.a s.n s.c],λ_=>rfl⟩
instance:Inhabited Sl:=⟨⟨none,0,0⟩⟩
instance:Gv slQ:=⟨Nat.one_pos⟩
def Cnt(a b:Nat)(out:List Int):Prop:=(∀x∈out,x=0\/x=1)/\out.count 0=a/\out.count 1=b
theorem Cnt.zero{a b:Nat}{out:List Int}(h:Cnt a b out):Cnt (a+1) b (out++[0]):=⟨λx hx=>by
 rcases List.mem_append.1 hx with h1|h1
 ·exact h.1 x h1
 ·exact .inl (by simpa using h1),by rw[List.count_append,h.2.1];rfl,by rw[List.count_append,h.2.2];rfl⟩
theorem Cnt.one{a b:Nat}{out:List Int}(h:Cnt a b out):Cnt a (b+1) (out++[1]):=⟨λx hx=>by
 rcases List.mem_append.1 hx with h1|h1
 ·exact h.1 x h1
 ·exact .inr (by simpa using h1),by rw[List.count_append,h.2.1];rfl,by rw[List.count_append,h.2.2];rfl⟩
theorem Cnt.len{a b:Nat}:∀{out:List Int},(∀x∈out,x=0\/x=1)->out.count 0+out.count 1=out.length
 | [],_=>rfl
 | x::l,h=>by
  have h1:=Cnt.len (a:=a) (b:=b) (out:=l) λy hy=>h y (by simp[hy]);rcases h x (by simp) with rfl|rfl
  ·rw[List.count_cons,List.count_cons];simp;omega
  ·rw[List.count_cons,List.count_cons];simp;omega
theorem A4i{l:List Int}{i:Nat}(h:i<l.length):l.take (i+1)=l.take i++[l[i]]:=by rw[List.take_add_one,List.getElem?_eq_getElem h];rfl
theorem Q4{l:List Int}{i:Nat}(h:i<l.length):(l.take (i+1)).count l[i]=(l.take i).count l[i]+1:=by
 rw[A4i h,List.count_append];simp
theorem Kp{l:List Int}{i:Nat}{x:Int}(h:i<l.length)(hx:l[i]≠x):(l.take (i+1)).count x=(l.take i).count x:=by
 rw[A4i h,List.count_append];have e:List.count x [l[i]]=0:=List.count_eq_zero.2 (by simpa using Ne.symm hx);rw[e,Nat.add_zero]
theorem Ko{l:List Int}{i:Nat}{x:Int}:(l.take i).count x<=l.count x:=(List.take_sublist i l).count_le _
def Ha(a b:Nat):List Int:=(if 0<a then [0] else [])++if 0<b then [1] else []
theorem A3z{a b:Nat}(h:0<a+b):0<(Ha a b).length:=by unfold Ha;split <;> split <;> simp <;> omega
theorem A3y{a b:Nat}{i:Nat}(h:i<(Ha a b).length):((Ha a b).getD i default=0/\0<a)\/((Ha a b).getD i default=1/\0<b):=by
 have hm:(Ha a b).getD i default∈Ha a b:=by rw[List.getD_eq_getElem?_getD,List.getElem?_eq_getElem h];exact List.getElem_mem h
 generalize (Ha a b).getD i default=x at hm;unfold Ha at hm;rcases List.mem_append.1 hm with h1|h1
 ·split at h1
  ·exact .inl ⟨by simpa using h1,by assumption⟩
  ·simp at h1
 ·split at h1
  ·exact .inr ⟨by simpa using h1,by assumption⟩
  ·simp at h1
end Go.Hb
namespace Go.Proofs.YtjipofkjmmpjdaaGreat
open Go.Hb Go.IntWalk
section
variable{W w:World}{L M:List HP}{sc sp:Sl}{picks:List Int}{n0 n1:Nat}{sa sb so:Sl}{la lb:List F1}
abbrev Acn(n0 n1:Nat)(W:World)(L:List HP):VW:=λv w'=>∃(so:Sl) (out:List Int),v = .l so.a so.n so.c/\Cnt n0 n1 out/\Ab W w' (recs (Rec.int .i64) so out::L)
theorem A7r[hp:IU W L sp (Rec.int .i64) picks](hn:n0+n1<=1000):∀(f k a b:Nat)(out:List Int)(so sl:Sl)(w:World),k+f=n0+n1->a+b=f->a<=n0->b<=n1->Cnt (n0-a) (n1-b) out->Ab W w (recs (Rec.int .i64) so out::recs (Rec.int .i64) sl [(a:Int),(b:Int)]::L) ->
  W4 By (Acn n0 n1 W L) (f+1) sp sl ((n0+n1:Nat):Int) so (k:Int) w:=by
 intro f
 induction f with
 | zero=>
  intro k a b out so sl w hk hab ha hb hc hs;rw[QN];refine Ac (decide_eq_false (by omega)) ?_;refine jw Ad3 ?_;have e1:a=0:=by omega
  have e2:b=0:=by omega
  subst e1 e2;exact⟨so,out,rfl,hc,by exact Ab.fin hs⟩
 | succ f ih=>
  intro k a b out so sl w hk hab ha hb hc hs;have hol:out.length=k:=by
   have:=Cnt.len (a:=0) (b:=0) hc.1;rw[hc.2.1,hc.2.2] at this;omega
  rw[QN];refine Ak (decide_eq_true (by omega)) ?_;have hsl:=Bt (s:=sl) (E:=Rec.int .i64) (rows:=[(a:Int),(b:Int)]) hs;have hsl:sl.n=2:=hsl;have j6:∀(w:World)(p:Int)(sw:Sl),0<=p->Ab W w (recs (Rec.int .i64) sw (Ha a b)::recs (Rec.int .i64) so out::recs (Rec.int .i64) sl [(a:Int),(b:Int)]::L)->Ad0 By (Acn n0 n1 W L) (f+1) sp sl ((n0+n1:Nat):Int) so (k:Int) sw p w:=by
   intro w p sw hp0 hs;have hw:=Bt (s:=sw) (E:=Rec.int .i64) (rows:=Ha a b) hs;have hwn:=A3z (a:=a) (b:=b) (by omega);refine jw Ad1 ?_;refine Az (by omega) ?_;obtain⟨q,rfl⟩:∃q:Nat,p=(q:Int):=⟨p.toNat,by omega⟩;rw[show Int.tmod (q:Int) (sw.n:Int)=((q % sw.n:Nat):Int) from rfl,hw];have hlt:q % (Ha a b).length<(Ha a b).length:=Nat.mod_lt _ hwn;generalize q % (Ha a b).length=j at hlt;rw[<- hw];refine AB (s:=sw) (E:=Rec.int .i64) (rows:=Ha a b) hs λb_ o_ ha_=>?_;refine AE (s:=sw) (E:=Rec.int .i64) (rows:=Ha a b) ha_ hs ?_ (hc:=rfl);rw[Int.toNat_natCast]
   have hj7:∀(w:World)(a' b':Nat)(out':List Int)(so':Sl),a'+b'=f->a'<=n0->b'<=n1->Cnt (n0-a') (n1-b') out'->Ab W w (recs (Rec.int .i64) so' out'::recs (Rec.int .i64) sl [(a':Int),(b':Int)]::L)->Asc By (Acn n0 n1 W L) (f+1) sp sl ((n0+n1:Nat):Int) so' (k:Int) w:=by
    intro w a' b' out' so' h1 h2 h3 h4 hs;refine jw Ad2 ?_;rw[show IntKind.wrap .i64 ((k:Int)+1)=((k+1:Nat):Int) by rw[i64_in _ (by omega)];omega]
    exact ih (k+1) a' b' out' so' sl w (by omega) h1 h2 h3 h4 hs
   rcases A3y hlt with⟨e,hpos⟩|⟨e,hpos⟩
   ·rw[e];refine AB (s:=sl) (E:=Rec.int .i64) (rows:=[(a:Int),(b:Int)]) hs λb_ o_ ha_=>?_;refine AE (s:=sl) (E:=Rec.int .i64) (rows:=[(a:Int),(b:Int)]) ha_ hs ?_ (hi:=by show(0:Nat)<2;decide) (x:=(a:Int)) (hc:=rfl)
    refine AK (s:=sl) hs λb2 o2 hs=>?_;refine Ct (a':=((a-1:Nat):Int)) hs (hi:=by show(0:Nat)<2;decide) (hS:=⟨by show[Value.int .i64 _]=[Value.int .i64 _];rw[i64_in _ (by omega)];congr 2;omega,Nat.one_pos⟩) λw hs=>?_
    have hs:=hs.shut sl;have hs:Ab W w (recs (Rec.int .i64) so out::recs (Rec.int .i64) sl [((a-1:Nat):Int),(b:Int)]::L):=by exact Ab.fin hs
    refine Ah hs λnb w hs=>?_;refine Cf (s:=so) (a:=(0:Int)) hs rfl rfl rfl rfl (by decide) (by omega) λs5 w hs5 hs=>?_;refine hj7 w (a-1) b (out++[0]) s5 (by omega) (by omega) hb ?_ (by exact Ab.fin hs);have h1:=hc.zero
    rwa [show n0-a+1=n0-(a-1) by omega] at h1
   ·rw[e];refine AB (s:=sl) (E:=Rec.int .i64) (rows:=[(a:Int),(b:Int)]) hs λb_ o_ ha_=>?_;refine AE (s:=sl) (E:=Rec.int .i64) (rows:=[(a:Int),(b:Int)]) ha_ hs ?_ (hi:=by show(1:Nat)<2;decide) (x:=(b:Int)) (hc:=rfl)
    refine AK (s:=sl) hs λb2 o2 hs=>?_;refine Ct (a':=((b-1:Nat):Int)) hs (hi:=by show(1:Nat)<2;decide) (hS:=⟨by show[Value.int .i64 _]=[Value.int .i64 _];rw[i64_in _ (by omega)];congr 2;omega,Nat.one_pos⟩) λw hs=>?_
    have hs:=hs.shut sl;have hs:Ab W w (recs (Rec.int .i64) so out::recs (Rec.int .i64) sl [(a:Int),((b-1:Nat):Int)]::L):=by exact Ab.fin hs
    refine Ah hs λnb w hs=>?_;refine Cf (s:=so) (a:=(1:Int)) hs rfl rfl rfl rfl (by decide) (by omega) λs5 w hs5 hs=>?_;refine hj7 w a (b-1) (out++[1]) s5 (by omega) ha (by omega) ?_ (by exact Ab.fin hs);have h1:=hc.one
    rwa [show n1-b+1=n1-(b-1) by omega] at h1
  have j5:∀(w:World)(sw:Sl),Ab W w (recs (Rec.int .i64) sw (Ha a b)::recs (Rec.int .i64) so out::recs (Rec.int .i64) sl [(a:Int),(b:Int)]::L)->Asb By (Acn n0 n1 W L) (f+1) sp sl ((n0+n1:Nat):Int) so (k:Int) sw w:=by
   intro w sw hs;have hpn:=Bt (s:=sp) (E:=Rec.int .i64) (rows:=picks) hs;refine jw Adz ?_
   with_reducible refine A2 (λh1=>?_) (λh1=>?_)
   ·refine AB (s:=sp) (E:=Rec.int .i64) (rows:=picks) hs λb_ o_ ha_=>?_;refine AE (s:=sp) (E:=Rec.int .i64) (rows:=picks) ha_ hs ?_ (hc:=rfl);exact j6 w _ sw (by split <;> omega) hs
   ·exact j6 w 0 sw (by omega) hs
  have hs:=Ab.nilR (Rec.int .i64) hs;refine AR 3 ?_;have last:∀(w:World)(sw:Sl),Ab W w (recs (Rec.int .i64) sw (Ha a b)::recs (Rec.int .i64) so out::recs (Rec.int .i64) sl [(a:Int),(b:Int)]::L)->M4 By (Acn n0 n1 W L) (f+1) (0+1) sp sl ((n0+n1:Nat):Int) so (k:Int) sw 2 w:=by
   intro w sw hs;rw[KB];refine Ac (decide_eq_false (by omega)) ?_;exact j5 w sw hs
  have second:∀(w:World)(sw:Sl),Ab W w (recs (Rec.int .i64) sw (if 0<a then [0] else [])::recs (Rec.int .i64) so out::recs (Rec.int .i64) sl [(a:Int),(b:Int)]::L)->M4 By (Acn n0 n1 W L) (f+1) (1+1) sp sl ((n0+n1:Nat):Int) so (k:Int) sw 1 w:=by
   intro w sw hs;rw[KB];refine Ak (decide_eq_true (by omega)) ?_;refine AB (s:=sl) (E:=Rec.int .i64) (rows:=[(a:Int),(b:Int)]) hs λb_ o_ ha_=>?_;refine AE (s:=sl) (E:=Rec.int .i64) (rows:=[(a:Int),(b:Int)]) ha_ hs ?_ (hi:=by show(1:Nat)<2;decide) (x:=(b:Int)) (hc:=rfl)
   refine Al (λh1=>?_) (λh1=>?_)
   ·have h1:=of_decide_eq_true h1;refine Ah hs λnb w hs=>?_;refine Cf (s:=sw) (a:=(1:Int)) hs rfl rfl rfl rfl (by decide) (by split <;> simp) λs5 w hs5 hs=>?_
    refine last w s5 ?_;have e:Ha a b=(if 0<a then [0] else [])++[1]:=by unfold Ha;rw[if_pos (show 0<b by omega)]
    rw[e];exact Ab.fin hs
   ·have h1:=of_decide_eq_false h1;refine last w sw ?_;have e:Ha a b=(if 0<a then [0] else []):=by unfold Ha;rw[if_neg (show ¬0<b by omega),List.append_nil]
    rw[e];exact hs
  rw[KB];refine Ak (decide_eq_true (by omega)) ?_;refine AB (s:=sl) (E:=Rec.int .i64) (rows:=[(a:Int),(b:Int)]) hs λb_ o_ ha_=>?_;refine AE (s:=sl) (E:=Rec.int .i64) (rows:=[(a:Int),(b:Int)]) ha_ hs ?_ (hi:=by show(0:Nat)<2;decide) (x:=(a:Int)) (hc:=rfl)
  refine Al (λh1=>?_) (λh1=>?_)
  ·have h1:=of_decide_eq_true h1;refine Ah hs λnb w hs=>?_;refine Cf (s:=⟨none,0,0⟩) (a:=(0:Int)) hs rfl rfl rfl rfl (by decide) (by decide) λs5 w hs5 hs=>?_;refine second w s5 ?_;rw[if_pos (show 0<a by omega)];exact Ab.fin hs
  ·have h1:=of_decide_eq_false h1;refine second w ⟨none,0,0⟩ ?_;rw[if_neg (show ¬0<a by omega)];exact hs
theorem All[hc:IU W L sc (Rec.int .i64) [(n0:Int),(n1:Int)]][hp:IU W L sp (Rec.int .i64) picks](hn:n0+n1<=1000)(hs:Ab W w L):BB PR 37 #[.l sc.a sc.n sc.c,.l sp.a sp.n sp.c] w (Acn n0 n1 W L):=by
 refine cw ⟨mixed,Tryz.func37,rfl⟩ Az5 ?_;have hcn:=Bt (s:=sc) (E:=Rec.int .i64) (rows:=[(n0:Int),(n1:Int)]) hs;have hcn:sc.n=2:=hcn;have hs:=Ab.nilR (Rec.int .i64) hs;refine AR 3 ?_;rw[KA];refine Ak (decide_eq_true (by omega)) ?_;refine AB (s:=sc) (E:=Rec.int .i64) (rows:=[(n0:Int),(n1:Int)]) hs λb_ o_ ha_=>?_;refine AE (s:=sc) (E:=Rec.int .i64) (rows:=[(n0:Int),(n1:Int)]) ha_ hs ?_ (hi:=by show(0:Nat)<2;decide) (x:=(n0:Int)) (hc:=rfl)
 rw[show(if (n0:Int)>0 then (n0:Int) else 0)=(n0:Int) by split <;> omega];refine Ac (decide_eq_false (by rw[i64_in _ (by omega)];omega)) ?_
 refine Ah hs λnb w hs=>?_;refine Cf (s:=⟨none,0,0⟩) (a:=(n0:Int)) hs rfl rfl rfl rfl (by decide) (by decide) λs5 w hs5 hs=>?_;rw[show IntKind.wrap .i64 ((0:Int)+(n0:Int))=(n0:Int) by rw[i64_in _ (by omega)];omega,show IntKind.wrap .i64 ((0:Int)+1)=1 by rw[i64_in _ (by omega)];rfl]
 have hs:Ab W w (recs (Rec.int .i64) s5 [(n0:Int)]::L):=by exact Ab.fin hs
 rw[KA];refine Ak (decide_eq_true (by omega)) ?_;refine AB (s:=sc) (E:=Rec.int .i64) (rows:=[(n0:Int),(n1:Int)]) hs λb_ o_ ha_=>?_;refine AE (s:=sc) (E:=Rec.int .i64) (rows:=[(n0:Int),(n1:Int)]) ha_ hs ?_ (hi:=by show(1:Nat)<2;decide) (x:=(n1:Int)) (hc:=rfl)
 rw[show(if (n1:Int)>0 then (n1:Int) else 0)=(n1:Int) by split <;> omega];refine Ac (decide_eq_false (by rw[i64_in _ (by omega)];omega)) ?_
 refine Ah hs λnb w hs=>?_;refine Cf (s:=s5) (a:=(n1:Int)) hs rfl rfl rfl rfl (by decide) (by show(1+1)*8<=140737488355328;decide) λs6 w hs6 hs=>?_
 rw[show IntKind.wrap .i64 ((n0:Int)+(n1:Int))=((n0+n1:Nat):Int) by rw[i64_in _ (by omega)];omega,show IntKind.wrap .i64 ((1:Int)+1)=2 by rw[i64_in _ (by omega)];rfl];have hs:Ab W w (recs (Rec.int .i64) s6 [(n0:Int),(n1:Int)]::L):=by exact Ab.fin hs
 rw[KA];refine Ac (decide_eq_false (by omega)) ?_;refine jw Ady ?_;have hs:=Ab.nilR (Rec.int .i64) hs;exact AR _ (A7r (picks:=picks) hn (n0+n1) 0 n0 n1 [] ⟨none,0,0⟩ s6 w (by omega) rfl (by omega) (by omega) ⟨by simp,by simp,by simp⟩ hs)
abbrev A4p(la lb:List F1)(W:World)(L:List HP):VW:=λv w'=>∃(sl:Sl) (l:List F1),v = .l sl.a sl.n sl.c/\l.length=la.length+lb.length/\(∀x∈l,x∈la\/x∈lb)/\Ab W w' (recs opR sl l::L)
theorem A7m{o7 at8:Sl}{out:List Int}[hO:AtO L W][ha:CO W sa opR la][hb:CO W sb opR lb][hq:IU W L sc slQ [sa,sb]](hn:la.length+lb.length<=1000)(hC:Cnt la.length lb.length out) :
  ∀(f k:Nat)(l:List F1)(l9:Sl)(w:World),k+f=out.length->l.length=k->(∀x∈l,x∈la\/x∈lb)->Ab W w (recs opR l9 l::recs (Rec.int .i64) at8 [(((out.take k).count 0:Nat):Int),(((out.take k).count 1:Nat):Int)]::recs (Rec.int .i64) o7 out::L) ->
   QG By (A4p la lb W L) (f+1) sc o7 at8 l9 (k:Int) w:=by
 have hol:out.length=la.length+lb.length:=by
  have:=Cnt.len (a:=0) (b:=0) hC.1;rw[hC.2.1,hC.2.2] at this;omega
 have hla:=ha.len;have hlb:=hb.len;intro f
 induction f with
 | zero=>
  intro k l l9 w hk hl hm hs;have ho:=Bt (s:=o7) (E:=Rec.int .i64) (rows:=out) hs;rw[QH];refine Ac (decide_eq_false (by omega)) ?_;refine jw Adf ?_;exact⟨l9,l,rfl,by omega,hm,by exact Ab.fin hs⟩
 | succ f ih=>
  intro k l l9 w hk hl hm hs;have ho:=Bt (s:=o7) (E:=Rec.int .i64) (rows:=out) hs;have hcn:=Bt (s:=sc) (E:=slQ) (rows:=[sa,sb]) hs;have hcn:sc.n=2:=hcn;have hkl:k<out.length:=by omega
  rw[QH];refine Ak (decide_eq_true (by omega)) ?_;refine As hs λw hs=>?_;have hat:=Bt (s:=at8) (E:=Rec.int .i64) (rows:=[(((out.take k).count 0:Nat):Int),(((out.take k).count 1:Nat):Int)]) hs;have hat:at8.n=2:=hat;refine AB (s:=o7) (E:=Rec.int .i64) (rows:=out) hs λb_ o_ h1_=>?_;refine Bh (s:=o7) (E:=Rec.int .i64) (rows:=out) h1_ ?_ (hc:=rfl);have hx:out.getD (Int.toNat (k:Int)) default=out[k]:=by rw[Int.toNat_natCast,List.getD_eq_getElem?_getD,List.getElem?_eq_getElem hkl];rfl
  rw[hx];have c0:=Ko (l:=out) (i:=k+1) (x:=0);have c1:=Ko (l:=out) (i:=k+1) (x:=1);rw[hC.2.1] at c0;rw[hC.2.2] at c1;have next:∀(w:World)(p q:Int)(s9:Sl)(y:F1),(y∈la\/y∈lb)->p=(((out.take (k+1)).count 0:Nat):Int)->q=(((out.take (k+1)).count 1:Nat):Int)->Ab W w (recs opR s9 (l++[y])::recs (Rec.int .i64) at8 [p,q]::recs (Rec.int .i64) o7 out::L)->QG By (A4p la lb W L) (f+1) sc o7 at8 s9 (IntKind.wrap .i64 ((k:Int)+1)) w:=by
   intro w p q s9 y hy hp hq hs;subst hp hq;rw[show IntKind.wrap .i64 ((k:Int)+1)=((k+1:Nat):Int) by rw[i64_in _ (by omega)];omega]
   refine ih (k+1) (l++[y]) s9 w (by omega) (by simp[hl]) (λx hx=>?_) hs;rcases List.mem_append.1 hx with h|h
   ·exact hm x h
   ·rw[List.mem_singleton] at h;subst h;exact hy
  have mem:∀{r:List F1}{i:Nat},i<r.length->r.getD i default∈r:=λh=>by rw[List.getD_eq_getElem?_getD,List.getElem?_eq_getElem h];exact List.getElem_mem h
  rcases hC.1 _ (List.getElem_mem hkl) with e|e
  ·have k0:(out.take (k+1)).count 0=(out.take k).count 0+1:=by have:=Q4 hkl;rwa [e] at this
   have k1:(out.take (k+1)).count 1=(out.take k).count 1:=Kp hkl (by rw[e];decide);rw[e];refine AB (s:=sc) (E:=slQ) (rows:=[sa,sb]) hs λb_ o_ h2_=>?_;refine Bh (s:=sc) (E:=slQ) (rows:=[sa,sb]) h2_ ?_ (hi:=by show(0:Nat)<2;decide) (k:=.slc) (x:=sa) (hc:=rfl)
   refine AB (s:=o7) (E:=Rec.int .i64) (rows:=out) hs λb_ o_ h3_=>?_;refine AE (s:=o7) (E:=Rec.int .i64) (rows:=out) h3_ hs (A9 hs ?_) (hc:=rfl);rw[hx,e];refine AB (s:=at8) (E:=Rec.int .i64) (rows:=[(((out.take k).count 0:Nat):Int),(((out.take k).count 1:Nat):Int)]) hs λb_ o_ h4_=>?_;refine AE (s:=at8) (E:=Rec.int .i64) (rows:=[(((out.take k).count 0:Nat):Int),(((out.take k).count 1:Nat):Int)]) h4_ hs (A9 hs ?_) (hi:=by show(0:Nat)<2;decide) (x:=(((out.take k).count 0:Nat):Int)) (hc:=rfl)
   refine AB (s:=sa) (E:=opR) (rows:=la) hs λb_ o_ h5_=>?_;refine AE (s:=sa) (E:=opR) (rows:=la) h5_ hs (BD (s:=sa) (E:=opR) (rows:=la) h5_ hs (BI (s:=sa) (E:=opR) (rows:=la) h5_ hs (BJ (s:=sa) (E:=opR) (rows:=la) h5_ hs ?_ (hc:=rfl)) (hc:=rfl)) (hc:=rfl)) (hc:=rfl);rw[Int.toNat_natCast];refine Ah hs λnb w hs=>?_;refine Cf (s:=l9) (a:=la.getD ((out.take k).count 0) default) hs rfl rfl rfl rfl (by decide) (by omega) λs5 w hs5 hs=>?_;refine AB (s:=o7) (E:=Rec.int .i64) (rows:=out) hs λb_ o_ h3_=>?_;refine AE (s:=o7) (E:=Rec.int .i64) (rows:=out) h3_ hs ?_ (hc:=rfl)
   rw[hx,e];refine AB (s:=at8) (E:=Rec.int .i64) (rows:=[(((out.take k).count 0:Nat):Int),(((out.take k).count 1:Nat):Int)]) hs λb_ o_ h4_=>?_;refine AE (s:=at8) (E:=Rec.int .i64) (rows:=[(((out.take k).count 0:Nat):Int),(((out.take k).count 1:Nat):Int)]) h4_ hs ?_ (hi:=by show(0:Nat)<2;decide) (x:=(((out.take k).count 0:Nat):Int)) (hc:=rfl)
   refine AK (s:=at8) hs λb2 o2 hs=>?_;refine Ct (a':=(((out.take k).count 0+1:Nat):Int)) hs (hi:=by show(0:Nat)<2;decide) (hS:=⟨by show[Value.int .i64 _]=[Value.int .i64 _];rw[i64_in _ (by omega)];congr 2,Nat.one_pos⟩) λw hs=>?_
   have hs:=hs.shut at8;exact next w _ _ s5 _ (.inl (mem (by omega))) (by rw[k0]) (by rw[k1]) (show Ab W w (recs opR s5 (l++[la.getD ((out.take k).count 0) default])::recs (Rec.int .i64) at8 [(((out.take k).count 0+1:Nat):Int),(((out.take k).count 1:Nat):Int)]::recs (Rec.int .i64) o7 out::L) by exact Ab.fin hs)
  ·have k0:(out.take (k+1)).count 0=(out.take k).count 0:=Kp hkl (by rw[e];decide);have k1:(out.take (k+1)).count 1=(out.take k).count 1+1:=by have:=Q4 hkl;rwa [e] at this
   rw[e];refine AB (s:=sc) (E:=slQ) (rows:=[sa,sb]) hs λb_ o_ h2_=>?_;refine Bh (s:=sc) (E:=slQ) (rows:=[sa,sb]) h2_ ?_ (hi:=by show(1:Nat)<2;decide) (k:=.slc) (x:=sb) (hc:=rfl)
   refine AB (s:=o7) (E:=Rec.int .i64) (rows:=out) hs λb_ o_ h3_=>?_;refine AE (s:=o7) (E:=Rec.int .i64) (rows:=out) h3_ hs (A9 hs ?_) (hc:=rfl);rw[hx,e];refine AB (s:=at8) (E:=Rec.int .i64) (rows:=[(((out.take k).count 0:Nat):Int),(((out.take k).count 1:Nat):Int)]) hs λb_ o_ h4_=>?_;refine AE (s:=at8) (E:=Rec.int .i64) (rows:=[(((out.take k).count 0:Nat):Int),(((out.take k).count 1:Nat):Int)]) h4_ hs (A9 hs ?_) (hi:=by show(1:Nat)<2;decide) (x:=(((out.take k).count 1:Nat):Int)) (hc:=rfl)
   refine AB (s:=sb) (E:=opR) (rows:=lb) hs λb_ o_ h5_=>?_;refine AE (s:=sb) (E:=opR) (rows:=lb) h5_ hs (BD (s:=sb) (E:=opR) (rows:=lb) h5_ hs (BI (s:=sb) (E:=opR) (rows:=lb) h5_ hs (BJ (s:=sb) (E:=opR) (rows:=lb) h5_ hs ?_ (hc:=rfl)) (hc:=rfl)) (hc:=rfl)) (hc:=rfl);rw[Int.toNat_natCast];refine Ah hs λnb w hs=>?_;refine Cf (s:=l9) (a:=lb.getD ((out.take k).count 1) default) hs rfl rfl rfl rfl (by decide) (by omega) λs5 w hs5 hs=>?_;refine AB (s:=o7) (E:=Rec.int .i64) (rows:=out) hs λb_ o_ h3_=>?_;refine AE (s:=o7) (E:=Rec.int .i64) (rows:=out) h3_ hs ?_ (hc:=rfl)
   rw[hx,e];refine AB (s:=at8) (E:=Rec.int .i64) (rows:=[(((out.take k).count 0:Nat):Int),(((out.take k).count 1:Nat):Int)]) hs λb_ o_ h4_=>?_;refine AE (s:=at8) (E:=Rec.int .i64) (rows:=[(((out.take k).count 0:Nat):Int),(((out.take k).count 1:Nat):Int)]) h4_ hs ?_ (hi:=by show(1:Nat)<2;decide) (x:=(((out.take k).count 1:Nat):Int)) (hc:=rfl)
   refine AK (s:=at8) hs λb2 o2 hs=>?_;refine Ct (a':=(((out.take k).count 1+1:Nat):Int)) hs (hi:=by show(1:Nat)<2;decide) (hS:=⟨by show[Value.int .i64 _]=[Value.int .i64 _];rw[i64_in _ (by omega)];congr 2,Nat.one_pos⟩) λw hs=>?_
   have hs:=hs.shut at8;exact next w _ _ s5 _ (.inr (mem (by omega))) (by rw[k0]) (by rw[k1]) (show Ab W w (recs opR s5 (l++[lb.getD ((out.take k).count 1) default])::recs (Rec.int .i64) at8 [(((out.take k).count 0:Nat):Int),(((out.take k).count 1+1:Nat):Int)]::recs (Rec.int .i64) o7 out::L) by exact Ab.fin hs)
theorem Alk[hO:AtO L W][ha:CO W sa opR la][hb:CO W sb opR lb][hq:IU W L sc slQ [sa,sb]][hp:IU W L sp (Rec.int .i64) picks](hn:la.length+lb.length<=1000)(hs:Ab W w L):BB PR 16 #[.l sc.a sc.n sc.c,.l sp.a sp.n sp.c] w (A4p la lb W L):=by
 refine cw ⟨mixed,Tryz.func16,rfl⟩ Axb ?_;have hcn:=Bt (s:=sc) (E:=slQ) (rows:=[sa,sb]) hs;have hcn:sc.n=2:=hcn;have hla:=ha.len;have hlb:=hb.len;have hs:=Ab.nilR (Rec.int .i64) hs;refine AR 3 ?_;rw[K7];refine Ak (decide_eq_true (by omega)) ?_;refine AB (s:=sc) (E:=slQ) (rows:=[sa,sb]) hs λb_ o_ h2_=>?_;refine AE (s:=sc) (E:=slQ) (rows:=[sa,sb]) h2_ hs ?_ (hi:=by show(0:Nat)<2;decide) (k:=.slc) (x:=sa) (hc:=rfl)
 refine Ah hs λnb w hs=>?_;refine Cf (s:=⟨none,0,0⟩) (a:=((sa.n:Nat):Int)) hs rfl rfl rfl rfl (by decide) (by decide) λs5 w hs5 hs=>?_;have hs:Ab W w (recs (Rec.int .i64) s5 [((sa.n:Nat):Int)]::L):=by exact Ab.fin hs
 rw[show IntKind.wrap .i64 ((0:Int)+1)=1 by rw[i64_in _ (by omega)];rfl];rw[K7];refine Ak (decide_eq_true (by omega)) ?_;refine AB (s:=sc) (E:=slQ) (rows:=[sa,sb]) hs λb_ o_ h2_=>?_;refine AE (s:=sc) (E:=slQ) (rows:=[sa,sb]) h2_ hs ?_ (hi:=by show(1:Nat)<2;decide) (k:=.slc) (x:=sb) (hc:=rfl)
 refine Ah hs λnb w hs=>?_;refine Cf (s:=s5) (a:=((sb.n:Nat):Int)) hs rfl rfl rfl rfl (by decide) (by show(1+1)*8<=140737488355328;decide) λs6 w hs6 hs=>?_
 have hs:Ab W w (recs (Rec.int .i64) s6 [((sa.n:Nat):Int),((sb.n:Nat):Int)]::L):=by exact Ab.fin hs
 rw[show IntKind.wrap .i64 ((1:Int)+1)=2 by rw[i64_in _ (by omega)];rfl];rw[K7];refine Ac (decide_eq_false (by omega)) ?_;refine jw Ade ?_;refine Ai (All (n0:=sa.n) (n1:=sb.n) (picks:=picks) (by omega) hs) λv w ⟨so,out,hv,hC,hs⟩=>⟨so,hv,?_⟩;rw[hcn];refine E2 (sz:=1) hs rfl (by decide) (by decide) (by decide) (by decide) λs7 w hn7 _ _ hs=>?_;have hs:Ab W w (recs (Rec.int .i64) s7 [0,0]::recs (Rec.int .i64) so out::recs (Rec.int .i64) s6 [((sa.n:Nat):Int),((sb.n:Nat):Int)]::L):=hs;have hs:Ab W w (recs (Rec.int .i64) s7 [0,0]::recs (Rec.int .i64) so out::L):=by exact Ab.fin hs
 have hs:=Ab.nilR opR hs;rw[hla,hlb] at hC;exact AR _ (A7m (sa:=sa) (sb:=sb) (la:=la) (lb:=lb) hn hC out.length 0 [] ⟨none,0,0⟩ w (by omega) rfl (by simp) hs)
end
end Go.Proofs.YtjipofkjmmpjdaaGreat
namespace Go.Proofs.YtjipofkjmmpjdaaGreat
open Go.Hb Go.IntWalk
section
variable{W w:World}{L M:List HP}{sa sb sp tp r9 sl:Sl}{la lb ops:List F1}{picks tape:List Int}{rs:List OT}{c0 c1 c2 c3 c4 c5 c6:Int}
theorem Ace(hk:∀o∈ops,o.key.size<=40/\OpOk o)(hl0:ops.length<=150)(hl1:rs.length<=150)(hroom:okK .i64 c1)(hok:∀a∈rs,(∀g∈a.gone,g.size<=40)/\a.gone.length<=9000)(hs:Ab W w (recs Ip r9 rs::AO (rs.map gsl)::recs opR sl ops::L)) :
  BB PR 17 #[.i c0,.i c1,.l sl.a sl.n sl.c,.l r9.a r9.n r9.c] w λv w'=>v = .i (FJ c0 0 ⟨[],0,c1⟩ ops rs)/\Ab W w' (recs Ip r9 rs::AO (rs.map gsl)::recs opR sl ops::L):=by
 have hR0:CO w sl opR ops:=(inferInstance:IU W (recs Ip r9 rs::AO (rs.map gsl)::recs opR sl ops::L) sl opR ops).rd w hs;have hR1:CO w r9 Ip rs:=(inferInstance:IU W (recs Ip r9 rs::AO (rs.map gsl)::recs opR sl ops::L) r9 Ip rs).rd w hs;have mem:∀{α:Type}[Inhabited α]{l:List α}{i:Nat},i<l.length->l.getD i default∈l:=λh=>by rw[List.getD_eq_getElem?_getD,List.getElem?_eq_getElem h];exact List.getElem_mem h
 have hin:A8r w ops rs:=by
  refine⟨λi hi _=>(hk _ (mem hi)).1,λi hi=>(hk _ (mem hi)).2.n,λi hi _=>(hok _ (mem hi)).2,λi hi _=>(hok _ (mem hi)).1,λi hi=>?_⟩;have hs2:Ab W w (AO (rs.map gsl)::recs Ip r9 rs::recs opR sl ops::L):=hs.perm (List.Perm.swap _ _ _);have hs3:=Qm hi hs2;have e:rs.getD i default=rs[i]:=by rw[List.getD_eq_getElem?_getD,List.getElem?_eq_getElem hi];rfl
  rw[e];have hr:CO w (rs[i]).sl Rec.str (rs[i]).gone:=(inferInstance:IU W (recs Rec.str (rs[i]).sl (rs[i]).gone::AO ((rs.eraseIdx i).map gsl)::recs Ip r9 rs::recs opR sl ops::L) (rs[i]).sl Rec.str (rs[i]).gone).rd w hs3;exact⟨hr.len,.inr hr⟩
 have hb:=Ab.begin w;refine Calls.mono (Ata (s0:=sl) (s1:=r9) (sh:=c0) hb hin hl0 hl1 hroom) λe w' ⟨he,h2⟩=>⟨_,he,rfl,hs.again h2⟩
theorem topclients_walk[hra:CO W sa opR la][hrb:CO W sb opR lb][hrp:CO W sp (Rec.int .i64) picks][hrt:CO W tp (Rec.int .u32) tape](hoa:∀o∈la,OpOk o)(hob:∀o∈lb,OpOk o)(hna:la.length<=3000000000000)(hnb:lb.length<=3000000000000)(hroom:okK .i64 c1) :
  Calls PR 4 #[.agg #[.i c0,.i c1,.i c2,.i c3,.i c4,.i c5,.i c6,.l tp.a tp.n tp.c],.l sa.a sa.n sa.c,.l sb.a sb.n sb.c,.l sp.a sp.n sp.c] W λe w'=>e = .returned (.b true)/\Ja W w':=by
 have hs:=Ab.begin W;refine A7d (cw ⟨mixed,Tryz.func4,rfl⟩ A51 ?_);have et:=hrt.len;have ea:=hra.len;have eb:=hrb.len;refine Ah hs λb1 w hs=>?_;refine Ai (Ab6 (s0:=sa) hs) λv w ⟨t,hv,hsa,hs⟩=>⟨_,hv,?_⟩;refine Al (λh3=>⟨rfl,hs.drop⟩) (λh3=>?_);refine Ai (Ab6 (s0:=sb) hs) λv w ⟨t,hv,hsb,hs⟩=>⟨_,hv,?_⟩;refine Al (λh3=>⟨rfl,hs.drop⟩) (λh4=>?_)
 iterate 7 refine Ag hs ?_
 refine Ag (x:=tp) hs ?_;refine Ai (Avc hs) λv w ⟨t,hv,ht,hs⟩=>⟨_,hv,?_⟩;refine Al (λh5=>⟨rfl,hs.drop⟩) (λh5=>?_);rw[i64_in _ (by omega)]
 with_reducible refine A2 (λh6=>?_) (λh6=>?_)
 ·exact⟨rfl,hs.drop⟩
 with_reducible refine A2 (λh7=>?_) (λh7=>?_)
 ·exact⟨rfl,hs.drop⟩
 refine jw Akk ?_
 iterate 7 refine Ag hs ?_
 refine Ag (x:=tp) hs ?_;have htp:=(ht (by simpa using h5)).1;have hsa:=hsa h3;have hsb:=hsb h4;refine AP (Ava (tape:=tape) (by omega) hs) λv w h=>?_;rcases h with⟨b,sh,hsh,hv,hs⟩|⟨hv,hs⟩
 rotate_left
 ·exact⟨_,_,hv,Ak rfl (kn hs λw hs=>hs.drop)⟩
 refine⟨_,_,hv,Ac rfl ?_⟩;have hci:=(Q2 hs).1;have hc1:=hci.sh1;have hc8:=hci.sh8
 rw[List.length_replicate] at hc1 hc8;refine Ah hs λb2 w hs=>?_;have hs:=Ab.blkS (b:=b2) (cs:=[.l sa.a sa.n sa.c,.l sb.a sb.n sb.c]) (n:=2) slQ [sa,sb] hs rfl rfl;refine Ai (Alk (la:=la) (lb:=lb) (picks:=picks) (sa:=sa) (sb:=sb) (sc:=⟨some ⟨b2,0,none⟩,2,2⟩) (by omega) hs) λv w ⟨sl,l,hv,hll,hlm,hs⟩=>⟨sl,hv,?_⟩;have hsl:=Bt (s:=sl) (E:=opR) (rows:=l) hs;have hlk:∀o∈l,o.key.size<=40/\OpOk o:=λo ho=>by
  rcases hlm o ho with h|h
  ·obtain⟨i,hi,rfl⟩:=List.mem_iff_getElem.1 h;have h1:=hsa i hi (by omega);rw[List.getD_eq_getElem?_getD,List.getElem?_eq_getElem hi] at h1;exact⟨h1,hoa _ h⟩
  ·obtain⟨i,hi,rfl⟩:=List.mem_iff_getElem.1 h;have h1:=hsb i hi (by omega);rw[List.getD_eq_getElem?_getD,List.getElem?_eq_getElem hi] at h1;exact⟨h1,hob _ h⟩
 have hs:Ab W w (Kj b 0 c1 0 (List.replicate sh ([],c6,none))::recs opR sl l::cfB b1 c0 c1 c2 c3 c4 c5 c6 tp::[old W]):=by exact Ab.fin hs
 refine Ai (A87 (sl:=sl) (ops:=l) (λo ho=>by have:=(hlk o ho).1;omega) (by omega) hs) λv w ⟨r9,rs,rm1,now1,X1,hv,hR,hs⟩=>⟨r9,hv,?_⟩;have hr9:=Bt (s:=r9) (E:=Ip) (rows:=rs) hs;have hrl:=hR.len;refine Ak (by rw[hr9,hsl,hrl];simp) ?_
 refine Ag hs (Ag hs ?_);have hJ:JR sh (Kl (List.replicate sh (([]:TT),c6,(none:Option Nat)))) ⟨[],0,c1⟩:=by
  have e:Kl (List.replicate sh (([]:TT),c6,(none:Option Nat)))=List.replicate sh []:=by unfold Kl;rw[List.map_replicate]
  rw[e];exact JR.new hc1 hc8 hci.rm1 hci.rm2
 obtain⟨hall,_,_,_,_,hgo⟩:=hR.says hJ (List.length_replicate ..) rfl rfl;have hs:Ab W w (recs Ip r9 rs::AO (rs.map gsl)::recs opR sl l::cfB b1 c0 c1 c2 c3 c4 c5 c6 tp::[old W]):=by exact Ab.fin hs
 refine Ai (Ace hlk (by omega) (by omega) hroom hgo hs) λv w ⟨hv,hs⟩=>⟨_,hv,?_⟩;rw[hsh,Rz 0 hall];refine Ak rfl ?_;exact kn hs λw hs=>by exact Ab.fin hs
end
end Go.Proofs.YtjipofkjmmpjdaaGreat
namespace Go.Hb
open Go.ChangeShapes Go.WideShapes Go.RowKit
section
variable{H:Type}{enc:TypeId×Value->H}{P:Program}{W:World}{sp:Nat->Bool}{held:Bool}{base:Nat}
theorem trod_int{t e:TypeId}{k:IntKind}{cs:List Value}{x:DataW H×List MemPlace}{fuel:Nat}{v:Value}{r:Reach}{b0:Nat}(hcs:cs=[v])(hok:Cell.okWide P W r b0 t v)(ht:P.underlying t=some (.slice e))(he:P.underlying e=some (.int k))(h1:P.cellsOf e=1)(hx:DataW.trod enc P W base sp held fuel t cs=some x)(hlt:IT P t x.1) :
  ∃(s:Sl) (l:List Int),v = .slice s.a s.n s.c/\CO W s (Rec.int k) l:=by
 rcases DataW.trod_slice ht hx with⟨h,_⟩|⟨a',len',cap',elems,rest,n,rfl,h,hd',_,hlc,hcm,hel,hcell,_,_⟩
 ·rw[hcs] at h;simp only[List.cons.injEq,and_true] at h;exact⟨⟨none,0,0⟩,[],h,⟨rfl,.inl ⟨rfl,rfl⟩⟩⟩
 ·subst hd';rw[hcs] at h;simp only[List.cons.injEq,and_true] at h;subst h;have hspot:a'.spot=none:=by
   simp only[ht,Cell.okWide,Cell.ok] at hok;exact hok.2.2.2.1
  have hle:∀y∈elems,IT P e y.1:=λy hy=>MG (P:=P) (e:=e) (ds:=elems.map (·.1)) (λn hn=>hlt n (by simp only[DataW.weights,ht,List.mem_cons,List.mem_append];exact .inr (.inl hn))) (List.mem_map.2 ⟨y,hy,rfl⟩);obtain⟨rows,hr1,hr2,hr3⟩:=Au2 (W:=W) (base:=base) (Q:=E9 [.int k]) (a:=a') (m:=1) (len:=len') (cap:=cap') Nat.one_pos λi hi=>by
   have h2:=hcell i hi;rw[List.getElem?_eq_getElem (by omega)] at h2;simp only[Option.bind_eq_some_iff] at h2;obtain⟨c,hc,hx⟩:=h2;rw[h1] at hc;exact⟨c,hc,Aal 9 e _ c (by unfold UD;rw[he]) ⟨_,_,hx,hle _ (List.getElem_mem _)⟩⟩
  obtain⟨l,h3,h4,h5⟩:=Sj (Rec.int k) (okK k) of_ik hr2;refine⟨⟨some a',len',cap'⟩,l,rfl,?_⟩;rcases hr3 with h6|h6
  ·have:l=[]:=List.length_eq_zero_iff.1 (by omega);subst this;obtain⟨b,o,spot⟩:=a';simp only at hspot;subst hspot;exact⟨h6,.inr ⟨b,o,rfl,λi j a ha=>by simp at ha⟩⟩
  ·exact CO.of Nat.one_pos (by rw[<- h3];exact h6)
theorem open_cfg{t t0 t7 e7:TypeId}{v:Value}{d:DataW H}{ps:List MemPlace}{r:Reach}{b0:Nat}(ht:A38 P t=true)(hfs:stF P t=[(t0,0),(t0,1),(t0,2),(t0,3),(t0,4),(t0,5),(t0,6),(t7,7)])
  (h0:P.underlying t0=some (.int .i64)) (h7:P.underlying t7=some (.slice e7)) (he:P.underlying e7=some (.int .u32)) (hce:P.cellsOf e7=1) (hc0:P.cellsOf t0=1) (hc7:P.cellsOf t7=1) (hct:P.cellsOf t=8) (hcell:P.cellTypes P.depth t=some [t0,t0,t0,t0,t0,t0,t0,t7])
  (hval:Value.okWide P W r b0 t v) (hd:DataW.Trod enc P W base sp held t v d ps) (hlt:IT P t d) :
  ∃(c0 c1 c2 c3 c4 c5 c6:Int) (s:Sl) (l:List Int),v = .agg #[.int .i64 c0,.int .i64 c1,.int .i64 c2,.int .i64 c3,.int .i64 c4,.int .i64 c5,.int .i64 c6,.slice s.a s.n s.c]/\okK .i64 c1/\CO W s (Rec.int .u32) l:=by
 obtain⟨fs,hu⟩:∃fs,P.underlying t=some (.struct fs):=by
  unfold A38 at ht;split at ht
  ·exact⟨_,by assumption⟩
  ·cases ht
 simp only[Value.okWide,hu] at hval;obtain⟨cs,rfl,hsz,ts,hts,_,hcs⟩:=hval;rw[hcell] at hts;cases hts;obtain⟨fuel,hf⟩:=hd;obtain⟨hl,hp⟩:=A3m hu hf hlt;rw[hct] at hl hsz;rw[hfs] at hp;obtain⟨l,rfl⟩:∃l:List Value,cs=l.toArray:=⟨cs.toList,by simp⟩;have hl:l.length=8:=by simpa using hsz
 match l,hl with
 | [v0,v1,v2,v3,v4,v5,v6,v7],_=>
  obtain⟨f0,x0,e0,g0⟩:=hp (t0,0) (by simp);obtain⟨f1,x1,e1,g1⟩:=hp (t0,1) (by simp);obtain⟨f2,x2,e2,g2⟩:=hp (t0,2) (by simp);obtain⟨f3,x3,e3,g3⟩:=hp (t0,3) (by simp);obtain⟨f4,x4,e4,g4⟩:=hp (t0,4) (by simp);obtain⟨f5,x5,e5,g5⟩:=hp (t0,5) (by simp);obtain⟨f6,x6,e6,g6⟩:=hp (t0,6) (by simp);obtain⟨f7,x7,e7',g7⟩:=hp (t7,7) (by simp);simp only[Value.cells,hc0,hc7,List.drop_zero,List.drop_succ_cons,List.take_succ_cons,List.take_zero] at e0 e1 e2 e3 e4 e5 e6 e7';obtain⟨n0,k0,_,w0⟩:=DataW.trod_int h0 e0;obtain⟨n1,k1,_,w1⟩:=DataW.trod_int h0 e1;obtain⟨n2,k2,_,w2⟩:=DataW.trod_int h0 e2;obtain⟨n3,k3,_,w3⟩:=DataW.trod_int h0 e3
  obtain⟨n4,k4,_,w4⟩:=DataW.trod_int h0 e4;obtain⟨n5,k5,_,w5⟩:=DataW.trod_int h0 e5;obtain⟨n6,k6,_,w6⟩:=DataW.trod_int h0 e6;obtain⟨u,hu7,hok⟩:=hcs 7 v7 (by simp);have hu7:t7=u:=by simpa using hu7
  subst hu7;obtain⟨s,l,hv,hr⟩:=trod_int rfl hok h7 he hce e7' g7;simp only[List.cons.injEq,and_true] at k0 k1 k2 k3 k4 k5 k6;subst k0 k1 k2 k3 k4 k5 k6 hv;exact⟨n0,n1,n2,n3,n4,n5,n6,s,l,rfl,w1,hr⟩
end
end Go.Hb
namespace Go.Proofs.YtjipofkjmmpjdaaGreat
open Go.ChangeShapes Go.WideShapes Go.RowKit Go.ChangeMaps Go.Hb
set_option maxRecDepth 100000 in
theorem topClients_lifted(os:Os)(started:os.Started)(H:Type)(enc:TypeId×Value->H) :
  ReturnsInHanded {} Tryz.checked os 4 .any (Rows.topClientsSpec.pre6 enc PR Tryz.f4 Rows.topClientsRow.domain false) (Rows.topClientsSpec.post enc PR Tryz.f4 false true false false):=by
 refine law_lifted (C:=Tryz.checked) (by kernel_rfl) started (by kernel_rfl) Tryz.func4
  (ChangeSpec.witness6 (enc:=enc) (C:=Tryz.checked) (s:=Rows.topClientsSpec) false ⟨#[],#[.agg #[.i 0,.i 0,.i 0,.i 0,.i 0,.i 0,.i 0,.l none 0 0],.l none 0 0,.l none 0 0,.l none 0 0],[]⟩ 8 (by kernel_rfl) (by kernel_rfl) (by kernel_rfl) (by kernel_rfl)) rfl rfl (by kernel_rfl) (by kernel_rfl) ?_
 intro W base args ds p hval hA hwt;obtain⟨v0,vs0,d0,ds0,p0,q0,hargs,rfl,rfl,h0,r0⟩:=trodAll_cons (ts:=[_,_,_]) hA;obtain⟨v1,vs1,d1,ds1,p1,q1,rfl,rfl,rfl,h1,r1⟩:=trodAll_cons r0;obtain⟨v2,vs2,d2,ds2,p2,q2,rfl,rfl,rfl,h2,r2⟩:=trodAll_cons r1;obtain⟨v3,vs3,d3,ds3,p3,q3,rfl,rfl,rfl,h3,r3⟩:=trodAll_cons r2;obtain⟨rfl,rfl,rfl⟩:=trodAll_nil r3;obtain rfl:args=#[v0,v1,v2,v3]:=by cases args;simp_all
 obtain⟨c0_0,c0_1,c0_2,c0_3,c0_4,c0_5,c0_6,s0,l0,rfl,w0,hr0⟩:=open_cfg (t0:=3) (t7:=22) (e7:=145) (by kernel_rfl) (by kernel_rfl) (by kernel_rfl) (by kernel_rfl) (by kernel_rfl) (by kernel_rfl) (by kernel_rfl) (by kernel_rfl) (by kernel_rfl) (by kernel_rfl) (hval 0 _ v0 rfl rfl) h0 (light_each hwt (j:=0) rfl rfl);obtain⟨s1,rows1,rfl,hn1,hm1,hr1,ho1⟩:=open_slc (e:=41) (ks:=[.int .i64,.str,.str,.int .i64]) (by kernel_rfl) (by kernel_rfl) (by kernel_rfl) (by decide) (hval 1 _ v1 rfl rfl) h1 (light_each hwt (j:=1) rfl rfl);obtain⟨l1,hr1,hl1,hw1⟩:=arg_rec opR OpOk of_op (by decide) (by decide) hr1 ho1
 have hc1:l1.length*48<=reachBytes:=by rw[hl1,<- hn1];have e:Tryz.checked.prog.bytesOf 41=48:=(by kernel_rfl);rw[e] at hm1;exact hm1
 obtain⟨s2,rows2,rfl,hn2,hm2,hr2,ho2⟩:=open_slc (e:=41) (ks:=[.int .i64,.str,.str,.int .i64]) (by kernel_rfl) (by kernel_rfl) (by kernel_rfl) (by decide) (hval 2 _ v2 rfl rfl) h2 (light_each hwt (j:=2) rfl rfl);obtain⟨l2,hr2,hl2,hw2⟩:=arg_rec opR OpOk of_op (by decide) (by decide) hr2 ho2;have hc2:l2.length*48<=reachBytes:=by rw[hl2,<- hn2];have e:Tryz.checked.prog.bytesOf 41=48:=(by kernel_rfl);rw[e] at hm2;exact hm2
 obtain⟨s3,rows3,rfl,hn3,hm3,hr3,ho3⟩:=open_slc (e:=3) (ks:=[.int .i64]) (by kernel_rfl) (by kernel_rfl) (by kernel_rfl) (by decide) (hval 3 _ v3 rfl rfl) h3 (light_each hwt (j:=3) rfl rfl);obtain⟨l3,hr3,hl3,hw3⟩:=arg_rec (Rec.int .i64) (okK .i64) of_ik (by decide) (by decide) hr3 ho3;have hc3:l3.length*8<=reachBytes:=by rw[hl3,<- hn3];have e:Tryz.checked.prog.bytesOf 3=8:=(by kernel_rfl);rw[e] at hm3;exact hm3
 exact⟨⟨rfl,rfl,rfl⟩,topclients_walk (la:=l1) (lb:=l2) (picks:=l3) (tape:=l0) hw1 hw2 (by have:=hc1;unfold reachBytes at this;omega) (by have:=hc2;unfold reachBytes at this;omega) w0⟩
theorem topClients_inPlace:Program.inPlace PR 4=Rows.topClientsRow.inPlace:=by kernel_rfl
theorem topClients_unf:Program.unfollowed PR 4=true:=by kernel_rfl
theorem topClients_rec:Program.recurses PR 4=true:=by unfold Program.recurses;rw[topClients_unf];rfl
theorem topClients_named:Program.varsNamed PR 4=Rows.topClientsRow.named:=by kernel_rfl
theorem topClients_facts:joinedFacts PR 4 Tryz.f4 Rows.topClientsSpec Rows.topClientsRow=true:=by
 unfold joinedFacts;rw[topClients_inPlace,topClients_unf,topClients_rec,topClients_named];kernel_rfl
theorem topClients:Rows.TopClientsSaid:=
 OpenClaim.holds_of_wide 4 Tryz.f4 rfl rfl rfl rfl rfl rfl rfl ⟨rfl,rfl,rfl,rfl,rfl⟩ rfl rfl rfl rfl rfl (by kernel_rfl) Tryz.func4 topClients_facts
  (of_decide_eq_true (by kernel_rfl)) (by unfold Func.isWrapper;first|(rw[if_pos (by decide +kernel)];kernel_rfl)|(rw[if_neg (by decide +kernel)];exact⟨rfl,rfl⟩))
  (λos started H enc _=>topClients_lifted os started H enc)
end Go.Proofs.YtjipofkjmmpjdaaGreat
