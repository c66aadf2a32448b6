import Derived.IntWalk
import Derived.Lib.Mul64
import Derived.Laws.Bits64b
import Derived.Test.YtjipofkjmmpjdaaGreatQDeletes3
set_option linter.unusedVariables false
set_option linter.unusedSimpArgs false
set_option linter.unnecessarySimpa false
set_option linter.unusedSectionVars false
set_option maxRecDepth 100000
namespace Go.Hb
theorem Va{x:Bb}(h:LW x)(k:BA):II x.s k=1↔lK x.s x.q k=1:=by rw[Ln h,Dh h.sn (by decide)]
theorem Aft{x:Bb}(h:LW x)(k:BA):II x.s k=3↔lK x.s x.q k=3:=by rw[Kz h,Dh h.sn (by decide)]
theorem Adc{x:Bb}(h:LW x){k:BA}(hq:k∈x.q):II x.s k=2↔k∈AS x.s:=by
 rw[Dh h.sn (by decide)];constructor
 ·intro hm;exact List.mem_map.2 ⟨_,hm,rfl⟩
 ·intro hm;obtain⟨e,he,rfl⟩:=List.mem_map.1 hm;rcases h.kinds e he with h1|h1|h1
  ·exact absurd hq (h.hotq e he h1)
  ·rw[<- h1];exact he
  ·exact absurd hq (h.ghq e he h1)
theorem Ada(S:SL)(i:Int):A9 S i<=S.length:=List.countP_le_length
end Go.Hb
namespace Go.Proofs.YtjipofkjmmpjdaaGreat
open Go.Hb Go.IntWalk
section
variable{W w:World}{L M:List HP}{F:HP->List HP}{b nb tb:Nat}{c:Int}{N N':Nat}{x y:Bb}{sb qb xb:Nat}{row sr sr' qr qr':Dy}{free sf sf' qf qf':List Nat}{m:LM}{key:BA}{h g i:Int}
theorem Av5(h:Ab W w (lirR b c N x::M)):w.cell? ⟨b,0,none⟩=some (.i c):=by
 obtain⟨sb,qb,xb,sr,sf,qr,qf,m,hi,h⟩:=BS h;exact h.cell (q:=0) rfl
theorem Af5(hs:Ab W w L)[hA:At L b (lirR b c N x) F]:Calls PR 279 #[pq b 0] w λe w'=>e = .returned (.i c)/\Ab W w' (F (lirR b c N x)):=by
 refine At.call1 (hA:=hA) hs λM hs=>?_;clear hA;refine c1 (cw ⟨mixed,Tryz.func279,rfl⟩ Akt ?_);obtain⟨sb,qb,xb,sr,sf,qr,qf,m,hi,hs⟩:=BS hs;refine Ac rfl ?_
 repeat (first|with_reducible refine Aa ?_|((with_reducible refine A3 ?_);first|refine Ag hs ?_|fail)|fail)
 exact⟨rfl,Ch hi rfl rfl (by exact Ab.fin hs)⟩
theorem M7(hi:LX N x sr sf qr qf m)(hN:N<400000000)(hs:Ab W w (eB b c sb qb xb ((A9 x.s 1:Int)) ((A9 x.s 3:Int))::lst .s sb sr sf::lst .s qb qr qf::ixr Am.iii xb 0 m::M)) :
  Calls PR 276 #[pq b 0] w λe w'=>e = .returned (.i (C0 x:Int))/\Ab W w' (eB b c sb qb xb ((A9 x.s 1:Int)) ((A9 x.s 3:Int))::lst .s sb sr sf::lst .s qb qr qf::ixr Am.iii xb 0 m::M):=by
 refine c1 (cw ⟨mixed,Tryz.func276,rfl⟩ Akq ?_);have h1:=Ada x.s 1;have hns:=hi.ns;have hnq:=hi.nq;have hq:qr.length=x.q.length:=by have:=congrArg List.length hi.qk;simpa using this
 have hq2:sr.length=x.s.length:=by have:=congrArg List.length hi.sk;simpa[AS] using this
 refine Ac rfl ?_;refine Ak [eB b c sb qb xb ((A9 x.s 1:Int)) ((A9 x.s 3:Int))] hs λw hs=>?_
 repeat (first|with_reducible refine Aa ?_|((with_reducible refine BY ?_);first|refine Ar ?_|fail)|fail)
 refine An (EX hs) λe w ⟨he,hs⟩=>⟨_,he,?_⟩
 repeat (first|((with_reducible refine Bd ?_);first|refine Af hs ?_|fail)|fail)
 rw[i64_in _ (by omega),hq];exact⟨rfl,by exact Ab.fin hs⟩
theorem Qa(hs:Ab W w L)[hA:At L b (lirR b c N x) F](hN:N<400000000):Calls PR 276 #[pq b 0] w λe w'=>e = .returned (.i (C0 x:Int))/\Ab W w' (F (lirR b c N x)):=by
 refine At.call1 (hA:=hA) hs λM hs=>?_;obtain⟨sb,qb,xb,sr,sf,qr,qf,m,hi,hs⟩:=BS hs;exact(M7 hi hN hs).mono λe w ⟨he,hs⟩=>⟨he,Ch hi rfl rfl hs⟩
theorem PZ(hs:Ab W w L)[hA:At L b (lirR b c N x) F](hz:key.size<64):Calls PR 274 #[pq b 0,.s key] w λe w'=>e = .returned (.b (decide (key∈BH x)))/\Ab W w' (F (lirR b c N x)):=by
 refine At.call1 (hA:=hA) hs λM hs=>?_;clear hA;refine c1 (cw ⟨mixed,Tryz.func274,rfl⟩ Ako ?_);obtain⟨sb,qb,xb,sr,sf,qr,qf,m,hi,hs⟩:=BS hs;refine Ac rfl ?_
 repeat (first|with_reducible refine Aa ?_|((with_reducible refine A3 ?_);first|refine Ag hs ?_|fail)|fail)
 refine(CL hs (by omega)).mono λe w ⟨he,hs⟩=>⟨_,_,_,_,he,?_⟩;have hG:(AC m key).getD ((0,0,0):Int×Int×Int)=lG m key:=rfl;rw[hG,hi.ent]
 repeat (first|((with_reducible refine A3 ?_);first|refine Ag hs ?_|fail)|((with_reducible refine Bk ?_);first|refine A4 hs λw hs=>?_|fail)|with_reducible refine Ai hs λb_ w hs=>?_|fail)
 with_reducible refine Az (λh1=>?_) (λh1=>?_)
 ·have:key∈BH x:=Bc.2 (.inr ((Ln hi.w key).1 h1));rw[decide_eq_true this];exact⟨rfl,Ch hi rfl rfl (by exact Ab.fin hs)⟩
 ·repeat (first|((with_reducible refine A3 ?_);first|refine Ag hs ?_|fail)|fail)
  have:(lK x.s x.q key==2)=decide (key∈BH x):=by
   rw[Bool.eq_iff_iff,beq_iff_eq,decide_eq_true_eq,J2 hi.w,Bc];exact⟨.inl,λh=>h.elim id λh=>absurd ((Ln hi.w key).2 h) h1⟩
  rw[this];exact⟨rfl,Ch hi rfl rfl (by exact Ab.fin hs)⟩
theorem Yq(hs:Ab W w L)[hA:At L b (lirR b c N x) F](hz:key.size<64)(hN:N<200000000):Calls PR 278 #[pq b 0,.s key] w λe w'=>e = .returned (.b (K4 x key).1)/\Ab W w' (F (lirR b c N (K4 x key).2)):=by
 refine At.call1 (hA:=hA) hs λM hs=>?_;clear hA;refine c1 (cw ⟨mixed,Tryz.func278,rfl⟩ Aks ?_);refine An (PZ hs hz) λe w ⟨he,hs⟩=>⟨_,he,?_⟩;have hHas:=A14 (PX hs).1 (k:=key)
 by_cases hk:key∈BH x
 ·rw[decide_eq_true hk] at hHas ⊢;have hcond:II x.s key=1\/key∈x.q:=by simpa using hHas
  refine Ac rfl ?_;obtain⟨sb,qb,xb,sr,sf,qr,qf,m,hi,hs⟩:=BS hs;have hns:=hi.ns;have hnq:=hi.nq
  repeat (first|with_reducible refine Aa ?_|((with_reducible refine A3 ?_);first|refine Ag hs ?_|fail)|fail)
  refine(CL hs (by omega)).mono λe w ⟨he,hs⟩=>⟨_,_,_,_,he,?_⟩;have hG:(AC m key).getD ((0,0,0):Int×Int×Int)=lG m key:=rfl;rw[hG,hi.ent];refine Ai hs λnb w hs=>?_
  repeat (first|with_reducible refine Aa ?_|((with_reducible refine A3 ?_);first|refine Ag hs ?_|fail)|((with_reducible refine Bk ?_);first|refine A4 hs λw hs=>?_|fail)|((with_reducible refine BY ?_);first|refine Ar ?_|fail)|((with_reducible refine Bd ?_);first|refine BB hs ?_|fail)|with_reducible refine AF hs λw hs=>?_|fail)
  refine AG (ET (key:=key) hs (by omega) hi.snd.1 rfl) λe w ⟨⟨_,_,he⟩,f',hc,hs⟩=>⟨_,_,he,?_⟩;refine As (FQ (W:=W) (M:=lst .s sb (CU sr key) f'::ixr Am.iii xb 0 m::M) (c:=c) (b:=b) (nb:=nb) (sb:=sb) (qb:=qb) (xb:=xb) (h:=(A9 x.s 1:Int)) (g:=(A9 x.s 3:Int)) (i:=lK x.s x.q key) (s:=AP sr key) (q:=AP qr key) (key:=key) (qr:=qr) (qf:=qf) (by exact Ab.fin hs) (by omega) hi.snd.2 rfl) λe w ⟨he,qf',hc2,hs⟩=>⟨he,?_⟩;have hu:=hi.rem hz hc hc2;have hk0:(0:Int)=lK (Bn x.s key) (Ap x.q key) key:=by rw[J1,if_neg (λh=>(AK.1 h).2 rfl)]
  refine As (Da (W:=W) (M:=M) (c:=c) (b:=b) (n:=(0,0,0)) hi hu hz (GU _ _) hk0 (by omega) (by exact Ab.fin hs)) λe w ⟨he,hs⟩=>⟨he,?_⟩;refine As (BN (by omega) hs) λe w ⟨he,hs⟩=>⟨he,?_⟩;unfold K4;rw[if_pos hcond];exact⟨rfl,hs⟩
 ·rw[decide_eq_false hk] at hHas ⊢;have hcond:¬(II x.s key=1\/key∈x.q):=by simpa using hHas
  refine Al rfl ?_;unfold K4;rw[if_neg hcond];exact⟨rfl,hs⟩
theorem Af4(hs:Ab W w L)[hA:At L b (lirR b c N x) F](hz:key.size<64)(hm:0<=CP c)(hF:QU N x)(hN:N<200000000):Calls PR 277 #[pq b 0,.s key] w λe w'=>e = .returned (.b (Fi c x key).1)/\Ab W w' (F (lirR b c N (Fi c x key).2)):=by
 refine At.call1 (hA:=hA) hs λM hs=>?_;clear hA;refine c1 (cw ⟨mixed,Tryz.func277,rfl⟩ Akr ?_);have hHas:=A14 (PX hs).1 (k:=key);have hlen:(C0 x:Int)<=2*N:=by
  have hw:=PX hs;have h1:=Ada x.s 1;unfold C0;omega
 refine Ak [lirR b c N x] hs λw hs=>?_;refine Ac rfl ?_;refine An (PZ hs hz) λe w ⟨he,hs⟩=>⟨_,he,?_⟩;refine Af hs ?_
 by_cases hk:key∈BH x
 ·rw[decide_eq_true hk] at hHas ⊢;have hcond:II x.s key=1\/key∈x.q:=by simpa using hHas
  refine Al rfl ?_;refine Af hs ?_;have e1:Fi c x key=(false,x):=by unfold Fi;rw[if_pos (hcond.elim .inl λh=>.inr (.inl h))]
  rw[e1];exact⟨rfl,DV hs (by omega)⟩
 ·rw[decide_eq_false hk] at hHas ⊢;have hcond:¬(II x.s key=1\/key∈x.q):=by simpa using hHas
  refine Ac rfl ?_;refine Aa ?_;refine GB (k:=.int .i64) c (λw' h=>Av5 h) ?_;refine An (Qa hs (by omega)) λe w ⟨he,hs⟩=>⟨_,he,?_⟩;refine Af hs ?_
  with_reducible refine Az (λhl=>?_) (λhl=>?_)
  ·have e1:Fi c x key=(false,x):=by unfold Fi;rw[if_pos (.inr (.inr hl))]
   rw[e1];exact⟨rfl,DV hs (by omega)⟩
  ·have e1:Fi c x key=(true,Yi (if (A9 x.s 1:Int)<CP c then DO c x key else Cf x key)):=by unfold Fi;rw[if_neg (λh=>h.elim (λh=>hcond (.inl h)) λh=>h.elim (λh=>hcond (.inr h)) hl)]
   rw[e1];refine jw WN ?_;obtain⟨sb,qb,xb,sr,sf,qr,qf,m,hi,hs⟩:=BS hs
   repeat (first|with_reducible refine Aa ?_|((with_reducible refine A3 ?_);first|refine Ag hs ?_|fail)|fail)
   refine(CL hs (by omega)).mono λe w ⟨he,hs⟩=>⟨_,_,_,_,he,?_⟩;have hG:(AC m key).getD ((0,0,0):Int×Int×Int)=lG m key:=rfl;rw[hG]
   repeat (first|with_reducible refine Aa ?_|((with_reducible refine A3 ?_);first|refine Ag hs ?_|fail)|((with_reducible refine Bk ?_);first|refine A4 hs λw hs=>?_|fail)|with_reducible refine Ai hs λb_ w hs=>?_|((with_reducible refine BY ?_);first|refine Ar ?_|fail)|((with_reducible refine Bd ?_);first|refine BB hs ?_|fail)|with_reducible refine AF hs λw hs=>?_|fail)
   with_reducible refine Az (λhh=>?_) (λhh=>?_)
   ·rw[if_pos hh]
    repeat (first|((with_reducible refine A3 ?_);first|refine Ag hs ?_|fail)|fail)
    refine As (GD (W:=W) (M:=M) (c:=c) (b:=b) hi hz hm hF (by omega) (n:=lG m key) (by rw[hi.ent]) (by exact Ab.fin hs)) λe w ⟨he,hs⟩=>⟨he,?_⟩;refine As (BN (by omega) hs) λe w ⟨he,hs⟩=>⟨he,?_⟩;exact⟨rfl,hs⟩
   ·rw[if_neg hh]
    repeat (first|((with_reducible refine A3 ?_);first|refine Ag hs ?_|fail)|fail)
    refine As (FP (W:=W) (M:=M) (c:=c) (b:=b) hi hz hF (by omega) (n:=lG m key) (by rw[hi.ent]) (by exact Ab.fin hs)) λe w ⟨he,hs⟩=>⟨he,?_⟩;refine As (BN (by omega) hs) λe w ⟨he,hs⟩=>⟨he,?_⟩;exact⟨rfl,hs⟩
theorem Ji{q1:BA}{t:List BA}(hq:x.q=q1::t)(hc:0<=c)(hN:N<200000000)(hs:Ab W w (lirR b c N x::M)) :
  Ur Bg (λv w'=>v = .tuple #[.s q1,.b true]/\Ab W w' (lirR b c N (YW c ⟨BZ x.s q1,t⟩)::M)) (some ⟨b,0,none⟩) w:=by
 refine jw WM ?_;obtain⟨sb,qb,xb,sr,sf,qr,qf,m,hi,hs⟩:=BS hs;have hnq:=hi.nq;obtain⟨hnS,hpS⟩:=IM (b:=sb) (row:=sr) (free:=sf) (M:=eB b c sb qb xb ((A9 x.s 1:Int)) ((A9 x.s 3:Int))::lst .s qb qr qf::ixr Am.iii xb 0 m::M) (by exact Ab.fin hs);obtain⟨hn,hp⟩:=IM (b:=qb) (row:=qr) (free:=qf) (M:=eB b c sb qb xb ((A9 x.s 1:Int)) ((A9 x.s 3:Int))::lst .s sb sr sf::ixr Am.iii xb 0 m::M) (by exact Ab.fin hs);have hlen:qr.length=x.q.length:=by have:=congrArg List.length hi.qk;simpa using this
 have hlt:0<qr.length:=by rw[hlen,hq];simp
 have hkey:qr[0].2=q1:=by
  have:=congrArg (λl:List BA=>l[0]?) hi.qk;rw[hq] at this;simp only[List.getElem?_map,List.getElem?_eq_getElem hlt,List.getElem?_cons_zero,Option.map_some,Option.some.injEq] at this;exact this
 have hz:q1.size<64:=hi.w.qsm _ (by rw[hq];exact .head _);refine Ak [eB b c sb qb xb ((A9 x.s 1:Int)) ((A9 x.s 3:Int))] hs λw hs=>?_
 repeat (first|with_reducible refine Aa ?_|((with_reducible refine A3 ?_);first|refine Ag hs ?_|fail)|((with_reducible refine BY ?_);first|refine Ar ?_|fail)|((with_reducible refine Bd ?_);first|refine Af hs ?_|fail)|fail)
 refine An (DK hs) λe w ⟨he,hs⟩=>⟨_,he,?_⟩
 repeat (first|((with_reducible refine Bd ?_);first|refine Af hs ?_|fail)|fail)
 refine AG (EV hs) λe w ⟨he,hs⟩=>⟨_,_,he,?_⟩;rw[HJ hn hlt];rw[Option.getD_some,hkey]
 repeat (first|with_reducible refine Aa ?_|((with_reducible refine A3 ?_);first|refine Ag hs ?_|fail)|fail)
 refine(CL hs (by omega)).mono λe w ⟨he,hs⟩=>⟨_,_,_,_,he,?_⟩;have hG:(AC m q1).getD ((0,0,0):Int×Int×Int)=lG m q1:=rfl;rw[hG,hi.ent];refine Ai hs λnb w hs=>?_
 repeat (first|((with_reducible refine Bk ?_);first|refine A4 hs λw hs=>?_|fail)|fail)
 refine As (FQ (W:=W) (M:=lst .s sb sr sf::ixr Am.iii xb 0 m::M) (c:=c) (b:=b) (nb:=nb) (sb:=sb) (qb:=qb) (xb:=xb) (h:=(A9 x.s 1:Int)) (g:=(A9 x.s 3:Int)) (i:=lK x.s x.q q1) (s:=AP sr q1) (q:=AP qr q1) (key:=q1) (qr:=qr) (qf:=qf) (by exact Ab.fin hs) (by omega) hi.snd.2 rfl) λe w ⟨he,qf',hc2,hs⟩=>⟨he,?_⟩;obtain⟨hu,hk⟩:=hi.ghost hq hpS hc2
 repeat (first|((with_reducible refine A3 ?_);first|refine Ag hs ?_|fail)|((with_reducible refine Bk ?_);first|refine A4 hs λw hs=>?_|fail)|fail)
 with_reducible refine Az (λh0=>?_) (λh0=>?_)
 ·rw[if_pos h0] at hu hk
  repeat (first|((with_reducible refine Bk ?_);first|refine A4 hs λw hs=>?_|fail)|fail)
  refine jw Me ?_
  repeat (first|((with_reducible refine A3 ?_);first|refine Ag hs ?_|fail)|fail)
  refine As (Da (W:=W) (M:=M) (c:=c) (b:=b) (n:=(0,AP sr q1,0)) hi hu hz (PO _ _) hk (by omega) (by exact Ab.fin hs)) λe w ⟨he,hs⟩=>⟨he,?_⟩;refine As (Ed (by omega) hc hs) λe w ⟨he,hs⟩=>⟨he,?_⟩;refine As (BN (by omega) hs) λe w ⟨he,hs⟩=>⟨he,?_⟩;exact⟨rfl,hs⟩
 ·rw[if_neg h0] at hu hk;refine jw Me ?_
  repeat (first|((with_reducible refine A3 ?_);first|refine Ag hs ?_|fail)|fail)
  refine As (Da (W:=W) (M:=M) (c:=c) (b:=b) (n:=(3,AP sr q1,0)) hi hu hz (PO _ _) hk (by omega) (by exact Ab.fin hs)) λe w ⟨he,hs⟩=>⟨he,?_⟩;refine As (Ed (by omega) hc hs) λe w ⟨he,hs⟩=>⟨he,?_⟩;refine As (BN (by omega) hs) λe w ⟨he,hs⟩=>⟨he,?_⟩;exact⟨rfl,hs⟩
theorem PY(hs:Ab W w L)[hA:At L b (lirR b c N x) F](hc:0<=c)(hF:QU N x)(hN:N<190000000):Calls PR 272 #[pq b 0] w λe w'=>e = .returned (.tuple #[.s (Cu c x).1.1,.b (Cu c x).1.2])/\Ab W w' (F (lirR b c N (Cu c x).2)):=by
 refine At.call1 (hA:=hA) hs λM hs=>?_;clear hA;refine c1 (cw ⟨mixed,Tryz.func272,rfl⟩ Akn ?_);have hw:=(PX hs).1;refine An (Qa hs (by omega)) λe w ⟨he,hs⟩=>⟨_,he,?_⟩
 with_reducible refine Az (λh0=>?_) (λh0=>?_)
 ·have e1:Cu c x=((⟨#[]⟩,false),x):=by unfold Cu;rw[if_pos (by omega)]
  rw[e1];exact⟨rfl,DV hs (by omega)⟩
 ·have e1:Cu c x=(((PM x).q.headD ⟨#[]⟩,true),YW c ⟨BZ (PM x).s ((PM x).q.headD ⟨#[]⟩),(PM x).q.drop 1⟩):=by unfold Cu;rw[if_neg (by omega)]
  obtain⟨sb,qb,xb,sr,sf,qr,qf,m,hi,hs⟩:=BS hs;have hq:qr.length=x.q.length:=by have:=congrArg List.length hi.qk;simpa using this
  repeat (first|with_reducible refine Aa ?_|((with_reducible refine A3 ?_);first|refine Ag hs ?_|fail)|fail)
  refine An (EX hs) λe w ⟨he,hs⟩=>⟨_,he,?_⟩;rw[e1]
  with_reducible refine Az (λhq0=>?_) (λhq0=>?_)
  ·have hqn:x.q=[]:=List.length_eq_zero_iff.1 (by omega);have hp:0<A9 x.s 1:=by unfold C0 at h0;rw[hqn] at h0;simp at h0;omega
   refine As (Jj (W:=W) (M:=M) (b:=b) (c:=c) (N:=N) (x:=x) hF.2 (by omega) hp (Ch hi rfl rfl (by exact Ab.fin hs))) λe w ⟨he,hs⟩=>⟨he,?_⟩;have e2:PM x=CO x:=if_pos hqn;obtain⟨k,hk,e3,_⟩:=Ll hw hp;have e4:(CO x).q=k::[]:=by unfold CO;rw[e3,hqn];rfl
   have:=Ji e4 hc (by omega) hs;rw[e2,e4];exact this
  ·have hqn:x.q≠[]:=λh=>hq0 (by rw[hq,h];rfl);obtain⟨k,t,hk⟩:∃k t,x.q=k::t:=by
    cases hh:x.q with
    | nil=>exact absurd hh hqn
    | cons k t=>exact⟨k,t,rfl⟩
   have e2:PM x=x:=if_neg hqn;have:=Ji (W:=W) (M:=M) (b:=b) (N:=N) hk hc (by omega) (DV (Ch hi rfl rfl (by exact Ab.fin hs)) (by omega));rw[e2,hk];exact this
theorem Iv{sl:Sl}{Q:VW}(hQ:∀w',Ab W w' (lirR b c N (YW c (Rb c y key))::M)->Q (.tuple #[.b false,.l sl.a sl.n sl.c]) w')(hi:LX N y sr sf qr qf m)(hz:key.size<64)(hm:0<=CP c)(hc:0<=c)(hF:QU N y)(hN:N<200000000)
  (hs:Ab W w (blk nb [.i (lG m key).1,.i (lG m key).2.1,.i (lG m key).2.2]::eB b c sb qb xb ((A9 y.s 1:Int)) ((A9 y.s 3:Int))::lst .s sb sr sf::lst .s qb qr qf::ixr Am.iii xb 0 m::M)) :
  Up Bg Q (some ⟨b,0,none⟩) key nb 0 sl w:=by
 have hj4:∀(t:Bool)(w:World),t=decide ((A9 y.s 1:Int)<CP c\/II y.s key=3)->Ab W w (blk nb [.i (lG m key).1,.i (lG m key).2.1,.i (lG m key).2.2]::eB b c sb qb xb ((A9 y.s 1:Int)) ((A9 y.s 3:Int))::lst .s sb sr sf::lst .s qb qr qf::ixr Am.iii xb 0 m::M) ->
   Uq Bg Q (some ⟨b,0,none⟩) key nb 0 sl t w:=by
  intro t w ht hs;refine jw WL ?_;refine Ao (λh1=>?_) (λh1=>?_)
  ·rw[h1] at ht;have e1:Rb c y key=DO c y key:=if_pos (of_decide_eq_true ht.symm);rw[e1] at hQ
   repeat (first|((with_reducible refine A3 ?_);first|refine Ag hs ?_|fail)|fail)
   refine As (GD (W:=W) (M:=M) (c:=c) (b:=b) hi hz hm hF (by omega) (n:=lG m key) (by rw[hi.ent]) (by exact Ab.fin hs)) λe w ⟨he,hs⟩=>⟨he,?_⟩;refine As (Ed (by omega) hc hs) λe w ⟨he,hs⟩=>⟨he,?_⟩;refine As (BN (by omega) hs) λe w ⟨he,hs⟩=>⟨he,?_⟩;exact hQ _ hs
  ·rw[h1] at ht;have e1:Rb c y key=Cf y key:=if_neg (of_decide_eq_false ht.symm);rw[e1] at hQ
   repeat (first|((with_reducible refine A3 ?_);first|refine Ag hs ?_|fail)|fail)
   refine As (FP (W:=W) (M:=M) (c:=c) (b:=b) hi hz hF (by omega) (n:=lG m key) (by rw[hi.ent]) (by exact Ab.fin hs)) λe w ⟨he,hs⟩=>⟨he,?_⟩;refine As (Ed (by omega) hc hs) λe w ⟨he,hs⟩=>⟨he,?_⟩;refine As (BN (by omega) hs) λe w ⟨he,hs⟩=>⟨he,?_⟩;exact hQ _ hs
 refine jw WK ?_
 repeat (first|with_reducible refine Aa ?_|((with_reducible refine A3 ?_);first|refine Ag hs ?_|fail)|((with_reducible refine BY ?_);first|refine Ar ?_|fail)|((with_reducible refine Bd ?_);first|refine BB hs ?_|fail)|with_reducible refine AF hs λw hs=>?_|fail)
 with_reducible refine Az (λh1=>?_) (λh1=>?_)
 ·have ht:true=decide ((A9 y.s 1:Int)<CP c\/II y.s key=3):=by rw[decide_eq_true (Or.inl h1)]
  with_reducible refine hj4 true w ht ?_
  exact Ab.fin hs
 ·repeat (first|((with_reducible refine A3 ?_);first|refine Ag hs ?_|fail)|fail)
  refine hj4 _ w ?_ (by exact Ab.fin hs);rw[Bool.eq_iff_iff,beq_iff_eq,decide_eq_true_eq,hi.ent,Aft hi.w];exact⟨.inr,λh=>h.elim (λh=>absurd h h1) id⟩
theorem Yo(hs:Ab W w L)[hA:At L b (lirR b c N x) F](hz:key.size<64)(hm:0<=CP c)(hc:0<=c)(hF:QU N x)(hF2:QU N (GV c x).2)(hN:N<180000000) :
  Calls PR 271 #[pq b 0,.s key] w λe w'=>∃l:Sl,e = .returned (.tuple #[.b (Fh c x key).1.1,.l l.a l.n l.c])/\Ab W w' (recs Am.str l (Fh c x key).1.2::F (lirR b c N (Fh c x key).2)):=by
 refine At.oneX (hA:=hA) hs λM hs hb2=>?_;refine(cw ⟨mixed,Tryz.func271,rfl⟩ Akm (Q:=λv w'=>∃l:Sl,v = .tuple #[.b (Fh c x key).1.1,.l l.a l.n l.c]/\Ab W w' (lirR b c N (Fh c x key).2::recs Am.str l (Fh c x key).1.2::M)) ?_).mono λe w' ⟨v,he,l,hv,hs⟩=>⟨l,by rw[he,hv],hb2 _ _ [recs Am.str l (Fh c x key).1.2] hs⟩;clear hb2 hA;have hw:=(PX hs).1;obtain⟨sb,qb,xb,sr,sf,qr,qf,m,hi,hs⟩:=BS hs;obtain⟨hnS,hpS⟩:=IM (b:=sb) (row:=sr) (free:=sf) (M:=eB b c sb qb xb ((A9 x.s 1:Int)) ((A9 x.s 3:Int))::lst .s qb qr qf::ixr Am.iii xb 0 m::M) (by exact Ab.fin hs);have hE:=hi.ent key
 refine Ac rfl ?_
 repeat (first|with_reducible refine Aa ?_|((with_reducible refine A3 ?_);first|refine Ag hs ?_|fail)|fail)
 refine(CL hs (by omega)).mono λe w ⟨he,hs⟩=>⟨_,_,_,_,he,?_⟩;have hG:(AC m key).getD ((0,0,0):Int×Int×Int)=lG m key:=rfl;rw[hG];refine Ai hs λnb w hs=>?_;have hj1:∀(t:Bool)(w:World),t=decide (II x.s key=1\/(key∈x.q/\II x.s key=2))->Ab W w (blk nb [.i (lG m key).1,.i (lG m key).2.1,.i (lG m key).2.2]::eB b c sb qb xb ((A9 x.s 1:Int)) ((A9 x.s 3:Int))::lst .s sb sr sf::lst .s qb qr qf::ixr Am.iii xb 0 m::M) ->
   NX Bg (λv w'=>∃l:Sl,v = .tuple #[.b (Fh c x key).1.1,.l l.a l.n l.c]/\Ab W w' (lirR b c N (Fh c x key).2::recs Am.str l (Fh c x key).1.2::M)) (some ⟨b,0,none⟩) key nb 0 t w:=by
  clear hs;intro t w ht hs;refine jw WI ?_;refine Ao (λh1=>?_) (λh1=>?_)
  ·rw[h1] at ht;have e1:Fh c x key=((true,[]),Yi (DO c x key)):=if_pos (of_decide_eq_true ht.symm);rw[e1]
   repeat (first|((with_reducible refine A3 ?_);first|refine Ag hs ?_|fail)|fail)
   refine As (GD (W:=W) (M:=M) (c:=c) (b:=b) hi hz hm hF (by omega) (n:=lG m key) (by rw[hi.ent]) (by exact Ab.fin hs)) λe w ⟨he,hs⟩=>⟨he,?_⟩;refine As (BN (by omega) hs) λe w ⟨he,hs⟩=>⟨he,?_⟩;exact⟨⟨none,0,0⟩,rfl,(Ab.nilR Am.str (DV hs (by omega))).perm (List.Perm.swap _ _ _)⟩
  ·rw[h1] at ht;have ht:=of_decide_eq_false ht.symm
   repeat (first|((with_reducible refine A3 ?_);first|refine Ag hs ?_|fail)|fail)
   with_reducible refine Az (λh2=>?_) (λh2=>?_)
   ·rw[hE] at h2;have hq:=(J2 hw key).1 h2;have e1:Fh c x key=((true,[]),Yi (Cf x key)):=by unfold Fh;rw[if_neg ht,if_pos hq]
    rw[e1]
    repeat (first|((with_reducible refine A3 ?_);first|refine Ag hs ?_|fail)|fail)
    refine As (FP (W:=W) (M:=M) (c:=c) (b:=b) hi hz hF (by omega) (n:=lG m key) (by rw[hi.ent]) (by exact Ab.fin hs)) λe w ⟨he,hs⟩=>⟨he,?_⟩;refine As (BN (by omega) hs) λe w ⟨he,hs⟩=>⟨he,?_⟩;exact⟨⟨none,0,0⟩,rfl,(Ab.nilR Am.str (DV hs (by omega))).perm (List.Perm.swap _ _ _)⟩
   ·rw[hE] at h2;have hq:key∉x.q:=λhq=>h2 ((J2 hw key).2 hq);have e1:Fh c x key=((false,(GV c x).1),YW c (Rb c (GV c x).2 key)):=by unfold Fh;rw[if_neg ht,if_neg hq]
    rw[e1];refine jw WJ ?_;refine Ak [eB b c sb qb xb ((A9 x.s 1:Int)) ((A9 x.s 3:Int))] hs λw hs=>?_
    repeat (first|with_reducible refine Aa ?_|((with_reducible refine BY ?_);first|refine Ar ?_|fail)|fail)
    refine An (M7 (W:=W) (M:=blk nb [.i (lG m key).1,.i (lG m key).2.1,.i (lG m key).2.2]::M) (b:=b) (c:=c) (sb:=sb) (qb:=qb) (xb:=xb) hi (by omega) (by exact Ab.fin hs)) λe w ⟨he,hs⟩=>⟨_,he,?_⟩
    repeat (first|((with_reducible refine Bd ?_);first|refine Af hs ?_|fail)|fail)
    with_reducible refine Az (λh3=>?_) (λh3=>?_)
    ·have e2:GV c x=([(Cu c x).1.1],(Cu c x).2):=if_pos (by omega);rw[e2];refine AG (PY (Ch hi rfl rfl hs) hc hF (by omega)) λe w ⟨he,hs⟩=>⟨_,_,he,?_⟩
     repeat (first|with_reducible refine Ai hs λb_ w hs=>?_|fail)
     have hs:=Ab.nilR Am.str hs;refine CG (s:=⟨none,0,0⟩) (a:=(Cu c x).1.1) hs rfl rfl rfl rfl (by decide) (by simp) λs4 w hs4 hs=>?_;have hs:Ab W w (lirR b c N (Cu c x).2::recs Am.str s4 [(Cu c x).1.1]::blk nb [.i (lG m key).1,.i (lG m key).2.1,.i (lG m key).2.2]::M):=by exact Ab.fin hs
     obtain⟨sb,qb,xb,sr,sf,qr,qf,m2,hi2,hs⟩:=BS hs
     repeat (first|with_reducible refine Aa ?_|((with_reducible refine A3 ?_);first|refine Ag hs ?_|fail)|fail)
     refine(CL hs (by omega)).mono λe w ⟨he,hs⟩=>⟨_,_,_,_,he,?_⟩;have hG:(AC m2 key).getD ((0,0,0):Int×Int×Int)=lG m2 key:=rfl;rw[hG]
     repeat (first|((with_reducible refine Bk ?_);first|refine A4 hs λw hs=>?_|fail)|fail)
     refine Iv (W:=W) (M:=recs Am.str s4 [(Cu c x).1.1]::M) (sl:=s4) (b:=b) (nb:=nb) (w:=w) (c:=c) (sb:=sb) (qb:=qb) (xb:=xb) (λw hs=>⟨s4,rfl,by exact Ab.fin hs⟩) hi2 hz hm hc (by rw[e2] at hF2;exact hF2) (by omega) ?_;exact Ab.fin hs
    ·have e2:GV c x=([],x):=if_neg (by omega);rw[e2];have hs:=Ab.nilR Am.str hs;refine Iv (W:=W) (M:=recs Am.str ⟨none,0,0⟩ []::M) (sl:=⟨none,0,0⟩) (b:=b) (nb:=nb) (w:=w) (c:=c) (sb:=sb) (qb:=qb) (xb:=xb) (λw hs=>⟨⟨none,0,0⟩,rfl,(DV hs (by omega)).perm (.refl _)⟩) hi hz hm hc hF (by omega) ?_;exact Ab.fin hs
 repeat (first|((with_reducible refine A3 ?_);first|refine Ag hs ?_|fail)|((with_reducible refine Bk ?_);first|refine A4 hs λw hs=>?_|fail)|fail)
 rw[hE]
 with_reducible refine Az (λh1=>?_) (λh1=>?_)
 ·refine hj1 _ w ?_ (by exact Ab.fin hs);rw[h1,decide_eq_true (.inl ((Va hw key).2 h1))];rfl
 ·repeat (first|((with_reducible refine A3 ?_);first|refine Ag hs ?_|fail)|fail)
  rw[hE]
  with_reducible refine Az (λh2=>?_) (λh2=>?_)
  ·have hq:=(J2 hw key).1 h2
   repeat (first|((with_reducible refine A3 ?_);first|refine Ag hs ?_|fail)|fail)
   refine hj1 _ w ?_ (by exact Ab.fin hs);rw[hE,Bool.eq_iff_iff,bne_iff_ne,decide_eq_true_eq];constructor
   ·intro h;exact .inr ⟨hq,(Adc hw hq).2 (Classical.byContradiction λhk=>h (hi.s0 hk))⟩
   ·rintro(h|h)
    ·exact absurd ((Va hw key).1 h) h1
    ·exact Tx hpS (by rw[hi.sk];exact(Adc hw hq).1 h.2)
  ·with_reducible refine hj1 false w ?_ ?_
   rotate_left
   ·exact Ab.fin hs
   symm;rw[decide_eq_false_iff_not];rintro(h|h)
   ·exact h1 ((Va hw key).1 h)
   ·exact h2 ((J2 hw key).2 h.1)
end
end Go.Proofs.YtjipofkjmmpjdaaGreat
namespace Go.Hb
theorem Yk{S:SL}{i:Int}{j:Nat}(hj:j<S.length):Co (S.take (j+1)) i=Co (S.take j) i++(if (S.getD j default).2=i then [(S.getD j default).1] else []):=by
 unfold Co;rw[Cc hj,List.filter_append,List.map_append];congr 1;rw[List.filter_cons];split <;> split <;> simp_all
theorem Afw(S:SL)(i:Int)(j:Nat):(Co (S.take j) i).length<=j:=by
 unfold Co;rw[List.length_map];exact Nat.le_trans (List.length_filter_le _ _) (by simp;omega)
theorem Afv(S:SL)(i:Int):(Co S i).length<=S.length:=by unfold Co;rw[List.length_map];exact List.length_filter_le _ _
theorem Aai{S:SL}{j:Nat}(hj:j<S.length):(AS S).getD j default=(S.getD j default).1:=by
 unfold AS;rw[List.getD_eq_getElem?_getD,List.getD_eq_getElem?_getD,List.getElem?_map,List.getElem?_eq_getElem hj];rfl
end Go.Hb
namespace Go.Proofs.YtjipofkjmmpjdaaGreat
open Go.Hb Go.IntWalk
section
variable{W w:World}{L M:List HP}{F:HP->List HP}{b nb tb:Nat}{c:Int}{N N':Nat}{x y:Bb}{sb qb xb:Nat}{m:LM}{key:BA}{h g i:Int}
theorem Aan(h:Ab W w L)[hA:At L b (lirR b c N x) F](hN:N<400000000):Calls PR 289 #[pq b 0,.i i] w λe w'=>∃l:Sl,e = .returned (.l l.a l.n l.c)/\Ab W w' (recs Am.str l (Co x.s i)::F (lirR b c N x)):=by
 refine At.oneX (hA:=hA) h λM hs hb=>?_;refine(cw ⟨mixed,Tryz.func289,rfl⟩ Ak3 (Q:=λv w'=>∃l:Sl,v = .l l.a l.n l.c/\Ab W w' (lirR b c N x::recs Am.str l (Co x.s i)::M)) ?_).mono λe w' ⟨v,he,l,hv,hs⟩=>⟨l,by rw[he,hv],hb _ _ [recs Am.str l (Co x.s i)] hs⟩;clear hb hA;have hw:=PX hs;obtain⟨sb,qb,xb,sr,sf,qr,qf,m,hi,hs⟩:=BS hs;have hns:=hi.ns;have hnq:=hi.nq
 repeat (first|with_reducible refine Aa ?_|((with_reducible refine A3 ?_);first|refine Ag hs ?_|fail)|fail)
 refine(JH hs (by omega)).mono λe w ⟨ks,he,hs⟩=>⟨_,he,?_⟩;rw[hi.sk] at hs;have hn:=BE (s:=ks) hs;have hlk:(AS x.s).length=x.s.length:=by simp[AS]
 have hs:=Ab.nilR Am.str hs;have loop:∀(f j:Nat)(w:World)(acc:Sl),j+f=x.s.length->Ab W w (recs Am.str acc (Co (x.s.take j) i)::recs Am.str ks (AS x.s)::eB b c sb qb xb ((A9 x.s 1:Int)) ((A9 x.s 3:Int))::lst .s sb sr sf::lst .s qb qr qf::ixr Am.iii xb 0 m::M) ->
   Kj Bg (λv w'=>∃l:Sl,v = .l l.a l.n l.c/\Ab W w' (lirR b c N x::recs Am.str l (Co x.s i)::M)) (f+1) (some ⟨b,0,none⟩) i acc ks (ks.n:Int) (j:Int) w:=by
  clear hs;intro f
  induction f with
  | zero=>
   intro j w acc hif hs;rw[Mh];refine Ac (decide_eq_false (by omega)) ?_;refine jw WT ?_;rw[List.take_of_length_le (by omega)] at hs;exact⟨acc,rfl,Ch hi rfl rfl (by exact Ab.fin hs)⟩
  | succ f ih=>
   intro j w acc hif hs;rw[Mh];refine Al (decide_eq_true (by omega)) ?_
   repeat (first|with_reducible refine Aa ?_|((with_reducible refine A3 ?_);first|refine Ag hs ?_|refine Cj hs ?_|fail)|((with_reducible refine B0 ?_);first|refine BG hs λb_ o_ hs=>?_|fail)|fail)
   rw[Int.toNat_natCast,Aai (by omega)];have hmem:x.s.getD j default∈x.s:=GS (by omega);have hsz:=hi.w.ssm _ hmem;have JN:=Afw x.s i j;have hds:=Yk (i:=i) (S:=x.s) (j:=j) (by omega);skip;refine(CL hs (by omega)).mono λe w ⟨he,hs⟩=>⟨_,_,_,_,he,?_⟩;have hG:(AC m (x.s.getD j default).1).getD ((0,0,0):Int×Int×Int)=lG m (x.s.getD j default).1:=rfl;rw[hG,hi.ent,Anu hi.w hmem]
   repeat (first|((with_reducible refine A3 ?_);first|refine Ag hs ?_|fail)|((with_reducible refine Bk ?_);first|refine A4 hs λw hs=>?_|fail)|with_reducible refine Ai hs λb_ w hs=>?_|fail)
   with_reducible refine Az (λh1=>?_) (λh1=>?_)
   ·rw[if_pos h1] at hds
    repeat (first|with_reducible refine Ai hs λb_ w hs=>?_|fail)
    refine CG (s:=acc) (a:=(x.s.getD j default).1) hs rfl rfl rfl rfl (by decide) (by omega) λs2 w hs2 hs=>?_;rw[<- hds] at hs;rw[show IntKind.wrap .i64 ((j:Int)+1)=((j+1:Nat):Int) by rw[i64_in _ (by omega)];omega]
    exact ih (j+1) w s2 (by omega) (by exact Ab.fin hs)
   ·rw[if_neg h1,List.append_nil] at hds;rw[<- hds] at hs;rw[show IntKind.wrap .i64 ((j:Int)+1)=((j+1:Nat):Int) by rw[i64_in _ (by omega)];omega]
    exact ih (j+1) w acc (by omega) (by exact Ab.fin hs)
 refine AO (x.s.length+1) ?_;exact loop x.s.length 0 w ⟨none,0,0⟩ (by omega) (by exact Ab.fin hs)
theorem Af3(h:Ab W w L)[hA:At L b (lirR b c N x) F](hN:N<400000000):Calls PR 275 #[pq b 0] w λe w'=>∃l:Sl,e = .returned (.l l.a l.n l.c)/\Ab W w' (recs Am.str l (BH x)::F (lirR b c N x)):=by
 refine At.oneX (hA:=hA) h λM hs hb=>?_;refine(cw ⟨mixed,Tryz.func275,rfl⟩ Akp (Q:=λv w'=>∃l:Sl,v = .l l.a l.n l.c/\Ab W w' (lirR b c N x::recs Am.str l (BH x)::M)) ?_).mono λe w' ⟨v,he,l,hv,hs⟩=>⟨l,by rw[he,hv],hb _ _ [recs Am.str l (BH x)] hs⟩;clear hb hA;refine Ac rfl ?_;have hw:=PX hs;have h1:=Afv x.s 1;obtain⟨sb,qb,xb,sr,sf,qr,qf,m,hi,hs⟩:=BS hs;have hnq:=hi.nq
 repeat (first|with_reducible refine Aa ?_|((with_reducible refine A3 ?_);first|refine Ag hs ?_|fail)|fail)
 refine(JH hs (by omega)).mono λe w ⟨ks,he,hs⟩=>⟨_,he,?_⟩;rw[hi.qk] at hs;have hs:Ab W w (lirR b c N x::recs Am.str ks x.q::M):=Ch hi rfl rfl (by exact Ab.fin hs);refine(Aan hs hN).mono λe w ⟨l2,he,hs⟩=>⟨_,he,?_⟩;have hn2:=BE (s:=l2) hs;refine FJ (s:=ks) (new:=Co x.s 1) hs (FU (s:=l2) hs) hn2 (CS _) rfl (by decide) (by omega) λs2 w hs2 hs=>?_;exact⟨s2,rfl,by exact Ab.fin hs⟩
theorem Yp(hs:Ab W w L){r:Int}:Calls PR 152 #[.i r] w λe w'=>∃b,e = .returned (pq b 0)/\Ab W w' (lirR b (AU r) 0 Fj::L):=by
 refine(cw ⟨mixed,Tryz.func152,rfl⟩ Ajd (Q:=λv w'=>∃b,v=pq b 0/\Ab W w' (lirR b (AU r) 0 Fj::L)) ?_).mono λe w' ⟨v,he,b,hv,hs⟩=>⟨b,by rw[he,hv],hs⟩;refine Ax (by decide) ?_;refine(HN hs).mono λe w ⟨sb,he,hs⟩=>⟨_,he,?_⟩;refine(HN hs).mono λe w ⟨qb,he,hs⟩=>⟨_,he,?_⟩;refine(Aec hs).mono λe w ⟨xb,he,hs⟩=>⟨_,he,?_⟩;refine Ai hs λb w hs=>?_;refine⟨b,rfl,?_⟩;have e0:(if (if (1024:Int)<r then (1024:Int) else r)>(1:Int) then (if (1024:Int)<r then (1024:Int) else r) else (1:Int))=AU r:=by unfold AU;split <;> split <;> omega
 rw[e0] at hs;have hr:1<=AU r/\AU r<=1024:=by unfold AU;omega
 have e1:Int.tdiv (AU r) 10=AU r / 10:=by rw[Int.tdiv_eq_ediv_of_nonneg (by omega)]
 have e2:IntKind.wrap .i64 (AU r-(if (IntKind.wrap .i64 (Int.tdiv (AU r) (10:Int)))>(1:Int) then (IntKind.wrap .i64 (Int.tdiv (AU r) (10:Int))) else (1:Int)))=CP (AU r):=by
  rw[e1,i64_in (AU r / 10) (by omega),i64_in _ (by split <;> omega)];unfold CP;split <;> omega
 rw[e2] at hs;have hi:LX 0 Fj [] [] [] [] ([]:LM):=⟨(A15 (c:=1) (by decide) (by decide)).w,rfl,rfl,λk=>by simp[lG,AC,lK,Fj,AS,AP],by simp,by simp,by simp,by simp,by simp⟩;exact Ch hi rfl rfl (by exact Ab.fin hs)
end
end Go.Proofs.YtjipofkjmmpjdaaGreat
namespace Go.Hb
def OY(b:Nat)(c:Int)(R:BL):HP:=JM λ(x:Bb)=>EA (R=BH x/\MR c x) (lirR b c 5000 x)
section
variable{W w:World}{M L:List HP}{b:Nat}{c:Int}{R:BL}{k:BA}{x:Bb}
theorem E0(h:Ab W w (OY b c R::M)):∃x:Bb,R=BH x/\MR c x/\Ab W w (lirR b c 5000 x::M):=by
 obtain⟨x,h⟩:=h.openE;obtain⟨hp,h⟩:=h.openA;exact⟨x,hp.1,hp.2,h⟩
theorem E1{x:Bb}(hx:MR c x)(h:Ab W w (lirR b c 5000 x::M)):Ab W w (OY b c (BH x)::M):=Ab.shutE x (Ab.shutA ⟨rfl,hx⟩ h)
theorem MR.small(h:MR c x):x.s.length<=4096/\x.q.length<=1024:=by
 have h1:=h.len;have h2:=h.ghs;have h3:=h.hots;have h4:=h.c2
 have hq:(x.q.length:Int)<=c:=by unfold C0 at h1;omega
 have hcold:A9 x.s 2<=x.q.length:=by
  have:((x.s.filter λe=>decide (e.2=2)).map (·.1)).length<=x.q.length:=by
   refine DY (h.w.sn.sublist (List.filter_sublist.map _)) λk hk=>?_;obtain⟨e,he,rfl⟩:=List.mem_map.1 hk;obtain⟨h1,h2⟩:=List.mem_filter.1 he;exact h.w.coldq e h1 (by simpa using h2)
  rw[List.length_map,<- List.countP_eq_length_filter] at this;exact this
 have hall:x.s.length<=A9 x.s 1+A9 x.s 2+A9 x.s 3:=by
  have:∀S:SL,(∀e∈S,e.2=1\/e.2=2\/e.2=3)->S.length<=A9 S 1+A9 S 2+A9 S 3:=by
   intro S;unfold A9
   induction S with
   | nil=>intro _;simp
   | cons a t ih=>
    intro hk;have h1:=ih λe he=>hk e (.tail _ he);simp only[List.countP_cons,List.length_cons];rcases hk a (.head _) with h|h|h <;> simp[h] <;> omega
  exact this x.s h.w.kinds
 have h5:=IK h.c1;unfold C0 at h1;omega
theorem MR.fit(h:MR c x):QU 5000 x:=by have:=h.small;exact⟨by omega,by omega⟩
theorem MR.most(h:MR c x):0<=CP c:=by have:=h.c1;unfold CP;omega
theorem MR.eok{x:Bb}(h:MR c x):Dj c (BH x):=⟨h.w.res_nd,λk hk=>by
 rcases List.mem_append.1 hk with h1|h1
 ·exact h.w.qsm k h1
 ·unfold Co at h1;obtain⟨e,he,rfl⟩:=List.mem_map.1 h1;exact h.w.ssm e (List.mem_filter.1 he).1,by rw[Iu];exact h.len,h.c1,h.c2⟩
theorem Afs{x:Bb}(h:(C0 x:Int)<c):(Fh c x k).1.2=[]:=by
 have e:(GV c x).1=[]:=by unfold GV;rw[if_neg (by omega)]
 unfold Fh;split
 ·rfl
 ·split
  ·rfl
  ·exact e
theorem J0{x:Bb}(hx:MR c x):MR c (Cu c x).2/\Ga c (BH x) (Cu c x).1.1 (Cu c x).1.2 (BH (Cu c x).2):=by
 by_cases h0:C0 x=0
 ·have e:Cu c x=((⟨#[]⟩,false),x):=if_pos h0;rw[e];exact⟨hx,Ga.none hx.eok (by rw[Iu];exact h0)⟩
 ·obtain⟨h1,h2⟩:=SS hx h0;refine⟨h2.ok,?_⟩;rw[h1];exact⟨(decide_eq_true (List.length_pos_of_mem h2.sub)).symm,λ_=>h2.sub,λz=>by rw[h2.mem];simp,h2.ok.eok⟩
theorem Aye(h:Ab W w (OY b c R::M)):Dj c R:=by
 obtain⟨x,rfl,hx,h⟩:=E0 h;exact hx.eok
theorem Anx(hx:MR c x):MR c (GV c x).2:=by
 unfold GV;split
 ·exact(J0 hx).1
 ·exact hx
end
end Go.Hb
namespace Go.Proofs.YtjipofkjmmpjdaaGreat
open Go.Hb Go.IntWalk
section
variable{W w:World}{L M:List HP}{b:Nat}{c:Int}{R:BL}{key:BA}
theorem A0c(hs:Ab W w L){r:Int}:Ba PR 152 #[.i r] w λv w'=>∃b,v=pq b 0/\Ab W w' (OY b (AU r) []::L):=by
 refine Calls.mono (Yp (r:=r) hs) λe w' ⟨b,he,hs⟩=>⟨_,he,b,rfl,?_⟩;have hr:=DZ r;exact E1 (x:=Fj) (A15 hr.1 hr.2) (DV hs (by omega))
theorem Av4(hs:Ab W w (OY b c R::M)):Ba PR 279 #[pq b 0] w λv w'=>v = .i c/\Ab W w' (OY b c R::M):=by
 obtain⟨x,rfl,hx,hs⟩:=E0 hs;exact Calls.mono (Af5 hs) λe w' ⟨he,hs⟩=>⟨_,he,rfl,E1 hx hs⟩
theorem A0b(hs:Ab W w (OY b c R::M)):Ba PR 276 #[pq b 0] w λv w'=>v = .i (R.length:Int)/\Ab W w' (OY b c R::M):=by
 obtain⟨x,rfl,hx,hs⟩:=E0 hs;exact Calls.mono (Qa hs (by omega)) λe w' ⟨he,hs⟩=>⟨_,he,by rw[Iu],E1 hx hs⟩
theorem A0a(hz:key.size<64)(hs:Ab W w (OY b c R::M)):Ba PR 274 #[pq b 0,.s key] w λv w'=>v = .b (decide (key∈R))/\Ab W w' (OY b c R::M):=by
 obtain⟨x,rfl,hx,hs⟩:=E0 hs;exact Calls.mono (PZ hs hz) λe w' ⟨he,hs⟩=>⟨_,he,rfl,E1 hx hs⟩
theorem Av2(hs:Ab W w (OY b c R::M)):Ba PR 275 #[pq b 0] w λv w'=>∃(l:Sl) (ks:BL),v = .l l.a l.n l.c/\ks.Perm R/\Ab W w' (OY b c R::recs Am.str l ks::M):=by
 obtain⟨x,rfl,hx,hs⟩:=E0 hs;refine Calls.mono (Af3 hs (by omega)) λe w' ⟨l,he,hs⟩=>⟨_,he,l,_,rfl,List.Perm.refl _,?_⟩;have hs:Ab W w' (lirR b c 5000 x::recs Am.str l (BH x)::M):=by exact Ab.fin hs
 have hs:=E1 hx hs;exact Ab.fin hs
theorem Af1(hz:key.size<64)(hs:Ab W w (OY b c R::M)):Ba PR 271 #[pq b 0,.s key] w λv w'=>∃(hit:Bool) (l:Sl) (g S:BL),v = .tuple #[.b hit,.l l.a l.n l.c]/\Ey c R key hit g S/\Ab W w' (OY b c S::recs Am.str l g::M):=by
 obtain⟨x,rfl,hx,hs⟩:=E0 hs;refine Calls.mono (Yo (key:=key) hs hz hx.most (by have:=hx.c1;omega) hx.fit (Anx hx).fit (by omega)) λe w' ⟨l,he,hs⟩=>⟨_,he,_,l,(Fh c x key).1.2,BH (Fh c x key).2,rfl,?_,?_⟩
 ·exact⟨(PK hx hz).2,(PK hx hz).1.eok,λh=>Afs (by rw[<- Iu];exact h)⟩
 ·have hs:Ab W w' (lirR b c 5000 (Fh c x key).2::recs Am.str l (Fh c x key).1.2::M):=by exact Ab.fin hs
  have hs:=E1 (PK hx hz).1 hs;exact Ab.fin hs
theorem Av3(hz:key.size<64)(hs:Ab W w (OY b c R::M)):Ba PR 277 #[pq b 0,.s key] w λv w'=>∃(yes:Bool) (S:BL),v = .b yes/\CZ c R key yes S/\Ab W w' (OY b c S::M):=by
 obtain⟨x,rfl,hx,hs⟩:=E0 hs;refine Calls.mono (Af4 hs hz hx.most hx.fit (by omega)) λe w' ⟨he,hs⟩=>⟨_,he,_,BH (Fi c x key).2,rfl,?_,E1 (SV hx hz).1 hs⟩;obtain⟨h1,h2,h3,h4⟩:=SV (k:=key) hx hz;refine⟨h2,λz=>?_,h1.eok⟩;cases ho:(Fi c x key).1 with
 | true=>rw[h3 ho];simp
 | false=>rw[h4 ho];simp
theorem Af2(hz:key.size<64)(hs:Ab W w (OY b c R::M)):Ba PR 278 #[pq b 0,.s key] w λv w'=>∃(yes:Bool) (S:BL),v = .b yes/\Ft c R key yes S/\Ab W w' (OY b c S::M):=by
 obtain⟨x,rfl,hx,hs⟩:=E0 hs;refine Calls.mono (Yq hs hz (by omega)) λe w' ⟨he,hs⟩=>⟨_,he,_,BH (K4 x key).2,rfl,?_,E1 (Yj hx).1 hs⟩;obtain⟨h1,h2,h3,h4⟩:=Yj (k:=key) hx;refine⟨h2,λz=>?_,h1.eok⟩;cases ho:(K4 x key).1 with
 | true=>exact(h3 ho).1 z
 | false=>
  rw[ho] at h2;have hno:key∉BH x:=of_decide_eq_false h2.symm;rw[h4 ho];exact⟨λh=>⟨h,λe=>hno (e ▸ h)⟩,λh=>h.1⟩
theorem An9(hs:Ab W w (OY b c R::M)):Ba PR 272 #[pq b 0] w λv w'=>∃x yes S,v = .tuple #[.s x,.b yes]/\Ga c R x yes S/\Ab W w' (OY b c S::M):=by
 obtain⟨x,rfl,hx,hs⟩:=E0 hs;refine Calls.mono (PY hs (by have:=hx.c1;omega) hx.fit (by omega)) λe w' ⟨he,hs⟩=>⟨_,he,_,_,BH (Cu c x).2,rfl,?_,E1 (J0 hx).1 hs⟩
 exact(J0 hx).2
end
end Go.Proofs.YtjipofkjmmpjdaaGreat
namespace Go.Hb
open Go.Proofs.YtjipofkjmmpjdaaGreat
abbrev cT(b:Nat)(s:Sl)(xb:Nat)(c ki ko:Int):HP:=blk b [.l s.a s.n s.c,pq xb 0,.i c,.i ki,.i ko]
def JL(b:Nat)(c:Int)(R:BL):HP:=JM λ(z:(Sl×Nat×Int×Int)×(BL×BL×BL))=>EA ((R=z.2.1++z.2.2.2/\Dj c R)/\(0<=z.1.2.2.1/\0<=z.1.2.2.2/\z.1.2.2.2<=1024)/\z.2.2.1.length<=1024)
 (AJ [cT b z.1.1 z.1.2.1 c z.1.2.2.1 z.1.2.2.2,rowsC z.1.1 z.1.2.1 5000 [z.2.1,z.2.2.1,z.2.2.2]])
section
variable{W w:World}{M L:List HP}{b:Nat}{c:Int}{R:BL}
theorem Dl(h:Ab W w (JL b c R::M)):∃(s:Sl) (xb:Nat) (ki ko:Int) (i o a:BL),(R=i++a/\Dj c R)/\(0<=ki/\0<=ko/\ko<=1024)/\o.length<=1024/\Ab W w (cT b s xb c ki ko::rowsC s xb 5000 [i,o,a]::M):=by
 obtain⟨⟨⟨s,xb,ki,ko⟩,⟨i,o,a⟩⟩,h⟩:=h.openE;obtain⟨⟨h1,h2,h3⟩,h⟩:=h.openA;exact⟨s,xb,ki,ko,i,o,a,h1,h2,h3,h.openL⟩
theorem BX{s:Sl}{xb:Nat}{ki ko:Int}{i o a:BL}(h1:R=i++a/\Dj c R)(h2:0<=ki/\0<=ko/\ko<=1024)(h3:o.length<=1024)(h:Ab W w (cT b s xb c ki ko::rowsC s xb 5000 [i,o,a]::M)):Ab W w (JL b c R::M):=
 Ab.shutE ((s,xb,ki,ko),(i,o,a)) (Ab.shutA ⟨h1,h2,h3⟩ (Ab.shutL (Ps:=[_,_]) h))
theorem OX(h:Ab W w (JL b c R::M)):Dj c R:=by
 obtain⟨s,xb,ki,ko,i,o,a,h1,_⟩:=Dl h;exact h1.2
theorem Abp(h:Ab W w (JL b c R::M)):w.cell? ⟨b,2,none⟩=some (.i c):=by
 obtain⟨s,xb,ki,ko,i,o,a,_,_,_,h⟩:=Dl h;exact h.cell (q:=0) rfl
theorem KU{i a:BL}(h:R=i++a/\Dj c R):i.length+a.length<=1024/\(i.length+a.length:Int)<=c/\R.length=i.length+a.length:=by
 have h1:=h.2.room;have h2:=h.2.c2
 have h3:R.length=i.length+a.length:=by rw[h.1];simp
 omega
end
end Go.Hb
namespace Go.Proofs.YtjipofkjmmpjdaaGreat
open Go.Hb Go.IntWalk
section
variable{W w:World}{L M:List HP}{b:Nat}{c:Int}{R:BL}{key:BA}
theorem A07(hs:Ab W w L){r:Int}:Ba PR 153 #[.i r] w λv w'=>∃b,v=pq b 0/\Ab W w' (JL b (AU r) []::L):=by
 refine cw ⟨mixed,Tryz.func153,rfl⟩ Aje ?_;refine(KL BO (nr:=3) (by decide) hs).mono λe w ⟨s,xb,he,hs⟩=>⟨s,_,he,?_⟩;refine Ax (by decide) (Ax (by decide) ?_);refine Ai hs λb w hs=>⟨b,rfl,?_⟩;rw[KH] at hs;have hs:Ab W w (rowsC s xb 0 [[],[],[]]::blk b _::L):=hs.perm (List.Perm.swap _ _ _);have hs:=(IS (N':=5000) hs (by omega)).perm (List.Perm.swap _ _ _);have hr:=DZ r;refine BX (i:=[]) (o:=[]) (a:=[]) ⟨rfl,Dj.nil (DZ r).1 (DZ r).2⟩ ⟨?_,?_,?_⟩ (by simp) hs
 ·split <;> omega
 ·split <;> omega
 ·rw[Int.tdiv_eq_ediv_of_nonneg (by omega),i64_in _ (by omega)];split <;> omega
theorem Aw6(hs:Ab W w (JL b c R::M)):Ba PR 308 #[pq b 0] w λv w'=>v = .i c/\Ab W w' (JL b c R::M):=by
 refine cw ⟨mixed,Tryz.func308,rfl⟩ Alm ?_;obtain⟨s,xb,ki,ko,i,o,a,h1,h2,h3,hs⟩:=Dl hs;refine Ac rfl (Aa (Ag hs ?_));exact⟨rfl,BX h1 h2 h3 hs⟩
theorem V5(hs:Ab W w (JL b c R::M)):Ba PR 305 #[pq b 0] w λv w'=>v = .i (R.length:Int)/\Ab W w' (JL b c R::M):=by
 refine cw ⟨mixed,Tryz.func305,rfl⟩ Alj ?_;obtain⟨s,xb,ki,ko,i,o,a,h1,h2,h3,hs⟩:=Dl hs;refine Ac rfl (Aa (Ag (x:=s) hs (Ag hs ?_)));refine Ai hs λnb w hs=>?_;refine AM BO (nr:=3) (K:=[i,o,a]) [0,2] (M:=cT b s xb c ki ko::M) (by exact Ab.fin hs) (by omega) rfl λw hs=>?_;refine⟨?_,BX h1 h2 h3 (by exact Ab.fin hs)⟩;rw[h1.1];simp[Bu]
theorem Abf(hz:key.size<64)(hs:Ab W w (JL b c R::M)):Ba PR 303 #[pq b 0,.s key] w λv w'=>v = .b (decide (key∈R))/\Ab W w' (JL b c R::M):=by
 refine cw ⟨mixed,Tryz.func303,rfl⟩ Alh ?_;obtain⟨s,xb,ki,ko,i,o,a,h1,h2,h3,hs⟩:=Dl hs;refine Ac rfl (Aa (Ag (x:=s) hs (Ag hs ?_)));refine An (D9 BO (K:=[i,o,a]) hs hz) λe w ⟨he,hs⟩=>⟨_,he,?_⟩;have hnd:=nd3 (i:=i) (o:=o) (a:=a) (M:=cT b s xb c ki ko::M) (by exact Ab.fin hs);have e:∀t:Bool,(t=true↔key∈i\/key∈a)->Value.bool t = .b (decide (key∈R)):=λt ht=>by
  congr 1;rw[Bool.eq_iff_iff,ht,h1.1,decide_eq_true_eq,List.mem_append]
 rcases QP i o a key with⟨h,h4⟩|⟨h,h4,h5⟩|⟨h,h4,h5,h6⟩|⟨h,h4,h5,h6⟩ <;> rw[h]
 ·exact Al rfl ⟨e _ (by simp[h4]),BX h1 h2 h3 hs⟩
 ·exact Ac rfl ⟨e _ (by have:=hnd.oa _ h5;simp[h4,this]),BX h1 h2 h3 hs⟩
 ·exact Ac rfl ⟨e _ (by simp[h6]),BX h1 h2 h3 hs⟩
 ·exact Ac rfl ⟨e _ (by simp[h4,h6]),BX h1 h2 h3 hs⟩
theorem Aw4(hs:Ab W w (JL b c R::M)):Ba PR 304 #[pq b 0] w λv w'=>∃(l:Sl) (ks:BL),v = .l l.a l.n l.c/\ks.Perm R/\Ab W w' (JL b c R::recs Am.str l ks::M):=by
 refine cw ⟨mixed,Tryz.func304,rfl⟩ Ali ?_;obtain⟨s,xb,ki,ko,i,o,a,h1,h2,h3,hs⟩:=Dl hs;refine Ac rfl (Aa (Ag (x:=s) hs (Ag hs ?_)));refine Ai hs λnb w hs=>?_;refine OF BO (nr:=3) (K:=[i,o,a]) [0,2] (M:=cT b s xb c ki ko::M) (by exact Ab.fin hs) (by omega) rfl λl w hs=>?_;refine⟨l,_,rfl,?_,BX h1 h2 h3 (by exact Ab.fin hs)⟩;rw[h1.1];simp[EI]
theorem YP(hs:Ab W w (JL b c R::M)):Ba PR 301 #[pq b 0] w λv w'=>∃x yes S,v = .tuple #[.s x,.b yes]/\Ga c R x yes S/\Ab W w' (JL b c S::M):=by
 refine cw ⟨mixed,Tryz.func301,rfl⟩ Alg ?_;refine Ah (V5 hs) λv w ⟨hv,hs⟩=>⟨_,hv,?_⟩;have hk:=OX hs
 with_reducible refine Az (λh0=>?_) (λh0=>?_)
 ·exact⟨_,_,_,rfl,Ga.none hk (by omega),hs⟩
 obtain⟨s,xb,ki,ko,i,o,a,h1,h2,h3,hs⟩:=Dl hs;have hnd:=nd3 (i:=i) (o:=o) (a:=a) (M:=cT b s xb c ki ko::M) (by exact Ab.fin hs);have hll:R.length=i.length+a.length:=by rw[h1.1];simp
 have j1:∀(w:World)(t:Bool),(t=true->0<a.length)->(t=false->0<i.length)->Ab W w (cT b s xb c ki ko::rowsC s xb 5000 [i,o,a]::M) ->
   U0 Bg (λv w'=>∃x yes S,v = .tuple #[.s x,.b yes]/\Ga c R x yes S/\Ab W w' (JL b c S::M)) (some ⟨b,0,none⟩) t w:=by
  clear hs;intro w t ht hf hs;refine jw Xa ?_;cases t with
  | true=>
   have h0:=ht rfl;have hm:=C1 h0;refine Al rfl (Aa (Ag (x:=s) hs (Ag hs ?_)));refine An (Bp BO (K:=[i,o,a]) (j:=2) hs (lt3 (by decide)) (show 3<=4 by decide)) λe w ⟨he,hs⟩=>⟨_,he,?_⟩;refine Aa (Ag (x:=s) hs (Ag hs ?_));refine As (BT BO (K:=[i,o,a]) (key:=BV a) hs (hnd.small _ (.inr (.inr hm))) (by omega) (show 3<=4 by decide)) λe w ⟨he,hs⟩=>⟨he,?_⟩;have e1:Dp [i,o,a] (BV a)=[i,o,a.drop 1]:=by
    show[Ap i _,Ap o _,Ap a _]=_;rw[Au λh=>(hnd.io _ h).2 hm,Au λh=>hnd.oa _ h hm,BI hnd.na h0]
   rw[e1] at hs;have hev:Ga c R (BV a) true (i++a.drop 1):=Ga.of_perm hk (by
    rw[h1.1];cases a with
    | nil=>simp at h0
    | cons x l=>exact List.perm_middle)
   exact⟨_,_,_,rfl,hev,BX (o:=o) ⟨rfl,hev.ok⟩ h2 (by omega) hs⟩
  | false=>
   have h0:=hf rfl;have hm:=C1 h0;refine Ac rfl ?_;refine jw Xb ?_;refine Aa (Ag (x:=s) hs (Ag hs ?_));refine An (Bp BO (K:=[i,o,a]) (j:=0) hs (lt3 (by decide)) (show 3<=4 by decide)) λe w ⟨he,hs⟩=>⟨_,he,?_⟩;refine Aa (Ag (x:=s) hs (Ag hs ?_));refine As (Y4 BO (j:=1) (key:=BV i) hs (by decide) (hnd.small _ (.inl hm)) ⟨(KU h1).1,h3⟩) λe w ⟨he,hs⟩=>⟨he,?_⟩;have e1:Db [i,o,a] 1 (BV i)=[i.drop 1,o++[BV i],a]:=by
    show[Ap i _,Ap o _++[_],Ap a _]=_;rw[Au (hnd.io _ hm).2,Au (hnd.io _ hm).1,BI hnd.ni h0]
   rw[e1] at hs;have hev:Ga c R (BV i) true (i.drop 1++a):=Ga.of_perm hk (by
    rw[h1.1];cases i with
    | nil=>simp at h0
    | cons x l=>exact List.Perm.refl _)
   generalize o++[BV i]=o at hs;have loop:∀(m:Nat)(o:BL)(w:World),o.length=m->Ab W w (cT b s xb c ki ko::rowsC s xb 5000 [i.drop 1,o,a]::M) ->
     Oe Bg (λv w'=>∃x yes S,v = .tuple #[.s x,.b yes]/\Ga c R x yes S/\Ab W w' (JL b c S::M)) (m+1) (some ⟨b,0,none⟩) (BV i) w:=by
    clear hs;intro m
    induction m with
    | zero=>
     intro o w ho hs;rw[Mm];refine Ak [cT b s xb c ki ko] hs λw hs=>?_;refine Aa (Ar (x:=s) (Ar (Aa (Ar ?_))));refine Ai hs λnb w hs=>Af hs ?_;refine AM BO (nr:=3) (K:=[i.drop 1,o,a]) [1] (M:=cT b s xb c ki ko::M) (by exact Ab.fin hs) (by omega) rfl λw hs=>?_;refine Af hs ?_;have e2:(Bu [i.drop 1,o,a] [1]:Int)=0:=by simp[Bu,ho]
     rw[e2];refine Ac (decide_eq_false (by omega)) ?_;refine jw Ml ?_;exact⟨_,_,_,rfl,hev,BX (o:=o) ⟨rfl,hev.ok⟩ h2 (by omega) (by exact Ab.fin hs)⟩
    | succ m ih=>
     intro o w ho hs;rw[Mm];refine Ak [cT b s xb c ki ko] hs λw hs=>?_;refine Aa (Ar (x:=s) (Ar (Aa (Ar ?_))));refine Ai hs λnb w hs=>Af hs ?_;refine AM BO (nr:=3) (K:=[i.drop 1,o,a]) [1] (M:=cT b s xb c ki ko::M) (by exact Ab.fin hs) (by omega) rfl λw hs=>?_;refine Af hs ?_;have hs:Ab W w (cT b s xb c ki ko::rowsC s xb 5000 [i.drop 1,o,a]::M):=by exact Ab.fin hs
     refine Ao (λ_=>?_) (λh9=>?_)
     ·refine Ak [cT b s xb c ki ko] hs λw hs=>?_;refine Aa (Ar (x:=s) (Ar (Aa (Ag (x:=s) hs (Ag hs (Af hs ?_))))));refine An (Bp BO (K:=[i.drop 1,o,a]) (j:=1) hs (lt3 (by decide)) (show 3<=4 by decide)) λe w ⟨he,hs⟩=>⟨_,he,Af hs ?_⟩;have hnd:=nd3 (i:=i.drop 1) (o:=o) (a:=a) (M:=cT b s xb c ki ko::M) (by exact Ab.fin hs);have h0:0<o.length:=by omega
      have hm:=C1 h0;refine As (BT BO (K:=[i.drop 1,o,a]) (key:=BV o) hs (hnd.small _ (.inr (.inl hm))) (by omega) (show 3<=4 by decide)) λe w ⟨he,hs⟩=>⟨he,?_⟩;have e1:Dp [i.drop 1,o,a] (BV o)=[i.drop 1,o.drop 1,a]:=by
       show[Ap _ _,Ap o _,Ap a _]=_;rw[Au λh=>(hnd.io _ h).1 hm,Au (hnd.oa _ hm),BI hnd.no h0]
      rw[e1] at hs;exact ih (o.drop 1) w (by rw[List.length_drop];omega) hs
     ·refine jw Ml ?_;have h9:=of_decide_eq_false h9;have e2:(Bu [i.drop 1,o,a] [1]:Int)=o.length:=by simp[Bu]
      rw[e2] at h9;exact⟨_,_,_,rfl,hev,BX (o:=o) ⟨rfl,hev.ok⟩ h2 (by omega) hs⟩
   exact AO _ (loop o.length o w rfl hs)
 refine Ak [cT b s xb c ki ko] hs λw hs=>?_;refine Aa (Ar (x:=s) (Ar (Aa (Ar ?_))));refine Ai hs λnb w hs=>Af hs ?_;refine AM BO (nr:=3) (K:=[i,o,a]) [0] (M:=cT b s xb c ki ko::M) (by exact Ab.fin hs) (by omega) rfl λw hs=>?_;refine Af hs ?_;have hs:Ab W w (cT b s xb c ki ko::rowsC s xb 5000 [i,o,a]::M):=by exact Ab.fin hs
 have e0:(Bu [i,o,a] [0]:Int)=i.length:=by simp[Bu]
 rw[e0]
 with_reducible refine Az (λh5=>?_) (λh5=>?_)
 ·refine Aa (Ar (x:=s) (Ar ?_));refine Ai hs λnb w hs=>Af hs ?_;refine AM BO (nr:=3) (K:=[i,o,a]) [2] (M:=cT b s xb c ki ko::M) (by exact Ab.fin hs) (by omega) rfl λw hs=>?_;have e2:(Bu [i,o,a] [2]:Int)=a.length:=by simp[Bu]
  rw[e2];exact j1 w _ (λh=>by have:=of_decide_eq_true h;omega) (λh=>by have:=of_decide_eq_false h;omega) (by exact Ab.fin hs)
 ·exact Af hs (j1 w false (λh=>by cases h) (λ_=>by omega) hs)
theorem MO(hs:Ab W w (JL b c R::M)):Ba PR 313 #[pq b 0] w λv w'=>∃(l:Sl) (g S:BL),v = .l l.a l.n l.c/\La c R g S/\Ab W w' (JL b c S::recs Am.str l g::M):=by
 refine cw ⟨mixed,Tryz.func313,rfl⟩ Aln ?_;have hk:=OX hs;have hc1:=hk.c1;refine Ak [JL b c R] hs λw hs=>?_;refine Aa ?_;refine GB (k:=.int .i64) c (λw' h=>Abp h) ?_;refine Ah (V5 hs) λv w ⟨hv,hs⟩=>⟨_,hv,Af hs ?_⟩
 with_reducible refine Az (λh1=>?_) (λh1=>?_)
 ·exact⟨⟨none,0,0⟩,[],R,rfl,.inl ⟨rfl,rfl,h1⟩,(Ab.nilR Am.str (hs)).perm (List.Perm.swap _ _ _)⟩
 ·refine AH (YP hs) λv w ⟨x,yes,S,hv,hev,hs⟩=>⟨_,_,hv,?_⟩;have hy:yes=true:=by rw[hev.says];exact decide_eq_true (by omega)
  subst hy;refine Ai hs λnb w hs=>?_;have hs:=Ab.blkS (b:=nb) (cs:=[.s x]) (n:=1) Am.str [x] hs rfl rfl;exact⟨⟨some ⟨nb,0,none⟩,1,1⟩,[x],S,rfl,.inr ⟨x,rfl,hev,h1⟩,by exact Ab.fin hs⟩
theorem Ag5(hz:key.size<64)(hs:Ab W w (JL b c R::M)):Ba PR 300 #[pq b 0,.s key] w λv w'=>∃(hit:Bool) (l:Sl) (g S:BL),v = .tuple #[.b hit,.l l.a l.n l.c]/\Ey c R key hit g S/\Ab W w' (JL b c S::recs Am.str l g::M):=by
 refine cw ⟨mixed,Tryz.func300,rfl⟩ Ale ?_;obtain⟨s,xb,ki,ko,i,o,a,h1,h2,h3,hs⟩:=Dl hs;have hk:=h1.2;refine Ac rfl (Aa (Ag (x:=s) hs (Ag hs ?_)));refine An (D9 BO (K:=[i,o,a]) hs hz) λe w ⟨he,hs⟩=>⟨_,he,?_⟩;have hnd:=nd3 (i:=i) (o:=o) (a:=a) (M:=cT b s xb c ki ko::M) (by exact Ab.fin hs);rcases QP i o a key with⟨h,h4⟩|⟨h,h4,h5⟩|⟨h,h4,h5,h6⟩|⟨h,h4,h5,h6⟩ <;> rw[h]
 ·refine Ac rfl (Al rfl ?_);have ha:=Ey.same hk (by rw[h1.1];exact List.mem_append_left _ h4) (List.Perm.refl R)
  exact⟨true,⟨none,0,0⟩,[],_,rfl,ha,(Ab.nilR Am.str (BX h1 h2 h3 hs)).perm (List.Perm.swap _ _ _)⟩
 ·refine Ac rfl (Ac rfl (Al rfl ?_));have hno:key∉R:=by rw[h1.1,List.mem_append];exact λh=>h.elim h4 (hnd.oa _ h5)
  refine Aa (Ag (x:=s) hs (Ag hs ?_));refine As (BT BO (K:=[i,o,a]) hs hz (by omega) (show 3<=4 by decide)) λe w ⟨he,hs⟩=>⟨he,?_⟩;have e1:Dp [i,o,a] key=[i,Ap o key,a]:=by
   show[Ap i _,Ap o _,Ap a _]=_;rw[Au h4,Au (hnd.oa _ h5)]
  rw[e1] at hs;have hs:=BX h1 h2 (by have:=Bh o key;omega) hs
  refine Ah (MO hs) λv w ⟨l,g,S,hv,hrec,hs⟩=>⟨_,hv,?_⟩;clear h1 h2 h3 hnd h4 h5 e1;obtain⟨s,xb,ki,ko,i,o,a,h1,h2,h3,hs⟩:=Dl hs;refine Aa (Ag (x:=s) hs (Ag hs ?_));refine As (Y4 BO (j:=2) hs (by decide) hz ⟨(KU h1).1,h3⟩) λe w ⟨he,hs⟩=>⟨he,?_⟩;have hnS:=hrec.not hno;have e1:Db [i,o,a] 2 key=[i,Ap o key,a++[key]]:=by
   show[Ap i _,Ap o _,Ap a _++[_]]=_;rw[Au (show key∉i from λh=>hnS (by rw[h1.1];exact List.mem_append_left _ h)),Au (show key∉a from λh=>hnS (by rw[h1.1];exact List.mem_append_right _ h))]
  rw[e1] at hs;have ha:=Ey.miss hk hno hz hrec (T:=i++(a++[key])) (by rw[h1.1];exact En)
  exact⟨false,l,g,_,rfl,ha,BX ⟨rfl,ha.ok⟩ h2 (by have:=Bh o key;omega) hs⟩
 ·refine Al rfl (Aa (Ag (x:=s) hs (Ag hs ?_)));refine As (Y4 BO (j:=2) hs (by decide) hz ⟨(KU h1).1,h3⟩) λe w ⟨he,hs⟩=>⟨he,?_⟩;have e1:Db [i,o,a] 2 key=[i,o,Ap a key++[key]]:=by
   show[Ap i _,Ap o _,Ap a _++[_]]=_;rw[Au h4,Au h5]
  rw[e1] at hs;have ha:=Ey.same (S:=i++(Ap a key++[key])) hk (by rw[h1.1];exact List.mem_append_right _ h6) (by
   rw[h1.1];exact List.Perm.append_left _ (List.perm_append_comm.trans (Cm hnd.na h6).symm))
  exact⟨true,⟨none,0,0⟩,[],_,rfl,ha,(Ab.nilR Am.str (BX ⟨rfl,ha.ok⟩ h2 h3 hs)).perm (List.Perm.swap _ _ _)⟩
 ·refine Ac rfl (Ac rfl (Ac rfl ?_));have hno:key∉R:=by rw[h1.1,List.mem_append];exact λh=>h.elim h4 h6
  have hs:=BX h1 h2 h3 hs;refine Ah (MO hs) λv w ⟨l,g,S,hv,hrec,hs⟩=>⟨_,hv,?_⟩;clear h1 h2 h3 hnd h4 h5 h6;obtain⟨s,xb,ki,ko,i,o,a,h1,h2,h3,hs⟩:=Dl hs;refine Aa (Ag (x:=s) hs (Ag hs ?_));refine As (Y4 BO (j:=0) hs (by decide) hz ⟨(KU h1).1,h3⟩) λe w ⟨he,hs⟩=>⟨he,?_⟩;have hnS:=hrec.not hno;have e1:Db [i,o,a] 0 key=[i++[key],Ap o key,a]:=by
   show[Ap i _++[_],Ap o _,Ap a _]=_;rw[Au (show key∉i from λh=>hnS (by rw[h1.1];exact List.mem_append_left _ h)),Au (show key∉a from λh=>hnS (by rw[h1.1];exact List.mem_append_right _ h))]
  rw[e1] at hs;have ha:=Ey.miss hk hno hz hrec (T:=(i++[key])++a) (by rw[h1.1];exact Di)
  exact⟨false,l,g,_,rfl,ha,BX ⟨rfl,ha.ok⟩ h2 (by have:=Bh o key;omega) hs⟩
theorem Aw5(hz:key.size<64)(hs:Ab W w (JL b c R::M)):Ba PR 306 #[pq b 0,.s key] w λv w'=>∃(yes:Bool) (S:BL),v = .b yes/\CZ c R key yes S/\Ab W w' (JL b c S::M):=by
 refine cw ⟨mixed,Tryz.func306,rfl⟩ Alk ?_;have hk:=OX hs;have hr:=hk.room;refine Ak [JL b c R] hs λw hs=>?_;refine Ac rfl ?_;refine Ah (Abf hz hs) λv w ⟨hv,hs⟩=>⟨_,hv,Af hs ?_⟩
 with_reducible refine Az (λh1=>?_) (λh1=>?_)
 ·exact Af hs ⟨false,R,rfl,CZ.no hk (λh=>h.1 h1),hs⟩
 refine Aa ?_;refine GB (k:=.int .i64) c (λw' h=>Abp h) ?_;refine Ah (V5 hs) λv w ⟨hv,hs⟩=>⟨_,hv,Af hs ?_⟩
 with_reducible refine Az (λh2=>?_) (λh2=>?_)
 ·exact⟨false,R,rfl,CZ.no hk (λh=>by omega),hs⟩
 refine jw Xc ?_;obtain⟨s,xb,ki,ko,i,o,a,h3,h4,h5,hs⟩:=Dl hs;refine Aa (Ag (x:=s) hs (Ag hs ?_));refine As (Y4 BO (j:=2) hs (by decide) hz ⟨(KU h3).1,h5⟩) λe w ⟨he,hs⟩=>⟨he,?_⟩;have e1:Db [i,o,a] 2 key=[i,Ap o key,a++[key]]:=by
  show[Ap i _,Ap o _,Ap a _++[_]]=_;rw[Au (show key∉i from λh=>h1 (by rw[h3.1];exact List.mem_append_left _ h)),Au (show key∉a from λh=>h1 (by rw[h3.1];exact List.mem_append_right _ h))]
 rw[e1] at hs;have hl:=CZ.yes hk hz h1 (by omega) (S:=i++(a++[key])) (by rw[h3.1];exact En)
 exact⟨true,_,rfl,hl,BX ⟨rfl,hl.ok⟩ h4 (by have:=Bh o key;omega) hs⟩
theorem Ag6(hz:key.size<64)(hs:Ab W w (JL b c R::M)):Ba PR 307 #[pq b 0,.s key] w λv w'=>∃(yes:Bool) (S:BL),v = .b yes/\Ft c R key yes S/\Ab W w' (JL b c S::M):=by
 refine cw ⟨mixed,Tryz.func307,rfl⟩ All ?_;have hk:=OX hs;refine Ah (Abf hz hs) λv w ⟨hv,hs⟩=>⟨_,hv,?_⟩
 by_cases h1:key∈R
 ·refine Ac (by rw[decide_eq_true h1];rfl) ?_;obtain⟨s,xb,ki,ko,i,o,a,h3,h4,h5,hs⟩:=Dl hs;refine Aa (Ag (x:=s) hs (Ag hs ?_));refine As (BT BO (K:=[i,o,a]) hs hz (by omega) (show 3<=4 by decide)) λe w ⟨he,hs⟩=>⟨he,?_⟩;rw[h3.1] at hk h1;have hr:=Ft.cut2 hk h1;rw[<- h3.1] at hr;exact⟨true,_,rfl,hr,BX (i:=Ap i key) (o:=Ap o key) (a:=Ap a key) ⟨rfl,hr.ok⟩ h4 (by have:=Bh o key;omega) hs⟩
 ·refine Al (by rw[decide_eq_false h1];rfl) ⟨false,R,rfl,Ft.no hk h1,hs⟩
end
end Go.Proofs.YtjipofkjmmpjdaaGreat
namespace Go.Proofs.YtjipofkjmmpjdaaGreat
open Go.Hb Go.IntWalk
theorem MP{a:Nat}(ha:a<18446744073709551616):IntKind.u64.wrap (a:Int)=(a:Int):=by rw[IntKind.wrap_u64];omega
theorem Ax1(a:Nat):IntKind.u64.wrap (a:Int)=((a % 18446744073709551616:Nat):Int):=by rw[IntKind.wrap_u64];omega
theorem Adr(a:Nat):C8 .u64 (a:Int) 32=((a / 4294967296:Nat):Int):=by
 show(a:Int).fdiv (2 ^ 32)=_;rw[Int.fdiv_eq_ediv_of_nonneg _ (by decide)];rfl
theorem Aas{a:Nat}(ha:a<18446744073709551616):bits .and .u64 (a:Int) 4294967295=((a % 4294967296:Nat):Int):=by
 have h:=bits_and_u64_nat a 4294967295 ha (by omega);have e:a &&& 4294967295=a % 4294967296:=Nat.and_two_pow_sub_one_eq_mod a 32;rw[e] at h;exact h
theorem A27(a b:Nat):(a:Int)*(b:Int)=((a*b:Nat):Int):=(Int.natCast_mul a b).symm
theorem Ax3(a b:Nat):(a:Int)+(b:Int)=((a+b:Nat):Int):=(Int.natCast_add a b).symm
def Hs(n lo hi:Int):Int:=if hi<(if lo>n then lo else n) then hi else (if lo>n then lo else n)
def EB(n most:Int):Int:=if n>=most then n else n+1
section
variable{W w:World}{M:List HP}
theorem Dk(h:Ab W w M)(n lo hi:Int):Calls PR 72 #[.i n,.i lo,.i hi] w λe w'=>e = .returned (.i (Hs n lo hi))/\Ab W w' M:=by
 refine c1 (cw ⟨mixed,Tryz.func72,rfl⟩ Auw ?_);exact⟨rfl,h⟩
theorem F5(n:Int){lo hi:Int}(h:lo<=hi):lo<=Hs n lo hi/\Hs n lo hi<=hi:=by
 unfold Hs;split <;> split at * <;> omega
theorem Ip(h:Ab W w M){a b:Int}(hb:b<=9223372036854775807)(ha:-9223372036854775808<=a):Calls PR 119 #[.i a,.i b] w λe w'=>e = .returned (.i (EB a b))/\Ab W w' M:=by
 refine c1 (cw ⟨mixed,Tryz.func119,rfl⟩ Aim ?_);unfold EB;refine Ao (λhc=>?_) (λhc=>?_) <;> simp only[decide_eq_true_eq,decide_eq_false_iff_not] at hc
 ·rw[if_pos hc];exact⟨rfl,h⟩
 ·rw[if_neg hc,i64_in _ (by omega)];exact⟨rfl,h⟩
theorem Aoi(h:Ab W w M){x y:Nat}(hx:x<18446744073709551616)(hy:y<18446744073709551616):Calls PR 169 #[.int .u64 x,.int .u64 y] w λe w'=>
  e = .returned (.tuple #[.int .u64 ((x*y / 18446744073709551616:Nat):Int),.int .u64 ((x*y % 18446744073709551616:Nat):Int)])/\Ab W w' M:=by
 refine c1 (cw ⟨mixed,Tryz.func169,rfl⟩ Ajt ?_);refine Ax (by omega) (Ax (by omega) (Ax (by omega) (Ax (by omega) (Ax (by omega) ?_))));refine⟨?_,h⟩;obtain⟨bd,bt,bw,hhi⟩:=Lib.mul64_hi x y hx hy;have ba:=Lib.half_mul_le (a:=x / 4294967296) (b:=y / 4294967296) (by omega) (by omega);have bb:=Lib.half_mul_le (a:=x / 4294967296) (b:=y % 4294967296) (by omega) (by omega);have bc:=Lib.half_mul_le (a:=x % 4294967296) (b:=y / 4294967296) (by omega) (by omega);have ba':x / 4294967296*(y / 4294967296)<18446744073709551616:=by omega
 have bb':x / 4294967296*(y % 4294967296)<18446744073709551616:=by omega
 have bc':x % 4294967296*(y / 4294967296)<18446744073709551616:=by omega
 have bh1:x / 4294967296*(y / 4294967296)+(x / 4294967296*(y % 4294967296)+x % 4294967296*(y % 4294967296) / 4294967296) / 4294967296<18446744073709551616:=by omega
 have bh:x / 4294967296*(y / 4294967296)+(x / 4294967296*(y % 4294967296)+x % 4294967296*(y % 4294967296) / 4294967296) / 4294967296+((x / 4294967296*(y % 4294967296)+x % 4294967296*(y % 4294967296) / 4294967296) % 4294967296+x % 4294967296*(y / 4294967296)) / 4294967296<18446744073709551616:=by omega
 rw[Aas hx,Aas hy,Adr,Adr];simp only[A27,Ax3,MP bd,MP bb',Adr,MP bt,Aas bt,MP bc',MP bw,MP ba',MP bh1,MP bh,Ax1 (x*y)];rw[hhi]
end
end Go.Proofs.YtjipofkjmmpjdaaGreat
namespace Go.Hb
abbrev cK(b n:Nat)(s:Sl)(m:Int):HP:=blk b [.i (n:Int),.l s.a s.n s.c,.i m]
def G0(b:Nat):HP:=JM λ(z:Nat×Sl×List Int×Int)=>EA (z.2.2.1.length=2*z.1/\8<=z.1/\z.1<=4096) (AJ [cK b z.1 z.2.1 z.2.2.2,recs (Am.int .u8) z.2.1 z.2.2.1])
def GJ(b:Nat):HP:=JM λ(z:Sl×List Int)=>EA (1<=z.2.length/\z.2.length<=4096) (AJ [blk b [.l z.1.a z.1.n z.1.c],recs (Am.int .u64) z.1 z.2])
def Aac(l:List Int):List Value:=l.map (Value.int .i64)
theorem Anl{l:List Int}{i:Nat}{x:Int}:(Aac l).set i (.i x)=Aac (l.set i x):=by unfold Aac;rw[List.map_set]
theorem I8{k:IntKind}:∀n,CX [.int k (0:Int)] n=(Am.int k).flat (List.replicate n 0)
 | 0=>rfl
 | n+1=>by
  rw[List.replicate_succ];show[Value.int k (0:Int)]++CX [.int k (0:Int)] n=_;rw[I8 n];rfl
section
variable{W w:World}{M L:List HP}{b n:Nat}
theorem ON(h:Ab W w (G0 b::M)):∃(n:Nat) (s:Sl) (l:List Int) (m:Int),(l.length=2*n/\8<=n/\n<=4096)/\s.n=l.length/\Ab W w (cK b n s m::recs (Am.int .u8) s l::M):=by
 obtain⟨⟨n,s,l,m⟩,h⟩:=h.openE;obtain⟨hp,h⟩:=h.openA;have h:=h.openL;have h:Ab W w (cK b n s m::recs (Am.int .u8) s l::M):=h;exact⟨n,s,l,m,hp,(Bx (s:=s) h).1,h⟩
theorem HK{s:Sl}{l:List Int}{m:Int}(hp:l.length=2*n/\8<=n/\n<=4096)(h:Ab W w (cK b n s m::recs (Am.int .u8) s l::M)):Ab W w (G0 b::M):=Ab.shutE (n,s,l,m) (Ab.shutA hp (Ab.shutL (Ps:=[_,_]) h))
theorem TL(h:Ab W w (GJ b::M)):∃(s:Sl) (l:List Int),(1<=l.length/\l.length<=4096)/\s.n=l.length/\Ab W w (blk b [.l s.a s.n s.c]::recs (Am.int .u64) s l::M):=by
 obtain⟨⟨s,l⟩,h⟩:=h.openE;obtain⟨hp,h⟩:=h.openA;have h:=h.openL;have h:Ab W w (blk b [.l s.a s.n s.c]::recs (Am.int .u64) s l::M):=h;exact⟨s,l,hp,(Bx (s:=s) h).1,h⟩
theorem JV{s:Sl}{l:List Int}(hp:1<=l.length/\l.length<=4096)(h:Ab W w (blk b [.l s.a s.n s.c]::recs (Am.int .u64) s l::M)):Ab W w (GJ b::M):=Ab.shutE (s,l) (Ab.shutA hp (Ab.shutL (Ps:=[_,_]) h))
theorem Ahx{k:IntKind}{o:Nat}{s:Sl}{K:WP}:∀(n i:Nat)(l:List Int)(w:World),i+n=l.length->Ab W w (reca (Am.int k) b o s l::M)->(∀(l':List Int)(w':World),l'.length=l.length->Ab W w' (reca (Am.int k) b o s l'::M)->K w')->sts (CX [.int k (0:Int)] n) b (o+i) K w
 | 0,i,l,w,hi,hs,hK=>hK l w rfl hs
 | n+1,i,l,w,hi,hs,hK=>by
  show st b (o+i) (.int k 0) (sts (CX [.int k (0:Int)] n) b (o+i+1) K) w;refine A01 (i:=i) (j:=0) (a':=(0:Int)) hs (by show o+i=o+(i*1+0);omega) (by omega) rfl Nat.one_pos λw hs=>?_
  rw[Nat.add_assoc];exact Ahx n (i+1) _ w (by rw[List.length_set];omega) hs λl' w' hl hs=>hK l' w' (by rw[hl,List.length_set]) hs
end
end Go.Hb
namespace Go.Proofs.YtjipofkjmmpjdaaGreat
open Go.Hb Go.IntWalk
section
variable{W w:World}{L M:List HP}{b n:Nat}{s:Sl}{l:List Int}{m:Int}{key:BA}
theorem A1m(x:Int):∃y:Nat,bits .and .i64 x 15=(y:Int)/\y<=15:=by
 have h2:(BitVec.ofInt 64 (15:Int)).toNat=15:=rfl;have hle:(BitVec.ofInt 64 x &&& BitVec.ofInt 64 15).toNat<=15:=by
  rw[BitVec.toNat_and,h2];exact Nat.and_le_right
 refine⟨_,?_,hle⟩;show IntKind.i64.wrap ((BitVec.ofInt 64 x &&& BitVec.ofInt 64 15).toNat:Int)=_;exact i64_in _ (by omega)
theorem A2i(hs:Ab W w L){r:Int}:Ba PR 188 #[.i r] w λv w'=>∃b,v=pq b 0/\Ab W w' (G0 b::L):=by
 refine cw ⟨mixed,Tryz.func188,rfl⟩ Ajx ?_;have hc:=F5 r (lo:=1) (hi:=1024) (by decide);have loop:∀(f n:Nat)(w:World),1024<=n+f->8<=n->n<=2048->Ab W w L->NM Bg (λv w'=>∃b,v=pq b 0/\Ab W w' (G0 b::L)) (f+1) r (n:Int) w:=by
  clear hs;intro f
  induction f with
  | zero=>
   intro n w hf h8 hn hs;rw[LU];refine An (Dk hs _ _ _) λe w ⟨he,hs⟩=>⟨_,he,?_⟩;refine Ac (decide_eq_false (by omega)) ?_;refine jw LS ?_;refine Ax (by decide) ?_;rw[i64_in ((4:Int)*n) (by omega),Int.tdiv_eq_ediv_of_nonneg (by omega),i64_in _ (by omega)];refine Ee (sz:=1) hs rfl (by omega) (by omega) (by omega) (by omega) λs w hn2 _ _ hs=>?_;rw[I8] at hs;have hs:Ab W w (recs (Am.int .u8) s (List.replicate (4*(n:Int) / 2).toNat 0)::L):=hs;refine Ai hs λb w hs=>?_;exact⟨b,rfl,HK ⟨by rw[List.length_replicate];omega,h8,by omega⟩ hs⟩
  | succ f ih=>
   intro n w hf h8 hn hs;rw[LU];refine An (Dk hs _ _ _) λe w ⟨he,hs⟩=>⟨_,he,?_⟩
   with_reducible refine Az (λh1=>?_) (λh1=>?_)
   ·rw[i64_in _ (by omega),show(n:Int)*2=((2*n:Nat):Int) by omega];exact ih (2*n) w (by omega) (by omega) (by omega) hs
   ·refine jw LS ?_;refine Ax (by decide) ?_;rw[i64_in ((4:Int)*n) (by omega),Int.tdiv_eq_ediv_of_nonneg (by omega),i64_in _ (by omega)];refine Ee (sz:=1) hs rfl (by omega) (by omega) (by omega) (by omega) λs w hn2 _ _ hs=>?_;rw[I8] at hs;have hs:Ab W w (recs (Am.int .u8) s (List.replicate (4*(n:Int) / 2).toNat 0)::L):=hs;refine Ai hs λb w hs=>?_;exact⟨b,rfl,HK ⟨by rw[List.length_replicate];omega,h8,by omega⟩ hs⟩
 exact AO _ (loop 1016 8 w (by omega) (by omega) (by omega) hs)
theorem Ao9{i:Nat}(hl:l.length=2*n/\8<=n/\n<=4096)(hi:i<4*n)(hs:Ab W w (cK b n s m::recs (Am.int .u8) s l::M)):Ba PR 354 #[pq b 0,.i (i:Int)] w λv w'=>∃y:Nat,v = .i (y:Int)/\y<=15/\Ab W w' (cK b n s m::recs (Am.int .u8) s l::M):=by
 refine cw ⟨mixed,Tryz.func354,rfl⟩ Amd ?_;have hn:=BE (s:=s) (E:=Am.int .u8) (rows:=l) hs;refine Aa (Ag (x:=s) hs (Ax (by decide) ?_));rw[Int.tdiv_eq_ediv_of_nonneg (by omega),i64_in _ (by omega),show(i:Int) / 2=((i / 2:Nat):Int) by omega];refine Cn (s:=s) (E:=Am.int .u8) (rows:=l) hs λb_ o_ ha_=>?_;refine C6 (s:=s) (E:=Am.int .u8) (rows:=l) ha_ hs ?_ (hc:=rfl);have hmod:Int.tmod (i:Int) 2=((i % 2:Nat):Int):=rfl;refine Ax (by decide) (Ax ?_ ?_)
 ·rw[hmod,i64_in _ (by omega)];omega
 obtain⟨y,hy,hy2⟩:=A1m (IntKind.wrap .i64 (C8 .u8 (l.getD ((i / 2:Nat):Int).toNat default) (IntKind.wrap .i64 ((Int.tmod (i:Int) 2)*4))));exact⟨y,by rw[<- hy],hy2,hs⟩
theorem Apa{i:Nat}{v2:Int}(hl:l.length=2*n/\8<=n/\n<=4096)(hi:i<4*n)(hs:Ab W w (cK b n s m::recs (Am.int .u8) s l::M)):Ba PR 355 #[pq b 0,.i (i:Int),.i v2] w λv w'=>v = .tuple #[]/\∃l':List Int,l'.length=l.length/\Ab W w' (cK b n s m::recs (Am.int .u8) s l'::M):=by
 refine cw ⟨mixed,Tryz.func355,rfl⟩ Ame ?_;have hn:=BE (s:=s) (E:=Am.int .u8) (rows:=l) hs;have hmod:Int.tmod (i:Int) 2=((i % 2:Nat):Int):=rfl;have h4:(0:Int)<=IntKind.wrap .i64 ((Int.tmod (i:Int) 2)*4):=by rw[hmod,i64_in _ (by omega)];omega
 refine Ax (by decide) ?_;refine Ak [cK b n s m] hs λw hs=>?_;refine Aa (Ar (x:=s) (Ax (by decide) (Aa (Ax (by decide) (Ax h4 (Ax h4 ?_))))));refine Ag (x:=s) hs (Af hs ?_);rw[Int.tdiv_eq_ediv_of_nonneg (by omega),i64_in _ (by omega),show(i:Int) / 2=((i / 2:Nat):Int) by omega];refine BG (s:=s) hs λb_ o_ hs=>?_;refine Cj hs (Af hs ?_);refine GT hs ?_;refine Axw hs λw hs=>?_;have hs:=Ab.shut s hs;exact⟨rfl,_,List.length_set,hs⟩
theorem T6(hl:l.length=2*n/\8<=n/\n<=4096)(hz:key.size<64)(hs:Ab W w (cK b n s m::M)):Ba PR 353 #[pq b 0,.s key] w λv w'=>∃x y z u:Nat,v = .agg #[.i (x:Int),.i (y:Int),.i (z:Int),.i (u:Int)] /\
  (x<4*n/\y<4*n/\z<4*n/\u<4*n)/\Ab W w' (cK b n s m::M):=by
 refine cw ⟨mixed,Tryz.func353,rfl⟩ Amc ?_;refine Ai hs λtb w hs=>?_;refine Ai hs λlb w hs=>?_;have loop:∀(f i:Nat)(xs:List Int)(w:World),i+f=4->xs.length=4->(∀x∈xs,0<=x/\x<4*n)->Ab W w (blk lb (Aac xs)::blk tb (Aac [0,0,0,0])::cK b n s m::M) ->
   Ow Bg (λv w'=>∃x y z u:Nat,v = .agg #[.i (x:Int),.i (y:Int),.i (z:Int),.i (u:Int)]/\(x<4*n/\y<4*n/\z<4*n/\u<4*n)/\Ab W w' (cK b n s m::M)) (f+1) (some ⟨b,0,none⟩) key tb 0 lb 0 (i:Int) w:=by
  clear hs;intro f
  induction f with
  | zero=>
   intro i xs w hi hx hb hs;rw[Mw];refine Ac (decide_eq_false (by omega)) ?_;refine jw Xq ?_;obtain⟨x,y,z,u,rfl⟩:∃x y z u,xs=[x,y,z,u]:=by
    match xs,hx with
    | [x,y,z,u],_=>exact⟨x,y,z,u,rfl⟩
   have hs:Ab W w (blk lb [.i x,.i y,.i z,.i u]::blk tb [.i 0,.i 0,.i 0,.i 0]::cK b n s m::M):=hs
   iterate 4 refine Ag hs ?_
   iterate 4 refine A4 hs λw hs=>?_
   iterate 4 refine Ag hs ?_
   have h1:=hb x (by simp);have h2:=hb y (by simp);have h3:=hb z (by simp);have h4:=hb u (by simp)
   refine⟨x.toNat,y.toNat,z.toNat,u.toNat,?_,⟨by omega,by omega,by omega,by omega⟩,by exact Ab.fin hs⟩;rw[Int.toNat_of_nonneg h1.1,Int.toNat_of_nonneg h2.1,Int.toNat_of_nonneg h3.1,Int.toNat_of_nonneg h4.1]
  | succ f ih=>
   intro i xs w hi hx hb hs;rw[Mw];refine Al (decide_eq_true (by omega)) ?_;refine Ak [cK b n s m] hs λw hs=>?_;refine Aa (Ar (Aa (Ar ?_)));refine An (Gj hs (by omega)) λe w ⟨he,hs⟩=>⟨_,he,Af hs ?_⟩;refine An (FT (n:=n) hs (FM _ _).1 (by omega) (by omega)) λe w ⟨he,hs⟩=>⟨_,he,Af hs ?_⟩;refine Ax (by omega) ?_;have hr:=Nat.mod_lt (EF (IntKind.wrap .u64 (IntKind.wrap .i64 ((i:Int)+1))) key).toNat (show n>0 by omega);generalize (EF (IntKind.wrap .u64 (IntKind.wrap .i64 ((i:Int)+1))) key).toNat % n=r at hr
   have h4:i=0\/i=1\/i=2\/i=3:=by omega
   have hm:0<=(i:Int)*n/\(i:Int)*n<=3*n:=by rcases h4 with rfl|rfl|rfl|rfl <;> omega
   rw[i64_in ((i:Int)*n) (by omega),i64_in _ (by omega),i64_in ((i:Int)+1) (by omega)];refine HS 0 (cs:=Aac xs) hs rfl (by unfold Aac;simp;omega) λw hs=>?_
   have e:0+((i:Int)).toNat*1=i:=by omega
   rw[e,Anl] at hs;refine ih (i+1) (xs.set i ((i:Int)*n+r)) w (by omega) (by simpa using hx) (λx hx2=>?_) hs;rcases List.mem_or_eq_of_mem_set hx2 with h|h
   ·exact hb x h
   ·subst h;omega
 exact AO _ (loop 4 0 [0,0,0,0] w (by omega) rfl (by simp;omega) (by exact Ab.fin hs))
theorem A2e{x y z u:Nat}{i:Nat}(hi:i<4):∃k:Nat,([.i (x:Int),.i (y:Int),.i (z:Int),.i (u:Int)]:List Value)[((i:Nat):Int).toNat]? = some (.i (k:Int))/\(k=x\/k=y\/k=z\/k=u):=by
 match i,hi with
 | 0,_=>exact⟨x,rfl,.inl rfl⟩
 | 1,_=>exact⟨y,rfl,.inr (.inl rfl)⟩
 | 2,_=>exact⟨z,rfl,.inr (.inr (.inl rfl))⟩
 | 3,_=>exact⟨u,rfl,.inr (.inr (.inr rfl))⟩
theorem YH(hz:key.size<64)(hs:Ab W w (G0 b::M)):Ba PR 352 #[pq b 0,.s key] w λv w'=>∃y:Int,v = .i y/\Ab W w' (G0 b::M):=by
 refine cw ⟨mixed,Tryz.func352,rfl⟩ Amb ?_;obtain⟨n,s,l,m,hl,hsn,hs⟩:=ON hs;refine Ac rfl ?_;refine Calls.mono (T6 hl hz hs) λe w ⟨v,he,x,y,z,u,hv,hb,hs⟩=>⟨x,y,z,u,by rw[he,hv],?_⟩;have loop:∀(f i:Nat)(low:Int)(w:World),i+f=4->Ab W w (cK b n s m::recs (Am.int .u8) s l::M) ->
   Ou Bg (λv w'=>∃y:Int,v = .i y/\Ab W w' (G0 b::M)) (f+1) (some ⟨b,0,none⟩) low x y z u (i:Int) w:=by
  clear hs;intro f
  induction f with
  | zero=>
   intro i low w hi hs;rw[Mv];refine Ac (decide_eq_false (by omega)) ?_;refine jw Xp ?_;exact⟨_,rfl,HK hl hs⟩
  | succ f ih=>
   intro i low w hi hs;rw[Mv];refine Al (decide_eq_true (by omega)) (Ax (by omega) ?_);obtain⟨k,hk,hk2⟩:=A2e (x:=x) (y:=y) (z:=z) (u:=u) (i:=i) (by omega);refine⟨_,hk,rfl,?_⟩;refine Ah (Ao9 hl (by omega) hs) λv w ⟨y,hv,_,hs⟩=>⟨_,hv,?_⟩;rw[i64_in _ (by omega)];exact ih (i+1) _ w (by omega) hs
 exact AO _ (loop 4 0 15 w (by omega) hs)
theorem Ao7(hs:Ab W w (G0 b::M)):Ba PR 356 #[pq b 0] w λv w'=>v = .tuple #[]/\Ab W w' (G0 b::M):=by
 refine cw ⟨mixed,Tryz.func356,rfl⟩ Amf ?_;obtain⟨n,s,l,m,hl,hsn,hs⟩:=ON hs;refine Ac rfl (Aa (Ag hs ?_));rw[i64_in _ (by omega)];have loop:∀(f i:Nat)(l:List Int)(w:World),i+f=4*n->(l.length=2*n/\8<=n/\n<=4096)->Ab W w (cK b n s m::recs (Am.int .u8) s l::M) ->
   Oy Bg (λv w'=>v = .tuple #[]/\Ab W w' (G0 b::M)) (f+1) (some ⟨b,0,none⟩) (4*(n:Int)) (i:Int) w:=by
  clear hs hl hsn;intro f
  induction f with
  | zero=>
   intro i l w hi hl hs;rw[Mx];refine Ac (decide_eq_false (by omega)) ?_;refine jw Xr ?_;refine Aa (Ag hs (Ax (by decide) (Aa (A4 hs λw hs=>?_))));exact⟨rfl,HK hl hs⟩
  | succ f ih=>
   intro i l w hi hl hs;rw[Mx];refine Al (decide_eq_true (by omega)) ?_;refine Ah (Ao9 hl (by omega) hs) λv w ⟨y,hv,_,hs⟩=>⟨_,hv,Ax (by decide) ?_⟩;refine AX (Apa hl (by omega) hs) λv w ⟨hv,l',hl',hs⟩=>⟨hv,?_⟩;rw[i64_in ((i:Int)+1) (by omega)];exact ih (i+1) l' w (by omega) ⟨by omega,hl.2⟩ hs
 exact AO _ (loop (4*n) 0 l w (by omega) hl hs)
theorem A0z(hz:key.size<64)(hs:Ab W w (G0 b::M)):Ba PR 344 #[pq b 0,.s key] w λv w'=>v = .tuple #[]/\Ab W w' (G0 b::M):=by
 refine cw ⟨mixed,Tryz.func344,rfl⟩ Al5 ?_;refine Ac rfl ?_;refine Ah (YH hz hs) λv w ⟨low,hv,hs⟩=>⟨_,hv,?_⟩;refine Ao (λ_=>⟨rfl,hs⟩) (λ_=>?_);obtain⟨n,s,l,m,hl,hsn,hs⟩:=ON hs;refine Calls.mono (T6 hl hz hs) λe w ⟨v,he,x,y,z,u,hv,hb,hs⟩=>⟨x,y,z,u,by rw[he,hv],?_⟩;have loop:∀(f i:Nat)(l:List Int)(w:World),i+f=4->(l.length=2*n/\8<=n/\n<=4096)->Ab W w (cK b n s m::recs (Am.int .u8) s l::M) ->
   Kn Bg (λv w'=>v = .tuple #[]/\Ab W w' (G0 b::M)) (f+1) (some ⟨b,0,none⟩) low x y z u (i:Int) w:=by
  clear hs hl hsn;intro f
  induction f with
  | zero=>
   intro i l w hi hl hs;rw[Mt];refine Ac (decide_eq_false (by omega)) ?_;refine jw Xm ?_;refine Aa (Ag hs (Aa (A4 hs λw hs=>?_)));refine Ak [cK b n s (IntKind.wrap .i64 (m+1))] hs λw hs=>?_;refine Aa (Ar (Aa (Ag hs (Af hs ?_))));refine Ao (λ_=>?_) (λ_=>⟨rfl,HK hl hs⟩);exact AX (Ao7 (HK hl hs)) λv w ⟨hv,hs⟩=>⟨hv,rfl,hs⟩
  | succ f ih=>
   intro i l w hi hl hs;rw[Mt];refine Al (decide_eq_true (by omega)) (Ax (by omega) ?_);obtain⟨k,hk,hk2⟩:=A2e (x:=x) (y:=y) (z:=z) (u:=u) (i:=i) (by omega);refine⟨_,hk,rfl,?_⟩;refine Ah (Ao9 hl (by omega) hs) λv w ⟨y,hv,hy,hs⟩=>⟨_,hv,?_⟩;rw[i64_in ((i:Int)+1) (by omega)];refine Ao (λ_=>?_) (λ_=>ih (i+1) l w (by omega) hl hs);refine An (Ip hs (b:=15) (by decide) (by omega)) λe w ⟨he,hs⟩=>⟨_,he,?_⟩;refine AX (Apa hl (by omega) hs) λv w ⟨hv,l',hl',hs⟩=>⟨hv,?_⟩;exact ih (i+1) l' w (by omega) ⟨by omega,hl.2⟩ hs
 exact AO _ (loop 4 0 l w (by omega) hl hs)
theorem Ao8(hs:Ab W w (G0 b::M)):Ba PR 343 #[pq b 0] w λv w'=>∃y:Int,v = .i y/\Ab W w' (G0 b::M):=by
 refine cw ⟨mixed,Tryz.func343,rfl⟩ Al4 ?_;obtain⟨n,s,l,m,hl,hsn,hs⟩:=ON hs;refine Ac rfl (Aa (Ag hs ?_));exact⟨_,rfl,HK hl hs⟩
theorem Aya(hs:Ab W w L){r:Int}:Ba PR 189 #[.i r] w λv w'=>∃b,v=pq b 0/\Ab W w' (GJ b::L):=by
 refine cw ⟨mixed,Tryz.func189,rfl⟩ Ajy ?_;have hc:=F5 r (lo:=1) (hi:=1024) (by decide);have fin:∀(n:Nat)(w:World),1<=n->n<=2048->Ab W w L->Ab3 Bg (λv w'=>∃b,v=pq b 0/\Ab W w' (GJ b::L)) (n:Int) w:=by
  clear hs;intro n w h1 hn hs;refine jw W4 ?_;refine Ax (by decide) ?_;rw[i64_in ((8:Int)*n) (by omega),Int.tdiv_eq_ediv_of_nonneg (by omega),i64_in _ (by omega)];obtain⟨k,hk,hk1⟩:∃k:Int,(if 8*(n:Int) / 64>1 then 8*(n:Int) / 64 else 1)=k/\1<=k/\k<=4096:=⟨_,rfl,by split <;> omega⟩
  rw[hk];refine Ee (sz:=1) hs rfl (by omega) (by omega) (by omega) (by omega) λs w hn2 _ _ hs=>?_;rw[I8] at hs;have hs:Ab W w (recs (Am.int .u64) s (List.replicate k.toNat 0)::L):=hs;refine Ai hs λb w hs=>?_;exact⟨b,rfl,JV (by rw[List.length_replicate];omega) hs⟩
 have loop:∀(f n:Nat)(w:World),1024<=n+f->1<=n->n<=2048->Ab W w L->NN Bg (λv w'=>∃b,v=pq b 0/\Ab W w' (GJ b::L)) (f+1) r (n:Int) w:=by
  clear hs;intro f
  induction f with
  | zero=>
   intro n w hf h8 hn hs;rw[LV];refine An (Dk hs _ _ _) λe w ⟨he,hs⟩=>⟨_,he,?_⟩;exact Ac (decide_eq_false (by omega)) (fin n w h8 hn hs)
  | succ f ih=>
   intro n w hf h8 hn hs;rw[LV];refine An (Dk hs _ _ _) λe w ⟨he,hs⟩=>⟨_,he,?_⟩
   with_reducible refine Az (λh1=>?_) (λh1=>?_)
   ·rw[i64_in _ (by omega),show(n:Int)*2=((2*n:Nat):Int) by omega];exact ih (2*n) w (by omega) (by omega) (by omega) hs
   ·exact fin n w h8 hn hs
 exact AO _ (loop 1023 1 w (by omega) (by omega) (by omega) hs)
theorem Ah4{i:Int}(hl:1<=l.length/\l.length<=4096)(hsn:s.n=l.length)(hz:key.size<64)(hs:Ab W w (blk b [.l s.a s.n s.c]::M)):Ba PR 351 #[pq b 0,.i i,.s key] w λv w'=>∃(x:Nat) (y:Int),v = .tuple #[.i (x:Int),.int .u64 y]/\x<l.length/\Ab W w' (blk b [.l s.a s.n s.c]::M):=by
 refine cw ⟨mixed,Tryz.func351,rfl⟩ Ama ?_;refine Ak [blk b [.l s.a s.n s.c]] hs λw hs=>?_;refine Aa (Ar (x:=s) ?_);refine An (Gj hs (by omega)) λe w ⟨he,hs⟩=>⟨_,he,Af hs ?_⟩;rw[i64_in ((64:Int)*(s.n:Int)) (by omega),show(64:Int)*(s.n:Int)=((64*s.n:Nat):Int) by omega];refine An (FT (n:=64*s.n) hs (FM _ _).1 (by omega) (by omega)) λe w ⟨he,hs⟩=>⟨_,he,?_⟩;have hr:=Nat.mod_lt (EF (IntKind.wrap .u64 (IntKind.wrap .i64 (11+i))) key).toNat (show 64*s.n>0 by omega);generalize (EF (IntKind.wrap .u64 (IntKind.wrap .i64 (11+i))) key).toNat % (64*s.n)=r at hr
 refine Ak [] hs λw hs=>?_;have hmod:Int.tmod (r:Int) 64=((r % 64:Nat):Int):=rfl;refine Ax (by decide) (Ax (by decide) (Ax (by rw[hmod];omega) ?_))
 rw[Int.tdiv_eq_ediv_of_nonneg (by omega),i64_in _ (by omega),show(r:Int) / 64=((r / 64:Nat):Int) by omega];exact⟨r / 64,_,rfl,by omega,hs⟩
theorem Ah3(hz:key.size<64)(hs:Ab W w (GJ b::M)):Ba PR 350 #[pq b 0,.s key] w λv w'=>∃t:Bool,v = .b t/\Ab W w' (GJ b::M):=by
 refine cw ⟨mixed,Tryz.func350,rfl⟩ Al9 ?_;refine Ac rfl ?_;obtain⟨s,l,hl,hsn,hs⟩:=TL hs;have loop:∀(f i:Nat)(w:World),i+f=3->Ab W w (blk b [.l s.a s.n s.c]::recs (Am.int .u64) s l::M) ->
   Oq Bg (λv w'=>∃t:Bool,v = .b t/\Ab W w' (GJ b::M)) (f+1) (some ⟨b,0,none⟩) key (i:Int) w:=by
  clear hs;intro f
  induction f with
  | zero=>
   intro i w hi hs;rw[Mu];refine Ac (decide_eq_false (by omega)) ?_;refine jw Xo ?_;exact⟨_,rfl,JV hl hs⟩
  | succ f ih=>
   intro i w hi hs;rw[Mu];refine Al (decide_eq_true (by omega)) ?_;refine AH (Ah4 hl hsn hz hs) λv w ⟨x,y,hv,hx,hs⟩=>⟨_,_,hv,?_⟩;refine Aa (Ag (x:=s) hs ?_);refine Cn (s:=s) (E:=Am.int .u64) (rows:=l) hs λb_ o_ ha_=>?_;refine C6 (s:=s) (E:=Am.int .u64) (rows:=l) ha_ hs ?_ (hc:=rfl);rw[i64_in ((i:Int)+1) (by omega)];exact Ao (λ_=>⟨_,rfl,JV hl hs⟩) (λ_=>ih (i+1) w (by omega) hs)
 exact AO _ (loop 3 0 w (by omega) hs)
theorem Ax9(hz:key.size<64)(hs:Ab W w (GJ b::M)):Ba PR 342 #[pq b 0,.s key] w λv w'=>∃t:Bool,v = .b t/\Ab W w' (GJ b::M):=by
 refine cw ⟨mixed,Tryz.func342,rfl⟩ Al3 ?_;refine Ac rfl ?_;refine Ah (Ah3 hz hs) λv w ⟨t,hv,hs⟩=>⟨_,hv,?_⟩;obtain⟨s,l,hl,hsn,hs⟩:=TL hs;have loop:∀(f i:Nat)(l:List Int)(w:World),i+f=3->(1<=l.length/\l.length<=4096)->s.n=l.length->Ab W w (blk b [.l s.a s.n s.c]::recs (Am.int .u64) s l::M) ->
   Om Bg (λv w'=>∃t:Bool,v = .b t/\Ab W w' (GJ b::M)) (f+1) (some ⟨b,0,none⟩) key t (i:Int) w:=by
  clear hs hl hsn;intro f
  induction f with
  | zero=>
   intro i l w hi hl hsn hs;rw[Ms];refine Ac (decide_eq_false (by omega)) ?_;refine jw Xl ?_;exact⟨_,rfl,JV hl hs⟩
  | succ f ih=>
   intro i l w hi hl hsn hs;rw[Ms];refine Al (decide_eq_true (by omega)) ?_;refine AH (Ah4 hl hsn hz hs) λv w ⟨x,y,hv,hx,hs⟩=>⟨_,_,hv,?_⟩;refine Aa (Ag (x:=s) hs ?_);refine BG (s:=s) hs λb_ o_ hs=>?_;refine Cj hs ?_;refine GT hs ?_;refine Axw hs λw hs=>?_;have hs:=Ab.shut s hs;rw[i64_in ((i:Int)+1) (by omega)];exact ih (i+1) _ w (by omega) (by rw[List.length_set];exact hl) (by rw[List.length_set];exact hsn) hs
 exact AO _ (loop 3 0 l w (by omega) hl hsn hs)
theorem Ah2(hs:Ab W w (GJ b::M)):Ba PR 345 #[pq b 0] w λv w'=>v = .tuple #[]/\Ab W w' (GJ b::M):=by
 refine cw ⟨mixed,Tryz.func345,rfl⟩ Al6 ?_;refine Al rfl ?_;obtain⟨s,l,hl,hsn,hs⟩:=TL hs;refine Aa (Ag (x:=s) hs ?_);obtain⟨b1,o1,ha,hs⟩:∃b1 o1,s.a=some ⟨b1,o1,none⟩/\Ab W w (reca (Am.int .u64) b1 o1 s l::blk b [.l s.a s.n s.c]::M):=by
  have h:C7 s.a s.n (0:Int) (λb1 o1 w=>s.a=some ⟨b1,o1,none⟩/\Ab W w (reca (Am.int .u64) b1 o1 s l::blk b [.l s.a s.n s.c]::M)) w:=by
   refine BG (s:=s) hs λb_ o_ hs=>?_;have hs:Ab W w (reca (Am.int .u64) b_ o_ s l::blk b [.l s.a s.n s.c]::M):=hs.perm (List.Perm.swap _ _ _);exact⟨hs.pure (q:=0) rfl λ_ hg=>hg.1,hs⟩
  obtain⟨b1,o1,_,_,h⟩:=h;exact⟨b1,o1,h⟩
 have hz:Ti (CX [.int .u64 (0:Int)] s.n)=true:=by rw[I8];exact CS _
 unfold Ap1;rw[hz,ha];show sts (CX [.int .u64 (0:Int)] s.n) b1 (o1+0) _ w;refine Ahx s.n 0 l w (by omega) hs λl' w' hl' hs=>?_;have hs:=(hs.perm (List.Perm.swap _ _ _)).shut s;exact⟨rfl,JV (s:=s) (by omega) hs⟩
end
end Go.Proofs.YtjipofkjmmpjdaaGreat
namespace Go.Hb
open Go.Proofs.YtjipofkjmmpjdaaGreat
abbrev cY(b:Nat)(s:Sl)(xb:Nat)(c wd mn pr:Int)(kb db:Nat):HP:=blk b [.l s.a s.n s.c,pq xb 0,.i c,.i wd,.i mn,.i pr,pq kb 0,pq db 0]
def QT(b:Nat)(c wd mn:Int)(i a p:BL):HP:=JM λ(z:Sl×Nat×Int×Nat×Nat)=>EA (0<=z.2.2.1) (AJ [cY b z.1 z.2.1 c wd mn z.2.2.1 z.2.2.2.1 z.2.2.2.2,rowsC z.1 z.2.1 5000 [i,a,p],G0 z.2.2.2.1,GJ z.2.2.2.2])
structure Rm(c wd mn:Int)(R i a p:BL):Prop where
 eq:R=i++(a++p)
 ok:Dj c R
 w1:1<=wd
 mn0:0<=mn
 sum:wd+mn=c
 win:(i.length:Int)<=wd
 main:(a.length:Int)+p.length<=mn
def LA(b:Nat)(c:Int)(R:BL):HP:=JM λ(z:(Int×Int)×(BL×BL×BL))=>EA (Rm c z.1.1 z.1.2 R z.2.1 z.2.2.1 z.2.2.2) (QT b c z.1.1 z.1.2 z.2.1 z.2.2.1 z.2.2.2)
section
variable{W w:World}{M L:List HP}{b:Nat}{c wd mn:Int}{R i a p:BL}
theorem Cl(h:Ab W w (QT b c wd mn i a p::M)):∃(s:Sl) (xb:Nat) (pr:Int) (kb db:Nat),0<=pr/\Ab W w (cY b s xb c wd mn pr kb db::rowsC s xb 5000 [i,a,p]::G0 kb::GJ db::M):=by
 obtain⟨⟨s,xb,pr,kb,db⟩,h⟩:=h.openE;obtain⟨hp,h⟩:=h.openA;exact⟨s,xb,pr,kb,db,hp,h.openL⟩
theorem Be{s:Sl}{xb kb db:Nat}{pr:Int}(hp:0<=pr)(h:Ab W w (cY b s xb c wd mn pr kb db::rowsC s xb 5000 [i,a,p]::G0 kb::GJ db::M)):Ab W w (QT b c wd mn i a p::M):=
 Ab.shutE (s,xb,pr,kb,db) (Ab.shutA hp (Ab.shutL (Ps:=[_,_,_,_]) h))
theorem DT(h:Ab W w (LA b c R::M)):∃(wd mn:Int) (i a p:BL),Rm c wd mn R i a p/\Ab W w (QT b c wd mn i a p::M):=by
 obtain⟨⟨⟨wd,mn⟩,⟨i,a,p⟩⟩,h⟩:=h.openE;obtain⟨h1,h⟩:=h.openA;exact⟨wd,mn,i,a,p,h1,h⟩
theorem Cw(h1:Rm c wd mn R i a p)(h:Ab W w (QT b c wd mn i a p::M)):Ab W w (LA b c R::M):=Ab.shutE ((wd,mn),(i,a,p)) (Ab.shutA h1 h)
theorem TU(h:Ab W w (LA b c R::M)):Dj c R:=by
 obtain⟨wd,mn,i,a,p,h1,_⟩:=DT h;exact h1.ok
theorem A09(h:Ab W w (QT b c wd mn i a p::M)):w.cell? ⟨b,2,none⟩=some (.i c):=by
 obtain⟨s,xb,pr,kb,db,_,h⟩:=Cl h;exact h.cell (q:=0) rfl
theorem Ap9(h:Ab W w (LA b c R::M)):w.cell? ⟨b,2,none⟩=some (.i c):=by
 obtain⟨wd,mn,i,a,p,_,h⟩:=DT h;exact A09 h
theorem Adz(h:Ab W w (QT b c wd mn i a p::M)):Nd3 i a p:=by
 obtain⟨s,xb,pr,kb,db,_,h⟩:=Cl h;exact nd3 (M:=G0 kb::GJ db::M) h.drop
theorem Rm.len(h:Rm c wd mn R i a p):R.length=i.length+(a.length+p.length)/\c<=1024:=by
 rw[h.eq];simp;exact h.ok.c2
end
end Go.Hb
namespace Go.Proofs.YtjipofkjmmpjdaaGreat
open Go.Hb Go.IntWalk
section
variable{W w:World}{L M:List HP}{b:Nat}{c wd mn:Int}{R i a p:BL}{key:BA}
theorem A08(hs:Ab W w L){r:Int}:Ba PR 154 #[.i r] w λv w'=>∃b,v=pq b 0/\Ab W w' (LA b (AU r) []::L):=by
 refine cw ⟨mixed,Tryz.func154,rfl⟩ Ajf ?_;refine Ax (by decide) ?_;refine(KL AE (nr:=3) (by decide) hs).mono λe w ⟨s,xb,he,hs⟩=>⟨s,_,he,?_⟩;have hs:=IS (N':=5000) hs (by omega);refine Ax (by decide) ?_;have hr:=DZ r;rw[KH];refine Ah (A2i hs) λv w ⟨kb,hv,hs⟩=>⟨_,hv,?_⟩;refine Ah (Aya hs) λv w ⟨db,hv,hs⟩=>⟨_,hv,?_⟩;refine Ai hs λb w hs=>⟨b,rfl,?_⟩;have e3:List.replicate 3 ([]:BL)=[[],[],[]]:=rfl;rw[e3,Int.tdiv_eq_ediv_of_nonneg (by omega),i64_in (AU r / 8) (by omega)] at hs;obtain⟨q,hq,hq1⟩:∃q:Int,(if AU r / 8>1 then AU r / 8 else 1)=q/\1<=q/\q<=AU r:=⟨_,rfl,by split <;> omega⟩
 rw[hq,i64_in (AU r-q) (by omega),i64_in ((AU r-q)*4) (by omega),Int.tdiv_eq_ediv_of_nonneg (by omega),i64_in _ (by omega)] at hs;have hok:Rm (AU r) q (AU r-q) [] [] [] []:=⟨rfl,Dj.nil hr.1 hr.2,hq1.1,by omega,by omega,by simp;omega,by simp;omega⟩
 exact Cw hok (Be (pr:=(AU r-q)*4 / 5) (by omega) (by exact Ab.fin hs))
theorem Axb(hs:Ab W w (LA b c R::M)):Ba PR 331 #[pq b 0] w λv w'=>v = .i c/\Ab W w' (LA b c R::M):=by
 refine cw ⟨mixed,Tryz.func331,rfl⟩ Alz ?_;obtain⟨wd,mn,i,a,p,h1,hs⟩:=DT hs;obtain⟨s,xb,pr,kb,db,hp,hs⟩:=Cl hs;refine Ac rfl (Aa (Ag hs ?_));exact⟨rfl,Cw h1 (Be hp hs)⟩
theorem Abh(hs:Ab W w (LA b c R::M)):Ba PR 328 #[pq b 0] w λv w'=>v = .i (R.length:Int)/\Ab W w' (LA b c R::M):=by
 refine cw ⟨mixed,Tryz.func328,rfl⟩ Alw ?_;obtain⟨wd,mn,i,a,p,h1,hs⟩:=DT hs;obtain⟨s,xb,pr,kb,db,hp,hs⟩:=Cl hs;refine Ac rfl (Aa (Ag (x:=s) hs (Ag hs ?_)));refine Ai hs λnb w hs=>?_;refine AM AE (nr:=3) (K:=[i,a,p]) [0,1,2] (M:=cY b s xb c wd mn pr kb db::G0 kb::GJ db::M) (by exact Ab.fin hs) (by omega) rfl λw hs=>?_;refine⟨?_,Cw h1 (Be hp (by exact Ab.fin hs))⟩;rw[h1.len.1];simp[Bu]
theorem Abg(hz:key.size<64)(hs:Ab W w (LA b c R::M)):Ba PR 326 #[pq b 0,.s key] w λv w'=>v = .b (decide (key∈R))/\Ab W w' (LA b c R::M):=by
 refine cw ⟨mixed,Tryz.func326,rfl⟩ Alu ?_;obtain⟨wd,mn,i,a,p,h1,hs⟩:=DT hs;obtain⟨s,xb,pr,kb,db,hp,hs⟩:=Cl hs;refine Ac rfl (Aa (Ag (x:=s) hs (Ag hs ?_)));refine An (D9 AE (K:=[i,a,p]) hs hz) λe w ⟨he,hs⟩=>⟨_,he,?_⟩;have e:∀t:Bool,(t=true↔key∈i\/key∈a\/key∈p)->Value.bool t = .b (decide (key∈R)):=λt ht=>by
  congr 1;rw[Bool.eq_iff_iff,ht,h1.eq,decide_eq_true_eq,List.mem_append,List.mem_append]
 rcases QP i a p key with⟨h,h4⟩|⟨h,h4,h5⟩|⟨h,h4,h5,h6⟩|⟨h,h4,h5,h6⟩ <;> rw[h]
 ·exact Al rfl ⟨e _ (by simp[h4]),Cw h1 (Be hp hs)⟩
 ·exact Ac rfl (Al rfl ⟨e _ (by simp[h5]),Cw h1 (Be hp hs)⟩)
 ·exact Ac rfl (Ac rfl ⟨e _ (by simp[h6]),Cw h1 (Be hp hs)⟩)
 ·exact Ac rfl (Ac rfl ⟨e _ (by simp[h4,h5,h6]),Cw h1 (Be hp hs)⟩)
theorem Aw9(hs:Ab W w (LA b c R::M)):Ba PR 327 #[pq b 0] w λv w'=>∃(l:Sl) (ks:BL),v = .l l.a l.n l.c/\ks.Perm R/\Ab W w' (LA b c R::recs Am.str l ks::M):=by
 refine cw ⟨mixed,Tryz.func327,rfl⟩ Alv ?_;obtain⟨wd,mn,i,a,p,h1,hs⟩:=DT hs;obtain⟨s,xb,pr,kb,db,hp,hs⟩:=Cl hs;refine Ac rfl (Aa (Ag (x:=s) hs (Ag hs ?_)));refine Ai hs λnb w hs=>?_;refine OF AE (nr:=3) (K:=[i,a,p]) [0,1,2] (M:=cY b s xb c wd mn pr kb db::G0 kb::GJ db::M) (by exact Ab.fin hs) (by omega) rfl λl w hs=>?_;refine⟨l,_,rfl,?_,Cw h1 (Be hp (by exact Ab.fin hs))⟩;rw[h1.eq];simp[EI]
theorem T8(hs:Ab W w (QT b c wd mn i a p::M)):Ba PR 339 #[pq b 0] w λv w'=>
  ((v = .tuple #[.i 1,.b true]/\0<a.length)\/(v = .tuple #[.i 2,.b true]/\a=[]/\0<p.length)\/(v = .tuple #[.i 0,.b false]/\a=[]/\p=[]))/\Ab W w' (QT b c wd mn i a p::M):=by
 refine cw ⟨mixed,Tryz.func339,rfl⟩ Al2 ?_;obtain⟨s,xb,pr,kb,db,hp,hs⟩:=Cl hs;refine Ai hs λvb w hs=>?_;have hs:=Ab.blkS (b:=vb) (cs:=[.i 1,.i 2]) (n:=2) Am.nat [1,2] hs rfl rfl;have hs:Ab W w (recs Am.nat ⟨some ⟨vb,0,none⟩,2,2⟩ [1,2]::cY b s xb c wd mn pr kb db::rowsC s xb 5000 [i,a,p]::G0 kb::GJ db::M):=hs;refine AO 3 ?_;rw[Ii];refine Al rfl ?_;refine Cn (s:=⟨some ⟨vb,0,none⟩,2,2⟩) (rows:=[1,2]) hs λb_ o_ ha_=>?_;refine C6 (rows:=[1,2]) ha_ hs ?_ (k:=.int .i64) (x:=(1:Int)) (hc:=rfl);refine Aa (Ag (x:=s) hs (Ag hs ?_));refine Ai hs λnb w hs=>?_
 refine AM AE (nr:=3) (K:=[i,a,p]) [1] (M:=recs Am.nat ⟨some ⟨vb,0,none⟩,2,2⟩ [1,2]::cY b s xb c wd mn pr kb db::G0 kb::GJ db::M) (by exact Ab.fin hs) (by omega) rfl λw hs=>?_;have e1:(Bu [i,a,p] [1]:Int)=a.length:=by simp[Bu]
 rw[e1]
 with_reducible refine Az (λh1=>?_) (λh1=>?_)
 ·exact⟨.inl ⟨rfl,by omega⟩,Be hp (by exact Ab.fin hs)⟩
 have ha:a=[]:=List.length_eq_zero_iff.1 (by omega);have hs:Ab W w (recs Am.nat ⟨some ⟨vb,0,none⟩,2,2⟩ [1,2]::cY b s xb c wd mn pr kb db::rowsC s xb 5000 [i,a,p]::G0 kb::GJ db::M):=by exact Ab.fin hs
 rw[i64_in ((0:Int)+1) (by omega),Ii];refine Al rfl ?_;refine Cn (s:=⟨some ⟨vb,0,none⟩,2,2⟩) (rows:=[1,2]) hs λb_ o_ ha_=>?_;refine C6 (rows:=[1,2]) ha_ hs ?_ (k:=.int .i64) (x:=(2:Int)) (hc:=rfl);refine Aa (Ag (x:=s) hs (Ag hs ?_));refine Ai hs λnb w hs=>?_;refine AM AE (nr:=3) (K:=[i,a,p]) [2] (M:=recs Am.nat ⟨some ⟨vb,0,none⟩,2,2⟩ [1,2]::cY b s xb c wd mn pr kb db::G0 kb::GJ db::M) (by exact Ab.fin hs) (by omega) rfl λw hs=>?_;have e1:(Bu [i,a,p] [2]:Int)=p.length:=by simp[Bu]
 rw[e1]
 with_reducible refine Az (λh2=>?_) (λh2=>?_)
 ·exact⟨.inr (.inl ⟨rfl,ha,by omega⟩),Be hp (by exact Ab.fin hs)⟩
 rw[i64_in ((0:Int)+1+1) (by omega),Ii];refine Ac rfl ?_;refine jw Xk ?_;exact⟨.inr (.inr ⟨rfl,ha,List.length_eq_zero_iff.1 (by omega)⟩),Be hp (by exact Ab.fin hs)⟩
theorem Ahb{s:Sl}{xb kb db:Nat}{pr:Int}(hz:key.size<64)(hs:Ab W w (cY b s xb c wd mn pr kb db::rowsC s xb 5000 [i,a,p]::G0 kb::GJ db::M)):Ba PR 348 #[pq b 0,.s key] w λv w'=>∃y:Int,v = .i y/\Ab W w' (cY b s xb c wd mn pr kb db::rowsC s xb 5000 [i,a,p]::G0 kb::GJ db::M):=by
 refine cw ⟨mixed,Tryz.func348,rfl⟩ Al7 ?_;refine Aa (Ag hs ?_);have hs:Ab W w (G0 kb::cY b s xb c wd mn pr kb db::rowsC s xb 5000 [i,a,p]::GJ db::M):=by exact Ab.fin hs
 refine Ah (YH hz hs) λv w ⟨y,hv,hs⟩=>⟨_,hv,?_⟩;refine Aa (Ag hs ?_);have hs:Ab W w (GJ db::cY b s xb c wd mn pr kb db::rowsC s xb 5000 [i,a,p]::G0 kb::M):=by exact Ab.fin hs
 refine Ah (Ah3 hz hs) λv w ⟨t,hv,hs⟩=>⟨_,hv,?_⟩;have hs:Ab W w (cY b s xb c wd mn pr kb db::rowsC s xb 5000 [i,a,p]::G0 kb::GJ db::M):=by exact Ab.fin hs
 exact Ao (λ_=>⟨_,rfl,hs⟩) (λ_=>⟨_,rfl,hs⟩)
theorem Apn(hz:key.size<64)(hs:Ab W w (QT b c wd mn i a p::M)):Ba PR 333 #[pq b 0,.s key] w λv w'=>v = .tuple #[]/\Ab W w' (QT b c wd mn i a p::M):=by
 refine cw ⟨mixed,Tryz.func333,rfl⟩ Al0 ?_;obtain⟨s,xb,pr,kb,db,hp,hs⟩:=Cl hs;refine Aa (Ag hs ?_);have hs:Ab W w (GJ db::cY b s xb c wd mn pr kb db::rowsC s xb 5000 [i,a,p]::G0 kb::M):=by exact Ab.fin hs
 refine Ah (Ax9 hz hs) λv w ⟨t,hv,hs⟩=>⟨_,hv,?_⟩;refine Ao (λ_=>⟨rfl,Be hp (by exact Ab.fin hs)⟩) (λ_=>?_);refine Aa (Ag hs ?_);have hs:Ab W w (G0 kb::cY b s xb c wd mn pr kb db::rowsC s xb 5000 [i,a,p]::GJ db::M):=by exact Ab.fin hs
 refine Ah (Ao8 hs) λv w ⟨y,hv,hs⟩=>⟨_,hv,Aa (Ag hs ?_)⟩;refine AX (A0z hz hs) λv w ⟨hv,hs⟩=>⟨hv,Aa (Ag hs ?_)⟩;refine Ah (Ao8 hs) λv w ⟨y,hv,hs⟩=>⟨_,hv,?_⟩;refine Ao (λ_=>?_) (λ_=>⟨rfl,Be hp (by exact Ab.fin hs)⟩);refine Aa (Ag hs ?_);have hs:Ab W w (GJ db::cY b s xb c wd mn pr kb db::rowsC s xb 5000 [i,a,p]::G0 kb::M):=by exact Ab.fin hs
 exact AX (Ah2 hs) λv w ⟨hv,hs⟩=>⟨hv,rfl,Be hp (by exact Ab.fin hs)⟩
theorem Apm(hs:Ab W w (LA b c R::M)):Ba PR 324 #[pq b 0] w λv w'=>∃x yes S,v = .tuple #[.s x,.b yes]/\Ga c R x yes S/\Ab W w' (LA b c S::M):=by
 refine cw ⟨mixed,Tryz.func324,rfl⟩ Als ?_;refine Ah (Abh hs) λv w ⟨hv,hs⟩=>⟨_,hv,?_⟩;have hk:=TU hs
 with_reducible refine Az (λh0=>?_) (λh0=>?_)
 ·exact⟨_,_,_,rfl,Ga.none hk (by omega),hs⟩
 obtain⟨wd,mn,i,a,p,h1,hs⟩:=DT hs;have hll:=h1.len;have hnd:=Adz hs;have fin:∀(j:Nat)(q:BL)(i' a' p':BL)(w:World),j<3->[i,a,p].getD j []=q->0<q.length->(BV q).size<64->Dp [i,a,p] (BV q)=[i',a',p']->R.Perm (BV q::(i'++(a'++p')))->i'.length<=i.length->a'.length+p'.length<=a.length+p.length->Ab W w (QT b c wd mn i a p::M) ->
   Ad (some ⟨b,0,none⟩) (λb_4 o_5=>ld .slc b_4 o_5 λ(x_6:Sl)=>ld .ptr b_4 (o_5+1) λ(x_7:OA)=>call1 .str PR 337 [.agg #[.l x_6.a x_6.n x_6.c,.p x_7],.i (j:Int)] λ(x_8:BA)=>Ad (some ⟨b,0,none⟩) λb_9 o_10=>ld .slc b_9 o_10 λ(x_11:Sl)=>ld .ptr b_9 (o_10+1) λ(x_12:OA)=>VH PR 340 [.agg #[.l x_11.a x_11.n x_11.c,.p x_12],.s x_8]<|
    (λw'=>∃x yes S,(Value.tuple #[.s x_8,.b true]) = .tuple #[.s x,.b yes]/\Ga c R x yes S/\Ab W w' (LA b c S::M))) w:=by
  clear hs;intro j q i' a' p' w hj hq h0 hz e1 hp2 hli hla hs;obtain⟨s,xb,pr,kb,db,hp,hs⟩:=Cl hs;refine Aa (Ag (x:=s) hs (Ag hs ?_));refine An (Bp AE (K:=[i,a,p]) (j:=j) hs (lt3 hj) (show 3<=4 by decide)) λe w ⟨he,hs⟩=>⟨_,he,?_⟩;rw[hq];refine Aa (Ag (x:=s) hs (Ag hs ?_));refine As (BT AE (K:=[i,a,p]) (key:=BV q) hs hz (by omega) (show 3<=4 by decide)) λe w ⟨he,hs⟩=>⟨he,?_⟩;rw[e1] at hs;have hev:=Ga.of_perm hk hp2;have hw:=h1.win;have hm:=h1.main
  exact⟨_,_,_,rfl,hev,Cw ⟨rfl,hev.ok,h1.w1,h1.mn0,h1.sum,by omega,by omega⟩ (Be hp hs)⟩
 have hdec:∀q:BL,0<q.length->q=BV q::q.drop 1:=λq hq=>by
  cases q with
  | nil=>simp at hq
  | cons x t=>rfl
 refine AH (T8 hs) λv w ⟨h,hs⟩=>?_;rcases h with⟨hv,h0⟩|⟨hv,ha,h0⟩|⟨hv,ha,hp⟩
 ·have hm:=C1 h0;refine⟨_,_,hv,fin 1 a i (a.drop 1) p w (by decide) rfl h0 (hnd.small _ (.inr (.inl hm))) ?_ ?_ (Nat.le_refl _) (by simp) hs⟩
  ·show[Ap i _,Ap a _,Ap p _]=_;rw[Au λh=>(hnd.io _ h).1 hm,BI hnd.no h0,Au (hnd.oa _ hm)]
  ·rw[h1.eq]
   conv=>lhs;rw[hdec a h0]
   exact List.perm_middle
 ·have hm:=C1 h0;subst ha;refine⟨_,_,hv,fin 2 p i [] (p.drop 1) w (by decide) rfl h0 (hnd.small _ (.inr (.inr hm))) ?_ ?_ (Nat.le_refl _) (by simp) hs⟩
  ·show[Ap i _,[],Ap p _]=_;rw[Au λh=>(hnd.io _ h).2 hm,BI hnd.na h0]
  ·rw[h1.eq]
   conv=>lhs;rw[hdec p h0]
   exact List.perm_middle
 ·subst ha;subst hp
  have h0:0<i.length:=by simp at hll;omega
  have hm:=C1 h0;refine⟨_,_,hv,fin 0 i (i.drop 1) [] [] w (by decide) rfl h0 (hnd.small _ (.inl hm)) ?_ ?_ (by simp) (Nat.le_refl _) hs⟩
  ·show[Ap i _,[],[]]=_;rw[BI hnd.ni h0]
  ·rw[h1.eq]
   conv=>lhs;rw[hdec i h0]
   exact List.Perm.refl _
theorem Axa(hz:key.size<64)(hs:Ab W w (LA b c R::M)):Ba PR 329 #[pq b 0,.s key] w λv w'=>∃(yes:Bool) (S:BL),v = .b yes/\CZ c R key yes S/\Ab W w' (LA b c S::M):=by
 refine cw ⟨mixed,Tryz.func329,rfl⟩ Alx ?_;have hk:=TU hs;have hr:=hk.room;refine Ak [LA b c R] hs λw hs=>?_;refine Ac rfl ?_;refine Ah (Abg hz hs) λv w ⟨hv,hs⟩=>⟨_,hv,Af hs ?_⟩
 with_reducible refine Az (λh1=>?_) (λh1=>?_)
 ·exact Af hs ⟨false,R,rfl,CZ.no hk (λh=>h.1 h1),hs⟩
 refine Aa (GB (k:=.int .i64) c (λw' h=>Ap9 h) ?_);refine Ah (Abh hs) λv w ⟨hv,hs⟩=>⟨_,hv,Af hs ?_⟩
 with_reducible refine Az (λh2=>?_) (λh2=>?_)
 ·exact⟨false,R,rfl,CZ.no hk (λh=>by omega),hs⟩
 refine jw Xi ?_;obtain⟨wd,mn,i,a,p,h3,hs⟩:=DT hs;have hll:=h3.len;have hsum:=h3.sum;have hw:=h3.win;have hm:=h3.main
 have hni:key∉i:=λh=>h1 (by rw[h3.eq];exact List.mem_append_left _ h);have hna:key∉a:=λh=>h1 (by rw[h3.eq];exact List.mem_append_right _ (List.mem_append_left _ h))
 have hnp:key∉p:=λh=>h1 (by rw[h3.eq];exact List.mem_append_right _ (List.mem_append_right _ h));obtain⟨s,xb,pr,kb,db,hp,hs⟩:=Cl hs;refine Ak [cY b s xb c wd mn pr kb db] hs λw hs=>?_;refine Aa (Ar (x:=s) (Ar (Aa (Ar ?_))));refine Ai hs λnb w hs=>Af hs ?_;refine AM AE (nr:=3) (K:=[i,a,p]) [1,2] (M:=cY b s xb c wd mn pr kb db::G0 kb::GJ db::M) (by exact Ab.fin hs) (by omega) rfl λw hs=>?_;refine Af hs ?_;have e1:(Bu [i,a,p] [1,2]:Int)=a.length+p.length:=by simp[Bu]
 rw[e1];have hs:Ab W w (cY b s xb c wd mn pr kb db::rowsC s xb 5000 [i,a,p]::G0 kb::GJ db::M):=by exact Ab.fin hs
 with_reducible refine Az (λh5=>?_) (λh5=>?_)
 ·refine Aa (Ag (x:=s) hs (Ag hs ?_));refine As (HE AE (K:=[i,a,p]) (j:=1) hs (by decide) hz (show a.length<5000 by omega) rfl) λe w ⟨he,hs⟩=>⟨he,?_⟩;have e2:Db [i,a,p] 1 key=[i,a++[key],p]:=by
   show[Ap i _,Ap a _++[_],Ap p _]=_;rw[Au hni,Au hna,Au hnp]
  rw[e2] at hs;have hl:=CZ.yes hk hz h1 (by omega) (S:=i++((a++[key])++p)) (by rw[h3.eq];exact(List.Perm.append_left i Di).trans List.perm_middle)
  exact⟨true,_,rfl,hl,Cw ⟨rfl,hl.ok,h3.w1,h3.mn0,hsum,hw,by simp;omega⟩ (Be hp hs)⟩
 ·refine Aa (Ag (x:=s) hs (Ag hs ?_));refine As (HE AE (K:=[i,a,p]) (j:=0) hs (by decide) hz (show i.length<5000 by omega) rfl) λe w ⟨he,hs⟩=>⟨he,?_⟩;have e2:Db [i,a,p] 0 key=[i++[key],a,p]:=by
   show[Ap i _++[_],Ap a _,Ap p _]=_;rw[Au hni,Au hna,Au hnp]
  rw[e2] at hs;have hl:=CZ.yes hk hz h1 (by omega) (S:=(i++[key])++(a++p)) (by rw[h3.eq];exact Di)
  exact⟨true,_,rfl,hl,Cw ⟨rfl,hl.ok,h3.w1,h3.mn0,hsum,by simp;omega,hm⟩ (Be hp hs)⟩
theorem Ag9(hz:key.size<64)(hs:Ab W w (LA b c R::M)):Ba PR 330 #[pq b 0,.s key] w λv w'=>∃(yes:Bool) (S:BL),v = .b yes/\Ft c R key yes S/\Ab W w' (LA b c S::M):=by
 refine cw ⟨mixed,Tryz.func330,rfl⟩ Aly ?_;have hk:=TU hs;refine Ah (Abg hz hs) λv w ⟨hv,hs⟩=>⟨_,hv,?_⟩
 by_cases h1:key∈R
 ·refine Ac (by rw[decide_eq_true h1];rfl) ?_;obtain⟨wd,mn,i,a,p,h3,hs⟩:=DT hs;obtain⟨s,xb,pr,kb,db,hp,hs⟩:=Cl hs;refine Aa (Ag (x:=s) hs (Ag hs ?_));refine As (BT AE (K:=[i,a,p]) hs hz (by omega) (show 3<=4 by decide)) λe w ⟨he,hs⟩=>⟨he,?_⟩;have heq:=h3.eq;rw[heq] at hk h1;have hr:=Ft.cut3 hk h1;rw[<- heq] at hr;have g0:=Bh i key;have g1:=Bh a key;have g2:=Bh p key
  have hw:=h3.win;have hm:=h3.main
  exact⟨true,_,rfl,hr,Cw (i:=Ap i key) (a:=Ap a key) (p:=Ap p key) ⟨rfl,hr.ok,h3.w1,h3.mn0,h3.sum,by omega,by omega⟩ (Be hp hs)⟩
 ·refine Al (by rw[decide_eq_false h1];rfl) ⟨false,R,rfl,Ft.no hk h1,hs⟩
abbrev AdQ(b:Nat)(c wd mn:Int)(i a p:BL)(W:World)(M:List HP):VW:=λv w'=>∃(l:Sl) (g a' p':BL),v = .l l.a l.n l.c/\(a'.length:Int)+p'.length<=mn /\
 ((g=[]/\(a.length:Int)+p.length<mn/\(i++(a++p)).Perm (i.drop 1++(a'++p')))\/(∃x,g=[x]/\¬(a.length:Int)+p.length<mn/\(x=BV i\/x∈a\/x∈p)/\(i++(a++p)).Perm (x::(i.drop 1++(a'++p')))))/\Ab W w' (QT b c wd mn (i.drop 1) a' p'::recs Am.str l g::M)
theorem Aha(h0:0<i.length)(hl:i.length+(a.length+p.length)<=1025)(hm:(a.length:Int)+p.length<=mn)(hs:Ab W w (QT b c wd mn i a p::M)):Ba PR 338 #[pq b 0] w (AdQ b c wd mn i a p W M):=by
 refine cw ⟨mixed,Tryz.func338,rfl⟩ Al1 ?_;have hnd:=Adz hs;have hmi:=C1 h0;have hzi:=hnd.small _ (.inl hmi);have hdec:∀q:BL,0<q.length->q=BV q::q.drop 1:=λq hq=>by
  cases q with
  | nil=>simp at hq
  | cons x t=>rfl
 have hni:BV i∉i.drop 1:=by
  have:=hnd.ni;rw[hdec i h0] at this;exact(List.nodup_cons.1 this).1
 obtain⟨s,xb,pr,kb,db,hp,hs⟩:=Cl hs;refine Aa (Ag (x:=s) hs (Ag hs ?_));refine An (Bp AE (K:=[i,a,p]) (j:=0) hs (lt3 (by decide)) (show 3<=4 by decide)) λe w ⟨he,hs⟩=>⟨BV i,he,?_⟩;have hs:=Be (i:=i) (a:=a) (p:=p) hp hs;have j1t:∀(row:Int)(w:World),¬(a.length:Int)+p.length<mn->Ab W w (QT b c wd mn i a p::M)->Oh Bg (AdQ b c wd mn i a p W M) (some ⟨b,0,none⟩) (BV i) row true w:=by
  clear hs;intro row w hfull hs;refine jw Mr ?_;refine Al rfl ?_;obtain⟨s,xb,pr,kb,db,hp,hs⟩:=Cl hs;refine Aa (Ag (x:=s) hs (Ag hs ?_));refine As (BT AE (K:=[i,a,p]) (key:=BV i) hs hzi (by omega) (show 3<=4 by decide)) λe w ⟨he,hs⟩=>⟨he,?_⟩;have e1:Dp [i,a,p] (BV i)=[i.drop 1,a,p]:=by
   show[Ap i _,Ap a _,Ap p _]=_;rw[BI hnd.ni h0,Au (hnd.io _ hmi).1,Au (hnd.io _ hmi).2]
  rw[e1] at hs;refine Ai hs λnb w hs=>?_;have hs:=Ab.blkS (b:=nb) (cs:=[.s (BV i)]) (n:=1) Am.str [BV i] hs rfl rfl;refine⟨⟨some ⟨nb,0,none⟩,1,1⟩,[BV i],a,p,rfl,hm,.inr ⟨_,rfl,hfull,.inl rfl,?_⟩,?_⟩
  ·conv=>lhs;rw[hdec i h0]
   exact List.Perm.refl _
  ·have hs:=Be (i:=i.drop 1) (a:=a) (p:=p) (M:=recs Am.str ⟨some ⟨nb,0,none⟩,1,1⟩ [BV i]::M) hp (by exact Ab.fin hs);exact hs
 have j1f:∀(j:Nat)(q:BL)(a' p':BL)(w:World),j<3->[i,a,p].getD j []=q->0<q.length->(BV q∈a\/BV q∈p)->Dp [i,a,p] (BV q)=[i,a',p']->(a++p).Perm (BV q::(a'++p'))->¬(a.length:Int)+p.length<mn->Ab W w (QT b c wd mn i a p::M) ->
   Oh Bg (AdQ b c wd mn i a p W M) (some ⟨b,0,none⟩) (BV i) (j:Int) false w:=by
  clear hs;intro j q a' p' w hj hq hq0 hqm e1 hpm hfull hs;refine jw Mr ?_;refine Ac rfl ?_;refine jw Xj ?_;have hpl:=hpm.length_eq;simp only[List.length_append,List.length_cons] at hpl;obtain⟨s,xb,pr,kb,db,hp,hs⟩:=Cl hs;refine Aa (Ag (x:=s) hs (Ag hs ?_));refine An (Bp AE (K:=[i,a,p]) (j:=j) hs (lt3 hj) (show 3<=4 by decide)) λe w ⟨he,hs⟩=>⟨_,he,?_⟩;rw[hq];refine Aa (Ag (x:=s) hs (Ag hs ?_));refine As (BT AE (K:=[i,a,p]) (key:=BV q) hs (hnd.small _ (.inr hqm)) (by omega) (show 3<=4 by decide)) λe w ⟨he,hs⟩=>⟨he,?_⟩
  rw[e1] at hs;refine Aa (Ag (x:=s) hs (Ag hs ?_));have hna:BV i∉a'/\BV i∉p':=by
   have h:BV i∉a++p:=λh=>(List.mem_append.1 h).elim (hnd.io _ hmi).1 (hnd.io _ hmi).2;exact⟨λh2=>h (hpm.mem_iff.2 (.tail _ (List.mem_append_left _ h2))),λh2=>h (hpm.mem_iff.2 (.tail _ (List.mem_append_right _ h2)))⟩
  refine As (HE AE (K:=[i,a',p']) (j:=1) (key:=BV i) hs (by decide) hzi (show a'.length<5000 by omega) rfl) λe w ⟨he,hs⟩=>⟨he,?_⟩;have e2:Db [i,a',p'] 1 (BV i)=[i.drop 1,a'++[BV i],p']:=by
   show[Ap i _,Ap a' _++[_],Ap p' _]=_;rw[BI hnd.ni h0,Au hna.1,Au hna.2]
  rw[e2] at hs;refine Ai hs λnb w hs=>?_;have hs:=Ab.blkS (b:=nb) (cs:=[.s (BV q)]) (n:=1) Am.str [BV q] hs rfl rfl;refine⟨⟨some ⟨nb,0,none⟩,1,1⟩,[BV q],a'++[BV i],p',rfl,by simp;omega,.inr ⟨_,rfl,hfull,.inr hqm,?_⟩,?_⟩
  ·have h1:(i++(a++p)).Perm (BV q::(i++(a'++p'))):=(List.Perm.append_left i hpm).trans List.perm_middle;refine h1.trans (List.Perm.cons _ ?_)
   conv=>lhs;rw[hdec i h0]
   refine List.Perm.trans ?_ (List.perm_middle.symm.trans (List.Perm.append_left _ Di.symm));exact List.Perm.refl _
  ·have hs:=Be (i:=i.drop 1) (a:=a'++[BV i]) (p:=p') (M:=recs Am.str ⟨some ⟨nb,0,none⟩,1,1⟩ [BV q]::M) hp (by exact Ab.fin hs);exact hs
 refine AH (T8 hs) λv w ⟨hvic,hs⟩=>?_;obtain⟨row,t,hv,hrow⟩:∃(j:Nat) (t:Bool),v = .tuple #[.i (j:Int),.b t]/\(t=true->∃(q a' p':BL),j<3/\[i,a,p].getD j []=q/\0<q.length/\(BV q∈a\/BV q∈p)/\Dp [i,a,p] (BV q)=[i,a',p']/\(a++p).Perm (BV q::(a'++p'))):=by
  rcases hvic with⟨hv,h⟩|⟨hv,ha,h⟩|⟨hv,_,_⟩
  ·have hmq:=C1 h;refine⟨1,true,hv,λ_=>⟨a,a.drop 1,p,by decide,rfl,h,.inl hmq,?_,?_⟩⟩
   ·show[Ap i _,Ap a _,Ap p _]=_;rw[Au λh=>(hnd.io _ h).1 hmq,BI hnd.no h,Au (hnd.oa _ hmq)]
   ·conv=>lhs;rw[hdec a h]
    exact List.Perm.refl _
  ·have hmq:=C1 h;subst ha;refine⟨2,true,hv,λ_=>⟨p,[],p.drop 1,by decide,rfl,h,.inr hmq,?_,?_⟩⟩
   ·show[Ap i _,[],Ap p _]=_;rw[Au λh=>(hnd.io _ h).2 hmq,BI hnd.na h]
   ·conv=>lhs;rw[hdec p h]
    exact List.Perm.refl _
  ·exact⟨0,false,hv,λh=>by cases h⟩
 clear hvic;refine⟨_,_,hv,?_⟩;obtain⟨s,xb,pr,kb,db,hp,hs⟩:=Cl hs;refine Ak [cY b s xb c wd mn pr kb db] hs λw hs=>?_;refine Aa (Ar (x:=s) (Ar (Aa (Ar ?_))));refine Ai hs λnb w hs=>Af hs ?_;refine AM AE (nr:=3) (K:=[i,a,p]) [1,2] (M:=cY b s xb c wd mn pr kb db::G0 kb::GJ db::M) (by exact Ab.fin hs) (by omega) rfl λw hs=>?_;refine Af hs ?_;have e1:(Bu [i,a,p] [1,2]:Int)=a.length+p.length:=by simp[Bu]
 rw[e1];have hs:Ab W w (cY b s xb c wd mn pr kb db::rowsC s xb 5000 [i,a,p]::G0 kb::GJ db::M):=by exact Ab.fin hs
 with_reducible refine Az (λhfull=>?_) (λhfull=>?_)
 ·refine Aa (Ag (x:=s) hs (Ag hs ?_));refine As (HE AE (K:=[i,a,p]) (j:=1) (key:=BV i) hs (by decide) hzi (show a.length<5000 by omega) rfl) λe w ⟨he,hs⟩=>⟨he,?_⟩;have e2:Db [i,a,p] 1 (BV i)=[i.drop 1,a++[BV i],p]:=by
   show[Ap i _,Ap a _++[_],Ap p _]=_;rw[BI hnd.ni h0,Au (hnd.io _ hmi).1,Au (hnd.io _ hmi).2]
  rw[e2] at hs;refine⟨⟨none,0,0⟩,[],a++[BV i],p,rfl,by simp;omega,.inl ⟨rfl,hfull,?_⟩,(Ab.nilR Am.str (Be hp hs)).perm (List.Perm.swap _ _ _)⟩
  conv=>lhs;rw[hdec i h0]
  exact List.perm_middle.symm.trans (List.Perm.append_left _ Di.symm)
 refine Ak [cY b s xb c wd mn pr kb db] hs λw hs=>?_;cases t with
 | false=>exact Al rfl (Af hs (j1t _ w hfull (Be hp hs)))
 | true=>
  obtain⟨q,a',p',hj,hq,hq0,hqm,e3,hpm⟩:=hrow rfl;refine Ac rfl (Aa (Ar (x:=s) (Ar ?_)));have keep:∀(w:World)(key:BA)(K:Int->WP),key.size<64->Ab W w (cY b s xb c wd mn pr kb db::rowsC s xb 5000 [i,a,p]::G0 kb::GJ db::M)->(∀(y:Int)(w':World),Ab W w' (cY b s xb c wd mn pr kb db::rowsC s xb 5000 [i,a,p]::G0 kb::GJ db::M)->K y w')->call1 (.int .i64) PR 348 [pq b 0,.s key] K w:=by
   clear hs;intro w key K hz hs hK;exact Ah (Ahb hz hs) λv w ⟨y,hv,hs⟩=>⟨_,hv,hK _ _ hs⟩
  refine keep w _ _ hzi hs λy1 w hs=>Af hs ?_;refine An (Bp AE (K:=[i,a,p]) (j:=row) hs (lt3 hj) (show 3<=4 by decide)) λe w ⟨he,hs⟩=>⟨_,he,?_⟩;rw[hq];refine keep w _ _ (hnd.small _ (.inr hqm)) hs λy2 w hs=>?_;have hs:=Be (i:=i) (a:=a) (p:=p) hp hs;cases decide (y1<=y2) with
  | true=>exact j1t _ w hfull hs
  | false=>exact j1f row q a' p' w hj hq hq0 hqm e3 hpm hfull hs
abbrev AcQ(b:Nat)(c:Int)(R:BL)(key:BA)(W:World)(M:List HP):VW:=λv w'=>∃(hit:Bool) (l:Sl) (g S:BL),v = .tuple #[.b hit,.l l.a l.n l.c]/\Ey c R key hit g S/\Ab W w' (LA b c S::recs Am.str l g::M)
theorem Axc(hR:Dj c R)(hk:key∈R)(h1:1<=wd/\0<=mn/\wd+mn=c)(hw:(i.length:Int)<=wd):∀(f:Nat)(a p:BL)(w:World),p.length=f->(a.length:Int)+p.length<=mn->R.Perm (i++(a++p))->Ab W w (QT b c wd mn i a p::M) ->
  Of Bg (AcQ b c R key W M) (f+1) (some ⟨b,0,none⟩) w:=by
 have hc2:=hR.c2;intro f
 induction f with
 | zero=>
  intro a p w hf hm hp2 hs;rw[Mp];obtain⟨s,xb,pr,kb,db,hp,hs⟩:=Cl hs;refine Ak [cY b s xb c wd mn pr kb db] hs λw hs=>?_;refine Aa (Ar (x:=s) (Ar (Aa (Ar ?_))));refine Ai hs λnb w hs=>Af hs ?_;refine AM AE (nr:=3) (K:=[i,a,p]) [2] (M:=cY b s xb c wd mn pr kb db::G0 kb::GJ db::M) (by exact Ab.fin hs) (by omega) rfl λw hs=>?_;refine Af hs ?_;have e1:(Bu [i,a,p] [2]:Int)=0:=by simp[Bu,hf]
  rw[e1];refine Ac (decide_eq_false (by omega)) ?_;refine jw Mo ?_;have ha:=Ey.same hR hk hp2.symm;exact⟨true,⟨none,0,0⟩,[],_,rfl,ha,(Ab.nilR Am.str (Cw ⟨rfl,ha.ok,h1.1,h1.2.1,h1.2.2,hw,hm⟩ (Be hp (by exact Ab.fin hs)))).perm (List.Perm.swap _ _ _)⟩
 | succ f ih=>
  intro a p w hf hm hp2 hs;rw[Mp];have hnd:=Adz hs;obtain⟨s,xb,pr,kb,db,hp,hs⟩:=Cl hs;refine Ak [cY b s xb c wd mn pr kb db] hs λw hs=>?_;refine Aa (Ar (x:=s) (Ar (Aa (Ar ?_))));refine Ai hs λnb w hs=>Af hs ?_;refine AM AE (nr:=3) (K:=[i,a,p]) [2] (M:=cY b s xb c wd mn pr kb db::G0 kb::GJ db::M) (by exact Ab.fin hs) (by omega) rfl λw hs=>?_;refine Af hs ?_;have hs:Ab W w (cY b s xb c wd mn pr kb db::rowsC s xb 5000 [i,a,p]::G0 kb::GJ db::M):=by exact Ab.fin hs
  refine Ao (λ_=>?_) (λ_=>?_)
  ·refine Ak [cY b s xb c wd mn pr kb db] hs λw hs=>?_;refine Aa (Ar (x:=s) (Ar (Aa (Ag (x:=s) hs (Ag hs (Af hs ?_))))));refine An (Bp AE (K:=[i,a,p]) (j:=2) hs (lt3 (by decide)) (show 3<=4 by decide)) λe w ⟨he,hs⟩=>⟨BV p,he,Af hs ?_⟩;have h0:0<p.length:=by omega
   have hmp:=C1 h0;refine As (HE AE (K:=[i,a,p]) (j:=1) (key:=BV p) hs (by decide) (hnd.small _ (.inr (.inr hmp))) (show a.length<5000 by omega) rfl) λe w ⟨he,hs⟩=>⟨he,?_⟩;have e2:Db [i,a,p] 1 (BV p)=[i,a++[BV p],p.drop 1]:=by
    show[Ap i _,Ap a _++[_],Ap p _]=_;rw[Au λh=>(hnd.io _ h).2 hmp,Au λh=>hnd.oa _ h hmp,BI hnd.na h0]
   rw[e2] at hs;refine ih _ _ w (by rw[List.length_drop];omega) (by simp;omega) (hp2.trans (List.Perm.append_left i ?_)) (Be hp hs)
   have hdec:p=BV p::p.drop 1:=by
    cases p with
    | nil=>simp at h0
    | cons x t=>rfl
   conv=>lhs;rw[hdec]
   rw[List.append_assoc];exact List.Perm.refl _
  ·refine jw Mo ?_;have ha:=Ey.same hR hk hp2.symm;exact⟨true,⟨none,0,0⟩,[],_,rfl,ha,(Ab.nilR Am.str (Cw ⟨rfl,ha.ok,h1.1,h1.2.1,h1.2.2,hw,hm⟩ (Be hp hs))).perm (List.Perm.swap _ _ _)⟩
theorem Ag8(hz:key.size<64)(hs:Ab W w (LA b c R::M)):Ba PR 323 #[pq b 0,.s key] w (AcQ b c R key W M):=by
 refine cw ⟨mixed,Tryz.func323,rfl⟩ Alr ?_;refine Ac rfl ?_;obtain⟨wd,mn,i,a,p,h1,hs⟩:=DT hs;have hk:=h1.ok;have hll:=h1.len;have hsum:=h1.sum;have hw:=h1.win;have hm:=h1.main;have hw1:=h1.w1;have hmn:=h1.mn0
 refine AX (Apn hz hs) λv w ⟨hv,hs⟩=>⟨hv,?_⟩;have hnd:=Adz hs;obtain⟨s,xb,pr,kb,db,hp,hs⟩:=Cl hs;refine Aa (Ag (x:=s) hs (Ag hs ?_));refine An (D9 AE (K:=[i,a,p]) hs hz) λe w ⟨he,hs⟩=>⟨_,he,?_⟩;have j1:∀(w:World)(a' p':BL),key∈R->Db [i,a,p] 2 key=[i,a',p']->(a'.length:Int)+p'.length<=mn->R.Perm (i++(a'++p'))->Ab W w (QT b c wd mn i a p::M)->U3 Bg (AcQ b c R key W M) (some ⟨b,0,none⟩) key true w:=by
  clear hs;intro w a' p' hkR e2 hm2 hp2 hs;refine jw Mn ?_;refine Al rfl ?_;obtain⟨s,xb,pr,kb,db,hp,hs⟩:=Cl hs;refine Aa (Ag (x:=s) hs (Ag hs ?_));refine As (HE AE (K:=[i,a,p]) (j:=2) (key:=key) hs (by decide) hz (show p.length<5000 by omega) rfl) λe w ⟨he,hs⟩=>⟨he,?_⟩;rw[e2] at hs;exact AO _ (Axc hk hkR ⟨hw1,hmn,hsum⟩ hw _ a' p' w rfl hm2 hp2 (Be hp hs))
 rcases QP i a p key with⟨h,h4⟩|⟨h,h4,h5⟩|⟨h,h4,h5,h6⟩|⟨h,h4,h5,h6⟩ <;> rw[h]
 ·refine Al rfl (Aa (Ag (x:=s) hs (Ag hs ?_)));refine As (HE AE (K:=[i,a,p]) (j:=0) (key:=key) hs (by decide) hz (show i.length<5000 by omega) rfl) λe w ⟨he,hs⟩=>⟨he,?_⟩;have e2:Db [i,a,p] 0 key=[Ap i key++[key],a,p]:=by
   show[Ap i _++[_],Ap a _,Ap p _]=_;rw[Au (hnd.io _ h4).1,Au (hnd.io _ h4).2]
  rw[e2] at hs;have hpi:(Ap i key++[key]).Perm i:=List.perm_append_comm.trans (Cm hnd.ni h4).symm;have hli:=hpi.length_eq;have ha:=Ey.same (S:=(Ap i key++[key])++(a++p)) hk (by rw[h1.eq];exact List.mem_append_left _ h4) (by rw[h1.eq];exact List.Perm.append_right _ hpi)
  exact⟨true,⟨none,0,0⟩,[],_,rfl,ha,(Ab.nilR Am.str (Cw ⟨rfl,ha.ok,hw1,hmn,hsum,by omega,hm⟩ (Be hp hs))).perm (List.Perm.swap _ _ _)⟩
 ·refine Ac rfl (Al rfl ?_);have hg:=Cm hnd.no h5;have hgl:=hg.length_eq;rw[List.length_cons] at hgl;refine j1 w (Ap a key) (p++[key]) (by rw[h1.eq];simp[h5]) (by show[Ap i _,Ap a _,Ap p _++[_]]=_;rw[Au h4,Au (hnd.oa _ h5)]) (by simp;omega) ?_ (Be hp hs)
  rw[h1.eq];exact List.Perm.append_left i ((List.Perm.append_right p hg).trans En.symm)
 ·refine Ac rfl (Ac rfl ?_);have hg:=Cm hnd.na h6;have hgl:=hg.length_eq;rw[List.length_cons] at hgl;refine j1 w a (Ap p key++[key]) (by rw[h1.eq];simp[h6]) (by show[Ap i _,Ap a _,Ap p _++[_]]=_;rw[Au h4,Au h5]) (by simp;omega) ?_ (Be hp hs)
  rw[h1.eq];exact List.Perm.append_left i (List.Perm.append_left a (hg.trans (List.perm_append_singleton _ _).symm))
 ·refine Ac rfl (Ac rfl ?_);refine jw Mn ?_;refine Ac rfl ?_;refine jw Xg ?_;have hno:key∉R:=by rw[h1.eq];simp[h4,h5,h6]
  refine Aa (Ag (x:=s) hs (Ag hs ?_));refine As (HE AE (K:=[i,a,p]) (j:=0) (key:=key) hs (by decide) hz (show i.length<5000 by omega) rfl) λe w ⟨he,hs⟩=>⟨he,?_⟩;have e2:Db [i,a,p] 0 key=[i++[key],a,p]:=by
   show[Ap i _++[_],Ap a _,Ap p _]=_;rw[Au h4,Au h5,Au h6]
  rw[e2] at hs;have hs:=Be (i:=i++[key]) (a:=a) (p:=p) hp hs;have hp0:((i++[key])++(a++p)).Perm (key::R):=by rw[h1.eq];exact Di
  have last:∀(w:World)(l:Sl)(g i' a' p' S:BL),La c R g S->(i'++(a'++p')).Perm (key::S)->(i'.length:Int)<=wd->(a'.length:Int)+p'.length<=mn->Ab W w (QT b c wd mn i' a' p'::recs Am.str l g::M) ->
    Og Bg (AcQ b c R key W M) 1 (some ⟨b,0,none⟩) l w:=by
   clear hs;intro w l g i' a' p' S hrec hpS hw' hm' hs;rw[Mq];obtain⟨s,xb,pr,kb,db,hp,hs⟩:=Cl hs;refine Ak [cY b s xb c wd mn pr kb db] hs λw hs=>?_;refine Aa (Ar (x:=s) (Ar (Aa (Ar ?_))));refine Ai hs λnb w hs=>Af hs ?_;refine AM AE (nr:=3) (K:=[i',a',p']) [0] (M:=cY b s xb c wd mn pr kb db::G0 kb::GJ db::recs Am.str l g::M) (by exact Ab.fin hs) (by omega) rfl λw hs=>?_;refine Af hs ?_;have e1:(Bu [i',a',p'] [0]:Int)=i'.length:=by simp[Bu]
   rw[e1];refine Ac (decide_eq_false (by omega)) ?_;refine jw Xh ?_;have ha:=Ey.miss hk hno hz hrec hpS;exact⟨false,l,g,_,rfl,ha,Cw ⟨rfl,ha.ok,hw1,hmn,hsum,hw',hm'⟩ (Be hp (by exact Ab.fin hs))⟩
  by_cases hfull:(i.length:Int)<wd
  ·refine AO 1 (last w ⟨none,0,0⟩ [] (i++[key]) a p R (.inl ⟨rfl,rfl,by omega⟩) hp0 (by simp;omega) hm ((Ab.nilR Am.str hs).perm (List.Perm.swap _ _ _)))
  refine AO 2 ?_;rw[Mq];have hs:=Ab.nilR Am.str hs;have hs:Ab W w (QT b c wd mn (i++[key]) a p::recs Am.str ⟨none,0,0⟩ []::M):=hs.perm (List.Perm.swap _ _ _);obtain⟨s,xb,pr,kb,db,hp,hs⟩:=Cl hs;refine Ak [cY b s xb c wd mn pr kb db] hs λw hs=>?_;refine Aa (Ar (x:=s) (Ar (Aa (Ar ?_))));refine Ai hs λnb w hs=>Af hs ?_;refine AM AE (nr:=3) (K:=[i++[key],a,p]) [0] (M:=cY b s xb c wd mn pr kb db::G0 kb::GJ db::recs Am.str ⟨none,0,0⟩ []::M) (by exact Ab.fin hs) (by omega) rfl λw hs=>?_;refine Af hs ?_
  have e1:(Bu [i++[key],a,p] [0]:Int)=i.length+1:=by simp[Bu]
  rw[e1];refine Al (decide_eq_true (by omega)) ?_;have hs:=Be (i:=i++[key]) (a:=a) (p:=p) (M:=recs Am.str ⟨none,0,0⟩ []::M) hp (by exact Ab.fin hs);refine Ah (Aha (by simp) (by simp;omega) hm hs) λv w ⟨l,g,a',p',hv,hm',hg,hs⟩=>⟨_,hv,?_⟩
  have hgl:g.length<=1:=by rcases hg with⟨rfl,_⟩|⟨x,rfl,_⟩ <;> simp
  have hs:Ab W w (recs Am.str ⟨none,0,0⟩ []::recs Am.str l g::QT b c wd mn ((i++[key]).drop 1) a' p'::M):=by exact Ab.fin hs
  refine FJ (s:=⟨none,0,0⟩) (new:=g) hs (FU (s:=l) (E:=Am.str) (rows:=g) hs) (BE (s:=l) (E:=Am.str) (rows:=g) hs) (CS _) rfl (by decide) (by simp;omega) λs2 w hs2 hs=>?_;have hs:Ab W w (QT b c wd mn ((i++[key]).drop 1) a' p'::recs Am.str s2 g::M):=by
   rw[List.nil_append] at hs;exact Ab.fin hs
  have hi0:0<i.length:=by omega
  have hhd:BV (i++[key])=BV i:=by
   cases i with
   | nil=>simp at hi0
   | cons x t=>rfl
  have JN:(((i++[key]).drop 1).length:Int)<=wd:=by simp;omega
  rcases hg with⟨rfl,hlt,hpm⟩|⟨x,rfl,hge,hx,hpm⟩
  ·exact last w s2 [] _ a' p' R (.inl ⟨rfl,rfl,by omega⟩) (hpm.symm.trans hp0) JN hm' hs
  ·have hxR:x∈R:=by
    rw[h1.eq];rcases hx with h|h|h
    ·rw[hhd] at h;subst h;exact List.mem_append_left _ (C1 hi0)
    ·simp[h]
    ·simp[h]
   have hpx:=Cm hk.nd hxR;have hev:=Ga.of_perm hk hpx;refine last w s2 [x] _ a' p' (Ap R x) (.inr ⟨x,rfl,hev,by omega⟩) ?_ JN hm' hs;have h7:=hpm.symm.trans (hp0.trans ((List.Perm.cons key hpx).trans (List.Perm.swap x key _)));exact(List.perm_cons x).1 h7
end
end Go.Proofs.YtjipofkjmmpjdaaGreat
namespace Go.Hb
theorem FG{V:Type}(e:BA×V)(m:List (BA×V))(k:BA):AC (e::m) k=if e.1=k then some e.2 else AC m k:=by
 unfold AC
 by_cases h:e.1=k
 ·simp[List.find?,h]
 ·simp[List.find?,h]
theorem Agu{V:Type}(m:List (BA×V))(k k':BA)(v:V):AC (E4 m k v) k'=if k=k' then (AC m k').map λ_=>v else AC m k':=by
 induction m with
 | nil=>simp[E4,AC]
 | cons e m ih=>
  have e1:E4 (e::m) k v=(if e.1=k then (k,v) else e)::E4 m k v:=rfl;rw[e1,FG,ih,FG]
  by_cases h1:e.1=k
  ·by_cases h2:k=k'
   ·simp[h1,h2]
   ·simp[h1,h2]
  ·by_cases h2:k=k'
   ·have h3:e.1≠k':=λh=>h1 (h.trans h2.symm);simp[h2,h3]
   ·simp[h1,h2]
theorem T3{V:Type}(m:List (BA×V))(k k':BA)(v:V):AC (Ci m k v) k'=if k=k' then some v else AC m k':=by
 unfold Ci;split
 ·rename_i u hu;rw[Agu]
  by_cases h:k=k'
  ·subst h;simp[hu]
  ·simp[h]
 ·rw[FG]
theorem T0{V:Type}(m:List (BA×V))(k x:BA):AC (BJ m k) x=if k=x then none else AC m x:=by
 induction m with
 | nil=>simp[BJ,AC]
 | cons e m ih=>
  by_cases h1:e.1=k
  ·have e1:BJ (e::m) k=BJ m k:=by simp[BJ,h1]
   rw[e1,ih,FG]
   by_cases h2:k=x
   ·simp[h2]
   ·have h3:e.1≠x:=λh=>h2 (h1.symm.trans h);simp[h2,h3]
  ·have e1:BJ (e::m) k=e::BJ m k:=by simp[BJ,h1]
   rw[e1,FG,ih,FG]
   by_cases h2:k=x
   ·have h3:e.1≠x:=λh=>h1 (h.trans h2.symm);simp[h2,h3]
   ·simp[h2]
end Go.Hb
namespace Go.Hb
instance {s:Int} {k:BA} {v:Int}:L5 (Cq (Am.int .i64)) [.i s,.s k,.i v] ⟨s,k,v⟩:=⟨rfl⟩
instance {a:Pl Int} {v:Int}:Zb (Cq (Am.int .i64)) a 2 (.i v) { a with v:=v }:=⟨rfl,by decide⟩
end Go.Hb
namespace Go.Proofs.YtjipofkjmmpjdaaGreat
open Go.Hb Go.IntWalk
section
variable{W w:World}{L M:List HP}{F:HP->List HP}{b:Nat}{seed:Int}{m:List (BA×Int)}{s:Sl}{ps:List (Pl Int)}{n1 u1:Int}
theorem Gk{st:BA->Nat}{k:BA}(hst:st=A0 seed ps.length)(hz:k.size<4611686018427387904)(hl:0<ps.length/\ps.length<4611686018427387904)(hstop:∃e,e<ps.length/\Bo ps ((st k+e) % ps.length)=0)
  (hs:Ab W w (blk b [.int .u64 seed,.l s.a s.n s.c,.i n1,.i u1]::recs (Cq (Am.int .i64)) s ps::M)) :
  Calls PR 193 #[pq b 0,.s k] w λe w'=>e = .returned (.tuple #[.i ((AI st ps k).1:Int),.b (AI st ps k).2])/\Ab W w' (blk b [.int .u64 seed,.l s.a s.n s.c,.i n1,.i u1]::recs (Cq (Am.int .i64)) s ps::M):=by
 refine c1 (cw ⟨mixed,Tryz.func193,rfl⟩ Aj0 ?_);have hn:=(Bx (s:=s) hs GL.pos).1;refine Ak [blk b [.int .u64 seed,.l s.a s.n s.c,.i n1,.i u1]] hs λw hs=>?_
 repeat (first|with_reducible refine Aa ?_|((with_reducible refine BY ?_);first|refine Ar ?_|fail)|fail)
 refine An (Gj hs hz) λe w ⟨he,hs⟩=>⟨_,he,?_⟩
 repeat (first|((with_reducible refine Bd ?_);first|refine Af hs ?_|fail)|fail)
 refine An (FT (n:=s.n) hs (FM _ _).1 (by omega) (by omega)) λe w ⟨he,hs⟩=>⟨_,he,?_⟩;have e9:(EF seed k).toNat % s.n=A0 seed ps.length k:=by rw[hn,IW]
 rw[e9];have loop:∀(f:Nat)(free:Option Nat)(i:Nat)(w:World),i<ps.length->(∃e,e<f/\Bo ps ((i+e) % ps.length)=0)->Ab W w (blk b [.int .u64 seed,.l s.a s.n s.c,.i n1,.i u1]::recs (Cq (Am.int .i64)) s ps::M) ->
   NO Bg (λv w'=>v = .tuple #[.i ((AD ps k f free i).1:Int),.b (AD ps k f free i).2]/\Ab W w' (blk b [.int .u64 seed,.l s.a s.n s.c,.i n1,.i u1]::recs (Cq (Am.int .i64)) s ps::M)) f (some ⟨b,0,none⟩) k (Lg free) (i:Int) w:=by
  intro f
  induction f with
  | zero=>intro free i w hi ⟨e,he,_⟩;omega
  | succ f ih=>
   intro free i w hi hstop hs;have hm:(i+1) % ps.length<ps.length:=Nat.mod_lt _ hl.1;have next:Bo ps i≠0->∃e',e'<f/\Bo ps (((i+1) % ps.length+e') % ps.length)=0:=by
    obtain⟨e,he,hz0⟩:=hstop;intro hne;cases e with
    | zero=>rw[Nat.add_zero,Nat.mod_eq_of_lt hi] at hz0;exact absurd hz0 hne
    | succ e=>exact⟨e,by omega,by rw[DC];exact hz0⟩
   have hwr:Int.tmod (IntKind.wrap .i64 ((i:Int)+1)) (s.n:Int)=(((i+1) % ps.length:Nat):Int):=by
    rw[i64_in _ (by omega),hn,Int.tmod_eq_emod_of_nonneg (by omega)];simp
   have j4:∀(free':Option Nat)(w:World),Bo ps i≠0->Ab W w (blk b [.int .u64 seed,.l s.a s.n s.c,.i n1,.i u1]::recs (Cq (Am.int .i64)) s ps::M)->AD ps k (f+1) free i=AD ps k f free' ((i+1) % ps.length) ->
     Ui Bg (λv w'=>v = .tuple #[.i ((AD ps k (f+1) free i).1:Int),.b (AD ps k (f+1) free i).2]/\Ab W w' (blk b [.int .u64 seed,.l s.a s.n s.c,.i n1,.i u1]::recs (Cq (Am.int .i64)) s ps::M)) f (some ⟨b,0,none⟩) k (Lg free') (i:Int) w:=by
    intro free' w hne hs he;refine jw W7 ?_;rw[he]
    repeat (first|with_reducible refine Aa ?_|((with_reducible refine A3 ?_);first|refine Ag hs ?_|fail)|((with_reducible refine PH ?_);first|refine KW ?_|fail)|fail)
    rw[hwr];exact ih free' _ w hm (next hne) hs
   rw[W9];have hcast:((i:Int)).toNat=i:=Int.toNat_natCast i
   repeat (first|with_reducible refine Aa ?_|((with_reducible refine A3 ?_);first|refine Ag hs ?_|refine Cj hs ?_|fail)|((with_reducible refine B0 ?_);first|refine BG hs λb_ o_ hs=>?_|fail)|fail)
   rw[hcast];have ei:(ps.getD i default).is_=Bo ps i:=rfl;have ek:(ps.getD i default).key=Du ps i:=rfl;rw[ei];have j2:∀(t:Bool)(w:World)(b1 o1:Nat),t=decide (Bo ps i=2/\Du ps i=k)->Ab W w (blk b [.int .u64 seed,.l s.a s.n s.c,.i n1,.i u1]::reca (Cq (Am.int .i64)) b1 o1 s ps::M) ->
     Ug Bg (λv w'=>v = .tuple #[.i ((AD ps k (f+1) free i).1:Int),.b (AD ps k (f+1) free i).2]/\Ab W w' (blk b [.int .u64 seed,.l s.a s.n s.c,.i n1,.i u1]::recs (Cq (Am.int .i64)) s ps::M)) f (some ⟨b,0,none⟩) k (Lg free) (i:Int) b1 (o1+i*3) t w:=by
    intro t w b1 o1 ht hs;refine jw W5 ?_;rw[ht]
    with_reducible refine Ec (λh1=>?_) (λh1=>?_)
    ·have e1:AD ps k (f+1) free i=(i,true):=by rw[AD,if_pos h1]
     rw[e1];exact⟨rfl,by exact Ab.fin hs⟩
    ·repeat (first|with_reducible refine Aa ?_|((with_reducible refine A3 ?_);first|refine Cj hs ?_|fail)|fail)
     rw[ei];have j3:∀(t:Bool)(w:World),t=decide (Bo ps i=1/\free=none)->Ab W w (blk b [.int .u64 seed,.l s.a s.n s.c,.i n1,.i u1]::reca (Cq (Am.int .i64)) b1 o1 s ps::M) ->
       Uh Bg (λv w'=>v = .tuple #[.i ((AD ps k (f+1) free i).1:Int),.b (AD ps k (f+1) free i).2]/\Ab W w' (blk b [.int .u64 seed,.l s.a s.n s.c,.i n1,.i u1]::recs (Cq (Am.int .i64)) s ps::M)) f (some ⟨b,0,none⟩) k (Lg free) (i:Int) b1 (o1+i*3) t w:=by
      intro t w ht hs;refine jw W6 ?_;rw[ht]
      with_reducible refine Ec (λh2=>?_) (λh2=>?_)
      ·exact j4 (some i) w (by rw[h2.1];decide) (by exact Ab.fin hs) (by rw[AD,if_neg h1,if_pos h2])
      ·repeat (first|with_reducible refine Aa ?_|((with_reducible refine A3 ?_);first|refine Cj hs ?_|fail)|fail)
       rw[ei];have j5:∀(t:Bool)(w:World),t=decide (Bo ps i=0/\free=none)->Ab W w (blk b [.int .u64 seed,.l s.a s.n s.c,.i n1,.i u1]::reca (Cq (Am.int .i64)) b1 o1 s ps::M) ->
         Uj Bg (λv w'=>v = .tuple #[.i ((AD ps k (f+1) free i).1:Int),.b (AD ps k (f+1) free i).2]/\Ab W w' (blk b [.int .u64 seed,.l s.a s.n s.c,.i n1,.i u1]::recs (Cq (Am.int .i64)) s ps::M)) f (some ⟨b,0,none⟩) k (Lg free) (i:Int) b1 (o1+i*3) t w:=by
        intro t w ht hs;refine jw W8 ?_;rw[ht]
        with_reducible refine Ec (λh3=>?_) (λh3=>?_)
        ·have e1:AD ps k (f+1) free i=(i,false):=by rw[AD,if_neg h1,if_neg h2,if_pos h3.1,h3.2];rfl
         rw[e1];exact⟨rfl,by exact Ab.fin hs⟩
        ·repeat (first|with_reducible refine Aa ?_|((with_reducible refine A3 ?_);first|refine Cj hs ?_|fail)|fail)
         rw[ei]
         with_reducible refine BP (λh4=>?_) (λh4=>?_)
         ·have e1:AD ps k (f+1) free i=(free.getD i,false):=by rw[AD,if_neg h1,if_neg h2,if_pos h4]
          rw[e1];cases free with
          | none=>exact absurd ⟨h4,rfl⟩ h3
          | some j=>exact⟨rfl,by exact Ab.fin hs⟩
         ·exact j4 free w h4 (by exact Ab.fin hs) (by rw[AD,if_neg h1,if_neg h2,if_neg h4])
       with_reducible refine BP (λh3=>?_) (λh3=>?_)
       ·exact j5 _ w (by simp[h3,Gi]) (by exact Ab.fin hs)
       ·exact j5 _ w (by simp[h3]) (by exact Ab.fin hs)
     with_reducible refine BP (λh2=>?_) (λh2=>?_)
     ·exact j3 _ w (by simp[h2,Gi]) (by exact Ab.fin hs)
     ·exact j3 _ w (by simp[h2]) (by exact Ab.fin hs)
   with_reducible refine BP (λh1=>?_) (λh1=>?_)
   ·repeat (first|with_reducible refine Aa ?_|((with_reducible refine A3 ?_);first|refine EH hs ?_|fail)|fail)
    rw[ek];refine j2 _ w _ _ ?_ (by exact Ab.fin hs);rw[Q6];simp[h1]
   ·refine j2 _ w _ _ ?_ (by exact Ab.fin hs);simp[h1]
 subst hst;have hl2:=loop ps.length none (A0 seed ps.length k) w (CA hl.1 k) hstop hs;rw[show Lg none = -1 from rfl] at hl2;unfold AI;refine⟨ps.length,?_⟩;exact hl2
theorem M4{k:BA}{v:Int}{j:Nat}(hj:j<ps.length)(hb:ps.length<4611686018427387904)(hu:u1=(A7 ps:Int))(hn1:0<=n1/\n1<4611686018427387904)(hs:Ab W w (blk b [.int .u64 seed,.l s.a s.n s.c,.i n1,.i u1]::recs (Cq (Am.int .i64)) s ps::M)) :
  Calls PR 195 #[pq b 0,.i (j:Int),.s k,.i v] w λe w'=>e = .returned (.tuple #[])/\Ab W w' (blk b [.int .u64 seed,.l s.a s.n s.c,.i (n1+1),.i (A7 (ps.set j ⟨2,k,v⟩):Int)]::recs (Cq (Am.int .i64)) s (ps.set j ⟨2,k,v⟩)::M):=by
 refine c1 (cw ⟨mixed,Tryz.func195,rfl⟩ Aj2 ?_);have hn:=(Bx (s:=s) hs GL.pos).1;have hle:A7 ps<=ps.length:=List.countP_le_length;rw[Bj hj _ (by show(2:Int)≠0;decide)]
 repeat (first|with_reducible refine Aa ?_|((with_reducible refine A3 ?_);first|refine Ag hs ?_|refine Cj hs ?_|fail)|((with_reducible refine B0 ?_);first|refine BG hs λb_ o_ hs=>?_|fail)|fail)
 simp only[Int.toNat_natCast];have ei:(ps.getD j default).is_=Bo ps j:=rfl;rw[ei]
 with_reducible refine BP (λh1=>?_) (λh1=>?_)
 ·repeat (first|with_reducible refine Aa ?_|((with_reducible refine A3 ?_);first|refine Ag hs ?_|fail)|((with_reducible refine Bk ?_);first|refine A4 hs λw hs=>?_|fail)|fail)
  refine jw LY ?_
  repeat (first|with_reducible refine Aa ?_|((with_reducible refine A3 ?_);first|refine Ag hs ?_|fail)|((with_reducible refine Bk ?_);first|refine A4 hs λw hs=>?_|refine Vz hs λw hs=>?_|fail)|((with_reducible refine B0 ?_);first|refine GT hs ?_|fail)|fail)
  rw[i64_in (n1+1) (by omega),hu,i64_in _ (by omega)] at hs;simp only[Int.toNat_natCast] at hs;rw[if_pos h1];exact⟨rfl,by exact Ab.fin hs⟩
 ·refine jw LY ?_
  repeat (first|with_reducible refine Aa ?_|((with_reducible refine A3 ?_);first|refine Ag hs ?_|fail)|((with_reducible refine Bk ?_);first|refine A4 hs λw hs=>?_|refine Vz hs λw hs=>?_|fail)|((with_reducible refine B0 ?_);first|refine GT hs ?_|fail)|fail)
  rw[i64_in (n1+1) (by omega),hu] at hs;simp only[Int.toNat_natCast] at hs;rw[if_neg h1,Nat.add_zero];exact⟨rfl,by exact Ab.fin hs⟩
theorem UY{st:BA->Nat}(hi:BU st ps m)(hkz:∀e∈m,e.1.size<4611686018427387904)(hm:m.length<1000000000)(hs:Ab W w (blk b [.int .u64 seed,.l s.a s.n s.c,.i (m.length:Int),.i u1]::recs (Cq (Am.int .i64)) s ps::M)) :
  Calls PR 196 #[pq b 0] w λe w'=>e = .returned (.tuple #[])/\Ab W w' (ixr (Am.int .i64) b seed m::M):=by
 refine c1 (cw ⟨mixed,Tryz.func196,rfl⟩ Aj3 ?_);have hn:=(Bx (s:=s) hs GL.pos).1;have hsmall:=hi.small;obtain⟨N,hN⟩:∃N:Nat,N=max 8 (4*(m.length+1)):=⟨_,rfl⟩;have e1:(if (IntKind.wrap .i64 ((4:Int)*(IntKind.wrap .i64 ((m.length:Int)+(1:Int)))))>(8:Int) then (IntKind.wrap .i64 ((4:Int)*(IntKind.wrap .i64 ((m.length:Int)+(1:Int))))) else (8:Int))=(N:Int):=by
  rw[i64_in ((m.length:Int)+1) (by omega),i64_in _ (by omega)];split <;> omega
 repeat (first|with_reducible refine Aa ?_|((with_reducible refine A3 ?_);first|refine Ag hs ?_|fail)|fail)
 rw[e1];refine Ee (sz:=3) hs rfl (by omega) (by omega) (by omega) (by omega) λs2 w hn2 _ _ hs=>?_;rw[Int.toNat_natCast] at hs hn2;have hs:Ab W w (recs (Cq (Am.int .i64)) s2 (List.replicate N ⟨0,Ae,0⟩)::blk b [.int .u64 seed,.l s.a s.n s.c,.i (m.length:Int),.i u1]::recs (Cq (Am.int .i64)) s ps::M):=by
  have e:=DE (Cq (Am.int .i64)) ⟨0,Ae,0⟩ N;unfold recs;rw[<- e];exact hs
 repeat (first|with_reducible refine Aa ?_|((with_reducible refine Bk ?_);first|refine A4 hs λw hs=>?_|fail)|fail)
 have hinv:=BU.new (st:=A0 seed N) (n:=N) (z:=(⟨0,Ae,0⟩:Pl Int)) rfl (by omega) (by omega) (CA (by omega));have hdist:(AQ ps).map (·.1) |>.Nodup:=(hi.perm.map (·.1)).nodup_iff.2 hi.nodup
 have hlen:(AQ ps).length=m.length:=hi.perm.length_eq;have loop:∀(f i:Nat)(w:World)(ps2:List (Pl Int))(mi:List (BA×Int)),i+f=ps.length->ps2.length=N->BU (A0 seed N) ps2 mi->mi.Perm (AQ (ps.take i))->A7 ps2<=mi.length ->
   Ab W w (blk b [.int .u64 seed,.l s2.a s2.n s2.c,.i (mi.length:Int),.i (A7 ps2:Int)]::recs (Cq (Am.int .i64)) s2 ps2::recs (Cq (Am.int .i64)) s ps::M) ->
   Kh Bg (λv w'=>v = .tuple #[]/\Ab W w' (ixr (Am.int .i64) b seed m::M)) (f+1) (some ⟨b,0,none⟩) s (s.n:Int) (i:Int) w:=by
  intro f
  induction f with
  | zero=>
   intro i w ps2 mi hif hpl hiv hp hu hs;rw[LZ];refine Ac (decide_eq_false (by omega)) ⟨rfl,?_⟩;rw[List.take_of_length_le (by omega)] at hp;have hpm:=hp.trans hi.perm;refine AW s2 (ps:=ps2) (n:=(mi.length:Int)) ?_ ?_ (by rw[hpm.length_eq]) rfl (by exact Ab.fin hs)
   ·rw[hpl];exact hiv.perm' hpm
   ·rw[hpl];have:=hpm.length_eq;omega
  | succ f ih=>
   intro i w ps2 mi hif hpl hiv hp hu hs;rw[LZ];refine Al (decide_eq_true (by omega)) ?_
   repeat (first|((with_reducible refine A3 ?_);first|refine Ag hs ?_|refine Cj hs ?_|refine EH hs ?_|refine M5 hs ?_|fail)|((with_reducible refine Bk ?_);first|refine A4 hs λw hs=>?_|fail)|((with_reducible refine B0 ?_);first|refine BG hs λb_ o_ hs=>?_|fail)|((with_reducible refine CC ?_);first|refine Ai hs λb_ w hs=>?_|fail)|fail)
   simp only[Int.toNat_natCast] at hs ⊢;have hil:i<ps.length:=by omega
   have hft:AQ (ps.take (i+1))=AQ (ps.take i)++Em (ps.getD i default):=by
    rw[Cc hil,Bz];simp[AQ]
   with_reducible refine BP (λh1=>?_) (λh1=>?_)
   ·have hop:Em (ps.getD i default)=[((ps.getD i default).key,(ps.getD i default).v)]:=Fk h1;rw[hop] at hft;have hsub:(AQ (ps.take (i+1))).Sublist (AQ ps):=by
     conv=>rhs;rw[<- List.take_append_drop (i+1) ps,Bz]
     exact List.sublist_append_left _ _
    have hmem:((ps.getD i default).key,(ps.getD i default).v)∈m:=hi.perm.subset (hsub.subset (by rw[hft];simp));have hnd:=hdist.sublist (hsub.map (·.1));rw[hft,List.map_append] at hnd;have hno:AC mi (ps.getD i default).key=none:=by
     rw[Br];intro e he hk;rw[List.nodup_append] at hnd;exact hnd.2.2 _ (List.mem_map_of_mem (f:=(·.1)) (hp.subset he)) _ (by simp) hk
    have hlt:mi.length+1<=m.length:=by
     have:=hsub.length_le;rw[hft,List.length_append,<- hp.length_eq] at this;simp only[List.length_cons,List.length_nil] at this;omega
    repeat (first|((with_reducible refine A3 ?_);first|refine Ag hs ?_|fail)|fail)
    have hs:Ab W w (blk b [.int .u64 seed,.l s2.a s2.n s2.c,.i (mi.length:Int),.i (A7 ps2:Int)]::recs (Cq (Am.int .i64)) s2 ps2::blk b_ [.i (ps.getD i default).is_,.s (ps.getD i default).key,.i (ps.getD i default).v]::recs (Cq (Am.int .i64)) s ps::M):=by exact Ab.fin hs
    refine AG (Gk (st:=A0 seed N) (by rw[hpl]) (hkz _ hmem) (by omega) (hiv.stop _) hs) λe w ⟨he,hs⟩=>⟨_,_,he,?_⟩;have hfm:(AI (A0 seed N) ps2 (ps.getD i default).key).2=false:=by
     cases hb:(AI (A0 seed N) ps2 (ps.getD i default).key).2 with
     | false=>rfl
     | true=>have:=(hiv.hit hb).2.2;rw[hno] at this;cases this
    obtain⟨hj,hj2,_,hjr⟩:=hiv.miss hfm
    repeat (first|((with_reducible refine A3 ?_);first|refine Ag hs ?_|fail)|fail)
    refine As (M4 (v:=(ps.getD i default).v) hj (by omega) rfl (by omega) hs) λe w ⟨he,hs⟩=>⟨he,?_⟩;rw[i64_in _ (by omega)];have hus:=Bj hj (⟨2,(ps.getD i default).key,(ps.getD i default).v⟩:Pl Int) (by show(2:Int)≠0;decide)
    have hus2:A7 (ps2.set (AI (A0 seed N) ps2 (ps.getD i default).key).1 ⟨2,(ps.getD i default).key,(ps.getD i default).v⟩)<=A7 ps2+1:=by rw[hus];split <;> omega
    refine ih (i+1) w _ (((ps.getD i default).key,(ps.getD i default).v)::mi) (by omega) (by rw[List.length_set];exact hpl) (hiv.add hj hj2 hno hjr (by omega)) ?_ (by simp only[List.length_cons];omega) ?_
    ·rw[hft];exact((List.Perm.cons _ hp).trans (List.perm_append_comm (l₁:=[_])))
    ·simp only[List.length_cons,Int.natCast_add];exact Ab.fin hs
   ·have hop:Em (ps.getD i default)=[]:=He h1;rw[hop,List.append_nil] at hft;rw[i64_in _ (by omega)];exact ih (i+1) w ps2 mi (by omega) hpl hiv (by rw[hft];exact hp) hu (by exact Ab.fin hs)
 refine⟨ps.length+1,?_⟩;refine loop ps.length 0 w (List.replicate N ⟨0,Ae,0⟩) [] (by omega) (by simp) hinv (by simp[AQ]) ?_ ?_
 ·have:A7 (List.replicate N (⟨0,Ae,0⟩:Pl Int))=0:=by
   unfold A7;rw[List.countP_eq_zero];intro a ha;rw[List.eq_of_mem_replicate ha];simp
  rw[this];exact Nat.zero_le _
 ·have:A7 (List.replicate N (⟨0,Ae,0⟩:Pl Int))=0:=by
   unfold A7;rw[List.countP_eq_zero];intro a ha;rw[List.eq_of_mem_replicate ha];simp
  rw[this];exact Ab.fin hs
end
section
variable{W w:World}{L M:List HP}{F:HP->List HP}{b:Nat}{seed:Int}{m:List (BA×Int)}{k:BA}
theorem Ac6(hs:Ab W w L):Calls PR 172 #[.int .u64 seed] w λe w'=>∃b,e = .returned (pq b 0)/\Ab W w' (ixr (Am.int .i64) b seed []::L):=by
 refine(cw ⟨mixed,Tryz.func172,rfl⟩ Ajv (Q:=λv w'=>∃b,v=pq b 0/\Ab W w' (ixr (Am.int .i64) b seed []::L)) ?_).mono λe w' ⟨v,he,b,hv,hs⟩=>⟨b,by rw[he,hv],hs⟩;refine Ee (sz:=3) hs rfl (by omega) (by omega) (by omega) (by omega) λs2 w hn2 _ _ hs=>?_;have hs:Ab W w (recs (Cq (Am.int .i64)) s2 (List.replicate 8 ⟨0,Ae,0⟩)::L):=hs
 repeat (first|((with_reducible refine CC ?_);first|refine Ai hs λb_ w hs=>?_|fail)|fail)
 refine⟨_,rfl,AW s2 (ps:=List.replicate 8 ⟨0,Ae,0⟩) (n:=0) (u:=0) (BU.new (n:=8) rfl (by omega) (by omega) (CA (by simp))) (by decide +revert) rfl rfl (by exact Ab.fin hs)⟩
theorem OE(h:Ab W w L)[hA:At L b (ixr (Am.int .i64) b seed m) F](hz:k.size<4611686018427387904):Calls PR 192 #[pq b 0,.s k] w λe w'=>e = .returned (.tuple #[.i ((AC m k).getD 0),.b (AC m k).isSome])/\Ab W w' (F (ixr (Am.int .i64) b seed m)):=by
 refine At.call1 (hA:=hA) h λM hs=>?_;clear h hA;refine c1 (cw ⟨mixed,Tryz.func192,rfl⟩ Ajz ?_);refine Al rfl ?_;obtain⟨s,ps,hi,h2,hn,hs⟩:=Cx hs;have hsm:=hi.small;have hbg:=hi.big;refine AG (Gk (st:=A0 seed ps.length) rfl hz (by omega) (hi.stop _) hs) λe w ⟨he,hs⟩=>⟨_,_,he,?_⟩;refine Ao (λhb=>?_) (λhb=>?_)
 ·obtain⟨hj,_,hg⟩:=hi.hit hb;rw[hg]
  repeat (first|with_reducible refine Aa ?_|((with_reducible refine A3 ?_);first|refine Ag hs ?_|refine EH hs ?_|fail)|((with_reducible refine B0 ?_);first|refine BG hs λb_ o_ hs=>?_|fail)|fail)
  simp only[Int.toNat_natCast];exact⟨rfl,AW s hi h2 rfl rfl (by exact Ab.fin hs)⟩
 ·rw[(hi.miss hb).2.2.1];exact⟨rfl,AW s hi h2 rfl rfl hs⟩
theorem UX(h:Ab W w L)[hA:At L b (ixr (Am.int .i64) b seed m) F]{v:Int}(hz:k.size<4611686018427387904)(hkz:∀e∈m,e.1.size<4611686018427387904)(hm:m.length<900000000):Calls PR 161 #[pq b 0,.s k,.i v] w λe w'=>e = .returned (.b (AC m k).isNone)/\Ab W w' (F (ixr (Am.int .i64) b seed (Ci m k v))):=by
 refine At.call1 (hA:=hA) h λM hs=>?_;clear h hA;refine c1 (cw ⟨mixed,Tryz.func161,rfl⟩ Ajl ?_);refine Ac rfl ?_;obtain⟨s,ps,hi,h2,hn,hs⟩:=Cx hs;have hsm:=hi.small;have hbg:=hi.big;refine AG (Gk (st:=A0 seed ps.length) rfl hz (by omega) (hi.stop _) hs) λe w ⟨he,hs⟩=>⟨_,_,he,?_⟩;refine Ao (λhb=>?_) (λhb=>?_)
 ·obtain⟨hj,hit,hg⟩:=hi.hit hb;have hp:Ci m k v=E4 m k v:=by unfold Ci;rw[hg]
  rw[hg,hp]
  repeat (first|with_reducible refine Aa ?_|((with_reducible refine A3 ?_);first|refine Ag hs ?_|fail)|((with_reducible refine Bk ?_);first|refine Ape hs λw hs=>?_|fail)|((with_reducible refine B0 ?_);first|refine BG hs λb_ o_ hs=>?_|fail)|fail)
  simp only[Int.toNat_natCast] at hs;have hset:=hi.set (v:=v) hj hit;have hus:A7 (ps.set (AI (A0 seed ps.length) ps k).1 { ps.getD (AI (A0 seed ps.length) ps k).1 default with v:=v })=A7 ps:=by
   rw[Bj hj _ (by show Bo ps _≠0;rw[hit.1];decide),if_neg (by rw[hit.1];decide)];rfl
  refine⟨rfl,AW s (n:=(m.length:Int)) (u:=(A7 ps:Int)) (by rw[List.length_set];exact hset) (by rw[hus,List.length_set];exact h2) (by simp[E4]) (by rw[hus]) (by exact Ab.fin hs)⟩
 ·obtain⟨hj,hj2,hg,hr⟩:=hi.miss hb;have hp:Ci m k v=(k,v)::m:=by unfold Ci;rw[hg]
  rw[hg,hp];refine As (M4 (v:=v) hj (by omega) rfl (by omega) hs) λe w ⟨he,hs⟩=>⟨he,?_⟩;have hus:=Bj hj (⟨2,k,v⟩:Pl Int) (by show(2:Int)≠0;decide)
  have hus2:A7 (ps.set (AI (A0 seed ps.length) ps k).1 ⟨2,k,v⟩)<=A7 ps+1:=by rw[hus];split <;> omega
  have hadd:=hi.add (v:=v) hj hj2 hg hr (by omega);have hsl:(ps.set (AI (A0 seed ps.length) ps k).1 ⟨2,k,v⟩).length=ps.length:=by simp
  generalize hps2:ps.set (AI (A0 seed ps.length) ps k).1 ⟨2,k,v⟩=ps2 at hs hus2 hadd hsl
  repeat (first|with_reducible refine Aa ?_|((with_reducible refine A3 ?_);first|refine Ag hs ?_|fail)|((with_reducible refine BY ?_);first|refine Ar ?_|fail)|((with_reducible refine Bd ?_);first|refine BB hs ?_|fail)|((with_reducible refine DN ?_);first|refine AF hs λw hs=>?_|fail)|fail)
  rw[i64_in _ (by omega),hn]
  with_reducible refine Dg (λh9=>?_) (λh9=>?_)
  ·have hkz2:∀e∈(k,v)::m,e.1.size<4611686018427387904:=by
    intro e he;rcases List.mem_cons.1 he with rfl|he
    ·exact hz
    ·exact hkz e he
   have hs2:Ab W w (blk b [.int .u64 seed,.l s.a s.n s.c,.i (((k,v)::m).length:Int),.i (A7 ps2:Int)]::recs (Cq (Am.int .i64)) s ps2::M):=by
    simp only[List.length_cons,Int.natCast_add];exact hs
   refine As (UY hadd hkz2 (by simp;omega) hs2) λe w ⟨he,hs⟩=>⟨he,?_⟩;exact⟨rfl,hs⟩
  ·exact⟨rfl,AW s (n:=(m.length:Int)+1) (by rw[hsl];exact hadd) (by omega) (by simp) rfl (by exact Ab.fin hs)⟩
theorem PA(h:Ab W w L)[hA:At L b (ixr (Am.int .i64) b seed m) F](hz:k.size<4611686018427387904)(hm:m.length<900000000):Calls PR 159 #[pq b 0,.s k] w λe w'=>e = .returned (.tuple #[.i ((AC m k).getD 0),.b (AC m k).isSome])/\Ab W w' (F (ixr (Am.int .i64) b seed (BJ m k))):=by
 refine At.call1 (hA:=hA) h λM hs=>?_;clear h hA;refine c1 (cw ⟨mixed,Tryz.func159,rfl⟩ Ajj ?_);refine AG (OE hs hz) λe w ⟨he,hs⟩=>⟨_,_,he,?_⟩;refine Kv (λv hg=>?_) (λhg=>?_)
 ·obtain⟨s,ps,hi,h2,hn,hs⟩:=Cx hs;have hsm:=hi.small;have hbg:=hi.big;refine AG (Gk (st:=A0 seed ps.length) rfl hz (by omega) (hi.stop _) hs) λe w ⟨he,hs⟩=>⟨_,_,he,?_⟩;have hb:(AI (A0 seed ps.length) ps k).2=true:=by
   cases hb:(AI (A0 seed ps.length) ps k).2 with
   | true=>rfl
   | false=>have:=(hi.miss hb).2.2.1;rw[hg] at this;cases this
  obtain⟨hj,hit,_⟩:=hi.hit hb
  repeat (first|with_reducible refine Aa ?_|((with_reducible refine A3 ?_);first|refine Ag hs ?_|fail)|((with_reducible refine Bk ?_);first|refine A4 hs λw hs=>?_|refine Vz hs λw hs=>?_|fail)|((with_reducible refine B0 ?_);first|refine BG hs λb_ o_ hs=>?_|fail)|fail)
  rw[i64_in _ (by omega)] at hs;simp only[Int.toNat_natCast] at hs;have hdel:=hi.del (z:=(⟨1,Ae,0⟩:Pl Int)) hj hit rfl;have hus:A7 (ps.set (AI (A0 seed ps.length) ps k).1 (⟨1,Ae,0⟩:Pl Int))=A7 ps:=by
   rw[Bj hj _ (by show(1:Int)≠0;decide),if_neg (by rw[hit.1];decide)];rfl
  have hl:=K7 hi.nodup hg;refine⟨by trivial,AW s (n:=(m.length:Int)-1) (u:=(A7 ps:Int)) (by rw[List.length_set];exact hdel) (by rw[hus,List.length_set];exact h2) (by omega) (by rw[hus]) (by exact Ab.fin hs)⟩
 ·have:BJ m k=m:=by
   unfold BJ;rw[List.filter_eq_self];intro e he;simpa using Br.1 hg e he
  rw[this];exact⟨by trivial,by exact Ab.fin hs⟩
end
end Go.Proofs.YtjipofkjmmpjdaaGreat
namespace Go.Hb
open Go.Proofs.YtjipofkjmmpjdaaGreat
abbrev cS(b:Nat)(s:Sl)(xb:Nat)(c sm gh:Int)(cb:Nat):HP:=blk b [.l s.a s.n s.c,pq xb 0,.i c,.i sm,.i gh,pq cb 0]
abbrev CM:=List (BA×Int)
def Cr(m:CM)(k:BA):Int:=(AC m k).getD 0
def QS(b:Nat)(c gh:Int)(i a o:BL)(m:CM):HP:=JM λ(z:Sl×Nat×Int×Nat)=>AJ [cS b z.1 z.2.1 c z.2.2.1 gh z.2.2.2,rowsC z.1 z.2.1 5000 [i,a,o],ixr (Am.int .i64) z.2.2.2 0 m]
structure Ib(c:Int)(R i a o:BL)(m:CM):Prop where
 eq:R=i++a
 ok:Dj c R
 gh:o.length<=1024
 cnt:∀k,0<=Cr m k/\Cr m k<=3
 sub:∀e∈m,e.1∈R
def Ig(b:Nat)(c:Int)(R:BL):HP:=JM λ(z:(BL×BL×BL)×CM×Int)=>EA (Ib c R z.1.1 z.1.2.1 z.1.2.2 z.2.1/\0<=z.2.2/\z.2.2<=1024) (QS b c z.2.2 z.1.1 z.1.2.1 z.1.2.2 z.2.1)
section
variable{W w:World}{M L:List HP}{b:Nat}{c gh v:Int}{R i a o:BL}{m:CM}{k x:BA}
theorem CE(h:Ab W w (QS b c gh i a o m::M)):∃(s:Sl) (xb:Nat) (sm:Int) (cb:Nat),Ab W w (cS b s xb c sm gh cb::rowsC s xb 5000 [i,a,o]::ixr (Am.int .i64) cb 0 m::M):=by
 obtain⟨⟨s,xb,sm,cb⟩,h⟩:=h.openE;exact⟨s,xb,sm,cb,h.openL⟩
theorem Ck{s:Sl}{xb cb:Nat}{sm:Int}(h:Ab W w (cS b s xb c sm gh cb::rowsC s xb 5000 [i,a,o]::ixr (Am.int .i64) cb 0 m::M)):Ab W w (QS b c gh i a o m::M):=
 Ab.shutE (s,xb,sm,cb) (Ab.shutL (Ps:=[_,_,_]) h)
theorem D4(h:Ab W w (Ig b c R::M)):∃(i a o:BL) (m:CM) (gh:Int),Ib c R i a o m/\(0<=gh/\gh<=1024)/\Ab W w (QS b c gh i a o m::M):=by
 obtain⟨⟨⟨i,a,o⟩,m,gh⟩,h⟩:=h.openE;obtain⟨h1,h⟩:=h.openA;exact⟨i,a,o,m,gh,h1.1,h1.2,h⟩
theorem CB(h1:Ib c R i a o m)(h2:0<=gh/\gh<=1024)(h:Ab W w (QS b c gh i a o m::M)):Ab W w (Ig b c R::M):=Ab.shutE ((i,a,o),m,gh) (Ab.shutA ⟨h1,h2⟩ h)
theorem Pa(h:Ab W w (Ig b c R::M)):Dj c R:=by
 obtain⟨i,a,o,m,gh,h1,_⟩:=D4 h;exact h1.ok
theorem TS(h:Ab W w (Ig b c R::M)):w.cell? ⟨b,2,none⟩=some (.i c):=by
 obtain⟨i,a,o,m,gh,_,_,h⟩:=D4 h;obtain⟨s,xb,sm,cb,h⟩:=CE h;exact h.cell (q:=0) rfl
theorem Q5(h:Ab W w (QS b c gh i a o m::M)):Nd3 i a o/\(m.map (·.1)).Nodup:=by
 obtain⟨s,xb,sm,cb,h⟩:=CE h;exact⟨nd3 (M:=ixr (Am.int .i64) cb 0 m::M) (h.drop),Afn (M:=M) (h.drop).drop⟩
theorem Ht:Cr (Ci m k v) x=if k=x then v else Cr m x:=by
 unfold Cr;rw[T3];split <;> rfl
theorem TH:Cr (BJ m k) x=if k=x then 0 else Cr m x:=by
 unfold Cr;rw[T0];split <;> rfl
theorem Ib.two(h:Ib c R i a o m):i.length+a.length<=1024/\R.length=i.length+a.length:=by
 have h1:=h.ok.room;have h2:=h.ok.c2
 have h3:R.length=i.length+a.length:=by rw[h.eq];simp
 omega
theorem Ib.mlen(h:Ib c R i a o m)(hn:(m.map (·.1)).Nodup):m.length<=1024:=by
 have h1:=E5 hn (b:=R) λk hk=>by
  obtain⟨e,he,rfl⟩:=List.mem_map.1 hk;exact h.sub e he
 have h2:=h.two;rw[List.length_map] at h1;omega
theorem Ib.msm(h:Ib c R i a o m):∀e∈m,e.1.size<4611686018427387904:=λe he=>by
 have:=h.ok.small _ (h.sub e he);omega
theorem KD{m:CM}{S:BL}(h:∀e∈m,e.1∈S)(hk:k∈S):∀e∈Ci m k v,e.1∈S:=Td (P:=λk=>k∈S) h hk
theorem TJ{m:CM}{S T:BL}(h:∀e∈m,e.1∈S)(hS:∀x∈S,x≠k->x∈T):∀e∈BJ m k,e.1∈T:=λe he=>by
 unfold BJ at he;rw[List.mem_filter,decide_eq_true_eq] at he;exact hS _ (h e he.1) he.2
end
end Go.Hb
namespace Go.Proofs.YtjipofkjmmpjdaaGreat
open Go.Hb Go.IntWalk
section
variable{W w:World}{L M:List HP}{b:Nat}{c gh n:Int}{R i a o:BL}{m:CM}{key:BA}
theorem KM{j:Nat}(hj:j<2)(hz:key.size<64)(hl:i.length+a.length<=1024/\o.length<=1024)(hm:m.length<=2000/\∀e∈m,e.1.size<4611686018427387904)(hs:Ab W w (QS b c gh i a o m::M)) :
  Ba PR 371 #[pq b 0,.i (j:Int),.s key,.i n] w λv w'=>v = .tuple #[]/\∀i' a' o',Db [i,a,o] j key=[i',a',o']->Ab W w' (QS b c gh i' a' o' (Ci m key n)::M):=by
 refine cw ⟨mixed,Tryz.func371,rfl⟩ Amp ?_;obtain⟨s,xb,sm,cb,hs⟩:=CE hs;refine Aa (Ag (x:=s) hs (Ag hs ?_));refine As (EU By (K:=[i,a,o]) hs (show j<3 by omega) hz (by omega) (show 3<=4 by decide) (by
  match j,hj with
  | 0,_=>show i.length<5000;omega
  | 1,_=>show a.length<5000;omega)) λe w ⟨he,hs⟩=>⟨he,?_⟩
 refine Aa (Ag hs ?_);refine An (UX hs (v:=n) (by omega) hm.2 (by omega)) λe w ⟨he,hs⟩=>⟨_,he,?_⟩;refine⟨rfl,λi' a' o' e=>?_⟩;rw[e] at hs;exact Ck hs
theorem Vx(hz:key.size<64)(hm:m.length<=2000)(hs:Ab W w (QS b c gh i a o m::M)) :
  Ba PR 376 #[pq b 0,.s key] w λv w'=>v = .tuple #[]/\Ab W w' (QS b c gh (Ap i key) (Ap a key) (Ap o key) (BJ m key)::M):=by
 refine cw ⟨mixed,Tryz.func376,rfl⟩ Amu ?_;obtain⟨s,xb,sm,cb,hs⟩:=CE hs;refine Aa (Ag (x:=s) hs (Ag hs ?_));refine As (BT By (K:=[i,a,o]) hs hz (by omega) (show 3<=4 by decide)) λe w ⟨he,hs⟩=>⟨he,?_⟩;refine Aa (Ag hs ?_);refine AG (PA hs (by omega) (by omega)) λe w ⟨he,hs⟩=>⟨_,_,he,?_⟩;exact⟨rfl,Ck hs⟩
theorem A0u(hs:Ab W w L){r:Int}:Ba PR 155 #[.i r] w λv w'=>∃b,v=pq b 0/\Ab W w' (Ig b (AU r) []::L):=by
 refine cw ⟨mixed,Tryz.func155,rfl⟩ Ajg ?_;refine Ax (by decide) ?_;refine(KL By (nr:=3) (by decide) hs).mono λe w ⟨s,xb,he,hs⟩=>⟨s,_,he,?_⟩;have hs:=IS (N':=5000) hs (by omega);refine An (Ac6 hs) λe w ⟨cb,he,hs⟩=>⟨_,he,?_⟩;refine Ai hs λb w hs=>⟨b,rfl,?_⟩;have hr:=DZ r;rw[KH] at hs;have e3:List.replicate 3 ([]:BL)=[[],[],[]]:=rfl;rw[e3] at hs;have hok:Ib (AU r) [] [] [] [] []:=⟨rfl,Dj.nil hr.1 hr.2,by simp,λk=>by simp[Cr,AC],by simp⟩;have h5:1<=(if IntKind.wrap .i64 (Int.tdiv (AU r) 10)>1 then IntKind.wrap .i64 (Int.tdiv (AU r) 10) else 1)/\(if IntKind.wrap .i64 (Int.tdiv (AU r) 10)>1 then IntKind.wrap .i64 (Int.tdiv (AU r) 10) else 1)<=1024:=by
  rw[Int.tdiv_eq_ediv_of_nonneg (by omega),i64_in _ (by omega)];split <;> omega
 refine CB hok ?_ (Ck (cb:=cb) (by exact Ab.fin hs));generalize (if IntKind.wrap .i64 (Int.tdiv (AU r) 10)>1 then IntKind.wrap .i64 (Int.tdiv (AU r) 10) else 1)=q at h5;rw[i64_in _ (by omega)];split <;> omega
theorem Awr(hs:Ab W w (Ig b c R::M)):Ba PR 368 #[pq b 0] w λv w'=>v = .i c/\Ab W w' (Ig b c R::M):=by
 refine cw ⟨mixed,Tryz.func368,rfl⟩ Amo ?_;obtain⟨i,a,o,m,gh,h1,h2,hs⟩:=D4 hs;obtain⟨s,xb,sm,cb,hs⟩:=CE hs;refine Ac rfl (Aa (Ag hs ?_));exact⟨rfl,CB h1 h2 (Ck hs)⟩
theorem Q4(hs:Ab W w (Ig b c R::M)):Ba PR 365 #[pq b 0] w λv w'=>v = .i (R.length:Int)/\Ab W w' (Ig b c R::M):=by
 refine cw ⟨mixed,Tryz.func365,rfl⟩ Aml ?_;obtain⟨i,a,o,m,gh,h1,h2,hs⟩:=D4 hs;obtain⟨s,xb,sm,cb,hs⟩:=CE hs;refine Ac rfl (Aa (Ag (x:=s) hs (Ag hs ?_)));refine Ai hs λnb w hs=>?_;refine AM By (nr:=3) (K:=[i,a,o]) [0,1] (M:=cS b s xb c sm gh cb::ixr (Am.int .i64) cb 0 m::M) (by exact Ab.fin hs) (by omega) rfl λw hs=>?_;refine⟨?_,CB h1 h2 (Ck (by exact Ab.fin hs))⟩;rw[h1.two.2];simp[Bu]
theorem Vv(hz:key.size<64)(hs:Ab W w (Ig b c R::M)):Ba PR 363 #[pq b 0,.s key] w λv w'=>v = .b (decide (key∈R))/\Ab W w' (Ig b c R::M):=by
 refine cw ⟨mixed,Tryz.func363,rfl⟩ Amj ?_;obtain⟨i,a,o,m,gh,h1,h2,hs⟩:=D4 hs;obtain⟨s,xb,sm,cb,hs⟩:=CE hs;refine Ac rfl (Aa (Ag (x:=s) hs (Ag hs ?_)));refine An (D9 By (K:=[i,a,o]) hs hz) λe w ⟨he,hs⟩=>⟨_,he,?_⟩;have e:∀t:Bool,(t=true↔key∈i\/key∈a)->Value.bool t = .b (decide (key∈R)):=λt ht=>by
  congr 1;rw[Bool.eq_iff_iff,ht,h1.eq,decide_eq_true_eq,List.mem_append]
 rcases QP i a o key with⟨h,h4⟩|⟨h,h4,h5⟩|⟨h,h4,h5,h6⟩|⟨h,h4,h5,h6⟩ <;> rw[h]
 ·exact Al rfl ⟨e _ (by simp[h4]),CB h1 h2 (Ck hs)⟩
 ·exact Ac rfl ⟨e _ (by simp[h5]),CB h1 h2 (Ck hs)⟩
 ·exact Ac rfl ⟨e _ (by simp[h4,h5]),CB h1 h2 (Ck hs)⟩
 ·exact Ac rfl ⟨e _ (by simp[h4,h5]),CB h1 h2 (Ck hs)⟩
theorem Awp(hs:Ab W w (Ig b c R::M)):Ba PR 364 #[pq b 0] w λv w'=>∃(l:Sl) (ks:BL),v = .l l.a l.n l.c/\ks.Perm R/\Ab W w' (Ig b c R::recs Am.str l ks::M):=by
 refine cw ⟨mixed,Tryz.func364,rfl⟩ Amk ?_;obtain⟨i,a,o,m,gh,h1,h2,hs⟩:=D4 hs;obtain⟨s,xb,sm,cb,hs⟩:=CE hs;refine Ac rfl (Aa (Ag (x:=s) hs (Ag hs ?_)));refine Ai hs λnb w hs=>?_;refine OF By (nr:=3) (K:=[i,a,o]) [0,1] (M:=cS b s xb c sm gh cb::ixr (Am.int .i64) cb 0 m::M) (by exact Ab.fin hs) (by omega) rfl λl w hs=>?_;refine⟨l,_,rfl,?_,CB h1 h2 (Ck (by exact Ab.fin hs))⟩;rw[h1.eq];simp[EI]
theorem YB(hl:i.length+a.length<=1024/\o.length<=1024)(h0:0<a.length)(hc:∀k,0<=Cr m k/\Cr m k<=3)(hsub:∀e∈m,e.1∈i++a)(hs:Ab W w (QS b c gh i a o m::M)) :
  Ba PR 374 #[pq b 0] w λv w'=>∃(x:BA) (a':BL) (m':CM),v = .s x/\a.Perm (x::a')/\(∀k,0<=Cr m' k/\Cr m' k<=3)/\(∀e∈m',e.1∈i++a')/\Ab W w' (QS b c gh i a' o m'::M):=by
 refine cw ⟨mixed,Tryz.func374,rfl⟩ Amt ?_;have loop:∀(f:Nat)(y:BL)(m:CM)(w:World),a.Perm y->((y.map λk=>(Cr m k).toNat).sum=f)->(∀k,0<=Cr m k/\Cr m k<=3)->(∀e∈m,e.1∈i++y)->Ab W w (QS b c gh i y o m::M) ->
   OC Bg (λv w'=>∃(x:BA) (a':BL) (m':CM),v = .s x/\a.Perm (x::a')/\(∀k,0<=Cr m' k/\Cr m' k<=3)/\(∀e∈m',e.1∈i++a')/\Ab W w' (QS b c gh i a' o m'::M)) (f+1) (some ⟨b,0,none⟩) w:=by
  clear hs hc hsub;intro f
  induction f using Nat.strongRecOn with
  | ind f ih=>
   intro y m w hp hf hc hsub hs;rw[Xy];have hyl:=hp.length_eq;have hy0:0<y.length:=by omega
   obtain⟨hnd,hmn⟩:=Q5 hs;have hm:=C1 hy0;have hz:=hnd.small _ (.inr (.inl hm));have hml:m.length<=1024:=by
    have h1:=E5 hmn (b:=i++y) λk hk=>by
     obtain⟨e,he,rfl⟩:=List.mem_map.1 hk;exact hsub e he
    rw[List.length_map,List.length_append] at h1;omega
   have hms:∀e∈m,e.1.size<4611686018427387904:=λe he=>by
    have:=hnd.small e.1 ((List.mem_append.1 (hsub e he)).elim .inl λh=>.inr (.inl h));omega
   obtain⟨s,xb,sm,cb,hs⟩:=CE hs;refine Aa (Ag (x:=s) hs (Ag hs ?_));refine An (Bp By (K:=[i,y,o]) (j:=1) hs (lt3 (by decide)) (show 3<=4 by decide)) λe w ⟨he,hs⟩=>⟨_,he,?_⟩;refine Aa (Ag hs ?_);refine AG (OE hs (k:=BV y) (by omega)) λe w ⟨he,hs⟩=>⟨_,_,he,?_⟩;have hs:=Ck hs;have ec:((AC m (BV y)).getD 0)=Cr m (BV y):=rfl;rw[ec];have hdec:y=BV y::y.drop 1:=by
    cases y with
    | nil=>simp at hy0
    | cons x t=>rfl
   with_reducible refine Az (λh1=>?_) (λh1=>?_)
   ·refine AX (Vx (key:=BV y) hz (by omega) hs) λv w ⟨hv,hs⟩=>⟨hv,?_⟩;rw[Au λh=>(hnd.io _ h).1 hm,BI hnd.no hy0,Au (hnd.oa _ hm)] at hs;refine⟨BV y,y.drop 1,_,rfl,hdec ▸ hp,λk=>?_,TJ hsub λx hx hne=>?_,hs⟩
    ·rw[TH];split
     ·omega
     ·exact hc k
    ·rcases List.mem_append.1 hx with h|h
     ·exact List.mem_append_left _ h
     ·rw[hdec] at h;exact List.mem_append_right _ ((List.mem_cons.1 h).resolve_left hne)
   ·have hc1:=hc (BV y);rw[i64_in _ (by omega)];refine AX (KM (j:=1) (key:=BV y) (by decide) hz ⟨by omega,hl.2⟩ ⟨by omega,hms⟩ hs) λv w ⟨hv,hs⟩=>⟨hv,?_⟩;have e1:Db [i,y,o] 1 (BV y)=[i,y.drop 1++[BV y],o]:=by
     show[Ap i _,Ap y _++[_],Ap o _]=_;rw[Au λh=>(hnd.io _ h).1 hm,BI hnd.no hy0,Au (hnd.oa _ hm)]
    have hs:=hs _ _ _ e1;have hpy:y.Perm (y.drop 1++[BV y]):=by
     rw[hdec];exact(List.perm_append_singleton _ _).symm
    have hsum:((y.drop 1++[BV y]).map λk=>(Cr (Ci m (BV y) (Cr m (BV y)-1)) k).toNat).sum+1=f:=by
     have hnn:BV y∉y.drop 1:=by
      have:=hnd.no;rw[hdec] at this;exact(List.nodup_cons.1 this).1
     have e2:((y.drop 1).map λk=>(Cr (Ci m (BV y) (Cr m (BV y)-1)) k).toNat)=(y.drop 1).map λk=>(Cr m k).toNat:=
      List.map_congr_left λk hk=>by rw[Ht,if_neg λe=>hnn (by rw[e];exact hk)]
     have e3:(y.map λk=>(Cr m k).toNat).sum=(Cr m (BV y)).toNat + ((y.drop 1).map λk=>(Cr m k).toNat).sum:=by
      conv=>lhs;rw[hdec]
      rfl
     rw[List.map_append,List.sum_append,e2,List.map_cons,List.map_nil,List.sum_cons,List.sum_nil,Ht,if_pos rfl];omega
    obtain⟨g,hg⟩:∃g,f=g+1:=⟨f-1,by omega⟩;subst hg;refine ih g (by omega) _ _ w (hp.trans hpy) (by omega) (λk=>?_) (KD (λe he=>?_) (by simp)) hs
    ·rw[Ht];split
     ·omega
     ·exact hc k
    ·rcases List.mem_append.1 (hsub e he) with h|h
     ·exact List.mem_append_left _ h
     ·exact List.mem_append_right _ (hpy.mem_iff.1 h)
 exact AO _ (loop _ a m w (List.Perm.refl _) rfl hc hsub hs)
abbrev SmQ(b:Nat)(c gh:Int)(R:BL)(W:World)(M:List HP):VW:=λv w'=>∃(x:BA) (t:Bool) (i a o:BL) (m:CM),v = .tuple #[.s x,.b t]/\(t=true->R.Perm (x::(i++a)))/\(t=false->R.Perm (i++a)/\i=[])/\o.length<=1024/\(∀k,0<=Cr m k/\Cr m k<=3)/\(∀e∈m,e.1∈i++a)/\Ab W w' (QS b c gh i a o m::M)
theorem Agt{m1:Nat}{x:BA}(hg:0<=gh/\gh<=1024){Q:VW}(hQ:∀(o:BL)(w':World),o.length<=1024->Ab W w' (QS b c gh i a o m::M)->Q (.tuple #[.s x,.b true]) w') :
  ∀(f:Nat)(o:BL)(w:World),o.length=f->Ab W w (QS b c gh i a o m::M)->OB Bg Q m1 (f+1) (some ⟨b,0,none⟩) x w:=by
 intro f
 induction f with
 | zero=>
  intro o w ho hs;rw[M1];obtain⟨s,xb,sm,cb,hs⟩:=CE hs;refine Ak [cS b s xb c sm gh cb] hs λw hs=>?_;refine Aa (Ar (x:=s) (Ar (Aa (Ar ?_))));refine Ai hs λnb w hs=>Af hs ?_;refine AM By (nr:=3) (K:=[i,a,o]) [2] (M:=cS b s xb c sm gh cb::ixr (Am.int .i64) cb 0 m::M) (by exact Ab.fin hs) (by omega) rfl λw hs=>?_;refine Af hs ?_;have e2:(Bu [i,a,o] [2]:Int)=0:=by simp[Bu,ho]
  rw[e2];refine Ac (decide_eq_false (by omega)) ?_;refine jw Mz ?_;exact hQ o w (by omega) (Ck (by exact Ab.fin hs))
 | succ f ih=>
  intro o w ho hs;rw[M1];have hnd:=(Q5 hs).1;obtain⟨s,xb,sm,cb,hs⟩:=CE hs;refine Ak [cS b s xb c sm gh cb] hs λw hs=>?_;refine Aa (Ar (x:=s) (Ar (Aa (Ar ?_))));refine Ai hs λnb w hs=>Af hs ?_;refine AM By (nr:=3) (K:=[i,a,o]) [2] (M:=cS b s xb c sm gh cb::ixr (Am.int .i64) cb 0 m::M) (by exact Ab.fin hs) (by omega) rfl λw hs=>?_;refine Af hs ?_;have e2:(Bu [i,a,o] [2]:Int)=o.length:=by simp[Bu]
  rw[e2];have hs:Ab W w (cS b s xb c sm gh cb::rowsC s xb 5000 [i,a,o]::ixr (Am.int .i64) cb 0 m::M):=by exact Ab.fin hs
  with_reducible refine Az (λh9=>?_) (λh9=>?_)
  ·refine Ak [cS b s xb c sm gh cb] hs λw hs=>?_;refine Aa (Ar (x:=s) (Ar (Aa (Ag (x:=s) hs (Ag hs (Af hs ?_))))));refine An (Bp By (K:=[i,a,o]) (j:=2) hs (lt3 (by decide)) (show 3<=4 by decide)) λe w ⟨he,hs⟩=>⟨_,he,Af hs ?_⟩;have h0:0<o.length:=by omega
   have hm:=C1 h0;refine As (BT By (K:=[i,a,o]) (key:=BV o) hs (hnd.small _ (.inr (.inr hm))) (by omega) (show 3<=4 by decide)) λe w ⟨he,hs⟩=>⟨he,?_⟩;have e1:Dp [i,a,o] (BV o)=[i,a,o.drop 1]:=by
    show[Ap _ _,Ap a _,Ap o _]=_;rw[Au λh=>(hnd.io _ h).2 hm,Au λh=>hnd.oa _ h hm,BI hnd.na h0]
   rw[e1] at hs;exact ih (o.drop 1) w (by rw[List.length_drop];omega) (Ck hs)
  ·refine jw Mz ?_;exact hQ o w (by omega) (Ck hs)
theorem Vw(hg:0<=gh/\gh<=1024)(hr:Ib c R i a o m)(hs:Ab W w (QS b c gh i a o m::M)):Ba PR 373 #[pq b 0] w (SmQ b c gh R W M):=by
 refine cw ⟨mixed,Tryz.func373,rfl⟩ Ams ?_;have h2:=hr.two;have loop:∀(f:Nat)(i a:BL)(m:CM)(w:World),i.length=f->R.Perm (i++a)->(∀k,0<=Cr m k/\Cr m k<=3)->(∀e∈m,e.1∈i++a)->Ab W w (QS b c gh i a o m::M) ->
   O1 Bg (SmQ b c gh R W M) (f+1) (some ⟨b,0,none⟩) w:=by
  have hgo:=hr.gh;clear hs hr;intro f
  induction f with
  | zero=>
   intro i a m w hf hp hc hsub hs;rw[M0];obtain⟨s,xb,sm,cb,hs⟩:=CE hs;refine Aa (Ag (x:=s) hs (Ag hs ?_));refine Ai hs λnb w hs=>?_;refine AM By (nr:=3) (K:=[i,a,o]) [0] (M:=cS b s xb c sm gh cb::ixr (Am.int .i64) cb 0 m::M) (by exact Ab.fin hs) (by omega) rfl λw hs=>?_;have e2:(Bu [i,a,o] [0]:Int)=0:=by simp[Bu,hf]
   rw[e2];refine Ac rfl ?_;refine jw Xx ?_;exact⟨_,false,i,a,o,m,rfl,(λh=>by cases h),λ_=>⟨hp,List.length_eq_zero_iff.1 hf⟩,hgo,hc,hsub,Ck (by exact Ab.fin hs)⟩
  | succ f ih=>
   intro i a m w hf hp hc hsub hs;rw[M0];have hpl:=hp.length_eq;rw[List.length_append] at hpl;obtain⟨hnd,hmn⟩:=Q5 hs;have h0:0<i.length:=by omega
   have hm:=C1 h0;have hz:=hnd.small _ (.inl hm);have hml:m.length<=1024:=by
    have h1:=E5 hmn (b:=i++a) λk hk=>by
     obtain⟨e,he,rfl⟩:=List.mem_map.1 hk;exact hsub e he
    rw[List.length_map,List.length_append] at h1;omega
   have hms:∀e∈m,e.1.size<4611686018427387904:=λe he=>by
    have:=hnd.small e.1 ((List.mem_append.1 (hsub e he)).elim .inl λh=>.inr (.inl h));omega
   have hdec:i=BV i::i.drop 1:=by
    cases i with
    | nil=>simp at h0
    | cons x t=>rfl
   obtain⟨s,xb,sm,cb,hs⟩:=CE hs;refine Aa (Ag (x:=s) hs (Ag hs ?_));refine Ai hs λnb w hs=>?_;refine AM By (nr:=3) (K:=[i,a,o]) [0] (M:=cS b s xb c sm gh cb::ixr (Am.int .i64) cb 0 m::M) (by exact Ab.fin hs) (by omega) rfl λw hs=>?_;have e2:(Bu [i,a,o] [0]:Int)=i.length:=by simp[Bu]
   rw[e2];refine Al (decide_eq_true (by omega)) ?_;have hs:Ab W w (cS b s xb c sm gh cb::rowsC s xb 5000 [i,a,o]::ixr (Am.int .i64) cb 0 m::M):=by exact Ab.fin hs
   refine Aa (Ag (x:=s) hs (Ag hs ?_));refine An (Bp By (K:=[i,a,o]) (j:=0) hs (lt3 (by decide)) (show 3<=4 by decide)) λe w ⟨he,hs⟩=>⟨_,he,?_⟩;refine Aa (Ag hs ?_);refine AG (OE hs (k:=BV i) (by omega)) λe w ⟨he,hs⟩=>⟨_,_,he,?_⟩;have hs:=Ck hs
   with_reducible refine Az (λh1=>?_) (λh1=>?_)
   ·refine AX (KM (j:=1) (n:=0) (key:=BV i) (by decide) hz ⟨by omega,hgo⟩ ⟨by omega,hms⟩ hs) λv w ⟨hv,hs⟩=>⟨hv,?_⟩;have e1:Db [i,a,o] 1 (BV i)=[i.drop 1,a++[BV i],o]:=by
     show[Ap i _,Ap a _++[_],Ap o _]=_;rw[Au (hnd.io _ hm).1,BI hnd.ni h0,Au (hnd.io _ hm).2]
    have hs:=hs _ _ _ e1;have hpi:(i++a).Perm (i.drop 1++(a++[BV i])):=by
     conv=>lhs;rw[hdec]
     exact En.symm
    refine ih _ _ _ w (by rw[List.length_drop];omega) (hp.trans hpi) (λk=>?_) (KD (λe he=>hpi.mem_iff.1 (hsub e he)) (by simp)) hs;rw[Ht];split
    ·omega
    ·exact hc k
   ·refine AX (Vx (key:=BV i) hz (by omega) hs) λv w ⟨hv,hs⟩=>⟨hv,?_⟩;rw[BI hnd.ni h0,Au (hnd.io _ hm).1,Au (hnd.io _ hm).2] at hs;obtain⟨s,xb,sm,cb,hs⟩:=CE hs;refine Aa (Ag (x:=s) hs (Ag hs ?_));refine As (HE By (K:=[i.drop 1,a,o]) (j:=2) (key:=BV i) hs (by decide) hz (show o.length<5000 by omega) rfl) λe w ⟨he,hs⟩=>⟨he,?_⟩;have hni:BV i∉i.drop 1:=by
     have:=hnd.ni;rw[hdec] at this;exact(List.nodup_cons.1 this).1
    have e1:Db [i.drop 1,a,o] 2 (BV i)=[i.drop 1,a,o++[BV i]]:=by
     show[Ap _ _,Ap a _,Ap o _++[_]]=_;rw[Au hni,Au (hnd.io _ hm).1,Au (hnd.io _ hm).2]
    rw[e1] at hs;have hs:=Ck hs;refine AO _ (Agt hg (λo w ho hs=>?_) _ _ w rfl hs);refine⟨BV i,true,_,_,o,_,rfl,λ_=>?_,(λh=>by cases h),ho,λk=>?_,TJ hsub λx hx hne=>?_,hs⟩
    ·refine hp.trans ?_
     conv=>lhs;rw[hdec]
     exact List.Perm.refl _
    ·rw[TH];split
     ·omega
     ·exact hc k
    ·rw[hdec] at hx;exact(List.mem_cons.1 hx).resolve_left hne
 exact AO _ (loop _ i a m w rfl (by rw[hr.eq]) hr.cnt (by rw[<- hr.eq];exact hr.sub) hs)
theorem Y9(hs:Ab W w (Ig b c R::M)):Ba PR 361 #[pq b 0] w λv w'=>∃x yes S,v = .tuple #[.s x,.b yes]/\Ga c R x yes S/\Ab W w' (Ig b c S::M):=by
 refine cw ⟨mixed,Tryz.func361,rfl⟩ Ami ?_;refine Ah (Q4 hs) λv w ⟨hv,hs⟩=>⟨_,hv,?_⟩;have hk:=Pa hs
 with_reducible refine Az (λh0=>?_) (λh0=>?_)
 ·exact⟨_,_,_,rfl,Ga.none hk (by omega),hs⟩
 obtain⟨i,a,o,m,gh,h1,h2,hs⟩:=D4 hs;have h3:=h1.two;have main:∀(i a o:BL)(m:CM)(w:World),0<a.length->R.Perm (i++a)->o.length<=1024->(∀k,0<=Cr m k/\Cr m k<=3)->(∀e∈m,e.1∈i++a)->Ab W w (QS b c gh i a o m::M) ->
   call1 .str PR 374 [pq b 0] (λ(x:BA) w'=>∃y yes S,(Value.tuple #[.s x,.b true]) = .tuple #[.s y,.b yes]/\Ga c R y yes S/\Ab W w' (Ig b c S::M)) w:=by
  clear hs;intro i a o m w ha hp ho hc hsub hs;have hpl:=hp.length_eq;rw[List.length_append] at hpl;refine Ah (YB ⟨by omega,ho⟩ ha hc hsub hs) λv w ⟨x,a',m',hv,hp2,hc2,hsub2,hs⟩=>⟨_,hv,?_⟩;have hev:Ga c R x true (i++a'):=Ga.of_perm hk (hp.trans ((List.Perm.append_left i hp2).trans List.perm_middle));exact⟨x,true,_,rfl,hev,CB ⟨rfl,hev.ok,ho,hc2,hsub2⟩ h2 hs⟩
 have j1:∀(w:World)(t:Bool),(t=false->0<a.length)->Ab W w (QS b c gh i a o m::M) ->
   U7 Bg (λv w'=>∃x yes S,v = .tuple #[.s x,.b yes]/\Ga c R x yes S/\Ab W w' (Ig b c S::M)) (some ⟨b,0,none⟩) t w:=by
  clear hs;intro w t hf hs;refine jw Xt ?_;cases t with
  | true=>
   refine Al rfl ?_;refine AH (Vw h2 h1 hs) λv w ⟨x,t,i',a',o',m',hv,ht,hf,ho,hc,hsub,hs⟩=>⟨_,_,hv,?_⟩;cases t with
   | true=>
    have hev:=Ga.of_perm hk (ht rfl);exact Al rfl ⟨x,true,_,rfl,hev,CB ⟨rfl,hev.ok,ho,hc,hsub⟩ h2 hs⟩
   | false=>
    obtain⟨hp,rfl⟩:=hf rfl;have hpl:=hp.length_eq;rw[List.nil_append] at hpl;exact Ac rfl (main [] a' o' m' w (by omega) hp ho hc hsub hs)
  | false=>exact Ac rfl (main i a o m w (hf rfl) (by rw[h1.eq]) h1.gh h1.cnt (by rw[<- h1.eq];exact h1.sub) hs)
 obtain⟨s,xb,sm,cb,hs⟩:=CE hs;refine Ak [cS b s xb c sm gh cb] hs λw hs=>?_;refine Aa (Ar (x:=s) (Ar (Aa (Ar ?_))));refine Ai hs λnb w hs=>Af hs ?_;refine AM By (nr:=3) (K:=[i,a,o]) [0] (M:=cS b s xb c sm gh cb::ixr (Am.int .i64) cb 0 m::M) (by exact Ab.fin hs) (by omega) rfl λw hs=>?_;refine Af hs ?_;have hs:Ab W w (cS b s xb c sm gh cb::rowsC s xb 5000 [i,a,o]::ixr (Am.int .i64) cb 0 m::M):=by exact Ab.fin hs
 refine Ao (λ_=>?_) (λ_=>?_)
 ·exact Af hs (j1 w true (λh=>by cases h) (Ck hs))
 ·refine Aa (Ar (x:=s) (Ar ?_));refine Ai hs λnb w hs=>Af hs ?_;refine AM By (nr:=3) (K:=[i,a,o]) [1] (M:=cS b s xb c sm gh cb::ixr (Am.int .i64) cb 0 m::M) (by exact Ab.fin hs) (by omega) rfl λw hs=>?_;have e2:(Bu [i,a,o] [1]:Int)=a.length:=by simp[Bu]
  rw[e2];refine j1 w _ (λh=>?_) (Ck (by exact Ab.fin hs));have:¬(a.length:Int)=0:=by simpa using h
  omega
theorem YA{S:BL}{g:BL}{l:Sl}(hR:Dj c R)(hno:key∉R)(hz:key.size<64)(hrec:La c R g S)(hs:Ab W w (Ig b c S::recs Am.str l g::M)) :
  Acs Bg (λv w'=>∃(hit:Bool) (l:Sl) (g S:BL),v = .tuple #[.b hit,.l l.a l.n l.c]/\Ey c R key hit g S/\Ab W w' (Ig b c S::recs Am.str l g::M)) (some ⟨b,0,none⟩) key l w:=by
 refine jw Xs ?_;obtain⟨i,a,o,m,gh,h1,h2,hs⟩:=D4 hs;have h3:=h1.two;obtain⟨hnd,hmn⟩:=Q5 hs;have hml:=h1.mlen hmn;have hnS:=hrec.not hno;have hni:key∉i:=λh=>hnS (by rw[h1.eq];exact List.mem_append_left _ h)
 have hna:key∉a:=λh=>hnS (by rw[h1.eq];exact List.mem_append_right _ h);obtain⟨s,xb,sm,cb,hs⟩:=CE hs;refine Aa (Ag (x:=s) hs (Ag hs ?_));refine An (D9 By (K:=[i,a,o]) hs hz) λe w ⟨he,hs⟩=>⟨_,he,?_⟩;have hs:=Ck hs;have fin:∀(j:Nat)(w:World)(i' a' o':BL),j<2->Db [i,a,o] j key=[i',a',o']->(i'++a').Perm (key::S)->o'.length<=1024->Ab W w (QS b c gh i a o m::recs Am.str l g::M) ->
   VH PR 371 [pq b 0,.i (j:Int),.s key,.i 0] (λw'=>∃(hit:Bool) (l2:Sl) (g2 S2:BL),(Value.tuple #[.b false,.l l.a l.n l.c]) = .tuple #[.b hit,.l l2.a l2.n l2.c]/\Ey c R key hit g2 S2/\Ab W w' (Ig b c S2::recs Am.str l2 g2::M)) w:=by
  clear hs;intro j w i' a' o' hj e1 hp ho hs;refine AX (KM (n:=0) hj hz ⟨by omega,h1.gh⟩ ⟨by omega,h1.msm⟩ hs) λv w ⟨hv,hs⟩=>⟨hv,?_⟩;have hs:=hs _ _ _ e1;have ha:=Ey.miss hR hno hz hrec hp;refine⟨false,l,g,_,rfl,ha,CB ⟨rfl,ha.ok,ho,λk=>?_,KD (λe he=>hp.mem_iff.2 (.tail _ (h1.sub e he))) (hp.mem_iff.2 (.head _))⟩ h2 hs⟩;rw[Ht];split
  ·omega
  ·exact h1.cnt k
 have hgo:=Bh o key;have hgh:=h1.gh;refine Ao (λ_=>?_) (λ_=>?_)
 ·exact fin 1 w i (a++[key]) (Ap o key) (by decide) (by show[Ap i _,Ap a _++[_],_]=_;rw[Au hni,Au hna]) (by rw[h1.eq];exact En) (by omega) hs
 ·exact fin 0 w (i++[key]) a (Ap o key) (by decide) (by show[Ap i _++[_],Ap a _,_]=_;rw[Au hni,Au hna]) (by rw[h1.eq];exact Di) (by omega) hs
theorem Agr(hz:key.size<64)(hs:Ab W w (Ig b c R::M)):Ba PR 360 #[pq b 0,.s key] w λv w'=>∃(hit:Bool) (l:Sl) (g S:BL),v = .tuple #[.b hit,.l l.a l.n l.c]/\Ey c R key hit g S/\Ab W w' (Ig b c S::recs Am.str l g::M):=by
 refine cw ⟨mixed,Tryz.func360,rfl⟩ Amh ?_;have hk:=Pa hs;have hc1:=hk.c1;have hr:=hk.room
 refine Ac rfl ?_;refine Ah (Vv hz hs) λv w ⟨hv,hs⟩=>⟨_,hv,?_⟩
 with_reducible refine Az (λh0=>?_) (λh0=>?_)
 ·obtain⟨i,a,o,m,gh,h1,h2,hs⟩:=D4 hs;have hml:=h1.mlen (Q5 hs).2;obtain⟨s,xb,sm,cb,hs⟩:=CE hs;refine Aa (Ag hs ?_);refine AG (OE hs (by omega)) λe w ⟨he,hs⟩=>⟨_,_,he,?_⟩;refine Ak [cS b s xb c sm gh cb] hs λw hs=>?_;refine Aa (Ar ?_);have hc:=h1.cnt key;unfold Cr at hc;refine An (Ip hs (b:=3) (by decide) (by omega)) λe w ⟨he,hs⟩=>⟨_,he,Af hs ?_⟩;refine An (UX hs (by omega) h1.msm (by omega)) λe w ⟨he,hs⟩=>⟨_,he,?_⟩;have ha:=Ey.same hk h0 (List.Perm.refl R);have hi:0<=EB ((AC m key).getD 0) 3/\EB ((AC m key).getD 0) 3<=3:=by unfold EB;split <;> omega
  refine⟨true,⟨none,0,0⟩,[],R,rfl,ha,(Ab.nilR Am.str (CB ⟨h1.eq,h1.ok,h1.gh,λk=>?_,KD h1.sub h0⟩ h2 (Ck hs))).perm (List.Perm.swap _ _ _)⟩;rw[Ht];split
  ·exact hi
  ·exact h1.cnt k
 have last:∀(w:World)(l:Sl)(g S:BL),La c R g S->(S.length:Int)<c->Ab W w (Ig b c S::recs Am.str l g::M) ->
   O0 Bg (λv w'=>∃(hit:Bool) (l:Sl) (g S:BL),v = .tuple #[.b hit,.l l.a l.n l.c]/\Ey c R key hit g S/\Ab W w' (Ig b c S::recs Am.str l g::M)) 1 (some ⟨b,0,none⟩) key l w:=by
  clear hs;intro w l g S hrec hl hs;rw[My];refine Ak [Ig b c S] hs λw hs=>?_;refine Aa (GB (k:=.int .i64) c (λw' h=>TS h) ?_);refine Ah (Q4 hs) λv w ⟨hv,hs⟩=>⟨_,hv,Af hs ?_⟩;refine Ac (decide_eq_false (by omega)) ?_;exact YA hk h0 hz hrec hs
 refine AO 2 ?_;rw[My];have hs:=Ab.nilR Am.str hs;have hs:Ab W w (Ig b c R::recs Am.str ⟨none,0,0⟩ []::M):=by exact Ab.fin hs
 refine Ak [Ig b c R] hs λw hs=>?_;refine Aa (GB (k:=.int .i64) c (λw' h=>TS h) ?_);refine Ah (Q4 hs) λv w ⟨hv,hs⟩=>⟨_,hv,Af hs ?_⟩
 with_reducible refine Az (λh1=>?_) (λh1=>?_)
 ·refine AH (Y9 hs) λv w ⟨x,yes,S,hv,hev,hs⟩=>⟨_,_,hv,?_⟩;have hy:yes=true:=by rw[hev.says];exact decide_eq_true (by omega)
  subst hy;have hpl:=(hev.perm hk).length_eq;rw[List.length_cons] at hpl;refine Ai hs λnb w hs=>?_;refine CG (s:=⟨none,0,0⟩) (a:=x) hs rfl rfl rfl rfl (by decide) (by simp) λs2 w hs2 hs=>?_;exact last w s2 [x] S (.inr ⟨x,rfl,hev,by omega⟩) (by omega) (by exact Ab.fin hs)
 ·exact YA (l:=⟨none,0,0⟩) hk h0 hz (.inl ⟨rfl,rfl,by omega⟩) hs
theorem Awq(hz:key.size<64)(hs:Ab W w (Ig b c R::M)):Ba PR 366 #[pq b 0,.s key] w λv w'=>∃(yes:Bool) (S:BL),v = .b yes/\CZ c R key yes S/\Ab W w' (Ig b c S::M):=by
 refine cw ⟨mixed,Tryz.func366,rfl⟩ Amm ?_;have hk:=Pa hs;have hr:=hk.room;refine Ak [Ig b c R] hs λw hs=>?_;refine Ac rfl ?_;refine Ah (Vv hz hs) λv w ⟨hv,hs⟩=>⟨_,hv,Af hs ?_⟩
 with_reducible refine Az (λh1=>?_) (λh1=>?_)
 ·exact Af hs ⟨false,R,rfl,CZ.no hk (λh=>h.1 h1),hs⟩
 refine Aa (GB (k:=.int .i64) c (λw' h=>TS h) ?_);refine Ah (Q4 hs) λv w ⟨hv,hs⟩=>⟨_,hv,Af hs ?_⟩
 with_reducible refine Az (λh2=>?_) (λh2=>?_)
 ·exact⟨false,R,rfl,CZ.no hk (λh=>by omega),hs⟩
 obtain⟨i,a,o,m,gh,h3,h4,hs⟩:=D4 hs;have h5:=h3.two;have hml:=h3.mlen (Q5 hs).2;refine AX (KM (j:=1) (n:=0) (by decide) hz ⟨by omega,h3.gh⟩ ⟨by omega,h3.msm⟩ hs) λv w ⟨hv,hs⟩=>⟨hv,?_⟩;have e1:Db [i,a,o] 1 key=[i,a++[key],Ap o key]:=by
  show[Ap i _,Ap a _++[_],Ap o _]=_;rw[Au (show key∉i from λh=>h1 (by rw[h3.eq];exact List.mem_append_left _ h)),Au (show key∉a from λh=>h1 (by rw[h3.eq];exact List.mem_append_right _ h))]
 have hs:=hs _ _ _ e1;have hp:(i++(a++[key])).Perm (key::R):=by rw[h3.eq];exact En
 have hl:=CZ.yes hk hz h1 (by omega) hp;have hgo:=Bh o key;have hgh:=h3.gh;refine⟨true,_,rfl,hl,CB ⟨rfl,hl.ok,by omega,λk=>?_,KD (λe he=>hp.mem_iff.2 (.tail _ (h3.sub e he))) (hp.mem_iff.2 (.head _))⟩ h4 hs⟩;rw[Ht];split
 ·omega
 ·exact h3.cnt k
theorem Ags(hz:key.size<64)(hs:Ab W w (Ig b c R::M)):Ba PR 367 #[pq b 0,.s key] w λv w'=>∃(yes:Bool) (S:BL),v = .b yes/\Ft c R key yes S/\Ab W w' (Ig b c S::M):=by
 refine cw ⟨mixed,Tryz.func367,rfl⟩ Amn ?_;have hk:=Pa hs;refine Ah (Vv hz hs) λv w ⟨hv,hs⟩=>⟨_,hv,?_⟩
 by_cases h1:key∈R
 ·refine Ac (by rw[decide_eq_true h1];rfl) ?_;obtain⟨i,a,o,m,gh,h3,h4,hs⟩:=D4 hs;have hml:=h3.mlen (Q5 hs).2;refine AX (Vx hz (by omega) hs) λv w ⟨hv,hs⟩=>⟨hv,?_⟩;have hgo:=Bh o key;have hgh:=h3.gh;have heq:=h3.eq;have hsub:=h3.sub;rw[heq] at hk h1 hsub;have hr:=Ft.cut2 hk h1;rw[<- heq] at hr;refine⟨true,_,rfl,hr,CB ⟨rfl,hr.ok,by omega,λk=>?_,TJ hsub λx hx hne=>?_⟩ h4 hs⟩
  ·rw[TH];split
   ·omega
   ·exact h3.cnt k
  ·rw[hr.mem,heq];exact⟨hx,hne⟩
 ·refine Al (by rw[decide_eq_false h1];rfl) ⟨false,R,rfl,Ft.no hk h1,hs⟩
end
end Go.Proofs.YtjipofkjmmpjdaaGreat
namespace Go.Hb
open Go.Proofs.YtjipofkjmmpjdaaGreat
def eg(t b:Nat)(c:Int)(R:BL):HP:=if t=223 then JW b c R else if t=225 then OY b c R else if t=227 then JL b c R else if t=229 then LA b c R else EA (t=231) (Ig b c R)
section
variable{W w:World}{M L:List HP}{t b:Nat}{c:Int}{R:BL}{key:BA}
theorem Ez(h:Ab W w (eg t b c R::M)){C:Prop}(h0:t=223->Ab W w (JW b c R::M)->C)(h1:t=225->Ab W w (OY b c R::M)->C)(h2:t=227->Ab W w (JL b c R::M)->C)(h3:t=229->Ab W w (LA b c R::M)->C)(h4:t=231->Ab W w (Ig b c R::M)->C):C:=by
 unfold eg at h
 by_cases e0:t=223
 ·simp only[e0] at h;exact h0 e0 h
 rw[if_neg e0] at h
 by_cases e1:t=225
 ·simp only[e1] at h;exact h1 e1 h
 rw[if_neg e1] at h
 by_cases e2:t=227
 ·simp only[e2] at h;exact h2 e2 h
 rw[if_neg e2] at h
 by_cases e3:t=229
 ·simp only[e3] at h;exact h3 e3 h
 rw[if_neg e3] at h;obtain⟨e,h⟩:=h.openA;exact h4 e h
theorem Hw(h:Ab W w (JW b c R::M)):Ab W w (eg 223 b c R::M):=h
theorem Hx(h:Ab W w (OY b c R::M)):Ab W w (eg 225 b c R::M):=h
theorem Hy(h:Ab W w (JL b c R::M)):Ab W w (eg 227 b c R::M):=h
theorem Hz(h:Ab W w (LA b c R::M)):Ab W w (eg 229 b c R::M):=h
theorem H0(h:Ab W w (Ig b c R::M)):Ab W w (eg 231 b c R::M):=Ab.shutA (c:=(231:Nat)=231) rfl h
theorem Ah6(h:Ab W w (eg t b c R::M)):Dj c R:=Ez h (λ_ h=>TM h) (λ_ h=>Aye h) (λ_ h=>OX h) (λ_ h=>TU h) (λ_ h=>Pa h)
end
end Go.Hb
namespace Go.Proofs.YtjipofkjmmpjdaaGreat
open Go.Hb Go.IntWalk
theorem Bm{t:TypeId}{v rc:Value}{name:String}{f:FuncId}{fn:Func}{C:FuncId->VW}{w:World}(ho:Jb PR f fn)(hm:(method (PR.types.size+Made.depth) t v name).run PR w = .ok (f,rc) w)(hb:fn.body.isSome=true)(hg:Ly fn.name=true)(hC:C f rc w):EC PR t v name C w:=⟨f,rc,fn,hm,ho.func,hb,hg,hC⟩
section
variable{W w:World}{M L:List HP}{t b:Nat}{c:Int}{R:BL}{key:BA}{C:FuncId->VW}
theorem Ap6 (hs : Ab W w (eg t b c R :: M)) (hC : ∀ f, Ba PR f #[.p (some ⟨b, 0, none⟩)] w (fun v w' => v = .i c ∧ Ab W w' (eg t b c R :: M)) → C f (.p (some ⟨b, 0, none⟩)) w) : EC PR t (.p (some ⟨b, 0, none⟩)) "Room" C w := by
 refine Ez hs ?_ ?_ ?_ ?_ ?_ <;> (rintro rfl hs)
 ·exact Bm ⟨mixed,Tryz.func254,rfl⟩ (by kernel_rfl) rfl rfl (hC _ ((Apx hs).mono λv w h=>⟨h.1,Hw h.2⟩))
 ·exact Bm ⟨mixed,Tryz.func279,rfl⟩ (by kernel_rfl) rfl rfl (hC _ ((Av4 hs).mono λv w h=>⟨h.1,Hx h.2⟩))
 ·exact Bm ⟨mixed,Tryz.func308,rfl⟩ (by kernel_rfl) rfl rfl (hC _ ((Aw6 hs).mono λv w h=>⟨h.1,Hy h.2⟩))
 ·exact Bm ⟨mixed,Tryz.func331,rfl⟩ (by kernel_rfl) rfl rfl (hC _ ((Axb hs).mono λv w h=>⟨h.1,Hz h.2⟩))
 ·exact Bm ⟨mixed,Tryz.func368,rfl⟩ (by kernel_rfl) rfl rfl (hC _ ((Awr hs).mono λv w h=>⟨h.1,H0 h.2⟩))
theorem Zo (hs : Ab W w (eg t b c R :: M)) (hC : ∀ f, Ba PR f #[.p (some ⟨b, 0, none⟩)] w (fun v w' => v = .i (R.length : Int) ∧ Ab W w' (eg t b c R :: M)) → C f (.p (some ⟨b, 0, none⟩)) w) : EC PR t (.p (some ⟨b, 0, none⟩)) "Len" C w := by
 refine Ez hs ?_ ?_ ?_ ?_ ?_ <;> (rintro rfl hs)
 ·exact Bm ⟨mixed,Tryz.func251,rfl⟩ (by kernel_rfl) rfl rfl (hC _ ((Ze hs).mono λv w h=>⟨h.1,Hw h.2⟩))
 ·exact Bm ⟨mixed,Tryz.func276,rfl⟩ (by kernel_rfl) rfl rfl (hC _ ((A0b hs).mono λv w h=>⟨h.1,Hx h.2⟩))
 ·exact Bm ⟨mixed,Tryz.func305,rfl⟩ (by kernel_rfl) rfl rfl (hC _ ((V5 hs).mono λv w h=>⟨h.1,Hy h.2⟩))
 ·exact Bm ⟨mixed,Tryz.func328,rfl⟩ (by kernel_rfl) rfl rfl (hC _ ((Abh hs).mono λv w h=>⟨h.1,Hz h.2⟩))
 ·exact Bm ⟨mixed,Tryz.func365,rfl⟩ (by kernel_rfl) rfl rfl (hC _ ((Q4 hs).mono λv w h=>⟨h.1,H0 h.2⟩))
theorem TN (hz : key.size < 64) (hs : Ab W w (eg t b c R :: M)) (hC : ∀ f, Ba PR f #[.p (some ⟨b, 0, none⟩), .s key] w (fun v w' => v = .b (decide (key ∈ R)) ∧ Ab W w' (eg t b c R :: M)) → C f (.p (some ⟨b, 0, none⟩)) w) : EC PR t (.p (some ⟨b, 0, none⟩)) "Has" C w := by
 refine Ez hs ?_ ?_ ?_ ?_ ?_ <;> (rintro rfl hs)
 ·exact Bm ⟨mixed,Tryz.func249,rfl⟩ (by kernel_rfl) rfl rfl (hC _ ((Zd hz hs).mono λv w h=>⟨h.1,Hw h.2⟩))
 ·exact Bm ⟨mixed,Tryz.func274,rfl⟩ (by kernel_rfl) rfl rfl (hC _ ((A0a hz hs).mono λv w h=>⟨h.1,Hx h.2⟩))
 ·exact Bm ⟨mixed,Tryz.func303,rfl⟩ (by kernel_rfl) rfl rfl (hC _ ((Abf hz hs).mono λv w h=>⟨h.1,Hy h.2⟩))
 ·exact Bm ⟨mixed,Tryz.func326,rfl⟩ (by kernel_rfl) rfl rfl (hC _ ((Abg hz hs).mono λv w h=>⟨h.1,Hz h.2⟩))
 ·exact Bm ⟨mixed,Tryz.func363,rfl⟩ (by kernel_rfl) rfl rfl (hC _ ((Vv hz hs).mono λv w h=>⟨h.1,H0 h.2⟩))
theorem Abq (hs : Ab W w (eg t b c R :: M)) (hC : ∀ f, Ba PR f #[.p (some ⟨b, 0, none⟩)] w (fun v w' => ∃ (l : Sl) (ks : BL), v = .l l.a l.n l.c ∧ ks.Perm R ∧ Ab W w' (eg t b c R :: recs Am.str l ks :: M)) → C f (.p (some ⟨b, 0, none⟩)) w) : EC PR t (.p (some ⟨b, 0, none⟩)) "Keys" C w := by
 refine Ez hs ?_ ?_ ?_ ?_ ?_ <;> (rintro rfl hs)
 ·exact Bm ⟨mixed,Tryz.func250,rfl⟩ (by kernel_rfl) rfl rfl (hC _ ((Apv hs).mono λv w h=>let ⟨l,ks,h1,h2,h3⟩:=h;⟨l,ks,h1,h2,Hw h3⟩))
 ·exact Bm ⟨mixed,Tryz.func275,rfl⟩ (by kernel_rfl) rfl rfl (hC _ ((Av2 hs).mono λv w h=>let ⟨l,ks,h1,h2,h3⟩:=h;⟨l,ks,h1,h2,Hx h3⟩))
 ·exact Bm ⟨mixed,Tryz.func304,rfl⟩ (by kernel_rfl) rfl rfl (hC _ ((Aw4 hs).mono λv w h=>let ⟨l,ks,h1,h2,h3⟩:=h;⟨l,ks,h1,h2,Hy h3⟩))
 ·exact Bm ⟨mixed,Tryz.func327,rfl⟩ (by kernel_rfl) rfl rfl (hC _ ((Aw9 hs).mono λv w h=>let ⟨l,ks,h1,h2,h3⟩:=h;⟨l,ks,h1,h2,Hz h3⟩))
 ·exact Bm ⟨mixed,Tryz.func364,rfl⟩ (by kernel_rfl) rfl rfl (hC _ ((Awp hs).mono λv w h=>let ⟨l,ks,h1,h2,h3⟩:=h;⟨l,ks,h1,h2,H0 h3⟩))
theorem VP (hs : Ab W w (eg t b c R :: M)) (hC : ∀ f, Ba PR f #[.p (some ⟨b, 0, none⟩)] w (fun v w' => ∃ x yes S, v = .tuple #[.s x, .bool yes] ∧ Ga c R x yes S ∧ Ab W w' (eg t b c S :: M)) → C f (.p (some ⟨b, 0, none⟩)) w) : EC PR t (.p (some ⟨b, 0, none⟩)) "Evict" C w := by
 refine Ez hs ?_ ?_ ?_ ?_ ?_ <;> (rintro rfl hs)
 ·exact Bm ⟨mixed,Tryz.func247,rfl⟩ (by kernel_rfl) rfl rfl (hC _ ((Aho hs).mono λv w h=>let ⟨x,y,S,h1,h2,h3⟩:=h;⟨x,y,S,h1,h2,Hw h3⟩))
 ·exact Bm ⟨mixed,Tryz.func272,rfl⟩ (by kernel_rfl) rfl rfl (hC _ ((An9 hs).mono λv w h=>let ⟨x,y,S,h1,h2,h3⟩:=h;⟨x,y,S,h1,h2,Hx h3⟩))
 ·exact Bm ⟨mixed,Tryz.func301,rfl⟩ (by kernel_rfl) rfl rfl (hC _ ((YP hs).mono λv w h=>let ⟨x,y,S,h1,h2,h3⟩:=h;⟨x,y,S,h1,h2,Hy h3⟩))
 ·exact Bm ⟨mixed,Tryz.func324,rfl⟩ (by kernel_rfl) rfl rfl (hC _ ((Apm hs).mono λv w h=>let ⟨x,y,S,h1,h2,h3⟩:=h;⟨x,y,S,h1,h2,Hz h3⟩))
 ·exact Bm ⟨mixed,Tryz.func361,rfl⟩ (by kernel_rfl) rfl rfl (hC _ ((Y9 hs).mono λv w h=>let ⟨x,y,S,h1,h2,h3⟩:=h;⟨x,y,S,h1,h2,H0 h3⟩))
theorem GQ (hz : key.size < 64) (hs : Ab W w (eg t b c R :: M)) (hC : ∀ f, Ba PR f #[.p (some ⟨b, 0, none⟩), .s key] w (fun v w' => ∃ (hit : Bool) (l : Sl) (g S : BL), v = .tuple #[.b hit, .l l.a l.n l.c] ∧ Ey c R key hit g S ∧ Ab W w' (eg t b c S :: recs Am.str l g :: M)) → C f (.p (some ⟨b, 0, none⟩)) w) : EC PR t (.p (some ⟨b, 0, none⟩)) "Access" C w := by
 refine Ez hs ?_ ?_ ?_ ?_ ?_ <;> (rintro rfl hs)
 ·exact Bm ⟨mixed,Tryz.func246,rfl⟩ (by kernel_rfl) rfl rfl (hC _ ((Ad6 hz hs).mono λv w h=>let ⟨x,y,z,S,h1,h2,h3⟩:=h;⟨x,y,z,S,h1,h2,Hw h3⟩))
 ·exact Bm ⟨mixed,Tryz.func271,rfl⟩ (by kernel_rfl) rfl rfl (hC _ ((Af1 hz hs).mono λv w h=>let ⟨x,y,z,S,h1,h2,h3⟩:=h;⟨x,y,z,S,h1,h2,Hx h3⟩))
 ·exact Bm ⟨mixed,Tryz.func300,rfl⟩ (by kernel_rfl) rfl rfl (hC _ ((Ag5 hz hs).mono λv w h=>let ⟨x,y,z,S,h1,h2,h3⟩:=h;⟨x,y,z,S,h1,h2,Hy h3⟩))
 ·exact Bm ⟨mixed,Tryz.func323,rfl⟩ (by kernel_rfl) rfl rfl (hC _ ((Ag8 hz hs).mono λv w h=>let ⟨x,y,z,S,h1,h2,h3⟩:=h;⟨x,y,z,S,h1,h2,Hz h3⟩))
 ·exact Bm ⟨mixed,Tryz.func360,rfl⟩ (by kernel_rfl) rfl rfl (hC _ ((Agr hz hs).mono λv w h=>let ⟨x,y,z,S,h1,h2,h3⟩:=h;⟨x,y,z,S,h1,h2,H0 h3⟩))
theorem Abr (hz : key.size < 64) (hs : Ab W w (eg t b c R :: M)) (hC : ∀ f, Ba PR f #[.p (some ⟨b, 0, none⟩), .s key] w (fun v w' => ∃ (yes : Bool) (S : BL), v = .b yes ∧ CZ c R key yes S ∧ Ab W w' (eg t b c S :: M)) → C f (.p (some ⟨b, 0, none⟩)) w) : EC PR t (.p (some ⟨b, 0, none⟩)) "Load" C w := by
 refine Ez hs ?_ ?_ ?_ ?_ ?_ <;> (rintro rfl hs)
 ·exact Bm ⟨mixed,Tryz.func252,rfl⟩ (by kernel_rfl) rfl rfl (hC _ ((Apw hz hs).mono λv w h=>let ⟨y,S,h1,h2,h3⟩:=h;⟨y,S,h1,h2,Hw h3⟩))
 ·exact Bm ⟨mixed,Tryz.func277,rfl⟩ (by kernel_rfl) rfl rfl (hC _ ((Av3 hz hs).mono λv w h=>let ⟨y,S,h1,h2,h3⟩:=h;⟨y,S,h1,h2,Hx h3⟩))
 ·exact Bm ⟨mixed,Tryz.func306,rfl⟩ (by kernel_rfl) rfl rfl (hC _ ((Aw5 hz hs).mono λv w h=>let ⟨y,S,h1,h2,h3⟩:=h;⟨y,S,h1,h2,Hy h3⟩))
 ·exact Bm ⟨mixed,Tryz.func329,rfl⟩ (by kernel_rfl) rfl rfl (hC _ ((Axa hz hs).mono λv w h=>let ⟨y,S,h1,h2,h3⟩:=h;⟨y,S,h1,h2,Hz h3⟩))
 ·exact Bm ⟨mixed,Tryz.func366,rfl⟩ (by kernel_rfl) rfl rfl (hC _ ((Awq hz hs).mono λv w h=>let ⟨y,S,h1,h2,h3⟩:=h;⟨y,S,h1,h2,H0 h3⟩))
theorem IC (hz : key.size < 64) (hs : Ab W w (eg t b c R :: M)) (hC : ∀ f, Ba PR f #[.p (some ⟨b, 0, none⟩), .s key] w (fun v w' => ∃ (yes : Bool) (S : BL), v = .b yes ∧ Ft c R key yes S ∧ Ab W w' (eg t b c S :: M)) → C f (.p (some ⟨b, 0, none⟩)) w) : EC PR t (.p (some ⟨b, 0, none⟩)) "Remove" C w := by
 refine Ez hs ?_ ?_ ?_ ?_ ?_ <;> (rintro rfl hs)
 ·exact Bm ⟨mixed,Tryz.func253,rfl⟩ (by kernel_rfl) rfl rfl (hC _ ((Ad7 hz hs).mono λv w h=>let ⟨y,S,h1,h2,h3⟩:=h;⟨y,S,h1,h2,Hw h3⟩))
 ·exact Bm ⟨mixed,Tryz.func278,rfl⟩ (by kernel_rfl) rfl rfl (hC _ ((Af2 hz hs).mono λv w h=>let ⟨y,S,h1,h2,h3⟩:=h;⟨y,S,h1,h2,Hx h3⟩))
 ·exact Bm ⟨mixed,Tryz.func307,rfl⟩ (by kernel_rfl) rfl rfl (hC _ ((Ag6 hz hs).mono λv w h=>let ⟨y,S,h1,h2,h3⟩:=h;⟨y,S,h1,h2,Hy h3⟩))
 ·exact Bm ⟨mixed,Tryz.func330,rfl⟩ (by kernel_rfl) rfl rfl (hC _ ((Ag9 hz hs).mono λv w h=>let ⟨y,S,h1,h2,h3⟩:=h;⟨y,S,h1,h2,Hz h3⟩))
 ·exact Bm ⟨mixed,Tryz.func367,rfl⟩ (by kernel_rfl) rfl rfl (hC _ ((Ags hz hs).mono λv w h=>let ⟨y,S,h1,h2,h3⟩:=h;⟨y,S,h1,h2,H0 h3⟩))
theorem Yf{k j:Int}(e:(k==j)=true)(h:0<=j/\j<5):0<=k/\k<5:=by rw[beq_iff_eq.1 e];exact h
theorem TO(hs:Ab W w L){k r:Int}{N:Int->WP}{K:TypeId->Value->Int->WP}(hN:(k<0\/5<=k)->∀w,Ab W w L->N 4 w)(hK:0<=k->k<5->∀(t b:Nat)(w:World),Ab W w (eg t b (AU r) []::L)->K t (pq b 0) 0 w):OU (.int .i64) PR 113 [.i k,.i r] N K w:=by
 refine(cw ⟨mixed,Tryz.func113,rfl⟩ Aig (Q:=λv w'=>(v = .tuple #[.nilIface,.i 4]/\(k<0\/5<=k)/\Ab W w' L)\/∃t b:Nat,v = .tuple #[.iface t (pq b 0),.i 0]/\(0<=k/\k<5)/\Ab W w' (eg t b (AU r) []::L)) ?_).mono λe w' ⟨v,he,h⟩=>?_
 ·skip;refine Ao (λe=>?_) λe0=>?_
  ·exact Ah (Ax4 hs) λv w ⟨b,hv,hs⟩=>⟨_,hv,.inr ⟨_,b,rfl,Yf e (by decide),Hw hs⟩⟩
  refine Ao (λe=>?_) λe1=>?_
  ·exact Ah (A0c hs) λv w ⟨b,hv,hs⟩=>⟨_,hv,.inr ⟨_,b,rfl,Yf e (by decide),Hx hs⟩⟩
  refine Ao (λe=>?_) λe2=>?_
  ·exact Ah (A07 hs) λv w ⟨b,hv,hs⟩=>⟨_,hv,.inr ⟨_,b,rfl,Yf e (by decide),Hy hs⟩⟩
  refine Ao (λe=>?_) λe3=>?_
  ·exact Ah (A08 hs) λv w ⟨b,hv,hs⟩=>⟨_,hv,.inr ⟨_,b,rfl,Yf e (by decide),Hz hs⟩⟩
  refine Ao (λe=>?_) λe4=>?_
  ·exact Ah (A0u hs) λv w ⟨b,hv,hs⟩=>⟨_,hv,.inr ⟨_,b,rfl,Yf e (by decide),H0 hs⟩⟩
  simp only[beq_eq_false_iff_ne] at e0 e1 e2 e3 e4;exact .inl ⟨rfl,by omega,hs⟩
 ·rcases h with⟨rfl,h1,hs⟩|⟨t,b,rfl,h1,hs⟩
  ·exact .inl ⟨_,he,hN h1 _ hs⟩
  ·exact .inr ⟨_,_,_,he,hK h1.1 h1.2 _ _ _ hs⟩
end
end Go.Proofs.YtjipofkjmmpjdaaGreat
namespace Go.Hb
open Go.Proofs.YtjipofkjmmpjdaaGreat
section
variable{W w:World}{L:List HP}{F:HP->List HP}{b o:Nat}{cs:List Value}
theorem EG{t:TypeId}{v:Value}{N:WP}{K:TypeId->VW}(h:Ab W w L)[hA:At L b (Hb.blk b cs) F](hK:K t v w)(hc:cs[o]? = some (.iface t v):=by exact rfl):MW b o N K w:=
 At.one (hA:=hA) h λ_ h _=>by unfold MW;rw[(h.cell (q:=0) rfl).trans hc];exact hK
theorem A16{N:WP}{K:TypeId->VW}(h:Ab W w L)[hA:At L b (Hb.blk b cs) F](hN:N w)(hc:cs[o]? = some .nilIface:=by exact rfl):MW b o N K w:=
 At.one (hA:=hA) h λ_ h _=>by unfold MW;rw[(h.cell (q:=0) rfl).trans hc];exact hN
theorem PV{t:TypeId}{v:Value}{N:WP}{K:TypeId->VW}[hA:At L b (Hb.blk b cs) F](hK:K t v w)(hc:cs[o]? = some (.iface t v):=by exact rfl):An0 (λw'=>Ab W w' L) b o N K w:=
 .inr ⟨t,v,λw' h=>At.one (hA:=hA) h λ_ h _=>(h.cell (q:=0) rfl).trans hc,hK⟩
end
abbrev m0(b:Nat)(k c:Int)(t e:Nat):HP:=blk b [.i k,.i c,.iface t (pq e 0),.nilIface]
abbrev m1(b:Nat)(k c:Int)(t e u q:Nat):HP:=blk b [.i k,.i c,.iface t (pq e 0),.iface u (pq q 0)]
def mvG(b:Nat)(k r c:Int)(R:BL):Option Nat->HP
 | none=>JM λ(z:Nat×Nat)=>EA ((0<=k/\k<5)/\Dj c R) (AJ [m0 b k r z.1 z.2,eg z.1 z.2 c R])
 | some n=>JM λ(z:(Nat×Nat×Nat×Nat)×BL×BL)=>EA ((0<=k/\k<5)/\Dj c R/\R=z.2.1++z.2.2/\z.2.2.length=n) (AJ [m1 b k r z.1.1 z.1.2.1 z.1.2.2.1 z.1.2.2.2,eg z.1.1 z.1.2.1 c z.2.1,eg z.1.2.2.1 z.1.2.2.2 c z.2.2])
abbrev Fq(b:Nat)(k c:Int)(R:BL)(o:Option Nat):HP:=mvG b k c c R o
def Jq:Option Nat->Option Nat->Prop
 | none,none=>True
 | some n,some m=>n<=m
 | _,_=>False
abbrev Ev:=Int×BA
def F0:Am Ev:=⟨2,λe=>[.i e.1,.s e.2],λ_=>rfl⟩
instance:GL F0:=⟨by decide⟩
section
variable{W w:World}{M L:List HP}{b t e u q n:Nat}{c k r:Int}{R A B S:BL}{key:BA}{o:Option Nat}
theorem Jq.refl:Jq o o:=by cases o <;> simp[Jq]
theorem CR(h:Ab W w (mvG b k r c R o::M)){C:Prop}(h0:∀t e,(0<=k/\k<5)->Dj c R->o=none->Ab W w (m0 b k r t e::eg t e c R::M)->C)
  (h1:∀t e u q A B,(0<=k/\k<5)->Dj c R->R=A++B->o=some B.length->Ab W w (m1 b k r t e u q::eg t e c A::eg u q c B::M)->C):C:=by
 cases o with
 | none=>
  obtain⟨⟨t,e⟩,h⟩:=h.openE;obtain⟨hp,h⟩:=h.openA;exact h0 t e hp.1 hp.2 rfl h.openL
 | some n=>
  obtain⟨⟨⟨t,e,u,q⟩,A,B⟩,h⟩:=h.openE;obtain⟨hp,h⟩:=h.openA;exact h1 t e u q A B hp.1 hp.2.1 hp.2.2.1 (by rw[hp.2.2.2]) h.openL
theorem Do(hk5:0<=k/\k<5)(hk:Dj c R)(h:Ab W w (m0 b k r t e::eg t e c R::M)):Ab W w (mvG b k r c R none::M):=Ab.shutE (t,e) (Ab.shutA ⟨hk5,hk⟩ (Ab.shutL (Ps:=[_,_]) h))
theorem DX(hk5:0<=k/\k<5)(hk:Dj c R)(hR:R=A++B)(hn:B.length=n)(h:Ab W w (m1 b k r t e u q::eg t e c A::eg u q c B::M)):Ab W w (mvG b k r c R (some n)::M):=
 Ab.shutE ((t,e,u,q),A,B) (Ab.shutA ⟨hk5,hk,hR,hn⟩ (Ab.shutL (Ps:=[_,_,_]) h))
theorem MG(h:Ab W w (mvG b k r c R o::M)):Dj c R:=CR h (λ_ _ _ hk _ _=>hk) (λ_ _ _ _ _ _ _ hk _ _ _=>hk)
theorem Axr(h:Ab W w (mvG b k r c R o::M)):0<=k/\k<5:=CR h (λ_ _ h _ _ _=>h) (λ_ _ _ _ _ _ h _ _ _ _=>h)
theorem Awe(h:Ab W w (mvG b k r c R o::M)){n:Nat}(ho:o=some n):n<=R.length:=CR h (λ_ _ _ _ h2 _=>by rw[h2] at ho;cases ho) (λ_ _ _ _ A B _ _ hR h2 _=>by rw[h2] at ho;cases ho;rw[hR];simp)
theorem Dj.same(h:Dj c R)(hn:S.Nodup)(hm:∀x,x∈S↔x∈R):Dj c S:=h.perm (CD hn h.nd hm)
theorem Ao4(h:Dj c R)(hn:S.Nodup)(hm:∀x,x∈S↔x∈R):S.length=R.length:=(CD hn h.nd hm).length_eq
def YV(c:Int)(R:BL)(e:Ev)(K:BL):Prop:=Dj c K/\∀x,x∈K↔(if e.1=2 then x∈R\/x=e.2 else if e.1=3 then x∈R/\x≠e.2 else x∈R)
structure Ax2(c:Int)(R:BL)(k:BA)(g S:BL):Prop where
 ok:Dj c S
 has:k∈R->g=[]/\∀x,x∈S↔x∈R
 sub:∀x∈g,x∈R
 nd:g.Nodup
 no:k∉g
 mem:∀x,x∈S↔(x∈R/\x∉g)\/x=k
 calm:(R.length:Int)<c->g=[]
theorem Aom{g:BL}(h:g.length<=1):g.Nodup:=by
 match g,h with
 | [],_=>simp
 | [x],_=>simp
theorem Vl(hA:A.Nodup)(hB:B.Nodup)(hd:∀x∈A,x∉B):(A++B).Nodup:=List.nodup_append.2 ⟨hA,hB,λa ha b hb e=>hd a ha (e ▸ hb)⟩
theorem Ey.ins{hit:Bool}{g:BL}{k:BA}(h:Ey c R k hit g S):Ax2 c R k g S:=
 ⟨h.ok,λhk=>by
  have hg:g=[]:=h.acc.calm (by rw[h.acc.hits];exact decide_eq_true hk);refine⟨hg,λx=>?_⟩;rw[h.acc.mem,hg];constructor
  ·rintro(h|rfl)
   ·exact h.1
   ·exact hk
  ·exact λh=>.inl ⟨h,by simp⟩,h.acc.sub,Aom h.acc.le1,h.acc.no,h.acc.mem,h.calm⟩
theorem A2b{A' B':BL}{y1 y2:Bool}(hk:Dj c (A++B))(hB:key∈B)(hr:Ft c B key y1 B')(hl:CZ c A key y2 A'):(∀x,x∈A'++B'↔x∈A++B)/\Dj c (A'++B')/\key∈A'/\B'.length+1=B.length:=by
 have hnd:=List.nodup_append.1 hk.nd;have hdis:∀x∈A,x∉B:=λx h1 h2=>hnd.2.2 x h1 x h2 rfl;have hrm:=hk.room;have hpos:=List.length_pos_of_mem hB;have hkA:key∉A:=λh=>hdis _ h hB;have hy2:y2=true:=by rw[hl.says];exact decide_eq_true ⟨hkA,by simp only[List.length_append] at hrm;omega⟩
 have hmA:∀x,x∈A'↔x∈A\/x=key:=λx=>by rw[hl.mem,hy2];simp
 have hm:∀x,x∈A'++B'↔x∈A++B:=λx=>by
  rw[List.mem_append,hmA,hr.mem,List.mem_append];constructor
  ·rintro((h|h)|h)
   ·exact .inl h
   ·exact .inr (h ▸ hB)
   ·exact .inr h.1
  ·rintro(h|h)
   ·exact .inl (.inl h)
   ·by_cases hx:x=key
    ·exact .inl (.inr hx)
    ·exact .inr ⟨h,hx⟩
 have hd2:∀x∈A',x∉B':=λx h2 h3=>by
  rcases(hmA x).1 h2 with h4|h4
  ·exact hdis x h4 ((hr.mem x).1 h3).1
  ·exact((hr.mem x).1 h3).2 h4
 have hpl:=(J8 hnd.2.1 hr.ok.nd hB hr.mem).length_eq;simp only[List.length_cons] at hpl;exact⟨hm,hk.same (Vl hl.ok.nd hr.ok.nd hd2) hm,(hmA key).2 (.inr rfl),by omega⟩
theorem Avq{A B g0 g A':BL}{hit:Bool}(hR:Dj c R)(hno:key∉R)(hA:A.Nodup)(hB:B.Nodup)(hd:∀x∈A,x∉B)(hsub:∀x∈g0,x∈R)(hmem:∀x,x∈A++B↔x∈R/\x∉g0)(hg1:g0.length<=1)
  (hcalm:(R.length:Int)<c->g0=[]) (hroom:(A.length:Int)+B.length<c\/(B=[]/\g0=[])) (ha:Ey c A key hit g A'):Ax2 c R key (g0++g) (A'++B):=by
 have hkA:key∉A:=λh=>hno ((hmem key).1 (List.mem_append_left _ h)).1;have hkB:key∉B:=λh=>hno ((hmem key).1 (List.mem_append_right _ h)).1;have hdA':∀x∈A',x∉B:=λx h1 h2=>by
  rcases(ha.acc.mem x).1 h1 with h3|h3
  ·exact hd x h3.1 h2
  ·exact hkB (h3 ▸ h2)
 have hnd:=Vl ha.ok.nd hB hdA';rcases hroom with hlt|⟨rfl,rfl⟩
 ·have hg:g=[]:=ha.calm (by omega);subst hg;have hlA:A'.length<=A.length+1:=by
   have hs:∀x∈A',x∈key::A:=λx hx=>by
    rcases(ha.acc.mem x).1 hx with h|h
    ·exact .tail _ h.1
    ·exact h ▸ .head _
   have:=E5 ha.ok.nd hs;simpa using this
  have hk2:Dj c (A'++B):=⟨hnd,λx hx=>by
   rcases List.mem_append.1 hx with h|h
   ·exact ha.ok.small x h
   ·exact hR.small x ((hmem x).1 (List.mem_append_right _ h)).1,by simp only[List.length_append];omega,hR.c1,hR.c2⟩
  rw[List.append_nil];refine⟨hk2,λh=>absurd h hno,hsub,Aom hg1,λh=>hno (hsub _ h),λx=>?_,hcalm⟩;rw[List.mem_append,ha.acc.mem];have:=hmem x;rw[List.mem_append] at this;constructor
  ·rintro((h|h)|h)
   ·exact .inl (this.1 (.inl h.1))
   ·exact .inr h
   ·exact .inl (this.1 (.inr h))
  ·rintro(h|h)
   ·rcases this.2 h with h|h
    ·exact .inl (.inl ⟨h,by simp⟩)
    ·exact .inr h
   ·exact .inl (.inr h)
 ·rw[List.append_nil,List.nil_append];have hm:∀x,x∈A↔x∈R:=λx=>by have:=hmem x;rw[List.append_nil] at this;rw[this];simp
  have hin:=ha.ins;have hl:A.length=R.length:=Ao4 hR hA hm;refine⟨ha.ok,λh=>absurd h hno,λx hx=>(hm x).1 (hin.sub x hx),hin.nd,hin.no,λx=>?_,λh=>ha.calm (by omega)⟩;rw[ha.acc.mem,hm]
theorem Aoy(h:Dj c R):AU c=c:=by have:=h.c1;have:=h.c2;unfold AU;omega
theorem A0t(r:Int):AU (AU r)=AU r:=by unfold AU;omega
end
end Go.Hb
namespace Go.Proofs.YtjipofkjmmpjdaaGreat
open Go.Hb Go.IntWalk
section
variable{W w:World}{L M:List HP}{b t e u q:Nat}{k r c:Int}{R A B:BL}{key:BA}{o:Option Nat}
theorem A0f(hs:Ab W w L):Ba PR 76 #[.i k,.i r] w λv w'=>((0<=k/\k<5)/\∃b,v = .tuple #[pq b 0,.i 0]/\Ab W w' (Fq b k (AU r) [] none::L))\/(¬(0<=k/\k<5)/\v = .tuple #[.p none,.i 4]/\Ab W w' L):=by
 refine cw ⟨mixed,Tryz.func76,rfl⟩ Au0 ?_;have hr:=DZ r;refine TO hs (λhk w hs=>?_) (λh1 h2 t b w hs=>?_)
 ·exact Al rfl (.inr ⟨by omega,rfl,hs⟩)
 ·refine Ac rfl ?_;refine Ap6 hs λf hf=>?_;refine Ah hf λv w ⟨hv,hs⟩=>⟨_,hv,?_⟩;refine Ai hs λmb w hs=>?_;exact .inl ⟨⟨h1,h2⟩,mb,rfl,Do ⟨h1,h2⟩ (Dj.nil hr.1 hr.2) hs⟩
theorem ER(hs:Ab W w (m0 b k r t e::M)):Ba PR 42 #[pq b 0] w λv w'=>v = .b false/\Ab W w' (m0 b k r t e::M):=by
 refine cw ⟨mixed,Tryz.func42,rfl⟩ Acw ?_;exact Al rfl (Aa (A16 hs ⟨rfl,hs⟩))
theorem El(hs:Ab W w (m1 b k r t e u q::M)):Ba PR 42 #[pq b 0] w λv w'=>v = .b true/\Ab W w' (m1 b k r t e u q::M):=by
 refine cw ⟨mixed,Tryz.func42,rfl⟩ Acw ?_;exact Al rfl (Aa (EG hs ⟨rfl,hs⟩))
theorem Awa(hs:Ab W w (Fq b k c R o::M)):Ba PR 43 #[pq b 0] w λv w'=>v = .i k/\Ab W w' (Fq b k c R o::M):=by
 refine cw ⟨mixed,Tryz.func43,rfl⟩ At9 ?_;refine Ac rfl ?_;have hO:=hs;clear hs;refine CR hO (λt e h5 hk ho hs=>?_) (λt e u q A B h5 hk hR ho hs=>?_) <;> try rw[ho]
 ·exact Aa (Ag hs ⟨rfl,Do h5 hk hs⟩)
 ·exact Aa (Ag hs ⟨rfl,DX h5 hk hR rfl hs⟩)
theorem Awc(hs:Ab W w (Fq b k c R o::M)):Ba PR 91 #[pq b 0] w λv w'=>v = .i c/\Ab W w' (Fq b k c R o::M):=by
 refine cw ⟨mixed,Tryz.func91,rfl⟩ Avf ?_;refine Ac rfl ?_;have hO:=hs;clear hs;refine CR hO (λt e h5 hk ho hs=>?_) (λt e u q A B h5 hk hR ho hs=>?_) <;> try rw[ho]
 ·exact Aa (Ag hs ⟨rfl,Do h5 hk hs⟩)
 ·exact Aa (Ag hs ⟨rfl,DX h5 hk hR rfl hs⟩)
theorem Qj(hs:Ab W w (m0 b k r t e::M)):Ba PR 134 #[pq b 0] w λv w'=>v = .i 0/\Ab W w' (m0 b k r t e::M):=by
 refine cw ⟨mixed,Tryz.func134,rfl⟩ Wm ?_;exact Ah (ER hs) λv w ⟨hv,hs⟩=>⟨_,hv,Al rfl ⟨rfl,hs⟩⟩
theorem Qk(hs:Ab W w (m1 b k r t e u q::eg t e c A::eg u q c B::M)):Ba PR 134 #[pq b 0] w λv w'=>v = .i (B.length:Int)/\Ab W w' (m1 b k r t e u q::eg t e c A::eg u q c B::M):=by
 refine cw ⟨mixed,Tryz.func134,rfl⟩ Wm ?_;refine Ah (El hs) λv w ⟨hv,hs⟩=>⟨_,hv,Ac rfl (Aa (EG hs ?_))⟩;have hs:Ab W w (eg u q c B::m1 b k r t e u q::eg t e c A::M):=by exact Ab.fin hs
 exact Zo hs λf hf=>Ah hf λv w ⟨hv,hs⟩=>⟨_,hv,rfl,by exact Ab.fin hs⟩
theorem Vk(hl:A.length<=5000)(hs:Ab W w (m0 b k r t e::eg t e c A::M)):Ba PR 133 #[pq b 0] w λv w'=>v = .i (A.length:Int)/\Ab W w' (m0 b k r t e::eg t e c A::M):=by
 refine cw ⟨mixed,Tryz.func133,rfl⟩ Wl ?_;refine Ac rfl ?_;refine Ak [m0 b k r t e,eg t e c A] hs λw hs=>?_;refine Aa (PV ?_);refine Ah (Qj hs) λv w ⟨hv,hs⟩=>⟨_,hv,Af hs ?_⟩;have hs:Ab W w (eg t e c A::m0 b k r t e::M):=by exact Ab.fin hs
 refine Zo hs λf hf=>Ah hf λv w ⟨hv,hs⟩=>⟨_,hv,?_⟩;rw[Int.zero_add,i64_in _ (by omega)];exact⟨rfl,by exact Ab.fin hs⟩
theorem Awb(hl:A.length+B.length<=5000)(hs:Ab W w (m1 b k r t e u q::eg t e c A::eg u q c B::M)):Ba PR 133 #[pq b 0] w λv w'=>v = .i ((B.length:Int)+A.length)/\Ab W w' (m1 b k r t e u q::eg t e c A::eg u q c B::M):=by
 refine cw ⟨mixed,Tryz.func133,rfl⟩ Wl ?_;refine Ac rfl ?_;refine Ak [m1 b k r t e u q,eg t e c A,eg u q c B] hs λw hs=>?_;refine Aa (PV ?_);refine Ah (Qk hs) λv w ⟨hv,hs⟩=>⟨_,hv,Af hs ?_⟩;have hs:Ab W w (eg t e c A::m1 b k r t e u q::eg u q c B::M):=by exact Ab.fin hs
 refine Zo hs λf hf=>Ah hf λv w ⟨hv,hs⟩=>⟨_,hv,?_⟩;rw[i64_in _ (by omega)];exact⟨rfl,by exact Ab.fin hs⟩
theorem Aol(hz:key.size<64)(hs:Ab W w (Fq b k c R o::M)):Ba PR 131 #[pq b 0,.s key] w λv w'=>v = .b (decide (key∈R))/\Ab W w' (Fq b k c R o::M):=by
 refine cw ⟨mixed,Tryz.func131,rfl⟩ Aiy ?_;refine Al rfl ?_;have hO:=hs;clear hs;refine CR hO (λt e h5 hk ho hs=>?_) (λt e u q A B h5 hk hR ho hs=>?_) <;> try rw[ho]
 ·refine Aa (EG hs ?_);have hs:Ab W w (eg t e c R::m0 b k c t e::M):=by exact Ab.fin hs
  refine TN hz hs λf hf=>Ah hf λv w ⟨hv,hs⟩=>⟨_,hv,?_⟩;have hs:Ab W w (m0 b k c t e::eg t e c R::M):=by exact Ab.fin hs
  with_reducible refine Az (λh1=>?_) (λh1=>?_)
  ·rw[decide_eq_true h1];exact⟨rfl,Do h5 hk hs⟩
  refine Ah (ER hs) λv w ⟨hv,hs⟩=>⟨_,hv,Ac rfl ?_⟩;rw[decide_eq_false h1];exact⟨rfl,Do h5 hk hs⟩
 ·refine Aa (EG hs ?_);have hs:Ab W w (eg t e c A::m1 b k c t e u q::eg u q c B::M):=by exact Ab.fin hs
  refine TN hz hs λf hf=>Ah hf λv w ⟨hv,hs⟩=>⟨_,hv,?_⟩;have hs:Ab W w (m1 b k c t e u q::eg t e c A::eg u q c B::M):=by exact Ab.fin hs
  with_reducible refine Az (λh1=>?_) (λh1=>?_)
  ·rw[decide_eq_true (show key∈R by rw[hR];exact List.mem_append_left _ h1)];exact⟨rfl,DX h5 hk hR rfl hs⟩
  refine Ah (El hs) λv w ⟨hv,hs⟩=>⟨_,hv,Al rfl ?_⟩;refine Aa (EG hs ?_);have hs:Ab W w (eg u q c B::m1 b k c t e u q::eg t e c A::M):=by exact Ab.fin hs
  refine TN hz hs λf hf=>Ah hf λv w ⟨hv,hs⟩=>⟨_,hv,?_⟩;refine⟨?_,DX h5 hk hR rfl (by exact Ab.fin hs)⟩;rw[show decide (key∈B)=decide (key∈R) by rw[decide_eq_decide,hR,List.mem_append];exact⟨.inr,λh=>h.elim (λh=>absurd h h1) id⟩]
theorem Yw(hz:key.size<64)(hkB:key∈B)(hk:Dj c (A++B))(hs:Ab W w (m1 b k r t e u q::eg t e c A::eg u q c B::M)):Ba PR 137 #[pq b 0,.s key] w λv w'=>v = .tuple #[]/\∃A' B',(∀x,x∈A'++B'↔x∈A++B)/\Dj c (A'++B')/\key∈A'/\B'.length+1=B.length/\Ab W w' (m1 b k r t e u q::eg t e c A'::eg u q c B'::M):=by
 refine cw ⟨mixed,Tryz.func137,rfl⟩ Ai1 ?_;refine Aa (EG hs ?_);have hs:Ab W w (eg u q c B::m1 b k r t e u q::eg t e c A::M):=by exact Ab.fin hs
 refine IC hz hs λf hf=>Ah hf λv w ⟨y1,B',hv,hr,hs⟩=>⟨_,hv,?_⟩;refine Aa (EG hs ?_);have hs:Ab W w (eg t e c A::m1 b k r t e u q::eg u q c B'::M):=by exact Ab.fin hs
 refine Abr hz hs λf hf=>Ah hf λv w ⟨y2,A',hv,hl,hs⟩=>⟨_,hv,?_⟩;obtain⟨h1,h2,h3,h4⟩:=A2b hk hkB hr hl;exact⟨rfl,A',B',h1,h2,h3,h4,by exact Ab.fin hs⟩
theorem Adl(hk:key∈R)(hz:key.size<64)(hs:Ab W w (Fq b k c R o::M)):Ba PR 132 #[pq b 0,.s key] w λv w'=>∃(l:Sl) (S:BL) (o':Option Nat),v = .l l.a l.n l.c/\(∀x,x∈S↔x∈R)/\Jq o' o/\Ab W w' (Fq b k c S o'::recs Am.str l []::M):=by
 refine cw ⟨mixed,Tryz.func132,rfl⟩ Aiz ?_;have hO:=hs;clear hs;refine CR hO (λt e h5 hkR ho hs=>?_) (λt e u q A B h5 hkR hR ho hs=>?_) <;> try rw[ho]
 ·refine Ah (ER hs) λv w ⟨hv,hs⟩=>⟨_,hv,Ac rfl ?_⟩;refine jw LK ?_;refine Aa (EG hs ?_);have hs:Ab W w (eg t e c R::m0 b k c t e::M):=by exact Ab.fin hs
  refine GQ hz hs λf hf=>AH hf λv w ⟨hit,l,g,S,hv,ha,hs⟩=>⟨_,_,hv,?_⟩;obtain⟨hg,hm⟩:=ha.ins.has hk;subst hg;exact⟨l,S,none,rfl,hm,trivial,Do h5 ha.ok (by exact Ab.fin hs)⟩
 ·subst hR;have last:∀(w:World)(A' B':BL),key∈A'->B'.length<=B.length->Dj c (A'++B')->(∀x,x∈A'++B'↔x∈A++B)->Ab W w (m1 b k c t e u q::eg t e c A'::eg u q c B'::M) ->
    N9 Bg (λv w'=>∃(l:Sl) (S:BL) (o':Option Nat),v = .l l.a l.n l.c/\(∀x,x∈S↔x∈A++B)/\Jq o' (some B.length)/\Ab W w' (Fq b k c S o'::recs Am.str l []::M)) (some ⟨b,0,none⟩) key w:=by
   clear hs;intro w A' B' hkA hlB hk2 hm hs;refine jw LK ?_;have hnd:=List.nodup_append.1 hk2.nd;refine Aa (EG hs ?_);have hs:Ab W w (eg t e c A'::m1 b k c t e u q::eg u q c B'::M):=by exact Ab.fin hs
   refine GQ hz hs λf hf=>AH hf λv w ⟨hit,l,g,S,hv,ha,hs⟩=>⟨_,_,hv,?_⟩;obtain⟨hg,hmS⟩:=ha.ins.has hkA;subst hg;have hm2:∀x,x∈S++B'↔x∈A++B:=λx=>by rw[<- hm,List.mem_append,List.mem_append,hmS]
   have hk3:=hkR.same (Vl ha.ok.nd hnd.2.1 λx h h2=>hnd.2.2 x ((hmS x).1 h) x h2 rfl) hm2;exact⟨l,S++B',some B'.length,rfl,hm2,hlB,DX h5 hk3 rfl rfl (by exact Ab.fin hs)⟩
  refine Ah (El hs) λv w ⟨hv,hs⟩=>⟨_,hv,Al rfl ?_⟩;refine Aa (EG hs ?_);have hs:Ab W w (eg u q c B::m1 b k c t e u q::eg t e c A::M):=by exact Ab.fin hs
  refine TN hz hs λf hf=>Ah hf λv w ⟨hv,hs⟩=>⟨_,hv,?_⟩;have hs:Ab W w (m1 b k c t e u q::eg t e c A::eg u q c B::M):=by exact Ab.fin hs
  with_reducible refine Az (λh1=>?_) (λh1=>?_)
  ·refine AX (Yw hz h1 hkR hs) λv w ⟨hv,A',B',h2,h3,h4,h6,hs⟩=>⟨hv,?_⟩;exact last w A' B' h4 (by omega) h3 h2 hs
  ·exact last w A B (by rw[List.mem_append] at hk;exact hk.elim id λh=>absurd h h1) (Nat.le_refl _) hkR (λ_=>Iff.rfl) hs
abbrev Ad3(W:World)(M:List HP)(b:Nat)(k c:Int)(R:BL)(key:BA)(o:Option Nat):VW:=λv w'=>∃(l:Sl) (g S:BL) (o':Option Nat),v = .l l.a l.n l.c/\Ax2 c R key g S/\Jq o' o/\Ab W w' (Fq b k c S o'::recs Am.str l g::M)
theorem Th(hz:key.size<64)(hs:Ab W w (Fq b k c R o::M)):Ba PR 94 #[pq b 0,.s key] w (Ad3 W M b k c R key o):=by
 refine cw ⟨mixed,Tryz.func94,rfl⟩ Avi ?_;refine Ac rfl ?_;refine Ah (Aol hz hs) λv w ⟨hv,hs⟩=>⟨_,hv,?_⟩;have hkR:=MG hs;have hrm:=hkR.room;have hc2:=hkR.c2
 with_reducible refine Az (λh0=>?_) (λh0=>?_)
 ·refine Ah (Adl h0 hz hs) λv w ⟨l,S,o',hv,hm,ho,hs⟩=>⟨_,hv,?_⟩;have hk2:=MG hs;exact⟨l,[],S,o',rfl,⟨hk2,λ_=>⟨rfl,hm⟩,by simp,by simp,by simp,λx=>by
   rw[hm];constructor
   ·exact λh=>.inl ⟨h,by simp⟩
   ·rintro(h|rfl)
    ·exact h.1
    ·exact h0,λ_=>rfl⟩,ho,hs⟩
 have hO:=hs;clear hs;refine CR hO (λt e h5 hk ho hs=>?_) (λt e u q A B h5 hk hR ho hs=>?_) <;> try rw[ho]
 ·have hs:=Ab.nilR Am.str hs;have j3:∀(w:World),Ab W w (m0 b k c t e::eg t e c R::recs Am.str ⟨none,0,0⟩ []::M)->Pw Bg (Ad3 W M b k c R key none) (some ⟨b,0,none⟩) key ⟨none,0,0⟩ w:=by
   clear hs;intro w hs;refine jw Px ?_;refine Aa (EG hs ?_);have hs:Ab W w (eg t e c R::m0 b k c t e::recs Am.str ⟨none,0,0⟩ []::M):=by exact Ab.fin hs
   refine GQ hz hs λf hf=>AH hf λv w ⟨hit,l,g,S,hv,ha,hs⟩=>⟨_,_,hv,?_⟩;have hle:=ha.acc.le1;have hs:Ab W w (recs Am.str ⟨none,0,0⟩ []::recs Am.str l g::eg t e c S::m0 b k c t e::M):=by exact Ab.fin hs
   refine FJ (s:=⟨none,0,0⟩) (new:=g) hs (FU (s:=l) hs) (BE (s:=l) hs) (CS _) rfl (by decide) (by simp;omega) λs6 w hs6 hs=>?_;have hs:Ab W w (recs Am.str s6 g::recs Am.str l g::eg t e c S::m0 b k c t e::M):=hs;exact⟨s6,g,S,none,rfl,ha.ins,trivial,Do h5 ha.ok (by exact Ab.fin hs)⟩
  refine AO 1 ?_;rw[Py];have hs:Ab W w (m0 b k c t e::eg t e c R::recs Am.str ⟨none,0,0⟩ []::M):=by exact Ab.fin hs
  refine Ak [m0 b k c t e,eg t e c R] hs λw hs=>?_;refine Aa (Ar ?_);refine Ah (Vk (by omega) hs) λv w ⟨hv,hs⟩=>⟨_,hv,Af hs ?_⟩;refine Ao (λ_=>?_) (λ_=>j3 w hs);refine Ah (Qj hs) λv w ⟨hv,hs⟩=>⟨_,hv,?_⟩;exact Ac rfl (j3 w hs)
 ·have hnR:=hR ▸ hk.nd;have hnA:=(List.nodup_append.1 hnR).1;have hnB:=(List.nodup_append.1 hnR).2.1;have hdis:∀x∈A,x∉B:=λx h1 h2=>(List.nodup_append.1 hnR).2.2 x h1 x h2 rfl;have hll:R.length=A.length+B.length:=by rw[hR];simp
  have j3:∀(w:World)(l0:Sl)(g0 B':BL),B'.length<=B.length->B'.Nodup->(∀x∈A,x∉B')->(∀x∈g0,x∈R)->(∀x,x∈A++B'↔x∈R/\x∉g0)->g0.length<=1->((R.length:Int)<c->g0=[])->((A.length:Int)+B'.length<c\/(B'=[]/\g0=[])) ->
    Ab W w (m1 b k c t e u q::eg t e c A::eg u q c B'::recs Am.str l0 g0::M)->Pw Bg (Ad3 W M b k c R key (some B.length)) (some ⟨b,0,none⟩) key l0 w:=by
   clear hs hdis hnB hnR hR hll;intro w l0 g0 B' hle2 hnB hdis hsub hmem hg1 hcalm hroom hs;refine jw Px ?_;refine Aa (EG hs ?_);have hs:Ab W w (eg t e c A::m1 b k c t e u q::eg u q c B'::recs Am.str l0 g0::M):=by exact Ab.fin hs
   refine GQ hz hs λf hf=>AH hf λv w ⟨hit,l,g,S,hv,ha,hs⟩=>⟨_,_,hv,?_⟩;have hle:=ha.acc.le1;have hin:=Avq hk h0 hnA hnB hdis hsub hmem hg1 hcalm hroom ha;have hs:Ab W w (recs Am.str l0 g0::recs Am.str l g::eg t e c S::m1 b k c t e u q::eg u q c B'::M):=by exact Ab.fin hs
   refine FJ (s:=l0) (new:=g) hs (FU (s:=l) hs) (BE (s:=l) hs) (CS _) rfl (by decide) (by omega) λs6 w hs6 hs=>?_;have hs:Ab W w (recs Am.str s6 (g0++g)::recs Am.str l g::eg t e c S::m1 b k c t e u q::eg u q c B'::M):=hs;exact⟨s6,g0++g,S++B',some B'.length,rfl,hin,hle2,DX h5 hin.ok rfl rfl (by exact Ab.fin hs)⟩
  have hs:=Ab.nilR Am.str hs;have hs:Ab W w (m1 b k c t e u q::eg t e c A::eg u q c B::recs Am.str ⟨none,0,0⟩ []::M):=by exact Ab.fin hs
  have test:∀(w:World)(f:Nat)(l0:Sl)(g0 B':BL),A.length+B'.length<=5000->Ab W w (m1 b k c t e u q::eg t e c A::eg u q c B'::recs Am.str l0 g0::M) ->
    ((A.length:Int)+B'.length>=c->B'.length>0->∀w,Ab W w (m1 b k c t e u q::eg t e c A::eg u q c B'::recs Am.str l0 g0::M)->Am6 Bg (Ad3 W M b k c R key (some B.length)) f (some ⟨b,0,none⟩) key l0 w) ->
    ((A.length:Int)+B'.length<c\/B'.length=0->∀w,Ab W w (m1 b k c t e u q::eg t e c A::eg u q c B'::recs Am.str l0 g0::M)->Pw Bg (Ad3 W M b k c R key (some B.length)) (some ⟨b,0,none⟩) key l0 w) ->
    UO Bg (Ad3 W M b k c R key (some B.length)) (f+1) (some ⟨b,0,none⟩) key l0 w:=by
   clear hs hdis hnB hnR hR hll j3;intro w f l0 g0 B' hl hs h2 h3;rw[Py];refine Ak [m1 b k c t e u q,eg t e c A,eg u q c B'] hs λw hs=>?_;refine Aa (Ar ?_);refine Ah (Awb hl hs) λv w ⟨hv,hs⟩=>⟨_,hv,Af hs ?_⟩
   with_reducible refine Az (λh4=>?_) (λh4=>?_)
   ·refine Ah (Qk hs) λv w ⟨hv,hs⟩=>⟨_,hv,?_⟩
    with_reducible refine Az (λh5=>?_) (λh5=>?_)
    ·exact h2 (by omega) (by omega) w hs
    ·exact h3 (.inr (by omega)) w hs
   ·exact h3 (.inl (by omega)) w hs
  refine AO 2 ?_;refine test w 1 _ [] B (by omega) hs (λh4 h6 w hs=>?_) (λh4 w hs=>?_)
  ·refine jw ZY ?_;have hE:Ba PR 135 #[pq b 0] w λv w'=>∃x yes S,v = .tuple #[.s x,.b yes]/\Ga c B x yes S/\Ab W w' (m1 b k c t e u q::eg t e c A::eg u q c S::recs Am.str ⟨none,0,0⟩ []::M):=by
    refine cw ⟨mixed,Tryz.func135,rfl⟩ Wn ?_;refine Ac rfl ?_;refine Ah (Qk hs) λv w ⟨hv,hs⟩=>⟨_,hv,?_⟩;refine Al (decide_eq_true (by omega)) ?_;refine Aa (EG hs ?_);have hs:Ab W w (eg u q c B::m1 b k c t e u q::eg t e c A::recs Am.str ⟨none,0,0⟩ []::M):=by exact Ab.fin hs
    refine VP hs λf hf=>AH hf λv w ⟨x,yes,B',hv,hev,hs⟩=>⟨_,_,hv,?_⟩;exact⟨x,yes,B',rfl,hev,by exact Ab.fin hs⟩
   refine AH hE λv w ⟨x,yes,B',hv,hev,hs⟩=>⟨_,_,hv,?_⟩;have hy:yes=true:=by rw[hev.says];exact decide_eq_true h6
   subst hy;have hxB:=hev.of rfl;have hpl:B.length=B'.length+1:=by
    have hp:=J8 hnB hev.ok.nd hxB hev.mem';simpa using hp.length_eq
   refine Ai hs λnb w hs=>?_;have hs:Ab W w (recs Am.str ⟨none,0,0⟩ []::blk nb [.s x]::m1 b k c t e u q::eg t e c A::eg u q c B'::M):=by exact Ab.fin hs
   refine CG (s:=⟨none,0,0⟩) (a:=x) hs rfl rfl rfl rfl (by decide) (by simp) λs5 w hs5 hs=>?_;have hs:Ab W w (recs Am.str s5 [x]::blk nb [.s x]::m1 b k c t e u q::eg t e c A::eg u q c B'::M):=hs;have hs:Ab W w (m1 b k c t e u q::eg t e c A::eg u q c B'::recs Am.str s5 [x]::M):=by exact Ab.fin hs
   refine test w 0 s5 [x] B' (by omega) hs (λh6 _ w hs=>by omega) (λ_ w hs=>?_);refine j3 w s5 [x] B' (by omega) hev.ok.nd (λy h1 h2=>hdis y h1 ((hev.mem' y).1 h2).1) (λy hy=>by rw[List.mem_singleton] at hy;subst hy;rw[hR];exact List.mem_append_right _ hxB) (λy=>?_) (by simp) (λh=>by omega) (.inl (by omega)) hs
   rw[List.mem_append,hev.mem',hR,List.mem_append,List.mem_singleton];constructor
   ·rintro(h|h)
    ·exact⟨.inl h,λe=>hdis y h (e ▸ hxB)⟩
    ·exact⟨.inr h.1,h.2⟩
   ·rintro⟨h|h,h2⟩
    ·exact .inl h
    ·exact .inr ⟨h,h2⟩
  ·exact j3 w _ [] B (Nat.le_refl _) hnB hdis (by simp) (λy=>by rw[hR];simp) (by simp) (λ_=>rfl) (by
    rcases h4 with h4|h4
    ·exact .inl h4
    ·exact .inr ⟨List.length_eq_zero_iff.1 h4,rfl⟩) hs
theorem Aoj{ev:Ev}{K:BL}(hz:ev.2.size<64)(hev:YV c R ev K)(hs:Ab W w (Fq b k c R o::M)):Ba PR 130 #[pq b 0,.agg #[.i ev.1,.s ev.2]] w λv w'=>∃(l:Sl) (S:BL) (o':Option Nat),v = .l l.a l.n l.c/\(∀x,x∈S↔x∈K)/\Jq o' o/\Ab W w' (Fq b k c S o'::recs Am.str l []::M):=by
 obtain⟨kd,key⟩:=ev;obtain⟨hkK,hmK⟩:=hev;refine cw ⟨mixed,Tryz.func130,rfl⟩ Aix ?_;have hkR:=MG hs;refine Ai hs λnb w hs=>?_;refine Ac rfl ?_;have hs:Ab W w (Fq b k c R o::blk nb [.i kd,.s key]::M):=by exact Ab.fin hs
 refine Ag hs ?_
 with_reducible refine Az (λh1=>?_) (λh1=>?_)
 ·have hmK:∀x,x∈K↔x∈R:=λx=>by have:=hmK x;rw[if_neg (by omega),if_neg (by omega)] at this;exact this
  refine Ag hs ?_;refine Ah (Aol hz hs) λv w ⟨hv,hs⟩=>⟨_,hv,?_⟩
  with_reducible refine Az (λh2=>?_) (λh2=>?_)
  ·refine Ag hs ?_;refine Ah (Adl h2 hz hs) λv w ⟨l,S,o',hv,hm,ho,hs⟩=>⟨_,hv,?_⟩;exact⟨l,S,o',rfl,λx=>by rw[hm,hmK],ho,by exact Ab.fin hs⟩
  ·have hs:=Ab.nilR Am.str hs;exact⟨⟨none,0,0⟩,R,o,rfl,λx=>(hmK x).symm,Jq.refl,by exact Ab.fin hs⟩
 with_reducible refine Az (λh2=>?_) (λh2=>?_)
 ·have hmK:∀x,x∈K↔x∈R\/x=key:=λx=>by have:=hmK x;rw[if_pos h2] at this;exact this
  refine Ag hs ?_;refine Ah (Th hz hs) λv w ⟨l,g,S,o',hv,hin,ho,hs⟩=>⟨_,hv,?_⟩
  by_cases hk:key∈R
  ·obtain⟨rfl,hm⟩:=hin.has hk;refine⟨l,S,o',rfl,λx=>?_,ho,by exact Ab.fin hs⟩;rw[hm,hmK];exact⟨.inl,λh=>h.elim id λh=>h ▸ hk⟩
  ·have hlt:(R.length:Int)<c:=by
    have hsub:∀x∈key::R,x∈K:=λx hx=>(hmK x).2 (by
     rcases List.mem_cons.1 hx with h|h
     ·exact .inr h
     ·exact .inl h)
    have:=E5 (List.nodup_cons.2 ⟨hk,hkR.nd⟩) hsub;have hr:=hkK.room;simp only[List.length_cons] at this;omega
   have hg:=hin.calm hlt;subst hg;refine⟨l,S,o',rfl,λx=>?_,ho,by exact Ab.fin hs⟩;rw[hin.mem,hmK];simp
 with_reducible refine Az (λh3=>?_) (λh3=>?_)
 ·have hmK:∀x,x∈K↔x∈R/\x≠key:=λx=>by have:=hmK x;rw[if_neg h2,if_pos h3] at this;exact this
  have hO:=hs;clear hs;refine CR hO (λt e h5 hk ho hs=>?_) (λt e u q A B h5 hk hR ho hs=>?_) <;> try rw[ho]
  ·refine Ak [m0 b k c t e,blk nb [.i kd,.s key]] hs λw hs=>?_;refine Aa (PV (Ag hs (Af hs ?_)));have hs:Ab W w (eg t e c R::m0 b k c t e::M):=by exact Ab.fin hs
   refine IC hz hs λf hf=>Ah hf λv w ⟨yes,S,hv,hr,hs⟩=>⟨_,hv,?_⟩;have hs:Ab W w (m0 b k c t e::eg t e c S::M):=by exact Ab.fin hs
   refine Ah (ER hs) λv w ⟨hv,hs⟩=>⟨_,hv,Ac rfl ?_⟩;have hs:=Ab.nilR Am.str hs;exact⟨⟨none,0,0⟩,S,none,rfl,λx=>by rw[hr.mem,hmK],trivial,Do h5 hr.ok (by exact Ab.fin hs)⟩
  ·have hnd:=List.nodup_append.1 (hR ▸ hk.nd);refine Ak [m1 b k c t e u q,blk nb [.i kd,.s key]] hs λw hs=>?_;refine Aa (PV (Ag hs (Af hs ?_)));have hs:Ab W w (eg t e c A::m1 b k c t e u q::eg u q c B::blk nb [.i kd,.s key]::M):=by exact Ab.fin hs
   refine IC hz hs λf hf=>Ah hf λv w ⟨yes,A',hv,hr,hs⟩=>⟨_,hv,?_⟩;have hs:Ab W w (m1 b k c t e u q::eg t e c A'::eg u q c B::blk nb [.i kd,.s key]::M):=by exact Ab.fin hs
   refine Ah (El hs) λv w ⟨hv,hs⟩=>⟨_,hv,Al rfl ?_⟩;refine Ak [m1 b k c t e u q,blk nb [.i kd,.s key]] hs λw hs=>?_;refine Aa (PV (Ag hs (Af hs ?_)));have hs:Ab W w (eg u q c B::m1 b k c t e u q::eg t e c A'::M):=by exact Ab.fin hs
   refine IC hz hs λf hf=>Ah hf λv w ⟨yes2,B',hv,hr2,hs⟩=>⟨_,hv,?_⟩;have hs:=Ab.nilR Am.str hs;have hm:∀x,x∈A'++B'↔x∈K:=λx=>by
    rw[List.mem_append,hr.mem,hr2.mem,hmK,hR,List.mem_append];constructor
    ·rintro(h|h)
     ·exact⟨.inl h.1,h.2⟩
     ·exact⟨.inr h.1,h.2⟩
    ·rintro⟨h|h,h2⟩
     ·exact .inl ⟨h,h2⟩
     ·exact .inr ⟨h,h2⟩
   have hk2:=hkK.same (Vl hr.ok.nd hr2.ok.nd λx h1 h2=>hnd.2.2 x ((hr.mem x).1 h1).1 x ((hr2.mem x).1 h2).1 rfl) hm;have hlB:B'.length<=B.length:=E5 hr2.ok.nd λx h=>((hr2.mem x).1 h).1;exact⟨⟨none,0,0⟩,A'++B',some B'.length,rfl,hm,hlB,DX h5 hk2 rfl rfl (by exact Ab.fin hs)⟩
 ·have hmK:∀x,x∈K↔x∈R:=λx=>by have:=hmK x;rw[if_neg h2,if_neg h3] at this;exact this
  have hs:=Ab.nilR Am.str hs;exact⟨⟨none,0,0⟩,R,o,rfl,λx=>(hmK x).symm,Jq.refl,by exact Ab.fin hs⟩
theorem Ql(hk:Dj c (A++B))(hs:Ab W w (m1 b k r t e u q::eg t e c A::eg u q c B::M)):Ba PR 99 #[pq b 0] w λv w'=>
  (v = .tuple #[.s ⟨#[]⟩,.b false]/\B=[]/\Ab W w' (m0 b k r t e::eg t e c A::M))\/(∃(x:BA) (A' B':BL),v = .tuple #[.s x,.b true]/\B'.length+1=B.length/\(∀x,x∈A'++B'↔x∈A++B)/\Dj c (A'++B')/\Ab W w' (m1 b k r t e u q::eg t e c A'::eg u q c B'::M)):=by
 refine cw ⟨mixed,Tryz.func99,rfl⟩ Ac1 ?_;refine Ah (El hs) λv w ⟨hv,hs⟩=>⟨_,hv,Ac rfl ?_⟩;refine Aa (EG hs ?_);have hs:Ab W w (eg u q c B::m1 b k r t e u q::eg t e c A::M):=by exact Ab.fin hs
 refine Abq hs λf hf=>Ah hf λv w ⟨l,ks,hv,hp,hs⟩=>⟨_,hv,?_⟩;have hln:=BE (s:=l) hs;have hpl:=hp.length_eq;have hs:Ab W w (m1 b k r t e u q::eg t e c A::eg u q c B::recs Am.str l ks::M):=by exact Ab.fin hs
 with_reducible refine Az (λh1=>?_) (λh1=>?_)
 ·refine Aa (A4 hs λw hs=>?_);have hB:B=[]:=List.length_eq_zero_iff.1 (by omega);exact .inl ⟨rfl,hB,by exact Ab.fin hs⟩
 have h0:0<ks.length:=by omega
 have hin:BV ks∈B:=hp.mem_iff.1 (by rw[<- UU h0];exact GS h0);have hz:(BV ks).size<64:=hk.small _ (List.mem_append_right _ hin);refine Cn (s:=l) hs λb_ o_ ha_=>?_;refine C6 ha_ hs ?_;rw[UU h0];refine AX (Yw hz hin hk hs) λv w ⟨hv,A',B',h2,h3,h4,h6,hs⟩=>⟨hv,?_⟩;refine Cn (s:=l) hs λb_ o_ ha_=>?_;refine C6 ha_ hs ?_;rw[UU h0];exact .inr ⟨BV ks,A',B',rfl,h6,h2,h3,by exact Ab.fin hs⟩
def Qn:Option Nat->Option Nat
 | some (n+1)=>some n
 | _=>none
theorem Awd(hs:Ab W w (Fq b k c R o::M)):Ba PR 99 #[pq b 0] w λv w'=>∃(x:BA) (t:Bool) (S:BL),v = .tuple #[.s x,.b t]/\(∀x,x∈S↔x∈R)/\Ab W w' (Fq b k c S (Qn o)::M):=by
 have hO:=hs;clear hs;refine CR hO (λt e h5 hk ho hs=>?_) (λt e u q A B h5 hk hR ho hs=>?_) <;> try rw[ho]
 ·refine cw ⟨mixed,Tryz.func99,rfl⟩ Ac1 ?_;refine Ah (ER hs) λv w ⟨hv,hs⟩=>⟨_,hv,Al rfl ?_⟩;exact⟨_,_,R,rfl,λ_=>Iff.rfl,Do h5 hk hs⟩
 ·rw[hR] at hk;refine(Ql hk hs).mono λv w' h=>?_;rcases h with⟨hv,hB,hs⟩|⟨x,A',B',hv,hl,hm,hk2,hs⟩
  ·have hA:A++B=A:=by rw[hB,List.append_nil]
   rw[hA] at hk;rw[hB];exact⟨_,_,A,hv,λx=>by rw[hR,hA],Do h5 hk hs⟩
  ·rw[show Qn (some B.length)=some B'.length by rw[<- hl];rfl];exact⟨x,true,A'++B',hv,λx=>by rw[hm,hR],DX h5 hk2 rfl rfl hs⟩
theorem Tg(hs:Ab W w (mvG b k r c R o::M)):Ba PR 145 #[pq b 0] w λv w'=>∃(n:Int) (t e:Nat) (S:BL),v = .i n/\(∀x,x∈S↔x∈R)/\Dj c S/\Ab W w' (m0 b k r t e::eg t e c S::M):=by
 refine cw ⟨mixed,Tryz.func145,rfl⟩ Ai9 ?_;have done:∀(f:Nat)(w:World)(t e:Nat)(S:BL)(n:Int),(∀x,x∈S↔x∈R)->Dj c S->Ab W w (m0 b k r t e::eg t e c S::M) ->
   IE Bg (λv w'=>∃(n:Int) (t e:Nat) (S:BL),v = .i n/\(∀x,x∈S↔x∈R)/\Dj c S/\Ab W w' (m0 b k r t e::eg t e c S::M)) (f+1) (some ⟨b,0,none⟩) n w:=by
  clear hs;intro f w t e S n hm hk hs;rw[Ih];refine Ah (ER hs) λv w ⟨hv,hs⟩=>⟨_,hv,Ac rfl ?_⟩;refine jw Wr ?_;exact⟨n,t,e,S,rfl,hm,hk,hs⟩
 have hO:=hs;clear hs;refine CR hO (λt e h5 hk ho hs=>?_) (λt e u q A B h5 hk hR ho hs=>?_) <;> try rw[ho]
 ·exact AO 1 (done 0 w t e R 0 (λ_=>Iff.rfl) hk hs)
 ·have loop:∀(f:Nat)(w:World)(A B:BL)(n:Int),B.length<=f->(∀x,x∈A++B↔x∈R)->Dj c (A++B)->Ab W w (m1 b k r t e u q::eg t e c A::eg u q c B::M) ->
    IE Bg (λv w'=>∃(n:Int) (t e:Nat) (S:BL),v = .i n/\(∀x,x∈S↔x∈R)/\Dj c S/\Ab W w' (m0 b k r t e::eg t e c S::M)) (f+2) (some ⟨b,0,none⟩) n w:=by
   clear hs hk hR;intro f
   induction f with
   | zero=>
    intro w A B n hf hm hk hs;rw[Ih];refine Ah (El hs) λv w ⟨hv,hs⟩=>⟨_,hv,Al rfl ?_⟩;refine AH (Ql hk hs) λv w h=>?_;rcases h with⟨hv,hB,hs⟩|⟨x,A',B',hv,hl,_⟩
    ·refine⟨_,_,hv,Ac rfl ?_⟩;simp only[hB,List.append_nil] at hk hm;exact done 0 w t e A n hm hk hs
    ·omega
   | succ f ih=>
    intro w A B n hf hm hk hs;rw[Ih];refine Ah (El hs) λv w ⟨hv,hs⟩=>⟨_,hv,Al rfl ?_⟩;refine AH (Ql hk hs) λv w h=>?_;rcases h with⟨hv,hB,hs⟩|⟨x,A',B',hv,hl,hm2,hk2,hs⟩
    ·refine⟨_,_,hv,Ac rfl ?_⟩;simp only[hB,List.append_nil] at hk hm;exact done _ w t e A n hm hk hs
    ·refine⟨_,_,hv,Al rfl ?_⟩;exact ih w A' B' _ (by omega) (λx=>by rw[hm2,hm]) hk2 hs
  exact AO _ (loop B.length w A B 0 (Nat.le_refl _) (λx=>by rw[hR]) (hR ▸ hk) hs)
theorem Aok{kd:Int}(hkd:0<=kd/\kd<5)(hs:Ab W w (Fq b k c R o::M)):Ba PR 144 #[pq b 0,.i kd] w λv w'=>∃(S:BL),v = .i 0/\(∀x,x∈S↔x∈R)/\Ab W w' (Fq b kd c S (some S.length)::M):=by
 refine cw ⟨mixed,Tryz.func144,rfl⟩ Ai8 ?_;refine Ac rfl ?_;have hk0:=MG hs;have hrc:=Aoy hk0;refine Aa ?_;have hcell:∀K:Int->WP,K c w->ld (.int .i64) b (0+1) K w:=λK h=>CR hs (λt e _ _ _ hs=>Ag hs h) (λt e u q A B _ _ _ _ hs=>Ag hs h);refine hcell _ ?_;refine TO hs (λh w hs=>by omega) (λ_ _ u q w hs=>?_);refine Ac rfl ?_;rw[hrc] at hs;have hs:Ab W w (Fq b k c R o::eg u q c []::M):=by exact Ab.fin hs
 refine Ah (Tg hs) λv w ⟨n,t,e,S,hv,hm,hk,hs⟩=>⟨_,hv,?_⟩;refine Aa (EG hs ?_);refine Aa (A4 hs λw hs=>?_);refine Aa (A4 hs λw hs=>?_);refine Aa (A4 hs λw hs=>?_);exact⟨S,rfl,hm,DX hkd hk (A:=[]) (B:=S) rfl rfl (by exact Ab.fin hs)⟩
theorem Aga(hs:Ab W w (m0 b k r t e::eg t e c R::M)):Ba PR 135 #[pq b 0] w λv w'=>∃x yes S,v = .tuple #[.s x,.b yes]/\Ga c R x yes S/\Ab W w' (m0 b k r t e::eg t e c S::M):=by
 refine cw ⟨mixed,Tryz.func135,rfl⟩ Wn ?_;refine Ac rfl ?_;refine Ah (Qj hs) λv w ⟨hv,hs⟩=>⟨_,hv,?_⟩;refine Ac rfl ?_;refine Aa (EG hs ?_);have hs:Ab W w (eg t e c R::m0 b k r t e::M):=by exact Ab.fin hs
 refine VP hs λf hf=>AH hf λv w ⟨x,yes,S,hv,hev,hs⟩=>⟨_,_,hv,?_⟩;exact⟨x,yes,S,rfl,hev,by exact Ab.fin hs⟩
theorem Ap5(hk:0<=k/\k<5){s0:Sl}{ks:BL}[hr:OP W L s0 Am.str ks](hs:Ab W w L)(hn:ks.Nodup)(hz:∀x∈ks,x.size<64)(hl:(ks.length:Int)<=AU r){N:Int->WP}{K:TypeId->Value->Int->WP}
  (hK:∀(t b:Nat)(S:BL)(w:World),(∀x,x∈S↔x∈ks)->Ab W w (eg t b (AU r) S::L)->K t (pq b 0) 0 w):OU (.int .i64) PR 146 [.i k,.i r,.l s0.a s0.n s0.c] N K w:=by
 refine(cw ⟨mixed,Tryz.func146,rfl⟩ Aja (Q:=λv w'=>∃(t b:Nat) (S:BL),v = .tuple #[.iface t (pq b 0),.i 0]/\(∀x,x∈S↔x∈ks)/\Ab W w' (eg t b (AU r) S::L)) ?_).mono λe w' ⟨v,he,t,b,S,hv,h1,h2⟩=>.inr ⟨_,_,_,by rw[he,hv];rfl,hK t b S w' h1 h2⟩;refine TO hs (λh w hs=>by omega) (λ_ _ t b w hs=>?_);refine Ac rfl ?_;have hsn:=BE (s:=s0) hs;have hrm:=DZ r;have loop:∀(f i:Nat)(w:World)(S:BL),i+f=ks.length->(∀x,x∈S↔x∈ks.take i)->Ab W w (eg t b (AU r) S::L) ->
   NI Bg (λv w'=>∃(t b:Nat) (S:BL),v = .tuple #[.iface t (pq b 0),.i 0]/\(∀x,x∈S↔x∈ks)/\Ab W w' (eg t b (AU r) S::L)) (f+1) t (pq b 0) s0 (s0.n:Int) (i:Int) w:=by
  clear hs;intro f
  induction f with
  | zero=>
   intro i w S hi hS hs;rw[LP];refine Ac (decide_eq_false (by omega)) ?_;refine jw Ws ?_;rw[List.take_of_length_le (by omega)] at hS;exact⟨t,b,S,rfl,hS,hs⟩
  | succ f ih=>
   intro i w S hi hS hs;rw[LP];refine Al (decide_eq_true (by omega)) ?_;refine Cn (s:=s0) hs λb_ o_ ha_=>?_;refine C6 ha_ hs ?_;rw[Int.toNat_natCast];have hm:ks.getD i default∈ks:=GS (by omega);have hk:=Ah6 hs;have hpl:S.length=i:=by
    have hp:=CD hk.nd (hn.sublist (List.take_sublist i ks)) hS;rw[hp.length_eq,List.length_take];omega
   have hno:ks.getD i default∉ks.take i:=by
    intro hin;have h2:=hn;rw[<- List.take_append_drop i ks,List.nodup_append] at h2;have hd:ks.getD i default∈ks.drop i:=by
     rw[List.getD_eq_getElem?_getD,List.getElem?_eq_getElem (show i<ks.length by omega)];rw[List.drop_eq_getElem_cons (show i<ks.length by omega)];exact .head _
    exact h2.2.2 _ hin _ hd rfl
   refine Abr (hz _ hm) hs λf hf=>Ah hf λv w ⟨yes,S',hv,ha,hs⟩=>⟨_,hv,?_⟩;rw[show IntKind.wrap .i64 ((i:Int)+1)=((i+1:Nat):Int) by rw[i64_in _ (by have:=BE (s:=s0) hs;omega)];omega]
   refine ih (i+1) w S' (by omega) (λx=>?_) hs;have hy:yes=true:=by rw[ha.says];exact decide_eq_true ⟨λh=>hno ((hS _).1 h),by omega⟩
   rw[ha.mem,Cc (by omega),List.mem_append,List.mem_singleton,hS,hy];simp
 exact AO _ (loop ks.length 0 w [] (by omega) (by simp) hs)
theorem Zk(n:Int):Hs n 1 1024=AU n:=by unfold Hs AU;split <;> split <;> omega
theorem Agb(hs:Ab W w (Fq b k c R o::M)){n:Int}:Ba PR 105 #[pq b 0,.i n] w λv w'=>∃(l:Sl) (g S:BL),v = .l l.a l.n l.c/\(∀x∈g,x∈R)/\g.Nodup/\(∀x,x∈S↔x∈R/\x∉g)/\(g=[]\/(S.length:Int)=AU n)/\Ab W w' (Fq b k (AU n) S none::recs Am.str l g::M):=by
 refine cw ⟨mixed,Tryz.func105,rfl⟩ Aid ?_;refine Ac rfl ?_;refine An (Dk hs n 1 1024) λe w ⟨he,hs⟩=>⟨_,he,?_⟩;rw[Zk];have hr:=DZ n;have hr2:=A0t n;have hk5:=Axr hs;have hkR:=MG hs;generalize AU n=rm at *;refine Aa ?_;have hcell:∀K:WP,(∀w,Ab W w (mvG b k rm c R o::M)->K w)->st b (0+1) (.i rm) K w:=λK h=>CR hs (λt e h5 hk ho hi=>by subst ho;exact A4 hi λw hs=>h w (Do h5 hk hs)) (λt e u q A B h5 hk hR ho hi=>by subst ho;exact A4 hi λw hs=>h w (DX h5 hk hR rfl hs))
 refine hcell _ λw hs=>?_;refine Ah (Tg hs) λv w ⟨n1,t,e,S0,hv,hm0,hk0,hs⟩=>⟨_,hv,?_⟩;have hs:=Ab.nilR Am.str hs;have hs:Ab W w (m0 b k rm t e::eg t e c S0::recs Am.str ⟨none,0,0⟩ []::M):=by exact Ab.fin hs
 have j2:∀(w:World)(l:Sl)(g S:BL),(∀x∈g,x∈R)->g.Nodup->(∀x,x∈S↔x∈R/\x∉g)->(S.length:Int)<=rm->(g=[]\/(S.length:Int)=rm)->Dj c S->Ab W w (m0 b k rm t e::eg t e c S::recs Am.str l g::M) ->
   Abv Bg (λv w'=>∃(l:Sl) (g S:BL),v = .l l.a l.n l.c/\(∀x∈g,x∈R)/\g.Nodup/\(∀x,x∈S↔x∈R/\x∉g)/\(g=[]\/(S.length:Int)=rm)/\Ab W w' (Fq b k rm S none::recs Am.str l g::M)) (some ⟨b,0,none⟩) l w:=by
  clear hs;intro w l g S hsub hnd hm hl hgl hk hs;refine jw Wb ?_;refine Ak [m0 b k rm t e] hs λw hs=>?_;refine Aa (Ar (Aa (Ar (Aa (EG hs (Af hs ?_))))));have hs:Ab W w (eg t e c S::m0 b k rm t e::recs Am.str l g::M):=by exact Ab.fin hs
  refine Abq hs λf hf=>Ah hf λv w ⟨l2,ks,hv,hp,hs⟩=>⟨_,hv,?_⟩;have hs:Ab W w (m0 b k rm t e::recs Am.str l2 ks::recs Am.str l g::M):=by exact Ab.fin hs
  refine Af hs ?_;refine Ap5 (r:=rm) (s0:=l2) (ks:=ks) hk5 hs (hp.nodup_iff.2 hk.nd) (λx hx=>hk.small x (hp.mem_iff.1 hx)) (by rw[hp.length_eq,hr2];exact hl) λt2 e2 S2 w hm2 hs=>?_
  rw[hr2] at hs;have hok:=Ah6 hs;have hsl:S2.length=S.length:=by rw[(CD hok.nd (hp.nodup_iff.2 hk.nd) hm2).length_eq,hp.length_eq]
  refine Aa (A4 hs λw hs=>?_);exact⟨l,g,S2,rfl,hsub,hnd,λx=>by rw[hm2,hp.mem_iff,hm],by rw[hsl];exact hgl,Do hk5 hok (by exact Ab.fin hs)⟩
 have loop:∀(f:Nat)(w:World)(l:Sl)(g S:BL),S.length<=f->g.length+S.length<=1024->(∀x∈g,x∈R)->g.Nodup->(∀x,x∈S↔x∈R/\x∉g)->(g=[]\/(S.length:Int)>=rm)->Dj c S->Ab W w (m0 b k rm t e::eg t e c S::recs Am.str l g::M) ->
   N4 Bg (λv w'=>∃(l:Sl) (g S:BL),v = .l l.a l.n l.c/\(∀x∈g,x∈R)/\g.Nodup/\(∀x,x∈S↔x∈R/\x∉g)/\(g=[]\/(S.length:Int)=rm)/\Ab W w' (Fq b k rm S none::recs Am.str l g::M)) (f+1) (some ⟨b,0,none⟩) l w:=by
  clear hs;intro f
  induction f with
  | zero=>
   intro w l g S hf hgl hsub hnd hm hg hk hs;rw[LF];refine Ak [m0 b k rm t e,eg t e c S] hs λw hs=>?_;refine Aa (Ar ?_);refine Ah (Vk (by omega) hs) λv w ⟨hv,hs⟩=>⟨_,hv,Af hs ?_⟩;refine Ac (decide_eq_false (by omega)) ?_;exact j2 w l g S hsub hnd hm (by omega) (hg.imp id λh=>by omega) hk hs
  | succ f ih=>
   intro w l g S hf hgl hsub hnd hm hg hk hs;rw[LF];refine Ak [m0 b k rm t e,eg t e c S] hs λw hs=>?_;refine Aa (Ar ?_);refine Ah (Vk (by omega) hs) λv w ⟨hv,hs⟩=>⟨_,hv,Af hs ?_⟩
   with_reducible refine Az (λh1=>?_) (λh1=>?_)
   ·refine AH (Aga hs) λv w ⟨x,yes,S',hv,hev,hs⟩=>⟨_,_,hv,?_⟩;have hy:yes=true:=by rw[hev.says];exact decide_eq_true (by omega)
    subst hy;have hpl:=(hev.perm hk).length_eq;simp only[List.length_cons] at hpl;have hxS:=hev.of rfl;have hxR:=(hm x).1 hxS;refine Ai hs λnb w hs=>?_;refine CG (s:=l) (a:=x) hs rfl rfl rfl rfl (by decide) (by omega) λs5 w hs5 hs=>?_;refine ih w s5 (g++[x]) S' (by omega) (by simp;omega) (λy hy=>?_) ?_ (λy=>?_) (.inr (by omega)) hev.ok (by exact Ab.fin hs)
    ·rcases List.mem_append.1 hy with h|h
     ·exact hsub y h
     ·rw[List.mem_singleton] at h;exact h ▸ hxR.1
    ·rw[List.nodup_append];exact⟨hnd,by simp,λa ha b hb=>by rw[List.mem_singleton] at hb;subst hb;exact λe=>hxR.2 (e ▸ ha)⟩
    ·rw[hev.mem',hm,List.mem_append,List.mem_singleton];constructor
     ·rintro⟨⟨h2,h3⟩,h4⟩;exact⟨h2,λh=>h.elim h3 h4⟩
     ·rintro⟨h2,h3⟩;exact⟨⟨h2,λh=>h3 (.inl h)⟩,λh=>h3 (.inr h)⟩
   ·exact j2 w l g S hsub hnd hm (by omega) (hg.imp id λh=>by omega) hk hs
 have hrm:=hk0.room;have hc2:=hk0.c2
 exact AO _ (loop S0.length w ⟨none,0,0⟩ [] S0 (Nat.le_refl _) (by simp;omega) (by simp) (by simp) (λx=>by rw[hm0];simp) (.inl rfl) hk0 hs)
end
end Go.Proofs.YtjipofkjmmpjdaaGreat
namespace Go.Hb
structure Dz where
 k:Int
 s:BA
 n:Int
 h:Bool
 cap:Nat
 buf:List (Int×BA×Int)
def Re(e:Int×BA×Int):Value:=.agg #[.i e.1,.s e.2.1,.i e.2.2]
abbrev MU(c d:Nat)(r q:Dz)(n lo:Int):List Value:=[.chan (some c),.i r.k,.s r.s,.i r.n,.bool r.h,.chan (some d),.i q.k,.s q.s,.i q.n,.bool q.h,.i n,.i lo]
abbrev FO(c:Nat)(r:Dz):HP:=chn c r.cap (r.buf.map Re)
def Dz.evs(q:Dz):List Ev:=(if q.h then [(q.k,q.s)] else [])++q.buf.map λe=>(e.1,e.2.1)
def Dz.peek(q:Dz):Dz:=if q.h then q else match q.buf with
 | []=>q
 | e::t=>{ q with k:=e.1,s:=e.2.1,n:=e.2.2,h:=true,buf:=t }
structure FdI(r q:Dz)(ws:List Ev):Prop where
 rd:∀e∈r.evs,e.1=1/\e.2.size<64
 wr:∀e∈q.evs,e.1≠1/\e.2.size<64
 eq:q.evs=ws
 c1:r.buf.length<=r.cap/\r.cap<=256
 c2:q.buf.length<=q.cap/\q.cap<=256
 c3:1<=q.cap
def fd(b:Nat)(ws:List Ev):HP:=JM λ(z:(Nat×Nat)×(Dz×Dz)×(Int×Int))=>EA (FdI z.2.1.1 z.2.1.2 ws) (AJ [blk b (MU z.1.1 z.1.2 z.2.1.1 z.2.1.2 z.2.2.1 z.2.2.2),FO z.1.1 z.2.1.1,FO z.1.2 z.2.1.2])
section
variable{W w:World}{M L:List HP}{b c d:Nat}{r q:Dz}{n lo:Int}{ws:List Ev}
theorem UQ(h:Ab W w (fd b ws::M)):∃c d r q n lo,FdI r q ws/\Ab W w (blk b (MU c d r q n lo)::FO c r::FO d q::M):=by
 obtain⟨⟨⟨c,d⟩,⟨r,q⟩,n,lo⟩,h⟩:=h.openE;obtain⟨hp,h⟩:=h.openA;exact⟨c,d,r,q,n,lo,hp,h.openL⟩
theorem IG(hi:FdI r q ws)(h:Ab W w (blk b (MU c d r q n lo)::FO c r::FO d q::M)):Ab W w (fd b ws::M):=Ab.shutE ((c,d),(r,q),n,lo) (Ab.shutA hi (Ab.shutL (Ps:=[_,_,_]) h))
theorem CT(q:Dz):q.peek.evs=q.evs:=by
 unfold Dz.peek;split
 ·rfl
 ·rename_i h;split
  ·rfl
  ·rename_i e t he;simp[Dz.evs,he,h]
theorem OH(h:q.peek.h=false):q.evs=[]:=by
 unfold Dz.peek at h;split at h
 ·rename_i h1;rw[h1] at h;cases h
 ·rename_i h1;split at h
  ·rename_i h2;simp[Dz.evs,h1,h2]
  ·cases h
theorem Y0(q:Dz):q.peek.cap=q.cap/\q.peek.buf.length<=q.buf.length:=by
 unfold Dz.peek;split
 ·exact⟨rfl,Nat.le_refl _⟩
 ·split
  ·exact⟨rfl,Nat.le_refl _⟩
  ·rename_i e t he;exact⟨rfl,by rw[he];simp⟩
theorem IN(h:q.h=true):q.evs=(q.k,q.s)::({ q with h:=false }:Dz).evs:=by simp[Dz.evs,h]
theorem FdI.peek(hi:FdI r q ws):FdI r.peek q.peek ws:=by
 have h1:=Y0 r;have h2:=Y0 q
 exact⟨by rw[CT];exact hi.rd,by rw[CT];exact hi.wr,by rw[CT];exact hi.eq,by have:=hi.c1;omega,by have:=hi.c2;omega,by rw[h2.1];exact hi.c3⟩
end
end Go.Hb
namespace Go.Proofs.YtjipofkjmmpjdaaGreat
open Go.Hb Go.IntWalk
section
variable{W w:World}{L M:List HP}{b c d:Nat}{r q:Dz}{n lo:Int}{ws:List Ev}{key:BA}
theorem Ahu:PR.underlying 182=some (.chan .both 184):=by kernel_rfl
theorem OG{K:Nat->WP}(h0:0<=n)(h1:n<=256)(hs:Ab W w L)(hK:∀c w',Ab W w' (chn c n.toNat []::L)->K c w'):Af9 PR 182 (.i n) K w:=by
 have hb:∃i,PR.info? 184=some i/\i.bytes=32:=by
  have h:(PR.info? 184).map (·.bytes)=some 32:=by kernel_rfl
  obtain⟨i,hi,hb⟩:=Option.map_eq_some_iff.1 h;exact⟨i,hi,hb⟩
 obtain⟨i,hi,hb⟩:=hb;obtain⟨m,rfl⟩:=Int.eq_ofNat_of_zero_le h0;refine⟨_,Go.Conc.run_makeChan (P:=PR) (w:=w) (t:=182) Ahu hi .i64 m (by omega) (by rw[hb];omega),hK _ _ (D2 (s:=0) (r:=0) (buf:=[]) hs.allocC)⟩
theorem A0j(hs:Ab W w (blk b (MU c d r q n lo)::FO c r::FO d q::M)):Calls PR 200 #[pq b 0] w λe w'=>e = .returned (.bool r.peek.h)/\Ab W w' (blk b (MU c d r.peek q n lo)::FO c r.peek::FO d q::M):=by
 have hs:Ab W w (FO c r::blk b (MU c d r q n lo)::FO d q::M):=hs.perm (List.Perm.swap _ _ _);obtain⟨s,t,hs⟩:=JU hs;have hb:=(hs.perm (List.Perm.swap _ _ _)).cell (q:=0) (o:=4) rfl;have hb0:=(hs.perm (List.Perm.swap _ _ _)).cell (q:=0) (o:=0) rfl;cases hh:r.h with
 | true=>
  have e1:r.peek=r:=if_pos hh;rw[e1,hh];exact(Y1 (o:=0) w (by rw[hb];simp[hh])).mono λe w' ⟨he,hw⟩=>⟨he,by subst hw;exact(D2 hs).perm (List.Perm.swap _ _ _)⟩
 | false=>
  cases hbf:r.buf with
  | nil=>
   have e1:r.peek=r:=by unfold Dz.peek;rw[if_neg (by simp[hh]),hbf]
   rw[e1,hh];have hc:=hs.objC;rw[hbf] at hc;exact(Tl (o:=0) (c:=c) w (by rw[hb];simp[hh]) (by rw[hb0];rfl) hc).mono λe w' ⟨he,hw⟩=>⟨he,by subst hw;exact(D2 hs).perm (List.Perm.swap _ _ _)⟩
  | cons e t=>
   have e1:r.peek={ r with k:=e.1,s:=e.2.1,n:=e.2.2,h:=true,buf:=t }:=by unfold Dz.peek;rw[if_neg (by simp[hh]),hbf]
   rw[e1];rw[hbf] at hs;refine(Tm (o:=0) (c:=c) (by simp) (by simp[hh]) rfl hs).mono λe w' ⟨he,hs⟩=>⟨he,?_⟩;exact(D2 hs).perm (List.Perm.swap _ _ _)
theorem A0k(hs:Ab W w (blk b (MU c d r q n lo)::FO c r::FO d q::M)):Calls PR 200 #[pq b 5] w λe w'=>e = .returned (.bool q.peek.h)/\Ab W w' (blk b (MU c d r q.peek n lo)::FO c r::FO d q.peek::M):=by
 have hs:Ab W w (FO d q::blk b (MU c d r q n lo)::FO c r::M):=by exact Ab.fin hs
 obtain⟨s,t,hs⟩:=JU hs;have hb:=(hs.perm (List.Perm.swap _ _ _)).cell (q:=0) (o:=9) rfl;have hb0:=(hs.perm (List.Perm.swap _ _ _)).cell (q:=0) (o:=5) rfl;cases hh:q.h with
 | true=>
  have e1:q.peek=q:=if_pos hh;rw[e1,hh];exact(Y1 (o:=5) w (by rw[hb];simp[hh])).mono λe w' ⟨he,hw⟩=>⟨he,by subst hw;have hs:=D2 hs;exact Ab.fin hs⟩
 | false=>
  cases hbf:q.buf with
  | nil=>
   have e1:q.peek=q:=by unfold Dz.peek;rw[if_neg (by simp[hh]),hbf]
   rw[e1,hh];have hc:=hs.objC;rw[hbf] at hc;exact(Tl (o:=5) (c:=d) w (by rw[hb];simp[hh]) (by rw[hb0];rfl) hc).mono λe w' ⟨he,hw⟩=>⟨he,by subst hw;have hs:=D2 hs;exact Ab.fin hs⟩
  | cons x t=>
   have e1:q.peek={ q with k:=x.1,s:=x.2.1,n:=x.2.2,h:=true,buf:=t }:=by unfold Dz.peek;rw[if_neg (by simp[hh]),hbf]
   rw[e1];rw[hbf] at hs;refine(Tm (o:=5) (c:=d) (by simp) (by simp[hh]) rfl hs).mono λe w' ⟨he,hs⟩=>⟨he,?_⟩;have hs:=D2 hs;have hs:Ab W w' (chn d q.cap (t.map Re)::blk b (MU c d r { q with k:=x.1,s:=x.2.1,n:=x.2.2,h:=true,buf:=t } n lo)::FO c r::M):=hs;exact Ab.fin hs
theorem XV(hi:FdI r q ws)(hs:Ab W w (blk b (MU c d r q n lo)::FO c r::FO d q::M)):Ba PR 168 #[pq b 0] w λv w'=>
  ((v = .p none/\r.peek.h=false/\q.peek.h=false)\/(v=pq b 0/\r.peek.h=true)\/(v=pq b 5/\q.peek.h=true))/\Ab W w' (blk b (MU c d r.peek q.peek n lo)::FO c r.peek::FO d q.peek::M):=by
 refine cw ⟨mixed,Tryz.func168,rfl⟩ Ajs ?_;refine AF hs λw hs=>?_;refine Aa (Aa ?_);refine An (A0j hs) λe w ⟨he,hs⟩=>⟨_,he,?_⟩;refine An (A0k hs) λe w ⟨he,hs⟩=>⟨_,he,?_⟩;have j2:∀(w:World)(t:Bool),(t=true->q.peek.h=true)->(t=false->r.peek.h=true\/q.peek.h=false)->Ab W w (blk b (MU c d r.peek q.peek n lo)::FO c r.peek::FO d q.peek::M) ->
   NL Bg (λv w'=>((v = .p none/\r.peek.h=false/\q.peek.h=false)\/(v=pq b 0/\r.peek.h=true)\/(v=pq b 5/\q.peek.h=true))/\Ab W w' (blk b (MU c d r.peek q.peek n lo)::FO c r.peek::FO d q.peek::M)) (some ⟨b,0,none⟩) r.peek.h t w:=by
  clear hs;intro w t ht hf hs;refine jw W3 ?_;refine Ao (λh1=>?_) (λh1=>?_)
  ·exact Aa ⟨.inr (.inr ⟨rfl,ht h1⟩),hs⟩
  ·refine Ao (λh2=>?_) (λh2=>?_)
   ·exact Aa ⟨.inr (.inl ⟨rfl,h2⟩),hs⟩
   ·exact⟨.inl ⟨rfl,h2,(hf h1).elim (λh=>by rw[h] at h2;cases h2) id⟩,hs⟩
 have j1:∀(w:World)(t:Bool),(t=true->q.peek.h=true)->Ab W w (blk b (MU c d r.peek q.peek n lo)::FO c r.peek::FO d q.peek::M) ->
   NK Bg (λv w'=>((v = .p none/\r.peek.h=false/\q.peek.h=false)\/(v=pq b 0/\r.peek.h=true)\/(v=pq b 5/\q.peek.h=true))/\Ab W w' (blk b (MU c d r.peek q.peek n lo)::FO c r.peek::FO d q.peek::M)) (some ⟨b,0,none⟩) r.peek.h q.peek.h t w:=by
  clear hs;intro w t ht hs;refine jw W2 ?_;refine Ao (λh1=>?_) (λh1=>?_)
  ·exact j2 w t ht (λh=>by rw[h1] at h;cases h) hs
  ·refine Ao (λh2=>?_) (λh2=>?_)
   ·refine j2 w _ (λ_=>h2) (λh=>.inl (by simpa using h)) hs
   ·exact j2 w false (λh=>by cases h) (λ_=>.inr h2) hs
 refine Ak [blk b (MU c d r.peek q.peek n lo),FO c r.peek,FO d q.peek] hs λw hs=>?_;refine Ao (λh1=>?_) (λh1=>?_)
 ·refine Ao (λh2=>?_) (λh2=>?_)
  ·refine Aa (Ar (Aa (Ag hs (Af hs ?_))));exact j1 w _ (λ_=>h2) hs
  ·exact Af hs (j1 w false (λh=>by cases h) hs)
 ·exact Af hs (j1 w false (λh=>by cases h) hs)
theorem Azt(hs:Ab W w L){x y:Int}:Ba PR 75 #[.i x,.i y] w λv w'=>((0<=x/\x<=256/\1<=y/\y<=256)/\∃b,v = .tuple #[pq b 0,.i 0]/\Ab W w' (fd b []::L))\/(¬(0<=x/\x<=256/\1<=y/\y<=256)/\v = .tuple #[.p none,.i 1]/\Ab W w' L):=by
 refine cw ⟨mixed,Tryz.func75,rfl⟩ Auz ?_
 with_reducible refine Az (λh1=>?_) (λh1=>?_)
 ·exact .inr ⟨by omega,rfl,hs⟩
 with_reducible refine Az (λh2=>?_) (λh2=>?_)
 ·exact .inr ⟨by omega,rfl,hs⟩
 with_reducible refine Az (λh3=>?_) (λh3=>?_)
 ·exact .inr ⟨by omega,rfl,hs⟩
 with_reducible refine Az (λh4=>?_) (λh4=>?_)
 ·exact .inr ⟨by omega,rfl,hs⟩
 refine jw ZM ?_;have fin:∀(w:World)(c d:Nat),Ab W w (chn c x.toNat []::chn d y.toNat []::L)->∀b,∀w',Ab W w' (blk b (MU c d ⟨0,Ae,0,false,x.toNat,[]⟩ ⟨0,Ae,0,false,y.toNat,[]⟩ 0 0)::chn c x.toNat []::chn d y.toNat []::L)->Ab W w' (fd b []::L):=λw c d _ b w' h=>
  IG (r:=⟨0,Ae,0,false,x.toNat,[]⟩) (q:=⟨0,Ae,0,false,y.toNat,[]⟩) ⟨by simp[Dz.evs],by simp[Dz.evs],rfl,⟨by simp,by show x.toNat<=256;omega⟩,⟨by simp,by show y.toNat<=256;omega⟩,by show 1<=y.toNat;omega⟩ h
 refine AF hs λw hs=>⟨?_,?_⟩
 ·refine OG (by omega) (by omega) hs λc w hs=>?_;refine OG (by omega) (by omega) hs λd w hs=>?_;have hs:Ab W w (chn c x.toNat []::chn d y.toNat []::L):=hs.perm (List.Perm.swap _ _ _);refine Ai hs λb w' hs'=>.inl ⟨by omega,b,rfl,fin w c d hs b w' hs'⟩
 ·refine OG (by omega) (by omega) hs λd w hs=>?_;refine OG (by omega) (by omega) hs λc w hs=>?_;refine Ai hs λb w' hs'=>.inl ⟨by omega,b,rfl,fin w c d hs b w' hs'⟩
theorem Avn(hz:key.size<64)(hs:Ab W w (fd b ws::M)):Ba PR 86 #[pq b 0,.s key] w λv w'=>∃t:Bool,v = .b t/\Ab W w' (fd b ws::M):=by
 refine cw ⟨mixed,Tryz.func86,rfl⟩ Ava ?_;obtain⟨c,d,r,q,n,lo,hi,hs⟩:=UQ hs;refine Ac rfl (Aa ?_);have hs:Ab W w (FO c r::blk b (MU c d r q n lo)::FO d q::M):=hs.perm (List.Perm.swap _ _ _);obtain⟨s,t,hs⟩:=JU hs
 by_cases hr:r.buf.length<r.cap
 ·refine An (QO (o:=0) (c:=c) (kd:=1) (key:=key) (n:=n) (by simp) rfl rfl (by simpa using hr) hs) λe w ⟨he,hs⟩=>⟨_,he,Ac rfl ?_⟩;have hs:=D2 hs;have hs:Ab W w (FO c { r with buf:=r.buf++[(1,key,n)] }::blk b (MU c d { r with buf:=r.buf++[(1,key,n)] } q (IntKind.wrap .i64 (n+1)) lo)::FO d q::M):=by
   have e1:r.buf.map Re++[Re (1,key,n)]=(r.buf++[(1,key,n)]).map Re:=by simp
   show Ab W w (chn c r.cap ((r.buf++[(1,key,n)]).map Re)::_);rw[<- e1];exact hs
  refine⟨true,rfl,IG (r:={ r with buf:=r.buf++[(1,key,n)] }) (q:=q) ⟨λe he=>?_,hi.wr,hi.eq,⟨by simp;omega,hi.c1.2⟩,hi.c2,hi.c3⟩ (hs.perm (List.Perm.swap _ _ _))⟩;have he2:e∈r.evs\/e=(1,key):=by simpa[Dz.evs,or_assoc] using he
  rcases he2 with h|rfl
  ·exact hi.rd e h
  ·exact⟨rfl,hz⟩
 ·refine An (QN (o:=0) (c:=c) (kd:=1) (key:=key) (n:=n) rfl rfl (by simpa using hr) hs) λe w ⟨he,hw⟩=>⟨_,he,Al rfl ?_⟩;subst hw;have hs:=(D2 hs).perm (List.Perm.swap _ _ _);have hs:Ab W w (blk b (MU c d r q n lo)::FO c r::FO d q::M):=hs;refine Aa (Ag hs (Aa (A4 hs λw hs=>?_)));exact⟨false,rfl,IG hi hs⟩
theorem XU{kd:Int}(hkd:kd=2\/kd=3)(hz:key.size<64)(hs:Ab W w (fd b ws::M)):Ba PR 128 #[pq b 0,.i kd,.s key] w λv w'=>(v = .b true/\Ab W w' (fd b (ws++[(kd,key)])::M))\/(ws≠[]/\v = .b false/\Ab W w' (fd b ws::M)):=by
 refine cw ⟨mixed,Tryz.func128,rfl⟩ Aiu ?_;have j1:TW Bg (λv w'=>(v = .b true/\Ab W w' (fd b (ws++[(kd,key)])::M))\/(ws≠[]/\v = .b false/\Ab W w' (fd b ws::M))) (some ⟨b,0,none⟩) kd key w:=by
  refine jw Wi ?_;obtain⟨c,d,r,q,n,lo,hi,hs⟩:=UQ hs;refine Aa ?_;have hs:Ab W w (FO d q::blk b (MU c d r q n lo)::FO c r::M):=by exact Ab.fin hs
  obtain⟨s,t,hs⟩:=JU hs
  by_cases hr:q.buf.length<q.cap
  ·refine An (QO (o:=5) (c:=d) (kd:=kd) (key:=key) (n:=n) (by simp) rfl rfl (by simpa using hr) hs) λe w ⟨he,hs⟩=>⟨_,he,?_⟩;have hs:=D2 hs;have hs:Ab W w (FO d { q with buf:=q.buf++[(kd,key,n)] }::blk b (MU c d r { q with buf:=q.buf++[(kd,key,n)] } (IntKind.wrap .i64 (n+1)) lo)::FO c r::M):=by
    have e1:q.buf.map Re++[Re (kd,key,n)]=(q.buf++[(kd,key,n)]).map Re:=by simp
    show Ab W w (chn d q.cap ((q.buf++[(kd,key,n)]).map Re)::_);rw[<- e1];exact hs
   have ev:({ q with buf:=q.buf++[(kd,key,n)] }:Dz).evs=ws++[(kd,key)]:=by rw[<- hi.eq];simp[Dz.evs]
   refine .inl ⟨rfl,IG (r:=r) (q:={ q with buf:=q.buf++[(kd,key,n)] }) ⟨hi.rd,λe he=>?_,ev,hi.c1,⟨by simp;omega,hi.c2.2⟩,hi.c3⟩ (by exact Ab.fin hs)⟩;rw[ev,List.mem_append,List.mem_singleton] at he;rcases he with h|rfl
   ·exact hi.wr e (by rw[hi.eq];exact h)
   ·exact⟨by show kd≠1;omega,hz⟩
  ·refine An (QN (o:=5) (c:=d) (kd:=kd) (key:=key) (n:=n) rfl rfl (by simpa using hr) hs) λe w ⟨he,hw⟩=>⟨_,he,?_⟩;subst hw;have hs:=D2 hs;refine .inr ⟨λh0=>?_,rfl,IG hi (by exact Ab.fin hs)⟩;have h1:=hi.eq;rw[h0] at h1;have h2:=hi.c3;have h3:q.buf=[]:=by
    have:=(List.append_eq_nil_iff.1 h1).2;simpa using this
   rw[h3] at hr;simp at hr;omega
 refine Ac rfl ?_;refine Ao (λh1=>?_) (λ_=>j1);refine Ao (λh2=>?_) (λ_=>j1);have h1:kd≠2:=by simpa using h1
 have h2:kd≠3:=by simpa using h2
 omega
theorem Am9(hs:Ab W w (fd b ws::M)):Ba PR 129 #[pq b 0] w λv w'=>∃(l:Sl) (evs:List Ev),v = .l l.a l.n l.c/\evs.filter (λe=>decide (e.1≠1))=ws/\(∀e∈evs,e.2.size<64)/\evs.length<=520/\Ab W w' (fd b []::recs F0 l evs::M):=by
 refine cw ⟨mixed,Tryz.func129,rfl⟩ Aiv ?_;obtain⟨c,d,r,q,n,lo,hi,hs⟩:=UQ hs;refine Ac rfl ?_;refine Ah (XV hi hs) λv w ⟨hv,hs⟩=>?_;have hi:=hi.peek;have hl:∀r:Dz,r.buf.length<=r.cap/\r.cap<=256->r.evs.length<=257:=λr h=>by
  unfold Dz.evs;rw[List.length_append,List.length_map];split <;> simp <;> omega
 have hlr:=hl _ hi.c1;have hlq:=hl _ hi.c2;have hs:=Ab.nilR F0 hs;have loop:∀(m:Nat)(w:World)(r q:Dz)(l4:OA)(acc:Sl)(evs:List Ev)(wq:List Ev),FdI r q wq->r.evs.length+q.evs.length=m->evs.length+m<=514 ->
   ((l4=none/\r.h=false/\q.h=false/\r.evs=[]/\q.evs=[])\/(l4=some ⟨b,0,none⟩/\r.h=true)\/(l4=some ⟨b,5,none⟩/\q.h=true))->evs.filter (λe=>decide (e.1≠1))++wq=ws->(∀e∈evs,e.2.size<64) ->
   Ab W w (recs F0 acc evs::blk b (MU c d r q n lo)::FO c r::FO d q::M) ->
   Ka Bg (λv w'=>∃(l:Sl) (evs:List Ev),v = .l l.a l.n l.c/\evs.filter (λe=>decide (e.1≠1))=ws/\(∀e∈evs,e.2.size<64)/\evs.length<=520/\Ab W w' (fd b []::recs F0 l evs::M)) (m+1) (some ⟨b,0,none⟩) acc l4 w:=by
  clear hs hv hlr hlq hi;intro m
  induction m with
  | zero=>
   intro w r q l4 acc evs wq hi hm hlen h4 hw hsz hs;rw[LJ];have h1:r.evs=[]:=List.length_eq_zero_iff.1 (by omega);have h2:q.evs=[]:=List.length_eq_zero_iff.1 (by omega);have h3:l4=none:=by
    rcases h4 with h|⟨_,h⟩|⟨_,h⟩
    ·exact h.1
    ·rw[IN h] at h1;cases h1
    ·rw[IN h] at h2;cases h2
   subst h3;refine Ac rfl ?_;refine jw Wj ?_;have h5:wq=[]:=by rw[<- hi.eq];exact h2
   subst h5;exact⟨acc,evs,rfl,by rw[List.append_nil] at hw;exact hw,hsz,by omega,by have hs2:=IG (M:=recs F0 acc evs::M) hi (by exact Ab.fin hs);exact hs2⟩
  | succ m ih=>
   intro w r q l4 acc evs wq hi hm hlen h4 hw hsz hs;rw[LJ];have next:∀(w:World)(r q:Dz)(acc:Sl)(evs wq:List Ev),FdI r q wq->r.evs.length+q.evs.length=m->evs.length+m<=514->evs.filter (λe=>decide (e.1≠1))++wq=ws->(∀e∈evs,e.2.size<64)->Ab W w (blk b (MU c d r q n lo)::FO c r::FO d q::recs F0 acc evs::M) ->
     (call1 .ptr PR 168 [pq b 0] λ(x_10:OA)=>Ka Bg (λv w'=>∃(l:Sl) (evs:List Ev),v = .l l.a l.n l.c/\evs.filter (λe=>decide (e.1≠1))=ws/\(∀e∈evs,e.2.size<64)/\evs.length<=520/\Ab W w' (fd b []::recs F0 l evs::M)) (m+1) (some ⟨b,0,none⟩) acc x_10) w:=by
    clear hs hi hm hlen h4 hw hsz;intro w r q acc evs wq hi hm hlen hw hsz hs;refine Ah (XV hi hs) λv w ⟨hv,hs⟩=>?_;rcases hv with⟨hv,h1,h2⟩|⟨hv,h1⟩|⟨hv,h1⟩
    ·exact⟨none,hv,ih w r.peek q.peek none acc evs wq hi.peek (by rw[CT,CT];exact hm) hlen (.inl ⟨rfl,h1,h2,by rw[CT];exact OH h1,by rw[CT];exact OH h2⟩) hw hsz (by exact Ab.fin hs)⟩
    ·exact⟨some ⟨b,0,none⟩,hv,ih w r.peek q.peek _ acc evs wq hi.peek (by rw[CT,CT];exact hm) hlen (.inr (.inl ⟨rfl,h1⟩)) hw hsz (by exact Ab.fin hs)⟩
    ·exact⟨some ⟨b,5,none⟩,hv,ih w r.peek q.peek _ acc evs wq hi.peek (by rw[CT,CT];exact hm) hlen (.inr (.inr ⟨rfl,h1⟩)) hw hsz (by exact Ab.fin hs)⟩
   rcases h4 with⟨_,_,_,h1,h2⟩|⟨rfl,h1⟩|⟨rfl,h1⟩
   ·rw[h1,h2] at hm;simp at hm
   ·have ht:=IN h1;have hin:=hi.rd (r.k,r.s) (by rw[ht];exact .head _)
    refine Al rfl ?_;refine Aa (Ag hs (Ag hs ?_));refine Ai hs λnb w hs=>?_;refine CG (E:=F0) (s:=acc) (a:=(r.k,r.s)) hs rfl rfl rfl rfl (by decide) (by omega) λs2 w hs2 hs=>?_;refine Aa (A4 hs λw hs=>?_);refine next w { r with h:=false } q s2 (evs++[(r.k,r.s)]) wq ⟨λe he=>hi.rd e (by rw[ht];exact .tail _ he),hi.wr,hi.eq,hi.c1,hi.c2,hi.c3⟩ (by rw[ht] at hm;simp only[List.length_cons] at hm;omega) (by simp;omega) ?_ (λe he=>?_) (by exact Ab.fin hs)
    ·rw[List.filter_append];have hin1:r.k=1:=hin.1;have:[(r.k,r.s)].filter (λe:Ev=>decide (e.1≠1))=[]:=by simp[hin1]
     rw[this,List.append_nil];exact hw
    ·rw[List.mem_append,List.mem_singleton] at he;rcases he with h|rfl
     ·exact hsz e h
     ·exact hin.2
   ·have ht:=IN h1;have hin:=hi.wr (q.k,q.s) (by rw[ht];exact .head _)
    have heq:=hi.eq;rw[ht] at heq;refine Al rfl ?_;refine Aa (Ag hs (Ag hs ?_));refine Ai hs λnb w hs=>?_;refine CG (E:=F0) (s:=acc) (a:=(q.k,q.s)) hs rfl rfl rfl rfl (by decide) (by omega) λs2 w hs2 hs=>?_;refine Aa (A4 hs λw hs=>?_);refine next w r { q with h:=false } s2 (evs++[(q.k,q.s)]) ({ q with h:=false }:Dz).evs ⟨hi.rd,λe he=>hi.wr e (by rw[ht];exact .tail _ he),rfl,hi.c1,hi.c2,hi.c3⟩ (by rw[ht] at hm;simp only[List.length_cons] at hm;omega) (by simp;omega) ?_ (λe he=>?_) (by exact Ab.fin hs)
    ·rw[List.filter_append];have hin1:q.k≠1:=hin.1;have:[(q.k,q.s)].filter (λe:Ev=>decide (e.1≠1))=[(q.k,q.s)]:=by simp[hin1]
     rw[this,List.append_assoc,List.singleton_append,heq];exact hw
    ·rw[List.mem_append,List.mem_singleton] at he;rcases he with h|rfl
     ·exact hsz e h
     ·exact hin.2
 have hw0:([]:List Ev).filter (λe=>decide (e.1≠1))++ws=ws:=rfl;rcases hv with⟨hv,h1,h2⟩|⟨hv,h1⟩|⟨hv,h1⟩
 ·exact⟨none,hv,AO _ (loop _ w r.peek q.peek none _ [] ws hi rfl (by simp only[List.length_nil];omega) (.inl ⟨rfl,h1,h2,by rw[CT];exact OH h1,by rw[CT];exact OH h2⟩) hw0 (by simp) hs)⟩
 ·exact⟨some ⟨b,0,none⟩,hv,AO _ (loop _ w r.peek q.peek _ _ [] ws hi rfl (by simp only[List.length_nil];omega) (.inr (.inl ⟨rfl,h1⟩)) hw0 (by simp) hs)⟩
 ·exact⟨some ⟨b,5,none⟩,hv,AO _ (loop _ w r.peek q.peek _ _ [] ws hi rfl (by simp only[List.length_nil];omega) (.inr (.inr ⟨rfl,h1⟩)) hw0 (by simp) hs)⟩
end
end Go.Proofs.YtjipofkjmmpjdaaGreat
namespace Go.Hb
instance {s:Int} {k:BA} {x0:BA} {x1:Int}:L5 (Cq Am.si) [.i s,.s k,.s x0,.i x1] ⟨s,k,(x0,x1)⟩:=⟨rfl⟩
end Go.Hb
namespace Go.Proofs.YtjipofkjmmpjdaaGreat
open Go.Hb Go.IntWalk
section
variable{W w:World}{L M:List HP}{F:HP->List HP}{b:Nat}{seed:Int}{m:List (BA×(BA×Int))}{s:Sl}{ps:List (Pl (BA×Int))}{n1 u1:Int}
theorem Ff{st:BA->Nat}{k:BA}(hst:st=A0 seed ps.length)(hz:k.size<4611686018427387904)(hl:0<ps.length/\ps.length<4611686018427387904)(hstop:∃e,e<ps.length/\Bo ps ((st k+e) % ps.length)=0)
  (hs:Ab W w (blk b [.int .u64 seed,.l s.a s.n s.c,.i n1,.i u1]::recs (Cq Am.si) s ps::M)) :
  Calls PR 158 #[pq b 0,.s k] w λe w'=>e = .returned (.tuple #[.i ((AI st ps k).1:Int),.b (AI st ps k).2])/\Ab W w' (blk b [.int .u64 seed,.l s.a s.n s.c,.i n1,.i u1]::recs (Cq Am.si) s ps::M):=by
 refine c1 (cw ⟨mixed,Tryz.func158,rfl⟩ Aji ?_);have hn:=(Bx (s:=s) hs GL.pos).1;refine Ak [blk b [.int .u64 seed,.l s.a s.n s.c,.i n1,.i u1]] hs λw hs=>?_
 repeat (first|with_reducible refine Aa ?_|((with_reducible refine BY ?_);first|refine Ar ?_|fail)|fail)
 refine An (Gj hs hz) λe w ⟨he,hs⟩=>⟨_,he,?_⟩
 repeat (first|((with_reducible refine Bd ?_);first|refine Af hs ?_|fail)|fail)
 refine An (FT (n:=s.n) hs (FM _ _).1 (by omega) (by omega)) λe w ⟨he,hs⟩=>⟨_,he,?_⟩;have e9:(EF seed k).toNat % s.n=A0 seed ps.length k:=by rw[hn,IW]
 rw[e9];have loop:∀(f:Nat)(free:Option Nat)(i:Nat)(w:World),i<ps.length->(∃e,e<f/\Bo ps ((i+e) % ps.length)=0)->Ab W w (blk b [.int .u64 seed,.l s.a s.n s.c,.i n1,.i u1]::recs (Cq Am.si) s ps::M) ->
   NJ Bg (λv w'=>v = .tuple #[.i ((AD ps k f free i).1:Int),.b (AD ps k f free i).2]/\Ab W w' (blk b [.int .u64 seed,.l s.a s.n s.c,.i n1,.i u1]::recs (Cq Am.si) s ps::M)) f (some ⟨b,0,none⟩) k (Lg free) (i:Int) w:=by
  intro f
  induction f with
  | zero=>intro free i w hi ⟨e,he,_⟩;omega
  | succ f ih=>
   intro free i w hi hstop hs;have hm:(i+1) % ps.length<ps.length:=Nat.mod_lt _ hl.1;have next:Bo ps i≠0->∃e',e'<f/\Bo ps (((i+1) % ps.length+e') % ps.length)=0:=by
    obtain⟨e,he,hz0⟩:=hstop;intro hne;cases e with
    | zero=>rw[Nat.add_zero,Nat.mod_eq_of_lt hi] at hz0;exact absurd hz0 hne
    | succ e=>exact⟨e,by omega,by rw[DC];exact hz0⟩
   have hwr:Int.tmod (IntKind.wrap .i64 ((i:Int)+1)) (s.n:Int)=(((i+1) % ps.length:Nat):Int):=by
    rw[i64_in _ (by omega),hn,Int.tmod_eq_emod_of_nonneg (by omega)];simp
   have j4:∀(free':Option Nat)(w:World),Bo ps i≠0->Ab W w (blk b [.int .u64 seed,.l s.a s.n s.c,.i n1,.i u1]::recs (Cq Am.si) s ps::M)->AD ps k (f+1) free i=AD ps k f free' ((i+1) % ps.length) ->
     Uc Bg (λv w'=>v = .tuple #[.i ((AD ps k (f+1) free i).1:Int),.b (AD ps k (f+1) free i).2]/\Ab W w' (blk b [.int .u64 seed,.l s.a s.n s.c,.i n1,.i u1]::recs (Cq Am.si) s ps::M)) f (some ⟨b,0,none⟩) k (Lg free') (i:Int) w:=by
    intro free' w hne hs he;refine jw Ww ?_;rw[he]
    repeat (first|with_reducible refine Aa ?_|((with_reducible refine A3 ?_);first|refine Ag hs ?_|fail)|((with_reducible refine PH ?_);first|refine KW ?_|fail)|fail)
    rw[hwr];exact ih free' _ w hm (next hne) hs
   rw[Wy];have hcast:((i:Int)).toNat=i:=Int.toNat_natCast i
   repeat (first|with_reducible refine Aa ?_|((with_reducible refine A3 ?_);first|refine Ag hs ?_|refine Cj hs ?_|fail)|((with_reducible refine B0 ?_);first|refine BG hs λb_ o_ hs=>?_|fail)|fail)
   rw[hcast];have ei:(ps.getD i default).is_=Bo ps i:=rfl;have ek:(ps.getD i default).key=Du ps i:=rfl;rw[ei];have j2:∀(t:Bool)(w:World)(b1 o1:Nat),t=decide (Bo ps i=2/\Du ps i=k)->Ab W w (blk b [.int .u64 seed,.l s.a s.n s.c,.i n1,.i u1]::reca (Cq Am.si) b1 o1 s ps::M) ->
     Ua Bg (λv w'=>v = .tuple #[.i ((AD ps k (f+1) free i).1:Int),.b (AD ps k (f+1) free i).2]/\Ab W w' (blk b [.int .u64 seed,.l s.a s.n s.c,.i n1,.i u1]::recs (Cq Am.si) s ps::M)) f (some ⟨b,0,none⟩) k (Lg free) (i:Int) b1 (o1+i*4) t w:=by
    intro t w b1 o1 ht hs;refine jw Wu ?_;rw[ht]
    with_reducible refine Ec (λh1=>?_) (λh1=>?_)
    ·have e1:AD ps k (f+1) free i=(i,true):=by rw[AD,if_pos h1]
     rw[e1];exact⟨rfl,by exact Ab.fin hs⟩
    ·repeat (first|with_reducible refine Aa ?_|((with_reducible refine A3 ?_);first|refine Cj hs ?_|fail)|fail)
     rw[ei];have j3:∀(t:Bool)(w:World),t=decide (Bo ps i=1/\free=none)->Ab W w (blk b [.int .u64 seed,.l s.a s.n s.c,.i n1,.i u1]::reca (Cq Am.si) b1 o1 s ps::M) ->
       Ub Bg (λv w'=>v = .tuple #[.i ((AD ps k (f+1) free i).1:Int),.b (AD ps k (f+1) free i).2]/\Ab W w' (blk b [.int .u64 seed,.l s.a s.n s.c,.i n1,.i u1]::recs (Cq Am.si) s ps::M)) f (some ⟨b,0,none⟩) k (Lg free) (i:Int) b1 (o1+i*4) t w:=by
      intro t w ht hs;refine jw Wv ?_;rw[ht]
      with_reducible refine Ec (λh2=>?_) (λh2=>?_)
      ·exact j4 (some i) w (by rw[h2.1];decide) (by exact Ab.fin hs) (by rw[AD,if_neg h1,if_pos h2])
      ·repeat (first|with_reducible refine Aa ?_|((with_reducible refine A3 ?_);first|refine Cj hs ?_|fail)|fail)
       rw[ei];have j5:∀(t:Bool)(w:World),t=decide (Bo ps i=0/\free=none)->Ab W w (blk b [.int .u64 seed,.l s.a s.n s.c,.i n1,.i u1]::reca (Cq Am.si) b1 o1 s ps::M) ->
         Ud Bg (λv w'=>v = .tuple #[.i ((AD ps k (f+1) free i).1:Int),.b (AD ps k (f+1) free i).2]/\Ab W w' (blk b [.int .u64 seed,.l s.a s.n s.c,.i n1,.i u1]::recs (Cq Am.si) s ps::M)) f (some ⟨b,0,none⟩) k (Lg free) (i:Int) b1 (o1+i*4) t w:=by
        intro t w ht hs;refine jw Wx ?_;rw[ht]
        with_reducible refine Ec (λh3=>?_) (λh3=>?_)
        ·have e1:AD ps k (f+1) free i=(i,false):=by rw[AD,if_neg h1,if_neg h2,if_pos h3.1,h3.2];rfl
         rw[e1];exact⟨rfl,by exact Ab.fin hs⟩
        ·repeat (first|with_reducible refine Aa ?_|((with_reducible refine A3 ?_);first|refine Cj hs ?_|fail)|fail)
         rw[ei]
         with_reducible refine BP (λh4=>?_) (λh4=>?_)
         ·have e1:AD ps k (f+1) free i=(free.getD i,false):=by rw[AD,if_neg h1,if_neg h2,if_pos h4]
          rw[e1];cases free with
          | none=>exact absurd ⟨h4,rfl⟩ h3
          | some j=>exact⟨rfl,by exact Ab.fin hs⟩
         ·exact j4 free w h4 (by exact Ab.fin hs) (by rw[AD,if_neg h1,if_neg h2,if_neg h4])
       with_reducible refine BP (λh3=>?_) (λh3=>?_)
       ·exact j5 _ w (by simp[h3,Gi]) (by exact Ab.fin hs)
       ·exact j5 _ w (by simp[h3]) (by exact Ab.fin hs)
     with_reducible refine BP (λh2=>?_) (λh2=>?_)
     ·exact j3 _ w (by simp[h2,Gi]) (by exact Ab.fin hs)
     ·exact j3 _ w (by simp[h2]) (by exact Ab.fin hs)
   with_reducible refine BP (λh1=>?_) (λh1=>?_)
   ·repeat (first|with_reducible refine Aa ?_|((with_reducible refine A3 ?_);first|refine EH hs ?_|fail)|fail)
    rw[ek];refine j2 _ w _ _ ?_ (by exact Ab.fin hs);rw[Q6];simp[h1]
   ·refine j2 _ w _ _ ?_ (by exact Ab.fin hs);simp[h1]
 subst hst;have hl2:=loop ps.length none (A0 seed ps.length k) w (CA hl.1 k) hstop hs;rw[show Lg none = -1 from rfl] at hl2;unfold AI;refine⟨ps.length,?_⟩;exact hl2
theorem Jp{k:BA}{v:(BA×Int)}{j:Nat}(hj:j<ps.length)(hb:ps.length<4611686018427387904)(hu:u1=(A7 ps:Int))(hn1:0<=n1/\n1<4611686018427387904)(hs:Ab W w (blk b [.int .u64 seed,.l s.a s.n s.c,.i n1,.i u1]::recs (Cq Am.si) s ps::M)) :
  Calls PR 166 #[pq b 0,.i (j:Int),.s k,.agg #[.s (v).1,.i (v).2]] w λe w'=>e = .returned (.tuple #[])/\Ab W w' (blk b [.int .u64 seed,.l s.a s.n s.c,.i (n1+1),.i (A7 (ps.set j ⟨2,k,v⟩):Int)]::recs (Cq Am.si) s (ps.set j ⟨2,k,v⟩)::M):=by
 refine c1 (cw ⟨mixed,Tryz.func166,rfl⟩ Ajq ?_);refine Ai hs λbv w hs=>?_;have hn:=(Bx (s:=s) hs GL.pos).1;have hle:A7 ps<=ps.length:=List.countP_le_length;rw[Bj hj _ (by show(2:Int)≠0;decide)]
 repeat (first|with_reducible refine Aa ?_|((with_reducible refine A3 ?_);first|refine Ag hs ?_|refine Cj hs ?_|fail)|((with_reducible refine B0 ?_);first|refine BG hs λb_ o_ hs=>?_|fail)|fail)
 simp only[Int.toNat_natCast];have ei:(ps.getD j default).is_=Bo ps j:=rfl;rw[ei]
 with_reducible refine BP (λh1=>?_) (λh1=>?_)
 ·repeat (first|with_reducible refine Aa ?_|((with_reducible refine A3 ?_);first|refine Ag hs ?_|fail)|((with_reducible refine Bk ?_);first|refine A4 hs λw hs=>?_|fail)|fail)
  refine jw LQ ?_
  repeat (first|with_reducible refine Aa ?_|((with_reducible refine A3 ?_);first|refine Ag hs ?_|fail)|((with_reducible refine Bk ?_);first|refine A4 hs λw hs=>?_|refine FD hs λw hs=>?_|fail)|((with_reducible refine B0 ?_);first|refine GT hs ?_|fail)|((with_reducible refine BY ?_);first|refine Ar ?_|fail)|((with_reducible refine Bd ?_);first|refine BB hs ?_|fail)|((with_reducible refine DN ?_);first|refine AF hs λw hs=>?_|fail)|fail)
  rw[i64_in (n1+1) (by omega),hu,i64_in _ (by omega)] at hs;simp only[Int.toNat_natCast] at hs;rw[if_pos h1];exact⟨rfl,by exact Ab.fin hs⟩
 ·refine jw LQ ?_
  repeat (first|with_reducible refine Aa ?_|((with_reducible refine A3 ?_);first|refine Ag hs ?_|fail)|((with_reducible refine Bk ?_);first|refine A4 hs λw hs=>?_|refine FD hs λw hs=>?_|fail)|((with_reducible refine B0 ?_);first|refine GT hs ?_|fail)|((with_reducible refine BY ?_);first|refine Ar ?_|fail)|((with_reducible refine Bd ?_);first|refine BB hs ?_|fail)|((with_reducible refine DN ?_);first|refine AF hs λw hs=>?_|fail)|fail)
  rw[i64_in (n1+1) (by omega),hu] at hs;simp only[Int.toNat_natCast] at hs;rw[if_neg h1,Nat.add_zero];exact⟨rfl,by exact Ab.fin hs⟩
theorem QL{st:BA->Nat}(hi:BU st ps m)(hkz:∀e∈m,e.1.size<4611686018427387904)(hm:m.length<1000000000)(hs:Ab W w (blk b [.int .u64 seed,.l s.a s.n s.c,.i (m.length:Int),.i u1]::recs (Cq Am.si) s ps::M)) :
  Calls PR 167 #[pq b 0] w λe w'=>e = .returned (.tuple #[])/\Ab W w' (ixr Am.si b seed m::M):=by
 refine c1 (cw ⟨mixed,Tryz.func167,rfl⟩ Ajr ?_);have hn:=(Bx (s:=s) hs GL.pos).1;have hsmall:=hi.small;obtain⟨N,hN⟩:∃N:Nat,N=max 8 (4*(m.length+1)):=⟨_,rfl⟩;have e1:(if (IntKind.wrap .i64 ((4:Int)*(IntKind.wrap .i64 ((m.length:Int)+(1:Int)))))>(8:Int) then (IntKind.wrap .i64 ((4:Int)*(IntKind.wrap .i64 ((m.length:Int)+(1:Int))))) else (8:Int))=(N:Int):=by
  rw[i64_in ((m.length:Int)+1) (by omega),i64_in _ (by omega)];split <;> omega
 repeat (first|with_reducible refine Aa ?_|((with_reducible refine A3 ?_);first|refine Ag hs ?_|fail)|fail)
 rw[e1];refine Ee (sz:=4) hs rfl (by omega) (by omega) (by omega) (by omega) λs2 w hn2 _ _ hs=>?_;rw[Int.toNat_natCast] at hs hn2;have hs:Ab W w (recs (Cq Am.si) s2 (List.replicate N ⟨0,Ae,((Ae,0):BA×Int)⟩)::blk b [.int .u64 seed,.l s.a s.n s.c,.i (m.length:Int),.i u1]::recs (Cq Am.si) s ps::M):=by
  have e:=DE (Cq Am.si) ⟨0,Ae,((Ae,0):BA×Int)⟩ N;unfold recs;rw[<- e];exact hs
 repeat (first|with_reducible refine Aa ?_|((with_reducible refine Bk ?_);first|refine A4 hs λw hs=>?_|fail)|fail)
 have hinv:=BU.new (st:=A0 seed N) (n:=N) (z:=(⟨0,Ae,((Ae,0):BA×Int)⟩:Pl (BA×Int))) rfl (by omega) (by omega) (CA (by omega));have hdist:(AQ ps).map (·.1) |>.Nodup:=(hi.perm.map (·.1)).nodup_iff.2 hi.nodup
 have hlen:(AQ ps).length=m.length:=hi.perm.length_eq;have loop:∀(f i:Nat)(w:World)(ps2:List (Pl (BA×Int)))(mi:List (BA×(BA×Int))),i+f=ps.length->ps2.length=N->BU (A0 seed N) ps2 mi->mi.Perm (AQ (ps.take i))->A7 ps2<=mi.length ->
   Ab W w (blk b [.int .u64 seed,.l s2.a s2.n s2.c,.i (mi.length:Int),.i (A7 ps2:Int)]::recs (Cq Am.si) s2 ps2::recs (Cq Am.si) s ps::M) ->
   Kd Bg (λv w'=>v = .tuple #[]/\Ab W w' (ixr Am.si b seed m::M)) (f+1) (some ⟨b,0,none⟩) s (s.n:Int) (i:Int) w:=by
  intro f
  induction f with
  | zero=>
   intro i w ps2 mi hif hpl hiv hp hu hs;rw[LR];refine Ac (decide_eq_false (by omega)) ⟨rfl,?_⟩;rw[List.take_of_length_le (by omega)] at hp;have hpm:=hp.trans hi.perm;refine AW s2 (ps:=ps2) (n:=(mi.length:Int)) ?_ ?_ (by rw[hpm.length_eq]) rfl (by exact Ab.fin hs)
   ·rw[hpl];exact hiv.perm' hpm
   ·rw[hpl];have:=hpm.length_eq;omega
  | succ f ih=>
   intro i w ps2 mi hif hpl hiv hp hu hs;rw[LR];refine Al (decide_eq_true (by omega)) ?_
   repeat (first|((with_reducible refine A3 ?_);first|refine Ag hs ?_|refine Cj hs ?_|refine EH hs ?_|refine M5 hs ?_|refine Ym hs ?_|fail)|((with_reducible refine Bk ?_);first|refine A4 hs λw hs=>?_|fail)|((with_reducible refine B0 ?_);first|refine BG hs λb_ o_ hs=>?_|fail)|((with_reducible refine CC ?_);first|refine Ai hs λb_ w hs=>?_|fail)|fail)
   simp only[Int.toNat_natCast] at hs ⊢;have hil:i<ps.length:=by omega
   have hft:AQ (ps.take (i+1))=AQ (ps.take i)++Em (ps.getD i default):=by
    rw[Cc hil,Bz];simp[AQ]
   with_reducible refine BP (λh1=>?_) (λh1=>?_)
   ·have hop:Em (ps.getD i default)=[((ps.getD i default).key,(ps.getD i default).v)]:=Fk h1;rw[hop] at hft;have hsub:(AQ (ps.take (i+1))).Sublist (AQ ps):=by
     conv=>rhs;rw[<- List.take_append_drop (i+1) ps,Bz]
     exact List.sublist_append_left _ _
    have hmem:((ps.getD i default).key,(ps.getD i default).v)∈m:=hi.perm.subset (hsub.subset (by rw[hft];simp));have hnd:=hdist.sublist (hsub.map (·.1));rw[hft,List.map_append] at hnd;have hno:AC mi (ps.getD i default).key=none:=by
     rw[Br];intro e he hk;rw[List.nodup_append] at hnd;exact hnd.2.2 _ (List.mem_map_of_mem (f:=(·.1)) (hp.subset he)) _ (by simp) hk
    have hlt:mi.length+1<=m.length:=by
     have:=hsub.length_le;rw[hft,List.length_append,<- hp.length_eq] at this;simp only[List.length_cons,List.length_nil] at this;omega
    repeat (first|((with_reducible refine A3 ?_);first|refine Ag hs ?_|fail)|fail)
    have hs:Ab W w (blk b [.int .u64 seed,.l s2.a s2.n s2.c,.i (mi.length:Int),.i (A7 ps2:Int)]::recs (Cq Am.si) s2 ps2::blk b_ [.i (ps.getD i default).is_,.s (ps.getD i default).key,.s (ps.getD i default).v.1,.i (ps.getD i default).v.2]::recs (Cq Am.si) s ps::M):=by exact Ab.fin hs
    refine AG (Ff (st:=A0 seed N) (by rw[hpl]) (hkz _ hmem) (by omega) (hiv.stop _) hs) λe w ⟨he,hs⟩=>⟨_,_,he,?_⟩;have hfm:(AI (A0 seed N) ps2 (ps.getD i default).key).2=false:=by
     cases hb:(AI (A0 seed N) ps2 (ps.getD i default).key).2 with
     | false=>rfl
     | true=>have:=(hiv.hit hb).2.2;rw[hno] at this;cases this
    obtain⟨hj,hj2,_,hjr⟩:=hiv.miss hfm
    repeat (first|((with_reducible refine A3 ?_);first|refine Ag hs ?_|fail)|fail)
    refine As (Jp (v:=(ps.getD i default).v) hj (by omega) rfl (by omega) hs) λe w ⟨he,hs⟩=>⟨he,?_⟩;rw[i64_in _ (by omega)];have hus:=Bj hj (⟨2,(ps.getD i default).key,(ps.getD i default).v⟩:Pl (BA×Int)) (by show(2:Int)≠0;decide)
    have hus2:A7 (ps2.set (AI (A0 seed N) ps2 (ps.getD i default).key).1 ⟨2,(ps.getD i default).key,(ps.getD i default).v⟩)<=A7 ps2+1:=by rw[hus];split <;> omega
    refine ih (i+1) w _ (((ps.getD i default).key,(ps.getD i default).v)::mi) (by omega) (by rw[List.length_set];exact hpl) (hiv.add hj hj2 hno hjr (by omega)) ?_ (by simp only[List.length_cons];omega) ?_
    ·rw[hft];exact((List.Perm.cons _ hp).trans (List.perm_append_comm (l₁:=[_])))
    ·simp only[List.length_cons,Int.natCast_add];exact Ab.fin hs
   ·have hop:Em (ps.getD i default)=[]:=He h1;rw[hop,List.append_nil] at hft;rw[i64_in _ (by omega)];exact ih (i+1) w ps2 mi (by omega) hpl hiv (by rw[hft];exact hp) hu (by exact Ab.fin hs)
 refine⟨ps.length+1,?_⟩;refine loop ps.length 0 w (List.replicate N ⟨0,Ae,((Ae,0):BA×Int)⟩) [] (by omega) (by simp) hinv (by simp[AQ]) ?_ ?_
 ·have:A7 (List.replicate N (⟨0,Ae,((Ae,0):BA×Int)⟩:Pl (BA×Int)))=0:=by
   unfold A7;rw[List.countP_eq_zero];intro a ha;rw[List.eq_of_mem_replicate ha];simp
  rw[this];exact Nat.zero_le _
 ·have:A7 (List.replicate N (⟨0,Ae,((Ae,0):BA×Int)⟩:Pl (BA×Int)))=0:=by
   unfold A7;rw[List.countP_eq_zero];intro a ha;rw[List.eq_of_mem_replicate ha];simp
  rw[this];exact Ab.fin hs
end
section
variable{W w:World}{L M:List HP}{F:HP->List HP}{b:Nat}{seed:Int}{m:List (BA×(BA×Int))}{k:BA}
theorem Ahe(hs:Ab W w L):Calls PR 114 #[.int .u64 seed] w λe w'=>∃b,e = .returned (pq b 0)/\Ab W w' (ixr Am.si b seed []::L):=by
 refine(cw ⟨mixed,Tryz.func114,rfl⟩ Aih (Q:=λv w'=>∃b,v=pq b 0/\Ab W w' (ixr Am.si b seed []::L)) ?_).mono λe w' ⟨v,he,b,hv,hs⟩=>⟨b,by rw[he,hv],hs⟩;refine Ee (sz:=4) hs rfl (by omega) (by omega) (by omega) (by omega) λs2 w hn2 _ _ hs=>?_;have hs:Ab W w (recs (Cq Am.si) s2 (List.replicate 8 ⟨0,Ae,((Ae,0):BA×Int)⟩)::L):=hs
 repeat (first|((with_reducible refine CC ?_);first|refine Ai hs λb_ w hs=>?_|fail)|fail)
 refine⟨_,rfl,AW s2 (ps:=List.replicate 8 ⟨0,Ae,((Ae,0):BA×Int)⟩) (n:=0) (u:=0) (BU.new (n:=8) rfl (by omega) (by omega) (CA (by simp))) (by decide +revert) rfl rfl (by exact Ab.fin hs)⟩
theorem Ja(h:Ab W w L)[hA:At L b (ixr Am.si b seed m) F](hz:k.size<4611686018427387904):Calls PR 120 #[pq b 0,.s k] w λe w'=>e = .returned (.tuple #[.agg #[.s ((AC m k).getD ((Ae,0):BA×Int)).1,.i ((AC m k).getD ((Ae,0):BA×Int)).2],.b (AC m k).isSome])/\Ab W w' (F (ixr Am.si b seed m)):=by
 refine At.call1 (hA:=hA) h λM hs=>?_;clear h hA;refine c1 (cw ⟨mixed,Tryz.func120,rfl⟩ Ain ?_);refine Ai hs λbz w hs=>?_;have hs:Ab W w (ixr Am.si b seed m::blk bz [.s Ae,.i (0:Int)]::M):=by exact Ab.fin hs
 refine Al rfl ?_;obtain⟨s,ps,hi,h2,hn,hs⟩:=Cx hs;have hsm:=hi.small;have hbg:=hi.big;refine AG (Ff (st:=A0 seed ps.length) rfl hz (by omega) (hi.stop _) hs) λe w ⟨he,hs⟩=>⟨_,_,he,?_⟩;refine Ao (λhb=>?_) (λhb=>?_)
 ·obtain⟨hj,_,hg⟩:=hi.hit hb;rw[hg]
  repeat (first|with_reducible refine Aa ?_|((with_reducible refine A3 ?_);first|refine Ag hs ?_|refine EH hs ?_|refine M5 hs ?_|fail)|((with_reducible refine Bk ?_);first|refine A4 hs λw hs=>?_|fail)|((with_reducible refine B0 ?_);first|refine BG hs λb_ o_ hs=>?_|fail)|fail)
  simp only[Int.toNat_natCast];exact⟨rfl,AW s hi h2 rfl rfl (by exact Ab.fin hs)⟩
 ·rw[(hi.miss hb).2.2.1];refine jw Wg ?_
  repeat (first|((with_reducible refine A3 ?_);first|refine Ag hs ?_|fail)|((with_reducible refine Bk ?_);first|refine A4 hs λw hs=>?_|fail)|((with_reducible refine CC ?_);first|refine Ai hs λb_ w hs=>?_|fail)|fail)
  exact⟨rfl,AW s hi h2 rfl rfl (by exact Ab.fin hs)⟩
theorem Ahd(h:Ab W w L)[hA:At L b (ixr Am.si b seed m) F]:Calls PR 70 #[pq b 0] w λe w'=>e = .returned (.i (m.length:Int))/\Ab W w' (F (ixr Am.si b seed m)):=by
 refine At.call1 (hA:=hA) h λM hs=>?_;clear h hA;refine c1 (cw ⟨mixed,Tryz.func70,rfl⟩ Auu ?_);refine Ac rfl ?_;obtain⟨s,ps,hi,h2,hn,hs⟩:=Cx hs
 repeat (first|with_reducible refine Aa ?_|((with_reducible refine A3 ?_);first|refine Ag hs ?_|fail)|fail)
 exact⟨rfl,AW s hi h2 rfl rfl hs⟩
theorem Ahf(h:Ab W w L)[hA:At L b (ixr Am.si b seed m) F]{v:(BA×Int)}(hz:k.size<4611686018427387904)(hkz:∀e∈m,e.1.size<4611686018427387904)(hm:m.length<900000000):Calls PR 127 #[pq b 0,.s k,.agg #[.s (v).1,.i (v).2]] w λe w'=>e = .returned (.b (AC m k).isNone)/\Ab W w' (F (ixr Am.si b seed (Ci m k v))):=by
 refine At.call1 (hA:=hA) h λM hs=>?_;clear h hA;refine c1 (cw ⟨mixed,Tryz.func127,rfl⟩ Ait ?_);refine Ai hs λbv w hs=>?_;have hs:Ab W w (ixr Am.si b seed m::blk bv [.s v.1,.i v.2]::M):=by exact Ab.fin hs
 refine Ac rfl ?_;obtain⟨s,ps,hi,h2,hn,hs⟩:=Cx hs;have hsm:=hi.small;have hbg:=hi.big;refine AG (Ff (st:=A0 seed ps.length) rfl hz (by omega) (hi.stop _) hs) λe w ⟨he,hs⟩=>⟨_,_,he,?_⟩;refine Ao (λhb=>?_) (λhb=>?_)
 ·obtain⟨hj,hit,hg⟩:=hi.hit hb;have hp:Ci m k v=E4 m k v:=by unfold Ci;rw[hg]
  rw[hg,hp]
  repeat (first|with_reducible refine Aa ?_|((with_reducible refine A3 ?_);first|refine Ag hs ?_|fail)|((with_reducible refine B0 ?_);first|refine BG hs λb_ o_ hs=>?_|fail)|((with_reducible refine BY ?_);first|refine Ar ?_|fail)|((with_reducible refine Bd ?_);first|refine BB hs ?_|fail)|((with_reducible refine DN ?_);first|refine AF hs λw hs=>?_|fail)|fail)
  simp only[Int.toNat_natCast];refine V3 (vs:=[.s v.1,.i v.2]) (pre:=[.i (ps.getD (AI (A0 seed ps.length) ps k).1 default).is_,.s (ps.getD (AI (A0 seed ps.length) ps k).1 default).key]) (mid:=[.s (ps.getD (AI (A0 seed ps.length) ps k).1 default).v.1,.i (ps.getD (AI (A0 seed ps.length) ps k).1 default).v.2]) (tl:=[]) (a':={ ps.getD (AI (A0 seed ps.length) ps k).1 default with v:=v }) (i:=(AI (A0 seed ps.length) ps k).1) (j:=2) (n:=4) hs rfl hj rfl rfl rfl rfl λw hs=>?_;have hset:=hi.set (v:=v) hj hit;have hus:A7 (ps.set (AI (A0 seed ps.length) ps k).1 { ps.getD (AI (A0 seed ps.length) ps k).1 default with v:=v })=A7 ps:=by
   rw[Bj hj _ (by show Bo ps _≠0;rw[hit.1];decide),if_neg (by rw[hit.1];decide)];rfl
  refine⟨rfl,AW s (n:=(m.length:Int)) (u:=(A7 ps:Int)) (by rw[List.length_set];exact hset) (by rw[hus,List.length_set];exact h2) (by simp[E4]) (by rw[hus]) (by exact Ab.fin hs)⟩
 ·obtain⟨hj,hj2,hg,hr⟩:=hi.miss hb;have hp:Ci m k v=(k,v)::m:=by unfold Ci;rw[hg]
  rw[hg,hp]
  repeat (first|((with_reducible refine A3 ?_);first|refine Ag hs ?_|fail)|fail)
  refine As (Jp (v:=v) hj (by omega) rfl (by omega) hs) λe w ⟨he,hs⟩=>⟨he,?_⟩;have hus:=Bj hj (⟨2,k,v⟩:Pl (BA×Int)) (by show(2:Int)≠0;decide)
  have hus2:A7 (ps.set (AI (A0 seed ps.length) ps k).1 ⟨2,k,v⟩)<=A7 ps+1:=by rw[hus];split <;> omega
  have hadd:=hi.add (v:=v) hj hj2 hg hr (by omega);have hsl:(ps.set (AI (A0 seed ps.length) ps k).1 ⟨2,k,v⟩).length=ps.length:=by simp
  generalize hps2:ps.set (AI (A0 seed ps.length) ps k).1 ⟨2,k,v⟩=ps2 at hs hus2 hadd hsl
  repeat (first|with_reducible refine Aa ?_|((with_reducible refine A3 ?_);first|refine Ag hs ?_|fail)|((with_reducible refine BY ?_);first|refine Ar ?_|fail)|((with_reducible refine Bd ?_);first|refine BB hs ?_|fail)|((with_reducible refine DN ?_);first|refine AF hs λw hs=>?_|fail)|fail)
  rw[i64_in _ (by omega),hn]
  with_reducible refine Dg (λh9=>?_) (λh9=>?_)
  ·have hkz2:∀e∈(k,v)::m,e.1.size<4611686018427387904:=by
    intro e he;rcases List.mem_cons.1 he with rfl|he
    ·exact hz
    ·exact hkz e he
   have hs2:Ab W w (blk b [.int .u64 seed,.l s.a s.n s.c,.i (((k,v)::m).length:Int),.i (A7 ps2:Int)]::recs (Cq Am.si) s ps2::M):=by
    simp only[List.length_cons,Int.natCast_add];exact Ab.fin hs
   refine As (QL hadd hkz2 (by simp;omega) hs2) λe w ⟨he,hs⟩=>⟨he,?_⟩;exact⟨rfl,hs⟩
  ·exact⟨rfl,AW s (n:=(m.length:Int)+1) (by rw[hsl];exact hadd) (by omega) (by simp) rfl (by exact Ab.fin hs)⟩
theorem V6(h:Ab W w L)[hA:At L b (ixr Am.si b seed m) F](hz:k.size<4611686018427387904)(hm:m.length<900000000):Calls PR 136 #[pq b 0,.s k] w λe w'=>e = .returned (.tuple #[.agg #[.s ((AC m k).getD ((Ae,0):BA×Int)).1,.i ((AC m k).getD ((Ae,0):BA×Int)).2],.b (AC m k).isSome])/\Ab W w' (F (ixr Am.si b seed (BJ m k))):=by
 refine At.call1 (hA:=hA) h λM hs=>?_;clear h hA;refine c1 (cw ⟨mixed,Tryz.func136,rfl⟩ Ai0 ?_);refine Ai hs λb1 w hs=>?_;refine(Ja hs hz).mono λe w ⟨he,hs⟩=>⟨_,_,_,he,?_⟩
 repeat (first|((with_reducible refine Bk ?_);first|refine A4 hs λw hs=>?_|fail)|((with_reducible refine CC ?_);first|refine Ai hs λb_ w hs=>?_|fail)|fail)
 have hs:Ab W w (ixr Am.si b seed m::blk b_ [.s ((AC m k).getD ((Ae,0):BA×Int)).1,.i ((AC m k).getD ((Ae,0):BA×Int)).2]::blk b1 [.s Ae,.i (0:Int)]::M):=by exact Ab.fin hs
 refine Kv (λv hg=>?_) (λhg=>?_)
 ·obtain⟨s,ps,hi,h2,hn,hs⟩:=Cx hs;have hsm:=hi.small;have hbg:=hi.big;refine AG (Ff (st:=A0 seed ps.length) rfl hz (by omega) (hi.stop _) hs) λe w ⟨he,hs⟩=>⟨_,_,he,?_⟩;have hb:(AI (A0 seed ps.length) ps k).2=true:=by
   cases hb:(AI (A0 seed ps.length) ps k).2 with
   | true=>rfl
   | false=>have:=(hi.miss hb).2.2.1;rw[hg] at this;cases this
  obtain⟨hj,hit,_⟩:=hi.hit hb
  repeat (first|with_reducible refine Aa ?_|((with_reducible refine A3 ?_);first|refine Ag hs ?_|fail)|((with_reducible refine Bk ?_);first|refine A4 hs λw hs=>?_|refine FD hs λw hs=>?_|fail)|((with_reducible refine B0 ?_);first|refine BG hs λb_ o_ hs=>?_|fail)|fail)
  rw[i64_in _ (by omega)] at hs;simp only[Int.toNat_natCast] at hs;have hdel:=hi.del (z:=(⟨1,Ae,((Ae,0):BA×Int)⟩:Pl (BA×Int))) hj hit rfl;have hus:A7 (ps.set (AI (A0 seed ps.length) ps k).1 (⟨1,Ae,((Ae,0):BA×Int)⟩:Pl (BA×Int)))=A7 ps:=by
   rw[Bj hj _ (by show(1:Int)≠0;decide),if_neg (by rw[hit.1];decide)];rfl
  have hl:=K7 hi.nodup hg;refine⟨by trivial,AW s (n:=(m.length:Int)-1) (u:=(A7 ps:Int)) (by rw[List.length_set];exact hdel) (by rw[hus,List.length_set];exact h2) (by omega) (by rw[hus]) (by exact Ab.fin hs)⟩
 ·have:BJ m k=m:=by
   unfold BJ;rw[List.filter_eq_self];intro e he;simpa using Br.1 hg e he
  rw[this]
  repeat (first|((with_reducible refine A3 ?_);first|refine Ag hs ?_|fail)|((with_reducible refine Bk ?_);first|refine A4 hs λw hs=>?_|fail)|fail)
  exact⟨by trivial,by exact Ab.fin hs⟩
theorem Abi(h:Ab W w L)[hA:At L b (ixr Am.si b seed m) F](hm:m.length<900000000):Calls PR 71 #[pq b 0] w λe w'=>∃l:Sl,e = .returned (.l l.a l.n l.c)/\Ab W w' (recs Am.str l (E8 (m.map (·.1)))::F (ixr Am.si b seed m)):=by
 refine At.oneX (hA:=hA) h λM hs hb=>?_;refine(cw ⟨mixed,Tryz.func71,rfl⟩ Auv (Q:=λv w'=>∃l:Sl,v = .l l.a l.n l.c/\Ab W w' (ixr Am.si b seed m::recs Am.str l (E8 (m.map (·.1)))::M)) ?_).mono λe w' ⟨v,he,l,hv,hs⟩=>⟨l,by rw[he,hv],?_⟩
 ·skip;refine Ac rfl ?_;obtain⟨s,ps,hi,h2,hn,hs⟩:=Cx hs;have hsm:=hi.small;have hfl:(AQ ps).length=m.length:=hi.perm.length_eq
  repeat (first|with_reducible refine Aa ?_|((with_reducible refine A3 ?_);first|refine Ag hs ?_|fail)|fail)
  have hs:=Ab.nilR Am.str hs;have loop:∀(f i:Nat)(w:World)(acc:Sl),i+f=ps.length->Ab W w (recs Am.str acc ((AQ (ps.take i)).map (·.1))::blk b [.int .u64 seed,.l s.a s.n s.c,.i (m.length:Int),.i (A7 ps:Int)]::recs (Cq Am.si) s ps::M) ->
    Pp Bg (λv w'=>∃l:Sl,v = .l l.a l.n l.c/\Ab W w' (ixr Am.si b seed m::recs Am.str l (E8 (m.map (·.1)))::M)) (f+1) acc s (s.n:Int) (i:Int) w:=by
   intro f
   induction f with
   | zero=>
    intro i w acc hif hs;rw[Pq];refine Ac (decide_eq_false (by omega)) ?_;refine jw ZL ?_;rw[List.take_of_length_le (by omega)] at hs;refine As (Awx (s:=acc) hs (by simp;omega)) λe w ⟨he,hs⟩=>⟨he,acc,rfl,?_⟩
    have e1:E8 ((AQ ps).map (·.1))=E8 (m.map (·.1)):=
     FS (HM _) (HM _) ((JG _).trans ((hi.perm.map _).trans (JG _).symm))
    rw[e1] at hs;exact AW s hi h2 rfl rfl (by exact Ab.fin hs)
   | succ f ih=>
    intro i w acc hif hs;have hil:i<ps.length:=by omega
    have hft:AQ (ps.take (i+1))=AQ (ps.take i)++Em (ps.getD i default):=by
     rw[Cc hil,Bz];simp[AQ]
    have hle:(AQ (ps.take i)).length<=m.length:=by
     rw[<- hfl]
     conv=>rhs;rw[<- List.take_append_drop i ps,Bz]
     simp
    rw[Pq];refine Al (decide_eq_true (by omega)) ?_
    repeat (first|((with_reducible refine A3 ?_);first|refine Ag hs ?_|refine Cj hs ?_|refine EH hs ?_|refine M5 hs ?_|refine Ym hs ?_|fail)|((with_reducible refine Bk ?_);first|refine A4 hs λw hs=>?_|fail)|((with_reducible refine B0 ?_);first|refine BG hs λb_ o_ hs=>?_|fail)|((with_reducible refine CC ?_);first|refine Ai hs λb_ w hs=>?_|fail)|fail)
    simp only[Int.toNat_natCast] at hs ⊢
    with_reducible refine BP (λh1=>?_) (λh1=>?_)
    ·have hop:Em (ps.getD i default)=[((ps.getD i default).key,(ps.getD i default).v)]:=Fk h1;rw[hop] at hft
     repeat (first|((with_reducible refine A3 ?_);first|refine Ag hs ?_|fail)|((with_reducible refine CC ?_);first|refine Ai hs λb_ w hs=>?_|fail)|fail)
     refine CG (s:=acc) (a:=(ps.getD i default).key) hs rfl rfl rfl rfl (by decide) (by simp;omega) λs4 w hs4 hs=>?_;rw[i64_in _ (by omega)];refine ih (i+1) w s4 (by omega) ?_;rw[hft,List.map_append];exact Ab.fin hs
    ·have hop:Em (ps.getD i default)=[]:=He h1;rw[hop,List.append_nil] at hft;rw[i64_in _ (by omega)];refine ih (i+1) w acc (by omega) ?_;rw[hft];exact Ab.fin hs
  refine⟨ps.length+1,?_⟩;exact loop ps.length 0 w ⟨none,0,0⟩ (by omega) hs
 ·exact hb _ _ [recs Am.str l (E8 (m.map (·.1)))] hs
end
end Go.Proofs.YtjipofkjmmpjdaaGreat
namespace Go.Hb
theorem Qy{α:Type}(E:Am α)(P:α->Prop){ks:List CK}(hks:∀x,DL ks x->∃a,x=E.cells a/\P a):∀{rows:List (List Value)},(∀x∈rows,DL ks x) ->
  ∃l:List α,rows.flatten=E.flat l/\l.length=rows.length/\∀a∈l,P a
 | [],_=>⟨[],rfl,rfl,λ_ h=>by cases h⟩
 | x::rows,h=>by
  obtain⟨l,h1,h2,h3⟩:=Qy E P hks (rows:=rows) λy hy=>h y (.tail _ hy);obtain⟨a,rfl,ha⟩:=hks x (h x (.head _));refine⟨a::l,?_,by simp[h2],λb hb=>?_⟩
  ·rw[List.flatten_cons,h1];rfl
  ·cases hb with
   | head=>exact ha
   | tail _ hb=>exact h3 b hb
def okK(k:IntKind)(n:Int):Prop:=(Lit.int k n).wf=true
def Axs(s:BA):Prop:=s.size<=reachBytes
theorem A2f{k:IntKind}(x:List Value)(h:DL [.int k] x):∃a,x=(Am.int k).cells a/\okK k a:=by
 match x,h with
 | [v],⟨⟨s,hv,hw⟩,_⟩=>subst hv;exact⟨s,rfl,hw⟩
theorem arg_rec{α:Type}{W:World}{s:Sl}{ks:List CK}{rows:List (List Value)}(E:Am α)(P:α->Prop)(hks:∀x,DL ks x->∃a,x=E.cells a/\P a)(hpos:0<E.sz)(hsz:E.sz=ks.length)
  (hr:Abm W ks.length s rows.flatten) (ho:∀x∈rows,DL ks x):∃l:List α,Dc W s E l/\l.length=rows.length/\∀a∈l,P a:=by
 obtain⟨l,h1,h2,h3⟩:=Qy E P hks ho;refine⟨l,Dc.of hpos ?_,h2,h3⟩;rw[<- h1,hsz];exact hr
def Axm(P:Program)(t:TypeId):Bool:=match P.underlying t with
 | some (.struct _)=>true
 | _=>false
theorem Ab.keptO{W w:World}{L:List HP}[hA:AtO L W](h:Ab W w L):HW W w:=by
 obtain⟨M,h1⟩:=hA.pos;exact(h.perm h1).kept (q:=0) rfl
theorem Az6{P:Program}{f:FuncId}{args:Array Value}{W:World}{v0:Value}(h:Calls P f args W λe w'=>∃v,e = .returned v/\(v=v0/\Ab W w' [old W])):Calls P f args W λe w'=>e = .returned v0/\HW W w':=
 h.mono λ_ _ ⟨_,he,hv,hs⟩=>⟨by rw[he,hv],hs.keptO⟩
end Go.Hb
namespace Go.Hb
def okB(c:Int):Prop:=(97<=c/\c<=122)\/(65<=c/\c<=90)\/(48<=c/\c<=57)\/c=95\/c=45\/c=46\/c=47\/c=58
instance {c:Int}:Decidable (okB c):=by unfold okB;infer_instance
def Fg(s:BA):Bool:=decide (1<=s.size/\s.size<=24/\∀j,j<s.size->okB (AV s j))
theorem D6{s:BA}(h:Fg s=true):s.size<=24:=(of_decide_eq_true h).2.1
abbrev TT:=List (BA×(BA×Int))
structure L7(r:TT):Prop where
 rise:BR r
 small:∀e∈r,e.1.size<4611686018427387904
 ends:∀e∈r,0<=e.2.2
def MN(e now:Int):Bool:=decide (e≠0/\e<=now)
def FW(r:TT)(k:BA)(now:Int):BA×Bool:=match AC r k with
 | some v=>if MN v.2 now then (⟨#[]⟩,false) else (v.1,true)
 | none=>(⟨#[]⟩,false)
def Cv(r:TT)(now:Int):List BA:=(r.filter λe=>MN e.2.2 now).map (·.1)
def Fx(k v:BA)(now life:Int):Int:=if Fg k=false then 2 else if 64<(v.size:Int) then 3 else if now<0\/1125899906842624<now\/life<0\/1099511627776<life then 1 else 0
def Hm(now life:Int):Int:=if 0<life then now+life else 0
def Hn(r:TT)(k v:BA)(now life:Int):TT:=if Fx k v now life=0 then Hg r k (v,Hm now life) else r
def L3(r:TT)(k v:BA)(now life:Int):Bool:=decide (Fx k v now life=0) && (AC r k).isNone
theorem KR{k v:BA}{now life:Int}(h:Fx k v now life=0):Fg k=true/\(v.size:Int)<=64/\0<=now/\now<=1125899906842624/\0<=life/\life<=1099511627776:=by
 unfold Fx at h;split at h
 ·omega
 ·rename_i h1;split at h
  ·omega
  ·split at h
   ·omega
   ·exact⟨by simpa using h1,by omega,by omega,by omega,by omega,by omega⟩
theorem Qs{r:TT}{k:BA}{v:BA×Int}{e:BA×(BA×Int)}(hr:BR r)(h:e∈Hg r k v):e∈r\/e=(k,v):=by
 have h2:=(IQ (v:=v) hr).mem_iff.1 h;unfold Ci at h2;split at h2
 ·unfold E4 at h2;obtain⟨a,ha,h3⟩:=List.mem_map.1 h2;split at h3
  ·exact .inr h3.symm
  ·exact .inl (h3 ▸ ha)
 ·rcases List.mem_cons.1 h2 with h3|h3
  ·exact .inr h3
  ·exact .inl h3
theorem L7.put{r:TT}(h:L7 r)(k v:BA)(now life:Int):L7 (Hn r k v now life):=by
 unfold Hn;split
 ·rename_i he;obtain⟨h1,h2,h3,h4,h5,h6⟩:=KR he;have hk:=D6 h1;have hend:0<=Hm now life:=by unfold Hm;split <;> omega
  refine⟨IR h.rise,λe he=>?_,λe he=>?_⟩
  ·rcases Qs h.rise he with he|rfl
   ·exact h.small e he
   ·simp only;omega
  ·rcases Qs h.rise he with he|rfl
   ·exact h.ends e he
   ·exact hend
 ·exact h
theorem L7.del{r:TT}(h:L7 r)(k:BA):L7 (Eo r k):=by
 refine⟨L0 h.rise,λe he=>?_,λe he=>?_⟩
 ·rw[Fc h.rise] at he;exact h.small e (List.mem_filter.1 he).1
 ·rw[Fc h.rise] at he;exact h.ends e (List.mem_filter.1 he).1
theorem KF{r:TT}(h:L7 r)(k:BA):(Eo r k).length<=r.length:=by rw[Fc h.rise];exact Av7 _ _
theorem Aa6{r:TT}(h:BR r):E8 (r.map (·.1))=r.map (·.1):=Apd (List.Perm.refl _) h
def tabR(b:Nat)(r:TT):HP:=JM λ(xb:Nat)=>EA (L7 r) (AJ [blk b [pq xb 0],ixr Am.si xb 0 r])
section
variable{b:Nat}{m r:TT}{W w:World}{M L:List HP}
instance At.tabR:At (tabR b r::L) b (tabR b r) (λx=>x::L):=⟨DU⟩
theorem Fm(h:Ab W w (tabR b r::M)):∃xb,L7 r/\Ab W w (blk b [pq xb 0]::ixr Am.si xb 0 r::M):=by
 obtain⟨xb,h⟩:=h.openE;obtain⟨hi,h⟩:=h.openA;exact⟨xb,hi,h.openL⟩
theorem DD{xb:Nat}(hi:L7 r)(h:Ab W w (blk b [pq xb 0]::ixr Am.si xb 0 r::M)):Ab W w (tabR b r::M):=Ab.shutE xb (Ab.shutA hi (Ab.shutL (Ps:=[_,_]) h))
end
end Go.Hb
namespace Go.Proofs.YtjipofkjmmpjdaaGreat
open Go.Hb Go.IntWalk
section
variable{W w:World}{L M:List HP}{F:HP->List HP}{b:Nat}{m r:TT}{k v:BA}{now life:Int}
theorem MV(c:Nat)(hc:c<256):(Lib.indexByte CW.data.toList ((c:Int)).toNat.toUInt8<0)↔¬((c:Int)=95\/(c:Int)=45\/(c:Int)=46\/(c:Int)=47\/(c:Int)=58):=by
 have h:∀c:Fin 256,(Lib.indexByte CW.data.toList (((c.val:Nat):Int)).toNat.toUInt8<0)↔¬(((c.val:Nat):Int)=95\/((c.val:Nat):Int)=45\/((c.val:Nat):Int)=46\/((c.val:Nat):Int)=47\/((c.val:Nat):Int)=58):=by decide +kernel
 exact h ⟨c,hc⟩
theorem Ad9(s:BA)(i:Nat):∃c:Nat,c<256/\AV s i=(c:Int):=⟨((s.data.toList[i]?).getD 0).toNat,UInt8.toNat_lt _,rfl⟩
theorem Az0(hs:Ab W w L){c:Int}{s:BA}:Calls PR 157 #[.s s,.int .u8 c] w λe w'=>e = .returned (.i (Lib.indexByte s.data.toList c.toNat.toUInt8))/\Ab W w' L:=by
 refine(Tryz.strings_IndexByte s c w).mono λe w' h=>?_;exact⟨h.1,by rw[h.2];exact hs⟩
theorem Adk(hs:Ab W w L):Calls PR 118 #[.s k] w λe w'=>e = .returned (.b (Fg k))/\Ab W w' L:=by
 refine c1 (cw ⟨mixed,Tryz.func118,rfl⟩ Ail ?_)
 with_reducible refine Dg (λh1=>?_) (λh1=>?_)
 ·have:Fg k=false:=decide_eq_false λh=>by omega
  exact⟨by rw[this],hs⟩
 with_reducible refine Dg (λh2=>?_) (λh2=>?_)
 ·have:Fg k=false:=decide_eq_false λh=>by omega
  exact⟨by rw[this],hs⟩
 refine jw We ?_;have loop:∀(f i:Nat)(w:World),i+f=k.size->(∀j,j<i->okB (AV k j))->Ab W w L->Cs Bg (λv w'=>v = .b (Fg k)/\Ab W w' L) (f+1) k (k.size:Int) (i:Int) w:=by
  intro f
  induction f with
  | zero=>
   intro i w hi hok hs;rw[LI];refine Ac (decide_eq_false (by omega)) ?_;refine jw Wf ?_;have:Fg k=true:=decide_eq_true ⟨by omega,by omega,λj hj=>hok j (by omega)⟩;exact⟨by rw[this],hs⟩
  | succ f ih=>
   intro i w hi hok hs;rw[LI];refine Al (decide_eq_true (by omega)) (Ax (by omega) ?_);rw[Int.toNat_natCast];have next:∀w,okB (AV k i)->Ab W w L->Cs Bg (λv w'=>v = .b (Fg k)/\Ab W w' L) (f+1) k (k.size:Int) (IntKind.wrap .i64 ((i:Int)+1)) w:=by
    intro w h hs;rw[i64_in _ (by omega)];refine ih (i+1) w (by omega) (λj hj=>?_) hs
    by_cases hji:j=i
    ·subst hji;exact h
    ·exact hok j (by omega)
   have bad:¬okB (AV k i)->Fg k=false:=λh=>decide_eq_false λh2=>h (h2.2.2 i (by omega));have look:∀(K1 K2:WP),K1=(λw'=>Value.bool false = .b (Fg k)/\Ab W w' L)->K2=(Cs Bg (λv w'=>v = .b (Fg k)/\Ab W w' L) (f+1) k (k.size:Int) (IntKind.wrap .i64 ((i:Int)+1))) ->
     ¬(97<=AV k i/\AV k i<=122)->¬(65<=AV k i/\AV k i<=90)->¬(48<=AV k i/\AV k i<=57)->call1 (.int .i64) PR 157 [.s CW,.int .u8 (AV k i)] (λ(x_1:Int)=>Aj (decide (x_1<(0:Int))) K1 K2) w:=by
    intro K1 K2 e1 e2 n1 n2 n3;subst e1 e2;refine An (Az0 hs) λe w ⟨he,hs⟩=>⟨_,he,?_⟩;obtain⟨c,hc,hb⟩:=Ad9 k i;have hx:=MV c hc;rw[<- hb] at hx
    with_reducible refine Dg (λh5=>?_) (λh5=>?_)
    ·have h6:=hx.1 h5;refine⟨by rw[bad (by unfold okB;omega)],hs⟩
    ·refine next w ?_ hs
     have h6:¬ ¬_:=λh=>h5 (hx.2 h);unfold okB;omega
   generalize hbt:AV k i=c at *;have look:=λn1 n2 n3=>look _ _ rfl rfl n1 n2 n3;have next:=next w
   repeat' first
    | with_reducible refine Dg (λh9=>?_) (λh9=>?_)
    | with_reducible refine Avs (λh9=>?_) (λh9=>?_)
   all_goals first
    | (with_reducible exact look (by omega) (by omega) (by omega))
    | (with_reducible exact next (by unfold okB;omega) hs)
 exact⟨k.size+1,loop k.size 0 w (by omega) (λj hj=>by omega) hs⟩
theorem Adv(hs:Ab W w L):Calls PR 77 #[] w λe w'=>∃b,e = .returned (pq b 0)/\Ab W w' (tabR b []::L):=by
 refine(cw ⟨mixed,Tryz.func77,rfl⟩ Au1 (Q:=λv w'=>∃b,v=pq b 0/\Ab W w' (tabR b []::L)) ?_).mono λe w' ⟨v,he,b,hv,hs⟩=>⟨b,by rw[he,hv],hs⟩;refine(Ahe hs).mono λe w ⟨xb,he,hs⟩=>⟨_,he,?_⟩
 repeat (first|((with_reducible refine CC ?_);first|refine Ai hs λb_ w hs=>?_|fail)|fail)
 exact⟨_,rfl,DD (xb:=xb) ⟨by simp[BR,Ef],by simp,by simp⟩ hs⟩
set_option maxRecDepth 100000 in
theorem V4(h:Ab W w L)[hA:At L b (tabR b r) F](hm:r.length<800000000):Calls PR 89 #[pq b 0,.s k,.s v,.i now,.i life] w λe w'=>e = .returned (.tuple #[.b (L3 r k v now life),.i (Fx k v now life)])/\Ab W w' (F (tabR b (Hn r k v now life))):=by
 refine At.call1 (hA:=hA) h λM hs=>?_;clear h hA;refine c1 (cw ⟨mixed,Tryz.func89,rfl⟩ Avd ?_);refine Ac rfl ?_;have bad:∀(e:Int),e≠0->Fx k v now life=e->L3 r k v now life=false/\Hn r k v now life=r:=λe he h=>by
  unfold L3 Hn;rw[h,if_neg he,decide_eq_false he];exact⟨rfl,rfl⟩
 refine An (Adk hs) λe w ⟨he,hs⟩=>⟨_,he,?_⟩;refine Ao (λh1=>?_) (λh1=>?_)
 ·have h1:Fg k=false:=by simpa using h1
  have e1:Fx k v now life=2:=if_pos h1;obtain⟨b1,b2⟩:=bad 2 (by omega) e1;rw[b1,b2,e1];exact⟨rfl,hs⟩
 have h1:¬Fg k=false:=by simpa using h1
 with_reducible refine Dg (λh2=>?_) (λh2=>?_)
 ·have e1:Fx k v now life=3:=by unfold Fx;rw[if_neg h1,if_pos (by omega)]
  obtain⟨b1,b2⟩:=bad 3 (by omega) e1;rw[b1,b2,e1];exact⟨rfl,hs⟩
 have e1:Fx k v now life=if now<0\/1125899906842624<now\/life<0\/1099511627776<life then 1 else 0:=by unfold Fx;rw[if_neg h1,if_neg (by omega)]
 have one:(now<0\/1125899906842624<now\/life<0\/1099511627776<life)->(Value.tuple #[.b false,.i 1] = .tuple #[.b (L3 r k v now life),.i (Fx k v now life)])/\Ab W w (tabR b (Hn r k v now life)::M):=by
  intro h;rw[if_pos h] at e1;obtain⟨b1,b2⟩:=bad 1 (by omega) e1;rw[b1,b2,e1];exact⟨rfl,hs⟩
 with_reducible refine Dg (λh3=>?_) (λh3=>?_)
 ·exact one (.inl h3)
 with_reducible refine Dg (λh4=>?_) (λh4=>?_)
 ·exact one (.inr (.inl h4))
 with_reducible refine Dg (λh5=>?_) (λh5=>?_)
 ·exact one (.inr (.inr (.inl h5)))
 with_reducible refine Dg (λh6=>?_) (λh6=>?_)
 ·exact one (.inr (.inr (.inr h6)))
 rw[if_neg (by omega)] at e1;have hkz:=D6 (s:=k) (by simpa using h1);have hok:=(Fm hs);obtain⟨xb,hi,hs⟩:=hok;have hput:=hi.put k v now life;have e2:Hn r k v now life=Hg r k (v,Hm now life):=if_pos e1;have e3:L3 r k v now life=(AC r k).isNone:=by unfold L3;rw[e1];rfl
 rw[e2] at hput ⊢;rw[e3,e1];refine jw ZS ?_;have j2:∀(vb:Nat)(w:World),Ab W w (blk vb [.s v,.i (Hm now life)]::blk b [pq xb 0]::ixr Am.si xb 0 r::M)->ZT Bg (λv' w'=>v' = .tuple #[.b (AC r k).isNone,.i 0]/\Ab W w' (tabR b (Hg r k (v,Hm now life))::M)) (some ⟨b,0,none⟩) k vb 0 w:=by
  intro vb w hs;refine jw ZU ?_
  repeat (first|with_reducible refine Aa ?_|((with_reducible refine A3 ?_);first|refine Ag hs ?_|fail)|((with_reducible refine BY ?_);first|refine Ar ?_|fail)|((with_reducible refine Bd ?_);first|refine BB hs ?_|fail)|((with_reducible refine DN ?_);first|refine AF hs λw hs=>?_|fail)|fail)
  refine An (Ahf (v:=(v,Hm now life)) hs (by omega) hi.small (by omega)) λe w ⟨he,hs⟩=>⟨_,he,?_⟩;have hs:Ab W w (ixr Am.si xb 0 (Ci r k (v,Hm now life))::blk b [pq xb 0]::M):=by exact Ab.fin hs
  have hs:=Ano (IQ (v:=(v,Hm now life)) hi.rise).symm hs;exact⟨rfl,DD hput (by exact Ab.fin hs)⟩
 unfold Hm at j2 ⊢
 repeat (first|((with_reducible refine Bk ?_);first|refine A4 hs λw hs=>?_|fail)|((with_reducible refine CC ?_);first|refine Ai hs λb_ w hs=>?_|fail)|fail)
 with_reducible refine Dg (λh7=>?_) (λh7=>?_)
 ·repeat (first|((with_reducible refine Bk ?_);first|refine A4 hs λw hs=>?_|fail)|fail)
  rw[i64_in _ (by omega)] at hs;rw[if_pos h7] at j2 ⊢;exact j2 _ w hs
 ·rw[if_neg h7] at j2 ⊢;exact j2 _ w hs
theorem Adm(hs:Ab W w L){e0:Int}:Calls PR 121 #[.agg #[.s v,.i e0],.i now] w λe w'=>e = .returned (.b (MN e0 now))/\Ab W w' L:=by
 refine c1 (cw ⟨mixed,Tryz.func121,rfl⟩ Aio ?_)
 repeat (first|((with_reducible refine A3 ?_);first|refine Ag hs ?_|fail)|((with_reducible refine CC ?_);first|refine Ai hs λb_ w hs=>?_|fail)|fail)
 with_reducible refine Avt (λh1=>?_) (λh1=>?_)
 ·repeat (first|((with_reducible refine A3 ?_);first|refine Ag hs ?_|fail)|fail)
  refine⟨?_,by exact Ab.fin hs⟩;congr 1;unfold MN;rw[Bool.eq_iff_iff,decide_eq_true_eq,decide_eq_true_eq];constructor
  ·intro h;exact⟨h1,h⟩
  ·intro h;exact h.2
 ·refine⟨?_,by exact Ab.fin hs⟩;congr 1;symm;unfold MN;rw[decide_eq_false_iff_not];omega
theorem Adt(h:Ab W w L)[hA:At L b (tabR b r) F](hz:k.size<4611686018427387904):Calls PR 85 #[pq b 0,.s k,.i now] w λe w'=>e = .returned (.tuple #[.s (FW r k now).1,.b (FW r k now).2])/\Ab W w' (F (tabR b r)):=by
 refine At.call1 (hA:=hA) h λM hs=>?_;clear h hA;refine c1 (cw ⟨mixed,Tryz.func85,rfl⟩ Au9 ?_);obtain⟨xb,hi,hs⟩:=Fm hs;refine Ac rfl ?_
 repeat (first|with_reducible refine Aa ?_|((with_reducible refine A3 ?_);first|refine Ag hs ?_|fail)|fail)
 refine(Ja hs hz).mono λe w ⟨he,hs⟩=>⟨_,_,_,he,?_⟩
 repeat (first|((with_reducible refine Bk ?_);first|refine A4 hs λw hs=>?_|fail)|((with_reducible refine CC ?_);first|refine Ai hs λb_ w hs=>?_|fail)|fail)
 unfold FW;cases hg:AC r k with
 | none=>
  rw[hg] at hs;exact Al rfl ⟨rfl,DD hi (by exact Ab.fin hs)⟩
 | some x=>
  rw[hg] at hs;refine Ac rfl ?_;simp only[Option.getD_some] at hs
  repeat (first|((with_reducible refine A3 ?_);first|refine Ag hs ?_|fail)|fail)
  refine An (Adm hs) λe w ⟨he,hs⟩=>⟨_,he,?_⟩;refine Ao (λh1=>?_) (λh1=>?_)
  ·simp only[h1,if_true];exact⟨rfl,DD hi (by exact Ab.fin hs)⟩
  ·repeat (first|((with_reducible refine A3 ?_);first|refine Ag hs ?_|fail)|fail)
   simp only[h1,Bool.false_eq_true,if_false];exact⟨trivial,DD hi (by exact Ab.fin hs)⟩
theorem Adu(h:Ab W w L)[hA:At L b (tabR b r) F](hz:k.size<4611686018427387904):Calls PR 90 #[pq b 0,.s k] w λe w'=>e = .returned (.b (AC r k).isSome)/\Ab W w' (F (tabR b r)):=by
 refine At.call1 (hA:=hA) h λM hs=>?_;clear h hA;refine c1 (cw ⟨mixed,Tryz.func90,rfl⟩ Ave ?_);obtain⟨xb,hi,hs⟩:=Fm hs;refine Ac rfl ?_
 repeat (first|with_reducible refine Aa ?_|((with_reducible refine A3 ?_);first|refine Ag hs ?_|fail)|fail)
 refine(Ja hs hz).mono λe w ⟨he,hs⟩=>⟨_,_,_,he,?_⟩
 repeat (first|((with_reducible refine Bk ?_);first|refine A4 hs λw hs=>?_|fail)|((with_reducible refine CC ?_);first|refine Ai hs λb_ w hs=>?_|fail)|fail)
 exact⟨rfl,DD hi (by exact Ab.fin hs)⟩
theorem QK(h:Ab W w L)[hA:At L b (tabR b r) F](hz:k.size<4611686018427387904)(hm:r.length<800000000):Calls PR 96 #[pq b 0,.s k] w λe w'=>e = .returned (.b (AC r k).isSome)/\Ab W w' (F (tabR b (Eo r k))):=by
 refine At.call1 (hA:=hA) h λM hs=>?_;clear h hA;refine c1 (cw ⟨mixed,Tryz.func96,rfl⟩ Avk ?_);obtain⟨xb,hi,hs⟩:=Fm hs;refine Ac rfl ?_
 repeat (first|with_reducible refine Aa ?_|((with_reducible refine A3 ?_);first|refine Ag hs ?_|fail)|fail)
 refine(V6 hs hz (by omega)).mono λe w ⟨he,hs⟩=>⟨_,_,_,he,?_⟩
 repeat (first|((with_reducible refine Bk ?_);first|refine A4 hs λw hs=>?_|fail)|((with_reducible refine CC ?_);first|refine Ai hs λb_ w hs=>?_|fail)|fail)
 rw[<- Fc hi.rise] at hs;exact⟨rfl,DD (hi.del k) (by exact Ab.fin hs)⟩
theorem Api(h:Ab W w L)[hA:At L b (tabR b r) F](hm:r.length<800000000):Calls PR 41 #[pq b 0] w λe w'=>∃l:Sl,e = .returned (.l l.a l.n l.c)/\Ab W w' (recs Am.str l (r.map (·.1))::F (tabR b r)):=by
 refine At.oneX (hA:=hA) h λM hs hb=>?_;refine(cw ⟨mixed,Tryz.func41,rfl⟩ At8 (Q:=λv w'=>∃l:Sl,v = .l l.a l.n l.c/\Ab W w' (tabR b r::recs Am.str l (r.map (·.1))::M)) ?_).mono λe w' ⟨v,he,l,hv,hs⟩=>⟨l,by rw[he,hv],?_⟩
 ·skip;obtain⟨xb,hi,hs⟩:=Fm hs;refine Ac rfl ?_
  repeat (first|with_reducible refine Aa ?_|((with_reducible refine A3 ?_);first|refine Ag hs ?_|fail)|fail)
  refine(Abi hs (by omega)).mono λe w ⟨l,he,hs⟩=>⟨_,he,?_⟩;rw[Aa6 hi.rise] at hs;exact⟨l,rfl,DD hi (by exact Ab.fin hs)⟩
 ·exact hb _ _ [recs Am.str l (r.map (·.1))] hs
theorem Aw2(h:Ab W w L)[hA:At L b (tabR b r) F]:Calls PR 40 #[pq b 0] w λe w'=>e = .returned (.i (r.length:Int))/\Ab W w' (F (tabR b r)):=by
 refine At.call1 (hA:=hA) h λM hs=>?_;clear h hA;refine c1 (cw ⟨mixed,Tryz.func40,rfl⟩ At7 ?_);obtain⟨xb,hi,hs⟩:=Fm hs;refine Ac rfl ?_
 repeat (first|with_reducible refine Aa ?_|((with_reducible refine A3 ?_);first|refine Ag hs ?_|fail)|fail)
 refine An (Ahd hs) λe w ⟨he,hs⟩=>⟨_,he,?_⟩;exact⟨rfl,DD hi (by exact Ab.fin hs)⟩
theorem A04(h:Ab W w L)[hA:At L b (tabR b r) F]:L7 r:=At.one (hA:=hA) h λM hs _=>by
 obtain⟨xb,hi,hs⟩:=Fm hs;exact hi
theorem Aoe{r:TT}(h:L7 r){i:Nat}(hi:i<r.length):AC r (r.getD i default).1=some (r.getD i default).2:=by
 rw[BD h.rise.nodup];rw[List.getD_eq_getElem?_getD,List.getElem?_eq_getElem hi];exact List.getElem_mem hi
theorem Ag3{r:TT}{i:Nat}(hi:i<r.length):Cv (r.take (i+1)) now=Cv (r.take i) now++(if MN (r.getD i default).2.2 now then [(r.getD i default).1] else []):=by
 unfold Cv;rw[Cc hi,List.filter_append,List.map_append];congr 1;rw[List.filter_cons];split <;> rfl
theorem Apg(r:TT)(i:Nat):(Cv (r.take i) now).length<=i:=by
 unfold Cv;rw[List.length_map];exact Nat.le_trans (List.length_filter_le _ _) (by simp;omega)
theorem Aw1(h:Ab W w L)[hA:At L b (tabR b r) F](hm:r.length<800000000):Calls PR 98 #[pq b 0,.i now] w λe w'=>∃l:Sl,e = .returned (.l l.a l.n l.c)/\Ab W w' (recs Am.str l (Cv r now)::F (tabR b r)):=by
 refine At.oneX (hA:=hA) h λM hs hb=>?_;refine(cw ⟨mixed,Tryz.func98,rfl⟩ Avm (Q:=λv w'=>∃l:Sl,v = .l l.a l.n l.c/\Ab W w' (tabR b r::recs Am.str l (Cv r now)::M)) ?_).mono λe w' ⟨v,he,l,hv,hs⟩=>⟨l,by rw[he,hv],?_⟩
 ·skip;refine(Api hs hm).mono λe w ⟨ks,he,hs⟩=>⟨_,he,?_⟩;have hn:=BE (s:=ks) hs;rw[List.length_map] at hn;have hi:=A04 (b:=b) (r:=r) hs;have hs:=Ab.nilR Am.str hs;have loop:∀(f i:Nat)(w:World)(acc:Sl),i+f=r.length->Ab W w (recs Am.str acc (Cv (r.take i) now)::recs Am.str ks (r.map (·.1))::tabR b r::M) ->
    P1 Bg (λv w'=>∃l:Sl,v = .l l.a l.n l.c/\Ab W w' (tabR b r::recs Am.str l (Cv r now)::M)) (f+1) (some ⟨b,0,none⟩) now acc ks (ks.n:Int) (i:Int) w:=by
   intro f
   induction f with
   | zero=>
    intro i w acc hif hs;rw[P2];refine Ac (decide_eq_false (by omega)) ?_;refine jw ZZ ?_;rw[List.take_of_length_le (by omega)] at hs;exact⟨acc,rfl,by exact Ab.fin hs⟩
   | succ f ih=>
    intro i w acc hif hs;rw[P2];refine Al (decide_eq_true (by omega)) ?_;have hlk:(r.map (·.1)).length=r.length:=by simp
    repeat (first|with_reducible refine Aa ?_|((with_reducible refine A3 ?_);first|refine Cj hs ?_|fail)|((with_reducible refine B0 ?_);first|refine BG hs λb_ o_ hs=>?_|fail)|fail)
    rw[Int.toNat_natCast];have hk:(r.map (·.1)).getD i default=(r.getD i default).1:=by
     rw[List.getD_eq_getElem?_getD,List.getD_eq_getElem?_getD,List.getElem?_map,List.getElem?_eq_getElem (by omega)];rfl
    rw[hk];have hmem:r.getD i default∈r:=by rw[List.getD_eq_getElem?_getD,List.getElem?_eq_getElem (by omega)];exact List.getElem_mem _
    have hsz:=hi.small _ hmem;have hg:=Aoe hi (i:=i) (by omega);have JN:=Apg (now:=now) r i;have hds:=Ag3 (now:=now) (r:=r) (i:=i) (by omega);have hs:Ab W w (tabR b r::recs Am.str acc (Cv (r.take i) now)::recs Am.str ks (r.map (·.1))::M):=by exact Ab.fin hs
    obtain⟨xb,_,hs⟩:=Fm hs
    repeat (first|((with_reducible refine A3 ?_);first|refine Ag hs ?_|fail)|fail)
    refine(Ja hs hsz).mono λe w ⟨he,hs⟩=>⟨_,_,_,he,?_⟩
    repeat (first|((with_reducible refine A3 ?_);first|refine Ag hs ?_|fail)|((with_reducible refine Bk ?_);first|refine A4 hs λw hs=>?_|fail)|((with_reducible refine CC ?_);first|refine Ai hs λb_ w hs=>?_|fail)|fail)
    refine An (Adm hs) λe w ⟨he,hs⟩=>⟨_,he,?_⟩;rw[hg,Option.getD_some];refine Ao (λh1=>?_) (λh1=>?_)
    ·repeat (first|((with_reducible refine CC ?_);first|refine Ai hs λb_ w hs=>?_|fail)|fail)
     refine CG (s:=acc) (a:=(r.getD i default).1) hs rfl rfl rfl rfl (by decide) (by omega) λs4 w hs4 hs=>?_;rw[i64_in _ (by omega)];refine ih (i+1) w s4 (by omega) ?_;rw[hds,h1];have hs:=DD (b:=b) (r:=r) (xb:=xb) (M:=recs Am.str s4 (Cv (r.take i) now++[(r.getD i default).1])::recs Am.str ks (r.map (·.1))::M) hi (by exact Ab.fin hs);exact Ab.fin hs
    ·rw[i64_in _ (by omega)];refine ih (i+1) w acc (by omega) ?_;rw[hds,h1];have hs:=DD (b:=b) (r:=r) (xb:=xb) (M:=recs Am.str acc (Cv (r.take i) now)::recs Am.str ks (r.map (·.1))::M) hi (by exact Ab.fin hs);simp only[Bool.false_eq_true,if_false,List.append_nil];exact Ab.fin hs
  refine⟨r.length+1,?_⟩;exact loop r.length 0 w ⟨none,0,0⟩ (by omega) hs
 ·exact hb _ _ [recs Am.str l (Cv r now)] hs
end
end Go.Proofs.YtjipofkjmmpjdaaGreat
namespace Go.Hb
def kT(T:TT):BL:=T.map (·.1)
def AB(T:TT)(g:BL):TT:=g.foldl Eo T
section
variable{T:TT}{k x:BA}{v:BA×Int}{g:BL}{now:Int}
theorem Aaf:k∉kT T↔AC T k=none:=by
 rw[Br];unfold kT;rw[List.mem_map];constructor
 ·intro h e he hk;exact h ⟨e,he,hk⟩
 ·rintro h ⟨e,he,hk⟩;exact h e he hk
theorem GA:k∈kT T↔(AC T k).isSome=true:=by
 by_cases hk:k∈kT T
 ·refine⟨λ_=>?_,λ_=>hk⟩;cases hg:AC T k with
  | none=>exact absurd hk (Aaf.2 hg)
  | some v=>rfl
 ·rw[Aaf.1 hk];exact⟨λh=>absurd h hk,λh=>by cases h⟩
theorem Kt(h:BR T):AC (Eo T k) x=if k=x then none else AC T x:=by rw[Fc h,T0]
theorem US(h:BR T):AC (Hg T k v) x=if k=x then some v else AC T x:=by
 have hn:((Hg T k v).map (·.1)).Nodup:=(IR h).nodup;rw[Af7 hn (IQ h),T3]
theorem Anp(h:BR T):x∈kT (Eo T k)↔x∈kT T/\x≠k:=by
 rw[GA,GA,Kt h]
 by_cases hx:k=x
 ·subst hx;simp
 ·rw[if_neg hx];exact⟨λh=>⟨h,λe=>hx e.symm⟩,λh=>h.1⟩
theorem Anq(h:BR T):x∈kT (Hg T k v)↔x∈kT T\/x=k:=by
 rw[GA,GA,US h]
 by_cases hx:k=x
 ·subst hx;simp
 ·rw[if_neg hx];exact⟨.inl,λh=>h.elim id λe=>absurd e.symm hx⟩
theorem Eg:∀{g:BL}{T:TT},L7 T->L7 (AB T g)
 | [],T,h=>h
 | k::g,T,h=>Eg (g:=g) (h.del k)
theorem Js:∀{g:BL}{T:TT},L7 T->(AB T g).length<=T.length
 | [],T,h=>Nat.le_refl _
 | k::g,T,h=>Nat.le_trans (Js (g:=g) (h.del k)) (KF h k)
theorem FL:∀{g:BL}{T:TT},BR T->(x∈g->AC (AB T g) x=none)/\(x∉g->AC (AB T g) x=AC T x)
 | [],T,h=>⟨by simp,λ_=>rfl⟩
 | k::g,T,h=>by
  obtain⟨h1,h2⟩:=FL (g:=g) (T:=Eo T k) (L0 h);have e:AB T (k::g)=AB (Eo T k) g:=rfl;rw[e];refine⟨λhx=>?_,λhx=>?_⟩
  ·by_cases hg:x∈g
   ·exact h1 hg
   ·rw[h2 hg,Kt h,if_pos];rcases List.mem_cons.1 hx with hx|hx
    ·exact hx.symm
    ·exact absurd hx hg
  ·rw[List.mem_cons,not_or] at hx;rw[h2 hx.2,Kt h,if_neg λe=>hx.1 e.symm]
theorem SP(h:BR T):x∈kT (AB T g)↔x∈kT T/\x∉g:=by
 obtain⟨h1,h2⟩:=FL (x:=x) (g:=g) h;rw[GA,GA];constructor
 ·intro hx;have hg:x∉g:=λhg=>by rw[h1 hg] at hx;cases hx
  exact⟨by rw[h2 hg] at hx;exact hx,hg⟩
 ·rintro⟨hx,hg⟩;rw[h2 hg];exact hx
theorem Hu{P:BA->Prop}:∀{g:BL}{T:TT},BR T->(∀e∈T,P e.1)->∀e∈AB T g,P e.1
 | [],T,_,h=>h
 | k::g,T,hr,h=>Hu (g:=g) (L0 hr) λe he=>by
  rw[Fc hr] at he;exact Iz h e he
theorem Abd{T S:TT}(h:AC T k=AC S k):FW T k now=FW S k now:=by unfold FW;rw[h]
def tOv(T:TT)(k:BA)(now:Int):Bool:=(AC T k).isSome && !(FW T k now).2
def BW(T:TT)(k:BA)(now:Int):TT:=if tOv T k now then Eo T k else T
def CF(T:TT)(k:BA)(now:Int):BL:=if tOv T k now then [k] else []
theorem IT(T:TT)(k:BA)(now:Int):BW T k now=AB T (CF T k now):=by unfold BW CF;split <;> rfl
theorem T4(h:L7 T):L7 (BW T k now):=by rw[IT];exact Eg h
theorem Agv(h:BR T):FW (BW T k now) k now=FW T k now:=by
 unfold BW;split
 ·rename_i h2;unfold tOv at h2;rw[Bool.and_eq_true,Bool.not_eq_true'] at h2;have e1:AC (Eo T k) k=none:=by rw[Kt h,if_pos rfl]
  have e2:FW (Eo T k) k now=(⟨#[]⟩,false):=by unfold FW;rw[e1]
  rw[e2];have h3:=h2.2;unfold FW at h3 ⊢;cases hg:AC T k with
  | none=>rfl
  | some v=>
   rw[hg] at h3;dsimp only at h3 ⊢;split
   ·rfl
   ·rename_i h4;rw[if_neg h4] at h3;cases h3
 ·rfl
end
def TE(c:Int):BL->List Ev->BL->Prop
 | R,[],K=>∀x,x∈R↔x∈K
 | R,e::l,K=>e.2.size<64/\∃R',YV c R e R'/\TE c R' l K
section
variable{c:Int}{R S K K':BL}{e:Ev}{l:List Ev}{T:TT}{key:BA}
theorem YV.congr(h:∀x,x∈R↔x∈S)(hs:YV c R e K):YV c S e K:=by
 refine⟨hs.1,λx=>?_⟩;rw[hs.2];split
 ·rw[h]
 ·split
  ·rw[h]
  ·exact h x
theorem TE.left(h:∀x,x∈R↔x∈S)(hs:TE c R l K):TE c S l K:=by
 cases l with
 | nil=>exact λx=>by rw[<- h];exact hs x
 | cons e l=>
  obtain⟨hz,R',h1,h2⟩:=hs;exact⟨hz,R',h1.congr h,h2⟩
theorem TE.right(h:∀x,x∈K↔x∈K'):∀{l:List Ev}{R:BL},TE c R l K->TE c R l K'
 | [],R,hs=>λx=>by rw[<- h];exact hs x
 | e::l,R,⟨hz,R',h1,h2⟩=>⟨hz,R',h1,TE.right h h2⟩
theorem TE.snoc(hz:e.2.size<64)(he:YV c K e K'):∀{l:List Ev}{R:BL},TE c R l K->TE c R (l++[e]) K'
 | [],R,hs=>⟨hz,K',he.congr λx=>(hs x).symm,λ_=>Iff.rfl⟩
 | _::l,R,⟨hz2,R',h1,h2⟩=>⟨hz2,R',h1,TE.snoc hz he h2⟩
theorem Ac8(ht:BR T)(hz:∀e∈T,e.1.size<=40)(hl:(T.length:Int)<=c)(h1:1<=c)(h2:c<=1024):Dj c (kT T):=
 ⟨ht.nodup,λk hk=>by
  obtain⟨e,he,rfl⟩:=List.mem_map.1 hk;have:=hz e he;omega,by unfold kT;rw[List.length_map];exact hl,h1,h2⟩
theorem YV.del(ht:L7 T)(hz:∀e∈T,e.1.size<=40)(hl:(T.length:Int)<=c)(h1:1<=c)(h2:c<=1024):YV c (kT T) ((3:Int),key) (kT (Eo T key)):=
 ⟨Ac8 (ht.del key).rise (λe he=>by rw[Fc ht.rise] at he;exact Iz (P:=λk=>k.size<=40) hz e he) (by have:=KF ht key;omega) h1 h2,λx=>by
  rw[Anp ht.rise];simp⟩
theorem JC{v:BA×Int}(hr:BR T)(hz:∀e∈T,e.1.size<=40)(hk:key.size<=40):∀e∈Hg T key v,e.1.size<=40:=λe he=>by
 rcases Qs hr he with h|h
 ·exact hz e h
 ·subst h;exact hk
theorem YV.put{v:BA×Int}(ht:L7 T)(hz:∀e∈T,e.1.size<=40)(hk:key.size<=40)(hl:((Hg T key v).length:Int)<=c)(h1:1<=c)(h2:c<=1024):YV c (kT T) ((2:Int),key) (kT (Hg T key v)):=
 ⟨Ac8 (IR ht.rise) (JC ht.rise hz hk) hl h1 h2,λx=>by rw[Anq ht.rise];simp⟩
theorem Agj{v:BA×Int}(ht:L7 T):(Hg T key v).length=T.length+(if key∈kT T then 0 else 1):=by
 have hp:=(IQ (v:=v) (k:=key) ht.rise).length_eq;rw[hp];unfold Ci;cases hg:AC T key with
 | none=>
  have:key∉kT T:=Aaf.2 hg;rw[if_neg this];simp
 | some u=>
  have:key∈kT T:=GA.2 (by rw[hg];rfl);rw[if_pos this];unfold E4;simp
end
end Go.Hb
