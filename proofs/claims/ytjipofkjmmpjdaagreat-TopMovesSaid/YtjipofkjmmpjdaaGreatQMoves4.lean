import Derived.IntWalk
import Derived.Lib.Mul64
import Derived.Laws.Bits64b
import Derived.Test.YtjipofkjmmpjdaaGreatQMoves3
set_option linter.unusedVariables false
set_option linter.unusedSimpArgs false
set_option linter.unnecessarySimpa false
set_option linter.unusedSectionVars false
set_option maxRecDepth 100000
namespace Go.Proofs.YtjipofkjmmpjdaaGreat
open Go.Hb Go.IntWalk
section
variable{W w:World}{L M:List HP}{F:HP->List HP}{b nb tb:Nat}{c:Int}{N N':Nat}{x y:Bb}{sb qb xb:Nat}{row sr sr' qr qr':D1}{free sf sf' qf qf':List Nat}{m:LM}{key:BA}{h g i:Int}
theorem Lx{Q:VW}(hi:LX N x sr sf qr qf m)(hn:(sr.map (·.1)).Nodup)(hp:∀e∈sr,0<e.1)
  (hQ:∀w,Ab W w (eB b c sb qb xb h g::lst .s sb sr sf::lst .s qb qr qf::ixr Rec.iii xb 0 m::M) ->
   Q (.tuple #[.s (Rc m (C5 x.s i)).1,.agg #[.i (Rc m (C5 x.s i)).2.1,.i (Rc m (C5 x.s i)).2.2.1,.i (Rc m (C5 x.s i)).2.2.2]]) w) :
  ∀(d j:Nat)(w:World),j+d=sr.length->C5 (x.s.drop j) i=C5 x.s i ->
   Ab W w (blk tb [.i 0,.i 0,.i 0]::eB b c sb qb xb h g::lst .s sb sr sf::lst .s qb qr qf::ixr Rec.iii xb 0 m::M) ->
   Oe Be Q (d+1) (some ⟨b,0,none⟩) i tb 0 (AS sr j:Int) w:=by
 have hlen:sr.length=x.s.length:=by have:=congrArg List.length hi.sk;simpa[AR] using this
 intro d
 induction d with
 | zero=>
  intro j w hj hf hs;rw[Mn,Rj (by omega)]
  with_reducible refine Ay (λh1=>?_) (λh1=>?_)
  ·exact absurd rfl h1
  refine jw Xd ?_;have e:C5 x.s i=none:=by rw[<- hf,List.drop_eq_nil_of_le (by omega)];rfl
  repeat (first|((with_reducible refine A2 ?_);first|refine Ah hs ?_|fail)|((with_reducible refine Bm ?_);first|refine A4 hs λw hs=>?_|fail)|fail)
  have:=hQ w (by exact Ab.fin hs);rw[e] at this;exact this
 | succ d ih=>
  intro j w hj hf hs;rw[Mn];have hlt:j<sr.length:=by omega
  have hlt2:j<x.s.length:=by omega
  have hpl:=MN hlt;have hpos:=hp _ (List.getElem_mem hlt);refine Ak (by rw[hpl];simp;omega) ?_
  repeat (first|with_reducible refine Aa ?_|((with_reducible refine A2 ?_);first|refine Ah hs ?_|fail)|fail)
  refine AG (Fb hs) λe w ⟨he,hs⟩=>⟨_,_,he,?_⟩;rw[HQ hn hlt];rw[Option.getD_some];have hkey:sr[j].2=x.s[j].1:=by
   have:=congrArg (λl:List BA=>l[j]?) hi.sk;simp only[AR,List.getElem?_map,List.getElem?_eq_getElem hlt,List.getElem?_eq_getElem hlt2,Option.map_some,Option.some.injEq] at this;exact this
  have hmem:x.s[j]∈x.s:=List.getElem_mem hlt2;have hz:=hi.w.ssm _ hmem;have his:lK x.s x.q x.s[j].1=x.s[j].2:=Aoj hi.w hmem;have hdrop:x.s.drop j=x.s[j]::x.s.drop (j+1):=List.drop_eq_getElem_cons hlt2;have hfst:C5 x.s i=if x.s[j].2=i then some x.s[j].1 else C5 (x.s.drop (j+1)) i:=by
   rw[<- hf,hdrop];unfold C5
   by_cases h:x.s[j].2=i
   ·rw[if_pos h,List.find?_cons_of_pos (by simpa using h)];rfl
   ·rw[if_neg h,List.find?_cons_of_neg (by simpa using h)]
  rw[hkey]
  repeat (first|with_reducible refine Aa ?_|((with_reducible refine A2 ?_);first|refine Ah hs ?_|fail)|fail)
  refine(CQ hs (by omega)).mono λe w ⟨he,hs⟩=>⟨_,_,_,_,he,?_⟩;have hG:(AE m x.s[j].1).getD ((0,0,0):Int×Int×Int)=lG m x.s[j].1:=rfl;rw[hG];have hG1:(lG m x.s[j].1).1=x.s[j].2:=by rw[hi.ent];exact his
  repeat (first|((with_reducible refine A2 ?_);first|refine Ah hs ?_|fail)|((with_reducible refine Bm ?_);first|refine A4 hs λw hs=>?_|fail)|with_reducible refine Ai hs λb_ w hs=>?_|fail)
  with_reducible refine Ay (λh1=>?_) (λh1=>?_)
  ·rw[hG1] at h1;rw[if_pos h1] at hfst
   repeat (first|((with_reducible refine A2 ?_);first|refine Ah hs ?_|fail)|((with_reducible refine Bm ?_);first|refine A4 hs λw hs=>?_|fail)|with_reducible refine A9 hs λw hs=>?_|fail)
   have:=hQ w (by exact Ab.fin hs);rw[hfst] at this;exact this
  ·rw[hG1] at h1;rw[if_neg h1] at hfst
   repeat (first|with_reducible refine Aa ?_|((with_reducible refine A2 ?_);first|refine Ah hs ?_|fail)|fail)
   refine Am (MR hs) λe w ⟨he,hs⟩=>⟨_,he,?_⟩;rw[Ri hn hlt];exact ih (j+1) w (by omega) hfst.symm (by exact Ab.fin hs)
theorem I4(hi:LX N x sr sf qr qf m)(hs:Ab W w (eB b c sb qb xb h g::lst .s sb sr sf::lst .s qb qr qf::ixr Rec.iii xb 0 m::M)) :
  Calls PR 290 #[pq b 0,.i i] w λe w'=>e = .returned (.tuple #[.s (Rc m (C5 x.s i)).1,.agg #[.i (Rc m (C5 x.s i)).2.1,.i (Rc m (C5 x.s i)).2.2.1,.i (Rc m (C5 x.s i)).2.2.2]]) /\
   Ab W w' (eB b c sb qb xb h g::lst .s sb sr sf::lst .s qb qr qf::ixr Rec.iii xb 0 m::M):=by
 obtain⟨hn,hp⟩:=IU (b:=sb) (row:=sr) (free:=sf) (M:=eB b c sb qb xb h g::lst .s qb qr qf::ixr Rec.iii xb 0 m::M) (by exact Ab.fin hs);refine c1 (cw ⟨mixed,Tryz.func290,rfl⟩ Alu ?_);refine Ai hs λtb w hs=>?_
 repeat (first|with_reducible refine Aa ?_|((with_reducible refine A2 ?_);first|refine Ah hs ?_|fail)|fail)
 refine Am (DM hs) λe w ⟨he,hs⟩=>⟨_,he,?_⟩;refine AJ (sr.length+1) ?_;exact Lx hi hn hp (λw hs=>⟨rfl,hs⟩) sr.length 0 w (by omega) rfl (by exact Ab.fin hs)
theorem Jt(hi:LX N x sr sf qr qf m){e:Int}(he:(key,e)∈x.s)(hne:e≠1)(hN:N<400000000)
  (hs:Ab W w (eB b c sb qb xb ((A8 x.s 1:Int)) ((A8 x.s 3:Int))::lst .s sb sr sf::lst .s qb qr qf::ixr Rec.iii xb 0 m::M)) :
  Calls PR 294 #[pq b 0,.agg #[.i (lG m key).1,.i (lG m key).2.1,.i (lG m key).2.2],.s key] w λe w'=>e = .returned (.tuple #[])/\Ab W w' (lirR b c N ⟨Bq x.s key,x.q⟩::M):=by
 refine c1 (cw ⟨mixed,Tryz.func294,rfl⟩ Aly ?_);rw[hi.ent];have hns:=hi.ns;have hz:key.size<64:=hi.w.ssm _ he;refine Ai hs λnb w hs=>?_
 repeat (first|with_reducible refine Aa ?_|((with_reducible refine A2 ?_);first|refine Ah hs ?_|fail)|((with_reducible refine BY ?_);first|refine Aq ?_|fail)|((with_reducible refine Bf ?_);first|refine AW hs ?_|fail)|with_reducible refine A9 hs λw hs=>?_|fail)
 refine AG (EZ hs (by omega) hi.snd.1 rfl) λe w ⟨⟨_,_,he⟩,f',hc,hs⟩=>⟨_,_,he,?_⟩;obtain⟨hu,hk⟩:=hi.lift (sf':=f') ‹(key,_)∈x.s› hne hc
 repeat (first|((with_reducible refine A2 ?_);first|refine Ah hs ?_|fail)|((with_reducible refine Bm ?_);first|refine A4 hs λw hs=>?_|fail)|fail)
 with_reducible refine Ay (λh3=>?_) (λh3=>?_)
 ·rw[if_pos h3] at hu hk
  repeat (first|((with_reducible refine A2 ?_);first|refine Ah hs ?_|fail)|((with_reducible refine Bm ?_);first|refine A4 hs λw hs=>?_|fail)|fail)
  refine Ar (Dc (W:=W) (M:=M) (c:=c) (b:=b) (n:=(0,0,AO qr key)) hi hu hz (Hc _ _) hk hN (by exact Ab.fin hs)) λe w ⟨he,hs⟩=>⟨he,?_⟩;exact⟨rfl,hs⟩
 ·rw[if_neg h3] at hu hk
  repeat (first|((with_reducible refine A2 ?_);first|refine Ah hs ?_|fail)|fail)
  refine Ar (Dc (W:=W) (M:=M) (c:=c) (b:=b) (n:=(lK x.s x.q key,0,AO qr key)) hi hu hz (Hc _ _) hk hN (by exact Ab.fin hs)) λe w ⟨he,hs⟩=>⟨he,?_⟩;exact⟨rfl,hs⟩
theorem Agi{k:BA×Int}{t:SL}(h:(AR (k::t)).Nodup):Bq (k::t) k.1=t:=by
 have h1:Bq (k::t) k.1=Bq t k.1:=by unfold Bq;rw[List.filter_cons_of_neg (by simp)]
 rw[h1];exact PU (by unfold AR at h;rw[List.map_cons,List.nodup_cons] at h;exact h.1)
theorem Ly(hN:N<400000000):∀(d:Nat)(S:SL)(w:World),S.length=d->Ab W w (lirR b c N ⟨S,y.q⟩::M)->Oa Be (λv w'=>v = .tuple #[]/\Ab W w' (lirR b c N ⟨DS S,y.q⟩::M)) (d+1) (some ⟨b,0,none⟩) w:=by
 intro d
 induction d with
 | zero=>
  intro S w hS hs;have e0:S=[]:=List.length_eq_zero_iff.1 hS;subst e0;obtain⟨sb,qb,xb,sr,sf,qr,qf,m,hi,hs⟩:=BS hs;have hl:sr=[]:=by have:=hi.sk;simpa[AR] using this
  subst hl;rw[Mk]
  repeat (first|with_reducible refine Aa ?_|((with_reducible refine A2 ?_);first|refine Ah hs ?_|fail)|fail)
  refine Am (Fc hs) λe w ⟨he,hs⟩=>⟨_,he,?_⟩;refine Ac rfl ?_;exact⟨rfl,Ci hi rfl rfl (by exact Ab.fin hs)⟩
 | succ d ih=>
  intro S w hS hs;obtain⟨a,t,hat⟩:∃a t,S=a::t:=by
   cases S with
   | nil=>simp at hS
   | cons a t=>exact⟨a,t,rfl⟩
  subst hat;obtain⟨sb,qb,xb,sr,sf,qr,qf,m,hi,hs⟩:=BS hs;obtain⟨hn,hp⟩:=IU (b:=sb) (row:=sr) (free:=sf) (M:=eB b c sb qb xb ((A8 (a::t) 1:Int)) ((A8 (a::t) 3:Int))::lst .s qb qr qf::ixr Rec.iii xb 0 m::M) (by exact Ab.fin hs);have hlen:sr.length=d+1:=by have:=congrArg List.length hi.sk;rw[<- hS];simpa[AR] using this
  rw[Mk]
  repeat (first|with_reducible refine Aa ?_|((with_reducible refine A2 ?_);first|refine Ah hs ?_|fail)|fail)
  refine Am (Fc hs) λe w ⟨he,hs⟩=>⟨_,he,?_⟩;refine Ak (decide_eq_true (by omega)) ?_;refine Al [eB b c sb qb xb ((A8 (a::t) 1:Int)) ((A8 (a::t) 3:Int))] hs λw hs=>?_
  repeat (first|with_reducible refine Aa ?_|((with_reducible refine A2 ?_);first|refine Ah hs ?_|fail)|((with_reducible refine BY ?_);first|refine Aq ?_|fail)|((with_reducible refine Bf ?_);first|refine Af hs ?_|fail)|fail)
  refine Am (DM hs) λe w ⟨he,hs⟩=>⟨_,he,?_⟩
  repeat (first|((with_reducible refine Bf ?_);first|refine Af hs ?_|fail)|fail)
  refine AG (Fb hs) λe w ⟨he,hs⟩=>⟨_,_,he,?_⟩;have hlt:0<sr.length:=by omega
  rw[HQ hn hlt];rw[Option.getD_some];have hkey:sr[0].2=a.1:=by
   have:=congrArg (λl:List BA=>l[0]?) hi.sk;simp only[AR,List.getElem?_map,List.getElem?_eq_getElem hlt,List.getElem?_cons_zero,Option.map_some,Option.some.injEq] at this;exact this
  have hmem:(a.1,a.2)∈a::t:=.head _;have hz:a.1.size<64:=hi.w.ssm _ hmem;have hkd:a.2=1\/a.2=2\/a.2=3:=hi.w.kinds _ hmem;have hG1:(lG m a.1).1=a.2:=by
   rw[hi.ent];exact Aoj (e:=(a.1,a.2)) hi.w hmem
  rw[hkey]
  repeat (first|with_reducible refine Aa ?_|((with_reducible refine A2 ?_);first|refine Ah hs ?_|fail)|fail)
  refine(CQ hs (by omega)).mono λe w ⟨he,hs⟩=>⟨_,_,_,_,he,?_⟩;have hG:(AE m a.1).getD ((0,0,0):Int×Int×Int)=lG m a.1:=rfl;rw[hG]
  repeat (first|((with_reducible refine A2 ?_);first|refine Ah hs ?_|fail)|((with_reducible refine Bm ?_);first|refine A4 hs λw hs=>?_|fail)|with_reducible refine Ai hs λb_ w hs=>?_|fail)
  with_reducible refine Ay (λh1=>?_) (λh1=>?_)
  ·rw[hG1] at h1;have e1:DS (a::t)=a::t:=by unfold DS;rw[List.dropWhile_cons,if_neg (by simp[h1])]
   rw[e1];exact⟨rfl,Ci hi rfl rfl (by exact Ab.fin hs)⟩
  ·rw[hG1] at h1;have e1:DS (a::t)=DS t:=by unfold DS;rw[List.dropWhile_cons,if_pos (by simp[h1])]
   rw[e1]
   repeat (first|((with_reducible refine A2 ?_);first|refine Ah hs ?_|fail)|fail)
   refine Ar (Jt (W:=W) (M:=M) (c:=c) (b:=b) hi hmem h1 hN (by exact Ab.fin hs)) λe w ⟨he,hs⟩=>⟨he,?_⟩;rw[show Bq (a::t) a.1=t from Agi hi.w.sn] at hs;exact ih t w (by simpa using hS) hs
theorem BN(hN:N<400000000)(hs:Ab W w (lirR b c N x::M)):Calls PR 284 #[pq b 0] w λe w'=>e = .returned (.tuple #[])/\Ab W w' (lirR b c N (Yt x)::M):=by
 refine c1 (cw ⟨mixed,Tryz.func284,rfl⟩ Aln ?_);refine AJ (x.s.length+1) ?_;exact Ly (y:=x) hN x.s.length x.s w rfl hs
theorem KC(hN:N<400000000):∀(d:Nat)(S:SL)(w:World),((A8 S 3:Int)-c).toNat=d->0<=c->Ab W w (lirR b c N ⟨S,y.q⟩::M)->Ob Be (λv w'=>v = .tuple #[]/\Ab W w' (lirR b c N ⟨C6 S d,y.q⟩::M)) (d+1) (some ⟨b,0,none⟩) w:=by
 intro d
 induction d with
 | zero=>
  intro S w hS hc hs;obtain⟨sb,qb,xb,sr,sf,qr,qf,m,hi,hs⟩:=BS hs;rw[Ml]
  repeat (first|with_reducible refine Aa ?_|((with_reducible refine A2 ?_);first|refine Ah hs ?_|fail)|((with_reducible refine BY ?_);first|refine Aq ?_|fail)|((with_reducible refine Bf ?_);first|refine AW hs ?_|fail)|with_reducible refine A9 hs λw hs=>?_|fail)
  refine Ac (decide_eq_false (by simp only;omega)) ?_;exact⟨rfl,Ci hi rfl rfl (by exact Ab.fin hs)⟩
 | succ d ih=>
  intro S w hS hc hs;obtain⟨sb,qb,xb,sr,sf,qr,qf,m,hi,hs⟩:=BS hs;rw[Ml]
  repeat (first|with_reducible refine Aa ?_|((with_reducible refine A2 ?_);first|refine Ah hs ?_|fail)|((with_reducible refine BY ?_);first|refine Aq ?_|fail)|((with_reducible refine Bf ?_);first|refine AW hs ?_|fail)|with_reducible refine A9 hs λw hs=>?_|fail)
  refine Ak (decide_eq_true (by simp only;omega)) ?_;refine(I4 (W:=W) (M:=M) (c:=c) (b:=b) (sb:=sb) (qb:=qb) (xb:=xb) (h:=(A8 S 1:Int)) (g:=(A8 S 3:Int)) (i:=3) hi (by exact Ab.fin hs)).mono λe w ⟨he,hs⟩=>⟨_,_,_,_,he,?_⟩;cases hf:C5 S 3 with
  | none=>have:=Gu.1 hf;omega
  | some k=>
   have hm:=FT hf;have e1:C6 S (d+1)=C6 (Bq S k) d:=by rw[C6,hf]
   rw[e1];rw[show Rc m (some k)=(k,lG m k) from rfl]
   repeat (first|((with_reducible refine A2 ?_);first|refine Ah hs ?_|fail)|((with_reducible refine Bm ?_);first|refine A4 hs λw hs=>?_|fail)|with_reducible refine Ai hs λb_ w hs=>?_|fail)
   refine Ar (Jt (W:=W) (M:=M) (c:=c) (b:=b) hi hm (by decide) hN (by exact Ab.fin hs)) λe w ⟨he,hs⟩=>⟨he,?_⟩;have h3:=C4 (k:=k) hi.w.sn 3;simp only[if_pos hm] at h3;exact ih (Bq S k) w (by omega) hc hs
theorem Ef(hN:N<400000000)(hc:0<=c)(hs:Ab W w (lirR b c N x::M)):Calls PR 286 #[pq b 0] w λe w'=>e = .returned (.tuple #[])/\Ab W w' (lirR b c N ⟨HG c x.s,x.q⟩::M):=by
 refine c1 (cw ⟨mixed,Tryz.func286,rfl⟩ Alp ?_);refine AJ (((A8 x.s 3:Int)-c).toNat + 1) ?_;exact KC (y:=x) hN _ x.s w rfl hc hs
theorem Js(hF:x.q.length+1<=N)(hN:N<300000000)(hp:0<A8 x.s 1)(hs:Ab W w (lirR b c N x::M)):Calls PR 281 #[pq b 0] w λe w'=>e = .returned (.tuple #[])/\Ab W w' (lirR b c N (CS x)::M):=by
 refine c1 (cw ⟨mixed,Tryz.func281,rfl⟩ Alk ?_);obtain⟨sb,qb,xb,sr,sf,qr,qf,m,hi,hs⟩:=BS hs;have hns:=hi.ns;have hnq:=hi.nq;refine(I4 (W:=W) (M:=M) (c:=c) (b:=b) (sb:=sb) (qb:=qb) (xb:=xb) (h:=(A8 x.s 1:Int)) (g:=(A8 x.s 3:Int)) (i:=1) hi (by exact Ab.fin hs)).mono λe w ⟨he,hs⟩=>⟨_,_,_,_,he,?_⟩;cases hf:C5 x.s 1 with
 | none=>have:=Gu.1 hf;omega
 | some k=>
  have hm:=FT hf;have hz:k.size<64:=hi.w.ssm _ hm;rw[show Rc m (some k)=(k,lG m k) from rfl,hi.ent];refine Ai hs λnb w hs=>?_
  repeat (first|with_reducible refine Aa ?_|((with_reducible refine A2 ?_);first|refine Ah hs ?_|fail)|((with_reducible refine Bm ?_);first|refine A4 hs λw hs=>?_|fail)|((with_reducible refine BY ?_);first|refine Aq ?_|fail)|((with_reducible refine Bf ?_);first|refine AW hs ?_|fail)|with_reducible refine A9 hs λw hs=>?_|fail)
  refine AG (EZ hs (by omega) hi.snd.1 rfl) λe w ⟨⟨_,_,he⟩,f',hc,hs⟩=>⟨_,_,he,?_⟩
  repeat (first|((with_reducible refine Bm ?_);first|refine A4 hs λw hs=>?_|fail)|fail)
  refine Ar (MD (W:=W) (M:=lst .s sb (CX sr k) f'::ixr Rec.iii xb 0 m::M) (c:=c) (b:=b) (nb:=nb) (sb:=sb) (qb:=qb) (xb:=xb) (h:=(A8 x.s 1:Int)) (g:=(A8 x.s 3:Int)) (i:=2) (s:=0) (q:=AO qr k) (key:=k) (qr:=qr) (qf:=qf) (by exact Ab.fin hs) (by omega) hi.snd.2 rfl) λe w ⟨he,qr',qf',hp2,hs⟩=>⟨he,?_⟩
  repeat (first|((with_reducible refine A2 ?_);first|refine Ah hs ?_|fail)|fail)
  have hu:=hi.cool hF hm hc hp2;have hk:(2:Int)=lK (Bq x.s k) (x.q++[k]) k:=by rw[J9,if_pos (by simp)]
  refine Ar (Dc (W:=W) (M:=M) (c:=c) (b:=b) (n:=(2,0,AO qr' k)) hi hu hz (Hc _ _) hk (by omega) (by exact Ab.fin hs)) λe w ⟨he,hs⟩=>⟨he,?_⟩;refine Ar (BN (by omega) hs) λe w ⟨he,hs⟩=>⟨he,?_⟩;have e1:CS x=Yt ⟨Bq x.s k,x.q++[k]⟩:=by unfold CS Lq Yt;rw[hf]
  rw[e1];exact⟨rfl,hs⟩
theorem GK(hi:LX N x sr sf qr qf m)(hz:key.size<64)(hm:0<=CT c)(hF:QV N x)(hN:N<200000000){n:LE}(hn:n.2=(AO sr key,AO qr key))
  (hs:Ab W w (eB b c sb qb xb ((A8 x.s 1:Int)) ((A8 x.s 3:Int))::lst .s sb sr sf::lst .s qb qr qf::ixr Rec.iii xb 0 m::M)) :
  Calls PR 283 #[pq b 0,.agg #[.i n.1,.i n.2.1,.i n.2.2],.s key] w λe w'=>e = .returned (.tuple #[])/\Ab W w' (lirR b c N (DR c x key)::M):=by
 refine c1 (cw ⟨mixed,Tryz.func283,rfl⟩ Alm ?_);rw[hn];have hns:=hi.ns;have hnq:=hi.nq;refine Ai hs λnb w hs=>?_
 repeat (first|((with_reducible refine Bm ?_);first|refine A4 hs λw hs=>?_|fail)|fail)
 refine Ar (ME (W:=W) (M:=lst .s qb qr qf::ixr Rec.iii xb 0 m::M) (c:=c) (b:=b) (nb:=nb) (sb:=sb) (qb:=qb) (xb:=xb) (h:=(A8 x.s 1:Int)) (g:=(A8 x.s 3:Int)) (i:=1) (s:=AO sr key) (q:=AO qr key) (key:=key) (sr:=sr) (sf:=sf) (by exact Ab.fin hs) (by omega) hi.snd.1 rfl) λe w ⟨he,sr',sf',hp,hs⟩=>⟨he,?_⟩;refine Ar (FX (W:=W) (M:=lst .s sb sr' sf'::ixr Rec.iii xb 0 m::M) (c:=c) (b:=b) (nb:=nb) (sb:=sb) (qb:=qb) (xb:=xb) (h:=(A8 x.s 1:Int)) (g:=(A8 x.s 3:Int)) (i:=1) (s:=AO sr' key) (q:=AO qr key) (key:=key) (qr:=qr) (qf:=qf) (by exact Ab.fin hs) (by omega) hi.snd.2 rfl) λe w ⟨he,qf',hc,hs⟩=>⟨he,?_⟩
 repeat (first|((with_reducible refine A2 ?_);first|refine Ah hs ?_|fail)|fail)
 have hu:=hi.heat hF hz hp hc;have hk:(1:Int)=lK (He x.s key 1) (Ao x.q key) key:=(Vi _ _ _).symm;refine Ar (Dc (W:=W) (M:=M) (c:=c) (b:=b) (n:=(1,AO sr' key,0)) hi hu hz (Ys _ _ _) hk (by omega) (by exact Ab.fin hs)) λe w ⟨he,hs⟩=>⟨he,?_⟩;obtain⟨sb,qb,xb,sr,sf,qr,qf,m,hi,hs⟩:=BS hs
 repeat (first|with_reducible refine Aa ?_|((with_reducible refine A2 ?_);first|refine Ah hs ?_|fail)|((with_reducible refine BY ?_);first|refine Aq ?_|fail)|((with_reducible refine Bf ?_);first|refine AW hs ?_|fail)|with_reducible refine A9 hs λw hs=>?_|fail)
 have hF2:(Du x key).q.length+1<=N:=by
  have a1:=Bj x.q key;have a2:=hF.2
  show(Ao x.q key).length+1<=N;omega
 unfold DR
 with_reducible refine Ay (λh1=>?_) (λh1=>?_)
 ·rw[if_pos (by omega)];refine Ar (Js (W:=W) (M:=M) (b:=b) (c:=c) (N:=N) (x:=Du x key) hF2 (by omega) (by omega) (Ci hi rfl rfl (by exact Ab.fin hs))) λe w ⟨he,hs⟩=>⟨he,?_⟩;exact⟨rfl,hs⟩
 ·rw[if_neg (by omega)];exact⟨rfl,DY (Ci hi rfl rfl (by exact Ab.fin hs)) (by omega)⟩
theorem FW(hi:LX N x sr sf qr qf m)(hz:key.size<64)(hF:QV N x)(hN:N<200000000){n:LE}(hn:n.2=(AO sr key,AO qr key))
  (hs:Ab W w (eB b c sb qb xb ((A8 x.s 1:Int)) ((A8 x.s 3:Int))::lst .s sb sr sf::lst .s qb qr qf::ixr Rec.iii xb 0 m::M)) :
  Calls PR 285 #[pq b 0,.agg #[.i n.1,.i n.2.1,.i n.2.2],.s key] w λe w'=>e = .returned (.tuple #[])/\Ab W w' (lirR b c N (Cf x key)::M):=by
 refine c1 (cw ⟨mixed,Tryz.func285,rfl⟩ Alo ?_);rw[hn];have hns:=hi.ns;have hnq:=hi.nq;refine Ai hs λnb w hs=>?_
 repeat (first|((with_reducible refine Bm ?_);first|refine A4 hs λw hs=>?_|fail)|fail)
 refine Ar (ME (W:=W) (M:=lst .s qb qr qf::ixr Rec.iii xb 0 m::M) (c:=c) (b:=b) (nb:=nb) (sb:=sb) (qb:=qb) (xb:=xb) (h:=(A8 x.s 1:Int)) (g:=(A8 x.s 3:Int)) (i:=2) (s:=AO sr key) (q:=AO qr key) (key:=key) (sr:=sr) (sf:=sf) (by exact Ab.fin hs) (by omega) hi.snd.1 rfl) λe w ⟨he,sr',sf',hp,hs⟩=>⟨he,?_⟩;refine Ar (MD (W:=W) (M:=lst .s sb sr' sf'::ixr Rec.iii xb 0 m::M) (c:=c) (b:=b) (nb:=nb) (sb:=sb) (qb:=qb) (xb:=xb) (h:=(A8 x.s 1:Int)) (g:=(A8 x.s 3:Int)) (i:=2) (s:=AO sr' key) (q:=AO qr key) (key:=key) (qr:=qr) (qf:=qf) (by exact Ab.fin hs) (by omega) hi.snd.2 rfl) λe w ⟨he,qr',qf',hc,hs⟩=>⟨he,?_⟩
 repeat (first|((with_reducible refine A2 ?_);first|refine Ah hs ?_|fail)|fail)
 have hu:=hi.chill hF hz hp hc;have hk:(2:Int)=lK (He x.s key 2) (Ao x.q key++[key]) key:=(Vi _ _ _).symm;refine Ar (Dc (W:=W) (M:=M) (c:=c) (b:=b) (n:=(2,AO sr' key,AO qr' key)) hi hu hz (Ys _ _ _) hk (by omega) (by exact Ab.fin hs)) λe w ⟨he,hs⟩=>⟨he,?_⟩;exact⟨rfl,DY hs (by omega)⟩
end
end Go.Proofs.YtjipofkjmmpjdaaGreat
namespace Go.Hb
theorem Vh{x:Bb}(h:LW x)(k:BA):IQ x.s k=1↔lK x.s x.q k=1:=by rw[Lu h,Dj h.sn (by decide)]
theorem Agh{x:Bb}(h:LW x)(k:BA):IQ x.s k=3↔lK x.s x.q k=3:=by rw[K7 h,Dj h.sn (by decide)]
theorem Ad0{x:Bb}(h:LW x){k:BA}(hq:k∈x.q):IQ x.s k=2↔k∈AR x.s:=by
 rw[Dj h.sn (by decide)];constructor
 ·intro hm;exact List.mem_map.2 ⟨_,hm,rfl⟩
 ·intro hm;obtain⟨e,he,rfl⟩:=List.mem_map.1 hm;rcases h.kinds e he with h1|h1|h1
  ·exact absurd hq (h.hotq e he h1)
  ·rw[<- h1];exact he
  ·exact absurd hq (h.ghq e he h1)
theorem Ady(S:SL)(i:Int):A8 S i<=S.length:=List.countP_le_length
end Go.Hb
namespace Go.Proofs.YtjipofkjmmpjdaaGreat
open Go.Hb Go.IntWalk
section
variable{W w:World}{L M:List HP}{F:HP->List HP}{b nb tb:Nat}{c:Int}{N N':Nat}{x y:Bb}{sb qb xb:Nat}{row sr sr' qr qr':D1}{free sf sf' qf qf':List Nat}{m:LM}{key:BA}{h g i:Int}
theorem Aw6(h:Ab W w (lirR b c N x::M)):w.cell? ⟨b,0,none⟩=some (.i c):=by
 obtain⟨sb,qb,xb,sr,sf,qr,qf,m,hi,h⟩:=BS h;exact h.cell (q:=0) rfl
theorem Agt(hs:Ab W w L)[hA:At L b (lirR b c N x) F]:Calls PR 279 #[pq b 0] w λe w'=>e = .returned (.i c)/\Ab W w' (F (lirR b c N x)):=by
 refine At.call1 (hA:=hA) hs λM hs=>?_;clear hA;refine c1 (cw ⟨mixed,Tryz.func279,rfl⟩ Ali ?_);obtain⟨sb,qb,xb,sr,sf,qr,qf,m,hi,hs⟩:=BS hs;refine Ac rfl ?_
 repeat (first|with_reducible refine Aa ?_|((with_reducible refine A2 ?_);first|refine Ah hs ?_|fail)|fail)
 exact⟨rfl,Ci hi rfl rfl (by exact Ab.fin hs)⟩
theorem MC(hi:LX N x sr sf qr qf m)(hN:N<400000000)(hs:Ab W w (eB b c sb qb xb ((A8 x.s 1:Int)) ((A8 x.s 3:Int))::lst .s sb sr sf::lst .s qb qr qf::ixr Rec.iii xb 0 m::M)) :
  Calls PR 276 #[pq b 0] w λe w'=>e = .returned (.i (C0 x:Int))/\Ab W w' (eB b c sb qb xb ((A8 x.s 1:Int)) ((A8 x.s 3:Int))::lst .s sb sr sf::lst .s qb qr qf::ixr Rec.iii xb 0 m::M):=by
 refine c1 (cw ⟨mixed,Tryz.func276,rfl⟩ Alf ?_);have h1:=Ady x.s 1;have hns:=hi.ns;have hnq:=hi.nq;have hq:qr.length=x.q.length:=by have:=congrArg List.length hi.qk;simpa using this
 have hq2:sr.length=x.s.length:=by have:=congrArg List.length hi.sk;simpa[AR] using this
 refine Ac rfl ?_;refine Al [eB b c sb qb xb ((A8 x.s 1:Int)) ((A8 x.s 3:Int))] hs λw hs=>?_
 repeat (first|with_reducible refine Aa ?_|((with_reducible refine BY ?_);first|refine Aq ?_|fail)|fail)
 refine Am (Fc hs) λe w ⟨he,hs⟩=>⟨_,he,?_⟩
 repeat (first|((with_reducible refine Bf ?_);first|refine Af hs ?_|fail)|fail)
 rw[i64_in _ (by omega),hq];exact⟨rfl,by exact Ab.fin hs⟩
theorem Qe(hs:Ab W w L)[hA:At L b (lirR b c N x) F](hN:N<400000000):Calls PR 276 #[pq b 0] w λe w'=>e = .returned (.i (C0 x:Int))/\Ab W w' (F (lirR b c N x)):=by
 refine At.call1 (hA:=hA) hs λM hs=>?_;obtain⟨sb,qb,xb,sr,sf,qr,qf,m,hi,hs⟩:=BS hs;exact(MC hi hN hs).mono λe w ⟨he,hs⟩=>⟨he,Ci hi rfl rfl hs⟩
theorem Qd(hs:Ab W w L)[hA:At L b (lirR b c N x) F](hz:key.size<64):Calls PR 274 #[pq b 0,.s key] w λe w'=>e = .returned (.b (decide (key∈BG x)))/\Ab W w' (F (lirR b c N x)):=by
 refine At.call1 (hA:=hA) hs λM hs=>?_;clear hA;refine c1 (cw ⟨mixed,Tryz.func274,rfl⟩ Ald ?_);obtain⟨sb,qb,xb,sr,sf,qr,qf,m,hi,hs⟩:=BS hs;refine Ac rfl ?_
 repeat (first|with_reducible refine Aa ?_|((with_reducible refine A2 ?_);first|refine Ah hs ?_|fail)|fail)
 refine(CQ hs (by omega)).mono λe w ⟨he,hs⟩=>⟨_,_,_,_,he,?_⟩;have hG:(AE m key).getD ((0,0,0):Int×Int×Int)=lG m key:=rfl;rw[hG,hi.ent]
 repeat (first|((with_reducible refine A2 ?_);first|refine Ah hs ?_|fail)|((with_reducible refine Bm ?_);first|refine A4 hs λw hs=>?_|fail)|with_reducible refine Ai hs λb_ w hs=>?_|fail)
 with_reducible refine Ay (λh1=>?_) (λh1=>?_)
 ·have:key∈BG x:=Bc.2 (.inr ((Lu hi.w key).1 h1));rw[decide_eq_true this];exact⟨rfl,Ci hi rfl rfl (by exact Ab.fin hs)⟩
 ·repeat (first|((with_reducible refine A2 ?_);first|refine Ah hs ?_|fail)|fail)
  have:(lK x.s x.q key==2)=decide (key∈BG x):=by
   rw[Bool.eq_iff_iff,beq_iff_eq,decide_eq_true_eq,JA hi.w,Bc];exact⟨.inl,λh=>h.elim id λh=>absurd ((Lu hi.w key).2 h) h1⟩
  rw[this];exact⟨rfl,Ci hi rfl rfl (by exact Ab.fin hs)⟩
theorem Y1(hs:Ab W w L)[hA:At L b (lirR b c N x) F](hz:key.size<64)(hN:N<200000000):Calls PR 278 #[pq b 0,.s key] w λe w'=>e = .returned (.b (KA x key).1)/\Ab W w' (F (lirR b c N (KA x key).2)):=by
 refine At.call1 (hA:=hA) hs λM hs=>?_;clear hA;refine c1 (cw ⟨mixed,Tryz.func278,rfl⟩ Alh ?_);refine Am (Qd hs hz) λe w ⟨he,hs⟩=>⟨_,he,?_⟩;have hHas:=A3k (Qb hs).1 (k:=key)
 by_cases hk:key∈BG x
 ·rw[decide_eq_true hk] at hHas ⊢;have hcond:IQ x.s key=1\/key∈x.q:=by simpa using hHas
  refine Ac rfl ?_;obtain⟨sb,qb,xb,sr,sf,qr,qf,m,hi,hs⟩:=BS hs;have hns:=hi.ns;have hnq:=hi.nq
  repeat (first|with_reducible refine Aa ?_|((with_reducible refine A2 ?_);first|refine Ah hs ?_|fail)|fail)
  refine(CQ hs (by omega)).mono λe w ⟨he,hs⟩=>⟨_,_,_,_,he,?_⟩;have hG:(AE m key).getD ((0,0,0):Int×Int×Int)=lG m key:=rfl;rw[hG,hi.ent];refine Ai hs λnb w hs=>?_
  repeat (first|with_reducible refine Aa ?_|((with_reducible refine A2 ?_);first|refine Ah hs ?_|fail)|((with_reducible refine Bm ?_);first|refine A4 hs λw hs=>?_|fail)|((with_reducible refine BY ?_);first|refine Aq ?_|fail)|((with_reducible refine Bf ?_);first|refine AW hs ?_|fail)|with_reducible refine A9 hs λw hs=>?_|fail)
  refine AG (EZ (key:=key) hs (by omega) hi.snd.1 rfl) λe w ⟨⟨_,_,he⟩,f',hc,hs⟩=>⟨_,_,he,?_⟩;refine Ar (FX (W:=W) (M:=lst .s sb (CX sr key) f'::ixr Rec.iii xb 0 m::M) (c:=c) (b:=b) (nb:=nb) (sb:=sb) (qb:=qb) (xb:=xb) (h:=(A8 x.s 1:Int)) (g:=(A8 x.s 3:Int)) (i:=lK x.s x.q key) (s:=AO sr key) (q:=AO qr key) (key:=key) (qr:=qr) (qf:=qf) (by exact Ab.fin hs) (by omega) hi.snd.2 rfl) λe w ⟨he,qf',hc2,hs⟩=>⟨he,?_⟩;have hu:=hi.rem hz hc hc2;have hk0:(0:Int)=lK (Bq x.s key) (Ao x.q key) key:=by rw[J9,if_neg (λh=>(AK.1 h).2 rfl)]
  refine Ar (Dc (W:=W) (M:=M) (c:=c) (b:=b) (n:=(0,0,0)) hi hu hz (Hc _ _) hk0 (by omega) (by exact Ab.fin hs)) λe w ⟨he,hs⟩=>⟨he,?_⟩;refine Ar (BN (by omega) hs) λe w ⟨he,hs⟩=>⟨he,?_⟩;unfold KA;rw[if_pos hcond];exact⟨rfl,hs⟩
 ·rw[decide_eq_false hk] at hHas ⊢;have hcond:¬(IQ x.s key=1\/key∈x.q):=by simpa using hHas
  refine Ak rfl ?_;unfold KA;rw[if_neg hcond];exact⟨rfl,hs⟩
theorem Ags(hs:Ab W w L)[hA:At L b (lirR b c N x) F](hz:key.size<64)(hm:0<=CT c)(hF:QV N x)(hN:N<200000000):Calls PR 277 #[pq b 0,.s key] w λe w'=>e = .returned (.b (Fq c x key).1)/\Ab W w' (F (lirR b c N (Fq c x key).2)):=by
 refine At.call1 (hA:=hA) hs λM hs=>?_;clear hA;refine c1 (cw ⟨mixed,Tryz.func277,rfl⟩ Alg ?_);have hHas:=A3k (Qb hs).1 (k:=key);have hlen:(C0 x:Int)<=2*N:=by
  have hw:=Qb hs;have h1:=Ady x.s 1;unfold C0;omega
 refine Al [lirR b c N x] hs λw hs=>?_;refine Ac rfl ?_;refine Am (Qd hs hz) λe w ⟨he,hs⟩=>⟨_,he,?_⟩;refine Af hs ?_
 by_cases hk:key∈BG x
 ·rw[decide_eq_true hk] at hHas ⊢;have hcond:IQ x.s key=1\/key∈x.q:=by simpa using hHas
  refine Ak rfl ?_;refine Af hs ?_;have e1:Fq c x key=(false,x):=by unfold Fq;rw[if_pos (hcond.elim .inl λh=>.inr (.inl h))]
  rw[e1];exact⟨rfl,DY hs (by omega)⟩
 ·rw[decide_eq_false hk] at hHas ⊢;have hcond:¬(IQ x.s key=1\/key∈x.q):=by simpa using hHas
  refine Ac rfl ?_;refine Aa ?_;refine FV (k:=.int .i64) c (λw' h=>Aw6 h) ?_;refine Am (Qe hs (by omega)) λe w ⟨he,hs⟩=>⟨_,he,?_⟩;refine Af hs ?_
  with_reducible refine Ay (λhl=>?_) (λhl=>?_)
  ·have e1:Fq c x key=(false,x):=by unfold Fq;rw[if_pos (.inr (.inr hl))]
   rw[e1];exact⟨rfl,DY hs (by omega)⟩
  ·have e1:Fq c x key=(true,Yt (if (A8 x.s 1:Int)<CT c then DR c x key else Cf x key)):=by unfold Fq;rw[if_neg (λh=>h.elim (λh=>hcond (.inl h)) λh=>h.elim (λh=>hcond (.inr h)) hl)]
   rw[e1];refine jw WY ?_;obtain⟨sb,qb,xb,sr,sf,qr,qf,m,hi,hs⟩:=BS hs
   repeat (first|with_reducible refine Aa ?_|((with_reducible refine A2 ?_);first|refine Ah hs ?_|fail)|fail)
   refine(CQ hs (by omega)).mono λe w ⟨he,hs⟩=>⟨_,_,_,_,he,?_⟩;have hG:(AE m key).getD ((0,0,0):Int×Int×Int)=lG m key:=rfl;rw[hG]
   repeat (first|with_reducible refine Aa ?_|((with_reducible refine A2 ?_);first|refine Ah hs ?_|fail)|((with_reducible refine Bm ?_);first|refine A4 hs λw hs=>?_|fail)|with_reducible refine Ai hs λb_ w hs=>?_|((with_reducible refine BY ?_);first|refine Aq ?_|fail)|((with_reducible refine Bf ?_);first|refine AW hs ?_|fail)|with_reducible refine A9 hs λw hs=>?_|fail)
   with_reducible refine Ay (λhh=>?_) (λhh=>?_)
   ·rw[if_pos hh]
    repeat (first|((with_reducible refine A2 ?_);first|refine Ah hs ?_|fail)|fail)
    refine Ar (GK (W:=W) (M:=M) (c:=c) (b:=b) hi hz hm hF (by omega) (n:=lG m key) (by rw[hi.ent]) (by exact Ab.fin hs)) λe w ⟨he,hs⟩=>⟨he,?_⟩;refine Ar (BN (by omega) hs) λe w ⟨he,hs⟩=>⟨he,?_⟩;exact⟨rfl,hs⟩
   ·rw[if_neg hh]
    repeat (first|((with_reducible refine A2 ?_);first|refine Ah hs ?_|fail)|fail)
    refine Ar (FW (W:=W) (M:=M) (c:=c) (b:=b) hi hz hF (by omega) (n:=lG m key) (by rw[hi.ent]) (by exact Ab.fin hs)) λe w ⟨he,hs⟩=>⟨he,?_⟩;refine Ar (BN (by omega) hs) λe w ⟨he,hs⟩=>⟨he,?_⟩;exact⟨rfl,hs⟩
theorem Jr{q1:BA}{t:List BA}(hq:x.q=q1::t)(hc:0<=c)(hN:N<200000000)(hs:Ab W w (lirR b c N x::M)) :
  Uv Be (λv w'=>v = .tuple #[.s q1,.b true]/\Ab W w' (lirR b c N (Zi c ⟨BZ x.s q1,t⟩)::M)) (some ⟨b,0,none⟩) w:=by
 refine jw WX ?_;obtain⟨sb,qb,xb,sr,sf,qr,qf,m,hi,hs⟩:=BS hs;have hnq:=hi.nq;obtain⟨hnS,hpS⟩:=IU (b:=sb) (row:=sr) (free:=sf) (M:=eB b c sb qb xb ((A8 x.s 1:Int)) ((A8 x.s 3:Int))::lst .s qb qr qf::ixr Rec.iii xb 0 m::M) (by exact Ab.fin hs);obtain⟨hn,hp⟩:=IU (b:=qb) (row:=qr) (free:=qf) (M:=eB b c sb qb xb ((A8 x.s 1:Int)) ((A8 x.s 3:Int))::lst .s sb sr sf::ixr Rec.iii xb 0 m::M) (by exact Ab.fin hs);have hlen:qr.length=x.q.length:=by have:=congrArg List.length hi.qk;simpa using this
 have hlt:0<qr.length:=by rw[hlen,hq];simp
 have hkey:qr[0].2=q1:=by
  have:=congrArg (λl:List BA=>l[0]?) hi.qk;rw[hq] at this;simp only[List.getElem?_map,List.getElem?_eq_getElem hlt,List.getElem?_cons_zero,Option.map_some,Option.some.injEq] at this;exact this
 have hz:q1.size<64:=hi.w.qsm _ (by rw[hq];exact .head _);refine Al [eB b c sb qb xb ((A8 x.s 1:Int)) ((A8 x.s 3:Int))] hs λw hs=>?_
 repeat (first|with_reducible refine Aa ?_|((with_reducible refine A2 ?_);first|refine Ah hs ?_|fail)|((with_reducible refine BY ?_);first|refine Aq ?_|fail)|((with_reducible refine Bf ?_);first|refine Af hs ?_|fail)|fail)
 refine Am (DM hs) λe w ⟨he,hs⟩=>⟨_,he,?_⟩
 repeat (first|((with_reducible refine Bf ?_);first|refine Af hs ?_|fail)|fail)
 refine AG (Fb hs) λe w ⟨he,hs⟩=>⟨_,_,he,?_⟩;rw[HQ hn hlt];rw[Option.getD_some,hkey]
 repeat (first|with_reducible refine Aa ?_|((with_reducible refine A2 ?_);first|refine Ah hs ?_|fail)|fail)
 refine(CQ hs (by omega)).mono λe w ⟨he,hs⟩=>⟨_,_,_,_,he,?_⟩;have hG:(AE m q1).getD ((0,0,0):Int×Int×Int)=lG m q1:=rfl;rw[hG,hi.ent];refine Ai hs λnb w hs=>?_
 repeat (first|((with_reducible refine Bm ?_);first|refine A4 hs λw hs=>?_|fail)|fail)
 refine Ar (FX (W:=W) (M:=lst .s sb sr sf::ixr Rec.iii xb 0 m::M) (c:=c) (b:=b) (nb:=nb) (sb:=sb) (qb:=qb) (xb:=xb) (h:=(A8 x.s 1:Int)) (g:=(A8 x.s 3:Int)) (i:=lK x.s x.q q1) (s:=AO sr q1) (q:=AO qr q1) (key:=q1) (qr:=qr) (qf:=qf) (by exact Ab.fin hs) (by omega) hi.snd.2 rfl) λe w ⟨he,qf',hc2,hs⟩=>⟨he,?_⟩;obtain⟨hu,hk⟩:=hi.ghost hq hpS hc2
 repeat (first|((with_reducible refine A2 ?_);first|refine Ah hs ?_|fail)|((with_reducible refine Bm ?_);first|refine A4 hs λw hs=>?_|fail)|fail)
 with_reducible refine Ay (λh0=>?_) (λh0=>?_)
 ·rw[if_pos h0] at hu hk
  repeat (first|((with_reducible refine Bm ?_);first|refine A4 hs λw hs=>?_|fail)|fail)
  refine jw Mj ?_
  repeat (first|((with_reducible refine A2 ?_);first|refine Ah hs ?_|fail)|fail)
  refine Ar (Dc (W:=W) (M:=M) (c:=c) (b:=b) (n:=(0,AO sr q1,0)) hi hu hz (PT _ _) hk (by omega) (by exact Ab.fin hs)) λe w ⟨he,hs⟩=>⟨he,?_⟩;refine Ar (Ef (by omega) hc hs) λe w ⟨he,hs⟩=>⟨he,?_⟩;refine Ar (BN (by omega) hs) λe w ⟨he,hs⟩=>⟨he,?_⟩;exact⟨rfl,hs⟩
 ·rw[if_neg h0] at hu hk;refine jw Mj ?_
  repeat (first|((with_reducible refine A2 ?_);first|refine Ah hs ?_|fail)|fail)
  refine Ar (Dc (W:=W) (M:=M) (c:=c) (b:=b) (n:=(3,AO sr q1,0)) hi hu hz (PT _ _) hk (by omega) (by exact Ab.fin hs)) λe w ⟨he,hs⟩=>⟨he,?_⟩;refine Ar (Ef (by omega) hc hs) λe w ⟨he,hs⟩=>⟨he,?_⟩;refine Ar (BN (by omega) hs) λe w ⟨he,hs⟩=>⟨he,?_⟩;exact⟨rfl,hs⟩
theorem Qc(hs:Ab W w L)[hA:At L b (lirR b c N x) F](hc:0<=c)(hF:QV N x)(hN:N<190000000):Calls PR 272 #[pq b 0] w λe w'=>e = .returned (.tuple #[.s (Cv c x).1.1,.b (Cv c x).1.2])/\Ab W w' (F (lirR b c N (Cv c x).2)):=by
 refine At.call1 (hA:=hA) hs λM hs=>?_;clear hA;refine c1 (cw ⟨mixed,Tryz.func272,rfl⟩ Alc ?_);have hw:=(Qb hs).1;refine Am (Qe hs (by omega)) λe w ⟨he,hs⟩=>⟨_,he,?_⟩
 with_reducible refine Ay (λh0=>?_) (λh0=>?_)
 ·have e1:Cv c x=((⟨#[]⟩,false),x):=by unfold Cv;rw[if_pos (by omega)]
  rw[e1];exact⟨rfl,DY hs (by omega)⟩
 ·have e1:Cv c x=(((PQ x).q.headD ⟨#[]⟩,true),Zi c ⟨BZ (PQ x).s ((PQ x).q.headD ⟨#[]⟩),(PQ x).q.drop 1⟩):=by unfold Cv;rw[if_neg (by omega)]
  obtain⟨sb,qb,xb,sr,sf,qr,qf,m,hi,hs⟩:=BS hs;have hq:qr.length=x.q.length:=by have:=congrArg List.length hi.qk;simpa using this
  repeat (first|with_reducible refine Aa ?_|((with_reducible refine A2 ?_);first|refine Ah hs ?_|fail)|fail)
  refine Am (Fc hs) λe w ⟨he,hs⟩=>⟨_,he,?_⟩;rw[e1]
  with_reducible refine Ay (λhq0=>?_) (λhq0=>?_)
  ·have hqn:x.q=[]:=List.length_eq_zero_iff.1 (by omega);have hp:0<A8 x.s 1:=by unfold C0 at h0;rw[hqn] at h0;simp at h0;omega
   refine Ar (Js (W:=W) (M:=M) (b:=b) (c:=c) (N:=N) (x:=x) hF.2 (by omega) hp (Ci hi rfl rfl (by exact Ab.fin hs))) λe w ⟨he,hs⟩=>⟨he,?_⟩;have e2:PQ x=CS x:=if_pos hqn;obtain⟨k,hk,e3,_⟩:=Lr hw hp;have e4:(CS x).q=k::[]:=by unfold CS;rw[e3,hqn];rfl
   have:=Jr e4 hc (by omega) hs;rw[e2,e4];exact this
  ·have hqn:x.q≠[]:=λh=>hq0 (by rw[hq,h];rfl);obtain⟨k,t,hk⟩:∃k t,x.q=k::t:=by
    cases hh:x.q with
    | nil=>exact absurd hh hqn
    | cons k t=>exact⟨k,t,rfl⟩
   have e2:PQ x=x:=if_neg hqn;have:=Jr (W:=W) (M:=M) (b:=b) (N:=N) hk hc (by omega) (DY (Ci hi rfl rfl (by exact Ab.fin hs)) (by omega));rw[e2,hk];exact this
theorem I2{sl:Sl}{Q:VW}(hQ:∀w',Ab W w' (lirR b c N (Zi c (Re c y key))::M)->Q (.tuple #[.b false,.l sl.a sl.n sl.c]) w')(hi:LX N y sr sf qr qf m)(hz:key.size<64)(hm:0<=CT c)(hc:0<=c)(hF:QV N y)(hN:N<200000000)
  (hs:Ab W w (blk nb [.i (lG m key).1,.i (lG m key).2.1,.i (lG m key).2.2]::eB b c sb qb xb ((A8 y.s 1:Int)) ((A8 y.s 3:Int))::lst .s sb sr sf::lst .s qb qr qf::ixr Rec.iii xb 0 m::M)) :
  Ut Be Q (some ⟨b,0,none⟩) key nb 0 sl w:=by
 have hj4:∀(t:Bool)(w:World),t=decide ((A8 y.s 1:Int)<CT c\/IQ y.s key=3)->Ab W w (blk nb [.i (lG m key).1,.i (lG m key).2.1,.i (lG m key).2.2]::eB b c sb qb xb ((A8 y.s 1:Int)) ((A8 y.s 3:Int))::lst .s sb sr sf::lst .s qb qr qf::ixr Rec.iii xb 0 m::M) ->
   Uu Be Q (some ⟨b,0,none⟩) key nb 0 sl t w:=by
  intro t w ht hs;refine jw WW ?_;refine Ap (λh1=>?_) (λh1=>?_)
  ·rw[h1] at ht;have e1:Re c y key=DR c y key:=if_pos (of_decide_eq_true ht.symm);rw[e1] at hQ
   repeat (first|((with_reducible refine A2 ?_);first|refine Ah hs ?_|fail)|fail)
   refine Ar (GK (W:=W) (M:=M) (c:=c) (b:=b) hi hz hm hF (by omega) (n:=lG m key) (by rw[hi.ent]) (by exact Ab.fin hs)) λe w ⟨he,hs⟩=>⟨he,?_⟩;refine Ar (Ef (by omega) hc hs) λe w ⟨he,hs⟩=>⟨he,?_⟩;refine Ar (BN (by omega) hs) λe w ⟨he,hs⟩=>⟨he,?_⟩;exact hQ _ hs
  ·rw[h1] at ht;have e1:Re c y key=Cf y key:=if_neg (of_decide_eq_false ht.symm);rw[e1] at hQ
   repeat (first|((with_reducible refine A2 ?_);first|refine Ah hs ?_|fail)|fail)
   refine Ar (FW (W:=W) (M:=M) (c:=c) (b:=b) hi hz hF (by omega) (n:=lG m key) (by rw[hi.ent]) (by exact Ab.fin hs)) λe w ⟨he,hs⟩=>⟨he,?_⟩;refine Ar (Ef (by omega) hc hs) λe w ⟨he,hs⟩=>⟨he,?_⟩;refine Ar (BN (by omega) hs) λe w ⟨he,hs⟩=>⟨he,?_⟩;exact hQ _ hs
 refine jw WV ?_
 repeat (first|with_reducible refine Aa ?_|((with_reducible refine A2 ?_);first|refine Ah hs ?_|fail)|((with_reducible refine BY ?_);first|refine Aq ?_|fail)|((with_reducible refine Bf ?_);first|refine AW hs ?_|fail)|with_reducible refine A9 hs λw hs=>?_|fail)
 with_reducible refine Ay (λh1=>?_) (λh1=>?_)
 ·have ht:true=decide ((A8 y.s 1:Int)<CT c\/IQ y.s key=3):=by rw[decide_eq_true (Or.inl h1)]
  with_reducible refine hj4 true w ht ?_
  exact Ab.fin hs
 ·repeat (first|((with_reducible refine A2 ?_);first|refine Ah hs ?_|fail)|fail)
  refine hj4 _ w ?_ (by exact Ab.fin hs);rw[Bool.eq_iff_iff,beq_iff_eq,decide_eq_true_eq,hi.ent,Agh hi.w];exact⟨.inr,λh=>h.elim (λh=>absurd h h1) id⟩
theorem Yz(hs:Ab W w L)[hA:At L b (lirR b c N x) F](hz:key.size<64)(hm:0<=CT c)(hc:0<=c)(hF:QV N x)(hF2:QV N (Hd c x).2)(hN:N<180000000) :
  Calls PR 271 #[pq b 0,.s key] w λe w'=>∃l:Sl,e = .returned (.tuple #[.b (Fp c x key).1.1,.l l.a l.n l.c])/\Ab W w' (recs Rec.str l (Fp c x key).1.2::F (lirR b c N (Fp c x key).2)):=by
 refine At.oneX (hA:=hA) hs λM hs hb2=>?_;refine(cw ⟨mixed,Tryz.func271,rfl⟩ Alb (Q:=λv w'=>∃l:Sl,v = .tuple #[.b (Fp c x key).1.1,.l l.a l.n l.c]/\Ab W w' (lirR b c N (Fp c x key).2::recs Rec.str l (Fp c x key).1.2::M)) ?_).mono λe w' ⟨v,he,l,hv,hs⟩=>⟨l,by rw[he,hv],hb2 _ _ [recs Rec.str l (Fp c x key).1.2] hs⟩;clear hb2 hA;have hw:=(Qb hs).1;obtain⟨sb,qb,xb,sr,sf,qr,qf,m,hi,hs⟩:=BS hs;obtain⟨hnS,hpS⟩:=IU (b:=sb) (row:=sr) (free:=sf) (M:=eB b c sb qb xb ((A8 x.s 1:Int)) ((A8 x.s 3:Int))::lst .s qb qr qf::ixr Rec.iii xb 0 m::M) (by exact Ab.fin hs);have hE:=hi.ent key
 refine Ac rfl ?_
 repeat (first|with_reducible refine Aa ?_|((with_reducible refine A2 ?_);first|refine Ah hs ?_|fail)|fail)
 refine(CQ hs (by omega)).mono λe w ⟨he,hs⟩=>⟨_,_,_,_,he,?_⟩;have hG:(AE m key).getD ((0,0,0):Int×Int×Int)=lG m key:=rfl;rw[hG];refine Ai hs λnb w hs=>?_;have hj1:∀(t:Bool)(w:World),t=decide (IQ x.s key=1\/(key∈x.q/\IQ x.s key=2))->Ab W w (blk nb [.i (lG m key).1,.i (lG m key).2.1,.i (lG m key).2.2]::eB b c sb qb xb ((A8 x.s 1:Int)) ((A8 x.s 3:Int))::lst .s sb sr sf::lst .s qb qr qf::ixr Rec.iii xb 0 m::M) ->
   NZ Be (λv w'=>∃l:Sl,v = .tuple #[.b (Fp c x key).1.1,.l l.a l.n l.c]/\Ab W w' (lirR b c N (Fp c x key).2::recs Rec.str l (Fp c x key).1.2::M)) (some ⟨b,0,none⟩) key nb 0 t w:=by
  clear hs;intro t w ht hs;refine jw WT ?_;refine Ap (λh1=>?_) (λh1=>?_)
  ·rw[h1] at ht;have e1:Fp c x key=((true,[]),Yt (DR c x key)):=if_pos (of_decide_eq_true ht.symm);rw[e1]
   repeat (first|((with_reducible refine A2 ?_);first|refine Ah hs ?_|fail)|fail)
   refine Ar (GK (W:=W) (M:=M) (c:=c) (b:=b) hi hz hm hF (by omega) (n:=lG m key) (by rw[hi.ent]) (by exact Ab.fin hs)) λe w ⟨he,hs⟩=>⟨he,?_⟩;refine Ar (BN (by omega) hs) λe w ⟨he,hs⟩=>⟨he,?_⟩;exact⟨⟨none,0,0⟩,rfl,(Ab.nilR Rec.str (DY hs (by omega))).perm (List.Perm.swap _ _ _)⟩
  ·rw[h1] at ht;have ht:=of_decide_eq_false ht.symm
   repeat (first|((with_reducible refine A2 ?_);first|refine Ah hs ?_|fail)|fail)
   with_reducible refine Ay (λh2=>?_) (λh2=>?_)
   ·rw[hE] at h2;have hq:=(JA hw key).1 h2;have e1:Fp c x key=((true,[]),Yt (Cf x key)):=by unfold Fp;rw[if_neg ht,if_pos hq]
    rw[e1]
    repeat (first|((with_reducible refine A2 ?_);first|refine Ah hs ?_|fail)|fail)
    refine Ar (FW (W:=W) (M:=M) (c:=c) (b:=b) hi hz hF (by omega) (n:=lG m key) (by rw[hi.ent]) (by exact Ab.fin hs)) λe w ⟨he,hs⟩=>⟨he,?_⟩;refine Ar (BN (by omega) hs) λe w ⟨he,hs⟩=>⟨he,?_⟩;exact⟨⟨none,0,0⟩,rfl,(Ab.nilR Rec.str (DY hs (by omega))).perm (List.Perm.swap _ _ _)⟩
   ·rw[hE] at h2;have hq:key∉x.q:=λhq=>h2 ((JA hw key).2 hq);have e1:Fp c x key=((false,(Hd c x).1),Zi c (Re c (Hd c x).2 key)):=by unfold Fp;rw[if_neg ht,if_neg hq]
    rw[e1];refine jw WU ?_;refine Al [eB b c sb qb xb ((A8 x.s 1:Int)) ((A8 x.s 3:Int))] hs λw hs=>?_
    repeat (first|with_reducible refine Aa ?_|((with_reducible refine BY ?_);first|refine Aq ?_|fail)|fail)
    refine Am (MC (W:=W) (M:=blk nb [.i (lG m key).1,.i (lG m key).2.1,.i (lG m key).2.2]::M) (b:=b) (c:=c) (sb:=sb) (qb:=qb) (xb:=xb) hi (by omega) (by exact Ab.fin hs)) λe w ⟨he,hs⟩=>⟨_,he,?_⟩
    repeat (first|((with_reducible refine Bf ?_);first|refine Af hs ?_|fail)|fail)
    with_reducible refine Ay (λh3=>?_) (λh3=>?_)
    ·have e2:Hd c x=([(Cv c x).1.1],(Cv c x).2):=if_pos (by omega);rw[e2];refine AG (Qc (Ci hi rfl rfl hs) hc hF (by omega)) λe w ⟨he,hs⟩=>⟨_,_,he,?_⟩
     repeat (first|with_reducible refine Ai hs λb_ w hs=>?_|fail)
     have hs:=Ab.nilR Rec.str hs;refine CA (s:=⟨none,0,0⟩) (a:=(Cv c x).1.1) hs rfl rfl rfl rfl (by decide) (by simp) λs4 w hs4 hs=>?_;have hs:Ab W w (lirR b c N (Cv c x).2::recs Rec.str s4 [(Cv c x).1.1]::blk nb [.i (lG m key).1,.i (lG m key).2.1,.i (lG m key).2.2]::M):=by exact Ab.fin hs
     obtain⟨sb,qb,xb,sr,sf,qr,qf,m2,hi2,hs⟩:=BS hs
     repeat (first|with_reducible refine Aa ?_|((with_reducible refine A2 ?_);first|refine Ah hs ?_|fail)|fail)
     refine(CQ hs (by omega)).mono λe w ⟨he,hs⟩=>⟨_,_,_,_,he,?_⟩;have hG:(AE m2 key).getD ((0,0,0):Int×Int×Int)=lG m2 key:=rfl;rw[hG]
     repeat (first|((with_reducible refine Bm ?_);first|refine A4 hs λw hs=>?_|fail)|fail)
     refine I2 (W:=W) (M:=recs Rec.str s4 [(Cv c x).1.1]::M) (sl:=s4) (b:=b) (nb:=nb) (w:=w) (c:=c) (sb:=sb) (qb:=qb) (xb:=xb) (λw hs=>⟨s4,rfl,by exact Ab.fin hs⟩) hi2 hz hm hc (by rw[e2] at hF2;exact hF2) (by omega) ?_;exact Ab.fin hs
    ·have e2:Hd c x=([],x):=if_neg (by omega);rw[e2];have hs:=Ab.nilR Rec.str hs;refine I2 (W:=W) (M:=recs Rec.str ⟨none,0,0⟩ []::M) (sl:=⟨none,0,0⟩) (b:=b) (nb:=nb) (w:=w) (c:=c) (sb:=sb) (qb:=qb) (xb:=xb) (λw hs=>⟨⟨none,0,0⟩,rfl,(DY hs (by omega)).perm (.refl _)⟩) hi hz hm hc hF (by omega) ?_;exact Ab.fin hs
 repeat (first|((with_reducible refine A2 ?_);first|refine Ah hs ?_|fail)|((with_reducible refine Bm ?_);first|refine A4 hs λw hs=>?_|fail)|fail)
 rw[hE]
 with_reducible refine Ay (λh1=>?_) (λh1=>?_)
 ·refine hj1 _ w ?_ (by exact Ab.fin hs);rw[h1,decide_eq_true (.inl ((Vh hw key).2 h1))];rfl
 ·repeat (first|((with_reducible refine A2 ?_);first|refine Ah hs ?_|fail)|fail)
  rw[hE]
  with_reducible refine Ay (λh2=>?_) (λh2=>?_)
  ·have hq:=(JA hw key).1 h2
   repeat (first|((with_reducible refine A2 ?_);first|refine Ah hs ?_|fail)|fail)
   refine hj1 _ w ?_ (by exact Ab.fin hs);rw[hE,Bool.eq_iff_iff,bne_iff_ne,decide_eq_true_eq];constructor
   ·intro h;exact .inr ⟨hq,(Ad0 hw hq).2 (Classical.byContradiction λhk=>h (hi.s0 hk))⟩
   ·rintro(h|h)
    ·exact absurd ((Vh hw key).1 h) h1
    ·exact T0 hpS (by rw[hi.sk];exact(Ad0 hw hq).1 h.2)
  ·with_reducible refine hj1 false w ?_ ?_
   rotate_left
   ·exact Ab.fin hs
   symm;rw[decide_eq_false_iff_not];rintro(h|h)
   ·exact h1 ((Vh hw key).1 h)
   ·exact h2 ((JA hw key).2 h.1)
end
end Go.Proofs.YtjipofkjmmpjdaaGreat
namespace Go.Hb
theorem Yv{S:SL}{i:Int}{j:Nat}(hj:j<S.length):Cp (S.take (j+1)) i=Cp (S.take j) i++(if (S.getD j default).2=i then [(S.getD j default).1] else []):=by
 unfold Cp;rw[Cc hj,List.filter_append,List.map_append];congr 1;rw[List.filter_cons];split <;> split <;> simp_all
theorem Agk(S:SL)(i:Int)(j:Nat):(Cp (S.take j) i).length<=j:=by
 unfold Cp;rw[List.length_map];exact Nat.le_trans (List.length_filter_le _ _) (by simp;omega)
theorem Agj(S:SL)(i:Int):(Cp S i).length<=S.length:=by unfold Cp;rw[List.length_map];exact List.length_filter_le _ _
theorem Aa0{S:SL}{j:Nat}(hj:j<S.length):(AR S).getD j default=(S.getD j default).1:=by
 unfold AR;rw[List.getD_eq_getElem?_getD,List.getD_eq_getElem?_getD,List.getElem?_map,List.getElem?_eq_getElem hj];rfl
end Go.Hb
namespace Go.Proofs.YtjipofkjmmpjdaaGreat
open Go.Hb Go.IntWalk
section
variable{W w:World}{L M:List HP}{F:HP->List HP}{b nb tb:Nat}{c:Int}{N N':Nat}{x y:Bb}{sb qb xb:Nat}{m:LM}{key:BA}{h g i:Int}
theorem Aa5(h:Ab W w L)[hA:At L b (lirR b c N x) F](hN:N<400000000):Calls PR 289 #[pq b 0,.i i] w λe w'=>∃l:Sl,e = .returned (.l l.a l.n l.c)/\Ab W w' (recs Rec.str l (Cp x.s i)::F (lirR b c N x)):=by
 refine At.oneX (hA:=hA) h λM hs hb=>?_;refine(cw ⟨mixed,Tryz.func289,rfl⟩ Als (Q:=λv w'=>∃l:Sl,v = .l l.a l.n l.c/\Ab W w' (lirR b c N x::recs Rec.str l (Cp x.s i)::M)) ?_).mono λe w' ⟨v,he,l,hv,hs⟩=>⟨l,by rw[he,hv],hb _ _ [recs Rec.str l (Cp x.s i)] hs⟩;clear hb hA;have hw:=Qb hs;obtain⟨sb,qb,xb,sr,sf,qr,qf,m,hi,hs⟩:=BS hs;have hns:=hi.ns;have hnq:=hi.nq
 repeat (first|with_reducible refine Aa ?_|((with_reducible refine A2 ?_);first|refine Ah hs ?_|fail)|fail)
 refine(JP hs (by omega)).mono λe w ⟨ks,he,hs⟩=>⟨_,he,?_⟩;rw[hi.sk] at hs;have hn:=Bg (s:=ks) hs;have hlk:(AR x.s).length=x.s.length:=by simp[AR]
 have hs:=Ab.nilR Rec.str hs;have loop:∀(f j:Nat)(w:World)(acc:Sl),j+f=x.s.length->Ab W w (recs Rec.str acc (Cp (x.s.take j) i)::recs Rec.str ks (AR x.s)::eB b c sb qb xb ((A8 x.s 1:Int)) ((A8 x.s 3:Int))::lst .s sb sr sf::lst .s qb qr qf::ixr Rec.iii xb 0 m::M) ->
   Kr Be (λv w'=>∃l:Sl,v = .l l.a l.n l.c/\Ab W w' (lirR b c N x::recs Rec.str l (Cp x.s i)::M)) (f+1) (some ⟨b,0,none⟩) i acc ks (ks.n:Int) (j:Int) w:=by
  clear hs;intro f
  induction f with
  | zero=>
   intro j w acc hif hs;rw[Mm];refine Ac (decide_eq_false (by omega)) ?_;refine jw Xc ?_;rw[List.take_of_length_le (by omega)] at hs;exact⟨acc,rfl,Ci hi rfl rfl (by exact Ab.fin hs)⟩
  | succ f ih=>
   intro j w acc hif hs;rw[Mm];refine Ak (decide_eq_true (by omega)) ?_
   repeat (first|with_reducible refine Aa ?_|((with_reducible refine A2 ?_);first|refine Ah hs ?_|refine Ck hs ?_|fail)|((with_reducible refine BC ?_);first|refine BF hs λb_ o_ hs=>?_|fail)|fail)
   rw[Int.toNat_natCast,Aa0 (by omega)];have hmem:x.s.getD j default∈x.s:=GZ (by omega);have hsz:=hi.w.ssm _ hmem;have JV:=Agk x.s i j;have hds:=Yv (i:=i) (S:=x.s) (j:=j) (by omega);skip;refine(CQ hs (by omega)).mono λe w ⟨he,hs⟩=>⟨_,_,_,_,he,?_⟩;have hG:(AE m (x.s.getD j default).1).getD ((0,0,0):Int×Int×Int)=lG m (x.s.getD j default).1:=rfl;rw[hG,hi.ent,Aoj hi.w hmem]
   repeat (first|((with_reducible refine A2 ?_);first|refine Ah hs ?_|fail)|((with_reducible refine Bm ?_);first|refine A4 hs λw hs=>?_|fail)|with_reducible refine Ai hs λb_ w hs=>?_|fail)
   with_reducible refine Ay (λh1=>?_) (λh1=>?_)
   ·rw[if_pos h1] at hds
    repeat (first|with_reducible refine Ai hs λb_ w hs=>?_|fail)
    refine CA (s:=acc) (a:=(x.s.getD j default).1) hs rfl rfl rfl rfl (by decide) (by omega) λs2 w hs2 hs=>?_;rw[<- hds] at hs;rw[show IntKind.wrap .i64 ((j:Int)+1)=((j+1:Nat):Int) by rw[i64_in _ (by omega)];omega]
    exact ih (j+1) w s2 (by omega) (by exact Ab.fin hs)
   ·rw[if_neg h1,List.append_nil] at hds;rw[<- hds] at hs;rw[show IntKind.wrap .i64 ((j:Int)+1)=((j+1:Nat):Int) by rw[i64_in _ (by omega)];omega]
    exact ih (j+1) w acc (by omega) (by exact Ab.fin hs)
 refine AJ (x.s.length+1) ?_;exact loop x.s.length 0 w ⟨none,0,0⟩ (by omega) (by exact Ab.fin hs)
theorem Agr(h:Ab W w L)[hA:At L b (lirR b c N x) F](hN:N<400000000):Calls PR 275 #[pq b 0] w λe w'=>∃l:Sl,e = .returned (.l l.a l.n l.c)/\Ab W w' (recs Rec.str l (BG x)::F (lirR b c N x)):=by
 refine At.oneX (hA:=hA) h λM hs hb=>?_;refine(cw ⟨mixed,Tryz.func275,rfl⟩ Ale (Q:=λv w'=>∃l:Sl,v = .l l.a l.n l.c/\Ab W w' (lirR b c N x::recs Rec.str l (BG x)::M)) ?_).mono λe w' ⟨v,he,l,hv,hs⟩=>⟨l,by rw[he,hv],hb _ _ [recs Rec.str l (BG x)] hs⟩;clear hb hA;refine Ac rfl ?_;have hw:=Qb hs;have h1:=Agj x.s 1;obtain⟨sb,qb,xb,sr,sf,qr,qf,m,hi,hs⟩:=BS hs;have hnq:=hi.nq
 repeat (first|with_reducible refine Aa ?_|((with_reducible refine A2 ?_);first|refine Ah hs ?_|fail)|fail)
 refine(JP hs (by omega)).mono λe w ⟨ks,he,hs⟩=>⟨_,he,?_⟩;rw[hi.qk] at hs;have hs:Ab W w (lirR b c N x::recs Rec.str ks x.q::M):=Ci hi rfl rfl (by exact Ab.fin hs);refine(Aa5 hs hN).mono λe w ⟨l2,he,hs⟩=>⟨_,he,?_⟩;have hn2:=Bg (s:=l2) hs;refine FP (s:=ks) (new:=Cp x.s 1) hs (Gc (s:=l2) hs) hn2 (CV _) rfl (by decide) (by omega) λs2 w hs2 hs=>?_;exact⟨s2,rfl,by exact Ab.fin hs⟩
theorem Y0(hs:Ab W w L){r:Int}:Calls PR 152 #[.i r] w λe w'=>∃b,e = .returned (pq b 0)/\Ab W w' (lirR b (AT r) 0 Fs::L):=by
 refine(cw ⟨mixed,Tryz.func152,rfl⟩ Aj2 (Q:=λv w'=>∃b,v=pq b 0/\Ab W w' (lirR b (AT r) 0 Fs::L)) ?_).mono λe w' ⟨v,he,b,hv,hs⟩=>⟨b,by rw[he,hv],hs⟩;refine Aw (by decide) ?_;refine(HU hs).mono λe w ⟨sb,he,hs⟩=>⟨_,he,?_⟩;refine(HU hs).mono λe w ⟨qb,he,hs⟩=>⟨_,he,?_⟩;refine(Ae0 hs).mono λe w ⟨xb,he,hs⟩=>⟨_,he,?_⟩;refine Ai hs λb w hs=>?_;refine⟨b,rfl,?_⟩;have e0:(if (if (1024:Int)<r then (1024:Int) else r)>(1:Int) then (if (1024:Int)<r then (1024:Int) else r) else (1:Int))=AT r:=by unfold AT;split <;> split <;> omega
 rw[e0] at hs;have hr:1<=AT r/\AT r<=1024:=by unfold AT;omega
 have e1:Int.tdiv (AT r) 10=AT r / 10:=by rw[Int.tdiv_eq_ediv_of_nonneg (by omega)]
 have e2:IntKind.wrap .i64 (AT r-(if (IntKind.wrap .i64 (Int.tdiv (AT r) (10:Int)))>(1:Int) then (IntKind.wrap .i64 (Int.tdiv (AT r) (10:Int))) else (1:Int)))=CT (AT r):=by
  rw[e1,i64_in (AT r / 10) (by omega),i64_in _ (by split <;> omega)];unfold CT;split <;> omega
 rw[e2] at hs;have hi:LX 0 Fs [] [] [] [] ([]:LM):=⟨(A3l (c:=1) (by decide) (by decide)).w,rfl,rfl,λk=>by simp[lG,AE,lK,Fs,AR,AO],by simp,by simp,by simp,by simp,by simp⟩;exact Ci hi rfl rfl (by exact Ab.fin hs)
end
end Go.Proofs.YtjipofkjmmpjdaaGreat
namespace Go.Hb
def Pb(b:Nat)(c:Int)(R:BL):HP:=JU λ(x:Bb)=>ED (R=BG x/\MU c x) (lirR b c 5000 x)
section
variable{W w:World}{M L:List HP}{b:Nat}{c:Int}{R:BL}{k:BA}{x:Bb}
theorem E0(h:Ab W w (Pb b c R::M)):∃x:Bb,R=BG x/\MU c x/\Ab W w (lirR b c 5000 x::M):=by
 obtain⟨x,h⟩:=h.openE;obtain⟨hp,h⟩:=h.openA;exact⟨x,hp.1,hp.2,h⟩
theorem E1{x:Bb}(hx:MU c x)(h:Ab W w (lirR b c 5000 x::M)):Ab W w (Pb b c (BG x)::M):=Ab.shutE x (Ab.shutA ⟨rfl,hx⟩ h)
theorem MU.small(h:MU c x):x.s.length<=4096/\x.q.length<=1024:=by
 have h1:=h.len;have h2:=h.ghs;have h3:=h.hots;have h4:=h.c2
 have hq:(x.q.length:Int)<=c:=by unfold C0 at h1;omega
 have hcold:A8 x.s 2<=x.q.length:=by
  have:((x.s.filter λe=>decide (e.2=2)).map (·.1)).length<=x.q.length:=by
   refine Ea (h.w.sn.sublist (List.filter_sublist.map _)) λk hk=>?_;obtain⟨e,he,rfl⟩:=List.mem_map.1 hk;obtain⟨h1,h2⟩:=List.mem_filter.1 he;exact h.w.coldq e h1 (by simpa using h2)
  rw[List.length_map,<- List.countP_eq_length_filter] at this;exact this
 have hall:x.s.length<=A8 x.s 1+A8 x.s 2+A8 x.s 3:=by
  have:∀S:SL,(∀e∈S,e.2=1\/e.2=2\/e.2=3)->S.length<=A8 S 1+A8 S 2+A8 S 3:=by
   intro S;unfold A8
   induction S with
   | nil=>intro _;simp
   | cons a t ih=>
    intro hk;have h1:=ih λe he=>hk e (.tail _ he);simp only[List.countP_cons,List.length_cons];rcases hk a (.head _) with h|h|h <;> simp[h] <;> omega
  exact this x.s h.w.kinds
 have h5:=IS h.c1;unfold C0 at h1;omega
theorem MU.fit(h:MU c x):QV 5000 x:=by have:=h.small;exact⟨by omega,by omega⟩
theorem MU.most(h:MU c x):0<=CT c:=by have:=h.c1;unfold CT;omega
theorem MU.eok{x:Bb}(h:MU c x):Dl c (BG x):=⟨h.w.res_nd,λk hk=>by
 rcases List.mem_append.1 hk with h1|h1
 ·exact h.w.qsm k h1
 ·unfold Cp at h1;obtain⟨e,he,rfl⟩:=List.mem_map.1 h1;exact h.w.ssm e (List.mem_filter.1 he).1,by rw[I1];exact h.len,h.c1,h.c2⟩
theorem Agg{x:Bb}(h:(C0 x:Int)<c):(Fp c x k).1.2=[]:=by
 have e:(Hd c x).1=[]:=by unfold Hd;rw[if_neg (by omega)]
 unfold Fp;split
 ·rfl
 ·split
  ·rfl
  ·exact e
theorem J8{x:Bb}(hx:MU c x):MU c (Cv c x).2/\Gi c (BG x) (Cv c x).1.1 (Cv c x).1.2 (BG (Cv c x).2):=by
 by_cases h0:C0 x=0
 ·have e:Cv c x=((⟨#[]⟩,false),x):=if_pos h0;rw[e];exact⟨hx,Gi.none hx.eok (by rw[I1];exact h0)⟩
 ·obtain⟨h1,h2⟩:=SW hx h0;refine⟨h2.ok,?_⟩;rw[h1];exact⟨(decide_eq_true (List.length_pos_of_mem h2.sub)).symm,λ_=>h2.sub,λz=>by rw[h2.mem];simp,h2.ok.eok⟩
theorem Azm(h:Ab W w (Pb b c R::M)):Dl c R:=by
 obtain⟨x,rfl,hx,h⟩:=E0 h;exact hx.eok
theorem Aom(hx:MU c x):MU c (Hd c x).2:=by
 unfold Hd;split
 ·exact(J8 hx).1
 ·exact hx
end
end Go.Hb
namespace Go.Proofs.YtjipofkjmmpjdaaGreat
open Go.Hb Go.IntWalk
section
variable{W w:World}{L M:List HP}{b:Nat}{c:Int}{R:BL}{key:BA}
theorem A1t(hs:Ab W w L){r:Int}:AZ PR 152 #[.i r] w λv w'=>∃b,v=pq b 0/\Ab W w' (Pb b (AT r) []::L):=by
 refine Calls.mono (Y0 (r:=r) hs) λe w' ⟨b,he,hs⟩=>⟨_,he,b,rfl,?_⟩;have hr:=Eb r;exact E1 (x:=Fs) (A3l hr.1 hr.2) (DY hs (by omega))
theorem Aw5(hs:Ab W w (Pb b c R::M)):AZ PR 279 #[pq b 0] w λv w'=>v = .i c/\Ab W w' (Pb b c R::M):=by
 obtain⟨x,rfl,hx,hs⟩:=E0 hs;exact Calls.mono (Agt hs) λe w' ⟨he,hs⟩=>⟨_,he,rfl,E1 hx hs⟩
theorem A1s(hs:Ab W w (Pb b c R::M)):AZ PR 276 #[pq b 0] w λv w'=>v = .i (R.length:Int)/\Ab W w' (Pb b c R::M):=by
 obtain⟨x,rfl,hx,hs⟩:=E0 hs;exact Calls.mono (Qe hs (by omega)) λe w' ⟨he,hs⟩=>⟨_,he,by rw[I1],E1 hx hs⟩
theorem A1r(hz:key.size<64)(hs:Ab W w (Pb b c R::M)):AZ PR 274 #[pq b 0,.s key] w λv w'=>v = .b (decide (key∈R))/\Ab W w' (Pb b c R::M):=by
 obtain⟨x,rfl,hx,hs⟩:=E0 hs;exact Calls.mono (Qd hs hz) λe w' ⟨he,hs⟩=>⟨_,he,rfl,E1 hx hs⟩
theorem Aw3(hs:Ab W w (Pb b c R::M)):AZ PR 275 #[pq b 0] w λv w'=>∃(l:Sl) (ks:BL),v = .l l.a l.n l.c/\ks.Perm R/\Ab W w' (Pb b c R::recs Rec.str l ks::M):=by
 obtain⟨x,rfl,hx,hs⟩:=E0 hs;refine Calls.mono (Agr hs (by omega)) λe w' ⟨l,he,hs⟩=>⟨_,he,l,_,rfl,List.Perm.refl _,?_⟩;have hs:Ab W w' (lirR b c 5000 x::recs Rec.str l (BG x)::M):=by exact Ab.fin hs
 have hs:=E1 hx hs;exact Ab.fin hs
theorem Agp(hz:key.size<64)(hs:Ab W w (Pb b c R::M)):AZ PR 271 #[pq b 0,.s key] w λv w'=>∃(hit:Bool) (l:Sl) (g S:BL),v = .tuple #[.b hit,.l l.a l.n l.c]/\Ey c R key hit g S/\Ab W w' (Pb b c S::recs Rec.str l g::M):=by
 obtain⟨x,rfl,hx,hs⟩:=E0 hs;refine Calls.mono (Yz (key:=key) hs hz hx.most (by have:=hx.c1;omega) hx.fit (Aom hx).fit (by omega)) λe w' ⟨l,he,hs⟩=>⟨_,he,_,l,(Fp c x key).1.2,BG (Fp c x key).2,rfl,?_,?_⟩
 ·exact⟨(PO hx hz).2,(PO hx hz).1.eok,λh=>Agg (by rw[<- I1];exact h)⟩
 ·have hs:Ab W w' (lirR b c 5000 (Fp c x key).2::recs Rec.str l (Fp c x key).1.2::M):=by exact Ab.fin hs
  have hs:=E1 (PO hx hz).1 hs;exact Ab.fin hs
theorem Aw4(hz:key.size<64)(hs:Ab W w (Pb b c R::M)):AZ PR 277 #[pq b 0,.s key] w λv w'=>∃(yes:Bool) (S:BL),v = .b yes/\Db c R key yes S/\Ab W w' (Pb b c S::M):=by
 obtain⟨x,rfl,hx,hs⟩:=E0 hs;refine Calls.mono (Ags hs hz hx.most hx.fit (by omega)) λe w' ⟨he,hs⟩=>⟨_,he,_,BG (Fq c x key).2,rfl,?_,E1 (SY hx hz).1 hs⟩;obtain⟨h1,h2,h3,h4⟩:=SY (k:=key) hx hz;refine⟨h2,λz=>?_,h1.eok⟩;cases ho:(Fq c x key).1 with
 | true=>rw[h3 ho];simp
 | false=>rw[h4 ho];simp
theorem Agq(hz:key.size<64)(hs:Ab W w (Pb b c R::M)):AZ PR 278 #[pq b 0,.s key] w λv w'=>∃(yes:Bool) (S:BL),v = .b yes/\Fz c R key yes S/\Ab W w' (Pb b c S::M):=by
 obtain⟨x,rfl,hx,hs⟩:=E0 hs;refine Calls.mono (Y1 hs hz (by omega)) λe w' ⟨he,hs⟩=>⟨_,he,_,BG (KA x key).2,rfl,?_,E1 (Yu hx).1 hs⟩;obtain⟨h1,h2,h3,h4⟩:=Yu (k:=key) hx;refine⟨h2,λz=>?_,h1.eok⟩;cases ho:(KA x key).1 with
 | true=>exact(h3 ho).1 z
 | false=>
  rw[ho] at h2;have hno:key∉BG x:=of_decide_eq_false h2.symm;rw[h4 ho];exact⟨λh=>⟨h,λe=>hno (e ▸ h)⟩,λh=>h.1⟩
theorem Aov(hs:Ab W w (Pb b c R::M)):AZ PR 272 #[pq b 0] w λv w'=>∃x yes S,v = .tuple #[.s x,.b yes]/\Gi c R x yes S/\Ab W w' (Pb b c S::M):=by
 obtain⟨x,rfl,hx,hs⟩:=E0 hs;refine Calls.mono (Qc hs (by have:=hx.c1;omega) hx.fit (by omega)) λe w' ⟨he,hs⟩=>⟨_,he,_,_,BG (Cv c x).2,rfl,?_,E1 (J8 hx).1 hs⟩
 exact(J8 hx).2
end
end Go.Proofs.YtjipofkjmmpjdaaGreat
namespace Go.Hb
open Go.Proofs.YtjipofkjmmpjdaaGreat
abbrev cT(b:Nat)(s:Sl)(xb:Nat)(c ki ko:Int):HP:=blk b [.l s.a s.n s.c,pq xb 0,.i c,.i ki,.i ko]
def JT(b:Nat)(c:Int)(R:BL):HP:=JU λ(z:(Sl×Nat×Int×Int)×(BL×BL×BL))=>ED ((R=z.2.1++z.2.2.2/\Dl c R)/\(0<=z.1.2.2.1/\0<=z.1.2.2.2/\z.1.2.2.2<=1024)/\z.2.2.1.length<=1024)
 (AF [cT b z.1.1 z.1.2.1 c z.1.2.2.1 z.1.2.2.2,rowsC z.1.1 z.1.2.1 5000 [z.2.1,z.2.2.1,z.2.2.2]])
section
variable{W w:World}{M L:List HP}{b:Nat}{c:Int}{R:BL}
theorem Do(h:Ab W w (JT b c R::M)):∃(s:Sl) (xb:Nat) (ki ko:Int) (i o a:BL),(R=i++a/\Dl c R)/\(0<=ki/\0<=ko/\ko<=1024)/\o.length<=1024/\Ab W w (cT b s xb c ki ko::rowsC s xb 5000 [i,o,a]::M):=by
 obtain⟨⟨⟨s,xb,ki,ko⟩,⟨i,o,a⟩⟩,h⟩:=h.openE;obtain⟨⟨h1,h2,h3⟩,h⟩:=h.openA;exact⟨s,xb,ki,ko,i,o,a,h1,h2,h3,h.openL⟩
theorem BX{s:Sl}{xb:Nat}{ki ko:Int}{i o a:BL}(h1:R=i++a/\Dl c R)(h2:0<=ki/\0<=ko/\ko<=1024)(h3:o.length<=1024)(h:Ab W w (cT b s xb c ki ko::rowsC s xb 5000 [i,o,a]::M)):Ab W w (JT b c R::M):=
 Ab.shutE ((s,xb,ki,ko),(i,o,a)) (Ab.shutA ⟨h1,h2,h3⟩ (Ab.shutL (Ps:=[_,_]) h))
theorem Pa(h:Ab W w (JT b c R::M)):Dl c R:=by
 obtain⟨s,xb,ki,ko,i,o,a,h1,_⟩:=Do h;exact h1.2
theorem Ab8(h:Ab W w (JT b c R::M)):w.cell? ⟨b,2,none⟩=some (.i c):=by
 obtain⟨s,xb,ki,ko,i,o,a,_,_,_,h⟩:=Do h;exact h.cell (q:=0) rfl
theorem La{i a:BL}(h:R=i++a/\Dl c R):i.length+a.length<=1024/\(i.length+a.length:Int)<=c/\R.length=i.length+a.length:=by
 have h1:=h.2.room;have h2:=h.2.c2
 have h3:R.length=i.length+a.length:=by rw[h.1];simp
 omega
end
end Go.Hb
namespace Go.Proofs.YtjipofkjmmpjdaaGreat
open Go.Hb Go.IntWalk
section
variable{W w:World}{L M:List HP}{b:Nat}{c:Int}{R:BL}{key:BA}
theorem A2p(hs:Ab W w L){r:Int}:AZ PR 153 #[.i r] w λv w'=>∃b,v=pq b 0/\Ab W w' (JT b (AT r) []::L):=by
 refine cw ⟨mixed,Tryz.func153,rfl⟩ Aj3 ?_;refine(KT BO (nr:=3) (by decide) hs).mono λe w ⟨s,xb,he,hs⟩=>⟨s,_,he,?_⟩;refine Aw (by decide) (Aw (by decide) ?_);refine Ai hs λb w hs=>⟨b,rfl,?_⟩;rw[KO] at hs;have hs:Ab W w (rowsC s xb 0 [[],[],[]]::blk b _::L):=hs.perm (List.Perm.swap _ _ _);have hs:=(IY (N':=5000) hs (by omega)).perm (List.Perm.swap _ _ _);have hr:=Eb r;refine BX (i:=[]) (o:=[]) (a:=[]) ⟨rfl,Dl.nil (Eb r).1 (Eb r).2⟩ ⟨?_,?_,?_⟩ (by simp) hs
 ·split <;> omega
 ·split <;> omega
 ·rw[Int.tdiv_eq_ediv_of_nonneg (by omega),i64_in _ (by omega)];split <;> omega
theorem Ax7(hs:Ab W w (JT b c R::M)):AZ PR 308 #[pq b 0] w λv w'=>v = .i c/\Ab W w' (JT b c R::M):=by
 refine cw ⟨mixed,Tryz.func308,rfl⟩ Amc ?_;obtain⟨s,xb,ki,ko,i,o,a,h1,h2,h3,hs⟩:=Do hs;refine Ac rfl (Aa (Ah hs ?_));exact⟨rfl,BX h1 h2 h3 hs⟩
theorem VD(hs:Ab W w (JT b c R::M)):AZ PR 305 #[pq b 0] w λv w'=>v = .i (R.length:Int)/\Ab W w' (JT b c R::M):=by
 refine cw ⟨mixed,Tryz.func305,rfl⟩ Al9 ?_;obtain⟨s,xb,ki,ko,i,o,a,h1,h2,h3,hs⟩:=Do hs;refine Ac rfl (Aa (Ah (x:=s) hs (Ah hs ?_)));refine Ai hs λnb w hs=>?_;refine AM BO (nr:=3) (K:=[i,o,a]) [0,2] (M:=cT b s xb c ki ko::M) (by exact Ab.fin hs) (by omega) rfl λw hs=>?_;refine⟨?_,BX h1 h2 h3 (by exact Ab.fin hs)⟩;rw[h1.1];simp[Bv]
theorem Abw(hz:key.size<64)(hs:Ab W w (JT b c R::M)):AZ PR 303 #[pq b 0,.s key] w λv w'=>v = .b (decide (key∈R))/\Ab W w' (JT b c R::M):=by
 refine cw ⟨mixed,Tryz.func303,rfl⟩ Al7 ?_;obtain⟨s,xb,ki,ko,i,o,a,h1,h2,h3,hs⟩:=Do hs;refine Ac rfl (Aa (Ah (x:=s) hs (Ah hs ?_)));refine Am (DF BO (K:=[i,o,a]) hs hz) λe w ⟨he,hs⟩=>⟨_,he,?_⟩;have hnd:=nd3 (i:=i) (o:=o) (a:=a) (M:=cT b s xb c ki ko::M) (by exact Ab.fin hs);have e:∀t:Bool,(t=true↔key∈i\/key∈a)->Value.bool t = .b (decide (key∈R)):=λt ht=>by
  congr 1;rw[Bool.eq_iff_iff,ht,h1.1,decide_eq_true_eq,List.mem_append]
 rcases QQ i o a key with⟨h,h4⟩|⟨h,h4,h5⟩|⟨h,h4,h5,h6⟩|⟨h,h4,h5,h6⟩ <;> rw[h]
 ·exact Ak rfl ⟨e _ (by simp[h4]),BX h1 h2 h3 hs⟩
 ·exact Ac rfl ⟨e _ (by have:=hnd.oa _ h5;simp[h4,this]),BX h1 h2 h3 hs⟩
 ·exact Ac rfl ⟨e _ (by simp[h6]),BX h1 h2 h3 hs⟩
 ·exact Ac rfl ⟨e _ (by simp[h4,h6]),BX h1 h2 h3 hs⟩
theorem Ax5(hs:Ab W w (JT b c R::M)):AZ PR 304 #[pq b 0] w λv w'=>∃(l:Sl) (ks:BL),v = .l l.a l.n l.c/\ks.Perm R/\Ab W w' (JT b c R::recs Rec.str l ks::M):=by
 refine cw ⟨mixed,Tryz.func304,rfl⟩ Al8 ?_;obtain⟨s,xb,ki,ko,i,o,a,h1,h2,h3,hs⟩:=Do hs;refine Ac rfl (Aa (Ah (x:=s) hs (Ah hs ?_)));refine Ai hs λnb w hs=>?_;refine OJ BO (nr:=3) (K:=[i,o,a]) [0,2] (M:=cT b s xb c ki ko::M) (by exact Ab.fin hs) (by omega) rfl λl w hs=>?_;refine⟨l,_,rfl,?_,BX h1 h2 h3 (by exact Ab.fin hs)⟩;rw[h1.1];simp[EM]
theorem Zb(hs:Ab W w (JT b c R::M)):AZ PR 301 #[pq b 0] w λv w'=>∃x yes S,v = .tuple #[.s x,.b yes]/\Gi c R x yes S/\Ab W w' (JT b c S::M):=by
 refine cw ⟨mixed,Tryz.func301,rfl⟩ Al6 ?_;refine Ag (VD hs) λv w ⟨hv,hs⟩=>⟨_,hv,?_⟩;have hk:=Pa hs
 with_reducible refine Ay (λh0=>?_) (λh0=>?_)
 ·exact⟨_,_,_,rfl,Gi.none hk (by omega),hs⟩
 obtain⟨s,xb,ki,ko,i,o,a,h1,h2,h3,hs⟩:=Do hs;have hnd:=nd3 (i:=i) (o:=o) (a:=a) (M:=cT b s xb c ki ko::M) (by exact Ab.fin hs);have hll:R.length=i.length+a.length:=by rw[h1.1];simp
 have j1:∀(w:World)(t:Bool),(t=true->0<a.length)->(t=false->0<i.length)->Ab W w (cT b s xb c ki ko::rowsC s xb 5000 [i,o,a]::M) ->
   U4 Be (λv w'=>∃x yes S,v = .tuple #[.s x,.b yes]/\Gi c R x yes S/\Ab W w' (JT b c S::M)) (some ⟨b,0,none⟩) t w:=by
  clear hs;intro w t ht hf hs;refine jw Xj ?_;cases t with
  | true=>
   have h0:=ht rfl;have hm:=C2 h0;refine Ak rfl (Aa (Ah (x:=s) hs (Ah hs ?_)));refine Am (Bt BO (K:=[i,o,a]) (j:=2) hs (lt3 (by decide)) (show 3<=4 by decide)) λe w ⟨he,hs⟩=>⟨_,he,?_⟩;refine Aa (Ah (x:=s) hs (Ah hs ?_));refine Ar (BT BO (K:=[i,o,a]) (key:=BW a) hs (hnd.small _ (.inr (.inr hm))) (by omega) (show 3<=4 by decide)) λe w ⟨he,hs⟩=>⟨he,?_⟩;have e1:Dr [i,o,a] (BW a)=[i,o,a.drop 1]:=by
    show[Ao i _,Ao o _,Ao a _]=_;rw[As λh=>(hnd.io _ h).2 hm,As λh=>hnd.oa _ h hm,BH hnd.na h0]
   rw[e1] at hs;have hev:Gi c R (BW a) true (i++a.drop 1):=Gi.of_perm hk (by
    rw[h1.1];cases a with
    | nil=>simp at h0
    | cons x l=>exact List.perm_middle)
   exact⟨_,_,_,rfl,hev,BX (o:=o) ⟨rfl,hev.ok⟩ h2 (by omega) hs⟩
  | false=>
   have h0:=hf rfl;have hm:=C2 h0;refine Ac rfl ?_;refine jw Xk ?_;refine Aa (Ah (x:=s) hs (Ah hs ?_));refine Am (Bt BO (K:=[i,o,a]) (j:=0) hs (lt3 (by decide)) (show 3<=4 by decide)) λe w ⟨he,hs⟩=>⟨_,he,?_⟩;refine Aa (Ah (x:=s) hs (Ah hs ?_));refine Ar (YF BO (j:=1) (key:=BW i) hs (by decide) (hnd.small _ (.inl hm)) ⟨(La h1).1,h3⟩) λe w ⟨he,hs⟩=>⟨he,?_⟩;have e1:Dd [i,o,a] 1 (BW i)=[i.drop 1,o++[BW i],a]:=by
    show[Ao i _,Ao o _++[_],Ao a _]=_;rw[As (hnd.io _ hm).2,As (hnd.io _ hm).1,BH hnd.ni h0]
   rw[e1] at hs;have hev:Gi c R (BW i) true (i.drop 1++a):=Gi.of_perm hk (by
    rw[h1.1];cases i with
    | nil=>simp at h0
    | cons x l=>exact List.Perm.refl _)
   generalize o++[BW i]=o at hs;have loop:∀(m:Nat)(o:BL)(w:World),o.length=m->Ab W w (cT b s xb c ki ko::rowsC s xb 5000 [i.drop 1,o,a]::M) ->
     Og Be (λv w'=>∃x yes S,v = .tuple #[.s x,.b yes]/\Gi c R x yes S/\Ab W w' (JT b c S::M)) (m+1) (some ⟨b,0,none⟩) (BW i) w:=by
    clear hs;intro m
    induction m with
    | zero=>
     intro o w ho hs;rw[Mr];refine Al [cT b s xb c ki ko] hs λw hs=>?_;refine Aa (Aq (x:=s) (Aq (Aa (Aq ?_))));refine Ai hs λnb w hs=>Af hs ?_;refine AM BO (nr:=3) (K:=[i.drop 1,o,a]) [1] (M:=cT b s xb c ki ko::M) (by exact Ab.fin hs) (by omega) rfl λw hs=>?_;refine Af hs ?_;have e2:(Bv [i.drop 1,o,a] [1]:Int)=0:=by simp[Bv,ho]
     rw[e2];refine Ac (decide_eq_false (by omega)) ?_;refine jw Mq ?_;exact⟨_,_,_,rfl,hev,BX (o:=o) ⟨rfl,hev.ok⟩ h2 (by omega) (by exact Ab.fin hs)⟩
    | succ m ih=>
     intro o w ho hs;rw[Mr];refine Al [cT b s xb c ki ko] hs λw hs=>?_;refine Aa (Aq (x:=s) (Aq (Aa (Aq ?_))));refine Ai hs λnb w hs=>Af hs ?_;refine AM BO (nr:=3) (K:=[i.drop 1,o,a]) [1] (M:=cT b s xb c ki ko::M) (by exact Ab.fin hs) (by omega) rfl λw hs=>?_;refine Af hs ?_;have hs:Ab W w (cT b s xb c ki ko::rowsC s xb 5000 [i.drop 1,o,a]::M):=by exact Ab.fin hs
     refine Ap (λ_=>?_) (λh9=>?_)
     ·refine Al [cT b s xb c ki ko] hs λw hs=>?_;refine Aa (Aq (x:=s) (Aq (Aa (Ah (x:=s) hs (Ah hs (Af hs ?_))))));refine Am (Bt BO (K:=[i.drop 1,o,a]) (j:=1) hs (lt3 (by decide)) (show 3<=4 by decide)) λe w ⟨he,hs⟩=>⟨_,he,Af hs ?_⟩;have hnd:=nd3 (i:=i.drop 1) (o:=o) (a:=a) (M:=cT b s xb c ki ko::M) (by exact Ab.fin hs);have h0:0<o.length:=by omega
      have hm:=C2 h0;refine Ar (BT BO (K:=[i.drop 1,o,a]) (key:=BW o) hs (hnd.small _ (.inr (.inl hm))) (by omega) (show 3<=4 by decide)) λe w ⟨he,hs⟩=>⟨he,?_⟩;have e1:Dr [i.drop 1,o,a] (BW o)=[i.drop 1,o.drop 1,a]:=by
       show[Ao _ _,Ao o _,Ao a _]=_;rw[As λh=>(hnd.io _ h).1 hm,As (hnd.oa _ hm),BH hnd.no h0]
      rw[e1] at hs;exact ih (o.drop 1) w (by rw[List.length_drop];omega) hs
     ·refine jw Mq ?_;have h9:=of_decide_eq_false h9;have e2:(Bv [i.drop 1,o,a] [1]:Int)=o.length:=by simp[Bv]
      rw[e2] at h9;exact⟨_,_,_,rfl,hev,BX (o:=o) ⟨rfl,hev.ok⟩ h2 (by omega) hs⟩
   exact AJ _ (loop o.length o w rfl hs)
 refine Al [cT b s xb c ki ko] hs λw hs=>?_;refine Aa (Aq (x:=s) (Aq (Aa (Aq ?_))));refine Ai hs λnb w hs=>Af hs ?_;refine AM BO (nr:=3) (K:=[i,o,a]) [0] (M:=cT b s xb c ki ko::M) (by exact Ab.fin hs) (by omega) rfl λw hs=>?_;refine Af hs ?_;have hs:Ab W w (cT b s xb c ki ko::rowsC s xb 5000 [i,o,a]::M):=by exact Ab.fin hs
 have e0:(Bv [i,o,a] [0]:Int)=i.length:=by simp[Bv]
 rw[e0]
 with_reducible refine Ay (λh5=>?_) (λh5=>?_)
 ·refine Aa (Aq (x:=s) (Aq ?_));refine Ai hs λnb w hs=>Af hs ?_;refine AM BO (nr:=3) (K:=[i,o,a]) [2] (M:=cT b s xb c ki ko::M) (by exact Ab.fin hs) (by omega) rfl λw hs=>?_;have e2:(Bv [i,o,a] [2]:Int)=a.length:=by simp[Bv]
  rw[e2];exact j1 w _ (λh=>by have:=of_decide_eq_true h;omega) (λh=>by have:=of_decide_eq_false h;omega) (by exact Ab.fin hs)
 ·exact Af hs (j1 w false (λh=>by cases h) (λ_=>by omega) hs)
theorem MS(hs:Ab W w (JT b c R::M)):AZ PR 313 #[pq b 0] w λv w'=>∃(l:Sl) (g S:BL),v = .l l.a l.n l.c/\Lh c R g S/\Ab W w' (JT b c S::recs Rec.str l g::M):=by
 refine cw ⟨mixed,Tryz.func313,rfl⟩ Amd ?_;have hk:=Pa hs;have hc1:=hk.c1;refine Al [JT b c R] hs λw hs=>?_;refine Aa ?_;refine FV (k:=.int .i64) c (λw' h=>Ab8 h) ?_;refine Ag (VD hs) λv w ⟨hv,hs⟩=>⟨_,hv,Af hs ?_⟩
 with_reducible refine Ay (λh1=>?_) (λh1=>?_)
 ·exact⟨⟨none,0,0⟩,[],R,rfl,.inl ⟨rfl,rfl,h1⟩,(Ab.nilR Rec.str (hs)).perm (List.Perm.swap _ _ _)⟩
 ·refine AH (Zb hs) λv w ⟨x,yes,S,hv,hev,hs⟩=>⟨_,_,hv,?_⟩;have hy:yes=true:=by rw[hev.says];exact decide_eq_true (by omega)
  subst hy;refine Ai hs λnb w hs=>?_;have hs:=Ab.blkS (b:=nb) (cs:=[.s x]) (n:=1) Rec.str [x] hs rfl rfl;exact⟨⟨some ⟨nb,0,none⟩,1,1⟩,[x],S,rfl,.inr ⟨x,rfl,hev,h1⟩,by exact Ab.fin hs⟩
theorem Ahv(hz:key.size<64)(hs:Ab W w (JT b c R::M)):AZ PR 300 #[pq b 0,.s key] w λv w'=>∃(hit:Bool) (l:Sl) (g S:BL),v = .tuple #[.b hit,.l l.a l.n l.c]/\Ey c R key hit g S/\Ab W w' (JT b c S::recs Rec.str l g::M):=by
 refine cw ⟨mixed,Tryz.func300,rfl⟩ Al4 ?_;obtain⟨s,xb,ki,ko,i,o,a,h1,h2,h3,hs⟩:=Do hs;have hk:=h1.2;refine Ac rfl (Aa (Ah (x:=s) hs (Ah hs ?_)));refine Am (DF BO (K:=[i,o,a]) hs hz) λe w ⟨he,hs⟩=>⟨_,he,?_⟩;have hnd:=nd3 (i:=i) (o:=o) (a:=a) (M:=cT b s xb c ki ko::M) (by exact Ab.fin hs);rcases QQ i o a key with⟨h,h4⟩|⟨h,h4,h5⟩|⟨h,h4,h5,h6⟩|⟨h,h4,h5,h6⟩ <;> rw[h]
 ·refine Ac rfl (Ak rfl ?_);have ha:=Ey.same hk (by rw[h1.1];exact List.mem_append_left _ h4) (List.Perm.refl R)
  exact⟨true,⟨none,0,0⟩,[],_,rfl,ha,(Ab.nilR Rec.str (BX h1 h2 h3 hs)).perm (List.Perm.swap _ _ _)⟩
 ·refine Ac rfl (Ac rfl (Ak rfl ?_));have hno:key∉R:=by rw[h1.1,List.mem_append];exact λh=>h.elim h4 (hnd.oa _ h5)
  refine Aa (Ah (x:=s) hs (Ah hs ?_));refine Ar (BT BO (K:=[i,o,a]) hs hz (by omega) (show 3<=4 by decide)) λe w ⟨he,hs⟩=>⟨he,?_⟩;have e1:Dr [i,o,a] key=[i,Ao o key,a]:=by
   show[Ao i _,Ao o _,Ao a _]=_;rw[As h4,As (hnd.oa _ h5)]
  rw[e1] at hs;have hs:=BX h1 h2 (by have:=Bj o key;omega) hs
  refine Ag (MS hs) λv w ⟨l,g,S,hv,hrec,hs⟩=>⟨_,hv,?_⟩;clear h1 h2 h3 hnd h4 h5 e1;obtain⟨s,xb,ki,ko,i,o,a,h1,h2,h3,hs⟩:=Do hs;refine Aa (Ah (x:=s) hs (Ah hs ?_));refine Ar (YF BO (j:=2) hs (by decide) hz ⟨(La h1).1,h3⟩) λe w ⟨he,hs⟩=>⟨he,?_⟩;have hnS:=hrec.not hno;have e1:Dd [i,o,a] 2 key=[i,Ao o key,a++[key]]:=by
   show[Ao i _,Ao o _,Ao a _++[_]]=_;rw[As (show key∉i from λh=>hnS (by rw[h1.1];exact List.mem_append_left _ h)),As (show key∉a from λh=>hnS (by rw[h1.1];exact List.mem_append_right _ h))]
  rw[e1] at hs;have ha:=Ey.miss hk hno hz hrec (T:=i++(a++[key])) (by rw[h1.1];exact Eo)
  exact⟨false,l,g,_,rfl,ha,BX ⟨rfl,ha.ok⟩ h2 (by have:=Bj o key;omega) hs⟩
 ·refine Ak rfl (Aa (Ah (x:=s) hs (Ah hs ?_)));refine Ar (YF BO (j:=2) hs (by decide) hz ⟨(La h1).1,h3⟩) λe w ⟨he,hs⟩=>⟨he,?_⟩;have e1:Dd [i,o,a] 2 key=[i,o,Ao a key++[key]]:=by
   show[Ao i _,Ao o _,Ao a _++[_]]=_;rw[As h4,As h5]
  rw[e1] at hs;have ha:=Ey.same (S:=i++(Ao a key++[key])) hk (by rw[h1.1];exact List.mem_append_right _ h6) (by
   rw[h1.1];exact List.Perm.append_left _ (List.perm_append_comm.trans (Co hnd.na h6).symm))
  exact⟨true,⟨none,0,0⟩,[],_,rfl,ha,(Ab.nilR Rec.str (BX ⟨rfl,ha.ok⟩ h2 h3 hs)).perm (List.Perm.swap _ _ _)⟩
 ·refine Ac rfl (Ac rfl (Ac rfl ?_));have hno:key∉R:=by rw[h1.1,List.mem_append];exact λh=>h.elim h4 h6
  have hs:=BX h1 h2 h3 hs;refine Ag (MS hs) λv w ⟨l,g,S,hv,hrec,hs⟩=>⟨_,hv,?_⟩;clear h1 h2 h3 hnd h4 h5 h6;obtain⟨s,xb,ki,ko,i,o,a,h1,h2,h3,hs⟩:=Do hs;refine Aa (Ah (x:=s) hs (Ah hs ?_));refine Ar (YF BO (j:=0) hs (by decide) hz ⟨(La h1).1,h3⟩) λe w ⟨he,hs⟩=>⟨he,?_⟩;have hnS:=hrec.not hno;have e1:Dd [i,o,a] 0 key=[i++[key],Ao o key,a]:=by
   show[Ao i _++[_],Ao o _,Ao a _]=_;rw[As (show key∉i from λh=>hnS (by rw[h1.1];exact List.mem_append_left _ h)),As (show key∉a from λh=>hnS (by rw[h1.1];exact List.mem_append_right _ h))]
  rw[e1] at hs;have ha:=Ey.miss hk hno hz hrec (T:=(i++[key])++a) (by rw[h1.1];exact Dk)
  exact⟨false,l,g,_,rfl,ha,BX ⟨rfl,ha.ok⟩ h2 (by have:=Bj o key;omega) hs⟩
theorem Ax6(hz:key.size<64)(hs:Ab W w (JT b c R::M)):AZ PR 306 #[pq b 0,.s key] w λv w'=>∃(yes:Bool) (S:BL),v = .b yes/\Db c R key yes S/\Ab W w' (JT b c S::M):=by
 refine cw ⟨mixed,Tryz.func306,rfl⟩ Ama ?_;have hk:=Pa hs;have hr:=hk.room;refine Al [JT b c R] hs λw hs=>?_;refine Ac rfl ?_;refine Ag (Abw hz hs) λv w ⟨hv,hs⟩=>⟨_,hv,Af hs ?_⟩
 with_reducible refine Ay (λh1=>?_) (λh1=>?_)
 ·exact Af hs ⟨false,R,rfl,Db.no hk (λh=>h.1 h1),hs⟩
 refine Aa ?_;refine FV (k:=.int .i64) c (λw' h=>Ab8 h) ?_;refine Ag (VD hs) λv w ⟨hv,hs⟩=>⟨_,hv,Af hs ?_⟩
 with_reducible refine Ay (λh2=>?_) (λh2=>?_)
 ·exact⟨false,R,rfl,Db.no hk (λh=>by omega),hs⟩
 refine jw Xl ?_;obtain⟨s,xb,ki,ko,i,o,a,h3,h4,h5,hs⟩:=Do hs;refine Aa (Ah (x:=s) hs (Ah hs ?_));refine Ar (YF BO (j:=2) hs (by decide) hz ⟨(La h3).1,h5⟩) λe w ⟨he,hs⟩=>⟨he,?_⟩;have e1:Dd [i,o,a] 2 key=[i,Ao o key,a++[key]]:=by
  show[Ao i _,Ao o _,Ao a _++[_]]=_;rw[As (show key∉i from λh=>h1 (by rw[h3.1];exact List.mem_append_left _ h)),As (show key∉a from λh=>h1 (by rw[h3.1];exact List.mem_append_right _ h))]
 rw[e1] at hs;have hl:=Db.yes hk hz h1 (by omega) (S:=i++(a++[key])) (by rw[h3.1];exact Eo)
 exact⟨true,_,rfl,hl,BX ⟨rfl,hl.ok⟩ h4 (by have:=Bj o key;omega) hs⟩
theorem Ahw(hz:key.size<64)(hs:Ab W w (JT b c R::M)):AZ PR 307 #[pq b 0,.s key] w λv w'=>∃(yes:Bool) (S:BL),v = .b yes/\Fz c R key yes S/\Ab W w' (JT b c S::M):=by
 refine cw ⟨mixed,Tryz.func307,rfl⟩ Amb ?_;have hk:=Pa hs;refine Ag (Abw hz hs) λv w ⟨hv,hs⟩=>⟨_,hv,?_⟩
 by_cases h1:key∈R
 ·refine Ac (by rw[decide_eq_true h1];rfl) ?_;obtain⟨s,xb,ki,ko,i,o,a,h3,h4,h5,hs⟩:=Do hs;refine Aa (Ah (x:=s) hs (Ah hs ?_));refine Ar (BT BO (K:=[i,o,a]) hs hz (by omega) (show 3<=4 by decide)) λe w ⟨he,hs⟩=>⟨he,?_⟩;rw[h3.1] at hk h1;have hr:=Fz.cut2 hk h1;rw[<- h3.1] at hr;exact⟨true,_,rfl,hr,BX (i:=Ao i key) (o:=Ao o key) (a:=Ao a key) ⟨rfl,hr.ok⟩ h4 (by have:=Bj o key;omega) hs⟩
 ·refine Ak (by rw[decide_eq_false h1];rfl) ⟨false,R,rfl,Fz.no hk h1,hs⟩
end
end Go.Proofs.YtjipofkjmmpjdaaGreat
namespace Go.Proofs.YtjipofkjmmpjdaaGreat
open Go.Hb Go.IntWalk
theorem MT{a:Nat}(ha:a<18446744073709551616):IntKind.u64.wrap (a:Int)=(a:Int):=by rw[IntKind.wrap_u64];omega
theorem Ay8(a:Nat):IntKind.u64.wrap (a:Int)=((a % 18446744073709551616:Nat):Int):=by rw[IntKind.wrap_u64];omega
theorem Aeh(a:Nat):C7 .u64 (a:Int) 32=((a / 4294967296:Nat):Int):=by
 show(a:Int).fdiv (2 ^ 32)=_;rw[Int.fdiv_eq_ediv_of_nonneg _ (by decide)];rfl
theorem Aba{a:Nat}(ha:a<18446744073709551616):bits .and .u64 (a:Int) 4294967295=((a % 4294967296:Nat):Int):=by
 have h:=bits_and_u64_nat a 4294967295 ha (by omega);have e:a &&& 4294967295=a % 4294967296:=Nat.and_two_pow_sub_one_eq_mod a 32;rw[e] at h;exact h
theorem A4k(a b:Nat):(a:Int)*(b:Int)=((a*b:Nat):Int):=(Int.natCast_mul a b).symm
theorem Azb(a b:Nat):(a:Int)+(b:Int)=((a+b:Nat):Int):=(Int.natCast_add a b).symm
def Hz(n lo hi:Int):Int:=if hi<(if lo>n then lo else n) then hi else (if lo>n then lo else n)
def EE(n most:Int):Int:=if n>=most then n else n+1
section
variable{W w:World}{M:List HP}
theorem Dn(h:Ab W w M)(n lo hi:Int):Calls PR 72 #[.i n,.i lo,.i hi] w λe w'=>e = .returned (.i (Hz n lo hi))/\Ab W w' M:=by
 refine c1 (cw ⟨mixed,Tryz.func72,rfl⟩ Avv ?_);exact⟨rfl,h⟩
theorem FB(n:Int){lo hi:Int}(h:lo<=hi):lo<=Hz n lo hi/\Hz n lo hi<=hi:=by
 unfold Hz;split <;> split at * <;> omega
theorem Iw(h:Ab W w M){a b:Int}(hb:b<=9223372036854775807)(ha:-9223372036854775808<=a):Calls PR 119 #[.i a,.i b] w λe w'=>e = .returned (.i (EE a b))/\Ab W w' M:=by
 refine c1 (cw ⟨mixed,Tryz.func119,rfl⟩ Ajb ?_);unfold EE;refine Ap (λhc=>?_) (λhc=>?_) <;> simp only[decide_eq_true_eq,decide_eq_false_iff_not] at hc
 ·rw[if_pos hc];exact⟨rfl,h⟩
 ·rw[if_neg hc,i64_in _ (by omega)];exact⟨rfl,h⟩
theorem Ao9(h:Ab W w M){x y:Nat}(hx:x<18446744073709551616)(hy:y<18446744073709551616):Calls PR 169 #[.int .u64 x,.int .u64 y] w λe w'=>
  e = .returned (.tuple #[.int .u64 ((x*y / 18446744073709551616:Nat):Int),.int .u64 ((x*y % 18446744073709551616:Nat):Int)])/\Ab W w' M:=by
 refine c1 (cw ⟨mixed,Tryz.func169,rfl⟩ Aki ?_);refine Aw (by omega) (Aw (by omega) (Aw (by omega) (Aw (by omega) (Aw (by omega) ?_))));refine⟨?_,h⟩;obtain⟨bd,bt,bw,hhi⟩:=Lib.mul64_hi x y hx hy;have ba:=Lib.half_mul_le (a:=x / 4294967296) (b:=y / 4294967296) (by omega) (by omega);have bb:=Lib.half_mul_le (a:=x / 4294967296) (b:=y % 4294967296) (by omega) (by omega);have bc:=Lib.half_mul_le (a:=x % 4294967296) (b:=y / 4294967296) (by omega) (by omega);have ba':x / 4294967296*(y / 4294967296)<18446744073709551616:=by omega
 have bb':x / 4294967296*(y % 4294967296)<18446744073709551616:=by omega
 have bc':x % 4294967296*(y / 4294967296)<18446744073709551616:=by omega
 have bh1:x / 4294967296*(y / 4294967296)+(x / 4294967296*(y % 4294967296)+x % 4294967296*(y % 4294967296) / 4294967296) / 4294967296<18446744073709551616:=by omega
 have bh:x / 4294967296*(y / 4294967296)+(x / 4294967296*(y % 4294967296)+x % 4294967296*(y % 4294967296) / 4294967296) / 4294967296+((x / 4294967296*(y % 4294967296)+x % 4294967296*(y % 4294967296) / 4294967296) % 4294967296+x % 4294967296*(y / 4294967296)) / 4294967296<18446744073709551616:=by omega
 rw[Aba hx,Aba hy,Aeh,Aeh];simp only[A4k,Azb,MT bd,MT bb',Aeh,MT bt,Aba bt,MT bc',MT bw,MT ba',MT bh1,MT bh,Ay8 (x*y)];rw[hhi]
end
end Go.Proofs.YtjipofkjmmpjdaaGreat
namespace Go.Hb
abbrev cK(b n:Nat)(s:Sl)(m:Int):HP:=blk b [.i (n:Int),.l s.a s.n s.c,.i m]
def GD(b:Nat):HP:=JU λ(z:Nat×Sl×List Int×Int)=>ED (z.2.2.1.length=2*z.1/\8<=z.1/\z.1<=4096) (AF [cK b z.1 z.2.1 z.2.2.2,recs (Rec.int .u8) z.2.1 z.2.2.1])
def GQ(b:Nat):HP:=JU λ(z:Sl×List Int)=>ED (1<=z.2.length/\z.2.length<=4096) (AF [blk b [.l z.1.a z.1.n z.1.c],recs (Rec.int .u64) z.1 z.2])
def Aat(l:List Int):List Value:=l.map (Value.int .i64)
theorem Aob{l:List Int}{i:Nat}{x:Int}:(Aat l).set i (.i x)=Aat (l.set i x):=by unfold Aat;rw[List.map_set]
theorem IF{k:IntKind}:∀n,Da [.int k (0:Int)] n=(Rec.int k).flat (List.replicate n 0)
 | 0=>rfl
 | n+1=>by
  rw[List.replicate_succ];show[Value.int k (0:Int)]++Da [.int k (0:Int)] n=_;rw[IF n];rfl
section
variable{W w:World}{M L:List HP}{b n:Nat}
theorem OR(h:Ab W w (GD b::M)):∃(n:Nat) (s:Sl) (l:List Int) (m:Int),(l.length=2*n/\8<=n/\n<=4096)/\s.n=l.length/\Ab W w (cK b n s m::recs (Rec.int .u8) s l::M):=by
 obtain⟨⟨n,s,l,m⟩,h⟩:=h.openE;obtain⟨hp,h⟩:=h.openA;have h:=h.openL;have h:Ab W w (cK b n s m::recs (Rec.int .u8) s l::M):=h;exact⟨n,s,l,m,hp,(Bx (s:=s) h).1,h⟩
theorem HR{s:Sl}{l:List Int}{m:Int}(hp:l.length=2*n/\8<=n/\n<=4096)(h:Ab W w (cK b n s m::recs (Rec.int .u8) s l::M)):Ab W w (GD b::M):=Ab.shutE (n,s,l,m) (Ab.shutA hp (Ab.shutL (Ps:=[_,_]) h))
theorem TN(h:Ab W w (GQ b::M)):∃(s:Sl) (l:List Int),(1<=l.length/\l.length<=4096)/\s.n=l.length/\Ab W w (blk b [.l s.a s.n s.c]::recs (Rec.int .u64) s l::M):=by
 obtain⟨⟨s,l⟩,h⟩:=h.openE;obtain⟨hp,h⟩:=h.openA;have h:=h.openL;have h:Ab W w (blk b [.l s.a s.n s.c]::recs (Rec.int .u64) s l::M):=h;exact⟨s,l,hp,(Bx (s:=s) h).1,h⟩
theorem Kd{s:Sl}{l:List Int}(hp:1<=l.length/\l.length<=4096)(h:Ab W w (blk b [.l s.a s.n s.c]::recs (Rec.int .u64) s l::M)):Ab W w (GQ b::M):=Ab.shutE (s,l) (Ab.shutA hp (Ab.shutL (Ps:=[_,_]) h))
theorem Ain{k:IntKind}{o:Nat}{s:Sl}{K:WP}:∀(n i:Nat)(l:List Int)(w:World),i+n=l.length->Ab W w (reca (Rec.int k) b o s l::M)->(∀(l':List Int)(w':World),l'.length=l.length->Ab W w' (reca (Rec.int k) b o s l'::M)->K w')->sts (Da [.int k (0:Int)] n) b (o+i) K w
 | 0,i,l,w,hi,hs,hK=>hK l w rfl hs
 | n+1,i,l,w,hi,hs,hK=>by
  show st b (o+i) (.int k 0) (sts (Da [.int k (0:Int)] n) b (o+i+1) K) w;refine A2i (i:=i) (j:=0) (a':=(0:Int)) hs (by show o+i=o+(i*1+0);omega) (by omega) rfl Nat.one_pos λw hs=>?_
  rw[Nat.add_assoc];exact Ain n (i+1) _ w (by rw[List.length_set];omega) hs λl' w' hl hs=>hK l' w' (by rw[hl,List.length_set]) hs
end
end Go.Hb
namespace Go.Proofs.YtjipofkjmmpjdaaGreat
open Go.Hb Go.IntWalk
section
variable{W w:World}{L M:List HP}{b n:Nat}{s:Sl}{l:List Int}{m:Int}{key:BA}
theorem A23(x:Int):∃y:Nat,bits .and .i64 x 15=(y:Int)/\y<=15:=by
 have h2:(BitVec.ofInt 64 (15:Int)).toNat=15:=rfl;have hle:(BitVec.ofInt 64 x &&& BitVec.ofInt 64 15).toNat<=15:=by
  rw[BitVec.toNat_and,h2];exact Nat.and_le_right
 refine⟨_,?_,hle⟩;show IntKind.i64.wrap ((BitVec.ofInt 64 x &&& BitVec.ofInt 64 15).toNat:Int)=_;exact i64_in _ (by omega)
theorem A3w(hs:Ab W w L){r:Int}:AZ PR 188 #[.i r] w λv w'=>∃b,v=pq b 0/\Ab W w' (GD b::L):=by
 refine cw ⟨mixed,Tryz.func188,rfl⟩ Akm ?_;have hc:=FB r (lo:=1) (hi:=1024) (by decide);have loop:∀(f n:Nat)(w:World),1024<=n+f->8<=n->n<=2048->Ab W w L->NO Be (λv w'=>∃b,v=pq b 0/\Ab W w' (GD b::L)) (f+1) r (n:Int) w:=by
  clear hs;intro f
  induction f with
  | zero=>
   intro n w hf h8 hn hs;rw[Mb];refine Am (Dn hs _ _ _) λe w ⟨he,hs⟩=>⟨_,he,?_⟩;refine Ac (decide_eq_false (by omega)) ?_;refine jw Ma ?_;refine Aw (by decide) ?_;rw[i64_in ((4:Int)*n) (by omega),Int.tdiv_eq_ediv_of_nonneg (by omega),i64_in _ (by omega)];refine Eg (sz:=1) hs rfl (by omega) (by omega) (by omega) (by omega) λs w hn2 _ _ hs=>?_;rw[IF] at hs;have hs:Ab W w (recs (Rec.int .u8) s (List.replicate (4*(n:Int) / 2).toNat 0)::L):=hs;refine Ai hs λb w hs=>?_;exact⟨b,rfl,HR ⟨by rw[List.length_replicate];omega,h8,by omega⟩ hs⟩
  | succ f ih=>
   intro n w hf h8 hn hs;rw[Mb];refine Am (Dn hs _ _ _) λe w ⟨he,hs⟩=>⟨_,he,?_⟩
   with_reducible refine Ay (λh1=>?_) (λh1=>?_)
   ·rw[i64_in _ (by omega),show(n:Int)*2=((2*n:Nat):Int) by omega];exact ih (2*n) w (by omega) (by omega) (by omega) hs
   ·refine jw Ma ?_;refine Aw (by decide) ?_;rw[i64_in ((4:Int)*n) (by omega),Int.tdiv_eq_ediv_of_nonneg (by omega),i64_in _ (by omega)];refine Eg (sz:=1) hs rfl (by omega) (by omega) (by omega) (by omega) λs w hn2 _ _ hs=>?_;rw[IF] at hs;have hs:Ab W w (recs (Rec.int .u8) s (List.replicate (4*(n:Int) / 2).toNat 0)::L):=hs;refine Ai hs λb w hs=>?_;exact⟨b,rfl,HR ⟨by rw[List.length_replicate];omega,h8,by omega⟩ hs⟩
 exact AJ _ (loop 1016 8 w (by omega) (by omega) (by omega) hs)
theorem Apz{i:Nat}(hl:l.length=2*n/\8<=n/\n<=4096)(hi:i<4*n)(hs:Ab W w (cK b n s m::recs (Rec.int .u8) s l::M)):AZ PR 354 #[pq b 0,.i (i:Int)] w λv w'=>∃y:Nat,v = .i (y:Int)/\y<=15/\Ab W w' (cK b n s m::recs (Rec.int .u8) s l::M):=by
 refine cw ⟨mixed,Tryz.func354,rfl⟩ Am2 ?_;have hn:=Bg (s:=s) (E:=Rec.int .u8) (rows:=l) hs;refine Aa (Ah (x:=s) hs (Aw (by decide) ?_));rw[Int.tdiv_eq_ediv_of_nonneg (by omega),i64_in _ (by omega),show(i:Int) / 2=((i / 2:Nat):Int) by omega];refine BU (s:=s) (E:=Rec.int .u8) (rows:=l) hs λb_ o_ ha_=>?_;refine Cw (s:=s) (E:=Rec.int .u8) (rows:=l) ha_ hs ?_ (hc:=rfl);have hmod:Int.tmod (i:Int) 2=((i % 2:Nat):Int):=rfl;refine Aw (by decide) (Aw ?_ ?_)
 ·rw[hmod,i64_in _ (by omega)];omega
 obtain⟨y,hy,hy2⟩:=A23 (IntKind.wrap .i64 (C7 .u8 (l.getD ((i / 2:Nat):Int).toNat default) (IntKind.wrap .i64 ((Int.tmod (i:Int) 2)*4))));exact⟨y,by rw[<- hy],hy2,hs⟩
theorem Ap0{i:Nat}{v2:Int}(hl:l.length=2*n/\8<=n/\n<=4096)(hi:i<4*n)(hs:Ab W w (cK b n s m::recs (Rec.int .u8) s l::M)):AZ PR 355 #[pq b 0,.i (i:Int),.i v2] w λv w'=>v = .tuple #[]/\∃l':List Int,l'.length=l.length/\Ab W w' (cK b n s m::recs (Rec.int .u8) s l'::M):=by
 refine cw ⟨mixed,Tryz.func355,rfl⟩ Am3 ?_;have hn:=Bg (s:=s) (E:=Rec.int .u8) (rows:=l) hs;have hmod:Int.tmod (i:Int) 2=((i % 2:Nat):Int):=rfl;have h4:(0:Int)<=IntKind.wrap .i64 ((Int.tmod (i:Int) 2)*4):=by rw[hmod,i64_in _ (by omega)];omega
 refine Aw (by decide) ?_;refine Al [cK b n s m] hs λw hs=>?_;refine Aa (Aq (x:=s) (Aw (by decide) (Aa (Aw (by decide) (Aw h4 (Aw h4 ?_))))));refine Ah (x:=s) hs (Af hs ?_);rw[Int.tdiv_eq_ediv_of_nonneg (by omega),i64_in _ (by omega),show(i:Int) / 2=((i / 2:Nat):Int) by omega];refine BF (s:=s) hs λb_ o_ hs=>?_;refine Ck hs (Af hs ?_);refine Ha hs ?_;refine Ay1 hs λw hs=>?_;have hs:=Ab.shut s hs;exact⟨rfl,_,List.length_set,hs⟩
theorem T8(hl:l.length=2*n/\8<=n/\n<=4096)(hz:key.size<64)(hs:Ab W w (cK b n s m::M)):AZ PR 353 #[pq b 0,.s key] w λv w'=>∃x y z u:Nat,v = .agg #[.i (x:Int),.i (y:Int),.i (z:Int),.i (u:Int)] /\
  (x<4*n/\y<4*n/\z<4*n/\u<4*n)/\Ab W w' (cK b n s m::M):=by
 refine cw ⟨mixed,Tryz.func353,rfl⟩ Am1 ?_;refine Ai hs λtb w hs=>?_;refine Ai hs λlb w hs=>?_;have loop:∀(f i:Nat)(xs:List Int)(w:World),i+f=4->xs.length=4->(∀x∈xs,0<=x/\x<4*n)->Ab W w (blk lb (Aat xs)::blk tb (Aat [0,0,0,0])::cK b n s m::M) ->
   Oy Be (λv w'=>∃x y z u:Nat,v = .agg #[.i (x:Int),.i (y:Int),.i (z:Int),.i (u:Int)]/\(x<4*n/\y<4*n/\z<4*n/\u<4*n)/\Ab W w' (cK b n s m::M)) (f+1) (some ⟨b,0,none⟩) key tb 0 lb 0 (i:Int) w:=by
  clear hs;intro f
  induction f with
  | zero=>
   intro i xs w hi hx hb hs;rw[M1];refine Ac (decide_eq_false (by omega)) ?_;refine jw Xz ?_;obtain⟨x,y,z,u,rfl⟩:∃x y z u,xs=[x,y,z,u]:=by
    match xs,hx with
    | [x,y,z,u],_=>exact⟨x,y,z,u,rfl⟩
   have hs:Ab W w (blk lb [.i x,.i y,.i z,.i u]::blk tb [.i 0,.i 0,.i 0,.i 0]::cK b n s m::M):=hs
   iterate 4 refine Ah hs ?_
   iterate 4 refine A4 hs λw hs=>?_
   iterate 4 refine Ah hs ?_
   have h1:=hb x (by simp);have h2:=hb y (by simp);have h3:=hb z (by simp);have h4:=hb u (by simp)
   refine⟨x.toNat,y.toNat,z.toNat,u.toNat,?_,⟨by omega,by omega,by omega,by omega⟩,by exact Ab.fin hs⟩;rw[Int.toNat_of_nonneg h1.1,Int.toNat_of_nonneg h2.1,Int.toNat_of_nonneg h3.1,Int.toNat_of_nonneg h4.1]
  | succ f ih=>
   intro i xs w hi hx hb hs;rw[M1];refine Ak (decide_eq_true (by omega)) ?_;refine Al [cK b n s m] hs λw hs=>?_;refine Aa (Aq (Aa (Aq ?_)));refine Am (Gs hs (by omega)) λe w ⟨he,hs⟩=>⟨_,he,Af hs ?_⟩;refine Am (Ga (n:=n) hs (FR _ _).1 (by omega) (by omega)) λe w ⟨he,hs⟩=>⟨_,he,Af hs ?_⟩;refine Aw (by omega) ?_;have hr:=Nat.mod_lt (EJ (IntKind.wrap .u64 (IntKind.wrap .i64 ((i:Int)+1))) key).toNat (show n>0 by omega);generalize (EJ (IntKind.wrap .u64 (IntKind.wrap .i64 ((i:Int)+1))) key).toNat % n=r at hr
   have h4:i=0\/i=1\/i=2\/i=3:=by omega
   have hm:0<=(i:Int)*n/\(i:Int)*n<=3*n:=by rcases h4 with rfl|rfl|rfl|rfl <;> omega
   rw[i64_in ((i:Int)*n) (by omega),i64_in _ (by omega),i64_in ((i:Int)+1) (by omega)];refine HY 0 (cs:=Aat xs) hs rfl (by unfold Aat;simp;omega) λw hs=>?_
   have e:0+((i:Int)).toNat*1=i:=by omega
   rw[e,Aob] at hs;refine ih (i+1) (xs.set i ((i:Int)*n+r)) w (by omega) (by simpa using hx) (λx hx2=>?_) hs;rcases List.mem_or_eq_of_mem_set hx2 with h|h
   ·exact hb x h
   ·subst h;omega
 exact AJ _ (loop 4 0 [0,0,0,0] w (by omega) rfl (by simp;omega) (by exact Ab.fin hs))
theorem A3u{x y z u:Nat}{i:Nat}(hi:i<4):∃k:Nat,([.i (x:Int),.i (y:Int),.i (z:Int),.i (u:Int)]:List Value)[((i:Nat):Int).toNat]? = some (.i (k:Int))/\(k=x\/k=y\/k=z\/k=u):=by
 match i,hi with
 | 0,_=>exact⟨x,rfl,.inl rfl⟩
 | 1,_=>exact⟨y,rfl,.inr (.inl rfl)⟩
 | 2,_=>exact⟨z,rfl,.inr (.inr (.inl rfl))⟩
 | 3,_=>exact⟨u,rfl,.inr (.inr (.inr rfl))⟩
theorem YS(hz:key.size<64)(hs:Ab W w (GD b::M)):AZ PR 352 #[pq b 0,.s key] w λv w'=>∃y:Int,v = .i y/\Ab W w' (GD b::M):=by
 refine cw ⟨mixed,Tryz.func352,rfl⟩ Am0 ?_;obtain⟨n,s,l,m,hl,hsn,hs⟩:=OR hs;refine Ac rfl ?_;refine Calls.mono (T8 hl hz hs) λe w ⟨v,he,x,y,z,u,hv,hb,hs⟩=>⟨x,y,z,u,by rw[he,hv],?_⟩;have loop:∀(f i:Nat)(low:Int)(w:World),i+f=4->Ab W w (cK b n s m::recs (Rec.int .u8) s l::M) ->
   Ow Be (λv w'=>∃y:Int,v = .i y/\Ab W w' (GD b::M)) (f+1) (some ⟨b,0,none⟩) low x y z u (i:Int) w:=by
  clear hs;intro f
  induction f with
  | zero=>
   intro i low w hi hs;rw[M0];refine Ac (decide_eq_false (by omega)) ?_;refine jw Xy ?_;exact⟨_,rfl,HR hl hs⟩
  | succ f ih=>
   intro i low w hi hs;rw[M0];refine Ak (decide_eq_true (by omega)) (Aw (by omega) ?_);obtain⟨k,hk,hk2⟩:=A3u (x:=x) (y:=y) (z:=z) (u:=u) (i:=i) (by omega);refine⟨_,hk,rfl,?_⟩;refine Ag (Apz hl (by omega) hs) λv w ⟨y,hv,_,hs⟩=>⟨_,hv,?_⟩;rw[i64_in _ (by omega)];exact ih (i+1) _ w (by omega) hs
 exact AJ _ (loop 4 0 15 w (by omega) hs)
theorem Apx(hs:Ab W w (GD b::M)):AZ PR 356 #[pq b 0] w λv w'=>v = .tuple #[]/\Ab W w' (GD b::M):=by
 refine cw ⟨mixed,Tryz.func356,rfl⟩ Am4 ?_;obtain⟨n,s,l,m,hl,hsn,hs⟩:=OR hs;refine Ac rfl (Aa (Ah hs ?_));rw[i64_in _ (by omega)];have loop:∀(f i:Nat)(l:List Int)(w:World),i+f=4*n->(l.length=2*n/\8<=n/\n<=4096)->Ab W w (cK b n s m::recs (Rec.int .u8) s l::M) ->
   O0 Be (λv w'=>v = .tuple #[]/\Ab W w' (GD b::M)) (f+1) (some ⟨b,0,none⟩) (4*(n:Int)) (i:Int) w:=by
  clear hs hl hsn;intro f
  induction f with
  | zero=>
   intro i l w hi hl hs;rw[M2];refine Ac (decide_eq_false (by omega)) ?_;refine jw X0 ?_;refine Aa (Ah hs (Aw (by decide) (Aa (A4 hs λw hs=>?_))));exact⟨rfl,HR hl hs⟩
  | succ f ih=>
   intro i l w hi hl hs;rw[M2];refine Ak (decide_eq_true (by omega)) ?_;refine Ag (Apz hl (by omega) hs) λv w ⟨y,hv,_,hs⟩=>⟨_,hv,Aw (by decide) ?_⟩;refine AY (Ap0 hl (by omega) hs) λv w ⟨hv,l',hl',hs⟩=>⟨hv,?_⟩;rw[i64_in ((i:Int)+1) (by omega)];exact ih (i+1) l' w (by omega) ⟨by omega,hl.2⟩ hs
 exact AJ _ (loop (4*n) 0 l w (by omega) hl hs)
theorem A2g(hz:key.size<64)(hs:Ab W w (GD b::M)):AZ PR 344 #[pq b 0,.s key] w λv w'=>v = .tuple #[]/\Ab W w' (GD b::M):=by
 refine cw ⟨mixed,Tryz.func344,rfl⟩ Amu ?_;refine Ac rfl ?_;refine Ag (YS hz hs) λv w ⟨low,hv,hs⟩=>⟨_,hv,?_⟩;refine Ap (λ_=>⟨rfl,hs⟩) (λ_=>?_);obtain⟨n,s,l,m,hl,hsn,hs⟩:=OR hs;refine Calls.mono (T8 hl hz hs) λe w ⟨v,he,x,y,z,u,hv,hb,hs⟩=>⟨x,y,z,u,by rw[he,hv],?_⟩;have loop:∀(f i:Nat)(l:List Int)(w:World),i+f=4->(l.length=2*n/\8<=n/\n<=4096)->Ab W w (cK b n s m::recs (Rec.int .u8) s l::M) ->
   Kv Be (λv w'=>v = .tuple #[]/\Ab W w' (GD b::M)) (f+1) (some ⟨b,0,none⟩) low x y z u (i:Int) w:=by
  clear hs hl hsn;intro f
  induction f with
  | zero=>
   intro i l w hi hl hs;rw[My];refine Ac (decide_eq_false (by omega)) ?_;refine jw Xv ?_;refine Aa (Ah hs (Aa (A4 hs λw hs=>?_)));refine Al [cK b n s (IntKind.wrap .i64 (m+1))] hs λw hs=>?_;refine Aa (Aq (Aa (Ah hs (Af hs ?_))));refine Ap (λ_=>?_) (λ_=>⟨rfl,HR hl hs⟩);exact AY (Apx (HR hl hs)) λv w ⟨hv,hs⟩=>⟨hv,rfl,hs⟩
  | succ f ih=>
   intro i l w hi hl hs;rw[My];refine Ak (decide_eq_true (by omega)) (Aw (by omega) ?_);obtain⟨k,hk,hk2⟩:=A3u (x:=x) (y:=y) (z:=z) (u:=u) (i:=i) (by omega);refine⟨_,hk,rfl,?_⟩;refine Ag (Apz hl (by omega) hs) λv w ⟨y,hv,hy,hs⟩=>⟨_,hv,?_⟩;rw[i64_in ((i:Int)+1) (by omega)];refine Ap (λ_=>?_) (λ_=>ih (i+1) l w (by omega) hl hs);refine Am (Iw hs (b:=15) (by decide) (by omega)) λe w ⟨he,hs⟩=>⟨_,he,?_⟩;refine AY (Ap0 hl (by omega) hs) λv w ⟨hv,l',hl',hs⟩=>⟨hv,?_⟩;exact ih (i+1) l' w (by omega) ⟨by omega,hl.2⟩ hs
 exact AJ _ (loop 4 0 l w (by omega) hl hs)
theorem Apy(hs:Ab W w (GD b::M)):AZ PR 343 #[pq b 0] w λv w'=>∃y:Int,v = .i y/\Ab W w' (GD b::M):=by
 refine cw ⟨mixed,Tryz.func343,rfl⟩ Amt ?_;obtain⟨n,s,l,m,hl,hsn,hs⟩:=OR hs;refine Ac rfl (Aa (Ah hs ?_));exact⟨_,rfl,HR hl hs⟩
theorem Azi(hs:Ab W w L){r:Int}:AZ PR 189 #[.i r] w λv w'=>∃b,v=pq b 0/\Ab W w' (GQ b::L):=by
 refine cw ⟨mixed,Tryz.func189,rfl⟩ Akn ?_;have hc:=FB r (lo:=1) (hi:=1024) (by decide);have fin:∀(n:Nat)(w:World),1<=n->n<=2048->Ab W w L->Acn Be (λv w'=>∃b,v=pq b 0/\Ab W w' (GQ b::L)) (n:Int) w:=by
  clear hs;intro n w h1 hn hs;refine jw WC ?_;refine Aw (by decide) ?_;rw[i64_in ((8:Int)*n) (by omega),Int.tdiv_eq_ediv_of_nonneg (by omega),i64_in _ (by omega)];obtain⟨k,hk,hk1⟩:∃k:Int,(if 8*(n:Int) / 64>1 then 8*(n:Int) / 64 else 1)=k/\1<=k/\k<=4096:=⟨_,rfl,by split <;> omega⟩
  rw[hk];refine Eg (sz:=1) hs rfl (by omega) (by omega) (by omega) (by omega) λs w hn2 _ _ hs=>?_;rw[IF] at hs;have hs:Ab W w (recs (Rec.int .u64) s (List.replicate k.toNat 0)::L):=hs;refine Ai hs λb w hs=>?_;exact⟨b,rfl,Kd (by rw[List.length_replicate];omega) hs⟩
 have loop:∀(f n:Nat)(w:World),1024<=n+f->1<=n->n<=2048->Ab W w L->NP Be (λv w'=>∃b,v=pq b 0/\Ab W w' (GQ b::L)) (f+1) r (n:Int) w:=by
  clear hs;intro f
  induction f with
  | zero=>
   intro n w hf h8 hn hs;rw[Mc];refine Am (Dn hs _ _ _) λe w ⟨he,hs⟩=>⟨_,he,?_⟩;exact Ac (decide_eq_false (by omega)) (fin n w h8 hn hs)
  | succ f ih=>
   intro n w hf h8 hn hs;rw[Mc];refine Am (Dn hs _ _ _) λe w ⟨he,hs⟩=>⟨_,he,?_⟩
   with_reducible refine Ay (λh1=>?_) (λh1=>?_)
   ·rw[i64_in _ (by omega),show(n:Int)*2=((2*n:Nat):Int) by omega];exact ih (2*n) w (by omega) (by omega) (by omega) hs
   ·exact fin n w h8 hn hs
 exact AJ _ (loop 1023 1 w (by omega) (by omega) (by omega) hs)
theorem Ait{i:Int}(hl:1<=l.length/\l.length<=4096)(hsn:s.n=l.length)(hz:key.size<64)(hs:Ab W w (blk b [.l s.a s.n s.c]::M)):AZ PR 351 #[pq b 0,.i i,.s key] w λv w'=>∃(x:Nat) (y:Int),v = .tuple #[.i (x:Int),.int .u64 y]/\x<l.length/\Ab W w' (blk b [.l s.a s.n s.c]::M):=by
 refine cw ⟨mixed,Tryz.func351,rfl⟩ Amz ?_;refine Al [blk b [.l s.a s.n s.c]] hs λw hs=>?_;refine Aa (Aq (x:=s) ?_);refine Am (Gs hs (by omega)) λe w ⟨he,hs⟩=>⟨_,he,Af hs ?_⟩;rw[i64_in ((64:Int)*(s.n:Int)) (by omega),show(64:Int)*(s.n:Int)=((64*s.n:Nat):Int) by omega];refine Am (Ga (n:=64*s.n) hs (FR _ _).1 (by omega) (by omega)) λe w ⟨he,hs⟩=>⟨_,he,?_⟩;have hr:=Nat.mod_lt (EJ (IntKind.wrap .u64 (IntKind.wrap .i64 (11+i))) key).toNat (show 64*s.n>0 by omega);generalize (EJ (IntKind.wrap .u64 (IntKind.wrap .i64 (11+i))) key).toNat % (64*s.n)=r at hr
 refine Al [] hs λw hs=>?_;have hmod:Int.tmod (r:Int) 64=((r % 64:Nat):Int):=rfl;refine Aw (by decide) (Aw (by decide) (Aw (by rw[hmod];omega) ?_))
 rw[Int.tdiv_eq_ediv_of_nonneg (by omega),i64_in _ (by omega),show(r:Int) / 64=((r / 64:Nat):Int) by omega];exact⟨r / 64,_,rfl,by omega,hs⟩
theorem Ais(hz:key.size<64)(hs:Ab W w (GQ b::M)):AZ PR 350 #[pq b 0,.s key] w λv w'=>∃t:Bool,v = .b t/\Ab W w' (GQ b::M):=by
 refine cw ⟨mixed,Tryz.func350,rfl⟩ Amy ?_;refine Ac rfl ?_;obtain⟨s,l,hl,hsn,hs⟩:=TN hs;have loop:∀(f i:Nat)(w:World),i+f=3->Ab W w (blk b [.l s.a s.n s.c]::recs (Rec.int .u64) s l::M) ->
   Ou Be (λv w'=>∃t:Bool,v = .b t/\Ab W w' (GQ b::M)) (f+1) (some ⟨b,0,none⟩) key (i:Int) w:=by
  clear hs;intro f
  induction f with
  | zero=>
   intro i w hi hs;rw[Mz];refine Ac (decide_eq_false (by omega)) ?_;refine jw Xx ?_;exact⟨_,rfl,Kd hl hs⟩
  | succ f ih=>
   intro i w hi hs;rw[Mz];refine Ak (decide_eq_true (by omega)) ?_;refine AH (Ait hl hsn hz hs) λv w ⟨x,y,hv,hx,hs⟩=>⟨_,_,hv,?_⟩;refine Aa (Ah (x:=s) hs ?_);refine BU (s:=s) (E:=Rec.int .u64) (rows:=l) hs λb_ o_ ha_=>?_;refine Cw (s:=s) (E:=Rec.int .u64) (rows:=l) ha_ hs ?_ (hc:=rfl);rw[i64_in ((i:Int)+1) (by omega)];exact Ap (λ_=>⟨_,rfl,Kd hl hs⟩) (λ_=>ih (i+1) w (by omega) hs)
 exact AJ _ (loop 3 0 w (by omega) hs)
theorem Azh(hz:key.size<64)(hs:Ab W w (GQ b::M)):AZ PR 342 #[pq b 0,.s key] w λv w'=>∃t:Bool,v = .b t/\Ab W w' (GQ b::M):=by
 refine cw ⟨mixed,Tryz.func342,rfl⟩ Ams ?_;refine Ac rfl ?_;refine Ag (Ais hz hs) λv w ⟨t,hv,hs⟩=>⟨_,hv,?_⟩;obtain⟨s,l,hl,hsn,hs⟩:=TN hs;have loop:∀(f i:Nat)(l:List Int)(w:World),i+f=3->(1<=l.length/\l.length<=4096)->s.n=l.length->Ab W w (blk b [.l s.a s.n s.c]::recs (Rec.int .u64) s l::M) ->
   Oo Be (λv w'=>∃t:Bool,v = .b t/\Ab W w' (GQ b::M)) (f+1) (some ⟨b,0,none⟩) key t (i:Int) w:=by
  clear hs hl hsn;intro f
  induction f with
  | zero=>
   intro i l w hi hl hsn hs;rw[Mx];refine Ac (decide_eq_false (by omega)) ?_;refine jw Xu ?_;exact⟨_,rfl,Kd hl hs⟩
  | succ f ih=>
   intro i l w hi hl hsn hs;rw[Mx];refine Ak (decide_eq_true (by omega)) ?_;refine AH (Ait hl hsn hz hs) λv w ⟨x,y,hv,hx,hs⟩=>⟨_,_,hv,?_⟩;refine Aa (Ah (x:=s) hs ?_);refine BF (s:=s) hs λb_ o_ hs=>?_;refine Ck hs ?_;refine Ha hs ?_;refine Ay1 hs λw hs=>?_;have hs:=Ab.shut s hs;rw[i64_in ((i:Int)+1) (by omega)];exact ih (i+1) _ w (by omega) (by rw[List.length_set];exact hl) (by rw[List.length_set];exact hsn) hs
 exact AJ _ (loop 3 0 l w (by omega) hl hsn hs)
theorem Air(hs:Ab W w (GQ b::M)):AZ PR 345 #[pq b 0] w λv w'=>v = .tuple #[]/\Ab W w' (GQ b::M):=by
 refine cw ⟨mixed,Tryz.func345,rfl⟩ Amv ?_;refine Ak rfl ?_;obtain⟨s,l,hl,hsn,hs⟩:=TN hs;refine Aa (Ah (x:=s) hs ?_);obtain⟨b1,o1,ha,hs⟩:∃b1 o1,s.a=some ⟨b1,o1,none⟩/\Ab W w (reca (Rec.int .u64) b1 o1 s l::blk b [.l s.a s.n s.c]::M):=by
  have h:C1 s.a s.n (0:Int) (λb1 o1 w=>s.a=some ⟨b1,o1,none⟩/\Ab W w (reca (Rec.int .u64) b1 o1 s l::blk b [.l s.a s.n s.c]::M)) w:=by
   refine BF (s:=s) hs λb_ o_ hs=>?_;have hs:Ab W w (reca (Rec.int .u64) b_ o_ s l::blk b [.l s.a s.n s.c]::M):=hs.perm (List.Perm.swap _ _ _);exact⟨hs.pure (q:=0) rfl λ_ hg=>hg.1,hs⟩
  obtain⟨b1,o1,_,_,h⟩:=h;exact⟨b1,o1,h⟩
 have hz:Tl (Da [.int .u64 (0:Int)] s.n)=true:=by rw[IF];exact CV _
 unfold Aqv;rw[hz,ha];show sts (Da [.int .u64 (0:Int)] s.n) b1 (o1+0) _ w;refine Ain s.n 0 l w (by omega) hs λl' w' hl' hs=>?_;have hs:=(hs.perm (List.Perm.swap _ _ _)).shut s;exact⟨rfl,Kd (s:=s) (by omega) hs⟩
end
end Go.Proofs.YtjipofkjmmpjdaaGreat
namespace Go.Hb
open Go.Proofs.YtjipofkjmmpjdaaGreat
abbrev cY(b:Nat)(s:Sl)(xb:Nat)(c wd mn pr:Int)(kb db:Nat):HP:=blk b [.l s.a s.n s.c,pq xb 0,.i c,.i wd,.i mn,.i pr,pq kb 0,pq db 0]
def QU(b:Nat)(c wd mn:Int)(i a p:BL):HP:=JU λ(z:Sl×Nat×Int×Nat×Nat)=>ED (0<=z.2.2.1) (AF [cY b z.1 z.2.1 c wd mn z.2.2.1 z.2.2.2.1 z.2.2.2.2,rowsC z.1 z.2.1 5000 [i,a,p],GD z.2.2.2.1,GQ z.2.2.2.2])
structure Ro(c wd mn:Int)(R i a p:BL):Prop where
 eq:R=i++(a++p)
 ok:Dl c R
 w1:1<=wd
 mn0:0<=mn
 sum:wd+mn=c
 win:(i.length:Int)<=wd
 main:(a.length:Int)+p.length<=mn
def LG(b:Nat)(c:Int)(R:BL):HP:=JU λ(z:(Int×Int)×(BL×BL×BL))=>ED (Ro c z.1.1 z.1.2 R z.2.1 z.2.2.1 z.2.2.2) (QU b c z.1.1 z.1.2 z.2.1 z.2.2.1 z.2.2.2)
section
variable{W w:World}{M L:List HP}{b:Nat}{c wd mn:Int}{R i a p:BL}
theorem Cn(h:Ab W w (QU b c wd mn i a p::M)):∃(s:Sl) (xb:Nat) (pr:Int) (kb db:Nat),0<=pr/\Ab W w (cY b s xb c wd mn pr kb db::rowsC s xb 5000 [i,a,p]::GD kb::GQ db::M):=by
 obtain⟨⟨s,xb,pr,kb,db⟩,h⟩:=h.openE;obtain⟨hp,h⟩:=h.openA;exact⟨s,xb,pr,kb,db,hp,h.openL⟩
theorem Bh{s:Sl}{xb kb db:Nat}{pr:Int}(hp:0<=pr)(h:Ab W w (cY b s xb c wd mn pr kb db::rowsC s xb 5000 [i,a,p]::GD kb::GQ db::M)):Ab W w (QU b c wd mn i a p::M):=
 Ab.shutE (s,xb,pr,kb,db) (Ab.shutA hp (Ab.shutL (Ps:=[_,_,_,_]) h))
theorem DW(h:Ab W w (LG b c R::M)):∃(wd mn:Int) (i a p:BL),Ro c wd mn R i a p/\Ab W w (QU b c wd mn i a p::M):=by
 obtain⟨⟨⟨wd,mn⟩,⟨i,a,p⟩⟩,h⟩:=h.openE;obtain⟨h1,h⟩:=h.openA;exact⟨wd,mn,i,a,p,h1,h⟩
theorem Cx(h1:Ro c wd mn R i a p)(h:Ab W w (QU b c wd mn i a p::M)):Ab W w (LG b c R::M):=Ab.shutE ((wd,mn),(i,a,p)) (Ab.shutA h1 h)
theorem TW(h:Ab W w (LG b c R::M)):Dl c R:=by
 obtain⟨wd,mn,i,a,p,h1,_⟩:=DW h;exact h1.ok
theorem A2r(h:Ab W w (QU b c wd mn i a p::M)):w.cell? ⟨b,2,none⟩=some (.i c):=by
 obtain⟨s,xb,pr,kb,db,_,h⟩:=Cn h;exact h.cell (q:=0) rfl
theorem Aq4(h:Ab W w (LG b c R::M)):w.cell? ⟨b,2,none⟩=some (.i c):=by
 obtain⟨wd,mn,i,a,p,_,h⟩:=DW h;exact A2r h
theorem Aep(h:Ab W w (QU b c wd mn i a p::M)):Nd3 i a p:=by
 obtain⟨s,xb,pr,kb,db,_,h⟩:=Cn h;exact nd3 (M:=GD kb::GQ db::M) h.drop
theorem Ro.len(h:Ro c wd mn R i a p):R.length=i.length+(a.length+p.length)/\c<=1024:=by
 rw[h.eq];simp;exact h.ok.c2
end
end Go.Hb
namespace Go.Proofs.YtjipofkjmmpjdaaGreat
open Go.Hb Go.IntWalk
section
variable{W w:World}{L M:List HP}{b:Nat}{c wd mn:Int}{R i a p:BL}{key:BA}
theorem A2q(hs:Ab W w L){r:Int}:AZ PR 154 #[.i r] w λv w'=>∃b,v=pq b 0/\Ab W w' (LG b (AT r) []::L):=by
 refine cw ⟨mixed,Tryz.func154,rfl⟩ Aj4 ?_;refine Aw (by decide) ?_;refine(KT AD (nr:=3) (by decide) hs).mono λe w ⟨s,xb,he,hs⟩=>⟨s,_,he,?_⟩;have hs:=IY (N':=5000) hs (by omega);refine Aw (by decide) ?_;have hr:=Eb r;rw[KO];refine Ag (A3w hs) λv w ⟨kb,hv,hs⟩=>⟨_,hv,?_⟩;refine Ag (Azi hs) λv w ⟨db,hv,hs⟩=>⟨_,hv,?_⟩;refine Ai hs λb w hs=>⟨b,rfl,?_⟩;have e3:List.replicate 3 ([]:BL)=[[],[],[]]:=rfl;rw[e3,Int.tdiv_eq_ediv_of_nonneg (by omega),i64_in (AT r / 8) (by omega)] at hs;obtain⟨q,hq,hq1⟩:∃q:Int,(if AT r / 8>1 then AT r / 8 else 1)=q/\1<=q/\q<=AT r:=⟨_,rfl,by split <;> omega⟩
 rw[hq,i64_in (AT r-q) (by omega),i64_in ((AT r-q)*4) (by omega),Int.tdiv_eq_ediv_of_nonneg (by omega),i64_in _ (by omega)] at hs;have hok:Ro (AT r) q (AT r-q) [] [] [] []:=⟨rfl,Dl.nil hr.1 hr.2,hq1.1,by omega,by omega,by simp;omega,by simp;omega⟩
 exact Cx hok (Bh (pr:=(AT r-q)*4 / 5) (by omega) (by exact Ab.fin hs))
theorem Ayc(hs:Ab W w (LG b c R::M)):AZ PR 331 #[pq b 0] w λv w'=>v = .i c/\Ab W w' (LG b c R::M):=by
 refine cw ⟨mixed,Tryz.func331,rfl⟩ Amo ?_;obtain⟨wd,mn,i,a,p,h1,hs⟩:=DW hs;obtain⟨s,xb,pr,kb,db,hp,hs⟩:=Cn hs;refine Ac rfl (Aa (Ah hs ?_));exact⟨rfl,Cx h1 (Bh hp hs)⟩
theorem Aby(hs:Ab W w (LG b c R::M)):AZ PR 328 #[pq b 0] w λv w'=>v = .i (R.length:Int)/\Ab W w' (LG b c R::M):=by
 refine cw ⟨mixed,Tryz.func328,rfl⟩ Aml ?_;obtain⟨wd,mn,i,a,p,h1,hs⟩:=DW hs;obtain⟨s,xb,pr,kb,db,hp,hs⟩:=Cn hs;refine Ac rfl (Aa (Ah (x:=s) hs (Ah hs ?_)));refine Ai hs λnb w hs=>?_;refine AM AD (nr:=3) (K:=[i,a,p]) [0,1,2] (M:=cY b s xb c wd mn pr kb db::GD kb::GQ db::M) (by exact Ab.fin hs) (by omega) rfl λw hs=>?_;refine⟨?_,Cx h1 (Bh hp (by exact Ab.fin hs))⟩;rw[h1.len.1];simp[Bv]
theorem Abx(hz:key.size<64)(hs:Ab W w (LG b c R::M)):AZ PR 326 #[pq b 0,.s key] w λv w'=>v = .b (decide (key∈R))/\Ab W w' (LG b c R::M):=by
 refine cw ⟨mixed,Tryz.func326,rfl⟩ Amj ?_;obtain⟨wd,mn,i,a,p,h1,hs⟩:=DW hs;obtain⟨s,xb,pr,kb,db,hp,hs⟩:=Cn hs;refine Ac rfl (Aa (Ah (x:=s) hs (Ah hs ?_)));refine Am (DF AD (K:=[i,a,p]) hs hz) λe w ⟨he,hs⟩=>⟨_,he,?_⟩;have e:∀t:Bool,(t=true↔key∈i\/key∈a\/key∈p)->Value.bool t = .b (decide (key∈R)):=λt ht=>by
  congr 1;rw[Bool.eq_iff_iff,ht,h1.eq,decide_eq_true_eq,List.mem_append,List.mem_append]
 rcases QQ i a p key with⟨h,h4⟩|⟨h,h4,h5⟩|⟨h,h4,h5,h6⟩|⟨h,h4,h5,h6⟩ <;> rw[h]
 ·exact Ak rfl ⟨e _ (by simp[h4]),Cx h1 (Bh hp hs)⟩
 ·exact Ac rfl (Ak rfl ⟨e _ (by simp[h5]),Cx h1 (Bh hp hs)⟩)
 ·exact Ac rfl (Ac rfl ⟨e _ (by simp[h6]),Cx h1 (Bh hp hs)⟩)
 ·exact Ac rfl (Ac rfl ⟨e _ (by simp[h4,h5,h6]),Cx h1 (Bh hp hs)⟩)
theorem Aya(hs:Ab W w (LG b c R::M)):AZ PR 327 #[pq b 0] w λv w'=>∃(l:Sl) (ks:BL),v = .l l.a l.n l.c/\ks.Perm R/\Ab W w' (LG b c R::recs Rec.str l ks::M):=by
 refine cw ⟨mixed,Tryz.func327,rfl⟩ Amk ?_;obtain⟨wd,mn,i,a,p,h1,hs⟩:=DW hs;obtain⟨s,xb,pr,kb,db,hp,hs⟩:=Cn hs;refine Ac rfl (Aa (Ah (x:=s) hs (Ah hs ?_)));refine Ai hs λnb w hs=>?_;refine OJ AD (nr:=3) (K:=[i,a,p]) [0,1,2] (M:=cY b s xb c wd mn pr kb db::GD kb::GQ db::M) (by exact Ab.fin hs) (by omega) rfl λl w hs=>?_;refine⟨l,_,rfl,?_,Cx h1 (Bh hp (by exact Ab.fin hs))⟩;rw[h1.eq];simp[EM]
theorem TA(hs:Ab W w (QU b c wd mn i a p::M)):AZ PR 339 #[pq b 0] w λv w'=>
  ((v = .tuple #[.i 1,.b true]/\0<a.length)\/(v = .tuple #[.i 2,.b true]/\a=[]/\0<p.length)\/(v = .tuple #[.i 0,.b false]/\a=[]/\p=[]))/\Ab W w' (QU b c wd mn i a p::M):=by
 refine cw ⟨mixed,Tryz.func339,rfl⟩ Amr ?_;obtain⟨s,xb,pr,kb,db,hp,hs⟩:=Cn hs;refine Ai hs λvb w hs=>?_;have hs:=Ab.blkS (b:=vb) (cs:=[.i 1,.i 2]) (n:=2) Rec.nat [1,2] hs rfl rfl;have hs:Ab W w (recs Rec.nat ⟨some ⟨vb,0,none⟩,2,2⟩ [1,2]::cY b s xb c wd mn pr kb db::rowsC s xb 5000 [i,a,p]::GD kb::GQ db::M):=hs;refine AJ 3 ?_;rw[Iq];refine Ak rfl ?_;refine BU (s:=⟨some ⟨vb,0,none⟩,2,2⟩) (rows:=[1,2]) hs λb_ o_ ha_=>?_;refine Cw (rows:=[1,2]) ha_ hs ?_ (k:=.int .i64) (x:=(1:Int)) (hc:=rfl);refine Aa (Ah (x:=s) hs (Ah hs ?_));refine Ai hs λnb w hs=>?_
 refine AM AD (nr:=3) (K:=[i,a,p]) [1] (M:=recs Rec.nat ⟨some ⟨vb,0,none⟩,2,2⟩ [1,2]::cY b s xb c wd mn pr kb db::GD kb::GQ db::M) (by exact Ab.fin hs) (by omega) rfl λw hs=>?_;have e1:(Bv [i,a,p] [1]:Int)=a.length:=by simp[Bv]
 rw[e1]
 with_reducible refine Ay (λh1=>?_) (λh1=>?_)
 ·exact⟨.inl ⟨rfl,by omega⟩,Bh hp (by exact Ab.fin hs)⟩
 have ha:a=[]:=List.length_eq_zero_iff.1 (by omega);have hs:Ab W w (recs Rec.nat ⟨some ⟨vb,0,none⟩,2,2⟩ [1,2]::cY b s xb c wd mn pr kb db::rowsC s xb 5000 [i,a,p]::GD kb::GQ db::M):=by exact Ab.fin hs
 rw[i64_in ((0:Int)+1) (by omega),Iq];refine Ak rfl ?_;refine BU (s:=⟨some ⟨vb,0,none⟩,2,2⟩) (rows:=[1,2]) hs λb_ o_ ha_=>?_;refine Cw (rows:=[1,2]) ha_ hs ?_ (k:=.int .i64) (x:=(2:Int)) (hc:=rfl);refine Aa (Ah (x:=s) hs (Ah hs ?_));refine Ai hs λnb w hs=>?_;refine AM AD (nr:=3) (K:=[i,a,p]) [2] (M:=recs Rec.nat ⟨some ⟨vb,0,none⟩,2,2⟩ [1,2]::cY b s xb c wd mn pr kb db::GD kb::GQ db::M) (by exact Ab.fin hs) (by omega) rfl λw hs=>?_;have e1:(Bv [i,a,p] [2]:Int)=p.length:=by simp[Bv]
 rw[e1]
 with_reducible refine Ay (λh2=>?_) (λh2=>?_)
 ·exact⟨.inr (.inl ⟨rfl,ha,by omega⟩),Bh hp (by exact Ab.fin hs)⟩
 rw[i64_in ((0:Int)+1+1) (by omega),Iq];refine Ac rfl ?_;refine jw Xt ?_;exact⟨.inr (.inr ⟨rfl,ha,List.length_eq_zero_iff.1 (by omega)⟩),Bh hp (by exact Ab.fin hs)⟩
theorem Ah1{s:Sl}{xb kb db:Nat}{pr:Int}(hz:key.size<64)(hs:Ab W w (cY b s xb c wd mn pr kb db::rowsC s xb 5000 [i,a,p]::GD kb::GQ db::M)):AZ PR 348 #[pq b 0,.s key] w λv w'=>∃y:Int,v = .i y/\Ab W w' (cY b s xb c wd mn pr kb db::rowsC s xb 5000 [i,a,p]::GD kb::GQ db::M):=by
 refine cw ⟨mixed,Tryz.func348,rfl⟩ Amw ?_;refine Aa (Ah hs ?_);have hs:Ab W w (GD kb::cY b s xb c wd mn pr kb db::rowsC s xb 5000 [i,a,p]::GQ db::M):=by exact Ab.fin hs
 refine Ag (YS hz hs) λv w ⟨y,hv,hs⟩=>⟨_,hv,?_⟩;refine Aa (Ah hs ?_);have hs:Ab W w (GQ db::cY b s xb c wd mn pr kb db::rowsC s xb 5000 [i,a,p]::GD kb::M):=by exact Ab.fin hs
 refine Ag (Ais hz hs) λv w ⟨t,hv,hs⟩=>⟨_,hv,?_⟩;have hs:Ab W w (cY b s xb c wd mn pr kb db::rowsC s xb 5000 [i,a,p]::GD kb::GQ db::M):=by exact Ab.fin hs
 exact Ap (λ_=>⟨_,rfl,hs⟩) (λ_=>⟨_,rfl,hs⟩)
theorem Aqf(hz:key.size<64)(hs:Ab W w (QU b c wd mn i a p::M)):AZ PR 333 #[pq b 0,.s key] w λv w'=>v = .tuple #[]/\Ab W w' (QU b c wd mn i a p::M):=by
 refine cw ⟨mixed,Tryz.func333,rfl⟩ Amp ?_;obtain⟨s,xb,pr,kb,db,hp,hs⟩:=Cn hs;refine Aa (Ah hs ?_);have hs:Ab W w (GQ db::cY b s xb c wd mn pr kb db::rowsC s xb 5000 [i,a,p]::GD kb::M):=by exact Ab.fin hs
 refine Ag (Azh hz hs) λv w ⟨t,hv,hs⟩=>⟨_,hv,?_⟩;refine Ap (λ_=>⟨rfl,Bh hp (by exact Ab.fin hs)⟩) (λ_=>?_);refine Aa (Ah hs ?_);have hs:Ab W w (GD kb::cY b s xb c wd mn pr kb db::rowsC s xb 5000 [i,a,p]::GQ db::M):=by exact Ab.fin hs
 refine Ag (Apy hs) λv w ⟨y,hv,hs⟩=>⟨_,hv,Aa (Ah hs ?_)⟩;refine AY (A2g hz hs) λv w ⟨hv,hs⟩=>⟨hv,Aa (Ah hs ?_)⟩;refine Ag (Apy hs) λv w ⟨y,hv,hs⟩=>⟨_,hv,?_⟩;refine Ap (λ_=>?_) (λ_=>⟨rfl,Bh hp (by exact Ab.fin hs)⟩);refine Aa (Ah hs ?_);have hs:Ab W w (GQ db::cY b s xb c wd mn pr kb db::rowsC s xb 5000 [i,a,p]::GD kb::M):=by exact Ab.fin hs
 exact AY (Air hs) λv w ⟨hv,hs⟩=>⟨hv,rfl,Bh hp (by exact Ab.fin hs)⟩
theorem Aqe(hs:Ab W w (LG b c R::M)):AZ PR 324 #[pq b 0] w λv w'=>∃x yes S,v = .tuple #[.s x,.b yes]/\Gi c R x yes S/\Ab W w' (LG b c S::M):=by
 refine cw ⟨mixed,Tryz.func324,rfl⟩ Ami ?_;refine Ag (Aby hs) λv w ⟨hv,hs⟩=>⟨_,hv,?_⟩;have hk:=TW hs
 with_reducible refine Ay (λh0=>?_) (λh0=>?_)
 ·exact⟨_,_,_,rfl,Gi.none hk (by omega),hs⟩
 obtain⟨wd,mn,i,a,p,h1,hs⟩:=DW hs;have hll:=h1.len;have hnd:=Aep hs;have fin:∀(j:Nat)(q:BL)(i' a' p':BL)(w:World),j<3->[i,a,p].getD j []=q->0<q.length->(BW q).size<64->Dr [i,a,p] (BW q)=[i',a',p']->R.Perm (BW q::(i'++(a'++p')))->i'.length<=i.length->a'.length+p'.length<=a.length+p.length->Ab W w (QU b c wd mn i a p::M) ->
   Ad (some ⟨b,0,none⟩) (λb_4 o_5=>ld .slc b_4 o_5 λ(x_6:Sl)=>ld .ptr b_4 (o_5+1) λ(x_7:OA)=>call1 .str PR 337 [.agg #[.l x_6.a x_6.n x_6.c,.p x_7],.i (j:Int)] λ(x_8:BA)=>Ad (some ⟨b,0,none⟩) λb_9 o_10=>ld .slc b_9 o_10 λ(x_11:Sl)=>ld .ptr b_9 (o_10+1) λ(x_12:OA)=>VP PR 340 [.agg #[.l x_11.a x_11.n x_11.c,.p x_12],.s x_8]<|
    (λw'=>∃x yes S,(Value.tuple #[.s x_8,.b true]) = .tuple #[.s x,.b yes]/\Gi c R x yes S/\Ab W w' (LG b c S::M))) w:=by
  clear hs;intro j q i' a' p' w hj hq h0 hz e1 hp2 hli hla hs;obtain⟨s,xb,pr,kb,db,hp,hs⟩:=Cn hs;refine Aa (Ah (x:=s) hs (Ah hs ?_));refine Am (Bt AD (K:=[i,a,p]) (j:=j) hs (lt3 hj) (show 3<=4 by decide)) λe w ⟨he,hs⟩=>⟨_,he,?_⟩;rw[hq];refine Aa (Ah (x:=s) hs (Ah hs ?_));refine Ar (BT AD (K:=[i,a,p]) (key:=BW q) hs hz (by omega) (show 3<=4 by decide)) λe w ⟨he,hs⟩=>⟨he,?_⟩;rw[e1] at hs;have hev:=Gi.of_perm hk hp2;have hw:=h1.win;have hm:=h1.main
  exact⟨_,_,_,rfl,hev,Cx ⟨rfl,hev.ok,h1.w1,h1.mn0,h1.sum,by omega,by omega⟩ (Bh hp hs)⟩
 have hdec:∀q:BL,0<q.length->q=BW q::q.drop 1:=λq hq=>by
  cases q with
  | nil=>simp at hq
  | cons x t=>rfl
 refine AH (TA hs) λv w ⟨h,hs⟩=>?_;rcases h with⟨hv,h0⟩|⟨hv,ha,h0⟩|⟨hv,ha,hp⟩
 ·have hm:=C2 h0;refine⟨_,_,hv,fin 1 a i (a.drop 1) p w (by decide) rfl h0 (hnd.small _ (.inr (.inl hm))) ?_ ?_ (Nat.le_refl _) (by simp) hs⟩
  ·show[Ao i _,Ao a _,Ao p _]=_;rw[As λh=>(hnd.io _ h).1 hm,BH hnd.no h0,As (hnd.oa _ hm)]
  ·rw[h1.eq]
   conv=>lhs;rw[hdec a h0]
   exact List.perm_middle
 ·have hm:=C2 h0;subst ha;refine⟨_,_,hv,fin 2 p i [] (p.drop 1) w (by decide) rfl h0 (hnd.small _ (.inr (.inr hm))) ?_ ?_ (Nat.le_refl _) (by simp) hs⟩
  ·show[Ao i _,[],Ao p _]=_;rw[As λh=>(hnd.io _ h).2 hm,BH hnd.na h0]
  ·rw[h1.eq]
   conv=>lhs;rw[hdec p h0]
   exact List.perm_middle
 ·subst ha;subst hp
  have h0:0<i.length:=by simp at hll;omega
  have hm:=C2 h0;refine⟨_,_,hv,fin 0 i (i.drop 1) [] [] w (by decide) rfl h0 (hnd.small _ (.inl hm)) ?_ ?_ (by simp) (Nat.le_refl _) hs⟩
  ·show[Ao i _,[],[]]=_;rw[BH hnd.ni h0]
  ·rw[h1.eq]
   conv=>lhs;rw[hdec i h0]
   exact List.Perm.refl _
theorem Ayb(hz:key.size<64)(hs:Ab W w (LG b c R::M)):AZ PR 329 #[pq b 0,.s key] w λv w'=>∃(yes:Bool) (S:BL),v = .b yes/\Db c R key yes S/\Ab W w' (LG b c S::M):=by
 refine cw ⟨mixed,Tryz.func329,rfl⟩ Amm ?_;have hk:=TW hs;have hr:=hk.room;refine Al [LG b c R] hs λw hs=>?_;refine Ac rfl ?_;refine Ag (Abx hz hs) λv w ⟨hv,hs⟩=>⟨_,hv,Af hs ?_⟩
 with_reducible refine Ay (λh1=>?_) (λh1=>?_)
 ·exact Af hs ⟨false,R,rfl,Db.no hk (λh=>h.1 h1),hs⟩
 refine Aa (FV (k:=.int .i64) c (λw' h=>Aq4 h) ?_);refine Ag (Aby hs) λv w ⟨hv,hs⟩=>⟨_,hv,Af hs ?_⟩
 with_reducible refine Ay (λh2=>?_) (λh2=>?_)
 ·exact⟨false,R,rfl,Db.no hk (λh=>by omega),hs⟩
 refine jw Xr ?_;obtain⟨wd,mn,i,a,p,h3,hs⟩:=DW hs;have hll:=h3.len;have hsum:=h3.sum;have hw:=h3.win;have hm:=h3.main
 have hni:key∉i:=λh=>h1 (by rw[h3.eq];exact List.mem_append_left _ h);have hna:key∉a:=λh=>h1 (by rw[h3.eq];exact List.mem_append_right _ (List.mem_append_left _ h))
 have hnp:key∉p:=λh=>h1 (by rw[h3.eq];exact List.mem_append_right _ (List.mem_append_right _ h));obtain⟨s,xb,pr,kb,db,hp,hs⟩:=Cn hs;refine Al [cY b s xb c wd mn pr kb db] hs λw hs=>?_;refine Aa (Aq (x:=s) (Aq (Aa (Aq ?_))));refine Ai hs λnb w hs=>Af hs ?_;refine AM AD (nr:=3) (K:=[i,a,p]) [1,2] (M:=cY b s xb c wd mn pr kb db::GD kb::GQ db::M) (by exact Ab.fin hs) (by omega) rfl λw hs=>?_;refine Af hs ?_;have e1:(Bv [i,a,p] [1,2]:Int)=a.length+p.length:=by simp[Bv]
 rw[e1];have hs:Ab W w (cY b s xb c wd mn pr kb db::rowsC s xb 5000 [i,a,p]::GD kb::GQ db::M):=by exact Ab.fin hs
 with_reducible refine Ay (λh5=>?_) (λh5=>?_)
 ·refine Aa (Ah (x:=s) hs (Ah hs ?_));refine Ar (HL AD (K:=[i,a,p]) (j:=1) hs (by decide) hz (show a.length<5000 by omega) rfl) λe w ⟨he,hs⟩=>⟨he,?_⟩;have e2:Dd [i,a,p] 1 key=[i,a++[key],p]:=by
   show[Ao i _,Ao a _++[_],Ao p _]=_;rw[As hni,As hna,As hnp]
  rw[e2] at hs;have hl:=Db.yes hk hz h1 (by omega) (S:=i++((a++[key])++p)) (by rw[h3.eq];exact(List.Perm.append_left i Dk).trans List.perm_middle)
  exact⟨true,_,rfl,hl,Cx ⟨rfl,hl.ok,h3.w1,h3.mn0,hsum,hw,by simp;omega⟩ (Bh hp hs)⟩
 ·refine Aa (Ah (x:=s) hs (Ah hs ?_));refine Ar (HL AD (K:=[i,a,p]) (j:=0) hs (by decide) hz (show i.length<5000 by omega) rfl) λe w ⟨he,hs⟩=>⟨he,?_⟩;have e2:Dd [i,a,p] 0 key=[i++[key],a,p]:=by
   show[Ao i _++[_],Ao a _,Ao p _]=_;rw[As hni,As hna,As hnp]
  rw[e2] at hs;have hl:=Db.yes hk hz h1 (by omega) (S:=(i++[key])++(a++p)) (by rw[h3.eq];exact Dk)
  exact⟨true,_,rfl,hl,Cx ⟨rfl,hl.ok,h3.w1,h3.mn0,hsum,by simp;omega,hm⟩ (Bh hp hs)⟩
theorem Ahz(hz:key.size<64)(hs:Ab W w (LG b c R::M)):AZ PR 330 #[pq b 0,.s key] w λv w'=>∃(yes:Bool) (S:BL),v = .b yes/\Fz c R key yes S/\Ab W w' (LG b c S::M):=by
 refine cw ⟨mixed,Tryz.func330,rfl⟩ Amn ?_;have hk:=TW hs;refine Ag (Abx hz hs) λv w ⟨hv,hs⟩=>⟨_,hv,?_⟩
 by_cases h1:key∈R
 ·refine Ac (by rw[decide_eq_true h1];rfl) ?_;obtain⟨wd,mn,i,a,p,h3,hs⟩:=DW hs;obtain⟨s,xb,pr,kb,db,hp,hs⟩:=Cn hs;refine Aa (Ah (x:=s) hs (Ah hs ?_));refine Ar (BT AD (K:=[i,a,p]) hs hz (by omega) (show 3<=4 by decide)) λe w ⟨he,hs⟩=>⟨he,?_⟩;have heq:=h3.eq;rw[heq] at hk h1;have hr:=Fz.cut3 hk h1;rw[<- heq] at hr;have g0:=Bj i key;have g1:=Bj a key;have g2:=Bj p key
  have hw:=h3.win;have hm:=h3.main
  exact⟨true,_,rfl,hr,Cx (i:=Ao i key) (a:=Ao a key) (p:=Ao p key) ⟨rfl,hr.ok,h3.w1,h3.mn0,h3.sum,by omega,by omega⟩ (Bh hp hs)⟩
 ·refine Ak (by rw[decide_eq_false h1];rfl) ⟨false,R,rfl,Fz.no hk h1,hs⟩
abbrev AdQ(b:Nat)(c wd mn:Int)(i a p:BL)(W:World)(M:List HP):VW:=λv w'=>∃(l:Sl) (g a' p':BL),v = .l l.a l.n l.c/\(a'.length:Int)+p'.length<=mn /\
 ((g=[]/\(a.length:Int)+p.length<mn/\(i++(a++p)).Perm (i.drop 1++(a'++p')))\/(∃x,g=[x]/\¬(a.length:Int)+p.length<mn/\(x=BW i\/x∈a\/x∈p)/\(i++(a++p)).Perm (x::(i.drop 1++(a'++p')))))/\Ab W w' (QU b c wd mn (i.drop 1) a' p'::recs Rec.str l g::M)
theorem Ah0(h0:0<i.length)(hl:i.length+(a.length+p.length)<=1025)(hm:(a.length:Int)+p.length<=mn)(hs:Ab W w (QU b c wd mn i a p::M)):AZ PR 338 #[pq b 0] w (AdQ b c wd mn i a p W M):=by
 refine cw ⟨mixed,Tryz.func338,rfl⟩ Amq ?_;have hnd:=Aep hs;have hmi:=C2 h0;have hzi:=hnd.small _ (.inl hmi);have hdec:∀q:BL,0<q.length->q=BW q::q.drop 1:=λq hq=>by
  cases q with
  | nil=>simp at hq
  | cons x t=>rfl
 have hni:BW i∉i.drop 1:=by
  have:=hnd.ni;rw[hdec i h0] at this;exact(List.nodup_cons.1 this).1
 obtain⟨s,xb,pr,kb,db,hp,hs⟩:=Cn hs;refine Aa (Ah (x:=s) hs (Ah hs ?_));refine Am (Bt AD (K:=[i,a,p]) (j:=0) hs (lt3 (by decide)) (show 3<=4 by decide)) λe w ⟨he,hs⟩=>⟨BW i,he,?_⟩;have hs:=Bh (i:=i) (a:=a) (p:=p) hp hs;have j1t:∀(row:Int)(w:World),¬(a.length:Int)+p.length<mn->Ab W w (QU b c wd mn i a p::M)->Oj Be (AdQ b c wd mn i a p W M) (some ⟨b,0,none⟩) (BW i) row true w:=by
  clear hs;intro row w hfull hs;refine jw Mw ?_;refine Ak rfl ?_;obtain⟨s,xb,pr,kb,db,hp,hs⟩:=Cn hs;refine Aa (Ah (x:=s) hs (Ah hs ?_));refine Ar (BT AD (K:=[i,a,p]) (key:=BW i) hs hzi (by omega) (show 3<=4 by decide)) λe w ⟨he,hs⟩=>⟨he,?_⟩;have e1:Dr [i,a,p] (BW i)=[i.drop 1,a,p]:=by
   show[Ao i _,Ao a _,Ao p _]=_;rw[BH hnd.ni h0,As (hnd.io _ hmi).1,As (hnd.io _ hmi).2]
  rw[e1] at hs;refine Ai hs λnb w hs=>?_;have hs:=Ab.blkS (b:=nb) (cs:=[.s (BW i)]) (n:=1) Rec.str [BW i] hs rfl rfl;refine⟨⟨some ⟨nb,0,none⟩,1,1⟩,[BW i],a,p,rfl,hm,.inr ⟨_,rfl,hfull,.inl rfl,?_⟩,?_⟩
  ·conv=>lhs;rw[hdec i h0]
   exact List.Perm.refl _
  ·have hs:=Bh (i:=i.drop 1) (a:=a) (p:=p) (M:=recs Rec.str ⟨some ⟨nb,0,none⟩,1,1⟩ [BW i]::M) hp (by exact Ab.fin hs);exact hs
 have j1f:∀(j:Nat)(q:BL)(a' p':BL)(w:World),j<3->[i,a,p].getD j []=q->0<q.length->(BW q∈a\/BW q∈p)->Dr [i,a,p] (BW q)=[i,a',p']->(a++p).Perm (BW q::(a'++p'))->¬(a.length:Int)+p.length<mn->Ab W w (QU b c wd mn i a p::M) ->
   Oj Be (AdQ b c wd mn i a p W M) (some ⟨b,0,none⟩) (BW i) (j:Int) false w:=by
  clear hs;intro j q a' p' w hj hq hq0 hqm e1 hpm hfull hs;refine jw Mw ?_;refine Ac rfl ?_;refine jw Xs ?_;have hpl:=hpm.length_eq;simp only[List.length_append,List.length_cons] at hpl;obtain⟨s,xb,pr,kb,db,hp,hs⟩:=Cn hs;refine Aa (Ah (x:=s) hs (Ah hs ?_));refine Am (Bt AD (K:=[i,a,p]) (j:=j) hs (lt3 hj) (show 3<=4 by decide)) λe w ⟨he,hs⟩=>⟨_,he,?_⟩;rw[hq];refine Aa (Ah (x:=s) hs (Ah hs ?_));refine Ar (BT AD (K:=[i,a,p]) (key:=BW q) hs (hnd.small _ (.inr hqm)) (by omega) (show 3<=4 by decide)) λe w ⟨he,hs⟩=>⟨he,?_⟩
  rw[e1] at hs;refine Aa (Ah (x:=s) hs (Ah hs ?_));have hna:BW i∉a'/\BW i∉p':=by
   have h:BW i∉a++p:=λh=>(List.mem_append.1 h).elim (hnd.io _ hmi).1 (hnd.io _ hmi).2;exact⟨λh2=>h (hpm.mem_iff.2 (.tail _ (List.mem_append_left _ h2))),λh2=>h (hpm.mem_iff.2 (.tail _ (List.mem_append_right _ h2)))⟩
  refine Ar (HL AD (K:=[i,a',p']) (j:=1) (key:=BW i) hs (by decide) hzi (show a'.length<5000 by omega) rfl) λe w ⟨he,hs⟩=>⟨he,?_⟩;have e2:Dd [i,a',p'] 1 (BW i)=[i.drop 1,a'++[BW i],p']:=by
   show[Ao i _,Ao a' _++[_],Ao p' _]=_;rw[BH hnd.ni h0,As hna.1,As hna.2]
  rw[e2] at hs;refine Ai hs λnb w hs=>?_;have hs:=Ab.blkS (b:=nb) (cs:=[.s (BW q)]) (n:=1) Rec.str [BW q] hs rfl rfl;refine⟨⟨some ⟨nb,0,none⟩,1,1⟩,[BW q],a'++[BW i],p',rfl,by simp;omega,.inr ⟨_,rfl,hfull,.inr hqm,?_⟩,?_⟩
  ·have h1:(i++(a++p)).Perm (BW q::(i++(a'++p'))):=(List.Perm.append_left i hpm).trans List.perm_middle;refine h1.trans (List.Perm.cons _ ?_)
   conv=>lhs;rw[hdec i h0]
   refine List.Perm.trans ?_ (List.perm_middle.symm.trans (List.Perm.append_left _ Dk.symm));exact List.Perm.refl _
  ·have hs:=Bh (i:=i.drop 1) (a:=a'++[BW i]) (p:=p') (M:=recs Rec.str ⟨some ⟨nb,0,none⟩,1,1⟩ [BW q]::M) hp (by exact Ab.fin hs);exact hs
 refine AH (TA hs) λv w ⟨hvic,hs⟩=>?_;obtain⟨row,t,hv,hrow⟩:∃(j:Nat) (t:Bool),v = .tuple #[.i (j:Int),.b t]/\(t=true->∃(q a' p':BL),j<3/\[i,a,p].getD j []=q/\0<q.length/\(BW q∈a\/BW q∈p)/\Dr [i,a,p] (BW q)=[i,a',p']/\(a++p).Perm (BW q::(a'++p'))):=by
  rcases hvic with⟨hv,h⟩|⟨hv,ha,h⟩|⟨hv,_,_⟩
  ·have hmq:=C2 h;refine⟨1,true,hv,λ_=>⟨a,a.drop 1,p,by decide,rfl,h,.inl hmq,?_,?_⟩⟩
   ·show[Ao i _,Ao a _,Ao p _]=_;rw[As λh=>(hnd.io _ h).1 hmq,BH hnd.no h,As (hnd.oa _ hmq)]
   ·conv=>lhs;rw[hdec a h]
    exact List.Perm.refl _
  ·have hmq:=C2 h;subst ha;refine⟨2,true,hv,λ_=>⟨p,[],p.drop 1,by decide,rfl,h,.inr hmq,?_,?_⟩⟩
   ·show[Ao i _,[],Ao p _]=_;rw[As λh=>(hnd.io _ h).2 hmq,BH hnd.na h]
   ·conv=>lhs;rw[hdec p h]
    exact List.Perm.refl _
  ·exact⟨0,false,hv,λh=>by cases h⟩
 clear hvic;refine⟨_,_,hv,?_⟩;obtain⟨s,xb,pr,kb,db,hp,hs⟩:=Cn hs;refine Al [cY b s xb c wd mn pr kb db] hs λw hs=>?_;refine Aa (Aq (x:=s) (Aq (Aa (Aq ?_))));refine Ai hs λnb w hs=>Af hs ?_;refine AM AD (nr:=3) (K:=[i,a,p]) [1,2] (M:=cY b s xb c wd mn pr kb db::GD kb::GQ db::M) (by exact Ab.fin hs) (by omega) rfl λw hs=>?_;refine Af hs ?_;have e1:(Bv [i,a,p] [1,2]:Int)=a.length+p.length:=by simp[Bv]
 rw[e1];have hs:Ab W w (cY b s xb c wd mn pr kb db::rowsC s xb 5000 [i,a,p]::GD kb::GQ db::M):=by exact Ab.fin hs
 with_reducible refine Ay (λhfull=>?_) (λhfull=>?_)
 ·refine Aa (Ah (x:=s) hs (Ah hs ?_));refine Ar (HL AD (K:=[i,a,p]) (j:=1) (key:=BW i) hs (by decide) hzi (show a.length<5000 by omega) rfl) λe w ⟨he,hs⟩=>⟨he,?_⟩;have e2:Dd [i,a,p] 1 (BW i)=[i.drop 1,a++[BW i],p]:=by
   show[Ao i _,Ao a _++[_],Ao p _]=_;rw[BH hnd.ni h0,As (hnd.io _ hmi).1,As (hnd.io _ hmi).2]
  rw[e2] at hs;refine⟨⟨none,0,0⟩,[],a++[BW i],p,rfl,by simp;omega,.inl ⟨rfl,hfull,?_⟩,(Ab.nilR Rec.str (Bh hp hs)).perm (List.Perm.swap _ _ _)⟩
  conv=>lhs;rw[hdec i h0]
  exact List.perm_middle.symm.trans (List.Perm.append_left _ Dk.symm)
 refine Al [cY b s xb c wd mn pr kb db] hs λw hs=>?_;cases t with
 | false=>exact Ak rfl (Af hs (j1t _ w hfull (Bh hp hs)))
 | true=>
  obtain⟨q,a',p',hj,hq,hq0,hqm,e3,hpm⟩:=hrow rfl;refine Ac rfl (Aa (Aq (x:=s) (Aq ?_)));have keep:∀(w:World)(key:BA)(K:Int->WP),key.size<64->Ab W w (cY b s xb c wd mn pr kb db::rowsC s xb 5000 [i,a,p]::GD kb::GQ db::M)->(∀(y:Int)(w':World),Ab W w' (cY b s xb c wd mn pr kb db::rowsC s xb 5000 [i,a,p]::GD kb::GQ db::M)->K y w')->call1 (.int .i64) PR 348 [pq b 0,.s key] K w:=by
   clear hs;intro w key K hz hs hK;exact Ag (Ah1 hz hs) λv w ⟨y,hv,hs⟩=>⟨_,hv,hK _ _ hs⟩
  refine keep w _ _ hzi hs λy1 w hs=>Af hs ?_;refine Am (Bt AD (K:=[i,a,p]) (j:=row) hs (lt3 hj) (show 3<=4 by decide)) λe w ⟨he,hs⟩=>⟨_,he,?_⟩;rw[hq];refine keep w _ _ (hnd.small _ (.inr hqm)) hs λy2 w hs=>?_;have hs:=Bh (i:=i) (a:=a) (p:=p) hp hs;cases decide (y1<=y2) with
  | true=>exact j1t _ w hfull hs
  | false=>exact j1f row q a' p' w hj hq hq0 hqm e3 hpm hfull hs
abbrev AcQ(b:Nat)(c:Int)(R:BL)(key:BA)(W:World)(M:List HP):VW:=λv w'=>∃(hit:Bool) (l:Sl) (g S:BL),v = .tuple #[.b hit,.l l.a l.n l.c]/\Ey c R key hit g S/\Ab W w' (LG b c S::recs Rec.str l g::M)
theorem Ayd(hR:Dl c R)(hk:key∈R)(h1:1<=wd/\0<=mn/\wd+mn=c)(hw:(i.length:Int)<=wd):∀(f:Nat)(a p:BL)(w:World),p.length=f->(a.length:Int)+p.length<=mn->R.Perm (i++(a++p))->Ab W w (QU b c wd mn i a p::M) ->
  Oh Be (AcQ b c R key W M) (f+1) (some ⟨b,0,none⟩) w:=by
 have hc2:=hR.c2;intro f
 induction f with
 | zero=>
  intro a p w hf hm hp2 hs;rw[Mu];obtain⟨s,xb,pr,kb,db,hp,hs⟩:=Cn hs;refine Al [cY b s xb c wd mn pr kb db] hs λw hs=>?_;refine Aa (Aq (x:=s) (Aq (Aa (Aq ?_))));refine Ai hs λnb w hs=>Af hs ?_;refine AM AD (nr:=3) (K:=[i,a,p]) [2] (M:=cY b s xb c wd mn pr kb db::GD kb::GQ db::M) (by exact Ab.fin hs) (by omega) rfl λw hs=>?_;refine Af hs ?_;have e1:(Bv [i,a,p] [2]:Int)=0:=by simp[Bv,hf]
  rw[e1];refine Ac (decide_eq_false (by omega)) ?_;refine jw Mt ?_;have ha:=Ey.same hR hk hp2.symm;exact⟨true,⟨none,0,0⟩,[],_,rfl,ha,(Ab.nilR Rec.str (Cx ⟨rfl,ha.ok,h1.1,h1.2.1,h1.2.2,hw,hm⟩ (Bh hp (by exact Ab.fin hs)))).perm (List.Perm.swap _ _ _)⟩
 | succ f ih=>
  intro a p w hf hm hp2 hs;rw[Mu];have hnd:=Aep hs;obtain⟨s,xb,pr,kb,db,hp,hs⟩:=Cn hs;refine Al [cY b s xb c wd mn pr kb db] hs λw hs=>?_;refine Aa (Aq (x:=s) (Aq (Aa (Aq ?_))));refine Ai hs λnb w hs=>Af hs ?_;refine AM AD (nr:=3) (K:=[i,a,p]) [2] (M:=cY b s xb c wd mn pr kb db::GD kb::GQ db::M) (by exact Ab.fin hs) (by omega) rfl λw hs=>?_;refine Af hs ?_;have hs:Ab W w (cY b s xb c wd mn pr kb db::rowsC s xb 5000 [i,a,p]::GD kb::GQ db::M):=by exact Ab.fin hs
  refine Ap (λ_=>?_) (λ_=>?_)
  ·refine Al [cY b s xb c wd mn pr kb db] hs λw hs=>?_;refine Aa (Aq (x:=s) (Aq (Aa (Ah (x:=s) hs (Ah hs (Af hs ?_))))));refine Am (Bt AD (K:=[i,a,p]) (j:=2) hs (lt3 (by decide)) (show 3<=4 by decide)) λe w ⟨he,hs⟩=>⟨BW p,he,Af hs ?_⟩;have h0:0<p.length:=by omega
   have hmp:=C2 h0;refine Ar (HL AD (K:=[i,a,p]) (j:=1) (key:=BW p) hs (by decide) (hnd.small _ (.inr (.inr hmp))) (show a.length<5000 by omega) rfl) λe w ⟨he,hs⟩=>⟨he,?_⟩;have e2:Dd [i,a,p] 1 (BW p)=[i,a++[BW p],p.drop 1]:=by
    show[Ao i _,Ao a _++[_],Ao p _]=_;rw[As λh=>(hnd.io _ h).2 hmp,As λh=>hnd.oa _ h hmp,BH hnd.na h0]
   rw[e2] at hs;refine ih _ _ w (by rw[List.length_drop];omega) (by simp;omega) (hp2.trans (List.Perm.append_left i ?_)) (Bh hp hs)
   have hdec:p=BW p::p.drop 1:=by
    cases p with
    | nil=>simp at h0
    | cons x t=>rfl
   conv=>lhs;rw[hdec]
   rw[List.append_assoc];exact List.Perm.refl _
  ·refine jw Mt ?_;have ha:=Ey.same hR hk hp2.symm;exact⟨true,⟨none,0,0⟩,[],_,rfl,ha,(Ab.nilR Rec.str (Cx ⟨rfl,ha.ok,h1.1,h1.2.1,h1.2.2,hw,hm⟩ (Bh hp hs))).perm (List.Perm.swap _ _ _)⟩
theorem Ahy(hz:key.size<64)(hs:Ab W w (LG b c R::M)):AZ PR 323 #[pq b 0,.s key] w (AcQ b c R key W M):=by
 refine cw ⟨mixed,Tryz.func323,rfl⟩ Amh ?_;refine Ac rfl ?_;obtain⟨wd,mn,i,a,p,h1,hs⟩:=DW hs;have hk:=h1.ok;have hll:=h1.len;have hsum:=h1.sum;have hw:=h1.win;have hm:=h1.main;have hw1:=h1.w1;have hmn:=h1.mn0
 refine AY (Aqf hz hs) λv w ⟨hv,hs⟩=>⟨hv,?_⟩;have hnd:=Aep hs;obtain⟨s,xb,pr,kb,db,hp,hs⟩:=Cn hs;refine Aa (Ah (x:=s) hs (Ah hs ?_));refine Am (DF AD (K:=[i,a,p]) hs hz) λe w ⟨he,hs⟩=>⟨_,he,?_⟩;have j1:∀(w:World)(a' p':BL),key∈R->Dd [i,a,p] 2 key=[i,a',p']->(a'.length:Int)+p'.length<=mn->R.Perm (i++(a'++p'))->Ab W w (QU b c wd mn i a p::M)->U8 Be (AcQ b c R key W M) (some ⟨b,0,none⟩) key true w:=by
  clear hs;intro w a' p' hkR e2 hm2 hp2 hs;refine jw Ms ?_;refine Ak rfl ?_;obtain⟨s,xb,pr,kb,db,hp,hs⟩:=Cn hs;refine Aa (Ah (x:=s) hs (Ah hs ?_));refine Ar (HL AD (K:=[i,a,p]) (j:=2) (key:=key) hs (by decide) hz (show p.length<5000 by omega) rfl) λe w ⟨he,hs⟩=>⟨he,?_⟩;rw[e2] at hs;exact AJ _ (Ayd hk hkR ⟨hw1,hmn,hsum⟩ hw _ a' p' w rfl hm2 hp2 (Bh hp hs))
 rcases QQ i a p key with⟨h,h4⟩|⟨h,h4,h5⟩|⟨h,h4,h5,h6⟩|⟨h,h4,h5,h6⟩ <;> rw[h]
 ·refine Ak rfl (Aa (Ah (x:=s) hs (Ah hs ?_)));refine Ar (HL AD (K:=[i,a,p]) (j:=0) (key:=key) hs (by decide) hz (show i.length<5000 by omega) rfl) λe w ⟨he,hs⟩=>⟨he,?_⟩;have e2:Dd [i,a,p] 0 key=[Ao i key++[key],a,p]:=by
   show[Ao i _++[_],Ao a _,Ao p _]=_;rw[As (hnd.io _ h4).1,As (hnd.io _ h4).2]
  rw[e2] at hs;have hpi:(Ao i key++[key]).Perm i:=List.perm_append_comm.trans (Co hnd.ni h4).symm;have hli:=hpi.length_eq;have ha:=Ey.same (S:=(Ao i key++[key])++(a++p)) hk (by rw[h1.eq];exact List.mem_append_left _ h4) (by rw[h1.eq];exact List.Perm.append_right _ hpi)
  exact⟨true,⟨none,0,0⟩,[],_,rfl,ha,(Ab.nilR Rec.str (Cx ⟨rfl,ha.ok,hw1,hmn,hsum,by omega,hm⟩ (Bh hp hs))).perm (List.Perm.swap _ _ _)⟩
 ·refine Ac rfl (Ak rfl ?_);have hg:=Co hnd.no h5;have hgl:=hg.length_eq;rw[List.length_cons] at hgl;refine j1 w (Ao a key) (p++[key]) (by rw[h1.eq];simp[h5]) (by show[Ao i _,Ao a _,Ao p _++[_]]=_;rw[As h4,As (hnd.oa _ h5)]) (by simp;omega) ?_ (Bh hp hs)
  rw[h1.eq];exact List.Perm.append_left i ((List.Perm.append_right p hg).trans Eo.symm)
 ·refine Ac rfl (Ac rfl ?_);have hg:=Co hnd.na h6;have hgl:=hg.length_eq;rw[List.length_cons] at hgl;refine j1 w a (Ao p key++[key]) (by rw[h1.eq];simp[h6]) (by show[Ao i _,Ao a _,Ao p _++[_]]=_;rw[As h4,As h5]) (by simp;omega) ?_ (Bh hp hs)
  rw[h1.eq];exact List.Perm.append_left i (List.Perm.append_left a (hg.trans (List.perm_append_singleton _ _).symm))
 ·refine Ac rfl (Ac rfl ?_);refine jw Ms ?_;refine Ac rfl ?_;refine jw Xp ?_;have hno:key∉R:=by rw[h1.eq];simp[h4,h5,h6]
  refine Aa (Ah (x:=s) hs (Ah hs ?_));refine Ar (HL AD (K:=[i,a,p]) (j:=0) (key:=key) hs (by decide) hz (show i.length<5000 by omega) rfl) λe w ⟨he,hs⟩=>⟨he,?_⟩;have e2:Dd [i,a,p] 0 key=[i++[key],a,p]:=by
   show[Ao i _++[_],Ao a _,Ao p _]=_;rw[As h4,As h5,As h6]
  rw[e2] at hs;have hs:=Bh (i:=i++[key]) (a:=a) (p:=p) hp hs;have hp0:((i++[key])++(a++p)).Perm (key::R):=by rw[h1.eq];exact Dk
  have last:∀(w:World)(l:Sl)(g i' a' p' S:BL),Lh c R g S->(i'++(a'++p')).Perm (key::S)->(i'.length:Int)<=wd->(a'.length:Int)+p'.length<=mn->Ab W w (QU b c wd mn i' a' p'::recs Rec.str l g::M) ->
    Oi Be (AcQ b c R key W M) 1 (some ⟨b,0,none⟩) l w:=by
   clear hs;intro w l g i' a' p' S hrec hpS hw' hm' hs;rw[Mv];obtain⟨s,xb,pr,kb,db,hp,hs⟩:=Cn hs;refine Al [cY b s xb c wd mn pr kb db] hs λw hs=>?_;refine Aa (Aq (x:=s) (Aq (Aa (Aq ?_))));refine Ai hs λnb w hs=>Af hs ?_;refine AM AD (nr:=3) (K:=[i',a',p']) [0] (M:=cY b s xb c wd mn pr kb db::GD kb::GQ db::recs Rec.str l g::M) (by exact Ab.fin hs) (by omega) rfl λw hs=>?_;refine Af hs ?_;have e1:(Bv [i',a',p'] [0]:Int)=i'.length:=by simp[Bv]
   rw[e1];refine Ac (decide_eq_false (by omega)) ?_;refine jw Xq ?_;have ha:=Ey.miss hk hno hz hrec hpS;exact⟨false,l,g,_,rfl,ha,Cx ⟨rfl,ha.ok,hw1,hmn,hsum,hw',hm'⟩ (Bh hp (by exact Ab.fin hs))⟩
  by_cases hfull:(i.length:Int)<wd
  ·refine AJ 1 (last w ⟨none,0,0⟩ [] (i++[key]) a p R (.inl ⟨rfl,rfl,by omega⟩) hp0 (by simp;omega) hm ((Ab.nilR Rec.str hs).perm (List.Perm.swap _ _ _)))
  refine AJ 2 ?_;rw[Mv];have hs:=Ab.nilR Rec.str hs;have hs:Ab W w (QU b c wd mn (i++[key]) a p::recs Rec.str ⟨none,0,0⟩ []::M):=hs.perm (List.Perm.swap _ _ _);obtain⟨s,xb,pr,kb,db,hp,hs⟩:=Cn hs;refine Al [cY b s xb c wd mn pr kb db] hs λw hs=>?_;refine Aa (Aq (x:=s) (Aq (Aa (Aq ?_))));refine Ai hs λnb w hs=>Af hs ?_;refine AM AD (nr:=3) (K:=[i++[key],a,p]) [0] (M:=cY b s xb c wd mn pr kb db::GD kb::GQ db::recs Rec.str ⟨none,0,0⟩ []::M) (by exact Ab.fin hs) (by omega) rfl λw hs=>?_;refine Af hs ?_
  have e1:(Bv [i++[key],a,p] [0]:Int)=i.length+1:=by simp[Bv]
  rw[e1];refine Ak (decide_eq_true (by omega)) ?_;have hs:=Bh (i:=i++[key]) (a:=a) (p:=p) (M:=recs Rec.str ⟨none,0,0⟩ []::M) hp (by exact Ab.fin hs);refine Ag (Ah0 (by simp) (by simp;omega) hm hs) λv w ⟨l,g,a',p',hv,hm',hg,hs⟩=>⟨_,hv,?_⟩
  have hgl:g.length<=1:=by rcases hg with⟨rfl,_⟩|⟨x,rfl,_⟩ <;> simp
  have hs:Ab W w (recs Rec.str ⟨none,0,0⟩ []::recs Rec.str l g::QU b c wd mn ((i++[key]).drop 1) a' p'::M):=by exact Ab.fin hs
  refine FP (s:=⟨none,0,0⟩) (new:=g) hs (Gc (s:=l) (E:=Rec.str) (rows:=g) hs) (Bg (s:=l) (E:=Rec.str) (rows:=g) hs) (CV _) rfl (by decide) (by simp;omega) λs2 w hs2 hs=>?_;have hs:Ab W w (QU b c wd mn ((i++[key]).drop 1) a' p'::recs Rec.str s2 g::M):=by
   rw[List.nil_append] at hs;exact Ab.fin hs
  have hi0:0<i.length:=by omega
  have hhd:BW (i++[key])=BW i:=by
   cases i with
   | nil=>simp at hi0
   | cons x t=>rfl
  have JV:(((i++[key]).drop 1).length:Int)<=wd:=by simp;omega
  rcases hg with⟨rfl,hlt,hpm⟩|⟨x,rfl,hge,hx,hpm⟩
  ·exact last w s2 [] _ a' p' R (.inl ⟨rfl,rfl,by omega⟩) (hpm.symm.trans hp0) JV hm' hs
  ·have hxR:x∈R:=by
    rw[h1.eq];rcases hx with h|h|h
    ·rw[hhd] at h;subst h;exact List.mem_append_left _ (C2 hi0)
    ·simp[h]
    ·simp[h]
   have hpx:=Co hk.nd hxR;have hev:=Gi.of_perm hk hpx;refine last w s2 [x] _ a' p' (Ao R x) (.inr ⟨x,rfl,hev,by omega⟩) ?_ JV hm' hs;have h7:=hpm.symm.trans (hp0.trans ((List.Perm.cons key hpx).trans (List.Perm.swap x key _)));exact(List.perm_cons x).1 h7
end
end Go.Proofs.YtjipofkjmmpjdaaGreat
namespace Go.Hb
theorem FN{V:Type}(e:BA×V)(m:List (BA×V))(k:BA):AE (e::m) k=if e.1=k then some e.2 else AE m k:=by
 unfold AE
 by_cases h:e.1=k
 ·simp[List.find?,h]
 ·simp[List.find?,h]
theorem Ahi{V:Type}(m:List (BA×V))(k k':BA)(v:V):AE (E5 m k v) k'=if k=k' then (AE m k').map λ_=>v else AE m k':=by
 induction m with
 | nil=>simp[E5,AE]
 | cons e m ih=>
  have e1:E5 (e::m) k v=(if e.1=k then (k,v) else e)::E5 m k v:=rfl;rw[e1,FN,ih,FN]
  by_cases h1:e.1=k
  ·by_cases h2:k=k'
   ·simp[h1,h2]
   ·simp[h1,h2]
  ·by_cases h2:k=k'
   ·have h3:e.1≠k':=λh=>h1 (h.trans h2.symm);simp[h2,h3]
   ·simp[h1,h2]
theorem T6{V:Type}(m:List (BA×V))(k k':BA)(v:V):AE (Cj m k v) k'=if k=k' then some v else AE m k':=by
 unfold Cj;split
 ·rename_i u hu;rw[Ahi]
  by_cases h:k=k'
  ·subst h;simp[hu]
  ·simp[h]
 ·rw[FN]
theorem T5{V:Type}(m:List (BA×V))(k x:BA):AE (BJ m k) x=if k=x then none else AE m x:=by
 induction m with
 | nil=>simp[BJ,AE]
 | cons e m ih=>
  by_cases h1:e.1=k
  ·have e1:BJ (e::m) k=BJ m k:=by simp[BJ,h1]
   rw[e1,ih,FN]
   by_cases h2:k=x
   ·simp[h2]
   ·have h3:e.1≠x:=λh=>h2 (h1.symm.trans h);simp[h2,h3]
  ·have e1:BJ (e::m) k=e::BJ m k:=by simp[BJ,h1]
   rw[e1,FN,ih,FN]
   by_cases h2:k=x
   ·have h3:e.1≠x:=λh=>h1 (h.trans h2.symm);simp[h2,h3]
   ·simp[h2]
end Go.Hb
namespace Go.Hb
instance {s:Int} {k:BA} {v:Int}:LB (Cr (Rec.int .i64)) [.i s,.s k,.i v] ⟨s,k,v⟩:=⟨rfl⟩
instance {a:Pl Int} {v:Int}:Zo (Cr (Rec.int .i64)) a 2 (.i v) { a with v:=v }:=⟨rfl,by decide⟩
end Go.Hb
namespace Go.Proofs.YtjipofkjmmpjdaaGreat
open Go.Hb Go.IntWalk
section
variable{W w:World}{L M:List HP}{F:HP->List HP}{b:Nat}{seed:Int}{m:List (BA×Int)}{s:Sl}{ps:List (Pl Int)}{n1 u1:Int}
theorem Gt{st:BA->Nat}{k:BA}(hst:st=Az seed ps.length)(hz:k.size<4611686018427387904)(hl:0<ps.length/\ps.length<4611686018427387904)(hstop:∃e,e<ps.length/\Bs ps ((st k+e) % ps.length)=0)
  (hs:Ab W w (blk b [.int .u64 seed,.l s.a s.n s.c,.i n1,.i u1]::recs (Cr (Rec.int .i64)) s ps::M)) :
  Calls PR 193 #[pq b 0,.s k] w λe w'=>e = .returned (.tuple #[.i ((AI st ps k).1:Int),.b (AI st ps k).2])/\Ab W w' (blk b [.int .u64 seed,.l s.a s.n s.c,.i n1,.i u1]::recs (Cr (Rec.int .i64)) s ps::M):=by
 refine c1 (cw ⟨mixed,Tryz.func193,rfl⟩ Akp ?_);have hn:=(Bx (s:=s) hs GG.pos).1;refine Al [blk b [.int .u64 seed,.l s.a s.n s.c,.i n1,.i u1]] hs λw hs=>?_
 repeat (first|with_reducible refine Aa ?_|((with_reducible refine BY ?_);first|refine Aq ?_|fail)|fail)
 refine Am (Gs hs hz) λe w ⟨he,hs⟩=>⟨_,he,?_⟩
 repeat (first|((with_reducible refine Bf ?_);first|refine Af hs ?_|fail)|fail)
 refine Am (Ga (n:=s.n) hs (FR _ _).1 (by omega) (by omega)) λe w ⟨he,hs⟩=>⟨_,he,?_⟩;have e9:(EJ seed k).toNat % s.n=Az seed ps.length k:=by rw[hn,Jc]
 rw[e9];have loop:∀(f:Nat)(free:Option Nat)(i:Nat)(w:World),i<ps.length->(∃e,e<f/\Bs ps ((i+e) % ps.length)=0)->Ab W w (blk b [.int .u64 seed,.l s.a s.n s.c,.i n1,.i u1]::recs (Cr (Rec.int .i64)) s ps::M) ->
   NQ Be (λv w'=>v = .tuple #[.i ((AC ps k f free i).1:Int),.b (AC ps k f free i).2]/\Ab W w' (blk b [.int .u64 seed,.l s.a s.n s.c,.i n1,.i u1]::recs (Cr (Rec.int .i64)) s ps::M)) f (some ⟨b,0,none⟩) k (Ln free) (i:Int) w:=by
  intro f
  induction f with
  | zero=>intro free i w hi ⟨e,he,_⟩;omega
  | succ f ih=>
   intro free i w hi hstop hs;have hm:(i+1) % ps.length<ps.length:=Nat.mod_lt _ hl.1;have next:Bs ps i≠0->∃e',e'<f/\Bs ps (((i+1) % ps.length+e') % ps.length)=0:=by
    obtain⟨e,he,hz0⟩:=hstop;intro hne;cases e with
    | zero=>rw[Nat.add_zero,Nat.mod_eq_of_lt hi] at hz0;exact absurd hz0 hne
    | succ e=>exact⟨e,by omega,by rw[DG];exact hz0⟩
   have hwr:Int.tmod (IntKind.wrap .i64 ((i:Int)+1)) (s.n:Int)=(((i+1) % ps.length:Nat):Int):=by
    rw[i64_in _ (by omega),hn,Int.tmod_eq_emod_of_nonneg (by omega)];simp
   have j4:∀(free':Option Nat)(w:World),Bs ps i≠0->Ab W w (blk b [.int .u64 seed,.l s.a s.n s.c,.i n1,.i u1]::recs (Cr (Rec.int .i64)) s ps::M)->AC ps k (f+1) free i=AC ps k f free' ((i+1) % ps.length) ->
     Uk Be (λv w'=>v = .tuple #[.i ((AC ps k (f+1) free i).1:Int),.b (AC ps k (f+1) free i).2]/\Ab W w' (blk b [.int .u64 seed,.l s.a s.n s.c,.i n1,.i u1]::recs (Cr (Rec.int .i64)) s ps::M)) f (some ⟨b,0,none⟩) k (Ln free') (i:Int) w:=by
    intro free' w hne hs he;refine jw WF ?_;rw[he]
    repeat (first|with_reducible refine Aa ?_|((with_reducible refine A2 ?_);first|refine Ah hs ?_|fail)|((with_reducible refine PM ?_);first|refine Lc ?_|fail)|fail)
    rw[hwr];exact ih free' _ w hm (next hne) hs
   rw[WH];have hcast:((i:Int)).toNat=i:=Int.toNat_natCast i
   repeat (first|with_reducible refine Aa ?_|((with_reducible refine A2 ?_);first|refine Ah hs ?_|refine Ck hs ?_|fail)|((with_reducible refine BC ?_);first|refine BF hs λb_ o_ hs=>?_|fail)|fail)
   rw[hcast];have ei:(ps.getD i default).is_=Bs ps i:=rfl;have ek:(ps.getD i default).key=Dx ps i:=rfl;rw[ei];have j2:∀(t:Bool)(w:World)(b1 o1:Nat),t=decide (Bs ps i=2/\Dx ps i=k)->Ab W w (blk b [.int .u64 seed,.l s.a s.n s.c,.i n1,.i u1]::reca (Cr (Rec.int .i64)) b1 o1 s ps::M) ->
     Ui Be (λv w'=>v = .tuple #[.i ((AC ps k (f+1) free i).1:Int),.b (AC ps k (f+1) free i).2]/\Ab W w' (blk b [.int .u64 seed,.l s.a s.n s.c,.i n1,.i u1]::recs (Cr (Rec.int .i64)) s ps::M)) f (some ⟨b,0,none⟩) k (Ln free) (i:Int) b1 (o1+i*3) t w:=by
    intro t w b1 o1 ht hs;refine jw WD ?_;rw[ht]
    with_reducible refine Ee (λh1=>?_) (λh1=>?_)
    ·have e1:AC ps k (f+1) free i=(i,true):=by rw[AC,if_pos h1]
     rw[e1];exact⟨rfl,by exact Ab.fin hs⟩
    ·repeat (first|with_reducible refine Aa ?_|((with_reducible refine A2 ?_);first|refine Ck hs ?_|fail)|fail)
     rw[ei];have j3:∀(t:Bool)(w:World),t=decide (Bs ps i=1/\free=none)->Ab W w (blk b [.int .u64 seed,.l s.a s.n s.c,.i n1,.i u1]::reca (Cr (Rec.int .i64)) b1 o1 s ps::M) ->
       Uj Be (λv w'=>v = .tuple #[.i ((AC ps k (f+1) free i).1:Int),.b (AC ps k (f+1) free i).2]/\Ab W w' (blk b [.int .u64 seed,.l s.a s.n s.c,.i n1,.i u1]::recs (Cr (Rec.int .i64)) s ps::M)) f (some ⟨b,0,none⟩) k (Ln free) (i:Int) b1 (o1+i*3) t w:=by
      intro t w ht hs;refine jw WE ?_;rw[ht]
      with_reducible refine Ee (λh2=>?_) (λh2=>?_)
      ·exact j4 (some i) w (by rw[h2.1];decide) (by exact Ab.fin hs) (by rw[AC,if_neg h1,if_pos h2])
      ·repeat (first|with_reducible refine Aa ?_|((with_reducible refine A2 ?_);first|refine Ck hs ?_|fail)|fail)
       rw[ei];have j5:∀(t:Bool)(w:World),t=decide (Bs ps i=0/\free=none)->Ab W w (blk b [.int .u64 seed,.l s.a s.n s.c,.i n1,.i u1]::reca (Cr (Rec.int .i64)) b1 o1 s ps::M) ->
         Ul Be (λv w'=>v = .tuple #[.i ((AC ps k (f+1) free i).1:Int),.b (AC ps k (f+1) free i).2]/\Ab W w' (blk b [.int .u64 seed,.l s.a s.n s.c,.i n1,.i u1]::recs (Cr (Rec.int .i64)) s ps::M)) f (some ⟨b,0,none⟩) k (Ln free) (i:Int) b1 (o1+i*3) t w:=by
        intro t w ht hs;refine jw WG ?_;rw[ht]
        with_reducible refine Ee (λh3=>?_) (λh3=>?_)
        ·have e1:AC ps k (f+1) free i=(i,false):=by rw[AC,if_neg h1,if_neg h2,if_pos h3.1,h3.2];rfl
         rw[e1];exact⟨rfl,by exact Ab.fin hs⟩
        ·repeat (first|with_reducible refine Aa ?_|((with_reducible refine A2 ?_);first|refine Ck hs ?_|fail)|fail)
         rw[ei]
         with_reducible refine BP (λh4=>?_) (λh4=>?_)
         ·have e1:AC ps k (f+1) free i=(free.getD i,false):=by rw[AC,if_neg h1,if_neg h2,if_pos h4]
          rw[e1];cases free with
          | none=>exact absurd ⟨h4,rfl⟩ h3
          | some j=>exact⟨rfl,by exact Ab.fin hs⟩
         ·exact j4 free w h4 (by exact Ab.fin hs) (by rw[AC,if_neg h1,if_neg h2,if_neg h4])
       with_reducible refine BP (λh3=>?_) (λh3=>?_)
       ·exact j5 _ w (by simp[h3,Gr]) (by exact Ab.fin hs)
       ·exact j5 _ w (by simp[h3]) (by exact Ab.fin hs)
     with_reducible refine BP (λh2=>?_) (λh2=>?_)
     ·exact j3 _ w (by simp[h2,Gr]) (by exact Ab.fin hs)
     ·exact j3 _ w (by simp[h2]) (by exact Ab.fin hs)
   with_reducible refine BP (λh1=>?_) (λh1=>?_)
   ·repeat (first|with_reducible refine Aa ?_|((with_reducible refine A2 ?_);first|refine EL hs ?_|fail)|fail)
    rw[ek];refine j2 _ w _ _ ?_ (by exact Ab.fin hs);rw[Q7];simp[h1]
   ·refine j2 _ w _ _ ?_ (by exact Ab.fin hs);simp[h1]
 subst hst;have hl2:=loop ps.length none (Az seed ps.length k) w (C9 hl.1 k) hstop hs;rw[show Ln none = -1 from rfl] at hl2;unfold AI;refine⟨ps.length,?_⟩;exact hl2
theorem M9{k:BA}{v:Int}{j:Nat}(hj:j<ps.length)(hb:ps.length<4611686018427387904)(hu:u1=(A7 ps:Int))(hn1:0<=n1/\n1<4611686018427387904)(hs:Ab W w (blk b [.int .u64 seed,.l s.a s.n s.c,.i n1,.i u1]::recs (Cr (Rec.int .i64)) s ps::M)) :
  Calls PR 195 #[pq b 0,.i (j:Int),.s k,.i v] w λe w'=>e = .returned (.tuple #[])/\Ab W w' (blk b [.int .u64 seed,.l s.a s.n s.c,.i (n1+1),.i (A7 (ps.set j ⟨2,k,v⟩):Int)]::recs (Cr (Rec.int .i64)) s (ps.set j ⟨2,k,v⟩)::M):=by
 refine c1 (cw ⟨mixed,Tryz.func195,rfl⟩ Akr ?_);have hn:=(Bx (s:=s) hs GG.pos).1;have hle:A7 ps<=ps.length:=List.countP_le_length;rw[Bl hj _ (by show(2:Int)≠0;decide)]
 repeat (first|with_reducible refine Aa ?_|((with_reducible refine A2 ?_);first|refine Ah hs ?_|refine Ck hs ?_|fail)|((with_reducible refine BC ?_);first|refine BF hs λb_ o_ hs=>?_|fail)|fail)
 simp only[Int.toNat_natCast];have ei:(ps.getD j default).is_=Bs ps j:=rfl;rw[ei]
 with_reducible refine BP (λh1=>?_) (λh1=>?_)
 ·repeat (first|with_reducible refine Aa ?_|((with_reducible refine A2 ?_);first|refine Ah hs ?_|fail)|((with_reducible refine Bm ?_);first|refine A4 hs λw hs=>?_|fail)|fail)
  refine jw Md ?_
  repeat (first|with_reducible refine Aa ?_|((with_reducible refine A2 ?_);first|refine Ah hs ?_|fail)|((with_reducible refine Bm ?_);first|refine A4 hs λw hs=>?_|refine V7 hs λw hs=>?_|fail)|((with_reducible refine BC ?_);first|refine Ha hs ?_|fail)|fail)
  rw[i64_in (n1+1) (by omega),hu,i64_in _ (by omega)] at hs;simp only[Int.toNat_natCast] at hs;rw[if_pos h1];exact⟨rfl,by exact Ab.fin hs⟩
 ·refine jw Md ?_
  repeat (first|with_reducible refine Aa ?_|((with_reducible refine A2 ?_);first|refine Ah hs ?_|fail)|((with_reducible refine Bm ?_);first|refine A4 hs λw hs=>?_|refine V7 hs λw hs=>?_|fail)|((with_reducible refine BC ?_);first|refine Ha hs ?_|fail)|fail)
  rw[i64_in (n1+1) (by omega),hu] at hs;simp only[Int.toNat_natCast] at hs;rw[if_neg h1,Nat.add_zero];exact⟨rfl,by exact Ab.fin hs⟩
theorem Ve{st:BA->Nat}(hi:BV st ps m)(hkz:∀e∈m,e.1.size<4611686018427387904)(hm:m.length<1000000000)(hs:Ab W w (blk b [.int .u64 seed,.l s.a s.n s.c,.i (m.length:Int),.i u1]::recs (Cr (Rec.int .i64)) s ps::M)) :
  Calls PR 196 #[pq b 0] w λe w'=>e = .returned (.tuple #[])/\Ab W w' (ixr (Rec.int .i64) b seed m::M):=by
 refine c1 (cw ⟨mixed,Tryz.func196,rfl⟩ Aks ?_);have hn:=(Bx (s:=s) hs GG.pos).1;have hsmall:=hi.small;obtain⟨N,hN⟩:∃N:Nat,N=max 8 (4*(m.length+1)):=⟨_,rfl⟩;have e1:(if (IntKind.wrap .i64 ((4:Int)*(IntKind.wrap .i64 ((m.length:Int)+(1:Int)))))>(8:Int) then (IntKind.wrap .i64 ((4:Int)*(IntKind.wrap .i64 ((m.length:Int)+(1:Int))))) else (8:Int))=(N:Int):=by
  rw[i64_in ((m.length:Int)+1) (by omega),i64_in _ (by omega)];split <;> omega
 repeat (first|with_reducible refine Aa ?_|((with_reducible refine A2 ?_);first|refine Ah hs ?_|fail)|fail)
 rw[e1];refine Eg (sz:=3) hs rfl (by omega) (by omega) (by omega) (by omega) λs2 w hn2 _ _ hs=>?_;rw[Int.toNat_natCast] at hs hn2;have hs:Ab W w (recs (Cr (Rec.int .i64)) s2 (List.replicate N ⟨0,Ae,0⟩)::blk b [.int .u64 seed,.l s.a s.n s.c,.i (m.length:Int),.i u1]::recs (Cr (Rec.int .i64)) s ps::M):=by
  have e:=DI (Cr (Rec.int .i64)) ⟨0,Ae,0⟩ N;unfold recs;rw[<- e];exact hs
 repeat (first|with_reducible refine Aa ?_|((with_reducible refine Bm ?_);first|refine A4 hs λw hs=>?_|fail)|fail)
 have hinv:=BV.new (st:=Az seed N) (n:=N) (z:=(⟨0,Ae,0⟩:Pl Int)) rfl (by omega) (by omega) (C9 (by omega));have hdist:(AP ps).map (·.1) |>.Nodup:=(hi.perm.map (·.1)).nodup_iff.2 hi.nodup
 have hlen:(AP ps).length=m.length:=hi.perm.length_eq;have loop:∀(f i:Nat)(w:World)(ps2:List (Pl Int))(mi:List (BA×Int)),i+f=ps.length->ps2.length=N->BV (Az seed N) ps2 mi->mi.Perm (AP (ps.take i))->A7 ps2<=mi.length ->
   Ab W w (blk b [.int .u64 seed,.l s2.a s2.n s2.c,.i (mi.length:Int),.i (A7 ps2:Int)]::recs (Cr (Rec.int .i64)) s2 ps2::recs (Cr (Rec.int .i64)) s ps::M) ->
   Kp Be (λv w'=>v = .tuple #[]/\Ab W w' (ixr (Rec.int .i64) b seed m::M)) (f+1) (some ⟨b,0,none⟩) s (s.n:Int) (i:Int) w:=by
  intro f
  induction f with
  | zero=>
   intro i w ps2 mi hif hpl hiv hp hu hs;rw[Me];refine Ac (decide_eq_false (by omega)) ⟨rfl,?_⟩;rw[List.take_of_length_le (by omega)] at hp;have hpm:=hp.trans hi.perm;refine AV s2 (ps:=ps2) (n:=(mi.length:Int)) ?_ ?_ (by rw[hpm.length_eq]) rfl (by exact Ab.fin hs)
   ·rw[hpl];exact hiv.perm' hpm
   ·rw[hpl];have:=hpm.length_eq;omega
  | succ f ih=>
   intro i w ps2 mi hif hpl hiv hp hu hs;rw[Me];refine Ak (decide_eq_true (by omega)) ?_
   repeat (first|((with_reducible refine A2 ?_);first|refine Ah hs ?_|refine Ck hs ?_|refine EL hs ?_|refine MA hs ?_|fail)|((with_reducible refine Bm ?_);first|refine A4 hs λw hs=>?_|fail)|((with_reducible refine BC ?_);first|refine BF hs λb_ o_ hs=>?_|fail)|((with_reducible refine CC ?_);first|refine Ai hs λb_ w hs=>?_|fail)|fail)
   simp only[Int.toNat_natCast] at hs ⊢;have hil:i<ps.length:=by omega
   have hft:AP (ps.take (i+1))=AP (ps.take i)++En (ps.getD i default):=by
    rw[Cc hil,BB];simp[AP]
   with_reducible refine BP (λh1=>?_) (λh1=>?_)
   ·have hop:En (ps.getD i default)=[((ps.getD i default).key,(ps.getD i default).v)]:=Ft h1;rw[hop] at hft;have hsub:(AP (ps.take (i+1))).Sublist (AP ps):=by
     conv=>rhs;rw[<- List.take_append_drop (i+1) ps,BB]
     exact List.sublist_append_left _ _
    have hmem:((ps.getD i default).key,(ps.getD i default).v)∈m:=hi.perm.subset (hsub.subset (by rw[hft];simp));have hnd:=hdist.sublist (hsub.map (·.1));rw[hft,List.map_append] at hnd;have hno:AE mi (ps.getD i default).key=none:=by
     rw[Bu];intro e he hk;rw[List.nodup_append] at hnd;exact hnd.2.2 _ (List.mem_map_of_mem (f:=(·.1)) (hp.subset he)) _ (by simp) hk
    have hlt:mi.length+1<=m.length:=by
     have:=hsub.length_le;rw[hft,List.length_append,<- hp.length_eq] at this;simp only[List.length_cons,List.length_nil] at this;omega
    repeat (first|((with_reducible refine A2 ?_);first|refine Ah hs ?_|fail)|fail)
    have hs:Ab W w (blk b [.int .u64 seed,.l s2.a s2.n s2.c,.i (mi.length:Int),.i (A7 ps2:Int)]::recs (Cr (Rec.int .i64)) s2 ps2::blk b_ [.i (ps.getD i default).is_,.s (ps.getD i default).key,.i (ps.getD i default).v]::recs (Cr (Rec.int .i64)) s ps::M):=by exact Ab.fin hs
    refine AG (Gt (st:=Az seed N) (by rw[hpl]) (hkz _ hmem) (by omega) (hiv.stop _) hs) λe w ⟨he,hs⟩=>⟨_,_,he,?_⟩;have hfm:(AI (Az seed N) ps2 (ps.getD i default).key).2=false:=by
     cases hb:(AI (Az seed N) ps2 (ps.getD i default).key).2 with
     | false=>rfl
     | true=>have:=(hiv.hit hb).2.2;rw[hno] at this;cases this
    obtain⟨hj,hj2,_,hjr⟩:=hiv.miss hfm
    repeat (first|((with_reducible refine A2 ?_);first|refine Ah hs ?_|fail)|fail)
    refine Ar (M9 (v:=(ps.getD i default).v) hj (by omega) rfl (by omega) hs) λe w ⟨he,hs⟩=>⟨he,?_⟩;rw[i64_in _ (by omega)];have hus:=Bl hj (⟨2,(ps.getD i default).key,(ps.getD i default).v⟩:Pl Int) (by show(2:Int)≠0;decide)
    have hus2:A7 (ps2.set (AI (Az seed N) ps2 (ps.getD i default).key).1 ⟨2,(ps.getD i default).key,(ps.getD i default).v⟩)<=A7 ps2+1:=by rw[hus];split <;> omega
    refine ih (i+1) w _ (((ps.getD i default).key,(ps.getD i default).v)::mi) (by omega) (by rw[List.length_set];exact hpl) (hiv.add hj hj2 hno hjr (by omega)) ?_ (by simp only[List.length_cons];omega) ?_
    ·rw[hft];exact((List.Perm.cons _ hp).trans (List.perm_append_comm (l₁:=[_])))
    ·simp only[List.length_cons,Int.natCast_add];exact Ab.fin hs
   ·have hop:En (ps.getD i default)=[]:=Hl h1;rw[hop,List.append_nil] at hft;rw[i64_in _ (by omega)];exact ih (i+1) w ps2 mi (by omega) hpl hiv (by rw[hft];exact hp) hu (by exact Ab.fin hs)
 refine⟨ps.length+1,?_⟩;refine loop ps.length 0 w (List.replicate N ⟨0,Ae,0⟩) [] (by omega) (by simp) hinv (by simp[AP]) ?_ ?_
 ·have:A7 (List.replicate N (⟨0,Ae,0⟩:Pl Int))=0:=by
   unfold A7;rw[List.countP_eq_zero];intro a ha;rw[List.eq_of_mem_replicate ha];simp
  rw[this];exact Nat.zero_le _
 ·have:A7 (List.replicate N (⟨0,Ae,0⟩:Pl Int))=0:=by
   unfold A7;rw[List.countP_eq_zero];intro a ha;rw[List.eq_of_mem_replicate ha];simp
  rw[this];exact Ab.fin hs
end
section
variable{W w:World}{L M:List HP}{F:HP->List HP}{b:Nat}{seed:Int}{m:List (BA×Int)}{k:BA}
theorem Adv(hs:Ab W w L):Calls PR 172 #[.int .u64 seed] w λe w'=>∃b,e = .returned (pq b 0)/\Ab W w' (ixr (Rec.int .i64) b seed []::L):=by
 refine(cw ⟨mixed,Tryz.func172,rfl⟩ Akk (Q:=λv w'=>∃b,v=pq b 0/\Ab W w' (ixr (Rec.int .i64) b seed []::L)) ?_).mono λe w' ⟨v,he,b,hv,hs⟩=>⟨b,by rw[he,hv],hs⟩;refine Eg (sz:=3) hs rfl (by omega) (by omega) (by omega) (by omega) λs2 w hn2 _ _ hs=>?_;have hs:Ab W w (recs (Cr (Rec.int .i64)) s2 (List.replicate 8 ⟨0,Ae,0⟩)::L):=hs
 repeat (first|((with_reducible refine CC ?_);first|refine Ai hs λb_ w hs=>?_|fail)|fail)
 refine⟨_,rfl,AV s2 (ps:=List.replicate 8 ⟨0,Ae,0⟩) (n:=0) (u:=0) (BV.new (n:=8) rfl (by omega) (by omega) (C9 (by simp))) (by decide +revert) rfl rfl (by exact Ab.fin hs)⟩
theorem OI(h:Ab W w L)[hA:At L b (ixr (Rec.int .i64) b seed m) F](hz:k.size<4611686018427387904):Calls PR 192 #[pq b 0,.s k] w λe w'=>e = .returned (.tuple #[.i ((AE m k).getD 0),.b (AE m k).isSome])/\Ab W w' (F (ixr (Rec.int .i64) b seed m)):=by
 refine At.call1 (hA:=hA) h λM hs=>?_;clear h hA;refine c1 (cw ⟨mixed,Tryz.func192,rfl⟩ Ako ?_);refine Ak rfl ?_;obtain⟨s,ps,hi,h2,hn,hs⟩:=Cy hs;have hsm:=hi.small;have hbg:=hi.big;refine AG (Gt (st:=Az seed ps.length) rfl hz (by omega) (hi.stop _) hs) λe w ⟨he,hs⟩=>⟨_,_,he,?_⟩;refine Ap (λhb=>?_) (λhb=>?_)
 ·obtain⟨hj,_,hg⟩:=hi.hit hb;rw[hg]
  repeat (first|with_reducible refine Aa ?_|((with_reducible refine A2 ?_);first|refine Ah hs ?_|refine EL hs ?_|fail)|((with_reducible refine BC ?_);first|refine BF hs λb_ o_ hs=>?_|fail)|fail)
  simp only[Int.toNat_natCast];exact⟨rfl,AV s hi h2 rfl rfl (by exact Ab.fin hs)⟩
 ·rw[(hi.miss hb).2.2.1];exact⟨rfl,AV s hi h2 rfl rfl hs⟩
theorem Vd(h:Ab W w L)[hA:At L b (ixr (Rec.int .i64) b seed m) F]{v:Int}(hz:k.size<4611686018427387904)(hkz:∀e∈m,e.1.size<4611686018427387904)(hm:m.length<900000000):Calls PR 161 #[pq b 0,.s k,.i v] w λe w'=>e = .returned (.b (AE m k).isNone)/\Ab W w' (F (ixr (Rec.int .i64) b seed (Cj m k v))):=by
 refine At.call1 (hA:=hA) h λM hs=>?_;clear h hA;refine c1 (cw ⟨mixed,Tryz.func161,rfl⟩ Aka ?_);refine Ac rfl ?_;obtain⟨s,ps,hi,h2,hn,hs⟩:=Cy hs;have hsm:=hi.small;have hbg:=hi.big;refine AG (Gt (st:=Az seed ps.length) rfl hz (by omega) (hi.stop _) hs) λe w ⟨he,hs⟩=>⟨_,_,he,?_⟩;refine Ap (λhb=>?_) (λhb=>?_)
 ·obtain⟨hj,hit,hg⟩:=hi.hit hb;have hp:Cj m k v=E5 m k v:=by unfold Cj;rw[hg]
  rw[hg,hp]
  repeat (first|with_reducible refine Aa ?_|((with_reducible refine A2 ?_);first|refine Ah hs ?_|fail)|((with_reducible refine Bm ?_);first|refine Ap4 hs λw hs=>?_|fail)|((with_reducible refine BC ?_);first|refine BF hs λb_ o_ hs=>?_|fail)|fail)
  simp only[Int.toNat_natCast] at hs;have hset:=hi.set (v:=v) hj hit;have hus:A7 (ps.set (AI (Az seed ps.length) ps k).1 { ps.getD (AI (Az seed ps.length) ps k).1 default with v:=v })=A7 ps:=by
   rw[Bl hj _ (by show Bs ps _≠0;rw[hit.1];decide),if_neg (by rw[hit.1];decide)];rfl
  refine⟨rfl,AV s (n:=(m.length:Int)) (u:=(A7 ps:Int)) (by rw[List.length_set];exact hset) (by rw[hus,List.length_set];exact h2) (by simp[E5]) (by rw[hus]) (by exact Ab.fin hs)⟩
 ·obtain⟨hj,hj2,hg,hr⟩:=hi.miss hb;have hp:Cj m k v=(k,v)::m:=by unfold Cj;rw[hg]
  rw[hg,hp];refine Ar (M9 (v:=v) hj (by omega) rfl (by omega) hs) λe w ⟨he,hs⟩=>⟨he,?_⟩;have hus:=Bl hj (⟨2,k,v⟩:Pl Int) (by show(2:Int)≠0;decide)
  have hus2:A7 (ps.set (AI (Az seed ps.length) ps k).1 ⟨2,k,v⟩)<=A7 ps+1:=by rw[hus];split <;> omega
  have hadd:=hi.add (v:=v) hj hj2 hg hr (by omega);have hsl:(ps.set (AI (Az seed ps.length) ps k).1 ⟨2,k,v⟩).length=ps.length:=by simp
  generalize hps2:ps.set (AI (Az seed ps.length) ps k).1 ⟨2,k,v⟩=ps2 at hs hus2 hadd hsl
  repeat (first|with_reducible refine Aa ?_|((with_reducible refine A2 ?_);first|refine Ah hs ?_|fail)|((with_reducible refine BY ?_);first|refine Aq ?_|fail)|((with_reducible refine Bf ?_);first|refine AW hs ?_|fail)|((with_reducible refine DQ ?_);first|refine A9 hs λw hs=>?_|fail)|fail)
  rw[i64_in _ (by omega),hn]
  with_reducible refine Di (λh9=>?_) (λh9=>?_)
  ·have hkz2:∀e∈(k,v)::m,e.1.size<4611686018427387904:=by
    intro e he;rcases List.mem_cons.1 he with rfl|he
    ·exact hz
    ·exact hkz e he
   have hs2:Ab W w (blk b [.int .u64 seed,.l s.a s.n s.c,.i (((k,v)::m).length:Int),.i (A7 ps2:Int)]::recs (Cr (Rec.int .i64)) s ps2::M):=by
    simp only[List.length_cons,Int.natCast_add];exact hs
   refine Ar (Ve hadd hkz2 (by simp;omega) hs2) λe w ⟨he,hs⟩=>⟨he,?_⟩;exact⟨rfl,hs⟩
  ·exact⟨rfl,AV s (n:=(m.length:Int)+1) (by rw[hsl];exact hadd) (by omega) (by simp) rfl (by exact Ab.fin hs)⟩
theorem PE(h:Ab W w L)[hA:At L b (ixr (Rec.int .i64) b seed m) F](hz:k.size<4611686018427387904)(hm:m.length<900000000):Calls PR 159 #[pq b 0,.s k] w λe w'=>e = .returned (.tuple #[.i ((AE m k).getD 0),.b (AE m k).isSome])/\Ab W w' (F (ixr (Rec.int .i64) b seed (BJ m k))):=by
 refine At.call1 (hA:=hA) h λM hs=>?_;clear h hA;refine c1 (cw ⟨mixed,Tryz.func159,rfl⟩ Aj8 ?_);refine AG (OI hs hz) λe w ⟨he,hs⟩=>⟨_,_,he,?_⟩;refine K3 (λv hg=>?_) (λhg=>?_)
 ·obtain⟨s,ps,hi,h2,hn,hs⟩:=Cy hs;have hsm:=hi.small;have hbg:=hi.big;refine AG (Gt (st:=Az seed ps.length) rfl hz (by omega) (hi.stop _) hs) λe w ⟨he,hs⟩=>⟨_,_,he,?_⟩;have hb:(AI (Az seed ps.length) ps k).2=true:=by
   cases hb:(AI (Az seed ps.length) ps k).2 with
   | true=>rfl
   | false=>have:=(hi.miss hb).2.2.1;rw[hg] at this;cases this
  obtain⟨hj,hit,_⟩:=hi.hit hb
  repeat (first|with_reducible refine Aa ?_|((with_reducible refine A2 ?_);first|refine Ah hs ?_|fail)|((with_reducible refine Bm ?_);first|refine A4 hs λw hs=>?_|refine V7 hs λw hs=>?_|fail)|((with_reducible refine BC ?_);first|refine BF hs λb_ o_ hs=>?_|fail)|fail)
  rw[i64_in _ (by omega)] at hs;simp only[Int.toNat_natCast] at hs;have hdel:=hi.del (z:=(⟨1,Ae,0⟩:Pl Int)) hj hit rfl;have hus:A7 (ps.set (AI (Az seed ps.length) ps k).1 (⟨1,Ae,0⟩:Pl Int))=A7 ps:=by
   rw[Bl hj _ (by show(1:Int)≠0;decide),if_neg (by rw[hit.1];decide)];rfl
  have hl:=KD hi.nodup hg;refine⟨by trivial,AV s (n:=(m.length:Int)-1) (u:=(A7 ps:Int)) (by rw[List.length_set];exact hdel) (by rw[hus,List.length_set];exact h2) (by omega) (by rw[hus]) (by exact Ab.fin hs)⟩
 ·have:BJ m k=m:=by
   unfold BJ;rw[List.filter_eq_self];intro e he;simpa using Bu.1 hg e he
  rw[this];exact⟨by trivial,by exact Ab.fin hs⟩
end
end Go.Proofs.YtjipofkjmmpjdaaGreat
namespace Go.Hb
open Go.Proofs.YtjipofkjmmpjdaaGreat
abbrev cS(b:Nat)(s:Sl)(xb:Nat)(c sm gh:Int)(cb:Nat):HP:=blk b [.l s.a s.n s.c,pq xb 0,.i c,.i sm,.i gh,pq cb 0]
abbrev CM:=List (BA×Int)
def Cs(m:CM)(k:BA):Int:=(AE m k).getD 0
def QT(b:Nat)(c gh:Int)(i a o:BL)(m:CM):HP:=JU λ(z:Sl×Nat×Int×Nat)=>AF [cS b z.1 z.2.1 c z.2.2.1 gh z.2.2.2,rowsC z.1 z.2.1 5000 [i,a,o],ixr (Rec.int .i64) z.2.2.2 0 m]
structure Ij(c:Int)(R i a o:BL)(m:CM):Prop where
 eq:R=i++a
 ok:Dl c R
 gh:o.length<=1024
 cnt:∀k,0<=Cs m k/\Cs m k<=3
 sub:∀e∈m,e.1∈R
def Io(b:Nat)(c:Int)(R:BL):HP:=JU λ(z:(BL×BL×BL)×CM×Int)=>ED (Ij c R z.1.1 z.1.2.1 z.1.2.2 z.2.1/\0<=z.2.2/\z.2.2<=1024) (QT b c z.2.2 z.1.1 z.1.2.1 z.1.2.2 z.2.1)
section
variable{W w:World}{M L:List HP}{b:Nat}{c gh v:Int}{R i a o:BL}{m:CM}{k x:BA}
theorem CF(h:Ab W w (QT b c gh i a o m::M)):∃(s:Sl) (xb:Nat) (sm:Int) (cb:Nat),Ab W w (cS b s xb c sm gh cb::rowsC s xb 5000 [i,a,o]::ixr (Rec.int .i64) cb 0 m::M):=by
 obtain⟨⟨s,xb,sm,cb⟩,h⟩:=h.openE;exact⟨s,xb,sm,cb,h.openL⟩
theorem Cl{s:Sl}{xb cb:Nat}{sm:Int}(h:Ab W w (cS b s xb c sm gh cb::rowsC s xb 5000 [i,a,o]::ixr (Rec.int .i64) cb 0 m::M)):Ab W w (QT b c gh i a o m::M):=
 Ab.shutE (s,xb,sm,cb) (Ab.shutL (Ps:=[_,_,_]) h)
theorem D7(h:Ab W w (Io b c R::M)):∃(i a o:BL) (m:CM) (gh:Int),Ij c R i a o m/\(0<=gh/\gh<=1024)/\Ab W w (QT b c gh i a o m::M):=by
 obtain⟨⟨⟨i,a,o⟩,m,gh⟩,h⟩:=h.openE;obtain⟨h1,h⟩:=h.openA;exact⟨i,a,o,m,gh,h1.1,h1.2,h⟩
theorem CB(h1:Ij c R i a o m)(h2:0<=gh/\gh<=1024)(h:Ab W w (QT b c gh i a o m::M)):Ab W w (Io b c R::M):=Ab.shutE ((i,a,o),m,gh) (Ab.shutA ⟨h1,h2⟩ h)
theorem Pd(h:Ab W w (Io b c R::M)):Dl c R:=by
 obtain⟨i,a,o,m,gh,h1,_⟩:=D7 h;exact h1.ok
theorem TV(h:Ab W w (Io b c R::M)):w.cell? ⟨b,2,none⟩=some (.i c):=by
 obtain⟨i,a,o,m,gh,_,_,h⟩:=D7 h;obtain⟨s,xb,sm,cb,h⟩:=CF h;exact h.cell (q:=0) rfl
theorem Q6(h:Ab W w (QT b c gh i a o m::M)):Nd3 i a o/\(m.map (·.1)).Nodup:=by
 obtain⟨s,xb,sm,cb,h⟩:=CF h;exact⟨nd3 (M:=ixr (Rec.int .i64) cb 0 m::M) (h.drop),Agc (M:=M) (h.drop).drop⟩
theorem H0:Cs (Cj m k v) x=if k=x then v else Cs m x:=by
 unfold Cs;rw[T6];split <;> rfl
theorem TJ:Cs (BJ m k) x=if k=x then 0 else Cs m x:=by
 unfold Cs;rw[T5];split <;> rfl
theorem Ij.two(h:Ij c R i a o m):i.length+a.length<=1024/\R.length=i.length+a.length:=by
 have h1:=h.ok.room;have h2:=h.ok.c2
 have h3:R.length=i.length+a.length:=by rw[h.eq];simp
 omega
theorem Ij.mlen(h:Ij c R i a o m)(hn:(m.map (·.1)).Nodup):m.length<=1024:=by
 have h1:=E6 hn (b:=R) λk hk=>by
  obtain⟨e,he,rfl⟩:=List.mem_map.1 hk;exact h.sub e he
 have h2:=h.two;rw[List.length_map] at h1;omega
theorem Ij.msm(h:Ij c R i a o m):∀e∈m,e.1.size<4611686018427387904:=λe he=>by
 have:=h.ok.small _ (h.sub e he);omega
theorem KK{m:CM}{S:BL}(h:∀e∈m,e.1∈S)(hk:k∈S):∀e∈Cj m k v,e.1∈S:=Tg (P:=λk=>k∈S) h hk
theorem TL{m:CM}{S T:BL}(h:∀e∈m,e.1∈S)(hS:∀x∈S,x≠k->x∈T):∀e∈BJ m k,e.1∈T:=λe he=>by
 unfold BJ at he;rw[List.mem_filter,decide_eq_true_eq] at he;exact hS _ (h e he.1) he.2
end
end Go.Hb
namespace Go.Proofs.YtjipofkjmmpjdaaGreat
open Go.Hb Go.IntWalk
section
variable{W w:World}{L M:List HP}{b:Nat}{c gh n:Int}{R i a o:BL}{m:CM}{key:BA}
theorem KU{j:Nat}(hj:j<2)(hz:key.size<64)(hl:i.length+a.length<=1024/\o.length<=1024)(hm:m.length<=2000/\∀e∈m,e.1.size<4611686018427387904)(hs:Ab W w (QT b c gh i a o m::M)) :
  AZ PR 371 #[pq b 0,.i (j:Int),.s key,.i n] w λv w'=>v = .tuple #[]/\∀i' a' o',Dd [i,a,o] j key=[i',a',o']->Ab W w' (QT b c gh i' a' o' (Cj m key n)::M):=by
 refine cw ⟨mixed,Tryz.func371,rfl⟩ Anf ?_;obtain⟨s,xb,sm,cb,hs⟩:=CF hs;refine Aa (Ah (x:=s) hs (Ah hs ?_));refine Ar (Fa B0 (K:=[i,a,o]) hs (show j<3 by omega) hz (by omega) (show 3<=4 by decide) (by
  match j,hj with
  | 0,_=>show i.length<5000;omega
  | 1,_=>show a.length<5000;omega)) λe w ⟨he,hs⟩=>⟨he,?_⟩
 refine Aa (Ah hs ?_);refine Am (Vd hs (v:=n) (by omega) hm.2 (by omega)) λe w ⟨he,hs⟩=>⟨_,he,?_⟩;refine⟨rfl,λi' a' o' e=>?_⟩;rw[e] at hs;exact Cl hs
theorem V5(hz:key.size<64)(hm:m.length<=2000)(hs:Ab W w (QT b c gh i a o m::M)) :
  AZ PR 376 #[pq b 0,.s key] w λv w'=>v = .tuple #[]/\Ab W w' (QT b c gh (Ao i key) (Ao a key) (Ao o key) (BJ m key)::M):=by
 refine cw ⟨mixed,Tryz.func376,rfl⟩ Ank ?_;obtain⟨s,xb,sm,cb,hs⟩:=CF hs;refine Aa (Ah (x:=s) hs (Ah hs ?_));refine Ar (BT B0 (K:=[i,a,o]) hs hz (by omega) (show 3<=4 by decide)) λe w ⟨he,hs⟩=>⟨he,?_⟩;refine Aa (Ah hs ?_);refine AG (PE hs (by omega) (by omega)) λe w ⟨he,hs⟩=>⟨_,_,he,?_⟩;exact⟨rfl,Cl hs⟩
theorem A2b(hs:Ab W w L){r:Int}:AZ PR 155 #[.i r] w λv w'=>∃b,v=pq b 0/\Ab W w' (Io b (AT r) []::L):=by
 refine cw ⟨mixed,Tryz.func155,rfl⟩ Aj5 ?_;refine Aw (by decide) ?_;refine(KT B0 (nr:=3) (by decide) hs).mono λe w ⟨s,xb,he,hs⟩=>⟨s,_,he,?_⟩;have hs:=IY (N':=5000) hs (by omega);refine Am (Adv hs) λe w ⟨cb,he,hs⟩=>⟨_,he,?_⟩;refine Ai hs λb w hs=>⟨b,rfl,?_⟩;have hr:=Eb r;rw[KO] at hs;have e3:List.replicate 3 ([]:BL)=[[],[],[]]:=rfl;rw[e3] at hs;have hok:Ij (AT r) [] [] [] [] []:=⟨rfl,Dl.nil hr.1 hr.2,by simp,λk=>by simp[Cs,AE],by simp⟩;have h5:1<=(if IntKind.wrap .i64 (Int.tdiv (AT r) 10)>1 then IntKind.wrap .i64 (Int.tdiv (AT r) 10) else 1)/\(if IntKind.wrap .i64 (Int.tdiv (AT r) 10)>1 then IntKind.wrap .i64 (Int.tdiv (AT r) 10) else 1)<=1024:=by
  rw[Int.tdiv_eq_ediv_of_nonneg (by omega),i64_in _ (by omega)];split <;> omega
 refine CB hok ?_ (Cl (cb:=cb) (by exact Ab.fin hs));generalize (if IntKind.wrap .i64 (Int.tdiv (AT r) 10)>1 then IntKind.wrap .i64 (Int.tdiv (AT r) 10) else 1)=q at h5;rw[i64_in _ (by omega)];split <;> omega
theorem Axr(hs:Ab W w (Io b c R::M)):AZ PR 368 #[pq b 0] w λv w'=>v = .i c/\Ab W w' (Io b c R::M):=by
 refine cw ⟨mixed,Tryz.func368,rfl⟩ Ane ?_;obtain⟨i,a,o,m,gh,h1,h2,hs⟩:=D7 hs;obtain⟨s,xb,sm,cb,hs⟩:=CF hs;refine Ac rfl (Aa (Ah hs ?_));exact⟨rfl,CB h1 h2 (Cl hs)⟩
theorem Q5(hs:Ab W w (Io b c R::M)):AZ PR 365 #[pq b 0] w λv w'=>v = .i (R.length:Int)/\Ab W w' (Io b c R::M):=by
 refine cw ⟨mixed,Tryz.func365,rfl⟩ Ana ?_;obtain⟨i,a,o,m,gh,h1,h2,hs⟩:=D7 hs;obtain⟨s,xb,sm,cb,hs⟩:=CF hs;refine Ac rfl (Aa (Ah (x:=s) hs (Ah hs ?_)));refine Ai hs λnb w hs=>?_;refine AM B0 (nr:=3) (K:=[i,a,o]) [0,1] (M:=cS b s xb c sm gh cb::ixr (Rec.int .i64) cb 0 m::M) (by exact Ab.fin hs) (by omega) rfl λw hs=>?_;refine⟨?_,CB h1 h2 (Cl (by exact Ab.fin hs))⟩;rw[h1.two.2];simp[Bv]
theorem V3(hz:key.size<64)(hs:Ab W w (Io b c R::M)):AZ PR 363 #[pq b 0,.s key] w λv w'=>v = .b (decide (key∈R))/\Ab W w' (Io b c R::M):=by
 refine cw ⟨mixed,Tryz.func363,rfl⟩ Am8 ?_;obtain⟨i,a,o,m,gh,h1,h2,hs⟩:=D7 hs;obtain⟨s,xb,sm,cb,hs⟩:=CF hs;refine Ac rfl (Aa (Ah (x:=s) hs (Ah hs ?_)));refine Am (DF B0 (K:=[i,a,o]) hs hz) λe w ⟨he,hs⟩=>⟨_,he,?_⟩;have e:∀t:Bool,(t=true↔key∈i\/key∈a)->Value.bool t = .b (decide (key∈R)):=λt ht=>by
  congr 1;rw[Bool.eq_iff_iff,ht,h1.eq,decide_eq_true_eq,List.mem_append]
 rcases QQ i a o key with⟨h,h4⟩|⟨h,h4,h5⟩|⟨h,h4,h5,h6⟩|⟨h,h4,h5,h6⟩ <;> rw[h]
 ·exact Ak rfl ⟨e _ (by simp[h4]),CB h1 h2 (Cl hs)⟩
 ·exact Ac rfl ⟨e _ (by simp[h5]),CB h1 h2 (Cl hs)⟩
 ·exact Ac rfl ⟨e _ (by simp[h4,h5]),CB h1 h2 (Cl hs)⟩
 ·exact Ac rfl ⟨e _ (by simp[h4,h5]),CB h1 h2 (Cl hs)⟩
theorem Axp(hs:Ab W w (Io b c R::M)):AZ PR 364 #[pq b 0] w λv w'=>∃(l:Sl) (ks:BL),v = .l l.a l.n l.c/\ks.Perm R/\Ab W w' (Io b c R::recs Rec.str l ks::M):=by
 refine cw ⟨mixed,Tryz.func364,rfl⟩ Am9 ?_;obtain⟨i,a,o,m,gh,h1,h2,hs⟩:=D7 hs;obtain⟨s,xb,sm,cb,hs⟩:=CF hs;refine Ac rfl (Aa (Ah (x:=s) hs (Ah hs ?_)));refine Ai hs λnb w hs=>?_;refine OJ B0 (nr:=3) (K:=[i,a,o]) [0,1] (M:=cS b s xb c sm gh cb::ixr (Rec.int .i64) cb 0 m::M) (by exact Ab.fin hs) (by omega) rfl λl w hs=>?_;refine⟨l,_,rfl,?_,CB h1 h2 (Cl (by exact Ab.fin hs))⟩;rw[h1.eq];simp[EM]
theorem YM(hl:i.length+a.length<=1024/\o.length<=1024)(h0:0<a.length)(hc:∀k,0<=Cs m k/\Cs m k<=3)(hsub:∀e∈m,e.1∈i++a)(hs:Ab W w (QT b c gh i a o m::M)) :
  AZ PR 374 #[pq b 0] w λv w'=>∃(x:BA) (a':BL) (m':CM),v = .s x/\a.Perm (x::a')/\(∀k,0<=Cs m' k/\Cs m' k<=3)/\(∀e∈m',e.1∈i++a')/\Ab W w' (QT b c gh i a' o m'::M):=by
 refine cw ⟨mixed,Tryz.func374,rfl⟩ Anj ?_;have loop:∀(f:Nat)(y:BL)(m:CM)(w:World),a.Perm y->((y.map λk=>(Cs m k).toNat).sum=f)->(∀k,0<=Cs m k/\Cs m k<=3)->(∀e∈m,e.1∈i++y)->Ab W w (QT b c gh i y o m::M) ->
   OE Be (λv w'=>∃(x:BA) (a':BL) (m':CM),v = .s x/\a.Perm (x::a')/\(∀k,0<=Cs m' k/\Cs m' k<=3)/\(∀e∈m',e.1∈i++a')/\Ab W w' (QT b c gh i a' o m'::M)) (f+1) (some ⟨b,0,none⟩) w:=by
  clear hs hc hsub;intro f
  induction f using Nat.strongRecOn with
  | ind f ih=>
   intro y m w hp hf hc hsub hs;rw[XG];have hyl:=hp.length_eq;have hy0:0<y.length:=by omega
   obtain⟨hnd,hmn⟩:=Q6 hs;have hm:=C2 hy0;have hz:=hnd.small _ (.inr (.inl hm));have hml:m.length<=1024:=by
    have h1:=E6 hmn (b:=i++y) λk hk=>by
     obtain⟨e,he,rfl⟩:=List.mem_map.1 hk;exact hsub e he
    rw[List.length_map,List.length_append] at h1;omega
   have hms:∀e∈m,e.1.size<4611686018427387904:=λe he=>by
    have:=hnd.small e.1 ((List.mem_append.1 (hsub e he)).elim .inl λh=>.inr (.inl h));omega
   obtain⟨s,xb,sm,cb,hs⟩:=CF hs;refine Aa (Ah (x:=s) hs (Ah hs ?_));refine Am (Bt B0 (K:=[i,y,o]) (j:=1) hs (lt3 (by decide)) (show 3<=4 by decide)) λe w ⟨he,hs⟩=>⟨_,he,?_⟩;refine Aa (Ah hs ?_);refine AG (OI hs (k:=BW y) (by omega)) λe w ⟨he,hs⟩=>⟨_,_,he,?_⟩;have hs:=Cl hs;have ec:((AE m (BW y)).getD 0)=Cs m (BW y):=rfl;rw[ec];have hdec:y=BW y::y.drop 1:=by
    cases y with
    | nil=>simp at hy0
    | cons x t=>rfl
   with_reducible refine Ay (λh1=>?_) (λh1=>?_)
   ·refine AY (V5 (key:=BW y) hz (by omega) hs) λv w ⟨hv,hs⟩=>⟨hv,?_⟩;rw[As λh=>(hnd.io _ h).1 hm,BH hnd.no hy0,As (hnd.oa _ hm)] at hs;refine⟨BW y,y.drop 1,_,rfl,hdec ▸ hp,λk=>?_,TL hsub λx hx hne=>?_,hs⟩
    ·rw[TJ];split
     ·omega
     ·exact hc k
    ·rcases List.mem_append.1 hx with h|h
     ·exact List.mem_append_left _ h
     ·rw[hdec] at h;exact List.mem_append_right _ ((List.mem_cons.1 h).resolve_left hne)
   ·have hc1:=hc (BW y);rw[i64_in _ (by omega)];refine AY (KU (j:=1) (key:=BW y) (by decide) hz ⟨by omega,hl.2⟩ ⟨by omega,hms⟩ hs) λv w ⟨hv,hs⟩=>⟨hv,?_⟩;have e1:Dd [i,y,o] 1 (BW y)=[i,y.drop 1++[BW y],o]:=by
     show[Ao i _,Ao y _++[_],Ao o _]=_;rw[As λh=>(hnd.io _ h).1 hm,BH hnd.no hy0,As (hnd.oa _ hm)]
    have hs:=hs _ _ _ e1;have hpy:y.Perm (y.drop 1++[BW y]):=by
     rw[hdec];exact(List.perm_append_singleton _ _).symm
    have hsum:((y.drop 1++[BW y]).map λk=>(Cs (Cj m (BW y) (Cs m (BW y)-1)) k).toNat).sum+1=f:=by
     have hnn:BW y∉y.drop 1:=by
      have:=hnd.no;rw[hdec] at this;exact(List.nodup_cons.1 this).1
     have e2:((y.drop 1).map λk=>(Cs (Cj m (BW y) (Cs m (BW y)-1)) k).toNat)=(y.drop 1).map λk=>(Cs m k).toNat:=
      List.map_congr_left λk hk=>by rw[H0,if_neg λe=>hnn (by rw[e];exact hk)]
     have e3:(y.map λk=>(Cs m k).toNat).sum=(Cs m (BW y)).toNat + ((y.drop 1).map λk=>(Cs m k).toNat).sum:=by
      conv=>lhs;rw[hdec]
      rfl
     rw[List.map_append,List.sum_append,e2,List.map_cons,List.map_nil,List.sum_cons,List.sum_nil,H0,if_pos rfl];omega
    obtain⟨g,hg⟩:∃g,f=g+1:=⟨f-1,by omega⟩;subst hg;refine ih g (by omega) _ _ w (hp.trans hpy) (by omega) (λk=>?_) (KK (λe he=>?_) (by simp)) hs
    ·rw[H0];split
     ·omega
     ·exact hc k
    ·rcases List.mem_append.1 (hsub e he) with h|h
     ·exact List.mem_append_left _ h
     ·exact List.mem_append_right _ (hpy.mem_iff.1 h)
 exact AJ _ (loop _ a m w (List.Perm.refl _) rfl hc hsub hs)
abbrev SmQ(b:Nat)(c gh:Int)(R:BL)(W:World)(M:List HP):VW:=λv w'=>∃(x:BA) (t:Bool) (i a o:BL) (m:CM),v = .tuple #[.s x,.b t]/\(t=true->R.Perm (x::(i++a)))/\(t=false->R.Perm (i++a)/\i=[])/\o.length<=1024/\(∀k,0<=Cs m k/\Cs m k<=3)/\(∀e∈m,e.1∈i++a)/\Ab W w' (QT b c gh i a o m::M)
theorem Ahh{m1:Nat}{x:BA}(hg:0<=gh/\gh<=1024){Q:VW}(hQ:∀(o:BL)(w':World),o.length<=1024->Ab W w' (QT b c gh i a o m::M)->Q (.tuple #[.s x,.b true]) w') :
  ∀(f:Nat)(o:BL)(w:World),o.length=f->Ab W w (QT b c gh i a o m::M)->OD Be Q m1 (f+1) (some ⟨b,0,none⟩) x w:=by
 intro f
 induction f with
 | zero=>
  intro o w ho hs;rw[M6];obtain⟨s,xb,sm,cb,hs⟩:=CF hs;refine Al [cS b s xb c sm gh cb] hs λw hs=>?_;refine Aa (Aq (x:=s) (Aq (Aa (Aq ?_))));refine Ai hs λnb w hs=>Af hs ?_;refine AM B0 (nr:=3) (K:=[i,a,o]) [2] (M:=cS b s xb c sm gh cb::ixr (Rec.int .i64) cb 0 m::M) (by exact Ab.fin hs) (by omega) rfl λw hs=>?_;refine Af hs ?_;have e2:(Bv [i,a,o] [2]:Int)=0:=by simp[Bv,ho]
  rw[e2];refine Ac (decide_eq_false (by omega)) ?_;refine jw M4 ?_;exact hQ o w (by omega) (Cl (by exact Ab.fin hs))
 | succ f ih=>
  intro o w ho hs;rw[M6];have hnd:=(Q6 hs).1;obtain⟨s,xb,sm,cb,hs⟩:=CF hs;refine Al [cS b s xb c sm gh cb] hs λw hs=>?_;refine Aa (Aq (x:=s) (Aq (Aa (Aq ?_))));refine Ai hs λnb w hs=>Af hs ?_;refine AM B0 (nr:=3) (K:=[i,a,o]) [2] (M:=cS b s xb c sm gh cb::ixr (Rec.int .i64) cb 0 m::M) (by exact Ab.fin hs) (by omega) rfl λw hs=>?_;refine Af hs ?_;have e2:(Bv [i,a,o] [2]:Int)=o.length:=by simp[Bv]
  rw[e2];have hs:Ab W w (cS b s xb c sm gh cb::rowsC s xb 5000 [i,a,o]::ixr (Rec.int .i64) cb 0 m::M):=by exact Ab.fin hs
  with_reducible refine Ay (λh9=>?_) (λh9=>?_)
  ·refine Al [cS b s xb c sm gh cb] hs λw hs=>?_;refine Aa (Aq (x:=s) (Aq (Aa (Ah (x:=s) hs (Ah hs (Af hs ?_))))));refine Am (Bt B0 (K:=[i,a,o]) (j:=2) hs (lt3 (by decide)) (show 3<=4 by decide)) λe w ⟨he,hs⟩=>⟨_,he,Af hs ?_⟩;have h0:0<o.length:=by omega
   have hm:=C2 h0;refine Ar (BT B0 (K:=[i,a,o]) (key:=BW o) hs (hnd.small _ (.inr (.inr hm))) (by omega) (show 3<=4 by decide)) λe w ⟨he,hs⟩=>⟨he,?_⟩;have e1:Dr [i,a,o] (BW o)=[i,a,o.drop 1]:=by
    show[Ao _ _,Ao a _,Ao o _]=_;rw[As λh=>(hnd.io _ h).2 hm,As λh=>hnd.oa _ h hm,BH hnd.na h0]
   rw[e1] at hs;exact ih (o.drop 1) w (by rw[List.length_drop];omega) (Cl hs)
  ·refine jw M4 ?_;exact hQ o w (by omega) (Cl hs)
theorem V4(hg:0<=gh/\gh<=1024)(hr:Ij c R i a o m)(hs:Ab W w (QT b c gh i a o m::M)):AZ PR 373 #[pq b 0] w (SmQ b c gh R W M):=by
 refine cw ⟨mixed,Tryz.func373,rfl⟩ Ani ?_;have h2:=hr.two;have loop:∀(f:Nat)(i a:BL)(m:CM)(w:World),i.length=f->R.Perm (i++a)->(∀k,0<=Cs m k/\Cs m k<=3)->(∀e∈m,e.1∈i++a)->Ab W w (QT b c gh i a o m::M) ->
   OC Be (SmQ b c gh R W M) (f+1) (some ⟨b,0,none⟩) w:=by
  have hgo:=hr.gh;clear hs hr;intro f
  induction f with
  | zero=>
   intro i a m w hf hp hc hsub hs;rw[M5];obtain⟨s,xb,sm,cb,hs⟩:=CF hs;refine Aa (Ah (x:=s) hs (Ah hs ?_));refine Ai hs λnb w hs=>?_;refine AM B0 (nr:=3) (K:=[i,a,o]) [0] (M:=cS b s xb c sm gh cb::ixr (Rec.int .i64) cb 0 m::M) (by exact Ab.fin hs) (by omega) rfl λw hs=>?_;have e2:(Bv [i,a,o] [0]:Int)=0:=by simp[Bv,hf]
   rw[e2];refine Ac rfl ?_;refine jw XF ?_;exact⟨_,false,i,a,o,m,rfl,(λh=>by cases h),λ_=>⟨hp,List.length_eq_zero_iff.1 hf⟩,hgo,hc,hsub,Cl (by exact Ab.fin hs)⟩
  | succ f ih=>
   intro i a m w hf hp hc hsub hs;rw[M5];have hpl:=hp.length_eq;rw[List.length_append] at hpl;obtain⟨hnd,hmn⟩:=Q6 hs;have h0:0<i.length:=by omega
   have hm:=C2 h0;have hz:=hnd.small _ (.inl hm);have hml:m.length<=1024:=by
    have h1:=E6 hmn (b:=i++a) λk hk=>by
     obtain⟨e,he,rfl⟩:=List.mem_map.1 hk;exact hsub e he
    rw[List.length_map,List.length_append] at h1;omega
   have hms:∀e∈m,e.1.size<4611686018427387904:=λe he=>by
    have:=hnd.small e.1 ((List.mem_append.1 (hsub e he)).elim .inl λh=>.inr (.inl h));omega
   have hdec:i=BW i::i.drop 1:=by
    cases i with
    | nil=>simp at h0
    | cons x t=>rfl
   obtain⟨s,xb,sm,cb,hs⟩:=CF hs;refine Aa (Ah (x:=s) hs (Ah hs ?_));refine Ai hs λnb w hs=>?_;refine AM B0 (nr:=3) (K:=[i,a,o]) [0] (M:=cS b s xb c sm gh cb::ixr (Rec.int .i64) cb 0 m::M) (by exact Ab.fin hs) (by omega) rfl λw hs=>?_;have e2:(Bv [i,a,o] [0]:Int)=i.length:=by simp[Bv]
   rw[e2];refine Ak (decide_eq_true (by omega)) ?_;have hs:Ab W w (cS b s xb c sm gh cb::rowsC s xb 5000 [i,a,o]::ixr (Rec.int .i64) cb 0 m::M):=by exact Ab.fin hs
   refine Aa (Ah (x:=s) hs (Ah hs ?_));refine Am (Bt B0 (K:=[i,a,o]) (j:=0) hs (lt3 (by decide)) (show 3<=4 by decide)) λe w ⟨he,hs⟩=>⟨_,he,?_⟩;refine Aa (Ah hs ?_);refine AG (OI hs (k:=BW i) (by omega)) λe w ⟨he,hs⟩=>⟨_,_,he,?_⟩;have hs:=Cl hs
   with_reducible refine Ay (λh1=>?_) (λh1=>?_)
   ·refine AY (KU (j:=1) (n:=0) (key:=BW i) (by decide) hz ⟨by omega,hgo⟩ ⟨by omega,hms⟩ hs) λv w ⟨hv,hs⟩=>⟨hv,?_⟩;have e1:Dd [i,a,o] 1 (BW i)=[i.drop 1,a++[BW i],o]:=by
     show[Ao i _,Ao a _++[_],Ao o _]=_;rw[As (hnd.io _ hm).1,BH hnd.ni h0,As (hnd.io _ hm).2]
    have hs:=hs _ _ _ e1;have hpi:(i++a).Perm (i.drop 1++(a++[BW i])):=by
     conv=>lhs;rw[hdec]
     exact Eo.symm
    refine ih _ _ _ w (by rw[List.length_drop];omega) (hp.trans hpi) (λk=>?_) (KK (λe he=>hpi.mem_iff.1 (hsub e he)) (by simp)) hs;rw[H0];split
    ·omega
    ·exact hc k
   ·refine AY (V5 (key:=BW i) hz (by omega) hs) λv w ⟨hv,hs⟩=>⟨hv,?_⟩;rw[BH hnd.ni h0,As (hnd.io _ hm).1,As (hnd.io _ hm).2] at hs;obtain⟨s,xb,sm,cb,hs⟩:=CF hs;refine Aa (Ah (x:=s) hs (Ah hs ?_));refine Ar (HL B0 (K:=[i.drop 1,a,o]) (j:=2) (key:=BW i) hs (by decide) hz (show o.length<5000 by omega) rfl) λe w ⟨he,hs⟩=>⟨he,?_⟩;have hni:BW i∉i.drop 1:=by
     have:=hnd.ni;rw[hdec] at this;exact(List.nodup_cons.1 this).1
    have e1:Dd [i.drop 1,a,o] 2 (BW i)=[i.drop 1,a,o++[BW i]]:=by
     show[Ao _ _,Ao a _,Ao o _++[_]]=_;rw[As hni,As (hnd.io _ hm).1,As (hnd.io _ hm).2]
    rw[e1] at hs;have hs:=Cl hs;refine AJ _ (Ahh hg (λo w ho hs=>?_) _ _ w rfl hs);refine⟨BW i,true,_,_,o,_,rfl,λ_=>?_,(λh=>by cases h),ho,λk=>?_,TL hsub λx hx hne=>?_,hs⟩
    ·refine hp.trans ?_
     conv=>lhs;rw[hdec]
     exact List.Perm.refl _
    ·rw[TJ];split
     ·omega
     ·exact hc k
    ·rw[hdec] at hx;exact(List.mem_cons.1 hx).resolve_left hne
 exact AJ _ (loop _ i a m w rfl (by rw[hr.eq]) hr.cnt (by rw[<- hr.eq];exact hr.sub) hs)
theorem YK(hs:Ab W w (Io b c R::M)):AZ PR 361 #[pq b 0] w λv w'=>∃x yes S,v = .tuple #[.s x,.b yes]/\Gi c R x yes S/\Ab W w' (Io b c S::M):=by
 refine cw ⟨mixed,Tryz.func361,rfl⟩ Am7 ?_;refine Ag (Q5 hs) λv w ⟨hv,hs⟩=>⟨_,hv,?_⟩;have hk:=Pd hs
 with_reducible refine Ay (λh0=>?_) (λh0=>?_)
 ·exact⟨_,_,_,rfl,Gi.none hk (by omega),hs⟩
 obtain⟨i,a,o,m,gh,h1,h2,hs⟩:=D7 hs;have h3:=h1.two;have main:∀(i a o:BL)(m:CM)(w:World),0<a.length->R.Perm (i++a)->o.length<=1024->(∀k,0<=Cs m k/\Cs m k<=3)->(∀e∈m,e.1∈i++a)->Ab W w (QT b c gh i a o m::M) ->
   call1 .str PR 374 [pq b 0] (λ(x:BA) w'=>∃y yes S,(Value.tuple #[.s x,.b true]) = .tuple #[.s y,.b yes]/\Gi c R y yes S/\Ab W w' (Io b c S::M)) w:=by
  clear hs;intro i a o m w ha hp ho hc hsub hs;have hpl:=hp.length_eq;rw[List.length_append] at hpl;refine Ag (YM ⟨by omega,ho⟩ ha hc hsub hs) λv w ⟨x,a',m',hv,hp2,hc2,hsub2,hs⟩=>⟨_,hv,?_⟩;have hev:Gi c R x true (i++a'):=Gi.of_perm hk (hp.trans ((List.Perm.append_left i hp2).trans List.perm_middle));exact⟨x,true,_,rfl,hev,CB ⟨rfl,hev.ok,ho,hc2,hsub2⟩ h2 hs⟩
 have j1:∀(w:World)(t:Bool),(t=false->0<a.length)->Ab W w (QT b c gh i a o m::M) ->
   UB Be (λv w'=>∃x yes S,v = .tuple #[.s x,.b yes]/\Gi c R x yes S/\Ab W w' (Io b c S::M)) (some ⟨b,0,none⟩) t w:=by
  clear hs;intro w t hf hs;refine jw XB ?_;cases t with
  | true=>
   refine Ak rfl ?_;refine AH (V4 h2 h1 hs) λv w ⟨x,t,i',a',o',m',hv,ht,hf,ho,hc,hsub,hs⟩=>⟨_,_,hv,?_⟩;cases t with
   | true=>
    have hev:=Gi.of_perm hk (ht rfl);exact Ak rfl ⟨x,true,_,rfl,hev,CB ⟨rfl,hev.ok,ho,hc,hsub⟩ h2 hs⟩
   | false=>
    obtain⟨hp,rfl⟩:=hf rfl;have hpl:=hp.length_eq;rw[List.nil_append] at hpl;exact Ac rfl (main [] a' o' m' w (by omega) hp ho hc hsub hs)
  | false=>exact Ac rfl (main i a o m w (hf rfl) (by rw[h1.eq]) h1.gh h1.cnt (by rw[<- h1.eq];exact h1.sub) hs)
 obtain⟨s,xb,sm,cb,hs⟩:=CF hs;refine Al [cS b s xb c sm gh cb] hs λw hs=>?_;refine Aa (Aq (x:=s) (Aq (Aa (Aq ?_))));refine Ai hs λnb w hs=>Af hs ?_;refine AM B0 (nr:=3) (K:=[i,a,o]) [0] (M:=cS b s xb c sm gh cb::ixr (Rec.int .i64) cb 0 m::M) (by exact Ab.fin hs) (by omega) rfl λw hs=>?_;refine Af hs ?_;have hs:Ab W w (cS b s xb c sm gh cb::rowsC s xb 5000 [i,a,o]::ixr (Rec.int .i64) cb 0 m::M):=by exact Ab.fin hs
 refine Ap (λ_=>?_) (λ_=>?_)
 ·exact Af hs (j1 w true (λh=>by cases h) (Cl hs))
 ·refine Aa (Aq (x:=s) (Aq ?_));refine Ai hs λnb w hs=>Af hs ?_;refine AM B0 (nr:=3) (K:=[i,a,o]) [1] (M:=cS b s xb c sm gh cb::ixr (Rec.int .i64) cb 0 m::M) (by exact Ab.fin hs) (by omega) rfl λw hs=>?_;have e2:(Bv [i,a,o] [1]:Int)=a.length:=by simp[Bv]
  rw[e2];refine j1 w _ (λh=>?_) (Cl (by exact Ab.fin hs));have:¬(a.length:Int)=0:=by simpa using h
  omega
theorem YL{S:BL}{g:BL}{l:Sl}(hR:Dl c R)(hno:key∉R)(hz:key.size<64)(hrec:Lh c R g S)(hs:Ab W w (Io b c S::recs Rec.str l g::M)) :
  Adc Be (λv w'=>∃(hit:Bool) (l:Sl) (g S:BL),v = .tuple #[.b hit,.l l.a l.n l.c]/\Ey c R key hit g S/\Ab W w' (Io b c S::recs Rec.str l g::M)) (some ⟨b,0,none⟩) key l w:=by
 refine jw XA ?_;obtain⟨i,a,o,m,gh,h1,h2,hs⟩:=D7 hs;have h3:=h1.two;obtain⟨hnd,hmn⟩:=Q6 hs;have hml:=h1.mlen hmn;have hnS:=hrec.not hno;have hni:key∉i:=λh=>hnS (by rw[h1.eq];exact List.mem_append_left _ h)
 have hna:key∉a:=λh=>hnS (by rw[h1.eq];exact List.mem_append_right _ h);obtain⟨s,xb,sm,cb,hs⟩:=CF hs;refine Aa (Ah (x:=s) hs (Ah hs ?_));refine Am (DF B0 (K:=[i,a,o]) hs hz) λe w ⟨he,hs⟩=>⟨_,he,?_⟩;have hs:=Cl hs;have fin:∀(j:Nat)(w:World)(i' a' o':BL),j<2->Dd [i,a,o] j key=[i',a',o']->(i'++a').Perm (key::S)->o'.length<=1024->Ab W w (QT b c gh i a o m::recs Rec.str l g::M) ->
   VP PR 371 [pq b 0,.i (j:Int),.s key,.i 0] (λw'=>∃(hit:Bool) (l2:Sl) (g2 S2:BL),(Value.tuple #[.b false,.l l.a l.n l.c]) = .tuple #[.b hit,.l l2.a l2.n l2.c]/\Ey c R key hit g2 S2/\Ab W w' (Io b c S2::recs Rec.str l2 g2::M)) w:=by
  clear hs;intro j w i' a' o' hj e1 hp ho hs;refine AY (KU (n:=0) hj hz ⟨by omega,h1.gh⟩ ⟨by omega,h1.msm⟩ hs) λv w ⟨hv,hs⟩=>⟨hv,?_⟩;have hs:=hs _ _ _ e1;have ha:=Ey.miss hR hno hz hrec hp;refine⟨false,l,g,_,rfl,ha,CB ⟨rfl,ha.ok,ho,λk=>?_,KK (λe he=>hp.mem_iff.2 (.tail _ (h1.sub e he))) (hp.mem_iff.2 (.head _))⟩ h2 hs⟩;rw[H0];split
  ·omega
  ·exact h1.cnt k
 have hgo:=Bj o key;have hgh:=h1.gh;refine Ap (λ_=>?_) (λ_=>?_)
 ·exact fin 1 w i (a++[key]) (Ao o key) (by decide) (by show[Ao i _,Ao a _++[_],_]=_;rw[As hni,As hna]) (by rw[h1.eq];exact Eo) (by omega) hs
 ·exact fin 0 w (i++[key]) a (Ao o key) (by decide) (by show[Ao i _++[_],Ao a _,_]=_;rw[As hni,As hna]) (by rw[h1.eq];exact Dk) (by omega) hs
theorem Ahf(hz:key.size<64)(hs:Ab W w (Io b c R::M)):AZ PR 360 #[pq b 0,.s key] w λv w'=>∃(hit:Bool) (l:Sl) (g S:BL),v = .tuple #[.b hit,.l l.a l.n l.c]/\Ey c R key hit g S/\Ab W w' (Io b c S::recs Rec.str l g::M):=by
 refine cw ⟨mixed,Tryz.func360,rfl⟩ Am6 ?_;have hk:=Pd hs;have hc1:=hk.c1;have hr:=hk.room
 refine Ac rfl ?_;refine Ag (V3 hz hs) λv w ⟨hv,hs⟩=>⟨_,hv,?_⟩
 with_reducible refine Ay (λh0=>?_) (λh0=>?_)
 ·obtain⟨i,a,o,m,gh,h1,h2,hs⟩:=D7 hs;have hml:=h1.mlen (Q6 hs).2;obtain⟨s,xb,sm,cb,hs⟩:=CF hs;refine Aa (Ah hs ?_);refine AG (OI hs (by omega)) λe w ⟨he,hs⟩=>⟨_,_,he,?_⟩;refine Al [cS b s xb c sm gh cb] hs λw hs=>?_;refine Aa (Aq ?_);have hc:=h1.cnt key;unfold Cs at hc;refine Am (Iw hs (b:=3) (by decide) (by omega)) λe w ⟨he,hs⟩=>⟨_,he,Af hs ?_⟩;refine Am (Vd hs (by omega) h1.msm (by omega)) λe w ⟨he,hs⟩=>⟨_,he,?_⟩;have ha:=Ey.same hk h0 (List.Perm.refl R);have hi:0<=EE ((AE m key).getD 0) 3/\EE ((AE m key).getD 0) 3<=3:=by unfold EE;split <;> omega
  refine⟨true,⟨none,0,0⟩,[],R,rfl,ha,(Ab.nilR Rec.str (CB ⟨h1.eq,h1.ok,h1.gh,λk=>?_,KK h1.sub h0⟩ h2 (Cl hs))).perm (List.Perm.swap _ _ _)⟩;rw[H0];split
  ·exact hi
  ·exact h1.cnt k
 have last:∀(w:World)(l:Sl)(g S:BL),Lh c R g S->(S.length:Int)<c->Ab W w (Io b c S::recs Rec.str l g::M) ->
   OB Be (λv w'=>∃(hit:Bool) (l:Sl) (g S:BL),v = .tuple #[.b hit,.l l.a l.n l.c]/\Ey c R key hit g S/\Ab W w' (Io b c S::recs Rec.str l g::M)) 1 (some ⟨b,0,none⟩) key l w:=by
  clear hs;intro w l g S hrec hl hs;rw[M3];refine Al [Io b c S] hs λw hs=>?_;refine Aa (FV (k:=.int .i64) c (λw' h=>TV h) ?_);refine Ag (Q5 hs) λv w ⟨hv,hs⟩=>⟨_,hv,Af hs ?_⟩;refine Ac (decide_eq_false (by omega)) ?_;exact YL hk h0 hz hrec hs
 refine AJ 2 ?_;rw[M3];have hs:=Ab.nilR Rec.str hs;have hs:Ab W w (Io b c R::recs Rec.str ⟨none,0,0⟩ []::M):=by exact Ab.fin hs
 refine Al [Io b c R] hs λw hs=>?_;refine Aa (FV (k:=.int .i64) c (λw' h=>TV h) ?_);refine Ag (Q5 hs) λv w ⟨hv,hs⟩=>⟨_,hv,Af hs ?_⟩
 with_reducible refine Ay (λh1=>?_) (λh1=>?_)
 ·refine AH (YK hs) λv w ⟨x,yes,S,hv,hev,hs⟩=>⟨_,_,hv,?_⟩;have hy:yes=true:=by rw[hev.says];exact decide_eq_true (by omega)
  subst hy;have hpl:=(hev.perm hk).length_eq;rw[List.length_cons] at hpl;refine Ai hs λnb w hs=>?_;refine CA (s:=⟨none,0,0⟩) (a:=x) hs rfl rfl rfl rfl (by decide) (by simp) λs2 w hs2 hs=>?_;exact last w s2 [x] S (.inr ⟨x,rfl,hev,by omega⟩) (by omega) (by exact Ab.fin hs)
 ·exact YL (l:=⟨none,0,0⟩) hk h0 hz (.inl ⟨rfl,rfl,by omega⟩) hs
theorem Axq(hz:key.size<64)(hs:Ab W w (Io b c R::M)):AZ PR 366 #[pq b 0,.s key] w λv w'=>∃(yes:Bool) (S:BL),v = .b yes/\Db c R key yes S/\Ab W w' (Io b c S::M):=by
 refine cw ⟨mixed,Tryz.func366,rfl⟩ Anb ?_;have hk:=Pd hs;have hr:=hk.room;refine Al [Io b c R] hs λw hs=>?_;refine Ac rfl ?_;refine Ag (V3 hz hs) λv w ⟨hv,hs⟩=>⟨_,hv,Af hs ?_⟩
 with_reducible refine Ay (λh1=>?_) (λh1=>?_)
 ·exact Af hs ⟨false,R,rfl,Db.no hk (λh=>h.1 h1),hs⟩
 refine Aa (FV (k:=.int .i64) c (λw' h=>TV h) ?_);refine Ag (Q5 hs) λv w ⟨hv,hs⟩=>⟨_,hv,Af hs ?_⟩
 with_reducible refine Ay (λh2=>?_) (λh2=>?_)
 ·exact⟨false,R,rfl,Db.no hk (λh=>by omega),hs⟩
 obtain⟨i,a,o,m,gh,h3,h4,hs⟩:=D7 hs;have h5:=h3.two;have hml:=h3.mlen (Q6 hs).2;refine AY (KU (j:=1) (n:=0) (by decide) hz ⟨by omega,h3.gh⟩ ⟨by omega,h3.msm⟩ hs) λv w ⟨hv,hs⟩=>⟨hv,?_⟩;have e1:Dd [i,a,o] 1 key=[i,a++[key],Ao o key]:=by
  show[Ao i _,Ao a _++[_],Ao o _]=_;rw[As (show key∉i from λh=>h1 (by rw[h3.eq];exact List.mem_append_left _ h)),As (show key∉a from λh=>h1 (by rw[h3.eq];exact List.mem_append_right _ h))]
 have hs:=hs _ _ _ e1;have hp:(i++(a++[key])).Perm (key::R):=by rw[h3.eq];exact Eo
 have hl:=Db.yes hk hz h1 (by omega) hp;have hgo:=Bj o key;have hgh:=h3.gh;refine⟨true,_,rfl,hl,CB ⟨rfl,hl.ok,by omega,λk=>?_,KK (λe he=>hp.mem_iff.2 (.tail _ (h3.sub e he))) (hp.mem_iff.2 (.head _))⟩ h4 hs⟩;rw[H0];split
 ·omega
 ·exact h3.cnt k
theorem Ahg(hz:key.size<64)(hs:Ab W w (Io b c R::M)):AZ PR 367 #[pq b 0,.s key] w λv w'=>∃(yes:Bool) (S:BL),v = .b yes/\Fz c R key yes S/\Ab W w' (Io b c S::M):=by
 refine cw ⟨mixed,Tryz.func367,rfl⟩ Anc ?_;have hk:=Pd hs;refine Ag (V3 hz hs) λv w ⟨hv,hs⟩=>⟨_,hv,?_⟩
 by_cases h1:key∈R
 ·refine Ac (by rw[decide_eq_true h1];rfl) ?_;obtain⟨i,a,o,m,gh,h3,h4,hs⟩:=D7 hs;have hml:=h3.mlen (Q6 hs).2;refine AY (V5 hz (by omega) hs) λv w ⟨hv,hs⟩=>⟨hv,?_⟩;have hgo:=Bj o key;have hgh:=h3.gh;have heq:=h3.eq;have hsub:=h3.sub;rw[heq] at hk h1 hsub;have hr:=Fz.cut2 hk h1;rw[<- heq] at hr;refine⟨true,_,rfl,hr,CB ⟨rfl,hr.ok,by omega,λk=>?_,TL hsub λx hx hne=>?_⟩ h4 hs⟩
  ·rw[TJ];split
   ·omega
   ·exact h3.cnt k
  ·rw[hr.mem,heq];exact⟨hx,hne⟩
 ·refine Ak (by rw[decide_eq_false h1];rfl) ⟨false,R,rfl,Fz.no hk h1,hs⟩
end
end Go.Proofs.YtjipofkjmmpjdaaGreat
namespace Go.Hb
open Go.Proofs.YtjipofkjmmpjdaaGreat
def eg(t b:Nat)(c:Int)(R:BL):HP:=if t=223 then Ke b c R else if t=225 then Pb b c R else if t=227 then JT b c R else if t=229 then LG b c R else ED (t=231) (Io b c R)
section
variable{W w:World}{M L:List HP}{t b:Nat}{c:Int}{R:BL}{key:BA}
theorem Ez(h:Ab W w (eg t b c R::M)){C:Prop}(h0:t=223->Ab W w (Ke b c R::M)->C)(h1:t=225->Ab W w (Pb b c R::M)->C)(h2:t=227->Ab W w (JT b c R::M)->C)(h3:t=229->Ab W w (LG b c R::M)->C)(h4:t=231->Ab W w (Io b c R::M)->C):C:=by
 unfold eg at h
 by_cases e0:t=223
 ·simp only[e0] at h;exact h0 e0 h
 rw[if_neg e0] at h
 by_cases e1:t=225
 ·simp only[e1] at h;exact h1 e1 h
 rw[if_neg e1] at h
 by_cases e2:t=227
 ·simp only[e2] at h;exact h2 e2 h
 rw[if_neg e2] at h
 by_cases e3:t=229
 ·simp only[e3] at h;exact h3 e3 h
 rw[if_neg e3] at h;obtain⟨e,h⟩:=h.openA;exact h4 e h
theorem H3(h:Ab W w (Ke b c R::M)):Ab W w (eg 223 b c R::M):=h
theorem H4(h:Ab W w (Pb b c R::M)):Ab W w (eg 225 b c R::M):=h
theorem H5(h:Ab W w (JT b c R::M)):Ab W w (eg 227 b c R::M):=h
theorem H6(h:Ab W w (LG b c R::M)):Ab W w (eg 229 b c R::M):=h
theorem H7(h:Ab W w (Io b c R::M)):Ab W w (eg 231 b c R::M):=Ab.shutA (c:=(231:Nat)=231) rfl h
theorem Aiv(h:Ab W w (eg t b c R::M)):Dl c R:=Ez h (λ_ h=>TO h) (λ_ h=>Azm h) (λ_ h=>Pa h) (λ_ h=>TW h) (λ_ h=>Pd h)
end
end Go.Hb
namespace Go.Proofs.YtjipofkjmmpjdaaGreat
open Go.Hb Go.IntWalk
theorem Bp{t:TypeId}{v rc:Value}{name:String}{f:FuncId}{fn:Func}{C:FuncId->VW}{w:World}(ho:Ji PR f fn)(hm:(method (PR.types.size+Made.depth) t v name).run PR w = .ok (f,rc) w)(hb:fn.body.isSome=true)(hg:L3 fn.name=true)(hC:C f rc w):EF PR t v name C w:=⟨f,rc,fn,hm,ho.func,hb,hg,hC⟩
section
variable{W w:World}{M L:List HP}{t b:Nat}{c:Int}{R:BL}{key:BA}{C:FuncId->VW}
theorem Aq1 (hs : Ab W w (eg t b c R :: M)) (hC : ∀ f, AZ PR f #[.p (some ⟨b, 0, none⟩)] w (fun v w' => v = .i c ∧ Ab W w' (eg t b c R :: M)) → C f (.p (some ⟨b, 0, none⟩)) w) : EF PR t (.p (some ⟨b, 0, none⟩)) "Room" C w := by
 refine Ez hs ?_ ?_ ?_ ?_ ?_ <;> (rintro rfl hs)
 ·exact Bp ⟨mixed,Tryz.func254,rfl⟩ (by kernel_rfl) rfl rfl (hC _ ((Aqr hs).mono λv w h=>⟨h.1,H3 h.2⟩))
 ·exact Bp ⟨mixed,Tryz.func279,rfl⟩ (by kernel_rfl) rfl rfl (hC _ ((Aw5 hs).mono λv w h=>⟨h.1,H4 h.2⟩))
 ·exact Bp ⟨mixed,Tryz.func308,rfl⟩ (by kernel_rfl) rfl rfl (hC _ ((Ax7 hs).mono λv w h=>⟨h.1,H5 h.2⟩))
 ·exact Bp ⟨mixed,Tryz.func331,rfl⟩ (by kernel_rfl) rfl rfl (hC _ ((Ayc hs).mono λv w h=>⟨h.1,H6 h.2⟩))
 ·exact Bp ⟨mixed,Tryz.func368,rfl⟩ (by kernel_rfl) rfl rfl (hC _ ((Axr hs).mono λv w h=>⟨h.1,H7 h.2⟩))
theorem Z1 (hs : Ab W w (eg t b c R :: M)) (hC : ∀ f, AZ PR f #[.p (some ⟨b, 0, none⟩)] w (fun v w' => v = .i (R.length : Int) ∧ Ab W w' (eg t b c R :: M)) → C f (.p (some ⟨b, 0, none⟩)) w) : EF PR t (.p (some ⟨b, 0, none⟩)) "Len" C w := by
 refine Ez hs ?_ ?_ ?_ ?_ ?_ <;> (rintro rfl hs)
 ·exact Bp ⟨mixed,Tryz.func251,rfl⟩ (by kernel_rfl) rfl rfl (hC _ ((Zr hs).mono λv w h=>⟨h.1,H3 h.2⟩))
 ·exact Bp ⟨mixed,Tryz.func276,rfl⟩ (by kernel_rfl) rfl rfl (hC _ ((A1s hs).mono λv w h=>⟨h.1,H4 h.2⟩))
 ·exact Bp ⟨mixed,Tryz.func305,rfl⟩ (by kernel_rfl) rfl rfl (hC _ ((VD hs).mono λv w h=>⟨h.1,H5 h.2⟩))
 ·exact Bp ⟨mixed,Tryz.func328,rfl⟩ (by kernel_rfl) rfl rfl (hC _ ((Aby hs).mono λv w h=>⟨h.1,H6 h.2⟩))
 ·exact Bp ⟨mixed,Tryz.func365,rfl⟩ (by kernel_rfl) rfl rfl (hC _ ((Q5 hs).mono λv w h=>⟨h.1,H7 h.2⟩))
theorem TP (hz : key.size < 64) (hs : Ab W w (eg t b c R :: M)) (hC : ∀ f, AZ PR f #[.p (some ⟨b, 0, none⟩), .s key] w (fun v w' => v = .b (decide (key ∈ R)) ∧ Ab W w' (eg t b c R :: M)) → C f (.p (some ⟨b, 0, none⟩)) w) : EF PR t (.p (some ⟨b, 0, none⟩)) "Has" C w := by
 refine Ez hs ?_ ?_ ?_ ?_ ?_ <;> (rintro rfl hs)
 ·exact Bp ⟨mixed,Tryz.func249,rfl⟩ (by kernel_rfl) rfl rfl (hC _ ((Zq hz hs).mono λv w h=>⟨h.1,H3 h.2⟩))
 ·exact Bp ⟨mixed,Tryz.func274,rfl⟩ (by kernel_rfl) rfl rfl (hC _ ((A1r hz hs).mono λv w h=>⟨h.1,H4 h.2⟩))
 ·exact Bp ⟨mixed,Tryz.func303,rfl⟩ (by kernel_rfl) rfl rfl (hC _ ((Abw hz hs).mono λv w h=>⟨h.1,H5 h.2⟩))
 ·exact Bp ⟨mixed,Tryz.func326,rfl⟩ (by kernel_rfl) rfl rfl (hC _ ((Abx hz hs).mono λv w h=>⟨h.1,H6 h.2⟩))
 ·exact Bp ⟨mixed,Tryz.func363,rfl⟩ (by kernel_rfl) rfl rfl (hC _ ((V3 hz hs).mono λv w h=>⟨h.1,H7 h.2⟩))
theorem Ab9 (hs : Ab W w (eg t b c R :: M)) (hC : ∀ f, AZ PR f #[.p (some ⟨b, 0, none⟩)] w (fun v w' => ∃ (l : Sl) (ks : BL), v = .l l.a l.n l.c ∧ ks.Perm R ∧ Ab W w' (eg t b c R :: recs Rec.str l ks :: M)) → C f (.p (some ⟨b, 0, none⟩)) w) : EF PR t (.p (some ⟨b, 0, none⟩)) "Keys" C w := by
 refine Ez hs ?_ ?_ ?_ ?_ ?_ <;> (rintro rfl hs)
 ·exact Bp ⟨mixed,Tryz.func250,rfl⟩ (by kernel_rfl) rfl rfl (hC _ ((Aqp hs).mono λv w h=>let ⟨l,ks,h1,h2,h3⟩:=h;⟨l,ks,h1,h2,H3 h3⟩))
 ·exact Bp ⟨mixed,Tryz.func275,rfl⟩ (by kernel_rfl) rfl rfl (hC _ ((Aw3 hs).mono λv w h=>let ⟨l,ks,h1,h2,h3⟩:=h;⟨l,ks,h1,h2,H4 h3⟩))
 ·exact Bp ⟨mixed,Tryz.func304,rfl⟩ (by kernel_rfl) rfl rfl (hC _ ((Ax5 hs).mono λv w h=>let ⟨l,ks,h1,h2,h3⟩:=h;⟨l,ks,h1,h2,H5 h3⟩))
 ·exact Bp ⟨mixed,Tryz.func327,rfl⟩ (by kernel_rfl) rfl rfl (hC _ ((Aya hs).mono λv w h=>let ⟨l,ks,h1,h2,h3⟩:=h;⟨l,ks,h1,h2,H6 h3⟩))
 ·exact Bp ⟨mixed,Tryz.func364,rfl⟩ (by kernel_rfl) rfl rfl (hC _ ((Axp hs).mono λv w h=>let ⟨l,ks,h1,h2,h3⟩:=h;⟨l,ks,h1,h2,H7 h3⟩))
theorem VY (hs : Ab W w (eg t b c R :: M)) (hC : ∀ f, AZ PR f #[.p (some ⟨b, 0, none⟩)] w (fun v w' => ∃ x yes S, v = .tuple #[.s x, .bool yes] ∧ Gi c R x yes S ∧ Ab W w' (eg t b c S :: M)) → C f (.p (some ⟨b, 0, none⟩)) w) : EF PR t (.p (some ⟨b, 0, none⟩)) "Evict" C w := by
 refine Ez hs ?_ ?_ ?_ ?_ ?_ <;> (rintro rfl hs)
 ·exact Bp ⟨mixed,Tryz.func247,rfl⟩ (by kernel_rfl) rfl rfl (hC _ ((Aid hs).mono λv w h=>let ⟨x,y,S,h1,h2,h3⟩:=h;⟨x,y,S,h1,h2,H3 h3⟩))
 ·exact Bp ⟨mixed,Tryz.func272,rfl⟩ (by kernel_rfl) rfl rfl (hC _ ((Aov hs).mono λv w h=>let ⟨x,y,S,h1,h2,h3⟩:=h;⟨x,y,S,h1,h2,H4 h3⟩))
 ·exact Bp ⟨mixed,Tryz.func301,rfl⟩ (by kernel_rfl) rfl rfl (hC _ ((Zb hs).mono λv w h=>let ⟨x,y,S,h1,h2,h3⟩:=h;⟨x,y,S,h1,h2,H5 h3⟩))
 ·exact Bp ⟨mixed,Tryz.func324,rfl⟩ (by kernel_rfl) rfl rfl (hC _ ((Aqe hs).mono λv w h=>let ⟨x,y,S,h1,h2,h3⟩:=h;⟨x,y,S,h1,h2,H6 h3⟩))
 ·exact Bp ⟨mixed,Tryz.func361,rfl⟩ (by kernel_rfl) rfl rfl (hC _ ((YK hs).mono λv w h=>let ⟨x,y,S,h1,h2,h3⟩:=h;⟨x,y,S,h1,h2,H7 h3⟩))
theorem GW (hz : key.size < 64) (hs : Ab W w (eg t b c R :: M)) (hC : ∀ f, AZ PR f #[.p (some ⟨b, 0, none⟩), .s key] w (fun v w' => ∃ (hit : Bool) (l : Sl) (g S : BL), v = .tuple #[.b hit, .l l.a l.n l.c] ∧ Ey c R key hit g S ∧ Ab W w' (eg t b c S :: recs Rec.str l g :: M)) → C f (.p (some ⟨b, 0, none⟩)) w) : EF PR t (.p (some ⟨b, 0, none⟩)) "Access" C w := by
 refine Ez hs ?_ ?_ ?_ ?_ ?_ <;> (rintro rfl hs)
 ·exact Bp ⟨mixed,Tryz.func246,rfl⟩ (by kernel_rfl) rfl rfl (hC _ ((Aeu hz hs).mono λv w h=>let ⟨x,y,z,S,h1,h2,h3⟩:=h;⟨x,y,z,S,h1,h2,H3 h3⟩))
 ·exact Bp ⟨mixed,Tryz.func271,rfl⟩ (by kernel_rfl) rfl rfl (hC _ ((Agp hz hs).mono λv w h=>let ⟨x,y,z,S,h1,h2,h3⟩:=h;⟨x,y,z,S,h1,h2,H4 h3⟩))
 ·exact Bp ⟨mixed,Tryz.func300,rfl⟩ (by kernel_rfl) rfl rfl (hC _ ((Ahv hz hs).mono λv w h=>let ⟨x,y,z,S,h1,h2,h3⟩:=h;⟨x,y,z,S,h1,h2,H5 h3⟩))
 ·exact Bp ⟨mixed,Tryz.func323,rfl⟩ (by kernel_rfl) rfl rfl (hC _ ((Ahy hz hs).mono λv w h=>let ⟨x,y,z,S,h1,h2,h3⟩:=h;⟨x,y,z,S,h1,h2,H6 h3⟩))
 ·exact Bp ⟨mixed,Tryz.func360,rfl⟩ (by kernel_rfl) rfl rfl (hC _ ((Ahf hz hs).mono λv w h=>let ⟨x,y,z,S,h1,h2,h3⟩:=h;⟨x,y,z,S,h1,h2,H7 h3⟩))
theorem Aca (hz : key.size < 64) (hs : Ab W w (eg t b c R :: M)) (hC : ∀ f, AZ PR f #[.p (some ⟨b, 0, none⟩), .s key] w (fun v w' => ∃ (yes : Bool) (S : BL), v = .b yes ∧ Db c R key yes S ∧ Ab W w' (eg t b c S :: M)) → C f (.p (some ⟨b, 0, none⟩)) w) : EF PR t (.p (some ⟨b, 0, none⟩)) "Load" C w := by
 refine Ez hs ?_ ?_ ?_ ?_ ?_ <;> (rintro rfl hs)
 ·exact Bp ⟨mixed,Tryz.func252,rfl⟩ (by kernel_rfl) rfl rfl (hC _ ((Aqq hz hs).mono λv w h=>let ⟨y,S,h1,h2,h3⟩:=h;⟨y,S,h1,h2,H3 h3⟩))
 ·exact Bp ⟨mixed,Tryz.func277,rfl⟩ (by kernel_rfl) rfl rfl (hC _ ((Aw4 hz hs).mono λv w h=>let ⟨y,S,h1,h2,h3⟩:=h;⟨y,S,h1,h2,H4 h3⟩))
 ·exact Bp ⟨mixed,Tryz.func306,rfl⟩ (by kernel_rfl) rfl rfl (hC _ ((Ax6 hz hs).mono λv w h=>let ⟨y,S,h1,h2,h3⟩:=h;⟨y,S,h1,h2,H5 h3⟩))
 ·exact Bp ⟨mixed,Tryz.func329,rfl⟩ (by kernel_rfl) rfl rfl (hC _ ((Ayb hz hs).mono λv w h=>let ⟨y,S,h1,h2,h3⟩:=h;⟨y,S,h1,h2,H6 h3⟩))
 ·exact Bp ⟨mixed,Tryz.func366,rfl⟩ (by kernel_rfl) rfl rfl (hC _ ((Axq hz hs).mono λv w h=>let ⟨y,S,h1,h2,h3⟩:=h;⟨y,S,h1,h2,H7 h3⟩))
theorem IJ (hz : key.size < 64) (hs : Ab W w (eg t b c R :: M)) (hC : ∀ f, AZ PR f #[.p (some ⟨b, 0, none⟩), .s key] w (fun v w' => ∃ (yes : Bool) (S : BL), v = .b yes ∧ Fz c R key yes S ∧ Ab W w' (eg t b c S :: M)) → C f (.p (some ⟨b, 0, none⟩)) w) : EF PR t (.p (some ⟨b, 0, none⟩)) "Remove" C w := by
 refine Ez hs ?_ ?_ ?_ ?_ ?_ <;> (rintro rfl hs)
 ·exact Bp ⟨mixed,Tryz.func253,rfl⟩ (by kernel_rfl) rfl rfl (hC _ ((Aev hz hs).mono λv w h=>let ⟨y,S,h1,h2,h3⟩:=h;⟨y,S,h1,h2,H3 h3⟩))
 ·exact Bp ⟨mixed,Tryz.func278,rfl⟩ (by kernel_rfl) rfl rfl (hC _ ((Agq hz hs).mono λv w h=>let ⟨y,S,h1,h2,h3⟩:=h;⟨y,S,h1,h2,H4 h3⟩))
 ·exact Bp ⟨mixed,Tryz.func307,rfl⟩ (by kernel_rfl) rfl rfl (hC _ ((Ahw hz hs).mono λv w h=>let ⟨y,S,h1,h2,h3⟩:=h;⟨y,S,h1,h2,H5 h3⟩))
 ·exact Bp ⟨mixed,Tryz.func330,rfl⟩ (by kernel_rfl) rfl rfl (hC _ ((Ahz hz hs).mono λv w h=>let ⟨y,S,h1,h2,h3⟩:=h;⟨y,S,h1,h2,H6 h3⟩))
 ·exact Bp ⟨mixed,Tryz.func367,rfl⟩ (by kernel_rfl) rfl rfl (hC _ ((Ahg hz hs).mono λv w h=>let ⟨y,S,h1,h2,h3⟩:=h;⟨y,S,h1,h2,H7 h3⟩))
theorem Yq{k j:Int}(e:(k==j)=true)(h:0<=j/\j<5):0<=k/\k<5:=by rw[beq_iff_eq.1 e];exact h
theorem TQ(hs:Ab W w L){k r:Int}{N:Int->WP}{K:TypeId->Value->Int->WP}(hN:(k<0\/5<=k)->∀w,Ab W w L->N 4 w)(hK:0<=k->k<5->∀(t b:Nat)(w:World),Ab W w (eg t b (AT r) []::L)->K t (pq b 0) 0 w):OX (.int .i64) PR 113 [.i k,.i r] N K w:=by
 refine(cw ⟨mixed,Tryz.func113,rfl⟩ Ai5 (Q:=λv w'=>(v = .tuple #[.nilIface,.i 4]/\(k<0\/5<=k)/\Ab W w' L)\/∃t b:Nat,v = .tuple #[.iface t (pq b 0),.i 0]/\(0<=k/\k<5)/\Ab W w' (eg t b (AT r) []::L)) ?_).mono λe w' ⟨v,he,h⟩=>?_
 ·skip;refine Ap (λe=>?_) λe0=>?_
  ·exact Ag (Azc hs) λv w ⟨b,hv,hs⟩=>⟨_,hv,.inr ⟨_,b,rfl,Yq e (by decide),H3 hs⟩⟩
  refine Ap (λe=>?_) λe1=>?_
  ·exact Ag (A1t hs) λv w ⟨b,hv,hs⟩=>⟨_,hv,.inr ⟨_,b,rfl,Yq e (by decide),H4 hs⟩⟩
  refine Ap (λe=>?_) λe2=>?_
  ·exact Ag (A2p hs) λv w ⟨b,hv,hs⟩=>⟨_,hv,.inr ⟨_,b,rfl,Yq e (by decide),H5 hs⟩⟩
  refine Ap (λe=>?_) λe3=>?_
  ·exact Ag (A2q hs) λv w ⟨b,hv,hs⟩=>⟨_,hv,.inr ⟨_,b,rfl,Yq e (by decide),H6 hs⟩⟩
  refine Ap (λe=>?_) λe4=>?_
  ·exact Ag (A2b hs) λv w ⟨b,hv,hs⟩=>⟨_,hv,.inr ⟨_,b,rfl,Yq e (by decide),H7 hs⟩⟩
  simp only[beq_eq_false_iff_ne] at e0 e1 e2 e3 e4;exact .inl ⟨rfl,by omega,hs⟩
 ·rcases h with⟨rfl,h1,hs⟩|⟨t,b,rfl,h1,hs⟩
  ·exact .inl ⟨_,he,hN h1 _ hs⟩
  ·exact .inr ⟨_,_,_,he,hK h1.1 h1.2 _ _ _ hs⟩
end
end Go.Proofs.YtjipofkjmmpjdaaGreat
namespace Go.Hb
open Go.Proofs.YtjipofkjmmpjdaaGreat
section
variable{W w:World}{L:List HP}{F:HP->List HP}{b o:Nat}{cs:List Value}
theorem EK{t:TypeId}{v:Value}{N:WP}{K:TypeId->VW}(h:Ab W w L)[hA:At L b (Hb.blk b cs) F](hK:K t v w)(hc:cs[o]? = some (.iface t v):=by exact rfl):MY b o N K w:=
 At.one (hA:=hA) h λ_ h _=>by unfold MY;rw[(h.cell (q:=0) rfl).trans hc];exact hK
theorem A3m{N:WP}{K:TypeId->VW}(h:Ab W w L)[hA:At L b (Hb.blk b cs) F](hN:N w)(hc:cs[o]? = some .nilIface:=by exact rfl):MY b o N K w:=
 At.one (hA:=hA) h λ_ h _=>by unfold MY;rw[(h.cell (q:=0) rfl).trans hc];exact hN
theorem PZ{t:TypeId}{v:Value}{N:WP}{K:TypeId->VW}[hA:At L b (Hb.blk b cs) F](hK:K t v w)(hc:cs[o]? = some (.iface t v):=by exact rfl):Aoo (λw'=>Ab W w' L) b o N K w:=
 .inr ⟨t,v,λw' h=>At.one (hA:=hA) h λ_ h _=>(h.cell (q:=0) rfl).trans hc,hK⟩
end
abbrev m0(b:Nat)(k c:Int)(t e:Nat):HP:=blk b [.i k,.i c,.iface t (pq e 0),.nilIface]
abbrev m1(b:Nat)(k c:Int)(t e u q:Nat):HP:=blk b [.i k,.i c,.iface t (pq e 0),.iface u (pq q 0)]
def mvG(b:Nat)(k r c:Int)(R:BL):Option Nat->HP
 | none=>JU λ(z:Nat×Nat)=>ED ((0<=k/\k<5)/\Dl c R) (AF [m0 b k r z.1 z.2,eg z.1 z.2 c R])
 | some n=>JU λ(z:(Nat×Nat×Nat×Nat)×BL×BL)=>ED ((0<=k/\k<5)/\Dl c R/\R=z.2.1++z.2.2/\z.2.2.length=n) (AF [m1 b k r z.1.1 z.1.2.1 z.1.2.2.1 z.1.2.2.2,eg z.1.1 z.1.2.1 c z.2.1,eg z.1.2.2.1 z.1.2.2.2 c z.2.2])
abbrev EC(b:Nat)(k c:Int)(R:BL)(o:Option Nat):HP:=mvG b k c c R o
def Jj:Option Nat->Option Nat->Prop
 | none,none=>True
 | some n,some m=>n<=m
 | _,_=>False
abbrev Ev:=Int×BA
def Fg:Rec Ev:=⟨2,λe=>[.i e.1,.s e.2],λ_=>rfl⟩
instance:GG Fg:=⟨by decide⟩
section
variable{W w:World}{M L:List HP}{b t e u q n:Nat}{c k r:Int}{R A B S:BL}{key:BA}{o:Option Nat}
theorem Jj.refl:Jj o o:=by cases o <;> simp[Jj]
theorem CD(h:Ab W w (mvG b k r c R o::M)){C:Prop}(h0:∀t e,(0<=k/\k<5)->Dl c R->o=none->Ab W w (m0 b k r t e::eg t e c R::M)->C)
  (h1:∀t e u q A B,(0<=k/\k<5)->Dl c R->R=A++B->o=some B.length->Ab W w (m1 b k r t e u q::eg t e c A::eg u q c B::M)->C):C:=by
 cases o with
 | none=>
  obtain⟨⟨t,e⟩,h⟩:=h.openE;obtain⟨hp,h⟩:=h.openA;exact h0 t e hp.1 hp.2 rfl h.openL
 | some n=>
  obtain⟨⟨⟨t,e,u,q⟩,A,B⟩,h⟩:=h.openE;obtain⟨hp,h⟩:=h.openA;exact h1 t e u q A B hp.1 hp.2.1 hp.2.2.1 (by rw[hp.2.2.2]) h.openL
theorem CU(hk5:0<=k/\k<5)(hk:Dl c R)(h:Ab W w (m0 b k r t e::eg t e c R::M)):Ab W w (mvG b k r c R none::M):=Ab.shutE (t,e) (Ab.shutA ⟨hk5,hk⟩ (Ab.shutL (Ps:=[_,_]) h))
theorem DE(hk5:0<=k/\k<5)(hk:Dl c R)(hR:R=A++B)(hn:B.length=n)(h:Ab W w (m1 b k r t e u q::eg t e c A::eg u q c B::M)):Ab W w (mvG b k r c R (some n)::M):=
 Ab.shutE ((t,e,u,q),A,B) (Ab.shutA ⟨hk5,hk,hR,hn⟩ (Ab.shutL (Ps:=[_,_,_]) h))
theorem ML(h:Ab W w (mvG b k r c R o::M)):Dl c R:=CD h (λ_ _ _ hk _ _=>hk) (λ_ _ _ _ _ _ _ hk _ _ _=>hk)
theorem Ayw(h:Ab W w (mvG b k r c R o::M)):0<=k/\k<5:=CD h (λ_ _ h _ _ _=>h) (λ_ _ _ _ _ _ h _ _ _ _=>h)
theorem Axe(h:Ab W w (mvG b k r c R o::M)){n:Nat}(ho:o=some n):n<=R.length:=CD h (λ_ _ _ _ h2 _=>by rw[h2] at ho;cases ho) (λ_ _ _ _ A B _ _ hR h2 _=>by rw[h2] at ho;cases ho;rw[hR];simp)
theorem Dl.same(h:Dl c R)(hn:S.Nodup)(hm:∀x,x∈S↔x∈R):Dl c S:=h.perm (CE hn h.nd hm)
theorem Apv(h:Dl c R)(hn:S.Nodup)(hm:∀x,x∈S↔x∈R):S.length=R.length:=(CE hn h.nd hm).length_eq
def Zh(c:Int)(R:BL)(e:Ev)(K:BL):Prop:=Dl c K/\∀x,x∈K↔(if e.1=2 then x∈R\/x=e.2 else if e.1=3 then x∈R/\x≠e.2 else x∈R)
structure Ay9(c:Int)(R:BL)(k:BA)(g S:BL):Prop where
 ok:Dl c S
 has:k∈R->g=[]/\∀x,x∈S↔x∈R
 sub:∀x∈g,x∈R
 nd:g.Nodup
 no:k∉g
 mem:∀x,x∈S↔(x∈R/\x∉g)\/x=k
 calm:(R.length:Int)<c->g=[]
theorem Apd{g:BL}(h:g.length<=1):g.Nodup:=by
 match g,h with
 | [],_=>simp
 | [x],_=>simp
theorem Vu(hA:A.Nodup)(hB:B.Nodup)(hd:∀x∈A,x∉B):(A++B).Nodup:=List.nodup_append.2 ⟨hA,hB,λa ha b hb e=>hd a ha (e ▸ hb)⟩
theorem Ey.ins{hit:Bool}{g:BL}{k:BA}(h:Ey c R k hit g S):Ay9 c R k g S:=
 ⟨h.ok,λhk=>by
  have hg:g=[]:=h.acc.calm (by rw[h.acc.hits];exact decide_eq_true hk);refine⟨hg,λx=>?_⟩;rw[h.acc.mem,hg];constructor
  ·rintro(h|rfl)
   ·exact h.1
   ·exact hk
  ·exact λh=>.inl ⟨h,by simp⟩,h.acc.sub,Apd h.acc.le1,h.acc.no,h.acc.mem,h.calm⟩
theorem A3r{A' B':BL}{y1 y2:Bool}(hk:Dl c (A++B))(hB:key∈B)(hr:Fz c B key y1 B')(hl:Db c A key y2 A'):(∀x,x∈A'++B'↔x∈A++B)/\Dl c (A'++B')/\key∈A'/\B'.length+1=B.length:=by
 have hnd:=List.nodup_append.1 hk.nd;have hdis:∀x∈A,x∉B:=λx h1 h2=>hnd.2.2 x h1 x h2 rfl;have hrm:=hk.room;have hpos:=List.length_pos_of_mem hB;have hkA:key∉A:=λh=>hdis _ h hB;have hy2:y2=true:=by rw[hl.says];exact decide_eq_true ⟨hkA,by simp only[List.length_append] at hrm;omega⟩
 have hmA:∀x,x∈A'↔x∈A\/x=key:=λx=>by rw[hl.mem,hy2];simp
 have hm:∀x,x∈A'++B'↔x∈A++B:=λx=>by
  rw[List.mem_append,hmA,hr.mem,List.mem_append];constructor
  ·rintro((h|h)|h)
   ·exact .inl h
   ·exact .inr (h ▸ hB)
   ·exact .inr h.1
  ·rintro(h|h)
   ·exact .inl (.inl h)
   ·by_cases hx:x=key
    ·exact .inl (.inr hx)
    ·exact .inr ⟨h,hx⟩
 have hd2:∀x∈A',x∉B':=λx h2 h3=>by
  rcases(hmA x).1 h2 with h4|h4
  ·exact hdis x h4 ((hr.mem x).1 h3).1
  ·exact((hr.mem x).1 h3).2 h4
 have hpl:=(JG hnd.2.1 hr.ok.nd hB hr.mem).length_eq;simp only[List.length_cons] at hpl;exact⟨hm,hk.same (Vu hl.ok.nd hr.ok.nd hd2) hm,(hmA key).2 (.inr rfl),by omega⟩
theorem Awq{A B g0 g A':BL}{hit:Bool}(hR:Dl c R)(hno:key∉R)(hA:A.Nodup)(hB:B.Nodup)(hd:∀x∈A,x∉B)(hsub:∀x∈g0,x∈R)(hmem:∀x,x∈A++B↔x∈R/\x∉g0)(hg1:g0.length<=1)
  (hcalm:(R.length:Int)<c->g0=[]) (hroom:(A.length:Int)+B.length<c\/(B=[]/\g0=[])) (ha:Ey c A key hit g A'):Ay9 c R key (g0++g) (A'++B):=by
 have hkA:key∉A:=λh=>hno ((hmem key).1 (List.mem_append_left _ h)).1;have hkB:key∉B:=λh=>hno ((hmem key).1 (List.mem_append_right _ h)).1;have hdA':∀x∈A',x∉B:=λx h1 h2=>by
  rcases(ha.acc.mem x).1 h1 with h3|h3
  ·exact hd x h3.1 h2
  ·exact hkB (h3 ▸ h2)
 have hnd:=Vu ha.ok.nd hB hdA';rcases hroom with hlt|⟨rfl,rfl⟩
 ·have hg:g=[]:=ha.calm (by omega);subst hg;have hlA:A'.length<=A.length+1:=by
   have hs:∀x∈A',x∈key::A:=λx hx=>by
    rcases(ha.acc.mem x).1 hx with h|h
    ·exact .tail _ h.1
    ·exact h ▸ .head _
   have:=E6 ha.ok.nd hs;simpa using this
  have hk2:Dl c (A'++B):=⟨hnd,λx hx=>by
   rcases List.mem_append.1 hx with h|h
   ·exact ha.ok.small x h
   ·exact hR.small x ((hmem x).1 (List.mem_append_right _ h)).1,by simp only[List.length_append];omega,hR.c1,hR.c2⟩
  rw[List.append_nil];refine⟨hk2,λh=>absurd h hno,hsub,Apd hg1,λh=>hno (hsub _ h),λx=>?_,hcalm⟩;rw[List.mem_append,ha.acc.mem];have:=hmem x;rw[List.mem_append] at this;constructor
  ·rintro((h|h)|h)
   ·exact .inl (this.1 (.inl h.1))
   ·exact .inr h
   ·exact .inl (this.1 (.inr h))
  ·rintro(h|h)
   ·rcases this.2 h with h|h
    ·exact .inl (.inl ⟨h,by simp⟩)
    ·exact .inr h
   ·exact .inl (.inr h)
 ·rw[List.append_nil,List.nil_append];have hm:∀x,x∈A↔x∈R:=λx=>by have:=hmem x;rw[List.append_nil] at this;rw[this];simp
  have hin:=ha.ins;have hl:A.length=R.length:=Apv hR hA hm;refine⟨ha.ok,λh=>absurd h hno,λx hx=>(hm x).1 (hin.sub x hx),hin.nd,hin.no,λx=>?_,λh=>ha.calm (by omega)⟩;rw[ha.acc.mem,hm]
theorem App(h:Dl c R):AT c=c:=by have:=h.c1;have:=h.c2;unfold AT;omega
theorem A2a(r:Int):AT (AT r)=AT r:=by unfold AT;omega
end
end Go.Hb
namespace Go.Proofs.YtjipofkjmmpjdaaGreat
open Go.Hb Go.IntWalk
section
variable{W w:World}{L M:List HP}{b t e u q:Nat}{k r c:Int}{R A B:BL}{key:BA}{o:Option Nat}
theorem A1w(hs:Ab W w L):AZ PR 76 #[.i k,.i r] w λv w'=>((0<=k/\k<5)/\∃b,v = .tuple #[pq b 0,.i 0]/\Ab W w' (EC b k (AT r) [] none::L))\/(¬(0<=k/\k<5)/\v = .tuple #[.p none,.i 4]/\Ab W w' L):=by
 refine cw ⟨mixed,Tryz.func76,rfl⟩ Avz ?_;have hr:=Eb r;refine TQ hs (λhk w hs=>?_) (λh1 h2 t b w hs=>?_)
 ·exact Ak rfl (.inr ⟨by omega,rfl,hs⟩)
 ·refine Ac rfl ?_;refine Aq1 hs λf hf=>?_;refine Ag hf λv w ⟨hv,hs⟩=>⟨_,hv,?_⟩;refine Ai hs λmb w hs=>?_;exact .inl ⟨⟨h1,h2⟩,mb,rfl,CU ⟨h1,h2⟩ (Dl.nil hr.1 hr.2) hs⟩
theorem Em(hs:Ab W w (m0 b k r t e::M)):AZ PR 42 #[pq b 0] w λv w'=>v = .b false/\Ab W w' (m0 b k r t e::M):=by
 refine cw ⟨mixed,Tryz.func42,rfl⟩ Adg ?_;exact Ak rfl (Aa (A3m hs ⟨rfl,hs⟩))
theorem DD(hs:Ab W w (m1 b k r t e u q::M)):AZ PR 42 #[pq b 0] w λv w'=>v = .b true/\Ab W w' (m1 b k r t e u q::M):=by
 refine cw ⟨mixed,Tryz.func42,rfl⟩ Adg ?_;exact Ak rfl (Aa (EK hs ⟨rfl,hs⟩))
theorem Agz(hs:Ab W w (EC b k c R o::M)):AZ PR 42 #[pq b 0] w λv w'=>v = .b o.isSome/\Ab W w' (EC b k c R o::M):=by
 have hO:=hs;clear hs;refine CD hO (λt e h5 hk ho hs=>?_) (λt e u q A B h5 hk hR ho hs=>?_) <;> try rw[ho]
 ·exact(Em hs).mono λv w ⟨hv,hs⟩=>⟨hv,CU h5 hk hs⟩
 ·exact(DD hs).mono λv w ⟨hv,hs⟩=>⟨hv,DE h5 hk hR rfl hs⟩
theorem Ad7(hs:Ab W w (EC b k c R o::M)):AZ PR 43 #[pq b 0] w λv w'=>v = .i k/\Ab W w' (EC b k c R o::M):=by
 refine cw ⟨mixed,Tryz.func43,rfl⟩ Au8 ?_;refine Ac rfl ?_;have hO:=hs;clear hs;refine CD hO (λt e h5 hk ho hs=>?_) (λt e u q A B h5 hk hR ho hs=>?_) <;> try rw[ho]
 ·exact Aa (Ah hs ⟨rfl,CU h5 hk hs⟩)
 ·exact Aa (Ah hs ⟨rfl,DE h5 hk hR rfl hs⟩)
theorem Axc(hs:Ab W w (EC b k c R o::M)):AZ PR 91 #[pq b 0] w λv w'=>v = .i c/\Ab W w' (EC b k c R o::M):=by
 refine cw ⟨mixed,Tryz.func91,rfl⟩ Awe ?_;refine Ac rfl ?_;have hO:=hs;clear hs;refine CD hO (λt e h5 hk ho hs=>?_) (λt e u q A B h5 hk hR ho hs=>?_) <;> try rw[ho]
 ·exact Aa (Ah hs ⟨rfl,CU h5 hk hs⟩)
 ·exact Aa (Ah hs ⟨rfl,DE h5 hk hR rfl hs⟩)
theorem Qn(hs:Ab W w (m0 b k r t e::M)):AZ PR 134 #[pq b 0] w λv w'=>v = .i 0/\Ab W w' (m0 b k r t e::M):=by
 refine cw ⟨mixed,Tryz.func134,rfl⟩ Wu ?_;exact Ag (Em hs) λv w ⟨hv,hs⟩=>⟨_,hv,Ak rfl ⟨rfl,hs⟩⟩
theorem Qo(hs:Ab W w (m1 b k r t e u q::eg t e c A::eg u q c B::M)):AZ PR 134 #[pq b 0] w λv w'=>v = .i (B.length:Int)/\Ab W w' (m1 b k r t e u q::eg t e c A::eg u q c B::M):=by
 refine cw ⟨mixed,Tryz.func134,rfl⟩ Wu ?_;refine Ag (DD hs) λv w ⟨hv,hs⟩=>⟨_,hv,Ac rfl (Aa (EK hs ?_))⟩;have hs:Ab W w (eg u q c B::m1 b k r t e u q::eg t e c A::M):=by exact Ab.fin hs
 exact Z1 hs λf hf=>Ag hf λv w ⟨hv,hs⟩=>⟨_,hv,rfl,by exact Ab.fin hs⟩
theorem Vt(hl:A.length<=5000)(hs:Ab W w (m0 b k r t e::eg t e c A::M)):AZ PR 133 #[pq b 0] w λv w'=>v = .i (A.length:Int)/\Ab W w' (m0 b k r t e::eg t e c A::M):=by
 refine cw ⟨mixed,Tryz.func133,rfl⟩ Wt ?_;refine Ac rfl ?_;refine Al [m0 b k r t e,eg t e c A] hs λw hs=>?_;refine Aa (PZ ?_);refine Ag (Qn hs) λv w ⟨hv,hs⟩=>⟨_,hv,Af hs ?_⟩;have hs:Ab W w (eg t e c A::m0 b k r t e::M):=by exact Ab.fin hs
 refine Z1 hs λf hf=>Ag hf λv w ⟨hv,hs⟩=>⟨_,hv,?_⟩;rw[Int.zero_add,i64_in _ (by omega)];exact⟨rfl,by exact Ab.fin hs⟩
theorem Axb(hl:A.length+B.length<=5000)(hs:Ab W w (m1 b k r t e u q::eg t e c A::eg u q c B::M)):AZ PR 133 #[pq b 0] w λv w'=>v = .i ((B.length:Int)+A.length)/\Ab W w' (m1 b k r t e u q::eg t e c A::eg u q c B::M):=by
 refine cw ⟨mixed,Tryz.func133,rfl⟩ Wt ?_;refine Ac rfl ?_;refine Al [m1 b k r t e u q,eg t e c A,eg u q c B] hs λw hs=>?_;refine Aa (PZ ?_);refine Ag (Qo hs) λv w ⟨hv,hs⟩=>⟨_,hv,Af hs ?_⟩;have hs:Ab W w (eg t e c A::m1 b k r t e u q::eg u q c B::M):=by exact Ab.fin hs
 refine Z1 hs λf hf=>Ag hf λv w ⟨hv,hs⟩=>⟨_,hv,?_⟩;rw[i64_in _ (by omega)];exact⟨rfl,by exact Ab.fin hs⟩
theorem Apc(hz:key.size<64)(hs:Ab W w (EC b k c R o::M)):AZ PR 131 #[pq b 0,.s key] w λv w'=>v = .b (decide (key∈R))/\Ab W w' (EC b k c R o::M):=by
 refine cw ⟨mixed,Tryz.func131,rfl⟩ Ajn ?_;refine Ak rfl ?_;have hO:=hs;clear hs;refine CD hO (λt e h5 hk ho hs=>?_) (λt e u q A B h5 hk hR ho hs=>?_) <;> try rw[ho]
 ·refine Aa (EK hs ?_);have hs:Ab W w (eg t e c R::m0 b k c t e::M):=by exact Ab.fin hs
  refine TP hz hs λf hf=>Ag hf λv w ⟨hv,hs⟩=>⟨_,hv,?_⟩;have hs:Ab W w (m0 b k c t e::eg t e c R::M):=by exact Ab.fin hs
  with_reducible refine Ay (λh1=>?_) (λh1=>?_)
  ·rw[decide_eq_true h1];exact⟨rfl,CU h5 hk hs⟩
  refine Ag (Em hs) λv w ⟨hv,hs⟩=>⟨_,hv,Ac rfl ?_⟩;rw[decide_eq_false h1];exact⟨rfl,CU h5 hk hs⟩
 ·refine Aa (EK hs ?_);have hs:Ab W w (eg t e c A::m1 b k c t e u q::eg u q c B::M):=by exact Ab.fin hs
  refine TP hz hs λf hf=>Ag hf λv w ⟨hv,hs⟩=>⟨_,hv,?_⟩;have hs:Ab W w (m1 b k c t e u q::eg t e c A::eg u q c B::M):=by exact Ab.fin hs
  with_reducible refine Ay (λh1=>?_) (λh1=>?_)
  ·rw[decide_eq_true (show key∈R by rw[hR];exact List.mem_append_left _ h1)];exact⟨rfl,DE h5 hk hR rfl hs⟩
  refine Ag (DD hs) λv w ⟨hv,hs⟩=>⟨_,hv,Ak rfl ?_⟩;refine Aa (EK hs ?_);have hs:Ab W w (eg u q c B::m1 b k c t e u q::eg t e c A::M):=by exact Ab.fin hs
  refine TP hz hs λf hf=>Ag hf λv w ⟨hv,hs⟩=>⟨_,hv,?_⟩;refine⟨?_,DE h5 hk hR rfl (by exact Ab.fin hs)⟩;rw[show decide (key∈B)=decide (key∈R) by rw[decide_eq_decide,hR,List.mem_append];exact⟨.inr,λh=>h.elim (λh=>absurd h h1) id⟩]
theorem Y7(hz:key.size<64)(hkB:key∈B)(hk:Dl c (A++B))(hs:Ab W w (m1 b k r t e u q::eg t e c A::eg u q c B::M)):AZ PR 137 #[pq b 0,.s key] w λv w'=>v = .tuple #[]/\∃A' B',(∀x,x∈A'++B'↔x∈A++B)/\Dl c (A'++B')/\key∈A'/\B'.length+1=B.length/\Ab W w' (m1 b k r t e u q::eg t e c A'::eg u q c B'::M):=by
 refine cw ⟨mixed,Tryz.func137,rfl⟩ Ajq ?_;refine Aa (EK hs ?_);have hs:Ab W w (eg u q c B::m1 b k r t e u q::eg t e c A::M):=by exact Ab.fin hs
 refine IJ hz hs λf hf=>Ag hf λv w ⟨y1,B',hv,hr,hs⟩=>⟨_,hv,?_⟩;refine Aa (EK hs ?_);have hs:Ab W w (eg t e c A::m1 b k r t e u q::eg u q c B'::M):=by exact Ab.fin hs
 refine Aca hz hs λf hf=>Ag hf λv w ⟨y2,A',hv,hl,hs⟩=>⟨_,hv,?_⟩;obtain⟨h1,h2,h3,h4⟩:=A3r hk hkB hr hl;exact⟨rfl,A',B',h1,h2,h3,h4,by exact Ab.fin hs⟩
theorem Ad8(hk:key∈R)(hz:key.size<64)(hs:Ab W w (EC b k c R o::M)):AZ PR 132 #[pq b 0,.s key] w λv w'=>∃(l:Sl) (S:BL) (o':Option Nat),v = .l l.a l.n l.c/\(∀x,x∈S↔x∈R)/\Jj o' o/\Ab W w' (EC b k c S o'::recs Rec.str l []::M):=by
 refine cw ⟨mixed,Tryz.func132,rfl⟩ Ajo ?_;have hO:=hs;clear hs;refine CD hO (λt e h5 hkR ho hs=>?_) (λt e u q A B h5 hkR hR ho hs=>?_) <;> try rw[ho]
 ·refine Ag (Em hs) λv w ⟨hv,hs⟩=>⟨_,hv,Ac rfl ?_⟩;refine jw LQ ?_;refine Aa (EK hs ?_);have hs:Ab W w (eg t e c R::m0 b k c t e::M):=by exact Ab.fin hs
  refine GW hz hs λf hf=>AH hf λv w ⟨hit,l,g,S,hv,ha,hs⟩=>⟨_,_,hv,?_⟩;obtain⟨hg,hm⟩:=ha.ins.has hk;subst hg;exact⟨l,S,none,rfl,hm,trivial,CU h5 ha.ok (by exact Ab.fin hs)⟩
 ·subst hR;have last:∀(w:World)(A' B':BL),key∈A'->B'.length<=B.length->Dl c (A'++B')->(∀x,x∈A'++B'↔x∈A++B)->Ab W w (m1 b k c t e u q::eg t e c A'::eg u q c B'::M) ->
    NB Be (λv w'=>∃(l:Sl) (S:BL) (o':Option Nat),v = .l l.a l.n l.c/\(∀x,x∈S↔x∈A++B)/\Jj o' (some B.length)/\Ab W w' (EC b k c S o'::recs Rec.str l []::M)) (some ⟨b,0,none⟩) key w:=by
   clear hs;intro w A' B' hkA hlB hk2 hm hs;refine jw LQ ?_;have hnd:=List.nodup_append.1 hk2.nd;refine Aa (EK hs ?_);have hs:Ab W w (eg t e c A'::m1 b k c t e u q::eg u q c B'::M):=by exact Ab.fin hs
   refine GW hz hs λf hf=>AH hf λv w ⟨hit,l,g,S,hv,ha,hs⟩=>⟨_,_,hv,?_⟩;obtain⟨hg,hmS⟩:=ha.ins.has hkA;subst hg;have hm2:∀x,x∈S++B'↔x∈A++B:=λx=>by rw[<- hm,List.mem_append,List.mem_append,hmS]
   have hk3:=hkR.same (Vu ha.ok.nd hnd.2.1 λx h h2=>hnd.2.2 x ((hmS x).1 h) x h2 rfl) hm2;exact⟨l,S++B',some B'.length,rfl,hm2,hlB,DE h5 hk3 rfl rfl (by exact Ab.fin hs)⟩
  refine Ag (DD hs) λv w ⟨hv,hs⟩=>⟨_,hv,Ak rfl ?_⟩;refine Aa (EK hs ?_);have hs:Ab W w (eg u q c B::m1 b k c t e u q::eg t e c A::M):=by exact Ab.fin hs
  refine TP hz hs λf hf=>Ag hf λv w ⟨hv,hs⟩=>⟨_,hv,?_⟩;have hs:Ab W w (m1 b k c t e u q::eg t e c A::eg u q c B::M):=by exact Ab.fin hs
  with_reducible refine Ay (λh1=>?_) (λh1=>?_)
  ·refine AY (Y7 hz h1 hkR hs) λv w ⟨hv,A',B',h2,h3,h4,h6,hs⟩=>⟨hv,?_⟩;exact last w A' B' h4 (by omega) h3 h2 hs
  ·exact last w A B (by rw[List.mem_append] at hk;exact hk.elim id λh=>absurd h h1) (Nat.le_refl _) hkR (λ_=>Iff.rfl) hs
abbrev Aes(W:World)(M:List HP)(b:Nat)(k c:Int)(R:BL)(key:BA)(o:Option Nat):VW:=λv w'=>∃(l:Sl) (g S:BL) (o':Option Nat),v = .l l.a l.n l.c/\Ay9 c R key g S/\Jj o' o/\Ab W w' (EC b k c S o'::recs Rec.str l g::M)
theorem Tk(hz:key.size<64)(hs:Ab W w (EC b k c R o::M)):AZ PR 94 #[pq b 0,.s key] w (Aes W M b k c R key o):=by
 refine cw ⟨mixed,Tryz.func94,rfl⟩ Awh ?_;refine Ac rfl ?_;refine Ag (Apc hz hs) λv w ⟨hv,hs⟩=>⟨_,hv,?_⟩;have hkR:=ML hs;have hrm:=hkR.room;have hc2:=hkR.c2
 with_reducible refine Ay (λh0=>?_) (λh0=>?_)
 ·refine Ag (Ad8 h0 hz hs) λv w ⟨l,S,o',hv,hm,ho,hs⟩=>⟨_,hv,?_⟩;have hk2:=ML hs;exact⟨l,[],S,o',rfl,⟨hk2,λ_=>⟨rfl,hm⟩,by simp,by simp,by simp,λx=>by
   rw[hm];constructor
   ·exact λh=>.inl ⟨h,by simp⟩
   ·rintro(h|rfl)
    ·exact h.1
    ·exact h0,λ_=>rfl⟩,ho,hs⟩
 have hO:=hs;clear hs;refine CD hO (λt e h5 hk ho hs=>?_) (λt e u q A B h5 hk hR ho hs=>?_) <;> try rw[ho]
 ·have hs:=Ab.nilR Rec.str hs;have j3:∀(w:World),Ab W w (m0 b k c t e::eg t e c R::recs Rec.str ⟨none,0,0⟩ []::M)->P0 Be (Aes W M b k c R key none) (some ⟨b,0,none⟩) key ⟨none,0,0⟩ w:=by
   clear hs;intro w hs;refine jw P1 ?_;refine Aa (EK hs ?_);have hs:Ab W w (eg t e c R::m0 b k c t e::recs Rec.str ⟨none,0,0⟩ []::M):=by exact Ab.fin hs
   refine GW hz hs λf hf=>AH hf λv w ⟨hit,l,g,S,hv,ha,hs⟩=>⟨_,_,hv,?_⟩;have hle:=ha.acc.le1;have hs:Ab W w (recs Rec.str ⟨none,0,0⟩ []::recs Rec.str l g::eg t e c S::m0 b k c t e::M):=by exact Ab.fin hs
   refine FP (s:=⟨none,0,0⟩) (new:=g) hs (Gc (s:=l) hs) (Bg (s:=l) hs) (CV _) rfl (by decide) (by simp;omega) λs6 w hs6 hs=>?_;have hs:Ab W w (recs Rec.str s6 g::recs Rec.str l g::eg t e c S::m0 b k c t e::M):=hs;exact⟨s6,g,S,none,rfl,ha.ins,trivial,CU h5 ha.ok (by exact Ab.fin hs)⟩
  refine AJ 1 ?_;rw[P2];have hs:Ab W w (m0 b k c t e::eg t e c R::recs Rec.str ⟨none,0,0⟩ []::M):=by exact Ab.fin hs
  refine Al [m0 b k c t e,eg t e c R] hs λw hs=>?_;refine Aa (Aq ?_);refine Ag (Vt (by omega) hs) λv w ⟨hv,hs⟩=>⟨_,hv,Af hs ?_⟩;refine Ap (λ_=>?_) (λ_=>j3 w hs);refine Ag (Qn hs) λv w ⟨hv,hs⟩=>⟨_,hv,?_⟩;exact Ac rfl (j3 w hs)
 ·have hnR:=hR ▸ hk.nd;have hnA:=(List.nodup_append.1 hnR).1;have hnB:=(List.nodup_append.1 hnR).2.1;have hdis:∀x∈A,x∉B:=λx h1 h2=>(List.nodup_append.1 hnR).2.2 x h1 x h2 rfl;have hll:R.length=A.length+B.length:=by rw[hR];simp
  have j3:∀(w:World)(l0:Sl)(g0 B':BL),B'.length<=B.length->B'.Nodup->(∀x∈A,x∉B')->(∀x∈g0,x∈R)->(∀x,x∈A++B'↔x∈R/\x∉g0)->g0.length<=1->((R.length:Int)<c->g0=[])->((A.length:Int)+B'.length<c\/(B'=[]/\g0=[])) ->
    Ab W w (m1 b k c t e u q::eg t e c A::eg u q c B'::recs Rec.str l0 g0::M)->P0 Be (Aes W M b k c R key (some B.length)) (some ⟨b,0,none⟩) key l0 w:=by
   clear hs hdis hnB hnR hR hll;intro w l0 g0 B' hle2 hnB hdis hsub hmem hg1 hcalm hroom hs;refine jw P1 ?_;refine Aa (EK hs ?_);have hs:Ab W w (eg t e c A::m1 b k c t e u q::eg u q c B'::recs Rec.str l0 g0::M):=by exact Ab.fin hs
   refine GW hz hs λf hf=>AH hf λv w ⟨hit,l,g,S,hv,ha,hs⟩=>⟨_,_,hv,?_⟩;have hle:=ha.acc.le1;have hin:=Awq hk h0 hnA hnB hdis hsub hmem hg1 hcalm hroom ha;have hs:Ab W w (recs Rec.str l0 g0::recs Rec.str l g::eg t e c S::m1 b k c t e u q::eg u q c B'::M):=by exact Ab.fin hs
   refine FP (s:=l0) (new:=g) hs (Gc (s:=l) hs) (Bg (s:=l) hs) (CV _) rfl (by decide) (by omega) λs6 w hs6 hs=>?_;have hs:Ab W w (recs Rec.str s6 (g0++g)::recs Rec.str l g::eg t e c S::m1 b k c t e u q::eg u q c B'::M):=hs;exact⟨s6,g0++g,S++B',some B'.length,rfl,hin,hle2,DE h5 hin.ok rfl rfl (by exact Ab.fin hs)⟩
  have hs:=Ab.nilR Rec.str hs;have hs:Ab W w (m1 b k c t e u q::eg t e c A::eg u q c B::recs Rec.str ⟨none,0,0⟩ []::M):=by exact Ab.fin hs
  have test:∀(w:World)(f:Nat)(l0:Sl)(g0 B':BL),A.length+B'.length<=5000->Ab W w (m1 b k c t e u q::eg t e c A::eg u q c B'::recs Rec.str l0 g0::M) ->
    ((A.length:Int)+B'.length>=c->B'.length>0->∀w,Ab W w (m1 b k c t e u q::eg t e c A::eg u q c B'::recs Rec.str l0 g0::M)->Anw Be (Aes W M b k c R key (some B.length)) f (some ⟨b,0,none⟩) key l0 w) ->
    ((A.length:Int)+B'.length<c\/B'.length=0->∀w,Ab W w (m1 b k c t e u q::eg t e c A::eg u q c B'::recs Rec.str l0 g0::M)->P0 Be (Aes W M b k c R key (some B.length)) (some ⟨b,0,none⟩) key l0 w) ->
    UU Be (Aes W M b k c R key (some B.length)) (f+1) (some ⟨b,0,none⟩) key l0 w:=by
   clear hs hdis hnB hnR hR hll j3;intro w f l0 g0 B' hl hs h2 h3;rw[P2];refine Al [m1 b k c t e u q,eg t e c A,eg u q c B'] hs λw hs=>?_;refine Aa (Aq ?_);refine Ag (Axb hl hs) λv w ⟨hv,hs⟩=>⟨_,hv,Af hs ?_⟩
   with_reducible refine Ay (λh4=>?_) (λh4=>?_)
   ·refine Ag (Qo hs) λv w ⟨hv,hs⟩=>⟨_,hv,?_⟩
    with_reducible refine Ay (λh5=>?_) (λh5=>?_)
    ·exact h2 (by omega) (by omega) w hs
    ·exact h3 (.inr (by omega)) w hs
   ·exact h3 (.inl (by omega)) w hs
  refine AJ 2 ?_;refine test w 1 _ [] B (by omega) hs (λh4 h6 w hs=>?_) (λh4 w hs=>?_)
  ·refine jw Aap ?_;have hE:AZ PR 135 #[pq b 0] w λv w'=>∃x yes S,v = .tuple #[.s x,.b yes]/\Gi c B x yes S/\Ab W w' (m1 b k c t e u q::eg t e c A::eg u q c S::recs Rec.str ⟨none,0,0⟩ []::M):=by
    refine cw ⟨mixed,Tryz.func135,rfl⟩ Wv ?_;refine Ac rfl ?_;refine Ag (Qo hs) λv w ⟨hv,hs⟩=>⟨_,hv,?_⟩;refine Ak (decide_eq_true (by omega)) ?_;refine Aa (EK hs ?_);have hs:Ab W w (eg u q c B::m1 b k c t e u q::eg t e c A::recs Rec.str ⟨none,0,0⟩ []::M):=by exact Ab.fin hs
    refine VY hs λf hf=>AH hf λv w ⟨x,yes,B',hv,hev,hs⟩=>⟨_,_,hv,?_⟩;exact⟨x,yes,B',rfl,hev,by exact Ab.fin hs⟩
   refine AH hE λv w ⟨x,yes,B',hv,hev,hs⟩=>⟨_,_,hv,?_⟩;have hy:yes=true:=by rw[hev.says];exact decide_eq_true h6
   subst hy;have hxB:=hev.of rfl;have hpl:B.length=B'.length+1:=by
    have hp:=JG hnB hev.ok.nd hxB hev.mem';simpa using hp.length_eq
   refine Ai hs λnb w hs=>?_;have hs:Ab W w (recs Rec.str ⟨none,0,0⟩ []::blk nb [.s x]::m1 b k c t e u q::eg t e c A::eg u q c B'::M):=by exact Ab.fin hs
   refine CA (s:=⟨none,0,0⟩) (a:=x) hs rfl rfl rfl rfl (by decide) (by simp) λs5 w hs5 hs=>?_;have hs:Ab W w (recs Rec.str s5 [x]::blk nb [.s x]::m1 b k c t e u q::eg t e c A::eg u q c B'::M):=hs;have hs:Ab W w (m1 b k c t e u q::eg t e c A::eg u q c B'::recs Rec.str s5 [x]::M):=by exact Ab.fin hs
   refine test w 0 s5 [x] B' (by omega) hs (λh6 _ w hs=>by omega) (λ_ w hs=>?_);refine j3 w s5 [x] B' (by omega) hev.ok.nd (λy h1 h2=>hdis y h1 ((hev.mem' y).1 h2).1) (λy hy=>by rw[List.mem_singleton] at hy;subst hy;rw[hR];exact List.mem_append_right _ hxB) (λy=>?_) (by simp) (λh=>by omega) (.inl (by omega)) hs
   rw[List.mem_append,hev.mem',hR,List.mem_append,List.mem_singleton];constructor
   ·rintro(h|h)
    ·exact⟨.inl h,λe=>hdis y h (e ▸ hxB)⟩
    ·exact⟨.inr h.1,h.2⟩
   ·rintro⟨h|h,h2⟩
    ·exact .inl h
    ·exact .inr ⟨h,h2⟩
  ·exact j3 w _ [] B (Nat.le_refl _) hnB hdis (by simp) (λy=>by rw[hR];simp) (by simp) (λ_=>rfl) (by
    rcases h4 with h4|h4
    ·exact .inl h4
    ·exact .inr ⟨List.length_eq_zero_iff.1 h4,rfl⟩) hs
theorem Apa{ev:Ev}{K:BL}(hz:ev.2.size<64)(hev:Zh c R ev K)(hs:Ab W w (EC b k c R o::M)):AZ PR 130 #[pq b 0,.agg #[.i ev.1,.s ev.2]] w λv w'=>∃(l:Sl) (S:BL) (o':Option Nat),v = .l l.a l.n l.c/\(∀x,x∈S↔x∈K)/\Jj o' o/\Ab W w' (EC b k c S o'::recs Rec.str l []::M):=by
 obtain⟨kd,key⟩:=ev;obtain⟨hkK,hmK⟩:=hev;refine cw ⟨mixed,Tryz.func130,rfl⟩ Ajm ?_;have hkR:=ML hs;refine Ai hs λnb w hs=>?_;refine Ac rfl ?_;have hs:Ab W w (EC b k c R o::blk nb [.i kd,.s key]::M):=by exact Ab.fin hs
 refine Ah hs ?_
 with_reducible refine Ay (λh1=>?_) (λh1=>?_)
 ·have hmK:∀x,x∈K↔x∈R:=λx=>by have:=hmK x;rw[if_neg (by omega),if_neg (by omega)] at this;exact this
  refine Ah hs ?_;refine Ag (Apc hz hs) λv w ⟨hv,hs⟩=>⟨_,hv,?_⟩
  with_reducible refine Ay (λh2=>?_) (λh2=>?_)
  ·refine Ah hs ?_;refine Ag (Ad8 h2 hz hs) λv w ⟨l,S,o',hv,hm,ho,hs⟩=>⟨_,hv,?_⟩;exact⟨l,S,o',rfl,λx=>by rw[hm,hmK],ho,by exact Ab.fin hs⟩
  ·have hs:=Ab.nilR Rec.str hs;exact⟨⟨none,0,0⟩,R,o,rfl,λx=>(hmK x).symm,Jj.refl,by exact Ab.fin hs⟩
 with_reducible refine Ay (λh2=>?_) (λh2=>?_)
 ·have hmK:∀x,x∈K↔x∈R\/x=key:=λx=>by have:=hmK x;rw[if_pos h2] at this;exact this
  refine Ah hs ?_;refine Ag (Tk hz hs) λv w ⟨l,g,S,o',hv,hin,ho,hs⟩=>⟨_,hv,?_⟩
  by_cases hk:key∈R
  ·obtain⟨rfl,hm⟩:=hin.has hk;refine⟨l,S,o',rfl,λx=>?_,ho,by exact Ab.fin hs⟩;rw[hm,hmK];exact⟨.inl,λh=>h.elim id λh=>h ▸ hk⟩
  ·have hlt:(R.length:Int)<c:=by
    have hsub:∀x∈key::R,x∈K:=λx hx=>(hmK x).2 (by
     rcases List.mem_cons.1 hx with h|h
     ·exact .inr h
     ·exact .inl h)
    have:=E6 (List.nodup_cons.2 ⟨hk,hkR.nd⟩) hsub;have hr:=hkK.room;simp only[List.length_cons] at this;omega
   have hg:=hin.calm hlt;subst hg;refine⟨l,S,o',rfl,λx=>?_,ho,by exact Ab.fin hs⟩;rw[hin.mem,hmK];simp
 with_reducible refine Ay (λh3=>?_) (λh3=>?_)
 ·have hmK:∀x,x∈K↔x∈R/\x≠key:=λx=>by have:=hmK x;rw[if_neg h2,if_pos h3] at this;exact this
  have hO:=hs;clear hs;refine CD hO (λt e h5 hk ho hs=>?_) (λt e u q A B h5 hk hR ho hs=>?_) <;> try rw[ho]
  ·refine Al [m0 b k c t e,blk nb [.i kd,.s key]] hs λw hs=>?_;refine Aa (PZ (Ah hs (Af hs ?_)));have hs:Ab W w (eg t e c R::m0 b k c t e::M):=by exact Ab.fin hs
   refine IJ hz hs λf hf=>Ag hf λv w ⟨yes,S,hv,hr,hs⟩=>⟨_,hv,?_⟩;have hs:Ab W w (m0 b k c t e::eg t e c S::M):=by exact Ab.fin hs
   refine Ag (Em hs) λv w ⟨hv,hs⟩=>⟨_,hv,Ac rfl ?_⟩;have hs:=Ab.nilR Rec.str hs;exact⟨⟨none,0,0⟩,S,none,rfl,λx=>by rw[hr.mem,hmK],trivial,CU h5 hr.ok (by exact Ab.fin hs)⟩
  ·have hnd:=List.nodup_append.1 (hR ▸ hk.nd);refine Al [m1 b k c t e u q,blk nb [.i kd,.s key]] hs λw hs=>?_;refine Aa (PZ (Ah hs (Af hs ?_)));have hs:Ab W w (eg t e c A::m1 b k c t e u q::eg u q c B::blk nb [.i kd,.s key]::M):=by exact Ab.fin hs
   refine IJ hz hs λf hf=>Ag hf λv w ⟨yes,A',hv,hr,hs⟩=>⟨_,hv,?_⟩;have hs:Ab W w (m1 b k c t e u q::eg t e c A'::eg u q c B::blk nb [.i kd,.s key]::M):=by exact Ab.fin hs
   refine Ag (DD hs) λv w ⟨hv,hs⟩=>⟨_,hv,Ak rfl ?_⟩;refine Al [m1 b k c t e u q,blk nb [.i kd,.s key]] hs λw hs=>?_;refine Aa (PZ (Ah hs (Af hs ?_)));have hs:Ab W w (eg u q c B::m1 b k c t e u q::eg t e c A'::M):=by exact Ab.fin hs
   refine IJ hz hs λf hf=>Ag hf λv w ⟨yes2,B',hv,hr2,hs⟩=>⟨_,hv,?_⟩;have hs:=Ab.nilR Rec.str hs;have hm:∀x,x∈A'++B'↔x∈K:=λx=>by
    rw[List.mem_append,hr.mem,hr2.mem,hmK,hR,List.mem_append];constructor
    ·rintro(h|h)
     ·exact⟨.inl h.1,h.2⟩
     ·exact⟨.inr h.1,h.2⟩
    ·rintro⟨h|h,h2⟩
     ·exact .inl ⟨h,h2⟩
     ·exact .inr ⟨h,h2⟩
   have hk2:=hkK.same (Vu hr.ok.nd hr2.ok.nd λx h1 h2=>hnd.2.2 x ((hr.mem x).1 h1).1 x ((hr2.mem x).1 h2).1 rfl) hm;have hlB:B'.length<=B.length:=E6 hr2.ok.nd λx h=>((hr2.mem x).1 h).1;exact⟨⟨none,0,0⟩,A'++B',some B'.length,rfl,hm,hlB,DE h5 hk2 rfl rfl (by exact Ab.fin hs)⟩
 ·have hmK:∀x,x∈K↔x∈R:=λx=>by have:=hmK x;rw[if_neg h2,if_neg h3] at this;exact this
  have hs:=Ab.nilR Rec.str hs;exact⟨⟨none,0,0⟩,R,o,rfl,λx=>(hmK x).symm,Jj.refl,by exact Ab.fin hs⟩
theorem Qp(hk:Dl c (A++B))(hs:Ab W w (m1 b k r t e u q::eg t e c A::eg u q c B::M)):AZ PR 99 #[pq b 0] w λv w'=>
  (v = .tuple #[.s ⟨#[]⟩,.b false]/\B=[]/\Ab W w' (m0 b k r t e::eg t e c A::M))\/(∃(x:BA) (A' B':BL),v = .tuple #[.s x,.b true]/\B'.length+1=B.length/\(∀x,x∈A'++B'↔x∈A++B)/\Dl c (A'++B')/\Ab W w' (m1 b k r t e u q::eg t e c A'::eg u q c B'::M)):=by
 refine cw ⟨mixed,Tryz.func99,rfl⟩ Adq ?_;refine Ag (DD hs) λv w ⟨hv,hs⟩=>⟨_,hv,Ac rfl ?_⟩;refine Aa (EK hs ?_);have hs:Ab W w (eg u q c B::m1 b k r t e u q::eg t e c A::M):=by exact Ab.fin hs
 refine Ab9 hs λf hf=>Ag hf λv w ⟨l,ks,hv,hp,hs⟩=>⟨_,hv,?_⟩;have hln:=Bg (s:=l) hs;have hpl:=hp.length_eq;have hs:Ab W w (m1 b k r t e u q::eg t e c A::eg u q c B::recs Rec.str l ks::M):=by exact Ab.fin hs
 with_reducible refine Ay (λh1=>?_) (λh1=>?_)
 ·refine Aa (A4 hs λw hs=>?_);have hB:B=[]:=List.length_eq_zero_iff.1 (by omega);exact .inl ⟨rfl,hB,by exact Ab.fin hs⟩
 have h0:0<ks.length:=by omega
 have hin:BW ks∈B:=hp.mem_iff.1 (by rw[<- Va h0];exact GZ h0);have hz:(BW ks).size<64:=hk.small _ (List.mem_append_right _ hin);refine BU (s:=l) hs λb_ o_ ha_=>?_;refine Cw ha_ hs ?_;rw[Va h0];refine AY (Y7 hz hin hk hs) λv w ⟨hv,A',B',h2,h3,h4,h6,hs⟩=>⟨hv,?_⟩;refine BU (s:=l) hs λb_ o_ ha_=>?_;refine Cw ha_ hs ?_;rw[Va h0];exact .inr ⟨BW ks,A',B',rfl,h6,h2,h3,by exact Ab.fin hs⟩
def Hk:Option Nat->Option Nat
 | some (n+1)=>some n
 | _=>none
theorem Axd(hs:Ab W w (EC b k c R o::M)):AZ PR 99 #[pq b 0] w λv w'=>∃(x:BA) (t:Bool) (S:BL),v = .tuple #[.s x,.b t]/\(∀x,x∈S↔x∈R)/\Ab W w' (EC b k c S (Hk o)::M):=by
 have hO:=hs;clear hs;refine CD hO (λt e h5 hk ho hs=>?_) (λt e u q A B h5 hk hR ho hs=>?_) <;> try rw[ho]
 ·refine cw ⟨mixed,Tryz.func99,rfl⟩ Adq ?_;refine Ag (Em hs) λv w ⟨hv,hs⟩=>⟨_,hv,Ak rfl ?_⟩;exact⟨_,_,R,rfl,λ_=>Iff.rfl,CU h5 hk hs⟩
 ·rw[hR] at hk;refine(Qp hk hs).mono λv w' h=>?_;rcases h with⟨hv,hB,hs⟩|⟨x,A',B',hv,hl,hm,hk2,hs⟩
  ·have hA:A++B=A:=by rw[hB,List.append_nil]
   rw[hA] at hk;rw[hB];exact⟨_,_,A,hv,λx=>by rw[hR,hA],CU h5 hk hs⟩
  ·rw[show Hk (some B.length)=some B'.length by rw[<- hl];rfl];exact⟨x,true,A'++B',hv,λx=>by rw[hm,hR],DE h5 hk2 rfl rfl hs⟩
theorem Tj(hs:Ab W w (mvG b k r c R o::M)):AZ PR 145 #[pq b 0] w λv w'=>∃(n:Int) (t e:Nat) (S:BL),v = .i n/\(∀x,x∈S↔x∈R)/\Dl c S/\Ab W w' (m0 b k r t e::eg t e c S::M):=by
 refine cw ⟨mixed,Tryz.func145,rfl⟩ Ajy ?_;have done:∀(f:Nat)(w:World)(t e:Nat)(S:BL)(n:Int),(∀x,x∈S↔x∈R)->Dl c S->Ab W w (m0 b k r t e::eg t e c S::M) ->
   IL Be (λv w'=>∃(n:Int) (t e:Nat) (S:BL),v = .i n/\(∀x,x∈S↔x∈R)/\Dl c S/\Ab W w' (m0 b k r t e::eg t e c S::M)) (f+1) (some ⟨b,0,none⟩) n w:=by
  clear hs;intro f w t e S n hm hk hs;rw[Ip];refine Ag (Em hs) λv w ⟨hv,hs⟩=>⟨_,hv,Ac rfl ?_⟩;refine jw Wz ?_;exact⟨n,t,e,S,rfl,hm,hk,hs⟩
 have hO:=hs;clear hs;refine CD hO (λt e h5 hk ho hs=>?_) (λt e u q A B h5 hk hR ho hs=>?_) <;> try rw[ho]
 ·exact AJ 1 (done 0 w t e R 0 (λ_=>Iff.rfl) hk hs)
 ·have loop:∀(f:Nat)(w:World)(A B:BL)(n:Int),B.length<=f->(∀x,x∈A++B↔x∈R)->Dl c (A++B)->Ab W w (m1 b k r t e u q::eg t e c A::eg u q c B::M) ->
    IL Be (λv w'=>∃(n:Int) (t e:Nat) (S:BL),v = .i n/\(∀x,x∈S↔x∈R)/\Dl c S/\Ab W w' (m0 b k r t e::eg t e c S::M)) (f+2) (some ⟨b,0,none⟩) n w:=by
   clear hs hk hR;intro f
   induction f with
   | zero=>
    intro w A B n hf hm hk hs;rw[Ip];refine Ag (DD hs) λv w ⟨hv,hs⟩=>⟨_,hv,Ak rfl ?_⟩;refine AH (Qp hk hs) λv w h=>?_;rcases h with⟨hv,hB,hs⟩|⟨x,A',B',hv,hl,_⟩
    ·refine⟨_,_,hv,Ac rfl ?_⟩;simp only[hB,List.append_nil] at hk hm;exact done 0 w t e A n hm hk hs
    ·omega
   | succ f ih=>
    intro w A B n hf hm hk hs;rw[Ip];refine Ag (DD hs) λv w ⟨hv,hs⟩=>⟨_,hv,Ak rfl ?_⟩;refine AH (Qp hk hs) λv w h=>?_;rcases h with⟨hv,hB,hs⟩|⟨x,A',B',hv,hl,hm2,hk2,hs⟩
    ·refine⟨_,_,hv,Ac rfl ?_⟩;simp only[hB,List.append_nil] at hk hm;exact done _ w t e A n hm hk hs
    ·refine⟨_,_,hv,Ak rfl ?_⟩;exact ih w A' B' _ (by omega) (λx=>by rw[hm2,hm]) hk2 hs
  exact AJ _ (loop B.length w A B 0 (Nat.le_refl _) (λx=>by rw[hR]) (hR ▸ hk) hs)
theorem Apb{kd:Int}(hkd:0<=kd/\kd<5)(hs:Ab W w (EC b k c R o::M)):AZ PR 144 #[pq b 0,.i kd] w λv w'=>∃(S:BL),v = .i 0/\(∀x,x∈S↔x∈R)/\Ab W w' (EC b kd c S (some S.length)::M):=by
 refine cw ⟨mixed,Tryz.func144,rfl⟩ Ajx ?_;refine Ac rfl ?_;have hk0:=ML hs;have hrc:=App hk0;refine Aa ?_;have hcell:∀K:Int->WP,K c w->ld (.int .i64) b (0+1) K w:=λK h=>CD hs (λt e _ _ _ hs=>Ah hs h) (λt e u q A B _ _ _ _ hs=>Ah hs h);refine hcell _ ?_;refine TQ hs (λh w hs=>by omega) (λ_ _ u q w hs=>?_);refine Ac rfl ?_;rw[hrc] at hs;have hs:Ab W w (EC b k c R o::eg u q c []::M):=by exact Ab.fin hs
 refine Ag (Tj hs) λv w ⟨n,t,e,S,hv,hm,hk,hs⟩=>⟨_,hv,?_⟩;refine Aa (EK hs ?_);refine Aa (A4 hs λw hs=>?_);refine Aa (A4 hs λw hs=>?_);refine Aa (A4 hs λw hs=>?_);exact⟨S,rfl,hm,DE hkd hk (A:=[]) (B:=S) rfl rfl (by exact Ab.fin hs)⟩
theorem Agy(hs:Ab W w (m0 b k r t e::eg t e c R::M)):AZ PR 135 #[pq b 0] w λv w'=>∃x yes S,v = .tuple #[.s x,.b yes]/\Gi c R x yes S/\Ab W w' (m0 b k r t e::eg t e c S::M):=by
 refine cw ⟨mixed,Tryz.func135,rfl⟩ Wv ?_;refine Ac rfl ?_;refine Ag (Qn hs) λv w ⟨hv,hs⟩=>⟨_,hv,?_⟩;refine Ac rfl ?_;refine Aa (EK hs ?_);have hs:Ab W w (eg t e c R::m0 b k r t e::M):=by exact Ab.fin hs
 refine VY hs λf hf=>AH hf λv w ⟨x,yes,S,hv,hev,hs⟩=>⟨_,_,hv,?_⟩;exact⟨x,yes,S,rfl,hev,by exact Ab.fin hs⟩
theorem Aq0(hk:0<=k/\k<5){s0:Sl}{ks:BL}[hr:Lg W L s0 Rec.str ks](hs:Ab W w L)(hn:ks.Nodup)(hz:∀x∈ks,x.size<64)(hl:(ks.length:Int)<=AT r){N:Int->WP}{K:TypeId->Value->Int->WP}
  (hK:∀(t b:Nat)(S:BL)(w:World),(∀x,x∈S↔x∈ks)->Ab W w (eg t b (AT r) S::L)->K t (pq b 0) 0 w):OX (.int .i64) PR 146 [.i k,.i r,.l s0.a s0.n s0.c] N K w:=by
 refine(cw ⟨mixed,Tryz.func146,rfl⟩ Ajz (Q:=λv w'=>∃(t b:Nat) (S:BL),v = .tuple #[.iface t (pq b 0),.i 0]/\(∀x,x∈S↔x∈ks)/\Ab W w' (eg t b (AT r) S::L)) ?_).mono λe w' ⟨v,he,t,b,S,hv,h1,h2⟩=>.inr ⟨_,_,_,by rw[he,hv];rfl,hK t b S w' h1 h2⟩;refine TQ hs (λh w hs=>by omega) (λ_ _ t b w hs=>?_);refine Ac rfl ?_;have hsn:=Bg (s:=s0) hs;have hrm:=Eb r;have loop:∀(f i:Nat)(w:World)(S:BL),i+f=ks.length->(∀x,x∈S↔x∈ks.take i)->Ab W w (eg t b (AT r) S::L) ->
   NK Be (λv w'=>∃(t b:Nat) (S:BL),v = .tuple #[.iface t (pq b 0),.i 0]/\(∀x,x∈S↔x∈ks)/\Ab W w' (eg t b (AT r) S::L)) (f+1) t (pq b 0) s0 (s0.n:Int) (i:Int) w:=by
  clear hs;intro f
  induction f with
  | zero=>
   intro i w S hi hS hs;rw[LV];refine Ac (decide_eq_false (by omega)) ?_;refine jw W1 ?_;rw[List.take_of_length_le (by omega)] at hS;exact⟨t,b,S,rfl,hS,hs⟩
  | succ f ih=>
   intro i w S hi hS hs;rw[LV];refine Ak (decide_eq_true (by omega)) ?_;refine BU (s:=s0) hs λb_ o_ ha_=>?_;refine Cw ha_ hs ?_;rw[Int.toNat_natCast];have hm:ks.getD i default∈ks:=GZ (by omega);have hk:=Aiv hs;have hpl:S.length=i:=by
    have hp:=CE hk.nd (hn.sublist (List.take_sublist i ks)) hS;rw[hp.length_eq,List.length_take];omega
   have hno:ks.getD i default∉ks.take i:=by
    intro hin;have h2:=hn;rw[<- List.take_append_drop i ks,List.nodup_append] at h2;have hd:ks.getD i default∈ks.drop i:=by
     rw[List.getD_eq_getElem?_getD,List.getElem?_eq_getElem (show i<ks.length by omega)];rw[List.drop_eq_getElem_cons (show i<ks.length by omega)];exact .head _
    exact h2.2.2 _ hin _ hd rfl
   refine Aca (hz _ hm) hs λf hf=>Ag hf λv w ⟨yes,S',hv,ha,hs⟩=>⟨_,hv,?_⟩;rw[show IntKind.wrap .i64 ((i:Int)+1)=((i+1:Nat):Int) by rw[i64_in _ (by have:=Bg (s:=s0) hs;omega)];omega]
   refine ih (i+1) w S' (by omega) (λx=>?_) hs;have hy:yes=true:=by rw[ha.says];exact decide_eq_true ⟨λh=>hno ((hS _).1 h),by omega⟩
   rw[ha.mem,Cc (by omega),List.mem_append,List.mem_singleton,hS,hy];simp
 exact AJ _ (loop ks.length 0 w [] (by omega) (by simp) hs)
theorem Zx(n:Int):Hz n 1 1024=AT n:=by unfold Hz AT;split <;> split <;> omega
theorem Ag0(hs:Ab W w (EC b k c R o::M)){n:Int}:AZ PR 105 #[pq b 0,.i n] w λv w'=>∃(l:Sl) (g S:BL),v = .l l.a l.n l.c/\(∀x∈g,x∈R)/\g.Nodup/\(∀x,x∈S↔x∈R/\x∉g)/\(g=[]\/(S.length:Int)=AT n)/\Ab W w' (EC b k (AT n) S none::recs Rec.str l g::M):=by
 refine cw ⟨mixed,Tryz.func105,rfl⟩ Ai2 ?_;refine Ac rfl ?_;refine Am (Dn hs n 1 1024) λe w ⟨he,hs⟩=>⟨_,he,?_⟩;rw[Zx];have hr:=Eb n;have hr2:=A2a n;have hk5:=Ayw hs;have hkR:=ML hs;generalize AT n=rm at *;refine Aa ?_;have hcell:∀K:WP,(∀w,Ab W w (mvG b k rm c R o::M)->K w)->st b (0+1) (.i rm) K w:=λK h=>CD hs (λt e h5 hk ho hi=>by subst ho;exact A4 hi λw hs=>h w (CU h5 hk hs)) (λt e u q A B h5 hk hR ho hi=>by subst ho;exact A4 hi λw hs=>h w (DE h5 hk hR rfl hs))
 refine hcell _ λw hs=>?_;refine Ag (Tj hs) λv w ⟨n1,t,e,S0,hv,hm0,hk0,hs⟩=>⟨_,hv,?_⟩;have hs:=Ab.nilR Rec.str hs;have hs:Ab W w (m0 b k rm t e::eg t e c S0::recs Rec.str ⟨none,0,0⟩ []::M):=by exact Ab.fin hs
 have j2:∀(w:World)(l:Sl)(g S:BL),(∀x∈g,x∈R)->g.Nodup->(∀x,x∈S↔x∈R/\x∉g)->(S.length:Int)<=rm->(g=[]\/(S.length:Int)=rm)->Dl c S->Ab W w (m0 b k rm t e::eg t e c S::recs Rec.str l g::M) ->
   Acf Be (λv w'=>∃(l:Sl) (g S:BL),v = .l l.a l.n l.c/\(∀x∈g,x∈R)/\g.Nodup/\(∀x,x∈S↔x∈R/\x∉g)/\(g=[]\/(S.length:Int)=rm)/\Ab W w' (EC b k rm S none::recs Rec.str l g::M)) (some ⟨b,0,none⟩) l w:=by
  clear hs;intro w l g S hsub hnd hm hl hgl hk hs;refine jw Wj ?_;refine Al [m0 b k rm t e] hs λw hs=>?_;refine Aa (Aq (Aa (Aq (Aa (EK hs (Af hs ?_))))));have hs:Ab W w (eg t e c S::m0 b k rm t e::recs Rec.str l g::M):=by exact Ab.fin hs
  refine Ab9 hs λf hf=>Ag hf λv w ⟨l2,ks,hv,hp,hs⟩=>⟨_,hv,?_⟩;have hs:Ab W w (m0 b k rm t e::recs Rec.str l2 ks::recs Rec.str l g::M):=by exact Ab.fin hs
  refine Af hs ?_;refine Aq0 (r:=rm) (s0:=l2) (ks:=ks) hk5 hs (hp.nodup_iff.2 hk.nd) (λx hx=>hk.small x (hp.mem_iff.1 hx)) (by rw[hp.length_eq,hr2];exact hl) λt2 e2 S2 w hm2 hs=>?_
  rw[hr2] at hs;have hok:=Aiv hs;have hsl:S2.length=S.length:=by rw[(CE hok.nd (hp.nodup_iff.2 hk.nd) hm2).length_eq,hp.length_eq]
  refine Aa (A4 hs λw hs=>?_);exact⟨l,g,S2,rfl,hsub,hnd,λx=>by rw[hm2,hp.mem_iff,hm],by rw[hsl];exact hgl,CU hk5 hok (by exact Ab.fin hs)⟩
 have loop:∀(f:Nat)(w:World)(l:Sl)(g S:BL),S.length<=f->g.length+S.length<=1024->(∀x∈g,x∈R)->g.Nodup->(∀x,x∈S↔x∈R/\x∉g)->(g=[]\/(S.length:Int)>=rm)->Dl c S->Ab W w (m0 b k rm t e::eg t e c S::recs Rec.str l g::M) ->
   N6 Be (λv w'=>∃(l:Sl) (g S:BL),v = .l l.a l.n l.c/\(∀x∈g,x∈R)/\g.Nodup/\(∀x,x∈S↔x∈R/\x∉g)/\(g=[]\/(S.length:Int)=rm)/\Ab W w' (EC b k rm S none::recs Rec.str l g::M)) (f+1) (some ⟨b,0,none⟩) l w:=by
  clear hs;intro f
  induction f with
  | zero=>
   intro w l g S hf hgl hsub hnd hm hg hk hs;rw[LK];refine Al [m0 b k rm t e,eg t e c S] hs λw hs=>?_;refine Aa (Aq ?_);refine Ag (Vt (by omega) hs) λv w ⟨hv,hs⟩=>⟨_,hv,Af hs ?_⟩;refine Ac (decide_eq_false (by omega)) ?_;exact j2 w l g S hsub hnd hm (by omega) (hg.imp id λh=>by omega) hk hs
  | succ f ih=>
   intro w l g S hf hgl hsub hnd hm hg hk hs;rw[LK];refine Al [m0 b k rm t e,eg t e c S] hs λw hs=>?_;refine Aa (Aq ?_);refine Ag (Vt (by omega) hs) λv w ⟨hv,hs⟩=>⟨_,hv,Af hs ?_⟩
   with_reducible refine Ay (λh1=>?_) (λh1=>?_)
   ·refine AH (Agy hs) λv w ⟨x,yes,S',hv,hev,hs⟩=>⟨_,_,hv,?_⟩;have hy:yes=true:=by rw[hev.says];exact decide_eq_true (by omega)
    subst hy;have hpl:=(hev.perm hk).length_eq;simp only[List.length_cons] at hpl;have hxS:=hev.of rfl;have hxR:=(hm x).1 hxS;refine Ai hs λnb w hs=>?_;refine CA (s:=l) (a:=x) hs rfl rfl rfl rfl (by decide) (by omega) λs5 w hs5 hs=>?_;refine ih w s5 (g++[x]) S' (by omega) (by simp;omega) (λy hy=>?_) ?_ (λy=>?_) (.inr (by omega)) hev.ok (by exact Ab.fin hs)
    ·rcases List.mem_append.1 hy with h|h
     ·exact hsub y h
     ·rw[List.mem_singleton] at h;exact h ▸ hxR.1
    ·rw[List.nodup_append];exact⟨hnd,by simp,λa ha b hb=>by rw[List.mem_singleton] at hb;subst hb;exact λe=>hxR.2 (e ▸ ha)⟩
    ·rw[hev.mem',hm,List.mem_append,List.mem_singleton];constructor
     ·rintro⟨⟨h2,h3⟩,h4⟩;exact⟨h2,λh=>h.elim h3 h4⟩
     ·rintro⟨h2,h3⟩;exact⟨⟨h2,λh=>h3 (.inl h)⟩,λh=>h3 (.inr h)⟩
   ·exact j2 w l g S hsub hnd hm (by omega) (hg.imp id λh=>by omega) hk hs
 have hrm:=hk0.room;have hc2:=hk0.c2
 exact AJ _ (loop S0.length w ⟨none,0,0⟩ [] S0 (Nat.le_refl _) (by simp;omega) (by simp) (by simp) (λx=>by rw[hm0];simp) (.inl rfl) hk0 hs)
end
end Go.Proofs.YtjipofkjmmpjdaaGreat
namespace Go.Hb
structure D3 where
 k:Int
 s:BA
 n:Int
 h:Bool
 cap:Nat
 buf:List (Int×BA×Int)
def Rg(e:Int×BA×Int):Value:=.agg #[.i e.1,.s e.2.1,.i e.2.2]
abbrev MW(c d:Nat)(r q:D3)(n lo:Int):List Value:=[.chan (some c),.i r.k,.s r.s,.i r.n,.bool r.h,.chan (some d),.i q.k,.s q.s,.i q.n,.bool q.h,.i n,.i lo]
abbrev FU(c:Nat)(r:D3):HP:=chn c r.cap (r.buf.map Rg)
def D3.evs(q:D3):List Ev:=(if q.h then [(q.k,q.s)] else [])++q.buf.map λe=>(e.1,e.2.1)
def D3.peek(q:D3):D3:=if q.h then q else match q.buf with
 | []=>q
 | e::t=>{ q with k:=e.1,s:=e.2.1,n:=e.2.2,h:=true,buf:=t }
structure FdI(r q:D3)(ws:List Ev):Prop where
 rd:∀e∈r.evs,e.1=1/\e.2.size<64
 wr:∀e∈q.evs,e.1≠1/\e.2.size<64
 eq:q.evs=ws
 c1:r.buf.length<=r.cap/\r.cap<=256
 c2:q.buf.length<=q.cap/\q.cap<=256
 c3:1<=q.cap
def fd(b:Nat)(ws:List Ev):HP:=JU λ(z:(Nat×Nat)×(D3×D3)×(Int×Int))=>ED (FdI z.2.1.1 z.2.1.2 ws) (AF [blk b (MW z.1.1 z.1.2 z.2.1.1 z.2.1.2 z.2.2.1 z.2.2.2),FU z.1.1 z.2.1.1,FU z.1.2 z.2.1.2])
section
variable{W w:World}{M L:List HP}{b c d:Nat}{r q:D3}{n lo:Int}{ws:List Ev}
theorem UW(h:Ab W w (fd b ws::M)):∃c d r q n lo,FdI r q ws/\Ab W w (blk b (MW c d r q n lo)::FU c r::FU d q::M):=by
 obtain⟨⟨⟨c,d⟩,⟨r,q⟩,n,lo⟩,h⟩:=h.openE;obtain⟨hp,h⟩:=h.openA;exact⟨c,d,r,q,n,lo,hp,h.openL⟩
theorem IN(hi:FdI r q ws)(h:Ab W w (blk b (MW c d r q n lo)::FU c r::FU d q::M)):Ab W w (fd b ws::M):=Ab.shutE ((c,d),(r,q),n,lo) (Ab.shutA hi (Ab.shutL (Ps:=[_,_,_]) h))
theorem CW(q:D3):q.peek.evs=q.evs:=by
 unfold D3.peek;split
 ·rfl
 ·rename_i h;split
  ·rfl
  ·rename_i e t he;simp[D3.evs,he,h]
theorem OL(h:q.peek.h=false):q.evs=[]:=by
 unfold D3.peek at h;split at h
 ·rename_i h1;rw[h1] at h;cases h
 ·rename_i h1;split at h
  ·rename_i h2;simp[D3.evs,h1,h2]
  ·cases h
theorem YB(q:D3):q.peek.cap=q.cap/\q.peek.buf.length<=q.buf.length:=by
 unfold D3.peek;split
 ·exact⟨rfl,Nat.le_refl _⟩
 ·split
  ·exact⟨rfl,Nat.le_refl _⟩
  ·rename_i e t he;exact⟨rfl,by rw[he];simp⟩
theorem IV(h:q.h=true):q.evs=(q.k,q.s)::({ q with h:=false }:D3).evs:=by simp[D3.evs,h]
theorem FdI.peek(hi:FdI r q ws):FdI r.peek q.peek ws:=by
 have h1:=YB r;have h2:=YB q
 exact⟨by rw[CW];exact hi.rd,by rw[CW];exact hi.wr,by rw[CW];exact hi.eq,by have:=hi.c1;omega,by have:=hi.c2;omega,by rw[h2.1];exact hi.c3⟩
end
end Go.Hb
namespace Go.Proofs.YtjipofkjmmpjdaaGreat
open Go.Hb Go.IntWalk
section
variable{W w:World}{L M:List HP}{b c d:Nat}{r q:D3}{n lo:Int}{ws:List Ev}{key:BA}
theorem Aik:PR.underlying 182=some (.chan .both 184):=by kernel_rfl
theorem OK{K:Nat->WP}(h0:0<=n)(h1:n<=256)(hs:Ab W w L)(hK:∀c w',Ab W w' (chn c n.toNat []::L)->K c w'):Agx PR 182 (.i n) K w:=by
 have hb:∃i,PR.info? 184=some i/\i.bytes=32:=by
  have h:(PR.info? 184).map (·.bytes)=some 32:=by kernel_rfl
  obtain⟨i,hi,hb⟩:=Option.map_eq_some_iff.1 h;exact⟨i,hi,hb⟩
 obtain⟨i,hi,hb⟩:=hb;obtain⟨m,rfl⟩:=Int.eq_ofNat_of_zero_le h0;refine⟨_,Go.Conc.run_makeChan (P:=PR) (w:=w) (t:=182) Aik hi .i64 m (by omega) (by rw[hb];omega),hK _ _ (D5 (s:=0) (r:=0) (buf:=[]) hs.allocC)⟩
theorem A10(hs:Ab W w (blk b (MW c d r q n lo)::FU c r::FU d q::M)):Calls PR 200 #[pq b 0] w λe w'=>e = .returned (.bool r.peek.h)/\Ab W w' (blk b (MW c d r.peek q n lo)::FU c r.peek::FU d q::M):=by
 have hs:Ab W w (FU c r::blk b (MW c d r q n lo)::FU d q::M):=hs.perm (List.Perm.swap _ _ _);obtain⟨s,t,hs⟩:=Kc hs;have hb:=(hs.perm (List.Perm.swap _ _ _)).cell (q:=0) (o:=4) rfl;have hb0:=(hs.perm (List.Perm.swap _ _ _)).cell (q:=0) (o:=0) rfl;cases hh:r.h with
 | true=>
  have e1:r.peek=r:=if_pos hh;rw[e1,hh];exact(YC (o:=0) w (by rw[hb];simp[hh])).mono λe w' ⟨he,hw⟩=>⟨he,by subst hw;exact(D5 hs).perm (List.Perm.swap _ _ _)⟩
 | false=>
  cases hbf:r.buf with
  | nil=>
   have e1:r.peek=r:=by unfold D3.peek;rw[if_neg (by simp[hh]),hbf]
   rw[e1,hh];have hc:=hs.objC;rw[hbf] at hc;exact(To (o:=0) (c:=c) w (by rw[hb];simp[hh]) (by rw[hb0];rfl) hc).mono λe w' ⟨he,hw⟩=>⟨he,by subst hw;exact(D5 hs).perm (List.Perm.swap _ _ _)⟩
  | cons e t=>
   have e1:r.peek={ r with k:=e.1,s:=e.2.1,n:=e.2.2,h:=true,buf:=t }:=by unfold D3.peek;rw[if_neg (by simp[hh]),hbf]
   rw[e1];rw[hbf] at hs;refine(Tp (o:=0) (c:=c) (by simp) (by simp[hh]) rfl hs).mono λe w' ⟨he,hs⟩=>⟨he,?_⟩;exact(D5 hs).perm (List.Perm.swap _ _ _)
theorem A11(hs:Ab W w (blk b (MW c d r q n lo)::FU c r::FU d q::M)):Calls PR 200 #[pq b 5] w λe w'=>e = .returned (.bool q.peek.h)/\Ab W w' (blk b (MW c d r q.peek n lo)::FU c r::FU d q.peek::M):=by
 have hs:Ab W w (FU d q::blk b (MW c d r q n lo)::FU c r::M):=by exact Ab.fin hs
 obtain⟨s,t,hs⟩:=Kc hs;have hb:=(hs.perm (List.Perm.swap _ _ _)).cell (q:=0) (o:=9) rfl;have hb0:=(hs.perm (List.Perm.swap _ _ _)).cell (q:=0) (o:=5) rfl;cases hh:q.h with
 | true=>
  have e1:q.peek=q:=if_pos hh;rw[e1,hh];exact(YC (o:=5) w (by rw[hb];simp[hh])).mono λe w' ⟨he,hw⟩=>⟨he,by subst hw;have hs:=D5 hs;exact Ab.fin hs⟩
 | false=>
  cases hbf:q.buf with
  | nil=>
   have e1:q.peek=q:=by unfold D3.peek;rw[if_neg (by simp[hh]),hbf]
   rw[e1,hh];have hc:=hs.objC;rw[hbf] at hc;exact(To (o:=5) (c:=d) w (by rw[hb];simp[hh]) (by rw[hb0];rfl) hc).mono λe w' ⟨he,hw⟩=>⟨he,by subst hw;have hs:=D5 hs;exact Ab.fin hs⟩
  | cons x t=>
   have e1:q.peek={ q with k:=x.1,s:=x.2.1,n:=x.2.2,h:=true,buf:=t }:=by unfold D3.peek;rw[if_neg (by simp[hh]),hbf]
   rw[e1];rw[hbf] at hs;refine(Tp (o:=5) (c:=d) (by simp) (by simp[hh]) rfl hs).mono λe w' ⟨he,hs⟩=>⟨he,?_⟩;have hs:=D5 hs;have hs:Ab W w' (chn d q.cap (t.map Rg)::blk b (MW c d r { q with k:=x.1,s:=x.2.1,n:=x.2.2,h:=true,buf:=t } n lo)::FU c r::M):=hs;exact Ab.fin hs
theorem Yg(hi:FdI r q ws)(hs:Ab W w (blk b (MW c d r q n lo)::FU c r::FU d q::M)):AZ PR 168 #[pq b 0] w λv w'=>
  ((v = .p none/\r.peek.h=false/\q.peek.h=false)\/(v=pq b 0/\r.peek.h=true)\/(v=pq b 5/\q.peek.h=true))/\Ab W w' (blk b (MW c d r.peek q.peek n lo)::FU c r.peek::FU d q.peek::M):=by
 refine cw ⟨mixed,Tryz.func168,rfl⟩ Akh ?_;refine A9 hs λw hs=>?_;refine Aa (Aa ?_);refine Am (A10 hs) λe w ⟨he,hs⟩=>⟨_,he,?_⟩;refine Am (A11 hs) λe w ⟨he,hs⟩=>⟨_,he,?_⟩;have j2:∀(w:World)(t:Bool),(t=true->q.peek.h=true)->(t=false->r.peek.h=true\/q.peek.h=false)->Ab W w (blk b (MW c d r.peek q.peek n lo)::FU c r.peek::FU d q.peek::M) ->
   NN Be (λv w'=>((v = .p none/\r.peek.h=false/\q.peek.h=false)\/(v=pq b 0/\r.peek.h=true)\/(v=pq b 5/\q.peek.h=true))/\Ab W w' (blk b (MW c d r.peek q.peek n lo)::FU c r.peek::FU d q.peek::M)) (some ⟨b,0,none⟩) r.peek.h t w:=by
  clear hs;intro w t ht hf hs;refine jw WB ?_;refine Ap (λh1=>?_) (λh1=>?_)
  ·exact Aa ⟨.inr (.inr ⟨rfl,ht h1⟩),hs⟩
  ·refine Ap (λh2=>?_) (λh2=>?_)
   ·exact Aa ⟨.inr (.inl ⟨rfl,h2⟩),hs⟩
   ·exact⟨.inl ⟨rfl,h2,(hf h1).elim (λh=>by rw[h] at h2;cases h2) id⟩,hs⟩
 have j1:∀(w:World)(t:Bool),(t=true->q.peek.h=true)->Ab W w (blk b (MW c d r.peek q.peek n lo)::FU c r.peek::FU d q.peek::M) ->
   NM Be (λv w'=>((v = .p none/\r.peek.h=false/\q.peek.h=false)\/(v=pq b 0/\r.peek.h=true)\/(v=pq b 5/\q.peek.h=true))/\Ab W w' (blk b (MW c d r.peek q.peek n lo)::FU c r.peek::FU d q.peek::M)) (some ⟨b,0,none⟩) r.peek.h q.peek.h t w:=by
  clear hs;intro w t ht hs;refine jw WA ?_;refine Ap (λh1=>?_) (λh1=>?_)
  ·exact j2 w t ht (λh=>by rw[h1] at h;cases h) hs
  ·refine Ap (λh2=>?_) (λh2=>?_)
   ·refine j2 w _ (λ_=>h2) (λh=>.inl (by simpa using h)) hs
   ·exact j2 w false (λh=>by cases h) (λ_=>.inr h2) hs
 refine Al [blk b (MW c d r.peek q.peek n lo),FU c r.peek,FU d q.peek] hs λw hs=>?_;refine Ap (λh1=>?_) (λh1=>?_)
 ·refine Ap (λh2=>?_) (λh2=>?_)
  ·refine Aa (Aq (Aa (Ah hs (Af hs ?_))));exact j1 w _ (λ_=>h2) hs
  ·exact Af hs (j1 w false (λh=>by cases h) hs)
 ·exact Af hs (j1 w false (λh=>by cases h) hs)
theorem A07(hs:Ab W w L){x y:Int}:AZ PR 75 #[.i x,.i y] w λv w'=>((0<=x/\x<=256/\1<=y/\y<=256)/\∃b,v = .tuple #[pq b 0,.i 0]/\Ab W w' (fd b []::L))\/(¬(0<=x/\x<=256/\1<=y/\y<=256)/\v = .tuple #[.p none,.i 1]/\Ab W w' L):=by
 refine cw ⟨mixed,Tryz.func75,rfl⟩ Avy ?_
 with_reducible refine Ay (λh1=>?_) (λh1=>?_)
 ·exact .inr ⟨by omega,rfl,hs⟩
 with_reducible refine Ay (λh2=>?_) (λh2=>?_)
 ·exact .inr ⟨by omega,rfl,hs⟩
 with_reducible refine Ay (λh3=>?_) (λh3=>?_)
 ·exact .inr ⟨by omega,rfl,hs⟩
 with_reducible refine Ay (λh4=>?_) (λh4=>?_)
 ·exact .inr ⟨by omega,rfl,hs⟩
 refine jw Aaa ?_;have fin:∀(w:World)(c d:Nat),Ab W w (chn c x.toNat []::chn d y.toNat []::L)->∀b,∀w',Ab W w' (blk b (MW c d ⟨0,Ae,0,false,x.toNat,[]⟩ ⟨0,Ae,0,false,y.toNat,[]⟩ 0 0)::chn c x.toNat []::chn d y.toNat []::L)->Ab W w' (fd b []::L):=λw c d _ b w' h=>
  IN (r:=⟨0,Ae,0,false,x.toNat,[]⟩) (q:=⟨0,Ae,0,false,y.toNat,[]⟩) ⟨by simp[D3.evs],by simp[D3.evs],rfl,⟨by simp,by show x.toNat<=256;omega⟩,⟨by simp,by show y.toNat<=256;omega⟩,by show 1<=y.toNat;omega⟩ h
 refine A9 hs λw hs=>⟨?_,?_⟩
 ·refine OK (by omega) (by omega) hs λc w hs=>?_;refine OK (by omega) (by omega) hs λd w hs=>?_;have hs:Ab W w (chn c x.toNat []::chn d y.toNat []::L):=hs.perm (List.Perm.swap _ _ _);refine Ai hs λb w' hs'=>.inl ⟨by omega,b,rfl,fin w c d hs b w' hs'⟩
 ·refine OK (by omega) (by omega) hs λd w hs=>?_;refine OK (by omega) (by omega) hs λc w hs=>?_;refine Ai hs λb w' hs'=>.inl ⟨by omega,b,rfl,fin w c d hs b w' hs'⟩
theorem Awm(hz:key.size<64)(hs:Ab W w (fd b ws::M)):AZ PR 86 #[pq b 0,.s key] w λv w'=>∃t:Bool,v = .b t/\Ab W w' (fd b ws::M):=by
 refine cw ⟨mixed,Tryz.func86,rfl⟩ Av9 ?_;obtain⟨c,d,r,q,n,lo,hi,hs⟩:=UW hs;refine Ac rfl (Aa ?_);have hs:Ab W w (FU c r::blk b (MW c d r q n lo)::FU d q::M):=hs.perm (List.Perm.swap _ _ _);obtain⟨s,t,hs⟩:=Kc hs
 by_cases hr:r.buf.length<r.cap
 ·refine Am (QP (o:=0) (c:=c) (kd:=1) (key:=key) (n:=n) (by simp) rfl rfl (by simpa using hr) hs) λe w ⟨he,hs⟩=>⟨_,he,Ac rfl ?_⟩;have hs:=D5 hs;have hs:Ab W w (FU c { r with buf:=r.buf++[(1,key,n)] }::blk b (MW c d { r with buf:=r.buf++[(1,key,n)] } q (IntKind.wrap .i64 (n+1)) lo)::FU d q::M):=by
   have e1:r.buf.map Rg++[Rg (1,key,n)]=(r.buf++[(1,key,n)]).map Rg:=by simp
   show Ab W w (chn c r.cap ((r.buf++[(1,key,n)]).map Rg)::_);rw[<- e1];exact hs
  refine⟨true,rfl,IN (r:={ r with buf:=r.buf++[(1,key,n)] }) (q:=q) ⟨λe he=>?_,hi.wr,hi.eq,⟨by simp;omega,hi.c1.2⟩,hi.c2,hi.c3⟩ (hs.perm (List.Perm.swap _ _ _))⟩;have he2:e∈r.evs\/e=(1,key):=by simpa[D3.evs,or_assoc] using he
  rcases he2 with h|rfl
  ·exact hi.rd e h
  ·exact⟨rfl,hz⟩
 ·refine Am (QO (o:=0) (c:=c) (kd:=1) (key:=key) (n:=n) rfl rfl (by simpa using hr) hs) λe w ⟨he,hw⟩=>⟨_,he,Ak rfl ?_⟩;subst hw;have hs:=(D5 hs).perm (List.Perm.swap _ _ _);have hs:Ab W w (blk b (MW c d r q n lo)::FU c r::FU d q::M):=hs;refine Aa (Ah hs (Aa (A4 hs λw hs=>?_)));exact⟨false,rfl,IN hi hs⟩
theorem Yf{kd:Int}(hkd:kd=2\/kd=3)(hz:key.size<64)(hs:Ab W w (fd b ws::M)):AZ PR 128 #[pq b 0,.i kd,.s key] w λv w'=>(v = .b true/\Ab W w' (fd b (ws++[(kd,key)])::M))\/(ws≠[]/\v = .b false/\Ab W w' (fd b ws::M)):=by
 refine cw ⟨mixed,Tryz.func128,rfl⟩ Ajj ?_;have j1:TY Be (λv w'=>(v = .b true/\Ab W w' (fd b (ws++[(kd,key)])::M))\/(ws≠[]/\v = .b false/\Ab W w' (fd b ws::M))) (some ⟨b,0,none⟩) kd key w:=by
  refine jw Wq ?_;obtain⟨c,d,r,q,n,lo,hi,hs⟩:=UW hs;refine Aa ?_;have hs:Ab W w (FU d q::blk b (MW c d r q n lo)::FU c r::M):=by exact Ab.fin hs
  obtain⟨s,t,hs⟩:=Kc hs
  by_cases hr:q.buf.length<q.cap
  ·refine Am (QP (o:=5) (c:=d) (kd:=kd) (key:=key) (n:=n) (by simp) rfl rfl (by simpa using hr) hs) λe w ⟨he,hs⟩=>⟨_,he,?_⟩;have hs:=D5 hs;have hs:Ab W w (FU d { q with buf:=q.buf++[(kd,key,n)] }::blk b (MW c d r { q with buf:=q.buf++[(kd,key,n)] } (IntKind.wrap .i64 (n+1)) lo)::FU c r::M):=by
    have e1:q.buf.map Rg++[Rg (kd,key,n)]=(q.buf++[(kd,key,n)]).map Rg:=by simp
    show Ab W w (chn d q.cap ((q.buf++[(kd,key,n)]).map Rg)::_);rw[<- e1];exact hs
   have ev:({ q with buf:=q.buf++[(kd,key,n)] }:D3).evs=ws++[(kd,key)]:=by rw[<- hi.eq];simp[D3.evs]
   refine .inl ⟨rfl,IN (r:=r) (q:={ q with buf:=q.buf++[(kd,key,n)] }) ⟨hi.rd,λe he=>?_,ev,hi.c1,⟨by simp;omega,hi.c2.2⟩,hi.c3⟩ (by exact Ab.fin hs)⟩;rw[ev,List.mem_append,List.mem_singleton] at he;rcases he with h|rfl
   ·exact hi.wr e (by rw[hi.eq];exact h)
   ·exact⟨by show kd≠1;omega,hz⟩
  ·refine Am (QO (o:=5) (c:=d) (kd:=kd) (key:=key) (n:=n) rfl rfl (by simpa using hr) hs) λe w ⟨he,hw⟩=>⟨_,he,?_⟩;subst hw;have hs:=D5 hs;refine .inr ⟨λh0=>?_,rfl,IN hi (by exact Ab.fin hs)⟩;have h1:=hi.eq;rw[h0] at h1;have h2:=hi.c3;have h3:q.buf=[]:=by
    have:=(List.append_eq_nil_iff.1 h1).2;simpa using this
   rw[h3] at hr;simp at hr;omega
 refine Ac rfl ?_;refine Ap (λh1=>?_) (λ_=>j1);refine Ap (λh2=>?_) (λ_=>j1);have h1:kd≠2:=by simpa using h1
 have h2:kd≠3:=by simpa using h2
 omega
theorem An0(hs:Ab W w (fd b ws::M)):AZ PR 129 #[pq b 0] w λv w'=>∃(l:Sl) (evs:List Ev),v = .l l.a l.n l.c/\evs.filter (λe=>decide (e.1≠1))=ws/\(∀e∈evs,e.2.size<64)/\evs.length<=520/\Ab W w' (fd b []::recs Fg l evs::M):=by
 refine cw ⟨mixed,Tryz.func129,rfl⟩ Ajk ?_;obtain⟨c,d,r,q,n,lo,hi,hs⟩:=UW hs;refine Ac rfl ?_;refine Ag (Yg hi hs) λv w ⟨hv,hs⟩=>?_;have hi:=hi.peek;have hl:∀r:D3,r.buf.length<=r.cap/\r.cap<=256->r.evs.length<=257:=λr h=>by
  unfold D3.evs;rw[List.length_append,List.length_map];split <;> simp <;> omega
 have hlr:=hl _ hi.c1;have hlq:=hl _ hi.c2;have hs:=Ab.nilR Fg hs;have loop:∀(m:Nat)(w:World)(r q:D3)(l4:OA)(acc:Sl)(evs:List Ev)(wq:List Ev),FdI r q wq->r.evs.length+q.evs.length=m->evs.length+m<=514 ->
   ((l4=none/\r.h=false/\q.h=false/\r.evs=[]/\q.evs=[])\/(l4=some ⟨b,0,none⟩/\r.h=true)\/(l4=some ⟨b,5,none⟩/\q.h=true))->evs.filter (λe=>decide (e.1≠1))++wq=ws->(∀e∈evs,e.2.size<64) ->
   Ab W w (recs Fg acc evs::blk b (MW c d r q n lo)::FU c r::FU d q::M) ->
   Ki Be (λv w'=>∃(l:Sl) (evs:List Ev),v = .l l.a l.n l.c/\evs.filter (λe=>decide (e.1≠1))=ws/\(∀e∈evs,e.2.size<64)/\evs.length<=520/\Ab W w' (fd b []::recs Fg l evs::M)) (m+1) (some ⟨b,0,none⟩) acc l4 w:=by
  clear hs hv hlr hlq hi;intro m
  induction m with
  | zero=>
   intro w r q l4 acc evs wq hi hm hlen h4 hw hsz hs;rw[LP];have h1:r.evs=[]:=List.length_eq_zero_iff.1 (by omega);have h2:q.evs=[]:=List.length_eq_zero_iff.1 (by omega);have h3:l4=none:=by
    rcases h4 with h|⟨_,h⟩|⟨_,h⟩
    ·exact h.1
    ·rw[IV h] at h1;cases h1
    ·rw[IV h] at h2;cases h2
   subst h3;refine Ac rfl ?_;refine jw Wr ?_;have h5:wq=[]:=by rw[<- hi.eq];exact h2
   subst h5;exact⟨acc,evs,rfl,by rw[List.append_nil] at hw;exact hw,hsz,by omega,by have hs2:=IN (M:=recs Fg acc evs::M) hi (by exact Ab.fin hs);exact hs2⟩
  | succ m ih=>
   intro w r q l4 acc evs wq hi hm hlen h4 hw hsz hs;rw[LP];have next:∀(w:World)(r q:D3)(acc:Sl)(evs wq:List Ev),FdI r q wq->r.evs.length+q.evs.length=m->evs.length+m<=514->evs.filter (λe=>decide (e.1≠1))++wq=ws->(∀e∈evs,e.2.size<64)->Ab W w (blk b (MW c d r q n lo)::FU c r::FU d q::recs Fg acc evs::M) ->
     (call1 .ptr PR 168 [pq b 0] λ(x_10:OA)=>Ki Be (λv w'=>∃(l:Sl) (evs:List Ev),v = .l l.a l.n l.c/\evs.filter (λe=>decide (e.1≠1))=ws/\(∀e∈evs,e.2.size<64)/\evs.length<=520/\Ab W w' (fd b []::recs Fg l evs::M)) (m+1) (some ⟨b,0,none⟩) acc x_10) w:=by
    clear hs hi hm hlen h4 hw hsz;intro w r q acc evs wq hi hm hlen hw hsz hs;refine Ag (Yg hi hs) λv w ⟨hv,hs⟩=>?_;rcases hv with⟨hv,h1,h2⟩|⟨hv,h1⟩|⟨hv,h1⟩
    ·exact⟨none,hv,ih w r.peek q.peek none acc evs wq hi.peek (by rw[CW,CW];exact hm) hlen (.inl ⟨rfl,h1,h2,by rw[CW];exact OL h1,by rw[CW];exact OL h2⟩) hw hsz (by exact Ab.fin hs)⟩
    ·exact⟨some ⟨b,0,none⟩,hv,ih w r.peek q.peek _ acc evs wq hi.peek (by rw[CW,CW];exact hm) hlen (.inr (.inl ⟨rfl,h1⟩)) hw hsz (by exact Ab.fin hs)⟩
    ·exact⟨some ⟨b,5,none⟩,hv,ih w r.peek q.peek _ acc evs wq hi.peek (by rw[CW,CW];exact hm) hlen (.inr (.inr ⟨rfl,h1⟩)) hw hsz (by exact Ab.fin hs)⟩
   rcases h4 with⟨_,_,_,h1,h2⟩|⟨rfl,h1⟩|⟨rfl,h1⟩
   ·rw[h1,h2] at hm;simp at hm
   ·have ht:=IV h1;have hin:=hi.rd (r.k,r.s) (by rw[ht];exact .head _)
    refine Ak rfl ?_;refine Aa (Ah hs (Ah hs ?_));refine Ai hs λnb w hs=>?_;refine CA (E:=Fg) (s:=acc) (a:=(r.k,r.s)) hs rfl rfl rfl rfl (by decide) (by omega) λs2 w hs2 hs=>?_;refine Aa (A4 hs λw hs=>?_);refine next w { r with h:=false } q s2 (evs++[(r.k,r.s)]) wq ⟨λe he=>hi.rd e (by rw[ht];exact .tail _ he),hi.wr,hi.eq,hi.c1,hi.c2,hi.c3⟩ (by rw[ht] at hm;simp only[List.length_cons] at hm;omega) (by simp;omega) ?_ (λe he=>?_) (by exact Ab.fin hs)
    ·rw[List.filter_append];have hin1:r.k=1:=hin.1;have:[(r.k,r.s)].filter (λe:Ev=>decide (e.1≠1))=[]:=by simp[hin1]
     rw[this,List.append_nil];exact hw
    ·rw[List.mem_append,List.mem_singleton] at he;rcases he with h|rfl
     ·exact hsz e h
     ·exact hin.2
   ·have ht:=IV h1;have hin:=hi.wr (q.k,q.s) (by rw[ht];exact .head _)
    have heq:=hi.eq;rw[ht] at heq;refine Ak rfl ?_;refine Aa (Ah hs (Ah hs ?_));refine Ai hs λnb w hs=>?_;refine CA (E:=Fg) (s:=acc) (a:=(q.k,q.s)) hs rfl rfl rfl rfl (by decide) (by omega) λs2 w hs2 hs=>?_;refine Aa (A4 hs λw hs=>?_);refine next w r { q with h:=false } s2 (evs++[(q.k,q.s)]) ({ q with h:=false }:D3).evs ⟨hi.rd,λe he=>hi.wr e (by rw[ht];exact .tail _ he),rfl,hi.c1,hi.c2,hi.c3⟩ (by rw[ht] at hm;simp only[List.length_cons] at hm;omega) (by simp;omega) ?_ (λe he=>?_) (by exact Ab.fin hs)
    ·rw[List.filter_append];have hin1:q.k≠1:=hin.1;have:[(q.k,q.s)].filter (λe:Ev=>decide (e.1≠1))=[(q.k,q.s)]:=by simp[hin1]
     rw[this,List.append_assoc,List.singleton_append,heq];exact hw
    ·rw[List.mem_append,List.mem_singleton] at he;rcases he with h|rfl
     ·exact hsz e h
     ·exact hin.2
 have hw0:([]:List Ev).filter (λe=>decide (e.1≠1))++ws=ws:=rfl;rcases hv with⟨hv,h1,h2⟩|⟨hv,h1⟩|⟨hv,h1⟩
 ·exact⟨none,hv,AJ _ (loop _ w r.peek q.peek none _ [] ws hi rfl (by simp only[List.length_nil];omega) (.inl ⟨rfl,h1,h2,by rw[CW];exact OL h1,by rw[CW];exact OL h2⟩) hw0 (by simp) hs)⟩
 ·exact⟨some ⟨b,0,none⟩,hv,AJ _ (loop _ w r.peek q.peek _ _ [] ws hi rfl (by simp only[List.length_nil];omega) (.inr (.inl ⟨rfl,h1⟩)) hw0 (by simp) hs)⟩
 ·exact⟨some ⟨b,5,none⟩,hv,AJ _ (loop _ w r.peek q.peek _ _ [] ws hi rfl (by simp only[List.length_nil];omega) (.inr (.inr ⟨rfl,h1⟩)) hw0 (by simp) hs)⟩
end
end Go.Proofs.YtjipofkjmmpjdaaGreat
namespace Go.Hb
instance {s:Int} {k:BA} {x0:BA} {x1:Int}:LB (Cr Rec.si) [.i s,.s k,.s x0,.i x1] ⟨s,k,(x0,x1)⟩:=⟨rfl⟩
end Go.Hb
namespace Go.Proofs.YtjipofkjmmpjdaaGreat
open Go.Hb Go.IntWalk
section
variable{W w:World}{L M:List HP}{F:HP->List HP}{b:Nat}{seed:Int}{m:List (BA×(BA×Int))}{s:Sl}{ps:List (Pl (BA×Int))}{n1 u1:Int}
theorem Fm{st:BA->Nat}{k:BA}(hst:st=Az seed ps.length)(hz:k.size<4611686018427387904)(hl:0<ps.length/\ps.length<4611686018427387904)(hstop:∃e,e<ps.length/\Bs ps ((st k+e) % ps.length)=0)
  (hs:Ab W w (blk b [.int .u64 seed,.l s.a s.n s.c,.i n1,.i u1]::recs (Cr Rec.si) s ps::M)) :
  Calls PR 158 #[pq b 0,.s k] w λe w'=>e = .returned (.tuple #[.i ((AI st ps k).1:Int),.b (AI st ps k).2])/\Ab W w' (blk b [.int .u64 seed,.l s.a s.n s.c,.i n1,.i u1]::recs (Cr Rec.si) s ps::M):=by
 refine c1 (cw ⟨mixed,Tryz.func158,rfl⟩ Aj7 ?_);have hn:=(Bx (s:=s) hs GG.pos).1;refine Al [blk b [.int .u64 seed,.l s.a s.n s.c,.i n1,.i u1]] hs λw hs=>?_
 repeat (first|with_reducible refine Aa ?_|((with_reducible refine BY ?_);first|refine Aq ?_|fail)|fail)
 refine Am (Gs hs hz) λe w ⟨he,hs⟩=>⟨_,he,?_⟩
 repeat (first|((with_reducible refine Bf ?_);first|refine Af hs ?_|fail)|fail)
 refine Am (Ga (n:=s.n) hs (FR _ _).1 (by omega) (by omega)) λe w ⟨he,hs⟩=>⟨_,he,?_⟩;have e9:(EJ seed k).toNat % s.n=Az seed ps.length k:=by rw[hn,Jc]
 rw[e9];have loop:∀(f:Nat)(free:Option Nat)(i:Nat)(w:World),i<ps.length->(∃e,e<f/\Bs ps ((i+e) % ps.length)=0)->Ab W w (blk b [.int .u64 seed,.l s.a s.n s.c,.i n1,.i u1]::recs (Cr Rec.si) s ps::M) ->
   NL Be (λv w'=>v = .tuple #[.i ((AC ps k f free i).1:Int),.b (AC ps k f free i).2]/\Ab W w' (blk b [.int .u64 seed,.l s.a s.n s.c,.i n1,.i u1]::recs (Cr Rec.si) s ps::M)) f (some ⟨b,0,none⟩) k (Ln free) (i:Int) w:=by
  intro f
  induction f with
  | zero=>intro free i w hi ⟨e,he,_⟩;omega
  | succ f ih=>
   intro free i w hi hstop hs;have hm:(i+1) % ps.length<ps.length:=Nat.mod_lt _ hl.1;have next:Bs ps i≠0->∃e',e'<f/\Bs ps (((i+1) % ps.length+e') % ps.length)=0:=by
    obtain⟨e,he,hz0⟩:=hstop;intro hne;cases e with
    | zero=>rw[Nat.add_zero,Nat.mod_eq_of_lt hi] at hz0;exact absurd hz0 hne
    | succ e=>exact⟨e,by omega,by rw[DG];exact hz0⟩
   have hwr:Int.tmod (IntKind.wrap .i64 ((i:Int)+1)) (s.n:Int)=(((i+1) % ps.length:Nat):Int):=by
    rw[i64_in _ (by omega),hn,Int.tmod_eq_emod_of_nonneg (by omega)];simp
   have j4:∀(free':Option Nat)(w:World),Bs ps i≠0->Ab W w (blk b [.int .u64 seed,.l s.a s.n s.c,.i n1,.i u1]::recs (Cr Rec.si) s ps::M)->AC ps k (f+1) free i=AC ps k f free' ((i+1) % ps.length) ->
     Ue Be (λv w'=>v = .tuple #[.i ((AC ps k (f+1) free i).1:Int),.b (AC ps k (f+1) free i).2]/\Ab W w' (blk b [.int .u64 seed,.l s.a s.n s.c,.i n1,.i u1]::recs (Cr Rec.si) s ps::M)) f (some ⟨b,0,none⟩) k (Ln free') (i:Int) w:=by
    intro free' w hne hs he;refine jw W5 ?_;rw[he]
    repeat (first|with_reducible refine Aa ?_|((with_reducible refine A2 ?_);first|refine Ah hs ?_|fail)|((with_reducible refine PM ?_);first|refine Lc ?_|fail)|fail)
    rw[hwr];exact ih free' _ w hm (next hne) hs
   rw[W7];have hcast:((i:Int)).toNat=i:=Int.toNat_natCast i
   repeat (first|with_reducible refine Aa ?_|((with_reducible refine A2 ?_);first|refine Ah hs ?_|refine Ck hs ?_|fail)|((with_reducible refine BC ?_);first|refine BF hs λb_ o_ hs=>?_|fail)|fail)
   rw[hcast];have ei:(ps.getD i default).is_=Bs ps i:=rfl;have ek:(ps.getD i default).key=Dx ps i:=rfl;rw[ei];have j2:∀(t:Bool)(w:World)(b1 o1:Nat),t=decide (Bs ps i=2/\Dx ps i=k)->Ab W w (blk b [.int .u64 seed,.l s.a s.n s.c,.i n1,.i u1]::reca (Cr Rec.si) b1 o1 s ps::M) ->
     Uc Be (λv w'=>v = .tuple #[.i ((AC ps k (f+1) free i).1:Int),.b (AC ps k (f+1) free i).2]/\Ab W w' (blk b [.int .u64 seed,.l s.a s.n s.c,.i n1,.i u1]::recs (Cr Rec.si) s ps::M)) f (some ⟨b,0,none⟩) k (Ln free) (i:Int) b1 (o1+i*4) t w:=by
    intro t w b1 o1 ht hs;refine jw W3 ?_;rw[ht]
    with_reducible refine Ee (λh1=>?_) (λh1=>?_)
    ·have e1:AC ps k (f+1) free i=(i,true):=by rw[AC,if_pos h1]
     rw[e1];exact⟨rfl,by exact Ab.fin hs⟩
    ·repeat (first|with_reducible refine Aa ?_|((with_reducible refine A2 ?_);first|refine Ck hs ?_|fail)|fail)
     rw[ei];have j3:∀(t:Bool)(w:World),t=decide (Bs ps i=1/\free=none)->Ab W w (blk b [.int .u64 seed,.l s.a s.n s.c,.i n1,.i u1]::reca (Cr Rec.si) b1 o1 s ps::M) ->
       Ud Be (λv w'=>v = .tuple #[.i ((AC ps k (f+1) free i).1:Int),.b (AC ps k (f+1) free i).2]/\Ab W w' (blk b [.int .u64 seed,.l s.a s.n s.c,.i n1,.i u1]::recs (Cr Rec.si) s ps::M)) f (some ⟨b,0,none⟩) k (Ln free) (i:Int) b1 (o1+i*4) t w:=by
      intro t w ht hs;refine jw W4 ?_;rw[ht]
      with_reducible refine Ee (λh2=>?_) (λh2=>?_)
      ·exact j4 (some i) w (by rw[h2.1];decide) (by exact Ab.fin hs) (by rw[AC,if_neg h1,if_pos h2])
      ·repeat (first|with_reducible refine Aa ?_|((with_reducible refine A2 ?_);first|refine Ck hs ?_|fail)|fail)
       rw[ei];have j5:∀(t:Bool)(w:World),t=decide (Bs ps i=0/\free=none)->Ab W w (blk b [.int .u64 seed,.l s.a s.n s.c,.i n1,.i u1]::reca (Cr Rec.si) b1 o1 s ps::M) ->
         Uf Be (λv w'=>v = .tuple #[.i ((AC ps k (f+1) free i).1:Int),.b (AC ps k (f+1) free i).2]/\Ab W w' (blk b [.int .u64 seed,.l s.a s.n s.c,.i n1,.i u1]::recs (Cr Rec.si) s ps::M)) f (some ⟨b,0,none⟩) k (Ln free) (i:Int) b1 (o1+i*4) t w:=by
        intro t w ht hs;refine jw W6 ?_;rw[ht]
        with_reducible refine Ee (λh3=>?_) (λh3=>?_)
        ·have e1:AC ps k (f+1) free i=(i,false):=by rw[AC,if_neg h1,if_neg h2,if_pos h3.1,h3.2];rfl
         rw[e1];exact⟨rfl,by exact Ab.fin hs⟩
        ·repeat (first|with_reducible refine Aa ?_|((with_reducible refine A2 ?_);first|refine Ck hs ?_|fail)|fail)
         rw[ei]
         with_reducible refine BP (λh4=>?_) (λh4=>?_)
         ·have e1:AC ps k (f+1) free i=(free.getD i,false):=by rw[AC,if_neg h1,if_neg h2,if_pos h4]
          rw[e1];cases free with
          | none=>exact absurd ⟨h4,rfl⟩ h3
          | some j=>exact⟨rfl,by exact Ab.fin hs⟩
         ·exact j4 free w h4 (by exact Ab.fin hs) (by rw[AC,if_neg h1,if_neg h2,if_neg h4])
       with_reducible refine BP (λh3=>?_) (λh3=>?_)
       ·exact j5 _ w (by simp[h3,Gr]) (by exact Ab.fin hs)
       ·exact j5 _ w (by simp[h3]) (by exact Ab.fin hs)
     with_reducible refine BP (λh2=>?_) (λh2=>?_)
     ·exact j3 _ w (by simp[h2,Gr]) (by exact Ab.fin hs)
     ·exact j3 _ w (by simp[h2]) (by exact Ab.fin hs)
   with_reducible refine BP (λh1=>?_) (λh1=>?_)
   ·repeat (first|with_reducible refine Aa ?_|((with_reducible refine A2 ?_);first|refine EL hs ?_|fail)|fail)
    rw[ek];refine j2 _ w _ _ ?_ (by exact Ab.fin hs);rw[Q7];simp[h1]
   ·refine j2 _ w _ _ ?_ (by exact Ab.fin hs);simp[h1]
 subst hst;have hl2:=loop ps.length none (Az seed ps.length k) w (C9 hl.1 k) hstop hs;rw[show Ln none = -1 from rfl] at hl2;unfold AI;refine⟨ps.length,?_⟩;exact hl2
theorem Jx{k:BA}{v:(BA×Int)}{j:Nat}(hj:j<ps.length)(hb:ps.length<4611686018427387904)(hu:u1=(A7 ps:Int))(hn1:0<=n1/\n1<4611686018427387904)(hs:Ab W w (blk b [.int .u64 seed,.l s.a s.n s.c,.i n1,.i u1]::recs (Cr Rec.si) s ps::M)) :
  Calls PR 166 #[pq b 0,.i (j:Int),.s k,.agg #[.s (v).1,.i (v).2]] w λe w'=>e = .returned (.tuple #[])/\Ab W w' (blk b [.int .u64 seed,.l s.a s.n s.c,.i (n1+1),.i (A7 (ps.set j ⟨2,k,v⟩):Int)]::recs (Cr Rec.si) s (ps.set j ⟨2,k,v⟩)::M):=by
 refine c1 (cw ⟨mixed,Tryz.func166,rfl⟩ Akf ?_);refine Ai hs λbv w hs=>?_;have hn:=(Bx (s:=s) hs GG.pos).1;have hle:A7 ps<=ps.length:=List.countP_le_length;rw[Bl hj _ (by show(2:Int)≠0;decide)]
 repeat (first|with_reducible refine Aa ?_|((with_reducible refine A2 ?_);first|refine Ah hs ?_|refine Ck hs ?_|fail)|((with_reducible refine BC ?_);first|refine BF hs λb_ o_ hs=>?_|fail)|fail)
 simp only[Int.toNat_natCast];have ei:(ps.getD j default).is_=Bs ps j:=rfl;rw[ei]
 with_reducible refine BP (λh1=>?_) (λh1=>?_)
 ·repeat (first|with_reducible refine Aa ?_|((with_reducible refine A2 ?_);first|refine Ah hs ?_|fail)|((with_reducible refine Bm ?_);first|refine A4 hs λw hs=>?_|fail)|fail)
  refine jw LY ?_
  repeat (first|with_reducible refine Aa ?_|((with_reducible refine A2 ?_);first|refine Ah hs ?_|fail)|((with_reducible refine Bm ?_);first|refine A4 hs λw hs=>?_|refine FJ hs λw hs=>?_|fail)|((with_reducible refine BC ?_);first|refine Ha hs ?_|fail)|((with_reducible refine BY ?_);first|refine Aq ?_|fail)|((with_reducible refine Bf ?_);first|refine AW hs ?_|fail)|((with_reducible refine DQ ?_);first|refine A9 hs λw hs=>?_|fail)|fail)
  rw[i64_in (n1+1) (by omega),hu,i64_in _ (by omega)] at hs;simp only[Int.toNat_natCast] at hs;rw[if_pos h1];exact⟨rfl,by exact Ab.fin hs⟩
 ·refine jw LY ?_
  repeat (first|with_reducible refine Aa ?_|((with_reducible refine A2 ?_);first|refine Ah hs ?_|fail)|((with_reducible refine Bm ?_);first|refine A4 hs λw hs=>?_|refine FJ hs λw hs=>?_|fail)|((with_reducible refine BC ?_);first|refine Ha hs ?_|fail)|((with_reducible refine BY ?_);first|refine Aq ?_|fail)|((with_reducible refine Bf ?_);first|refine AW hs ?_|fail)|((with_reducible refine DQ ?_);first|refine A9 hs λw hs=>?_|fail)|fail)
  rw[i64_in (n1+1) (by omega),hu] at hs;simp only[Int.toNat_natCast] at hs;rw[if_neg h1,Nat.add_zero];exact⟨rfl,by exact Ab.fin hs⟩
theorem QM{st:BA->Nat}(hi:BV st ps m)(hkz:∀e∈m,e.1.size<4611686018427387904)(hm:m.length<1000000000)(hs:Ab W w (blk b [.int .u64 seed,.l s.a s.n s.c,.i (m.length:Int),.i u1]::recs (Cr Rec.si) s ps::M)) :
  Calls PR 167 #[pq b 0] w λe w'=>e = .returned (.tuple #[])/\Ab W w' (ixr Rec.si b seed m::M):=by
 refine c1 (cw ⟨mixed,Tryz.func167,rfl⟩ Akg ?_);have hn:=(Bx (s:=s) hs GG.pos).1;have hsmall:=hi.small;obtain⟨N,hN⟩:∃N:Nat,N=max 8 (4*(m.length+1)):=⟨_,rfl⟩;have e1:(if (IntKind.wrap .i64 ((4:Int)*(IntKind.wrap .i64 ((m.length:Int)+(1:Int)))))>(8:Int) then (IntKind.wrap .i64 ((4:Int)*(IntKind.wrap .i64 ((m.length:Int)+(1:Int))))) else (8:Int))=(N:Int):=by
  rw[i64_in ((m.length:Int)+1) (by omega),i64_in _ (by omega)];split <;> omega
 repeat (first|with_reducible refine Aa ?_|((with_reducible refine A2 ?_);first|refine Ah hs ?_|fail)|fail)
 rw[e1];refine Eg (sz:=4) hs rfl (by omega) (by omega) (by omega) (by omega) λs2 w hn2 _ _ hs=>?_;rw[Int.toNat_natCast] at hs hn2;have hs:Ab W w (recs (Cr Rec.si) s2 (List.replicate N ⟨0,Ae,((Ae,0):BA×Int)⟩)::blk b [.int .u64 seed,.l s.a s.n s.c,.i (m.length:Int),.i u1]::recs (Cr Rec.si) s ps::M):=by
  have e:=DI (Cr Rec.si) ⟨0,Ae,((Ae,0):BA×Int)⟩ N;unfold recs;rw[<- e];exact hs
 repeat (first|with_reducible refine Aa ?_|((with_reducible refine Bm ?_);first|refine A4 hs λw hs=>?_|fail)|fail)
 have hinv:=BV.new (st:=Az seed N) (n:=N) (z:=(⟨0,Ae,((Ae,0):BA×Int)⟩:Pl (BA×Int))) rfl (by omega) (by omega) (C9 (by omega));have hdist:(AP ps).map (·.1) |>.Nodup:=(hi.perm.map (·.1)).nodup_iff.2 hi.nodup
 have hlen:(AP ps).length=m.length:=hi.perm.length_eq;have loop:∀(f i:Nat)(w:World)(ps2:List (Pl (BA×Int)))(mi:List (BA×(BA×Int))),i+f=ps.length->ps2.length=N->BV (Az seed N) ps2 mi->mi.Perm (AP (ps.take i))->A7 ps2<=mi.length ->
   Ab W w (blk b [.int .u64 seed,.l s2.a s2.n s2.c,.i (mi.length:Int),.i (A7 ps2:Int)]::recs (Cr Rec.si) s2 ps2::recs (Cr Rec.si) s ps::M) ->
   Kl Be (λv w'=>v = .tuple #[]/\Ab W w' (ixr Rec.si b seed m::M)) (f+1) (some ⟨b,0,none⟩) s (s.n:Int) (i:Int) w:=by
  intro f
  induction f with
  | zero=>
   intro i w ps2 mi hif hpl hiv hp hu hs;rw[LZ];refine Ac (decide_eq_false (by omega)) ⟨rfl,?_⟩;rw[List.take_of_length_le (by omega)] at hp;have hpm:=hp.trans hi.perm;refine AV s2 (ps:=ps2) (n:=(mi.length:Int)) ?_ ?_ (by rw[hpm.length_eq]) rfl (by exact Ab.fin hs)
   ·rw[hpl];exact hiv.perm' hpm
   ·rw[hpl];have:=hpm.length_eq;omega
  | succ f ih=>
   intro i w ps2 mi hif hpl hiv hp hu hs;rw[LZ];refine Ak (decide_eq_true (by omega)) ?_
   repeat (first|((with_reducible refine A2 ?_);first|refine Ah hs ?_|refine Ck hs ?_|refine EL hs ?_|refine MA hs ?_|refine Yx hs ?_|fail)|((with_reducible refine Bm ?_);first|refine A4 hs λw hs=>?_|fail)|((with_reducible refine BC ?_);first|refine BF hs λb_ o_ hs=>?_|fail)|((with_reducible refine CC ?_);first|refine Ai hs λb_ w hs=>?_|fail)|fail)
   simp only[Int.toNat_natCast] at hs ⊢;have hil:i<ps.length:=by omega
   have hft:AP (ps.take (i+1))=AP (ps.take i)++En (ps.getD i default):=by
    rw[Cc hil,BB];simp[AP]
   with_reducible refine BP (λh1=>?_) (λh1=>?_)
   ·have hop:En (ps.getD i default)=[((ps.getD i default).key,(ps.getD i default).v)]:=Ft h1;rw[hop] at hft;have hsub:(AP (ps.take (i+1))).Sublist (AP ps):=by
     conv=>rhs;rw[<- List.take_append_drop (i+1) ps,BB]
     exact List.sublist_append_left _ _
    have hmem:((ps.getD i default).key,(ps.getD i default).v)∈m:=hi.perm.subset (hsub.subset (by rw[hft];simp));have hnd:=hdist.sublist (hsub.map (·.1));rw[hft,List.map_append] at hnd;have hno:AE mi (ps.getD i default).key=none:=by
     rw[Bu];intro e he hk;rw[List.nodup_append] at hnd;exact hnd.2.2 _ (List.mem_map_of_mem (f:=(·.1)) (hp.subset he)) _ (by simp) hk
    have hlt:mi.length+1<=m.length:=by
     have:=hsub.length_le;rw[hft,List.length_append,<- hp.length_eq] at this;simp only[List.length_cons,List.length_nil] at this;omega
    repeat (first|((with_reducible refine A2 ?_);first|refine Ah hs ?_|fail)|fail)
    have hs:Ab W w (blk b [.int .u64 seed,.l s2.a s2.n s2.c,.i (mi.length:Int),.i (A7 ps2:Int)]::recs (Cr Rec.si) s2 ps2::blk b_ [.i (ps.getD i default).is_,.s (ps.getD i default).key,.s (ps.getD i default).v.1,.i (ps.getD i default).v.2]::recs (Cr Rec.si) s ps::M):=by exact Ab.fin hs
    refine AG (Fm (st:=Az seed N) (by rw[hpl]) (hkz _ hmem) (by omega) (hiv.stop _) hs) λe w ⟨he,hs⟩=>⟨_,_,he,?_⟩;have hfm:(AI (Az seed N) ps2 (ps.getD i default).key).2=false:=by
     cases hb:(AI (Az seed N) ps2 (ps.getD i default).key).2 with
     | false=>rfl
     | true=>have:=(hiv.hit hb).2.2;rw[hno] at this;cases this
    obtain⟨hj,hj2,_,hjr⟩:=hiv.miss hfm
    repeat (first|((with_reducible refine A2 ?_);first|refine Ah hs ?_|fail)|fail)
    refine Ar (Jx (v:=(ps.getD i default).v) hj (by omega) rfl (by omega) hs) λe w ⟨he,hs⟩=>⟨he,?_⟩;rw[i64_in _ (by omega)];have hus:=Bl hj (⟨2,(ps.getD i default).key,(ps.getD i default).v⟩:Pl (BA×Int)) (by show(2:Int)≠0;decide)
    have hus2:A7 (ps2.set (AI (Az seed N) ps2 (ps.getD i default).key).1 ⟨2,(ps.getD i default).key,(ps.getD i default).v⟩)<=A7 ps2+1:=by rw[hus];split <;> omega
    refine ih (i+1) w _ (((ps.getD i default).key,(ps.getD i default).v)::mi) (by omega) (by rw[List.length_set];exact hpl) (hiv.add hj hj2 hno hjr (by omega)) ?_ (by simp only[List.length_cons];omega) ?_
    ·rw[hft];exact((List.Perm.cons _ hp).trans (List.perm_append_comm (l₁:=[_])))
    ·simp only[List.length_cons,Int.natCast_add];exact Ab.fin hs
   ·have hop:En (ps.getD i default)=[]:=Hl h1;rw[hop,List.append_nil] at hft;rw[i64_in _ (by omega)];exact ih (i+1) w ps2 mi (by omega) hpl hiv (by rw[hft];exact hp) hu (by exact Ab.fin hs)
 refine⟨ps.length+1,?_⟩;refine loop ps.length 0 w (List.replicate N ⟨0,Ae,((Ae,0):BA×Int)⟩) [] (by omega) (by simp) hinv (by simp[AP]) ?_ ?_
 ·have:A7 (List.replicate N (⟨0,Ae,((Ae,0):BA×Int)⟩:Pl (BA×Int)))=0:=by
   unfold A7;rw[List.countP_eq_zero];intro a ha;rw[List.eq_of_mem_replicate ha];simp
  rw[this];exact Nat.zero_le _
 ·have:A7 (List.replicate N (⟨0,Ae,((Ae,0):BA×Int)⟩:Pl (BA×Int)))=0:=by
   unfold A7;rw[List.countP_eq_zero];intro a ha;rw[List.eq_of_mem_replicate ha];simp
  rw[this];exact Ab.fin hs
end
section
variable{W w:World}{L M:List HP}{F:HP->List HP}{b:Nat}{seed:Int}{m:List (BA×(BA×Int))}{k:BA}
theorem Ah4(hs:Ab W w L):Calls PR 114 #[.int .u64 seed] w λe w'=>∃b,e = .returned (pq b 0)/\Ab W w' (ixr Rec.si b seed []::L):=by
 refine(cw ⟨mixed,Tryz.func114,rfl⟩ Ai6 (Q:=λv w'=>∃b,v=pq b 0/\Ab W w' (ixr Rec.si b seed []::L)) ?_).mono λe w' ⟨v,he,b,hv,hs⟩=>⟨b,by rw[he,hv],hs⟩;refine Eg (sz:=4) hs rfl (by omega) (by omega) (by omega) (by omega) λs2 w hn2 _ _ hs=>?_;have hs:Ab W w (recs (Cr Rec.si) s2 (List.replicate 8 ⟨0,Ae,((Ae,0):BA×Int)⟩)::L):=hs
 repeat (first|((with_reducible refine CC ?_);first|refine Ai hs λb_ w hs=>?_|fail)|fail)
 refine⟨_,rfl,AV s2 (ps:=List.replicate 8 ⟨0,Ae,((Ae,0):BA×Int)⟩) (n:=0) (u:=0) (BV.new (n:=8) rfl (by omega) (by omega) (C9 (by simp))) (by decide +revert) rfl rfl (by exact Ab.fin hs)⟩
theorem Jg(h:Ab W w L)[hA:At L b (ixr Rec.si b seed m) F](hz:k.size<4611686018427387904):Calls PR 120 #[pq b 0,.s k] w λe w'=>e = .returned (.tuple #[.agg #[.s ((AE m k).getD ((Ae,0):BA×Int)).1,.i ((AE m k).getD ((Ae,0):BA×Int)).2],.b (AE m k).isSome])/\Ab W w' (F (ixr Rec.si b seed m)):=by
 refine At.call1 (hA:=hA) h λM hs=>?_;clear h hA;refine c1 (cw ⟨mixed,Tryz.func120,rfl⟩ Ajc ?_);refine Ai hs λbz w hs=>?_;have hs:Ab W w (ixr Rec.si b seed m::blk bz [.s Ae,.i (0:Int)]::M):=by exact Ab.fin hs
 refine Ak rfl ?_;obtain⟨s,ps,hi,h2,hn,hs⟩:=Cy hs;have hsm:=hi.small;have hbg:=hi.big;refine AG (Fm (st:=Az seed ps.length) rfl hz (by omega) (hi.stop _) hs) λe w ⟨he,hs⟩=>⟨_,_,he,?_⟩;refine Ap (λhb=>?_) (λhb=>?_)
 ·obtain⟨hj,_,hg⟩:=hi.hit hb;rw[hg]
  repeat (first|with_reducible refine Aa ?_|((with_reducible refine A2 ?_);first|refine Ah hs ?_|refine EL hs ?_|refine MA hs ?_|fail)|((with_reducible refine Bm ?_);first|refine A4 hs λw hs=>?_|fail)|((with_reducible refine BC ?_);first|refine BF hs λb_ o_ hs=>?_|fail)|fail)
  simp only[Int.toNat_natCast];exact⟨rfl,AV s hi h2 rfl rfl (by exact Ab.fin hs)⟩
 ·rw[(hi.miss hb).2.2.1];refine jw Wo ?_
  repeat (first|((with_reducible refine A2 ?_);first|refine Ah hs ?_|fail)|((with_reducible refine Bm ?_);first|refine A4 hs λw hs=>?_|fail)|((with_reducible refine CC ?_);first|refine Ai hs λb_ w hs=>?_|fail)|fail)
  exact⟨rfl,AV s hi h2 rfl rfl (by exact Ab.fin hs)⟩
theorem Ah3(h:Ab W w L)[hA:At L b (ixr Rec.si b seed m) F]:Calls PR 70 #[pq b 0] w λe w'=>e = .returned (.i (m.length:Int))/\Ab W w' (F (ixr Rec.si b seed m)):=by
 refine At.call1 (hA:=hA) h λM hs=>?_;clear h hA;refine c1 (cw ⟨mixed,Tryz.func70,rfl⟩ Avt ?_);refine Ac rfl ?_;obtain⟨s,ps,hi,h2,hn,hs⟩:=Cy hs
 repeat (first|with_reducible refine Aa ?_|((with_reducible refine A2 ?_);first|refine Ah hs ?_|fail)|fail)
 exact⟨rfl,AV s hi h2 rfl rfl hs⟩
theorem Ah5(h:Ab W w L)[hA:At L b (ixr Rec.si b seed m) F]{v:(BA×Int)}(hz:k.size<4611686018427387904)(hkz:∀e∈m,e.1.size<4611686018427387904)(hm:m.length<900000000):Calls PR 127 #[pq b 0,.s k,.agg #[.s (v).1,.i (v).2]] w λe w'=>e = .returned (.b (AE m k).isNone)/\Ab W w' (F (ixr Rec.si b seed (Cj m k v))):=by
 refine At.call1 (hA:=hA) h λM hs=>?_;clear h hA;refine c1 (cw ⟨mixed,Tryz.func127,rfl⟩ Aji ?_);refine Ai hs λbv w hs=>?_;have hs:Ab W w (ixr Rec.si b seed m::blk bv [.s v.1,.i v.2]::M):=by exact Ab.fin hs
 refine Ac rfl ?_;obtain⟨s,ps,hi,h2,hn,hs⟩:=Cy hs;have hsm:=hi.small;have hbg:=hi.big;refine AG (Fm (st:=Az seed ps.length) rfl hz (by omega) (hi.stop _) hs) λe w ⟨he,hs⟩=>⟨_,_,he,?_⟩;refine Ap (λhb=>?_) (λhb=>?_)
 ·obtain⟨hj,hit,hg⟩:=hi.hit hb;have hp:Cj m k v=E5 m k v:=by unfold Cj;rw[hg]
  rw[hg,hp]
  repeat (first|with_reducible refine Aa ?_|((with_reducible refine A2 ?_);first|refine Ah hs ?_|fail)|((with_reducible refine BC ?_);first|refine BF hs λb_ o_ hs=>?_|fail)|((with_reducible refine BY ?_);first|refine Aq ?_|fail)|((with_reducible refine Bf ?_);first|refine AW hs ?_|fail)|((with_reducible refine DQ ?_);first|refine A9 hs λw hs=>?_|fail)|fail)
  simp only[Int.toNat_natCast];refine VB (vs:=[.s v.1,.i v.2]) (pre:=[.i (ps.getD (AI (Az seed ps.length) ps k).1 default).is_,.s (ps.getD (AI (Az seed ps.length) ps k).1 default).key]) (mid:=[.s (ps.getD (AI (Az seed ps.length) ps k).1 default).v.1,.i (ps.getD (AI (Az seed ps.length) ps k).1 default).v.2]) (tl:=[]) (a':={ ps.getD (AI (Az seed ps.length) ps k).1 default with v:=v }) (i:=(AI (Az seed ps.length) ps k).1) (j:=2) (n:=4) hs rfl hj rfl rfl rfl rfl λw hs=>?_;have hset:=hi.set (v:=v) hj hit;have hus:A7 (ps.set (AI (Az seed ps.length) ps k).1 { ps.getD (AI (Az seed ps.length) ps k).1 default with v:=v })=A7 ps:=by
   rw[Bl hj _ (by show Bs ps _≠0;rw[hit.1];decide),if_neg (by rw[hit.1];decide)];rfl
  refine⟨rfl,AV s (n:=(m.length:Int)) (u:=(A7 ps:Int)) (by rw[List.length_set];exact hset) (by rw[hus,List.length_set];exact h2) (by simp[E5]) (by rw[hus]) (by exact Ab.fin hs)⟩
 ·obtain⟨hj,hj2,hg,hr⟩:=hi.miss hb;have hp:Cj m k v=(k,v)::m:=by unfold Cj;rw[hg]
  rw[hg,hp]
  repeat (first|((with_reducible refine A2 ?_);first|refine Ah hs ?_|fail)|fail)
  refine Ar (Jx (v:=v) hj (by omega) rfl (by omega) hs) λe w ⟨he,hs⟩=>⟨he,?_⟩;have hus:=Bl hj (⟨2,k,v⟩:Pl (BA×Int)) (by show(2:Int)≠0;decide)
  have hus2:A7 (ps.set (AI (Az seed ps.length) ps k).1 ⟨2,k,v⟩)<=A7 ps+1:=by rw[hus];split <;> omega
  have hadd:=hi.add (v:=v) hj hj2 hg hr (by omega);have hsl:(ps.set (AI (Az seed ps.length) ps k).1 ⟨2,k,v⟩).length=ps.length:=by simp
  generalize hps2:ps.set (AI (Az seed ps.length) ps k).1 ⟨2,k,v⟩=ps2 at hs hus2 hadd hsl
  repeat (first|with_reducible refine Aa ?_|((with_reducible refine A2 ?_);first|refine Ah hs ?_|fail)|((with_reducible refine BY ?_);first|refine Aq ?_|fail)|((with_reducible refine Bf ?_);first|refine AW hs ?_|fail)|((with_reducible refine DQ ?_);first|refine A9 hs λw hs=>?_|fail)|fail)
  rw[i64_in _ (by omega),hn]
  with_reducible refine Di (λh9=>?_) (λh9=>?_)
  ·have hkz2:∀e∈(k,v)::m,e.1.size<4611686018427387904:=by
    intro e he;rcases List.mem_cons.1 he with rfl|he
    ·exact hz
    ·exact hkz e he
   have hs2:Ab W w (blk b [.int .u64 seed,.l s.a s.n s.c,.i (((k,v)::m).length:Int),.i (A7 ps2:Int)]::recs (Cr Rec.si) s ps2::M):=by
    simp only[List.length_cons,Int.natCast_add];exact Ab.fin hs
   refine Ar (QM hadd hkz2 (by simp;omega) hs2) λe w ⟨he,hs⟩=>⟨he,?_⟩;exact⟨rfl,hs⟩
  ·exact⟨rfl,AV s (n:=(m.length:Int)+1) (by rw[hsl];exact hadd) (by omega) (by simp) rfl (by exact Ab.fin hs)⟩
theorem VE(h:Ab W w L)[hA:At L b (ixr Rec.si b seed m) F](hz:k.size<4611686018427387904)(hm:m.length<900000000):Calls PR 136 #[pq b 0,.s k] w λe w'=>e = .returned (.tuple #[.agg #[.s ((AE m k).getD ((Ae,0):BA×Int)).1,.i ((AE m k).getD ((Ae,0):BA×Int)).2],.b (AE m k).isSome])/\Ab W w' (F (ixr Rec.si b seed (BJ m k))):=by
 refine At.call1 (hA:=hA) h λM hs=>?_;clear h hA;refine c1 (cw ⟨mixed,Tryz.func136,rfl⟩ Ajp ?_);refine Ai hs λb1 w hs=>?_;refine(Jg hs hz).mono λe w ⟨he,hs⟩=>⟨_,_,_,he,?_⟩
 repeat (first|((with_reducible refine Bm ?_);first|refine A4 hs λw hs=>?_|fail)|((with_reducible refine CC ?_);first|refine Ai hs λb_ w hs=>?_|fail)|fail)
 have hs:Ab W w (ixr Rec.si b seed m::blk b_ [.s ((AE m k).getD ((Ae,0):BA×Int)).1,.i ((AE m k).getD ((Ae,0):BA×Int)).2]::blk b1 [.s Ae,.i (0:Int)]::M):=by exact Ab.fin hs
 refine K3 (λv hg=>?_) (λhg=>?_)
 ·obtain⟨s,ps,hi,h2,hn,hs⟩:=Cy hs;have hsm:=hi.small;have hbg:=hi.big;refine AG (Fm (st:=Az seed ps.length) rfl hz (by omega) (hi.stop _) hs) λe w ⟨he,hs⟩=>⟨_,_,he,?_⟩;have hb:(AI (Az seed ps.length) ps k).2=true:=by
   cases hb:(AI (Az seed ps.length) ps k).2 with
   | true=>rfl
   | false=>have:=(hi.miss hb).2.2.1;rw[hg] at this;cases this
  obtain⟨hj,hit,_⟩:=hi.hit hb
  repeat (first|with_reducible refine Aa ?_|((with_reducible refine A2 ?_);first|refine Ah hs ?_|fail)|((with_reducible refine Bm ?_);first|refine A4 hs λw hs=>?_|refine FJ hs λw hs=>?_|fail)|((with_reducible refine BC ?_);first|refine BF hs λb_ o_ hs=>?_|fail)|fail)
  rw[i64_in _ (by omega)] at hs;simp only[Int.toNat_natCast] at hs;have hdel:=hi.del (z:=(⟨1,Ae,((Ae,0):BA×Int)⟩:Pl (BA×Int))) hj hit rfl;have hus:A7 (ps.set (AI (Az seed ps.length) ps k).1 (⟨1,Ae,((Ae,0):BA×Int)⟩:Pl (BA×Int)))=A7 ps:=by
   rw[Bl hj _ (by show(1:Int)≠0;decide),if_neg (by rw[hit.1];decide)];rfl
  have hl:=KD hi.nodup hg;refine⟨by trivial,AV s (n:=(m.length:Int)-1) (u:=(A7 ps:Int)) (by rw[List.length_set];exact hdel) (by rw[hus,List.length_set];exact h2) (by omega) (by rw[hus]) (by exact Ab.fin hs)⟩
 ·have:BJ m k=m:=by
   unfold BJ;rw[List.filter_eq_self];intro e he;simpa using Bu.1 hg e he
  rw[this]
  repeat (first|((with_reducible refine A2 ?_);first|refine Ah hs ?_|fail)|((with_reducible refine Bm ?_);first|refine A4 hs λw hs=>?_|fail)|fail)
  exact⟨by trivial,by exact Ab.fin hs⟩
theorem Abz(h:Ab W w L)[hA:At L b (ixr Rec.si b seed m) F](hm:m.length<900000000):Calls PR 71 #[pq b 0] w λe w'=>∃l:Sl,e = .returned (.l l.a l.n l.c)/\Ab W w' (recs Rec.str l (EA (m.map (·.1)))::F (ixr Rec.si b seed m)):=by
 refine At.oneX (hA:=hA) h λM hs hb=>?_;refine(cw ⟨mixed,Tryz.func71,rfl⟩ Avu (Q:=λv w'=>∃l:Sl,v = .l l.a l.n l.c/\Ab W w' (ixr Rec.si b seed m::recs Rec.str l (EA (m.map (·.1)))::M)) ?_).mono λe w' ⟨v,he,l,hv,hs⟩=>⟨l,by rw[he,hv],?_⟩
 ·skip;refine Ac rfl ?_;obtain⟨s,ps,hi,h2,hn,hs⟩:=Cy hs;have hsm:=hi.small;have hfl:(AP ps).length=m.length:=hi.perm.length_eq
  repeat (first|with_reducible refine Aa ?_|((with_reducible refine A2 ?_);first|refine Ah hs ?_|fail)|fail)
  have hs:=Ab.nilR Rec.str hs;have loop:∀(f i:Nat)(w:World)(acc:Sl),i+f=ps.length->Ab W w (recs Rec.str acc ((AP (ps.take i)).map (·.1))::blk b [.int .u64 seed,.l s.a s.n s.c,.i (m.length:Int),.i (A7 ps:Int)]::recs (Cr Rec.si) s ps::M) ->
    Pt Be (λv w'=>∃l:Sl,v = .l l.a l.n l.c/\Ab W w' (ixr Rec.si b seed m::recs Rec.str l (EA (m.map (·.1)))::M)) (f+1) acc s (s.n:Int) (i:Int) w:=by
   intro f
   induction f with
   | zero=>
    intro i w acc hif hs;rw[Pu];refine Ac (decide_eq_false (by omega)) ?_;refine jw ZZ ?_;rw[List.take_of_length_le (by omega)] at hs;refine Ar (Axy (s:=acc) hs (by simp;omega)) λe w ⟨he,hs⟩=>⟨he,acc,rfl,?_⟩
    have e1:EA ((AP ps).map (·.1))=EA (m.map (·.1)):=
     FZ (HT _) (HT _) ((JO _).trans ((hi.perm.map _).trans (JO _).symm))
    rw[e1] at hs;exact AV s hi h2 rfl rfl (by exact Ab.fin hs)
   | succ f ih=>
    intro i w acc hif hs;have hil:i<ps.length:=by omega
    have hft:AP (ps.take (i+1))=AP (ps.take i)++En (ps.getD i default):=by
     rw[Cc hil,BB];simp[AP]
    have hle:(AP (ps.take i)).length<=m.length:=by
     rw[<- hfl]
     conv=>rhs;rw[<- List.take_append_drop i ps,BB]
     simp
    rw[Pu];refine Ak (decide_eq_true (by omega)) ?_
    repeat (first|((with_reducible refine A2 ?_);first|refine Ah hs ?_|refine Ck hs ?_|refine EL hs ?_|refine MA hs ?_|refine Yx hs ?_|fail)|((with_reducible refine Bm ?_);first|refine A4 hs λw hs=>?_|fail)|((with_reducible refine BC ?_);first|refine BF hs λb_ o_ hs=>?_|fail)|((with_reducible refine CC ?_);first|refine Ai hs λb_ w hs=>?_|fail)|fail)
    simp only[Int.toNat_natCast] at hs ⊢
    with_reducible refine BP (λh1=>?_) (λh1=>?_)
    ·have hop:En (ps.getD i default)=[((ps.getD i default).key,(ps.getD i default).v)]:=Ft h1;rw[hop] at hft
     repeat (first|((with_reducible refine A2 ?_);first|refine Ah hs ?_|fail)|((with_reducible refine CC ?_);first|refine Ai hs λb_ w hs=>?_|fail)|fail)
     refine CA (s:=acc) (a:=(ps.getD i default).key) hs rfl rfl rfl rfl (by decide) (by simp;omega) λs4 w hs4 hs=>?_;rw[i64_in _ (by omega)];refine ih (i+1) w s4 (by omega) ?_;rw[hft,List.map_append];exact Ab.fin hs
    ·have hop:En (ps.getD i default)=[]:=Hl h1;rw[hop,List.append_nil] at hft;rw[i64_in _ (by omega)];refine ih (i+1) w acc (by omega) ?_;rw[hft];exact Ab.fin hs
  refine⟨ps.length+1,?_⟩;exact loop ps.length 0 w ⟨none,0,0⟩ (by omega) hs
 ·exact hb _ _ [recs Rec.str l (EA (m.map (·.1)))] hs
end
end Go.Proofs.YtjipofkjmmpjdaaGreat
namespace Go.Hb
theorem Qz{α:Type}(E:Rec α)(P:α->Prop){ks:List CK}(hks:∀x,DN ks x->∃a,x=E.cells a/\P a):∀{rows:List (List Value)},(∀x∈rows,DN ks x) ->
  ∃l:List α,rows.flatten=E.flat l/\l.length=rows.length/\∀a∈l,P a
 | [],_=>⟨[],rfl,rfl,λ_ h=>by cases h⟩
 | x::rows,h=>by
  obtain⟨l,h1,h2,h3⟩:=Qz E P hks (rows:=rows) λy hy=>h y (.tail _ hy);obtain⟨a,rfl,ha⟩:=hks x (h x (.head _));refine⟨a::l,?_,by simp[h2],λb hb=>?_⟩
  ·rw[List.flatten_cons,h1];rfl
  ·cases hb with
   | head=>exact ha
   | tail _ hb=>exact h3 b hb
def okK(k:IntKind)(n:Int):Prop:=(Lit.int k n).wf=true
def Ayx(s:BA):Prop:=s.size<=reachBytes
theorem of_ik{k:IntKind}(x:List Value)(h:DN [.int k] x):∃a,x=(Rec.int k).cells a/\okK k a:=by
 match x,h with
 | [v],⟨⟨s,hv,hw⟩,_⟩=>subst hv;exact⟨s,rfl,hw⟩
theorem arg_rec{α:Type}{W:World}{s:Sl}{ks:List CK}{rows:List (List Value)}(E:Rec α)(P:α->Prop)(hks:∀x,DN ks x->∃a,x=E.cells a/\P a)(hpos:0<E.sz)(hsz:E.sz=ks.length)
  (hr:Ab4 W ks.length s rows.flatten) (ho:∀x∈rows,DN ks x):∃l:List α,CG W s E l/\l.length=rows.length/\∀a∈l,P a:=by
 obtain⟨l,h1,h2,h3⟩:=Qz E P hks ho;refine⟨l,CG.of hpos ?_,h2,h3⟩;rw[<- h1,hsz];exact hr
def Ayr(P:Program)(t:TypeId):Bool:=match P.underlying t with
 | some (.struct _)=>true
 | _=>false
theorem Ab.keptO{W w:World}{L:List HP}[hA:AtO L W](h:Ab W w L):Ie W w:=by
 obtain⟨M,h1⟩:=hA.pos;exact(h.perm h1).kept (q:=0) rfl
theorem A1k{P:Program}{f:FuncId}{args:Array Value}{W:World}{v0:Value}(h:Calls P f args W λe w'=>∃v,e = .returned v/\(v=v0/\Ab W w' [old W])):Calls P f args W λe w'=>e = .returned v0/\Ie W w':=
 h.mono λ_ _ ⟨_,he,hv,hs⟩=>⟨by rw[he,hv],hs.keptO⟩
end Go.Hb
