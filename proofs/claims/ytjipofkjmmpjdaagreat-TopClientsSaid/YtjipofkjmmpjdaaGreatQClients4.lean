import Derived.IntWalk
import Derived.Lib.Mul64
import Derived.Laws.Bits64b
import Derived.Test.YtjipofkjmmpjdaaGreatQClients3
set_option linter.unusedVariables false
set_option linter.unusedSimpArgs false
set_option linter.unnecessarySimpa false
set_option linter.unusedSectionVars false
set_option maxRecDepth 100000
namespace Go.Proofs.YtjipofkjmmpjdaaGreat
open Go.Hb Go.IntWalk
section
variable{W w:World}{L M:List HP}{F:HP->List HP}{b nb:Nat}{c:Int}{N N':Nat}{x y:BE}{sb qb xb:Nat}{row sr sr' qr qr':Eg}{free sf sf' qf qf':List Nat}{m:LM}{key:BA}{h g i:Int}
theorem FP(h:Ab W w L)[hA:At L b (lst .s b row free) F]{x:Int}(hr:row.length+free.length<1099511627776)(hn:(row.map (·.2)).Nodup)(hx:x=Bc row key) :
  Calls PR 160 #[pq b 0,.i x] w λe w'=>(∃v o,e = .returned (.tuple #[.s v,.b o]))/\∃f',Im row free key (D8 row key) f'/\Ab W w' (F (lst .s b (D8 row key) f')):=by
 refine At.one (hA:=hA) h λM hs hb=>?_;obtain⟨hh,hp⟩:=JU hs;have hR:=(A71 (k:=key) hn hh hp).1;refine(HG hs hr (x:=x)).mono λe w' ⟨he,hs⟩=>⟨⟨_,_,he⟩,?_⟩;subst hx;cases hq:JX row (Bc row key) with
 | none=>
  simp only[hq] at hs hR;rw[hR] at hs;exact⟨_,⟨H4 row key,λk hk=>Ml hk,Vn,by rw[<- hR];omega⟩,hb _ _ hs⟩
 | some i=>
  simp only[hq] at hs hR;rw[hR] at hs;obtain⟨_,_,_,_,hlt⟩:=Mi hq;refine⟨_,⟨H4 row key,λk hk=>Ml hk,Vn,?_⟩,hb _ _ hs⟩;rw[<- hR,List.length_eraseIdx,if_pos hlt];simp;omega
theorem Mn(h:Ab W w L)[hA:At L b (lst .s b row free) F](hr:row.length+free.length<1099511627776)(hk:key∉row.map (·.2)) :
  Calls PR 162 #[pq b 0,.s key] w λe w'=>∃row' f',e = .returned (.i (Bc row' key))/\Io row free key row' f'/\Ab W w' (F (lst .s b row' f')):=by
 refine(Gn h hr).mono λe w' ⟨he,hs⟩=>⟨_,_,?_,⟨?_,λk h=>SX h,?_⟩,hs⟩
 ·rw[he,Af7 hk]
 ·rw[Av hk];simp
 ·simp;omega
theorem Vp{row1:Eg}{free1:List Nat}(h1:Im row free key row1 free1)(h2:Io row1 free1 key sr' sf'):Io row free key sr' sf':=by
 refine⟨?_,λk hk=>by rw[h2.ne k hk,h1.ne k hk],by
  have a1:=h1.len;have a2:=h2.len;have a3:=congrArg List.length h1.keys;have a4:=BM (row.map (·.2)) key
  simp only[List.length_map] at a3 a4;omega⟩
 rw[h2.keys,h1.keys,Av (λh=>(AT.1 h).2 rfl)]
theorem NV{s q:Int}(hs:Ab W w (blk nb [.i i,.i s,.i q]::eB b c sb qb xb h g::lst .s sb sr sf::M))(hr:sr.length+sf.length<1000000000)(hn:(sr.map (·.2)).Nodup)(hx:s=Bc sr key) :
  Calls PR 293 #[pq b 0,pq nb 0,.s key] w λe w'=>e = .returned (.tuple #[])/\∃sr' sf',Io sr sf key sr' sf'/\Ab W w' (blk nb [.i i,.i (Bc sr' key),.i q]::eB b c sb qb xb h g::lst .s sb sr' sf'::M):=by
 refine c1 (cw ⟨mixed,Tryz.func293,rfl⟩ Aqn ?_)
 repeat (first|with_reducible refine Aa ?_|((with_reducible refine Ax ?_);first|refine Ag hs ?_|fail)|((with_reducible refine AX ?_);first|refine Am ?_|fail)|((with_reducible refine AA ?_);first|refine A9 hs ?_|fail)|with_reducible refine As hs λw hs=>?_|fail)
 refine AH (FP hs (by omega) hn hx) λe w ⟨⟨_,_,he⟩,f',hc,hs⟩=>⟨_,_,he,?_⟩;have hl:=hc.len
 repeat (first|with_reducible refine Aa ?_|((with_reducible refine Ax ?_);first|refine Ag hs ?_|fail)|fail)
 refine An (Mn (key:=key) hs (by omega) (Ags _ _)) λe w ⟨sr',sf',he,hp,hs⟩=>⟨_,he,?_⟩
 repeat (first|with_reducible refine Aa ?_|((with_reducible refine AS ?_);first|refine A0 hs λw hs=>?_|fail)|fail)
 exact⟨rfl,sr',sf',Vp hc hp,by exact Ab.fin hs⟩
theorem NU{s q:Int}(hs:Ab W w (blk nb [.i i,.i s,.i q]::eB b c sb qb xb h g::lst .s qb qr qf::M))(hr:qr.length+qf.length<1000000000)(hn:(qr.map (·.2)).Nodup)(hx:q=Bc qr key) :
  Calls PR 291 #[pq b 0,pq nb 0,.s key] w λe w'=>e = .returned (.tuple #[])/\∃qr' qf',Io qr qf key qr' qf'/\Ab W w' (blk nb [.i i,.i s,.i (Bc qr' key)]::eB b c sb qb xb h g::lst .s qb qr' qf'::M):=by
 refine c1 (cw ⟨mixed,Tryz.func291,rfl⟩ Aql ?_)
 repeat (first|with_reducible refine Aa ?_|((with_reducible refine Ax ?_);first|refine Ag hs ?_|fail)|((with_reducible refine AX ?_);first|refine Am ?_|fail)|((with_reducible refine AA ?_);first|refine A9 hs ?_|fail)|with_reducible refine As hs λw hs=>?_|fail)
 refine AH (FP hs (by omega) hn hx) λe w ⟨⟨_,_,he⟩,f',hc,hs⟩=>⟨_,_,he,?_⟩;have hl:=hc.len
 repeat (first|with_reducible refine Aa ?_|((with_reducible refine Ax ?_);first|refine Ag hs ?_|fail)|fail)
 refine An (Mn (key:=key) hs (by omega) (Ags _ _)) λe w ⟨qr',qf',he,hp,hs⟩=>⟨_,he,?_⟩
 repeat (first|with_reducible refine Aa ?_|((with_reducible refine AS ?_);first|refine A0 hs λw hs=>?_|fail)|fail)
 exact⟨rfl,qr',qf',Vp hc hp,by exact Ab.fin hs⟩
theorem GO{s q:Int}(hs:Ab W w (blk nb [.i i,.i s,.i q]::eB b c sb qb xb h g::lst .s qb qr qf::M))(hr:qr.length+qf.length<1000000000)(hn:(qr.map (·.2)).Nodup)(hx:q=Bc qr key) :
  Calls PR 287 #[pq b 0,pq nb 0] w λe w'=>e = .returned (.tuple #[])/\∃qf',Im qr qf key (D8 qr key) qf'/\Ab W w' (blk nb [.i i,.i s,.i 0]::eB b c sb qb xb h g::lst .s qb (D8 qr key) qf'::M):=by
 refine c1 (cw ⟨mixed,Tryz.func287,rfl⟩ Aqh ?_)
 repeat (first|with_reducible refine Aa ?_|((with_reducible refine Ax ?_);first|refine Ag hs ?_|fail)|((with_reducible refine AX ?_);first|refine Am ?_|fail)|((with_reducible refine AA ?_);first|refine A9 hs ?_|fail)|with_reducible refine As hs λw hs=>?_|fail)
 refine AH (FP hs (by omega) hn hx) λe w ⟨⟨_,_,he⟩,f',hc,hs⟩=>⟨_,_,he,?_⟩
 repeat (first|with_reducible refine Aa ?_|((with_reducible refine AS ?_);first|refine A0 hs λw hs=>?_|fail)|fail)
 exact⟨rfl,f',hc,by exact Ab.fin hs⟩
theorem J0{is by_:Int}(hs:Ab W w (eB b c sb qb xb h g::M))(h1:-1099511627776<h/\h<1099511627776)(h2:-1099511627776<g/\g<1099511627776)(hb:-1<=by_/\by_<=1) :
  Calls PR 295 #[pq b 0,.i is,.i by_] w λe w'=>e = .returned (.tuple #[])/\Ab W w' (eB b c sb qb xb (h+(if is=1 then by_ else 0)) (g+(if is=3 then by_ else 0))::M):=by
 refine c1 (cw ⟨mixed,Tryz.func295,rfl⟩ Aqp ?_)
 with_reducible refine A2 (λh3=>?_) (λh3=>?_)
 ·subst h3
  repeat (first|with_reducible refine Aa ?_|((with_reducible refine Ax ?_);first|refine Ag hs ?_|fail)|((with_reducible refine AS ?_);first|refine A0 hs λw hs=>?_|fail)|fail)
  rw[i64_in _ (by omega)] at hs;simp only[if_true,show ¬((1:Int)=3) by decide,if_false,Int.add_zero,true_and];exact Ab.fin hs
 ·with_reducible refine A2 (λh4=>?_) (λh4=>?_)
  ·subst h4
   repeat (first|with_reducible refine Aa ?_|((with_reducible refine Ax ?_);first|refine Ag hs ?_|fail)|((with_reducible refine AS ?_);first|refine A0 hs λw hs=>?_|fail)|fail)
   rw[i64_in _ (by omega)] at hs;simp only[if_true,show ¬((3:Int)=1) by decide,if_false,Int.add_zero,true_and];exact Ab.fin hs
  ·rw[if_neg h3,if_neg h4,Int.add_zero,Int.add_zero];exact⟨rfl,hs⟩
theorem DI{n:LE}(hi:LX N x sr sf qr qf m)(hu:LX N' y sr' sf' qr' qf' (R8 m key n))(hz:key.size<64)(hc:BR y.s key=BR x.s key)(hk:n.1=lK y.s y.q key)(hN:N<400000000)
  (hs:Ab W w (eB b c sb qb xb ((AF x.s 1:Int)) ((AF x.s 3:Int))::lst .s sb sr' sf'::lst .s qb qr' qf'::ixr Rec.iii xb 0 m::M)) :
  Calls PR 288 #[pq b 0,.s key,.agg #[.i n.1,.i n.2.1,.i n.2.2]] w λe w'=>e = .returned (.tuple #[])/\Ab W w' (lirR b c N' y::M):=by
 refine c1 (cw ⟨mixed,Tryz.func288,rfl⟩ Aqi ?_);have hw:((AC m key).getD ((0,0,0):Int×Int×Int)).1=lK x.s x.q key:=by have:=hi.ent key;unfold lG at this;rw[this]
 have hnm:=hi.nm;have hc1:AF x.s 1<=N/\AF x.s 3<=N:=by
  have h1:=congrArg List.length hi.sk;have:=hi.ns;simp only[List.length_map,Bm] at h1;have a:=List.countP_le_length (p:=λe:BA×Int=>decide (e.2=1)) (l:=x.s);have d:=List.countP_le_length (p:=λe:BA×Int=>decide (e.2=3)) (l:=x.s);unfold AF;omega
 obtain⟨e1,e3⟩:=A4w hi.w hu.w hc;refine Ah hs λnb w hs=>?_
 repeat (first|with_reducible refine Aa ?_|((with_reducible refine Ax ?_);first|refine Ag hs ?_|fail)|fail)
 refine(D1 hs (by omega)).mono λe w ⟨he,hs⟩=>⟨_,_,_,_,he,?_⟩;rw[hw]
 repeat (first|((with_reducible refine Ax ?_);first|refine Ag hs ?_|fail)|((with_reducible refine AS ?_);first|refine A0 hs λw hs=>?_|fail)|with_reducible refine Ah hs λb_ w hs=>?_|fail)
 refine Ar (J0 (W:=W) (c:=c) (sb:=sb) (qb:=qb) (xb:=xb) (h:=(AF x.s 1:Int)) (g:=(AF x.s 3:Int)) (by exact Ab.fin hs) (by omega) (by omega) (by decide) (M:=blk nb [.i n.1,.i n.2.1,.i n.2.2]::lst .s sb sr' sf'::lst .s qb qr' qf'::ixr Rec.iii xb 0 m::M)) λe w ⟨he,hs⟩=>⟨he,?_⟩
 repeat (first|((with_reducible refine Ax ?_);first|refine Ag hs ?_|fail)|fail)
 refine Ar (J0 hs (by split <;> omega) (by split <;> omega) (by decide)) λe w ⟨he,hs⟩=>⟨he,?_⟩;rw[<- hk] at e1 e3;rw[e1,e3] at hs
 repeat (first|((with_reducible refine Ax ?_);first|refine Ag hs ?_|fail)|fail)
 with_reducible refine A2 (λh0=>?_) (λh0=>?_)
 ·repeat (first|with_reducible refine Aa ?_|((with_reducible refine Ax ?_);first|refine Ag hs ?_|fail)|fail)
  refine(VF hs (by omega) (by omega)).mono λe w ⟨he,hs⟩=>⟨_,_,_,_,he,?_⟩;have:R8 m key n=Cr m key:=if_pos h0;rw[this] at hu;exact⟨rfl,CH hu rfl rfl (by exact Ab.fin hs)⟩
 ·repeat (first|with_reducible refine Aa ?_|((with_reducible refine Ax ?_);first|refine Ag hs ?_|fail)|((with_reducible refine AX ?_);first|refine Am ?_|fail)|((with_reducible refine AA ?_);first|refine A9 hs ?_|fail)|with_reducible refine As hs λw hs=>?_|fail)
  refine An (Ajh (v:=n) hs (by omega) hi.msm (by omega)) λe w ⟨he,hs⟩=>⟨_,he,?_⟩;have:R8 m key n=CE m key n:=if_neg h0;rw[this] at hu;exact⟨rfl,CH hu rfl rfl (by exact Ab.fin hs)⟩
end
end Go.Proofs.YtjipofkjmmpjdaaGreat
namespace Go.Hb
theorem Oe{T:Type}{row:List (Nat×T)}{i:Nat}(h:i<row.length):Bo row i=row[i].1:=by
 unfold Bo;rw[List.getD_eq_getElem?_getD,List.getElem?_map,List.getElem?_eq_getElem h];rfl
theorem Vi{T:Type}{row:List (Nat×T)}(hn:(row.map (·.1)).Nodup){i:Nat}(h:i<row.length):JX row (Bo row i:Int)=some i:=by
 rw[Oe h];exact KU hn (List.getElem?_eq_getElem h)
theorem SY{T:Type}{row:List (Nat×T)}(hn:(row.map (·.1)).Nodup){i:Nat}(h:i<row.length):IJ row (Bo row i:Int)=Bo row (i+1):=by
 unfold IJ;rw[Vi hn h]
theorem SZ{T:Type}{row:List (Nat×T)}{i:Nat}(h:row.length<=i):Bo row i=0:=by
 unfold Bo;rw[List.getD_eq_getElem?_getD,List.getElem?_eq_none (by simpa using h)];rfl
theorem IK{T:Type}{row:List (Nat×T)}(hn:(row.map (·.1)).Nodup){i:Nat}(h:i<row.length):FO row (Bo row i:Int)=some row[i].2:=by
 unfold FO;rw[Vi hn h];simp[h]
theorem Vo{row:Eg}{k:BA}(hp:∀e∈row,0<e.1)(h:k∈row.map (·.2)):Bc row k≠0:=by
 unfold Bc;cases hf:(row.find? λe=>decide (e.2=k)) with
 | none=>
  rw[List.find?_eq_none] at hf;obtain⟨e,he,hk⟩:=List.mem_map.1 h;exact absurd (by simpa using hk) (hf e he)
 | some e=>
  have:=hp e (List.mem_of_find?_eq_some hf);simp;omega
def SR(m:LM)(f:Option BA):BA×LE:=match f with
 | some k=>(k,lG m k)
 | none=>(⟨#[]⟩,(0,0,0))
section
variable{N:Nat}{x y:BE}{sr sr' qr qr':Eg}{sf sf' qf qf':List Nat}{m:LM}{key:BA}
theorem LX.snd(h:LX N x sr sf qr qf m):(sr.map (·.2)).Nodup/\(qr.map (·.2)).Nodup:=⟨by rw[h.sk];exact h.w.sn,by rw[h.qk];exact h.w.qn⟩
theorem LX.q0(h:LX N x sr sf qr qf m)(hk:key∉x.q):Bc qr key=0:=II (by rw[h.qk];exact hk)
theorem LX.s0(h:LX N x sr sf qr qf m)(hk:key∉Bm x.s):Bc sr key=0:=II (by rw[h.sk];exact hk)
theorem Atg(h:LW x){e:BA×Int}(he:e∈x.s):lK x.s x.q e.1=e.2:=by
 have:e.1∈Bm x.s:=List.mem_map.2 ⟨_,he,rfl⟩;unfold lK;rw[if_pos this];exact(DP h.sn (by rcases h.kinds _ he with h|h|h <;> omega)).2 he
theorem LX.lift(h:LX N x sr sf qr qf m){e:Int}(he:(key,e)∈x.s)(hne:e≠1)(hc:Im sr sf key sr' sf') :
  LX N ⟨BR x.s key,x.q⟩ sr' sf' qr qf (R8 m key (if lK x.s x.q key=3 then 0 else lK x.s x.q key,0,Bc qr key))/\(if lK x.s x.q key=3 then 0 else lK x.s x.q key)=lK (BR x.s key) x.q key:=by
 have h2:(if lK x.s x.q key=3 then 0 else lK x.s x.q key)=lK (BR x.s key) x.q key:=by
  rw[KJ]
  by_cases hq:key∈x.q
  ·rw[(KK h.w key).2 hq,if_pos hq];rfl
  ·have a2:lK x.s x.q key≠2:=λh2=>hq ((KK h.w key).1 h2);have a1:lK x.s x.q key≠1:=λh1=>hne (MM h.w.sn he ((ME h.w key).1 h1));rw[if_neg hq];rcases Ati h.w key with a|a|a|a
   ·rw[a];rfl
   ·exact absurd a a1
   ·exact absurd a a2
   ·rw[a];rfl
 refine⟨?_,h2⟩;have hl:=hc.len;have ns:=h.ns
 refine h.upd (y:=⟨BR x.s key,x.q⟩) (key:=key) (h.w.sub List.filter_sublist) (by rw[hc.keys,h.sk];exact(E1 _ _).symm) h.qk (h.w.ssm _ he) (λk hk=>⟨MF hk Iff.rfl,hc.ne k hk,rfl⟩) (by rw[h2,hc.at0]) (λh0=>?_) (by omega) h.nq;simp only at h0;rw[h2,KJ] at h0;have hq:key∉x.q:=λhq=>by rw[if_pos hq] at h0;omega
 rw[h2,KJ,if_neg hq,h.q0 hq]
theorem LX.heat(h:LX N x sr sf qr qf m)(hf:SI N x)(hz:key.size<64)(hp:Io sr sf key sr' sf')(hc:Im qr qf key qr' qf'):LX N (Eb x key) sr' sf' qr' qf' (R8 m key (1,Bc sr' key,0)):=by
 have e1:sr.length=x.s.length:=by have:=congrArg List.length h.sk;simpa[Bm] using this
 have e2:qr.length=x.q.length:=by have:=congrArg List.length h.qk;simpa using this
 obtain⟨f1,f2⟩:=hf;have hl:=hc.len;have ns:=h.ns;have hl2:=hp.len;have nq:=h.nq
 refine h.upd (h.w.heat hz) (by rw[hp.keys,h.sk];exact(JP _ _).symm) (by rw[hc.keys,h.qk];rfl) hz (λk hk=>⟨UM hk (G0 hk),hp.ne k hk,hc.ne k hk⟩) ?_ (λh0=>?_) (by omega) (by omega)
 ·rw[hc.at0];unfold Eb;simp only;rw[WV]
 ·simp at h0
theorem LX.chill(h:LX N x sr sf qr qf m)(hf:SI N x)(hz:key.size<64)(hp:Io sr sf key sr' sf')(hc:Io qr qf key qr' qf'):LX N (CG x key) sr' sf' qr' qf' (R8 m key (2,Bc sr' key,Bc qr' key)):=by
 have e1:sr.length=x.s.length:=by have:=congrArg List.length h.sk;simpa[Bm] using this
 have e2:qr.length=x.q.length:=by have:=congrArg List.length h.qk;simpa using this
 obtain⟨f1,f2⟩:=hf;have hl:=hc.len;have ns:=h.ns;have hl2:=hp.len;have nq:=h.nq
 refine h.upd (h.w.chill hz) (by rw[hp.keys,h.sk];exact(JP _ _).symm) (by rw[hc.keys,h.qk];rfl) hz (λk hk=>⟨UM hk ((Oh hk).trans (G0 hk)),hp.ne k hk,hc.ne k hk⟩) ?_ (λh0=>?_) (by omega) (by omega)
 ·unfold CG;simp only;rw[WV]
 ·simp at h0
theorem LX.cool(h:LX N x sr sf qr qf m)(hf:x.q.length+1<=N)(he:(key,(1:Int))∈x.s)(hc:Im sr sf key sr' sf')(hp:Io qr qf key qr' qf'):LX N ⟨BR x.s key,x.q++[key]⟩ sr' sf' qr' qf' (R8 m key (2,0,Bc qr' key)):=by
 have e1:sr.length=x.s.length:=by have:=congrArg List.length h.sk;simpa[Bm] using this
 have e2:qr.length=x.q.length:=by have:=congrArg List.length h.qk;simpa using this
 have hl:=hc.len;have ns:=h.ns;have hl2:=hp.len;have nq:=h.nq
 refine h.upd (h.w.cool he) (by rw[hc.keys,h.sk];exact(E1 _ _).symm) (by rw[hp.keys,h.qk,Av (h.w.hotq _ he rfl)]) (h.w.ssm _ he) (λk hk=>⟨MF hk (Oh hk),hc.ne k hk,hp.ne k hk⟩) ?_ (λh0=>?_) (by omega) (by omega)
 ·rw[KJ,hc.at0,if_pos (by simp)]
 ·simp at h0
theorem LX.ghost(h:LX N x sr sf qr qf m){t:List BA}(hq:x.q=key::t)(hpos:∀e∈sr,0<e.1)(hc:Im qr qf key qr' qf') :
  LX N ⟨C6 x.s key,t⟩ sr sf qr' qf' (R8 m key (if Bc sr key=0 then 0 else 3,Bc sr key,0))/\(if Bc sr key=0 then (0:Int) else 3)=lK (C6 x.s key) t key:=by
 have hl:=hc.len;have ns:=h.ns;have nq:=h.nq
 have hn:=h.w.qn;rw[hq,List.nodup_cons] at hn;have e2:(if Bc sr key=0 then (0:Int) else 3)=lK (C6 x.s key) t key:=by
  have hw:=h.w.ghost hq
  by_cases a:key∈Bm x.s
  ·have:Bc sr key≠0:=Vo hpos (by rw[h.sk];exact a);rw[if_neg this];exact((LS (x:=⟨C6 x.s key,t⟩) hw key).2 (ES.2 (.inr ⟨rfl,a⟩))).symm
  ·rw[if_pos (h.s0 a)];unfold lK;rw[if_neg (by rw[Hq];exact a),if_neg hn.1]
 refine⟨?_,e2⟩;have ht:Aq x.q key=t:=by rw[hq];exact KE (by rw[<- hq];exact h.w.qn)
 refine h.upd (h.w.ghost hq) (by rw[h.sk,Hq]) (by rw[hc.keys,h.qk,ht]) (h.w.qsm _ (by rw[hq];exact .head _)) (λk hk=>⟨Ath (by rw[Hq]) (WT hk) ?_,rfl,hc.ne k hk⟩) (by rw[e2,hc.at0]) (λh0=>?_) (by omega) (by omega)
 ·rw[<- ht];exact G0 hk
 ·simp only at h0 ⊢;split at h0
  ·rename_i h1;rw[if_pos h1,h1]
  ·omega
theorem LX.rem(h:LX N x sr sf qr qf m)(hz:key.size<64)(hc:Im sr sf key sr' sf')(hc2:Im qr qf key qr' qf'):LX N ⟨BR x.s key,Aq x.q key⟩ sr' sf' qr' qf' (R8 m key (0,0,0)):=by
 have hl:=hc.len;have ns:=h.ns;have hl2:=hc2.len;have nq:=h.nq
 refine h.upd (h.w.rem key) (by rw[hc.keys,h.sk];exact(E1 _ _).symm) (by rw[hc2.keys,h.qk]) hz (λk hk=>⟨MF hk (G0 hk),hc.ne k hk,hc2.ne k hk⟩) ?_ (λ_=>rfl) (by omega) (by omega);rw[KJ,hc.at0,hc2.at0,if_neg (λh=>(AT.1 h).2 rfl)]
end
end Go.Hb
namespace Go.Proofs.YtjipofkjmmpjdaaGreat
open Go.Hb Go.IntWalk
section
variable{W w:World}{L M:List HP}{F:HP->List HP}{b nb tb:Nat}{c:Int}{N N':Nat}{x y:BE}{sb qb xb:Nat}{row sr sr' qr qr':Eg}{free sf sf' qf qf':List Nat}{m:LM}{key:BA}{h g i:Int}
theorem MH{Q:VW}(hi:LX N x sr sf qr qf m)(hn:(sr.map (·.1)).Nodup)(hp:∀e∈sr,0<e.1)
  (hQ:∀w,Ab W w (eB b c sb qb xb h g::lst .s sb sr sf::lst .s qb qr qf::ixr Rec.iii xb 0 m::M) ->
   Q (.tuple #[.s (SR m (Dn x.s i)).1,.agg #[.i (SR m (Dn x.s i)).2.1,.i (SR m (Dn x.s i)).2.2.1,.i (SR m (Dn x.s i)).2.2.2]]) w) :
  ∀(d j:Nat)(w:World),j+d=sr.length->Dn (x.s.drop j) i=Dn x.s i ->
   Ab W w (blk tb [.i 0,.i 0,.i 0]::eB b c sb qb xb h g::lst .s sb sr sf::lst .s qb qr qf::ixr Rec.iii xb 0 m::M) ->
   PF By Q (d+1) (some ⟨b,0,none⟩) i tb 0 (Bo sr j:Int) w:=by
 have hlen:sr.length=x.s.length:=by have:=congrArg List.length hi.sk;simpa[Bm] using this
 intro d
 induction d with
 | zero=>
  intro j w hj hf hs;rw[N4,SZ (by omega)]
  with_reducible refine A2 (λh1=>?_) (λh1=>?_)
  ·exact absurd rfl h1
  refine jw Zb ?_;have e:Dn x.s i=none:=by rw[<- hf,List.drop_eq_nil_of_le (by omega)];rfl
  repeat (first|((with_reducible refine Ax ?_);first|refine Ag hs ?_|fail)|((with_reducible refine AS ?_);first|refine A0 hs λw hs=>?_|fail)|fail)
  have:=hQ w (by exact Ab.fin hs);rw[e] at this;exact this
 | succ d ih=>
  intro j w hj hf hs;rw[N4];have hlt:j<sr.length:=by omega
  have hlt2:j<x.s.length:=by omega
  have hpl:=Oe hlt;have hpos:=hp _ (List.getElem_mem hlt);refine Ak (by rw[hpl];simp;omega) ?_
  repeat (first|with_reducible refine Aa ?_|((with_reducible refine Ax ?_);first|refine Ag hs ?_|fail)|fail)
  refine AH (FR hs) λe w ⟨he,hs⟩=>⟨_,_,he,?_⟩;rw[IK hn hlt];rw[Option.getD_some];have hkey:sr[j].2=x.s[j].1:=by
   have:=congrArg (λl:List BA=>l[j]?) hi.sk;simp only[Bm,List.getElem?_map,List.getElem?_eq_getElem hlt,List.getElem?_eq_getElem hlt2,Option.map_some,Option.some.injEq] at this;exact this
  have hmem:x.s[j]∈x.s:=List.getElem_mem hlt2;have hz:=hi.w.ssm _ hmem;have his:lK x.s x.q x.s[j].1=x.s[j].2:=Atg hi.w hmem;have hdrop:x.s.drop j=x.s[j]::x.s.drop (j+1):=List.drop_eq_getElem_cons hlt2;have hfst:Dn x.s i=if x.s[j].2=i then some x.s[j].1 else Dn (x.s.drop (j+1)) i:=by
   rw[<- hf,hdrop];unfold Dn
   by_cases h:x.s[j].2=i
   ·rw[if_pos h,List.find?_cons_of_pos (by simpa using h)];rfl
   ·rw[if_neg h,List.find?_cons_of_neg (by simpa using h)]
  rw[hkey]
  repeat (first|with_reducible refine Aa ?_|((with_reducible refine Ax ?_);first|refine Ag hs ?_|fail)|fail)
  refine(D1 hs (by omega)).mono λe w ⟨he,hs⟩=>⟨_,_,_,_,he,?_⟩;have hG:(AC m x.s[j].1).getD ((0,0,0):Int×Int×Int)=lG m x.s[j].1:=rfl;rw[hG];have hG1:(lG m x.s[j].1).1=x.s[j].2:=by rw[hi.ent];exact his
  repeat (first|((with_reducible refine Ax ?_);first|refine Ag hs ?_|fail)|((with_reducible refine AS ?_);first|refine A0 hs λw hs=>?_|fail)|with_reducible refine Ah hs λb_ w hs=>?_|fail)
  with_reducible refine A2 (λh1=>?_) (λh1=>?_)
  ·rw[hG1] at h1;rw[if_pos h1] at hfst
   repeat (first|((with_reducible refine Ax ?_);first|refine Ag hs ?_|fail)|((with_reducible refine AS ?_);first|refine A0 hs λw hs=>?_|fail)|with_reducible refine As hs λw hs=>?_|fail)
   have:=hQ w (by exact Ab.fin hs);rw[hfst] at this;exact this
  ·rw[hG1] at h1;rw[if_neg h1] at hfst
   repeat (first|with_reducible refine Aa ?_|((with_reducible refine Ax ?_);first|refine Ag hs ?_|fail)|fail)
   refine An (Oi hs) λe w ⟨he,hs⟩=>⟨_,he,?_⟩;rw[SY hn hlt];exact ih (j+1) w (by omega) hfst.symm (by exact Ab.fin hs)
theorem J1(hi:LX N x sr sf qr qf m)(hs:Ab W w (eB b c sb qb xb h g::lst .s sb sr sf::lst .s qb qr qf::ixr Rec.iii xb 0 m::M)) :
  Calls PR 290 #[pq b 0,.i i] w λe w'=>e = .returned (.tuple #[.s (SR m (Dn x.s i)).1,.agg #[.i (SR m (Dn x.s i)).2.1,.i (SR m (Dn x.s i)).2.2.1,.i (SR m (Dn x.s i)).2.2.2]]) /\
   Ab W w' (eB b c sb qb xb h g::lst .s sb sr sf::lst .s qb qr qf::ixr Rec.iii xb 0 m::M):=by
 obtain⟨hn,hp⟩:=JU (b:=sb) (row:=sr) (free:=sf) (M:=eB b c sb qb xb h g::lst .s qb qr qf::ixr Rec.iii xb 0 m::M) (by exact Ab.fin hs);refine c1 (cw ⟨mixed,Tryz.func290,rfl⟩ Aqk ?_);refine Ah hs λtb w hs=>?_
 repeat (first|with_reducible refine Aa ?_|((with_reducible refine Ax ?_);first|refine Ag hs ?_|fail)|fail)
 refine An (E6 hs) λe w ⟨he,hs⟩=>⟨_,he,?_⟩;refine AR (sr.length+1) ?_;exact MH hi hn hp (λw hs=>⟨rfl,hs⟩) sr.length 0 w (by omega) rfl (by exact Ab.fin hs)
theorem Kw(hi:LX N x sr sf qr qf m){e:Int}(he:(key,e)∈x.s)(hne:e≠1)(hN:N<400000000)
  (hs:Ab W w (eB b c sb qb xb ((AF x.s 1:Int)) ((AF x.s 3:Int))::lst .s sb sr sf::lst .s qb qr qf::ixr Rec.iii xb 0 m::M)) :
  Calls PR 294 #[pq b 0,.agg #[.i (lG m key).1,.i (lG m key).2.1,.i (lG m key).2.2],.s key] w λe w'=>e = .returned (.tuple #[])/\Ab W w' (lirR b c N ⟨BR x.s key,x.q⟩::M):=by
 refine c1 (cw ⟨mixed,Tryz.func294,rfl⟩ Aqo ?_);rw[hi.ent];have hns:=hi.ns;have hz:key.size<64:=hi.w.ssm _ he;refine Ah hs λnb w hs=>?_
 repeat (first|with_reducible refine Aa ?_|((with_reducible refine Ax ?_);first|refine Ag hs ?_|fail)|((with_reducible refine AX ?_);first|refine Am ?_|fail)|((with_reducible refine AA ?_);first|refine A9 hs ?_|fail)|with_reducible refine As hs λw hs=>?_|fail)
 refine AH (FP hs (by omega) hi.snd.1 rfl) λe w ⟨⟨_,_,he⟩,f',hc,hs⟩=>⟨_,_,he,?_⟩;obtain⟨hu,hk⟩:=hi.lift (sf':=f') ‹(key,_)∈x.s› hne hc
 repeat (first|((with_reducible refine Ax ?_);first|refine Ag hs ?_|fail)|((with_reducible refine AS ?_);first|refine A0 hs λw hs=>?_|fail)|fail)
 with_reducible refine A2 (λh3=>?_) (λh3=>?_)
 ·rw[if_pos h3] at hu hk
  repeat (first|((with_reducible refine Ax ?_);first|refine Ag hs ?_|fail)|((with_reducible refine AS ?_);first|refine A0 hs λw hs=>?_|fail)|fail)
  refine Ar (DI (W:=W) (M:=M) (c:=c) (b:=b) (n:=(0,0,Bc qr key)) hi hu hz (HV _ _) hk hN (by exact Ab.fin hs)) λe w ⟨he,hs⟩=>⟨he,?_⟩;exact⟨rfl,hs⟩
 ·rw[if_neg h3] at hu hk
  repeat (first|((with_reducible refine Ax ?_);first|refine Ag hs ?_|fail)|fail)
  refine Ar (DI (W:=W) (M:=M) (c:=c) (b:=b) (n:=(lK x.s x.q key,0,Bc qr key)) hi hu hz (HV _ _) hk hN (by exact Ab.fin hs)) λe w ⟨he,hs⟩=>⟨he,?_⟩;exact⟨rfl,hs⟩
theorem Akw{k:BA×Int}{t:SL}(h:(Bm (k::t)).Nodup):BR (k::t) k.1=t:=by
 have h1:BR (k::t) k.1=BR t k.1:=by unfold BR;rw[List.filter_cons_of_neg (by simp)]
 rw[h1];exact R7 (by unfold Bm at h;rw[List.map_cons,List.nodup_cons] at h;exact h.1)
theorem MI(hN:N<400000000):∀(d:Nat)(S:SL)(w:World),S.length=d->Ab W w (lirR b c N ⟨S,y.q⟩::M)->PB By (λv w'=>v = .tuple #[]/\Ab W w' (lirR b c N ⟨EC S,y.q⟩::M)) (d+1) (some ⟨b,0,none⟩) w:=by
 intro d
 induction d with
 | zero=>
  intro S w hS hs;have e0:S=[]:=List.length_eq_zero_iff.1 hS;subst e0;obtain⟨sb,qb,xb,sr,sf,qr,qf,m,hi,hs⟩:=Cz hs;have hl:sr=[]:=by have:=hi.sk;simpa[Bm] using this
  subst hl;rw[N1]
  repeat (first|with_reducible refine Aa ?_|((with_reducible refine Ax ?_);first|refine Ag hs ?_|fail)|fail)
  refine An (FS hs) λe w ⟨he,hs⟩=>⟨_,he,?_⟩;refine Ac rfl ?_;exact⟨rfl,CH hi rfl rfl (by exact Ab.fin hs)⟩
 | succ d ih=>
  intro S w hS hs;obtain⟨a,t,hat⟩:∃a t,S=a::t:=by
   cases S with
   | nil=>simp at hS
   | cons a t=>exact⟨a,t,rfl⟩
  subst hat;obtain⟨sb,qb,xb,sr,sf,qr,qf,m,hi,hs⟩:=Cz hs;obtain⟨hn,hp⟩:=JU (b:=sb) (row:=sr) (free:=sf) (M:=eB b c sb qb xb ((AF (a::t) 1:Int)) ((AF (a::t) 3:Int))::lst .s qb qr qf::ixr Rec.iii xb 0 m::M) (by exact Ab.fin hs);have hlen:sr.length=d+1:=by have:=congrArg List.length hi.sk;rw[<- hS];simpa[Bm] using this
  rw[N1]
  repeat (first|with_reducible refine Aa ?_|((with_reducible refine Ax ?_);first|refine Ag hs ?_|fail)|fail)
  refine An (FS hs) λe w ⟨he,hs⟩=>⟨_,he,?_⟩;refine Ak (decide_eq_true (by omega)) ?_;refine Ao [eB b c sb qb xb ((AF (a::t) 1:Int)) ((AF (a::t) 3:Int))] hs λw hs=>?_
  repeat (first|with_reducible refine Aa ?_|((with_reducible refine Ax ?_);first|refine Ag hs ?_|fail)|((with_reducible refine AX ?_);first|refine Am ?_|fail)|((with_reducible refine AA ?_);first|refine Ae hs ?_|fail)|fail)
  refine An (E6 hs) λe w ⟨he,hs⟩=>⟨_,he,?_⟩
  repeat (first|((with_reducible refine AA ?_);first|refine Ae hs ?_|fail)|fail)
  refine AH (FR hs) λe w ⟨he,hs⟩=>⟨_,_,he,?_⟩;have hlt:0<sr.length:=by omega
  rw[IK hn hlt];rw[Option.getD_some];have hkey:sr[0].2=a.1:=by
   have:=congrArg (λl:List BA=>l[0]?) hi.sk;simp only[Bm,List.getElem?_map,List.getElem?_eq_getElem hlt,List.getElem?_cons_zero,Option.map_some,Option.some.injEq] at this;exact this
  have hmem:(a.1,a.2)∈a::t:=.head _;have hz:a.1.size<64:=hi.w.ssm _ hmem;have hkd:a.2=1\/a.2=2\/a.2=3:=hi.w.kinds _ hmem;have hG1:(lG m a.1).1=a.2:=by
   rw[hi.ent];exact Atg (e:=(a.1,a.2)) hi.w hmem
  rw[hkey]
  repeat (first|with_reducible refine Aa ?_|((with_reducible refine Ax ?_);first|refine Ag hs ?_|fail)|fail)
  refine(D1 hs (by omega)).mono λe w ⟨he,hs⟩=>⟨_,_,_,_,he,?_⟩;have hG:(AC m a.1).getD ((0,0,0):Int×Int×Int)=lG m a.1:=rfl;rw[hG]
  repeat (first|((with_reducible refine Ax ?_);first|refine Ag hs ?_|fail)|((with_reducible refine AS ?_);first|refine A0 hs λw hs=>?_|fail)|with_reducible refine Ah hs λb_ w hs=>?_|fail)
  with_reducible refine A2 (λh1=>?_) (λh1=>?_)
  ·rw[hG1] at h1;have e1:EC (a::t)=a::t:=by unfold EC;rw[List.dropWhile_cons,if_neg (by simp[h1])]
   rw[e1];exact⟨rfl,CH hi rfl rfl (by exact Ab.fin hs)⟩
  ·rw[hG1] at h1;have e1:EC (a::t)=EC t:=by unfold EC;rw[List.dropWhile_cons,if_pos (by simp[h1])]
   rw[e1]
   repeat (first|((with_reducible refine Ax ?_);first|refine Ag hs ?_|fail)|fail)
   refine Ar (Kw (W:=W) (M:=M) (c:=c) (b:=b) hi hmem h1 hN (by exact Ab.fin hs)) λe w ⟨he,hs⟩=>⟨he,?_⟩;rw[show BR (a::t) a.1=t from Akw hi.w.sn] at hs;exact ih t w (by simpa using hS) hs
theorem Cw(hN:N<400000000)(hs:Ab W w (lirR b c N x::M)):Calls PR 284 #[pq b 0] w λe w'=>e = .returned (.tuple #[])/\Ab W w' (lirR b c N (lPr x)::M):=by
 refine c1 (cw ⟨mixed,Tryz.func284,rfl⟩ Aqe ?_);refine AR (x.s.length+1) ?_;exact MI (y:=x) hN x.s.length x.s w rfl hs
theorem Ma(hN:N<400000000):∀(d:Nat)(S:SL)(w:World),((AF S 3:Int)-c).toNat=d->0<=c->Ab W w (lirR b c N ⟨S,y.q⟩::M)->PC By (λv w'=>v = .tuple #[]/\Ab W w' (lirR b c N ⟨Do S d,y.q⟩::M)) (d+1) (some ⟨b,0,none⟩) w:=by
 intro d
 induction d with
 | zero=>
  intro S w hS hc hs;obtain⟨sb,qb,xb,sr,sf,qr,qf,m,hi,hs⟩:=Cz hs;rw[N2]
  repeat (first|with_reducible refine Aa ?_|((with_reducible refine Ax ?_);first|refine Ag hs ?_|fail)|((with_reducible refine AX ?_);first|refine Am ?_|fail)|((with_reducible refine AA ?_);first|refine A9 hs ?_|fail)|with_reducible refine As hs λw hs=>?_|fail)
  refine Ac (decide_eq_false (by simp only;omega)) ?_;exact⟨rfl,CH hi rfl rfl (by exact Ab.fin hs)⟩
 | succ d ih=>
  intro S w hS hc hs;obtain⟨sb,qb,xb,sr,sf,qr,qf,m,hi,hs⟩:=Cz hs;rw[N2]
  repeat (first|with_reducible refine Aa ?_|((with_reducible refine Ax ?_);first|refine Ag hs ?_|fail)|((with_reducible refine AX ?_);first|refine Am ?_|fail)|((with_reducible refine AA ?_);first|refine A9 hs ?_|fail)|with_reducible refine As hs λw hs=>?_|fail)
  refine Ak (decide_eq_true (by simp only;omega)) ?_;refine(J1 (W:=W) (M:=M) (c:=c) (b:=b) (sb:=sb) (qb:=qb) (xb:=xb) (h:=(AF S 1:Int)) (g:=(AF S 3:Int)) (i:=3) hi (by exact Ab.fin hs)).mono λe w ⟨he,hs⟩=>⟨_,_,_,_,he,?_⟩;cases hf:Dn S 3 with
  | none=>have:=Hp.1 hf;omega
  | some k=>
   have hm:=GK hf;have e1:Do S (d+1)=Do (BR S k) d:=by rw[Do,hf]
   rw[e1];rw[show SR m (some k)=(k,lG m k) from rfl]
   repeat (first|((with_reducible refine Ax ?_);first|refine Ag hs ?_|fail)|((with_reducible refine AS ?_);first|refine A0 hs λw hs=>?_|fail)|with_reducible refine Ah hs λb_ w hs=>?_|fail)
   refine Ar (Kw (W:=W) (M:=M) (c:=c) (b:=b) hi hm (by decide) hN (by exact Ab.fin hs)) λe w ⟨he,hs⟩=>⟨he,?_⟩;have h3:=Dm (k:=k) hi.w.sn 3;simp only[if_pos hm] at h3;exact ih (BR S k) w (by omega) hc hs
theorem EN(hN:N<400000000)(hc:0<=c)(hs:Ab W w (lirR b c N x::M)):Calls PR 286 #[pq b 0] w λe w'=>e = .returned (.tuple #[])/\Ab W w' (lirR b c N ⟨IB c x.s,x.q⟩::M):=by
 refine c1 (cw ⟨mixed,Tryz.func286,rfl⟩ Aqg ?_);refine AR (((AF x.s 3:Int)-c).toNat + 1) ?_;exact Ma (y:=x) hN _ x.s w rfl hc hs
theorem Kv(hF:x.q.length+1<=N)(hN:N<300000000)(hp:0<AF x.s 1)(hs:Ab W w (lirR b c N x::M)):Calls PR 281 #[pq b 0] w λe w'=>e = .returned (.tuple #[])/\Ab W w' (lirR b c N (D4 x)::M):=by
 refine c1 (cw ⟨mixed,Tryz.func281,rfl⟩ Aqb ?_);obtain⟨sb,qb,xb,sr,sf,qr,qf,m,hi,hs⟩:=Cz hs;have hns:=hi.ns;have hnq:=hi.nq;refine(J1 (W:=W) (M:=M) (c:=c) (b:=b) (sb:=sb) (qb:=qb) (xb:=xb) (h:=(AF x.s 1:Int)) (g:=(AF x.s 3:Int)) (i:=1) hi (by exact Ab.fin hs)).mono λe w ⟨he,hs⟩=>⟨_,_,_,_,he,?_⟩;cases hf:Dn x.s 1 with
 | none=>have:=Hp.1 hf;omega
 | some k=>
  have hm:=GK hf;have hz:k.size<64:=hi.w.ssm _ hm;rw[show SR m (some k)=(k,lG m k) from rfl,hi.ent];refine Ah hs λnb w hs=>?_
  repeat (first|with_reducible refine Aa ?_|((with_reducible refine Ax ?_);first|refine Ag hs ?_|fail)|((with_reducible refine AS ?_);first|refine A0 hs λw hs=>?_|fail)|((with_reducible refine AX ?_);first|refine Am ?_|fail)|((with_reducible refine AA ?_);first|refine A9 hs ?_|fail)|with_reducible refine As hs λw hs=>?_|fail)
  refine AH (FP hs (by omega) hi.snd.1 rfl) λe w ⟨⟨_,_,he⟩,f',hc,hs⟩=>⟨_,_,he,?_⟩
  repeat (first|((with_reducible refine AS ?_);first|refine A0 hs λw hs=>?_|fail)|fail)
  refine Ar (NU (W:=W) (M:=lst .s sb (D8 sr k) f'::ixr Rec.iii xb 0 m::M) (c:=c) (b:=b) (nb:=nb) (sb:=sb) (qb:=qb) (xb:=xb) (h:=(AF x.s 1:Int)) (g:=(AF x.s 3:Int)) (i:=2) (s:=0) (q:=Bc qr k) (key:=k) (qr:=qr) (qf:=qf) (by exact Ab.fin hs) (by omega) hi.snd.2 rfl) λe w ⟨he,qr',qf',hp2,hs⟩=>⟨he,?_⟩
  repeat (first|((with_reducible refine Ax ?_);first|refine Ag hs ?_|fail)|fail)
  have hu:=hi.cool hF hm hc hp2;have hk:(2:Int)=lK (BR x.s k) (x.q++[k]) k:=by rw[KJ,if_pos (by simp)]
  refine Ar (DI (W:=W) (M:=M) (c:=c) (b:=b) (n:=(2,0,Bc qr' k)) hi hu hz (HV _ _) hk (by omega) (by exact Ab.fin hs)) λe w ⟨he,hs⟩=>⟨he,?_⟩;refine Ar (Cw (by omega) hs) λe w ⟨he,hs⟩=>⟨he,?_⟩;have e1:D4 x=lPr ⟨BR x.s k,x.q++[k]⟩:=by unfold D4 MB lPr;rw[hf]
  rw[e1];exact⟨rfl,hs⟩
theorem HC(hi:LX N x sr sf qr qf m)(hz:key.size<64)(hm:0<=D5 c)(hF:SI N x)(hN:N<200000000){n:LE}(hn:n.2=(Bc sr key,Bc qr key))
  (hs:Ab W w (eB b c sb qb xb ((AF x.s 1:Int)) ((AF x.s 3:Int))::lst .s sb sr sf::lst .s qb qr qf::ixr Rec.iii xb 0 m::M)) :
  Calls PR 283 #[pq b 0,.agg #[.i n.1,.i n.2.1,.i n.2.2],.s key] w λe w'=>e = .returned (.tuple #[])/\Ab W w' (lirR b c N (EB c x key)::M):=by
 refine c1 (cw ⟨mixed,Tryz.func283,rfl⟩ Aqd ?_);rw[hn];have hns:=hi.ns;have hnq:=hi.nq;refine Ah hs λnb w hs=>?_
 repeat (first|((with_reducible refine AS ?_);first|refine A0 hs λw hs=>?_|fail)|fail)
 refine Ar (NV (W:=W) (M:=lst .s qb qr qf::ixr Rec.iii xb 0 m::M) (c:=c) (b:=b) (nb:=nb) (sb:=sb) (qb:=qb) (xb:=xb) (h:=(AF x.s 1:Int)) (g:=(AF x.s 3:Int)) (i:=1) (s:=Bc sr key) (q:=Bc qr key) (key:=key) (sr:=sr) (sf:=sf) (by exact Ab.fin hs) (by omega) hi.snd.1 rfl) λe w ⟨he,sr',sf',hp,hs⟩=>⟨he,?_⟩;refine Ar (GO (W:=W) (M:=lst .s sb sr' sf'::ixr Rec.iii xb 0 m::M) (c:=c) (b:=b) (nb:=nb) (sb:=sb) (qb:=qb) (xb:=xb) (h:=(AF x.s 1:Int)) (g:=(AF x.s 3:Int)) (i:=1) (s:=Bc sr' key) (q:=Bc qr key) (key:=key) (qr:=qr) (qf:=qf) (by exact Ab.fin hs) (by omega) hi.snd.2 rfl) λe w ⟨he,qf',hc,hs⟩=>⟨he,?_⟩
 repeat (first|((with_reducible refine Ax ?_);first|refine Ag hs ?_|fail)|fail)
 have hu:=hi.heat hF hz hp hc;have hk:(1:Int)=lK (HX x.s key 1) (Aq x.q key) key:=(WV _ _ _).symm;refine Ar (DI (W:=W) (M:=M) (c:=c) (b:=b) (n:=(1,Bc sr' key,0)) hi hu hz (Aay _ _ _) hk (by omega) (by exact Ab.fin hs)) λe w ⟨he,hs⟩=>⟨he,?_⟩;obtain⟨sb,qb,xb,sr,sf,qr,qf,m,hi,hs⟩:=Cz hs
 repeat (first|with_reducible refine Aa ?_|((with_reducible refine Ax ?_);first|refine Ag hs ?_|fail)|((with_reducible refine AX ?_);first|refine Am ?_|fail)|((with_reducible refine AA ?_);first|refine A9 hs ?_|fail)|with_reducible refine As hs λw hs=>?_|fail)
 have hF2:(Eb x key).q.length+1<=N:=by
  have a1:=BM x.q key;have a2:=hF.2
  show(Aq x.q key).length+1<=N;omega
 unfold EB
 with_reducible refine A2 (λh1=>?_) (λh1=>?_)
 ·rw[if_pos (by omega)];refine Ar (Kv (W:=W) (M:=M) (b:=b) (c:=c) (N:=N) (x:=Eb x key) hF2 (by omega) (by omega) (CH hi rfl rfl (by exact Ab.fin hs))) λe w ⟨he,hs⟩=>⟨he,?_⟩;exact⟨rfl,hs⟩
 ·rw[if_neg (by omega)];exact⟨rfl,EH (CH hi rfl rfl (by exact Ab.fin hs)) (by omega)⟩
theorem GN(hi:LX N x sr sf qr qf m)(hz:key.size<64)(hF:SI N x)(hN:N<200000000){n:LE}(hn:n.2=(Bc sr key,Bc qr key))
  (hs:Ab W w (eB b c sb qb xb ((AF x.s 1:Int)) ((AF x.s 3:Int))::lst .s sb sr sf::lst .s qb qr qf::ixr Rec.iii xb 0 m::M)) :
  Calls PR 285 #[pq b 0,.agg #[.i n.1,.i n.2.1,.i n.2.2],.s key] w λe w'=>e = .returned (.tuple #[])/\Ab W w' (lirR b c N (CG x key)::M):=by
 refine c1 (cw ⟨mixed,Tryz.func285,rfl⟩ Aqf ?_);rw[hn];have hns:=hi.ns;have hnq:=hi.nq;refine Ah hs λnb w hs=>?_
 repeat (first|((with_reducible refine AS ?_);first|refine A0 hs λw hs=>?_|fail)|fail)
 refine Ar (NV (W:=W) (M:=lst .s qb qr qf::ixr Rec.iii xb 0 m::M) (c:=c) (b:=b) (nb:=nb) (sb:=sb) (qb:=qb) (xb:=xb) (h:=(AF x.s 1:Int)) (g:=(AF x.s 3:Int)) (i:=2) (s:=Bc sr key) (q:=Bc qr key) (key:=key) (sr:=sr) (sf:=sf) (by exact Ab.fin hs) (by omega) hi.snd.1 rfl) λe w ⟨he,sr',sf',hp,hs⟩=>⟨he,?_⟩;refine Ar (NU (W:=W) (M:=lst .s sb sr' sf'::ixr Rec.iii xb 0 m::M) (c:=c) (b:=b) (nb:=nb) (sb:=sb) (qb:=qb) (xb:=xb) (h:=(AF x.s 1:Int)) (g:=(AF x.s 3:Int)) (i:=2) (s:=Bc sr' key) (q:=Bc qr key) (key:=key) (qr:=qr) (qf:=qf) (by exact Ab.fin hs) (by omega) hi.snd.2 rfl) λe w ⟨he,qr',qf',hc,hs⟩=>⟨he,?_⟩
 repeat (first|((with_reducible refine Ax ?_);first|refine Ag hs ?_|fail)|fail)
 have hu:=hi.chill hF hz hp hc;have hk:(2:Int)=lK (HX x.s key 2) (Aq x.q key++[key]) key:=(WV _ _ _).symm;refine Ar (DI (W:=W) (M:=M) (c:=c) (b:=b) (n:=(2,Bc sr' key,Bc qr' key)) hi hu hz (Aay _ _ _) hk (by omega) (by exact Ab.fin hs)) λe w ⟨he,hs⟩=>⟨he,?_⟩;exact⟨rfl,EH hs (by omega)⟩
end
end Go.Proofs.YtjipofkjmmpjdaaGreat
namespace Go.Hb
theorem WU{x:BE}(h:LW x)(k:BA):JO x.s k=1↔lK x.s x.q k=1:=by rw[ME h,DP h.sn (by decide)]
theorem Akv{x:BE}(h:LW x)(k:BA):JO x.s k=3↔lK x.s x.q k=3:=by rw[LS h,DP h.sn (by decide)]
theorem Aij{x:BE}(h:LW x){k:BA}(hq:k∈x.q):JO x.s k=2↔k∈Bm x.s:=by
 rw[DP h.sn (by decide)];constructor
 ·intro hm;exact List.mem_map.2 ⟨_,hm,rfl⟩
 ·intro hm;obtain⟨e,he,rfl⟩:=List.mem_map.1 hm;rcases h.kinds e he with h1|h1|h1
  ·exact absurd hq (h.hotq e he h1)
  ·rw[<- h1];exact he
  ·exact absurd hq (h.ghq e he h1)
theorem Aih(S:SL)(i:Int):AF S i<=S.length:=List.countP_le_length
end Go.Hb
namespace Go.Proofs.YtjipofkjmmpjdaaGreat
open Go.Hb Go.IntWalk
section
variable{W w:World}{L M:List HP}{F:HP->List HP}{b nb tb:Nat}{c:Int}{N N':Nat}{x y:BE}{sb qb xb:Nat}{row sr sr' qr qr':Eg}{free sf sf' qf qf':List Nat}{m:LM}{key:BA}{h g i:Int}
theorem A2f(h:Ab W w (lirR b c N x::M)):w.cell? ⟨b,0,none⟩=some (.i c):=by
 obtain⟨sb,qb,xb,sr,sf,qr,qf,m,hi,h⟩:=Cz h;exact h.cell (q:=0) rfl
theorem Ak7(hs:Ab W w L)[hA:At L b (lirR b c N x) F]:Calls PR 279 #[pq b 0] w λe w'=>e = .returned (.i c)/\Ab W w' (F (lirR b c N x)):=by
 refine At.call1 (hA:=hA) hs λM hs=>?_;clear hA;refine c1 (cw ⟨mixed,Tryz.func279,rfl⟩ Ap9 ?_);obtain⟨sb,qb,xb,sr,sf,qr,qf,m,hi,hs⟩:=Cz hs;refine Ac rfl ?_
 repeat (first|with_reducible refine Aa ?_|((with_reducible refine Ax ?_);first|refine Ag hs ?_|fail)|fail)
 exact⟨rfl,CH hi rfl rfl (by exact Ab.fin hs)⟩
theorem NT(hi:LX N x sr sf qr qf m)(hN:N<400000000)(hs:Ab W w (eB b c sb qb xb ((AF x.s 1:Int)) ((AF x.s 3:Int))::lst .s sb sr sf::lst .s qb qr qf::ixr Rec.iii xb 0 m::M)) :
  Calls PR 276 #[pq b 0] w λe w'=>e = .returned (.i (Dj x:Int))/\Ab W w' (eB b c sb qb xb ((AF x.s 1:Int)) ((AF x.s 3:Int))::lst .s sb sr sf::lst .s qb qr qf::ixr Rec.iii xb 0 m::M):=by
 refine c1 (cw ⟨mixed,Tryz.func276,rfl⟩ Ap6 ?_);have h1:=Aih x.s 1;have hns:=hi.ns;have hnq:=hi.nq;have hq:qr.length=x.q.length:=by have:=congrArg List.length hi.qk;simpa using this
 have hq2:sr.length=x.s.length:=by have:=congrArg List.length hi.sk;simpa[Bm] using this
 refine Ac rfl ?_;refine Ao [eB b c sb qb xb ((AF x.s 1:Int)) ((AF x.s 3:Int))] hs λw hs=>?_
 repeat (first|with_reducible refine Aa ?_|((with_reducible refine AX ?_);first|refine Am ?_|fail)|fail)
 refine An (FS hs) λe w ⟨he,hs⟩=>⟨_,he,?_⟩
 repeat (first|((with_reducible refine AA ?_);first|refine Ae hs ?_|fail)|fail)
 rw[i64_in _ (by omega),hq];exact⟨rfl,by exact Ab.fin hs⟩
theorem RH(hs:Ab W w L)[hA:At L b (lirR b c N x) F](hN:N<400000000):Calls PR 276 #[pq b 0] w λe w'=>e = .returned (.i (Dj x:Int))/\Ab W w' (F (lirR b c N x)):=by
 refine At.call1 (hA:=hA) hs λM hs=>?_;obtain⟨sb,qb,xb,sr,sf,qr,qf,m,hi,hs⟩:=Cz hs;exact(NT hi hN hs).mono λe w ⟨he,hs⟩=>⟨he,CH hi rfl rfl hs⟩
theorem RG(hs:Ab W w L)[hA:At L b (lirR b c N x) F](hz:key.size<64):Calls PR 274 #[pq b 0,.s key] w λe w'=>e = .returned (.b (decide (key∈Cm x)))/\Ab W w' (F (lirR b c N x)):=by
 refine At.call1 (hA:=hA) hs λM hs=>?_;clear hA;refine c1 (cw ⟨mixed,Tryz.func274,rfl⟩ Ap4 ?_);obtain⟨sb,qb,xb,sr,sf,qr,qf,m,hi,hs⟩:=Cz hs;refine Ac rfl ?_
 repeat (first|with_reducible refine Aa ?_|((with_reducible refine Ax ?_);first|refine Ag hs ?_|fail)|fail)
 refine(D1 hs (by omega)).mono λe w ⟨he,hs⟩=>⟨_,_,_,_,he,?_⟩;have hG:(AC m key).getD ((0,0,0):Int×Int×Int)=lG m key:=rfl;rw[hG,hi.ent]
 repeat (first|((with_reducible refine Ax ?_);first|refine Ag hs ?_|fail)|((with_reducible refine AS ?_);first|refine A0 hs λw hs=>?_|fail)|with_reducible refine Ah hs λb_ w hs=>?_|fail)
 with_reducible refine A2 (λh1=>?_) (λh1=>?_)
 ·have:key∈Cm x:=BF.2 (.inr ((ME hi.w key).1 h1));rw[decide_eq_true this];exact⟨rfl,CH hi rfl rfl (by exact Ab.fin hs)⟩
 ·repeat (first|((with_reducible refine Ax ?_);first|refine Ag hs ?_|fail)|fail)
  have:(lK x.s x.q key==2)=decide (key∈Cm x):=by
   rw[Bool.eq_iff_iff,beq_iff_eq,decide_eq_true_eq,KK hi.w,BF];exact⟨.inl,λh=>h.elim id λh=>absurd ((ME hi.w key).2 h) h1⟩
  rw[this];exact⟨rfl,CH hi rfl rfl (by exact Ab.fin hs)⟩
theorem Aa6(hs:Ab W w L)[hA:At L b (lirR b c N x) F](hz:key.size<64)(hN:N<200000000):Calls PR 278 #[pq b 0,.s key] w λe w'=>e = .returned (.b (LY x key).1)/\Ab W w' (F (lirR b c N (LY x key).2)):=by
 refine At.call1 (hA:=hA) hs λM hs=>?_;clear hA;refine c1 (cw ⟨mixed,Tryz.func278,rfl⟩ Ap8 ?_);refine An (RG hs hz) λe w ⟨he,hs⟩=>⟨_,he,?_⟩;have hHas:=A9a (RE hs).1 (k:=key)
 by_cases hk:key∈Cm x
 ·rw[decide_eq_true hk] at hHas ⊢;have hcond:JO x.s key=1\/key∈x.q:=by simpa using hHas
  refine Ac rfl ?_;obtain⟨sb,qb,xb,sr,sf,qr,qf,m,hi,hs⟩:=Cz hs;have hns:=hi.ns;have hnq:=hi.nq
  repeat (first|with_reducible refine Aa ?_|((with_reducible refine Ax ?_);first|refine Ag hs ?_|fail)|fail)
  refine(D1 hs (by omega)).mono λe w ⟨he,hs⟩=>⟨_,_,_,_,he,?_⟩;have hG:(AC m key).getD ((0,0,0):Int×Int×Int)=lG m key:=rfl;rw[hG,hi.ent];refine Ah hs λnb w hs=>?_
  repeat (first|with_reducible refine Aa ?_|((with_reducible refine Ax ?_);first|refine Ag hs ?_|fail)|((with_reducible refine AS ?_);first|refine A0 hs λw hs=>?_|fail)|((with_reducible refine AX ?_);first|refine Am ?_|fail)|((with_reducible refine AA ?_);first|refine A9 hs ?_|fail)|with_reducible refine As hs λw hs=>?_|fail)
  refine AH (FP (key:=key) hs (by omega) hi.snd.1 rfl) λe w ⟨⟨_,_,he⟩,f',hc,hs⟩=>⟨_,_,he,?_⟩;refine Ar (GO (W:=W) (M:=lst .s sb (D8 sr key) f'::ixr Rec.iii xb 0 m::M) (c:=c) (b:=b) (nb:=nb) (sb:=sb) (qb:=qb) (xb:=xb) (h:=(AF x.s 1:Int)) (g:=(AF x.s 3:Int)) (i:=lK x.s x.q key) (s:=Bc sr key) (q:=Bc qr key) (key:=key) (qr:=qr) (qf:=qf) (by exact Ab.fin hs) (by omega) hi.snd.2 rfl) λe w ⟨he,qf',hc2,hs⟩=>⟨he,?_⟩;have hu:=hi.rem hz hc hc2;have hk0:(0:Int)=lK (BR x.s key) (Aq x.q key) key:=by rw[KJ,if_neg (λh=>(AT.1 h).2 rfl)]
  refine Ar (DI (W:=W) (M:=M) (c:=c) (b:=b) (n:=(0,0,0)) hi hu hz (HV _ _) hk0 (by omega) (by exact Ab.fin hs)) λe w ⟨he,hs⟩=>⟨he,?_⟩;refine Ar (Cw (by omega) hs) λe w ⟨he,hs⟩=>⟨he,?_⟩;unfold LY;rw[if_pos hcond];exact⟨rfl,hs⟩
 ·rw[decide_eq_false hk] at hHas ⊢;have hcond:¬(JO x.s key=1\/key∈x.q):=by simpa using hHas
  refine Ak rfl ?_;unfold LY;rw[if_neg hcond];exact⟨rfl,hs⟩
theorem Ak6(hs:Ab W w L)[hA:At L b (lirR b c N x) F](hz:key.size<64)(hm:0<=D5 c)(hF:SI N x)(hN:N<200000000):Calls PR 277 #[pq b 0,.s key] w λe w'=>e = .returned (.b (Gb c x key).1)/\Ab W w' (F (lirR b c N (Gb c x key).2)):=by
 refine At.call1 (hA:=hA) hs λM hs=>?_;clear hA;refine c1 (cw ⟨mixed,Tryz.func277,rfl⟩ Ap7 ?_);have hHas:=A9a (RE hs).1 (k:=key);have hlen:(Dj x:Int)<=2*N:=by
  have hw:=RE hs;have h1:=Aih x.s 1;unfold Dj;omega
 refine Ao [lirR b c N x] hs λw hs=>?_;refine Ac rfl ?_;refine An (RG hs hz) λe w ⟨he,hs⟩=>⟨_,he,?_⟩;refine Ae hs ?_
 by_cases hk:key∈Cm x
 ·rw[decide_eq_true hk] at hHas ⊢;have hcond:JO x.s key=1\/key∈x.q:=by simpa using hHas
  refine Ak rfl ?_;refine Ae hs ?_;have e1:Gb c x key=(false,x):=by unfold Gb;rw[if_pos (hcond.elim .inl λh=>.inr (.inl h))]
  rw[e1];exact⟨rfl,EH hs (by omega)⟩
 ·rw[decide_eq_false hk] at hHas ⊢;have hcond:¬(JO x.s key=1\/key∈x.q):=by simpa using hHas
  refine Ac rfl ?_;refine Aa ?_;refine GM (k:=.int .i64) c (λw' h=>A2f h) ?_;refine An (RH hs (by omega)) λe w ⟨he,hs⟩=>⟨_,he,?_⟩;refine Ae hs ?_
  with_reducible refine A2 (λhl=>?_) (λhl=>?_)
  ·have e1:Gb c x key=(false,x):=by unfold Gb;rw[if_pos (.inr (.inr hl))]
   rw[e1];exact⟨rfl,EH hs (by omega)⟩
  ·have e1:Gb c x key=(true,lPr (if (AF x.s 1:Int)<D5 c then EB c x key else CG x key)):=by unfold Gb;rw[if_neg (λh=>h.elim (λh=>hcond (.inl h)) λh=>h.elim (λh=>hcond (.inr h)) hl)]
   rw[e1];refine jw YW ?_;obtain⟨sb,qb,xb,sr,sf,qr,qf,m,hi,hs⟩:=Cz hs
   repeat (first|with_reducible refine Aa ?_|((with_reducible refine Ax ?_);first|refine Ag hs ?_|fail)|fail)
   refine(D1 hs (by omega)).mono λe w ⟨he,hs⟩=>⟨_,_,_,_,he,?_⟩;have hG:(AC m key).getD ((0,0,0):Int×Int×Int)=lG m key:=rfl;rw[hG]
   repeat (first|with_reducible refine Aa ?_|((with_reducible refine Ax ?_);first|refine Ag hs ?_|fail)|((with_reducible refine AS ?_);first|refine A0 hs λw hs=>?_|fail)|with_reducible refine Ah hs λb_ w hs=>?_|((with_reducible refine AX ?_);first|refine Am ?_|fail)|((with_reducible refine AA ?_);first|refine A9 hs ?_|fail)|with_reducible refine As hs λw hs=>?_|fail)
   with_reducible refine A2 (λhh=>?_) (λhh=>?_)
   ·rw[if_pos hh]
    repeat (first|((with_reducible refine Ax ?_);first|refine Ag hs ?_|fail)|fail)
    refine Ar (HC (W:=W) (M:=M) (c:=c) (b:=b) hi hz hm hF (by omega) (n:=lG m key) (by rw[hi.ent]) (by exact Ab.fin hs)) λe w ⟨he,hs⟩=>⟨he,?_⟩;refine Ar (Cw (by omega) hs) λe w ⟨he,hs⟩=>⟨he,?_⟩;exact⟨rfl,hs⟩
   ·rw[if_neg hh]
    repeat (first|((with_reducible refine Ax ?_);first|refine Ag hs ?_|fail)|fail)
    refine Ar (GN (W:=W) (M:=M) (c:=c) (b:=b) hi hz hF (by omega) (n:=lG m key) (by rw[hi.ent]) (by exact Ab.fin hs)) λe w ⟨he,hs⟩=>⟨he,?_⟩;refine Ar (Cw (by omega) hs) λe w ⟨he,hs⟩=>⟨he,?_⟩;exact⟨rfl,hs⟩
theorem Ku{q1:BA}{t:List BA}(hq:x.q=q1::t)(hc:0<=c)(hN:N<200000000)(hs:Ab W w (lirR b c N x::M)) :
  Wi By (λv w'=>v = .tuple #[.s q1,.b true]/\Ab W w' (lirR b c N (lFp c ⟨C6 x.s q1,t⟩)::M)) (some ⟨b,0,none⟩) w:=by
 refine jw YV ?_;obtain⟨sb,qb,xb,sr,sf,qr,qf,m,hi,hs⟩:=Cz hs;have hnq:=hi.nq;obtain⟨hnS,hpS⟩:=JU (b:=sb) (row:=sr) (free:=sf) (M:=eB b c sb qb xb ((AF x.s 1:Int)) ((AF x.s 3:Int))::lst .s qb qr qf::ixr Rec.iii xb 0 m::M) (by exact Ab.fin hs);obtain⟨hn,hp⟩:=JU (b:=qb) (row:=qr) (free:=qf) (M:=eB b c sb qb xb ((AF x.s 1:Int)) ((AF x.s 3:Int))::lst .s sb sr sf::ixr Rec.iii xb 0 m::M) (by exact Ab.fin hs);have hlen:qr.length=x.q.length:=by have:=congrArg List.length hi.qk;simpa using this
 have hlt:0<qr.length:=by rw[hlen,hq];simp
 have hkey:qr[0].2=q1:=by
  have:=congrArg (λl:List BA=>l[0]?) hi.qk;rw[hq] at this;simp only[List.getElem?_map,List.getElem?_eq_getElem hlt,List.getElem?_cons_zero,Option.map_some,Option.some.injEq] at this;exact this
 have hz:q1.size<64:=hi.w.qsm _ (by rw[hq];exact .head _);refine Ao [eB b c sb qb xb ((AF x.s 1:Int)) ((AF x.s 3:Int))] hs λw hs=>?_
 repeat (first|with_reducible refine Aa ?_|((with_reducible refine Ax ?_);first|refine Ag hs ?_|fail)|((with_reducible refine AX ?_);first|refine Am ?_|fail)|((with_reducible refine AA ?_);first|refine Ae hs ?_|fail)|fail)
 refine An (E6 hs) λe w ⟨he,hs⟩=>⟨_,he,?_⟩
 repeat (first|((with_reducible refine AA ?_);first|refine Ae hs ?_|fail)|fail)
 refine AH (FR hs) λe w ⟨he,hs⟩=>⟨_,_,he,?_⟩;rw[IK hn hlt];rw[Option.getD_some,hkey]
 repeat (first|with_reducible refine Aa ?_|((with_reducible refine Ax ?_);first|refine Ag hs ?_|fail)|fail)
 refine(D1 hs (by omega)).mono λe w ⟨he,hs⟩=>⟨_,_,_,_,he,?_⟩;have hG:(AC m q1).getD ((0,0,0):Int×Int×Int)=lG m q1:=rfl;rw[hG,hi.ent];refine Ah hs λnb w hs=>?_
 repeat (first|((with_reducible refine AS ?_);first|refine A0 hs λw hs=>?_|fail)|fail)
 refine Ar (GO (W:=W) (M:=lst .s sb sr sf::ixr Rec.iii xb 0 m::M) (c:=c) (b:=b) (nb:=nb) (sb:=sb) (qb:=qb) (xb:=xb) (h:=(AF x.s 1:Int)) (g:=(AF x.s 3:Int)) (i:=lK x.s x.q q1) (s:=Bc sr q1) (q:=Bc qr q1) (key:=q1) (qr:=qr) (qf:=qf) (by exact Ab.fin hs) (by omega) hi.snd.2 rfl) λe w ⟨he,qf',hc2,hs⟩=>⟨he,?_⟩;obtain⟨hu,hk⟩:=hi.ghost hq hpS hc2
 repeat (first|((with_reducible refine Ax ?_);first|refine Ag hs ?_|fail)|((with_reducible refine AS ?_);first|refine A0 hs λw hs=>?_|fail)|fail)
 with_reducible refine A2 (λh0=>?_) (λh0=>?_)
 ·rw[if_pos h0] at hu hk
  repeat (first|((with_reducible refine AS ?_);first|refine A0 hs λw hs=>?_|fail)|fail)
  refine jw N0 ?_
  repeat (first|((with_reducible refine Ax ?_);first|refine Ag hs ?_|fail)|fail)
  refine Ar (DI (W:=W) (M:=M) (c:=c) (b:=b) (n:=(0,Bc sr q1,0)) hi hu hz (R6 _ _) hk (by omega) (by exact Ab.fin hs)) λe w ⟨he,hs⟩=>⟨he,?_⟩;refine Ar (EN (by omega) hc hs) λe w ⟨he,hs⟩=>⟨he,?_⟩;refine Ar (Cw (by omega) hs) λe w ⟨he,hs⟩=>⟨he,?_⟩;exact⟨rfl,hs⟩
 ·rw[if_neg h0] at hu hk;refine jw N0 ?_
  repeat (first|((with_reducible refine Ax ?_);first|refine Ag hs ?_|fail)|fail)
  refine Ar (DI (W:=W) (M:=M) (c:=c) (b:=b) (n:=(3,Bc sr q1,0)) hi hu hz (R6 _ _) hk (by omega) (by exact Ab.fin hs)) λe w ⟨he,hs⟩=>⟨he,?_⟩;refine Ar (EN (by omega) hc hs) λe w ⟨he,hs⟩=>⟨he,?_⟩;refine Ar (Cw (by omega) hs) λe w ⟨he,hs⟩=>⟨he,?_⟩;exact⟨rfl,hs⟩
theorem RF(hs:Ab W w L)[hA:At L b (lirR b c N x) F](hc:0<=c)(hF:SI N x)(hN:N<190000000):Calls PR 272 #[pq b 0] w λe w'=>e = .returned (.tuple #[.s (CX c x).1.1,.b (CX c x).1.2])/\Ab W w' (F (lirR b c N (CX c x).2)):=by
 refine At.call1 (hA:=hA) hs λM hs=>?_;clear hA;refine c1 (cw ⟨mixed,Tryz.func272,rfl⟩ Ap3 ?_);have hw:=(RE hs).1;refine An (RH hs (by omega)) λe w ⟨he,hs⟩=>⟨_,he,?_⟩
 with_reducible refine A2 (λh0=>?_) (λh0=>?_)
 ·have e1:CX c x=((⟨#[]⟩,false),x):=by unfold CX;rw[if_pos (by omega)]
  rw[e1];exact⟨rfl,EH hs (by omega)⟩
 ·have e1:CX c x=(((R4 x).q.headD ⟨#[]⟩,true),lFp c ⟨C6 (R4 x).s ((R4 x).q.headD ⟨#[]⟩),(R4 x).q.drop 1⟩):=by unfold CX;rw[if_neg (by omega)]
  obtain⟨sb,qb,xb,sr,sf,qr,qf,m,hi,hs⟩:=Cz hs;have hq:qr.length=x.q.length:=by have:=congrArg List.length hi.qk;simpa using this
  repeat (first|with_reducible refine Aa ?_|((with_reducible refine Ax ?_);first|refine Ag hs ?_|fail)|fail)
  refine An (FS hs) λe w ⟨he,hs⟩=>⟨_,he,?_⟩;rw[e1]
  with_reducible refine A2 (λhq0=>?_) (λhq0=>?_)
  ·have hqn:x.q=[]:=List.length_eq_zero_iff.1 (by omega);have hp:0<AF x.s 1:=by unfold Dj at h0;rw[hqn] at h0;simp at h0;omega
   refine Ar (Kv (W:=W) (M:=M) (b:=b) (c:=c) (N:=N) (x:=x) hF.2 (by omega) hp (CH hi rfl rfl (by exact Ab.fin hs))) λe w ⟨he,hs⟩=>⟨he,?_⟩;have e2:R4 x=D4 x:=if_pos hqn;obtain⟨k,hk,e3,_⟩:=MC hw hp;have e4:(D4 x).q=k::[]:=by unfold D4;rw[e3,hqn];rfl
   have:=Ku e4 hc (by omega) hs;rw[e2,e4];exact this
  ·have hqn:x.q≠[]:=λh=>hq0 (by rw[hq,h];rfl);obtain⟨k,t,hk⟩:∃k t,x.q=k::t:=by
    cases hh:x.q with
    | nil=>exact absurd hh hqn
    | cons k t=>exact⟨k,t,rfl⟩
   have e2:R4 x=x:=if_neg hqn;have:=Ku (W:=W) (M:=M) (b:=b) (N:=N) hk hc (by omega) (EH (CH hi rfl rfl (by exact Ab.fin hs)) (by omega));rw[e2,hk];exact this
theorem Jz{sl:Sl}{Q:VW}(hQ:∀w',Ab W w' (lirR b c N (lFp c (SS c y key))::M)->Q (.tuple #[.b false,.l sl.a sl.n sl.c]) w')(hi:LX N y sr sf qr qf m)(hz:key.size<64)(hm:0<=D5 c)(hc:0<=c)(hF:SI N y)(hN:N<200000000)
  (hs:Ab W w (blk nb [.i (lG m key).1,.i (lG m key).2.1,.i (lG m key).2.2]::eB b c sb qb xb ((AF y.s 1:Int)) ((AF y.s 3:Int))::lst .s sb sr sf::lst .s qb qr qf::ixr Rec.iii xb 0 m::M)) :
  Wg By Q (some ⟨b,0,none⟩) key nb 0 sl w:=by
 have hj4:∀(t:Bool)(w:World),t=decide ((AF y.s 1:Int)<D5 c\/JO y.s key=3)->Ab W w (blk nb [.i (lG m key).1,.i (lG m key).2.1,.i (lG m key).2.2]::eB b c sb qb xb ((AF y.s 1:Int)) ((AF y.s 3:Int))::lst .s sb sr sf::lst .s qb qr qf::ixr Rec.iii xb 0 m::M) ->
   Wh By Q (some ⟨b,0,none⟩) key nb 0 sl t w:=by
  intro t w ht hs;refine jw YU ?_;refine Al (λh1=>?_) (λh1=>?_)
  ·rw[h1] at ht;have e1:SS c y key=EB c y key:=if_pos (of_decide_eq_true ht.symm);rw[e1] at hQ
   repeat (first|((with_reducible refine Ax ?_);first|refine Ag hs ?_|fail)|fail)
   refine Ar (HC (W:=W) (M:=M) (c:=c) (b:=b) hi hz hm hF (by omega) (n:=lG m key) (by rw[hi.ent]) (by exact Ab.fin hs)) λe w ⟨he,hs⟩=>⟨he,?_⟩;refine Ar (EN (by omega) hc hs) λe w ⟨he,hs⟩=>⟨he,?_⟩;refine Ar (Cw (by omega) hs) λe w ⟨he,hs⟩=>⟨he,?_⟩;exact hQ _ hs
  ·rw[h1] at ht;have e1:SS c y key=CG y key:=if_neg (of_decide_eq_false ht.symm);rw[e1] at hQ
   repeat (first|((with_reducible refine Ax ?_);first|refine Ag hs ?_|fail)|fail)
   refine Ar (GN (W:=W) (M:=M) (c:=c) (b:=b) hi hz hF (by omega) (n:=lG m key) (by rw[hi.ent]) (by exact Ab.fin hs)) λe w ⟨he,hs⟩=>⟨he,?_⟩;refine Ar (EN (by omega) hc hs) λe w ⟨he,hs⟩=>⟨he,?_⟩;refine Ar (Cw (by omega) hs) λe w ⟨he,hs⟩=>⟨he,?_⟩;exact hQ _ hs
 refine jw YT ?_
 repeat (first|with_reducible refine Aa ?_|((with_reducible refine Ax ?_);first|refine Ag hs ?_|fail)|((with_reducible refine AX ?_);first|refine Am ?_|fail)|((with_reducible refine AA ?_);first|refine A9 hs ?_|fail)|with_reducible refine As hs λw hs=>?_|fail)
 with_reducible refine A2 (λh1=>?_) (λh1=>?_)
 ·have ht:true=decide ((AF y.s 1:Int)<D5 c\/JO y.s key=3):=by rw[decide_eq_true (Or.inl h1)]
  with_reducible refine hj4 true w ht ?_
  exact Ab.fin hs
 ·repeat (first|((with_reducible refine Ax ?_);first|refine Ag hs ?_|fail)|fail)
  refine hj4 _ w ?_ (by exact Ab.fin hs);rw[Bool.eq_iff_iff,beq_iff_eq,decide_eq_true_eq,hi.ent,Akv hi.w];exact⟨.inr,λh=>h.elim (λh=>absurd h h1) id⟩
theorem Aa4(hs:Ab W w L)[hA:At L b (lirR b c N x) F](hz:key.size<64)(hm:0<=D5 c)(hc:0<=c)(hF:SI N x)(hF2:SI N (HW c x).2)(hN:N<180000000) :
  Calls PR 271 #[pq b 0,.s key] w λe w'=>∃l:Sl,e = .returned (.tuple #[.b (Ga c x key).1.1,.l l.a l.n l.c])/\Ab W w' (recs Rec.str l (Ga c x key).1.2::F (lirR b c N (Ga c x key).2)):=by
 refine At.oneX (hA:=hA) hs λM hs hb2=>?_;refine(cw ⟨mixed,Tryz.func271,rfl⟩ Ap2 (Q:=λv w'=>∃l:Sl,v = .tuple #[.b (Ga c x key).1.1,.l l.a l.n l.c]/\Ab W w' (lirR b c N (Ga c x key).2::recs Rec.str l (Ga c x key).1.2::M)) ?_).mono λe w' ⟨v,he,l,hv,hs⟩=>⟨l,by rw[he,hv],hb2 _ _ [recs Rec.str l (Ga c x key).1.2] hs⟩;clear hb2 hA;have hw:=(RE hs).1;obtain⟨sb,qb,xb,sr,sf,qr,qf,m,hi,hs⟩:=Cz hs;obtain⟨hnS,hpS⟩:=JU (b:=sb) (row:=sr) (free:=sf) (M:=eB b c sb qb xb ((AF x.s 1:Int)) ((AF x.s 3:Int))::lst .s qb qr qf::ixr Rec.iii xb 0 m::M) (by exact Ab.fin hs);have hE:=hi.ent key
 refine Ac rfl ?_
 repeat (first|with_reducible refine Aa ?_|((with_reducible refine Ax ?_);first|refine Ag hs ?_|fail)|fail)
 refine(D1 hs (by omega)).mono λe w ⟨he,hs⟩=>⟨_,_,_,_,he,?_⟩;have hG:(AC m key).getD ((0,0,0):Int×Int×Int)=lG m key:=rfl;rw[hG];refine Ah hs λnb w hs=>?_;have hj1:∀(t:Bool)(w:World),t=decide (JO x.s key=1\/(key∈x.q/\JO x.s key=2))->Ab W w (blk nb [.i (lG m key).1,.i (lG m key).2.1,.i (lG m key).2.2]::eB b c sb qb xb ((AF x.s 1:Int)) ((AF x.s 3:Int))::lst .s sb sr sf::lst .s qb qr qf::ixr Rec.iii xb 0 m::M) ->
   PA By (λv w'=>∃l:Sl,v = .tuple #[.b (Ga c x key).1.1,.l l.a l.n l.c]/\Ab W w' (lirR b c N (Ga c x key).2::recs Rec.str l (Ga c x key).1.2::M)) (some ⟨b,0,none⟩) key nb 0 t w:=by
  clear hs;intro t w ht hs;refine jw YR ?_;refine Al (λh1=>?_) (λh1=>?_)
  ·rw[h1] at ht;have e1:Ga c x key=((true,[]),lPr (EB c x key)):=if_pos (of_decide_eq_true ht.symm);rw[e1]
   repeat (first|((with_reducible refine Ax ?_);first|refine Ag hs ?_|fail)|fail)
   refine Ar (HC (W:=W) (M:=M) (c:=c) (b:=b) hi hz hm hF (by omega) (n:=lG m key) (by rw[hi.ent]) (by exact Ab.fin hs)) λe w ⟨he,hs⟩=>⟨he,?_⟩;refine Ar (Cw (by omega) hs) λe w ⟨he,hs⟩=>⟨he,?_⟩;exact⟨⟨none,0,0⟩,rfl,(Ab.nilR Rec.str (EH hs (by omega))).perm (List.Perm.swap _ _ _)⟩
  ·rw[h1] at ht;have ht:=of_decide_eq_false ht.symm
   repeat (first|((with_reducible refine Ax ?_);first|refine Ag hs ?_|fail)|fail)
   with_reducible refine A2 (λh2=>?_) (λh2=>?_)
   ·rw[hE] at h2;have hq:=(KK hw key).1 h2;have e1:Ga c x key=((true,[]),lPr (CG x key)):=by unfold Ga;rw[if_neg ht,if_pos hq]
    rw[e1]
    repeat (first|((with_reducible refine Ax ?_);first|refine Ag hs ?_|fail)|fail)
    refine Ar (GN (W:=W) (M:=M) (c:=c) (b:=b) hi hz hF (by omega) (n:=lG m key) (by rw[hi.ent]) (by exact Ab.fin hs)) λe w ⟨he,hs⟩=>⟨he,?_⟩;refine Ar (Cw (by omega) hs) λe w ⟨he,hs⟩=>⟨he,?_⟩;exact⟨⟨none,0,0⟩,rfl,(Ab.nilR Rec.str (EH hs (by omega))).perm (List.Perm.swap _ _ _)⟩
   ·rw[hE] at h2;have hq:key∉x.q:=λhq=>h2 ((KK hw key).2 hq);have e1:Ga c x key=((false,(HW c x).1),lFp c (SS c (HW c x).2 key)):=by unfold Ga;rw[if_neg ht,if_neg hq]
    rw[e1];refine jw YS ?_;refine Ao [eB b c sb qb xb ((AF x.s 1:Int)) ((AF x.s 3:Int))] hs λw hs=>?_
    repeat (first|with_reducible refine Aa ?_|((with_reducible refine AX ?_);first|refine Am ?_|fail)|fail)
    refine An (NT (W:=W) (M:=blk nb [.i (lG m key).1,.i (lG m key).2.1,.i (lG m key).2.2]::M) (b:=b) (c:=c) (sb:=sb) (qb:=qb) (xb:=xb) hi (by omega) (by exact Ab.fin hs)) λe w ⟨he,hs⟩=>⟨_,he,?_⟩
    repeat (first|((with_reducible refine AA ?_);first|refine Ae hs ?_|fail)|fail)
    with_reducible refine A2 (λh3=>?_) (λh3=>?_)
    ·have e2:HW c x=([(CX c x).1.1],(CX c x).2):=if_pos (by omega);rw[e2];refine AH (RF (CH hi rfl rfl hs) hc hF (by omega)) λe w ⟨he,hs⟩=>⟨_,_,he,?_⟩
     repeat (first|with_reducible refine Ah hs λb_ w hs=>?_|fail)
     have hs:=Ab.nilR Rec.str hs;refine Cf (s:=⟨none,0,0⟩) (a:=(CX c x).1.1) hs rfl rfl rfl rfl (by decide) (by simp) λs4 w hs4 hs=>?_;have hs:Ab W w (lirR b c N (CX c x).2::recs Rec.str s4 [(CX c x).1.1]::blk nb [.i (lG m key).1,.i (lG m key).2.1,.i (lG m key).2.2]::M):=by exact Ab.fin hs
     obtain⟨sb,qb,xb,sr,sf,qr,qf,m2,hi2,hs⟩:=Cz hs
     repeat (first|with_reducible refine Aa ?_|((with_reducible refine Ax ?_);first|refine Ag hs ?_|fail)|fail)
     refine(D1 hs (by omega)).mono λe w ⟨he,hs⟩=>⟨_,_,_,_,he,?_⟩;have hG:(AC m2 key).getD ((0,0,0):Int×Int×Int)=lG m2 key:=rfl;rw[hG]
     repeat (first|((with_reducible refine AS ?_);first|refine A0 hs λw hs=>?_|fail)|fail)
     refine Jz (W:=W) (M:=recs Rec.str s4 [(CX c x).1.1]::M) (sl:=s4) (b:=b) (nb:=nb) (w:=w) (c:=c) (sb:=sb) (qb:=qb) (xb:=xb) (λw hs=>⟨s4,rfl,by exact Ab.fin hs⟩) hi2 hz hm hc (by rw[e2] at hF2;exact hF2) (by omega) ?_;exact Ab.fin hs
    ·have e2:HW c x=([],x):=if_neg (by omega);rw[e2];have hs:=Ab.nilR Rec.str hs;refine Jz (W:=W) (M:=recs Rec.str ⟨none,0,0⟩ []::M) (sl:=⟨none,0,0⟩) (b:=b) (nb:=nb) (w:=w) (c:=c) (sb:=sb) (qb:=qb) (xb:=xb) (λw hs=>⟨⟨none,0,0⟩,rfl,(EH hs (by omega)).perm (.refl _)⟩) hi hz hm hc hF (by omega) ?_;exact Ab.fin hs
 repeat (first|((with_reducible refine Ax ?_);first|refine Ag hs ?_|fail)|((with_reducible refine AS ?_);first|refine A0 hs λw hs=>?_|fail)|fail)
 rw[hE]
 with_reducible refine A2 (λh1=>?_) (λh1=>?_)
 ·refine hj1 _ w ?_ (by exact Ab.fin hs);rw[h1,decide_eq_true (.inl ((WU hw key).2 h1))];rfl
 ·repeat (first|((with_reducible refine Ax ?_);first|refine Ag hs ?_|fail)|fail)
  rw[hE]
  with_reducible refine A2 (λh2=>?_) (λh2=>?_)
  ·have hq:=(KK hw key).1 h2
   repeat (first|((with_reducible refine Ax ?_);first|refine Ag hs ?_|fail)|fail)
   refine hj1 _ w ?_ (by exact Ab.fin hs);rw[hE,Bool.eq_iff_iff,bne_iff_ne,decide_eq_true_eq];constructor
   ·intro h;exact .inr ⟨hq,(Aij hw hq).2 (Classical.byContradiction λhk=>h (hi.s0 hk))⟩
   ·rintro(h|h)
    ·exact absurd ((WU hw key).1 h) h1
    ·exact Vo hpS (by rw[hi.sk];exact(Aij hw hq).1 h.2)
  ·with_reducible refine hj1 false w ?_ ?_
   rotate_left
   ·exact Ab.fin hs
   symm;rw[decide_eq_false_iff_not];rintro(h|h)
   ·exact h1 ((WU hw key).1 h)
   ·exact h2 ((KK hw key).2 h.1)
end
end Go.Proofs.YtjipofkjmmpjdaaGreat
namespace Go.Hb
theorem Aa1{S:SL}{i:Int}{j:Nat}(hj:j<S.length):CQ (S.take (j+1)) i=CQ (S.take j) i++(if (S.getD j default).2=i then [(S.getD j default).1] else []):=by
 unfold CQ;rw[CA hj,List.filter_append,List.map_append];congr 1;rw[List.filter_cons];split <;> split <;> simp_all
theorem Aky(S:SL)(i:Int)(j:Nat):(CQ (S.take j) i).length<=j:=by
 unfold CQ;rw[List.length_map];exact Nat.le_trans (List.length_filter_le _ _) (by simp;omega)
theorem Akx(S:SL)(i:Int):(CQ S i).length<=S.length:=by unfold CQ;rw[List.length_map];exact List.length_filter_le _ _
theorem Afo{S:SL}{j:Nat}(hj:j<S.length):(Bm S).getD j default=(S.getD j default).1:=by
 unfold Bm;rw[List.getD_eq_getElem?_getD,List.getD_eq_getElem?_getD,List.getElem?_map,List.getElem?_eq_getElem hj];rfl
end Go.Hb
namespace Go.Proofs.YtjipofkjmmpjdaaGreat
open Go.Hb Go.IntWalk
section
variable{W w:World}{L M:List HP}{F:HP->List HP}{b nb tb:Nat}{c:Int}{N N':Nat}{x y:BE}{sb qb xb:Nat}{m:LM}{key:BA}{h g i:Int}
theorem Aft(h:Ab W w L)[hA:At L b (lirR b c N x) F](hN:N<400000000):Calls PR 289 #[pq b 0,.i i] w λe w'=>∃l:Sl,e = .returned (.l l.a l.n l.c)/\Ab W w' (recs Rec.str l (CQ x.s i)::F (lirR b c N x)):=by
 refine At.oneX (hA:=hA) h λM hs hb=>?_;refine(cw ⟨mixed,Tryz.func289,rfl⟩ Aqj (Q:=λv w'=>∃l:Sl,v = .l l.a l.n l.c/\Ab W w' (lirR b c N x::recs Rec.str l (CQ x.s i)::M)) ?_).mono λe w' ⟨v,he,l,hv,hs⟩=>⟨l,by rw[he,hv],hb _ _ [recs Rec.str l (CQ x.s i)] hs⟩;clear hb hA;have hw:=RE hs;obtain⟨sb,qb,xb,sr,sf,qr,qf,m,hi,hs⟩:=Cz hs;have hns:=hi.ns;have hnq:=hi.nq
 repeat (first|with_reducible refine Aa ?_|((with_reducible refine Ax ?_);first|refine Ag hs ?_|fail)|fail)
 refine(Lb hs (by omega)).mono λe w ⟨ks,he,hs⟩=>⟨_,he,?_⟩;rw[hi.sk] at hs;have hn:=Bt (s:=ks) hs;have hlk:(Bm x.s).length=x.s.length:=by simp[Bm]
 have hs:=Ab.nilR Rec.str hs;have loop:∀(f j:Nat)(w:World)(acc:Sl),j+f=x.s.length->Ab W w (recs Rec.str acc (CQ (x.s.take j) i)::recs Rec.str ks (Bm x.s)::eB b c sb qb xb ((AF x.s 1:Int)) ((AF x.s 3:Int))::lst .s sb sr sf::lst .s qb qr qf::ixr Rec.iii xb 0 m::M) ->
   L9 By (λv w'=>∃l:Sl,v = .l l.a l.n l.c/\Ab W w' (lirR b c N x::recs Rec.str l (CQ x.s i)::M)) (f+1) (some ⟨b,0,none⟩) i acc ks (ks.n:Int) (j:Int) w:=by
  clear hs;intro f
  induction f with
  | zero=>
   intro j w acc hif hs;rw[N3];refine Ac (decide_eq_false (by omega)) ?_;refine jw Za ?_;rw[List.take_of_length_le (by omega)] at hs;exact⟨acc,rfl,CH hi rfl rfl (by exact Ab.fin hs)⟩
  | succ f ih=>
   intro j w acc hif hs;rw[N3];refine Ak (decide_eq_true (by omega)) ?_
   repeat (first|with_reducible refine Aa ?_|((with_reducible refine Ax ?_);first|refine Ag hs ?_|refine Bb hs ?_|fail)|((with_reducible refine AM ?_);first|refine AK hs λb_ o_ hs=>?_|fail)|fail)
   rw[Int.toNat_natCast,Afo (by omega)];have hmem:x.s.getD j default∈x.s:=GI (by omega);have hsz:=hi.w.ssm _ hmem;have Li:=Aky x.s i j;have hds:=Aa1 (i:=i) (S:=x.s) (j:=j) (by omega);skip;refine(D1 hs (by omega)).mono λe w ⟨he,hs⟩=>⟨_,_,_,_,he,?_⟩;have hG:(AC m (x.s.getD j default).1).getD ((0,0,0):Int×Int×Int)=lG m (x.s.getD j default).1:=rfl;rw[hG,hi.ent,Atg hi.w hmem]
   repeat (first|((with_reducible refine Ax ?_);first|refine Ag hs ?_|fail)|((with_reducible refine AS ?_);first|refine A0 hs λw hs=>?_|fail)|with_reducible refine Ah hs λb_ w hs=>?_|fail)
   with_reducible refine A2 (λh1=>?_) (λh1=>?_)
   ·rw[if_pos h1] at hds
    repeat (first|with_reducible refine Ah hs λb_ w hs=>?_|fail)
    refine Cf (s:=acc) (a:=(x.s.getD j default).1) hs rfl rfl rfl rfl (by decide) (by omega) λs2 w hs2 hs=>?_;rw[<- hds] at hs;rw[show IntKind.wrap .i64 ((j:Int)+1)=((j+1:Nat):Int) by rw[i64_in _ (by omega)];omega]
    exact ih (j+1) w s2 (by omega) (by exact Ab.fin hs)
   ·rw[if_neg h1,List.append_nil] at hds;rw[<- hds] at hs;rw[show IntKind.wrap .i64 ((j:Int)+1)=((j+1:Nat):Int) by rw[i64_in _ (by omega)];omega]
    exact ih (j+1) w acc (by omega) (by exact Ab.fin hs)
 refine AR (x.s.length+1) ?_;exact loop x.s.length 0 w ⟨none,0,0⟩ (by omega) (by exact Ab.fin hs)
theorem Ak5(h:Ab W w L)[hA:At L b (lirR b c N x) F](hN:N<400000000):Calls PR 275 #[pq b 0] w λe w'=>∃l:Sl,e = .returned (.l l.a l.n l.c)/\Ab W w' (recs Rec.str l (Cm x)::F (lirR b c N x)):=by
 refine At.oneX (hA:=hA) h λM hs hb=>?_;refine(cw ⟨mixed,Tryz.func275,rfl⟩ Ap5 (Q:=λv w'=>∃l:Sl,v = .l l.a l.n l.c/\Ab W w' (lirR b c N x::recs Rec.str l (Cm x)::M)) ?_).mono λe w' ⟨v,he,l,hv,hs⟩=>⟨l,by rw[he,hv],hb _ _ [recs Rec.str l (Cm x)] hs⟩;clear hb hA;refine Ac rfl ?_;have hw:=RE hs;have h1:=Akx x.s 1;obtain⟨sb,qb,xb,sr,sf,qr,qf,m,hi,hs⟩:=Cz hs;have hnq:=hi.nq
 repeat (first|with_reducible refine Aa ?_|((with_reducible refine Ax ?_);first|refine Ag hs ?_|fail)|fail)
 refine(Lb hs (by omega)).mono λe w ⟨ks,he,hs⟩=>⟨_,he,?_⟩;rw[hi.qk] at hs;have hs:Ab W w (lirR b c N x::recs Rec.str ks x.q::M):=CH hi rfl rfl (by exact Ab.fin hs);refine(Aft hs hN).mono λe w ⟨l2,he,hs⟩=>⟨_,he,?_⟩;have hn2:=Bt (s:=l2) hs;refine DK (s:=ks) (new:=CQ x.s 1) hs (GS (s:=l2) hs) hn2 (Cx _) rfl (by decide) (by omega) λs2 w hs2 hs=>?_;exact⟨s2,rfl,by exact Ab.fin hs⟩
theorem Aa5(hs:Ab W w L){r:Int}:Calls PR 152 #[.i r] w λe w'=>∃b,e = .returned (pq b 0)/\Ab W w' (lirR b (Bv r) 0 Gc::L):=by
 refine(cw ⟨mixed,Tryz.func152,rfl⟩ Aot (Q:=λv w'=>∃b,v=pq b 0/\Ab W w' (lirR b (Bv r) 0 Gc::L)) ?_).mono λe w' ⟨v,he,b,hv,hs⟩=>⟨b,by rw[he,hv],hs⟩;refine Az (by decide) ?_;refine(IQ hs).mono λe w ⟨sb,he,hs⟩=>⟨_,he,?_⟩;refine(IQ hs).mono λe w ⟨qb,he,hs⟩=>⟨_,he,?_⟩;refine(Ajg hs).mono λe w ⟨xb,he,hs⟩=>⟨_,he,?_⟩;refine Ah hs λb w hs=>?_;refine⟨b,rfl,?_⟩;have e0:(if (if (1024:Int)<r then (1024:Int) else r)>(1:Int) then (if (1024:Int)<r then (1024:Int) else r) else (1:Int))=Bv r:=by unfold Bv;split <;> split <;> omega
 rw[e0] at hs;have hr:1<=Bv r/\Bv r<=1024:=by unfold Bv;omega
 have e1:Int.tdiv (Bv r) 10=Bv r / 10:=by rw[Int.tdiv_eq_ediv_of_nonneg (by omega)]
 have e2:IntKind.wrap .i64 (Bv r-(if (IntKind.wrap .i64 (Int.tdiv (Bv r) (10:Int)))>(1:Int) then (IntKind.wrap .i64 (Int.tdiv (Bv r) (10:Int))) else (1:Int)))=D5 (Bv r):=by
  rw[e1,i64_in (Bv r / 10) (by omega),i64_in _ (by split <;> omega)];unfold D5;split <;> omega
 rw[e2] at hs;have hi:LX 0 Gc [] [] [] [] ([]:LM):=⟨(A9b (c:=1) (by decide) (by decide)).w,rfl,rfl,λk=>by simp[lG,AC,lK,Gc,Bm,Bc],by simp,by simp,by simp,by simp,by simp⟩;exact CH hi rfl rfl (by exact Ab.fin hs)
end
end Go.Proofs.YtjipofkjmmpjdaaGreat
namespace Go.Hb
def Q7(b:Nat)(c:Int)(R:BL):HP:=Ks λ(x:BE)=>F6 (R=Cm x/\Om c x) (lirR b c 5000 x)
section
variable{W w:World}{M L:List HP}{b:Nat}{c:Int}{R:BL}{k:BA}{x:BE}
theorem Fm(h:Ab W w (Q7 b c R::M)):∃x:BE,R=Cm x/\Om c x/\Ab W w (lirR b c 5000 x::M):=by
 obtain⟨x,h⟩:=h.openE;obtain⟨hp,h⟩:=h.openA;exact⟨x,hp.1,hp.2,h⟩
theorem Fo{x:BE}(hx:Om c x)(h:Ab W w (lirR b c 5000 x::M)):Ab W w (Q7 b c (Cm x)::M):=Ab.shutE x (Ab.shutA ⟨rfl,hx⟩ h)
theorem Om.small(h:Om c x):x.s.length<=4096/\x.q.length<=1024:=by
 have h1:=h.len;have h2:=h.ghs;have h3:=h.hots;have h4:=h.c2
 have hq:(x.q.length:Int)<=c:=by unfold Dj at h1;omega
 have hcold:AF x.s 2<=x.q.length:=by
  have:((x.s.filter λe=>decide (e.2=2)).map (·.1)).length<=x.q.length:=by
   refine Di (h.w.sn.sublist (List.filter_sublist.map _)) λk hk=>?_;obtain⟨e,he,rfl⟩:=List.mem_map.1 hk;obtain⟨h1,h2⟩:=List.mem_filter.1 he;exact h.w.coldq e h1 (by simpa using h2)
  rw[List.length_map,<- List.countP_eq_length_filter] at this;exact this
 have hall:x.s.length<=AF x.s 1+AF x.s 2+AF x.s 3:=by
  have:∀S:SL,(∀e∈S,e.2=1\/e.2=2\/e.2=3)->S.length<=AF S 1+AF S 2+AF S 3:=by
   intro S;unfold AF
   induction S with
   | nil=>intro _;simp
   | cons a t ih=>
    intro hk;have h1:=ih λe he=>hk e (.tail _ he);simp only[List.countP_cons,List.length_cons];rcases hk a (.head _) with h|h|h <;> simp[h] <;> omega
  exact this x.s h.w.kinds
 have h5:=JQ h.c1;unfold Dj at h1;omega
theorem Om.fit(h:Om c x):SI 5000 x:=by have:=h.small;exact⟨by omega,by omega⟩
theorem Om.most(h:Om c x):0<=D5 c:=by have:=h.c1;unfold D5;omega
theorem Om.eok{x:BE}(h:Om c x):DR c (Cm x):=⟨h.w.res_nd,λk hk=>by
 rcases List.mem_append.1 hk with h1|h1
 ·exact h.w.qsm k h1
 ·unfold CQ at h1;obtain⟨e,he,rfl⟩:=List.mem_map.1 h1;exact h.w.ssm e (List.mem_filter.1 he).1,by rw[Jy];exact h.len,h.c1,h.c2⟩
theorem Aku{x:BE}(h:(Dj x:Int)<c):(Ga c x k).1.2=[]:=by
 have e:(HW c x).1=[]:=by unfold HW;rw[if_neg (by omega)]
 unfold Ga;split
 ·rfl
 ·split
  ·rfl
  ·exact e
theorem KI{x:BE}(hx:Om c x):Om c (CX c x).2/\Hc c (Cm x) (CX c x).1.1 (CX c x).1.2 (Cm (CX c x).2):=by
 by_cases h0:Dj x=0
 ·have e:CX c x=((⟨#[]⟩,false),x):=if_pos h0;rw[e];exact⟨hx,Hc.none hx.eok (by rw[Jy];exact h0)⟩
 ·obtain⟨h1,h2⟩:=UL hx h0;refine⟨h2.ok,?_⟩;rw[h1];exact⟨(decide_eq_true (List.length_pos_of_mem h2.sub)).symm,λ_=>h2.sub,λz=>by rw[h2.mem];simp,h2.ok.eok⟩
theorem A42(h:Ab W w (Q7 b c R::M)):DR c R:=by
 obtain⟨x,rfl,hx,h⟩:=Fm h;exact hx.eok
theorem Atj(hx:Om c x):Om c (HW c x).2:=by
 unfold HW;split
 ·exact(KI hx).1
 ·exact hx
end
end Go.Hb
namespace Go.Proofs.YtjipofkjmmpjdaaGreat
open Go.Hb Go.IntWalk
section
variable{W w:World}{L M:List HP}{b:Nat}{c:Int}{R:BL}{key:BA}
theorem A7j(hs:Ab W w L){r:Int}:BB PR 152 #[.i r] w λv w'=>∃b,v=pq b 0/\Ab W w' (Q7 b (Bv r) []::L):=by
 refine Calls.mono (Aa5 (r:=r) hs) λe w' ⟨b,he,hs⟩=>⟨_,he,b,rfl,?_⟩;have hr:=EK r;exact Fo (x:=Gc) (A9b hr.1 hr.2) (EH hs (by omega))
theorem A2e(hs:Ab W w (Q7 b c R::M)):BB PR 279 #[pq b 0] w λv w'=>v = .i c/\Ab W w' (Q7 b c R::M):=by
 obtain⟨x,rfl,hx,hs⟩:=Fm hs;exact Calls.mono (Ak7 hs) λe w' ⟨he,hs⟩=>⟨_,he,rfl,Fo hx hs⟩
theorem A7i(hs:Ab W w (Q7 b c R::M)):BB PR 276 #[pq b 0] w λv w'=>v = .i (R.length:Int)/\Ab W w' (Q7 b c R::M):=by
 obtain⟨x,rfl,hx,hs⟩:=Fm hs;exact Calls.mono (RH hs (by omega)) λe w' ⟨he,hs⟩=>⟨_,he,by rw[Jy],Fo hx hs⟩
theorem A7h(hz:key.size<64)(hs:Ab W w (Q7 b c R::M)):BB PR 274 #[pq b 0,.s key] w λv w'=>v = .b (decide (key∈R))/\Ab W w' (Q7 b c R::M):=by
 obtain⟨x,rfl,hx,hs⟩:=Fm hs;exact Calls.mono (RG hs hz) λe w' ⟨he,hs⟩=>⟨_,he,rfl,Fo hx hs⟩
theorem A2c(hs:Ab W w (Q7 b c R::M)):BB PR 275 #[pq b 0] w λv w'=>∃(l:Sl) (ks:BL),v = .l l.a l.n l.c/\ks.Perm R/\Ab W w' (Q7 b c R::recs Rec.str l ks::M):=by
 obtain⟨x,rfl,hx,hs⟩:=Fm hs;refine Calls.mono (Ak5 hs (by omega)) λe w' ⟨l,he,hs⟩=>⟨_,he,l,_,rfl,List.Perm.refl _,?_⟩;have hs:Ab W w' (lirR b c 5000 x::recs Rec.str l (Cm x)::M):=by exact Ab.fin hs
 have hs:=Fo hx hs;exact Ab.fin hs
theorem Ak3(hz:key.size<64)(hs:Ab W w (Q7 b c R::M)):BB PR 271 #[pq b 0,.s key] w λv w'=>∃(hit:Bool) (l:Sl) (g S:BL),v = .tuple #[.b hit,.l l.a l.n l.c]/\Fj c R key hit g S/\Ab W w' (Q7 b c S::recs Rec.str l g::M):=by
 obtain⟨x,rfl,hx,hs⟩:=Fm hs;refine Calls.mono (Aa4 (key:=key) hs hz hx.most (by have:=hx.c1;omega) hx.fit (Atj hx).fit (by omega)) λe w' ⟨l,he,hs⟩=>⟨_,he,_,l,(Ga c x key).1.2,Cm (Ga c x key).2,rfl,?_,?_⟩
 ·exact⟨(R2 hx hz).2,(R2 hx hz).1.eok,λh=>Aku (by rw[<- Jy];exact h)⟩
 ·have hs:Ab W w' (lirR b c 5000 (Ga c x key).2::recs Rec.str l (Ga c x key).1.2::M):=by exact Ab.fin hs
  have hs:=Fo (R2 hx hz).1 hs;exact Ab.fin hs
theorem A2d(hz:key.size<64)(hs:Ab W w (Q7 b c R::M)):BB PR 277 #[pq b 0,.s key] w λv w'=>∃(yes:Bool) (S:BL),v = .b yes/\DG c R key yes S/\Ab W w' (Q7 b c S::M):=by
 obtain⟨x,rfl,hx,hs⟩:=Fm hs;refine Calls.mono (Ak6 hs hz hx.most hx.fit (by omega)) λe w' ⟨he,hs⟩=>⟨_,he,_,Cm (Gb c x key).2,rfl,?_,Fo (UN hx hz).1 hs⟩;obtain⟨h1,h2,h3,h4⟩:=UN (k:=key) hx hz;refine⟨h2,λz=>?_,h1.eok⟩;cases ho:(Gb c x key).1 with
 | true=>rw[h3 ho];simp
 | false=>rw[h4 ho];simp
theorem Ak4(hz:key.size<64)(hs:Ab W w (Q7 b c R::M)):BB PR 278 #[pq b 0,.s key] w λv w'=>∃(yes:Bool) (S:BL),v = .b yes/\Gj c R key yes S/\Ab W w' (Q7 b c S::M):=by
 obtain⟨x,rfl,hx,hs⟩:=Fm hs;refine Calls.mono (Aa6 hs hz (by omega)) λe w' ⟨he,hs⟩=>⟨_,he,_,Cm (LY x key).2,rfl,?_,Fo (Aa0 hx).1 hs⟩;obtain⟨h1,h2,h3,h4⟩:=Aa0 (k:=key) hx;refine⟨h2,λz=>?_,h1.eok⟩;cases ho:(LY x key).1 with
 | true=>exact(h3 ho).1 z
 | false=>
  rw[ho] at h2;have hno:key∉Cm x:=of_decide_eq_false h2.symm;rw[h4 ho];exact⟨λh=>⟨h,λe=>hno (e ▸ h)⟩,λh=>h.1⟩
theorem Ats(hs:Ab W w (Q7 b c R::M)):BB PR 272 #[pq b 0] w λv w'=>∃x yes S,v = .tuple #[.s x,.b yes]/\Hc c R x yes S/\Ab W w' (Q7 b c S::M):=by
 obtain⟨x,rfl,hx,hs⟩:=Fm hs;refine Calls.mono (RF hs (by have:=hx.c1;omega) hx.fit (by omega)) λe w' ⟨he,hs⟩=>⟨_,he,_,_,Cm (CX c x).2,rfl,?_,Fo (KI hx).1 hs⟩
 exact(KI hx).2
end
end Go.Proofs.YtjipofkjmmpjdaaGreat
namespace Go.Hb
open Go.Proofs.YtjipofkjmmpjdaaGreat
abbrev cT(b:Nat)(s:Sl)(xb:Nat)(c ki ko:Int):HP:=blk b [.l s.a s.n s.c,pq xb 0,.i c,.i ki,.i ko]
def Lh(b:Nat)(c:Int)(R:BL):HP:=Ks λ(z:(Sl×Nat×Int×Int)×(BL×BL×BL))=>F6 ((R=z.2.1++z.2.2.2/\DR c R)/\(0<=z.1.2.2.1/\0<=z.1.2.2.2/\z.1.2.2.2<=1024)/\z.2.2.1.length<=1024)
 (AO [cT b z.1.1 z.1.2.1 c z.1.2.2.1 z.1.2.2.2,rowsC z.1.1 z.1.2.1 5000 [z.2.1,z.2.2.1,z.2.2.2]])
section
variable{W w:World}{M L:List HP}{b:Nat}{c:Int}{R:BL}
theorem DT(h:Ab W w (Lh b c R::M)):∃(s:Sl) (xb:Nat) (ki ko:Int) (i o a:BL),(R=i++a/\DR c R)/\(0<=ki/\0<=ko/\ko<=1024)/\o.length<=1024/\Ab W w (cT b s xb c ki ko::rowsC s xb 5000 [i,o,a]::M):=by
 obtain⟨⟨⟨s,xb,ki,ko⟩,⟨i,o,a⟩⟩,h⟩:=h.openE;obtain⟨⟨h1,h2,h3⟩,h⟩:=h.openA;exact⟨s,xb,ki,ko,i,o,a,h1,h2,h3,h.openL⟩
theorem C4{s:Sl}{xb:Nat}{ki ko:Int}{i o a:BL}(h1:R=i++a/\DR c R)(h2:0<=ki/\0<=ko/\ko<=1024)(h3:o.length<=1024)(h:Ab W w (cT b s xb c ki ko::rowsC s xb 5000 [i,o,a]::M)):Ab W w (Lh b c R::M):=
 Ab.shutE ((s,xb,ki,ko),(i,o,a)) (Ab.shutA ⟨h1,h2,h3⟩ (Ab.shutL (Ps:=[_,_]) h))
theorem Q6(h:Ab W w (Lh b c R::M)):DR c R:=by
 obtain⟨s,xb,ki,ko,i,o,a,h1,_⟩:=DT h;exact h1.2
theorem Agt(h:Ab W w (Lh b c R::M)):w.cell? ⟨b,2,none⟩=some (.i c):=by
 obtain⟨s,xb,ki,ko,i,o,a,_,_,_,h⟩:=DT h;exact h.cell (q:=0) rfl
theorem Mv{i a:BL}(h:R=i++a/\DR c R):i.length+a.length<=1024/\(i.length+a.length:Int)<=c/\R.length=i.length+a.length:=by
 have h1:=h.2.room;have h2:=h.2.c2
 have h3:R.length=i.length+a.length:=by rw[h.1];simp
 omega
end
end Go.Hb
namespace Go.Proofs.YtjipofkjmmpjdaaGreat
open Go.Hb Go.IntWalk
section
variable{W w:World}{L M:List HP}{b:Nat}{c:Int}{R:BL}{key:BA}
theorem A8g(hs:Ab W w L){r:Int}:BB PR 153 #[.i r] w λv w'=>∃b,v=pq b 0/\Ab W w' (Lh b (Bv r) []::L):=by
 refine cw ⟨mixed,Tryz.func153,rfl⟩ Aou ?_;refine(Mo Cy (nr:=3) (by decide) hs).mono λe w ⟨s,xb,he,hs⟩=>⟨s,_,he,?_⟩;refine Az (by decide) (Az (by decide) ?_);refine Ah hs λb w hs=>⟨b,rfl,?_⟩;rw[Mk] at hs;have hs:Ab W w (rowsC s xb 0 [[],[],[]]::blk b _::L):=hs.perm (List.Perm.swap _ _ _);have hs:=(JZ (N':=5000) hs (by omega)).perm (List.Perm.swap _ _ _);have hr:=EK r;refine C4 (i:=[]) (o:=[]) (a:=[]) ⟨rfl,DR.nil (EK r).1 (EK r).2⟩ ⟨?_,?_,?_⟩ (by simp) hs
 ·split <;> omega
 ·split <;> omega
 ·rw[Int.tdiv_eq_ediv_of_nonneg (by omega),i64_in _ (by omega)];split <;> omega
theorem A3l(hs:Ab W w (Lh b c R::M)):BB PR 308 #[pq b 0] w λv w'=>v = .i c/\Ab W w' (Lh b c R::M):=by
 refine cw ⟨mixed,Tryz.func308,rfl⟩ Aq2 ?_;obtain⟨s,xb,ki,ko,i,o,a,h1,h2,h3,hs⟩:=DT hs;refine Ac rfl (Aa (Ag hs ?_));exact⟨rfl,C4 h1 h2 h3 hs⟩
theorem Xz(hs:Ab W w (Lh b c R::M)):BB PR 305 #[pq b 0] w λv w'=>v = .i (R.length:Int)/\Ab W w' (Lh b c R::M):=by
 refine cw ⟨mixed,Tryz.func305,rfl⟩ Aqz ?_;obtain⟨s,xb,ki,ko,i,o,a,h1,h2,h3,hs⟩:=DT hs;refine Ac rfl (Aa (Ag (x:=s) hs (Ag hs ?_)));refine Ah hs λnb w hs=>?_;refine AV Cy (nr:=3) (K:=[i,o,a]) [0,2] (M:=cT b s xb c ki ko::M) (by exact Ab.fin hs) (by omega) rfl λw hs=>?_;refine⟨?_,C4 h1 h2 h3 (by exact Ab.fin hs)⟩;rw[h1.1];simp[Ca]
theorem Agh(hz:key.size<64)(hs:Ab W w (Lh b c R::M)):BB PR 303 #[pq b 0,.s key] w λv w'=>v = .b (decide (key∈R))/\Ab W w' (Lh b c R::M):=by
 refine cw ⟨mixed,Tryz.func303,rfl⟩ Aqx ?_;obtain⟨s,xb,ki,ko,i,o,a,h1,h2,h3,hs⟩:=DT hs;refine Ac rfl (Aa (Ag (x:=s) hs (Ag hs ?_)));refine An (Eu Cy (K:=[i,o,a]) hs hz) λe w ⟨he,hs⟩=>⟨_,he,?_⟩;have hnd:=nd3 (i:=i) (o:=o) (a:=a) (M:=cT b s xb c ki ko::M) (by exact Ab.fin hs);have e:∀t:Bool,(t=true↔key∈i\/key∈a)->Value.bool t = .b (decide (key∈R)):=λt ht=>by
  congr 1;rw[Bool.eq_iff_iff,ht,h1.1,decide_eq_true_eq,List.mem_append]
 rcases SC i o a key with⟨h,h4⟩|⟨h,h4,h5⟩|⟨h,h4,h5,h6⟩|⟨h,h4,h5,h6⟩ <;> rw[h]
 ·exact Ak rfl ⟨e _ (by simp[h4]),C4 h1 h2 h3 hs⟩
 ·exact Ac rfl ⟨e _ (by have:=hnd.oa _ h5;simp[h4,this]),C4 h1 h2 h3 hs⟩
 ·exact Ac rfl ⟨e _ (by simp[h6]),C4 h1 h2 h3 hs⟩
 ·exact Ac rfl ⟨e _ (by simp[h4,h6]),C4 h1 h2 h3 hs⟩
theorem A3j(hs:Ab W w (Lh b c R::M)):BB PR 304 #[pq b 0] w λv w'=>∃(l:Sl) (ks:BL),v = .l l.a l.n l.c/\ks.Perm R/\Ab W w' (Lh b c R::recs Rec.str l ks::M):=by
 refine cw ⟨mixed,Tryz.func304,rfl⟩ Aqy ?_;obtain⟨s,xb,ki,ko,i,o,a,h1,h2,h3,hs⟩:=DT hs;refine Ac rfl (Aa (Ag (x:=s) hs (Ag hs ?_)));refine Ah hs λnb w hs=>?_;refine Qj Cy (nr:=3) (K:=[i,o,a]) [0,2] (M:=cT b s xb c ki ko::M) (by exact Ab.fin hs) (by omega) rfl λl w hs=>?_;refine⟨l,_,rfl,?_,C4 h1 h2 h3 (by exact Ab.fin hs)⟩;rw[h1.1];simp[FD]
theorem Ab8(hs:Ab W w (Lh b c R::M)):BB PR 301 #[pq b 0] w λv w'=>∃x yes S,v = .tuple #[.s x,.b yes]/\Hc c R x yes S/\Ab W w' (Lh b c S::M):=by
 refine cw ⟨mixed,Tryz.func301,rfl⟩ Aqw ?_;refine Ai (Xz hs) λv w ⟨hv,hs⟩=>⟨_,hv,?_⟩;have hk:=Q6 hs
 with_reducible refine A2 (λh0=>?_) (λh0=>?_)
 ·exact⟨_,_,_,rfl,Hc.none hk (by omega),hs⟩
 obtain⟨s,xb,ki,ko,i,o,a,h1,h2,h3,hs⟩:=DT hs;have hnd:=nd3 (i:=i) (o:=o) (a:=a) (M:=cT b s xb c ki ko::M) (by exact Ab.fin hs);have hll:R.length=i.length+a.length:=by rw[h1.1];simp
 have j1:∀(w:World)(t:Bool),(t=true->0<a.length)->(t=false->0<i.length)->Ab W w (cT b s xb c ki ko::rowsC s xb 5000 [i,o,a]::M) ->
   Wr By (λv w'=>∃x yes S,v = .tuple #[.s x,.b yes]/\Hc c R x yes S/\Ab W w' (Lh b c S::M)) (some ⟨b,0,none⟩) t w:=by
  clear hs;intro w t ht hf hs;refine jw Zh ?_;cases t with
  | true=>
   have h0:=ht rfl;have hm:=Dk h0;refine Ak rfl (Aa (Ag (x:=s) hs (Ag hs ?_)));refine An (BW Cy (K:=[i,o,a]) (j:=2) hs (lt3 (by decide)) (show 3<=4 by decide)) λe w ⟨he,hs⟩=>⟨_,he,?_⟩;refine Aa (Ag (x:=s) hs (Ag hs ?_));refine Ar (C0 Cy (K:=[i,o,a]) (key:=C3 a) hs (hnd.small _ (.inr (.inr hm))) (by omega) (show 3<=4 by decide)) λe w ⟨he,hs⟩=>⟨he,?_⟩;have e1:DY [i,o,a] (C3 a)=[i,o,a.drop 1]:=by
    show[Aq i _,Aq o _,Aq a _]=_;rw[Av λh=>(hnd.io _ h).2 hm,Av λh=>hnd.oa _ h hm,Co hnd.na h0]
   rw[e1] at hs;have hev:Hc c R (C3 a) true (i++a.drop 1):=Hc.of_perm hk (by
    rw[h1.1];cases a with
    | nil=>simp at h0
    | cons x l=>exact List.perm_middle)
   exact⟨_,_,_,rfl,hev,C4 (o:=o) ⟨rfl,hev.ok⟩ h2 (by omega) hs⟩
  | false=>
   have h0:=hf rfl;have hm:=Dk h0;refine Ac rfl ?_;refine jw Zi ?_;refine Aa (Ag (x:=s) hs (Ag hs ?_));refine An (BW Cy (K:=[i,o,a]) (j:=0) hs (lt3 (by decide)) (show 3<=4 by decide)) λe w ⟨he,hs⟩=>⟨_,he,?_⟩;refine Aa (Ag (x:=s) hs (Ag hs ?_));refine Ar (Abk Cy (j:=1) (key:=C3 i) hs (by decide) (hnd.small _ (.inl hm)) ⟨(Mv h1).1,h3⟩) λe w ⟨he,hs⟩=>⟨he,?_⟩;have e1:DJ [i,o,a] 1 (C3 i)=[i.drop 1,o++[C3 i],a]:=by
    show[Aq i _,Aq o _++[_],Aq a _]=_;rw[Av (hnd.io _ hm).2,Av (hnd.io _ hm).1,Co hnd.ni h0]
   rw[e1] at hs;have hev:Hc c R (C3 i) true (i.drop 1++a):=Hc.of_perm hk (by
    rw[h1.1];cases i with
    | nil=>simp at h0
    | cons x l=>exact List.Perm.refl _)
   generalize o++[C3 i]=o at hs;have loop:∀(m:Nat)(o:BL)(w:World),o.length=m->Ab W w (cT b s xb c ki ko::rowsC s xb 5000 [i.drop 1,o,a]::M) ->
     PH By (λv w'=>∃x yes S,v = .tuple #[.s x,.b yes]/\Hc c R x yes S/\Ab W w' (Lh b c S::M)) (m+1) (some ⟨b,0,none⟩) (C3 i) w:=by
    clear hs;intro m
    induction m with
    | zero=>
     intro o w ho hs;rw[N8];refine Ao [cT b s xb c ki ko] hs λw hs=>?_;refine Aa (Am (x:=s) (Am (Aa (Am ?_))));refine Ah hs λnb w hs=>Ae hs ?_;refine AV Cy (nr:=3) (K:=[i.drop 1,o,a]) [1] (M:=cT b s xb c ki ko::M) (by exact Ab.fin hs) (by omega) rfl λw hs=>?_;refine Ae hs ?_;have e2:(Ca [i.drop 1,o,a] [1]:Int)=0:=by simp[Ca,ho]
     rw[e2];refine Ac (decide_eq_false (by omega)) ?_;refine jw N7 ?_;exact⟨_,_,_,rfl,hev,C4 (o:=o) ⟨rfl,hev.ok⟩ h2 (by omega) (by exact Ab.fin hs)⟩
    | succ m ih=>
     intro o w ho hs;rw[N8];refine Ao [cT b s xb c ki ko] hs λw hs=>?_;refine Aa (Am (x:=s) (Am (Aa (Am ?_))));refine Ah hs λnb w hs=>Ae hs ?_;refine AV Cy (nr:=3) (K:=[i.drop 1,o,a]) [1] (M:=cT b s xb c ki ko::M) (by exact Ab.fin hs) (by omega) rfl λw hs=>?_;refine Ae hs ?_;have hs:Ab W w (cT b s xb c ki ko::rowsC s xb 5000 [i.drop 1,o,a]::M):=by exact Ab.fin hs
     refine Al (λ_=>?_) (λh9=>?_)
     ·refine Ao [cT b s xb c ki ko] hs λw hs=>?_;refine Aa (Am (x:=s) (Am (Aa (Ag (x:=s) hs (Ag hs (Ae hs ?_))))));refine An (BW Cy (K:=[i.drop 1,o,a]) (j:=1) hs (lt3 (by decide)) (show 3<=4 by decide)) λe w ⟨he,hs⟩=>⟨_,he,Ae hs ?_⟩;have hnd:=nd3 (i:=i.drop 1) (o:=o) (a:=a) (M:=cT b s xb c ki ko::M) (by exact Ab.fin hs);have h0:0<o.length:=by omega
      have hm:=Dk h0;refine Ar (C0 Cy (K:=[i.drop 1,o,a]) (key:=C3 o) hs (hnd.small _ (.inr (.inl hm))) (by omega) (show 3<=4 by decide)) λe w ⟨he,hs⟩=>⟨he,?_⟩;have e1:DY [i.drop 1,o,a] (C3 o)=[i.drop 1,o.drop 1,a]:=by
       show[Aq _ _,Aq o _,Aq a _]=_;rw[Av λh=>(hnd.io _ h).1 hm,Av (hnd.oa _ hm),Co hnd.no h0]
      rw[e1] at hs;exact ih (o.drop 1) w (by rw[List.length_drop];omega) hs
     ·refine jw N7 ?_;have h9:=of_decide_eq_false h9;have e2:(Ca [i.drop 1,o,a] [1]:Int)=o.length:=by simp[Ca]
      rw[e2] at h9;exact⟨_,_,_,rfl,hev,C4 (o:=o) ⟨rfl,hev.ok⟩ h2 (by omega) hs⟩
   exact AR _ (loop o.length o w rfl hs)
 refine Ao [cT b s xb c ki ko] hs λw hs=>?_;refine Aa (Am (x:=s) (Am (Aa (Am ?_))));refine Ah hs λnb w hs=>Ae hs ?_;refine AV Cy (nr:=3) (K:=[i,o,a]) [0] (M:=cT b s xb c ki ko::M) (by exact Ab.fin hs) (by omega) rfl λw hs=>?_;refine Ae hs ?_;have hs:Ab W w (cT b s xb c ki ko::rowsC s xb 5000 [i,o,a]::M):=by exact Ab.fin hs
 have e0:(Ca [i,o,a] [0]:Int)=i.length:=by simp[Ca]
 rw[e0]
 with_reducible refine A2 (λh5=>?_) (λh5=>?_)
 ·refine Aa (Am (x:=s) (Am ?_));refine Ah hs λnb w hs=>Ae hs ?_;refine AV Cy (nr:=3) (K:=[i,o,a]) [2] (M:=cT b s xb c ki ko::M) (by exact Ab.fin hs) (by omega) rfl λw hs=>?_;have e2:(Ca [i,o,a] [2]:Int)=a.length:=by simp[Ca]
  rw[e2];exact j1 w _ (λh=>by have:=of_decide_eq_true h;omega) (λh=>by have:=of_decide_eq_false h;omega) (by exact Ab.fin hs)
 ·exact Ae hs (j1 w false (λh=>by cases h) (λ_=>by omega) hs)
theorem Oj(hs:Ab W w (Lh b c R::M)):BB PR 313 #[pq b 0] w λv w'=>∃(l:Sl) (g S:BL),v = .l l.a l.n l.c/\Mz c R g S/\Ab W w' (Lh b c S::recs Rec.str l g::M):=by
 refine cw ⟨mixed,Tryz.func313,rfl⟩ Aq3 ?_;have hk:=Q6 hs;have hc1:=hk.c1;refine Ao [Lh b c R] hs λw hs=>?_;refine Aa ?_;refine GM (k:=.int .i64) c (λw' h=>Agt h) ?_;refine Ai (Xz hs) λv w ⟨hv,hs⟩=>⟨_,hv,Ae hs ?_⟩
 with_reducible refine A2 (λh1=>?_) (λh1=>?_)
 ·exact⟨⟨none,0,0⟩,[],R,rfl,.inl ⟨rfl,rfl,h1⟩,(Ab.nilR Rec.str (hs)).perm (List.Perm.swap _ _ _)⟩
 ·refine AP (Ab8 hs) λv w ⟨x,yes,S,hv,hev,hs⟩=>⟨_,_,hv,?_⟩;have hy:yes=true:=by rw[hev.says];exact decide_eq_true (by omega)
  subst hy;refine Ah hs λnb w hs=>?_;have hs:=Ab.blkS (b:=nb) (cs:=[.s x]) (n:=1) Rec.str [x] hs rfl rfl;exact⟨⟨some ⟨nb,0,none⟩,1,1⟩,[x],S,rfl,.inr ⟨x,rfl,hev,h1⟩,by exact Ab.fin hs⟩
theorem Ama(hz:key.size<64)(hs:Ab W w (Lh b c R::M)):BB PR 300 #[pq b 0,.s key] w λv w'=>∃(hit:Bool) (l:Sl) (g S:BL),v = .tuple #[.b hit,.l l.a l.n l.c]/\Fj c R key hit g S/\Ab W w' (Lh b c S::recs Rec.str l g::M):=by
 refine cw ⟨mixed,Tryz.func300,rfl⟩ Aqu ?_;obtain⟨s,xb,ki,ko,i,o,a,h1,h2,h3,hs⟩:=DT hs;have hk:=h1.2;refine Ac rfl (Aa (Ag (x:=s) hs (Ag hs ?_)));refine An (Eu Cy (K:=[i,o,a]) hs hz) λe w ⟨he,hs⟩=>⟨_,he,?_⟩;have hnd:=nd3 (i:=i) (o:=o) (a:=a) (M:=cT b s xb c ki ko::M) (by exact Ab.fin hs);rcases SC i o a key with⟨h,h4⟩|⟨h,h4,h5⟩|⟨h,h4,h5,h6⟩|⟨h,h4,h5,h6⟩ <;> rw[h]
 ·refine Ac rfl (Ak rfl ?_);have ha:=Fj.same hk (by rw[h1.1];exact List.mem_append_left _ h4) (List.Perm.refl R)
  exact⟨true,⟨none,0,0⟩,[],_,rfl,ha,(Ab.nilR Rec.str (C4 h1 h2 h3 hs)).perm (List.Perm.swap _ _ _)⟩
 ·refine Ac rfl (Ac rfl (Ak rfl ?_));have hno:key∉R:=by rw[h1.1,List.mem_append];exact λh=>h.elim h4 (hnd.oa _ h5)
  refine Aa (Ag (x:=s) hs (Ag hs ?_));refine Ar (C0 Cy (K:=[i,o,a]) hs hz (by omega) (show 3<=4 by decide)) λe w ⟨he,hs⟩=>⟨he,?_⟩;have e1:DY [i,o,a] key=[i,Aq o key,a]:=by
   show[Aq i _,Aq o _,Aq a _]=_;rw[Av h4,Av (hnd.oa _ h5)]
  rw[e1] at hs;have hs:=C4 h1 h2 (by have:=BM o key;omega) hs
  refine Ai (Oj hs) λv w ⟨l,g,S,hv,hrec,hs⟩=>⟨_,hv,?_⟩;clear h1 h2 h3 hnd h4 h5 e1;obtain⟨s,xb,ki,ko,i,o,a,h1,h2,h3,hs⟩:=DT hs;refine Aa (Ag (x:=s) hs (Ag hs ?_));refine Ar (Abk Cy (j:=2) hs (by decide) hz ⟨(Mv h1).1,h3⟩) λe w ⟨he,hs⟩=>⟨he,?_⟩;have hnS:=hrec.not hno;have e1:DJ [i,o,a] 2 key=[i,Aq o key,a++[key]]:=by
   show[Aq i _,Aq o _,Aq a _++[_]]=_;rw[Av (show key∉i from λh=>hnS (by rw[h1.1];exact List.mem_append_left _ h)),Av (show key∉a from λh=>hnS (by rw[h1.1];exact List.mem_append_right _ h))]
  rw[e1] at hs;have ha:=Fj.miss hk hno hz hrec (T:=i++(a++[key])) (by rw[h1.1];exact EV)
  exact⟨false,l,g,_,rfl,ha,C4 ⟨rfl,ha.ok⟩ h2 (by have:=BM o key;omega) hs⟩
 ·refine Ak rfl (Aa (Ag (x:=s) hs (Ag hs ?_)));refine Ar (Abk Cy (j:=2) hs (by decide) hz ⟨(Mv h1).1,h3⟩) λe w ⟨he,hs⟩=>⟨he,?_⟩;have e1:DJ [i,o,a] 2 key=[i,o,Aq a key++[key]]:=by
   show[Aq i _,Aq o _,Aq a _++[_]]=_;rw[Av h4,Av h5]
  rw[e1] at hs;have ha:=Fj.same (S:=i++(Aq a key++[key])) hk (by rw[h1.1];exact List.mem_append_right _ h6) (by
   rw[h1.1];exact List.Perm.append_left _ (List.perm_append_comm.trans (CP hnd.na h6).symm))
  exact⟨true,⟨none,0,0⟩,[],_,rfl,ha,(Ab.nilR Rec.str (C4 ⟨rfl,ha.ok⟩ h2 h3 hs)).perm (List.Perm.swap _ _ _)⟩
 ·refine Ac rfl (Ac rfl (Ac rfl ?_));have hno:key∉R:=by rw[h1.1,List.mem_append];exact λh=>h.elim h4 h6
  have hs:=C4 h1 h2 h3 hs;refine Ai (Oj hs) λv w ⟨l,g,S,hv,hrec,hs⟩=>⟨_,hv,?_⟩;clear h1 h2 h3 hnd h4 h5 h6;obtain⟨s,xb,ki,ko,i,o,a,h1,h2,h3,hs⟩:=DT hs;refine Aa (Ag (x:=s) hs (Ag hs ?_));refine Ar (Abk Cy (j:=0) hs (by decide) hz ⟨(Mv h1).1,h3⟩) λe w ⟨he,hs⟩=>⟨he,?_⟩;have hnS:=hrec.not hno;have e1:DJ [i,o,a] 0 key=[i++[key],Aq o key,a]:=by
   show[Aq i _++[_],Aq o _,Aq a _]=_;rw[Av (show key∉i from λh=>hnS (by rw[h1.1];exact List.mem_append_left _ h)),Av (show key∉a from λh=>hnS (by rw[h1.1];exact List.mem_append_right _ h))]
  rw[e1] at hs;have ha:=Fj.miss hk hno hz hrec (T:=(i++[key])++a) (by rw[h1.1];exact DQ)
  exact⟨false,l,g,_,rfl,ha,C4 ⟨rfl,ha.ok⟩ h2 (by have:=BM o key;omega) hs⟩
theorem A3k(hz:key.size<64)(hs:Ab W w (Lh b c R::M)):BB PR 306 #[pq b 0,.s key] w λv w'=>∃(yes:Bool) (S:BL),v = .b yes/\DG c R key yes S/\Ab W w' (Lh b c S::M):=by
 refine cw ⟨mixed,Tryz.func306,rfl⟩ Aq0 ?_;have hk:=Q6 hs;have hr:=hk.room;refine Ao [Lh b c R] hs λw hs=>?_;refine Ac rfl ?_;refine Ai (Agh hz hs) λv w ⟨hv,hs⟩=>⟨_,hv,Ae hs ?_⟩
 with_reducible refine A2 (λh1=>?_) (λh1=>?_)
 ·exact Ae hs ⟨false,R,rfl,DG.no hk (λh=>h.1 h1),hs⟩
 refine Aa ?_;refine GM (k:=.int .i64) c (λw' h=>Agt h) ?_;refine Ai (Xz hs) λv w ⟨hv,hs⟩=>⟨_,hv,Ae hs ?_⟩
 with_reducible refine A2 (λh2=>?_) (λh2=>?_)
 ·exact⟨false,R,rfl,DG.no hk (λh=>by omega),hs⟩
 refine jw Zj ?_;obtain⟨s,xb,ki,ko,i,o,a,h3,h4,h5,hs⟩:=DT hs;refine Aa (Ag (x:=s) hs (Ag hs ?_));refine Ar (Abk Cy (j:=2) hs (by decide) hz ⟨(Mv h3).1,h5⟩) λe w ⟨he,hs⟩=>⟨he,?_⟩;have e1:DJ [i,o,a] 2 key=[i,Aq o key,a++[key]]:=by
  show[Aq i _,Aq o _,Aq a _++[_]]=_;rw[Av (show key∉i from λh=>h1 (by rw[h3.1];exact List.mem_append_left _ h)),Av (show key∉a from λh=>h1 (by rw[h3.1];exact List.mem_append_right _ h))]
 rw[e1] at hs;have hl:=DG.yes hk hz h1 (by omega) (S:=i++(a++[key])) (by rw[h3.1];exact EV)
 exact⟨true,_,rfl,hl,C4 ⟨rfl,hl.ok⟩ h4 (by have:=BM o key;omega) hs⟩
theorem Amb(hz:key.size<64)(hs:Ab W w (Lh b c R::M)):BB PR 307 #[pq b 0,.s key] w λv w'=>∃(yes:Bool) (S:BL),v = .b yes/\Gj c R key yes S/\Ab W w' (Lh b c S::M):=by
 refine cw ⟨mixed,Tryz.func307,rfl⟩ Aq1 ?_;have hk:=Q6 hs;refine Ai (Agh hz hs) λv w ⟨hv,hs⟩=>⟨_,hv,?_⟩
 by_cases h1:key∈R
 ·refine Ac (by rw[decide_eq_true h1];rfl) ?_;obtain⟨s,xb,ki,ko,i,o,a,h3,h4,h5,hs⟩:=DT hs;refine Aa (Ag (x:=s) hs (Ag hs ?_));refine Ar (C0 Cy (K:=[i,o,a]) hs hz (by omega) (show 3<=4 by decide)) λe w ⟨he,hs⟩=>⟨he,?_⟩;rw[h3.1] at hk h1;have hr:=Gj.cut2 hk h1;rw[<- h3.1] at hr;exact⟨true,_,rfl,hr,C4 (i:=Aq i key) (o:=Aq o key) (a:=Aq a key) ⟨rfl,hr.ok⟩ h4 (by have:=BM o key;omega) hs⟩
 ·refine Ak (by rw[decide_eq_false h1];rfl) ⟨false,R,rfl,Gj.no hk h1,hs⟩
end
end Go.Proofs.YtjipofkjmmpjdaaGreat
namespace Go.Proofs.YtjipofkjmmpjdaaGreat
open Go.Hb Go.IntWalk
theorem Ol{a:Nat}(ha:a<18446744073709551616):IntKind.u64.wrap (a:Int)=(a:Int):=by rw[IntKind.wrap_u64];omega
theorem A4n(a:Nat):IntKind.u64.wrap (a:Int)=((a % 18446744073709551616:Nat):Int):=by rw[IntKind.wrap_u64];omega
theorem Aiw(a:Nat):Dq .u64 (a:Int) 32=((a / 4294967296:Nat):Int):=by
 show(a:Int).fdiv (2 ^ 32)=_;rw[Int.fdiv_eq_ediv_of_nonneg _ (by decide)];rfl
theorem Afy{a:Nat}(ha:a<18446744073709551616):bits .and .u64 (a:Int) 4294967295=((a % 4294967296:Nat):Int):=by
 have h:=bits_and_u64_nat a 4294967295 ha (by omega);have e:a &&& 4294967295=a % 4294967296:=Nat.and_two_pow_sub_one_eq_mod a 32;rw[e] at h;exact h
theorem Bab(a b:Nat):(a:Int)*(b:Int)=((a*b:Nat):Int):=(Int.natCast_mul a b).symm
theorem A4q(a b:Nat):(a:Int)+(b:Int)=((a+b:Nat):Int):=(Int.natCast_add a b).symm
def Is(n lo hi:Int):Int:=if hi<(if lo>n then lo else n) then hi else (if lo>n then lo else n)
def F7(n most:Int):Int:=if n>=most then n else n+1
section
variable{W w:World}{M:List HP}
theorem DS(h:Ab W w M)(n lo hi:Int):Calls PR 72 #[.i n,.i lo,.i hi] w λe w'=>e = .returned (.i (Is n lo hi))/\Ab W w' M:=by
 refine c1 (cw ⟨mixed,Tryz.func72,rfl⟩ A05 ?_);exact⟨rfl,h⟩
theorem Gw(n:Int){lo hi:Int}(h:lo<=hi):lo<=Is n lo hi/\Is n lo hi<=hi:=by
 unfold Is;split <;> split at * <;> omega
theorem Jt(h:Ab W w M){a b:Int}(hb:b<=9223372036854775807)(ha:-9223372036854775808<=a):Calls PR 119 #[.i a,.i b] w λe w'=>e = .returned (.i (F7 a b))/\Ab W w' M:=by
 refine c1 (cw ⟨mixed,Tryz.func119,rfl⟩ Anz ?_);unfold F7;refine Al (λhc=>?_) (λhc=>?_) <;> simp only[decide_eq_true_eq,decide_eq_false_iff_not] at hc
 ·rw[if_pos hc];exact⟨rfl,h⟩
 ·rw[if_neg hc,i64_in _ (by omega)];exact⟨rfl,h⟩
theorem At2(h:Ab W w M){x y:Nat}(hx:x<18446744073709551616)(hy:y<18446744073709551616):Calls PR 169 #[.int .u64 x,.int .u64 y] w λe w'=>
  e = .returned (.tuple #[.int .u64 ((x*y / 18446744073709551616:Nat):Int),.int .u64 ((x*y % 18446744073709551616:Nat):Int)])/\Ab W w' M:=by
 refine c1 (cw ⟨mixed,Tryz.func169,rfl⟩ Ao9 ?_);refine Az (by omega) (Az (by omega) (Az (by omega) (Az (by omega) (Az (by omega) ?_))));refine⟨?_,h⟩;obtain⟨bd,bt,bw,hhi⟩:=Lib.mul64_hi x y hx hy;have ba:=Lib.half_mul_le (a:=x / 4294967296) (b:=y / 4294967296) (by omega) (by omega);have bb:=Lib.half_mul_le (a:=x / 4294967296) (b:=y % 4294967296) (by omega) (by omega);have bc:=Lib.half_mul_le (a:=x % 4294967296) (b:=y / 4294967296) (by omega) (by omega);have ba':x / 4294967296*(y / 4294967296)<18446744073709551616:=by omega
 have bb':x / 4294967296*(y % 4294967296)<18446744073709551616:=by omega
 have bc':x % 4294967296*(y / 4294967296)<18446744073709551616:=by omega
 have bh1:x / 4294967296*(y / 4294967296)+(x / 4294967296*(y % 4294967296)+x % 4294967296*(y % 4294967296) / 4294967296) / 4294967296<18446744073709551616:=by omega
 have bh:x / 4294967296*(y / 4294967296)+(x / 4294967296*(y % 4294967296)+x % 4294967296*(y % 4294967296) / 4294967296) / 4294967296+((x / 4294967296*(y % 4294967296)+x % 4294967296*(y % 4294967296) / 4294967296) % 4294967296+x % 4294967296*(y / 4294967296)) / 4294967296<18446744073709551616:=by omega
 rw[Afy hx,Afy hy,Aiw,Aiw];simp only[Bab,A4q,Ol bd,Ol bb',Aiw,Ol bt,Afy bt,Ol bc',Ol bw,Ol ba',Ol bh1,Ol bh,A4n (x*y)];rw[hhi]
end
end Go.Proofs.YtjipofkjmmpjdaaGreat
namespace Go.Hb
abbrev cK(b n:Nat)(s:Sl)(m:Int):HP:=blk b [.i (n:Int),.l s.a s.n s.c,.i m]
def H5(b:Nat):HP:=Ks λ(z:Nat×Sl×List Int×Int)=>F6 (z.2.2.1.length=2*z.1/\8<=z.1/\z.1<=4096) (AO [cK b z.1 z.2.1 z.2.2.2,recs (Rec.int .u8) z.2.1 z.2.2.1])
def HK(b:Nat):HP:=Ks λ(z:Sl×List Int)=>F6 (1<=z.2.length/\z.2.length<=4096) (AO [blk b [.l z.1.a z.1.n z.1.c],recs (Rec.int .u64) z.1 z.2])
def Aff(l:List Int):List Value:=l.map (Value.int .i64)
theorem As3{l:List Int}{i:Nat}{x:Int}:(Aff l).set i (.i x)=Aff (l.set i x):=by unfold Aff;rw[List.map_set]
theorem JD{k:IntKind}:∀n,DE [.int k (0:Int)] n=(Rec.int k).flat (List.replicate n 0)
 | 0=>rfl
 | n+1=>by
  rw[List.replicate_succ];show[Value.int k (0:Int)]++DE [.int k (0:Int)] n=_;rw[JD n];rfl
section
variable{W w:World}{M L:List HP}{b n:Nat}
theorem Qs(h:Ab W w (H5 b::M)):∃(n:Nat) (s:Sl) (l:List Int) (m:Int),(l.length=2*n/\8<=n/\n<=4096)/\s.n=l.length/\Ab W w (cK b n s m::recs (Rec.int .u8) s l::M):=by
 obtain⟨⟨n,s,l,m⟩,h⟩:=h.openE;obtain⟨hp,h⟩:=h.openA;have h:=h.openL;have h:Ab W w (cK b n s m::recs (Rec.int .u8) s l::M):=h;exact⟨n,s,l,m,hp,(BV (s:=s) h).1,h⟩
theorem IM{s:Sl}{l:List Int}{m:Int}(hp:l.length=2*n/\8<=n/\n<=4096)(h:Ab W w (cK b n s m::recs (Rec.int .u8) s l::M)):Ab W w (H5 b::M):=Ab.shutE (n,s,l,m) (Ab.shutA hp (Ab.shutL (Ps:=[_,_]) h))
theorem VB(h:Ab W w (HK b::M)):∃(s:Sl) (l:List Int),(1<=l.length/\l.length<=4096)/\s.n=l.length/\Ab W w (blk b [.l s.a s.n s.c]::recs (Rec.int .u64) s l::M):=by
 obtain⟨⟨s,l⟩,h⟩:=h.openE;obtain⟨hp,h⟩:=h.openA;have h:=h.openL;have h:Ab W w (blk b [.l s.a s.n s.c]::recs (Rec.int .u64) s l::M):=h;exact⟨s,l,hp,(BV (s:=s) h).1,h⟩
theorem Lu{s:Sl}{l:List Int}(hp:1<=l.length/\l.length<=4096)(h:Ab W w (blk b [.l s.a s.n s.c]::recs (Rec.int .u64) s l::M)):Ab W w (HK b::M):=Ab.shutE (s,l) (Ab.shutA hp (Ab.shutL (Ps:=[_,_]) h))
theorem Am4{k:IntKind}{o:Nat}{s:Sl}{K:WP}:∀(n i:Nat)(l:List Int)(w:World),i+n=l.length->Ab W w (reca (Rec.int k) b o s l::M)->(∀(l':List Int)(w':World),l'.length=l.length->Ab W w' (reca (Rec.int k) b o s l'::M)->K w')->sts (DE [.int k (0:Int)] n) b (o+i) K w
 | 0,i,l,w,hi,hs,hK=>hK l w rfl hs
 | n+1,i,l,w,hi,hs,hK=>by
  show st b (o+i) (.int k 0) (sts (DE [.int k (0:Int)] n) b (o+i+1) K) w;refine A8a (i:=i) (j:=0) (a':=(0:Int)) hs (by show o+i=o+(i*1+0);omega) (by omega) rfl Nat.one_pos λw hs=>?_
  rw[Nat.add_assoc];exact Am4 n (i+1) _ w (by rw[List.length_set];omega) hs λl' w' hl hs=>hK l' w' (by rw[hl,List.length_set]) hs
end
end Go.Hb
namespace Go.Proofs.YtjipofkjmmpjdaaGreat
open Go.Hb Go.IntWalk
section
variable{W w:World}{L M:List HP}{b n:Nat}{s:Sl}{l:List Int}{m:Int}{key:BA}
theorem A8t(x:Int):∃y:Nat,bits .and .i64 x 15=(y:Int)/\y<=15:=by
 have h2:(BitVec.ofInt 64 (15:Int)).toNat=15:=rfl;have hle:(BitVec.ofInt 64 x &&& BitVec.ofInt 64 15).toNat<=15:=by
  rw[BitVec.toNat_and,h2];exact Nat.and_le_right
 refine⟨_,?_,hle⟩;show IntKind.i64.wrap ((BitVec.ofInt 64 x &&& BitVec.ofInt 64 15).toNat:Int)=_;exact i64_in _ (by omega)
theorem A9m(hs:Ab W w L){r:Int}:BB PR 188 #[.i r] w λv w'=>∃b,v=pq b 0/\Ab W w' (H5 b::L):=by
 refine cw ⟨mixed,Tryz.func188,rfl⟩ Apd ?_;have hc:=Gw r (lo:=1) (hi:=1024) (by decide);have loop:∀(f n:Nat)(w:World),1024<=n+f->8<=n->n<=2048->Ab W w L->Py By (λv w'=>∃b,v=pq b 0/\Ab W w' (H5 b::L)) (f+1) r (n:Int) w:=by
  clear hs;intro f
  induction f with
  | zero=>
   intro n w hf h8 hn hs;rw[Ns];refine An (DS hs _ _ _) λe w ⟨he,hs⟩=>⟨_,he,?_⟩;refine Ac (decide_eq_false (by omega)) ?_;refine jw Nr ?_;refine Az (by decide) ?_;rw[i64_in ((4:Int)*n) (by omega),Int.tdiv_eq_ediv_of_nonneg (by omega),i64_in _ (by omega)];refine E2 (sz:=1) hs rfl (by omega) (by omega) (by omega) (by omega) λs w hn2 _ _ hs=>?_;rw[JD] at hs;have hs:Ab W w (recs (Rec.int .u8) s (List.replicate (4*(n:Int) / 2).toNat 0)::L):=hs;refine Ah hs λb w hs=>?_;exact⟨b,rfl,IM ⟨by rw[List.length_replicate];omega,h8,by omega⟩ hs⟩
  | succ f ih=>
   intro n w hf h8 hn hs;rw[Ns];refine An (DS hs _ _ _) λe w ⟨he,hs⟩=>⟨_,he,?_⟩
   with_reducible refine A2 (λh1=>?_) (λh1=>?_)
   ·rw[i64_in _ (by omega),show(n:Int)*2=((2*n:Nat):Int) by omega];exact ih (2*n) w (by omega) (by omega) (by omega) hs
   ·refine jw Nr ?_;refine Az (by decide) ?_;rw[i64_in ((4:Int)*n) (by omega),Int.tdiv_eq_ediv_of_nonneg (by omega),i64_in _ (by omega)];refine E2 (sz:=1) hs rfl (by omega) (by omega) (by omega) (by omega) λs w hn2 _ _ hs=>?_;rw[JD] at hs;have hs:Ab W w (recs (Rec.int .u8) s (List.replicate (4*(n:Int) / 2).toNat 0)::L):=hs;refine Ah hs λb w hs=>?_;exact⟨b,rfl,IM ⟨by rw[List.length_replicate];omega,h8,by omega⟩ hs⟩
 exact AR _ (loop 1016 8 w (by omega) (by omega) (by omega) hs)
theorem Au0{i:Nat}(hl:l.length=2*n/\8<=n/\n<=4096)(hi:i<4*n)(hs:Ab W w (cK b n s m::recs (Rec.int .u8) s l::M)):BB PR 354 #[pq b 0,.i (i:Int)] w λv w'=>∃y:Nat,v = .i (y:Int)/\y<=15/\Ab W w' (cK b n s m::recs (Rec.int .u8) s l::M):=by
 refine cw ⟨mixed,Tryz.func354,rfl⟩ Art ?_;have hn:=Bt (s:=s) (E:=Rec.int .u8) (rows:=l) hs;refine Aa (Ag (x:=s) hs (Az (by decide) ?_));rw[Int.tdiv_eq_ediv_of_nonneg (by omega),i64_in _ (by omega),show(i:Int) / 2=((i / 2:Nat):Int) by omega];refine AB (s:=s) (E:=Rec.int .u8) (rows:=l) hs λb_ o_ ha_=>?_;refine AE (s:=s) (E:=Rec.int .u8) (rows:=l) ha_ hs ?_ (hc:=rfl);have hmod:Int.tmod (i:Int) 2=((i % 2:Nat):Int):=rfl;refine Az (by decide) (Az ?_ ?_)
 ·rw[hmod,i64_in _ (by omega)];omega
 obtain⟨y,hy,hy2⟩:=A8t (IntKind.wrap .i64 (Dq .u8 (l.getD ((i / 2:Nat):Int).toNat default) (IntKind.wrap .i64 ((Int.tmod (i:Int) 2)*4))));exact⟨y,by rw[<- hy],hy2,hs⟩
theorem Au1{i:Nat}{v2:Int}(hl:l.length=2*n/\8<=n/\n<=4096)(hi:i<4*n)(hs:Ab W w (cK b n s m::recs (Rec.int .u8) s l::M)):BB PR 355 #[pq b 0,.i (i:Int),.i v2] w λv w'=>v = .tuple #[]/\∃l':List Int,l'.length=l.length/\Ab W w' (cK b n s m::recs (Rec.int .u8) s l'::M):=by
 refine cw ⟨mixed,Tryz.func355,rfl⟩ Aru ?_;have hn:=Bt (s:=s) (E:=Rec.int .u8) (rows:=l) hs;have hmod:Int.tmod (i:Int) 2=((i % 2:Nat):Int):=rfl;have h4:(0:Int)<=IntKind.wrap .i64 ((Int.tmod (i:Int) 2)*4):=by rw[hmod,i64_in _ (by omega)];omega
 refine Az (by decide) ?_;refine Ao [cK b n s m] hs λw hs=>?_;refine Aa (Am (x:=s) (Az (by decide) (Aa (Az (by decide) (Az h4 (Az h4 ?_))))));refine Ag (x:=s) hs (Ae hs ?_);rw[Int.tdiv_eq_ediv_of_nonneg (by omega),i64_in _ (by omega),show(i:Int) / 2=((i / 2:Nat):Int) by omega];refine AK (s:=s) hs λb_ o_ hs=>?_;refine Bb hs (Ae hs ?_);refine BT hs ?_;refine Ct hs λw hs=>?_;have hs:=Ab.shut s hs;exact⟨rfl,_,List.length_set,hs⟩
theorem Vw(hl:l.length=2*n/\8<=n/\n<=4096)(hz:key.size<64)(hs:Ab W w (cK b n s m::M)):BB PR 353 #[pq b 0,.s key] w λv w'=>∃x y z u:Nat,v = .agg #[.i (x:Int),.i (y:Int),.i (z:Int),.i (u:Int)] /\
  (x<4*n/\y<4*n/\z<4*n/\u<4*n)/\Ab W w' (cK b n s m::M):=by
 refine cw ⟨mixed,Tryz.func353,rfl⟩ Ars ?_;refine Ah hs λtb w hs=>?_;refine Ah hs λlb w hs=>?_;have loop:∀(f i:Nat)(xs:List Int)(w:World),i+f=4->xs.length=4->(∀x∈xs,0<=x/\x<4*n)->Ab W w (blk lb (Aff xs)::blk tb (Aff [0,0,0,0])::cK b n s m::M) ->
   PX By (λv w'=>∃x y z u:Nat,v = .agg #[.i (x:Int),.i (y:Int),.i (z:Int),.i (u:Int)]/\(x<4*n/\y<4*n/\z<4*n/\u<4*n)/\Ab W w' (cK b n s m::M)) (f+1) (some ⟨b,0,none⟩) key tb 0 lb 0 (i:Int) w:=by
  clear hs;intro f
  induction f with
  | zero=>
   intro i xs w hi hx hb hs;rw[NJ];refine Ac (decide_eq_false (by omega)) ?_;refine jw Zx ?_;obtain⟨x,y,z,u,rfl⟩:∃x y z u,xs=[x,y,z,u]:=by
    match xs,hx with
    | [x,y,z,u],_=>exact⟨x,y,z,u,rfl⟩
   have hs:Ab W w (blk lb [.i x,.i y,.i z,.i u]::blk tb [.i 0,.i 0,.i 0,.i 0]::cK b n s m::M):=hs
   iterate 4 refine Ag hs ?_
   iterate 4 refine A0 hs λw hs=>?_
   iterate 4 refine Ag hs ?_
   have h1:=hb x (by simp);have h2:=hb y (by simp);have h3:=hb z (by simp);have h4:=hb u (by simp)
   refine⟨x.toNat,y.toNat,z.toNat,u.toNat,?_,⟨by omega,by omega,by omega,by omega⟩,by exact Ab.fin hs⟩;rw[Int.toNat_of_nonneg h1.1,Int.toNat_of_nonneg h2.1,Int.toNat_of_nonneg h3.1,Int.toNat_of_nonneg h4.1]
  | succ f ih=>
   intro i xs w hi hx hb hs;rw[NJ];refine Ak (decide_eq_true (by omega)) ?_;refine Ao [cK b n s m] hs λw hs=>?_;refine Aa (Am (Aa (Am ?_)));refine An (Hm hs (by omega)) λe w ⟨he,hs⟩=>⟨_,he,Ae hs ?_⟩;refine An (GR (n:=n) hs (GJ _ _).1 (by omega) (by omega)) λe w ⟨he,hs⟩=>⟨_,he,Ae hs ?_⟩;refine Az (by omega) ?_;have hr:=Nat.mod_lt (FB (IntKind.wrap .u64 (IntKind.wrap .i64 ((i:Int)+1))) key).toNat (show n>0 by omega);generalize (FB (IntKind.wrap .u64 (IntKind.wrap .i64 ((i:Int)+1))) key).toNat % n=r at hr
   have h4:i=0\/i=1\/i=2\/i=3:=by omega
   have hm:0<=(i:Int)*n/\(i:Int)*n<=3*n:=by rcases h4 with rfl|rfl|rfl|rfl <;> omega
   rw[i64_in ((i:Int)*n) (by omega),i64_in _ (by omega),i64_in ((i:Int)+1) (by omega)];refine IX 0 (cs:=Aff xs) hs rfl (by unfold Aff;simp;omega) λw hs=>?_
   have e:0+((i:Int)).toNat*1=i:=by omega
   rw[e,As3] at hs;refine ih (i+1) (xs.set i ((i:Int)*n+r)) w (by omega) (by simpa using hx) (λx hx2=>?_) hs;rcases List.mem_or_eq_of_mem_set hx2 with h|h
   ·exact hb x h
   ·subst h;omega
 exact AR _ (loop 4 0 [0,0,0,0] w (by omega) rfl (by simp;omega) (by exact Ab.fin hs))
theorem A9j{x y z u:Nat}{i:Nat}(hi:i<4):∃k:Nat,([.i (x:Int),.i (y:Int),.i (z:Int),.i (u:Int)]:List Value)[((i:Nat):Int).toNat]? = some (.i (k:Int))/\(k=x\/k=y\/k=z\/k=u):=by
 match i,hi with
 | 0,_=>exact⟨x,rfl,.inl rfl⟩
 | 1,_=>exact⟨y,rfl,.inr (.inl rfl)⟩
 | 2,_=>exact⟨z,rfl,.inr (.inr (.inl rfl))⟩
 | 3,_=>exact⟨u,rfl,.inr (.inr (.inr rfl))⟩
theorem Aby(hz:key.size<64)(hs:Ab W w (H5 b::M)):BB PR 352 #[pq b 0,.s key] w λv w'=>∃y:Int,v = .i y/\Ab W w' (H5 b::M):=by
 refine cw ⟨mixed,Tryz.func352,rfl⟩ Arr ?_;obtain⟨n,s,l,m,hl,hsn,hs⟩:=Qs hs;refine Ac rfl ?_;refine Calls.mono (Vw hl hz hs) λe w ⟨v,he,x,y,z,u,hv,hb,hs⟩=>⟨x,y,z,u,by rw[he,hv],?_⟩;have loop:∀(f i:Nat)(low:Int)(w:World),i+f=4->Ab W w (cK b n s m::recs (Rec.int .u8) s l::M) ->
   PV By (λv w'=>∃y:Int,v = .i y/\Ab W w' (H5 b::M)) (f+1) (some ⟨b,0,none⟩) low x y z u (i:Int) w:=by
  clear hs;intro f
  induction f with
  | zero=>
   intro i low w hi hs;rw[NI];refine Ac (decide_eq_false (by omega)) ?_;refine jw Zw ?_;exact⟨_,rfl,IM hl hs⟩
  | succ f ih=>
   intro i low w hi hs;rw[NI];refine Ak (decide_eq_true (by omega)) (Az (by omega) ?_);obtain⟨k,hk,hk2⟩:=A9j (x:=x) (y:=y) (z:=z) (u:=u) (i:=i) (by omega);refine⟨_,hk,rfl,?_⟩;refine Ai (Au0 hl (by omega) hs) λv w ⟨y,hv,_,hs⟩=>⟨_,hv,?_⟩;rw[i64_in _ (by omega)];exact ih (i+1) _ w (by omega) hs
 exact AR _ (loop 4 0 15 w (by omega) hs)
theorem Auy(hs:Ab W w (H5 b::M)):BB PR 356 #[pq b 0] w λv w'=>v = .tuple #[]/\Ab W w' (H5 b::M):=by
 refine cw ⟨mixed,Tryz.func356,rfl⟩ Arv ?_;obtain⟨n,s,l,m,hl,hsn,hs⟩:=Qs hs;refine Ac rfl (Aa (Ag hs ?_));rw[i64_in _ (by omega)];have loop:∀(f i:Nat)(l:List Int)(w:World),i+f=4*n->(l.length=2*n/\8<=n/\n<=4096)->Ab W w (cK b n s m::recs (Rec.int .u8) s l::M) ->
   PZ By (λv w'=>v = .tuple #[]/\Ab W w' (H5 b::M)) (f+1) (some ⟨b,0,none⟩) (4*(n:Int)) (i:Int) w:=by
  clear hs hl hsn;intro f
  induction f with
  | zero=>
   intro i l w hi hl hs;rw[NK];refine Ac (decide_eq_false (by omega)) ?_;refine jw Zy ?_;refine Aa (Ag hs (Az (by decide) (Aa (A0 hs λw hs=>?_))));exact⟨rfl,IM hl hs⟩
  | succ f ih=>
   intro i l w hi hl hs;rw[NK];refine Ak (decide_eq_true (by omega)) ?_;refine Ai (Au0 hl (by omega) hs) λv w ⟨y,hv,_,hs⟩=>⟨_,hv,Az (by decide) ?_⟩;refine B0 (Au1 hl (by omega) hs) λv w ⟨hv,l',hl',hs⟩=>⟨hv,?_⟩;rw[i64_in ((i:Int)+1) (by omega)];exact ih (i+1) l' w (by omega) ⟨by omega,hl.2⟩ hs
 exact AR _ (loop (4*n) 0 l w (by omega) hl hs)
theorem A78(hz:key.size<64)(hs:Ab W w (H5 b::M)):BB PR 344 #[pq b 0,.s key] w λv w'=>v = .tuple #[]/\Ab W w' (H5 b::M):=by
 refine cw ⟨mixed,Tryz.func344,rfl⟩ Arl ?_;refine Ac rfl ?_;refine Ai (Aby hz hs) λv w ⟨low,hv,hs⟩=>⟨_,hv,?_⟩;refine Al (λ_=>⟨rfl,hs⟩) (λ_=>?_);obtain⟨n,s,l,m,hl,hsn,hs⟩:=Qs hs;refine Calls.mono (Vw hl hz hs) λe w ⟨v,he,x,y,z,u,hv,hb,hs⟩=>⟨x,y,z,u,by rw[he,hv],?_⟩;have loop:∀(f i:Nat)(l:List Int)(w:World),i+f=4->(l.length=2*n/\8<=n/\n<=4096)->Ab W w (cK b n s m::recs (Rec.int .u8) s l::M) ->
   LD By (λv w'=>v = .tuple #[]/\Ab W w' (H5 b::M)) (f+1) (some ⟨b,0,none⟩) low x y z u (i:Int) w:=by
  clear hs hl hsn;intro f
  induction f with
  | zero=>
   intro i l w hi hl hs;rw[NG];refine Ac (decide_eq_false (by omega)) ?_;refine jw Zt ?_;refine Aa (Ag hs (Aa (A0 hs λw hs=>?_)));refine Ao [cK b n s (IntKind.wrap .i64 (m+1))] hs λw hs=>?_;refine Aa (Am (Aa (Ag hs (Ae hs ?_))));refine Al (λ_=>?_) (λ_=>⟨rfl,IM hl hs⟩);exact B0 (Auy (IM hl hs)) λv w ⟨hv,hs⟩=>⟨hv,rfl,hs⟩
  | succ f ih=>
   intro i l w hi hl hs;rw[NG];refine Ak (decide_eq_true (by omega)) (Az (by omega) ?_);obtain⟨k,hk,hk2⟩:=A9j (x:=x) (y:=y) (z:=z) (u:=u) (i:=i) (by omega);refine⟨_,hk,rfl,?_⟩;refine Ai (Au0 hl (by omega) hs) λv w ⟨y,hv,hy,hs⟩=>⟨_,hv,?_⟩;rw[i64_in ((i:Int)+1) (by omega)];refine Al (λ_=>?_) (λ_=>ih (i+1) l w (by omega) hl hs);refine An (Jt hs (b:=15) (by decide) (by omega)) λe w ⟨he,hs⟩=>⟨_,he,?_⟩;refine B0 (Au1 hl (by omega) hs) λv w ⟨hv,l',hl',hs⟩=>⟨hv,?_⟩;exact ih (i+1) l' w (by omega) ⟨by omega,hl.2⟩ hs
 exact AR _ (loop 4 0 l w (by omega) hl hs)
theorem Auz(hs:Ab W w (H5 b::M)):BB PR 343 #[pq b 0] w λv w'=>∃y:Int,v = .i y/\Ab W w' (H5 b::M):=by
 refine cw ⟨mixed,Tryz.func343,rfl⟩ Ark ?_;obtain⟨n,s,l,m,hl,hsn,hs⟩:=Qs hs;refine Ac rfl (Aa (Ag hs ?_));exact⟨_,rfl,IM hl hs⟩
theorem A4y(hs:Ab W w L){r:Int}:BB PR 189 #[.i r] w λv w'=>∃b,v=pq b 0/\Ab W w' (HK b::L):=by
 refine cw ⟨mixed,Tryz.func189,rfl⟩ Ape ?_;have hc:=Gw r (lo:=1) (hi:=1024) (by decide);have fin:∀(n:Nat)(w:World),1<=n->n<=2048->Ab W w L->Ahb By (λv w'=>∃b,v=pq b 0/\Ab W w' (HK b::L)) (n:Int) w:=by
  clear hs;intro n w h1 hn hs;refine jw YD ?_;refine Az (by decide) ?_;rw[i64_in ((8:Int)*n) (by omega),Int.tdiv_eq_ediv_of_nonneg (by omega),i64_in _ (by omega)];obtain⟨k,hk,hk1⟩:∃k:Int,(if 8*(n:Int) / 64>1 then 8*(n:Int) / 64 else 1)=k/\1<=k/\k<=4096:=⟨_,rfl,by split <;> omega⟩
  rw[hk];refine E2 (sz:=1) hs rfl (by omega) (by omega) (by omega) (by omega) λs w hn2 _ _ hs=>?_;rw[JD] at hs;have hs:Ab W w (recs (Rec.int .u64) s (List.replicate k.toNat 0)::L):=hs;refine Ah hs λb w hs=>?_;exact⟨b,rfl,Lu (by rw[List.length_replicate];omega) hs⟩
 have loop:∀(f n:Nat)(w:World),1024<=n+f->1<=n->n<=2048->Ab W w L->Pz By (λv w'=>∃b,v=pq b 0/\Ab W w' (HK b::L)) (f+1) r (n:Int) w:=by
  clear hs;intro f
  induction f with
  | zero=>
   intro n w hf h8 hn hs;rw[Nt];refine An (DS hs _ _ _) λe w ⟨he,hs⟩=>⟨_,he,?_⟩;exact Ac (decide_eq_false (by omega)) (fin n w h8 hn hs)
  | succ f ih=>
   intro n w hf h8 hn hs;rw[Nt];refine An (DS hs _ _ _) λe w ⟨he,hs⟩=>⟨_,he,?_⟩
   with_reducible refine A2 (λh1=>?_) (λh1=>?_)
   ·rw[i64_in _ (by omega),show(n:Int)*2=((2*n:Nat):Int) by omega];exact ih (2*n) w (by omega) (by omega) (by omega) hs
   ·exact fin n w h8 hn hs
 exact AR _ (loop 1023 1 w (by omega) (by omega) (by omega) hs)
theorem Ana{i:Int}(hl:1<=l.length/\l.length<=4096)(hsn:s.n=l.length)(hz:key.size<64)(hs:Ab W w (blk b [.l s.a s.n s.c]::M)):BB PR 351 #[pq b 0,.i i,.s key] w λv w'=>∃(x:Nat) (y:Int),v = .tuple #[.i (x:Int),.int .u64 y]/\x<l.length/\Ab W w' (blk b [.l s.a s.n s.c]::M):=by
 refine cw ⟨mixed,Tryz.func351,rfl⟩ Arq ?_;refine Ao [blk b [.l s.a s.n s.c]] hs λw hs=>?_;refine Aa (Am (x:=s) ?_);refine An (Hm hs (by omega)) λe w ⟨he,hs⟩=>⟨_,he,Ae hs ?_⟩;rw[i64_in ((64:Int)*(s.n:Int)) (by omega),show(64:Int)*(s.n:Int)=((64*s.n:Nat):Int) by omega];refine An (GR (n:=64*s.n) hs (GJ _ _).1 (by omega) (by omega)) λe w ⟨he,hs⟩=>⟨_,he,?_⟩;have hr:=Nat.mod_lt (FB (IntKind.wrap .u64 (IntKind.wrap .i64 (11+i))) key).toNat (show 64*s.n>0 by omega);generalize (FB (IntKind.wrap .u64 (IntKind.wrap .i64 (11+i))) key).toNat % (64*s.n)=r at hr
 refine Ao [] hs λw hs=>?_;have hmod:Int.tmod (r:Int) 64=((r % 64:Nat):Int):=rfl;refine Az (by decide) (Az (by decide) (Az (by rw[hmod];omega) ?_))
 rw[Int.tdiv_eq_ediv_of_nonneg (by omega),i64_in _ (by omega),show(r:Int) / 64=((r / 64:Nat):Int) by omega];exact⟨r / 64,_,rfl,by omega,hs⟩
theorem Am9(hz:key.size<64)(hs:Ab W w (HK b::M)):BB PR 350 #[pq b 0,.s key] w λv w'=>∃t:Bool,v = .b t/\Ab W w' (HK b::M):=by
 refine cw ⟨mixed,Tryz.func350,rfl⟩ Arp ?_;refine Ac rfl ?_;obtain⟨s,l,hl,hsn,hs⟩:=VB hs;have loop:∀(f i:Nat)(w:World),i+f=3->Ab W w (blk b [.l s.a s.n s.c]::recs (Rec.int .u64) s l::M) ->
   PT By (λv w'=>∃t:Bool,v = .b t/\Ab W w' (HK b::M)) (f+1) (some ⟨b,0,none⟩) key (i:Int) w:=by
  clear hs;intro f
  induction f with
  | zero=>
   intro i w hi hs;rw[NH];refine Ac (decide_eq_false (by omega)) ?_;refine jw Zv ?_;exact⟨_,rfl,Lu hl hs⟩
  | succ f ih=>
   intro i w hi hs;rw[NH];refine Ak (decide_eq_true (by omega)) ?_;refine AP (Ana hl hsn hz hs) λv w ⟨x,y,hv,hx,hs⟩=>⟨_,_,hv,?_⟩;refine Aa (Ag (x:=s) hs ?_);refine AB (s:=s) (E:=Rec.int .u64) (rows:=l) hs λb_ o_ ha_=>?_;refine AE (s:=s) (E:=Rec.int .u64) (rows:=l) ha_ hs ?_ (hc:=rfl);rw[i64_in ((i:Int)+1) (by omega)];exact Al (λ_=>⟨_,rfl,Lu hl hs⟩) (λ_=>ih (i+1) w (by omega) hs)
 exact AR _ (loop 3 0 w (by omega) hs)
theorem A4x(hz:key.size<64)(hs:Ab W w (HK b::M)):BB PR 342 #[pq b 0,.s key] w λv w'=>∃t:Bool,v = .b t/\Ab W w' (HK b::M):=by
 refine cw ⟨mixed,Tryz.func342,rfl⟩ Arj ?_;refine Ac rfl ?_;refine Ai (Am9 hz hs) λv w ⟨t,hv,hs⟩=>⟨_,hv,?_⟩;obtain⟨s,l,hl,hsn,hs⟩:=VB hs;have loop:∀(f i:Nat)(l:List Int)(w:World),i+f=3->(1<=l.length/\l.length<=4096)->s.n=l.length->Ab W w (blk b [.l s.a s.n s.c]::recs (Rec.int .u64) s l::M) ->
   PP By (λv w'=>∃t:Bool,v = .b t/\Ab W w' (HK b::M)) (f+1) (some ⟨b,0,none⟩) key t (i:Int) w:=by
  clear hs hl hsn;intro f
  induction f with
  | zero=>
   intro i l w hi hl hsn hs;rw[NF];refine Ac (decide_eq_false (by omega)) ?_;refine jw Zs ?_;exact⟨_,rfl,Lu hl hs⟩
  | succ f ih=>
   intro i l w hi hl hsn hs;rw[NF];refine Ak (decide_eq_true (by omega)) ?_;refine AP (Ana hl hsn hz hs) λv w ⟨x,y,hv,hx,hs⟩=>⟨_,_,hv,?_⟩;refine Aa (Ag (x:=s) hs ?_);refine AK (s:=s) hs λb_ o_ hs=>?_;refine Bb hs ?_;refine BT hs ?_;refine Ct hs λw hs=>?_;have hs:=Ab.shut s hs;rw[i64_in ((i:Int)+1) (by omega)];exact ih (i+1) _ w (by omega) (by rw[List.length_set];exact hl) (by rw[List.length_set];exact hsn) hs
 exact AR _ (loop 3 0 l w (by omega) hl hsn hs)
theorem Am8(hs:Ab W w (HK b::M)):BB PR 345 #[pq b 0] w λv w'=>v = .tuple #[]/\Ab W w' (HK b::M):=by
 refine cw ⟨mixed,Tryz.func345,rfl⟩ Arm ?_;refine Ak rfl ?_;obtain⟨s,l,hl,hsn,hs⟩:=VB hs;refine Aa (Ag (x:=s) hs ?_);obtain⟨b1,o1,ha,hs⟩:∃b1 o1,s.a=some ⟨b1,o1,none⟩/\Ab W w (reca (Rec.int .u64) b1 o1 s l::blk b [.l s.a s.n s.c]::M):=by
  have h:CB s.a s.n (0:Int) (λb1 o1 w=>s.a=some ⟨b1,o1,none⟩/\Ab W w (reca (Rec.int .u64) b1 o1 s l::blk b [.l s.a s.n s.c]::M)) w:=by
   refine AK (s:=s) hs λb_ o_ hs=>?_;have hs:Ab W w (reca (Rec.int .u64) b_ o_ s l::blk b [.l s.a s.n s.c]::M):=hs.perm (List.Perm.swap _ _ _);exact⟨hs.pure (q:=0) rfl λ_ hg=>hg.1,hs⟩
  obtain⟨b1,o1,_,_,h⟩:=h;exact⟨b1,o1,h⟩
 have hz:SW (DE [.int .u64 (0:Int)] s.n)=true:=by rw[JD];exact Cx _
 unfold Avs;rw[hz,ha];show sts (DE [.int .u64 (0:Int)] s.n) b1 (o1+0) _ w;refine Am4 s.n 0 l w (by omega) hs λl' w' hl' hs=>?_;have hs:=(hs.perm (List.Perm.swap _ _ _)).shut s;exact⟨rfl,Lu (s:=s) (by omega) hs⟩
end
end Go.Proofs.YtjipofkjmmpjdaaGreat
namespace Go.Hb
open Go.Proofs.YtjipofkjmmpjdaaGreat
abbrev cY(b:Nat)(s:Sl)(xb:Nat)(c wd mn pr:Int)(kb db:Nat):HP:=blk b [.l s.a s.n s.c,pq xb 0,.i c,.i wd,.i mn,.i pr,pq kb 0,pq db 0]
def SG(b:Nat)(c wd mn:Int)(i a p:BL):HP:=Ks λ(z:Sl×Nat×Int×Nat×Nat)=>F6 (0<=z.2.2.1) (AO [cY b z.1 z.2.1 c wd mn z.2.2.1 z.2.2.2.1 z.2.2.2.2,rowsC z.1 z.2.1 5000 [i,a,p],H5 z.2.2.2.1,HK z.2.2.2.2])
structure Te(c wd mn:Int)(R i a p:BL):Prop where
 eq:R=i++(a++p)
 ok:DR c R
 w1:1<=wd
 mn0:0<=mn
 sum:wd+mn=c
 win:(i.length:Int)<=wd
 main:(a.length:Int)+p.length<=mn
def MW(b:Nat)(c:Int)(R:BL):HP:=Ks λ(z:(Int×Int)×(BL×BL×BL))=>F6 (Te c z.1.1 z.1.2 R z.2.1 z.2.2.1 z.2.2.2) (SG b c z.1.1 z.1.2 z.2.1 z.2.2.1 z.2.2.2)
section
variable{W w:World}{M L:List HP}{b:Nat}{c wd mn:Int}{R i a p:BL}
theorem CN(h:Ab W w (SG b c wd mn i a p::M)):∃(s:Sl) (xb:Nat) (pr:Int) (kb db:Nat),0<=pr/\Ab W w (cY b s xb c wd mn pr kb db::rowsC s xb 5000 [i,a,p]::H5 kb::HK db::M):=by
 obtain⟨⟨s,xb,pr,kb,db⟩,h⟩:=h.openE;obtain⟨hp,h⟩:=h.openA;exact⟨s,xb,pr,kb,db,hp,h.openL⟩
theorem BH{s:Sl}{xb kb db:Nat}{pr:Int}(hp:0<=pr)(h:Ab W w (cY b s xb c wd mn pr kb db::rowsC s xb 5000 [i,a,p]::H5 kb::HK db::M)):Ab W w (SG b c wd mn i a p::M):=
 Ab.shutE (s,xb,pr,kb,db) (Ab.shutA hp (Ab.shutL (Ps:=[_,_,_,_]) h))
theorem EG(h:Ab W w (MW b c R::M)):∃(wd mn:Int) (i a p:BL),Te c wd mn R i a p/\Ab W w (SG b c wd mn i a p::M):=by
 obtain⟨⟨⟨wd,mn⟩,⟨i,a,p⟩⟩,h⟩:=h.openE;obtain⟨h1,h⟩:=h.openA;exact⟨wd,mn,i,a,p,h1,h⟩
theorem Da(h1:Te c wd mn R i a p)(h:Ab W w (SG b c wd mn i a p::M)):Ab W w (MW b c R::M):=Ab.shutE ((wd,mn),(i,a,p)) (Ab.shutA h1 h)
theorem VJ(h:Ab W w (MW b c R::M)):DR c R:=by
 obtain⟨wd,mn,i,a,p,h1,_⟩:=EG h;exact h1.ok
theorem A8i(h:Ab W w (SG b c wd mn i a p::M)):w.cell? ⟨b,2,none⟩=some (.i c):=by
 obtain⟨s,xb,pr,kb,db,_,h⟩:=CN h;exact h.cell (q:=0) rfl
theorem Av0(h:Ab W w (MW b c R::M)):w.cell? ⟨b,2,none⟩=some (.i c):=by
 obtain⟨wd,mn,i,a,p,_,h⟩:=EG h;exact A8i h
theorem Ai4(h:Ab W w (SG b c wd mn i a p::M)):Nd3 i a p:=by
 obtain⟨s,xb,pr,kb,db,_,h⟩:=CN h;exact nd3 (M:=H5 kb::HK db::M) h.drop
theorem Te.len(h:Te c wd mn R i a p):R.length=i.length+(a.length+p.length)/\c<=1024:=by
 rw[h.eq];simp;exact h.ok.c2
end
end Go.Hb
namespace Go.Proofs.YtjipofkjmmpjdaaGreat
open Go.Hb Go.IntWalk
section
variable{W w:World}{L M:List HP}{b:Nat}{c wd mn:Int}{R i a p:BL}{key:BA}
theorem A8h(hs:Ab W w L){r:Int}:BB PR 154 #[.i r] w λv w'=>∃b,v=pq b 0/\Ab W w' (MW b (Bv r) []::L):=by
 refine cw ⟨mixed,Tryz.func154,rfl⟩ Aov ?_;refine Az (by decide) ?_;refine(Mo AN (nr:=3) (by decide) hs).mono λe w ⟨s,xb,he,hs⟩=>⟨s,_,he,?_⟩;have hs:=JZ (N':=5000) hs (by omega);refine Az (by decide) ?_;have hr:=EK r;rw[Mk];refine Ai (A9m hs) λv w ⟨kb,hv,hs⟩=>⟨_,hv,?_⟩;refine Ai (A4y hs) λv w ⟨db,hv,hs⟩=>⟨_,hv,?_⟩;refine Ah hs λb w hs=>⟨b,rfl,?_⟩;have e3:List.replicate 3 ([]:BL)=[[],[],[]]:=rfl;rw[e3,Int.tdiv_eq_ediv_of_nonneg (by omega),i64_in (Bv r / 8) (by omega)] at hs;obtain⟨q,hq,hq1⟩:∃q:Int,(if Bv r / 8>1 then Bv r / 8 else 1)=q/\1<=q/\q<=Bv r:=⟨_,rfl,by split <;> omega⟩
 rw[hq,i64_in (Bv r-q) (by omega),i64_in ((Bv r-q)*4) (by omega),Int.tdiv_eq_ediv_of_nonneg (by omega),i64_in _ (by omega)] at hs;have hok:Te (Bv r) q (Bv r-q) [] [] [] []:=⟨rfl,DR.nil hr.1 hr.2,hq1.1,by omega,by omega,by simp;omega,by simp;omega⟩
 exact Da hok (BH (pr:=(Bv r-q)*4 / 5) (by omega) (by exact Ab.fin hs))
theorem A3s(hs:Ab W w (MW b c R::M)):BB PR 331 #[pq b 0] w λv w'=>v = .i c/\Ab W w' (MW b c R::M):=by
 refine cw ⟨mixed,Tryz.func331,rfl⟩ Are ?_;obtain⟨wd,mn,i,a,p,h1,hs⟩:=EG hs;obtain⟨s,xb,pr,kb,db,hp,hs⟩:=CN hs;refine Ac rfl (Aa (Ag hs ?_));exact⟨rfl,Da h1 (BH hp hs)⟩
theorem Agj(hs:Ab W w (MW b c R::M)):BB PR 328 #[pq b 0] w λv w'=>v = .i (R.length:Int)/\Ab W w' (MW b c R::M):=by
 refine cw ⟨mixed,Tryz.func328,rfl⟩ Arb ?_;obtain⟨wd,mn,i,a,p,h1,hs⟩:=EG hs;obtain⟨s,xb,pr,kb,db,hp,hs⟩:=CN hs;refine Ac rfl (Aa (Ag (x:=s) hs (Ag hs ?_)));refine Ah hs λnb w hs=>?_;refine AV AN (nr:=3) (K:=[i,a,p]) [0,1,2] (M:=cY b s xb c wd mn pr kb db::H5 kb::HK db::M) (by exact Ab.fin hs) (by omega) rfl λw hs=>?_;refine⟨?_,Da h1 (BH hp (by exact Ab.fin hs))⟩;rw[h1.len.1];simp[Ca]
theorem Agi(hz:key.size<64)(hs:Ab W w (MW b c R::M)):BB PR 326 #[pq b 0,.s key] w λv w'=>v = .b (decide (key∈R))/\Ab W w' (MW b c R::M):=by
 refine cw ⟨mixed,Tryz.func326,rfl⟩ Aq9 ?_;obtain⟨wd,mn,i,a,p,h1,hs⟩:=EG hs;obtain⟨s,xb,pr,kb,db,hp,hs⟩:=CN hs;refine Ac rfl (Aa (Ag (x:=s) hs (Ag hs ?_)));refine An (Eu AN (K:=[i,a,p]) hs hz) λe w ⟨he,hs⟩=>⟨_,he,?_⟩;have e:∀t:Bool,(t=true↔key∈i\/key∈a\/key∈p)->Value.bool t = .b (decide (key∈R)):=λt ht=>by
  congr 1;rw[Bool.eq_iff_iff,ht,h1.eq,decide_eq_true_eq,List.mem_append,List.mem_append]
 rcases SC i a p key with⟨h,h4⟩|⟨h,h4,h5⟩|⟨h,h4,h5,h6⟩|⟨h,h4,h5,h6⟩ <;> rw[h]
 ·exact Ak rfl ⟨e _ (by simp[h4]),Da h1 (BH hp hs)⟩
 ·exact Ac rfl (Ak rfl ⟨e _ (by simp[h5]),Da h1 (BH hp hs)⟩)
 ·exact Ac rfl (Ac rfl ⟨e _ (by simp[h6]),Da h1 (BH hp hs)⟩)
 ·exact Ac rfl (Ac rfl ⟨e _ (by simp[h4,h5,h6]),Da h1 (BH hp hs)⟩)
theorem A3q(hs:Ab W w (MW b c R::M)):BB PR 327 #[pq b 0] w λv w'=>∃(l:Sl) (ks:BL),v = .l l.a l.n l.c/\ks.Perm R/\Ab W w' (MW b c R::recs Rec.str l ks::M):=by
 refine cw ⟨mixed,Tryz.func327,rfl⟩ Ara ?_;obtain⟨wd,mn,i,a,p,h1,hs⟩:=EG hs;obtain⟨s,xb,pr,kb,db,hp,hs⟩:=CN hs;refine Ac rfl (Aa (Ag (x:=s) hs (Ag hs ?_)));refine Ah hs λnb w hs=>?_;refine Qj AN (nr:=3) (K:=[i,a,p]) [0,1,2] (M:=cY b s xb c wd mn pr kb db::H5 kb::HK db::M) (by exact Ab.fin hs) (by omega) rfl λl w hs=>?_;refine⟨l,_,rfl,?_,Da h1 (BH hp (by exact Ab.fin hs))⟩;rw[h1.eq];simp[FD]
theorem Vz(hs:Ab W w (SG b c wd mn i a p::M)):BB PR 339 #[pq b 0] w λv w'=>
  ((v = .tuple #[.i 1,.b true]/\0<a.length)\/(v = .tuple #[.i 2,.b true]/\a=[]/\0<p.length)\/(v = .tuple #[.i 0,.b false]/\a=[]/\p=[]))/\Ab W w' (SG b c wd mn i a p::M):=by
 refine cw ⟨mixed,Tryz.func339,rfl⟩ Ari ?_;obtain⟨s,xb,pr,kb,db,hp,hs⟩:=CN hs;refine Ah hs λvb w hs=>?_;have hs:=Ab.blkS (b:=vb) (cs:=[.i 1,.i 2]) (n:=2) Rec.nat [1,2] hs rfl rfl;have hs:Ab W w (recs Rec.nat ⟨some ⟨vb,0,none⟩,2,2⟩ [1,2]::cY b s xb c wd mn pr kb db::rowsC s xb 5000 [i,a,p]::H5 kb::HK db::M):=hs;refine AR 3 ?_;rw[Jl];refine Ak rfl ?_;refine AB (s:=⟨some ⟨vb,0,none⟩,2,2⟩) (rows:=[1,2]) hs λb_ o_ ha_=>?_;refine AE (rows:=[1,2]) ha_ hs ?_ (k:=.int .i64) (x:=(1:Int)) (hc:=rfl);refine Aa (Ag (x:=s) hs (Ag hs ?_));refine Ah hs λnb w hs=>?_
 refine AV AN (nr:=3) (K:=[i,a,p]) [1] (M:=recs Rec.nat ⟨some ⟨vb,0,none⟩,2,2⟩ [1,2]::cY b s xb c wd mn pr kb db::H5 kb::HK db::M) (by exact Ab.fin hs) (by omega) rfl λw hs=>?_;have e1:(Ca [i,a,p] [1]:Int)=a.length:=by simp[Ca]
 rw[e1]
 with_reducible refine A2 (λh1=>?_) (λh1=>?_)
 ·exact⟨.inl ⟨rfl,by omega⟩,BH hp (by exact Ab.fin hs)⟩
 have ha:a=[]:=List.length_eq_zero_iff.1 (by omega);have hs:Ab W w (recs Rec.nat ⟨some ⟨vb,0,none⟩,2,2⟩ [1,2]::cY b s xb c wd mn pr kb db::rowsC s xb 5000 [i,a,p]::H5 kb::HK db::M):=by exact Ab.fin hs
 rw[i64_in ((0:Int)+1) (by omega),Jl];refine Ak rfl ?_;refine AB (s:=⟨some ⟨vb,0,none⟩,2,2⟩) (rows:=[1,2]) hs λb_ o_ ha_=>?_;refine AE (rows:=[1,2]) ha_ hs ?_ (k:=.int .i64) (x:=(2:Int)) (hc:=rfl);refine Aa (Ag (x:=s) hs (Ag hs ?_));refine Ah hs λnb w hs=>?_;refine AV AN (nr:=3) (K:=[i,a,p]) [2] (M:=recs Rec.nat ⟨some ⟨vb,0,none⟩,2,2⟩ [1,2]::cY b s xb c wd mn pr kb db::H5 kb::HK db::M) (by exact Ab.fin hs) (by omega) rfl λw hs=>?_;have e1:(Ca [i,a,p] [2]:Int)=p.length:=by simp[Ca]
 rw[e1]
 with_reducible refine A2 (λh2=>?_) (λh2=>?_)
 ·exact⟨.inr (.inl ⟨rfl,ha,by omega⟩),BH hp (by exact Ab.fin hs)⟩
 rw[i64_in ((0:Int)+1+1) (by omega),Jl];refine Ac rfl ?_;refine jw Zr ?_;exact⟨.inr (.inr ⟨rfl,ha,List.length_eq_zero_iff.1 (by omega)⟩),BH hp (by exact Ab.fin hs)⟩
theorem Amg{s:Sl}{xb kb db:Nat}{pr:Int}(hz:key.size<64)(hs:Ab W w (cY b s xb c wd mn pr kb db::rowsC s xb 5000 [i,a,p]::H5 kb::HK db::M)):BB PR 348 #[pq b 0,.s key] w λv w'=>∃y:Int,v = .i y/\Ab W w' (cY b s xb c wd mn pr kb db::rowsC s xb 5000 [i,a,p]::H5 kb::HK db::M):=by
 refine cw ⟨mixed,Tryz.func348,rfl⟩ Arn ?_;refine Aa (Ag hs ?_);have hs:Ab W w (H5 kb::cY b s xb c wd mn pr kb db::rowsC s xb 5000 [i,a,p]::HK db::M):=by exact Ab.fin hs
 refine Ai (Aby hz hs) λv w ⟨y,hv,hs⟩=>⟨_,hv,?_⟩;refine Aa (Ag hs ?_);have hs:Ab W w (HK db::cY b s xb c wd mn pr kb db::rowsC s xb 5000 [i,a,p]::H5 kb::M):=by exact Ab.fin hs
 refine Ai (Am9 hz hs) λv w ⟨t,hv,hs⟩=>⟨_,hv,?_⟩;have hs:Ab W w (cY b s xb c wd mn pr kb db::rowsC s xb 5000 [i,a,p]::H5 kb::HK db::M):=by exact Ab.fin hs
 exact Al (λ_=>⟨_,rfl,hs⟩) (λ_=>⟨_,rfl,hs⟩)
theorem Ave(hz:key.size<64)(hs:Ab W w (SG b c wd mn i a p::M)):BB PR 333 #[pq b 0,.s key] w λv w'=>v = .tuple #[]/\Ab W w' (SG b c wd mn i a p::M):=by
 refine cw ⟨mixed,Tryz.func333,rfl⟩ Arf ?_;obtain⟨s,xb,pr,kb,db,hp,hs⟩:=CN hs;refine Aa (Ag hs ?_);have hs:Ab W w (HK db::cY b s xb c wd mn pr kb db::rowsC s xb 5000 [i,a,p]::H5 kb::M):=by exact Ab.fin hs
 refine Ai (A4x hz hs) λv w ⟨t,hv,hs⟩=>⟨_,hv,?_⟩;refine Al (λ_=>⟨rfl,BH hp (by exact Ab.fin hs)⟩) (λ_=>?_);refine Aa (Ag hs ?_);have hs:Ab W w (H5 kb::cY b s xb c wd mn pr kb db::rowsC s xb 5000 [i,a,p]::HK db::M):=by exact Ab.fin hs
 refine Ai (Auz hs) λv w ⟨y,hv,hs⟩=>⟨_,hv,Aa (Ag hs ?_)⟩;refine B0 (A78 hz hs) λv w ⟨hv,hs⟩=>⟨hv,Aa (Ag hs ?_)⟩;refine Ai (Auz hs) λv w ⟨y,hv,hs⟩=>⟨_,hv,?_⟩;refine Al (λ_=>?_) (λ_=>⟨rfl,BH hp (by exact Ab.fin hs)⟩);refine Aa (Ag hs ?_);have hs:Ab W w (HK db::cY b s xb c wd mn pr kb db::rowsC s xb 5000 [i,a,p]::H5 kb::M):=by exact Ab.fin hs
 exact B0 (Am8 hs) λv w ⟨hv,hs⟩=>⟨hv,rfl,BH hp (by exact Ab.fin hs)⟩
theorem Avd(hs:Ab W w (MW b c R::M)):BB PR 324 #[pq b 0] w λv w'=>∃x yes S,v = .tuple #[.s x,.b yes]/\Hc c R x yes S/\Ab W w' (MW b c S::M):=by
 refine cw ⟨mixed,Tryz.func324,rfl⟩ Aq8 ?_;refine Ai (Agj hs) λv w ⟨hv,hs⟩=>⟨_,hv,?_⟩;have hk:=VJ hs
 with_reducible refine A2 (λh0=>?_) (λh0=>?_)
 ·exact⟨_,_,_,rfl,Hc.none hk (by omega),hs⟩
 obtain⟨wd,mn,i,a,p,h1,hs⟩:=EG hs;have hll:=h1.len;have hnd:=Ai4 hs;have fin:∀(j:Nat)(q:BL)(i' a' p':BL)(w:World),j<3->[i,a,p].getD j []=q->0<q.length->(C3 q).size<64->DY [i,a,p] (C3 q)=[i',a',p']->R.Perm (C3 q::(i'++(a'++p')))->i'.length<=i.length->a'.length+p'.length<=a.length+p.length->Ab W w (SG b c wd mn i a p::M) ->
   Ad (some ⟨b,0,none⟩) (λb_4 o_5=>ld .slc b_4 o_5 λ(x_6:Sl)=>ld .ptr b_4 (o_5+1) λ(x_7:OA)=>call1 .str PR 337 [.agg #[.l x_6.a x_6.n x_6.c,.p x_7],.i (j:Int)] λ(x_8:BA)=>Ad (some ⟨b,0,none⟩) λb_9 o_10=>ld .slc b_9 o_10 λ(x_11:Sl)=>ld .ptr b_9 (o_10+1) λ(x_12:OA)=>XI PR 340 [.agg #[.l x_11.a x_11.n x_11.c,.p x_12],.s x_8]<|
    (λw'=>∃x yes S,(Value.tuple #[.s x_8,.b true]) = .tuple #[.s x,.b yes]/\Hc c R x yes S/\Ab W w' (MW b c S::M))) w:=by
  clear hs;intro j q i' a' p' w hj hq h0 hz e1 hp2 hli hla hs;obtain⟨s,xb,pr,kb,db,hp,hs⟩:=CN hs;refine Aa (Ag (x:=s) hs (Ag hs ?_));refine An (BW AN (K:=[i,a,p]) (j:=j) hs (lt3 hj) (show 3<=4 by decide)) λe w ⟨he,hs⟩=>⟨_,he,?_⟩;rw[hq];refine Aa (Ag (x:=s) hs (Ag hs ?_));refine Ar (C0 AN (K:=[i,a,p]) (key:=C3 q) hs hz (by omega) (show 3<=4 by decide)) λe w ⟨he,hs⟩=>⟨he,?_⟩;rw[e1] at hs;have hev:=Hc.of_perm hk hp2;have hw:=h1.win;have hm:=h1.main
  exact⟨_,_,_,rfl,hev,Da ⟨rfl,hev.ok,h1.w1,h1.mn0,h1.sum,by omega,by omega⟩ (BH hp hs)⟩
 have hdec:∀q:BL,0<q.length->q=C3 q::q.drop 1:=λq hq=>by
  cases q with
  | nil=>simp at hq
  | cons x t=>rfl
 refine AP (Vz hs) λv w ⟨h,hs⟩=>?_;rcases h with⟨hv,h0⟩|⟨hv,ha,h0⟩|⟨hv,ha,hp⟩
 ·have hm:=Dk h0;refine⟨_,_,hv,fin 1 a i (a.drop 1) p w (by decide) rfl h0 (hnd.small _ (.inr (.inl hm))) ?_ ?_ (Nat.le_refl _) (by simp) hs⟩
  ·show[Aq i _,Aq a _,Aq p _]=_;rw[Av λh=>(hnd.io _ h).1 hm,Co hnd.no h0,Av (hnd.oa _ hm)]
  ·rw[h1.eq]
   conv=>lhs;rw[hdec a h0]
   exact List.perm_middle
 ·have hm:=Dk h0;subst ha;refine⟨_,_,hv,fin 2 p i [] (p.drop 1) w (by decide) rfl h0 (hnd.small _ (.inr (.inr hm))) ?_ ?_ (Nat.le_refl _) (by simp) hs⟩
  ·show[Aq i _,[],Aq p _]=_;rw[Av λh=>(hnd.io _ h).2 hm,Co hnd.na h0]
  ·rw[h1.eq]
   conv=>lhs;rw[hdec p h0]
   exact List.perm_middle
 ·subst ha;subst hp
  have h0:0<i.length:=by simp at hll;omega
  have hm:=Dk h0;refine⟨_,_,hv,fin 0 i (i.drop 1) [] [] w (by decide) rfl h0 (hnd.small _ (.inl hm)) ?_ ?_ (by simp) (Nat.le_refl _) hs⟩
  ·show[Aq i _,[],[]]=_;rw[Co hnd.ni h0]
  ·rw[h1.eq]
   conv=>lhs;rw[hdec i h0]
   exact List.Perm.refl _
theorem A3r(hz:key.size<64)(hs:Ab W w (MW b c R::M)):BB PR 329 #[pq b 0,.s key] w λv w'=>∃(yes:Bool) (S:BL),v = .b yes/\DG c R key yes S/\Ab W w' (MW b c S::M):=by
 refine cw ⟨mixed,Tryz.func329,rfl⟩ Arc ?_;have hk:=VJ hs;have hr:=hk.room;refine Ao [MW b c R] hs λw hs=>?_;refine Ac rfl ?_;refine Ai (Agi hz hs) λv w ⟨hv,hs⟩=>⟨_,hv,Ae hs ?_⟩
 with_reducible refine A2 (λh1=>?_) (λh1=>?_)
 ·exact Ae hs ⟨false,R,rfl,DG.no hk (λh=>h.1 h1),hs⟩
 refine Aa (GM (k:=.int .i64) c (λw' h=>Av0 h) ?_);refine Ai (Agj hs) λv w ⟨hv,hs⟩=>⟨_,hv,Ae hs ?_⟩
 with_reducible refine A2 (λh2=>?_) (λh2=>?_)
 ·exact⟨false,R,rfl,DG.no hk (λh=>by omega),hs⟩
 refine jw Zp ?_;obtain⟨wd,mn,i,a,p,h3,hs⟩:=EG hs;have hll:=h3.len;have hsum:=h3.sum;have hw:=h3.win;have hm:=h3.main
 have hni:key∉i:=λh=>h1 (by rw[h3.eq];exact List.mem_append_left _ h);have hna:key∉a:=λh=>h1 (by rw[h3.eq];exact List.mem_append_right _ (List.mem_append_left _ h))
 have hnp:key∉p:=λh=>h1 (by rw[h3.eq];exact List.mem_append_right _ (List.mem_append_right _ h));obtain⟨s,xb,pr,kb,db,hp,hs⟩:=CN hs;refine Ao [cY b s xb c wd mn pr kb db] hs λw hs=>?_;refine Aa (Am (x:=s) (Am (Aa (Am ?_))));refine Ah hs λnb w hs=>Ae hs ?_;refine AV AN (nr:=3) (K:=[i,a,p]) [1,2] (M:=cY b s xb c wd mn pr kb db::H5 kb::HK db::M) (by exact Ab.fin hs) (by omega) rfl λw hs=>?_;refine Ae hs ?_;have e1:(Ca [i,a,p] [1,2]:Int)=a.length+p.length:=by simp[Ca]
 rw[e1];have hs:Ab W w (cY b s xb c wd mn pr kb db::rowsC s xb 5000 [i,a,p]::H5 kb::HK db::M):=by exact Ab.fin hs
 with_reducible refine A2 (λh5=>?_) (λh5=>?_)
 ·refine Aa (Ag (x:=s) hs (Ag hs ?_));refine Ar (IG AN (K:=[i,a,p]) (j:=1) hs (by decide) hz (show a.length<5000 by omega) rfl) λe w ⟨he,hs⟩=>⟨he,?_⟩;have e2:DJ [i,a,p] 1 key=[i,a++[key],p]:=by
   show[Aq i _,Aq a _++[_],Aq p _]=_;rw[Av hni,Av hna,Av hnp]
  rw[e2] at hs;have hl:=DG.yes hk hz h1 (by omega) (S:=i++((a++[key])++p)) (by rw[h3.eq];exact(List.Perm.append_left i DQ).trans List.perm_middle)
  exact⟨true,_,rfl,hl,Da ⟨rfl,hl.ok,h3.w1,h3.mn0,hsum,hw,by simp;omega⟩ (BH hp hs)⟩
 ·refine Aa (Ag (x:=s) hs (Ag hs ?_));refine Ar (IG AN (K:=[i,a,p]) (j:=0) hs (by decide) hz (show i.length<5000 by omega) rfl) λe w ⟨he,hs⟩=>⟨he,?_⟩;have e2:DJ [i,a,p] 0 key=[i++[key],a,p]:=by
   show[Aq i _++[_],Aq a _,Aq p _]=_;rw[Av hni,Av hna,Av hnp]
  rw[e2] at hs;have hl:=DG.yes hk hz h1 (by omega) (S:=(i++[key])++(a++p)) (by rw[h3.eq];exact DQ)
  exact⟨true,_,rfl,hl,Da ⟨rfl,hl.ok,h3.w1,h3.mn0,hsum,by simp;omega,hm⟩ (BH hp hs)⟩
theorem Ame(hz:key.size<64)(hs:Ab W w (MW b c R::M)):BB PR 330 #[pq b 0,.s key] w λv w'=>∃(yes:Bool) (S:BL),v = .b yes/\Gj c R key yes S/\Ab W w' (MW b c S::M):=by
 refine cw ⟨mixed,Tryz.func330,rfl⟩ Ard ?_;have hk:=VJ hs;refine Ai (Agi hz hs) λv w ⟨hv,hs⟩=>⟨_,hv,?_⟩
 by_cases h1:key∈R
 ·refine Ac (by rw[decide_eq_true h1];rfl) ?_;obtain⟨wd,mn,i,a,p,h3,hs⟩:=EG hs;obtain⟨s,xb,pr,kb,db,hp,hs⟩:=CN hs;refine Aa (Ag (x:=s) hs (Ag hs ?_));refine Ar (C0 AN (K:=[i,a,p]) hs hz (by omega) (show 3<=4 by decide)) λe w ⟨he,hs⟩=>⟨he,?_⟩;have heq:=h3.eq;rw[heq] at hk h1;have hr:=Gj.cut3 hk h1;rw[<- heq] at hr;have g0:=BM i key;have g1:=BM a key;have g2:=BM p key
  have hw:=h3.win;have hm:=h3.main
  exact⟨true,_,rfl,hr,Da (i:=Aq i key) (a:=Aq a key) (p:=Aq p key) ⟨rfl,hr.ok,h3.w1,h3.mn0,h3.sum,by omega,by omega⟩ (BH hp hs)⟩
 ·refine Ak (by rw[decide_eq_false h1];rfl) ⟨false,R,rfl,Gj.no hk h1,hs⟩
abbrev AdQ(b:Nat)(c wd mn:Int)(i a p:BL)(W:World)(M:List HP):VW:=λv w'=>∃(l:Sl) (g a' p':BL),v = .l l.a l.n l.c/\(a'.length:Int)+p'.length<=mn /\
 ((g=[]/\(a.length:Int)+p.length<mn/\(i++(a++p)).Perm (i.drop 1++(a'++p')))\/(∃x,g=[x]/\¬(a.length:Int)+p.length<mn/\(x=C3 i\/x∈a\/x∈p)/\(i++(a++p)).Perm (x::(i.drop 1++(a'++p')))))/\Ab W w' (SG b c wd mn (i.drop 1) a' p'::recs Rec.str l g::M)
theorem Amf(h0:0<i.length)(hl:i.length+(a.length+p.length)<=1025)(hm:(a.length:Int)+p.length<=mn)(hs:Ab W w (SG b c wd mn i a p::M)):BB PR 338 #[pq b 0] w (AdQ b c wd mn i a p W M):=by
 refine cw ⟨mixed,Tryz.func338,rfl⟩ Arh ?_;have hnd:=Ai4 hs;have hmi:=Dk h0;have hzi:=hnd.small _ (.inl hmi);have hdec:∀q:BL,0<q.length->q=C3 q::q.drop 1:=λq hq=>by
  cases q with
  | nil=>simp at hq
  | cons x t=>rfl
 have hni:C3 i∉i.drop 1:=by
  have:=hnd.ni;rw[hdec i h0] at this;exact(List.nodup_cons.1 this).1
 obtain⟨s,xb,pr,kb,db,hp,hs⟩:=CN hs;refine Aa (Ag (x:=s) hs (Ag hs ?_));refine An (BW AN (K:=[i,a,p]) (j:=0) hs (lt3 (by decide)) (show 3<=4 by decide)) λe w ⟨he,hs⟩=>⟨C3 i,he,?_⟩;have hs:=BH (i:=i) (a:=a) (p:=p) hp hs;have j1t:∀(row:Int)(w:World),¬(a.length:Int)+p.length<mn->Ab W w (SG b c wd mn i a p::M)->PL By (AdQ b c wd mn i a p W M) (some ⟨b,0,none⟩) (C3 i) row true w:=by
  clear hs;intro row w hfull hs;refine jw ND ?_;refine Ak rfl ?_;obtain⟨s,xb,pr,kb,db,hp,hs⟩:=CN hs;refine Aa (Ag (x:=s) hs (Ag hs ?_));refine Ar (C0 AN (K:=[i,a,p]) (key:=C3 i) hs hzi (by omega) (show 3<=4 by decide)) λe w ⟨he,hs⟩=>⟨he,?_⟩;have e1:DY [i,a,p] (C3 i)=[i.drop 1,a,p]:=by
   show[Aq i _,Aq a _,Aq p _]=_;rw[Co hnd.ni h0,Av (hnd.io _ hmi).1,Av (hnd.io _ hmi).2]
  rw[e1] at hs;refine Ah hs λnb w hs=>?_;have hs:=Ab.blkS (b:=nb) (cs:=[.s (C3 i)]) (n:=1) Rec.str [C3 i] hs rfl rfl;refine⟨⟨some ⟨nb,0,none⟩,1,1⟩,[C3 i],a,p,rfl,hm,.inr ⟨_,rfl,hfull,.inl rfl,?_⟩,?_⟩
  ·conv=>lhs;rw[hdec i h0]
   exact List.Perm.refl _
  ·have hs:=BH (i:=i.drop 1) (a:=a) (p:=p) (M:=recs Rec.str ⟨some ⟨nb,0,none⟩,1,1⟩ [C3 i]::M) hp (by exact Ab.fin hs);exact hs
 have j1f:∀(j:Nat)(q:BL)(a' p':BL)(w:World),j<3->[i,a,p].getD j []=q->0<q.length->(C3 q∈a\/C3 q∈p)->DY [i,a,p] (C3 q)=[i,a',p']->(a++p).Perm (C3 q::(a'++p'))->¬(a.length:Int)+p.length<mn->Ab W w (SG b c wd mn i a p::M) ->
   PL By (AdQ b c wd mn i a p W M) (some ⟨b,0,none⟩) (C3 i) (j:Int) false w:=by
  clear hs;intro j q a' p' w hj hq hq0 hqm e1 hpm hfull hs;refine jw ND ?_;refine Ac rfl ?_;refine jw Zq ?_;have hpl:=hpm.length_eq;simp only[List.length_append,List.length_cons] at hpl;obtain⟨s,xb,pr,kb,db,hp,hs⟩:=CN hs;refine Aa (Ag (x:=s) hs (Ag hs ?_));refine An (BW AN (K:=[i,a,p]) (j:=j) hs (lt3 hj) (show 3<=4 by decide)) λe w ⟨he,hs⟩=>⟨_,he,?_⟩;rw[hq];refine Aa (Ag (x:=s) hs (Ag hs ?_));refine Ar (C0 AN (K:=[i,a,p]) (key:=C3 q) hs (hnd.small _ (.inr hqm)) (by omega) (show 3<=4 by decide)) λe w ⟨he,hs⟩=>⟨he,?_⟩
  rw[e1] at hs;refine Aa (Ag (x:=s) hs (Ag hs ?_));have hna:C3 i∉a'/\C3 i∉p':=by
   have h:C3 i∉a++p:=λh=>(List.mem_append.1 h).elim (hnd.io _ hmi).1 (hnd.io _ hmi).2;exact⟨λh2=>h (hpm.mem_iff.2 (.tail _ (List.mem_append_left _ h2))),λh2=>h (hpm.mem_iff.2 (.tail _ (List.mem_append_right _ h2)))⟩
  refine Ar (IG AN (K:=[i,a',p']) (j:=1) (key:=C3 i) hs (by decide) hzi (show a'.length<5000 by omega) rfl) λe w ⟨he,hs⟩=>⟨he,?_⟩;have e2:DJ [i,a',p'] 1 (C3 i)=[i.drop 1,a'++[C3 i],p']:=by
   show[Aq i _,Aq a' _++[_],Aq p' _]=_;rw[Co hnd.ni h0,Av hna.1,Av hna.2]
  rw[e2] at hs;refine Ah hs λnb w hs=>?_;have hs:=Ab.blkS (b:=nb) (cs:=[.s (C3 q)]) (n:=1) Rec.str [C3 q] hs rfl rfl;refine⟨⟨some ⟨nb,0,none⟩,1,1⟩,[C3 q],a'++[C3 i],p',rfl,by simp;omega,.inr ⟨_,rfl,hfull,.inr hqm,?_⟩,?_⟩
  ·have h1:(i++(a++p)).Perm (C3 q::(i++(a'++p'))):=(List.Perm.append_left i hpm).trans List.perm_middle;refine h1.trans (List.Perm.cons _ ?_)
   conv=>lhs;rw[hdec i h0]
   refine List.Perm.trans ?_ (List.perm_middle.symm.trans (List.Perm.append_left _ DQ.symm));exact List.Perm.refl _
  ·have hs:=BH (i:=i.drop 1) (a:=a'++[C3 i]) (p:=p') (M:=recs Rec.str ⟨some ⟨nb,0,none⟩,1,1⟩ [C3 q]::M) hp (by exact Ab.fin hs);exact hs
 refine AP (Vz hs) λv w ⟨hvic,hs⟩=>?_;obtain⟨row,t,hv,hrow⟩:∃(j:Nat) (t:Bool),v = .tuple #[.i (j:Int),.b t]/\(t=true->∃(q a' p':BL),j<3/\[i,a,p].getD j []=q/\0<q.length/\(C3 q∈a\/C3 q∈p)/\DY [i,a,p] (C3 q)=[i,a',p']/\(a++p).Perm (C3 q::(a'++p'))):=by
  rcases hvic with⟨hv,h⟩|⟨hv,ha,h⟩|⟨hv,_,_⟩
  ·have hmq:=Dk h;refine⟨1,true,hv,λ_=>⟨a,a.drop 1,p,by decide,rfl,h,.inl hmq,?_,?_⟩⟩
   ·show[Aq i _,Aq a _,Aq p _]=_;rw[Av λh=>(hnd.io _ h).1 hmq,Co hnd.no h,Av (hnd.oa _ hmq)]
   ·conv=>lhs;rw[hdec a h]
    exact List.Perm.refl _
  ·have hmq:=Dk h;subst ha;refine⟨2,true,hv,λ_=>⟨p,[],p.drop 1,by decide,rfl,h,.inr hmq,?_,?_⟩⟩
   ·show[Aq i _,[],Aq p _]=_;rw[Av λh=>(hnd.io _ h).2 hmq,Co hnd.na h]
   ·conv=>lhs;rw[hdec p h]
    exact List.Perm.refl _
  ·exact⟨0,false,hv,λh=>by cases h⟩
 clear hvic;refine⟨_,_,hv,?_⟩;obtain⟨s,xb,pr,kb,db,hp,hs⟩:=CN hs;refine Ao [cY b s xb c wd mn pr kb db] hs λw hs=>?_;refine Aa (Am (x:=s) (Am (Aa (Am ?_))));refine Ah hs λnb w hs=>Ae hs ?_;refine AV AN (nr:=3) (K:=[i,a,p]) [1,2] (M:=cY b s xb c wd mn pr kb db::H5 kb::HK db::M) (by exact Ab.fin hs) (by omega) rfl λw hs=>?_;refine Ae hs ?_;have e1:(Ca [i,a,p] [1,2]:Int)=a.length+p.length:=by simp[Ca]
 rw[e1];have hs:Ab W w (cY b s xb c wd mn pr kb db::rowsC s xb 5000 [i,a,p]::H5 kb::HK db::M):=by exact Ab.fin hs
 with_reducible refine A2 (λhfull=>?_) (λhfull=>?_)
 ·refine Aa (Ag (x:=s) hs (Ag hs ?_));refine Ar (IG AN (K:=[i,a,p]) (j:=1) (key:=C3 i) hs (by decide) hzi (show a.length<5000 by omega) rfl) λe w ⟨he,hs⟩=>⟨he,?_⟩;have e2:DJ [i,a,p] 1 (C3 i)=[i.drop 1,a++[C3 i],p]:=by
   show[Aq i _,Aq a _++[_],Aq p _]=_;rw[Co hnd.ni h0,Av (hnd.io _ hmi).1,Av (hnd.io _ hmi).2]
  rw[e2] at hs;refine⟨⟨none,0,0⟩,[],a++[C3 i],p,rfl,by simp;omega,.inl ⟨rfl,hfull,?_⟩,(Ab.nilR Rec.str (BH hp hs)).perm (List.Perm.swap _ _ _)⟩
  conv=>lhs;rw[hdec i h0]
  exact List.perm_middle.symm.trans (List.Perm.append_left _ DQ.symm)
 refine Ao [cY b s xb c wd mn pr kb db] hs λw hs=>?_;cases t with
 | false=>exact Ak rfl (Ae hs (j1t _ w hfull (BH hp hs)))
 | true=>
  obtain⟨q,a',p',hj,hq,hq0,hqm,e3,hpm⟩:=hrow rfl;refine Ac rfl (Aa (Am (x:=s) (Am ?_)));have keep:∀(w:World)(key:BA)(K:Int->WP),key.size<64->Ab W w (cY b s xb c wd mn pr kb db::rowsC s xb 5000 [i,a,p]::H5 kb::HK db::M)->(∀(y:Int)(w':World),Ab W w' (cY b s xb c wd mn pr kb db::rowsC s xb 5000 [i,a,p]::H5 kb::HK db::M)->K y w')->call1 (.int .i64) PR 348 [pq b 0,.s key] K w:=by
   clear hs;intro w key K hz hs hK;exact Ai (Amg hz hs) λv w ⟨y,hv,hs⟩=>⟨_,hv,hK _ _ hs⟩
  refine keep w _ _ hzi hs λy1 w hs=>Ae hs ?_;refine An (BW AN (K:=[i,a,p]) (j:=row) hs (lt3 hj) (show 3<=4 by decide)) λe w ⟨he,hs⟩=>⟨_,he,?_⟩;rw[hq];refine keep w _ _ (hnd.small _ (.inr hqm)) hs λy2 w hs=>?_;have hs:=BH (i:=i) (a:=a) (p:=p) hp hs;cases decide (y1<=y2) with
  | true=>exact j1t _ w hfull hs
  | false=>exact j1f row q a' p' w hj hq hq0 hqm e3 hpm hfull hs
abbrev AcQ(b:Nat)(c:Int)(R:BL)(key:BA)(W:World)(M:List HP):VW:=λv w'=>∃(hit:Bool) (l:Sl) (g S:BL),v = .tuple #[.b hit,.l l.a l.n l.c]/\Fj c R key hit g S/\Ab W w' (MW b c S::recs Rec.str l g::M)
theorem A3t(hR:DR c R)(hk:key∈R)(h1:1<=wd/\0<=mn/\wd+mn=c)(hw:(i.length:Int)<=wd):∀(f:Nat)(a p:BL)(w:World),p.length=f->(a.length:Int)+p.length<=mn->R.Perm (i++(a++p))->Ab W w (SG b c wd mn i a p::M) ->
  PJ By (AcQ b c R key W M) (f+1) (some ⟨b,0,none⟩) w:=by
 have hc2:=hR.c2;intro f
 induction f with
 | zero=>
  intro a p w hf hm hp2 hs;rw[NB];obtain⟨s,xb,pr,kb,db,hp,hs⟩:=CN hs;refine Ao [cY b s xb c wd mn pr kb db] hs λw hs=>?_;refine Aa (Am (x:=s) (Am (Aa (Am ?_))));refine Ah hs λnb w hs=>Ae hs ?_;refine AV AN (nr:=3) (K:=[i,a,p]) [2] (M:=cY b s xb c wd mn pr kb db::H5 kb::HK db::M) (by exact Ab.fin hs) (by omega) rfl λw hs=>?_;refine Ae hs ?_;have e1:(Ca [i,a,p] [2]:Int)=0:=by simp[Ca,hf]
  rw[e1];refine Ac (decide_eq_false (by omega)) ?_;refine jw NA ?_;have ha:=Fj.same hR hk hp2.symm;exact⟨true,⟨none,0,0⟩,[],_,rfl,ha,(Ab.nilR Rec.str (Da ⟨rfl,ha.ok,h1.1,h1.2.1,h1.2.2,hw,hm⟩ (BH hp (by exact Ab.fin hs)))).perm (List.Perm.swap _ _ _)⟩
 | succ f ih=>
  intro a p w hf hm hp2 hs;rw[NB];have hnd:=Ai4 hs;obtain⟨s,xb,pr,kb,db,hp,hs⟩:=CN hs;refine Ao [cY b s xb c wd mn pr kb db] hs λw hs=>?_;refine Aa (Am (x:=s) (Am (Aa (Am ?_))));refine Ah hs λnb w hs=>Ae hs ?_;refine AV AN (nr:=3) (K:=[i,a,p]) [2] (M:=cY b s xb c wd mn pr kb db::H5 kb::HK db::M) (by exact Ab.fin hs) (by omega) rfl λw hs=>?_;refine Ae hs ?_;have hs:Ab W w (cY b s xb c wd mn pr kb db::rowsC s xb 5000 [i,a,p]::H5 kb::HK db::M):=by exact Ab.fin hs
  refine Al (λ_=>?_) (λ_=>?_)
  ·refine Ao [cY b s xb c wd mn pr kb db] hs λw hs=>?_;refine Aa (Am (x:=s) (Am (Aa (Ag (x:=s) hs (Ag hs (Ae hs ?_))))));refine An (BW AN (K:=[i,a,p]) (j:=2) hs (lt3 (by decide)) (show 3<=4 by decide)) λe w ⟨he,hs⟩=>⟨C3 p,he,Ae hs ?_⟩;have h0:0<p.length:=by omega
   have hmp:=Dk h0;refine Ar (IG AN (K:=[i,a,p]) (j:=1) (key:=C3 p) hs (by decide) (hnd.small _ (.inr (.inr hmp))) (show a.length<5000 by omega) rfl) λe w ⟨he,hs⟩=>⟨he,?_⟩;have e2:DJ [i,a,p] 1 (C3 p)=[i,a++[C3 p],p.drop 1]:=by
    show[Aq i _,Aq a _++[_],Aq p _]=_;rw[Av λh=>(hnd.io _ h).2 hmp,Av λh=>hnd.oa _ h hmp,Co hnd.na h0]
   rw[e2] at hs;refine ih _ _ w (by rw[List.length_drop];omega) (by simp;omega) (hp2.trans (List.Perm.append_left i ?_)) (BH hp hs)
   have hdec:p=C3 p::p.drop 1:=by
    cases p with
    | nil=>simp at h0
    | cons x t=>rfl
   conv=>lhs;rw[hdec]
   rw[List.append_assoc];exact List.Perm.refl _
  ·refine jw NA ?_;have ha:=Fj.same hR hk hp2.symm;exact⟨true,⟨none,0,0⟩,[],_,rfl,ha,(Ab.nilR Rec.str (Da ⟨rfl,ha.ok,h1.1,h1.2.1,h1.2.2,hw,hm⟩ (BH hp hs))).perm (List.Perm.swap _ _ _)⟩
theorem Amd(hz:key.size<64)(hs:Ab W w (MW b c R::M)):BB PR 323 #[pq b 0,.s key] w (AcQ b c R key W M):=by
 refine cw ⟨mixed,Tryz.func323,rfl⟩ Aq7 ?_;refine Ac rfl ?_;obtain⟨wd,mn,i,a,p,h1,hs⟩:=EG hs;have hk:=h1.ok;have hll:=h1.len;have hsum:=h1.sum;have hw:=h1.win;have hm:=h1.main;have hw1:=h1.w1;have hmn:=h1.mn0
 refine B0 (Ave hz hs) λv w ⟨hv,hs⟩=>⟨hv,?_⟩;have hnd:=Ai4 hs;obtain⟨s,xb,pr,kb,db,hp,hs⟩:=CN hs;refine Aa (Ag (x:=s) hs (Ag hs ?_));refine An (Eu AN (K:=[i,a,p]) hs hz) λe w ⟨he,hs⟩=>⟨_,he,?_⟩;have j1:∀(w:World)(a' p':BL),key∈R->DJ [i,a,p] 2 key=[i,a',p']->(a'.length:Int)+p'.length<=mn->R.Perm (i++(a'++p'))->Ab W w (SG b c wd mn i a p::M)->Wu By (AcQ b c R key W M) (some ⟨b,0,none⟩) key true w:=by
  clear hs;intro w a' p' hkR e2 hm2 hp2 hs;refine jw N9 ?_;refine Ak rfl ?_;obtain⟨s,xb,pr,kb,db,hp,hs⟩:=CN hs;refine Aa (Ag (x:=s) hs (Ag hs ?_));refine Ar (IG AN (K:=[i,a,p]) (j:=2) (key:=key) hs (by decide) hz (show p.length<5000 by omega) rfl) λe w ⟨he,hs⟩=>⟨he,?_⟩;rw[e2] at hs;exact AR _ (A3t hk hkR ⟨hw1,hmn,hsum⟩ hw _ a' p' w rfl hm2 hp2 (BH hp hs))
 rcases SC i a p key with⟨h,h4⟩|⟨h,h4,h5⟩|⟨h,h4,h5,h6⟩|⟨h,h4,h5,h6⟩ <;> rw[h]
 ·refine Ak rfl (Aa (Ag (x:=s) hs (Ag hs ?_)));refine Ar (IG AN (K:=[i,a,p]) (j:=0) (key:=key) hs (by decide) hz (show i.length<5000 by omega) rfl) λe w ⟨he,hs⟩=>⟨he,?_⟩;have e2:DJ [i,a,p] 0 key=[Aq i key++[key],a,p]:=by
   show[Aq i _++[_],Aq a _,Aq p _]=_;rw[Av (hnd.io _ h4).1,Av (hnd.io _ h4).2]
  rw[e2] at hs;have hpi:(Aq i key++[key]).Perm i:=List.perm_append_comm.trans (CP hnd.ni h4).symm;have hli:=hpi.length_eq;have ha:=Fj.same (S:=(Aq i key++[key])++(a++p)) hk (by rw[h1.eq];exact List.mem_append_left _ h4) (by rw[h1.eq];exact List.Perm.append_right _ hpi)
  exact⟨true,⟨none,0,0⟩,[],_,rfl,ha,(Ab.nilR Rec.str (Da ⟨rfl,ha.ok,hw1,hmn,hsum,by omega,hm⟩ (BH hp hs))).perm (List.Perm.swap _ _ _)⟩
 ·refine Ac rfl (Ak rfl ?_);have hg:=CP hnd.no h5;have hgl:=hg.length_eq;rw[List.length_cons] at hgl;refine j1 w (Aq a key) (p++[key]) (by rw[h1.eq];simp[h5]) (by show[Aq i _,Aq a _,Aq p _++[_]]=_;rw[Av h4,Av (hnd.oa _ h5)]) (by simp;omega) ?_ (BH hp hs)
  rw[h1.eq];exact List.Perm.append_left i ((List.Perm.append_right p hg).trans EV.symm)
 ·refine Ac rfl (Ac rfl ?_);have hg:=CP hnd.na h6;have hgl:=hg.length_eq;rw[List.length_cons] at hgl;refine j1 w a (Aq p key++[key]) (by rw[h1.eq];simp[h6]) (by show[Aq i _,Aq a _,Aq p _++[_]]=_;rw[Av h4,Av h5]) (by simp;omega) ?_ (BH hp hs)
  rw[h1.eq];exact List.Perm.append_left i (List.Perm.append_left a (hg.trans (List.perm_append_singleton _ _).symm))
 ·refine Ac rfl (Ac rfl ?_);refine jw N9 ?_;refine Ac rfl ?_;refine jw Zn ?_;have hno:key∉R:=by rw[h1.eq];simp[h4,h5,h6]
  refine Aa (Ag (x:=s) hs (Ag hs ?_));refine Ar (IG AN (K:=[i,a,p]) (j:=0) (key:=key) hs (by decide) hz (show i.length<5000 by omega) rfl) λe w ⟨he,hs⟩=>⟨he,?_⟩;have e2:DJ [i,a,p] 0 key=[i++[key],a,p]:=by
   show[Aq i _++[_],Aq a _,Aq p _]=_;rw[Av h4,Av h5,Av h6]
  rw[e2] at hs;have hs:=BH (i:=i++[key]) (a:=a) (p:=p) hp hs;have hp0:((i++[key])++(a++p)).Perm (key::R):=by rw[h1.eq];exact DQ
  have last:∀(w:World)(l:Sl)(g i' a' p' S:BL),Mz c R g S->(i'++(a'++p')).Perm (key::S)->(i'.length:Int)<=wd->(a'.length:Int)+p'.length<=mn->Ab W w (SG b c wd mn i' a' p'::recs Rec.str l g::M) ->
    PK By (AcQ b c R key W M) 1 (some ⟨b,0,none⟩) l w:=by
   clear hs;intro w l g i' a' p' S hrec hpS hw' hm' hs;rw[NC];obtain⟨s,xb,pr,kb,db,hp,hs⟩:=CN hs;refine Ao [cY b s xb c wd mn pr kb db] hs λw hs=>?_;refine Aa (Am (x:=s) (Am (Aa (Am ?_))));refine Ah hs λnb w hs=>Ae hs ?_;refine AV AN (nr:=3) (K:=[i',a',p']) [0] (M:=cY b s xb c wd mn pr kb db::H5 kb::HK db::recs Rec.str l g::M) (by exact Ab.fin hs) (by omega) rfl λw hs=>?_;refine Ae hs ?_;have e1:(Ca [i',a',p'] [0]:Int)=i'.length:=by simp[Ca]
   rw[e1];refine Ac (decide_eq_false (by omega)) ?_;refine jw Zo ?_;have ha:=Fj.miss hk hno hz hrec hpS;exact⟨false,l,g,_,rfl,ha,Da ⟨rfl,ha.ok,hw1,hmn,hsum,hw',hm'⟩ (BH hp (by exact Ab.fin hs))⟩
  by_cases hfull:(i.length:Int)<wd
  ·refine AR 1 (last w ⟨none,0,0⟩ [] (i++[key]) a p R (.inl ⟨rfl,rfl,by omega⟩) hp0 (by simp;omega) hm ((Ab.nilR Rec.str hs).perm (List.Perm.swap _ _ _)))
  refine AR 2 ?_;rw[NC];have hs:=Ab.nilR Rec.str hs;have hs:Ab W w (SG b c wd mn (i++[key]) a p::recs Rec.str ⟨none,0,0⟩ []::M):=hs.perm (List.Perm.swap _ _ _);obtain⟨s,xb,pr,kb,db,hp,hs⟩:=CN hs;refine Ao [cY b s xb c wd mn pr kb db] hs λw hs=>?_;refine Aa (Am (x:=s) (Am (Aa (Am ?_))));refine Ah hs λnb w hs=>Ae hs ?_;refine AV AN (nr:=3) (K:=[i++[key],a,p]) [0] (M:=cY b s xb c wd mn pr kb db::H5 kb::HK db::recs Rec.str ⟨none,0,0⟩ []::M) (by exact Ab.fin hs) (by omega) rfl λw hs=>?_;refine Ae hs ?_
  have e1:(Ca [i++[key],a,p] [0]:Int)=i.length+1:=by simp[Ca]
  rw[e1];refine Ak (decide_eq_true (by omega)) ?_;have hs:=BH (i:=i++[key]) (a:=a) (p:=p) (M:=recs Rec.str ⟨none,0,0⟩ []::M) hp (by exact Ab.fin hs);refine Ai (Amf (by simp) (by simp;omega) hm hs) λv w ⟨l,g,a',p',hv,hm',hg,hs⟩=>⟨_,hv,?_⟩
  have hgl:g.length<=1:=by rcases hg with⟨rfl,_⟩|⟨x,rfl,_⟩ <;> simp
  have hs:Ab W w (recs Rec.str ⟨none,0,0⟩ []::recs Rec.str l g::SG b c wd mn ((i++[key]).drop 1) a' p'::M):=by exact Ab.fin hs
  refine DK (s:=⟨none,0,0⟩) (new:=g) hs (GS (s:=l) (E:=Rec.str) (rows:=g) hs) (Bt (s:=l) (E:=Rec.str) (rows:=g) hs) (Cx _) rfl (by decide) (by simp;omega) λs2 w hs2 hs=>?_;have hs:Ab W w (SG b c wd mn ((i++[key]).drop 1) a' p'::recs Rec.str s2 g::M):=by
   rw[List.nil_append] at hs;exact Ab.fin hs
  have hi0:0<i.length:=by omega
  have hhd:C3 (i++[key])=C3 i:=by
   cases i with
   | nil=>simp at hi0
   | cons x t=>rfl
  have Li:(((i++[key]).drop 1).length:Int)<=wd:=by simp;omega
  rcases hg with⟨rfl,hlt,hpm⟩|⟨x,rfl,hge,hx,hpm⟩
  ·exact last w s2 [] _ a' p' R (.inl ⟨rfl,rfl,by omega⟩) (hpm.symm.trans hp0) Li hm' hs
  ·have hxR:x∈R:=by
    rw[h1.eq];rcases hx with h|h|h
    ·rw[hhd] at h;subst h;exact List.mem_append_left _ (Dk hi0)
    ·simp[h]
    ·simp[h]
   have hpx:=CP hk.nd hxR;have hev:=Hc.of_perm hk hpx;refine last w s2 [x] _ a' p' (Aq R x) (.inr ⟨x,rfl,hev,by omega⟩) ?_ Li hm' hs;have h7:=hpm.symm.trans (hp0.trans ((List.Perm.cons key hpx).trans (List.Perm.swap x key _)));exact(List.perm_cons x).1 h7
end
end Go.Proofs.YtjipofkjmmpjdaaGreat
namespace Go.Hb
theorem GF{V:Type}(e:BA×V)(m:List (BA×V))(k:BA):AC (e::m) k=if e.1=k then some e.2 else AC m k:=by
 unfold AC
 by_cases h:e.1=k
 ·simp[List.find?,h]
 ·simp[List.find?,h]
theorem Alz{V:Type}(m:List (BA×V))(k k':BA)(v:V):AC (Fg m k v) k'=if k=k' then (AC m k').map λ_=>v else AC m k':=by
 induction m with
 | nil=>simp[Fg,AC]
 | cons e m ih=>
  have e1:Fg (e::m) k v=(if e.1=k then (k,v) else e)::Fg m k v:=rfl;rw[e1,GF,ih,GF]
  by_cases h1:e.1=k
  ·by_cases h2:k=k'
   ·simp[h1,h2]
   ·simp[h1,h2]
  ·by_cases h2:k=k'
   ·have h3:e.1≠k':=λh=>h1 (h.trans h2.symm);simp[h2,h3]
   ·simp[h1,h2]
theorem Vt{V:Type}(m:List (BA×V))(k k':BA)(v:V):AC (CE m k v) k'=if k=k' then some v else AC m k':=by
 unfold CE;split
 ·rename_i u hu;rw[Alz]
  by_cases h:k=k'
  ·subst h;simp[hu]
  ·simp[h]
 ·rw[GF]
theorem Vs{V:Type}(m:List (BA×V))(k x:BA):AC (Cr m k) x=if k=x then none else AC m x:=by
 induction m with
 | nil=>simp[Cr,AC]
 | cons e m ih=>
  by_cases h1:e.1=k
  ·have e1:Cr (e::m) k=Cr m k:=by simp[Cr,h1]
   rw[e1,ih,GF]
   by_cases h2:k=x
   ·simp[h2]
   ·have h3:e.1≠x:=λh=>h2 (h1.symm.trans h);simp[h2,h3]
  ·have e1:Cr (e::m) k=e::Cr m k:=by simp[Cr,h1]
   rw[e1,GF,ih,GF]
   by_cases h2:k=x
   ·have h3:e.1≠x:=λh=>h1 (h.trans h2.symm);simp[h2,h3]
   ·simp[h2]
end Go.Hb
namespace Go.Hb
instance {s:Int} {k:BA} {v:Int}:Ln (CS (Rec.int .i64)) [.i s,.s k,.i v] ⟨s,k,v⟩:=⟨rfl⟩
instance {a:Pl Int} {v:Int}:Acp (CS (Rec.int .i64)) a 2 (.i v) { a with v:=v }:=⟨rfl,by decide⟩
end Go.Hb
namespace Go.Proofs.YtjipofkjmmpjdaaGreat
open Go.Hb Go.IntWalk
section
variable{W w:World}{L M:List HP}{F:HP->List HP}{b:Nat}{seed:Int}{m:List (BA×Int)}{s:Sl}{ps:List (Pl Int)}{n1 u1:Int}
theorem Hn{st:BA->Nat}{k:BA}(hst:st=A4 seed ps.length)(hz:k.size<4611686018427387904)(hl:0<ps.length/\ps.length<4611686018427387904)(hstop:∃e,e<ps.length/\BU ps ((st k+e) % ps.length)=0)
  (hs:Ab W w (blk b [.int .u64 seed,.l s.a s.n s.c,.i n1,.i u1]::recs (CS (Rec.int .i64)) s ps::M)) :
  Calls PR 193 #[pq b 0,.s k] w λe w'=>e = .returned (.tuple #[.i ((AQ st ps k).1:Int),.b (AQ st ps k).2])/\Ab W w' (blk b [.int .u64 seed,.l s.a s.n s.c,.i n1,.i u1]::recs (CS (Rec.int .i64)) s ps::M):=by
 refine c1 (cw ⟨mixed,Tryz.func193,rfl⟩ Apg ?_);have hn:=(BV (s:=s) hs Gv.pos).1;refine Ao [blk b [.int .u64 seed,.l s.a s.n s.c,.i n1,.i u1]] hs λw hs=>?_
 repeat (first|with_reducible refine Aa ?_|((with_reducible refine AX ?_);first|refine Am ?_|fail)|fail)
 refine An (Hm hs hz) λe w ⟨he,hs⟩=>⟨_,he,?_⟩
 repeat (first|((with_reducible refine AA ?_);first|refine Ae hs ?_|fail)|fail)
 refine An (GR (n:=s.n) hs (GJ _ _).1 (by omega) (by omega)) λe w ⟨he,hs⟩=>⟨_,he,?_⟩;have e9:(FB seed k).toNat % s.n=A4 seed ps.length k:=by rw[hn,Kd]
 rw[e9];have loop:∀(f:Nat)(free:Option Nat)(i:Nat)(w:World),i<ps.length->(∃e,e<f/\BU ps ((i+e) % ps.length)=0)->Ab W w (blk b [.int .u64 seed,.l s.a s.n s.c,.i n1,.i u1]::recs (CS (Rec.int .i64)) s ps::M) ->
   P0 By (λv w'=>v = .tuple #[.i ((AJ ps k f free i).1:Int),.b (AJ ps k f free i).2]/\Ab W w' (blk b [.int .u64 seed,.l s.a s.n s.c,.i n1,.i u1]::recs (CS (Rec.int .i64)) s ps::M)) f (some ⟨b,0,none⟩) k (M8 free) (i:Int) w:=by
  intro f
  induction f with
  | zero=>intro free i w hi ⟨e,he,_⟩;omega
  | succ f ih=>
   intro free i w hi hstop hs;have hm:(i+1) % ps.length<ps.length:=Nat.mod_lt _ hl.1;have next:BU ps i≠0->∃e',e'<f/\BU ps (((i+1) % ps.length+e') % ps.length)=0:=by
    obtain⟨e,he,hz0⟩:=hstop;intro hne;cases e with
    | zero=>rw[Nat.add_zero,Nat.mod_eq_of_lt hi] at hz0;exact absurd hz0 hne
    | succ e=>exact⟨e,by omega,by rw[Ew];exact hz0⟩
   have hwr:Int.tmod (IntKind.wrap .i64 ((i:Int)+1)) (s.n:Int)=(((i+1) % ps.length:Nat):Int):=by
    rw[i64_in _ (by omega),hn,Int.tmod_eq_emod_of_nonneg (by omega)];simp
   have j4:∀(free':Option Nat)(w:World),BU ps i≠0->Ab W w (blk b [.int .u64 seed,.l s.a s.n s.c,.i n1,.i u1]::recs (CS (Rec.int .i64)) s ps::M)->AJ ps k (f+1) free i=AJ ps k f free' ((i+1) % ps.length) ->
     VZ By (λv w'=>v = .tuple #[.i ((AJ ps k (f+1) free i).1:Int),.b (AJ ps k (f+1) free i).2]/\Ab W w' (blk b [.int .u64 seed,.l s.a s.n s.c,.i n1,.i u1]::recs (CS (Rec.int .i64)) s ps::M)) f (some ⟨b,0,none⟩) k (M8 free') (i:Int) w:=by
    intro free' w hne hs he;refine jw YG ?_;rw[he]
    repeat (first|with_reducible refine Aa ?_|((with_reducible refine Ax ?_);first|refine Ag hs ?_|fail)|((with_reducible refine Bx ?_);first|refine AW ?_|fail)|fail)
    rw[hwr];exact ih free' _ w hm (next hne) hs
   rw[YI];have hcast:((i:Int)).toNat=i:=Int.toNat_natCast i
   repeat (first|with_reducible refine Aa ?_|((with_reducible refine Ax ?_);first|refine Ag hs ?_|refine Bb hs ?_|fail)|((with_reducible refine AM ?_);first|refine AK hs λb_ o_ hs=>?_|fail)|fail)
   rw[hcast];have ei:(ps.getD i default).is_=BU ps i:=rfl;have ek:(ps.getD i default).key=Ed ps i:=rfl;rw[ei];have j2:∀(t:Bool)(w:World)(b1 o1:Nat),t=decide (BU ps i=2/\Ed ps i=k)->Ab W w (blk b [.int .u64 seed,.l s.a s.n s.c,.i n1,.i u1]::reca (CS (Rec.int .i64)) b1 o1 s ps::M) ->
     VX By (λv w'=>v = .tuple #[.i ((AJ ps k (f+1) free i).1:Int),.b (AJ ps k (f+1) free i).2]/\Ab W w' (blk b [.int .u64 seed,.l s.a s.n s.c,.i n1,.i u1]::recs (CS (Rec.int .i64)) s ps::M)) f (some ⟨b,0,none⟩) k (M8 free) (i:Int) b1 (o1+i*3) t w:=by
    intro t w b1 o1 ht hs;refine jw YE ?_;rw[ht]
    with_reducible refine Cd (λh1=>?_) (λh1=>?_)
    ·have e1:AJ ps k (f+1) free i=(i,true):=by rw[AJ,if_pos h1]
     rw[e1];exact⟨rfl,by exact Ab.fin hs⟩
    ·repeat (first|with_reducible refine Aa ?_|((with_reducible refine Ax ?_);first|refine Bb hs ?_|fail)|fail)
     rw[ei];have j3:∀(t:Bool)(w:World),t=decide (BU ps i=1/\free=none)->Ab W w (blk b [.int .u64 seed,.l s.a s.n s.c,.i n1,.i u1]::reca (CS (Rec.int .i64)) b1 o1 s ps::M) ->
       VY By (λv w'=>v = .tuple #[.i ((AJ ps k (f+1) free i).1:Int),.b (AJ ps k (f+1) free i).2]/\Ab W w' (blk b [.int .u64 seed,.l s.a s.n s.c,.i n1,.i u1]::recs (CS (Rec.int .i64)) s ps::M)) f (some ⟨b,0,none⟩) k (M8 free) (i:Int) b1 (o1+i*3) t w:=by
      intro t w ht hs;refine jw YF ?_;rw[ht]
      with_reducible refine Cd (λh2=>?_) (λh2=>?_)
      ·exact j4 (some i) w (by rw[h2.1];decide) (by exact Ab.fin hs) (by rw[AJ,if_neg h1,if_pos h2])
      ·repeat (first|with_reducible refine Aa ?_|((with_reducible refine Ax ?_);first|refine Bb hs ?_|fail)|fail)
       rw[ei];have j5:∀(t:Bool)(w:World),t=decide (BU ps i=0/\free=none)->Ab W w (blk b [.int .u64 seed,.l s.a s.n s.c,.i n1,.i u1]::reca (CS (Rec.int .i64)) b1 o1 s ps::M) ->
         Wa By (λv w'=>v = .tuple #[.i ((AJ ps k (f+1) free i).1:Int),.b (AJ ps k (f+1) free i).2]/\Ab W w' (blk b [.int .u64 seed,.l s.a s.n s.c,.i n1,.i u1]::recs (CS (Rec.int .i64)) s ps::M)) f (some ⟨b,0,none⟩) k (M8 free) (i:Int) b1 (o1+i*3) t w:=by
        intro t w ht hs;refine jw YH ?_;rw[ht]
        with_reducible refine Cd (λh3=>?_) (λh3=>?_)
        ·have e1:AJ ps k (f+1) free i=(i,false):=by rw[AJ,if_neg h1,if_neg h2,if_pos h3.1,h3.2];rfl
         rw[e1];exact⟨rfl,by exact Ab.fin hs⟩
        ·repeat (first|with_reducible refine Aa ?_|((with_reducible refine Ax ?_);first|refine Bb hs ?_|fail)|fail)
         rw[ei]
         with_reducible refine Be (λh4=>?_) (λh4=>?_)
         ·have e1:AJ ps k (f+1) free i=(free.getD i,false):=by rw[AJ,if_neg h1,if_neg h2,if_pos h4]
          rw[e1];cases free with
          | none=>exact absurd ⟨h4,rfl⟩ h3
          | some j=>exact⟨rfl,by exact Ab.fin hs⟩
         ·exact j4 free w h4 (by exact Ab.fin hs) (by rw[AJ,if_neg h1,if_neg h2,if_neg h4])
       with_reducible refine Be (λh3=>?_) (λh3=>?_)
       ·exact j5 _ w (by simp[h3,Hl]) (by exact Ab.fin hs)
       ·exact j5 _ w (by simp[h3]) (by exact Ab.fin hs)
     with_reducible refine Be (λh2=>?_) (λh2=>?_)
     ·exact j3 _ w (by simp[h2,Hl]) (by exact Ab.fin hs)
     ·exact j3 _ w (by simp[h2]) (by exact Ab.fin hs)
   with_reducible refine Be (λh1=>?_) (λh1=>?_)
   ·repeat (first|with_reducible refine Aa ?_|((with_reducible refine Ax ?_);first|refine BG hs ?_|fail)|fail)
    rw[ek];refine j2 _ w _ _ ?_ (by exact Ab.fin hs);rw[HE];simp[h1]
   ·refine j2 _ w _ _ ?_ (by exact Ab.fin hs);simp[h1]
 subst hst;have hl2:=loop ps.length none (A4 seed ps.length k) w (Ds hl.1 k) hstop hs;rw[show M8 none = -1 from rfl] at hl2;unfold AQ;refine⟨ps.length,?_⟩;exact hl2
theorem NR{k:BA}{v:Int}{j:Nat}(hj:j<ps.length)(hb:ps.length<4611686018427387904)(hu:u1=(AD ps:Int))(hn1:0<=n1/\n1<4611686018427387904)(hs:Ab W w (blk b [.int .u64 seed,.l s.a s.n s.c,.i n1,.i u1]::recs (CS (Rec.int .i64)) s ps::M)) :
  Calls PR 195 #[pq b 0,.i (j:Int),.s k,.i v] w λe w'=>e = .returned (.tuple #[])/\Ab W w' (blk b [.int .u64 seed,.l s.a s.n s.c,.i (n1+1),.i (AD (ps.set j ⟨2,k,v⟩):Int)]::recs (CS (Rec.int .i64)) s (ps.set j ⟨2,k,v⟩)::M):=by
 refine c1 (cw ⟨mixed,Tryz.func195,rfl⟩ Api ?_);have hn:=(BV (s:=s) hs Gv.pos).1;have hle:AD ps<=ps.length:=List.countP_le_length;rw[BO hj _ (by show(2:Int)≠0;decide)]
 repeat (first|with_reducible refine Aa ?_|((with_reducible refine Ax ?_);first|refine Ag hs ?_|refine Bb hs ?_|fail)|((with_reducible refine AM ?_);first|refine AK hs λb_ o_ hs=>?_|fail)|fail)
 simp only[Int.toNat_natCast];have ei:(ps.getD j default).is_=BU ps j:=rfl;rw[ei]
 with_reducible refine Be (λh1=>?_) (λh1=>?_)
 ·repeat (first|with_reducible refine Aa ?_|((with_reducible refine Ax ?_);first|refine Ag hs ?_|fail)|((with_reducible refine AS ?_);first|refine A0 hs λw hs=>?_|fail)|fail)
  refine jw Nu ?_
  repeat (first|with_reducible refine Aa ?_|((with_reducible refine Ax ?_);first|refine Ag hs ?_|fail)|((with_reducible refine AS ?_);first|refine A0 hs λw hs=>?_|refine Bi hs λw hs=>?_|fail)|((with_reducible refine AM ?_);first|refine BT hs ?_|fail)|fail)
  rw[i64_in (n1+1) (by omega),hu,i64_in _ (by omega)] at hs;simp only[Int.toNat_natCast] at hs;rw[if_pos h1];exact⟨rfl,by exact Ab.fin hs⟩
 ·refine jw Nu ?_
  repeat (first|with_reducible refine Aa ?_|((with_reducible refine Ax ?_);first|refine Ag hs ?_|fail)|((with_reducible refine AS ?_);first|refine A0 hs λw hs=>?_|refine Bi hs λw hs=>?_|fail)|((with_reducible refine AM ?_);first|refine BT hs ?_|fail)|fail)
  rw[i64_in (n1+1) (by omega),hu] at hs;simp only[Int.toNat_natCast] at hs;rw[if_neg h1,Nat.add_zero];exact⟨rfl,by exact Ab.fin hs⟩
theorem WS{st:BA->Nat}(hi:C2 st ps m)(hkz:∀e∈m,e.1.size<4611686018427387904)(hm:m.length<1000000000)(hs:Ab W w (blk b [.int .u64 seed,.l s.a s.n s.c,.i (m.length:Int),.i u1]::recs (CS (Rec.int .i64)) s ps::M)) :
  Calls PR 196 #[pq b 0] w λe w'=>e = .returned (.tuple #[])/\Ab W w' (ixr (Rec.int .i64) b seed m::M):=by
 refine c1 (cw ⟨mixed,Tryz.func196,rfl⟩ Apj ?_);have hn:=(BV (s:=s) hs Gv.pos).1;have hsmall:=hi.small;obtain⟨N,hN⟩:∃N:Nat,N=max 8 (4*(m.length+1)):=⟨_,rfl⟩;have e1:(if (IntKind.wrap .i64 ((4:Int)*(IntKind.wrap .i64 ((m.length:Int)+(1:Int)))))>(8:Int) then (IntKind.wrap .i64 ((4:Int)*(IntKind.wrap .i64 ((m.length:Int)+(1:Int))))) else (8:Int))=(N:Int):=by
  rw[i64_in ((m.length:Int)+1) (by omega),i64_in _ (by omega)];split <;> omega
 repeat (first|with_reducible refine Aa ?_|((with_reducible refine Ax ?_);first|refine Ag hs ?_|fail)|fail)
 rw[e1];refine E2 (sz:=3) hs rfl (by omega) (by omega) (by omega) (by omega) λs2 w hn2 _ _ hs=>?_;rw[Int.toNat_natCast] at hs hn2;have hs:Ab W w (recs (CS (Rec.int .i64)) s2 (List.replicate N ⟨0,Af,0⟩)::blk b [.int .u64 seed,.l s.a s.n s.c,.i (m.length:Int),.i u1]::recs (CS (Rec.int .i64)) s ps::M):=by
  have e:=Ey (CS (Rec.int .i64)) ⟨0,Af,0⟩ N;unfold recs;rw[<- e];exact hs
 repeat (first|with_reducible refine Aa ?_|((with_reducible refine AS ?_);first|refine A0 hs λw hs=>?_|fail)|fail)
 have hinv:=C2.new (st:=A4 seed N) (n:=N) (z:=(⟨0,Af,0⟩:Pl Int)) rfl (by omega) (by omega) (Ds (by omega));have hdist:(Bd ps).map (·.1) |>.Nodup:=(hi.perm.map (·.1)).nodup_iff.2 hi.nodup
 have hlen:(Bd ps).length=m.length:=hi.perm.length_eq;have loop:∀(f i:Nat)(w:World)(ps2:List (Pl Int))(mi:List (BA×Int)),i+f=ps.length->ps2.length=N->C2 (A4 seed N) ps2 mi->mi.Perm (Bd (ps.take i))->AD ps2<=mi.length ->
   Ab W w (blk b [.int .u64 seed,.l s2.a s2.n s2.c,.i (mi.length:Int),.i (AD ps2:Int)]::recs (CS (Rec.int .i64)) s2 ps2::recs (CS (Rec.int .i64)) s ps::M) ->
   L7 By (λv w'=>v = .tuple #[]/\Ab W w' (ixr (Rec.int .i64) b seed m::M)) (f+1) (some ⟨b,0,none⟩) s (s.n:Int) (i:Int) w:=by
  intro f
  induction f with
  | zero=>
   intro i w ps2 mi hif hpl hiv hp hu hs;rw[Nv];refine Ac (decide_eq_false (by omega)) ⟨rfl,?_⟩;rw[List.take_of_length_le (by omega)] at hp;have hpm:=hp.trans hi.perm;refine Bz s2 (ps:=ps2) (n:=(mi.length:Int)) ?_ ?_ (by rw[hpm.length_eq]) rfl (by exact Ab.fin hs)
   ·rw[hpl];exact hiv.perm' hpm
   ·rw[hpl];have:=hpm.length_eq;omega
  | succ f ih=>
   intro i w ps2 mi hif hpl hiv hp hu hs;rw[Nv];refine Ak (decide_eq_true (by omega)) ?_
   repeat (first|((with_reducible refine Ax ?_);first|refine Ag hs ?_|refine Bb hs ?_|refine BG hs ?_|refine Cn hs ?_|fail)|((with_reducible refine AS ?_);first|refine A0 hs λw hs=>?_|fail)|((with_reducible refine AM ?_);first|refine AK hs λb_ o_ hs=>?_|fail)|((with_reducible refine Bf ?_);first|refine Ah hs λb_ w hs=>?_|fail)|fail)
   simp only[Int.toNat_natCast] at hs ⊢;have hil:i<ps.length:=by omega
   have hft:Bd (ps.take (i+1))=Bd (ps.take i)++EU (ps.getD i default):=by
    rw[CA hil,Cg];simp[Bd]
   with_reducible refine Be (λh1=>?_) (λh1=>?_)
   ·have hop:EU (ps.getD i default)=[((ps.getD i default).key,(ps.getD i default).v)]:=Gd h1;rw[hop] at hft;have hsub:(Bd (ps.take (i+1))).Sublist (Bd ps):=by
     conv=>rhs;rw[<- List.take_append_drop (i+1) ps,Cg]
     exact List.sublist_append_left _ _
    have hmem:((ps.getD i default).key,(ps.getD i default).v)∈m:=hi.perm.subset (hsub.subset (by rw[hft];simp));have hnd:=hdist.sublist (hsub.map (·.1));rw[hft,List.map_append] at hnd;have hno:AC mi (ps.getD i default).key=none:=by
     rw[BY];intro e he hk;rw[List.nodup_append] at hnd;exact hnd.2.2 _ (List.mem_map_of_mem (f:=(·.1)) (hp.subset he)) _ (by simp) hk
    have hlt:mi.length+1<=m.length:=by
     have:=hsub.length_le;rw[hft,List.length_append,<- hp.length_eq] at this;simp only[List.length_cons,List.length_nil] at this;omega
    repeat (first|((with_reducible refine Ax ?_);first|refine Ag hs ?_|fail)|fail)
    have hs:Ab W w (blk b [.int .u64 seed,.l s2.a s2.n s2.c,.i (mi.length:Int),.i (AD ps2:Int)]::recs (CS (Rec.int .i64)) s2 ps2::blk b_ [.i (ps.getD i default).is_,.s (ps.getD i default).key,.i (ps.getD i default).v]::recs (CS (Rec.int .i64)) s ps::M):=by exact Ab.fin hs
    refine AH (Hn (st:=A4 seed N) (by rw[hpl]) (hkz _ hmem) (by omega) (hiv.stop _) hs) λe w ⟨he,hs⟩=>⟨_,_,he,?_⟩;have hfm:(AQ (A4 seed N) ps2 (ps.getD i default).key).2=false:=by
     cases hb:(AQ (A4 seed N) ps2 (ps.getD i default).key).2 with
     | false=>rfl
     | true=>have:=(hiv.hit hb).2.2;rw[hno] at this;cases this
    obtain⟨hj,hj2,_,hjr⟩:=hiv.miss hfm
    repeat (first|((with_reducible refine Ax ?_);first|refine Ag hs ?_|fail)|fail)
    refine Ar (NR (v:=(ps.getD i default).v) hj (by omega) rfl (by omega) hs) λe w ⟨he,hs⟩=>⟨he,?_⟩;rw[i64_in _ (by omega)];have hus:=BO hj (⟨2,(ps.getD i default).key,(ps.getD i default).v⟩:Pl Int) (by show(2:Int)≠0;decide)
    have hus2:AD (ps2.set (AQ (A4 seed N) ps2 (ps.getD i default).key).1 ⟨2,(ps.getD i default).key,(ps.getD i default).v⟩)<=AD ps2+1:=by rw[hus];split <;> omega
    refine ih (i+1) w _ (((ps.getD i default).key,(ps.getD i default).v)::mi) (by omega) (by rw[List.length_set];exact hpl) (hiv.add hj hj2 hno hjr (by omega)) ?_ (by simp only[List.length_cons];omega) ?_
    ·rw[hft];exact((List.Perm.cons _ hp).trans (List.perm_append_comm (l₁:=[_])))
    ·simp only[List.length_cons,Int.natCast_add];exact Ab.fin hs
   ·have hop:EU (ps.getD i default)=[]:=Ie h1;rw[hop,List.append_nil] at hft;rw[i64_in _ (by omega)];exact ih (i+1) w ps2 mi (by omega) hpl hiv (by rw[hft];exact hp) hu (by exact Ab.fin hs)
 refine⟨ps.length+1,?_⟩;refine loop ps.length 0 w (List.replicate N ⟨0,Af,0⟩) [] (by omega) (by simp) hinv (by simp[Bd]) ?_ ?_
 ·have:AD (List.replicate N (⟨0,Af,0⟩:Pl Int))=0:=by
   unfold AD;rw[List.countP_eq_zero];intro a ha;rw[List.eq_of_mem_replicate ha];simp
  rw[this];exact Nat.zero_le _
 ·have:AD (List.replicate N (⟨0,Af,0⟩:Pl Int))=0:=by
   unfold AD;rw[List.countP_eq_zero];intro a ha;rw[List.eq_of_mem_replicate ha];simp
  rw[this];exact Ab.fin hs
end
section
variable{W w:World}{L M:List HP}{F:HP->List HP}{b:Nat}{seed:Int}{m:List (BA×Int)}{k:BA}
theorem Aib(hs:Ab W w L):Calls PR 172 #[.int .u64 seed] w λe w'=>∃b,e = .returned (pq b 0)/\Ab W w' (ixr (Rec.int .i64) b seed []::L):=by
 refine(cw ⟨mixed,Tryz.func172,rfl⟩ Apb (Q:=λv w'=>∃b,v=pq b 0/\Ab W w' (ixr (Rec.int .i64) b seed []::L)) ?_).mono λe w' ⟨v,he,b,hv,hs⟩=>⟨b,by rw[he,hv],hs⟩;refine E2 (sz:=3) hs rfl (by omega) (by omega) (by omega) (by omega) λs2 w hn2 _ _ hs=>?_;have hs:Ab W w (recs (CS (Rec.int .i64)) s2 (List.replicate 8 ⟨0,Af,0⟩)::L):=hs
 repeat (first|((with_reducible refine Bf ?_);first|refine Ah hs λb_ w hs=>?_|fail)|fail)
 refine⟨_,rfl,Bz s2 (ps:=List.replicate 8 ⟨0,Af,0⟩) (n:=0) (u:=0) (C2.new (n:=8) rfl (by omega) (by omega) (Ds (by simp))) (by decide +revert) rfl rfl (by exact Ab.fin hs)⟩
theorem Qi(h:Ab W w L)[hA:At L b (ixr (Rec.int .i64) b seed m) F](hz:k.size<4611686018427387904):Calls PR 192 #[pq b 0,.s k] w λe w'=>e = .returned (.tuple #[.i ((AC m k).getD 0),.b (AC m k).isSome])/\Ab W w' (F (ixr (Rec.int .i64) b seed m)):=by
 refine At.call1 (hA:=hA) h λM hs=>?_;clear h hA;refine c1 (cw ⟨mixed,Tryz.func192,rfl⟩ Apf ?_);refine Ak rfl ?_;obtain⟨s,ps,hi,h2,hn,hs⟩:=Db hs;have hsm:=hi.small;have hbg:=hi.big;refine AH (Hn (st:=A4 seed ps.length) rfl hz (by omega) (hi.stop _) hs) λe w ⟨he,hs⟩=>⟨_,_,he,?_⟩;refine Al (λhb=>?_) (λhb=>?_)
 ·obtain⟨hj,_,hg⟩:=hi.hit hb;rw[hg]
  repeat (first|with_reducible refine Aa ?_|((with_reducible refine Ax ?_);first|refine Ag hs ?_|refine BG hs ?_|fail)|((with_reducible refine AM ?_);first|refine AK hs λb_ o_ hs=>?_|fail)|fail)
  simp only[Int.toNat_natCast];exact⟨rfl,Bz s hi h2 rfl rfl (by exact Ab.fin hs)⟩
 ·rw[(hi.miss hb).2.2.1];exact⟨rfl,Bz s hi h2 rfl rfl hs⟩
theorem WR(h:Ab W w L)[hA:At L b (ixr (Rec.int .i64) b seed m) F]{v:Int}(hz:k.size<4611686018427387904)(hkz:∀e∈m,e.1.size<4611686018427387904)(hm:m.length<900000000):Calls PR 161 #[pq b 0,.s k,.i v] w λe w'=>e = .returned (.b (AC m k).isNone)/\Ab W w' (F (ixr (Rec.int .i64) b seed (CE m k v))):=by
 refine At.call1 (hA:=hA) h λM hs=>?_;clear h hA;refine c1 (cw ⟨mixed,Tryz.func161,rfl⟩ Ao1 ?_);refine Ac rfl ?_;obtain⟨s,ps,hi,h2,hn,hs⟩:=Db hs;have hsm:=hi.small;have hbg:=hi.big;refine AH (Hn (st:=A4 seed ps.length) rfl hz (by omega) (hi.stop _) hs) λe w ⟨he,hs⟩=>⟨_,_,he,?_⟩;refine Al (λhb=>?_) (λhb=>?_)
 ·obtain⟨hj,hit,hg⟩:=hi.hit hb;have hp:CE m k v=Fg m k v:=by unfold CE;rw[hg]
  rw[hg,hp]
  repeat (first|with_reducible refine Aa ?_|((with_reducible refine Ax ?_);first|refine Ag hs ?_|fail)|((with_reducible refine AS ?_);first|refine C1 hs λw hs=>?_|fail)|((with_reducible refine AM ?_);first|refine AK hs λb_ o_ hs=>?_|fail)|fail)
  simp only[Int.toNat_natCast] at hs;have hset:=hi.set (v:=v) hj hit;have hus:AD (ps.set (AQ (A4 seed ps.length) ps k).1 { ps.getD (AQ (A4 seed ps.length) ps k).1 default with v:=v })=AD ps:=by
   rw[BO hj _ (by show BU ps _≠0;rw[hit.1];decide),if_neg (by rw[hit.1];decide)];rfl
  refine⟨rfl,Bz s (n:=(m.length:Int)) (u:=(AD ps:Int)) (by rw[List.length_set];exact hset) (by rw[hus,List.length_set];exact h2) (by simp[Fg]) (by rw[hus]) (by exact Ab.fin hs)⟩
 ·obtain⟨hj,hj2,hg,hr⟩:=hi.miss hb;have hp:CE m k v=(k,v)::m:=by unfold CE;rw[hg]
  rw[hg,hp];refine Ar (NR (v:=v) hj (by omega) rfl (by omega) hs) λe w ⟨he,hs⟩=>⟨he,?_⟩;have hus:=BO hj (⟨2,k,v⟩:Pl Int) (by show(2:Int)≠0;decide)
  have hus2:AD (ps.set (AQ (A4 seed ps.length) ps k).1 ⟨2,k,v⟩)<=AD ps+1:=by rw[hus];split <;> omega
  have hadd:=hi.add (v:=v) hj hj2 hg hr (by omega);have hsl:(ps.set (AQ (A4 seed ps.length) ps k).1 ⟨2,k,v⟩).length=ps.length:=by simp
  generalize hps2:ps.set (AQ (A4 seed ps.length) ps k).1 ⟨2,k,v⟩=ps2 at hs hus2 hadd hsl
  repeat (first|with_reducible refine Aa ?_|((with_reducible refine Ax ?_);first|refine Ag hs ?_|fail)|((with_reducible refine AX ?_);first|refine Am ?_|fail)|((with_reducible refine AA ?_);first|refine A9 hs ?_|fail)|((with_reducible refine AZ ?_);first|refine As hs λw hs=>?_|fail)|fail)
  rw[i64_in _ (by omega),hn]
  with_reducible refine Bg (λh9=>?_) (λh9=>?_)
  ·have hkz2:∀e∈(k,v)::m,e.1.size<4611686018427387904:=by
    intro e he;rcases List.mem_cons.1 he with rfl|he
    ·exact hz
    ·exact hkz e he
   have hs2:Ab W w (blk b [.int .u64 seed,.l s.a s.n s.c,.i (((k,v)::m).length:Int),.i (AD ps2:Int)]::recs (CS (Rec.int .i64)) s ps2::M):=by
    simp only[List.length_cons,Int.natCast_add];exact hs
   refine Ar (WS hadd hkz2 (by simp;omega) hs2) λe w ⟨he,hs⟩=>⟨he,?_⟩;exact⟨rfl,hs⟩
  ·exact⟨rfl,Bz s (n:=(m.length:Int)+1) (by rw[hsl];exact hadd) (by omega) (by simp) rfl (by exact Ab.fin hs)⟩
theorem Rs(h:Ab W w L)[hA:At L b (ixr (Rec.int .i64) b seed m) F](hz:k.size<4611686018427387904)(hm:m.length<900000000):Calls PR 159 #[pq b 0,.s k] w λe w'=>e = .returned (.tuple #[.i ((AC m k).getD 0),.b (AC m k).isSome])/\Ab W w' (F (ixr (Rec.int .i64) b seed (Cr m k))):=by
 refine At.call1 (hA:=hA) h λM hs=>?_;clear h hA;refine c1 (cw ⟨mixed,Tryz.func159,rfl⟩ Aoz ?_);refine AH (Qi hs hz) λe w ⟨he,hs⟩=>⟨_,_,he,?_⟩;refine Cp (λv hg=>?_) (λhg=>?_)
 ·obtain⟨s,ps,hi,h2,hn,hs⟩:=Db hs;have hsm:=hi.small;have hbg:=hi.big;refine AH (Hn (st:=A4 seed ps.length) rfl hz (by omega) (hi.stop _) hs) λe w ⟨he,hs⟩=>⟨_,_,he,?_⟩;have hb:(AQ (A4 seed ps.length) ps k).2=true:=by
   cases hb:(AQ (A4 seed ps.length) ps k).2 with
   | true=>rfl
   | false=>have:=(hi.miss hb).2.2.1;rw[hg] at this;cases this
  obtain⟨hj,hit,_⟩:=hi.hit hb
  repeat (first|with_reducible refine Aa ?_|((with_reducible refine Ax ?_);first|refine Ag hs ?_|fail)|((with_reducible refine AS ?_);first|refine A0 hs λw hs=>?_|refine Bi hs λw hs=>?_|fail)|((with_reducible refine AM ?_);first|refine AK hs λb_ o_ hs=>?_|fail)|fail)
  rw[i64_in _ (by omega)] at hs;simp only[Int.toNat_natCast] at hs;have hdel:=hi.del (z:=(⟨1,Af,0⟩:Pl Int)) hj hit rfl;have hus:AD (ps.set (AQ (A4 seed ps.length) ps k).1 (⟨1,Af,0⟩:Pl Int))=AD ps:=by
   rw[BO hj _ (by show(1:Int)≠0;decide),if_neg (by rw[hit.1];decide)];rfl
  have hl:=Mb hi.nodup hg;refine⟨by trivial,Bz s (n:=(m.length:Int)-1) (u:=(AD ps:Int)) (by rw[List.length_set];exact hdel) (by rw[hus,List.length_set];exact h2) (by omega) (by rw[hus]) (by exact Ab.fin hs)⟩
 ·have:Cr m k=m:=by
   unfold Cr;rw[List.filter_eq_self];intro e he;simpa using BY.1 hg e he
  rw[this];exact⟨by trivial,by exact Ab.fin hs⟩
end
end Go.Proofs.YtjipofkjmmpjdaaGreat
namespace Go.Hb
open Go.Proofs.YtjipofkjmmpjdaaGreat
abbrev cS(b:Nat)(s:Sl)(xb:Nat)(c sm gh:Int)(cb:Nat):HP:=blk b [.l s.a s.n s.c,pq xb 0,.i c,.i sm,.i gh,pq cb 0]
abbrev CM:=List (BA×Int)
def CT(m:CM)(k:BA):Int:=(AC m k).getD 0
def SF(b:Nat)(c gh:Int)(i a o:BL)(m:CM):HP:=Ks λ(z:Sl×Nat×Int×Nat)=>AO [cS b z.1 z.2.1 c z.2.2.1 gh z.2.2.2,rowsC z.1 z.2.1 5000 [i,a,o],ixr (Rec.int .i64) z.2.2.2 0 m]
structure Jf(c:Int)(R i a o:BL)(m:CM):Prop where
 eq:R=i++a
 ok:DR c R
 gh:o.length<=1024
 cnt:∀k,0<=CT m k/\CT m k<=3
 sub:∀e∈m,e.1∈R
def Ji(b:Nat)(c:Int)(R:BL):HP:=Ks λ(z:(BL×BL×BL)×CM×Int)=>F6 (Jf c R z.1.1 z.1.2.1 z.1.2.2 z.2.1/\0<=z.2.2/\z.2.2<=1024) (SF b c z.2.2 z.1.1 z.1.2.1 z.1.2.2 z.2.1)
section
variable{W w:World}{M L:List HP}{b:Nat}{c gh v:Int}{R i a o:BL}{m:CM}{k x:BA}
theorem Dw(h:Ab W w (SF b c gh i a o m::M)):∃(s:Sl) (xb:Nat) (sm:Int) (cb:Nat),Ab W w (cS b s xb c sm gh cb::rowsC s xb 5000 [i,a,o]::ixr (Rec.int .i64) cb 0 m::M):=by
 obtain⟨⟨s,xb,sm,cb⟩,h⟩:=h.openE;exact⟨s,xb,sm,cb,h.openL⟩
theorem CL{s:Sl}{xb cb:Nat}{sm:Int}(h:Ab W w (cS b s xb c sm gh cb::rowsC s xb 5000 [i,a,o]::ixr (Rec.int .i64) cb 0 m::M)):Ab W w (SF b c gh i a o m::M):=
 Ab.shutE (s,xb,sm,cb) (Ab.shutL (Ps:=[_,_,_]) h)
theorem En(h:Ab W w (Ji b c R::M)):∃(i a o:BL) (m:CM) (gh:Int),Jf c R i a o m/\(0<=gh/\gh<=1024)/\Ab W w (SF b c gh i a o m::M):=by
 obtain⟨⟨⟨i,a,o⟩,m,gh⟩,h⟩:=h.openE;obtain⟨h1,h⟩:=h.openA;exact⟨i,a,o,m,gh,h1.1,h1.2,h⟩
theorem Dt(h1:Jf c R i a o m)(h2:0<=gh/\gh<=1024)(h:Ab W w (SF b c gh i a o m::M)):Ab W w (Ji b c R::M):=Ab.shutE ((i,a,o),m,gh) (Ab.shutA ⟨h1,h2⟩ h)
theorem Q9(h:Ab W w (Ji b c R::M)):DR c R:=by
 obtain⟨i,a,o,m,gh,h1,_⟩:=En h;exact h1.ok
theorem VI(h:Ab W w (Ji b c R::M)):w.cell? ⟨b,2,none⟩=some (.i c):=by
 obtain⟨i,a,o,m,gh,_,_,h⟩:=En h;obtain⟨s,xb,sm,cb,h⟩:=Dw h;exact h.cell (q:=0) rfl
theorem Sr(h:Ab W w (SF b c gh i a o m::M)):Nd3 i a o/\(m.map (·.1)).Nodup:=by
 obtain⟨s,xb,sm,cb,h⟩:=Dw h;exact⟨nd3 (M:=ixr (Rec.int .i64) cb 0 m::M) (h.drop),Akp (M:=M) (h.drop).drop⟩
theorem It:CT (CE m k v) x=if k=x then v else CT m x:=by
 unfold CT;rw[Vt];split <;> rfl
theorem V7:CT (Cr m k) x=if k=x then 0 else CT m x:=by
 unfold CT;rw[Vs];split <;> rfl
theorem Jf.two(h:Jf c R i a o m):i.length+a.length<=1024/\R.length=i.length+a.length:=by
 have h1:=h.ok.room;have h2:=h.ok.c2
 have h3:R.length=i.length+a.length:=by rw[h.eq];simp
 omega
theorem Jf.mlen(h:Jf c R i a o m)(hn:(m.map (·.1)).Nodup):m.length<=1024:=by
 have h1:=Fv hn (b:=R) λk hk=>by
  obtain⟨e,he,rfl⟩:=List.mem_map.1 hk;exact h.sub e he
 have h2:=h.two;rw[List.length_map] at h1;omega
theorem Jf.msm(h:Jf c R i a o m):∀e∈m,e.1.size<4611686018427387904:=λe he=>by
 have:=h.ok.small _ (h.sub e he);omega
theorem Mh{m:CM}{S:BL}(h:∀e∈m,e.1∈S)(hk:k∈S):∀e∈CE m k v,e.1∈S:=UV (P:=λk=>k∈S) h hk
theorem V9{m:CM}{S T:BL}(h:∀e∈m,e.1∈S)(hS:∀x∈S,x≠k->x∈T):∀e∈Cr m k,e.1∈T:=λe he=>by
 unfold Cr at he;rw[List.mem_filter,decide_eq_true_eq] at he;exact hS _ (h e he.1) he.2
end
end Go.Hb
namespace Go.Proofs.YtjipofkjmmpjdaaGreat
open Go.Hb Go.IntWalk
section
variable{W w:World}{L M:List HP}{b:Nat}{c gh n:Int}{R i a o:BL}{m:CM}{key:BA}
theorem Mp{j:Nat}(hj:j<2)(hz:key.size<64)(hl:i.length+a.length<=1024/\o.length<=1024)(hm:m.length<=2000/\∀e∈m,e.1.size<4611686018427387904)(hs:Ab W w (SF b c gh i a o m::M)) :
  BB PR 371 #[pq b 0,.i (j:Int),.s key,.i n] w λv w'=>v = .tuple #[]/\∀i' a' o',DJ [i,a,o] j key=[i',a',o']->Ab W w' (SF b c gh i' a' o' (CE m key n)::M):=by
 refine cw ⟨mixed,Tryz.func371,rfl⟩ Ar5 ?_;obtain⟨s,xb,sm,cb,hs⟩:=Dw hs;refine Aa (Ag (x:=s) hs (Ag hs ?_));refine Ar (FQ Ce (K:=[i,a,o]) hs (show j<3 by omega) hz (by omega) (show 3<=4 by decide) (by
  match j,hj with
  | 0,_=>show i.length<5000;omega
  | 1,_=>show a.length<5000;omega)) λe w ⟨he,hs⟩=>⟨he,?_⟩
 refine Aa (Ag hs ?_);refine An (WR hs (v:=n) (by omega) hm.2 (by omega)) λe w ⟨he,hs⟩=>⟨_,he,?_⟩;refine⟨rfl,λi' a' o' e=>?_⟩;rw[e] at hs;exact CL hs
theorem Xs(hz:key.size<64)(hm:m.length<=2000)(hs:Ab W w (SF b c gh i a o m::M)) :
  BB PR 376 #[pq b 0,.s key] w λv w'=>v = .tuple #[]/\Ab W w' (SF b c gh (Aq i key) (Aq a key) (Aq o key) (Cr m key)::M):=by
 refine cw ⟨mixed,Tryz.func376,rfl⟩ Asa ?_;obtain⟨s,xb,sm,cb,hs⟩:=Dw hs;refine Aa (Ag (x:=s) hs (Ag hs ?_));refine Ar (C0 Ce (K:=[i,a,o]) hs hz (by omega) (show 3<=4 by decide)) λe w ⟨he,hs⟩=>⟨he,?_⟩;refine Aa (Ag hs ?_);refine AH (Rs hs (by omega) (by omega)) λe w ⟨he,hs⟩=>⟨_,_,he,?_⟩;exact⟨rfl,CL hs⟩
theorem A73(hs:Ab W w L){r:Int}:BB PR 155 #[.i r] w λv w'=>∃b,v=pq b 0/\Ab W w' (Ji b (Bv r) []::L):=by
 refine cw ⟨mixed,Tryz.func155,rfl⟩ Aow ?_;refine Az (by decide) ?_;refine(Mo Ce (nr:=3) (by decide) hs).mono λe w ⟨s,xb,he,hs⟩=>⟨s,_,he,?_⟩;have hs:=JZ (N':=5000) hs (by omega);refine An (Aib hs) λe w ⟨cb,he,hs⟩=>⟨_,he,?_⟩;refine Ah hs λb w hs=>⟨b,rfl,?_⟩;have hr:=EK r;rw[Mk] at hs;have e3:List.replicate 3 ([]:BL)=[[],[],[]]:=rfl;rw[e3] at hs;have hok:Jf (Bv r) [] [] [] [] []:=⟨rfl,DR.nil hr.1 hr.2,by simp,λk=>by simp[CT,AC],by simp⟩;have h5:1<=(if IntKind.wrap .i64 (Int.tdiv (Bv r) 10)>1 then IntKind.wrap .i64 (Int.tdiv (Bv r) 10) else 1)/\(if IntKind.wrap .i64 (Int.tdiv (Bv r) 10)>1 then IntKind.wrap .i64 (Int.tdiv (Bv r) 10) else 1)<=1024:=by
  rw[Int.tdiv_eq_ediv_of_nonneg (by omega),i64_in _ (by omega)];split <;> omega
 refine Dt hok ?_ (CL (cb:=cb) (by exact Ab.fin hs));generalize (if IntKind.wrap .i64 (Int.tdiv (Bv r) 10)>1 then IntKind.wrap .i64 (Int.tdiv (Bv r) 10) else 1)=q at h5;rw[i64_in _ (by omega)];split <;> omega
theorem A23(hs:Ab W w (Ji b c R::M)):BB PR 368 #[pq b 0] w λv w'=>v = .i c/\Ab W w' (Ji b c R::M):=by
 refine cw ⟨mixed,Tryz.func368,rfl⟩ Ar4 ?_;obtain⟨i,a,o,m,gh,h1,h2,hs⟩:=En hs;obtain⟨s,xb,sm,cb,hs⟩:=Dw hs;refine Ac rfl (Aa (Ag hs ?_));exact⟨rfl,Dt h1 h2 (CL hs)⟩
theorem Sq(hs:Ab W w (Ji b c R::M)):BB PR 365 #[pq b 0] w λv w'=>v = .i (R.length:Int)/\Ab W w' (Ji b c R::M):=by
 refine cw ⟨mixed,Tryz.func365,rfl⟩ Ar1 ?_;obtain⟨i,a,o,m,gh,h1,h2,hs⟩:=En hs;obtain⟨s,xb,sm,cb,hs⟩:=Dw hs;refine Ac rfl (Aa (Ag (x:=s) hs (Ag hs ?_)));refine Ah hs λnb w hs=>?_;refine AV Ce (nr:=3) (K:=[i,a,o]) [0,1] (M:=cS b s xb c sm gh cb::ixr (Rec.int .i64) cb 0 m::M) (by exact Ab.fin hs) (by omega) rfl λw hs=>?_;refine⟨?_,Dt h1 h2 (CL (by exact Ab.fin hs))⟩;rw[h1.two.2];simp[Ca]
theorem Xq(hz:key.size<64)(hs:Ab W w (Ji b c R::M)):BB PR 363 #[pq b 0,.s key] w λv w'=>v = .b (decide (key∈R))/\Ab W w' (Ji b c R::M):=by
 refine cw ⟨mixed,Tryz.func363,rfl⟩ Arz ?_;obtain⟨i,a,o,m,gh,h1,h2,hs⟩:=En hs;obtain⟨s,xb,sm,cb,hs⟩:=Dw hs;refine Ac rfl (Aa (Ag (x:=s) hs (Ag hs ?_)));refine An (Eu Ce (K:=[i,a,o]) hs hz) λe w ⟨he,hs⟩=>⟨_,he,?_⟩;have e:∀t:Bool,(t=true↔key∈i\/key∈a)->Value.bool t = .b (decide (key∈R)):=λt ht=>by
  congr 1;rw[Bool.eq_iff_iff,ht,h1.eq,decide_eq_true_eq,List.mem_append]
 rcases SC i a o key with⟨h,h4⟩|⟨h,h4,h5⟩|⟨h,h4,h5,h6⟩|⟨h,h4,h5,h6⟩ <;> rw[h]
 ·exact Ak rfl ⟨e _ (by simp[h4]),Dt h1 h2 (CL hs)⟩
 ·exact Ac rfl ⟨e _ (by simp[h5]),Dt h1 h2 (CL hs)⟩
 ·exact Ac rfl ⟨e _ (by simp[h4,h5]),Dt h1 h2 (CL hs)⟩
 ·exact Ac rfl ⟨e _ (by simp[h4,h5]),Dt h1 h2 (CL hs)⟩
theorem A21(hs:Ab W w (Ji b c R::M)):BB PR 364 #[pq b 0] w λv w'=>∃(l:Sl) (ks:BL),v = .l l.a l.n l.c/\ks.Perm R/\Ab W w' (Ji b c R::recs Rec.str l ks::M):=by
 refine cw ⟨mixed,Tryz.func364,rfl⟩ Ar0 ?_;obtain⟨i,a,o,m,gh,h1,h2,hs⟩:=En hs;obtain⟨s,xb,sm,cb,hs⟩:=Dw hs;refine Ac rfl (Aa (Ag (x:=s) hs (Ag hs ?_)));refine Ah hs λnb w hs=>?_;refine Qj Ce (nr:=3) (K:=[i,a,o]) [0,1] (M:=cS b s xb c sm gh cb::ixr (Rec.int .i64) cb 0 m::M) (by exact Ab.fin hs) (by omega) rfl λl w hs=>?_;refine⟨l,_,rfl,?_,Dt h1 h2 (CL (by exact Ab.fin hs))⟩;rw[h1.eq];simp[FD]
theorem Abr(hl:i.length+a.length<=1024/\o.length<=1024)(h0:0<a.length)(hc:∀k,0<=CT m k/\CT m k<=3)(hsub:∀e∈m,e.1∈i++a)(hs:Ab W w (SF b c gh i a o m::M)) :
  BB PR 374 #[pq b 0] w λv w'=>∃(x:BA) (a':BL) (m':CM),v = .s x/\a.Perm (x::a')/\(∀k,0<=CT m' k/\CT m' k<=3)/\(∀e∈m',e.1∈i++a')/\Ab W w' (SF b c gh i a' o m'::M):=by
 refine cw ⟨mixed,Tryz.func374,rfl⟩ Ar9 ?_;have loop:∀(f:Nat)(y:BL)(m:CM)(w:World),a.Perm y->((y.map λk=>(CT m k).toNat).sum=f)->(∀k,0<=CT m k/\CT m k<=3)->(∀e∈m,e.1∈i++y)->Ab W w (SF b c gh i y o m::M) ->
   Qe By (λv w'=>∃(x:BA) (a':BL) (m':CM),v = .s x/\a.Perm (x::a')/\(∀k,0<=CT m' k/\CT m' k<=3)/\(∀e∈m',e.1∈i++a')/\Ab W w' (SF b c gh i a' o m'::M)) (f+1) (some ⟨b,0,none⟩) w:=by
  clear hs hc hsub;intro f
  induction f using Nat.strongRecOn with
  | ind f ih=>
   intro y m w hp hf hc hsub hs;rw[Z5];have hyl:=hp.length_eq;have hy0:0<y.length:=by omega
   obtain⟨hnd,hmn⟩:=Sr hs;have hm:=Dk hy0;have hz:=hnd.small _ (.inr (.inl hm));have hml:m.length<=1024:=by
    have h1:=Fv hmn (b:=i++y) λk hk=>by
     obtain⟨e,he,rfl⟩:=List.mem_map.1 hk;exact hsub e he
    rw[List.length_map,List.length_append] at h1;omega
   have hms:∀e∈m,e.1.size<4611686018427387904:=λe he=>by
    have:=hnd.small e.1 ((List.mem_append.1 (hsub e he)).elim .inl λh=>.inr (.inl h));omega
   obtain⟨s,xb,sm,cb,hs⟩:=Dw hs;refine Aa (Ag (x:=s) hs (Ag hs ?_));refine An (BW Ce (K:=[i,y,o]) (j:=1) hs (lt3 (by decide)) (show 3<=4 by decide)) λe w ⟨he,hs⟩=>⟨_,he,?_⟩;refine Aa (Ag hs ?_);refine AH (Qi hs (k:=C3 y) (by omega)) λe w ⟨he,hs⟩=>⟨_,_,he,?_⟩;have hs:=CL hs;have ec:((AC m (C3 y)).getD 0)=CT m (C3 y):=rfl;rw[ec];have hdec:y=C3 y::y.drop 1:=by
    cases y with
    | nil=>simp at hy0
    | cons x t=>rfl
   with_reducible refine A2 (λh1=>?_) (λh1=>?_)
   ·refine B0 (Xs (key:=C3 y) hz (by omega) hs) λv w ⟨hv,hs⟩=>⟨hv,?_⟩;rw[Av λh=>(hnd.io _ h).1 hm,Co hnd.no hy0,Av (hnd.oa _ hm)] at hs;refine⟨C3 y,y.drop 1,_,rfl,hdec ▸ hp,λk=>?_,V9 hsub λx hx hne=>?_,hs⟩
    ·rw[V7];split
     ·omega
     ·exact hc k
    ·rcases List.mem_append.1 hx with h|h
     ·exact List.mem_append_left _ h
     ·rw[hdec] at h;exact List.mem_append_right _ ((List.mem_cons.1 h).resolve_left hne)
   ·have hc1:=hc (C3 y);rw[i64_in _ (by omega)];refine B0 (Mp (j:=1) (key:=C3 y) (by decide) hz ⟨by omega,hl.2⟩ ⟨by omega,hms⟩ hs) λv w ⟨hv,hs⟩=>⟨hv,?_⟩;have e1:DJ [i,y,o] 1 (C3 y)=[i,y.drop 1++[C3 y],o]:=by
     show[Aq i _,Aq y _++[_],Aq o _]=_;rw[Av λh=>(hnd.io _ h).1 hm,Co hnd.no hy0,Av (hnd.oa _ hm)]
    have hs:=hs _ _ _ e1;have hpy:y.Perm (y.drop 1++[C3 y]):=by
     rw[hdec];exact(List.perm_append_singleton _ _).symm
    have hsum:((y.drop 1++[C3 y]).map λk=>(CT (CE m (C3 y) (CT m (C3 y)-1)) k).toNat).sum+1=f:=by
     have hnn:C3 y∉y.drop 1:=by
      have:=hnd.no;rw[hdec] at this;exact(List.nodup_cons.1 this).1
     have e2:((y.drop 1).map λk=>(CT (CE m (C3 y) (CT m (C3 y)-1)) k).toNat)=(y.drop 1).map λk=>(CT m k).toNat:=
      List.map_congr_left λk hk=>by rw[It,if_neg λe=>hnn (by rw[e];exact hk)]
     have e3:(y.map λk=>(CT m k).toNat).sum=(CT m (C3 y)).toNat + ((y.drop 1).map λk=>(CT m k).toNat).sum:=by
      conv=>lhs;rw[hdec]
      rfl
     rw[List.map_append,List.sum_append,e2,List.map_cons,List.map_nil,List.sum_cons,List.sum_nil,It,if_pos rfl];omega
    obtain⟨g,hg⟩:∃g,f=g+1:=⟨f-1,by omega⟩;subst hg;refine ih g (by omega) _ _ w (hp.trans hpy) (by omega) (λk=>?_) (Mh (λe he=>?_) (by simp)) hs
    ·rw[It];split
     ·omega
     ·exact hc k
    ·rcases List.mem_append.1 (hsub e he) with h|h
     ·exact List.mem_append_left _ h
     ·exact List.mem_append_right _ (hpy.mem_iff.1 h)
 exact AR _ (loop _ a m w (List.Perm.refl _) rfl hc hsub hs)
abbrev SmQ(b:Nat)(c gh:Int)(R:BL)(W:World)(M:List HP):VW:=λv w'=>∃(x:BA) (t:Bool) (i a o:BL) (m:CM),v = .tuple #[.s x,.b t]/\(t=true->R.Perm (x::(i++a)))/\(t=false->R.Perm (i++a)/\i=[])/\o.length<=1024/\(∀k,0<=CT m k/\CT m k<=3)/\(∀e∈m,e.1∈i++a)/\Ab W w' (SF b c gh i a o m::M)
theorem Aly{m1:Nat}{x:BA}(hg:0<=gh/\gh<=1024){Q:VW}(hQ:∀(o:BL)(w':World),o.length<=1024->Ab W w' (SF b c gh i a o m::M)->Q (.tuple #[.s x,.b true]) w') :
  ∀(f:Nat)(o:BL)(w:World),o.length=f->Ab W w (SF b c gh i a o m::M)->Qd By Q m1 (f+1) (some ⟨b,0,none⟩) x w:=by
 intro f
 induction f with
 | zero=>
  intro o w ho hs;rw[NO];obtain⟨s,xb,sm,cb,hs⟩:=Dw hs;refine Ao [cS b s xb c sm gh cb] hs λw hs=>?_;refine Aa (Am (x:=s) (Am (Aa (Am ?_))));refine Ah hs λnb w hs=>Ae hs ?_;refine AV Ce (nr:=3) (K:=[i,a,o]) [2] (M:=cS b s xb c sm gh cb::ixr (Rec.int .i64) cb 0 m::M) (by exact Ab.fin hs) (by omega) rfl λw hs=>?_;refine Ae hs ?_;have e2:(Ca [i,a,o] [2]:Int)=0:=by simp[Ca,ho]
  rw[e2];refine Ac (decide_eq_false (by omega)) ?_;refine jw NM ?_;exact hQ o w (by omega) (CL (by exact Ab.fin hs))
 | succ f ih=>
  intro o w ho hs;rw[NO];have hnd:=(Sr hs).1;obtain⟨s,xb,sm,cb,hs⟩:=Dw hs;refine Ao [cS b s xb c sm gh cb] hs λw hs=>?_;refine Aa (Am (x:=s) (Am (Aa (Am ?_))));refine Ah hs λnb w hs=>Ae hs ?_;refine AV Ce (nr:=3) (K:=[i,a,o]) [2] (M:=cS b s xb c sm gh cb::ixr (Rec.int .i64) cb 0 m::M) (by exact Ab.fin hs) (by omega) rfl λw hs=>?_;refine Ae hs ?_;have e2:(Ca [i,a,o] [2]:Int)=o.length:=by simp[Ca]
  rw[e2];have hs:Ab W w (cS b s xb c sm gh cb::rowsC s xb 5000 [i,a,o]::ixr (Rec.int .i64) cb 0 m::M):=by exact Ab.fin hs
  with_reducible refine A2 (λh9=>?_) (λh9=>?_)
  ·refine Ao [cS b s xb c sm gh cb] hs λw hs=>?_;refine Aa (Am (x:=s) (Am (Aa (Ag (x:=s) hs (Ag hs (Ae hs ?_))))));refine An (BW Ce (K:=[i,a,o]) (j:=2) hs (lt3 (by decide)) (show 3<=4 by decide)) λe w ⟨he,hs⟩=>⟨_,he,Ae hs ?_⟩;have h0:0<o.length:=by omega
   have hm:=Dk h0;refine Ar (C0 Ce (K:=[i,a,o]) (key:=C3 o) hs (hnd.small _ (.inr (.inr hm))) (by omega) (show 3<=4 by decide)) λe w ⟨he,hs⟩=>⟨he,?_⟩;have e1:DY [i,a,o] (C3 o)=[i,a,o.drop 1]:=by
    show[Aq _ _,Aq a _,Aq o _]=_;rw[Av λh=>(hnd.io _ h).2 hm,Av λh=>hnd.oa _ h hm,Co hnd.na h0]
   rw[e1] at hs;exact ih (o.drop 1) w (by rw[List.length_drop];omega) (CL hs)
  ·refine jw NM ?_;exact hQ o w (by omega) (CL hs)
theorem Xr(hg:0<=gh/\gh<=1024)(hr:Jf c R i a o m)(hs:Ab W w (SF b c gh i a o m::M)):BB PR 373 #[pq b 0] w (SmQ b c gh R W M):=by
 refine cw ⟨mixed,Tryz.func373,rfl⟩ Ar8 ?_;have h2:=hr.two;have loop:∀(f:Nat)(i a:BL)(m:CM)(w:World),i.length=f->R.Perm (i++a)->(∀k,0<=CT m k/\CT m k<=3)->(∀e∈m,e.1∈i++a)->Ab W w (SF b c gh i a o m::M) ->
   Qc By (SmQ b c gh R W M) (f+1) (some ⟨b,0,none⟩) w:=by
  have hgo:=hr.gh;clear hs hr;intro f
  induction f with
  | zero=>
   intro i a m w hf hp hc hsub hs;rw[NN];obtain⟨s,xb,sm,cb,hs⟩:=Dw hs;refine Aa (Ag (x:=s) hs (Ag hs ?_));refine Ah hs λnb w hs=>?_;refine AV Ce (nr:=3) (K:=[i,a,o]) [0] (M:=cS b s xb c sm gh cb::ixr (Rec.int .i64) cb 0 m::M) (by exact Ab.fin hs) (by omega) rfl λw hs=>?_;have e2:(Ca [i,a,o] [0]:Int)=0:=by simp[Ca,hf]
   rw[e2];refine Ac rfl ?_;refine jw Z4 ?_;exact⟨_,false,i,a,o,m,rfl,(λh=>by cases h),λ_=>⟨hp,List.length_eq_zero_iff.1 hf⟩,hgo,hc,hsub,CL (by exact Ab.fin hs)⟩
  | succ f ih=>
   intro i a m w hf hp hc hsub hs;rw[NN];have hpl:=hp.length_eq;rw[List.length_append] at hpl;obtain⟨hnd,hmn⟩:=Sr hs;have h0:0<i.length:=by omega
   have hm:=Dk h0;have hz:=hnd.small _ (.inl hm);have hml:m.length<=1024:=by
    have h1:=Fv hmn (b:=i++a) λk hk=>by
     obtain⟨e,he,rfl⟩:=List.mem_map.1 hk;exact hsub e he
    rw[List.length_map,List.length_append] at h1;omega
   have hms:∀e∈m,e.1.size<4611686018427387904:=λe he=>by
    have:=hnd.small e.1 ((List.mem_append.1 (hsub e he)).elim .inl λh=>.inr (.inl h));omega
   have hdec:i=C3 i::i.drop 1:=by
    cases i with
    | nil=>simp at h0
    | cons x t=>rfl
   obtain⟨s,xb,sm,cb,hs⟩:=Dw hs;refine Aa (Ag (x:=s) hs (Ag hs ?_));refine Ah hs λnb w hs=>?_;refine AV Ce (nr:=3) (K:=[i,a,o]) [0] (M:=cS b s xb c sm gh cb::ixr (Rec.int .i64) cb 0 m::M) (by exact Ab.fin hs) (by omega) rfl λw hs=>?_;have e2:(Ca [i,a,o] [0]:Int)=i.length:=by simp[Ca]
   rw[e2];refine Ak (decide_eq_true (by omega)) ?_;have hs:Ab W w (cS b s xb c sm gh cb::rowsC s xb 5000 [i,a,o]::ixr (Rec.int .i64) cb 0 m::M):=by exact Ab.fin hs
   refine Aa (Ag (x:=s) hs (Ag hs ?_));refine An (BW Ce (K:=[i,a,o]) (j:=0) hs (lt3 (by decide)) (show 3<=4 by decide)) λe w ⟨he,hs⟩=>⟨_,he,?_⟩;refine Aa (Ag hs ?_);refine AH (Qi hs (k:=C3 i) (by omega)) λe w ⟨he,hs⟩=>⟨_,_,he,?_⟩;have hs:=CL hs
   with_reducible refine A2 (λh1=>?_) (λh1=>?_)
   ·refine B0 (Mp (j:=1) (n:=0) (key:=C3 i) (by decide) hz ⟨by omega,hgo⟩ ⟨by omega,hms⟩ hs) λv w ⟨hv,hs⟩=>⟨hv,?_⟩;have e1:DJ [i,a,o] 1 (C3 i)=[i.drop 1,a++[C3 i],o]:=by
     show[Aq i _,Aq a _++[_],Aq o _]=_;rw[Av (hnd.io _ hm).1,Co hnd.ni h0,Av (hnd.io _ hm).2]
    have hs:=hs _ _ _ e1;have hpi:(i++a).Perm (i.drop 1++(a++[C3 i])):=by
     conv=>lhs;rw[hdec]
     exact EV.symm
    refine ih _ _ _ w (by rw[List.length_drop];omega) (hp.trans hpi) (λk=>?_) (Mh (λe he=>hpi.mem_iff.1 (hsub e he)) (by simp)) hs;rw[It];split
    ·omega
    ·exact hc k
   ·refine B0 (Xs (key:=C3 i) hz (by omega) hs) λv w ⟨hv,hs⟩=>⟨hv,?_⟩;rw[Co hnd.ni h0,Av (hnd.io _ hm).1,Av (hnd.io _ hm).2] at hs;obtain⟨s,xb,sm,cb,hs⟩:=Dw hs;refine Aa (Ag (x:=s) hs (Ag hs ?_));refine Ar (IG Ce (K:=[i.drop 1,a,o]) (j:=2) (key:=C3 i) hs (by decide) hz (show o.length<5000 by omega) rfl) λe w ⟨he,hs⟩=>⟨he,?_⟩;have hni:C3 i∉i.drop 1:=by
     have:=hnd.ni;rw[hdec] at this;exact(List.nodup_cons.1 this).1
    have e1:DJ [i.drop 1,a,o] 2 (C3 i)=[i.drop 1,a,o++[C3 i]]:=by
     show[Aq _ _,Aq a _,Aq o _++[_]]=_;rw[Av hni,Av (hnd.io _ hm).1,Av (hnd.io _ hm).2]
    rw[e1] at hs;have hs:=CL hs;refine AR _ (Aly hg (λo w ho hs=>?_) _ _ w rfl hs);refine⟨C3 i,true,_,_,o,_,rfl,λ_=>?_,(λh=>by cases h),ho,λk=>?_,V9 hsub λx hx hne=>?_,hs⟩
    ·refine hp.trans ?_
     conv=>lhs;rw[hdec]
     exact List.Perm.refl _
    ·rw[V7];split
     ·omega
     ·exact hc k
    ·rw[hdec] at hx;exact(List.mem_cons.1 hx).resolve_left hne
 exact AR _ (loop _ i a m w rfl (by rw[hr.eq]) hr.cnt (by rw[<- hr.eq];exact hr.sub) hs)
theorem Abp(hs:Ab W w (Ji b c R::M)):BB PR 361 #[pq b 0] w λv w'=>∃x yes S,v = .tuple #[.s x,.b yes]/\Hc c R x yes S/\Ab W w' (Ji b c S::M):=by
 refine cw ⟨mixed,Tryz.func361,rfl⟩ Ary ?_;refine Ai (Sq hs) λv w ⟨hv,hs⟩=>⟨_,hv,?_⟩;have hk:=Q9 hs
 with_reducible refine A2 (λh0=>?_) (λh0=>?_)
 ·exact⟨_,_,_,rfl,Hc.none hk (by omega),hs⟩
 obtain⟨i,a,o,m,gh,h1,h2,hs⟩:=En hs;have h3:=h1.two;have main:∀(i a o:BL)(m:CM)(w:World),0<a.length->R.Perm (i++a)->o.length<=1024->(∀k,0<=CT m k/\CT m k<=3)->(∀e∈m,e.1∈i++a)->Ab W w (SF b c gh i a o m::M) ->
   call1 .str PR 374 [pq b 0] (λ(x:BA) w'=>∃y yes S,(Value.tuple #[.s x,.b true]) = .tuple #[.s y,.b yes]/\Hc c R y yes S/\Ab W w' (Ji b c S::M)) w:=by
  clear hs;intro i a o m w ha hp ho hc hsub hs;have hpl:=hp.length_eq;rw[List.length_append] at hpl;refine Ai (Abr ⟨by omega,ho⟩ ha hc hsub hs) λv w ⟨x,a',m',hv,hp2,hc2,hsub2,hs⟩=>⟨_,hv,?_⟩;have hev:Hc c R x true (i++a'):=Hc.of_perm hk (hp.trans ((List.Perm.append_left i hp2).trans List.perm_middle));exact⟨x,true,_,rfl,hev,Dt ⟨rfl,hev.ok,ho,hc2,hsub2⟩ h2 hs⟩
 have j1:∀(w:World)(t:Bool),(t=false->0<a.length)->Ab W w (SF b c gh i a o m::M) ->
   Wx By (λv w'=>∃x yes S,v = .tuple #[.s x,.b yes]/\Hc c R x yes S/\Ab W w' (Ji b c S::M)) (some ⟨b,0,none⟩) t w:=by
  clear hs;intro w t hf hs;refine jw Z0 ?_;cases t with
  | true=>
   refine Ak rfl ?_;refine AP (Xr h2 h1 hs) λv w ⟨x,t,i',a',o',m',hv,ht,hf,ho,hc,hsub,hs⟩=>⟨_,_,hv,?_⟩;cases t with
   | true=>
    have hev:=Hc.of_perm hk (ht rfl);exact Ak rfl ⟨x,true,_,rfl,hev,Dt ⟨rfl,hev.ok,ho,hc,hsub⟩ h2 hs⟩
   | false=>
    obtain⟨hp,rfl⟩:=hf rfl;have hpl:=hp.length_eq;rw[List.nil_append] at hpl;exact Ac rfl (main [] a' o' m' w (by omega) hp ho hc hsub hs)
  | false=>exact Ac rfl (main i a o m w (hf rfl) (by rw[h1.eq]) h1.gh h1.cnt (by rw[<- h1.eq];exact h1.sub) hs)
 obtain⟨s,xb,sm,cb,hs⟩:=Dw hs;refine Ao [cS b s xb c sm gh cb] hs λw hs=>?_;refine Aa (Am (x:=s) (Am (Aa (Am ?_))));refine Ah hs λnb w hs=>Ae hs ?_;refine AV Ce (nr:=3) (K:=[i,a,o]) [0] (M:=cS b s xb c sm gh cb::ixr (Rec.int .i64) cb 0 m::M) (by exact Ab.fin hs) (by omega) rfl λw hs=>?_;refine Ae hs ?_;have hs:Ab W w (cS b s xb c sm gh cb::rowsC s xb 5000 [i,a,o]::ixr (Rec.int .i64) cb 0 m::M):=by exact Ab.fin hs
 refine Al (λ_=>?_) (λ_=>?_)
 ·exact Ae hs (j1 w true (λh=>by cases h) (CL hs))
 ·refine Aa (Am (x:=s) (Am ?_));refine Ah hs λnb w hs=>Ae hs ?_;refine AV Ce (nr:=3) (K:=[i,a,o]) [1] (M:=cS b s xb c sm gh cb::ixr (Rec.int .i64) cb 0 m::M) (by exact Ab.fin hs) (by omega) rfl λw hs=>?_;have e2:(Ca [i,a,o] [1]:Int)=a.length:=by simp[Ca]
  rw[e2];refine j1 w _ (λh=>?_) (CL (by exact Ab.fin hs));have:¬(a.length:Int)=0:=by simpa using h
  omega
theorem Abq{S:BL}{g:BL}{l:Sl}(hR:DR c R)(hno:key∉R)(hz:key.size<64)(hrec:Mz c R g S)(hs:Ab W w (Ji b c S::recs Rec.str l g::M)) :
  Ahz By (λv w'=>∃(hit:Bool) (l:Sl) (g S:BL),v = .tuple #[.b hit,.l l.a l.n l.c]/\Fj c R key hit g S/\Ab W w' (Ji b c S::recs Rec.str l g::M)) (some ⟨b,0,none⟩) key l w:=by
 refine jw Zz ?_;obtain⟨i,a,o,m,gh,h1,h2,hs⟩:=En hs;have h3:=h1.two;obtain⟨hnd,hmn⟩:=Sr hs;have hml:=h1.mlen hmn;have hnS:=hrec.not hno;have hni:key∉i:=λh=>hnS (by rw[h1.eq];exact List.mem_append_left _ h)
 have hna:key∉a:=λh=>hnS (by rw[h1.eq];exact List.mem_append_right _ h);obtain⟨s,xb,sm,cb,hs⟩:=Dw hs;refine Aa (Ag (x:=s) hs (Ag hs ?_));refine An (Eu Ce (K:=[i,a,o]) hs hz) λe w ⟨he,hs⟩=>⟨_,he,?_⟩;have hs:=CL hs;have fin:∀(j:Nat)(w:World)(i' a' o':BL),j<2->DJ [i,a,o] j key=[i',a',o']->(i'++a').Perm (key::S)->o'.length<=1024->Ab W w (SF b c gh i a o m::recs Rec.str l g::M) ->
   XI PR 371 [pq b 0,.i (j:Int),.s key,.i 0] (λw'=>∃(hit:Bool) (l2:Sl) (g2 S2:BL),(Value.tuple #[.b false,.l l.a l.n l.c]) = .tuple #[.b hit,.l l2.a l2.n l2.c]/\Fj c R key hit g2 S2/\Ab W w' (Ji b c S2::recs Rec.str l2 g2::M)) w:=by
  clear hs;intro j w i' a' o' hj e1 hp ho hs;refine B0 (Mp (n:=0) hj hz ⟨by omega,h1.gh⟩ ⟨by omega,h1.msm⟩ hs) λv w ⟨hv,hs⟩=>⟨hv,?_⟩;have hs:=hs _ _ _ e1;have ha:=Fj.miss hR hno hz hrec hp;refine⟨false,l,g,_,rfl,ha,Dt ⟨rfl,ha.ok,ho,λk=>?_,Mh (λe he=>hp.mem_iff.2 (.tail _ (h1.sub e he))) (hp.mem_iff.2 (.head _))⟩ h2 hs⟩;rw[It];split
  ·omega
  ·exact h1.cnt k
 have hgo:=BM o key;have hgh:=h1.gh;refine Al (λ_=>?_) (λ_=>?_)
 ·exact fin 1 w i (a++[key]) (Aq o key) (by decide) (by show[Aq i _,Aq a _++[_],_]=_;rw[Av hni,Av hna]) (by rw[h1.eq];exact EV) (by omega) hs
 ·exact fin 0 w (i++[key]) a (Aq o key) (by decide) (by show[Aq i _++[_],Aq a _,_]=_;rw[Av hni,Av hna]) (by rw[h1.eq];exact DQ) (by omega) hs
theorem Alw(hz:key.size<64)(hs:Ab W w (Ji b c R::M)):BB PR 360 #[pq b 0,.s key] w λv w'=>∃(hit:Bool) (l:Sl) (g S:BL),v = .tuple #[.b hit,.l l.a l.n l.c]/\Fj c R key hit g S/\Ab W w' (Ji b c S::recs Rec.str l g::M):=by
 refine cw ⟨mixed,Tryz.func360,rfl⟩ Arx ?_;have hk:=Q9 hs;have hc1:=hk.c1;have hr:=hk.room
 refine Ac rfl ?_;refine Ai (Xq hz hs) λv w ⟨hv,hs⟩=>⟨_,hv,?_⟩
 with_reducible refine A2 (λh0=>?_) (λh0=>?_)
 ·obtain⟨i,a,o,m,gh,h1,h2,hs⟩:=En hs;have hml:=h1.mlen (Sr hs).2;obtain⟨s,xb,sm,cb,hs⟩:=Dw hs;refine Aa (Ag hs ?_);refine AH (Qi hs (by omega)) λe w ⟨he,hs⟩=>⟨_,_,he,?_⟩;refine Ao [cS b s xb c sm gh cb] hs λw hs=>?_;refine Aa (Am ?_);have hc:=h1.cnt key;unfold CT at hc;refine An (Jt hs (b:=3) (by decide) (by omega)) λe w ⟨he,hs⟩=>⟨_,he,Ae hs ?_⟩;refine An (WR hs (by omega) h1.msm (by omega)) λe w ⟨he,hs⟩=>⟨_,he,?_⟩;have ha:=Fj.same hk h0 (List.Perm.refl R);have hi:0<=F7 ((AC m key).getD 0) 3/\F7 ((AC m key).getD 0) 3<=3:=by unfold F7;split <;> omega
  refine⟨true,⟨none,0,0⟩,[],R,rfl,ha,(Ab.nilR Rec.str (Dt ⟨h1.eq,h1.ok,h1.gh,λk=>?_,Mh h1.sub h0⟩ h2 (CL hs))).perm (List.Perm.swap _ _ _)⟩;rw[It];split
  ·exact hi
  ·exact h1.cnt k
 have last:∀(w:World)(l:Sl)(g S:BL),Mz c R g S->(S.length:Int)<c->Ab W w (Ji b c S::recs Rec.str l g::M) ->
   Qb By (λv w'=>∃(hit:Bool) (l:Sl) (g S:BL),v = .tuple #[.b hit,.l l.a l.n l.c]/\Fj c R key hit g S/\Ab W w' (Ji b c S::recs Rec.str l g::M)) 1 (some ⟨b,0,none⟩) key l w:=by
  clear hs;intro w l g S hrec hl hs;rw[NL];refine Ao [Ji b c S] hs λw hs=>?_;refine Aa (GM (k:=.int .i64) c (λw' h=>VI h) ?_);refine Ai (Sq hs) λv w ⟨hv,hs⟩=>⟨_,hv,Ae hs ?_⟩;refine Ac (decide_eq_false (by omega)) ?_;exact Abq hk h0 hz hrec hs
 refine AR 2 ?_;rw[NL];have hs:=Ab.nilR Rec.str hs;have hs:Ab W w (Ji b c R::recs Rec.str ⟨none,0,0⟩ []::M):=by exact Ab.fin hs
 refine Ao [Ji b c R] hs λw hs=>?_;refine Aa (GM (k:=.int .i64) c (λw' h=>VI h) ?_);refine Ai (Sq hs) λv w ⟨hv,hs⟩=>⟨_,hv,Ae hs ?_⟩
 with_reducible refine A2 (λh1=>?_) (λh1=>?_)
 ·refine AP (Abp hs) λv w ⟨x,yes,S,hv,hev,hs⟩=>⟨_,_,hv,?_⟩;have hy:yes=true:=by rw[hev.says];exact decide_eq_true (by omega)
  subst hy;have hpl:=(hev.perm hk).length_eq;rw[List.length_cons] at hpl;refine Ah hs λnb w hs=>?_;refine Cf (s:=⟨none,0,0⟩) (a:=x) hs rfl rfl rfl rfl (by decide) (by simp) λs2 w hs2 hs=>?_;exact last w s2 [x] S (.inr ⟨x,rfl,hev,by omega⟩) (by omega) (by exact Ab.fin hs)
 ·exact Abq (l:=⟨none,0,0⟩) hk h0 hz (.inl ⟨rfl,rfl,by omega⟩) hs
theorem A22(hz:key.size<64)(hs:Ab W w (Ji b c R::M)):BB PR 366 #[pq b 0,.s key] w λv w'=>∃(yes:Bool) (S:BL),v = .b yes/\DG c R key yes S/\Ab W w' (Ji b c S::M):=by
 refine cw ⟨mixed,Tryz.func366,rfl⟩ Ar2 ?_;have hk:=Q9 hs;have hr:=hk.room;refine Ao [Ji b c R] hs λw hs=>?_;refine Ac rfl ?_;refine Ai (Xq hz hs) λv w ⟨hv,hs⟩=>⟨_,hv,Ae hs ?_⟩
 with_reducible refine A2 (λh1=>?_) (λh1=>?_)
 ·exact Ae hs ⟨false,R,rfl,DG.no hk (λh=>h.1 h1),hs⟩
 refine Aa (GM (k:=.int .i64) c (λw' h=>VI h) ?_);refine Ai (Sq hs) λv w ⟨hv,hs⟩=>⟨_,hv,Ae hs ?_⟩
 with_reducible refine A2 (λh2=>?_) (λh2=>?_)
 ·exact⟨false,R,rfl,DG.no hk (λh=>by omega),hs⟩
 obtain⟨i,a,o,m,gh,h3,h4,hs⟩:=En hs;have h5:=h3.two;have hml:=h3.mlen (Sr hs).2;refine B0 (Mp (j:=1) (n:=0) (by decide) hz ⟨by omega,h3.gh⟩ ⟨by omega,h3.msm⟩ hs) λv w ⟨hv,hs⟩=>⟨hv,?_⟩;have e1:DJ [i,a,o] 1 key=[i,a++[key],Aq o key]:=by
  show[Aq i _,Aq a _++[_],Aq o _]=_;rw[Av (show key∉i from λh=>h1 (by rw[h3.eq];exact List.mem_append_left _ h)),Av (show key∉a from λh=>h1 (by rw[h3.eq];exact List.mem_append_right _ h))]
 have hs:=hs _ _ _ e1;have hp:(i++(a++[key])).Perm (key::R):=by rw[h3.eq];exact EV
 have hl:=DG.yes hk hz h1 (by omega) hp;have hgo:=BM o key;have hgh:=h3.gh;refine⟨true,_,rfl,hl,Dt ⟨rfl,hl.ok,by omega,λk=>?_,Mh (λe he=>hp.mem_iff.2 (.tail _ (h3.sub e he))) (hp.mem_iff.2 (.head _))⟩ h4 hs⟩;rw[It];split
 ·omega
 ·exact h3.cnt k
theorem Alx(hz:key.size<64)(hs:Ab W w (Ji b c R::M)):BB PR 367 #[pq b 0,.s key] w λv w'=>∃(yes:Bool) (S:BL),v = .b yes/\Gj c R key yes S/\Ab W w' (Ji b c S::M):=by
 refine cw ⟨mixed,Tryz.func367,rfl⟩ Ar3 ?_;have hk:=Q9 hs;refine Ai (Xq hz hs) λv w ⟨hv,hs⟩=>⟨_,hv,?_⟩
 by_cases h1:key∈R
 ·refine Ac (by rw[decide_eq_true h1];rfl) ?_;obtain⟨i,a,o,m,gh,h3,h4,hs⟩:=En hs;have hml:=h3.mlen (Sr hs).2;refine B0 (Xs hz (by omega) hs) λv w ⟨hv,hs⟩=>⟨hv,?_⟩;have hgo:=BM o key;have hgh:=h3.gh;have heq:=h3.eq;have hsub:=h3.sub;rw[heq] at hk h1 hsub;have hr:=Gj.cut2 hk h1;rw[<- heq] at hr;refine⟨true,_,rfl,hr,Dt ⟨rfl,hr.ok,by omega,λk=>?_,V9 hsub λx hx hne=>?_⟩ h4 hs⟩
  ·rw[V7];split
   ·omega
   ·exact h3.cnt k
  ·rw[hr.mem,heq];exact⟨hx,hne⟩
 ·refine Ak (by rw[decide_eq_false h1];rfl) ⟨false,R,rfl,Gj.no hk h1,hs⟩
end
end Go.Proofs.YtjipofkjmmpjdaaGreat
namespace Go.Hb
open Go.Proofs.YtjipofkjmmpjdaaGreat
def eg(t b:Nat)(c:Int)(R:BL):HP:=if t=223 then Lv b c R else if t=225 then Q7 b c R else if t=227 then Lh b c R else if t=229 then MW b c R else F6 (t=231) (Ji b c R)
section
variable{W w:World}{M L:List HP}{t b:Nat}{c:Int}{R:BL}{key:BA}
theorem Fl(h:Ab W w (eg t b c R::M)){C:Prop}(h0:t=223->Ab W w (Lv b c R::M)->C)(h1:t=225->Ab W w (Q7 b c R::M)->C)(h2:t=227->Ab W w (Lh b c R::M)->C)(h3:t=229->Ab W w (MW b c R::M)->C)(h4:t=231->Ab W w (Ji b c R::M)->C):C:=by
 unfold eg at h
 by_cases e0:t=223
 ·simp only[e0] at h;exact h0 e0 h
 rw[if_neg e0] at h
 by_cases e1:t=225
 ·simp only[e1] at h;exact h1 e1 h
 rw[if_neg e1] at h
 by_cases e2:t=227
 ·simp only[e2] at h;exact h2 e2 h
 rw[if_neg e2] at h
 by_cases e3:t=229
 ·simp only[e3] at h;exact h3 e3 h
 rw[if_neg e3] at h;obtain⟨e,h⟩:=h.openA;exact h4 e h
theorem Iw(h:Ab W w (Lv b c R::M)):Ab W w (eg 223 b c R::M):=h
theorem Ix(h:Ab W w (Q7 b c R::M)):Ab W w (eg 225 b c R::M):=h
theorem Iy(h:Ab W w (Lh b c R::M)):Ab W w (eg 227 b c R::M):=h
theorem Iz(h:Ab W w (MW b c R::M)):Ab W w (eg 229 b c R::M):=h
theorem I0(h:Ab W w (Ji b c R::M)):Ab W w (eg 231 b c R::M):=Ab.shutA (c:=(231:Nat)=231) rfl h
theorem Anc(h:Ab W w (eg t b c R::M)):DR c R:=Fl h (λ_ h=>VC h) (λ_ h=>A42 h) (λ_ h=>Q6 h) (λ_ h=>VJ h) (λ_ h=>Q9 h)
end
end Go.Hb
namespace Go.Proofs.YtjipofkjmmpjdaaGreat
open Go.Hb Go.IntWalk
theorem BQ{t:TypeId}{v rc:Value}{name:String}{f:FuncId}{fn:Func}{C:FuncId->VW}{w:World}(ho:Ki PR f fn)(hm:(method (PR.types.size+Made.depth) t v name).run PR w = .ok (f,rc) w)(hb:fn.body.isSome=true)(hg:MN fn.name=true)(hC:C f rc w):F8 PR t v name C w:=⟨f,rc,fn,hm,ho.func,hb,hg,hC⟩
section
variable{W w:World}{M L:List HP}{t b:Nat}{c:Int}{R:BL}{key:BA}{C:FuncId->VW}
theorem Avx (hs : Ab W w (eg t b c R :: M)) (hC : ∀ f, BB PR f #[.p (some ⟨b, 0, none⟩)] w (fun v w' => v = .i c ∧ Ab W w' (eg t b c R :: M)) → C f (.p (some ⟨b, 0, none⟩)) w) : F8 PR t (.p (some ⟨b, 0, none⟩)) "Room" C w := by
 refine Fl hs ?_ ?_ ?_ ?_ ?_ <;> (rintro rfl hs)
 ·exact BQ ⟨mixed,Tryz.func254,rfl⟩ (by kernel_rfl) rfl rfl (hC _ ((Avo hs).mono λv w h=>⟨h.1,Iw h.2⟩))
 ·exact BQ ⟨mixed,Tryz.func279,rfl⟩ (by kernel_rfl) rfl rfl (hC _ ((A2e hs).mono λv w h=>⟨h.1,Ix h.2⟩))
 ·exact BQ ⟨mixed,Tryz.func308,rfl⟩ (by kernel_rfl) rfl rfl (hC _ ((A3l hs).mono λv w h=>⟨h.1,Iy h.2⟩))
 ·exact BQ ⟨mixed,Tryz.func331,rfl⟩ (by kernel_rfl) rfl rfl (hC _ ((A3s hs).mono λv w h=>⟨h.1,Iz h.2⟩))
 ·exact BQ ⟨mixed,Tryz.func368,rfl⟩ (by kernel_rfl) rfl rfl (hC _ ((A23 hs).mono λv w h=>⟨h.1,I0 h.2⟩))
theorem Ac3 (hs : Ab W w (eg t b c R :: M)) (hC : ∀ f, BB PR f #[.p (some ⟨b, 0, none⟩)] w (fun v w' => v = .i (R.length : Int) ∧ Ab W w' (eg t b c R :: M)) → C f (.p (some ⟨b, 0, none⟩)) w) : F8 PR t (.p (some ⟨b, 0, none⟩)) "Len" C w := by
 refine Fl hs ?_ ?_ ?_ ?_ ?_ <;> (rintro rfl hs)
 ·exact BQ ⟨mixed,Tryz.func251,rfl⟩ (by kernel_rfl) rfl rfl (hC _ ((Acr hs).mono λv w h=>⟨h.1,Iw h.2⟩))
 ·exact BQ ⟨mixed,Tryz.func276,rfl⟩ (by kernel_rfl) rfl rfl (hC _ ((A7i hs).mono λv w h=>⟨h.1,Ix h.2⟩))
 ·exact BQ ⟨mixed,Tryz.func305,rfl⟩ (by kernel_rfl) rfl rfl (hC _ ((Xz hs).mono λv w h=>⟨h.1,Iy h.2⟩))
 ·exact BQ ⟨mixed,Tryz.func328,rfl⟩ (by kernel_rfl) rfl rfl (hC _ ((Agj hs).mono λv w h=>⟨h.1,Iz h.2⟩))
 ·exact BQ ⟨mixed,Tryz.func365,rfl⟩ (by kernel_rfl) rfl rfl (hC _ ((Sq hs).mono λv w h=>⟨h.1,I0 h.2⟩))
theorem VD (hz : key.size < 64) (hs : Ab W w (eg t b c R :: M)) (hC : ∀ f, BB PR f #[.p (some ⟨b, 0, none⟩), .s key] w (fun v w' => v = .b (decide (key ∈ R)) ∧ Ab W w' (eg t b c R :: M)) → C f (.p (some ⟨b, 0, none⟩)) w) : F8 PR t (.p (some ⟨b, 0, none⟩)) "Has" C w := by
 refine Fl hs ?_ ?_ ?_ ?_ ?_ <;> (rintro rfl hs)
 ·exact BQ ⟨mixed,Tryz.func249,rfl⟩ (by kernel_rfl) rfl rfl (hC _ ((Acq hz hs).mono λv w h=>⟨h.1,Iw h.2⟩))
 ·exact BQ ⟨mixed,Tryz.func274,rfl⟩ (by kernel_rfl) rfl rfl (hC _ ((A7h hz hs).mono λv w h=>⟨h.1,Ix h.2⟩))
 ·exact BQ ⟨mixed,Tryz.func303,rfl⟩ (by kernel_rfl) rfl rfl (hC _ ((Agh hz hs).mono λv w h=>⟨h.1,Iy h.2⟩))
 ·exact BQ ⟨mixed,Tryz.func326,rfl⟩ (by kernel_rfl) rfl rfl (hC _ ((Agi hz hs).mono λv w h=>⟨h.1,Iz h.2⟩))
 ·exact BQ ⟨mixed,Tryz.func363,rfl⟩ (by kernel_rfl) rfl rfl (hC _ ((Xq hz hs).mono λv w h=>⟨h.1,I0 h.2⟩))
theorem Agu (hs : Ab W w (eg t b c R :: M)) (hC : ∀ f, BB PR f #[.p (some ⟨b, 0, none⟩)] w (fun v w' => ∃ (l : Sl) (ks : BL), v = .l l.a l.n l.c ∧ ks.Perm R ∧ Ab W w' (eg t b c R :: recs Rec.str l ks :: M)) → C f (.p (some ⟨b, 0, none⟩)) w) : F8 PR t (.p (some ⟨b, 0, none⟩)) "Keys" C w := by
 refine Fl hs ?_ ?_ ?_ ?_ ?_ <;> (rintro rfl hs)
 ·exact BQ ⟨mixed,Tryz.func250,rfl⟩ (by kernel_rfl) rfl rfl (hC _ ((Avm hs).mono λv w h=>let ⟨l,ks,h1,h2,h3⟩:=h;⟨l,ks,h1,h2,Iw h3⟩))
 ·exact BQ ⟨mixed,Tryz.func275,rfl⟩ (by kernel_rfl) rfl rfl (hC _ ((A2c hs).mono λv w h=>let ⟨l,ks,h1,h2,h3⟩:=h;⟨l,ks,h1,h2,Ix h3⟩))
 ·exact BQ ⟨mixed,Tryz.func304,rfl⟩ (by kernel_rfl) rfl rfl (hC _ ((A3j hs).mono λv w h=>let ⟨l,ks,h1,h2,h3⟩:=h;⟨l,ks,h1,h2,Iy h3⟩))
 ·exact BQ ⟨mixed,Tryz.func327,rfl⟩ (by kernel_rfl) rfl rfl (hC _ ((A3q hs).mono λv w h=>let ⟨l,ks,h1,h2,h3⟩:=h;⟨l,ks,h1,h2,Iz h3⟩))
 ·exact BQ ⟨mixed,Tryz.func364,rfl⟩ (by kernel_rfl) rfl rfl (hC _ ((A21 hs).mono λv w h=>let ⟨l,ks,h1,h2,h3⟩:=h;⟨l,ks,h1,h2,I0 h3⟩))
theorem XQ (hs : Ab W w (eg t b c R :: M)) (hC : ∀ f, BB PR f #[.p (some ⟨b, 0, none⟩)] w (fun v w' => ∃ x yes S, v = .tuple #[.s x, .bool yes] ∧ Hc c R x yes S ∧ Ab W w' (eg t b c S :: M)) → C f (.p (some ⟨b, 0, none⟩)) w) : F8 PR t (.p (some ⟨b, 0, none⟩)) "Evict" C w := by
 refine Fl hs ?_ ?_ ?_ ?_ ?_ <;> (rintro rfl hs)
 ·exact BQ ⟨mixed,Tryz.func247,rfl⟩ (by kernel_rfl) rfl rfl (hC _ ((Amt hs).mono λv w h=>let ⟨x,y,S,h1,h2,h3⟩:=h;⟨x,y,S,h1,h2,Iw h3⟩))
 ·exact BQ ⟨mixed,Tryz.func272,rfl⟩ (by kernel_rfl) rfl rfl (hC _ ((Ats hs).mono λv w h=>let ⟨x,y,S,h1,h2,h3⟩:=h;⟨x,y,S,h1,h2,Ix h3⟩))
 ·exact BQ ⟨mixed,Tryz.func301,rfl⟩ (by kernel_rfl) rfl rfl (hC _ ((Ab8 hs).mono λv w h=>let ⟨x,y,S,h1,h2,h3⟩:=h;⟨x,y,S,h1,h2,Iy h3⟩))
 ·exact BQ ⟨mixed,Tryz.func324,rfl⟩ (by kernel_rfl) rfl rfl (hC _ ((Avd hs).mono λv w h=>let ⟨x,y,S,h1,h2,h3⟩:=h;⟨x,y,S,h1,h2,Iz h3⟩))
 ·exact BQ ⟨mixed,Tryz.func361,rfl⟩ (by kernel_rfl) rfl rfl (hC _ ((Abp hs).mono λv w h=>let ⟨x,y,S,h1,h2,h3⟩:=h;⟨x,y,S,h1,h2,I0 h3⟩))
theorem HR (hz : key.size < 64) (hs : Ab W w (eg t b c R :: M)) (hC : ∀ f, BB PR f #[.p (some ⟨b, 0, none⟩), .s key] w (fun v w' => ∃ (hit : Bool) (l : Sl) (g S : BL), v = .tuple #[.b hit, .l l.a l.n l.c] ∧ Fj c R key hit g S ∧ Ab W w' (eg t b c S :: recs Rec.str l g :: M)) → C f (.p (some ⟨b, 0, none⟩)) w) : F8 PR t (.p (some ⟨b, 0, none⟩)) "Access" C w := by
 refine Fl hs ?_ ?_ ?_ ?_ ?_ <;> (rintro rfl hs)
 ·exact BQ ⟨mixed,Tryz.func246,rfl⟩ (by kernel_rfl) rfl rfl (hC _ ((Aja hz hs).mono λv w h=>let ⟨x,y,z,S,h1,h2,h3⟩:=h;⟨x,y,z,S,h1,h2,Iw h3⟩))
 ·exact BQ ⟨mixed,Tryz.func271,rfl⟩ (by kernel_rfl) rfl rfl (hC _ ((Ak3 hz hs).mono λv w h=>let ⟨x,y,z,S,h1,h2,h3⟩:=h;⟨x,y,z,S,h1,h2,Ix h3⟩))
 ·exact BQ ⟨mixed,Tryz.func300,rfl⟩ (by kernel_rfl) rfl rfl (hC _ ((Ama hz hs).mono λv w h=>let ⟨x,y,z,S,h1,h2,h3⟩:=h;⟨x,y,z,S,h1,h2,Iy h3⟩))
 ·exact BQ ⟨mixed,Tryz.func323,rfl⟩ (by kernel_rfl) rfl rfl (hC _ ((Amd hz hs).mono λv w h=>let ⟨x,y,z,S,h1,h2,h3⟩:=h;⟨x,y,z,S,h1,h2,Iz h3⟩))
 ·exact BQ ⟨mixed,Tryz.func360,rfl⟩ (by kernel_rfl) rfl rfl (hC _ ((Alw hz hs).mono λv w h=>let ⟨x,y,z,S,h1,h2,h3⟩:=h;⟨x,y,z,S,h1,h2,I0 h3⟩))
theorem Agv (hz : key.size < 64) (hs : Ab W w (eg t b c R :: M)) (hC : ∀ f, BB PR f #[.p (some ⟨b, 0, none⟩), .s key] w (fun v w' => ∃ (yes : Bool) (S : BL), v = .b yes ∧ DG c R key yes S ∧ Ab W w' (eg t b c S :: M)) → C f (.p (some ⟨b, 0, none⟩)) w) : F8 PR t (.p (some ⟨b, 0, none⟩)) "Load" C w := by
 refine Fl hs ?_ ?_ ?_ ?_ ?_ <;> (rintro rfl hs)
 ·exact BQ ⟨mixed,Tryz.func252,rfl⟩ (by kernel_rfl) rfl rfl (hC _ ((Avn hz hs).mono λv w h=>let ⟨y,S,h1,h2,h3⟩:=h;⟨y,S,h1,h2,Iw h3⟩))
 ·exact BQ ⟨mixed,Tryz.func277,rfl⟩ (by kernel_rfl) rfl rfl (hC _ ((A2d hz hs).mono λv w h=>let ⟨y,S,h1,h2,h3⟩:=h;⟨y,S,h1,h2,Ix h3⟩))
 ·exact BQ ⟨mixed,Tryz.func306,rfl⟩ (by kernel_rfl) rfl rfl (hC _ ((A3k hz hs).mono λv w h=>let ⟨y,S,h1,h2,h3⟩:=h;⟨y,S,h1,h2,Iy h3⟩))
 ·exact BQ ⟨mixed,Tryz.func329,rfl⟩ (by kernel_rfl) rfl rfl (hC _ ((A3r hz hs).mono λv w h=>let ⟨y,S,h1,h2,h3⟩:=h;⟨y,S,h1,h2,Iz h3⟩))
 ·exact BQ ⟨mixed,Tryz.func366,rfl⟩ (by kernel_rfl) rfl rfl (hC _ ((A22 hz hs).mono λv w h=>let ⟨y,S,h1,h2,h3⟩:=h;⟨y,S,h1,h2,I0 h3⟩))
theorem JH (hz : key.size < 64) (hs : Ab W w (eg t b c R :: M)) (hC : ∀ f, BB PR f #[.p (some ⟨b, 0, none⟩), .s key] w (fun v w' => ∃ (yes : Bool) (S : BL), v = .b yes ∧ Gj c R key yes S ∧ Ab W w' (eg t b c S :: M)) → C f (.p (some ⟨b, 0, none⟩)) w) : F8 PR t (.p (some ⟨b, 0, none⟩)) "Remove" C w := by
 refine Fl hs ?_ ?_ ?_ ?_ ?_ <;> (rintro rfl hs)
 ·exact BQ ⟨mixed,Tryz.func253,rfl⟩ (by kernel_rfl) rfl rfl (hC _ ((Ajb hz hs).mono λv w h=>let ⟨y,S,h1,h2,h3⟩:=h;⟨y,S,h1,h2,Iw h3⟩))
 ·exact BQ ⟨mixed,Tryz.func278,rfl⟩ (by kernel_rfl) rfl rfl (hC _ ((Ak4 hz hs).mono λv w h=>let ⟨y,S,h1,h2,h3⟩:=h;⟨y,S,h1,h2,Ix h3⟩))
 ·exact BQ ⟨mixed,Tryz.func307,rfl⟩ (by kernel_rfl) rfl rfl (hC _ ((Amb hz hs).mono λv w h=>let ⟨y,S,h1,h2,h3⟩:=h;⟨y,S,h1,h2,Iy h3⟩))
 ·exact BQ ⟨mixed,Tryz.func330,rfl⟩ (by kernel_rfl) rfl rfl (hC _ ((Ame hz hs).mono λv w h=>let ⟨y,S,h1,h2,h3⟩:=h;⟨y,S,h1,h2,Iz h3⟩))
 ·exact BQ ⟨mixed,Tryz.func367,rfl⟩ (by kernel_rfl) rfl rfl (hC _ ((Alx hz hs).mono λv w h=>let ⟨y,S,h1,h2,h3⟩:=h;⟨y,S,h1,h2,I0 h3⟩))
theorem Aaw{k j:Int}(e:(k==j)=true)(h:0<=j/\j<5):0<=k/\k<5:=by rw[beq_iff_eq.1 e];exact h
theorem VE(hs:Ab W w L){k r:Int}{N:Int->WP}{K:TypeId->Value->Int->WP}(hN:(k<0\/5<=k)->∀w,Ab W w L->N 4 w)(hK:0<=k->k<5->∀(t b:Nat)(w:World),Ab W w (eg t b (Bv r) []::L)->K t (pq b 0) 0 w):Q1 (.int .i64) PR 113 [.i k,.i r] N K w:=by
 refine(cw ⟨mixed,Tryz.func113,rfl⟩ Anr (Q:=λv w'=>(v = .tuple #[.nilIface,.i 4]/\(k<0\/5<=k)/\Ab W w' L)\/∃t b:Nat,v = .tuple #[.iface t (pq b 0),.i 0]/\(0<=k/\k<5)/\Ab W w' (eg t b (Bv r) []::L)) ?_).mono λe w' ⟨v,he,h⟩=>?_
 ·skip;refine Al (λe=>?_) λe0=>?_
  ·exact Ai (A4r hs) λv w ⟨b,hv,hs⟩=>⟨_,hv,.inr ⟨_,b,rfl,Aaw e (by decide),Iw hs⟩⟩
  refine Al (λe=>?_) λe1=>?_
  ·exact Ai (A7j hs) λv w ⟨b,hv,hs⟩=>⟨_,hv,.inr ⟨_,b,rfl,Aaw e (by decide),Ix hs⟩⟩
  refine Al (λe=>?_) λe2=>?_
  ·exact Ai (A8g hs) λv w ⟨b,hv,hs⟩=>⟨_,hv,.inr ⟨_,b,rfl,Aaw e (by decide),Iy hs⟩⟩
  refine Al (λe=>?_) λe3=>?_
  ·exact Ai (A8h hs) λv w ⟨b,hv,hs⟩=>⟨_,hv,.inr ⟨_,b,rfl,Aaw e (by decide),Iz hs⟩⟩
  refine Al (λe=>?_) λe4=>?_
  ·exact Ai (A73 hs) λv w ⟨b,hv,hs⟩=>⟨_,hv,.inr ⟨_,b,rfl,Aaw e (by decide),I0 hs⟩⟩
  simp only[beq_eq_false_iff_ne] at e0 e1 e2 e3 e4;exact .inl ⟨rfl,by omega,hs⟩
 ·rcases h with⟨rfl,h1,hs⟩|⟨t,b,rfl,h1,hs⟩
  ·exact .inl ⟨_,he,hN h1 _ hs⟩
  ·exact .inr ⟨_,_,_,he,hK h1.1 h1.2 _ _ _ hs⟩
end
end Go.Proofs.YtjipofkjmmpjdaaGreat
namespace Go.Hb
open Go.Proofs.YtjipofkjmmpjdaaGreat
section
variable{W w:World}{L:List HP}{F:HP->List HP}{b o:Nat}{cs:List Value}
theorem FC{t:TypeId}{v:Value}{N:WP}{K:TypeId->VW}(h:Ab W w L)[hA:At L b (Hb.blk b cs) F](hK:K t v w)(hc:cs[o]? = some (.iface t v):=by exact rfl):Ot b o N K w:=
 At.one (hA:=hA) h λ_ h _=>by unfold Ot;rw[(h.cell (q:=0) rfl).trans hc];exact hK
theorem A9c{N:WP}{K:TypeId->VW}(h:Ab W w L)[hA:At L b (Hb.blk b cs) F](hN:N w)(hc:cs[o]? = some .nilIface:=by exact rfl):Ot b o N K w:=
 At.one (hA:=hA) h λ_ h _=>by unfold Ot;rw[(h.cell (q:=0) rfl).trans hc];exact hN
theorem RC{t:TypeId}{v:Value}{N:WP}{K:TypeId->VW}[hA:At L b (Hb.blk b cs) F](hK:K t v w)(hc:cs[o]? = some (.iface t v):=by exact rfl):Atl (λw'=>Ab W w' L) b o N K w:=
 .inr ⟨t,v,λw' h=>At.one (hA:=hA) h λ_ h _=>(h.cell (q:=0) rfl).trans hc,hK⟩
end
abbrev m0(b:Nat)(k c:Int)(t e:Nat):HP:=blk b [.i k,.i c,.iface t (pq e 0),.nilIface]
abbrev m1(b:Nat)(k c:Int)(t e u q:Nat):HP:=blk b [.i k,.i c,.iface t (pq e 0),.iface u (pq q 0)]
def mvG(b:Nat)(k r c:Int)(R:BL):Option Nat->HP
 | none=>Ks λ(z:Nat×Nat)=>F6 ((0<=k/\k<5)/\DR c R) (AO [m0 b k r z.1 z.2,eg z.1 z.2 c R])
 | some n=>Ks λ(z:(Nat×Nat×Nat×Nat)×BL×BL)=>F6 ((0<=k/\k<5)/\DR c R/\R=z.2.1++z.2.2/\z.2.2.length=n) (AO [m1 b k r z.1.1 z.1.2.1 z.1.2.2.1 z.1.2.2.2,eg z.1.1 z.1.2.1 c z.2.1,eg z.1.2.2.1 z.1.2.2.2 c z.2.2])
abbrev Gi(b:Nat)(k c:Int)(R:BL)(o:Option Nat):HP:=mvG b k c c R o
def K4:Option Nat->Option Nat->Prop
 | none,none=>True
 | some n,some m=>n<=m
 | _,_=>False
abbrev Ev:=Int×BA
def Gr:Rec Ev:=⟨2,λe=>[.i e.1,.s e.2],λ_=>rfl⟩
instance:Gv Gr:=⟨by decide⟩
section
variable{W w:World}{M L:List HP}{b t e u q n:Nat}{c k r:Int}{R A B S:BL}{key:BA}{o:Option Nat}
theorem K4.refl:K4 o o:=by cases o <;> simp[K4]
theorem D6(h:Ab W w (mvG b k r c R o::M)){C:Prop}(h0:∀t e,(0<=k/\k<5)->DR c R->o=none->Ab W w (m0 b k r t e::eg t e c R::M)->C)
  (h1:∀t e u q A B,(0<=k/\k<5)->DR c R->R=A++B->o=some B.length->Ab W w (m1 b k r t e u q::eg t e c A::eg u q c B::M)->C):C:=by
 cases o with
 | none=>
  obtain⟨⟨t,e⟩,h⟩:=h.openE;obtain⟨hp,h⟩:=h.openA;exact h0 t e hp.1 hp.2 rfl h.openL
 | some n=>
  obtain⟨⟨⟨t,e,u,q⟩,A,B⟩,h⟩:=h.openE;obtain⟨hp,h⟩:=h.openA;exact h1 t e u q A B hp.1 hp.2.1 hp.2.2.1 (by rw[hp.2.2.2]) h.openL
theorem DX(hk5:0<=k/\k<5)(hk:DR c R)(h:Ab W w (m0 b k r t e::eg t e c R::M)):Ab W w (mvG b k r c R none::M):=Ab.shutE (t,e) (Ab.shutA ⟨hk5,hk⟩ (Ab.shutL (Ps:=[_,_]) h))
theorem EJ(hk5:0<=k/\k<5)(hk:DR c R)(hR:R=A++B)(hn:B.length=n)(h:Ab W w (m1 b k r t e u q::eg t e c A::eg u q c B::M)):Ab W w (mvG b k r c R (some n)::M):=
 Ab.shutE ((t,e,u,q),A,B) (Ab.shutA ⟨hk5,hk,hR,hn⟩ (Ab.shutL (Ps:=[_,_,_]) h))
theorem Oc(h:Ab W w (mvG b k r c R o::M)):DR c R:=D6 h (λ_ _ _ hk _ _=>hk) (λ_ _ _ _ _ _ _ hk _ _ _=>hk)
theorem A4d(h:Ab W w (mvG b k r c R o::M)):0<=k/\k<5:=D6 h (λ_ _ h _ _ _=>h) (λ_ _ _ _ _ _ h _ _ _ _=>h)
theorem A2o(h:Ab W w (mvG b k r c R o::M)){n:Nat}(ho:o=some n):n<=R.length:=D6 h (λ_ _ _ _ h2 _=>by rw[h2] at ho;cases ho) (λ_ _ _ _ A B _ _ hR h2 _=>by rw[h2] at ho;cases ho;rw[hR];simp)
theorem DR.same(h:DR c R)(hn:S.Nodup)(hm:∀x,x∈S↔x∈R):DR c S:=h.perm (Dv hn h.nd hm)
theorem Auu(h:DR c R)(hn:S.Nodup)(hm:∀x,x∈S↔x∈R):S.length=R.length:=(Dv hn h.nd hm).length_eq
def EvS(c:Int)(R:BL)(e:Ev)(K:BL):Prop:=DR c K/\∀x,x∈K↔(if e.1=2 then x∈R\/x=e.2 else if e.1=3 then x∈R/\x≠e.2 else x∈R)
structure A4o(c:Int)(R:BL)(k:BA)(g S:BL):Prop where
 ok:DR c S
 has:k∈R->g=[]/\∀x,x∈S↔x∈R
 sub:∀x∈g,x∈R
 nd:g.Nodup
 no:k∉g
 mem:∀x,x∈S↔(x∈R/\x∉g)\/x=k
 calm:(R.length:Int)<c->g=[]
theorem At6{g:BL}(h:g.length<=1):g.Nodup:=by
 match g,h with
 | [],_=>simp
 | [x],_=>simp
theorem Xh(hA:A.Nodup)(hB:B.Nodup)(hd:∀x∈A,x∉B):(A++B).Nodup:=List.nodup_append.2 ⟨hA,hB,λa ha b hb e=>hd a ha (e ▸ hb)⟩
theorem Fj.ins{hit:Bool}{g:BL}{k:BA}(h:Fj c R k hit g S):A4o c R k g S:=
 ⟨h.ok,λhk=>by
  have hg:g=[]:=h.acc.calm (by rw[h.acc.hits];exact decide_eq_true hk);refine⟨hg,λx=>?_⟩;rw[h.acc.mem,hg];constructor
  ·rintro(h|rfl)
   ·exact h.1
   ·exact hk
  ·exact λh=>.inl ⟨h,by simp⟩,h.acc.sub,At6 h.acc.le1,h.acc.no,h.acc.mem,h.calm⟩
theorem A9g{A' B':BL}{y1 y2:Bool}(hk:DR c (A++B))(hB:key∈B)(hr:Gj c B key y1 B')(hl:DG c A key y2 A'):(∀x,x∈A'++B'↔x∈A++B)/\DR c (A'++B')/\key∈A'/\B'.length+1=B.length:=by
 have hnd:=List.nodup_append.1 hk.nd;have hdis:∀x∈A,x∉B:=λx h1 h2=>hnd.2.2 x h1 x h2 rfl;have hrm:=hk.room;have hpos:=List.length_pos_of_mem hB;have hkA:key∉A:=λh=>hdis _ h hB;have hy2:y2=true:=by rw[hl.says];exact decide_eq_true ⟨hkA,by simp only[List.length_append] at hrm;omega⟩
 have hmA:∀x,x∈A'↔x∈A\/x=key:=λx=>by rw[hl.mem,hy2];simp
 have hm:∀x,x∈A'++B'↔x∈A++B:=λx=>by
  rw[List.mem_append,hmA,hr.mem,List.mem_append];constructor
  ·rintro((h|h)|h)
   ·exact .inl h
   ·exact .inr (h ▸ hB)
   ·exact .inr h.1
  ·rintro(h|h)
   ·exact .inl (.inl h)
   ·by_cases hx:x=key
    ·exact .inl (.inr hx)
    ·exact .inr ⟨h,hx⟩
 have hd2:∀x∈A',x∉B':=λx h2 h3=>by
  rcases(hmA x).1 h2 with h4|h4
  ·exact hdis x h4 ((hr.mem x).1 h3).1
  ·exact((hr.mem x).1 h3).2 h4
 have hpl:=(KR hnd.2.1 hr.ok.nd hB hr.mem).length_eq;simp only[List.length_cons] at hpl;exact⟨hm,hk.same (Xh hl.ok.nd hr.ok.nd hd2) hm,(hmA key).2 (.inr rfl),by omega⟩
theorem A1z{A B g0 g A':BL}{hit:Bool}(hR:DR c R)(hno:key∉R)(hA:A.Nodup)(hB:B.Nodup)(hd:∀x∈A,x∉B)(hsub:∀x∈g0,x∈R)(hmem:∀x,x∈A++B↔x∈R/\x∉g0)(hg1:g0.length<=1)
  (hcalm:(R.length:Int)<c->g0=[]) (hroom:(A.length:Int)+B.length<c\/(B=[]/\g0=[])) (ha:Fj c A key hit g A'):A4o c R key (g0++g) (A'++B):=by
 have hkA:key∉A:=λh=>hno ((hmem key).1 (List.mem_append_left _ h)).1;have hkB:key∉B:=λh=>hno ((hmem key).1 (List.mem_append_right _ h)).1;have hdA':∀x∈A',x∉B:=λx h1 h2=>by
  rcases(ha.acc.mem x).1 h1 with h3|h3
  ·exact hd x h3.1 h2
  ·exact hkB (h3 ▸ h2)
 have hnd:=Xh ha.ok.nd hB hdA';rcases hroom with hlt|⟨rfl,rfl⟩
 ·have hg:g=[]:=ha.calm (by omega);subst hg;have hlA:A'.length<=A.length+1:=by
   have hs:∀x∈A',x∈key::A:=λx hx=>by
    rcases(ha.acc.mem x).1 hx with h|h
    ·exact .tail _ h.1
    ·exact h ▸ .head _
   have:=Fv ha.ok.nd hs;simpa using this
  have hk2:DR c (A'++B):=⟨hnd,λx hx=>by
   rcases List.mem_append.1 hx with h|h
   ·exact ha.ok.small x h
   ·exact hR.small x ((hmem x).1 (List.mem_append_right _ h)).1,by simp only[List.length_append];omega,hR.c1,hR.c2⟩
  rw[List.append_nil];refine⟨hk2,λh=>absurd h hno,hsub,At6 hg1,λh=>hno (hsub _ h),λx=>?_,hcalm⟩;rw[List.mem_append,ha.acc.mem];have:=hmem x;rw[List.mem_append] at this;constructor
  ·rintro((h|h)|h)
   ·exact .inl (this.1 (.inl h.1))
   ·exact .inr h
   ·exact .inl (this.1 (.inr h))
  ·rintro(h|h)
   ·rcases this.2 h with h|h
    ·exact .inl (.inl ⟨h,by simp⟩)
    ·exact .inr h
   ·exact .inl (.inr h)
 ·rw[List.append_nil,List.nil_append];have hm:∀x,x∈A↔x∈R:=λx=>by have:=hmem x;rw[List.append_nil] at this;rw[this];simp
  have hin:=ha.ins;have hl:A.length=R.length:=Auu hR hA hm;refine⟨ha.ok,λh=>absurd h hno,λx hx=>(hm x).1 (hin.sub x hx),hin.nd,hin.no,λx=>?_,λh=>ha.calm (by omega)⟩;rw[ha.acc.mem,hm]
theorem Aum(h:DR c R):Bv c=c:=by have:=h.c1;have:=h.c2;unfold Bv;omega
theorem A72(r:Int):Bv (Bv r)=Bv r:=by unfold Bv;omega
end
end Go.Hb
namespace Go.Proofs.YtjipofkjmmpjdaaGreat
open Go.Hb Go.IntWalk
section
variable{W w:World}{L M:List HP}{b t e u q:Nat}{k r c:Int}{R A B:BL}{key:BA}{o:Option Nat}
theorem A7n(hs:Ab W w L):BB PR 76 #[.i k,.i r] w λv w'=>((0<=k/\k<5)/\∃b,v = .tuple #[pq b 0,.i 0]/\Ab W w' (Gi b k (Bv r) [] none::L))\/(¬(0<=k/\k<5)/\v = .tuple #[.p none,.i 4]/\Ab W w' L):=by
 refine cw ⟨mixed,Tryz.func76,rfl⟩ A09 ?_;have hr:=EK r;refine VE hs (λhk w hs=>?_) (λh1 h2 t b w hs=>?_)
 ·exact Ak rfl (.inr ⟨by omega,rfl,hs⟩)
 ·refine Ac rfl ?_;refine Avx hs λf hf=>?_;refine Ai hf λv w ⟨hv,hs⟩=>⟨_,hv,?_⟩;refine Ah hs λmb w hs=>?_;exact .inl ⟨⟨h1,h2⟩,mb,rfl,DX ⟨h1,h2⟩ (DR.nil hr.1 hr.2) hs⟩
theorem FM(hs:Ab W w (m0 b k r t e::M)):BB PR 42 #[pq b 0] w λv w'=>v = .b false/\Ab W w' (m0 b k r t e::M):=by
 refine cw ⟨mixed,Tryz.func42,rfl⟩ Ah3 ?_;exact Ak rfl (Aa (A9c hs ⟨rfl,hs⟩))
theorem ET(hs:Ab W w (m1 b k r t e u q::M)):BB PR 42 #[pq b 0] w λv w'=>v = .b true/\Ab W w' (m1 b k r t e u q::M):=by
 refine cw ⟨mixed,Tryz.func42,rfl⟩ Ah3 ?_;exact Ak rfl (Aa (FC hs ⟨rfl,hs⟩))
theorem A2k(hs:Ab W w (Gi b k c R o::M)):BB PR 43 #[pq b 0] w λv w'=>v = .i k/\Ab W w' (Gi b k c R o::M):=by
 refine cw ⟨mixed,Tryz.func43,rfl⟩ A0d ?_;refine Ac rfl ?_;have hO:=hs;clear hs;refine D6 hO (λt e h5 hk ho hs=>?_) (λt e u q A B h5 hk hR ho hs=>?_) <;> try rw[ho]
 ·exact Aa (Ag hs ⟨rfl,DX h5 hk hs⟩)
 ·exact Aa (Ag hs ⟨rfl,EJ h5 hk hR rfl hs⟩)
theorem A2m(hs:Ab W w (Gi b k c R o::M)):BB PR 91 #[pq b 0] w λv w'=>v = .i c/\Ab W w' (Gi b k c R o::M):=by
 refine cw ⟨mixed,Tryz.func91,rfl⟩ A1o ?_;refine Ac rfl ?_;have hO:=hs;clear hs;refine D6 hO (λt e h5 hk ho hs=>?_) (λt e u q A B h5 hk hR ho hs=>?_) <;> try rw[ho]
 ·exact Aa (Ag hs ⟨rfl,DX h5 hk hs⟩)
 ·exact Aa (Ag hs ⟨rfl,EJ h5 hk hR rfl hs⟩)
theorem RQ(hs:Ab W w (m0 b k r t e::M)):BB PR 134 #[pq b 0] w λv w'=>v = .i 0/\Ab W w' (m0 b k r t e::M):=by
 refine cw ⟨mixed,Tryz.func134,rfl⟩ Ys ?_;exact Ai (FM hs) λv w ⟨hv,hs⟩=>⟨_,hv,Ak rfl ⟨rfl,hs⟩⟩
theorem RR(hs:Ab W w (m1 b k r t e u q::eg t e c A::eg u q c B::M)):BB PR 134 #[pq b 0] w λv w'=>v = .i (B.length:Int)/\Ab W w' (m1 b k r t e u q::eg t e c A::eg u q c B::M):=by
 refine cw ⟨mixed,Tryz.func134,rfl⟩ Ys ?_;refine Ai (ET hs) λv w ⟨hv,hs⟩=>⟨_,hv,Ac rfl (Aa (FC hs ?_))⟩;have hs:Ab W w (eg u q c B::m1 b k r t e u q::eg t e c A::M):=by exact Ab.fin hs
 exact Ac3 hs λf hf=>Ai hf λv w ⟨hv,hs⟩=>⟨_,hv,rfl,by exact Ab.fin hs⟩
theorem Xg(hl:A.length<=5000)(hs:Ab W w (m0 b k r t e::eg t e c A::M)):BB PR 133 #[pq b 0] w λv w'=>v = .i (A.length:Int)/\Ab W w' (m0 b k r t e::eg t e c A::M):=by
 refine cw ⟨mixed,Tryz.func133,rfl⟩ Yr ?_;refine Ac rfl ?_;refine Ao [m0 b k r t e,eg t e c A] hs λw hs=>?_;refine Aa (RC ?_);refine Ai (RQ hs) λv w ⟨hv,hs⟩=>⟨_,hv,Ae hs ?_⟩;have hs:Ab W w (eg t e c A::m0 b k r t e::M):=by exact Ab.fin hs
 refine Ac3 hs λf hf=>Ai hf λv w ⟨hv,hs⟩=>⟨_,hv,?_⟩;rw[Int.zero_add,i64_in _ (by omega)];exact⟨rfl,by exact Ab.fin hs⟩
theorem A2l(hl:A.length+B.length<=5000)(hs:Ab W w (m1 b k r t e u q::eg t e c A::eg u q c B::M)):BB PR 133 #[pq b 0] w λv w'=>v = .i ((B.length:Int)+A.length)/\Ab W w' (m1 b k r t e u q::eg t e c A::eg u q c B::M):=by
 refine cw ⟨mixed,Tryz.func133,rfl⟩ Yr ?_;refine Ac rfl ?_;refine Ao [m1 b k r t e u q,eg t e c A,eg u q c B] hs λw hs=>?_;refine Aa (RC ?_);refine Ai (RR hs) λv w ⟨hv,hs⟩=>⟨_,hv,Ae hs ?_⟩;have hs:Ab W w (eg t e c A::m1 b k r t e u q::eg u q c B::M):=by exact Ab.fin hs
 refine Ac3 hs λf hf=>Ai hf λv w ⟨hv,hs⟩=>⟨_,hv,?_⟩;rw[i64_in _ (by omega)];exact⟨rfl,by exact Ab.fin hs⟩
theorem At5(hz:key.size<64)(hs:Ab W w (Gi b k c R o::M)):BB PR 131 #[pq b 0,.s key] w λv w'=>v = .b (decide (key∈R))/\Ab W w' (Gi b k c R o::M):=by
 refine cw ⟨mixed,Tryz.func131,rfl⟩ Aod ?_;refine Ak rfl ?_;have hO:=hs;clear hs;refine D6 hO (λt e h5 hk ho hs=>?_) (λt e u q A B h5 hk hR ho hs=>?_) <;> try rw[ho]
 ·refine Aa (FC hs ?_);have hs:Ab W w (eg t e c R::m0 b k c t e::M):=by exact Ab.fin hs
  refine VD hz hs λf hf=>Ai hf λv w ⟨hv,hs⟩=>⟨_,hv,?_⟩;have hs:Ab W w (m0 b k c t e::eg t e c R::M):=by exact Ab.fin hs
  with_reducible refine A2 (λh1=>?_) (λh1=>?_)
  ·rw[decide_eq_true h1];exact⟨rfl,DX h5 hk hs⟩
  refine Ai (FM hs) λv w ⟨hv,hs⟩=>⟨_,hv,Ac rfl ?_⟩;rw[decide_eq_false h1];exact⟨rfl,DX h5 hk hs⟩
 ·refine Aa (FC hs ?_);have hs:Ab W w (eg t e c A::m1 b k c t e u q::eg u q c B::M):=by exact Ab.fin hs
  refine VD hz hs λf hf=>Ai hf λv w ⟨hv,hs⟩=>⟨_,hv,?_⟩;have hs:Ab W w (m1 b k c t e u q::eg t e c A::eg u q c B::M):=by exact Ab.fin hs
  with_reducible refine A2 (λh1=>?_) (λh1=>?_)
  ·rw[decide_eq_true (show key∈R by rw[hR];exact List.mem_append_left _ h1)];exact⟨rfl,EJ h5 hk hR rfl hs⟩
  refine Ai (ET hs) λv w ⟨hv,hs⟩=>⟨_,hv,Ak rfl ?_⟩;refine Aa (FC hs ?_);have hs:Ab W w (eg u q c B::m1 b k c t e u q::eg t e c A::M):=by exact Ab.fin hs
  refine VD hz hs λf hf=>Ai hf λv w ⟨hv,hs⟩=>⟨_,hv,?_⟩;refine⟨?_,EJ h5 hk hR rfl (by exact Ab.fin hs)⟩;rw[show decide (key∈B)=decide (key∈R) by rw[decide_eq_decide,hR,List.mem_append];exact⟨.inr,λh=>h.elim (λh=>absurd h h1) id⟩]
theorem Abc(hz:key.size<64)(hkB:key∈B)(hk:DR c (A++B))(hs:Ab W w (m1 b k r t e u q::eg t e c A::eg u q c B::M)):BB PR 137 #[pq b 0,.s key] w λv w'=>v = .tuple #[]/\∃A' B',(∀x,x∈A'++B'↔x∈A++B)/\DR c (A'++B')/\key∈A'/\B'.length+1=B.length/\Ab W w' (m1 b k r t e u q::eg t e c A'::eg u q c B'::M):=by
 refine cw ⟨mixed,Tryz.func137,rfl⟩ Aog ?_;refine Aa (FC hs ?_);have hs:Ab W w (eg u q c B::m1 b k r t e u q::eg t e c A::M):=by exact Ab.fin hs
 refine JH hz hs λf hf=>Ai hf λv w ⟨y1,B',hv,hr,hs⟩=>⟨_,hv,?_⟩;refine Aa (FC hs ?_);have hs:Ab W w (eg t e c A::m1 b k r t e u q::eg u q c B'::M):=by exact Ab.fin hs
 refine Agv hz hs λf hf=>Ai hf λv w ⟨y2,A',hv,hl,hs⟩=>⟨_,hv,?_⟩;obtain⟨h1,h2,h3,h4⟩:=A9g hk hkB hr hl;exact⟨rfl,A',B',h1,h2,h3,h4,by exact Ab.fin hs⟩
theorem Aio(hk:key∈R)(hz:key.size<64)(hs:Ab W w (Gi b k c R o::M)):BB PR 132 #[pq b 0,.s key] w λv w'=>∃(l:Sl) (S:BL) (o':Option Nat),v = .l l.a l.n l.c/\(∀x,x∈S↔x∈R)/\K4 o' o/\Ab W w' (Gi b k c S o'::recs Rec.str l []::M):=by
 refine cw ⟨mixed,Tryz.func132,rfl⟩ Aoe ?_;have hO:=hs;clear hs;refine D6 hO (λt e h5 hkR ho hs=>?_) (λt e u q A B h5 hkR hR ho hs=>?_) <;> try rw[ho]
 ·refine Ai (FM hs) λv w ⟨hv,hs⟩=>⟨_,hv,Ac rfl ?_⟩;refine jw Nk ?_;refine Aa (FC hs ?_);have hs:Ab W w (eg t e c R::m0 b k c t e::M):=by exact Ab.fin hs
  refine HR hz hs λf hf=>AP hf λv w ⟨hit,l,g,S,hv,ha,hs⟩=>⟨_,_,hv,?_⟩;obtain⟨hg,hm⟩:=ha.ins.has hk;subst hg;exact⟨l,S,none,rfl,hm,trivial,DX h5 ha.ok (by exact Ab.fin hs)⟩
 ·subst hR;have last:∀(w:World)(A' B':BL),key∈A'->B'.length<=B.length->DR c (A'++B')->(∀x,x∈A'++B'↔x∈A++B)->Ab W w (m1 b k c t e u q::eg t e c A'::eg u q c B'::M) ->
    Pk By (λv w'=>∃(l:Sl) (S:BL) (o':Option Nat),v = .l l.a l.n l.c/\(∀x,x∈S↔x∈A++B)/\K4 o' (some B.length)/\Ab W w' (Gi b k c S o'::recs Rec.str l []::M)) (some ⟨b,0,none⟩) key w:=by
   clear hs;intro w A' B' hkA hlB hk2 hm hs;refine jw Nk ?_;have hnd:=List.nodup_append.1 hk2.nd;refine Aa (FC hs ?_);have hs:Ab W w (eg t e c A'::m1 b k c t e u q::eg u q c B'::M):=by exact Ab.fin hs
   refine HR hz hs λf hf=>AP hf λv w ⟨hit,l,g,S,hv,ha,hs⟩=>⟨_,_,hv,?_⟩;obtain⟨hg,hmS⟩:=ha.ins.has hkA;subst hg;have hm2:∀x,x∈S++B'↔x∈A++B:=λx=>by rw[<- hm,List.mem_append,List.mem_append,hmS]
   have hk3:=hkR.same (Xh ha.ok.nd hnd.2.1 λx h h2=>hnd.2.2 x ((hmS x).1 h) x h2 rfl) hm2;exact⟨l,S++B',some B'.length,rfl,hm2,hlB,EJ h5 hk3 rfl rfl (by exact Ab.fin hs)⟩
  refine Ai (ET hs) λv w ⟨hv,hs⟩=>⟨_,hv,Ak rfl ?_⟩;refine Aa (FC hs ?_);have hs:Ab W w (eg u q c B::m1 b k c t e u q::eg t e c A::M):=by exact Ab.fin hs
  refine VD hz hs λf hf=>Ai hf λv w ⟨hv,hs⟩=>⟨_,hv,?_⟩;have hs:Ab W w (m1 b k c t e u q::eg t e c A::eg u q c B::M):=by exact Ab.fin hs
  with_reducible refine A2 (λh1=>?_) (λh1=>?_)
  ·refine B0 (Abc hz h1 hkR hs) λv w ⟨hv,A',B',h2,h3,h4,h6,hs⟩=>⟨hv,?_⟩;exact last w A' B' h4 (by omega) h3 h2 hs
  ·exact last w A B (by rw[List.mem_append] at hk;exact hk.elim id λh=>absurd h h1) (Nat.le_refl _) hkR (λ_=>Iff.rfl) hs
abbrev Ai8(W:World)(M:List HP)(b:Nat)(k c:Int)(R:BL)(key:BA)(o:Option Nat):VW:=λv w'=>∃(l:Sl) (g S:BL) (o':Option Nat),v = .l l.a l.n l.c/\A4o c R key g S/\K4 o' o/\Ab W w' (Gi b k c S o'::recs Rec.str l g::M)
theorem UZ(hz:key.size<64)(hs:Ab W w (Gi b k c R o::M)):BB PR 94 #[pq b 0,.s key] w (Ai8 W M b k c R key o):=by
 refine cw ⟨mixed,Tryz.func94,rfl⟩ A1r ?_;refine Ac rfl ?_;refine Ai (At5 hz hs) λv w ⟨hv,hs⟩=>⟨_,hv,?_⟩;have hkR:=Oc hs;have hrm:=hkR.room;have hc2:=hkR.c2
 with_reducible refine A2 (λh0=>?_) (λh0=>?_)
 ·refine Ai (Aio h0 hz hs) λv w ⟨l,S,o',hv,hm,ho,hs⟩=>⟨_,hv,?_⟩;have hk2:=Oc hs;exact⟨l,[],S,o',rfl,⟨hk2,λ_=>⟨rfl,hm⟩,by simp,by simp,by simp,λx=>by
   rw[hm];constructor
   ·exact λh=>.inl ⟨h,by simp⟩
   ·rintro(h|rfl)
    ·exact h.1
    ·exact h0,λ_=>rfl⟩,ho,hs⟩
 have hO:=hs;clear hs;refine D6 hO (λt e h5 hk ho hs=>?_) (λt e u q A B h5 hk hR ho hs=>?_) <;> try rw[ho]
 ·have hs:=Ab.nilR Rec.str hs;have j3:∀(w:World),Ab W w (m0 b k c t e::eg t e c R::recs Rec.str ⟨none,0,0⟩ []::M)->Rc By (Ai8 W M b k c R key none) (some ⟨b,0,none⟩) key ⟨none,0,0⟩ w:=by
   clear hs;intro w hs;refine jw Re ?_;refine Aa (FC hs ?_);have hs:Ab W w (eg t e c R::m0 b k c t e::recs Rec.str ⟨none,0,0⟩ []::M):=by exact Ab.fin hs
   refine HR hz hs λf hf=>AP hf λv w ⟨hit,l,g,S,hv,ha,hs⟩=>⟨_,_,hv,?_⟩;have hle:=ha.acc.le1;have hs:Ab W w (recs Rec.str ⟨none,0,0⟩ []::recs Rec.str l g::eg t e c S::m0 b k c t e::M):=by exact Ab.fin hs
   refine DK (s:=⟨none,0,0⟩) (new:=g) hs (GS (s:=l) hs) (Bt (s:=l) hs) (Cx _) rfl (by decide) (by simp;omega) λs6 w hs6 hs=>?_;have hs:Ab W w (recs Rec.str s6 g::recs Rec.str l g::eg t e c S::m0 b k c t e::M):=hs;exact⟨s6,g,S,none,rfl,ha.ins,trivial,DX h5 ha.ok (by exact Ab.fin hs)⟩
  refine AR 1 ?_;rw[Rf];have hs:Ab W w (m0 b k c t e::eg t e c R::recs Rec.str ⟨none,0,0⟩ []::M):=by exact Ab.fin hs
  refine Ao [m0 b k c t e,eg t e c R] hs λw hs=>?_;refine Aa (Am ?_);refine Ai (Xg (by omega) hs) λv w ⟨hv,hs⟩=>⟨_,hv,Ae hs ?_⟩;refine Al (λ_=>?_) (λ_=>j3 w hs);refine Ai (RQ hs) λv w ⟨hv,hs⟩=>⟨_,hv,?_⟩;exact Ac rfl (j3 w hs)
 ·have hnR:=hR ▸ hk.nd;have hnA:=(List.nodup_append.1 hnR).1;have hnB:=(List.nodup_append.1 hnR).2.1;have hdis:∀x∈A,x∉B:=λx h1 h2=>(List.nodup_append.1 hnR).2.2 x h1 x h2 rfl;have hll:R.length=A.length+B.length:=by rw[hR];simp
  have j3:∀(w:World)(l0:Sl)(g0 B':BL),B'.length<=B.length->B'.Nodup->(∀x∈A,x∉B')->(∀x∈g0,x∈R)->(∀x,x∈A++B'↔x∈R/\x∉g0)->g0.length<=1->((R.length:Int)<c->g0=[])->((A.length:Int)+B'.length<c\/(B'=[]/\g0=[])) ->
    Ab W w (m1 b k c t e u q::eg t e c A::eg u q c B'::recs Rec.str l0 g0::M)->Rc By (Ai8 W M b k c R key (some B.length)) (some ⟨b,0,none⟩) key l0 w:=by
   clear hs hdis hnB hnR hR hll;intro w l0 g0 B' hle2 hnB hdis hsub hmem hg1 hcalm hroom hs;refine jw Re ?_;refine Aa (FC hs ?_);have hs:Ab W w (eg t e c A::m1 b k c t e u q::eg u q c B'::recs Rec.str l0 g0::M):=by exact Ab.fin hs
   refine HR hz hs λf hf=>AP hf λv w ⟨hit,l,g,S,hv,ha,hs⟩=>⟨_,_,hv,?_⟩;have hle:=ha.acc.le1;have hin:=A1z hk h0 hnA hnB hdis hsub hmem hg1 hcalm hroom ha;have hs:Ab W w (recs Rec.str l0 g0::recs Rec.str l g::eg t e c S::m1 b k c t e u q::eg u q c B'::M):=by exact Ab.fin hs
   refine DK (s:=l0) (new:=g) hs (GS (s:=l) hs) (Bt (s:=l) hs) (Cx _) rfl (by decide) (by omega) λs6 w hs6 hs=>?_;have hs:Ab W w (recs Rec.str s6 (g0++g)::recs Rec.str l g::eg t e c S::m1 b k c t e u q::eg u q c B'::M):=hs;exact⟨s6,g0++g,S++B',some B'.length,rfl,hin,hle2,EJ h5 hin.ok rfl rfl (by exact Ab.fin hs)⟩
  have hs:=Ab.nilR Rec.str hs;have hs:Ab W w (m1 b k c t e u q::eg t e c A::eg u q c B::recs Rec.str ⟨none,0,0⟩ []::M):=by exact Ab.fin hs
  have test:∀(w:World)(f:Nat)(l0:Sl)(g0 B':BL),A.length+B'.length<=5000->Ab W w (m1 b k c t e u q::eg t e c A::eg u q c B'::recs Rec.str l0 g0::M) ->
    ((A.length:Int)+B'.length>=c->B'.length>0->∀w,Ab W w (m1 b k c t e u q::eg t e c A::eg u q c B'::recs Rec.str l0 g0::M)->Asn By (Ai8 W M b k c R key (some B.length)) f (some ⟨b,0,none⟩) key l0 w) ->
    ((A.length:Int)+B'.length<c\/B'.length=0->∀w,Ab W w (m1 b k c t e u q::eg t e c A::eg u q c B'::recs Rec.str l0 g0::M)->Rc By (Ai8 W M b k c R key (some B.length)) (some ⟨b,0,none⟩) key l0 w) ->
    WH By (Ai8 W M b k c R key (some B.length)) (f+1) (some ⟨b,0,none⟩) key l0 w:=by
   clear hs hdis hnB hnR hR hll j3;intro w f l0 g0 B' hl hs h2 h3;rw[Rf];refine Ao [m1 b k c t e u q,eg t e c A,eg u q c B'] hs λw hs=>?_;refine Aa (Am ?_);refine Ai (A2l hl hs) λv w ⟨hv,hs⟩=>⟨_,hv,Ae hs ?_⟩
   with_reducible refine A2 (λh4=>?_) (λh4=>?_)
   ·refine Ai (RR hs) λv w ⟨hv,hs⟩=>⟨_,hv,?_⟩
    with_reducible refine A2 (λh5=>?_) (λh5=>?_)
    ·exact h2 (by omega) (by omega) w hs
    ·exact h3 (.inr (by omega)) w hs
   ·exact h3 (.inl (by omega)) w hs
  refine AR 2 ?_;refine test w 1 _ [] B (by omega) hs (λh4 h6 w hs=>?_) (λh4 w hs=>?_)
  ·refine jw Afb ?_;have hE:BB PR 135 #[pq b 0] w λv w'=>∃x yes S,v = .tuple #[.s x,.b yes]/\Hc c B x yes S/\Ab W w' (m1 b k c t e u q::eg t e c A::eg u q c S::recs Rec.str ⟨none,0,0⟩ []::M):=by
    refine cw ⟨mixed,Tryz.func135,rfl⟩ Yt ?_;refine Ac rfl ?_;refine Ai (RR hs) λv w ⟨hv,hs⟩=>⟨_,hv,?_⟩;refine Ak (decide_eq_true (by omega)) ?_;refine Aa (FC hs ?_);have hs:Ab W w (eg u q c B::m1 b k c t e u q::eg t e c A::recs Rec.str ⟨none,0,0⟩ []::M):=by exact Ab.fin hs
    refine XQ hs λf hf=>AP hf λv w ⟨x,yes,B',hv,hev,hs⟩=>⟨_,_,hv,?_⟩;exact⟨x,yes,B',rfl,hev,by exact Ab.fin hs⟩
   refine AP hE λv w ⟨x,yes,B',hv,hev,hs⟩=>⟨_,_,hv,?_⟩;have hy:yes=true:=by rw[hev.says];exact decide_eq_true h6
   subst hy;have hxB:=hev.of rfl;have hpl:B.length=B'.length+1:=by
    have hp:=KR hnB hev.ok.nd hxB hev.mem';simpa using hp.length_eq
   refine Ah hs λnb w hs=>?_;have hs:Ab W w (recs Rec.str ⟨none,0,0⟩ []::blk nb [.s x]::m1 b k c t e u q::eg t e c A::eg u q c B'::M):=by exact Ab.fin hs
   refine Cf (s:=⟨none,0,0⟩) (a:=x) hs rfl rfl rfl rfl (by decide) (by simp) λs5 w hs5 hs=>?_;have hs:Ab W w (recs Rec.str s5 [x]::blk nb [.s x]::m1 b k c t e u q::eg t e c A::eg u q c B'::M):=hs;have hs:Ab W w (m1 b k c t e u q::eg t e c A::eg u q c B'::recs Rec.str s5 [x]::M):=by exact Ab.fin hs
   refine test w 0 s5 [x] B' (by omega) hs (λh6 _ w hs=>by omega) (λ_ w hs=>?_);refine j3 w s5 [x] B' (by omega) hev.ok.nd (λy h1 h2=>hdis y h1 ((hev.mem' y).1 h2).1) (λy hy=>by rw[List.mem_singleton] at hy;subst hy;rw[hR];exact List.mem_append_right _ hxB) (λy=>?_) (by simp) (λh=>by omega) (.inl (by omega)) hs
   rw[List.mem_append,hev.mem',hR,List.mem_append,List.mem_singleton];constructor
   ·rintro(h|h)
    ·exact⟨.inl h,λe=>hdis y h (e ▸ hxB)⟩
    ·exact⟨.inr h.1,h.2⟩
   ·rintro⟨h|h,h2⟩
    ·exact .inl h
    ·exact .inr ⟨h,h2⟩
  ·exact j3 w _ [] B (Nat.le_refl _) hnB hdis (by simp) (λy=>by rw[hR];simp) (by simp) (λ_=>rfl) (by
    rcases h4 with h4|h4
    ·exact .inl h4
    ·exact .inr ⟨List.length_eq_zero_iff.1 h4,rfl⟩) hs
theorem At3{ev:Ev}{K:BL}(hz:ev.2.size<64)(hev:EvS c R ev K)(hs:Ab W w (Gi b k c R o::M)):BB PR 130 #[pq b 0,.agg #[.i ev.1,.s ev.2]] w λv w'=>∃(l:Sl) (S:BL) (o':Option Nat),v = .l l.a l.n l.c/\(∀x,x∈S↔x∈K)/\K4 o' o/\Ab W w' (Gi b k c S o'::recs Rec.str l []::M):=by
 obtain⟨kd,key⟩:=ev;obtain⟨hkK,hmK⟩:=hev;refine cw ⟨mixed,Tryz.func130,rfl⟩ Aoc ?_;have hkR:=Oc hs;refine Ah hs λnb w hs=>?_;refine Ac rfl ?_;have hs:Ab W w (Gi b k c R o::blk nb [.i kd,.s key]::M):=by exact Ab.fin hs
 refine Ag hs ?_
 with_reducible refine A2 (λh1=>?_) (λh1=>?_)
 ·have hmK:∀x,x∈K↔x∈R:=λx=>by have:=hmK x;rw[if_neg (by omega),if_neg (by omega)] at this;exact this
  refine Ag hs ?_;refine Ai (At5 hz hs) λv w ⟨hv,hs⟩=>⟨_,hv,?_⟩
  with_reducible refine A2 (λh2=>?_) (λh2=>?_)
  ·refine Ag hs ?_;refine Ai (Aio h2 hz hs) λv w ⟨l,S,o',hv,hm,ho,hs⟩=>⟨_,hv,?_⟩;exact⟨l,S,o',rfl,λx=>by rw[hm,hmK],ho,by exact Ab.fin hs⟩
  ·have hs:=Ab.nilR Rec.str hs;exact⟨⟨none,0,0⟩,R,o,rfl,λx=>(hmK x).symm,K4.refl,by exact Ab.fin hs⟩
 with_reducible refine A2 (λh2=>?_) (λh2=>?_)
 ·have hmK:∀x,x∈K↔x∈R\/x=key:=λx=>by have:=hmK x;rw[if_pos h2] at this;exact this
  refine Ag hs ?_;refine Ai (UZ hz hs) λv w ⟨l,g,S,o',hv,hin,ho,hs⟩=>⟨_,hv,?_⟩
  by_cases hk:key∈R
  ·obtain⟨rfl,hm⟩:=hin.has hk;refine⟨l,S,o',rfl,λx=>?_,ho,by exact Ab.fin hs⟩;rw[hm,hmK];exact⟨.inl,λh=>h.elim id λh=>h ▸ hk⟩
  ·have hlt:(R.length:Int)<c:=by
    have hsub:∀x∈key::R,x∈K:=λx hx=>(hmK x).2 (by
     rcases List.mem_cons.1 hx with h|h
     ·exact .inr h
     ·exact .inl h)
    have:=Fv (List.nodup_cons.2 ⟨hk,hkR.nd⟩) hsub;have hr:=hkK.room;simp only[List.length_cons] at this;omega
   have hg:=hin.calm hlt;subst hg;refine⟨l,S,o',rfl,λx=>?_,ho,by exact Ab.fin hs⟩;rw[hin.mem,hmK];simp
 with_reducible refine A2 (λh3=>?_) (λh3=>?_)
 ·have hmK:∀x,x∈K↔x∈R/\x≠key:=λx=>by have:=hmK x;rw[if_neg h2,if_pos h3] at this;exact this
  have hO:=hs;clear hs;refine D6 hO (λt e h5 hk ho hs=>?_) (λt e u q A B h5 hk hR ho hs=>?_) <;> try rw[ho]
  ·refine Ao [m0 b k c t e,blk nb [.i kd,.s key]] hs λw hs=>?_;refine Aa (RC (Ag hs (Ae hs ?_)));have hs:Ab W w (eg t e c R::m0 b k c t e::M):=by exact Ab.fin hs
   refine JH hz hs λf hf=>Ai hf λv w ⟨yes,S,hv,hr,hs⟩=>⟨_,hv,?_⟩;have hs:Ab W w (m0 b k c t e::eg t e c S::M):=by exact Ab.fin hs
   refine Ai (FM hs) λv w ⟨hv,hs⟩=>⟨_,hv,Ac rfl ?_⟩;have hs:=Ab.nilR Rec.str hs;exact⟨⟨none,0,0⟩,S,none,rfl,λx=>by rw[hr.mem,hmK],trivial,DX h5 hr.ok (by exact Ab.fin hs)⟩
  ·have hnd:=List.nodup_append.1 (hR ▸ hk.nd);refine Ao [m1 b k c t e u q,blk nb [.i kd,.s key]] hs λw hs=>?_;refine Aa (RC (Ag hs (Ae hs ?_)));have hs:Ab W w (eg t e c A::m1 b k c t e u q::eg u q c B::blk nb [.i kd,.s key]::M):=by exact Ab.fin hs
   refine JH hz hs λf hf=>Ai hf λv w ⟨yes,A',hv,hr,hs⟩=>⟨_,hv,?_⟩;have hs:Ab W w (m1 b k c t e u q::eg t e c A'::eg u q c B::blk nb [.i kd,.s key]::M):=by exact Ab.fin hs
   refine Ai (ET hs) λv w ⟨hv,hs⟩=>⟨_,hv,Ak rfl ?_⟩;refine Ao [m1 b k c t e u q,blk nb [.i kd,.s key]] hs λw hs=>?_;refine Aa (RC (Ag hs (Ae hs ?_)));have hs:Ab W w (eg u q c B::m1 b k c t e u q::eg t e c A'::M):=by exact Ab.fin hs
   refine JH hz hs λf hf=>Ai hf λv w ⟨yes2,B',hv,hr2,hs⟩=>⟨_,hv,?_⟩;have hs:=Ab.nilR Rec.str hs;have hm:∀x,x∈A'++B'↔x∈K:=λx=>by
    rw[List.mem_append,hr.mem,hr2.mem,hmK,hR,List.mem_append];constructor
    ·rintro(h|h)
     ·exact⟨.inl h.1,h.2⟩
     ·exact⟨.inr h.1,h.2⟩
    ·rintro⟨h|h,h2⟩
     ·exact .inl ⟨h,h2⟩
     ·exact .inr ⟨h,h2⟩
   have hk2:=hkK.same (Xh hr.ok.nd hr2.ok.nd λx h1 h2=>hnd.2.2 x ((hr.mem x).1 h1).1 x ((hr2.mem x).1 h2).1 rfl) hm;have hlB:B'.length<=B.length:=Fv hr2.ok.nd λx h=>((hr2.mem x).1 h).1;exact⟨⟨none,0,0⟩,A'++B',some B'.length,rfl,hm,hlB,EJ h5 hk2 rfl rfl (by exact Ab.fin hs)⟩
 ·have hmK:∀x,x∈K↔x∈R:=λx=>by have:=hmK x;rw[if_neg h2,if_neg h3] at this;exact this
  have hs:=Ab.nilR Rec.str hs;exact⟨⟨none,0,0⟩,R,o,rfl,λx=>(hmK x).symm,K4.refl,by exact Ab.fin hs⟩
theorem RS(hk:DR c (A++B))(hs:Ab W w (m1 b k r t e u q::eg t e c A::eg u q c B::M)):BB PR 99 #[pq b 0] w λv w'=>
  (v = .tuple #[.s ⟨#[]⟩,.b false]/\B=[]/\Ab W w' (m0 b k r t e::eg t e c A::M))\/(∃(x:BA) (A' B':BL),v = .tuple #[.s x,.b true]/\B'.length+1=B.length/\(∀x,x∈A'++B'↔x∈A++B)/\DR c (A'++B')/\Ab W w' (m1 b k r t e u q::eg t e c A'::eg u q c B'::M)):=by
 refine cw ⟨mixed,Tryz.func99,rfl⟩ Ah5 ?_;refine Ai (ET hs) λv w ⟨hv,hs⟩=>⟨_,hv,Ac rfl ?_⟩;refine Aa (FC hs ?_);have hs:Ab W w (eg u q c B::m1 b k r t e u q::eg t e c A::M):=by exact Ab.fin hs
 refine Agu hs λf hf=>Ai hf λv w ⟨l,ks,hv,hp,hs⟩=>⟨_,hv,?_⟩;have hln:=Bt (s:=l) hs;have hpl:=hp.length_eq;have hs:Ab W w (m1 b k r t e u q::eg t e c A::eg u q c B::recs Rec.str l ks::M):=by exact Ab.fin hs
 with_reducible refine A2 (λh1=>?_) (λh1=>?_)
 ·refine Aa (A0 hs λw hs=>?_);have hB:B=[]:=List.length_eq_zero_iff.1 (by omega);exact .inl ⟨rfl,hB,by exact Ab.fin hs⟩
 have h0:0<ks.length:=by omega
 have hin:C3 ks∈B:=hp.mem_iff.1 (by rw[<- WM h0];exact GI h0);have hz:(C3 ks).size<64:=hk.small _ (List.mem_append_right _ hin);refine AB (s:=l) hs λb_ o_ ha_=>?_;refine AE ha_ hs ?_;rw[WM h0];refine B0 (Abc hz hin hk hs) λv w ⟨hv,A',B',h2,h3,h4,h6,hs⟩=>⟨hv,?_⟩;refine AB (s:=l) hs λb_ o_ ha_=>?_;refine AE ha_ hs ?_;rw[WM h0];exact .inr ⟨C3 ks,A',B',rfl,h6,h2,h3,by exact Ab.fin hs⟩
def RU:Option Nat->Option Nat
 | some (n+1)=>some n
 | _=>none
theorem A2n(hs:Ab W w (Gi b k c R o::M)):BB PR 99 #[pq b 0] w λv w'=>∃(x:BA) (t:Bool) (S:BL),v = .tuple #[.s x,.b t]/\(∀x,x∈S↔x∈R)/\Ab W w' (Gi b k c S (RU o)::M):=by
 have hO:=hs;clear hs;refine D6 hO (λt e h5 hk ho hs=>?_) (λt e u q A B h5 hk hR ho hs=>?_) <;> try rw[ho]
 ·refine cw ⟨mixed,Tryz.func99,rfl⟩ Ah5 ?_;refine Ai (FM hs) λv w ⟨hv,hs⟩=>⟨_,hv,Ak rfl ?_⟩;exact⟨_,_,R,rfl,λ_=>Iff.rfl,DX h5 hk hs⟩
 ·rw[hR] at hk;refine(RS hk hs).mono λv w' h=>?_;rcases h with⟨hv,hB,hs⟩|⟨x,A',B',hv,hl,hm,hk2,hs⟩
  ·have hA:A++B=A:=by rw[hB,List.append_nil]
   rw[hA] at hk;rw[hB];exact⟨_,_,A,hv,λx=>by rw[hR,hA],DX h5 hk hs⟩
  ·rw[show RU (some B.length)=some B'.length by rw[<- hl];rfl];exact⟨x,true,A'++B',hv,λx=>by rw[hm,hR],EJ h5 hk2 rfl rfl hs⟩
theorem UY(hs:Ab W w (mvG b k r c R o::M)):BB PR 145 #[pq b 0] w λv w'=>∃(n:Int) (t e:Nat) (S:BL),v = .i n/\(∀x,x∈S↔x∈R)/\DR c S/\Ab W w' (m0 b k r t e::eg t e c S::M):=by
 refine cw ⟨mixed,Tryz.func145,rfl⟩ Aoo ?_;have done:∀(f:Nat)(w:World)(t e:Nat)(S:BL)(n:Int),(∀x,x∈S↔x∈R)->DR c S->Ab W w (m0 b k r t e::eg t e c S::M) ->
   JJ By (λv w'=>∃(n:Int) (t e:Nat) (S:BL),v = .i n/\(∀x,x∈S↔x∈R)/\DR c S/\Ab W w' (m0 b k r t e::eg t e c S::M)) (f+1) (some ⟨b,0,none⟩) n w:=by
  clear hs;intro f w t e S n hm hk hs;rw[Jk];refine Ai (FM hs) λv w ⟨hv,hs⟩=>⟨_,hv,Ac rfl ?_⟩;refine jw Yx ?_;exact⟨n,t,e,S,rfl,hm,hk,hs⟩
 have hO:=hs;clear hs;refine D6 hO (λt e h5 hk ho hs=>?_) (λt e u q A B h5 hk hR ho hs=>?_) <;> try rw[ho]
 ·exact AR 1 (done 0 w t e R 0 (λ_=>Iff.rfl) hk hs)
 ·have loop:∀(f:Nat)(w:World)(A B:BL)(n:Int),B.length<=f->(∀x,x∈A++B↔x∈R)->DR c (A++B)->Ab W w (m1 b k r t e u q::eg t e c A::eg u q c B::M) ->
    JJ By (λv w'=>∃(n:Int) (t e:Nat) (S:BL),v = .i n/\(∀x,x∈S↔x∈R)/\DR c S/\Ab W w' (m0 b k r t e::eg t e c S::M)) (f+2) (some ⟨b,0,none⟩) n w:=by
   clear hs hk hR;intro f
   induction f with
   | zero=>
    intro w A B n hf hm hk hs;rw[Jk];refine Ai (ET hs) λv w ⟨hv,hs⟩=>⟨_,hv,Ak rfl ?_⟩;refine AP (RS hk hs) λv w h=>?_;rcases h with⟨hv,hB,hs⟩|⟨x,A',B',hv,hl,_⟩
    ·refine⟨_,_,hv,Ac rfl ?_⟩;simp only[hB,List.append_nil] at hk hm;exact done 0 w t e A n hm hk hs
    ·omega
   | succ f ih=>
    intro w A B n hf hm hk hs;rw[Jk];refine Ai (ET hs) λv w ⟨hv,hs⟩=>⟨_,hv,Ak rfl ?_⟩;refine AP (RS hk hs) λv w h=>?_;rcases h with⟨hv,hB,hs⟩|⟨x,A',B',hv,hl,hm2,hk2,hs⟩
    ·refine⟨_,_,hv,Ac rfl ?_⟩;simp only[hB,List.append_nil] at hk hm;exact done _ w t e A n hm hk hs
    ·refine⟨_,_,hv,Ak rfl ?_⟩;exact ih w A' B' _ (by omega) (λx=>by rw[hm2,hm]) hk2 hs
  exact AR _ (loop B.length w A B 0 (Nat.le_refl _) (λx=>by rw[hR]) (hR ▸ hk) hs)
theorem At4{kd:Int}(hkd:0<=kd/\kd<5)(hs:Ab W w (Gi b k c R o::M)):BB PR 144 #[pq b 0,.i kd] w λv w'=>∃(S:BL),v = .i 0/\(∀x,x∈S↔x∈R)/\Ab W w' (Gi b kd c S (some S.length)::M):=by
 refine cw ⟨mixed,Tryz.func144,rfl⟩ Aon ?_;refine Ac rfl ?_;have hk0:=Oc hs;have hrc:=Aum hk0;refine Aa ?_;have hcell:∀K:Int->WP,K c w->ld (.int .i64) b (0+1) K w:=λK h=>D6 hs (λt e _ _ _ hs=>Ag hs h) (λt e u q A B _ _ _ _ hs=>Ag hs h);refine hcell _ ?_;refine VE hs (λh w hs=>by omega) (λ_ _ u q w hs=>?_);refine Ac rfl ?_;rw[hrc] at hs;have hs:Ab W w (Gi b k c R o::eg u q c []::M):=by exact Ab.fin hs
 refine Ai (UY hs) λv w ⟨n,t,e,S,hv,hm,hk,hs⟩=>⟨_,hv,?_⟩;refine Aa (FC hs ?_);refine Aa (A0 hs λw hs=>?_);refine Aa (A0 hs λw hs=>?_);refine Aa (A0 hs λw hs=>?_);exact⟨S,rfl,hm,EJ hkd hk (A:=[]) (B:=S) rfl rfl (by exact Ab.fin hs)⟩
theorem Alc(hs:Ab W w (m0 b k r t e::eg t e c R::M)):BB PR 135 #[pq b 0] w λv w'=>∃x yes S,v = .tuple #[.s x,.b yes]/\Hc c R x yes S/\Ab W w' (m0 b k r t e::eg t e c S::M):=by
 refine cw ⟨mixed,Tryz.func135,rfl⟩ Yt ?_;refine Ac rfl ?_;refine Ai (RQ hs) λv w ⟨hv,hs⟩=>⟨_,hv,?_⟩;refine Ac rfl ?_;refine Aa (FC hs ?_);have hs:Ab W w (eg t e c R::m0 b k r t e::M):=by exact Ab.fin hs
 refine XQ hs λf hf=>AP hf λv w ⟨x,yes,S,hv,hev,hs⟩=>⟨_,_,hv,?_⟩;exact⟨x,yes,S,rfl,hev,by exact Ab.fin hs⟩
theorem Avw(hk:0<=k/\k<5){s0:Sl}{ks:BL}[hr:IU W L s0 Rec.str ks](hs:Ab W w L)(hn:ks.Nodup)(hz:∀x∈ks,x.size<64)(hl:(ks.length:Int)<=Bv r){N:Int->WP}{K:TypeId->Value->Int->WP}
  (hK:∀(t b:Nat)(S:BL)(w:World),(∀x,x∈S↔x∈ks)->Ab W w (eg t b (Bv r) S::L)->K t (pq b 0) 0 w):Q1 (.int .i64) PR 146 [.i k,.i r,.l s0.a s0.n s0.c] N K w:=by
 refine(cw ⟨mixed,Tryz.func146,rfl⟩ Aop (Q:=λv w'=>∃(t b:Nat) (S:BL),v = .tuple #[.iface t (pq b 0),.i 0]/\(∀x,x∈S↔x∈ks)/\Ab W w' (eg t b (Bv r) S::L)) ?_).mono λe w' ⟨v,he,t,b,S,hv,h1,h2⟩=>.inr ⟨_,_,_,by rw[he,hv];rfl,hK t b S w' h1 h2⟩;refine VE hs (λh w hs=>by omega) (λ_ _ t b w hs=>?_);refine Ac rfl ?_;have hsn:=Bt (s:=s0) hs;have hrm:=EK r;have loop:∀(f i:Nat)(w:World)(S:BL),i+f=ks.length->(∀x,x∈S↔x∈ks.take i)->Ab W w (eg t b (Bv r) S::L) ->
   Pu By (λv w'=>∃(t b:Nat) (S:BL),v = .tuple #[.iface t (pq b 0),.i 0]/\(∀x,x∈S↔x∈ks)/\Ab W w' (eg t b (Bv r) S::L)) (f+1) t (pq b 0) s0 (s0.n:Int) (i:Int) w:=by
  clear hs;intro f
  induction f with
  | zero=>
   intro i w S hi hS hs;rw[No];refine Ac (decide_eq_false (by omega)) ?_;refine jw Yy ?_;rw[List.take_of_length_le (by omega)] at hS;exact⟨t,b,S,rfl,hS,hs⟩
  | succ f ih=>
   intro i w S hi hS hs;rw[No];refine Ak (decide_eq_true (by omega)) ?_;refine AB (s:=s0) hs λb_ o_ ha_=>?_;refine AE ha_ hs ?_;rw[Int.toNat_natCast];have hm:ks.getD i default∈ks:=GI (by omega);have hk:=Anc hs;have hpl:S.length=i:=by
    have hp:=Dv hk.nd (hn.sublist (List.take_sublist i ks)) hS;rw[hp.length_eq,List.length_take];omega
   have hno:ks.getD i default∉ks.take i:=by
    intro hin;have h2:=hn;rw[<- List.take_append_drop i ks,List.nodup_append] at h2;have hd:ks.getD i default∈ks.drop i:=by
     rw[List.getD_eq_getElem?_getD,List.getElem?_eq_getElem (show i<ks.length by omega)];rw[List.drop_eq_getElem_cons (show i<ks.length by omega)];exact .head _
    exact h2.2.2 _ hin _ hd rfl
   refine Agv (hz _ hm) hs λf hf=>Ai hf λv w ⟨yes,S',hv,ha,hs⟩=>⟨_,hv,?_⟩;rw[show IntKind.wrap .i64 ((i:Int)+1)=((i+1:Nat):Int) by rw[i64_in _ (by have:=Bt (s:=s0) hs;omega)];omega]
   refine ih (i+1) w S' (by omega) (λx=>?_) hs;have hy:yes=true:=by rw[ha.says];exact decide_eq_true ⟨λh=>hno ((hS _).1 h),by omega⟩
   rw[ha.mem,CA (by omega),List.mem_append,List.mem_singleton,hS,hy];simp
 exact AR _ (loop ks.length 0 w [] (by omega) (by simp) hs)
theorem Acz(n:Int):Is n 1 1024=Bv n:=by unfold Is Bv;split <;> split <;> omega
theorem Ald(hs:Ab W w (Gi b k c R o::M)){n:Int}:BB PR 105 #[pq b 0,.i n] w λv w'=>∃(l:Sl) (g S:BL),v = .l l.a l.n l.c/\(∀x∈g,x∈R)/\g.Nodup/\(∀x,x∈S↔x∈R/\x∉g)/\(g=[]\/(S.length:Int)=Bv n)/\Ab W w' (Gi b k (Bv n) S none::recs Rec.str l g::M):=by
 refine cw ⟨mixed,Tryz.func105,rfl⟩ Ank ?_;refine Ac rfl ?_;refine An (DS hs n 1 1024) λe w ⟨he,hs⟩=>⟨_,he,?_⟩;rw[Acz];have hr:=EK n;have hr2:=A72 n;have hk5:=A4d hs;have hkR:=Oc hs;generalize Bv n=rm at *;refine Aa ?_;have hcell:∀K:WP,(∀w,Ab W w (mvG b k rm c R o::M)->K w)->st b (0+1) (.i rm) K w:=λK h=>D6 hs (λt e h5 hk ho hi=>by subst ho;exact A0 hi λw hs=>h w (DX h5 hk hs)) (λt e u q A B h5 hk hR ho hi=>by subst ho;exact A0 hi λw hs=>h w (EJ h5 hk hR rfl hs))
 refine hcell _ λw hs=>?_;refine Ai (UY hs) λv w ⟨n1,t,e,S0,hv,hm0,hk0,hs⟩=>⟨_,hv,?_⟩;have hs:=Ab.nilR Rec.str hs;have hs:Ab W w (m0 b k rm t e::eg t e c S0::recs Rec.str ⟨none,0,0⟩ []::M):=by exact Ab.fin hs
 have j2:∀(w:World)(l:Sl)(g S:BL),(∀x∈g,x∈R)->g.Nodup->(∀x,x∈S↔x∈R/\x∉g)->(S.length:Int)<=rm->(g=[]\/(S.length:Int)=rm)->DR c S->Ab W w (m0 b k rm t e::eg t e c S::recs Rec.str l g::M) ->
   Agz By (λv w'=>∃(l:Sl) (g S:BL),v = .l l.a l.n l.c/\(∀x∈g,x∈R)/\g.Nodup/\(∀x,x∈S↔x∈R/\x∉g)/\(g=[]\/(S.length:Int)=rm)/\Ab W w' (Gi b k rm S none::recs Rec.str l g::M)) (some ⟨b,0,none⟩) l w:=by
  clear hs;intro w l g S hsub hnd hm hl hgl hk hs;refine jw Yb ?_;refine Ao [m0 b k rm t e] hs λw hs=>?_;refine Aa (Am (Aa (Am (Aa (FC hs (Ae hs ?_))))));have hs:Ab W w (eg t e c S::m0 b k rm t e::recs Rec.str l g::M):=by exact Ab.fin hs
  refine Agu hs λf hf=>Ai hf λv w ⟨l2,ks,hv,hp,hs⟩=>⟨_,hv,?_⟩;have hs:Ab W w (m0 b k rm t e::recs Rec.str l2 ks::recs Rec.str l g::M):=by exact Ab.fin hs
  refine Ae hs ?_;refine Avw (r:=rm) (s0:=l2) (ks:=ks) hk5 hs (hp.nodup_iff.2 hk.nd) (λx hx=>hk.small x (hp.mem_iff.1 hx)) (by rw[hp.length_eq,hr2];exact hl) λt2 e2 S2 w hm2 hs=>?_
  rw[hr2] at hs;have hok:=Anc hs;have hsl:S2.length=S.length:=by rw[(Dv hok.nd (hp.nodup_iff.2 hk.nd) hm2).length_eq,hp.length_eq]
  refine Aa (A0 hs λw hs=>?_);exact⟨l,g,S2,rfl,hsub,hnd,λx=>by rw[hm2,hp.mem_iff,hm],by rw[hsl];exact hgl,DX hk5 hok (by exact Ab.fin hs)⟩
 have loop:∀(f:Nat)(w:World)(l:Sl)(g S:BL),S.length<=f->g.length+S.length<=1024->(∀x∈g,x∈R)->g.Nodup->(∀x,x∈S↔x∈R/\x∉g)->(g=[]\/(S.length:Int)>=rm)->DR c S->Ab W w (m0 b k rm t e::eg t e c S::recs Rec.str l g::M) ->
   Pb By (λv w'=>∃(l:Sl) (g S:BL),v = .l l.a l.n l.c/\(∀x∈g,x∈R)/\g.Nodup/\(∀x,x∈S↔x∈R/\x∉g)/\(g=[]\/(S.length:Int)=rm)/\Ab W w' (Gi b k rm S none::recs Rec.str l g::M)) (f+1) (some ⟨b,0,none⟩) l w:=by
  clear hs;intro f
  induction f with
  | zero=>
   intro w l g S hf hgl hsub hnd hm hg hk hs;rw[Na];refine Ao [m0 b k rm t e,eg t e c S] hs λw hs=>?_;refine Aa (Am ?_);refine Ai (Xg (by omega) hs) λv w ⟨hv,hs⟩=>⟨_,hv,Ae hs ?_⟩;refine Ac (decide_eq_false (by omega)) ?_;exact j2 w l g S hsub hnd hm (by omega) (hg.imp id λh=>by omega) hk hs
  | succ f ih=>
   intro w l g S hf hgl hsub hnd hm hg hk hs;rw[Na];refine Ao [m0 b k rm t e,eg t e c S] hs λw hs=>?_;refine Aa (Am ?_);refine Ai (Xg (by omega) hs) λv w ⟨hv,hs⟩=>⟨_,hv,Ae hs ?_⟩
   with_reducible refine A2 (λh1=>?_) (λh1=>?_)
   ·refine AP (Alc hs) λv w ⟨x,yes,S',hv,hev,hs⟩=>⟨_,_,hv,?_⟩;have hy:yes=true:=by rw[hev.says];exact decide_eq_true (by omega)
    subst hy;have hpl:=(hev.perm hk).length_eq;simp only[List.length_cons] at hpl;have hxS:=hev.of rfl;have hxR:=(hm x).1 hxS;refine Ah hs λnb w hs=>?_;refine Cf (s:=l) (a:=x) hs rfl rfl rfl rfl (by decide) (by omega) λs5 w hs5 hs=>?_;refine ih w s5 (g++[x]) S' (by omega) (by simp;omega) (λy hy=>?_) ?_ (λy=>?_) (.inr (by omega)) hev.ok (by exact Ab.fin hs)
    ·rcases List.mem_append.1 hy with h|h
     ·exact hsub y h
     ·rw[List.mem_singleton] at h;exact h ▸ hxR.1
    ·rw[List.nodup_append];exact⟨hnd,by simp,λa ha b hb=>by rw[List.mem_singleton] at hb;subst hb;exact λe=>hxR.2 (e ▸ ha)⟩
    ·rw[hev.mem',hm,List.mem_append,List.mem_singleton];constructor
     ·rintro⟨⟨h2,h3⟩,h4⟩;exact⟨h2,λh=>h.elim h3 h4⟩
     ·rintro⟨h2,h3⟩;exact⟨⟨h2,λh=>h3 (.inl h)⟩,λh=>h3 (.inr h)⟩
   ·exact j2 w l g S hsub hnd hm (by omega) (hg.imp id λh=>by omega) hk hs
 have hrm:=hk0.room;have hc2:=hk0.c2
 exact AR _ (loop S0.length w ⟨none,0,0⟩ [] S0 (Nat.le_refl _) (by simp;omega) (by simp) (by simp) (λx=>by rw[hm0];simp) (.inl rfl) hk0 hs)
end
end Go.Proofs.YtjipofkjmmpjdaaGreat
namespace Go.Hb
structure Eh where
 k:Int
 s:BA
 n:Int
 h:Bool
 cap:Nat
 buf:List (Int×BA×Int)
def SV(e:Int×BA×Int):Value:=.agg #[.i e.1,.s e.2.1,.i e.2.2]
abbrev Oo(c d:Nat)(r q:Eh)(n lo:Int):List Value:=[.chan (some c),.i r.k,.s r.s,.i r.n,.bool r.h,.chan (some d),.i q.k,.s q.s,.i q.n,.bool q.h,.i n,.i lo]
abbrev GL(c:Nat)(r:Eh):HP:=chn c r.cap (r.buf.map SV)
def Eh.evs(q:Eh):List Ev:=(if q.h then [(q.k,q.s)] else [])++q.buf.map λe=>(e.1,e.2.1)
def Eh.peek(q:Eh):Eh:=if q.h then q else match q.buf with
 | []=>q
 | e::t=>{ q with k:=e.1,s:=e.2.1,n:=e.2.2,h:=true,buf:=t }
structure FdI(r q:Eh)(ws:List Ev):Prop where
 rd:∀e∈r.evs,e.1=1/\e.2.size<64
 wr:∀e∈q.evs,e.1≠1/\e.2.size<64
 eq:q.evs=ws
 c1:r.buf.length<=r.cap/\r.cap<=256
 c2:q.buf.length<=q.cap/\q.cap<=256
 c3:1<=q.cap
def fd(b:Nat)(ws:List Ev):HP:=Ks λ(z:(Nat×Nat)×(Eh×Eh)×(Int×Int))=>F6 (FdI z.2.1.1 z.2.1.2 ws) (AO [blk b (Oo z.1.1 z.1.2 z.2.1.1 z.2.1.2 z.2.2.1 z.2.2.2),GL z.1.1 z.2.1.1,GL z.1.2 z.2.1.2])
section
variable{W w:World}{M L:List HP}{b c d:Nat}{r q:Eh}{n lo:Int}{ws:List Ev}
theorem WJ(h:Ab W w (fd b ws::M)):∃c d r q n lo,FdI r q ws/\Ab W w (blk b (Oo c d r q n lo)::GL c r::GL d q::M):=by
 obtain⟨⟨⟨c,d⟩,⟨r,q⟩,n,lo⟩,h⟩:=h.openE;obtain⟨hp,h⟩:=h.openA;exact⟨c,d,r,q,n,lo,hp,h.openL⟩
theorem JL(hi:FdI r q ws)(h:Ab W w (blk b (Oo c d r q n lo)::GL c r::GL d q::M)):Ab W w (fd b ws::M):=Ab.shutE ((c,d),(r,q),n,lo) (Ab.shutA hi (Ab.shutL (Ps:=[_,_,_]) h))
theorem D7(q:Eh):q.peek.evs=q.evs:=by
 unfold Eh.peek;split
 ·rfl
 ·rename_i h;split
  ·rfl
  ·rename_i e t he;simp[Eh.evs,he,h]
theorem Ql(h:q.peek.h=false):q.evs=[]:=by
 unfold Eh.peek at h;split at h
 ·rename_i h1;rw[h1] at h;cases h
 ·rename_i h1;split at h
  ·rename_i h2;simp[Eh.evs,h1,h2]
  ·cases h
theorem Abg(q:Eh):q.peek.cap=q.cap/\q.peek.buf.length<=q.buf.length:=by
 unfold Eh.peek;split
 ·exact⟨rfl,Nat.le_refl _⟩
 ·split
  ·exact⟨rfl,Nat.le_refl _⟩
  ·rename_i e t he;exact⟨rfl,by rw[he];simp⟩
theorem JW(h:q.h=true):q.evs=(q.k,q.s)::({ q with h:=false }:Eh).evs:=by simp[Eh.evs,h]
theorem FdI.peek(hi:FdI r q ws):FdI r.peek q.peek ws:=by
 have h1:=Abg r;have h2:=Abg q
 exact⟨by rw[D7];exact hi.rd,by rw[D7];exact hi.wr,by rw[D7];exact hi.eq,by have:=hi.c1;omega,by have:=hi.c2;omega,by rw[h2.1];exact hi.c3⟩
end
end Go.Hb
namespace Go.Proofs.YtjipofkjmmpjdaaGreat
open Go.Hb Go.IntWalk
section
variable{W w:World}{L M:List HP}{b c d:Nat}{r q:Eh}{n lo:Int}{ws:List Ev}{key:BA}
theorem Am1:PR.underlying 182=some (.chan .both 184):=by kernel_rfl
theorem Qk{K:Nat->WP}(h0:0<=n)(h1:n<=256)(hs:Ab W w L)(hK:∀c w',Ab W w' (chn c n.toNat []::L)->K c w'):Alb PR 182 (.i n) K w:=by
 have hb:∃i,PR.info? 184=some i/\i.bytes=32:=by
  have h:(PR.info? 184).map (·.bytes)=some 32:=by kernel_rfl
  obtain⟨i,hi,hb⟩:=Option.map_eq_some_iff.1 h;exact⟨i,hi,hb⟩
 obtain⟨i,hi,hb⟩:=hb;obtain⟨m,rfl⟩:=Int.eq_ofNat_of_zero_le h0;refine⟨_,Go.Conc.run_makeChan (P:=PR) (w:=w) (t:=182) Am1 hi .i64 m (by omega) (by rw[hb];omega),hK _ _ (El (s:=0) (r:=0) (buf:=[]) hs.allocC)⟩
theorem A7s(hs:Ab W w (blk b (Oo c d r q n lo)::GL c r::GL d q::M)):Calls PR 200 #[pq b 0] w λe w'=>e = .returned (.bool r.peek.h)/\Ab W w' (blk b (Oo c d r.peek q n lo)::GL c r.peek::GL d q::M):=by
 have hs:Ab W w (GL c r::blk b (Oo c d r q n lo)::GL d q::M):=hs.perm (List.Perm.swap _ _ _);obtain⟨s,t,hs⟩:=Lt hs;have hb:=(hs.perm (List.Perm.swap _ _ _)).cell (q:=0) (o:=4) rfl;have hb0:=(hs.perm (List.Perm.swap _ _ _)).cell (q:=0) (o:=0) rfl;cases hh:r.h with
 | true=>
  have e1:r.peek=r:=if_pos hh;rw[e1,hh];exact(Abh (o:=0) w (by rw[hb];simp[hh])).mono λe w' ⟨he,hw⟩=>⟨he,by subst hw;exact(El hs).perm (List.Perm.swap _ _ _)⟩
 | false=>
  cases hbf:r.buf with
  | nil=>
   have e1:r.peek=r:=by unfold Eh.peek;rw[if_neg (by simp[hh]),hbf]
   rw[e1,hh];have hc:=hs.objC;rw[hbf] at hc;exact(Vc (o:=0) (c:=c) w (by rw[hb];simp[hh]) (by rw[hb0];rfl) hc).mono λe w' ⟨he,hw⟩=>⟨he,by subst hw;exact(El hs).perm (List.Perm.swap _ _ _)⟩
  | cons e t=>
   have e1:r.peek={ r with k:=e.1,s:=e.2.1,n:=e.2.2,h:=true,buf:=t }:=by unfold Eh.peek;rw[if_neg (by simp[hh]),hbf]
   rw[e1];rw[hbf] at hs;refine(Vd (o:=0) (c:=c) (by simp) (by simp[hh]) rfl hs).mono λe w' ⟨he,hs⟩=>⟨he,?_⟩;exact(El hs).perm (List.Perm.swap _ _ _)
theorem A7t(hs:Ab W w (blk b (Oo c d r q n lo)::GL c r::GL d q::M)):Calls PR 200 #[pq b 5] w λe w'=>e = .returned (.bool q.peek.h)/\Ab W w' (blk b (Oo c d r q.peek n lo)::GL c r::GL d q.peek::M):=by
 have hs:Ab W w (GL d q::blk b (Oo c d r q n lo)::GL c r::M):=by exact Ab.fin hs
 obtain⟨s,t,hs⟩:=Lt hs;have hb:=(hs.perm (List.Perm.swap _ _ _)).cell (q:=0) (o:=9) rfl;have hb0:=(hs.perm (List.Perm.swap _ _ _)).cell (q:=0) (o:=5) rfl;cases hh:q.h with
 | true=>
  have e1:q.peek=q:=if_pos hh;rw[e1,hh];exact(Abh (o:=5) w (by rw[hb];simp[hh])).mono λe w' ⟨he,hw⟩=>⟨he,by subst hw;have hs:=El hs;exact Ab.fin hs⟩
 | false=>
  cases hbf:q.buf with
  | nil=>
   have e1:q.peek=q:=by unfold Eh.peek;rw[if_neg (by simp[hh]),hbf]
   rw[e1,hh];have hc:=hs.objC;rw[hbf] at hc;exact(Vc (o:=5) (c:=d) w (by rw[hb];simp[hh]) (by rw[hb0];rfl) hc).mono λe w' ⟨he,hw⟩=>⟨he,by subst hw;have hs:=El hs;exact Ab.fin hs⟩
  | cons x t=>
   have e1:q.peek={ q with k:=x.1,s:=x.2.1,n:=x.2.2,h:=true,buf:=t }:=by unfold Eh.peek;rw[if_neg (by simp[hh]),hbf]
   rw[e1];rw[hbf] at hs;refine(Vd (o:=5) (c:=d) (by simp) (by simp[hh]) rfl hs).mono λe w' ⟨he,hs⟩=>⟨he,?_⟩;have hs:=El hs;have hs:Ab W w' (chn d q.cap (t.map SV)::blk b (Oo c d r { q with k:=x.1,s:=x.2.1,n:=x.2.2,h:=true,buf:=t } n lo)::GL c r::M):=hs;exact Ab.fin hs
theorem Aai(hi:FdI r q ws)(hs:Ab W w (blk b (Oo c d r q n lo)::GL c r::GL d q::M)):BB PR 168 #[pq b 0] w λv w'=>
  ((v = .p none/\r.peek.h=false/\q.peek.h=false)\/(v=pq b 0/\r.peek.h=true)\/(v=pq b 5/\q.peek.h=true))/\Ab W w' (blk b (Oo c d r.peek q.peek n lo)::GL c r.peek::GL d q.peek::M):=by
 refine cw ⟨mixed,Tryz.func168,rfl⟩ Ao8 ?_;refine As hs λw hs=>?_;refine Aa (Aa ?_);refine An (A7s hs) λe w ⟨he,hs⟩=>⟨_,he,?_⟩;refine An (A7t hs) λe w ⟨he,hs⟩=>⟨_,he,?_⟩;have j2:∀(w:World)(t:Bool),(t=true->q.peek.h=true)->(t=false->r.peek.h=true\/q.peek.h=false)->Ab W w (blk b (Oo c d r.peek q.peek n lo)::GL c r.peek::GL d q.peek::M) ->
   Px By (λv w'=>((v = .p none/\r.peek.h=false/\q.peek.h=false)\/(v=pq b 0/\r.peek.h=true)\/(v=pq b 5/\q.peek.h=true))/\Ab W w' (blk b (Oo c d r.peek q.peek n lo)::GL c r.peek::GL d q.peek::M)) (some ⟨b,0,none⟩) r.peek.h t w:=by
  clear hs;intro w t ht hf hs;refine jw Y8 ?_;refine Al (λh1=>?_) (λh1=>?_)
  ·exact Aa ⟨.inr (.inr ⟨rfl,ht h1⟩),hs⟩
  ·refine Al (λh2=>?_) (λh2=>?_)
   ·exact Aa ⟨.inr (.inl ⟨rfl,h2⟩),hs⟩
   ·exact⟨.inl ⟨rfl,h2,(hf h1).elim (λh=>by rw[h] at h2;cases h2) id⟩,hs⟩
 have j1:∀(w:World)(t:Bool),(t=true->q.peek.h=true)->Ab W w (blk b (Oo c d r.peek q.peek n lo)::GL c r.peek::GL d q.peek::M) ->
   Pw By (λv w'=>((v = .p none/\r.peek.h=false/\q.peek.h=false)\/(v=pq b 0/\r.peek.h=true)\/(v=pq b 5/\q.peek.h=true))/\Ab W w' (blk b (Oo c d r.peek q.peek n lo)::GL c r.peek::GL d q.peek::M)) (some ⟨b,0,none⟩) r.peek.h q.peek.h t w:=by
  clear hs;intro w t ht hs;refine jw Y7 ?_;refine Al (λh1=>?_) (λh1=>?_)
  ·exact j2 w t ht (λh=>by rw[h1] at h;cases h) hs
  ·refine Al (λh2=>?_) (λh2=>?_)
   ·refine j2 w _ (λ_=>h2) (λh=>.inl (by simpa using h)) hs
   ·exact j2 w false (λh=>by cases h) (λ_=>.inr h2) hs
 refine Ao [blk b (Oo c d r.peek q.peek n lo),GL c r.peek,GL d q.peek] hs λw hs=>?_;refine Al (λh1=>?_) (λh1=>?_)
 ·refine Al (λh2=>?_) (λh2=>?_)
  ·refine Aa (Am (Aa (Ag hs (Ae hs ?_))));exact j1 w _ (λ_=>h2) hs
  ·exact Ae hs (j1 w false (λh=>by cases h) hs)
 ·exact Ae hs (j1 w false (λh=>by cases h) hs)
theorem A6y(hs:Ab W w L){x y:Int}:BB PR 75 #[.i x,.i y] w λv w'=>((0<=x/\x<=256/\1<=y/\y<=256)/\∃b,v = .tuple #[pq b 0,.i 0]/\Ab W w' (fd b []::L))\/(¬(0<=x/\x<=256/\1<=y/\y<=256)/\v = .tuple #[.p none,.i 1]/\Ab W w' L):=by
 refine cw ⟨mixed,Tryz.func75,rfl⟩ A08 ?_
 with_reducible refine A2 (λh1=>?_) (λh1=>?_)
 ·exact .inr ⟨by omega,rfl,hs⟩
 with_reducible refine A2 (λh2=>?_) (λh2=>?_)
 ·exact .inr ⟨by omega,rfl,hs⟩
 with_reducible refine A2 (λh3=>?_) (λh3=>?_)
 ·exact .inr ⟨by omega,rfl,hs⟩
 with_reducible refine A2 (λh4=>?_) (λh4=>?_)
 ·exact .inr ⟨by omega,rfl,hs⟩
 refine jw Aez ?_;have fin:∀(w:World)(c d:Nat),Ab W w (chn c x.toNat []::chn d y.toNat []::L)->∀b,∀w',Ab W w' (blk b (Oo c d ⟨0,Af,0,false,x.toNat,[]⟩ ⟨0,Af,0,false,y.toNat,[]⟩ 0 0)::chn c x.toNat []::chn d y.toNat []::L)->Ab W w' (fd b []::L):=λw c d _ b w' h=>
  JL (r:=⟨0,Af,0,false,x.toNat,[]⟩) (q:=⟨0,Af,0,false,y.toNat,[]⟩) ⟨by simp[Eh.evs],by simp[Eh.evs],rfl,⟨by simp,by show x.toNat<=256;omega⟩,⟨by simp,by show y.toNat<=256;omega⟩,by show 1<=y.toNat;omega⟩ h
 refine As hs λw hs=>⟨?_,?_⟩
 ·refine Qk (by omega) (by omega) hs λc w hs=>?_;refine Qk (by omega) (by omega) hs λd w hs=>?_;have hs:Ab W w (chn c x.toNat []::chn d y.toNat []::L):=hs.perm (List.Perm.swap _ _ _);refine Ah hs λb w' hs'=>.inl ⟨by omega,b,rfl,fin w c d hs b w' hs'⟩
 ·refine Qk (by omega) (by omega) hs λd w hs=>?_;refine Qk (by omega) (by omega) hs λc w hs=>?_;refine Ah hs λb w' hs'=>.inl ⟨by omega,b,rfl,fin w c d hs b w' hs'⟩
theorem A1w(hz:key.size<64)(hs:Ab W w (fd b ws::M)):BB PR 86 #[pq b 0,.s key] w λv w'=>∃t:Bool,v = .b t/\Ab W w' (fd b ws::M):=by
 refine cw ⟨mixed,Tryz.func86,rfl⟩ A1j ?_;obtain⟨c,d,r,q,n,lo,hi,hs⟩:=WJ hs;refine Ac rfl (Aa ?_);have hs:Ab W w (GL c r::blk b (Oo c d r q n lo)::GL d q::M):=hs.perm (List.Perm.swap _ _ _);obtain⟨s,t,hs⟩:=Lt hs
 by_cases hr:r.buf.length<r.cap
 ·refine An (SB (o:=0) (c:=c) (kd:=1) (key:=key) (n:=n) (by simp) rfl rfl (by simpa using hr) hs) λe w ⟨he,hs⟩=>⟨_,he,Ac rfl ?_⟩;have hs:=El hs;have hs:Ab W w (GL c { r with buf:=r.buf++[(1,key,n)] }::blk b (Oo c d { r with buf:=r.buf++[(1,key,n)] } q (IntKind.wrap .i64 (n+1)) lo)::GL d q::M):=by
   have e1:r.buf.map SV++[SV (1,key,n)]=(r.buf++[(1,key,n)]).map SV:=by simp
   show Ab W w (chn c r.cap ((r.buf++[(1,key,n)]).map SV)::_);rw[<- e1];exact hs
  refine⟨true,rfl,JL (r:={ r with buf:=r.buf++[(1,key,n)] }) (q:=q) ⟨λe he=>?_,hi.wr,hi.eq,⟨by simp;omega,hi.c1.2⟩,hi.c2,hi.c3⟩ (hs.perm (List.Perm.swap _ _ _))⟩;have he2:e∈r.evs\/e=(1,key):=by simpa[Eh.evs,or_assoc] using he
  rcases he2 with h|rfl
  ·exact hi.rd e h
  ·exact⟨rfl,hz⟩
 ·refine An (SA (o:=0) (c:=c) (kd:=1) (key:=key) (n:=n) rfl rfl (by simpa using hr) hs) λe w ⟨he,hw⟩=>⟨_,he,Ak rfl ?_⟩;subst hw;have hs:=(El hs).perm (List.Perm.swap _ _ _);have hs:Ab W w (blk b (Oo c d r q n lo)::GL c r::GL d q::M):=hs;refine Aa (Ag hs (Aa (A0 hs λw hs=>?_)));exact⟨false,rfl,JL hi hs⟩
theorem Aah{kd:Int}(hkd:kd=2\/kd=3)(hz:key.size<64)(hs:Ab W w (fd b ws::M)):BB PR 128 #[pq b 0,.i kd,.s key] w λv w'=>(v = .b true/\Ab W w' (fd b (ws++[(kd,key)])::M))\/(ws≠[]/\v = .b false/\Ab W w' (fd b ws::M)):=by
 refine cw ⟨mixed,Tryz.func128,rfl⟩ An9 ?_;have j1:VL By (λv w'=>(v = .b true/\Ab W w' (fd b (ws++[(kd,key)])::M))\/(ws≠[]/\v = .b false/\Ab W w' (fd b ws::M))) (some ⟨b,0,none⟩) kd key w:=by
  refine jw Yo ?_;obtain⟨c,d,r,q,n,lo,hi,hs⟩:=WJ hs;refine Aa ?_;have hs:Ab W w (GL d q::blk b (Oo c d r q n lo)::GL c r::M):=by exact Ab.fin hs
  obtain⟨s,t,hs⟩:=Lt hs
  by_cases hr:q.buf.length<q.cap
  ·refine An (SB (o:=5) (c:=d) (kd:=kd) (key:=key) (n:=n) (by simp) rfl rfl (by simpa using hr) hs) λe w ⟨he,hs⟩=>⟨_,he,?_⟩;have hs:=El hs;have hs:Ab W w (GL d { q with buf:=q.buf++[(kd,key,n)] }::blk b (Oo c d r { q with buf:=q.buf++[(kd,key,n)] } (IntKind.wrap .i64 (n+1)) lo)::GL c r::M):=by
    have e1:q.buf.map SV++[SV (kd,key,n)]=(q.buf++[(kd,key,n)]).map SV:=by simp
    show Ab W w (chn d q.cap ((q.buf++[(kd,key,n)]).map SV)::_);rw[<- e1];exact hs
   have ev:({ q with buf:=q.buf++[(kd,key,n)] }:Eh).evs=ws++[(kd,key)]:=by rw[<- hi.eq];simp[Eh.evs]
   refine .inl ⟨rfl,JL (r:=r) (q:={ q with buf:=q.buf++[(kd,key,n)] }) ⟨hi.rd,λe he=>?_,ev,hi.c1,⟨by simp;omega,hi.c2.2⟩,hi.c3⟩ (by exact Ab.fin hs)⟩;rw[ev,List.mem_append,List.mem_singleton] at he;rcases he with h|rfl
   ·exact hi.wr e (by rw[hi.eq];exact h)
   ·exact⟨by show kd≠1;omega,hz⟩
  ·refine An (SA (o:=5) (c:=d) (kd:=kd) (key:=key) (n:=n) rfl rfl (by simpa using hr) hs) λe w ⟨he,hw⟩=>⟨_,he,?_⟩;subst hw;have hs:=El hs;refine .inr ⟨λh0=>?_,rfl,JL hi (by exact Ab.fin hs)⟩;have h1:=hi.eq;rw[h0] at h1;have h2:=hi.c3;have h3:q.buf=[]:=by
    have:=(List.append_eq_nil_iff.1 h1).2;simpa using this
   rw[h3] at hr;simp at hr;omega
 refine Ac rfl ?_;refine Al (λh1=>?_) (λ_=>j1);refine Al (λh2=>?_) (λ_=>j1);have h1:kd≠2:=by simpa using h1
 have h2:kd≠3:=by simpa using h2
 omega
theorem Asq(hs:Ab W w (fd b ws::M)):BB PR 129 #[pq b 0] w λv w'=>∃(l:Sl) (evs:List Ev),v = .l l.a l.n l.c/\evs.filter (λe=>decide (e.1≠1))=ws/\(∀e∈evs,e.2.size<64)/\evs.length<=520/\Ab W w' (fd b []::recs Gr l evs::M):=by
 refine cw ⟨mixed,Tryz.func129,rfl⟩ Aoa ?_;obtain⟨c,d,r,q,n,lo,hi,hs⟩:=WJ hs;refine Ac rfl ?_;refine Ai (Aai hi hs) λv w ⟨hv,hs⟩=>?_;have hi:=hi.peek;have hl:∀r:Eh,r.buf.length<=r.cap/\r.cap<=256->r.evs.length<=257:=λr h=>by
  unfold Eh.evs;rw[List.length_append,List.length_map];split <;> simp <;> omega
 have hlr:=hl _ hi.c1;have hlq:=hl _ hi.c2;have hs:=Ab.nilR Gr hs;have loop:∀(m:Nat)(w:World)(r q:Eh)(l4:OA)(acc:Sl)(evs:List Ev)(wq:List Ev),FdI r q wq->r.evs.length+q.evs.length=m->evs.length+m<=514 ->
   ((l4=none/\r.h=false/\q.h=false/\r.evs=[]/\q.evs=[])\/(l4=some ⟨b,0,none⟩/\r.h=true)\/(l4=some ⟨b,5,none⟩/\q.h=true))->evs.filter (λe=>decide (e.1≠1))++wq=ws->(∀e∈evs,e.2.size<64) ->
   Ab W w (recs Gr acc evs::blk b (Oo c d r q n lo)::GL c r::GL d q::M) ->
   L0 By (λv w'=>∃(l:Sl) (evs:List Ev),v = .l l.a l.n l.c/\evs.filter (λe=>decide (e.1≠1))=ws/\(∀e∈evs,e.2.size<64)/\evs.length<=520/\Ab W w' (fd b []::recs Gr l evs::M)) (m+1) (some ⟨b,0,none⟩) acc l4 w:=by
  clear hs hv hlr hlq hi;intro m
  induction m with
  | zero=>
   intro w r q l4 acc evs wq hi hm hlen h4 hw hsz hs;rw[Nj];have h1:r.evs=[]:=List.length_eq_zero_iff.1 (by omega);have h2:q.evs=[]:=List.length_eq_zero_iff.1 (by omega);have h3:l4=none:=by
    rcases h4 with h|⟨_,h⟩|⟨_,h⟩
    ·exact h.1
    ·rw[JW h] at h1;cases h1
    ·rw[JW h] at h2;cases h2
   subst h3;refine Ac rfl ?_;refine jw Yp ?_;have h5:wq=[]:=by rw[<- hi.eq];exact h2
   subst h5;exact⟨acc,evs,rfl,by rw[List.append_nil] at hw;exact hw,hsz,by omega,by have hs2:=JL (M:=recs Gr acc evs::M) hi (by exact Ab.fin hs);exact hs2⟩
  | succ m ih=>
   intro w r q l4 acc evs wq hi hm hlen h4 hw hsz hs;rw[Nj];have next:∀(w:World)(r q:Eh)(acc:Sl)(evs wq:List Ev),FdI r q wq->r.evs.length+q.evs.length=m->evs.length+m<=514->evs.filter (λe=>decide (e.1≠1))++wq=ws->(∀e∈evs,e.2.size<64)->Ab W w (blk b (Oo c d r q n lo)::GL c r::GL d q::recs Gr acc evs::M) ->
     (call1 .ptr PR 168 [pq b 0] λ(x_10:OA)=>L0 By (λv w'=>∃(l:Sl) (evs:List Ev),v = .l l.a l.n l.c/\evs.filter (λe=>decide (e.1≠1))=ws/\(∀e∈evs,e.2.size<64)/\evs.length<=520/\Ab W w' (fd b []::recs Gr l evs::M)) (m+1) (some ⟨b,0,none⟩) acc x_10) w:=by
    clear hs hi hm hlen h4 hw hsz;intro w r q acc evs wq hi hm hlen hw hsz hs;refine Ai (Aai hi hs) λv w ⟨hv,hs⟩=>?_;rcases hv with⟨hv,h1,h2⟩|⟨hv,h1⟩|⟨hv,h1⟩
    ·exact⟨none,hv,ih w r.peek q.peek none acc evs wq hi.peek (by rw[D7,D7];exact hm) hlen (.inl ⟨rfl,h1,h2,by rw[D7];exact Ql h1,by rw[D7];exact Ql h2⟩) hw hsz (by exact Ab.fin hs)⟩
    ·exact⟨some ⟨b,0,none⟩,hv,ih w r.peek q.peek _ acc evs wq hi.peek (by rw[D7,D7];exact hm) hlen (.inr (.inl ⟨rfl,h1⟩)) hw hsz (by exact Ab.fin hs)⟩
    ·exact⟨some ⟨b,5,none⟩,hv,ih w r.peek q.peek _ acc evs wq hi.peek (by rw[D7,D7];exact hm) hlen (.inr (.inr ⟨rfl,h1⟩)) hw hsz (by exact Ab.fin hs)⟩
   rcases h4 with⟨_,_,_,h1,h2⟩|⟨rfl,h1⟩|⟨rfl,h1⟩
   ·rw[h1,h2] at hm;simp at hm
   ·have ht:=JW h1;have hin:=hi.rd (r.k,r.s) (by rw[ht];exact .head _)
    refine Ak rfl ?_;refine Aa (Ag hs (Ag hs ?_));refine Ah hs λnb w hs=>?_;refine Cf (E:=Gr) (s:=acc) (a:=(r.k,r.s)) hs rfl rfl rfl rfl (by decide) (by omega) λs2 w hs2 hs=>?_;refine Aa (A0 hs λw hs=>?_);refine next w { r with h:=false } q s2 (evs++[(r.k,r.s)]) wq ⟨λe he=>hi.rd e (by rw[ht];exact .tail _ he),hi.wr,hi.eq,hi.c1,hi.c2,hi.c3⟩ (by rw[ht] at hm;simp only[List.length_cons] at hm;omega) (by simp;omega) ?_ (λe he=>?_) (by exact Ab.fin hs)
    ·rw[List.filter_append];have hin1:r.k=1:=hin.1;have:[(r.k,r.s)].filter (λe:Ev=>decide (e.1≠1))=[]:=by simp[hin1]
     rw[this,List.append_nil];exact hw
    ·rw[List.mem_append,List.mem_singleton] at he;rcases he with h|rfl
     ·exact hsz e h
     ·exact hin.2
   ·have ht:=JW h1;have hin:=hi.wr (q.k,q.s) (by rw[ht];exact .head _)
    have heq:=hi.eq;rw[ht] at heq;refine Ak rfl ?_;refine Aa (Ag hs (Ag hs ?_));refine Ah hs λnb w hs=>?_;refine Cf (E:=Gr) (s:=acc) (a:=(q.k,q.s)) hs rfl rfl rfl rfl (by decide) (by omega) λs2 w hs2 hs=>?_;refine Aa (A0 hs λw hs=>?_);refine next w r { q with h:=false } s2 (evs++[(q.k,q.s)]) ({ q with h:=false }:Eh).evs ⟨hi.rd,λe he=>hi.wr e (by rw[ht];exact .tail _ he),rfl,hi.c1,hi.c2,hi.c3⟩ (by rw[ht] at hm;simp only[List.length_cons] at hm;omega) (by simp;omega) ?_ (λe he=>?_) (by exact Ab.fin hs)
    ·rw[List.filter_append];have hin1:q.k≠1:=hin.1;have:[(q.k,q.s)].filter (λe:Ev=>decide (e.1≠1))=[(q.k,q.s)]:=by simp[hin1]
     rw[this,List.append_assoc,List.singleton_append,heq];exact hw
    ·rw[List.mem_append,List.mem_singleton] at he;rcases he with h|rfl
     ·exact hsz e h
     ·exact hin.2
 have hw0:([]:List Ev).filter (λe=>decide (e.1≠1))++ws=ws:=rfl;rcases hv with⟨hv,h1,h2⟩|⟨hv,h1⟩|⟨hv,h1⟩
 ·exact⟨none,hv,AR _ (loop _ w r.peek q.peek none _ [] ws hi rfl (by simp only[List.length_nil];omega) (.inl ⟨rfl,h1,h2,by rw[D7];exact Ql h1,by rw[D7];exact Ql h2⟩) hw0 (by simp) hs)⟩
 ·exact⟨some ⟨b,0,none⟩,hv,AR _ (loop _ w r.peek q.peek _ _ [] ws hi rfl (by simp only[List.length_nil];omega) (.inr (.inl ⟨rfl,h1⟩)) hw0 (by simp) hs)⟩
 ·exact⟨some ⟨b,5,none⟩,hv,AR _ (loop _ w r.peek q.peek _ _ [] ws hi rfl (by simp only[List.length_nil];omega) (.inr (.inr ⟨rfl,h1⟩)) hw0 (by simp) hs)⟩
end
end Go.Proofs.YtjipofkjmmpjdaaGreat
