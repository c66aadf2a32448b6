/- For every argument hoardtop.TopDeletes returns true, and each argument reads behind the call as it read before. No condition. -/
import Derived.KernelRfl
import Derived.Test.YtjipofkjmmpjdaaGreatRows
import Derived.Test.YtjipofkjmmpjdaaGreatQDeletes4
set_option linter.unusedVariables false
set_option linter.unusedSimpArgs false
set_option linter.unnecessarySimpa false
set_option linter.unusedSectionVars false
set_option maxRecDepth 100000
namespace Go.Hb
abbrev cD(b tb fb mb:Nat)(x0 x1 x2 x3 x4 x5:Int)(s:Sl):HP:=blk b [pq tb 0,pq fb 0,pq mb 0,.i x0,.i x1,.i x2,.i x3,.i x4,.i x5,.l s.a s.n s.c]
structure Ahi(x0 x1 x2 x3 x4 x5:Int):Prop where
 h0:0<=x0
 h1:0<=x1
 h2:0<=x2
 h3:0<=x3
 h4:0<=x4
 h5:0<=x5
structure MT(c:Int)(n:Nat)(T:TT)(l:List Ev)(R:BL)(evs:List Ev):Prop where
 tok:L7 T
 small:∀e∈T,e.1.size<=40
 len:(T.length:Int)<=c
 n:evs.length<=n
 sim:TE c R l (kT T)
def OJ(b:Nat)(c:Int)(T:TT)(l:List Ev)(kd:Int)(o:Option Nat)(R:BL)(evs:List Ev):HP:=JM λ(z:(Nat×Nat×Nat×Sl)×(Int×Int×Int×Int×Int×Int))=>EA (Ahi z.2.1 z.2.2.1 z.2.2.2.1 z.2.2.2.2.1 z.2.2.2.2.2.1 z.2.2.2.2.2.2)
 (AJ [cD b z.1.1 z.1.2.1 z.1.2.2.1 z.2.1 z.2.2.1 z.2.2.2.1 z.2.2.2.2.1 z.2.2.2.2.2.1 z.2.2.2.2.2.2 z.1.2.2.2,tabR z.1.1 T,fd z.1.2.1 l,Fq z.1.2.2.1 kd c R o,recs F0 z.1.2.2.2 evs])
def sd(b:Nat)(c:Int)(n:Nat)(T:TT)(kd:Int)(o:Option Nat):HP:=JM λ(z:List Ev×BL×List Ev)=>EA (MT c n T z.1 z.2.1 z.2.2) (OJ b c T z.1 kd o z.2.1 z.2.2)
section
variable{W w:World}{M L:List HP}{b:Nat}{c:Int}{T:TT}{l evs:List Ev}{kd:Int}{o:Option Nat}{R:BL}{n:Nat}
theorem Cb(h:Ab W w (OJ b c T l kd o R evs::M)):∃(tb fb mb:Nat) (s:Sl) (x0 x1 x2 x3 x4 x5:Int),Ahi x0 x1 x2 x3 x4 x5/\Ab W w (cD b tb fb mb x0 x1 x2 x3 x4 x5 s::tabR tb T::fd fb l::Fq mb kd c R o::recs F0 s evs::M):=by
 obtain⟨⟨⟨tb,fb,mb,s⟩,⟨x0,x1,x2,x3,x4,x5⟩⟩,h⟩:=h.openE;obtain⟨hp,h⟩:=h.openA;exact⟨tb,fb,mb,s,x0,x1,x2,x3,x4,x5,hp,h.openL⟩
theorem Bq{tb fb mb:Nat}{s:Sl}{x0 x1 x2 x3 x4 x5:Int}(hc:Ahi x0 x1 x2 x3 x4 x5)(h:Ab W w (cD b tb fb mb x0 x1 x2 x3 x4 x5 s::tabR tb T::fd fb l::Fq mb kd c R o::recs F0 s evs::M)):Ab W w (OJ b c T l kd o R evs::M):=
 Ab.shutE ((tb,fb,mb,s),(x0,x1,x2,x3,x4,x5)) (Ab.shutA hc (Ab.shutL (Ps:=[_,_,_,_,_]) h))
theorem Ep(h:Ab W w (OJ b c T l kd o R evs::M)):Dj c R/\(0<=kd/\kd<5)/\∀n,o=some n->n<=R.length:=by
 obtain⟨tb,fb,mb,s,x0,x1,x2,x3,x4,x5,_,hs⟩:=Cb h;have hs:Ab W w (Fq mb kd c R o::M):=by exact Ab.fin hs
 exact⟨MG hs,Axr hs,λn h=>Awe hs h⟩
theorem DJ(h:Ab W w (sd b c n T kd o::M)):∃(l:List Ev) (R:BL) (evs:List Ev),MT c n T l R evs/\Ab W w (OJ b c T l kd o R evs::M):=by
 obtain⟨⟨l,R,evs⟩,h⟩:=h.openE;obtain⟨hp,h⟩:=h.openA;exact⟨l,R,evs,hp,h⟩
theorem Cy(hi:MT c n T l R evs)(h:Ab W w (OJ b c T l kd o R evs::M)):Ab W w (sd b c n T kd o::M):=Ab.shutE (l,R,evs) (Ab.shutA hi h)
instance:OkR F0:=⟨λ_=>rfl⟩
theorem F9{a b:Int}(h:0<=a):0<=Go.Proofs.YtjipofkjmmpjdaaGreat.EB a b:=by unfold Go.Proofs.YtjipofkjmmpjdaaGreat.EB;split <;> omega
theorem Jq.trans{a b c:Option Nat}(h1:Jq a b)(h2:Jq b c):Jq a c:=by
 cases a <;> cases b <;> cases c <;> simp[Jq] at * <;> omega
def wrF(l:List Ev):List Ev:=l.filter λe=>decide (e.1≠1)
end
end Go.Hb
namespace Go.Proofs.YtjipofkjmmpjdaaGreat
open Go.Hb Go.IntWalk
section
variable{W w:World}{L M:List HP}{b:Nat}{c:Int}{T:TT}{l evs:List Ev}{kd:Int}{o:Option Nat}{R:BL}{n:Nat}{key val:BA}{now life:Int}
theorem GP{i:Nat}{cs:List Value}{x:Int}(hs:Ab W w (blk b cs::L))(hc:cs[i]? = some (.i x))(hx:0<=x):Calls PR 84 #[pq b i] w λe w'=>e = .returned (.tuple #[])/\Ab W w' (blk b (cs.set i (.i (EB x 1099511627776)))::L):=by
 refine c1 (cw ⟨mixed,Tryz.func84,rfl⟩ Au8 ?_);refine Aa (Ag hs ?_ (hc:=hc));refine An (Ip hs (by omega) (by omega)) λe w ⟨he,hs⟩=>⟨_,he,?_⟩;have hlt:i<cs.length:=(List.getElem?_eq_some_iff.1 hc).1;exact Aa (HS 0 hs rfl hlt λw hs=>⟨rfl,hs⟩)
theorem OM{sg:Sl}{g:BL}(ht:L7 T)(hl:T.length<1000000)(hg:g.length<1000000)(hz:∀x∈g,x.size<64)(hs:Ab W w (OJ b c T l kd o R evs::recs Am.str sg g::M)) :
  Ba PR 95 #[pq b 0,.l sg.a sg.n sg.c] w λv w'=>v = .tuple #[]/\Ab W w' (OJ b c (AB T g) l kd o R evs::recs Am.str sg g::M):=by
 refine cw ⟨mixed,Tryz.func95,rfl⟩ Avj ?_;have hn:=BE (s:=sg) (E:=Am.str) (rows:=g) hs;have loop:∀(f i:Nat)(w:World),i+f=g.length->Ab W w (OJ b c (AB T (g.take i)) l kd o R evs::recs Am.str sg g::M) ->
   Pz Bg (λv w'=>v = .tuple #[]/\Ab W w' (OJ b c (AB T g) l kd o R evs::recs Am.str sg g::M)) (f+1) (some ⟨b,0,none⟩) sg (sg.n:Int) (i:Int) w:=by
  clear hs;intro f
  induction f with
  | zero=>
   intro i w hi hs;rw[P0];refine Ac (decide_eq_false (by omega)) ?_;rw[List.take_of_length_le (by omega)] at hs;exact⟨rfl,hs⟩
  | succ f ih=>
   intro i w hi hs;rw[P0];refine Al (decide_eq_true (by omega)) ?_;obtain⟨tb,fb,mb,s,x0,x1,x2,x3,x4,x5,hc,hs⟩:=Cb hs;refine Cn (s:=sg) (E:=Am.str) (rows:=g) hs λb_ o_ ha_=>?_;refine C6 (s:=sg) (E:=Am.str) (rows:=g) ha_ hs ?_;rw[Int.toNat_natCast];refine Aa (Ag hs ?_);have ht2:L7 (AB T (g.take i)):=Eg ht;have hl2:=Js (g:=g.take i) ht;have e1:AB T (g.take (i+1))=Eo (AB T (g.take i)) (g.getD i default):=by
    unfold AB;rw[Cc (by omega),List.foldl_append];rfl
   have hz1:=hz _ (GS (d:=default) (show i<g.length by omega));have hs:Ab W w (tabR tb (AB T (g.take i))::cD b tb fb mb x0 x1 x2 x3 x4 x5 s::fd fb l::Fq mb kd c R o::recs F0 s evs::recs Am.str sg g::M):=by exact Ab.fin hs
   refine An (QK (k:=g.getD i default) hs (by omega) (by omega)) λe w ⟨he,hs⟩=>⟨_,he,?_⟩;rw[<- e1] at hs;have hs:Ab W w (cD b tb fb mb x0 x1 x2 x3 x4 x5 s::tabR tb (AB T (g.take (i+1)))::fd fb l::Fq mb kd c R o::recs F0 s evs::recs Am.str sg g::M):=by exact Ab.fin hs
   rw[show IntKind.wrap .i64 ((i:Int)+1)=((i+1:Nat):Int) by rw[i64_in _ (by omega)];omega];refine Ao (λ_=>?_) (λ_=>?_)
   ·refine Aa ?_;refine As (GP hs rfl hc.h3) λe w ⟨he,hs⟩=>⟨he,?_⟩;exact ih (i+1) w (by omega) (Bq ⟨hc.h0,hc.h1,hc.h2,F9 hc.h3,hc.h4,hc.h5⟩ hs)
   ·exact ih (i+1) w (by omega) (Bq hc hs)
 exact AO _ (loop g.length 0 w (by omega) hs)
theorem FH{K:BL}(ht:L7 T)(hl:T.length<1000000)(hn:evs.length<1000000000000)(hsim:TE c R l K)(hs:Ab W w (OJ b c T l kd o R evs::M)) :
  Ba PR 93 #[pq b 0] w λv w'=>∃(m:Int) (S:BL) (o':Option Nat) (evs':List Ev),v = .i m/\(∀x,x∈S↔x∈K)/\Jq o' o/\evs'.length<=evs.length+520/\Ab W w' (OJ b c T [] kd o' S evs'::M):=by
 refine cw ⟨mixed,Tryz.func93,rfl⟩ Avh ?_;obtain⟨tb,fb,mb,s,x0,x1,x2,x3,x4,x5,hc,hs⟩:=Cb hs;refine Aa (Ag hs ?_);have hs:Ab W w (fd fb l::cD b tb fb mb x0 x1 x2 x3 x4 x5 s::tabR tb T::Fq mb kd c R o::recs F0 s evs::M):=by exact Ab.fin hs
 refine Ah (Am9 hs) λv w ⟨sl,D,hv,hf,hDz,hDl,hs⟩=>⟨_,hv,?_⟩;have hs:Ab W w (cD b tb fb mb x0 x1 x2 x3 x4 x5 s::tabR tb T::fd fb []::Fq mb kd c R o::recs F0 s evs::recs F0 sl D::M):=by exact Ab.fin hs
 have hs:=Bq hc hs;have hsn:=BE (s:=sl) (E:=F0) (rows:=D) hs;have hf:wrF D=l:=hf;have loop:∀(f i:Nat)(w:World)(S:BL)(o':Option Nat),i+f=D.length->Jq o' o->TE c S (wrF (D.drop i)) K->Ab W w (OJ b c T [] kd o' S evs::recs F0 sl D::M) ->
   UN Bg (λv w'=>∃(m:Int) (S:BL) (o':Option Nat) (evs':List Ev),v = .i m/\(∀x,x∈S↔x∈K)/\Jq o' o/\evs'.length<=evs.length+520/\Ab W w' (OJ b c T [] kd o' S evs'::M)) (f+1) (some ⟨b,0,none⟩) sl sl (sl.n:Int) (i:Int) w:=by
  clear hs;intro f
  induction f with
  | zero=>
   intro i w S o' hi ho hsim hs;rw[Pv];refine Ac (decide_eq_false (by omega)) ?_;refine jw ZW ?_;rw[List.drop_eq_nil_of_le (by omega)] at hsim;have hm:∀x,x∈S↔x∈K:=hsim;clear hc;obtain⟨tb,fb,mb,s,x0,x1,x2,x3,x4,x5,hc,hs⟩:=Cb hs;refine Aa (Ag (x:=s) hs ?_);refine FJ (s:=s) (E:=F0) (new:=D) hs (FU (s:=sl) hs) (BE (s:=sl) (E:=F0) hs) (CS _) rfl (by decide) (by omega) λs2 w hs2 hs=>?_;refine Aa (A4 hs λw hs=>?_);exact⟨_,S,o',evs++D,rfl,hm,ho,by rw[List.length_append];omega,Bq (s:=s2) hc (by exact Ab.fin hs)⟩
  | succ f ih=>
   intro i w S o' hi ho hsim hs;rw[Pv];refine Al (decide_eq_true (by omega)) ?_;have hil:i<D.length:=by omega
   have hd:D.drop i=D.getD i default::D.drop (i+1):=by
    rw[List.drop_eq_getElem_cons hil,List.getD_eq_getElem?_getD,List.getElem?_eq_getElem hil];rfl
   rw[hd] at hsim;have hz:=hDz _ (GS (d:=default) hil);have hkS:=(Ep hs).1;refine Cn (s:=sl) (E:=F0) (rows:=D) hs λb_ o_ ha_=>?_;refine C6 (s:=sl) (E:=F0) (rows:=D) ha_ hs (Lp (s:=sl) (E:=F0) (rows:=D) ha_ hs ?_ (hc:=rfl)) (hc:=rfl);rw[Int.toNat_natCast];generalize D.getD i default=ev at *;obtain⟨R',hev,hsim2⟩:∃R',YV c S ev R'/\TE c R' (wrF (D.drop (i+1))) K:=by
    by_cases h1:ev.1=1
    ·have e1:wrF (ev::D.drop (i+1))=wrF (D.drop (i+1)):=by unfold wrF;rw[List.filter_cons_of_neg (by simp[h1])]
     rw[e1] at hsim;exact⟨S,⟨hkS,λx=>by rw[if_neg (by omega),if_neg (by omega)]⟩,hsim⟩
    ·have e1:wrF (ev::D.drop (i+1))=ev::wrF (D.drop (i+1)):=by unfold wrF;rw[List.filter_cons_of_pos (by simp[h1])]
     rw[e1] at hsim;obtain⟨_,R',h2,h3⟩:=hsim;exact⟨R',h2,h3⟩
   clear hc;obtain⟨tb,fb,mb,s,x0,x1,x2,x3,x4,x5,hc,hs⟩:=Cb hs;refine Ai hs λnb w hs=>?_;refine A4 hs λw hs=>A4 hs λw hs=>?_;refine Ak [cD b tb fb mb x0 x1 x2 x3 x4 x5 s] hs λw hs=>?_;refine Aa (Ar (Ag hs (Ag hs (Af hs ?_))));have hs:Ab W w (Fq mb kd c S o'::cD b tb fb mb x0 x1 x2 x3 x4 x5 s::tabR tb T::fd fb []::recs F0 s evs::recs F0 sl D::M):=by exact Ab.fin hs
   refine Ah (Aoj hz hev hs) λv w ⟨ge,S2,o2,hv,hm,ho2,hs⟩=>⟨_,hv,?_⟩;have hs:Ab W w (cD b tb fb mb x0 x1 x2 x3 x4 x5 s::tabR tb T::fd fb []::Fq mb kd c S2 o2::recs F0 s evs::recs Am.str ge []::recs F0 sl D::M):=by exact Ab.fin hs
   have hs:=Bq hc hs;refine AX (OM ht hl (by simp) (by simp) hs) λv w ⟨hv,hs⟩=>⟨hv,?_⟩;have hs:Ab W w (OJ b c T [] kd o2 S2 evs::recs Am.str ge []::recs F0 sl D::M):=hs;rw[show IntKind.wrap .i64 ((i:Int)+1)=((i+1:Nat):Int) by rw[i64_in _ (by omega)];omega]
   exact ih (i+1) w S2 o2 (by omega) (ho2.trans ho) (hsim2.left λx=>(hm x).symm) (by exact Ab.fin hs)
 refine AO _ (loop D.length 0 w R o (by omega) Jq.refl (by rw[List.drop_zero,hf];exact hsim) hs)
theorem Q8{kk:Int}(hkd:kk=2\/kk=3){K:BL}(ht:L7 T)(hl:T.length<1000000)(hn:evs.length<1000000000000)(hz:key.size<64)(hsim:TE c R l K)(hev:YV c K (kk,key) (kT T))(hs:Ab W w (OJ b c T l kd o R evs::M)) :
  Ba PR 92 #[pq b 0,.i kk,.s key] w λv w'=>v = .tuple #[]/\∃(l':List Ev) (S:BL) (o':Option Nat) (evs':List Ev),evs'.length<=evs.length+520/\TE c S l' (kT T)/\Jq o' o/\Ab W w' (OJ b c T l' kd o' S evs'::M):=by
 refine cw ⟨mixed,Tryz.func92,rfl⟩ Avg ?_;obtain⟨tb,fb,mb,s,x0,x1,x2,x3,x4,x5,hc,hs⟩:=Cb hs;refine Aa (Ag hs ?_);have hs:Ab W w (fd fb l::cD b tb fb mb x0 x1 x2 x3 x4 x5 s::tabR tb T::Fq mb kd c R o::recs F0 s evs::M):=by exact Ab.fin hs
 refine Ah (XU hkd hz hs) λv w h=>?_;rcases h with⟨hv,hs⟩|⟨_,hv,hs⟩
 ·refine⟨_,hv,Ac rfl ?_⟩;exact⟨rfl,l++[(kk,key)],R,o,evs,by omega,hsim.snoc hz hev,Jq.refl,Bq hc (by exact Ab.fin hs)⟩
 ·refine⟨_,hv,Al rfl ?_⟩;have hs:Ab W w (OJ b c T l kd o R evs::M):=Bq hc (by exact Ab.fin hs);refine Ah (FH ht hl hn hsim hs) λv w ⟨m,S,o',evs',hv,hm,ho,hle,hs⟩=>⟨_,hv,?_⟩;clear hc;obtain⟨tb,fb,mb,s,x0,x1,x2,x3,x4,x5,hc,hs⟩:=Cb hs;refine Aa (Ag hs ?_);have hs:Ab W w (fd fb []::cD b tb fb mb x0 x1 x2 x3 x4 x5 s::tabR tb T::Fq mb kd c S o'::recs F0 s evs'::M):=by exact Ab.fin hs
  refine Ah (XU hkd hz hs) λv w h=>?_;rcases h with⟨hv,hs⟩|⟨h1,hv,hs⟩
  ·refine⟨_,hv,rfl,[(kk,key)],S,o',evs',hle,?_,ho,Bq hc (by exact Ab.fin hs)⟩;exact⟨hz,kT T,hev.congr λx=>(hm x).symm,λ_=>Iff.rfl⟩
  ·exact absurd rfl h1
theorem Zn:AB T [key]=Eo T key:=rfl
abbrev sdL(b:Nat)(c:Int)(n:Nat)(T:TT)(kd:Int)(o:Option Nat)(W w:World)(M:List HP):Prop:=∃o',Jq o' o/\Ab W w (sd b c n T kd o'::M)
theorem Abs{tb fb mb:Nat}{s:Sl}{x0 x1 x2 x3 x4 x5:Int}(hi:MT c n T l R evs)(hc:Ahi x0 x1 x2 x3 x4 x5)(h:tOv T key now=false)(hs:Ab W w (cD b tb fb mb x0 x1 x2 x3 x4 x5 s::tabR tb T::fd fb l::Fq mb kd c R o::recs F0 s evs::M)) :
  ∃s:Sl,Value.slice none 0 0 = .l s.a s.n s.c/\sdL b c (n+520) (BW T key now) kd o W w (recs Am.str s (CF T key now)::M):=by
 have e1:BW T key now=T:=by unfold BW;rw[h];rfl
 have e2:CF T key now=[]:=by unfold CF;rw[h];rfl
 rw[e1,e2];have hnn:=hi.n;have hs:=Cy (n:=n+520) ⟨hi.tok,hi.small,hi.len,by omega,hi.sim⟩ (Bq hc hs);have hs:=Ab.nilR Am.str hs;exact⟨⟨none,0,0⟩,rfl,o,Jq.refl,by exact Ab.fin hs⟩
theorem Ap8(hi:MT c n T l R evs)(hn:n<900000000000)(hkz:key.size<=40)(hov:tOv T key now=true)(hs:Ab W w (OJ b c T l kd o R evs::M)) :
  Am4 Bg (λv w'=>∃s:Sl,v = .l s.a s.n s.c/\sdL b c (n+520) (BW T key now) kd o W w' (recs Am.str s (CF T key now)::M)) (some ⟨b,0,none⟩) key w:=by
 have hkR:=(Ep hs).1;have hc1:=hkR.c1;have hc2:=hkR.c2;have hTl:=hi.len;have hnn:=hi.n
 refine jw ZO ?_;have e1:BW T key now=Eo T key:=by unfold BW;rw[hov];rfl
 have e2:CF T key now=[key]:=by unfold CF;rw[hov];rfl
 rw[e1,e2];refine Ai hs λnb w hs=>?_;have hs:=Ab.blkS (b:=nb) (cs:=[.s key]) (n:=1) Am.str [key] hs rfl rfl;have hs:Ab W w (OJ b c T l kd o R evs::recs Am.str ⟨some ⟨nb,0,none⟩,1,1⟩ [key]::M):=by exact Ab.fin hs
 refine AX (OM (sg:=⟨some ⟨nb,0,none⟩,1,1⟩) (g:=[key]) hi.tok (by omega) (by simp) (by simp;omega) hs) λv w ⟨hv,hs⟩=>⟨hv,?_⟩;rw[Zn] at hs;have JN:=KF hi.tok key;have hsm:∀e∈Eo T key,e.1.size<=40:=λe he=>by rw[Fc hi.tok.rise] at he;exact Iz (P:=λk=>k.size<=40) hi.small e he
 have htk:=hi.tok.del key;have hev:=YV.del (key:=key) hi.tok hi.small hi.len hc1 hc2;have hsi:=hi.sim;generalize Eo T key=T' at *;refine AX (Q8 (.inr rfl) htk (by omega) (by omega) (by omega) hsi hev hs) λv w ⟨hv,l',S,o',evs',hlen,hsim,ho,hs⟩=>⟨hv,?_⟩;refine Ai hs λnb2 w hs=>?_;have hs:=Ab.blkS (b:=nb2) (cs:=[.s key]) (n:=1) Am.str [key] hs rfl rfl;have hs:Ab W w (OJ b c T' l' kd o' S evs'::recs Am.str ⟨some ⟨nb2,0,none⟩,1,1⟩ [key]::M):=by exact Ab.fin hs
 have hs:=Cy (n:=n+520) ⟨htk,hsm,by omega,by omega,hsim⟩ hs;exact⟨⟨some ⟨nb2,0,none⟩,1,1⟩,rfl,o',ho,hs⟩
theorem OL(hn:n<900000000000)(hkz:key.size<=40)(hs:Ab W w (sd b c n T kd o::M)):Ba PR 83 #[pq b 0,.s key,.i now] w λv w'=>∃s:Sl,v = .l s.a s.n s.c/\sdL b c (n+520) (BW T key now) kd o W w' (recs Am.str s (CF T key now)::M):=by
 refine cw ⟨mixed,Tryz.func83,rfl⟩ Au7 ?_;obtain⟨l,R,evs,hi,hs⟩:=DJ hs;obtain⟨tb,fb,mb,s,x0,x1,x2,x3,x4,x5,hc,hs⟩:=Cb hs;refine Aa (Ag hs ?_);refine AG (Adt (k:=key) (now:=now) hs (by omega)) λe w ⟨he,hs⟩=>⟨_,_,he,?_⟩;refine Ao (λh1=>?_) (λh1=>?_)
 ·exact Abs hi hc (by unfold tOv;rw[h1];simp) hs
 refine Aa (Ag hs ?_);refine An (Adu (k:=key) hs (by omega)) λe w ⟨he,hs⟩=>⟨_,he,?_⟩;refine Ao (λh2=>?_) (λh2=>?_)
 ·exact Abs hi hc (by unfold tOv;rw[Bool.not_eq_true'] at h2;rw[h2];rfl) hs
 exact Ap8 hi hn hkz (by unfold tOv;rw[h1];simpa using h2) (Bq hc hs)
def Jc(key:BA)(now:Int):Int:=if Fg key=false then 2 else if now<0\/1125899906842624<now then 1 else 0
theorem YG(hs:Ab W w L):Ba PR 97 #[.i now] w λv w'=>v = .b (decide (0<=now/\now<=1125899906842624))/\Ab W w' L:=by
 refine cw ⟨mixed,Tryz.func97,rfl⟩ Avl ?_
 with_reducible refine Az (λh1=>?_) (λh1=>?_)
 ·refine⟨?_,hs⟩;rw[decide_eq_decide.2 (show now<=1125899906842624↔(0<=now/\now<=1125899906842624) by omega)]
 ·exact⟨by rw[decide_eq_false (by omega)],hs⟩
theorem T5{r:Int}(hs:Ab W w L):Ba PR 74 #[.i r] w λv w'=>v = .b (decide (1<=r/\r<=1024))/\Ab W w' L:=by
 refine cw ⟨mixed,Tryz.func74,rfl⟩ Auy ?_
 with_reducible refine Az (λh1=>?_) (λh1=>?_)
 ·refine⟨?_,hs⟩;rw[decide_eq_decide.2 (show r<=1024↔(1<=r/\r<=1024) by omega)]
 ·exact⟨by rw[decide_eq_false (by omega)],hs⟩
theorem YF(hs:Ab W w L):Ba PR 82 #[pq b 0,.s key,.i now] w λv w'=>v = .i (Jc key now)/\Ab W w' L:=by
 refine cw ⟨mixed,Tryz.func82,rfl⟩ Au6 ?_;refine Ac rfl ?_;refine An (Adk (k:=key) hs) λe w ⟨he,hs⟩=>⟨_,he,?_⟩;unfold Jc;cases hk:Fg key with
 | false=>exact Al rfl ⟨rfl,hs⟩
 | true=>
  refine Ac rfl ?_;rw[if_neg (by simp)];refine Ah (YG hs) λv w ⟨hv,hs⟩=>⟨_,hv,?_⟩
  with_reducible refine Az (λh1=>?_) (λh1=>?_)
  ·rw[if_pos (by omega)];exact⟨rfl,hs⟩
  ·rw[if_neg (by omega)];exact⟨rfl,hs⟩
theorem Vf(h:Jc key now=0):Fg key=true/\0<=now/\now<=1125899906842624:=by
 unfold Jc at h;split at h
 ·omega
 ·rename_i h1;split at h
  ·omega
  ·exact⟨by simpa using h1,by omega,by omega⟩
theorem Anm{n':Nat}(h:MT c n T l R evs)(hn:n<=n'):MT c n' T l R evs:=⟨h.tok,h.small,h.len,by have:=h.n;omega,h.sim⟩
theorem FC{n':Nat}(hn:n<=n')(h:Ab W w (sd b c n T kd o::M)):Ab W w (sd b c n' T kd o::M):=by
 obtain⟨l,R,evs,hi,hs⟩:=DJ h;exact Cy (Anm hi hn) hs
structure Ad4(c:Int)(T:TT):Prop where
 tok:L7 T
 small:∀e∈T,e.1.size<=40
 len:(T.length:Int)<=c
 c1:1<=c
 c2:c<=1024
theorem Ao5(h:Ab W w (sd b c n T kd o::M)):Ad4 c T:=by
 obtain⟨l,R,evs,hi,hs⟩:=DJ h;have hk:=(Ep hs).1;exact⟨hi.tok,hi.small,hi.len,hk.c1,hk.c2⟩
theorem A0v(hn:n<800000000000)(hs:Ab W w (sd b c n T kd o::M)):Ba PR 51 #[pq b 0,.s key,.i now] w λv w'=>
  (Jc key now≠0/\v = .tuple #[.s ⟨#[]⟩,.b false,.l none 0 0,.i (Jc key now)]/\Ab W w' (sd b c n T kd o::M)) \/
  (Jc key now=0/\∃s:Sl,v = .tuple #[.s (FW T key now).1,.b (FW T key now).2,.l s.a s.n s.c,.i 0]/\sdL b c (n+520) (BW T key now) kd o W w' (recs Am.str s (CF T key now)::M)):=by
 refine cw ⟨mixed,Tryz.func51,rfl⟩ Auf ?_;refine Ah (YF hs) λv w ⟨hv,hs⟩=>⟨_,hv,?_⟩
 with_reducible refine Az (λh0=>?_) (λh0=>?_)
 ·exact .inl ⟨h0,rfl,hs⟩
 obtain⟨hkey,hn0,hn1⟩:=Vf h0;have hkz:=D6 hkey;have hg:=Agv (k:=key) (now:=now) (Ao5 hs).tok.rise;refine Ah (OL (by omega) (by omega) hs) λv w ⟨sg,hv,o',ho,hs⟩=>⟨_,hv,?_⟩;generalize CF T key now=gg at hs ⊢;generalize BW T key now=T1 at hs hg ⊢;obtain⟨l,R,evs,hi,hs⟩:=DJ hs;have hkR:=(Ep hs).1;have hc2:=hkR.c2;have hc1:=hkR.c1;have hTl:=hi.len;have hnn:=hi.n
 obtain⟨tb,fb,mb,s,x0,x1,x2,x3,x4,x5,hc,hs⟩:=Cb hs;refine Aa ?_;refine As (GP hs rfl hc.h0) λe w ⟨he,hs⟩=>⟨he,?_⟩;have hs:Ab W w (cD b tb fb mb (EB x0 1099511627776) x1 x2 x3 x4 x5 s::tabR tb T1::fd fb l::Fq mb kd c R o'::recs F0 s evs::recs Am.str sg gg::M):=hs;refine Aa (Ag hs ?_);refine AG (Adt (k:=key) (now:=now) hs (by omega)) λe w ⟨he,hs⟩=>⟨_,_,he,?_⟩;rw[hg];refine Ao (λ_=>?_) (λ_=>?_)
 ·refine Aa ?_;refine As (GP hs rfl hc.h1) λe w ⟨he,hs⟩=>⟨he,?_⟩;have hs:Ab W w (cD b tb fb mb (EB x0 1099511627776) (EB x1 1099511627776) x2 x3 x4 x5 s::tabR tb T1::fd fb l::Fq mb kd c R o'::recs F0 s evs::recs Am.str sg gg::M):=hs;refine Aa (Ag hs ?_);have hs:Ab W w (fd fb l::cD b tb fb mb (EB x0 1099511627776) (EB x1 1099511627776) x2 x3 x4 x5 s::tabR tb T1::Fq mb kd c R o'::recs F0 s evs::recs Am.str sg gg::M):=by exact Ab.fin hs
  refine Ah (Avn (key:=key) (by omega) hs) λv w ⟨t,hv,hs⟩=>⟨_,hv,?_⟩;have hs:Ab W w (cD b tb fb mb (EB x0 1099511627776) (EB x1 1099511627776) x2 x3 x4 x5 s::tabR tb T1::fd fb l::Fq mb kd c R o'::recs F0 s evs::recs Am.str sg gg::M):=by exact Ab.fin hs
  refine Ao (λ_=>?_) (λ_=>?_)
  ·refine Aa ?_;refine As (GP hs rfl hc.h4) λe w ⟨he,hs⟩=>⟨he,?_⟩;exact .inr ⟨h0,sg,rfl,o',ho,Cy hi (Bq ⟨F9 hc.h0,F9 hc.h1,hc.h2,hc.h3,F9 hc.h4,hc.h5⟩ hs)⟩
  ·exact .inr ⟨h0,sg,rfl,o',ho,Cy hi (Bq ⟨F9 hc.h0,F9 hc.h1,hc.h2,hc.h3,hc.h4,hc.h5⟩ hs)⟩
 ·exact .inr ⟨h0,sg,rfl,o',ho,Cy hi (Bq ⟨F9 hc.h0,hc.h1,hc.h2,hc.h3,hc.h4,hc.h5⟩ hs)⟩
theorem Agw(hn:n<800000000000)(hs:Ab W w (sd b c n T kd o::M)):Ba PR 54 #[pq b 0,.s key,.i now] w λv w'=>
  (Jc key now≠0/\v = .tuple #[.b false,.l none 0 0,.i (Jc key now)]/\Ab W w' (sd b c n T kd o::M)) \/
  (Jc key now=0/\∃s:Sl,v = .tuple #[.b (AC (BW T key now) key).isSome,.l s.a s.n s.c,.i 0]/\sdL b c (n+1040) (Eo (BW T key now) key) kd o W w' (recs Am.str s (CF T key now)::M)):=by
 refine cw ⟨mixed,Tryz.func54,rfl⟩ Auj ?_;refine Ah (YF hs) λv w ⟨hv,hs⟩=>⟨_,hv,?_⟩
 with_reducible refine Az (λh0=>?_) (λh0=>?_)
 ·exact .inl ⟨h0,rfl,hs⟩
 obtain⟨hkey,hn0,hn1⟩:=Vf h0;have hkz:=D6 hkey;refine Ah (OL (by omega) (by omega) hs) λv w ⟨sg,hv,o',ho,hs⟩=>⟨_,hv,?_⟩;generalize CF T key now=gg at hs ⊢;generalize BW T key now=T1 at hs ⊢;obtain⟨l,R,evs,hi,hs⟩:=DJ hs;have hkR:=(Ep hs).1;have hc2:=hkR.c2;have hc1:=hkR.c1;have hTl:=hi.len;have hnn:=hi.n
 obtain⟨tb,fb,mb,s,x0,x1,x2,x3,x4,x5,hc,hs⟩:=Cb hs;refine Aa (Ag hs ?_);refine An (QK (k:=key) hs (by omega) (by omega)) λe w ⟨he,hs⟩=>⟨_,he,?_⟩;have JN:=KF hi.tok key;have hsm:∀e∈Eo T1 key,e.1.size<=40:=λe he=>by rw[Fc hi.tok.rise] at he;exact Iz (P:=λk=>k.size<=40) hi.small e he
 have htk:=hi.tok.del key;have hev:=YV.del (key:=key) hi.tok hi.small hi.len hc1 hc2;refine Ao (λhp=>?_) (λhp=>?_)
 ·have hsi:=hi.sim;generalize Eo T1 key=T' at *;have hs:=Bq hc hs;refine AX (Q8 (.inr rfl) htk (by omega) (by omega) (by omega) hsi hev hs) λv w ⟨hv,l',S,o2,evs',hlen,hsim,ho2,hs⟩=>⟨hv,?_⟩;exact .inr ⟨h0,sg,rfl,o2,ho2.trans ho,Cy ⟨htk,hsm,by omega,by omega,hsim⟩ hs⟩
 ·have hno:key∉kT T1:=λh=>by rw[GA.1 h] at hp;cases hp
  have hsim:TE c R l (kT (Eo T1 key)):=hi.sim.right λx=>by
   rw[Anp hi.tok.rise];exact⟨λh=>⟨h,λe=>hno (e ▸ h)⟩,λh=>h.1⟩
  exact .inr ⟨h0,sg,rfl,o',ho,Cy ⟨htk,hsm,by omega,by omega,hsim⟩ (Bq hc hs)⟩
theorem Ao6(hn:n<900000000000)(hs:Ab W w (sd b c n T kd o::M)):Ba PR 56 #[pq b 0] w λv w'=>∃m:Int,v = .i m/\sdL b c (n+520) T kd o W w' M:=by
 refine cw ⟨mixed,Tryz.func56,rfl⟩ Aul ?_;refine Ac rfl ?_;obtain⟨l,R,evs,hi,hs⟩:=DJ hs;have hkR:=(Ep hs).1;have hc2:=hkR.c2;have hTl:=hi.len;have hnn:=hi.n
 refine Ah (FH hi.tok (by omega) (by omega) hi.sim hs) λv w ⟨m,S,o',evs',hv,hm,ho,hle,hs⟩=>⟨_,hv,m,rfl,o',ho,?_⟩;exact Cy (l:=[]) (R:=S) (evs:=evs') ⟨hi.tok,hi.small,hi.len,by omega,hm⟩ hs
theorem Awv(hn:n<900000000000)(hs:Ab W w (sd b c n T kd o::M)):Ba PR 57 #[pq b 0] w λv w'=>∃(x:BA) (t:Bool) (o':Option Nat),v = .tuple #[.s x,.b t]/\Jq o' o/\(∀m,o'=some m->m<=T.length)/\Ab W w' (sd b c (n+520) T kd (Qn o')::M):=by
 refine cw ⟨mixed,Tryz.func57,rfl⟩ Aum ?_;refine Ac rfl ?_;obtain⟨l,R,evs,hi,hs⟩:=DJ hs;have hkR:=(Ep hs).1;have hc2:=hkR.c2;have hTl:=hi.len;have hnn:=hi.n
 refine Ah (FH hi.tok (by omega) (by omega) hi.sim hs) λv w ⟨m,S,o',evs',hv,hm,ho,_,hs⟩=>⟨_,hv,?_⟩;have hle:∀m,o'=some m->m<=T.length:=λm h=>by
  have h1:=(Ep hs).2.2 m h;have h2:=DY (Ep hs).1.nd (λx hx=>(hm x).1 hx);unfold kT at h2;rw[List.length_map] at h2;omega
 obtain⟨tb,fb,mb,s,x0,x1,x2,x3,x4,x5,hc,hs⟩:=Cb hs;refine Aa (Ag hs ?_);have hs:Ab W w (Fq mb kd c S o'::cD b tb fb mb x0 x1 x2 x3 x4 x5 s::tabR tb T::fd fb []::recs F0 s evs'::M):=by exact Ab.fin hs
 refine AH (Awd hs) λv w ⟨x,t,S2,hv,hm2,hs⟩=>⟨_,_,hv,?_⟩;have hi2:MT c (n+520) T [] S2 evs':=⟨hi.tok,hi.small,hi.len,by omega,λx=>by rw[hm2,hm]⟩;have hs:Ab W w (cD b tb fb mb x0 x1 x2 x3 x4 x5 s::tabR tb T::fd fb []::Fq mb kd c S2 (Qn o')::recs F0 s evs'::M):=by exact Ab.fin hs
 refine Ao (λ_=>?_) (λ_=>?_)
 ·refine Aa ?_;refine As (GP hs rfl hc.h5) λe w ⟨he,hs⟩=>⟨he,?_⟩;exact⟨x,t,o',rfl,ho,hle,Cy hi2 (Bq ⟨hc.h0,hc.h1,hc.h2,hc.h3,hc.h4,F9 hc.h5⟩ hs)⟩
 ·exact⟨x,t,o',rfl,ho,hle,Cy hi2 (Bq hc hs)⟩
theorem Agz{k:Int}(hk:0<=k/\k<5)(hn:n<900000000000)(hs:Ab W w (sd b c n T kd o::M)):Ba PR 104 #[pq b 0,.i k] w λv w'=>∃m:Int,v = .i m/\((k=kd/\Ab W w' (sd b c n T kd o::M))\/Ab W w' (sd b c (n+520) T k (some T.length)::M)):=by
 refine cw ⟨mixed,Tryz.func104,rfl⟩ Aic ?_;refine Ac rfl (Ac (decide_eq_false (by omega)) ?_);refine jw VZ ?_;refine Ac (decide_eq_false (by omega)) ?_;obtain⟨l,R,evs,hi,hs⟩:=DJ hs;have hkR:=(Ep hs).1;have hc2:=hkR.c2;have hTl:=hi.len;have hnn:=hi.n
 obtain⟨tb,fb,mb,s,x0,x1,x2,x3,x4,x5,hc,hs⟩:=Cb hs;refine Aa (Ag hs ?_);have hs:Ab W w (Fq mb kd c R o::cD b tb fb mb x0 x1 x2 x3 x4 x5 s::tabR tb T::fd fb l::recs F0 s evs::M):=by exact Ab.fin hs
 refine Ah (Awa hs) λv w ⟨hv,hs⟩=>⟨_,hv,?_⟩;have hs:Ab W w (OJ b c T l kd o R evs::M):=Bq hc (by exact Ab.fin hs);refine Ao (λh=>⟨8,rfl,.inl ⟨by simpa using h,Cy hi hs⟩⟩) (λ_=>?_);refine jw Wa ?_;refine Ah (FH hi.tok (by omega) (by omega) hi.sim hs) λv w ⟨m,S,o',evs',hv,hm,ho,hle,hs⟩=>⟨_,hv,?_⟩;clear hc;have hkS:=(Ep hs).1;obtain⟨tb,fb,mb,s,x0,x1,x2,x3,x4,x5,hc,hs⟩:=Cb hs;refine Aa (Ag hs ?_);have hs:Ab W w (Fq mb kd c S o'::cD b tb fb mb x0 x1 x2 x3 x4 x5 s::tabR tb T::fd fb []::recs F0 s evs'::M):=by exact Ab.fin hs
 refine Ah (Aok hk hs) λv w ⟨S2,hv,hm2,hs⟩=>⟨_,hv,?_⟩;have hk2:=MG hs;have hmT:∀x,x∈S2↔x∈kT T:=λx=>by rw[hm2,hm]
 have hl2:S2.length=T.length:=by
  have:=(CD hk2.nd hi.tok.rise.nodup hmT).length_eq;simpa using this
 rw[hl2] at hs;exact⟨0,rfl,.inr (Cy (l:=[]) (R:=S2) (evs:=evs') ⟨hi.tok,hi.small,hi.len,by omega,hmT⟩ (Bq hc (by exact Ab.fin hs)))⟩
theorem A0w{r k1 k2 k3:Int}(hs:Ab W w L):Ba PR 47 #[.i r,.i k1,.i k2,.i k3] w λv w'=>(((0<=k1/\k1<=256/\1<=k2/\k2<=256)/\0<=k3/\k3<5)/\∃b,v = .tuple #[pq b 0,.i 0]/\Ab W w' (sd b r 0 [] k3 none::L))\/(¬((1<=r/\r<=1024)/\(0<=k1/\k1<=256/\1<=k2/\k2<=256)/\0<=k3/\k3<5)/\∃e:Int,e≠0/\v = .tuple #[.p none,.i e]/\Ab W w' L):=by
 refine cw ⟨mixed,Tryz.func47,rfl⟩ Aub ?_;refine Ah (T5 hs) λv w ⟨hv,hs⟩=>⟨_,hv,?_⟩
 with_reducible refine Az (λh1=>?_) (λh1=>?_)
 ·exact .inr ⟨by omega,1,by decide,rfl,hs⟩
 have hr:AU r=r:=by unfold AU;omega
 refine AH (Azt hs) λv w h=>?_;rcases h with⟨hwr,fb,hv,hs⟩|⟨hno,hv,hs⟩
 ·refine⟨_,_,hv,Ac rfl ?_⟩;refine AH (A0f hs) λv w h=>?_;rcases h with⟨hk3,mb,hv,hs⟩|⟨hno,hv,hs⟩
  ·refine⟨_,_,hv,Ac rfl ?_⟩;rw[hr] at hs;refine An (Adv hs) λe w ⟨tb,he,hs⟩=>⟨_,he,?_⟩;have hs:=Ab.nilR F0 hs;refine Ai hs λb w hs=>?_;have hi:MT r 0 [] [] [] []:=⟨⟨by simp[BR,Ef],by simp,by simp⟩,by simp,by simp;omega,by simp,λx=>by simp[kT]⟩
   exact .inl ⟨⟨hwr,hk3⟩,b,rfl,Cy hi (Bq (tb:=tb) (fb:=fb) (mb:=mb) (s:=⟨none,0,0⟩) (x0:=0) (x1:=0) (x2:=0) (x3:=0) (x4:=0) (x5:=0) ⟨by decide,by decide,by decide,by decide,by decide,by decide⟩ (by exact Ab.fin hs))⟩
  ·exact⟨_,_,hv,Al rfl (.inr ⟨by omega,4,by decide,rfl,hs.drop⟩)⟩
 ·exact⟨_,_,hv,Al rfl (.inr ⟨by omega,1,by decide,rfl,hs⟩)⟩
theorem Agy{r:Int}(hr1:1<=r)(hr2:r<=1024)(hn:n<900000000000)(hs:Ab W w (sd b c n T kd o::M)):Ba PR 63 #[pq b 0,.i r] w λv w'=>∃(sl:Sl) (g:BL),v = .tuple #[.l sl.a sl.n sl.c,.i 0]/\g.Nodup/\(∀x∈g,x∈kT T)/\(g=[]\/((AB T g).length:Int)=r)/\Ab W w' (sd b r (n+520) (AB T g) kd none::recs Am.str sl g::M):=by
 refine cw ⟨mixed,Tryz.func63,rfl⟩ Aus ?_;refine Ac rfl ?_;refine Ah (T5 hs) λv w ⟨hv,hs⟩=>⟨_,hv,?_⟩;refine Ac (by rw[decide_eq_true ⟨hr1,hr2⟩];rfl) ?_
 refine jw ZJ ?_;obtain⟨l,R,evs,hi,hs⟩:=DJ hs;have hkR:=(Ep hs).1;have hc2:=hkR.c2;have hc1:=hkR.c1;have hTl:=hi.len;have hnn:=hi.n
 have hrr:AU r=r:=by unfold AU;omega
 refine Ah (FH hi.tok (by omega) (by omega) hi.sim hs) λv w ⟨m,S,o',evs',hv,hm,ho,hle,hs⟩=>⟨_,hv,?_⟩;have hKok:=Ac8 hi.tok.rise hi.small hi.len hc1 hc2;obtain⟨tb,fb,mb,s,x0,x1,x2,x3,x4,x5,hc,hs⟩:=Cb hs;refine Aa (Ag hs ?_);have hs:Ab W w (Fq mb kd c S o'::cD b tb fb mb x0 x1 x2 x3 x4 x5 s::tabR tb T::fd fb []::recs F0 s evs'::M):=by exact Ab.fin hs
 refine Ah (Agb hs) λv w ⟨sl,g,S2,hv,hsub,hnd,hm2,hgl2,hs⟩=>⟨_,hv,?_⟩;rw[hrr] at hs hgl2;have hok2:=MG hs;have hs:Ab W w (OJ b r T [] kd none S2 evs'::recs Am.str sl g::M):=Bq hc (by exact Ab.fin hs);have hgT:∀x∈g,x∈kT T:=λx hx=>(hm x).1 (hsub x hx);have hgl:g.length<=T.length:=by
  have:=E5 hnd hgT;unfold kT at this;simpa using this
 refine AX (OM hi.tok (by omega) (by omega) (λx hx=>hKok.small x (hgT x hx)) hs) λv w ⟨hv,hs⟩=>⟨hv,?_⟩;have hmT:∀x,x∈S2↔x∈kT (AB T g):=λx=>by rw[hm2,hm,SP hi.tok.rise]
 have htk:=Eg (g:=g) hi.tok;have hl2:S2.length=(AB T g).length:=by
  have h1:=(CD hok2.nd htk.rise.nodup hmT).length_eq;simpa using h1
 have hlen:((AB T g).length:Int)<=r:=by
  have h2:=hok2.room;omega
 have hi2:MT r (n+520) (AB T g) [] S2 evs':=⟨htk,Hu (P:=λk=>k.size<=40) hi.tok.rise hi.small,hlen,by omega,hmT⟩;exact⟨sl,g,rfl,hnd,hgT,by rw[<- hl2];exact hgl2,Cy hi2 hs⟩
theorem Ads(h:Fx key val now life=0):Hn T key val now life=Hg T key (val,Hm now life):=if_pos h
abbrev Ahk(b:Nat)(c:Int)(n:Nat)(T1:TT)(g0:BL)(kd:Int)(o:Option Nat)(key val:BA)(now life:Int)(W:World)(M:List HP):VW:=λv w'=>
 ∃(sl:Sl) (g:BL),v = .tuple #[.l sl.a sl.n sl.c,.i 0]/\g.Nodup/\(∀x∈g,x∈kT T1)/\key∉g/\sdL b c n (Hn (AB T1 g) key val now life) kd o W w' (recs Am.str sl (g0++g)::M)
theorem A0m{T1:TT}{g0:BL}{s0:Sl}{Q:VW}(hQ:∀v w,Ahk b c (n+1041) T1 g0 kd o key val now life W M v w->Q v w)(he:Fx key val now life=0)(hn:n<700000000000)(hg0:g0.length<=1)(t:Bool)(ht:t=true->key∈kT T1\/(T1.length:Int)<c)(hf:t=false->key∉kT T1/\c<=(T1.length:Int))(hs:Ab W w (sd b c n T1 kd o::recs Am.str s0 g0::M)) :
  UE Bg Q (some ⟨b,0,none⟩) key val now life s0 t w:=by
 obtain⟨hkey,hv,hn0,hn1,hl0,hl1⟩:=KR he;have hkz:=D6 hkey;refine jw ZB ?_;obtain⟨l,R,evs,hi,hs⟩:=DJ hs;have hkR:=(Ep hs).1;have hc2:=hkR.c2;have hc1:=hkR.c1;have hTl:=hi.len;have hnn:=hi.n
 cases t with
 | true=>
  refine Al rfl ?_;obtain⟨tb,fb,mb,s,x0,x1,x2,x3,x4,x5,hc,hs⟩:=Cb hs;refine Aa (Ag hs ?_);refine AG (V4 (k:=key) (v:=val) (now:=now) (life:=life) hs (by omega)) λe w ⟨he2,hs⟩=>⟨_,_,he2,?_⟩;have htp:=Ads (T:=T1) he;have hlen:((Hg T1 key (val,Hm now life)).length:Int)<=c:=by
   rw[Agj hi.tok];rcases ht rfl with h|h
   ·rw[if_pos h];omega
   ·split <;> omega
  have hev:YV c (kT T1) ((2:Int),key) (kT (Hg T1 key (val,Hm now life))):=YV.put hi.tok hi.small (by omega) hlen hc1 hc2;have htk:=hi.tok.put key val now life;have hsm:=JC (v:=(val,Hm now life)) hi.tok.rise hi.small (key:=key) (by omega);rw[<- htp] at hev hlen hsm;have hdel:AB T1 []=T1:=rfl;have hsi:=hi.sim;unfold Ahk at hQ;generalize hT2:Hn T1 key val now life=T2 at *;have hs:=Bq hc hs;refine AX (Q8 (.inl rfl) htk (by omega) (by omega) (by omega) hsi hev hs) λv w ⟨hv,l',S,o',evs',hlen2,hsim,ho,hs⟩=>⟨hv,?_⟩;have hi2:MT c (n+1041) T2 l' S evs':=⟨htk,hsm,hlen,by omega,hsim⟩
  refine hQ _ _ ⟨s0,[],rfl,by simp,by simp,by simp,o',ho,?_⟩;rw[List.append_nil,hdel,hT2];exact Cy hi2 hs
 | false=>
  refine Ac rfl ?_;obtain⟨hno,hfull⟩:=hf rfl;refine jw ZC ?_;refine Ah (FH hi.tok (by omega) (by omega) hi.sim hs) λv w ⟨m,S,o',evs',hv,hm,ho,hle,hs⟩=>⟨_,hv,?_⟩;obtain⟨tb,fb,mb,s,x0,x1,x2,x3,x4,x5,hc,hs⟩:=Cb hs;refine Aa (Ag hs ?_);have hs:Ab W w (Fq mb kd c S o'::cD b tb fb mb x0 x1 x2 x3 x4 x5 s::tabR tb T1::fd fb []::recs F0 s evs'::recs Am.str s0 g0::M):=by exact Ab.fin hs
  refine Ah (Th (key:=key) (by omega) hs) λv w ⟨sg,g,S2,o2,hv,hin,ho2,hs⟩=>⟨_,hv,?_⟩;have hgT:∀x∈g,x∈kT T1:=λx hx=>(hm x).1 (hin.sub x hx);have hgl:g.length<=T1.length:=by
   have:=E5 hin.nd hgT;unfold kT at this;simpa using this
  refine Aa (Ag (x:=s) hs ?_);refine Ai hs λnb w hs=>?_;refine CG (s:=s) (a:=(((2:Int),key):Ev)) hs rfl rfl rfl rfl (by decide) (by omega) λs5 w hs5 hs=>?_;refine Aa (A4 hs λw hs=>?_);have hs:Ab W w (OJ b c T1 [] kd o2 S2 (evs'++[((2:Int),key)])::recs Am.str sg g::recs Am.str s0 g0::M):=Bq hc (by exact Ab.fin hs);have hKok:=Ac8 hi.tok.rise hi.small hi.len hc1 hc2;refine AX (OM hi.tok (by omega) (by omega) (λx hx=>hKok.small x (hgT x hx)) hs) λv w ⟨hv,hs⟩=>⟨hv,?_⟩;have htk:=Eg (g:=g) hi.tok;have JN:=Js (g:=g) hi.tok
  have hsm:=Hu (P:=λk=>k.size<=40) (g:=g) hi.tok.rise hi.small;have hkd:∀x,x∈kT (AB T1 g)↔x∈kT T1/\x∉g:=λx=>SP hi.tok.rise;clear hc;obtain⟨tb,fb,mb,s,x0,x1,x2,x3,x4,x5,hc,hs⟩:=Cb hs;refine Aa (Ag hs ?_);refine AG (V4 (k:=key) (v:=val) (now:=now) (life:=life) hs (by omega)) λe w ⟨he2,hs⟩=>⟨_,_,he2,?_⟩;have htp:=Ads (T:=AB T1 g) he;have htk2:=htk.put key val now life;have hsm2:=JC (v:=(val,Hm now life)) htk.rise hsm (key:=key) (by omega);have hmS:∀x,x∈S2↔x∈kT (Hg (AB T1 g) key (val,Hm now life)):=λx=>by
   rw[Anq htk.rise,hkd,hin.mem,hm]
  have hlen2:((Hg (AB T1 g) key (val,Hm now life)).length:Int)<=c:=by
   have h1:=(CD hin.ok.nd (IR htk.rise).nodup hmS).length_eq;have h2:=hin.ok.room;simp only[List.length_map] at h1;omega
  rw[<- htp] at hmS hlen2 hsm2;unfold Ahk at hQ;generalize hT2:Hn (AB T1 g) key val now life=T2 at *;have hs:=Bq hc hs;have hi2:MT c (n+1041) T2 [] S2 (evs'++[((2:Int),key)]):=⟨htk2,hsm2,hlen2,by simp;omega,hmS⟩
  have hs:=Cy hi2 hs;have hs:Ab W w (recs Am.str s0 g0::recs Am.str sg g::sd b c (n+1041) T2 kd o2::M):=by exact Ab.fin hs
  refine FJ (s:=s0) (new:=g) hs (FU (s:=sg) (E:=Am.str) (rows:=g) hs) (BE (s:=sg) (E:=Am.str) (rows:=g) hs) (CS _) rfl (by decide) (by omega) λs6 w hs6 hs=>?_;have hs:Ab W w (recs Am.str s6 (g0++g)::recs Am.str sg g::sd b c (n+1041) T2 kd o2::M):=hs;refine hQ _ _ ⟨s6,g,rfl,hin.nd,hgT,hin.no,o2,ho2.trans ho,?_⟩;rw[hT2];exact Ab.fin hs
theorem A0x(hn:n<600000000000)(hs:Ab W w (sd b c n T kd o::M)):Ba PR 53 #[pq b 0,.s key,.s val,.i now,.i life] w λv w'=>
  (Fx key val now life≠0/\v = .tuple #[.l none 0 0,.i (Fx key val now life)]/\Ab W w' (sd b c n T kd o::M)) \/
  (Fx key val now life=0/\Ahk b c (n+1561) (BW T key now) (CF T key now) kd o key val now life W M v w'):=by
 refine cw ⟨mixed,Tryz.func53,rfl⟩ Aui ?_;refine Ac rfl ?_;refine An (Adv hs) λe w ⟨tb0,he,hs⟩=>⟨_,he,?_⟩;refine AG (V4 (k:=key) (v:=val) (now:=now) (life:=life) hs (by simp)) λe w ⟨he2,hs⟩=>⟨_,_,he2,?_⟩;have hs:Ab W w (sd b c n T kd o::M):=hs.drop
 with_reducible refine Az (λhe=>?_) (λhe=>?_)
 ·exact .inl ⟨he,rfl,hs⟩
 obtain⟨hkey,_⟩:=KR he;have hkz:=D6 hkey;refine Ah (OL (now:=now) (by omega) (by omega) hs) λv w ⟨sg,hv,o',ho,hs⟩=>⟨_,hv,?_⟩;have hg1:(CF T key now).length<=1:=by unfold CF;split <;> simp
 generalize CF T key now=gg at hs hg1 ⊢;generalize BW T key now=T1 at hs ⊢;obtain⟨l,R,evs,hi,hs⟩:=DJ hs;have hkR:=(Ep hs).1;have hc2:=hkR.c2;have hTl:=hi.len
 obtain⟨tb,fb,mb,s,x0,x1,x2,x3,x4,x5,hc,hs⟩:=Cb hs;refine Aa ?_;refine As (GP hs rfl hc.h2) λe w ⟨he3,hs⟩=>⟨he3,?_⟩;have hc':Ahi x0 x1 (EB x2 1099511627776) x3 x4 x5:=⟨hc.h0,hc.h1,F9 hc.h2,hc.h3,hc.h4,hc.h5⟩;have hs:Ab W w (cD b tb fb mb x0 x1 (EB x2 1099511627776) x3 x4 x5 s::tabR tb T1::fd fb l::Fq mb kd c R o'::recs F0 s evs::recs Am.str sg gg::M):=hs;have fin:∀(w:World)(t:Bool),(t=true->key∈kT T1\/(T1.length:Int)<c)->(t=false->key∉kT T1/\c<=(T1.length:Int))->Ab W w (cD b tb fb mb x0 x1 (EB x2 1099511627776) x3 x4 x5 s::tabR tb T1::fd fb l::Fq mb kd c R o'::recs F0 s evs::recs Am.str sg gg::M) ->
   UE Bg (λv w'=>(Fx key val now life≠0/\v = .tuple #[.l none 0 0,.i (Fx key val now life)]/\Ab W w' (sd b c n T kd o::M))\/(Fx key val now life=0/\Ahk b c (n+1561) T1 gg kd o key val now life W M v w')) (some ⟨b,0,none⟩) key val now life sg t w:=by
  clear hs;intro w t h1 h2 hs;refine A0m (n:=n+520) (o:=o') (λv w ⟨sl,g,a1,a2,a3,a4,o2,a5,a6⟩=>.inr ⟨he,sl,g,a1,a2,a3,a4,o2,a5.trans ho,a6⟩) he (by omega) hg1 t h1 h2 (Cy hi (Bq hc' hs))
 refine Ak [cD b tb fb mb x0 x1 (EB x2 1099511627776) x3 x4 x5 s] hs λw hs=>?_;refine Aa (Ag hs (Af hs ?_));refine An (Adu (k:=key) hs (by omega)) λe w ⟨he2,hs⟩=>⟨_,he2,Af hs ?_⟩;refine Ao (λh1=>?_) (λh1=>?_)
 ·refine Af hs ?_;exact fin w true (λ_=>.inl (GA.2 h1)) (λh=>by cases h) hs
 ·have hno:key∉kT T1:=λh=>by rw[GA.1 h] at h1;cases h1
  refine Aa (Ar (Aa (Ar ?_)));refine An (Aw2 hs) λe w ⟨he2,hs⟩=>⟨_,he2,Af hs ?_⟩;have hs:Ab W w (Fq mb kd c R o'::cD b tb fb mb x0 x1 (EB x2 1099511627776) x3 x4 x5 s::tabR tb T1::fd fb l::recs F0 s evs::recs Am.str sg gg::M):=by exact Ab.fin hs
  refine Ah (Awc hs) λv w ⟨hv,hs⟩=>⟨_,hv,?_⟩;exact fin w _ (λh=>.inr (of_decide_eq_true h)) (λh=>⟨hno,by have:=of_decide_eq_false h;omega⟩) (by exact Ab.fin hs)
theorem Aph{T:TT}(ht:BR T){x:BA}(h:x∈Cv T now):tOv T x now=true:=by
 unfold Cv at h;obtain⟨e,he,rfl⟩:=List.mem_map.1 h;obtain⟨h1,h2⟩:=List.mem_filter.1 he;have hg:AC T e.1=some e.2:=(BD ht.nodup).2 h1;unfold tOv FW;rw[hg];dsimp only;rw[h2];rfl
theorem Abc{T:TT}(ht:BR T):(Cv T now).Nodup:=by
 unfold Cv;exact ht.nodup.sublist ((List.filter_sublist).map _)
theorem Ag4{T S:TT}{x:BA}(h:AC T x=AC S x):tOv T x now=tOv S x now:=by unfold tOv;rw[h,Abd h]
theorem Agx(h0:0<=now)(h1:now<=1125899906842624)(hn:n<800000000000)(hs:Ab W w (sd b c n T kd o::M)):Ba PR 55 #[pq b 0,.i now] w λv w'=>∃sl:Sl,v = .l sl.a sl.n sl.c/\sdL b c (n+600000) (AB T (Cv T now)) kd o W w' (recs Am.str sl (Cv T now)::M):=by
 refine cw ⟨mixed,Tryz.func55,rfl⟩ Auk ?_;refine Ac rfl ?_;refine Ah (YG hs) λv w ⟨hv,hs⟩=>⟨_,hv,?_⟩;refine Ac (by rw[decide_eq_true ⟨h0,h1⟩];rfl) ?_
 refine jw ZD ?_;have hok:=Ao5 hs;have hTl:=hok.len;have hc2:=hok.c2
 obtain⟨l,R,evs,hi,hs⟩:=DJ hs;obtain⟨tb,fb,mb,s,x0,x1,x2,x3,x4,x5,hc,hs⟩:=Cb hs;refine Aa (Ag hs ?_);have hs:Ab W w (tabR tb T::cD b tb fb mb x0 x1 x2 x3 x4 x5 s::fd fb l::Fq mb kd c R o::recs F0 s evs::M):=by exact Ab.fin hs
 refine An (Aw1 (now:=now) hs (by omega)) λe w ⟨sl,he,hs⟩=>⟨sl,he,?_⟩;have hs:Ab W w (cD b tb fb mb x0 x1 x2 x3 x4 x5 s::tabR tb T::fd fb l::Fq mb kd c R o::recs F0 s evs::recs Am.str sl (Cv T now)::M):=by exact Ab.fin hs
 have hs:=Cy hi (Bq hc hs);have hnd:=Abc (now:=now) hok.tok.rise;have hov:∀x∈Cv T now,tOv T x now=true:=λx hx=>Aph hok.tok.rise hx;have JN:(Cv T now).length<=T.length:=by unfold Cv;rw[List.length_map];exact List.length_filter_le _ _
 have hdz:∀x∈Cv T now,x.size<=40:=λx hx=>by
  unfold Cv at hx;obtain⟨e,he,rfl⟩:=List.mem_map.1 hx;exact hok.small e (List.mem_filter.1 he).1
 generalize Cv T now=D at *;have hsn:=BE (s:=sl) (E:=Am.str) (rows:=D) hs;have hs:=Ab.nilR Am.str hs;have loop:∀(f i:Nat)(w:World)(acc:Sl)(o':Option Nat),i+f=D.length->Jq o' o->Ab W w (recs Am.str acc (D.take i)::sd b c (n+i*520) (AB T (D.take i)) kd o'::recs Am.str sl D::M) ->
   UG Bg (λv w'=>∃sl:Sl,v = .l sl.a sl.n sl.c/\sdL b c (n+600000) (AB T D) kd o W w' (recs Am.str sl D::M)) (f+1) (some ⟨b,0,none⟩) now acc sl (sl.n:Int) (i:Int) w:=by
  clear hs;intro f
  induction f with
  | zero=>
   intro i w acc o' hi ho hs;rw[Pm];refine Ac (decide_eq_false (by omega)) ?_;refine jw ZE ?_;rw[List.take_of_length_le (by omega)] at hs;have hs:Ab W w (sd b c (n+i*520) (AB T D) kd o'::recs Am.str acc D::M):=by exact Ab.fin hs
   exact⟨acc,rfl,o',ho,FC (by omega) hs⟩
  | succ f ih=>
   intro i w acc o' hi ho hs;rw[Pm];refine Al (decide_eq_true (by omega)) ?_;have hil:i<D.length:=by omega
   refine Cn (s:=sl) (E:=Am.str) (rows:=D) hs λb_ o_ ha_=>?_;refine C6 (s:=sl) (E:=Am.str) (rows:=D) ha_ hs ?_;rw[Int.toNat_natCast];have hm:D.getD i default∈D:=GS hil;have hno:D.getD i default∉D.take i:=by
    intro hin;have h2:=hnd;rw[<- List.take_append_drop i D,List.nodup_append] at h2;have hd:D.getD i default∈D.drop i:=by
     rw[List.getD_eq_getElem?_getD,List.getElem?_eq_getElem hil,List.drop_eq_getElem_cons hil];exact .head _
    exact h2.2.2 _ hin _ hd rfl
   have hg:AC (AB T (D.take i)) (D.getD i default)=AC T (D.getD i default):=(FL hok.tok.rise).2 hno;have ho2:tOv (AB T (D.take i)) (D.getD i default) now=true:=by rw[Ag4 hg];exact hov _ hm
   have hs:Ab W w (sd b c (n+i*520) (AB T (D.take i)) kd o'::recs Am.str acc (D.take i)::recs Am.str sl D::M):=by exact Ab.fin hs
   refine Ah (OL (now:=now) (by omega) (hdz _ hm) hs) λv w ⟨s2,hv,o2,ho3,hs⟩=>⟨_,hv,?_⟩;have e1:BW (AB T (D.take i)) (D.getD i default) now=AB T (D.take (i+1)):=by
    unfold BW;rw[ho2,Cc hil];unfold AB;rw[List.foldl_append];rfl
   have e2:CF (AB T (D.take i)) (D.getD i default) now=[D.getD i default]:=by unfold CF;rw[ho2];rfl
   rw[e1,e2] at hs;rw[show IntKind.wrap .i64 ((i:Int)+1)=((i+1:Nat):Int) by rw[i64_in _ (by omega)];omega]
   have hs:Ab W w (recs Am.str acc (D.take i)::recs Am.str s2 [D.getD i default]::sd b c (n+i*520+520) (AB T (D.take (i+1))) kd o2::recs Am.str sl D::M):=by exact Ab.fin hs
   refine FJ (s:=acc) (new:=[D.getD i default]) hs (FU (s:=s2) (E:=Am.str) hs) (BE (s:=s2) (E:=Am.str) hs) (CS _) rfl (by decide) (by rw[List.length_take];simp;omega) λs6 w hs6 hs=>?_;rw[<- Cc hil] at hs;refine ih (i+1) w s6 o2 (by omega) (ho3.trans ho) ?_;rw[show n+(i+1)*520=n+i*520+520 by omega];exact Ab.fin hs
 exact AO _ (loop D.length 0 w ⟨none,0,0⟩ o (by omega) Jq.refl (by rw[Nat.zero_mul,Nat.add_zero];exact hs))
end
end Go.Proofs.YtjipofkjmmpjdaaGreat
namespace Go.Proofs.YtjipofkjmmpjdaaGreat
open Go.Hb Go.IntWalk
section
variable{W w:World}{L M:List HP}{F:HP->List HP}{b:Nat}{room:Int}{N:Nat}{ks:List BA}{k:BA}
theorem UT(h:Ab W w L)[hA:At L b (ghR b room N ks) F](hz:k.size<4611686018427387904)(hb:N<800000000):Calls PR 124 #[pq b 0,.s k] w λe w'=>e = .returned (.b (QX ks k))/\Ab W w' (F (ghR b room N (Ap ks k))):=by
 refine At.call1 (hA:=hA) h λM hs=>?_;clear h hA;refine c1 (cw ⟨mixed,Tryz.func124,rfl⟩ Aiq ?_);obtain⟨lb,xb,row,free,m,hi,hN,hs⟩:=Ku hs;have hl:=hi.len;have hhas:=hi.has (k:=k);refine Ac rfl ?_
 repeat (first|with_reducible refine Aa ?_|((with_reducible refine A3 ?_);first|refine Ag hs ?_|fail)|fail)
 refine AG (PA hs hz (by omega)) λe w ⟨he,hs⟩=>⟨_,_,he,?_⟩;cases hg:AC m k with
 | none=>
  rw[hg] at hhas;obtain⟨h1,h2,h3⟩:=hi.miss hg;refine Ac rfl ?_;rw[<- hhas,h2];exact⟨rfl,IH h3 hN (by exact Ab.fin hs)⟩
 | some x=>
  rw[hg] at hhas;have hnd:=GZ (mk:=.string) (b:=lb) (row:=row) (free:=free) (M:=blk b [.i room,pq lb 0,pq xb 0]::ixr (Am.int .i64) xb 0 (BJ m k)::M) (by exact Ab.fin hs);obtain⟨i,h1,h2⟩:=hi.hit hg hnd;refine Al rfl ?_
  repeat (first|with_reducible refine Aa ?_|((with_reducible refine A3 ?_);first|refine Ag hs ?_|fail)|fail)
  refine AG (GG hs (by omega)) λe w ⟨he,hs⟩=>⟨_,_,he,?_⟩;simp only[Option.getD_some,h1] at hs;rw[<- hhas];obtain⟨_,_,_,_,hlt⟩:=KE h1;refine⟨rfl,IH h2 ?_ (by exact Ab.fin hs)⟩;rw[List.length_eraseIdx,if_pos hlt];simp;omega
theorem Azu(h:Ab W w L)[hA:At L b (ghR b room N ks) F](hz:k.size<4611686018427387904)(hb:N<700000000):Calls PR 126 #[pq b 0,.s k] w λe w'=>e = .returned (.tuple #[.s (Ac5 room ks k),.b (Ya room ks k)])/\Ab W w' (F (ghR b room (N+1) (Avo room ks k))):=by
 refine At.call1 (hA:=hA) h λM hs=>?_;clear h hA;refine c1 (cw ⟨mixed,Tryz.func126,rfl⟩ Ais ?_);refine Ac rfl ?_;refine An (UT hs hz (by omega)) λe w ⟨he,hs⟩=>⟨_,he,?_⟩;obtain⟨lb,xb,row,free,m,hi,hN,hs⟩:=Ku hs;have hl:=hi.len;have hk:k∉Ap ks k:=λh=>(AK.1 h).2 rfl;refine Ak [blk b [.i room,pq lb 0,pq xb 0]] hs λw hs=>?_
 repeat (first|with_reducible refine Aa ?_|((with_reducible refine A3 ?_);first|refine Ag hs ?_|fail)|((with_reducible refine BY ?_);first|refine Ar ?_|fail)|((with_reducible refine Bd ?_);first|refine Af hs ?_|fail)|fail)
 refine An (Fw hs (by omega)) λe w ⟨he,hs⟩=>⟨_,he,?_⟩
 repeat (first|((with_reducible refine Bd ?_);first|refine Af hs ?_|fail)|fail)
 refine An (UX hs hz hi.small_m (by omega)) λe w ⟨he,hs⟩=>⟨_,he,?_⟩;have hi2:=hi.push hk hz (JN row free);have hN2:(row++[(JN row free,k)]).length+free.dropLast.length<=N+1:=by simp;omega
 refine Ak [blk b [.i room,pq lb 0,pq xb 0]] hs λw hs=>?_
 repeat (first|with_reducible refine Aa ?_|((with_reducible refine BY ?_);first|refine Ar ?_|fail)|fail)
 refine An (EX hs) λe w ⟨he,hs⟩=>⟨_,he,?_⟩
 repeat (first|((with_reducible refine Bd ?_);first|refine Af hs ?_|fail)|fail)
 rw[show(row++[(JN row free,k)]).length=(Ap ks k++[k]).length by rw[hi2.len.2]];have hs:=IH (b:=b) (room:=room) (lb:=lb) (xb:=xb) (M:=M) hi2 hN2 (by exact Ab.fin hs);refine Ao (λh1=>?_) (λh1=>?_)
 ·have h1:=of_decide_eq_true h1;have e1:Avo room ks k=Ap ks k++[k]:=if_pos h1;have e2:Ac5 room ks k=Ae:=if_pos h1;have e3:Ya room ks k=false:=by unfold Ya;rw[decide_eq_true h1];rfl
  rw[e1,e2,e3];exact⟨rfl,hs⟩
 ·have h1:=of_decide_eq_false h1;have hnd:=(Anh hs).1;have hsm:=(Anh hs).2.2;obtain⟨x,t,hx⟩:∃x t,Ap ks k++[k]=x::t:=by
   cases hc:Ap ks k++[k] with
   | nil=>simp at hc
   | cons x t=>exact⟨x,t,rfl⟩
  have e1:Avo room ks k=t:=by unfold Avo;rw[if_neg h1,hx];rfl
  have e2:Ac5 room ks k=x:=by unfold Ac5;rw[if_neg h1,hx];rfl
  have e3:Ya room ks k=true:=by unfold Ya;rw[decide_eq_false h1];rfl
  rw[e1,e2,e3];rw[hx] at hs hnd hsm;obtain⟨lb,xb,row,free,m,hi,hN,hs⟩:=Ku hs;refine Ak [blk b [.i room,pq lb 0,pq xb 0]] hs λw hs=>?_
  repeat (first|with_reducible refine Aa ?_|((with_reducible refine A3 ?_);first|refine Ag hs ?_|fail)|((with_reducible refine BY ?_);first|refine Ar ?_|fail)|((with_reducible refine Bd ?_);first|refine Af hs ?_|fail)|fail)
  refine An (DK hs) λe w ⟨he,hs⟩=>⟨_,he,?_⟩
  repeat (first|((with_reducible refine Bd ?_);first|refine Af hs ?_|fail)|fail)
  refine AG (EV hs) λe w ⟨he,hs⟩=>⟨_,_,he,?_⟩;have hndr:=GZ (mk:=.string) (b:=lb) (row:=row) (free:=free) (M:=blk b [.i room,pq lb 0,pq xb 0]::ixr (Am.int .i64) xb 0 m::M) (by exact Ab.fin hs);obtain⟨p,rest,hrow⟩:∃p rest,row=(p,x)::rest:=by
   have:=hi.keys;cases hc:row with
   | nil=>rw[hc] at this;cases this
   | cons e r=>
    rw[hc] at this;rw[List.map_cons,List.cons.injEq] at this;exact⟨e.1,r,by rw[<- this.1]⟩
  have hat:IP row ((AT row 0:Nat):Int)=some 0:=by
   have h0:AT row 0=p:=by rw[hrow];rfl
   rw[h0];exact JB hndr (i:=0) (e:=(p,x)) (by rw[hrow];rfl)
  have hval:ES row ((AT row 0:Nat):Int)=some x:=by
   unfold ES;rw[hat,hrow];rfl
  rw[hval,hat];have hs:=IH (b:=b) (room:=room) (lb:=lb) (xb:=xb) (M:=M) hi hN (by exact Ab.fin hs);have hzx:x.size<4611686018427387904:=hsm x (by simp);refine An (UT hs hzx (by omega)) λe w ⟨he,hs⟩=>⟨_,he,?_⟩;simp only[Option.getD_some] at hs;rw[Jy hnd] at hs;exact⟨rfl,hs⟩
theorem Azv(hs:Ab W w L){r:Int}:Calls PR 147 #[.i r] w λe w'=>∃b,e = .returned (pq b 0)/\Ab W w' (ghR b (Zj r) 0 []::L):=by
 refine(cw ⟨mixed,Tryz.func147,rfl⟩ Ajb (Q:=λv w'=>∃b,v=pq b 0/\Ab W w' (ghR b (Zj r) 0 []::L)) ?_).mono λe w' ⟨v,he,b,hv,hs⟩=>⟨b,by rw[he,hv],hs⟩;refine An (Dk hs _ _ _) λe w ⟨he,hs⟩=>⟨_,he,?_⟩;refine(HN hs).mono λe w ⟨lb,he,hs⟩=>⟨_,he,?_⟩;refine(Ac6 hs).mono λe w ⟨xb,he,hs⟩=>⟨_,he,?_⟩
 repeat (first|((with_reducible refine CC ?_);first|refine Ai hs λb_ w hs=>?_|fail)|fail)
 exact⟨_,rfl,IH (lb:=lb) (xb:=xb) (row:=[]) (free:=[]) (m:=[]) ⟨rfl,by simp,List.Perm.refl _,by simp⟩ (Nat.le_refl _) (by exact Ab.fin hs)⟩
end
end Go.Proofs.YtjipofkjmmpjdaaGreat
namespace Go.Hb
def V8(b n:Nat):HP:=JM λ(z:Int×BL)=>ghR b z.1 n z.2
def FZ(b:Nat):HP:=JM λ(z:Int×Int×Int)=>EA ((0<=z.1/\z.1<=16777216)/\0<=z.2.1/\0<=z.2.2) (blk b [.i z.1,.i z.2.1,.i z.2.2])
abbrev cW(b:Nat)(k:Int)(t e g:Nat)(x0 x1 x2 x3 x4 x5:Int):HP:=blk b [.i k,.iface t (pq e 0),pq g 0,.i x0,.i x1,.i x2,.i x3,.i x4,.i x5]
structure P6(x0 x1 x2 x3 x4 x5:Int):Prop where
 h0:0<=x0
 h1:0<=x1
 h2:0<=x2
 h3:0<=x3
 h4:0<=x4
 h5:0<=x5
def BM(b n:Nat):HP:=JM λ(z:(Int×Nat×Nat×Nat)×(Int×BL)×(Int×Int×Int×Int×Int×Int))=>EA (P6 z.2.2.1 z.2.2.2.1 z.2.2.2.2.1 z.2.2.2.2.2.1 z.2.2.2.2.2.2.1 z.2.2.2.2.2.2.2)
 (AJ [cW b z.1.1 z.1.2.1 z.1.2.2.1 z.1.2.2.2 z.2.2.1 z.2.2.2.1 z.2.2.2.2.1 z.2.2.2.2.2.1 z.2.2.2.2.2.2.1 z.2.2.2.2.2.2.2,eg z.1.2.1 z.1.2.2.1 z.2.1.1 z.2.1.2,V8 z.1.2.2.2 n])
def Ri(l:List Nat)(n:Nat):HP:=AJ (l.map λb=>BM b n)
def E9(b n:Nat):HP:=JM λ(z:(Nat×Int)×List Nat)=>EA (z.2.length=5) (AJ [blk b (pq z.1.1 0::.i z.1.2::z.2.map λq=>pq q 0),FZ z.1.1,Ri z.2 n])
section
variable{W w:World}{M L:List HP}{b n m:Nat}
theorem Anj(hn:n<=m)(h:Ab W w (V8 b n::M)):Ab W w (V8 b m::M):=by
 obtain⟨⟨r,ks⟩,h⟩:=h.openE;obtain⟨lb,xb,row,free,mm,h1,h2,h⟩:=Ku h;exact Ab.shutE (r,ks) (IH h1 (by omega) h)
theorem YI(h:Ab W w (FZ b::M)):∃r a t:Int,((0<=r/\r<=16777216)/\0<=a/\0<=t)/\Ab W w (blk b [.i r,.i a,.i t]::M):=by
 obtain⟨⟨r,a,t⟩,h⟩:=h.openE;obtain⟨hp,h⟩:=h.openA;exact⟨r,a,t,hp,h⟩
theorem KQ{r a t:Int}(hp:(0<=r/\r<=16777216)/\0<=a/\0<=t)(h:Ab W w (blk b [.i r,.i a,.i t]::M)):Ab W w (FZ b::M):=Ab.shutE (r,a,t) (Ab.shutA hp h)
theorem Q9(h:Ab W w (BM b n::M)):∃(k:Int) (t e g:Nat) (c:Int) (R:BL) (x0 x1 x2 x3 x4 x5:Int),P6 x0 x1 x2 x3 x4 x5/\Ab W w (cW b k t e g x0 x1 x2 x3 x4 x5::eg t e c R::V8 g n::M):=by
 obtain⟨⟨⟨k,t,e,g⟩,⟨c,R⟩,x0,x1,x2,x3,x4,x5⟩,h⟩:=h.openE;obtain⟨hp,h⟩:=h.openA;exact⟨k,t,e,g,c,R,x0,x1,x2,x3,x4,x5,hp,h.openL⟩
theorem I5{k:Int}{t e g:Nat}{c:Int}{R:BL}{x0 x1 x2 x3 x4 x5:Int}(hp:P6 x0 x1 x2 x3 x4 x5)(h:Ab W w (cW b k t e g x0 x1 x2 x3 x4 x5::eg t e c R::V8 g n::M)):Ab W w (BM b n::M):=
 Ab.shutE ((k,t,e,g),(c,R),x0,x1,x2,x3,x4,x5) (Ab.shutA hp (Ab.shutL (Ps:=[_,_,_]) h))
theorem FV(hn:n<=m)(h:Ab W w (BM b n::M)):Ab W w (BM b m::M):=by
 obtain⟨k,t,e,g,c,R,x0,x1,x2,x3,x4,x5,hp,hs⟩:=Q9 h;have hs:Ab W w (V8 g n::cW b k t e g x0 x1 x2 x3 x4 x5::eg t e c R::M):=by exact Ab.fin hs
 have hs:=Anj hn hs;exact I5 (c:=c) (R:=R) (t:=t) (e:=e) (g:=g) (k:=k) hp (by exact Ab.fin hs)
theorem KB(h:Ab W w (E9 b n::M)):∃(sb:Nat) (r:Int) (l:List Nat),l.length=5/\Ab W w (blk b (pq sb 0::.i r::l.map λq=>pq q 0)::FZ sb::Ri l n::M):=by
 obtain⟨⟨⟨sb,r⟩,l⟩,h⟩:=h.openE;obtain⟨hp,h⟩:=h.openA;exact⟨sb,r,l,hp,h.openL⟩
theorem KC{sb:Nat}{r:Int}{l:List Nat}(hp:l.length=5)(h:Ab W w (blk b (pq sb 0::.i r::l.map λq=>pq q 0)::FZ sb::Ri l n::M)):Ab W w (E9 b n::M):=
 Ab.shutE ((sb,r),l) (Ab.shutA hp (Ab.shutL (Ps:=[_,_,_]) h))
end
end Go.Hb
namespace Go.Proofs.YtjipofkjmmpjdaaGreat
open Go.Hb Go.IntWalk
section
variable{W w:World}{L M:List HP}{b n:Nat}{key:BA}
theorem YE{l:List Value}{i:Nat}{x:Value}(h:l[i]? = some x):l.set i x=l:=by
 apply List.ext_getElem?;intro j
 by_cases hj:i=j
 ·subst hj;rw[List.getElem?_set_self (List.getElem?_eq_some_iff.1 h).1,h]
 ·rw[List.getElem?_set_ne hj]
theorem Iq{a b:Int}(h:0<=a):0<=EB a b:=by unfold EB;split <;> omega
theorem Ahy{i:Nat}{cs:List Value}{x y z:Int}{hit gone:Bool}(hs:Ab W w (blk b cs::L))(h0:cs[i]? = some (.i x))(h1:cs[i+1]? = some (.i y))(h2:cs[i+2]? = some (.i z))(hx:0<=x)(hy:0<=y)(hz:0<=z) :
  Calls PR 125 #[pq b i,.b hit,.b gone] w λe w'=>e = .returned (.tuple #[])/\∃x' y' z':Int,(0<=x'/\0<=y'/\0<=z')/\Ab W w' (blk b (((cs.set i (.i x')).set (i+1) (.i y')).set (i+2) (.i z'))::L):=by
 refine(cw ⟨mixed,Tryz.func125,rfl⟩ Air (Q:=λv w'=>v = .tuple #[]/\∃x' y' z':Int,(0<=x'/\0<=y'/\0<=z')/\Ab W w' (blk b (((cs.set i (.i x')).set (i+1) (.i y')).set (i+2) (.i z'))::L)) ?_).mono λe w' ⟨v,he,hv,h⟩=>⟨by rw[he,hv],h⟩;have l0:=(List.getElem?_eq_some_iff.1 h0).1;have l1:=(List.getElem?_eq_some_iff.1 h1).1;have l2:=(List.getElem?_eq_some_iff.1 h2).1;refine Aa (Ag hs ?_ (hc:=h0));refine An (Ip hs (by omega) (by omega)) λe w ⟨he,hs⟩=>⟨_,he,?_⟩;refine Aa (HS 0 hs rfl l0 λw hs=>?_);have hs:Ab W w (blk b (cs.set i (.i (EB x 1099511627776)))::L):=hs
 have hx':0<=EB x 1099511627776:=Iq hx;generalize EB x 1099511627776=x' at *;have g1:(cs.set i (.i x'))[i+1]? = some (.i y):=by rw[List.getElem?_set_ne (by omega)];exact h1
 have last:∀(w:World)(y':Int),0<=y'->Ab W w (blk b ((cs.set i (.i x')).set (i+1) (.i y'))::L)->TV Bg (λv w'=>v = .tuple #[]/\∃x' y' z':Int,(0<=x'/\0<=y'/\0<=z')/\Ab W w' (blk b (((cs.set i (.i x')).set (i+1) (.i y')).set (i+2) (.i z'))::L)) (some ⟨b,i,none⟩) gone w:=by
  clear hs;intro w y' hy' hs;refine jw Wh ?_;have g2:((cs.set i (.i x')).set (i+1) (.i y'))[i+2]? = some (.i z):=by rw[List.getElem?_set_ne (by omega),List.getElem?_set_ne (by omega)];exact h2
  refine Ao (λ_=>?_) (λ_=>?_)
  ·refine Aa (Ag hs ?_ (hc:=g2));refine An (Ip hs (by omega) (by omega)) λe w ⟨he,hs⟩=>⟨_,he,?_⟩;refine Aa (HS 0 hs rfl (by simp;omega) λw hs=>?_)
   exact⟨rfl,x',y',_,⟨hx',hy',Iq hz⟩,hs⟩
  ·refine⟨rfl,x',y',z,⟨hx',hy',hz⟩,?_⟩;rw[show((cs.set i (.i x')).set (i+1) (.i y')).set (i+2) (.i z)=(cs.set i (.i x')).set (i+1) (.i y') from YE g2];exact hs
 refine Ao (λ_=>?_) (λ_=>?_)
 ·refine Aa (Ag hs ?_ (hc:=g1));refine An (Ip hs (by omega) (by omega)) λe w ⟨he,hs⟩=>⟨_,he,?_⟩;refine Aa (HS 0 hs rfl (by simp;omega) λw hs=>?_)
  exact last w _ (Iq hy) hs
 ·refine last w y hy ?_;rw[show(cs.set i (.i x')).set (i+1) (.i y)=cs.set i (.i x') from YE g1];exact hs
theorem A00(hs:Ab W w L){r:Int}:Ba PR 73 #[.i r] w λv w'=>∃b,v=pq b 0/\Ab W w' (FZ b::L):=by
 refine cw ⟨mixed,Tryz.func73,rfl⟩ Aux ?_;refine An (Dk hs _ _ _) λe w ⟨he,hs⟩=>⟨_,he,?_⟩;refine Ai hs λb w hs=>⟨b,rfl,KQ ⟨F5 r (by omega),by omega,by omega⟩ hs⟩
theorem Aww{c:Int}(hs:Ab W w (FZ b::M)):Ba PR 106 #[pq b 0,.i c] w λv w'=>∃x:Int,v = .i x/\Ab W w' (FZ b::M):=by
 refine cw ⟨mixed,Tryz.func106,rfl⟩ Aie ?_;refine Ac rfl ?_;obtain⟨r,a,t,hp,hs⟩:=YI hs;refine Ak [blk b [.i r,.i a,.i t]] hs λw hs=>?_;refine Aa (Ar ?_);refine An (Dk hs _ _ _) λe w ⟨he,hs⟩=>⟨_,he,Af hs ?_⟩;exact Ax (by decide) ⟨_,rfl,KQ hp hs⟩
theorem Apc(hz:key.size<64)(hs:Ab W w (FZ b::M)):Ba PR 87 #[pq b 0,.s key] w λv w'=>∃x:Bool,v = .b x/\Ab W w' (FZ b::M):=by
 refine cw ⟨mixed,Tryz.func87,rfl⟩ Avb ?_;refine Ac rfl ?_;obtain⟨r,a,t,hp,hs⟩:=YI hs;refine Aa (Ag hs ?_);refine An (Ip hs (by omega) (by omega)) λe w ⟨he,hs⟩=>⟨_,he,?_⟩;refine Aa (A4 hs λw hs=>?_);refine Ak [blk b [.i r,.i (EB a 1099511627776),.i t]] hs λw hs=>?_;refine Aa (Ar ?_);refine An (Gj hs (by omega)) λe w ⟨he,hs⟩=>⟨_,he,Af hs ?_⟩;have hS:∀{x y:Int},Ba PR 123 #[.int .u64 x,.i y] w λv w'=>∃z:Bool,v = .b z/\Ab W w' (blk b [.i r,.i (EB a 1099511627776),.i t]::M):=by
  intro x y;refine cw ⟨mixed,Tryz.func123,rfl⟩ Aip ?_;exact Ax (by decide) ⟨_,rfl,hs⟩
 clear hs;refine Ah hS λv w ⟨x,hv,hs⟩=>⟨_,hv,?_⟩;have hp2:0<=EB a 1099511627776:=Iq hp.2.1;refine Ao (λ_=>⟨_,rfl,KQ ⟨hp.1,hp2,hp.2.2⟩ hs⟩) (λ_=>?_);refine Aa (Ag hs ?_);refine An (Ip hs (by omega) (by omega)) λe w ⟨he,hs⟩=>⟨_,he,?_⟩;refine Aa (A4 hs λw hs=>?_);exact⟨_,rfl,KQ ⟨hp.1,hp2,Iq hp.2.2⟩ hs⟩
theorem QJ{k r:Int}(hk:0<=k/\k<5)(hs:Ab W w L):Ba PR 107 #[.i k,.i r] w λv w'=>∃b,v = .tuple #[pq b 0,.i 0]/\Ab W w' (BM b 0::L):=by
 refine cw ⟨mixed,Tryz.func107,rfl⟩ Aif ?_;refine TO hs (λh=>by omega) (λ_ _ t e w hs=>?_);refine Ac rfl ?_;refine An (Azv hs) λe_ w ⟨g,he,hs⟩=>⟨_,he,?_⟩;have hs:Ab W w (V8 g 0::eg t e (AU r) []::L):=Ab.shutE (Zj r,[]) hs;refine Ai hs λb w hs=>⟨b,rfl,I5 (t:=t) (e:=e) (g:=g) (k:=k) (c:=AU r) (R:=[]) (x0:=0) (x1:=0) (x2:=0) (x3:=0) (x4:=0) (x5:=0) ⟨by decide,by decide,by decide,by decide,by decide,by decide⟩ (by exact Ab.fin hs)⟩
theorem Ani(hb:n<600000000)(hz:key.size<64)(hs:Ab W w (V8 b n::M)):Ba PR 124 #[pq b 0,.s key] w λv w'=>∃x:Bool,v = .b x/\Ab W w' (V8 b n::M):=by
 obtain⟨⟨r,ks⟩,hs⟩:=hs.openE;exact Calls.mono (UT (k:=key) hs (by omega) (by omega)) λe w ⟨he,hs⟩=>⟨_,he,_,rfl,Ab.shutE (r,_) hs⟩
theorem Avp(hb:n<600000000)(hz:key.size<64)(hs:Ab W w (V8 b n::M)):Ba PR 126 #[pq b 0,.s key] w λv w'=>∃(x:BA) (y:Bool),v = .tuple #[.s x,.b y]/\Ab W w' (V8 b (n+1)::M):=by
 obtain⟨⟨r,ks⟩,hs⟩:=hs.openE;exact Calls.mono (Azu (k:=key) hs (by omega) (by omega)) λe w ⟨he,hs⟩=>⟨_,he,_,_,rfl,Ab.shutE (r,_) hs⟩
theorem Hl(hb:n<600000000)(hz:key.size<64)(hs:Ab W w (BM b n::M)):Ba PR 88 #[pq b 0,.s key] w λv w'=>∃x:Bool,v = .b x/\Ab W w' (BM b (n+1)::M):=by
 refine cw ⟨mixed,Tryz.func88,rfl⟩ Avc ?_;refine Ac rfl ?_;obtain⟨k,t,e,g,c,R,x0,x1,x2,x3,x4,x5,hp,hs⟩:=Q9 hs;refine Aa (EG hs ?_);have hs:Ab W w (eg t e c R::cW b k t e g x0 x1 x2 x3 x4 x5::V8 g n::M):=hs.perm (List.Perm.swap _ _ _);have hok:=Ah6 hs;refine GQ hz hs λf hf=>AH hf λv w ⟨hit,l,G,S,hv,ha,hs⟩=>⟨_,_,hv,?_⟩;have hle:=ha.acc.le1;have hGz:∀x∈G,x.size<64:=λx hx=>hok.small x (ha.acc.sub x hx);have hs:Ab W w (cW b k t e g x0 x1 x2 x3 x4 x5::eg t e c S::V8 g n::recs Am.str l G::M):=by exact Ab.fin hs
 have hll:=BE (s:=l) (E:=Am.str) (rows:=G) hs;have j1:∀(w:World)(back:Bool),Ab W w (cW b k t e g x0 x1 x2 x3 x4 x5::eg t e c S::V8 g n::recs Am.str l G::M)->ZP Bg (λv w'=>∃x:Bool,v = .b x/\Ab W w' (BM b (n+1)::M)) (some ⟨b,0,none⟩) hit l back w:=by
  clear hs;intro w back hs;refine jw ZQ ?_;refine Aa ?_;refine As (Ahy (i:=0+3) hs rfl rfl rfl hp.h0 hp.h1 hp.h2) λe_ w ⟨he,y0,y1,y2,hy,hs⟩=>⟨he,?_⟩;have hs:Ab W w (cW b k t e g y0 y1 y2 x3 x4 x5::eg t e c S::V8 g n::recs Am.str l G::M):=hs;refine Aa ?_;refine As (Ahy (i:=0+6) hs rfl rfl rfl hp.h3 hp.h4 hp.h5) λe_ w ⟨he,y3,y4,y5,hy2,hs⟩=>⟨he,?_⟩;have hs:Ab W w (cW b k t e g y0 y1 y2 y3 y4 y5::eg t e c S::V8 g n::recs Am.str l G::M):=hs;have hp2:P6 y0 y1 y2 y3 y4 y5:=⟨hy.1,hy.2.1,hy.2.2,hy2.1,hy2.2.1,hy2.2.2⟩;have hG:G=[]\/∃x,G=[x]:=by
   cases G with
   | nil=>exact .inl rfl
   | cons x t=>exact .inr ⟨x,by cases t with
    | nil=>rfl
    | cons y t=>simp at hle⟩
  rcases hG with hG|⟨x,hG⟩
  ·rw[hG] at hs hll;refine AO 1 ?_;rw[Jw];refine Ac (decide_eq_false (by simp at hll;omega)) ?_
   refine jw Pt ?_;exact⟨_,rfl,FV (Nat.le_succ n) (I5 (t:=t) (e:=e) (g:=g) (k:=k) (c:=c) (R:=S) hp2 (by exact Ab.fin hs))⟩
  ·rw[hG] at hs hll hGz;have hl1:l.n=1:=by simpa using hll
   refine AO 2 ?_;rw[Jw];refine Al (decide_eq_true (by omega)) ?_;refine Cn (s:=l) (E:=Am.str) (rows:=[x]) hs λb_ o_ ha_=>?_;refine C6 (s:=l) (E:=Am.str) (rows:=[x]) ha_ hs ?_;refine Aa (Ag hs ?_);have hs:Ab W w (V8 g n::cW b k t e g y0 y1 y2 y3 y4 y5::eg t e c S::recs Am.str l [x]::M):=by exact Ab.fin hs
   refine AH (Avp (key:=x) hb (hGz x (.head _)) hs) λv w ⟨z1,z2,hv,hs⟩=>⟨_,_,hv,?_⟩;rw[Jw];refine Ac (decide_eq_false ?_) ?_
   ·rw[show IntKind.wrap .i64 ((0:Int)+1)=1 from rfl];omega
   refine jw Pt ?_;exact⟨_,rfl,I5 (t:=t) (e:=e) (g:=g) (k:=k) (c:=c) (R:=S) hp2 (by exact Ab.fin hs)⟩
 refine Ao (λ_=>?_) (λ_=>j1 w false hs);refine Aa (Ag hs ?_);have hs:Ab W w (V8 g n::cW b k t e g x0 x1 x2 x3 x4 x5::eg t e c S::recs Am.str l G::M):=by exact Ab.fin hs
 refine Ah (Ani hb hz hs) λv w ⟨x,hv,hs⟩=>⟨_,hv,j1 w x (by exact Ab.fin hs)⟩
theorem I6(hs:Ab W w (BM b n::M)):Ba PR 103 #[pq b 0] w λv w'=>∃x y z:Int,v = .agg #[.i x,.i y,.i z]/\Ab W w' (BM b n::M):=by
 refine cw ⟨mixed,Tryz.func103,rfl⟩ Aib ?_;refine Ai hs λb1 w hs=>?_;refine Ac rfl ?_;have hs:Ab W w (BM b n::blk b1 [.i (0:Int),.i (0:Int),.i (0:Int)]::M):=hs.perm (List.Perm.swap _ _ _);obtain⟨k,t,e,g,c,R,x0,x1,x2,x3,x4,x5,hp,hs⟩:=Q9 hs;refine Aa (Ag hs (Ag hs (Ag hs ?_)));refine Ai hs λb2 w hs=>?_
 iterate 3 refine A4 hs λw hs=>?_
 refine Aa ?_
 iterate 3 refine A4 hs λw hs=>?_
 iterate 3 refine Ag hs ?_
 iterate 3 refine A4 hs λw hs=>?_
 iterate 3 refine Ag hs ?_
 exact⟨_,_,_,rfl,I5 (t:=t) (e:=e) (g:=g) (k:=k) (c:=c) (R:=R) (x0:=0) (x1:=0) (x2:=0) ⟨by decide,by decide,by decide,hp.h3,hp.h4,hp.h5⟩ (by exact Ab.fin hs)⟩
theorem To(hb:n<600000000)(hz:key.size<64)(hs:Ab W w (E9 b n::M)):Ba PR 52 #[pq b 0,.s key] w λv w'=>∃x:Bool,v = .b x/\Ab W w' (E9 b (n+1)::M):=by
 refine cw ⟨mixed,Tryz.func52,rfl⟩ Aug ?_;refine Ac rfl ?_;obtain⟨sb,r,l,hl,hs⟩:=KB hs;obtain⟨q0,q1,q2,q3,q4,rfl⟩:∃a b c d e,l=[a,b,c,d,e]:=by
  match l,hl with
  | [a,b,c,d,e],_=>exact⟨a,b,c,d,e,rfl⟩
 have hs:=(show Ab W w (Ri [q0,q1,q2,q3,q4] n::blk b [pq sb 0,.i r,pq q0 0,pq q1 0,pq q2 0,pq q3 0,pq q4 0]::FZ sb::M) by exact Ab.fin hs).openL;have hs:Ab W w (BM q0 n::BM q1 n::BM q2 n::BM q3 n::BM q4 n::blk b [pq sb 0,.i r,pq q0 0,pq q1 0,pq q2 0,pq q3 0,pq q4 0]::FZ sb::M):=hs;have back:∀w m,n<=m->Ab W w (BM q0 m::BM q1 m::BM q2 m::BM q3 m::BM q4 m::blk b [pq sb 0,.i r,pq q0 0,pq q1 0,pq q2 0,pq q3 0,pq q4 0]::FZ sb::M)->Ab W w (E9 b m::M):=λw m _ hs=>by
  have hs:=Ab.shutL (Ps:=[BM q0 m,BM q1 m,BM q2 m,BM q3 m,BM q4 m]) hs;have hs:Ab W w (Ri [q0,q1,q2,q3,q4] m::blk b [pq sb 0,.i r,pq q0 0,pq q1 0,pq q2 0,pq q3 0,pq q4 0]::FZ sb::M):=hs;exact KC (l:=[q0,q1,q2,q3,q4]) (r:=r) (sb:=sb) rfl (by exact Ab.fin hs)
 refine Aa (Ag hs ?_);have hs:Ab W w (FZ sb::BM q0 n::BM q1 n::BM q2 n::BM q3 n::BM q4 n::blk b [pq sb 0,.i r,pq q0 0,pq q1 0,pq q2 0,pq q3 0,pq q4 0]::M):=by exact Ab.fin hs
 refine Ah (Apc hz hs) λv w ⟨x,hv,hs⟩=>⟨_,hv,?_⟩;have hs:Ab W w (BM q0 n::BM q1 n::BM q2 n::BM q3 n::BM q4 n::blk b [pq sb 0,.i r,pq q0 0,pq q1 0,pq q2 0,pq q3 0,pq q4 0]::FZ sb::M):=by exact Ab.fin hs
 refine Ao (λ_=>⟨_,rfl,back w (n+1) (Nat.le_succ n) ?_⟩) (λ_=>?_)
 ·have hs:=FV (Nat.le_succ n) hs;have hs:=FV (Nat.le_succ n) (show Ab W w (BM q1 n::BM q2 n::BM q3 n::BM q4 n::BM q0 (n+1)::blk b [pq sb 0,.i r,pq q0 0,pq q1 0,pq q2 0,pq q3 0,pq q4 0]::FZ sb::M) by exact Ab.fin hs);have hs:=FV (Nat.le_succ n) (show Ab W w (BM q2 n::BM q3 n::BM q4 n::BM q0 (n+1)::BM q1 (n+1)::blk b [pq sb 0,.i r,pq q0 0,pq q1 0,pq q2 0,pq q3 0,pq q4 0]::FZ sb::M) by exact Ab.fin hs)
  have hs:=FV (Nat.le_succ n) (show Ab W w (BM q3 n::BM q4 n::BM q0 (n+1)::BM q1 (n+1)::BM q2 (n+1)::blk b [pq sb 0,.i r,pq q0 0,pq q1 0,pq q2 0,pq q3 0,pq q4 0]::FZ sb::M) by exact Ab.fin hs);have hs:=FV (Nat.le_succ n) (show Ab W w (BM q4 n::BM q0 (n+1)::BM q1 (n+1)::BM q2 (n+1)::BM q3 (n+1)::blk b [pq sb 0,.i r,pq q0 0,pq q1 0,pq q2 0,pq q3 0,pq q4 0]::FZ sb::M) by exact Ab.fin hs)
  exact Ab.fin hs
 refine jw Z8 ?_;refine Aa ?_
 iterate 5 refine Ag hs ?_
 refine AO 6 ?_;rw[EL];refine Al (by decide) (Ax (by decide) ⟨some ⟨q0,0,none⟩,rfl,rfl,?_⟩);have hs:Ab W w (BM q0 n::BM q1 n::BM q2 n::BM q3 n::BM q4 n::blk b [pq sb 0,.i r,pq q0 0,pq q1 0,pq q2 0,pq q3 0,pq q4 0]::FZ sb::M):=by exact Ab.fin hs
 refine Ah (Hl hb hz hs) λv w ⟨x,hv,hs⟩=>⟨_,hv,?_⟩;rw[show IntKind.wrap .i64 ((0:Int)+1)=1 from rfl];rw[EL];refine Al (by decide) (Ax (by decide) ⟨some ⟨q1,0,none⟩,rfl,rfl,?_⟩);have hs:Ab W w (BM q1 n::BM q0 (n+1)::BM q2 n::BM q3 n::BM q4 n::blk b [pq sb 0,.i r,pq q0 0,pq q1 0,pq q2 0,pq q3 0,pq q4 0]::FZ sb::M):=by exact Ab.fin hs
 refine Ah (Hl hb hz hs) λv w ⟨x,hv,hs⟩=>⟨_,hv,?_⟩;rw[show IntKind.wrap .i64 ((1:Int)+1)=2 from rfl];rw[EL];refine Al (by decide) (Ax (by decide) ⟨some ⟨q2,0,none⟩,rfl,rfl,?_⟩);have hs:Ab W w (BM q2 n::BM q0 (n+1)::BM q1 (n+1)::BM q3 n::BM q4 n::blk b [pq sb 0,.i r,pq q0 0,pq q1 0,pq q2 0,pq q3 0,pq q4 0]::FZ sb::M):=by exact Ab.fin hs
 refine Ah (Hl hb hz hs) λv w ⟨x,hv,hs⟩=>⟨_,hv,?_⟩;rw[show IntKind.wrap .i64 ((2:Int)+1)=3 from rfl];rw[EL];refine Al (by decide) (Ax (by decide) ⟨some ⟨q3,0,none⟩,rfl,rfl,?_⟩);have hs:Ab W w (BM q3 n::BM q0 (n+1)::BM q1 (n+1)::BM q2 (n+1)::BM q4 n::blk b [pq sb 0,.i r,pq q0 0,pq q1 0,pq q2 0,pq q3 0,pq q4 0]::FZ sb::M):=by exact Ab.fin hs
 refine Ah (Hl hb hz hs) λv w ⟨x,hv,hs⟩=>⟨_,hv,?_⟩;rw[show IntKind.wrap .i64 ((3:Int)+1)=4 from rfl];rw[EL];refine Al (by decide) (Ax (by decide) ⟨some ⟨q4,0,none⟩,rfl,rfl,?_⟩);have hs:Ab W w (BM q4 n::BM q0 (n+1)::BM q1 (n+1)::BM q2 (n+1)::BM q3 (n+1)::blk b [pq sb 0,.i r,pq q0 0,pq q1 0,pq q2 0,pq q3 0,pq q4 0]::FZ sb::M):=by exact Ab.fin hs
 refine Ah (Hl hb hz hs) λv w ⟨x,hv,hs⟩=>⟨_,hv,?_⟩;rw[show IntKind.wrap .i64 ((4:Int)+1)=5 from rfl];rw[EL];refine Ac (by decide) ?_;refine jw Z9 ?_;exact⟨_,rfl,back w (n+1) (Nat.le_succ n) (by exact Ab.fin hs)⟩
theorem Aos(hs:Ab W w (E9 b n::M)):Ba PR 59 #[pq b 0] w λv w'=>∃g0 g1 g2 g3 g4 all:Int,v = .tuple #[.agg #[.i g0,.i g1,.i g2,.i g3,.i g4],.i all]/\Ab W w' (E9 b n::M):=by
 refine cw ⟨mixed,Tryz.func59,rfl⟩ Auo ?_;refine Ai hs λgb w hs=>?_;refine Ac rfl ?_;have hs:Ab W w (E9 b n::blk gb [.i (0:Int),.i (0:Int),.i (0:Int),.i (0:Int),.i (0:Int)]::M):=hs.perm (List.Perm.swap _ _ _);obtain⟨sb,r,l,hl,hs⟩:=KB hs;obtain⟨q0,q1,q2,q3,q4,rfl⟩:∃a b c d e,l=[a,b,c,d,e]:=by
  match l,hl with
  | [a,b,c,d,e],_=>exact⟨a,b,c,d,e,rfl⟩
 have hs:=(show Ab W w (Ri [q0,q1,q2,q3,q4] n::blk gb [.i (0:Int),.i (0:Int),.i (0:Int),.i (0:Int),.i (0:Int)]::blk b [pq sb 0,.i r,pq q0 0,pq q1 0,pq q2 0,pq q3 0,pq q4 0]::FZ sb::M) by exact Ab.fin hs).openL;have hs:Ab W w (BM q0 n::BM q1 n::BM q2 n::BM q3 n::BM q4 n::blk gb [.i (0:Int),.i (0:Int),.i (0:Int),.i (0:Int),.i (0:Int)]::blk b [pq sb 0,.i r,pq q0 0,pq q1 0,pq q2 0,pq q3 0,pq q4 0]::FZ sb::M):=hs
 refine Aa ?_
 iterate 5 refine Ag hs ?_
 refine AO 6 ?_;rw[EM];refine Al (by decide) (Ax (by decide) ⟨some ⟨q0,0,none⟩,rfl,rfl,?_⟩);have hs:Ab W w (BM q0 n::BM q1 n::BM q2 n::BM q3 n::BM q4 n::blk gb [.i (0:Int),.i (0:Int),.i (0:Int),.i (0:Int),.i (0:Int)]::blk b [pq sb 0,.i r,pq q0 0,pq q1 0,pq q2 0,pq q3 0,pq q4 0]::FZ sb::M):=by exact Ab.fin hs
 refine Calls.mono (I6 hs) λe_ w ⟨v,he,z0,z0',y0,hv,hs⟩=>⟨z0,z0',y0,by rw[he,hv],?_⟩;refine Ai hs λnb w hs=>?_;refine A4 hs λw hs=>A4 hs λw hs=>A4 hs λw hs=>?_;refine Ak [blk nb [.i z0,.i z0',.i y0]] hs λw hs=>?_;refine Ar (Ar (Ax (by decide) ?_));refine A4 (o:=0) hs λw hs=>Af hs ?_;rw[show IntKind.wrap .i64 ((0:Int)+1)=1 from rfl];rw[EM];refine Al (by decide) (Ax (by decide) ⟨some ⟨q1,0,none⟩,rfl,rfl,?_⟩);have hs:Ab W w (BM q1 n::BM q0 n::BM q2 n::BM q3 n::BM q4 n::blk gb [.i y0,.i (0:Int),.i (0:Int),.i (0:Int),.i (0:Int)]::blk b [pq sb 0,.i r,pq q0 0,pq q1 0,pq q2 0,pq q3 0,pq q4 0]::FZ sb::M):=by exact Ab.fin hs
 refine Calls.mono (I6 hs) λe_ w ⟨v,he,z1,z1',y1,hv,hs⟩=>⟨z1,z1',y1,by rw[he,hv],?_⟩;refine Ai hs λnb w hs=>?_;refine A4 hs λw hs=>A4 hs λw hs=>A4 hs λw hs=>?_;refine Ak [blk nb [.i z1,.i z1',.i y1]] hs λw hs=>?_;refine Ar (Ar (Ax (by decide) ?_));refine A4 (o:=1) hs λw hs=>Af hs ?_;rw[show IntKind.wrap .i64 ((1:Int)+1)=2 from rfl];rw[EM];refine Al (by decide) (Ax (by decide) ⟨some ⟨q2,0,none⟩,rfl,rfl,?_⟩);have hs:Ab W w (BM q2 n::BM q0 n::BM q1 n::BM q3 n::BM q4 n::blk gb [.i y0,.i y1,.i (0:Int),.i (0:Int),.i (0:Int)]::blk b [pq sb 0,.i r,pq q0 0,pq q1 0,pq q2 0,pq q3 0,pq q4 0]::FZ sb::M):=by exact Ab.fin hs
 refine Calls.mono (I6 hs) λe_ w ⟨v,he,z2,z2',y2,hv,hs⟩=>⟨z2,z2',y2,by rw[he,hv],?_⟩;refine Ai hs λnb w hs=>?_;refine A4 hs λw hs=>A4 hs λw hs=>A4 hs λw hs=>?_;refine Ak [blk nb [.i z2,.i z2',.i y2]] hs λw hs=>?_;refine Ar (Ar (Ax (by decide) ?_));refine A4 (o:=2) hs λw hs=>Af hs ?_;rw[show IntKind.wrap .i64 ((2:Int)+1)=3 from rfl];rw[EM];refine Al (by decide) (Ax (by decide) ⟨some ⟨q3,0,none⟩,rfl,rfl,?_⟩);have hs:Ab W w (BM q3 n::BM q0 n::BM q1 n::BM q2 n::BM q4 n::blk gb [.i y0,.i y1,.i y2,.i (0:Int),.i (0:Int)]::blk b [pq sb 0,.i r,pq q0 0,pq q1 0,pq q2 0,pq q3 0,pq q4 0]::FZ sb::M):=by exact Ab.fin hs
 refine Calls.mono (I6 hs) λe_ w ⟨v,he,z3,z3',y3,hv,hs⟩=>⟨z3,z3',y3,by rw[he,hv],?_⟩;refine Ai hs λnb w hs=>?_;refine A4 hs λw hs=>A4 hs λw hs=>A4 hs λw hs=>?_;refine Ak [blk nb [.i z3,.i z3',.i y3]] hs λw hs=>?_;refine Ar (Ar (Ax (by decide) ?_));refine A4 (o:=3) hs λw hs=>Af hs ?_;rw[show IntKind.wrap .i64 ((3:Int)+1)=4 from rfl];rw[EM];refine Al (by decide) (Ax (by decide) ⟨some ⟨q4,0,none⟩,rfl,rfl,?_⟩);have hs:Ab W w (BM q4 n::BM q0 n::BM q1 n::BM q2 n::BM q3 n::blk gb [.i y0,.i y1,.i y2,.i y3,.i (0:Int)]::blk b [pq sb 0,.i r,pq q0 0,pq q1 0,pq q2 0,pq q3 0,pq q4 0]::FZ sb::M):=by exact Ab.fin hs
 refine Calls.mono (I6 hs) λe_ w ⟨v,he,z4,z4',y4,hv,hs⟩=>⟨z4,z4',y4,by rw[he,hv],?_⟩;refine Ai hs λnb w hs=>?_;refine A4 hs λw hs=>A4 hs λw hs=>A4 hs λw hs=>?_;refine Ak [blk nb [.i z4,.i z4',.i y4]] hs λw hs=>?_;refine Ar (Ar (Ax (by decide) ?_));refine A4 (o:=4) hs λw hs=>Af hs ?_;rw[show IntKind.wrap .i64 ((4:Int)+1)=5 from rfl];rw[EM];refine Ac (by decide) ?_;refine jw ZH ?_
 iterate 5 refine Ag hs ?_
 iterate 5 refine A4 hs λw hs=>?_
 iterate 5 refine Ag hs ?_
 have hs:=Ab.shutL (Ps:=[BM q0 n,BM q1 n,BM q2 n,BM q3 n,BM q4 n]) (M:=blk b [pq sb 0,.i r,pq q0 0,pq q1 0,pq q2 0,pq q3 0,pq q4 0]::FZ sb::M) (by exact Ab.fin hs);have hs:Ab W w (Ri [q0,q1,q2,q3,q4] n::blk b [pq sb 0,.i r,pq q0 0,pq q1 0,pq q2 0,pq q3 0,pq q4 0]::FZ sb::M):=hs;exact⟨_,_,_,_,_,_,rfl,KC (l:=[q0,q1,q2,q3,q4]) (r:=r) (sb:=sb) rfl (by exact Ab.fin hs)⟩
theorem Adn{sb:Nat}{r c:Int}{vs:List Value}(hv5:vs.length=5)(hs:Ab W w (blk b (pq sb 0::.i r::vs)::FZ sb::M)):Ba PR 64 #[pq b 0,.i c] w λv w'=>v = .tuple #[]/\Ab W w' (E9 b 0::M):=by
 refine cw ⟨mixed,Tryz.func64,rfl⟩ Aut ?_;refine Ac rfl ?_;obtain⟨v0,v1,v2,v3,v4,rfl⟩:∃a b c d e,vs=[a,b,c,d,e]:=by
  match vs,hv5 with
  | [a,b,c,d,e],_=>exact⟨a,b,c,d,e,rfl⟩
 refine Aa (Ag hs ?_);have hs:Ab W w (FZ sb::blk b [pq sb 0,.i r,v0,v1,v2,v3,v4]::M):=hs.perm (List.Perm.swap _ _ _);refine Ah (Aww hs) λv w ⟨x,hv,hs⟩=>⟨_,hv,?_⟩;refine Aa (A4 hs λw hs=>?_);refine AO 6 ?_;rw[EN];refine Al (by decide) ?_;have hs:Ab W w (blk b [pq sb 0,.i x,v0,v1,v2,v3,v4]::FZ sb::M):=by exact Ab.fin hs
 refine AF hs λw hs=>Aa (Aa (Ag hs ?_));refine AH (QJ (by decide) hs) λv w ⟨q0,hv,hs⟩=>⟨_,_,hv,Ax (by decide) ?_⟩;refine A4 (o:=2) hs λw hs=>?_;rw[show IntKind.wrap .i64 ((0:Int)+1)=1 from rfl];rw[EN];refine Al (by decide) ?_;have hs:Ab W w (blk b [pq sb 0,.i x,pq q0 0,v1,v2,v3,v4]::BM q0 0::FZ sb::M):=by exact Ab.fin hs
 refine AF hs λw hs=>Aa (Aa (Ag hs ?_));refine AH (QJ (by decide) hs) λv w ⟨q1,hv,hs⟩=>⟨_,_,hv,Ax (by decide) ?_⟩;refine A4 (o:=3) hs λw hs=>?_;rw[show IntKind.wrap .i64 ((1:Int)+1)=2 from rfl];rw[EN];refine Al (by decide) ?_;have hs:Ab W w (blk b [pq sb 0,.i x,pq q0 0,pq q1 0,v2,v3,v4]::BM q0 0::BM q1 0::FZ sb::M):=by exact Ab.fin hs
 refine AF hs λw hs=>Aa (Aa (Ag hs ?_));refine AH (QJ (by decide) hs) λv w ⟨q2,hv,hs⟩=>⟨_,_,hv,Ax (by decide) ?_⟩;refine A4 (o:=4) hs λw hs=>?_;rw[show IntKind.wrap .i64 ((2:Int)+1)=3 from rfl];rw[EN];refine Al (by decide) ?_;have hs:Ab W w (blk b [pq sb 0,.i x,pq q0 0,pq q1 0,pq q2 0,v3,v4]::BM q0 0::BM q1 0::BM q2 0::FZ sb::M):=by exact Ab.fin hs
 refine AF hs λw hs=>Aa (Aa (Ag hs ?_));refine AH (QJ (by decide) hs) λv w ⟨q3,hv,hs⟩=>⟨_,_,hv,Ax (by decide) ?_⟩;refine A4 (o:=5) hs λw hs=>?_;rw[show IntKind.wrap .i64 ((3:Int)+1)=4 from rfl];rw[EN];refine Al (by decide) ?_;have hs:Ab W w (blk b [pq sb 0,.i x,pq q0 0,pq q1 0,pq q2 0,pq q3 0,v4]::BM q0 0::BM q1 0::BM q2 0::BM q3 0::FZ sb::M):=by exact Ab.fin hs
 refine AF hs λw hs=>Aa (Aa (Ag hs ?_));refine AH (QJ (by decide) hs) λv w ⟨q4,hv,hs⟩=>⟨_,_,hv,Ax (by decide) ?_⟩;refine A4 (o:=6) hs λw hs=>?_;rw[show IntKind.wrap .i64 ((4:Int)+1)=5 from rfl];rw[EN];refine Ac (by decide) ?_;have hs:=Ab.shutL (Ps:=[BM q0 0,BM q1 0,BM q2 0,BM q3 0,BM q4 0]) (M:=blk b [pq sb 0,.i x,pq q0 0,pq q1 0,pq q2 0,pq q3 0,pq q4 0]::FZ sb::M) (by exact Ab.fin hs);have hs:Ab W w (Ri [q0,q1,q2,q3,q4] 0::blk b [pq sb 0,.i x,pq q0 0,pq q1 0,pq q2 0,pq q3 0,pq q4 0]::FZ sb::M):=hs
 exact⟨rfl,KC (l:=[q0,q1,q2,q3,q4]) (r:=x) (sb:=sb) rfl (by exact Ab.fin hs)⟩
theorem Agg{c:Int}(hs:Ab W w (E9 b n::M)):Ba PR 64 #[pq b 0,.i c] w λv w'=>v = .tuple #[]/\Ab W w' (E9 b 0::M):=by
 obtain⟨sb,r,l,hl,hs⟩:=KB hs;exact Adn (r:=r) (vs:=l.map λq=>pq q 0) (by simpa using hl) (by exact Ab.fin hs)
theorem A0l{x c:Int}(hs:Ab W w L):Ba PR 46 #[.i x,.i c] w λv w'=>∃b,v=pq b 0/\Ab W w' (E9 b 0::L):=by
 refine cw ⟨mixed,Tryz.func46,rfl⟩ Aua ?_;refine Ah (A00 hs) λv w ⟨sb,hv,hs⟩=>⟨_,hv,?_⟩;refine Ai hs λb w hs=>?_;refine AX (Adn (r:=0) (vs:=[.p none,.p none,.p none,.p none,.p none]) rfl hs) λv w ⟨hv,hs⟩=>⟨hv,b,rfl,hs⟩
end
end Go.Proofs.YtjipofkjmmpjdaaGreat
namespace Go.Proofs.YtjipofkjmmpjdaaGreat
open Go.Hb
section
variable(jn:Jn)(Q:VW)
abbrev M3:FuncId:=170
abbrev Io:FuncId:=183
abbrev D5:FuncId:=201
def GC:BA:=⟨#[0,1,2,2,3,3,3,3,4,4,4,4,4,4,4,4,5,5,5,5,5,5,5,5,5,5,5,5,5,5,5,5,6,6,6,6,6,6,6,6,6,6,6,6,6,6,6,6,6,6,6,6,6,6,6,6,6,6,6,6,6,6,6,6,7,7,7,7,7,7,7,7,7,7,7,7,7,7,7,7,7,7,7,7,7,7,7,7,7,7,7,7,7,7,7,7,7,7,7,7,7,7,7,7,7,7,7,7,7,7,7,7,7,7,7,7,7,7,7,7,7,7,7,7,7,7,7,7,8,8,8,8,8,8,8,8,8,8,8,8,8,8,8,8,8,8,8,8,8,8,8,8,8,8,8,8,8,8,8,8,8,8,8,8,8,8,8,8,8,8,8,8,8,8,8,8,8,8,8,8,8,8,8,8,8,8,8,8,8,8,8,8,8,8,8,8,8,8,8,8,8,8,8,8,8,8,8,8,8,8,8,8,8,8,8,8,8,8,8,8,8,8,8,8,8,8,8,8,8,8,8,8,8,8,8,8,8,8,8,8,8,8,8,8,8,8,8,8,8,8,8,8,8,8,8,8]⟩
def A2:KP:=⟨[(8,[0,1,2]),(12,[0,1,2]),(37,[2,8,9,10,11,13,14,15,16]),(38,[2,8,9,10,11,13,14,15,16]),(44,[2,8,9,10,11,13,14,15]),(51,[2,8,9,10,14,15,16,17,18]),(52,[2,8,9,10,14,15,16,17,18]),(58,[2,8,14,15,17,18])],[(6,[0,1,2,3,4,5,6,7])]⟩
def Gs(y2:Int)(s8:Int)(un014:Int)(q115:Int)(un2117:Int)(q018:Int):WP:=jn 58 (λρ=>BC PR A2 jn (Fu (I7 18 [true]) (AR Tryz.f170)) (Bf PR Tryz.f170 Q) A6 (Bf PR Tryz.f170 Q) ρ) (us 2 ((.int .u64 y2)::us 5 ((.int .u64 s8)::us 5 ((.int .u64 un014)::(.int .u64 q115)::us 1 ((.int .u64 un2117)::(.int .u64 q018)::us 116 [])))))
def Gr(m6:Nat)(y2:Int)(s8:Int)(yn19:Int)(yn010:Int)(un014:Int)(q115:Int)(rhat16:Int)(un2117:Int)(q018:Int):WP:=jn 52 (λρ=>BC PR A2 jn (Fu (I7 18 [false,false,false,true]) (AR Tryz.f170)) (Iy PR A2 jn (Fu (I7 18 [false,false,false]) (AR Tryz.f170)) (A8 2 (JF PR A2 jn (Fu (I7 18 [true]) (AR Tryz.f170)) (Bf PR Tryz.f170 Q) A6 (Bf PR Tryz.f170 Q)) A6) (Bf PR Tryz.f170 Q) m6) (A8 2 (JF PR A2 jn (Fu (I7 18 [true]) (AR Tryz.f170)) (Bf PR Tryz.f170 Q) A6 (Bf PR Tryz.f170 Q)) A6) (Bf PR Tryz.f170 Q) ρ) (us 2 ((.int .u64 y2)::us 5 ((.int .u64 s8)::(.int .u64 yn19)::(.int .u64 yn010)::us 3 ((.int .u64 un014)::(.int .u64 q115)::(.int .u64 rhat16)::(.int .u64 un2117)::(.int .u64 q018)::us 116 []))))
def Gu(m6:Nat)(y2:Int)(s8:Int)(yn19:Int)(yn010:Int)(un014:Int)(q115:Int)(rhat16:Int)(un2117:Int)(q018:Int):WP:=CQ PR A2 jn (Fu (I7 18 [false,false,false]) (AR Tryz.f170)) (A8 2 (JF PR A2 jn (Fu (I7 18 [true]) (AR Tryz.f170)) (Bf PR Tryz.f170 Q) A6 (Bf PR Tryz.f170 Q)) A6) (Bf PR Tryz.f170 Q) m6 (us 2 ((.int .u64 y2)::us 5 ((.int .u64 s8)::(.int .u64 yn19)::(.int .u64 yn010)::us 3 ((.int .u64 un014)::(.int .u64 q115)::(.int .u64 rhat16)::(.int .u64 un2117)::(.int .u64 q018)::us 116 []))))
def Gq(y2:Int)(s8:Int)(yn19:Int)(yn010:Int)(un3211:Int)(un113:Int)(un014:Int)(q115:Int):WP:=jn 44 (λρ=>BC PR A2 jn (Fu (I7 14 [true]) (AR Tryz.f170)) (Bf PR Tryz.f170 Q) A6 (Bf PR Tryz.f170 Q) ρ) (us 2 ((.int .u64 y2)::us 5 ((.int .u64 s8)::(.int .u64 yn19)::(.int .u64 yn010)::(.int .u64 un3211)::us 1 ((.int .u64 un113)::(.int .u64 un014)::(.int .u64 q115)::us 119 []))))
def Gp(m3:Nat)(y2:Int)(s8:Int)(yn19:Int)(yn010:Int)(un3211:Int)(un113:Int)(un014:Int)(q115:Int)(rhat16:Int):WP:=jn 38 (λρ=>BC PR A2 jn (Fu (I7 14 [false,false,false,true]) (AR Tryz.f170)) (Iy PR A2 jn (Fu (I7 14 [false,false,false]) (AR Tryz.f170)) (A8 0 (JF PR A2 jn (Fu (I7 14 [true]) (AR Tryz.f170)) (Bf PR Tryz.f170 Q) A6 (Bf PR Tryz.f170 Q)) A6) (Bf PR Tryz.f170 Q) m3) (A8 0 (JF PR A2 jn (Fu (I7 14 [true]) (AR Tryz.f170)) (Bf PR Tryz.f170 Q) A6 (Bf PR Tryz.f170 Q)) A6) (Bf PR Tryz.f170 Q) ρ) (us 2 ((.int .u64 y2)::us 5 ((.int .u64 s8)::(.int .u64 yn19)::(.int .u64 yn010)::(.int .u64 un3211)::us 1 ((.int .u64 un113)::(.int .u64 un014)::(.int .u64 q115)::(.int .u64 rhat16)::us 118 []))))
def Gt(m3:Nat)(y2:Int)(s8:Int)(yn19:Int)(yn010:Int)(un3211:Int)(un113:Int)(un014:Int)(q115:Int)(rhat16:Int):WP:=CQ PR A2 jn (Fu (I7 14 [false,false,false]) (AR Tryz.f170)) (A8 0 (JF PR A2 jn (Fu (I7 14 [true]) (AR Tryz.f170)) (Bf PR Tryz.f170 Q) A6 (Bf PR Tryz.f170 Q)) A6) (Bf PR Tryz.f170 Q) m3 (us 2 ((.int .u64 y2)::us 5 ((.int .u64 s8)::(.int .u64 yn19)::(.int .u64 yn010)::(.int .u64 un3211)::us 1 ((.int .u64 un113)::(.int .u64 un014)::(.int .u64 q115)::(.int .u64 rhat16)::us 118 []))))
def MF(hi0:Int)(lo1:Int)(y2:Int):WP:=jn 12 (λρ=>BC PR A2 jn (Fu [true,true,true] (AR Tryz.f170)) (Bf PR Tryz.f170 Q) A6 (Bf PR Tryz.f170 Q) ρ) ((.int .u64 hi0)::(.int .u64 lo1)::(.int .u64 y2)::us 132 [])
def ME(hi0:Int)(lo1:Int)(y2:Int):WP:=jn 8 (λρ=>BC PR A2 jn (Fu [true,true] (AR Tryz.f170)) (Bf PR Tryz.f170 Q) A6 (Bf PR Tryz.f170 Q) ρ) ((.int .u64 hi0)::(.int .u64 lo1)::(.int .u64 y2)::us 132 [])
def Yt(hi0:Int)(lo1:Int)(y2:Int)(Q:VW):WP:=Av Bg PR A2 Tryz.f170 [.int .u64 hi0,.int .u64 lo1,.int .u64 y2] Q
def Cd:KP:=⟨[(10,[0,2]),(16,[0,2]),(22,[0,2])],[]⟩
def Gy(x0:Int)(n2:Int):WP:=jn 22 (λρ=>BC PR Cd jn (Fu [true,true,true,true] (AR Tryz.f183)) (Bf PR Tryz.f183 Q) A6 (Bf PR Tryz.f183 Q) ρ) ((.int .u64 x0)::us 1 ((.i n2)::us 22 []))
def Gx(x0:Int)(n2:Int):WP:=jn 16 (λρ=>BC PR Cd jn (Fu [true,true,true] (AR Tryz.f183)) (Bf PR Tryz.f183 Q) A6 (Bf PR Tryz.f183 Q) ρ) ((.int .u64 x0)::us 1 ((.i n2)::us 22 []))
def Gw(x0:Int)(n2:Int):WP:=jn 10 (λρ=>BC PR Cd jn (Fu [true,true] (AR Tryz.f183)) (Bf PR Tryz.f183 Q) A6 (Bf PR Tryz.f183 Q) ρ) ((.int .u64 x0)::us 1 ((.i n2)::us 22 []))
def Yu(x0:Int)(Q:VW):WP:=Av Bg PR Cd Tryz.f183 [.int .u64 x0] Q
def Gv(x0:Int)(Q:VW):WP:=Av Bg PR Aw Tryz.f201 [.int .u64 x0] Q
end
theorem Nj(jn:Jn)(Q:VW)(y2:Int)(s8:Int)(un014:Int)(q115:Int)(un2117:Int)(q018:Int):BC PR A2 jn (Fu (I7 18 [true]) (AR Tryz.f170)) (Bf PR Tryz.f170 Q) A6 (Bf PR Tryz.f170 Q) (us 2 ((.int .u64 y2)::us 5 ((.int .u64 s8)::us 5 ((.int .u64 un014)::(.int .u64 q115)::us 1 ((.int .u64 un2117)::(.int .u64 q018)::us 116 [])))))=(AY ((0:Int)<=s8)<|Q (.tuple #[.int .u64 (IntKind.wrap .u64 ((IntKind.wrap .u64 (q115*4294967296))+q018)),.int .u64 (C8 .u64 (IntKind.wrap .u64 ((IntKind.wrap .u64 ((IntKind.wrap .u64 (un2117*4294967296))+un014))-(IntKind.wrap .u64 (q018*y2)))) s8)])):=by kernel_rfl
theorem Ni(Q:VW)(y2:Int)(s8:Int)(un014:Int)(q115:Int)(un2117:Int)(q018:Int):Gs Bg Q y2 s8 un014 q115 un2117 q018=BC PR A2 Bg (Fu (I7 18 [true]) (AR Tryz.f170)) (Bf PR Tryz.f170 Q) A6 (Bf PR Tryz.f170 Q) (us 2 ((.int .u64 y2)::us 5 ((.int .u64 s8)::us 5 ((.int .u64 un014)::(.int .u64 q115)::us 1 ((.int .u64 un2117)::(.int .u64 q018)::us 116 []))))):=by kernel_rfl
theorem Nh(jn:Jn)(Q:VW)(m6:Nat)(y2:Int)(s8:Int)(yn19:Int)(yn010:Int)(un014:Int)(q115:Int)(rhat16:Int)(un2117:Int)(q018:Int):BC PR A2 jn (Fu (I7 18 [false,false,false,true]) (AR Tryz.f170)) (Iy PR A2 jn (Fu (I7 18 [false,false,false]) (AR Tryz.f170)) (A8 2 (JF PR A2 jn (Fu (I7 18 [true]) (AR Tryz.f170)) (Bf PR Tryz.f170 Q) A6 (Bf PR Tryz.f170 Q)) A6) (Bf PR Tryz.f170 Q) m6) (A8 2 (JF PR A2 jn (Fu (I7 18 [true]) (AR Tryz.f170)) (Bf PR Tryz.f170 Q) A6 (Bf PR Tryz.f170 Q)) A6) (Bf PR Tryz.f170 Q) (us 2 ((.int .u64 y2)::us 5 ((.int .u64 s8)::(.int .u64 yn19)::(.int .u64 yn010)::us 3 ((.int .u64 un014)::(.int .u64 q115)::(.int .u64 rhat16)::(.int .u64 un2117)::(.int .u64 q018)::us 116 []))))=(
 Aj (decide ((IntKind.wrap .u64 (rhat16+yn19))>=4294967296)) (Gs jn Q y2 s8 un014 q115 un2117 (IntKind.wrap .u64 (q018-1))) (Gu jn Q m6 y2 s8 yn19 yn010 un014 q115 (IntKind.wrap .u64 (rhat16+yn19)) un2117 (IntKind.wrap .u64 (q018-1)))):=by kernel_rfl
theorem Ng(Q:VW)(m6:Nat)(y2:Int)(s8:Int)(yn19:Int)(yn010:Int)(un014:Int)(q115:Int)(rhat16:Int)(un2117:Int)(q018:Int):Gr Bg Q m6 y2 s8 yn19 yn010 un014 q115 rhat16 un2117 q018=BC PR A2 Bg (Fu (I7 18 [false,false,false,true]) (AR Tryz.f170)) (Iy PR A2 Bg (Fu (I7 18 [false,false,false]) (AR Tryz.f170)) (A8 2 (JF PR A2 Bg (Fu (I7 18 [true]) (AR Tryz.f170)) (Bf PR Tryz.f170 Q) A6 (Bf PR Tryz.f170 Q)) A6) (Bf PR Tryz.f170 Q) m6) (A8 2 (JF PR A2 Bg (Fu (I7 18 [true]) (AR Tryz.f170)) (Bf PR Tryz.f170 Q) A6 (Bf PR Tryz.f170 Q)) A6) (Bf PR Tryz.f170 Q) (us 2 ((.int .u64 y2)::us 5 ((.int .u64 s8)::(.int .u64 yn19)::(.int .u64 yn010)::us 3 ((.int .u64 un014)::(.int .u64 q115)::(.int .u64 rhat16)::(.int .u64 un2117)::(.int .u64 q018)::us 116 [])))):=by kernel_rfl
theorem Nl(jn:Jn)(Q:VW)(m6:Nat)(y2:Int)(s8:Int)(yn19:Int)(yn010:Int)(un014:Int)(q115:Int)(rhat16:Int)(un2117:Int)(q018:Int):Gu jn Q (m6+1) y2 s8 yn19 yn010 un014 q115 rhat16 un2117 q018=(Aj (decide (q018>=4294967296)) (Gr jn Q m6 y2 s8 yn19 yn010 un014 q115 rhat16 un2117 q018) (Aj (decide ((IntKind.wrap .u64 (q018*yn010))>(IntKind.wrap .u64 ((IntKind.wrap .u64 (4294967296*rhat16))+un014)))) (Gr jn Q m6 y2 s8 yn19 yn010 un014 q115 rhat16 un2117 q018) (Gs jn Q y2 s8 un014 q115 un2117 q018))):=by kernel_rfl
theorem Nf(jn:Jn)(Q:VW)(y2:Int)(s8:Int)(yn19:Int)(yn010:Int)(un3211:Int)(un113:Int)(un014:Int)(q115:Int):BC PR A2 jn (Fu (I7 14 [true]) (AR Tryz.f170)) (Bf PR Tryz.f170 Q) A6 (Bf PR Tryz.f170 Q) (us 2 ((.int .u64 y2)::us 5 ((.int .u64 s8)::(.int .u64 yn19)::(.int .u64 yn010)::(.int .u64 un3211)::us 1 ((.int .u64 un113)::(.int .u64 un014)::(.int .u64 q115)::us 119 []))))=(AY (yn19≠0)<|DF λm=>Gu jn Q m y2 s8 yn19 yn010 un014 q115 (IntKind.wrap .u64 ((IntKind.wrap .u64 ((IntKind.wrap .u64 ((IntKind.wrap .u64 (un3211*4294967296))+un113))-(IntKind.wrap .u64 (q115*y2))))-(IntKind.wrap .u64 ((IntKind.wrap .u64 (Int.tdiv (IntKind.wrap .u64 ((IntKind.wrap .u64 ((IntKind.wrap .u64 (un3211*4294967296))+un113))-(IntKind.wrap .u64 (q115*y2)))) yn19))*yn19)))) (IntKind.wrap .u64 ((IntKind.wrap .u64 ((IntKind.wrap .u64 (un3211*4294967296))+un113))-(IntKind.wrap .u64 (q115*y2)))) (IntKind.wrap .u64 (Int.tdiv (IntKind.wrap .u64 ((IntKind.wrap .u64 ((IntKind.wrap .u64 (un3211*4294967296))+un113))-(IntKind.wrap .u64 (q115*y2)))) yn19))):=by kernel_rfl
theorem Nd(Q:VW)(y2:Int)(s8:Int)(yn19:Int)(yn010:Int)(un3211:Int)(un113:Int)(un014:Int)(q115:Int):Gq Bg Q y2 s8 yn19 yn010 un3211 un113 un014 q115=BC PR A2 Bg (Fu (I7 14 [true]) (AR Tryz.f170)) (Bf PR Tryz.f170 Q) A6 (Bf PR Tryz.f170 Q) (us 2 ((.int .u64 y2)::us 5 ((.int .u64 s8)::(.int .u64 yn19)::(.int .u64 yn010)::(.int .u64 un3211)::us 1 ((.int .u64 un113)::(.int .u64 un014)::(.int .u64 q115)::us 119 [])))):=by kernel_rfl
theorem Nc(jn:Jn)(Q:VW)(m3:Nat)(y2:Int)(s8:Int)(yn19:Int)(yn010:Int)(un3211:Int)(un113:Int)(un014:Int)(q115:Int)(rhat16:Int):BC PR A2 jn (Fu (I7 14 [false,false,false,true]) (AR Tryz.f170)) (Iy PR A2 jn (Fu (I7 14 [false,false,false]) (AR Tryz.f170)) (A8 0 (JF PR A2 jn (Fu (I7 14 [true]) (AR Tryz.f170)) (Bf PR Tryz.f170 Q) A6 (Bf PR Tryz.f170 Q)) A6) (Bf PR Tryz.f170 Q) m3) (A8 0 (JF PR A2 jn (Fu (I7 14 [true]) (AR Tryz.f170)) (Bf PR Tryz.f170 Q) A6 (Bf PR Tryz.f170 Q)) A6) (Bf PR Tryz.f170 Q) (us 2 ((.int .u64 y2)::us 5 ((.int .u64 s8)::(.int .u64 yn19)::(.int .u64 yn010)::(.int .u64 un3211)::us 1 ((.int .u64 un113)::(.int .u64 un014)::(.int .u64 q115)::(.int .u64 rhat16)::us 118 []))))=(
 Aj (decide ((IntKind.wrap .u64 (rhat16+yn19))>=4294967296)) (Gq jn Q y2 s8 yn19 yn010 un3211 un113 un014 (IntKind.wrap .u64 (q115-1))) (Gt jn Q m3 y2 s8 yn19 yn010 un3211 un113 un014 (IntKind.wrap .u64 (q115-1)) (IntKind.wrap .u64 (rhat16+yn19)))):=by kernel_rfl
theorem Nb(Q:VW)(m3:Nat)(y2:Int)(s8:Int)(yn19:Int)(yn010:Int)(un3211:Int)(un113:Int)(un014:Int)(q115:Int)(rhat16:Int):Gp Bg Q m3 y2 s8 yn19 yn010 un3211 un113 un014 q115 rhat16=BC PR A2 Bg (Fu (I7 14 [false,false,false,true]) (AR Tryz.f170)) (Iy PR A2 Bg (Fu (I7 14 [false,false,false]) (AR Tryz.f170)) (A8 0 (JF PR A2 Bg (Fu (I7 14 [true]) (AR Tryz.f170)) (Bf PR Tryz.f170 Q) A6 (Bf PR Tryz.f170 Q)) A6) (Bf PR Tryz.f170 Q) m3) (A8 0 (JF PR A2 Bg (Fu (I7 14 [true]) (AR Tryz.f170)) (Bf PR Tryz.f170 Q) A6 (Bf PR Tryz.f170 Q)) A6) (Bf PR Tryz.f170 Q) (us 2 ((.int .u64 y2)::us 5 ((.int .u64 s8)::(.int .u64 yn19)::(.int .u64 yn010)::(.int .u64 un3211)::us 1 ((.int .u64 un113)::(.int .u64 un014)::(.int .u64 q115)::(.int .u64 rhat16)::us 118 [])))):=by kernel_rfl
theorem Nk(jn:Jn)(Q:VW)(m3:Nat)(y2:Int)(s8:Int)(yn19:Int)(yn010:Int)(un3211:Int)(un113:Int)(un014:Int)(q115:Int)(rhat16:Int):Gt jn Q (m3+1) y2 s8 yn19 yn010 un3211 un113 un014 q115 rhat16=(Aj (decide (q115>=4294967296)) (Gp jn Q m3 y2 s8 yn19 yn010 un3211 un113 un014 q115 rhat16) (Aj (decide ((IntKind.wrap .u64 (q115*yn010))>(IntKind.wrap .u64 ((IntKind.wrap .u64 (4294967296*rhat16))+un113)))) (Gp jn Q m3 y2 s8 yn19 yn010 un3211 un113 un014 q115 rhat16) (Gq jn Q y2 s8 yn19 yn010 un3211 un113 un014 q115))):=by kernel_rfl
theorem Na(jn:Jn)(Q:VW)(hi0:Int)(lo1:Int)(y2:Int):BC PR A2 jn (Fu [true,true,true] (AR Tryz.f170)) (Bf PR Tryz.f170 Q) A6 (Bf PR Tryz.f170 Q) ((.int .u64 hi0)::(.int .u64 lo1)::(.int .u64 y2)::us 132 [])=(Aj (hi0==0) (A5 λS=>AY (y2≠0)<|AY (y2≠0)<|Q (.tuple #[.int .u64 (IntKind.wrap .u64 (Int.tdiv lo1 y2)),.int .u64 (Int.tmod lo1 y2)])) (Bw D5 [.int .u64 y2] λX5=>AY ((0:Int)<=(IntKind.wrap .u64 X5))<|AY ((0:Int)<=(32:Int))<|AY ((0:Int)<=(IntKind.wrap .u64 X5))<|AY ((0:Int)<=(IntKind.wrap .u64 ((64:Int)-(IntKind.wrap .u64 X5))))<|AY ((0:Int)<=(IntKind.wrap .u64 X5))<|
 AY ((0:Int)<=(32:Int))<|AY ((C8 .u64 (GF .u64 y2 (IntKind.wrap .u64 X5)) (32:Int))≠0)<|DF λm=>Gt jn Q m (GF .u64 y2 (IntKind.wrap .u64 X5)) (IntKind.wrap .u64 X5) (C8 .u64 (GF .u64 y2 (IntKind.wrap .u64 X5)) 32) (bits .and .u64 (GF .u64 y2 (IntKind.wrap .u64 X5)) 4294967295) (bits .or .u64 (GF .u64 hi0 (IntKind.wrap .u64 X5)) (C8 .u64 lo1 (IntKind.wrap .u64 (64-(IntKind.wrap .u64 X5))))) (C8 .u64 (GF .u64 lo1 (IntKind.wrap .u64 X5)) 32) (bits .and .u64 (GF .u64 lo1 (IntKind.wrap .u64 X5)) 4294967295) (IntKind.wrap .u64 (Int.tdiv (bits .or .u64 (GF .u64 hi0 (IntKind.wrap .u64 X5)) (C8 .u64 lo1 (IntKind.wrap .u64 (64-(IntKind.wrap .u64 X5))))) (C8 .u64 (GF .u64 y2 (IntKind.wrap .u64 X5)) 32))) (IntKind.wrap .u64 ((bits .or .u64 (GF .u64 hi0 (IntKind.wrap .u64 X5)) (C8 .u64 lo1 (IntKind.wrap .u64 (64-(IntKind.wrap .u64 X5)))))-(IntKind.wrap .u64 ((IntKind.wrap .u64 (Int.tdiv (bits .or .u64 (GF .u64 hi0 (IntKind.wrap .u64 X5)) (C8 .u64 lo1 (IntKind.wrap .u64 (64-(IntKind.wrap .u64 X5))))) (C8 .u64 (GF .u64 y2 (IntKind.wrap .u64 X5)) 32)))*(C8 .u64 (GF .u64 y2 (IntKind.wrap .u64 X5)) 32))))))):=by kernel_rfl
theorem MZ(Q:VW)(hi0:Int)(lo1:Int)(y2:Int):MF Bg Q hi0 lo1 y2=BC PR A2 Bg (Fu [true,true,true] (AR Tryz.f170)) (Bf PR Tryz.f170 Q) A6 (Bf PR Tryz.f170 Q) ((.int .u64 hi0)::(.int .u64 lo1)::(.int .u64 y2)::us 132 []):=by kernel_rfl
theorem MY(jn:Jn)(Q:VW)(hi0:Int)(lo1:Int)(y2:Int):BC PR A2 jn (Fu [true,true] (AR Tryz.f170)) (Bf PR Tryz.f170 Q) A6 (Bf PR Tryz.f170 Q) ((.int .u64 hi0)::(.int .u64 lo1)::(.int .u64 y2)::us 132 [])=(Aj (decide (y2<=hi0)) (MW 1 0 (C9) λ(t_3:TypeId)(v_4:Value)=>C9) (MF jn Q hi0 lo1 y2)):=by kernel_rfl
theorem MX(Q:VW)(hi0:Int)(lo1:Int)(y2:Int):ME Bg Q hi0 lo1 y2=BC PR A2 Bg (Fu [true,true] (AR Tryz.f170)) (Bf PR Tryz.f170 Q) A6 (Bf PR Tryz.f170 Q) ((.int .u64 hi0)::(.int .u64 lo1)::(.int .u64 y2)::us 132 []):=by kernel_rfl
theorem Vh(jn:Jn)(hi0:Int)(lo1:Int)(y2:Int)(Q:VW):Av jn PR A2 Tryz.f170 [.int .u64 hi0,.int .u64 lo1,.int .u64 y2] Q=(Aj (y2==0) (MW 0 0 (C9) λ(t_1:TypeId)(v_2:Value)=>C9) (ME jn Q hi0 lo1 y2)):=by kernel_rfl
theorem Vg(hi0:Int)(lo1:Int)(y2:Int)(Q:VW):Yt hi0 lo1 y2 Q=Av Bg PR A2 Tryz.f170 [.int .u64 hi0,.int .u64 lo1,.int .u64 y2] Q:=rfl
theorem Qd{hi0:Int}{lo1:Int}{y2:Int}{Q:VW}{w:World}(h:Yt hi0 lo1 y2 Q w):Calls PR M3 #[.int .u64 hi0,.int .u64 lo1,.int .u64 y2] w λe w'=>∃v,e = .returned v/\Q v w':=
 H5 mixed Tryz.func170 rfl h
theorem Nr(jn:Jn)(Q:VW)(x0:Int)(n2:Int):BC PR Cd jn (Fu [true,true,true,true] (AR Tryz.f183)) (Bf PR Tryz.f183 Q) A6 (Bf PR Tryz.f183 Q) ((.int .u64 x0)::us 1 ((.i n2)::us 22 []))=(AY ((0:Int)<=(IntKind.wrap .u8 x0)/\(IntKind.wrap .u8 x0)<(GC.size:Int))<|Q (.i (IntKind.wrap .i64 (n2+(IntKind.wrap .i64 (AV GC ((IntKind.wrap .u8 x0)).toNat)))))):=by kernel_rfl
theorem Nq(Q:VW)(x0:Int)(n2:Int):Gy Bg Q x0 n2=BC PR Cd Bg (Fu [true,true,true,true] (AR Tryz.f183)) (Bf PR Tryz.f183 Q) A6 (Bf PR Tryz.f183 Q) ((.int .u64 x0)::us 1 ((.i n2)::us 22 [])):=by kernel_rfl
theorem Np(jn:Jn)(Q:VW)(x0:Int)(n2:Int):BC PR Cd jn (Fu [true,true,true] (AR Tryz.f183)) (Bf PR Tryz.f183 Q) A6 (Bf PR Tryz.f183 Q) ((.int .u64 x0)::us 1 ((.i n2)::us 22 []))=(Aj (decide (x0>=256)) (AY ((0:Int)<=(8:Int))<|Gy jn Q (C8 .u64 x0 8) (IntKind.wrap .i64 (n2+8))) (Gy jn Q x0 n2)):=by kernel_rfl
theorem No(Q:VW)(x0:Int)(n2:Int):Gx Bg Q x0 n2=BC PR Cd Bg (Fu [true,true,true] (AR Tryz.f183)) (Bf PR Tryz.f183 Q) A6 (Bf PR Tryz.f183 Q) ((.int .u64 x0)::us 1 ((.i n2)::us 22 [])):=by kernel_rfl
theorem Nn(jn:Jn)(Q:VW)(x0:Int)(n2:Int):BC PR Cd jn (Fu [true,true] (AR Tryz.f183)) (Bf PR Tryz.f183 Q) A6 (Bf PR Tryz.f183 Q) ((.int .u64 x0)::us 1 ((.i n2)::us 22 []))=(Aj (decide (x0>=65536)) (AY ((0:Int)<=(16:Int))<|Gx jn Q (C8 .u64 x0 16) (IntKind.wrap .i64 (n2+16))) (Gx jn Q x0 n2)):=by kernel_rfl
theorem Nm(Q:VW)(x0:Int)(n2:Int):Gw Bg Q x0 n2=BC PR Cd Bg (Fu [true,true] (AR Tryz.f183)) (Bf PR Tryz.f183 Q) A6 (Bf PR Tryz.f183 Q) ((.int .u64 x0)::us 1 ((.i n2)::us 22 [])):=by kernel_rfl
theorem Vj(jn:Jn)(x0:Int)(Q:VW):Av jn PR Cd Tryz.f183 [.int .u64 x0] Q=(Aj (decide (x0>=4294967296)) (AY ((0:Int)<=(32:Int))<|Gw jn Q (C8 .u64 x0 32) 32) (Gw jn Q x0 0)):=by kernel_rfl
theorem Vi(x0:Int)(Q:VW):Yu x0 Q=Av Bg PR Cd Tryz.f183 [.int .u64 x0] Q:=rfl
theorem Qe{x0:Int}{Q:VW}{w:World}(h:Yu x0 Q w):Calls PR Io #[.int .u64 x0] w λe w'=>∃v,e = .returned v/\Q v w':=
 H5 mixed Tryz.func183 rfl h
theorem HV(jn:Jn)(x0:Int)(Q:VW):Av jn PR Aw Tryz.f201 [.int .u64 x0] Q=(Bw Io [.int .u64 x0] λX1=>Q (.i (IntKind.wrap .i64 (64-X1)))):=by kernel_rfl
theorem HU(x0:Int)(Q:VW):Gv x0 Q=Av Bg PR Aw Tryz.f201 [.int .u64 x0] Q:=rfl
theorem Hc{x0:Int}{Q:VW}{w:World}(h:Gv x0 Q w):Calls PR D5 #[.int .u64 x0] w λe w'=>∃v,e = .returned v/\Q v w':=
 H5 mixed Tryz.func201 rfl h
end Go.Proofs.YtjipofkjmmpjdaaGreat
namespace Go.Proofs.YtjipofkjmmpjdaaGreat
open Go.Hb Go.IntWalk
theorem A0y(a k:Nat)(hk:k<=64):C8 .u64 (a:Int) (k:Int)=((a / 2 ^ k:Nat):Int):=by
 unfold C8;have:min (k:Int).toNat (IntKind.bits .u64)=k:=by simp[IntKind.bits];omega
 rw[this,Int.fdiv_eq_ediv_of_nonneg _ (by exact_mod_cast Nat.zero_le _)];norm_cast
theorem A3b(a k:Nat)(hk:k<=64):GF .u64 (a:Int) (k:Int)=((a*2 ^ k % 18446744073709551616:Nat):Int):=by
 unfold GF;have:min (k:Int).toNat (IntKind.bits .u64)=k:=by simp[IntKind.bits];omega
 rw[this,<- Ax1];norm_cast
section
variable{W w:World}{M:List HP}
theorem Af0:∀x:Fin 256,x.val≠0->∃L:Nat,1<=L/\L<=8/\AV GC x.val=(L:Int)/\2 ^ (L-1)<=x.val/\x.val<2 ^ L:=by
 have key:∀x:Fin 256,x.val≠0->1<=(AV GC x.val).toNat/\(AV GC x.val).toNat<=8/\AV GC x.val=(((AV GC x.val).toNat:Nat):Int) /\
   2 ^ ((AV GC x.val).toNat-1)<=x.val/\x.val<2 ^ (AV GC x.val).toNat:=by decide +kernel
 exact λx hx=>⟨_,key x hx⟩
def PE(x L:Nat):Prop:=1<=L/\2 ^ (L-1)<=x/\x<2 ^ L
theorem PF{x L k:Nat}(h:PE (x / 2 ^ k) L):PE x (L+k):=by
 obtain⟨h0,h1,h2⟩:=h;refine⟨by omega,?_,?_⟩
 ·rw[Nat.le_div_iff_mul_le (Nat.two_pow_pos k),<- Nat.pow_add] at h1
  rwa [show L+k-1=L-1+k by omega]
 ·rw[Nat.div_lt_iff_lt_mul (Nat.two_pow_pos k),<- Nat.pow_add] at h2;exact h2
theorem An8{Q:VW}{x n:Nat}(hx:x<256)(h0:x≠0)(hn:n<=56)(hQ:∀L:Nat,L<=8->PE x L->Q (.i ((L+n:Nat):Int)) w):Gy Bg Q x n w:=by
 rw[Nq,Nr];have hw:IntKind.wrap .u8 (x:Int)=(x:Int):=u8_in _ (by omega);rw[hw];have hsz:GC.size=256:=by decide +kernel
 refine Ax ⟨by omega,by rw[hsz];omega⟩ ?_;obtain⟨L,h1,h8,hb,ha,hc⟩:=Af0 ⟨x,hx⟩ h0;simp only at hb ha hc;rw[Int.toNat_natCast,hb,i64_in (L:Int) (by omega),i64_in _ (by omega)];have:=hQ L h8 ⟨h1,ha,hc⟩
 rwa [show((L+n:Nat):Int)=(n:Int)+(L:Int) by omega] at this
theorem An7{Q:VW}{x n:Nat}(hx:x<65536)(h0:x≠0)(hn:n<=48)(hQ:∀L:Nat,L<=16->PE x L->Q (.i ((L+n:Nat):Int)) w):Gx Bg Q x n w:=by
 rw[No,Np];refine Ao (λhc=>?_) (λhc=>?_) <;> simp only[decide_eq_true_eq,decide_eq_false_iff_not] at hc
 ·refine Ax (by omega) ?_;rw[show(8:Int)=((8:Nat):Int) by rfl,A0y x 8 (by omega),i64_in _ (by omega),Ax3];refine An8 (by omega) (by omega) (by omega) λL hL hl=>?_;have:=hQ (L+8) (by omega) (PF hl)
  rwa [show L+8+n=L+(n+8) by omega] at this
 ·exact An8 (by omega) h0 (by omega) λL hL hl=>hQ L (by omega) hl
theorem An6{Q:VW}{x n:Nat}(hx:x<4294967296)(h0:x≠0)(hn:n<=32)(hQ:∀L:Nat,L<=32->PE x L->Q (.i ((L+n:Nat):Int)) w):Gw Bg Q x n w:=by
 rw[Nm,Nn];refine Ao (λhc=>?_) (λhc=>?_) <;> simp only[decide_eq_true_eq,decide_eq_false_iff_not] at hc
 ·refine Ax (by omega) ?_;rw[show(16:Int)=((16:Nat):Int) by rfl,A0y x 16 (by omega),i64_in _ (by omega),Ax3];refine An7 (by omega) (by omega) (by omega) λL hL hl=>?_;have:=hQ (L+16) (by omega) (PF hl)
  rwa [show L+16+n=L+(n+16) by omega] at this
 ·exact An7 (by omega) h0 (by omega) λL hL hl=>hQ L (by omega) hl
theorem An5(h:Ab W w M){x:Nat}(hx:x<18446744073709551616)(h0:x≠0):Calls PR Io #[.int .u64 x] w λe w'=>∃L:Nat,(L<=64/\PE x L)/\e = .returned (.i (L:Int))/\Ab W w' M:=by
 refine(Qe (Q:=λv w'=>∃L:Nat,(L<=64/\PE x L)/\v = .i (L:Int)/\Ab W w' M) ?_).mono λe w' ⟨v,he,L,hl,hv,hs⟩=>⟨L,hl,by rw[he,hv],hs⟩;rw[Vi,Vj];refine Ao (λhc=>?_) (λhc=>?_) <;> simp only[decide_eq_true_eq,decide_eq_false_iff_not] at hc
 ·refine Ax (by omega) ?_;rw[show(32:Int)=((32:Nat):Int) by rfl,A0y x 32 (by omega)];refine An6 (by omega) (by omega) (by omega) λL hL hl=>?_;exact⟨L+32,⟨by omega,PF hl⟩,rfl,h⟩
 ·exact An6 (n:=0) (by omega) h0 (by omega) λL hL hl=>⟨L,⟨by omega,hl⟩,rfl,h⟩
theorem Av6(h:Ab W w M){x:Nat}(hx:x<18446744073709551616)(h0:x≠0):Calls PR D5 #[.int .u64 x] w λe w'=>
  ∃s:Nat,(s<=63/\9223372036854775808<=x*2 ^ s/\x*2 ^ s<18446744073709551616)/\e = .returned (.i (s:Int))/\Ab W w' M:=by
 refine(Hc (Q:=λv w'=>∃s:Nat,(s<=63/\9223372036854775808<=x*2 ^ s/\x*2 ^ s<18446744073709551616)/\v = .i (s:Int)/\Ab W w' M) ?_).mono λe w' ⟨v,he,L,hl,hv,hs⟩=>⟨L,hl,by rw[he,hv],hs⟩;rw[HU,HV];refine An (An5 h hx h0) λe w ⟨L,⟨hL,h1,h2,h3⟩,he,h⟩=>⟨_,he,?_⟩;rw[i64_in _ (by omega)];refine⟨64-L,⟨by omega,?_,?_⟩,by rw[show(64:Int)-(L:Int)=((64-L:Nat):Int) by omega],h⟩
 ·have:=Nat.mul_le_mul_right (2 ^ (64-L)) h2
  rwa [<- Nat.pow_add,show L-1+(64-L)=63 by omega] at this
 ·have:=Nat.mul_lt_mul_of_pos_right h3 (Nat.two_pow_pos (64-L))
  rwa [<- Nat.pow_add,show L+(64-L)=64 by omega] at this
def GI(x:Int):Prop:=0<=x/\x<18446744073709551616
theorem FX(x:Int):GI (IntKind.wrap .u64 x):=by rw[IntKind.wrap_u64];unfold GI;omega
theorem GI.nat{x:Int}(h:GI x):∃n:Nat,x=(n:Int)/\n<18446744073709551616:=⟨x.toNat,by have:=h.1;omega,by have:=h.1;have:=h.2;omega⟩
section
variable{Q:VW}{S:World->Prop}{y2 s8 y1 y0 u3 u1 u0 q1 u2:Int}
theorem A25(h1:1<=y1)(h2:y1<4294967296)(h8:0<=s8)(hQ:∀q r w,GI q->S w->Q (.tuple #[.int .u64 q,.int .u64 r]) w):∀(f:Nat)(rh q:Int)(w:World),0<=rh->rh<4294967296->4294967296<=rh+f->S w->Gu Bg Q (f+1) y2 s8 y1 y0 u0 q1 rh u2 q w:=by
 have j8:∀q w,S w->Gs Bg Q y2 s8 u0 q1 u2 q w:=by
  intro q w hS;rw[Ni,Nj];refine Ax h8 ?_;have hq:=λq r h=>hQ q r w h hS;refine hq _ _ ?_;exact FX _
 intro f
 induction f with
 | zero=>intro rh q w h3 h4 h5 hS;omega
 | succ f ih=>
  intro rh q w h3 h4 h5 hS;rw[Nl];have j7:Gr Bg Q (f+1) y2 s8 y1 y0 u0 q1 rh u2 q w:=by
   rw[Ng,Nh];have e1:IntKind.wrap .u64 (rh+y1)=rh+y1:=by rw[IntKind.wrap_u64];omega
   rw[e1];generalize IntKind.wrap .u64 (q-1)=q';refine Ao (λ_=>by with_reducible exact j8 q' w hS) (λh=>?_);have h:=of_decide_eq_false h;have g1:0<=rh+y1:=by omega
   have g2:rh+y1<4294967296:=by omega
   have g3:4294967296<=rh+y1+(f:Int):=by omega
   with_reducible exact ih (rh+y1) q' w g1 g2 g3 hS
  refine Ao (λ_=>by with_reducible exact j7) (λ_=>?_);exact Ao (λ_=>by with_reducible exact j7) (λ_=>by with_reducible exact j8 q w hS)
theorem Axv{x y:Int}(hx:GI x)(h1:1<=y)(h2:y<4294967296):0<=IntKind.wrap .u64 (x-IntKind.wrap .u64 (IntKind.wrap .u64 (Int.tdiv x y)*y))/\IntKind.wrap .u64 (x-IntKind.wrap .u64 (IntKind.wrap .u64 (Int.tdiv x y)*y))<4294967296:=by
 obtain⟨h3,h4⟩:=hx;have e0:Int.tdiv x y=x / y:=Int.tdiv_eq_ediv_of_nonneg h3;have e1:y*(x / y)+x % y=x:=Int.mul_ediv_add_emod x y;have e2:=Int.emod_nonneg x (show y≠0 by omega);have e3:=Int.emod_lt_of_pos x (show 0<y by omega);have e4:0<=x / y:=Int.ediv_nonneg h3 (by omega);have e5:x / y<=x:=Int.ediv_le_self y h3;have e6:0<=y*(x / y):=Int.mul_nonneg (by omega) e4;rw[e0];have w1:IntKind.wrap .u64 (x / y)=x / y:=by rw[IntKind.wrap_u64];omega
 rw[w1,Int.mul_comm];generalize y*(x / y)=z at *;have w2:IntKind.wrap .u64 z=z:=by rw[IntKind.wrap_u64];omega
 rw[w2];have w3:IntKind.wrap .u64 (x-z)=x-z:=by rw[IntKind.wrap_u64];omega
 rw[w3];omega
theorem A10(h1:1<=y1)(h2:y1<4294967296)(h8:0<=s8)(hQ:∀q r w,GI q->S w->Q (.tuple #[.int .u64 q,.int .u64 r]) w){w:World}(hS:S w):Gq Bg Q y2 s8 y1 y0 u3 u1 u0 q1 w:=by
 rw[Nd,Nf];refine Ax (by omega) ?_;have h3:=FX (IntKind.wrap .u64 (IntKind.wrap .u64 (u3*4294967296)+u1)-IntKind.wrap .u64 (q1*y2));have h4:=Axv h3 h1 h2;exact AO _ (A25 h1 h2 h8 hQ 4294967296 _ _ w h4.1 h4.2 (by omega) hS)
theorem A24(h1:1<=y1)(h2:y1<4294967296)(h8:0<=s8)(hQ:∀q r w,GI q->S w->Q (.tuple #[.int .u64 q,.int .u64 r]) w):∀(f:Nat)(rh q:Int)(w:World),0<=rh->rh<4294967296->4294967296<=rh+f->S w->Gt Bg Q (f+1) y2 s8 y1 y0 u3 u1 u0 q rh w:=by
 intro f
 induction f with
 | zero=>intro rh q w h3 h4 h5 hS;omega
 | succ f ih=>
  intro rh q w h3 h4 h5 hS;rw[Nk];have j4:Gp Bg Q (f+1) y2 s8 y1 y0 u3 u1 u0 q rh w:=by
   rw[Nb,Nc];have e1:IntKind.wrap .u64 (rh+y1)=rh+y1:=by rw[IntKind.wrap_u64];omega
   rw[e1];generalize IntKind.wrap .u64 (q-1)=q';have g1:0<=rh+y1:=by omega
   have g3:4294967296<=rh+y1+(f:Int):=by omega
   refine Ao (λ_=>by with_reducible exact A10 h1 h2 h8 hQ hS) (λh=>?_);have h:=of_decide_eq_false h;have g2:rh+y1<4294967296:=by omega
   with_reducible exact ih (rh+y1) q' w g1 g2 g3 hS
  refine Ao (λ_=>by with_reducible exact j4) (λ_=>?_);exact Ao (λ_=>by with_reducible exact j4) (λ_=>by with_reducible exact A10 h1 h2 h8 hQ hS)
end
theorem Ap2(hs:Ab W w M){hi lo y:Int}(h1:GI hi)(h2:GI lo)(h3:GI y)(hlt:hi<y):Ba PR M3 #[.int .u64 hi,.int .u64 lo,.int .u64 y] w λv w'=>∃q r:Int,v = .tuple #[.int .u64 q,.int .u64 r]/\GI q/\Ab W w' M:=by
 refine Qd ?_;rw[Vg,Vh];have hh:=h1.1;have hy:=h3.2
 refine Ac (by simp;omega) ?_;rw[MX,MY];refine Ac (by simp;omega) ?_
 rw[MZ,Na];refine Ao (λhc=>?_) (λhc=>?_)
 ·refine AF hs λw hs=>?_;exact Ax (by omega) (Ax (by omega) ⟨_,_,rfl,FX _,hs⟩)
 ·clear hy;obtain⟨y,rfl,hy⟩:=h3.nat;refine An (Av6 hs hy (by omega)) λe w ⟨s,⟨h63,hs1,hs2⟩,he,hs⟩=>⟨_,he,?_⟩;have ws:IntKind.wrap .u64 (s:Int)=(s:Int):=by rw[IntKind.wrap_u64];omega
  have ws2:IntKind.wrap .u64 ((64:Int)-(s:Int))=((64-s:Nat):Int):=by rw[IntKind.wrap_u64];omega
  rw[ws,ws2,A3b y s (by omega),Nat.mod_eq_of_lt hs2];generalize y*2 ^ s=Y at *;have e1:C8 .u64 (Y:Int) (32:Int)=((Y / 4294967296:Nat):Int):=Adr Y;rw[e1];have hy1:1<=Y / 4294967296:=by omega
  refine Ax (by omega) (Ax (by omega) (Ax (by omega) (Ax (by omega) (Ax (by omega) (Ax (by omega) (Ax (by omega) ?_))))));have hsh:GI (bits .or .u64 (GF .u64 hi (s:Int)) (C8 .u64 lo (((64-s:Nat):Int)))):=by
   show GI (IntKind.wrap .u64 _);exact FX _
  have h4:=Axv hsh (show(1:Int)<=((Y / 4294967296:Nat):Int) by omega) (show((Y / 4294967296:Nat):Int)<4294967296 by omega);refine AO _ (A24 (S:=λw=>Ab W w M) (by omega) (by omega) (by omega) (λq r w hq hs=>⟨q,r,rfl,hq,hs⟩) 4294967296 _ _ w h4.1 h4.2 (by omega) hs)
theorem Adq(hs:Ab W w M){a b c:Int}(ha:GI a)(hb:GI b)(hc:GI c):Ba PR 143 #[.int .u64 a,.int .u64 b,.int .u64 c] w λv w'=>∃q:Int,v = .int .u64 q/\GI q/\Ab W w' M:=by
 refine cw ⟨mixed,Tryz.func143,rfl⟩ Ai7 ?_;obtain⟨a,rfl,ha'⟩:=ha.nat;obtain⟨b,rfl,hb'⟩:=hb.nat;refine AG (Aoi hs ha' hb') λe w ⟨he,hs⟩=>⟨_,_,he,?_⟩;have hx:GI ((a*b / 18446744073709551616:Nat):Int):=by
  have:a*b / 18446744073709551616<18446744073709551616:=by
   rw[Nat.div_lt_iff_lt_mul (by decide)];exact Nat.mul_lt_mul'' ha' hb'
  exact⟨by omega,by omega⟩
 have hy:GI ((a*b % 18446744073709551616:Nat):Int):=by
  have:=Nat.mod_lt (a*b) (show 0<18446744073709551616 by decide);exact⟨by omega,by omega⟩
 refine Ao (λ_=>⟨_,rfl,by unfold GI;omega,hs⟩) (λh=>?_);have h:=of_decide_eq_false h;refine AH (Ap2 hs hx hy hc (by omega)) λv w ⟨q,r,hv,hq,hs⟩=>⟨_,_,hv,q,rfl,hq,hs⟩
theorem A2c(hs:Ab W w M){a b:Int}(ha:GI a)(hb:GI b):Ba PR 139 #[.int .u64 a,.int .u64 b] w λv w'=>∃q:Int,v = .int .u64 q/\GI q/\Ab W w' M:=by
 refine cw ⟨mixed,Tryz.func139,rfl⟩ Ai3 ?_;exact Ah (Adq hs ha hb (by unfold GI;omega)) λv w ⟨q,hv,hq,hs⟩=>⟨_,hv,q,rfl,hq,hs⟩
end
end Go.Proofs.YtjipofkjmmpjdaaGreat
namespace Go.Hb
def Ce(l:List Int):List Value:=l.map (Value.int .u64)
theorem Ew{l:List Int}{i:Nat}(h:i<l.length):(Ce l)[i]? = some ((CK.int .u64).val (l.getD i 0)):=by
 unfold Ce;rw[List.getElem?_map,List.getElem?_eq_getElem h,List.getD_eq_getElem?_getD,List.getElem?_eq_getElem h];rfl
theorem IZ{l:List Int}{i:Nat}{x:Int}:(Ce l).set i (.int .u64 x)=Ce (l.set i x):=by unfold Ce;rw[List.map_set]
theorem IY(l:List Int):(Ce l).length=l.length:=by simp[Ce]
def KV(l:List Int):List Value:=l.map (Value.int .i64)
theorem Ank{l:List Int}{i:Nat}(h:i<l.length):(KV l)[i]? = some ((CK.int .i64).val (l.getD i 0)):=by
 unfold KV;rw[List.getElem?_map,List.getElem?_eq_getElem h,List.getD_eq_getElem?_getD,List.getElem?_eq_getElem h];rfl
theorem Anb{l:List Int}(h:l.length=5):∃a b c d e,l=[a,b,c,d,e]:=by
 match l,h with
 | [a,b,c,d,e],_=>exact⟨a,b,c,d,e,rfl⟩
end Go.Hb
namespace Go.Proofs.YtjipofkjmmpjdaaGreat
open Go.Hb Go.IntWalk
structure U5(l:List Int):Prop where
 len:l.length=5
 all:∀x∈l,GI x
theorem Ax0:GI 0:=by unfold GI;omega
theorem U5.get{l:List Int}(h:U5 l){i:Nat}(hi:i<5):GI (l.getD i 0):=by
 have h5:=h.len;rw[List.getD_eq_getElem?_getD,List.getElem?_eq_getElem (by omega)];exact h.all _ (List.getElem_mem _)
theorem U5.set{l:List Int}(h:U5 l){i:Nat}{x:Int}(hx:GI x):U5 (l.set i x):=⟨by simp[h.len],λy hy=>by
 rcases List.mem_or_eq_of_mem_set hy with h1|h1
 ·exact h.all y h1
 ·exact h1 ▸ hx⟩
theorem U5.zero:U5 [0,0,0,0,0]:=⟨rfl,λx hx=>by simp at hx;subst hx;exact Ax0⟩
abbrev WQ(W:World)(L:List HP):VW:=λv w'=>∃a b c d e:Int,v = .agg #[.int .u64 a,.int .u64 b,.int .u64 c,.int .u64 d,.int .u64 e]/\U5 [a,b,c,d,e]/\Ab W w' L
theorem Im{i:Nat}(h:i<100):IntKind.wrap .i64 ((i:Int)+1)=((i+1:Nat):Int):=by rw[i64_in _ (by omega)];omega
theorem SO(i:Nat):0+((i:Int)).toNat*1=i:=by omega
section
variable{W w:World}{L M:List HP}{a b c d e:Int}
theorem Abk(hs:Ab W w L):Ba PR 142 #[.agg #[.int .u64 a,.int .u64 b,.int .u64 c,.int .u64 d,.int .u64 e]] w λv w'=>∃x:Int,v = .int .u64 x/\GI x/\Ab W w' L:=by
 refine cw ⟨mixed,Tryz.func142,rfl⟩ Ai6 ?_;refine Ai hs λb1 w hs=>?_
 iterate 5 refine Ag hs ?_
 have loop:∀(f i:Nat)(y:Int),i+f=5->GI y->NG Bg (λv w'=>∃x:Int,v = .int .u64 x/\GI x/\Ab W w' L) (f+1) y a b c d e (i:Int) w:=by
  intro f
  induction f with
  | zero=>
   intro i y hi hy;rw[LO];refine Ac (decide_eq_false (by omega)) ?_;refine jw Wq ?_;exact⟨_,rfl,hy,hs.drop⟩
  | succ f ih=>
   intro i y hi hy;rw[LO];refine Al (decide_eq_true (by omega)) ?_;refine Ax (by omega) ?_;rw[Int.toNat_natCast,Im (by omega)];refine⟨[a,b,c,d,e].getD i 0,Ew (l:=[a,b,c,d,e]) (show i<5 by omega),rfl,?_⟩
   with_reducible exact ih (i+1) _ (by omega) (FX _)
 exact AO _ (loop 5 0 0 (by omega) Ax0)
theorem A2n(hs:Ab W w L):Ba PR 138 #[.agg #[.int .u64 a,.int .u64 b,.int .u64 c,.int .u64 d,.int .u64 e]] w λv w'=>∃t,v = .b t/\Ab W w' L:=by
 refine cw ⟨mixed,Tryz.func138,rfl⟩ Ai2 ?_;refine Ai hs λb1 w hs=>?_
 iterate 5 refine Ag hs ?_
 have loop:∀(f i:Nat),i+f=5->NB Bg (λv w'=>∃t,v = .b t/\Ab W w' L) (f+1) b1 0 a b c d e (i:Int) w:=by
  intro f
  induction f with
  | zero=>
   intro i hi;rw[LL];refine Ac (decide_eq_false (by omega)) ?_;refine jw Wo ?_
   iterate 5 refine Ag hs ?_
   exact Ah (Abk hs) λv w ⟨x,hv,_,hs⟩=>⟨_,hv,_,rfl,hs.drop⟩
  | succ f ih=>
   intro i hi;rw[LL];refine Al (decide_eq_true (by omega)) ?_;refine Ax (by omega) ?_;rw[Int.toNat_natCast,Im (by omega)];refine⟨[a,b,c,d,e].getD i 0,Ew (l:=[a,b,c,d,e]) (show i<5 by omega),rfl,?_⟩;refine Ao (λ_=>⟨_,rfl,hs.drop⟩) (λ_=>?_);refine Ao (λ_=>⟨_,rfl,hs.drop⟩) (λ_=>?_)
   with_reducible exact ih (i+1) (by omega)
 exact AO _ (loop 5 0 (by omega))
theorem Axf(hs:Ab W w L){x:Int}:Ba PR 101 #[.agg #[.int .u64 a,.int .u64 b,.int .u64 c,.int .u64 d,.int .u64 e],.int .u32 x] w λv w'=>∃t:Int,v = .i t/\(0<=t/\t<5)/\Ab W w' L:=by
 refine cw ⟨mixed,Tryz.func101,rfl⟩ Ah9 ?_;refine Ai hs λb1 w hs=>?_
 iterate 5 refine Ag hs ?_
 have loop:∀(f i:Nat)(y:Int),i+f=5->N1 Bg (λv w'=>∃t:Int,v = .i t/\(0<=t/\t<5)/\Ab W w' L) (f+1) x y a b c d e (i:Int) w:=by
  intro f
  induction f with
  | zero=>
   intro i y hi;rw[LD];refine Ac (decide_eq_false (by omega)) ?_;refine jw VY ?_;exact⟨_,rfl,by omega,hs.drop⟩
  | succ f ih=>
   intro i y hi;rw[LD];refine Al (decide_eq_true (by omega)) ?_;refine Ax (by omega) ?_;rw[Int.toNat_natCast,Im (by omega)];refine⟨[a,b,c,d,e].getD i 0,Ew (l:=[a,b,c,d,e]) (show i<5 by omega),rfl,?_⟩;refine Ao (λ_=>⟨_,rfl,by omega,hs.drop⟩) (λ_=>?_)
   with_reducible exact ih (i+1) _ (by omega)
 exact AO _ (loop 5 0 0 (by omega))
theorem Axd(hs:Ab W w L){k:Int}:Ba PR 140 #[.i k] w λv w'=>∃x:Int,v = .int .u64 x/\GI x/\Ab W w' L:=by
 refine cw ⟨mixed,Tryz.func140,rfl⟩ Ai4 ?_;refine An (Dk hs _ _ _) λe w ⟨he,hs⟩=>⟨_,he,?_⟩;have hk:=F5 k (show(0:Int)<=15 by omega);generalize Hs k 0 15=n at *;have loop:∀(f i:Nat)(y:Int),(i:Int)+f=n->GI y->ND Bg (λv w'=>∃x:Int,v = .int .u64 x/\GI x/\Ab W w' L) (f+1) y n (i:Int) w:=by
  intro f
  induction f with
  | zero=>
   intro i y hi hy;rw[LN];refine Ac (decide_eq_false (by omega)) ?_;refine jw Wp ?_;exact⟨_,rfl,hy,hs⟩
  | succ f ih=>
   intro i y hi hy;rw[LN];refine Al (decide_eq_true (by omega)) ?_;refine Ax (by decide) ?_;rw[Im (by omega)]
   with_reducible exact ih (i+1) _ (by omega) (FX _)
 exact AO _ (loop n.toNat 0 _ (by omega) (by unfold GI;omega))
theorem Abl(hs:Ab W w L){g a:Int}:Ba PR 141 #[.i g,.i a] w λv w'=>∃x:Int,v = .i x/\Ab W w' L:=by
 refine cw ⟨mixed,Tryz.func141,rfl⟩ Ai5 ?_;refine An (Dk hs _ _ _) λe w ⟨he,hs⟩=>⟨_,he,?_⟩;refine An (Dk hs _ _ _) λe w ⟨he,hs⟩=>⟨_,he,?_⟩
 with_reducible refine Az (λh1=>?_) (λh1=>?_)
 ·exact⟨_,rfl,hs⟩
 ·exact Ax h1 ⟨_,rfl,hs⟩
theorem Ad0(hu:U5 [a,b,c,d,e])(hs:Ab W w L):Ba PR 115 #[.agg #[.int .u64 a,.int .u64 b,.int .u64 c,.int .u64 d,.int .u64 e]] w (WQ W L):=by
 refine cw ⟨mixed,Tryz.func115,rfl⟩ Aii ?_;refine Ai hs λb1 w hs=>?_;refine Ai hs λb2 w hs=>?_;have hs:Ab W w (blk b2 (Ce [0,0,0,0,0])::blk b1 (Ce [a,b,c,d,e])::L):=hs;generalize [a,b,c,d,e]=xs at hs hu;have h5:=hu.len;have j2:∀(w:World)(mo:Nat),mo<5->Ab W w (blk b2 (Ce [0,0,0,0,0])::blk b1 (Ce xs)::L)->Abw Bg (WQ W L) b1 0 b2 0 (mo:Int) w:=by
  clear hs;intro w mo hm hs;refine jw Wc ?_;rw[SO mo];have hs:Ab W w (blk b1 (Ce xs)::blk b2 (Ce [0,0,0,0,0])::L):=hs.perm (List.Perm.swap _ _ _);refine Ak [blk b1 (Ce xs)] hs λw hs=>?_;refine Ax (by omega) ?_;refine Ar ?_ (hc:=Ew (by omega));obtain⟨x0,x1,x2,x3,x4,rfl⟩:=Anb h5;refine Ag (x:=x0) hs ?_;refine Ag (x:=x1) hs ?_;refine Ag (x:=x2) hs ?_;refine Ag (x:=x3) hs ?_;refine Ag (x:=x4) hs ?_;refine Af hs ?_;refine Ah (Abk hs) λv w ⟨z,hv,_,hs⟩=>⟨_,hv,Af hs ?_⟩;refine Ax (by omega) ?_;refine HS 0 (cs:=Ce [x0,x1,x2,x3,x4]) hs rfl (by rw[IY];omega) λw hs=>?_
  rw[IZ] at hs;have hu2:=hu.set (i:=mo) (FX ([x0,x1,x2,x3,x4].getD mo 0+IntKind.wrap .u64 (4294967296-z)));generalize [x0,x1,x2,x3,x4].set mo _=ys at hs hu2;obtain⟨y0,y1,y2,y3,y4,rfl⟩:=Anb hu2.len;have hs:Ab W w (blk b1 [.int .u64 y0,.int .u64 y1,.int .u64 y2,.int .u64 y3,.int .u64 y4]::blk b2 [.int .u64 0,.int .u64 0,.int .u64 0,.int .u64 0,.int .u64 0]::L):=hs
  iterate 5 refine Ag hs ?_
  iterate 5 refine A4 hs λw hs=>?_
  iterate 5 refine Ag hs ?_
  exact⟨_,_,_,_,_,rfl,hu2,by exact Ab.fin hs⟩
 have loop:∀(f i mo:Nat)(w:World),i+f=5->mo<5->Ab W w (blk b2 (Ce [0,0,0,0,0])::blk b1 (Ce xs)::L)->JY Bg (WQ W L) (f+1) b1 0 b2 0 (mo:Int) (i:Int) w:=by
  clear hs;intro f
  induction f with
  | zero=>
   intro i mo w hi hm hs;rw[LG];refine Ac (decide_eq_false (by omega)) ?_;exact j2 w mo hm hs
  | succ f ih=>
   intro i mo w hi hm hs;rw[LG];refine Al (decide_eq_true (by omega)) ?_;rw[SO i,SO mo,Im (by omega)];refine Ak [blk b1 (Ce xs)] hs λw hs=>?_;refine Ax (by omega) ?_;refine Ar ?_ (hc:=Ew (by omega));refine Ax (by omega) ?_;refine Ag hs ?_ (hc:=Ew (by omega));refine Af hs ?_;refine Ao (λ_=>?_) (λ_=>?_)
   ·with_reducible exact ih (i+1) i w (by omega) (by omega) hs
   ·with_reducible exact ih (i+1) mo w (by omega) hm hs
 exact AO _ (loop 5 0 0 w (by omega) (by omega) hs)
theorem QM{f:FuncId}{args:Array Value}{K:Int->Int->Int->Int->Int->WP}(h:Ba PR f args w (WQ W L))(hK:∀(a b c d e:Int) w,U5 [a,b,c,d,e]->Ab W w L->K a b c d e w) :
  Calls PR f args w λe_ w'=>∃a b c d e:Int,e_ = .returned (.agg #[.int .u64 a,.int .u64 b,.int .u64 c,.int .u64 d,.int .u64 e])/\K a b c d e w':=
 Calls.mono h λe_ w' ⟨v,he,a,b,c,d,e,hv,hu,hs⟩=>⟨a,b,c,d,e,by rw[he,hv],hK a b c d e w' hu hs⟩
theorem YT(hs:Ab W w L):Ba PR 79 #[] w (WQ W L):=by
 refine cw ⟨mixed,Tryz.func79,rfl⟩ Au3 ?_;refine Ai hs λb1 w hs=>?_;refine Ai hs λb2 w hs=>?_;have loop:∀(f i:Nat)(xs:List Int)(w:World),i+f=5->U5 xs->Ab W w (blk b2 (Ce xs)::blk b1 (Ce [0,0,0,0,0])::L) ->
   UL Bg (WQ W L) (f+1) b1 0 b2 0 (i:Int) w:=by
  clear hs;intro f
  induction f with
  | zero=>
   intro i xs w hi hx hs;rw[Pr];refine Ac (decide_eq_false (by omega)) ?_;refine jw ZN ?_;obtain⟨x0,x1,x2,x3,x4,rfl⟩:=Anb hx.len;have hs:Ab W w (blk b2 [.int .u64 x0,.int .u64 x1,.int .u64 x2,.int .u64 x3,.int .u64 x4]::blk b1 [.int .u64 0,.int .u64 0,.int .u64 0,.int .u64 0,.int .u64 0]::L):=hs
   iterate 5 refine Ag hs ?_
   refine QM (Ad0 hx hs) λy0 y1 y2 y3 y4 w hu hs=>?_
   iterate 5 refine A4 hs λw hs=>?_
   iterate 5 refine Ag hs ?_
   exact⟨_,_,_,_,_,rfl,hu,by exact Ab.fin hs⟩
  | succ f ih=>
   intro i xs w hi hx hs;rw[Pr];refine Al (decide_eq_true (by omega)) ?_;refine Ax (by omega) ?_;have h5:=hx.len;rw[SO i,Im (by omega)];refine HS 0 (cs:=Ce xs) hs rfl (by rw[IY];omega) λw hs=>?_
   rw[IZ] at hs;have hs:Ab W w (blk b2 (Ce (xs.set i 858993459))::blk b1 (Ce [0,0,0,0,0])::L):=hs
   with_reducible exact ih (i+1) _ w (by omega) (hx.set (by unfold GI;omega)) hs
 exact AO _ (loop 5 0 [0,0,0,0,0] w (by omega) U5.zero hs)
theorem Axe(hu:U5 [a,b,c,d,e])(hs:Ab W w L){g0 g1 g2 g3 g4 all:Int}:Ba PR 100 #[.agg #[.int .u64 a,.int .u64 b,.int .u64 c,.int .u64 d,.int .u64 e],.agg #[.i g0,.i g1,.i g2,.i g3,.i g4],.i all] w (WQ W L):=by
 refine cw ⟨mixed,Tryz.func100,rfl⟩ Ah8 ?_;refine Ai hs λb1 w hs=>?_;refine Ai hs λb2 w hs=>?_;refine Ai hs λb3 w hs=>?_
 iterate 5 refine Ag hs ?_
 refine Ah (A2n hs) λv w ⟨t,hv,hs⟩=>⟨_,hv,?_⟩;refine Ao (λ_=>?_) (λ_=>?_)
 ·refine QM (YT hs) λy0 y1 y2 y3 y4 w hu hs=>?_
  iterate 5 refine A4 hs λw hs=>?_
  iterate 5 refine Ag hs ?_
  exact⟨_,_,_,_,_,rfl,hu,by exact Ab.fin hs⟩
 have hs:Ab W w (blk b1 (Ce [a,b,c,d,e])::blk b2 (KV [g0,g1,g2,g3,g4])::blk b3 (Ce [0,0,0,0,0])::L):=by
  have hs:Ab W w (blk b3 (Ce [0,0,0,0,0])::blk b2 (KV [g0,g1,g2,g3,g4])::blk b1 (Ce [a,b,c,d,e])::L):=hs;exact Ab.fin hs
 have hg:[g0,g1,g2,g3,g4].length=5:=rfl;generalize [g0,g1,g2,g3,g4]=gs at hs hg;generalize [a,b,c,d,e]=ws at hs hu;have l3:∀(f i:Nat)(xs:List Int)(t:Int)(w:World),i+f=5->U5 xs->GI t->Ab W w (blk b1 (Ce xs)::blk b2 (KV gs)::blk b3 (Ce [0,0,0,0,0])::L)->Nz Bg (WQ W L) (f+1) b1 0 b3 0 t (i:Int) w:=by
  clear hs;intro f
  induction f with
  | zero=>
   intro i xs t w hi hx ht hs;rw[LC];refine Ac (decide_eq_false (by omega)) ?_;refine jw VX ?_;obtain⟨x0,x1,x2,x3,x4,rfl⟩:=Anb hx.len;have hs:Ab W w (blk b1 [.int .u64 x0,.int .u64 x1,.int .u64 x2,.int .u64 x3,.int .u64 x4]::blk b2 (KV gs)::blk b3 [.int .u64 0,.int .u64 0,.int .u64 0,.int .u64 0,.int .u64 0]::L):=hs
   iterate 5 refine Ag hs ?_
   refine QM (Ad0 hx hs) λy0 y1 y2 y3 y4 w hu hs=>?_
   iterate 5 refine A4 hs λw hs=>?_
   iterate 5 refine Ag hs ?_
   exact⟨_,_,_,_,_,rfl,hu,by exact Ab.fin hs⟩
  | succ f ih=>
   intro i xs t w hi hx ht hs;rw[LC];refine Al (decide_eq_true (by omega)) ?_;have h5:=hx.len;rw[SO i,Im (by omega)];refine Ax (by omega) ?_;refine Ag hs ?_ (hc:=Ew (by omega));refine Ah (Adq hs (hx.get (by omega)) (by unfold GI;omega) ht) λv w ⟨q,hv,hq,hs⟩=>⟨_,hv,?_⟩
   refine Ax (by omega) ?_;refine HS 0 (cs:=Ce xs) hs rfl (by rw[IY];omega) λw hs=>?_
   rw[IZ] at hs;have hq2:GI (if q>42949672 then q else 42949672):=by
    unfold GI at *;split <;> omega
   generalize (if q>42949672 then q else 42949672)=q2 at hs hq2;have hs:Ab W w (blk b1 (Ce (xs.set i q2))::blk b2 (KV gs)::blk b3 (Ce [0,0,0,0,0])::L):=hs
   with_reducible exact ih (i+1) _ t w (by omega) (hx.set hq2) ht hs
 have l1:∀(f i:Nat)(xs:List Int)(w:World),i+f=5->U5 xs->Ab W w (blk b1 (Ce xs)::blk b2 (KV gs)::blk b3 (Ce [0,0,0,0,0])::L)->Ny Bg (WQ W L) (f+1) all b1 0 b2 0 b3 0 (i:Int) w:=by
  clear hs;intro f
  induction f with
  | zero=>
   intro i xs w hi hx hs;rw[LB];refine Ac (decide_eq_false (by omega)) ?_;refine jw VV ?_;have hx0:=hx;obtain⟨x0,x1,x2,x3,x4,rfl⟩:=Anb hx.len;refine Ag (x:=x0) hs ?_;refine Ag (x:=x1) hs ?_;refine Ag (x:=x2) hs ?_;refine Ag (x:=x3) hs ?_;refine Ag (x:=x4) hs ?_;refine Ah (Abk hs) λv w ⟨z,hv,hz,hs⟩=>⟨_,hv,?_⟩;exact AO _ (l3 5 0 _ z w (by omega) hx0 hz hs)
  | succ f ih=>
   intro i xs w hi hx hs;rw[LB];refine Al (decide_eq_true (by omega)) ?_;have h5:=hx.len;rw[SO i,Im (by omega)];refine Ak [blk b1 (Ce xs)] hs λw hs=>?_;refine Ax (by omega) ?_;refine Ar ?_ (hc:=Ew (by omega));refine Ax (by omega) ?_;refine Ag hs ?_ (hc:=Ank (by omega));refine Af hs ?_;refine Ah (Abl hs) λv w ⟨p,hv,hs⟩=>⟨_,hv,Af hs ?_⟩;refine Ah (Axd hs) λv w ⟨y,hv,hy,hs⟩=>⟨_,hv,Af hs ?_⟩;refine Ah (A2c hs (hx.get (by omega)) hy) λv w ⟨q,hv,hq,hs⟩=>⟨_,hv,?_⟩;refine Ax (by omega) ?_
   refine HS 0 (cs:=Ce xs) hs rfl (by rw[IY];omega) λw hs=>?_;rw[IZ] at hs;have hs:Ab W w (blk b1 (Ce (xs.set i q))::blk b2 (KV gs)::blk b3 (Ce [0,0,0,0,0])::L):=hs
   with_reducible exact ih (i+1) _ w (by omega) (hx.set hq) hs
 exact AO _ (l1 5 0 ws w (by omega) hu hs)
end
end Go.Proofs.YtjipofkjmmpjdaaGreat
namespace Go.Hb
open Go.Proofs.YtjipofkjmmpjdaaGreat
def tpe(b n:Nat):HP:=JM λ(z:Sl×List Int×Int)=>EA (0<=z.2.2/\z.2.2<=n) (AJ [blk b [.l z.1.a z.1.n z.1.c,.i z.2.2],recs (Am.int .u32) z.1 z.2.1])
abbrev cC(b:Nat)(cur hold:Int)(tb:Nat)(a0 a1 a2 a3 a4 kd nn:Int):HP:=blk b [.i cur,.i hold,pq tb 0,.int .u64 a0,.int .u64 a1,.int .u64 a2,.int .u64 a3,.int .u64 a4,.i kd,.i nn]
def Fp(b n:Nat):HP:=JM λ(z:(Int×Int×Nat)×(Int×Int×Int×Int×Int)×(Int×Int))=>EA (U5 [z.2.1.1,z.2.1.2.1,z.2.1.2.2.1,z.2.1.2.2.2.1,z.2.1.2.2.2.2]) (AJ [cC b z.1.1 z.1.2.1 z.1.2.2 z.2.1.1 z.2.1.2.1 z.2.1.2.2.1 z.2.1.2.2.2.1 z.2.1.2.2.2.2 z.2.2.1 z.2.2.2,tpe z.1.2.2 n])
section
variable{W w:World}{M L:List HP}{b n:Nat}
theorem YO(h:Ab W w (tpe b n::M)):∃(s:Sl) (l:List Int) (k:Int),(0<=k/\k<=n)/\(s.n=l.length/\s.n<=s.c)/\Ab W w (blk b [.l s.a s.n s.c,.i k]::recs (Am.int .u32) s l::M):=by
 obtain⟨⟨s,l,k⟩,h⟩:=h.openE;obtain⟨hp,h⟩:=h.openA;have h:=h.openL;have h:Ab W w (blk b [.l s.a s.n s.c,.i k]::recs (Am.int .u32) s l::M):=h;exact⟨s,l,k,hp,Bx (s:=s) h,h⟩
theorem KS{s:Sl}{l:List Int}{k:Int}(hp:0<=k/\k<=n)(h:Ab W w (blk b [.l s.a s.n s.c,.i k]::recs (Am.int .u32) s l::M)):Ab W w (tpe b n::M):=
 Ab.shutE (s,l,k) (Ab.shutA hp (Ab.shutL (Ps:=[_,_]) h))
theorem OV(h:Ab W w (Fp b n::M)):∃(cur hold:Int) (tb:Nat) (a0 a1 a2 a3 a4 kd nn:Int),U5 [a0,a1,a2,a3,a4]/\Ab W w (cC b cur hold tb a0 a1 a2 a3 a4 kd nn::tpe tb n::M):=by
 obtain⟨⟨⟨cur,hold,tb⟩,⟨a0,a1,a2,a3,a4⟩,kd,nn⟩,h⟩:=h.openE;obtain⟨hp,h⟩:=h.openA;exact⟨cur,hold,tb,a0,a1,a2,a3,a4,kd,nn,hp,h.openL⟩
theorem GO{cur hold:Int}{tb:Nat}{a0 a1 a2 a3 a4 kd nn:Int}(hu:U5 [a0,a1,a2,a3,a4])(h:Ab W w (cC b cur hold tb a0 a1 a2 a3 a4 kd nn::tpe tb n::M)):Ab W w (Fp b n::M):=
 Ab.shutE ((cur,hold,tb),(a0,a1,a2,a3,a4),kd,nn) (Ab.shutA hu (Ab.shutL (Ps:=[_,_]) h))
end
end Go.Hb
namespace Go.Proofs.YtjipofkjmmpjdaaGreat
open Go.Hb Go.IntWalk
section
variable{W w:World}{L M:List HP}{b n:Nat}
instance:OkR (Am.int .u32):=⟨λ_=>rfl⟩
theorem Aw3(hb:n<1000000000000)(hs:Ab W w (tpe b n::M)):Ba PR 102 #[pq b 0] w λv w'=>∃x:Int,v = .int .u32 x/\Ab W w' (tpe b (n+1)::M):=by
 refine cw ⟨mixed,Tryz.func102,rfl⟩ Aia ?_;obtain⟨s,l,k,hk,hsn,hs⟩:=YO hs;refine Ac rfl ?_;refine Aa (Ag hs ?_);rw[i64_in (k+1) (by omega)];refine Aa (A4 hs λw hs=>?_);refine Ak [blk b [.l s.a s.n s.c,.i (k+1)]] hs λw hs=>?_;refine Aa (Ar (Aa (Ag (x:=s) hs (Af hs ?_))))
 with_reducible refine Az (λh1=>?_) (λh1=>?_)
 ·exact⟨_,rfl,KS (by omega) hs⟩
 refine Ak [blk b [.l s.a s.n s.c,.i (k+1)]] hs λw hs=>?_;refine Aa (Ar (x:=s) (Aa (Ag hs (Af hs ?_))));rw[i64_in (k+1-1) (by omega)];refine Cn (s:=s) (E:=Am.int .u32) (rows:=l) hs λb_ o_ ha_=>?_;refine C6 (s:=s) (E:=Am.int .u32) (rows:=l) ha_ hs ?_;exact⟨_,rfl,KS (by omega) hs⟩
theorem Ap0{s:Sl}{ds:List Int}[hr:OP W L s (Am.int .u32) ds](hd:ds.length<1000000)(hs:Ab W w L):Ba PR 80 #[.l s.a s.n s.c] w λv w'=>∃(t:Sl) (l:List Int),v = .l t.a t.n t.c/\Ab W w' (recs (Am.int .u32) t l::L):=by
 refine cw ⟨mixed,Tryz.func80,rfl⟩ Au4 ?_;refine Ao (λ_=>⟨⟨none,0,0⟩,[],rfl,Ab.nilR _ hs⟩) (λ_=>?_);refine Ai hs λnb w hs=>?_;have hs:=Ab.blkS (b:=nb) (cs:=[]) (n:=0) (Am.int .u32) [] hs rfl rfl;refine FJ (s:=⟨some ⟨nb,0,none⟩,0,0⟩) (E:=Am.int .u32) (new:=ds) hs (FU (s:=s) hs) (BE (s:=s) (E:=Am.int .u32) hs) (CS _) rfl (by decide) (by simp;omega) λs2 w hs2 hs=>?_
 exact⟨s2,_,rfl,hs⟩
theorem A06{s:Sl}{ds:List Int}[hr:OP W L s (Am.int .u32) ds](hd:ds.length<1000000)(hs:Ab W w L):Ba PR 49 #[.l s.a s.n s.c] w λv w'=>∃b,v=pq b 0/\Ab W w' (tpe b 0::L):=by
 refine cw ⟨mixed,Tryz.func49,rfl⟩ Aud ?_;refine Ah (Ap0 (s:=s) hd hs) λv w ⟨t,l,hv,hs⟩=>⟨t,hv,?_⟩;refine Ai hs λb w hs=>⟨b,rfl,KS (s:=t) (l:=l) (k:=0) (by omega) hs⟩
theorem Rq(hs:Ab W w L){k:Int}:Ba PR 78 #[.i k] w λv w'=>v = .b (decide (0<=k/\k<5))/\Ab W w' L:=by
 refine cw ⟨mixed,Tryz.func78,rfl⟩ Au2 ?_
 with_reducible refine Az (λh1=>?_) (λh1=>?_)
 ·exact⟨by rw[decide_eq_decide.2 (show k<5↔(0<=k/\k<5) by omega)],hs⟩
 ·exact⟨by rw[decide_eq_false (by omega)],hs⟩
theorem Ax6{k h:Int}{tb:Nat}(hs:Ab W w (tpe tb n::L)):Ba PR 48 #[.i k,.i h,pq tb 0] w λv w'=>(((0<=k/\k<5)/\1<=h/\h<=256)/\∃b,v = .tuple #[pq b 0,.i 0]/\Ab W w' (Fp b n::L))\/(¬((0<=k/\k<5)/\1<=h/\h<=256)/\∃e:Int,e≠0/\v = .tuple #[.p none,.i e]/\Ab W w' L):=by
 refine cw ⟨mixed,Tryz.func48,rfl⟩ Auc ?_;refine Ah (Rq hs) λv w ⟨hv,hs⟩=>⟨_,hv,?_⟩
 with_reducible refine Az (λh1=>?_) (λh1=>?_)
 ·exact .inr ⟨λh=>h1 (by simpa using h.1),4,by decide,rfl,hs.drop⟩
 with_reducible refine Az (λh2=>?_) (λh2=>?_)
 ·exact .inr ⟨by omega,1,by decide,rfl,hs.drop⟩
 with_reducible refine Az (λh3=>?_) (λh3=>?_)
 ·exact .inr ⟨by omega,1,by decide,rfl,hs.drop⟩
 refine jw Z7 ?_;refine QM (YT hs) λa0 a1 a2 a3 a4 w hu hs=>?_;refine Ai hs λb w hs=>?_;exact .inl ⟨⟨by simpa using h1,by omega,by omega⟩,b,rfl,GO hu hs⟩
theorem VJ{k:Int}(hs:Ab W w (Fp b n::M)):Ba PR 62 #[pq b 0,.i k] w λv w'=>∃m:Int,v = .i m/\(m=0↔(0<=k/\k<5))/\Ab W w' (Fp b n::M):=by
 refine cw ⟨mixed,Tryz.func62,rfl⟩ Aur ?_;refine Ac rfl ?_;refine Ah (Rq hs) λv w ⟨hv,hs⟩=>⟨_,hv,?_⟩
 with_reducible refine Az (λh1=>?_) (λh1=>?_)
 ·exact⟨4,rfl,by have:¬(0<=k/\k<5):=h1;omega,hs⟩
 obtain⟨cur,hold,tb,a0,a1,a2,a3,a4,kd,nn,hu,hs⟩:=OV hs;refine Aa (A4 hs λw hs=>?_);refine Aa (A4 hs λw hs=>?_);refine Aa (A4 hs λw hs=>?_);exact⟨0,rfl,by simpa using h1,GO hu hs⟩
theorem Aht(hb:n<1000000000000){g0 g1 g2 g3 g4 all:Int}(hs:Ab W w (Fp b n::M)):Ba PR 58 #[pq b 0,.agg #[.i g0,.i g1,.i g2,.i g3,.i g4],.i all] w λv w'=>∃(k:Int) (t:Bool),v = .tuple #[.i k,.b t]/\(0<=k/\k<5)/\Ab W w' (Fp b (n+1)::M):=by
 refine cw ⟨mixed,Tryz.func58,rfl⟩ Aun ?_;refine Ai hs λb1 w hs=>?_;refine Ac rfl ?_;have hs:Ab W w (Fp b n::blk b1 [.i g0,.i g1,.i g2,.i g3,.i g4]::M):=hs.perm (List.Perm.swap _ _ _);obtain⟨cur,hold,tb,a0,a1,a2,a3,a4,kd,nn,hu,hs⟩:=OV hs;refine Ak [cC b cur hold tb a0 a1 a2 a3 a4 kd nn] hs λw hs=>?_;refine Aa (Ar (Ar (Ar (Ar (Ar ?_)))))
 iterate 5 refine Ag hs ?_
 refine Af hs ?_;refine QM (Axe hu hs) λa0 a1 a2 a3 a4 w hu hs=>?_;refine Aa ?_
 iterate 5 refine A4 hs λw hs=>?_
 refine Ak [cC b cur hold tb a0 a1 a2 a3 a4 kd nn] hs λw hs=>?_;refine Aa (Ar (Ar (Ar (Ar (Ar (Aa (Ag hs (Af hs ?_))))))));have hs:Ab W w (tpe tb n::cC b cur hold tb a0 a1 a2 a3 a4 kd nn::M):=by exact Ab.fin hs
 refine Ah (Aw3 hb hs) λv w ⟨x,hv,hs⟩=>⟨_,hv,?_⟩;have hs:Ab W w (cC b cur hold tb a0 a1 a2 a3 a4 kd nn::tpe tb (n+1)::M):=hs.perm (List.Perm.swap _ _ _);refine Af hs ?_;refine Ah (Axf hs) λv w ⟨t,hv,ht,hs⟩=>⟨_,hv,?_⟩;refine Aa (Ag hs ?_);have j1:∀(w:World)(nn:Int),Ab W w (cC b cur hold tb a0 a1 a2 a3 a4 t nn::tpe tb (n+1)::M)->ZF Bg (λv w'=>∃(k:Int) (t:Bool),v = .tuple #[.i k,.b t]/\(0<=k/\k<5)/\Ab W w' (Fp b (n+1)::M)) (some ⟨b,0,none⟩) t w:=by
  clear hs;intro w nn hs;refine jw ZG ?_;refine Ak [cC b cur hold tb a0 a1 a2 a3 a4 t nn] hs λw hs=>?_;refine Aa (Ar (Aa (Ag hs (Af hs ?_))));refine Ao (λ_=>⟨t,false,rfl,ht,GO hu hs⟩) (λ_=>?_);exact Ah (VJ (GO hu hs)) λv w ⟨m,hv,_,hs⟩=>⟨_,hv,t,true,rfl,ht,hs⟩
 refine Ao (λ_=>?_) (λ_=>?_)
 ·refine Aa (A4 hs λw hs=>?_);refine Aa (A4 hs λw hs=>?_);exact⟨t,false,rfl,ht,GO hu hs⟩
 ·refine Aa (Ag hs ?_);refine Ao (λh2=>?_) (λ_=>?_)
  ·have h2:t=kd:=by simpa using h2
   subst h2;refine Aa (Ag hs ?_);refine Aa (A4 hs λw hs=>?_);exact j1 w _ hs
  ·refine Aa (A4 hs λw hs=>?_);refine Aa (A4 hs λw hs=>?_);exact j1 w _ hs
end
end Go.Proofs.YtjipofkjmmpjdaaGreat
namespace Go.Hb
instance:GL Am.ptr:=⟨Nat.one_pos⟩
section
variable{α:Type}{f:α->HP}{l:List α}{i:Nat}{x:α}{W w:World}{M:List HP}
theorem Vn(hi:i<l.length)(h:Ab W w (AJ (l.map f)::M)):Ab W w (f l[i]::AJ ((l.eraseIdx i).map f)::M):=by
 have h1:=h.openL;have hp:(l.map f).Perm (f l[i]::(l.eraseIdx i).map f):=(((Eh hi).map f).symm);have h2:=h1.perm (hp.append_right M);have h2:Ab W w (f l[i]::((l.eraseIdx i).map f++M)):=h2;have h3:=h2.perm (List.perm_middle (a:=f l[i]) (l₁:=(l.eraseIdx i).map f) (l₂:=M)).symm;have h4:=Ab.shutL h3;exact h4.perm (List.Perm.swap _ _ _)
theorem Aou(hi:i<l.length)(h:Ab W w (f x::AJ ((l.eraseIdx i).map f)::M)):Ab W w (AJ ((l.set i x).map f)::M):=by
 have h1:=(h.perm (List.Perm.swap _ _ _)).openL;have h2:Ab W w (f x::((l.eraseIdx i).map f++M)):=h1.perm List.perm_middle;have hs:i<(l.set i x).length:=by simpa using hi
 have hp:=(Eh hs).map f;have e1:(l.set i x)[i]=x:=by simp
 have e2:(l.set i x).eraseIdx i=l.eraseIdx i:=List.eraseIdx_set_eq;rw[e1,e2] at hp;exact Ab.shutL (h2.perm (hp.append_right M))
theorem Qq(hi:i<l.length)(h:Ab W w (f l[i]::AJ ((l.eraseIdx i).map f)::M)):Ab W w (AJ (l.map f)::M):=by
 have h1:=Aou hi h;rw[List.set_getElem_self] at h1;exact h1
theorem Hf(h:Ab W w (f x::AJ (l.map f)::M)):Ab W w (AJ ((l++[x]).map f)::M):=by
 have h1:=(h.perm (List.Perm.swap _ _ _)).openL;refine Ab.shutL ?_;rw[List.map_append,List.append_assoc];exact h1
theorem I2(h:Ab W w M):Ab W w (AJ (([]:List α).map f)::M):=Ab.shutL h
end
end Go.Hb
namespace Go.Hb
open Go.ChangeShapes Go.WideShapes Go.RowKit
section
variable{P:Program}{H:Type}{enc:TypeId×Value->H}{W:World}{sp:Nat->Bool}{held:Bool}{base:Nat}
theorem slc_cap{t e:TypeId}{d:DataW H}{ps:List MemPlace}{a:OA}{n c:Nat}(ht:P.underlying t=some (.slice e))(hd:DataW.Trod enc P W base sp held t (.slice a n c) d ps):n<=c:=by
 obtain⟨fuel,hf⟩:=hd;rcases DataW.trod_slice ht hf with⟨h,_⟩|⟨a',len',cap',elems,rest,n',rfl,h,hd',_,hlc,hcm,hel,hcell,_,_⟩
 ·simp only[Value.cells,List.cons.injEq,Value.slice.injEq,and_true] at h;omega
 ·simp only[Value.cells,List.cons.injEq,Value.slice.injEq,and_true] at h;omega
end
end Go.Hb
namespace Go.Hb
open Go.ChangeShapes Go.WideShapes Go.RowKit
structure Ans where
 err:Int
 hit:Bool
 val:BA
 sl:Sl
 gone:List BA
instance:Inhabited Ans:=⟨⟨0,false,⟨#[]⟩,⟨none,0,0⟩,[]⟩⟩
def Zc:Am Ans:=⟨4,λa=>[.int .i64 a.err,.bool a.hit,.string a.val,.slice a.sl.a a.sl.n a.sl.c],λ_=>rfl⟩
def stF(P:Program)(t:TypeId):List (TypeId×Nat):=match P.underlying t with
 | some (.struct fs)=>fs.toList.map λf=>(f.type,f.offset)
 | _=>[]
section
variable{H:Type}{enc:TypeId×Value->H}{P:Program}{W:World}{sp:Nat->Bool}{held:Bool}{base:Nat}
theorem Zi{a:Addr}{n:Nat}{c:List Value}(h:W.cells? base a n=some c)(hn:0<n):a.spot=none:=by
 unfold World.cells? at h;have h:(List.range n).mapM (λi=>W.cell? (Addr.add a i))=some c:=by
  by_cases hb:base<=a.block
  ·rwa [if_pos hb] at h
  ·rw[if_neg hb] at h;cases h
 obtain⟨y,hy⟩:=Ys h 0 (by simp[hn]);have ha:Addr.add a 0=a:=by simp[Addr.add]
 rw[ha] at hy;unfold World.cell? at hy;split at hy
 ·split at hy
  ·cases hy
  ·rename_i hs;cases hsp:a.spot <;> simp_all
 ·cases hy
theorem Lb{b o j:Nat}:Addr.add ⟨b,o,none⟩ j=⟨b,o+j,none⟩:=by
 unfold Addr.add;split
 ·simp_all
 ·rfl
theorem Rp{b i n:Nat}{c:List Value}(h:W.cells? base ⟨b,i,none⟩ n=some c):c.length=n/\∀j,j<n->W.cell? ⟨b,i+j,none⟩=c[j]?:=by
 unfold World.cells? at h;have h:(List.range n).mapM (λi_1=>W.cell? (Addr.add ⟨b,i,none⟩ i_1))=some c:=by
  by_cases hb:base<=b
  ·rwa [if_pos hb] at h
  ·rw[if_neg hb] at h;cases h
 have:∀(l:List Nat)(c:List Value),l.mapM (λi_1=>W.cell? (Addr.add ⟨b,i,none⟩ i_1))=some c->c.length=l.length/\∀j (hj:j<l.length),W.cell? (Addr.add ⟨b,i,none⟩ l[j])=c[j]?:=by
  intro l
  induction l with
  | nil=>intro c h;simp only[List.mapM_nil,Option.pure_def,Option.some.injEq] at h;subst h;exact⟨rfl,λj hj=>by simp at hj⟩
  | cons x l ih=>
   intro c h;simp only[List.mapM_cons,Option.bind_eq_bind,Option.pure_def,Option.bind_eq_some_iff] at h;obtain⟨y,hy,ys,hys,hc⟩:=h;cases hc;obtain⟨h1,h2⟩:=ih ys hys;refine⟨by simp[h1],λj hj=>?_⟩;cases j with
   | zero=>simpa using hy
   | succ j=>simpa using h2 j (by simpa using hj)
 obtain⟨h1,h2⟩:=this _ _ h;refine⟨by simpa using h1,λj hj=>?_⟩;have:=h2 j (by simpa using hj);simp only[List.getElem_range] at this;rw[<- this,Lb]
theorem Apb{Q:List Value->Prop}{a:Addr}{m len cap:Nat}(hpos:0<m)(hrow:∀i,i<len->∃c,W.cells? base (a.add (i*m)) m=some c/\Q c) :
  ∃rows:List (List Value),rows.length=len/\(∀x∈rows,Q x)/\(len=0\/Abm W m ⟨some a,len,cap⟩ rows.flatten):=by
 by_cases h0:len=0
 ·exact⟨[],h0.symm,λ_ h=>(by cases h),.inl h0⟩
 obtain⟨c0,hc0,_⟩:=hrow 0 (by omega);have ha:Addr.add a (0*m)=a:=by simp[Addr.add]
 rw[ha] at hc0;have hspot:=Zi hc0 hpos;obtain⟨b,o,spot⟩:=a;simp only at hspot;subst hspot;have hrow2:∀i,∃c,i<len->W.cells? base (Addr.add ⟨b,o,none⟩ (i*m)) m=some c/\Q c:=by
  intro i
  by_cases hi:i<len
  ·obtain⟨c,hc⟩:=hrow i hi;exact⟨c,λ_=>hc⟩
  ·exact⟨[],λh=>absurd h hi⟩
 let f:Nat->List Value:=λi=>Classical.choose (hrow2 i);have hf:∀i,i<len->W.cells? base (Addr.add ⟨b,o,none⟩ (i*m)) m=some (f i)/\Q (f i):=λi hi=>Classical.choose_spec (hrow2 i) hi;refine⟨(List.range len).map f,by simp,?_,.inr ⟨?_,.inr ⟨b,o,rfl,?_⟩⟩⟩
 ·intro x hx;simp only[List.mem_map,List.mem_range] at hx;obtain⟨i,hi,rfl⟩:=hx;exact(hf i hi).2
 ·simp only;have:∀(l:List (List Value)),(∀x∈l,x.length=m)->l.flatten.length=l.length*m:=by
   intro l
   induction l with
   | nil=>simp
   | cons x l ih=>intro h;simp[ih λy hy=>h y (.tail _ hy),h x (.head _),Nat.add_mul,Nat.add_comm]
  rw[this]
  ·simp
  ·intro x hx;simp only[List.mem_map,List.mem_range] at hx;obtain⟨i,hi,rfl⟩:=hx;have h1:=(hf i hi).1;rw[Lb] at h1;exact(Rp h1).1
 ·have:∀(n:Nat)(g:Nat->List Value)(p:Nat),(∀i,i<n->(g i).length=m/\∀j,j<m->W.cell? ⟨b,p+i*m+j,none⟩=(g i)[j]?) ->
    ∀j,j<((List.range n).map g).flatten.length->W.cell? ⟨b,p+j,none⟩=((List.range n).map g).flatten[j]?:=by
   intro n
   induction n with
   | zero=>intro g p _ j hj;simp at hj
   | succ n ih=>
    intro g p h j hj;have hr:(List.range (n+1)).map g=g 0::(List.range n).map (g ∘ Nat.succ):=by
     rw[List.range_succ_eq_map];simp
    rw[hr] at hj ⊢;simp only[List.flatten_cons] at hj ⊢;obtain⟨h0,h0'⟩:=h 0 (by omega)
    by_cases hj0:j<m
    ·rw[List.getElem?_append_left (by omega)];simpa using h0' j hj0
    ·rw[List.getElem?_append_right (by omega)];have:=ih (g ∘ Nat.succ) (p+m) (λi hi=>by
      obtain⟨a1,a2⟩:=h (i+1) (by omega);refine⟨a1,λj hj=>?_⟩;have:=a2 j hj;show _=(g (i+1))[j]?;rw[<- this];congr 2;rw[Nat.add_mul];omega) (j-m) (by simp at hj ⊢;omega)
     rw[h0,<- this];congr 2;omega
  refine this len f o λi hi=>?_;obtain⟨h1,h2⟩:=hf i hi;rw[Lb] at h1;exact Rp h1
theorem Aw7{t:TypeId}{us:List Value}{x:DataW H×List MemPlace}{fuel:Nat}{fs:Array Field}(hu:P.underlying t=some (.struct fs))(hx:DataW.trod enc P W base sp held fuel t us=some x)(hlt:HQ P t x.1) :
  us.length=P.cellsOf t/\∀p∈stF P t,∃fuel y,DataW.trod enc P W base sp held fuel p.1 ((us.drop p.2).take (P.cellsOf p.1))=some y/\HQ P p.1 y.1:=by
 cases fuel with
 | zero=>cases hx
 | succ fuel=>
 unfold DataW.trod at hx;rw[hu] at hx;simp only at hx;split at hx
 case isFalse=>cases hx
 rename_i hlen;simp only[Option.map_eq_some_iff] at hx;obtain⟨xs,hxs,rfl⟩:=hx;have hlt':∀n∈DataW.weightsEach P (fs.toList.map (·.type)) (xs.map (·.1)),n<=reachBytes:=λn hn=>hlt n (by simp only[DataW.weights,hu];exact hn)
 refine⟨hlen,λp hp=>?_⟩;simp only[stF,hu,List.mem_map] at hp;obtain⟨f,hf,rfl⟩:=hp;obtain⟨i,hi,hfi⟩:=List.mem_iff_getElem.1 hf;obtain⟨y,hy,hfy⟩:=K8 hxs (List.getElem?_eq_getElem hi);rw[hfi] at hfy;exact⟨fuel,y,hfy,light_each hlt' (j:=i) (by rw[List.getElem?_map,List.getElem?_eq_getElem hi,hfi];rfl) (by rw[List.getElem?_map,hy];rfl)⟩
end
end Go.Hb
namespace Go.Hb
structure MS where
 kind:Int
 key:BA
 val:BA
 n:Int
instance:Inhabited MS:=⟨⟨0,⟨#[]⟩,⟨#[]⟩,0⟩⟩
def opR:Am MS:=⟨4,λo=>[.i o.kind,.s o.key,.s o.val,.i o.n],λ_=>rfl⟩
structure OpOk(o:MS):Prop where
 kind:okK .i64 o.kind
 key:Axs o.key
 val:Axs o.val
 n:okK .i64 o.n
theorem of_op(x:List Value)(h:DL [.int .i64,.str,.str,.int .i64] x):∃o,x=opR.cells o/\OpOk o:=by
 obtain⟨v0,v1,v2,v3,rfl⟩:∃v0 v1 v2 v3,x=[v0,v1,v2,v3]:=by
  have hl:=Lz h
  match x,hl with
  | [v0,v1,v2,v3],_=>exact⟨v0,v1,v2,v3,rfl⟩
 obtain⟨h0,h1,h2,h3,_⟩:=h;obtain⟨k0,rfl,g0⟩:=h0;obtain⟨k1,rfl,g1⟩:=h1;obtain⟨k2,rfl,g2⟩:=h2;obtain⟨k3,rfl,g3⟩:=h3;exact⟨⟨k0,k1,k2,k3⟩,rfl,g0,g1,g2,g3⟩
end Go.Hb
namespace Go.Hb
open Go.Proofs.YtjipofkjmmpjdaaGreat
noncomputable def Bv(m:Nat)(k:BA):Nat:=(EF 31 k % (m:Int)).toNat
theorem KN{m:Nat}(h:1<=m)(k:BA):Bv m k<m:=by
 unfold Bv;have h1:=Int.emod_nonneg (EF 31 k) (show(m:Int)≠0 by omega);have h2:=Int.emod_lt_of_pos (EF 31 k) (show(0:Int)<m by omega);omega
abbrev Sh:=TT×Int×Option Nat
abbrev CY(rm:Int)(n:Nat)(z:Nat×Sh):HP:=sd z.1 rm n z.2.1 z.2.2.1 z.2.2.2
abbrev cB(b:Nat)(s:Sl)(p ch:Nat)(now:Int):HP:=blk b [.l s.a s.n s.c,pq p 0,pq ch 0,.i now]
structure CI(rm now:Int)(n:Nat):Prop where
 sh1:1<=n
 sh8:n<=8
 rm1:1<=rm
 rm2:rm<=1024
 now0:0<=now
 nowM:now<=1125899906842624
def Hr(b k:Nat)(rm now:Int)(X:List Sh):HP:=JM λ(z:Sl×Nat×Nat×List (Nat×Sh))=>EA (CI rm now X.length/\z.2.2.2.map (·.2)=X) (AJ [cB b z.1 z.2.1 z.2.2.1 now,recs Am.ptr z.1 (z.2.2.2.map (·.1)),E9 z.2.1 k,Fp z.2.2.1 k,AJ (z.2.2.2.map (CY rm (600000*k)))])
abbrev rsV(e:Int)(h:Bool)(v:BA)(s:Sl):Value:=.agg #[.i e,.b h,.s v,.l s.a s.n s.c]
abbrev YX(b:Nat)(e:Int)(h:Bool)(v:BA)(s:Sl):HP:=blk b [.i e,.b h,.s v,.l s.a s.n s.c]
abbrev F4(b:Nat)(o:MS):HP:=blk b [.i o.kind,.s o.key,.s o.val,.i o.n]
abbrev JO(b:Nat):HP:=blk b [.i 0,.b false,.s ⟨#[]⟩,.l none 0 0]
def swR(k:Int)(z z':Sh):Prop:=z'.1=z.1/\z'.2.1=k/\((k=z.2.1/\z'=z)\/z'.2.2=some z.1.length)
def exR(nw:Int)(z z':Sh):Prop:=z'.1=AB z.1 (Cv z.1 nw)/\z'.2.1=z.2.1/\Jq z'.2.2 z.2.2
def rsR(r:Int)(z:Sh)(g:BL)(z':Sh):Prop:=(g.Nodup/\∀x∈g,x∈kT z.1)/\(g=[]\/((AB z.1 g).length:Int)=r)/\z'=(AB z.1 g,z.2.1,none)
inductive F2 {α β:Type} (R:α->β->Prop):List α->List β->Prop
 | nil:F2 R [] []
 | cons {a b l m}:R a b->F2 R l m->F2 R (a::l) (b::m)
inductive F3 {α β γ:Type} (R:α->β->γ->Prop):List α->List β->List γ->Prop
 | nil:F3 R [] [] []
 | cons {a b c l m n}:R a b c->F3 R l m n->F3 R (a::l) (b::m) (c::n)
section
variable{α β γ:Type}{R:α->β->Prop}{S:α->β->γ->Prop}{l:List α}{m:List β}{n:List γ}{a:α}{b:β}{c:γ}{i:Nat}
theorem F2.len(h:F2 R l m):l.length=m.length:=by
 induction h with
 | nil=>rfl
 | cons _ _ ih=>simp[ih]
theorem F2.get(h:F2 R l m):∀{i:Nat}{a:α},l[i]? = some a->∃b,m[i]? = some b/\R a b:=by
 induction h with
 | nil=>intro i a h;simp at h
 | cons h _ ih=>
  intro i x hi;cases i with
  | zero=>simp at hi;subst hi;exact⟨_,rfl,h⟩
  | succ i=>simp at hi;simpa using ih hi
theorem F2.snoc(h:F2 R l m)(hr:R a b):F2 R (l++[a]) (m++[b]):=by
 induction h with
 | nil=>exact .cons hr .nil
 | cons h _ ih=>exact .cons h ih
theorem F3.snoc(h:F3 S l m n)(hr:S a b c):F3 S (l++[a]) (m++[b]) (n++[c]):=by
 induction h with
 | nil=>exact .cons hr .nil
 | cons h _ ih=>exact .cons h ih
theorem F3.len(h:F3 S l m n):l.length=m.length/\l.length=n.length:=by
 induction h with
 | nil=>exact⟨rfl,rfl⟩
 | cons _ _ ih=>simp[ih.1,<- ih.2]
theorem F3.get(h:F3 S l m n):∀{i:Nat}{a:α},l[i]? = some a->∃b c,m[i]? = some b/\n[i]? = some c/\S a b c:=by
 induction h with
 | nil=>intro i a h;simp at h
 | cons h _ ih=>
  intro i x hi;cases i with
  | zero=>simp at hi;subst hi;exact⟨_,_,rfl,rfl,h⟩
  | succ i=>simp at hi;simpa using ih hi
end
structure NoR(X:List Sh)(now:Int)(o:MS):Prop where
 n1:o.kind=1->Jc o.key now≠0
 n2:o.kind=2->Fx o.key o.val now o.n≠0
 n3:o.kind=3->Jc o.key now≠0
 n6:o.kind=6->¬(0<=o.n/\o.n<X.length)
 n8:o.kind=8->¬(0<=o.n/\o.n<5)
 n9:o.kind=9->¬(1<=o.n/\o.n<=1024)
inductive MQ (rm now:Int) (X:List Sh) (o:MS):Int->Bool->BA->BL->Int->Int->List Sh->Prop
 | no {e:Int}:e≠0->NoR X now o->MQ rm now X o e false ⟨#[]⟩ [] rm now X
 | get {T:TT} {kd:Int} {p q:Option Nat}:o.kind=1->Jc o.key now=0->X[Bv X.length o.key]? = some (T,kd,p)->Jq q p->MQ rm now X o 0 (FW T o.key now).2 (FW T o.key now).1 (CF T o.key now) rm now (X.set (Bv X.length o.key) (BW T o.key now,kd,q))
 | put {T:TT} {kd:Int} {p q:Option Nat} {g:BL}:o.kind=2->Fx o.key o.val now o.n=0->X[Bv X.length o.key]? = some (T,kd,p)->Jq q p->g.Nodup->(∀x∈g,x∈kT (BW T o.key now))->o.key∉g->MQ rm now X o 0 false ⟨#[]⟩ (CF T o.key now++g) rm now (X.set (Bv X.length o.key) (Hn (AB (BW T o.key now) g) o.key o.val now o.n,kd,q))
 | del {T:TT} {kd:Int} {p q:Option Nat}:o.kind=3->Jc o.key now=0->X[Bv X.length o.key]? = some (T,kd,p)->Jq q p->MQ rm now X o 0 (AC (BW T o.key now) o.key).isSome ⟨#[]⟩ (CF T o.key now) rm now (X.set (Bv X.length o.key) (Eo (BW T o.key now) o.key,kd,q))
 | tick {X':List Sh}:o.kind=4->0<=o.n->now+o.n<=1125899906842624->F2 (exR (now+o.n)) X X'->MQ rm now X o 0 false ⟨#[]⟩ (X.map λz=>Cv z.1 (now+o.n)).flatten rm (now+o.n) X'
 | drain {h:Bool} {i:Nat} {T:TT} {kd:Int} {p q:Option Nat}:o.kind=5->o.n=i->X[i]? = some (T,kd,p)->Jq q p->MQ rm now X o 0 h ⟨#[]⟩ [] rm now (X.set i (T,kd,q))
 | step {h:Bool} {v:BA} {i:Nat} {T:TT} {kd:Int} {p q:Option Nat}:o.kind=6->o.n=i->X[i]? = some (T,kd,p)->Jq q p->(∀m,q=some m->m<=T.length)->MQ rm now X o 0 h v [] rm now (X.set i (T,kd,Qn q))
 | epoch {h:Bool} {v:BA} {X':List Sh} {k:Int}:o.kind=7->(0<=k/\k<5)->(X'=X\/F2 (swR k) X X')->MQ rm now X o 0 h v [] rm now X'
 | force {X':List Sh}:o.kind=8->(0<=o.n/\o.n<5)->F2 (swR o.n) X X'->MQ rm now X o 0 false ⟨#[]⟩ [] rm now X'
 | res {X':List Sh} {G:List BL}:o.kind=9->1<=o.n->o.n<=1024->F3 (rsR o.n) X G X'->MQ rm now X o 0 false ⟨#[]⟩ G.flatten o.n now X'
abbrev Rj(b k:Nat)(rm now:Int)(X:List Sh)(o:MS)(W:World)(M:List HP):VW:=λv w'=>∃(e:Int) (h:Bool) (x:BA) (sl:Sl) (gone:BL) (rm' now':Int) (X':List Sh),v=rsV e h x sl/\MQ rm now X o e h x gone rm' now' X'/\Ab W w' (Hr b (k+1) rm' now' X'::recs Am.str sl gone::M)
theorem OT{α:Type}{W:World}{f g:α->HP}(hfg:∀(x:α)(w:World)(M:List HP),Ab W w (f x::M)->Ab W w (g x::M)):∀{l:List α}{w:World}{M:List HP},Ab W w (AJ (l.map f)::M)->Ab W w (AJ (l.map g)::M)
 | [],w,M,h=>h
 | x::l,w,M,h=>by
  have h1:Ab W w (f x::(l.map f++M)):=h.openL;have h2:=hfg x w _ h1;have h3:Ab W w (l.map f++g x::M):=h2.perm List.perm_middle.symm;have h5:=OT hfg (l:=l) (Ab.shutL h3);have h6:Ab W w (l.map g++g x::M):=h5.openL;have h7:Ab W w (g x::(l.map g++M)):=h6.perm List.perm_middle;exact Ab.shutL h7
section
variable{W w:World}{M L:List HP}{F:HP->List HP}{b k n m:Nat}{X:List Sh}{p ch:Nat}{sl:Sl}{Ls:List (Nat×Sh)}{rm now:Int}{o:MS}
theorem Aot(hn:n<=m)(hs:Ab W w (E9 b n::M)):Ab W w (E9 b m::M):=by
 obtain⟨sb,r,l,hl,hs⟩:=KB hs;have hs:Ab W w (Ri l n::blk b (pq sb 0::.i r::l.map λq=>pq q 0)::FZ sb::M):=by exact Ab.fin hs
 have hs:Ab W w (Ri l m::blk b (pq sb 0::.i r::l.map λq=>pq q 0)::FZ sb::M):=OT (λx w M hs=>FV hn hs) hs;exact KC hl (by exact Ab.fin hs)
theorem Ahv(hn:n<=m)(hs:Ab W w (Fp b n::M)):Ab W w (Fp b m::M):=by
 obtain⟨cur,hold,tb,a0,a1,a2,a3,a4,kd,nn,hu,hs⟩:=OV hs;have hs:Ab W w (tpe tb n::cC b cur hold tb a0 a1 a2 a3 a4 kd nn::M):=by exact Ab.fin hs
 obtain⟨s,l,k,hk,_,hs⟩:=YO hs;have hs:Ab W w (tpe tb m::cC b cur hold tb a0 a1 a2 a3 a4 kd nn::M):=KS (s:=s) (l:=l) (k:=k) ⟨hk.1,by omega⟩ hs;exact GO hu (by exact Ab.fin hs)
theorem YC(hn:n<=m)(hs:Ab W w (AJ (Ls.map (CY rm n))::M)):Ab W w (AJ (Ls.map (CY rm m))::M):=OT (λx w M hs=>FC hn hs) hs
theorem CJ(h:Ab W w (Hr b k rm now X::M)):∃(sl:Sl) (p ch:Nat) (Ls:List (Nat×Sh)),CI rm now Ls.length/\Ls.map (·.2)=X/\Ls.length=X.length/\sl.n=Ls.length/\Ab W w (cB b sl p ch now::recs Am.ptr sl (Ls.map (·.1))::E9 p k::Fp ch k::AJ (Ls.map (CY rm (600000*k)))::M):=by
 obtain⟨⟨sl,p,ch,Ls⟩,h⟩:=h.openE;obtain⟨⟨hp,hX⟩,h⟩:=h.openA;have h:=h.openL;have h:Ab W w (cB b sl p ch now::recs Am.ptr sl (Ls.map (·.1))::E9 p k::Fp ch k::AJ (Ls.map (CY rm (600000*k)))::M):=h;have hl:=(Bx (s:=sl) h).1;rw[List.length_map] at hl;have h2:Ls.length=X.length:=by rw[<- hX,List.length_map]
 exact⟨sl,p,ch,Ls,h2 ▸ hp,hX,h2,hl,h⟩
theorem Cg{m1 m2 m3:Nat}(hp:CI rm now Ls.length)(hX:Ls.map (·.2)=X)(h1:m1<=k:=by omega)(h2:m2<=k:=by omega)(h3:m3<=600000*k:=by omega)(hs:Ab W w (cB b sl p ch now::recs Am.ptr sl (Ls.map (·.1))::E9 p m1::Fp ch m2::AJ (Ls.map (CY rm m3))::M)):Ab W w (Hr b k rm now X::M):=by
 have hs:Ab W w (E9 p m1::cB b sl p ch now::recs Am.ptr sl (Ls.map (·.1))::Fp ch m2::AJ (Ls.map (CY rm m3))::M):=by exact Ab.fin hs
 have hs:=Aot h1 hs;have hs:Ab W w (Fp ch m2::cB b sl p ch now::recs Am.ptr sl (Ls.map (·.1))::E9 p k::AJ (Ls.map (CY rm m3))::M):=by exact Ab.fin hs
 have hs:=Ahv h2 hs;have hs:Ab W w (AJ (Ls.map (CY rm m3))::cB b sl p ch now::recs Am.ptr sl (Ls.map (·.1))::E9 p k::Fp ch k::M):=by exact Ab.fin hs
 have hs:=YC h3 hs;have hl:X.length=Ls.length:=by rw[<- hX,List.length_map]
 exact Ab.shutE (sl,p,ch,Ls) (Ab.shutA ⟨hl.symm ▸ hp,hX⟩ (Ab.shutL (Ps:=[_,_,_,_,_]) (by exact Ab.fin hs)))
theorem Jr(h:Ab W w (Hr b k rm now X::M)):CI rm now X.length/\∀z∈X,Ad4 rm z.1/\(0<=z.2.1/\z.2.1<5):=by
 obtain⟨sl,p,ch,Ls,hi,rfl,hl,hn,hs⟩:=CJ h;refine⟨hl ▸ hi,λz hz=>?_⟩;obtain⟨y,hy,rfl⟩:=List.mem_map.1 hz;obtain⟨i,hil,rfl⟩:=List.mem_iff_getElem.1 hy;have hs:Ab W w (AJ (Ls.map (CY rm (600000*k)))::cB b sl p ch now::recs Am.ptr sl (Ls.map (·.1))::E9 p k::Fp ch k::M):=by exact Ab.fin hs
 have hs:=Vn hil hs;refine⟨Ao5 hs,?_⟩;obtain⟨l,R,evs,hi,hs⟩:=DJ hs;exact(Ep hs).2.1
theorem Hv{e:Int}(he:e≠0)(hN:NoR X now o)(hs:Ab W w (Hr b (k+1) rm now X::M)):Rj b k rm now X o W M (rsV e false ⟨#[]⟩ ⟨none,0,0⟩) w:=
 ⟨e,false,⟨#[]⟩,⟨none,0,0⟩,[],rm,now,X,rfl,.no he hN,(Ab.nilR Am.str hs).perm (List.Perm.swap _ _ _)⟩
theorem Nx{h:Bool}{x:BA}{X':List Sh}(hD:MQ rm now X o 0 h x [] rm now X')(hs:Ab W w (Hr b (k+1) rm now X'::M)):Rj b k rm now X o W M (rsV 0 h x ⟨none,0,0⟩) w:=
 ⟨0,h,x,⟨none,0,0⟩,[],rm,now,X',rfl,hD,(Ab.nilR Am.str hs).perm (List.Perm.swap _ _ _)⟩
theorem HG{rb:Nat}{v0 v1 v2 v3:Value}{K:Int->Bool->BA->Sl->WP}{e:Int}{h:Bool}{x:BA}{s:Sl}(hs:Ab W w L)[hA:At L rb (blk rb [v0,v1,v2,v3]) F](hQ:∀w',Ab W w' (F (YX rb e h x s))->K e h x s w') :
  st rb 0 (.i e) (st rb 1 (.b h) (st rb 2 (.s x) (st rb 3 (.l s.a s.n s.c) (ld (.int .i64) rb 0 λa=>ld .bool rb 1 λb=>ld .str rb 2 λc=>ld .slc rb 3 λd=>K a b c d)))) w:=by
 refine At.one (hA:=hA) hs λM hs hb=>?_;refine A4 hs λw hs=>A4 hs λw hs=>A4 hs λw hs=>A4 hs λw hs=>?_;refine Ag hs (Ag hs (Ag hs (Ag (x:=s) hs ?_)));exact hQ w (hb _ _ hs)
theorem Ang{i:Nat}(hi:i<Ls.length):(Ls.map λz:Nat×Sh=>z.1).getD i default=(Ls[i]).1:=by
 rw[List.getD_eq_getElem?_getD,List.getElem?_map,List.getElem?_eq_getElem hi];rfl
theorem SK{i:Int}{j:Nat}(e:i=(j:Int))(hi:j<Ls.length):(Am.ptr.cells ((Ls.map λz:Nat×Sh=>z.1).getD i.toNat default))[0]? = some (CK.ptr.val (some ⟨(Ls[j]).1,0,none⟩)):=by
 subst e;rw[Int.toNat_natCast,Ang hi];rfl
theorem P7{pre:List (Nat×Sh)}{z:Nat×Sh}{rest:List (Nat×Sh)}(e:Ls=pre++z::rest):(Am.ptr.cells ((Ls.map λz:Nat×Sh=>z.1).getD (Int.toNat (pre.length:Int)) default))[0]? = some (CK.ptr.val (some ⟨z.1,0,none⟩)):=by
 subst e;rw[Int.toNat_natCast,List.getD_eq_getElem?_getD,List.getElem?_map,List.getElem?_append_right (Nat.le_refl _),Nat.sub_self];rfl
theorem Vo{α:Type}{f:α->HP}{x:α}{l:List α}(h:Ab W w (AJ ((x::l).map f)::M)):Ab W w (f x::AJ (l.map f)::M):=Vn (i:=0) (l:=x::l) (Nat.succ_pos _) h
variable{i:Nat}{y:Sh}
theorem KA(hi:i<Ls.length)(hn:n<=m)(h:Ab W w (AJ (Ls.map (CY rm n))::M)):Ab W w (sd (Ls[i]).1 rm n (Ls[i]).2.1 (Ls[i]).2.2.1 (Ls[i]).2.2.2::AJ ((Ls.eraseIdx i).map (CY rm m))::M):=by
 have hs:=Vn hi h;have hs:=YC (m:=m) hn (hs.perm (List.Perm.swap _ _ _));exact hs.perm (List.Perm.swap _ _ _)
theorem Qr(hi:i<Ls.length)(hn:n<=m)(h:Ab W w (sd (Ls[i]).1 rm n y.1 y.2.1 y.2.2::AJ ((Ls.eraseIdx i).map (CY rm m))::M)):Ab W w (AJ ((Ls.set i ((Ls[i]).1,y)).map (CY rm m))::M):=
 Aou (f:=CY rm m) (x:=((Ls[i]).1,y)) hi (FC hn h)
theorem Awu(hi:i<Ls.length):(Ls.set i ((Ls[i]).1,y)).map (λz=>z.1)=Ls.map λz=>z.1:=by
 rw[List.map_set,<- List.getElem_map (λz:Nat×Sh=>z.1) (h:=by simpa using hi),List.set_getElem_self]
theorem JT{m1 m2:Nat}(hp:CI rm now Ls.length)(hX:Ls.map (·.2)=X)(hi:i<Ls.length)(h1:m1<=k+1:=by omega)(h2:m2<=k+1:=by omega)(hs:Ab W w (AJ ((Ls.set i ((Ls[i]).1,y)).map (CY rm (600000*(k+1))))::cB b sl p ch now::recs Am.ptr sl (Ls.map λz=>z.1)::E9 p m1::Fp ch m2::M)):Ab W w (Hr b (k+1) rm now (X.set i y)::M):=by
 refine Cg (sl:=sl) (p:=p) (ch:=ch) (m1:=m1) (m2:=m2) (m3:=600000*(k+1)) (Ls:=Ls.set i ((Ls[i]).1,y)) (by rw[List.length_set];exact hp) (by rw[List.map_set,hX]) h1 h2 (Nat.le_refl _) ?_;rw[Awu hi];exact Ab.fin hs
end
end Go.Hb
namespace Go.Proofs.YtjipofkjmmpjdaaGreat
open Go.Hb Go.IntWalk
section
variable{W w:World}{L M:List HP}{b k n:Nat}{X:List Sh}{p ch:Nat}{sl:Sl}{Ls:List (Nat×Sh)}{rm now:Int}{o:MS}{key:BA}
theorem Ao2{m:Nat}(hm:1<=m)(h8:m<=8)(hz:key.size<4611686018427387904)(hs:Ab W w L):Ba PR 81 #[.s key,.i (m:Int)] w λv w'=>v = .i (Bv m key:Int)/\Ab W w' L:=by
 refine cw ⟨mixed,Tryz.func81,rfl⟩ Au5 ?_;refine An (Gj hs hz) λe w ⟨he,hs⟩=>⟨_,he,?_⟩;refine An (Dk hs _ _ _) λe w ⟨he,hs⟩=>⟨_,he,?_⟩;have e:Hs (m:Int) 1 8=(m:Int):=by unfold Hs;rw[if_neg (show ¬(1:Int)>(m:Int) by omega),if_neg (by omega)]
 rw[e];have h0:0<=EF 31 key:=by exact(FM 31 key).1
 refine An (FT hs h0 (by omega) (by omega)) λe w ⟨he,hs⟩=>⟨_,he,?_⟩;refine⟨?_,hs⟩;unfold Bv;obtain⟨a,ha⟩:=Int.eq_ofNat_of_zero_le h0;rw[ha];show Value.int .i64 (((Int.toNat (a:Int)) % m:Nat):Int)=_;rw[Int.toNat_natCast,<- Int.natCast_emod,Int.toNat_natCast]
theorem Az1(hl1:1<=Ls.length)(hl8:Ls.length<=8)(hn:sl.n=Ls.length)(hz:key.size<4611686018427387904)(hs:Ab W w (cB b sl p ch now::recs Am.ptr sl (Ls.map (·.1))::M)):Ba PR 50 #[pq b 0,.s key] w λv w'=>v = .p (some ⟨(Ls[Bv Ls.length key]'(KN hl1 key)).1,0,none⟩)/\Ab W w' (cB b sl p ch now::recs Am.ptr sl (Ls.map (·.1))::M):=by
 refine cw ⟨mixed,Tryz.func50,rfl⟩ Aue ?_;refine Ak [cB b sl p ch now] hs λw hs=>?_;refine Aa (Ar (x:=sl) (Aa (Ag (x:=sl) hs (Af hs ?_))));rw[show((sl.n:Nat):Int)=(Ls.length:Int) by omega];refine Ah (Ao2 hl1 hl8 hz hs) λv w ⟨hv,hs⟩=>⟨_,hv,Af hs ?_⟩;have hlt:=KN hl1 key;have hlm:(Ls.map (·.1)).length=Ls.length:=by rw[List.length_map]
 refine Cn (s:=sl) hs (λb_ o_ ha_=>?_);refine C6 (s:=sl) (rows:=Ls.map λz:Nat×Sh=>z.1) ha_ hs ?_ (k:=.ptr) (x:=some ⟨(Ls[Bv Ls.length key]'hlt).1,0,none⟩) (hc:=SK rfl hlt);exact⟨rfl,hs⟩
theorem Ac9{i:Int}(hn:sl.n=Ls.length)(hs:Ab W w (cB b sl p ch now::recs Am.ptr sl (Ls.map (·.1))::M)):Ba PR 19 #[pq b 0,.i i] w λv w'=>((¬(0<=i/\i<Ls.length)/\v = .p none)\/∃(j:Nat) (h:j<Ls.length),i=j/\v = .p (some ⟨(Ls[j]).1,0,none⟩))/\Ab W w' (cB b sl p ch now::recs Am.ptr sl (Ls.map (·.1))::M):=by
 refine cw ⟨mixed,Tryz.func19,rfl⟩ Arr ?_;refine Ac rfl ?_
 with_reducible refine Az (λh1=>?_) (λh1=>?_)
 ·exact⟨.inl ⟨by omega,rfl⟩,hs⟩
 refine Aa (Ag (x:=sl) hs ?_)
 with_reducible refine Az (λh2=>?_) (λh2=>?_)
 ·exact⟨.inl ⟨by omega,rfl⟩,hs⟩
 obtain⟨j,hj⟩:∃j:Nat,i=(j:Int):=⟨i.toNat,by omega⟩;have hlt:j<Ls.length:=by omega
 refine jw Zu ?_;have hlm:(Ls.map (·.1)).length=Ls.length:=by rw[List.length_map]
 refine Aa (Ag (x:=sl) hs ?_);refine Cn (s:=sl) hs (λb_ o_ ha_=>?_);refine C6 (s:=sl) (rows:=Ls.map λz:Nat×Sh=>z.1) ha_ hs ?_ (k:=.ptr) (x:=some ⟨(Ls[j]'hlt).1,0,none⟩) (hc:=SK hj hlt);exact⟨.inr ⟨j,hlt,hj,rfl⟩,hs⟩
theorem Cc{α:Type}{l:List α}{i:Nat}(h:i<l.length):l.take (i+1)=l.take i++[l[i]]:=by rw[List.take_add_one,List.getElem?_eq_getElem h];rfl
theorem PJ{kd:Int}(hk:0<=kd/\kd<5)(hb:n<800000000000)(hl:Ls.length<1000)(hn:sl.n=Ls.length)(hs:Ab W w (AJ (Ls.map (CY rm n))::cB b sl p ch now::recs Am.ptr sl (Ls.map λz=>z.1)::M)) :
  Ba PR 60 #[pq b 0,.i kd] w λv w'=>v = .tuple #[]/\∃Ls':List (Nat×Sh),(Ls'.map λz=>z.1)=(Ls.map λz=>z.1)/\F2 (swR kd) (Ls.map (·.2)) (Ls'.map (·.2))/\Ab W w' (AJ (Ls'.map (CY rm (n+520)))::cB b sl p ch now::recs Am.ptr sl (Ls.map λz=>z.1)::M):=by
 refine cw ⟨mixed,Tryz.func60,rfl⟩ Aup ?_;refine Aa (Ag (x:=sl) hs ?_);have hlm:(Ls.map (·.1)).length=Ls.length:=by rw[List.length_map]
 have loop:∀(pend pre pre':List (Nat×Sh))(w:World),Ls=pre++pend->(pre'.map λz=>z.1)=(pre.map λz=>z.1)->F2 (swR kd) (pre.map (·.2)) (pre'.map (·.2))->Ab W w (AJ (pend.map (CY rm n))::AJ (pre'.map (CY rm (n+520)))::cB b sl p ch now::recs Am.ptr sl (Ls.map λz=>z.1)::M) ->
   UI Bg (λv w'=>v = .tuple #[]/\∃Ls':List (Nat×Sh),(Ls'.map λz=>z.1)=(Ls.map λz=>z.1)/\F2 (swR kd) (Ls.map (·.2)) (Ls'.map (·.2))/\Ab W w' (AJ (Ls'.map (CY rm (n+520)))::cB b sl p ch now::recs Am.ptr sl (Ls.map λz=>z.1)::M)) (pend.length+1) kd sl (sl.n:Int) (pre.length:Int) w:=by
  clear hs;intro pend
  induction pend with
  | nil=>
   intro pre pre' w e h1 h2 hs;rw[List.append_nil] at e;subst e;rw[List.length_nil,Po];refine Ac (decide_eq_false (by omega)) ?_;exact⟨rfl,pre',h1,h2,by exact Ab.fin hs⟩
  | cons z rest ih=>
   intro pre pre' w e h1 h2 hs;rw[List.length_cons,Po];have hle:Ls.length=pre.length+(rest.length+1):=by rw[e];simp
   refine Al (decide_eq_true (by omega)) ?_;refine Cn (s:=sl) hs λb_ o_ ha_=>?_;refine C6 (s:=sl) (rows:=Ls.map λz:Nat×Sh=>z.1) ha_ hs ?_ (k:=.ptr) (x:=some ⟨z.1,0,none⟩) (hc:=P7 e);have hs:=Vo hs;have e1:pre++[z]++rest=Ls:=by rw[e];simp
   refine Ah (Agz hk (by omega) hs) λv w ⟨m,hv,hs⟩=>⟨_,hv,?_⟩;rw[show IntKind.wrap .i64 ((pre.length:Int)+1)=((pre++[z]).length:Int) by rw[i64_in _ (by omega)];simp]
   rcases hs with⟨hke,hs⟩|hs
   ·have hs:=FC (n':=n+520) (by omega) hs;have hs:Ab W w (CY rm (n+520) z::AJ (pre'.map (CY rm (n+520)))::AJ (rest.map (CY rm n))::cB b sl p ch now::recs Am.ptr sl (Ls.map λz=>z.1)::M):=by exact Ab.fin hs
    have hs:=Hf hs;refine ih (pre++[z]) (pre'++[z]) w e1.symm (by simp[h1]) ?_ (by exact Ab.fin hs);rw[List.map_append,List.map_append];exact h2.snoc ⟨rfl,hke.symm,.inl ⟨hke,rfl⟩⟩
   ·have hs:Ab W w (CY rm (n+520) (z.1,z.2.1,kd,some z.2.1.length)::AJ (pre'.map (CY rm (n+520)))::AJ (rest.map (CY rm n))::cB b sl p ch now::recs Am.ptr sl (Ls.map λz=>z.1)::M):=by exact Ab.fin hs
    have hs:=Hf hs;refine ih (pre++[z]) (pre'++[(z.1,z.2.1,kd,some z.2.1.length)]) w e1.symm (by simp[h1]) ?_ (by exact Ab.fin hs);rw[List.map_append,List.map_append];exact h2.snoc ⟨rfl,rfl,.inr rfl⟩
 have hs:=(I2 (f:=CY rm (n+520)) hs).perm (List.Perm.swap _ _ _);exact AO _ (loop Ls [] [] w rfl rfl .nil hs)
end
end Go.Proofs.YtjipofkjmmpjdaaGreat
namespace Go.Proofs.YtjipofkjmmpjdaaGreat
open Go.Hb Go.IntWalk
section
variable{W w:World}{L M:List HP}{b k n:Nat}{X:List Sh}{p ch:Nat}{sl:Sl}{Ls:List (Nat×Sh)}{rm now:Int}{o:MS}{key:BA}
theorem Qc{i:Nat}(hi:i<Ls.length):(Ls.map (·.2))[i]? = some ((Ls[i]).2.1,(Ls[i]).2.2.1,(Ls[i]).2.2.2):=by rw[List.getElem?_map,List.getElem?_eq_getElem hi];rfl
theorem Avu(hk:o.kind=5)(hb:k<1000000)(hs:Ab W w (Hr b k rm now X::M)):Ba PR 32 #[pq b 0,.agg #[.i o.kind,.s o.key,.s o.val,.i o.n]] w (Rj b k rm now X o W M):=by
 refine cw ⟨mixed,Tryz.func32,rfl⟩ As3 ?_;refine Ai hs λb1 w hs=>Ai hs λb2 w hs=>?_;obtain⟨sl,p,ch,Ls,hi,hX,hl,hn,hs⟩:=CJ (b:=b) (k:=k) (rm:=rm) (now:=now) (X:=X) (M:=JO b2::F4 b1 o::M) (by exact Ab.fin hs);refine Ag hs ?_;have hs:Ab W w (cB b sl p ch now::recs Am.ptr sl (Ls.map (·.1))::AJ (Ls.map (CY rm (600000*k)))::E9 p k::Fp ch k::JO b2::F4 b1 o::M):=by exact Ab.fin hs
 refine Ah (Ac9 hn hs) λv w ⟨hv,hs⟩=>?_;rcases hv with⟨hno,hv⟩|⟨j,hj,hjn,hv⟩
 ·refine⟨_,hv,Al rfl ?_⟩;refine HG (s:=⟨none,0,0⟩) hs λw hs=>?_;refine Hv (by decide) ⟨by omega,by omega,by omega,by omega,by omega,by omega⟩ ?_;exact Cg (sl:=sl) (p:=p) (ch:=ch) (m1:=k) (m2:=k) (m3:=600000*k) hi hX (by omega) (by omega) (by omega) (by exact Ab.fin hs)
 ·refine⟨_,hv,Ac rfl ?_⟩;have hs:Ab W w (AJ (Ls.map (CY rm (600000*k)))::cB b sl p ch now::recs Am.ptr sl (Ls.map λz=>z.1)::E9 p k::Fp ch k::JO b2::F4 b1 o::M):=by exact Ab.fin hs
  have hs:=KA (m:=600000*(k+1)) hj (by omega) hs;refine Ah (Ao6 (by omega) hs) λv w ⟨m,hv,o',ho,hs⟩=>⟨_,hv,?_⟩;have hs:=Qr (y:=((Ls[j]).2.1,(Ls[j]).2.2.1,o')) hj (by omega) hs;refine HG (s:=⟨none,0,0⟩) hs λw hs=>?_;refine Nx (.drain hk hjn (by rw[<- hX];exact Qc hj) ho) ?_
  exact JT (m1:=k) (m2:=k) hi hX hj (by omega) (by omega) (by exact Ab.fin hs)
theorem Az2(hk:o.kind=6)(hb:k<1000000)(hs:Ab W w (Hr b k rm now X::M)):Ba PR 33 #[pq b 0,.agg #[.i o.kind,.s o.key,.s o.val,.i o.n]] w (Rj b k rm now X o W M):=by
 refine cw ⟨mixed,Tryz.func33,rfl⟩ As9 ?_;refine Ai hs λb1 w hs=>Ai hs λb2 w hs=>?_;obtain⟨sl,p,ch,Ls,hi,hX,hl,hn,hs⟩:=CJ (b:=b) (k:=k) (rm:=rm) (now:=now) (X:=X) (M:=JO b2::F4 b1 o::M) (by exact Ab.fin hs);refine Ag hs ?_;have hs:Ab W w (cB b sl p ch now::recs Am.ptr sl (Ls.map (·.1))::AJ (Ls.map (CY rm (600000*k)))::E9 p k::Fp ch k::JO b2::F4 b1 o::M):=by exact Ab.fin hs
 refine Ah (Ac9 hn hs) λv w ⟨hv,hs⟩=>?_;rcases hv with⟨hno,hv⟩|⟨j,hj,hjn,hv⟩
 ·refine⟨_,hv,Al rfl ?_⟩;refine HG (s:=⟨none,0,0⟩) hs λw hs=>?_;refine Hv (by decide) ⟨by omega,by omega,by omega,λ_=>by omega,by omega,by omega⟩ ?_;exact Cg (sl:=sl) (p:=p) (ch:=ch) (m1:=k) (m2:=k) (m3:=600000*k) hi hX (by omega) (by omega) (by omega) (by exact Ab.fin hs)
 ·refine⟨_,hv,Ac rfl ?_⟩;have hs:Ab W w (AJ (Ls.map (CY rm (600000*k)))::cB b sl p ch now::recs Am.ptr sl (Ls.map λz=>z.1)::E9 p k::Fp ch k::JO b2::F4 b1 o::M):=by exact Ab.fin hs
  have hs:=KA (m:=600000*(k+1)) hj (by omega) hs;refine AH (Awv (by omega) hs) λv w ⟨x,t,o',hv,ho,hle,hs⟩=>⟨_,_,hv,?_⟩;have hs:=Qr (y:=((Ls[j]).2.1,(Ls[j]).2.2.1,Qn o')) hj (by omega) hs;refine A4 hs λw hs=>A4 hs λw hs=>?_;refine Ag hs (Ag hs (Ag hs (Ag (k:=.slc) (x:=(⟨none,0,0⟩:Sl)) hs ?_)));refine HG (s:=⟨none,0,0⟩) hs λw hs=>?_;refine Nx (.step hk hjn (by rw[<- hX];exact Qc hj) ho hle) ?_
  exact JT (m1:=k) (m2:=k) hi hX hj (by omega) (by omega) (by exact Ab.fin hs)
theorem Ap7{kd:Int}(hs:Ab W w L):Ba PR 61 #[.i kd] w λv w'=>∃x:BA,v = .s x/\Ab W w' L:=by
 refine cw ⟨mixed,Tryz.func61,rfl⟩ Auq ?_;refine Ao (λ_=>⟨_,rfl,hs⟩) λ_=>?_;refine Ao (λ_=>⟨_,rfl,hs⟩) λ_=>?_;refine Ao (λ_=>⟨_,rfl,hs⟩) λ_=>?_;refine Ao (λ_=>⟨_,rfl,hs⟩) λ_=>?_;refine Ao (λ_=>⟨_,rfl,hs⟩) λ_=>⟨_,rfl,hs⟩
theorem Avv(hk:o.kind=7)(hb:k<1000000)(hs:Ab W w (Hr b k rm now X::M)):Ba PR 34 #[pq b 0,.agg #[.i o.kind,.s o.key,.s o.val,.i o.n]] w (Rj b k rm now X o W M):=by
 refine cw ⟨mixed,Tryz.func34,rfl⟩ Atg ?_;refine Ai hs λb1 w hs=>Ai hs λb2 w hs=>?_;obtain⟨sl,p,ch,Ls,hi,hX,hl,hn,hs⟩:=CJ (b:=b) (k:=k) (rm:=rm) (now:=now) (X:=X) (M:=JO b2::F4 b1 o::M) (by exact Ab.fin hs);have h8:=hi.sh8;refine Ak [cB b sl p ch now] hs λw hs=>?_;refine Aa (Ar (Aa (Ag hs (Af hs ?_))));have hs:Ab W w (E9 p k::cB b sl p ch now::recs Am.ptr sl (Ls.map (·.1))::AJ (Ls.map (CY rm (600000*k)))::Fp ch k::JO b2::F4 b1 o::M):=by exact Ab.fin hs
 refine Calls.mono (Aos hs) λe_ w ⟨v,he,x0,x1,x2,x3,x4,a,hv,hs⟩=>⟨x0,x1,x2,x3,x4,a,by rw[he,hv],Af hs ?_⟩;have hs:Ab W w (Fp ch k::cB b sl p ch now::recs Am.ptr sl (Ls.map λz=>z.1)::E9 p k::AJ (Ls.map (CY rm (600000*k)))::JO b2::F4 b1 o::M):=by exact Ab.fin hs
 refine AH (Aht (by omega) hs) λv w ⟨kd,t,hv,hkd,hs⟩=>⟨_,_,hv,?_⟩;have j1:∀(w:World)(X':List Sh),(X'=X\/F2 (swR kd) X X')->Ab W w (JO b2::Hr b (k+1) rm now X'::F4 b1 o::M)->Z1 Bg (Rj b k rm now X o W M) b2 0 kd t w:=by
  clear hs;intro w X' hX' hs;refine jw Z2 ?_;refine Ah (Ap7 hs) λv w ⟨x,hv,hs⟩=>⟨_,hv,?_⟩;refine HG (s:=⟨none,0,0⟩) hs λw hs=>?_;exact Nx (.epoch hk hkd hX') (by exact Ab.fin hs)
 refine Ao (λ_=>?_) (λ_=>?_)
 ·have hs:Ab W w (AJ (Ls.map (CY rm (600000*k)))::cB b sl p ch now::recs Am.ptr sl (Ls.map λz=>z.1)::E9 p k::Fp ch (k+1)::JO b2::F4 b1 o::M):=by exact Ab.fin hs
  refine AX (PJ hkd (by omega) (by omega) hn hs) λv w ⟨hv,Ls',h1,h2,hs⟩=>⟨hv,?_⟩;have hl':Ls'.length=Ls.length:=by have:=congrArg List.length h1;simpa using this
  rw[hX] at h2;refine j1 w (Ls'.map (·.2)) (.inr h2) ?_;have hs:=Cg (k:=k+1) (sl:=sl) (p:=p) (ch:=ch) (m1:=k) (m2:=k+1) (m3:=600000*k+520) (Ls:=Ls') (b:=b) (now:=now) (rm:=rm) (X:=Ls'.map (·.2)) (M:=JO b2::F4 b1 o::M) (hl' ▸ hi) rfl (by omega) (by omega) (by omega) (by rw[h1];exact Ab.fin hs)
  exact Ab.fin hs
 ·refine j1 w X (.inl rfl) ?_;have hs:=Cg (k:=k+1) (sl:=sl) (p:=p) (ch:=ch) (m1:=k) (m2:=k+1) (m3:=600000*k) (Ls:=Ls) (b:=b) (now:=now) (rm:=rm) (X:=X) (M:=JO b2::F4 b1 o::M) hi hX (by omega) (by omega) (by omega) (by exact Ab.fin hs);exact Ab.fin hs
theorem Avw(hk:o.kind=8)(hb:k<1000000)(hs:Ab W w (Hr b k rm now X::M)):Ba PR 35 #[pq b 0,.agg #[.i o.kind,.s o.key,.s o.val,.i o.n]] w (Rj b k rm now X o W M):=by
 refine cw ⟨mixed,Tryz.func35,rfl⟩ Atu ?_;refine Ai hs λb1 w hs=>Ai hs λb2 w hs=>?_;obtain⟨sl,p,ch,Ls,hi,hX,hl,hn,hs⟩:=CJ (b:=b) (k:=k) (rm:=rm) (now:=now) (X:=X) (M:=JO b2::F4 b1 o::M) (by exact Ab.fin hs);have h8:=hi.sh8;refine Ak [cB b sl p ch now] hs λw hs=>?_;refine Aa (Ar (Ag hs (Af hs ?_)));have hs:Ab W w (Fp ch k::cB b sl p ch now::recs Am.ptr sl (Ls.map λz=>z.1)::E9 p k::AJ (Ls.map (CY rm (600000*k)))::JO b2::F4 b1 o::M):=by exact Ab.fin hs
 refine Ah (VJ hs) λv w ⟨m,hv,hm,hs⟩=>⟨_,hv,?_⟩
 with_reducible refine Az (λh0=>?_) (λh0=>?_)
 ·refine Ag hs ?_;have hkd:=hm.1 h0;have hs:Ab W w (AJ (Ls.map (CY rm (600000*k)))::cB b sl p ch now::recs Am.ptr sl (Ls.map λz=>z.1)::E9 p k::Fp ch k::JO b2::F4 b1 o::M):=by exact Ab.fin hs
  refine AX (PJ hkd (by omega) (by omega) hn hs) λv w ⟨hv,Ls',h1,h2,hs⟩=>⟨hv,?_⟩;have hl':Ls'.length=Ls.length:=by have:=congrArg List.length h1;simpa using this
  rw[hX] at h2;refine HG (s:=⟨none,0,0⟩) hs λw hs=>?_;rw[h0];refine Nx (.force hk hkd h2) ?_;exact Cg (k:=k+1) (sl:=sl) (p:=p) (ch:=ch) (m1:=k) (m2:=k) (m3:=600000*k+520) (Ls:=Ls') (hl' ▸ hi) rfl (by omega) (by omega) (by omega) (by rw[h1];exact Ab.fin hs)
 ·refine HG (s:=⟨none,0,0⟩) hs λw hs=>?_;refine Hv h0 ⟨by omega,by omega,by omega,by omega,λ_ h=>h0 (hm.2 h),by omega⟩ ?_;exact Cg (sl:=sl) (p:=p) (ch:=ch) (m1:=k) (m2:=k) (m3:=600000*k) hi hX (by omega) (by omega) (by omega) (by exact Ab.fin hs)
end
end Go.Proofs.YtjipofkjmmpjdaaGreat
namespace Go.Proofs.YtjipofkjmmpjdaaGreat
open Go.Hb Go.IntWalk
section
variable{W w:World}{L M:List HP}{b k n:Nat}{X:List Sh}{p ch:Nat}{sl:Sl}{Ls:List (Nat×Sh)}{rm now:Int}{o:MS}{key:BA}
theorem Ah5{T:TT}:(Cv T now).length<=T.length:=by
 unfold Cv;rw[List.length_map];exact List.length_filter_le _ _
theorem M6{α:Type}{c:Nat}:∀{L:List (List α)},(∀l∈L,l.length<=c)->L.flatten.length<=L.length*c
 | [],_=>by simp
 | l::L,h=>by
  have h1:=h l (by simp);have h2:=M6 (L:=L) (c:=c) λx hx=>h x (by simp[hx]);simp only[List.flatten_cons,List.length_append,List.length_cons];rw[Nat.succ_mul];omega
theorem Az3(hk:o.kind=4)(hb:k<1000000)(hs:Ab W w (Hr b k rm now X::M)):Ba PR 31 #[pq b 0,.agg #[.i o.kind,.s o.key,.s o.val,.i o.n]] w (Rj b k rm now X o W M):=by
 refine cw ⟨mixed,Tryz.func31,rfl⟩ Asv ?_;have hok:=Jr hs;refine Ai hs λb1 w hs=>Ai hs λb2 w hs=>?_;obtain⟨sl,p,ch,Ls,hi,hX,hl,hn,hs⟩:=CJ (b:=b) (k:=k) (rm:=rm) (now:=now) (X:=X) (M:=JO b2::F4 b1 o::M) (by exact Ab.fin hs);have h8:=hi.sh8;have hn0:=hi.now0;have hnM:=hi.nowM
 have hS:∀z∈Ls,z.2.1.length<=1024:=λz hz=>by
  have h:=(hok.2 z.2 (by rw[<- hX];exact List.mem_map_of_mem hz)).1;have h1:=h.len;have h2:=h.c2
  omega
 have j1:∀(w:World)(t:Bool),(t=false->0<=o.n/\now+o.n<=1125899906842624)->Ab W w (cB b sl p ch now::recs Am.ptr sl (Ls.map λz=>z.1)::E9 p k::Fp ch k::AJ (Ls.map (CY rm (600000*k)))::JO b2::F4 b1 o::M) ->
   Zx Bg (Rj b k rm now X o W M) (some ⟨b,0,none⟩) b1 0 b2 0 t w:=by
  clear hs;intro w t ht hs;refine jw Zy ?_;cases t with
  | true=>
   refine Al rfl ?_;refine HG (s:=⟨none,0,0⟩) hs λw hs=>?_;refine Hv (by decide) ⟨by omega,by omega,by omega,by omega,by omega,by omega⟩ ?_;exact Cg (sl:=sl) (p:=p) (ch:=ch) (m1:=k) (m2:=k) (m3:=600000*k) hi hX (by omega) (by omega) (by omega) (by exact Ab.fin hs)
  | false=>
   refine Ac rfl ?_;obtain⟨h0,h1⟩:=ht rfl;refine jw Zz ?_;refine Ak [cB b sl p ch now] hs λw hs=>?_;refine Aa (Ar (Ag hs (Af hs ?_)));refine Aa (A4 hs λw hs=>?_);rw[i64_in _ (by omega)] at hs;refine Aa (Ag (x:=sl) hs ?_);have hD:∀{X':List Sh},F2 (exR (now+o.n)) X X'->MQ rm now X o 0 false ⟨#[]⟩ (X.map λz=>Cv z.1 (now+o.n)).flatten rm (now+o.n) X':=λh=>.tick hk h0 h1 h;have hn1:0<=now+o.n:=by omega
   generalize now+o.n=nw at hD hs h1 hn1;have hs:=Ab.nilR Am.str hs;have hi':CI rm nw Ls.length:=⟨hi.sh1,hi.sh8,hi.rm1,hi.rm2,hn1,h1⟩;have loop:∀(pend pre pre':List (Nat×Sh))(w:World)(gs:Sl),Ls=pre++pend->(pre'.map λz=>z.1)=(pre.map λz=>z.1)->F2 (exR nw) (pre.map (·.2)) (pre'.map (·.2)) ->
     Ab W w (recs Am.str gs (pre.map λz=>Cv z.2.1 nw).flatten::YX b2 0 false ⟨#[]⟩ gs::F4 b1 o::cB b sl p ch nw::recs Am.ptr sl (Ls.map λz=>z.1)::E9 p k::Fp ch k::AJ (pre'.map (CY rm (600000*(k+1))))::AJ (pend.map (CY rm (600000*k)))::M) ->
     U1 Bg (Rj b k rm now X o W M) (pend.length+1) (some ⟨b,0,none⟩) b2 0 sl (sl.n:Int) (pre.length:Int) w:=by
    clear hs;intro pend
    induction pend with
    | nil=>
     intro pre pre' w gs e g1 g2 hs;rw[List.append_nil] at e;rw[<- e] at g1 g2 hs;rw[<- e,List.length_nil,Ph];refine Ac (decide_eq_false (by omega)) ?_;refine jw Z0 ?_;refine Ag hs (Ag hs (Ag hs (Ag (x:=gs) hs ?_)));refine HG (s:=gs) hs λw hs=>?_;have hl':pre'.length=Ls.length:=by have:=congrArg List.length g1;simpa using this
     rw[hX] at g2;have e3:(X.map λz=>Cv z.1 nw)=Ls.map λz=>Cv z.2.1 nw:=by rw[<- hX,List.map_map];rfl
     refine⟨0,false,⟨#[]⟩,gs,(X.map λz=>Cv z.1 nw).flatten,rm,nw,pre'.map (·.2),rfl,hD g2,?_⟩;refine Cg (k:=k+1) (sl:=sl) (p:=p) (ch:=ch) (m1:=k) (m2:=k) (m3:=600000*(k+1)) (Ls:=pre') (hl' ▸ hi') rfl (by omega) (by omega) (by omega) ?_;rw[g1,e3];exact Ab.fin hs
    | cons z rest ih=>
     intro pre pre' w gs e g1 g2 hs;rw[List.length_cons,Ph];have hle:Ls.length=pre.length+(rest.length+1):=by rw[e];simp
     have hlm:(Ls.map (·.1)).length=Ls.length:=by rw[List.length_map]
     refine Al (decide_eq_true (by omega)) ?_;refine Cn (s:=sl) hs λb_ o_ ha_=>?_;refine C6 (s:=sl) (rows:=Ls.map λz:Nat×Sh=>z.1) ha_ hs ?_ (k:=.ptr) (x:=some ⟨z.1,0,none⟩) (hc:=P7 e);refine Ak [YX b2 0 false ⟨#[]⟩ gs,cB b sl p ch nw] hs λw hs=>?_;refine Ar (x:=gs) (Aa (Ag hs (Af hs ?_)));have hs:Ab W w (AJ ((z::rest).map (CY rm (600000*k)))::recs Am.str gs (pre.map λz=>Cv z.2.1 nw).flatten::YX b2 0 false ⟨#[]⟩ gs::F4 b1 o::cB b sl p ch nw::recs Am.ptr sl (Ls.map λz=>z.1)::E9 p k::Fp ch k::AJ (pre'.map (CY rm (600000*(k+1))))::M):=by exact Ab.fin hs
     have hs:=Vo hs;refine Ah (Agx hn1 h1 (by omega) hs) λv w ⟨sg,hv,o',ho,hs⟩=>⟨_,hv,Af hs ?_⟩;have hz:=hS z (by rw[e];simp)
     have hd:=Ah5 (T:=z.2.1) (now:=nw);have hfl:(pre.map λz=>Cv z.2.1 nw).flatten.length<=(pre.map λz=>Cv z.2.1 nw).length*1024:=M6 λl hl=>by
      obtain⟨y,hy,rfl⟩:=List.mem_map.1 hl;have:=hS y (by rw[e];simp[hy])
      have:=Ah5 (T:=y.2.1) (now:=nw);omega
     rw[List.length_map] at hfl;refine FJ (s:=gs) (new:=Cv z.2.1 nw) hs (FU (s:=sg) (E:=Am.str) (rows:=Cv z.2.1 nw) hs) (BE (s:=sg) (E:=Am.str) (rows:=Cv z.2.1 nw) hs) (CS _) rfl (by decide) (by omega) λgs2 w hg2 hs=>?_;refine A4 hs λw hs=>?_;have hs:Ab W w (sd z.1 rm (600000*k+600000) (AB z.2.1 (Cv z.2.1 nw)) z.2.2.1 o'::AJ (pre'.map (CY rm (600000*(k+1))))::recs Am.str gs2 ((pre.map λz=>Cv z.2.1 nw).flatten++Cv z.2.1 nw)::YX b2 0 false ⟨#[]⟩ gs2::F4 b1 o::cB b sl p ch nw::recs Am.ptr sl (Ls.map λz=>z.1)::E9 p k::Fp ch k::AJ (rest.map (CY rm (600000*k)))::M):=by exact Ab.fin hs
     have hs:=FC (n':=600000*(k+1)) (by omega) hs;have hs:Ab W w (CY rm (600000*(k+1)) (z.1,AB z.2.1 (Cv z.2.1 nw),z.2.2.1,o')::AJ (pre'.map (CY rm (600000*(k+1))))::recs Am.str gs2 ((pre.map λz=>Cv z.2.1 nw).flatten++Cv z.2.1 nw)::YX b2 0 false ⟨#[]⟩ gs2::F4 b1 o::cB b sl p ch nw::recs Am.ptr sl (Ls.map λz=>z.1)::E9 p k::Fp ch k::AJ (rest.map (CY rm (600000*k)))::M):=hs;have hs:=Hf hs;have e1:(pre.map λz=>Cv z.2.1 nw).flatten++Cv z.2.1 nw=((pre++[z]).map λz=>Cv z.2.1 nw).flatten:=by simp
     rw[e1] at hs;rw[show IntKind.wrap .i64 ((pre.length:Int)+1)=((pre++[z]).length:Int) by rw[i64_in _ (by omega)];simp]
     refine ih (pre++[z]) (pre'++[(z.1,AB z.2.1 (Cv z.2.1 nw),z.2.2.1,o')]) w gs2 (by rw[e];simp) (by simp[g1]) ?_ (by exact Ab.fin hs);rw[List.map_append,List.map_append];exact g2.snoc ⟨rfl,rfl,ho⟩
   refine AO _ (loop Ls [] [] w ⟨none,0,0⟩ rfl rfl .nil ?_);have hs:=I2 (f:=CY rm (600000*(k+1))) hs;exact(by exact Ab.fin hs:Ab W w (recs Am.str ⟨none,0,0⟩ []::YX b2 0 false ⟨#[]⟩ ⟨none,0,0⟩::F4 b1 o::cB b sl p ch nw::recs Am.ptr sl (Ls.map λz=>z.1)::E9 p k::Fp ch k::AJ (([]:List (Nat×Sh)).map (CY rm (600000*(k+1))))::AJ (Ls.map (CY rm (600000*k)))::M))
 refine Ak [cB b sl p ch now,F4 b1 o] hs λw hs=>?_;refine Ag hs (Af hs ?_);refine Ao (λh1=>?_) (λh1=>?_)
 ·exact Af hs (j1 w true (λh=>by cases h) hs)
 ·refine Ar (Aa (Ag hs (Af hs ?_)));refine j1 w _ (λh=>?_) hs;have h1:=of_decide_eq_false h1;have h2:=of_decide_eq_false h;rw[i64_in _ (by omega)] at h2;omega
theorem Ant(hk:o.kind=9)(hb:k<1000000)(hs:Ab W w (Hr b k rm now X::M)):Ba PR 36 #[pq b 0,.agg #[.i o.kind,.s o.key,.s o.val,.i o.n]] w (Rj b k rm now X o W M):=by
 refine cw ⟨mixed,Tryz.func36,rfl⟩ Atx ?_;have hok:=Jr hs;refine Ai hs λb1 w hs=>Ai hs λb2 w hs=>?_;obtain⟨sl,p,ch,Ls,hi,hX,hl,hn,hs⟩:=CJ (b:=b) (k:=k) (rm:=rm) (now:=now) (X:=X) (M:=JO b2::F4 b1 o::M) (by exact Ab.fin hs);have h8:=hi.sh8;have hn0:=hi.now0;have hnM:=hi.nowM
 have hS:∀z∈Ls,z.2.1.length<=1024:=λz hz=>by
  have h:=(hok.2 z.2 (by rw[<- hX];exact List.mem_map_of_mem hz)).1;have h1:=h.len;have h2:=h.c2
  omega
 have j1:∀(w:World)(t:Bool),(t=true->¬(1<=o.n/\o.n<=1024))->(t=false->1<=o.n/\o.n<=1024)->Ab W w (cB b sl p ch now::recs Am.ptr sl (Ls.map λz=>z.1)::E9 p k::Fp ch k::AJ (Ls.map (CY rm (600000*k)))::JO b2::F4 b1 o::M) ->
   Z3 Bg (Rj b k rm now X o W M) (some ⟨b,0,none⟩) b1 0 b2 0 t w:=by
  clear hs;intro w t htt ht hs;refine jw Z4 ?_;cases t with
  | true=>
   refine Al rfl ?_;refine HG (s:=⟨none,0,0⟩) hs λw hs=>?_;refine Hv (by decide) ⟨by omega,by omega,by omega,by omega,by omega,λ_=>htt rfl⟩ ?_;exact Cg (sl:=sl) (p:=p) (ch:=ch) (m1:=k) (m2:=k) (m3:=600000*k) hi hX (by omega) (by omega) (by omega) (by exact Ab.fin hs)
  | false=>
   refine Ac rfl ?_;obtain⟨h0,h1⟩:=ht rfl;refine jw Z5 ?_;refine Aa (Ag (x:=sl) hs ?_);have hs:=Ab.nilR Am.str hs;have hi':CI o.n now Ls.length:=⟨hi.sh1,hi.sh8,h0,h1,hi.now0,hi.nowM⟩;have loop:∀(pend pre pre':List (Nat×Sh))(G:List BL)(w:World)(gs:Sl),Ls=pre++pend->(pre'.map λz=>z.1)=(pre.map λz=>z.1)->F3 (rsR o.n) (pre.map (·.2)) G (pre'.map (·.2))->G.flatten.length<=pre.length*1024 ->
     Ab W w (recs Am.str gs G.flatten::YX b2 0 false ⟨#[]⟩ gs::F4 b1 o::cB b sl p ch now::recs Am.ptr sl (Ls.map λz=>z.1)::E9 p k::Fp ch k::AJ (pre'.map (CY o.n (600000*(k+1))))::AJ (pend.map (CY rm (600000*k)))::M) ->
     U9 Bg (Rj b k rm now X o W M) (pend.length+1) (some ⟨b,0,none⟩) b1 0 b2 0 sl (sl.n:Int) (pre.length:Int) w:=by
    clear hs;intro pend
    induction pend with
    | nil=>
     intro pre pre' G w gs e g1 g2 hfl hs;rw[List.append_nil] at e;rw[<- e] at g1 g2;rw[<- e,List.length_nil,Pi];refine Ac (decide_eq_false (by omega)) ?_;refine jw Z6 ?_;refine Ak [cB b sl p ch now,F4 b1 o] hs λw hs=>?_;refine Aa (Ar (Ar (Aa (Ag (x:=sl) hs (Af hs ?_)))));have hs:Ab W w (E9 p k::recs Am.str gs G.flatten::YX b2 0 false ⟨#[]⟩ gs::F4 b1 o::cB b sl p ch now::recs Am.ptr sl (Ls.map λz=>z.1)::Fp ch k::AJ (pre'.map (CY o.n (600000*(k+1))))::M):=by exact Ab.fin hs
     refine AX (Agg hs) λv w ⟨hv,hs⟩=>⟨hv,?_⟩;refine Ag hs (Ag hs (Ag hs (Ag (x:=gs) hs ?_)));refine HG (s:=gs) hs λw hs=>?_;have hl':pre'.length=Ls.length:=by have:=congrArg List.length g1;simpa using this
     rw[hX] at g2;refine⟨0,false,⟨#[]⟩,gs,G.flatten,o.n,now,pre'.map (·.2),rfl,.res hk h0 h1 g2,?_⟩;refine Cg (k:=k+1) (sl:=sl) (p:=p) (ch:=ch) (m1:=0) (m2:=k) (m3:=600000*(k+1)) (Ls:=pre') (hl' ▸ hi') rfl (by omega) (by omega) (by omega) ?_;rw[g1];exact Ab.fin hs
    | cons z rest ih=>
     intro pre pre' G w gs e g1 g2 hfl hs;rw[List.length_cons,Pi];have hle:Ls.length=pre.length+(rest.length+1):=by rw[e];simp
     have hlm:(Ls.map (·.1)).length=Ls.length:=by rw[List.length_map]
     refine Al (decide_eq_true (by omega)) ?_;refine Cn (s:=sl) hs λb_ o_ ha_=>?_;refine C6 (s:=sl) (rows:=Ls.map λz:Nat×Sh=>z.1) ha_ hs ?_ (k:=.ptr) (x:=some ⟨z.1,0,none⟩) (hc:=P7 e);refine Ag hs ?_;have hs:Ab W w (AJ ((z::rest).map (CY rm (600000*k)))::recs Am.str gs G.flatten::YX b2 0 false ⟨#[]⟩ gs::F4 b1 o::cB b sl p ch now::recs Am.ptr sl (Ls.map λz=>z.1)::E9 p k::Fp ch k::AJ (pre'.map (CY o.n (600000*(k+1))))::M):=by exact Ab.fin hs
     have hs:=Vo hs;refine AH (Agy h0 h1 (by omega) hs) λv w ⟨sg,g,hv,hnd,hsub,hfull,hs⟩=>⟨_,_,hv,?_⟩;have hz:=hS z (by rw[e];simp)
     have hgl:g.length<=1024:=by
      have:=DY hnd hsub;unfold kT at this;rw[List.length_map] at this;omega
     refine Ag (x:=gs) hs ?_;refine FJ (s:=gs) (new:=g) hs (FU (s:=sg) (E:=Am.str) (rows:=g) hs) (BE (s:=sg) (E:=Am.str) (rows:=g) hs) (CS _) rfl (by decide) (by omega) λgs2 w hg2 hs=>?_;refine A4 hs λw hs=>?_;have hs:=FC (n':=600000*(k+1)) (by omega) hs;have hs:Ab W w (CY o.n (600000*(k+1)) (z.1,AB z.2.1 g,z.2.2.1,none)::AJ (pre'.map (CY o.n (600000*(k+1))))::recs Am.str gs2 (G.flatten++g)::YX b2 0 false ⟨#[]⟩ gs2::F4 b1 o::cB b sl p ch now::recs Am.ptr sl (Ls.map λz=>z.1)::E9 p k::Fp ch k::AJ (rest.map (CY rm (600000*k)))::M):=by exact Ab.fin hs
     have hs:=Hf hs;have e1:G.flatten++g=(G++[g]).flatten:=by simp
     rw[e1] at hs;rw[show IntKind.wrap .i64 ((pre.length:Int)+1)=((pre++[z]).length:Int) by rw[i64_in _ (by omega)];simp]
     refine ih (pre++[z]) (pre'++[(z.1,AB z.2.1 g,z.2.2.1,none)]) (G++[g]) w gs2 (by rw[e];simp) (by simp[g1]) ?_ (by rw[<- e1,List.length_append,List.length_append,List.length_singleton];omega) (by exact Ab.fin hs);rw[List.map_append,List.map_append];exact g2.snoc ⟨⟨hnd,hsub⟩,hfull,rfl⟩
   refine AO _ (loop Ls [] [] [] w ⟨none,0,0⟩ rfl rfl .nil (by simp) ?_);have hs:=I2 (f:=CY o.n (600000*(k+1))) hs;exact(by exact Ab.fin hs:Ab W w (recs Am.str ⟨none,0,0⟩ []::YX b2 0 false ⟨#[]⟩ ⟨none,0,0⟩::F4 b1 o::cB b sl p ch now::recs Am.ptr sl (Ls.map λz=>z.1)::E9 p k::Fp ch k::AJ (([]:List (Nat×Sh)).map (CY o.n (600000*(k+1))))::AJ (Ls.map (CY rm (600000*k)))::M))
 refine Ag hs ?_;refine Ao (λh1=>?_) (λh1=>?_)
 ·have h1:=of_decide_eq_true h1;exact j1 w true (λ_=>by omega) (λh=>by cases h) hs
 ·refine Ag hs ?_;have h1:=of_decide_eq_false h1;refine j1 w _ (λh=>?_) (λh=>?_) hs
  ·have h2:=of_decide_eq_true h;omega
  ·have h2:=of_decide_eq_false h;omega
end
end Go.Proofs.YtjipofkjmmpjdaaGreat
namespace Go.Proofs.YtjipofkjmmpjdaaGreat
open Go.Hb Go.IntWalk
section
variable{W w:World}{L M:List HP}{b k n:Nat}{X:List Sh}{p ch:Nat}{sl:Sl}{Ls:List (Nat×Sh)}{rm now:Int}{o:MS}{key:BA}
theorem K5{W w:World}{L:List HP}{F:HP->List HP}{b o i:Nat}{cs:List Value}{f:FuncId}{N K:WP}{l:List (FuncId×WP)}(h:Ab W w L)[hA:At L b (Hb.blk b cs) F](hl:l[i]? = some (f,K))(hc:cs[o]? = some (.func (.func f) #[] #[]))(hK:K w):ldV b o N l w:=
 At.one (hA:=hA) h λ_ h _=>by unfold ldV;rw[(h.cell (q:=0) rfl).trans hc];exact⟨rfl,rfl,_,List.mem_of_getElem? hl,rfl,hK⟩
theorem Az7{W w:World}{L:List HP}{F:HP->List HP}{b o:Nat}{cs:List Value}{N:WP}{l:List (FuncId×WP)}(h:Ab W w L)[hA:At L b (Hb.blk b cs) F](hc:cs[o]? = some .nilFunc)(hN:N w):ldV b o N l w:=
 At.one (hA:=hA) h λ_ h _=>by unfold ldV;rw[(h.cell (q:=0) rfl).trans hc];exact hN
theorem HB{W w:World}{L:List HP}{F:HP->List HP}{b o i:Nat}{cs:List Value}{f:FuncId}{N K:WP}{l:List (FuncId×WP)}[hA:At L b (Hb.blk b cs) F](hl:l[i]? = some (f,K))(hc:cs[o]? = some (.func (.func f) #[] #[]))(hK:K w):Az8 (λw'=>Ab W w' L) b o N l w:=
 .inr ⟨(f,K),List.mem_of_getElem? hl,λw' h=>At.one (hA:=hA) h λ_ h _=>(h.cell (q:=0) rfl).trans hc,hK⟩
abbrev fnB(b:Nat):HP:=blk b [.nilFunc,.func (.func 28) #[] #[],.func (.func 29) #[] #[],.func (.func 30) #[] #[],.func (.func 31) #[] #[],.func (.func 32) #[] #[],.func (.func 33) #[] #[],.func (.func 34) #[] #[],.func (.func 35) #[] #[],.func (.func 36) #[] #[]]
theorem A12(hk:o.kind=1)(hz:o.key.size<4611686018427387904)(hb:k<1000000)(hs:Ab W w (Hr b k rm now X::M)):Ba PR 28 #[pq b 0,.agg #[.i o.kind,.s o.key,.s o.val,.i o.n]] w (Rj b k rm now X o W M):=by
 refine cw ⟨mixed,Tryz.func28,rfl⟩ Asf ?_;refine Ai hs λb1 w hs=>Ai hs λb2 w hs=>?_;obtain⟨sl,p,ch,Ls,hi,hX,hl,hn,hs⟩:=CJ (b:=b) (k:=k) (rm:=rm) (now:=now) (X:=X) (M:=JO b2::F4 b1 o::M) (by exact Ab.fin hs);refine Ak [cB b sl p ch now,F4 b1 o] hs λw hs=>?_;refine Ar (Ar (Aa (Ar ?_)));refine Ah (Az1 hi.sh1 hi.sh8 hn hz hs) λv w ⟨hv,hs⟩=>⟨_,hv,Af hs ?_⟩;have hj:=KN hi.sh1 o.key;have hat:X[Bv X.length o.key]? = some ((Ls[Bv Ls.length o.key]).2.1,(Ls[Bv Ls.length o.key]).2.2.1,(Ls[Bv Ls.length o.key]).2.2.2):=by rw[<- hl];have:=Qc hj;rw[hX] at this;exact this
 have hs:Ab W w (AJ (Ls.map (CY rm (600000*k)))::cB b sl p ch now::recs Am.ptr sl (Ls.map λz=>z.1)::E9 p k::Fp ch k::JO b2::F4 b1 o::M):=by exact Ab.fin hs
 have hs:=KA (m:=600000*(k+1)) hj (by omega) hs;refine Calls.mono (A0v (key:=o.key) (now:=now) (by omega) hs) λe_ w ⟨v,he,h⟩=>?_;rcases h with⟨hne,hv,hs⟩|⟨h0,sg,hv,o',ho,hs⟩
 ·refine⟨_,_,⟨none,0,0⟩,_,by rw[he,hv],?_⟩;refine A4 hs λw hs=>A4 hs λw hs=>A4 hs λw hs=>A4 hs λw hs=>Ag hs ?_;refine Ac (by simpa using hne) ?_;refine Ag hs (Ag hs (Ag hs (Ag (k:=.slc) (x:=(⟨none,0,0⟩:Sl)) hs ?_)));refine HG (s:=⟨none,0,0⟩) hs λw hs=>?_;have hs:=Qq (f:=CY rm (600000*(k+1))) hj (FC (n':=600000*(k+1)) (by omega) (show Ab W w (sd (Ls[Bv Ls.length o.key]).1 rm (600000*k) (Ls[Bv Ls.length o.key]).2.1 (Ls[Bv Ls.length o.key]).2.2.1 (Ls[Bv Ls.length o.key]).2.2.2::AJ ((Ls.eraseIdx (Bv Ls.length o.key)).map (CY rm (600000*(k+1))))::cB b sl p ch now::recs Am.ptr sl (Ls.map λz=>z.1)::E9 p k::Fp ch k::M) by exact Ab.fin hs))
  refine Hv hne ⟨λ_=>hne,by omega,by omega,by omega,by omega,by omega⟩ ?_;exact Cg (sl:=sl) (p:=p) (ch:=ch) (m1:=k) (m2:=k) (m3:=600000*(k+1)) hi hX (by omega) (by omega) (by omega) (by exact Ab.fin hs)
 ·refine⟨_,_,sg,_,by rw[he,hv],?_⟩;refine A4 hs λw hs=>A4 hs λw hs=>A4 hs λw hs=>A4 hs λw hs=>Ag hs ?_;refine Al rfl ?_;have hs:Ab W w (sd (Ls[Bv Ls.length o.key]).1 rm (600000*k+520) (BW (Ls[Bv Ls.length o.key]).2.1 o.key now) (Ls[Bv Ls.length o.key]).2.2.1 o'::AJ ((Ls.eraseIdx (Bv Ls.length o.key)).map (CY rm (600000*(k+1))))::cB b sl p ch now::recs Am.ptr sl (Ls.map λz=>z.1)::E9 p k::Fp ch k::recs Am.str sg (CF (Ls[Bv Ls.length o.key]).2.1 o.key now)::YX b2 0 (FW (Ls[Bv Ls.length o.key]).2.1 o.key now).2 (FW (Ls[Bv Ls.length o.key]).2.1 o.key now).1 sg::F4 b1 o::M):=by exact Ab.fin hs
  have hs:=Qr (y:=(BW (Ls[Bv Ls.length o.key]).2.1 o.key now,(Ls[Bv Ls.length o.key]).2.2.1,o')) hj (by omega) hs;refine Ak [cB b sl p ch now] hs λw hs=>?_;refine Aa (Ar (Ag hs (Af hs ?_)));have hk2:=D6 (Vf h0).1;have hs:Ab W w (E9 p k::AJ ((Ls.set (Bv Ls.length o.key) ((Ls[Bv Ls.length o.key]).1,(BW (Ls[Bv Ls.length o.key]).2.1 o.key now,(Ls[Bv Ls.length o.key]).2.2.1,o'))).map (CY rm (600000*(k+1))))::cB b sl p ch now::recs Am.ptr sl (Ls.map λz=>z.1)::Fp ch k::recs Am.str sg (CF (Ls[Bv Ls.length o.key]).2.1 o.key now)::YX b2 0 (FW (Ls[Bv Ls.length o.key]).2.1 o.key now).2 (FW (Ls[Bv Ls.length o.key]).2.1 o.key now).1 sg::F4 b1 o::M):=by exact Ab.fin hs
  refine Ah (To (by omega) (by omega) hs) λv w ⟨x,hv,hs⟩=>⟨_,hv,?_⟩;refine Ag hs (Ag hs (Ag hs (Ag (k:=.slc) (x:=sg) hs ?_)));refine HG (s:=sg) hs λw hs=>?_;refine⟨0,_,_,sg,_,rm,now,_,rfl,.get hk h0 hat ho,?_⟩;rw[<- hl];exact JT (m1:=k+1) (m2:=k) (sl:=sl) (p:=p) (ch:=ch) hi hX hj (by omega) (by omega) (by exact Ab.fin hs)
theorem A13(hk:o.kind=2)(hz:o.key.size<4611686018427387904)(hb:k<1000000)(hs:Ab W w (Hr b k rm now X::M)):Ba PR 29 #[pq b 0,.agg #[.i o.kind,.s o.key,.s o.val,.i o.n]] w (Rj b k rm now X o W M):=by
 refine cw ⟨mixed,Tryz.func29,rfl⟩ Asj ?_;refine Ai hs λb1 w hs=>Ai hs λb2 w hs=>?_;obtain⟨sl,p,ch,Ls,hi,hX,hl,hn,hs⟩:=CJ (b:=b) (k:=k) (rm:=rm) (now:=now) (X:=X) (M:=JO b2::F4 b1 o::M) (by exact Ab.fin hs);refine Ak [cB b sl p ch now,F4 b1 o] hs λw hs=>?_;refine Ar (Ar (Ar (Aa (Ar (Ar ?_)))));refine Ah (Az1 hi.sh1 hi.sh8 hn hz hs) λv w ⟨hv,hs⟩=>⟨_,hv,Af hs ?_⟩;have hj:=KN hi.sh1 o.key;have hat:X[Bv X.length o.key]? = some ((Ls[Bv Ls.length o.key]).2.1,(Ls[Bv Ls.length o.key]).2.2.1,(Ls[Bv Ls.length o.key]).2.2.2):=by rw[<- hl];have:=Qc hj;rw[hX] at this;exact this
 have hs:Ab W w (AJ (Ls.map (CY rm (600000*k)))::cB b sl p ch now::recs Am.ptr sl (Ls.map λz=>z.1)::E9 p k::Fp ch k::JO b2::F4 b1 o::M):=by exact Ab.fin hs
 have hs:=KA (m:=600000*(k+1)) hj (by omega) hs;refine AH (A0x (key:=o.key) (val:=o.val) (now:=now) (life:=o.n) (by omega) hs) λv w h=>?_;rcases h with⟨hne,hv,hs⟩|⟨h0,sg,g,hv,hnd,hsub,hng,o',ho,hs⟩
 ·refine⟨⟨none,0,0⟩,_,hv,?_⟩;refine A4 hs λw hs=>A4 hs λw hs=>Ag hs ?_;refine Ac (by simpa using hne) ?_;refine Ag hs (Ag hs (Ag hs (Ag (k:=.slc) (x:=(⟨none,0,0⟩:Sl)) hs ?_)));refine HG (s:=⟨none,0,0⟩) hs λw hs=>?_;have hs:=Qq (f:=CY rm (600000*(k+1))) hj (FC (n':=600000*(k+1)) (by omega) (show Ab W w (sd (Ls[Bv Ls.length o.key]).1 rm (600000*k) (Ls[Bv Ls.length o.key]).2.1 (Ls[Bv Ls.length o.key]).2.2.1 (Ls[Bv Ls.length o.key]).2.2.2::AJ ((Ls.eraseIdx (Bv Ls.length o.key)).map (CY rm (600000*(k+1))))::cB b sl p ch now::recs Am.ptr sl (Ls.map λz=>z.1)::E9 p k::Fp ch k::M) by exact Ab.fin hs))
  refine Hv hne ⟨by omega,λ_=>hne,by omega,by omega,by omega,by omega⟩ ?_;exact Cg (sl:=sl) (p:=p) (ch:=ch) (m1:=k) (m2:=k) (m3:=600000*(k+1)) hi hX (by omega) (by omega) (by omega) (by exact Ab.fin hs)
 ·refine⟨sg,_,hv,?_⟩;refine A4 hs λw hs=>A4 hs λw hs=>Ag hs ?_;refine Al rfl ?_;have hs:Ab W w (sd (Ls[Bv Ls.length o.key]).1 rm (600000*k+1561) (Hn (AB (BW (Ls[Bv Ls.length o.key]).2.1 o.key now) g) o.key o.val now o.n) (Ls[Bv Ls.length o.key]).2.2.1 o'::AJ ((Ls.eraseIdx (Bv Ls.length o.key)).map (CY rm (600000*(k+1))))::cB b sl p ch now::recs Am.ptr sl (Ls.map λz=>z.1)::E9 p k::Fp ch k::recs Am.str sg (CF (Ls[Bv Ls.length o.key]).2.1 o.key now++g)::YX b2 0 false ⟨#[]⟩ sg::F4 b1 o::M):=by exact Ab.fin hs
  have hs:=Qr (y:=(Hn (AB (BW (Ls[Bv Ls.length o.key]).2.1 o.key now) g) o.key o.val now o.n,(Ls[Bv Ls.length o.key]).2.2.1,o')) hj (by omega) hs;refine Ak [cB b sl p ch now] hs λw hs=>?_;refine Aa (Ar (Ag hs (Af hs ?_)));have hk2:=D6 (KR h0).1;have hs:Ab W w (E9 p k::AJ ((Ls.set (Bv Ls.length o.key) ((Ls[Bv Ls.length o.key]).1,(Hn (AB (BW (Ls[Bv Ls.length o.key]).2.1 o.key now) g) o.key o.val now o.n,(Ls[Bv Ls.length o.key]).2.2.1,o'))).map (CY rm (600000*(k+1))))::cB b sl p ch now::recs Am.ptr sl (Ls.map λz=>z.1)::Fp ch k::recs Am.str sg (CF (Ls[Bv Ls.length o.key]).2.1 o.key now++g)::YX b2 0 false ⟨#[]⟩ sg::F4 b1 o::M):=by exact Ab.fin hs
  refine Ah (To (by omega) (by omega) hs) λv w ⟨x,hv,hs⟩=>⟨_,hv,?_⟩;refine Ag hs (Ag hs (Ag hs (Ag (k:=.slc) (x:=sg) hs ?_)));refine HG (s:=sg) hs λw hs=>?_;refine⟨0,_,_,sg,_,rm,now,_,rfl,.put hk h0 hat ho hnd hsub hng,?_⟩;rw[<- hl];exact JT (m1:=k+1) (m2:=k) (sl:=sl) (p:=p) (ch:=ch) hi hX hj (by omega) (by omega) (by exact Ab.fin hs)
theorem Anr(hk:o.kind=3)(hz:o.key.size<4611686018427387904)(hb:k<1000000)(hs:Ab W w (Hr b k rm now X::M)):Ba PR 30 #[pq b 0,.agg #[.i o.kind,.s o.key,.s o.val,.i o.n]] w (Rj b k rm now X o W M):=by
 refine cw ⟨mixed,Tryz.func30,rfl⟩ Asp ?_;refine Ai hs λb1 w hs=>Ai hs λb2 w hs=>?_;obtain⟨sl,p,ch,Ls,hi,hX,hl,hn,hs⟩:=CJ (b:=b) (k:=k) (rm:=rm) (now:=now) (X:=X) (M:=JO b2::F4 b1 o::M) (by exact Ab.fin hs);refine Ak [cB b sl p ch now,F4 b1 o] hs λw hs=>?_;refine Ar (Ar (Aa (Ar ?_)));refine Ah (Az1 hi.sh1 hi.sh8 hn hz hs) λv w ⟨hv,hs⟩=>⟨_,hv,Af hs ?_⟩;have hj:=KN hi.sh1 o.key;have hat:X[Bv X.length o.key]? = some ((Ls[Bv Ls.length o.key]).2.1,(Ls[Bv Ls.length o.key]).2.2.1,(Ls[Bv Ls.length o.key]).2.2.2):=by rw[<- hl];have:=Qc hj;rw[hX] at this;exact this
 have hs:Ab W w (AJ (Ls.map (CY rm (600000*k)))::cB b sl p ch now::recs Am.ptr sl (Ls.map λz=>z.1)::E9 p k::Fp ch k::JO b2::F4 b1 o::M):=by exact Ab.fin hs
 have hs:=KA (m:=600000*(k+1)) hj (by omega) hs;refine Calls.mono (Agw (key:=o.key) (now:=now) (by omega) hs) λe_ w ⟨v,he,h⟩=>?_;rcases h with⟨hne,hv,hs⟩|⟨h0,sg,hv,o',ho,hs⟩
 ·refine⟨_,⟨none,0,0⟩,_,by rw[he,hv];rfl,?_⟩;refine A4 hs λw hs=>A4 hs λw hs=>A4 hs λw hs=>?_;refine Ag hs (Ag hs (Ag hs (Ag (k:=.slc) (x:=(⟨none,0,0⟩:Sl)) hs ?_)));refine HG (s:=⟨none,0,0⟩) hs λw hs=>?_;have hs:=Qq (f:=CY rm (600000*(k+1))) hj (FC (n':=600000*(k+1)) (by omega) (show Ab W w (sd (Ls[Bv Ls.length o.key]).1 rm (600000*k) (Ls[Bv Ls.length o.key]).2.1 (Ls[Bv Ls.length o.key]).2.2.1 (Ls[Bv Ls.length o.key]).2.2.2::AJ ((Ls.eraseIdx (Bv Ls.length o.key)).map (CY rm (600000*(k+1))))::cB b sl p ch now::recs Am.ptr sl (Ls.map λz=>z.1)::E9 p k::Fp ch k::M) by exact Ab.fin hs))
  refine Hv hne ⟨by omega,by omega,λ_=>hne,by omega,by omega,by omega⟩ ?_;exact Cg (sl:=sl) (p:=p) (ch:=ch) (m1:=k) (m2:=k) (m3:=600000*(k+1)) hi hX (by omega) (by omega) (by omega) (by exact Ab.fin hs)
 ·refine⟨_,sg,_,by rw[he,hv];rfl,?_⟩;refine A4 hs λw hs=>A4 hs λw hs=>A4 hs λw hs=>?_;refine Ag hs (Ag hs (Ag hs (Ag (k:=.slc) (x:=sg) hs ?_)));refine HG (s:=sg) hs λw hs=>?_;have hs:Ab W w (sd (Ls[Bv Ls.length o.key]).1 rm (600000*k+1040) (Eo (BW (Ls[Bv Ls.length o.key]).2.1 o.key now) o.key) (Ls[Bv Ls.length o.key]).2.2.1 o'::AJ ((Ls.eraseIdx (Bv Ls.length o.key)).map (CY rm (600000*(k+1))))::cB b sl p ch now::recs Am.ptr sl (Ls.map λz=>z.1)::E9 p k::Fp ch k::recs Am.str sg (CF (Ls[Bv Ls.length o.key]).2.1 o.key now)::M):=by exact Ab.fin hs
  have hs:=Qr (y:=(Eo (BW (Ls[Bv Ls.length o.key]).2.1 o.key now) o.key,(Ls[Bv Ls.length o.key]).2.2.1,o')) hj (by omega) hs;refine⟨0,_,_,sg,_,rm,now,_,rfl,.del hk h0 hat ho,?_⟩;rw[<- hl];exact JT (m1:=k) (m2:=k) (sl:=sl) (p:=p) (ch:=ch) hi hX hj (by omega) (by omega) (by exact Ab.fin hs)
theorem KG{P:Program}{f:FuncId}{args:Array Value}{rb:Nat}{v0 v1 v2 v3:Value}(hC:Ba P f args w (Rj b k rm now X o W (blk rb [v0,v1,v2,v3]::L))){K:Int->Bool->BA->Sl->WP}
  (hK:∀(e:Int)(h:Bool)(x:BA)(sl:Sl)(gone:BL)(rm' now':Int)(X':List Sh)(w':World),MQ rm now X o e h x gone rm' now' X'->Ab W w' (Hr b (k+1) rm' now' X'::recs Am.str sl gone::L)->K e h x sl w') :
  Calls P f args w λe w'=>∃(x:Int) (y:Bool) (z:BA) (t:Sl),e = .returned (.agg #[.i x,.b y,.s z,.l t.a t.n t.c])/\(st rb 0 (.i x) (st rb 1 (.b y) (st rb 2 (.s z) (st rb 3 (.l t.a t.n t.c) (ld (.int .i64) rb 0 λa=>ld .bool rb 1 λb=>ld .str rb 2 λc=>ld .slc rb 3 λd=>K a b c d)))) w'):=by
 refine Calls.mono hC λe_ w ⟨v,he,e,h,x,sl,gone,rm',now',X',hv,hD,hs⟩=>⟨e,h,x,sl,by rw[he,hv],?_⟩;exact HG hs λw hs=>hK e h x sl gone rm' now' X' w hD (by exact Ab.fin hs)
theorem Ayb{b1 b2 b3:Nat}(hk:o.kind<=0\/10<=o.kind)(hs:Ab W w (fnB b3::JO b2::F4 b1 o::Hr b k rm now X::M)):Ei Bg (Rj b k rm now X o W M) (some ⟨b,0,none⟩) b1 0 b2 0 b3 0 true w:=by
 refine jw Pe ?_;refine Al rfl ?_;refine HG (s:=⟨none,0,0⟩) hs λw hs=>?_;refine Hv (by decide) ⟨by omega,by omega,by omega,by omega,by omega,by omega⟩ ?_;obtain⟨sl,p,ch,Ls,hi,hX,hl,hn,hs⟩:=CJ (b:=b) (k:=k) (rm:=rm) (now:=now) (X:=X) (M:=M) (by exact Ab.fin hs);exact Cg (sl:=sl) (p:=p) (ch:=ch) (m1:=k) (m2:=k) (m3:=600000*k) hi hX (by omega) (by omega) (by omega) hs
theorem TK{b1 b2 b3:Nat}(hk:1<=o.kind/\o.kind<=9)(hz:o.key.size<4611686018427387904)(hb:k<1000000)(hs:Ab W w (fnB b3::JO b2::F4 b1 o::Hr b k rm now X::M)):Ei Bg (Rj b k rm now X o W M) (some ⟨b,0,none⟩) b1 0 b2 0 b3 0 false w:=by
 refine jw Pe ?_;refine Ac rfl ?_;refine jw Zt ?_;refine Ak [F4 b1 o,fnB b3] hs λw hs=>?_;refine Ar (x:=o.kind) ?_;refine Ax (by omega) ?_;have hs:Ab W w (Hr b k rm now X::JO b2::fnB b3::F4 b1 o::M):=by exact Ab.fin hs
 have hc:o.kind=1\/o.kind=2\/o.kind=3\/o.kind=4\/o.kind=5\/o.kind=6\/o.kind=7\/o.kind=8\/o.kind=9:=by omega
 rcases hc with h|h|h|h|h|h|h|h|h
 ·refine HB (i:=1) rfl (by rw[h];rfl) ?_;refine Ag hs (Ag hs (Ag hs (Ag hs (Af hs ?_))));exact KG (A12 h hz hb hs) λe h x sl gone rm' now' X' w hD hs=>⟨e,h,x,sl,gone,rm',now',X',rfl,hD,by exact Ab.fin hs⟩
 ·refine HB (i:=2) rfl (by rw[h];rfl) ?_;refine Ag hs (Ag hs (Ag hs (Ag hs (Af hs ?_))));exact KG (A13 h hz hb hs) λe h x sl gone rm' now' X' w hD hs=>⟨e,h,x,sl,gone,rm',now',X',rfl,hD,by exact Ab.fin hs⟩
 ·refine HB (i:=3) rfl (by rw[h];rfl) ?_;refine Ag hs (Ag hs (Ag hs (Ag hs (Af hs ?_))));exact KG (Anr h hz hb hs) λe h x sl gone rm' now' X' w hD hs=>⟨e,h,x,sl,gone,rm',now',X',rfl,hD,by exact Ab.fin hs⟩
 ·refine HB (i:=4) rfl (by rw[h];rfl) ?_;refine Ag hs (Ag hs (Ag hs (Ag hs (Af hs ?_))));exact KG (Az3 h hb hs) λe h x sl gone rm' now' X' w hD hs=>⟨e,h,x,sl,gone,rm',now',X',rfl,hD,by exact Ab.fin hs⟩
 ·refine HB (i:=5) rfl (by rw[h];rfl) ?_;refine Ag hs (Ag hs (Ag hs (Ag hs (Af hs ?_))));exact KG (Avu h hb hs) λe h x sl gone rm' now' X' w hD hs=>⟨e,h,x,sl,gone,rm',now',X',rfl,hD,by exact Ab.fin hs⟩
 ·refine HB (i:=6) rfl (by rw[h];rfl) ?_;refine Ag hs (Ag hs (Ag hs (Ag hs (Af hs ?_))));exact KG (Az2 h hb hs) λe h x sl gone rm' now' X' w hD hs=>⟨e,h,x,sl,gone,rm',now',X',rfl,hD,by exact Ab.fin hs⟩
 ·refine HB (i:=7) rfl (by rw[h];rfl) ?_;refine Ag hs (Ag hs (Ag hs (Ag hs (Af hs ?_))));exact KG (Avv h hb hs) λe h x sl gone rm' now' X' w hD hs=>⟨e,h,x,sl,gone,rm',now',X',rfl,hD,by exact Ab.fin hs⟩
 ·refine HB (i:=8) rfl (by rw[h];rfl) ?_;refine Ag hs (Ag hs (Ag hs (Ag hs (Af hs ?_))));exact KG (Avw h hb hs) λe h x sl gone rm' now' X' w hD hs=>⟨e,h,x,sl,gone,rm',now',X',rfl,hD,by exact Ab.fin hs⟩
 ·refine HB (i:=9) rfl (by rw[h];rfl) ?_;refine Ag hs (Ag hs (Ag hs (Ag hs (Af hs ?_))));exact KG (Ant h hb hs) λe h x sl gone rm' now' X' w hD hs=>⟨e,h,x,sl,gone,rm',now',X',rfl,hD,by exact Ab.fin hs⟩
theorem Afo(hz:o.key.size<4611686018427387904)(hb:k<1000000)(hs:Ab W w (Hr b k rm now X::M)):Ba PR 15 #[pq b 0,.agg #[.i o.kind,.s o.key,.s o.val,.i o.n]] w (Rj b k rm now X o W M):=by
 refine cw ⟨mixed,Tryz.func15,rfl⟩ Aq9 ?_;refine Ai hs λb1 w hs=>Ai hs λb2 w hs=>?_;refine Ac rfl ?_;refine Ai hs λb3 w hs=>?_
 iterate 10 refine A4 hs λw hs=>?_
 have hs:Ab W w (fnB b3::JO b2::F4 b1 o::Hr b k rm now X::M):=hs;refine Ag hs ?_
 with_reducible refine Az (λh1=>?_) (λh1=>?_)
 ·exact Ayb (.inl (by omega)) hs
 refine Ag hs ?_
 with_reducible refine Az (λh2=>?_) (λh2=>?_)
 ·exact Ayb (.inr (by omega)) hs
 refine Ag (x:=o.kind) hs ?_;refine Ax (by omega) ?_;have hc:o.kind=0\/o.kind=1\/o.kind=2\/o.kind=3\/o.kind=4\/o.kind=5\/o.kind=6\/o.kind=7\/o.kind=8\/o.kind=9:=by omega
 rcases hc with h|h|h|h|h|h|h|h|h|h
 ·exact Az7 hs (by rw[h];rfl) (Ayb (.inl (by omega)) hs)
 ·exact K5 (i:=1) hs rfl (by rw[h];rfl) (TK (by omega) hz hb hs)
 ·exact K5 (i:=2) hs rfl (by rw[h];rfl) (TK (by omega) hz hb hs)
 ·exact K5 (i:=3) hs rfl (by rw[h];rfl) (TK (by omega) hz hb hs)
 ·exact K5 (i:=4) hs rfl (by rw[h];rfl) (TK (by omega) hz hb hs)
 ·exact K5 (i:=5) hs rfl (by rw[h];rfl) (TK (by omega) hz hb hs)
 ·exact K5 (i:=6) hs rfl (by rw[h];rfl) (TK (by omega) hz hb hs)
 ·exact K5 (i:=7) hs rfl (by rw[h];rfl) (TK (by omega) hz hb hs)
 ·exact K5 (i:=8) hs rfl (by rw[h];rfl) (TK (by omega) hz hb hs)
 ·exact K5 (i:=9) hs rfl (by rw[h];rfl) (TK (by omega) hz hb hs)
end
end Go.Proofs.YtjipofkjmmpjdaaGreat
namespace Go.Hb
inductive TD (rm now:Int) (X:List Sh):List MS->List Ans->Int->Int->List Sh->Prop
 | nil:TD rm now X [] [] rm now X
 | snoc {os:List MS} {rs:List Ans} {rm1 now1 rm2 now2:Int} {X1 X2:List Sh} {o:MS} {a:Ans}:TD rm now X os rs rm1 now1 X1->MQ rm1 now1 X1 o a.err a.hit a.val a.gone rm2 now2 X2->(∀z∈X2,Go.Proofs.YtjipofkjmmpjdaaGreat.Ad4 rm2 z.1)->TD rm now X (os++[o]) (rs++[a]) rm2 now2 X2
abbrev gsl(a:Ans):HP:=recs Am.str a.sl a.gone
theorem TD.len{rm now:Int}{X:List Sh}{os:List MS}{rs:List Ans}{rm1 now1:Int}{X1:List Sh}(h:TD rm now X os rs rm1 now1 X1):rs.length=os.length:=by
 induction h with
 | nil=>rfl
 | snoc _ _ _ ih=>simp[ih]
theorem Aa0{W:World}{s:Sl}{α:Type}{E:Am α}{rows:List α}{n c:Nat}(h:Dc W s E rows)(hn:n<=rows.length):Dc W ⟨Hk s.a 0 s.c E.sz,n,c⟩ E (rows.take n):=by
 refine⟨by simp;omega,?_⟩;have hl:=h.len;rcases h.at_ with⟨h1,h2⟩|⟨b,o,h1,h2⟩
 ·exact .inl ⟨by unfold Hk;rw[h1];simp,show n=0 by omega⟩
 ·refine .inr ⟨b,o,?_,λi j a ha hj=>?_⟩
  ·show Hk s.a 0 s.c E.sz=_;unfold Hk;rw[h1];split <;> simp[VC]
  ·rw[List.getElem?_take] at ha;split at ha
   ·exact h2 i j a ha hj
   ·cases ha
end Go.Hb
namespace Go.Proofs.YtjipofkjmmpjdaaGreat
open Go.Hb Go.IntWalk
section
variable{W w:World}{L M:List HP}{b k n sh:Nat}{X:List Sh}{p ch:Nat}{sl:Sl}{Ls:List (Nat×Sh)}{rm now:Int}{o:MS}{key:BA}{c0 c1 c2 c3 c4 c5 c6:Int}{tp:Sl}{tape:List Int}
abbrev cfB(b:Nat)(c0 c1 c2 c3 c4 c5 c6:Int)(tp:Sl):HP:=blk b [.i c0,.i c1,.i c2,.i c3,.i c4,.i c5,.i c6,.l tp.a tp.n tp.c]
def Apr(c0 c1 c2 c3 c4 c5 c6:Int):Prop:=(1<=c0/\c0<=8)/\(1<=c1/\c1<=1024)/\(0<=c2/\c2<=256/\1<=c3/\c3<=256)/\(0<=c4/\c4<=16777216)/\(1<=c5/\c5<=256)/\0<=c6/\c6<5
abbrev Apt(c0 c1 c2 c3 c4 c5 c6:Int)(W:World)(L:List HP):VW:=λv w'=>(∃(b sh:Nat),c0=(sh:Int)/\v = .tuple #[pq b 0,.i 0]/\Ab W w' (Hr b 0 c1 0 (List.replicate sh ([],c6,none))::L))\/(¬Apr c0 c1 c2 c3 c4 c5 c6/\∃e:Int,e≠0/\v = .tuple #[.p none,.i e]/\Ab W w' L)
theorem A0g[hr:OP W L tp (Am.int .u32) tape](ht:tape.length<=1000){b1 cb:Nat}(hsh:c0=(sh:Int))(h1:1<=sh)(h8:sh<=8)(hr1:1<=c1)(hr2:c1<=1024)(hT:Ls.map (·.2)=List.replicate sh ([],c6,none))(hs:Ab W w (blk cb [.l sl.a sl.n sl.c,pq p 0,.p none,.i 0]::E9 p 0::recs Am.ptr sl (Ls.map λz=>z.1)::AJ (Ls.map (CY c1 0))::cfB b1 c0 c1 c2 c3 c4 c5 c6 tp::L)) :
  Aku Bg (Apt c0 c1 c2 c3 c4 c5 c6 W L) b1 0 cb 0 w:=by
 refine jw Zw ?_;refine Ak [cfB b1 c0 c1 c2 c3 c4 c5 c6 tp] hs λw hs=>?_;refine Ar (Ar (Ag (x:=tp) hs (Af hs ?_)));refine Ah (A06 (s:=tp) (ds:=tape) (by omega) hs) λv w ⟨tb,hv,hs⟩=>⟨_,hv,Af hs ?_⟩;refine AH (Ax6 hs) λv w h=>?_;rcases h with⟨hok,q,hv,hs⟩|⟨hno,e,he,hv,hs⟩
 ·refine⟨_,_,hv,Ac rfl ?_⟩;refine Aa (A4 hs λw hs=>?_);have hl:Ls.length=sh:=by have:=congrArg List.length hT;simpa using this
  exact .inl ⟨cb,sh,hsh,rfl,Cg (sl:=sl) (p:=p) (ch:=q) (m1:=0) (m2:=0) (m3:=0) ⟨by omega,by omega,hr1,hr2,by omega,by omega⟩ hT (by omega) (by omega) (by omega) (by exact Ab.fin hs)⟩
 ·exact⟨_,_,hv,Al (by simpa using he) (.inr ⟨λh=>hno ⟨h.2.2.2.2.2,h.2.2.2.2.1⟩,e,he,rfl,by exact Ab.fin hs⟩)⟩
theorem Axo[hr:OP W L tp (Am.int .u32) tape](ht:tape.length<=1000)(hs:Ab W w L):Ba PR 27 #[.agg #[.i c0,.i c1,.i c2,.i c3,.i c4,.i c5,.i c6,.l tp.a tp.n tp.c]] w (Apt c0 c1 c2 c3 c4 c5 c6 W L):=by
 refine cw ⟨mixed,Tryz.func27,rfl⟩ Asa ?_;refine Ai hs λb1 w hs=>?_;have bad:¬Apr c0 c1 c2 c3 c4 c5 c6->∀w:World,Ab W w (cfB b1 c0 c1 c2 c3 c4 c5 c6 tp::L)->Apt c0 c1 c2 c3 c4 c5 c6 W L (.tuple #[.p none,.i 1]) w:=λhn w hs=>.inr ⟨hn,1,by decide,rfl,hs.drop⟩;unfold Apr at bad;refine Ag hs ?_
 with_reducible refine Az (λh1=>?_) (λh1=>?_)
 ·exact bad (by omega) w hs
 refine Ag hs ?_
 with_reducible refine Az (λh2=>?_) (λh2=>?_)
 ·exact bad (by omega) w hs
 refine Ag hs ?_
 with_reducible refine Az (λh3=>?_) (λh3=>?_)
 ·exact bad (by omega) w hs
 refine Ag hs ?_
 with_reducible refine Az (λh4=>?_) (λh4=>?_)
 ·exact bad (by omega) w hs
 refine Ag hs ?_
 with_reducible refine Az (λh5=>?_) (λh5=>?_)
 ·exact bad (by omega) w hs
 refine Ag hs ?_
 with_reducible refine Az (λh6=>?_) (λh6=>?_)
 ·exact bad (by omega) w hs
 obtain⟨sh,hsh⟩:∃sh:Nat,c0=(sh:Int):=⟨c0.toNat,by omega⟩;refine jw Zv ?_;refine Ag hs (Ag hs (Ag hs ?_));refine Ah (A0l hs) λv w ⟨p,hv,hs⟩=>⟨_,hv,?_⟩;refine Ai hs λcb w hs=>?_;refine Ag hs ?_;have loop:∀(f i:Nat)(Ls:List (Nat×Sh))(sl:Sl)(w:World),i+f=sh->Ls.map (·.2)=List.replicate i ([],c6,none)->Ab W w (blk cb [.l sl.a sl.n sl.c,pq p 0,.p none,.i 0]::E9 p 0::recs Am.ptr sl (Ls.map λz=>z.1)::AJ (Ls.map (CY c1 0))::cfB b1 c0 c1 c2 c3 c4 c5 c6 tp::L) ->
   Ut Bg (Apt c0 c1 c2 c3 c4 c5 c6 W L) (f+1) b1 0 cb 0 c0 (i:Int) w:=by
  clear hs;intro f
  induction f with
  | zero=>
   intro i Ls sl w hi hT hs;rw[Pg];refine Ac (decide_eq_false (by omega)) ?_;have hi:i=sh:=by omega
   subst hi;exact A0g ht hsh (by omega) (by omega) (by omega) (by omega) hT hs
  | succ f ih=>
   intro i Ls sl w hi hT hs;rw[Pg];refine Al (decide_eq_true (by omega)) ?_
   iterate 4 refine Ag hs ?_
   refine AH (A0w hs) λv w h=>?_;rcases h with⟨hok,q,hv,hs⟩|⟨hno,e,he,hv,hs⟩
   ·refine⟨_,_,hv,Ac rfl ?_⟩;have hlen:Ls.length=i:=by have:=congrArg List.length hT;simpa using this
    refine Aa (Ag (x:=sl) hs ?_);refine Ai hs λnb w hs=>?_;refine CG (s:=sl) (a:=q) hs rfl rfl rfl rfl (by decide) (by rw[List.length_map];omega) λs5 w hs5 hs=>?_
    refine Aa (A4 hs λw hs=>?_);have hs:Ab W w (CY c1 0 (q,[],c6,none)::AJ (Ls.map (CY c1 0))::blk cb [.l s5.a s5.n s5.c,pq p 0,.p none,.i 0]::E9 p 0::recs Am.ptr s5 ((Ls.map λz=>z.1)++[q])::cfB b1 c0 c1 c2 c3 c4 c5 c6 tp::L):=by exact Ab.fin hs
    have hs:=Hf hs;rw[show(Ls.map λz=>z.1)++[q]=(Ls++[(q,(([]:TT),c6,(none:Option Nat)))]).map λz=>z.1 by simp] at hs;rw[show IntKind.wrap .i64 ((i:Int)+1)=((i+1:Nat):Int) by rw[i64_in _ (by omega)];omega]
    exact ih (i+1) (Ls++[(q,(([]:TT),c6,(none:Option Nat)))]) s5 w (by omega) (by rw[List.map_append,hT,List.replicate_succ'];rfl) (by exact Ab.fin hs)
   ·exact⟨_,_,hv,Al (by simpa using he) (.inr ⟨λh=>hno ⟨h.2.1,h.2.2.1,h.2.2.2.2.2⟩,e,he,rfl,by exact Ab.fin hs⟩)⟩
 have hs:=Ab.nilR Am.ptr hs;have hs:=I2 (f:=CY c1 0) hs;exact AO _ (loop sh 0 [] ⟨none,0,0⟩ w (by omega) rfl (by exact Ab.fin hs))
theorem A11{ops:List MS}[hr:OP W M sl opR ops](hz:∀o∈ops,o.key.size<4611686018427387904)(hk:k+ops.length<900000)(hs:Ab W w (Hr b k rm now X::M)):Ba PR 14 #[pq b 0,.l sl.a sl.n sl.c] w λv w'=>∃(r9:Sl) (rs:List Ans) (rm' now':Int) (X':List Sh),v = .l r9.a r9.n r9.c/\TD rm now X ops rs rm' now' X'/\Ab W w' (Hr b (k+ops.length) rm' now' X'::recs Zc r9 rs::AJ (rs.map gsl)::M):=by
 refine cw ⟨mixed,Tryz.func14,rfl⟩ Aq7 ?_;have e0:sl.n=ops.length:=BE (L:=M) (rows:=ops) hs.drop;have loop:∀(f i:Nat)(rs:List Ans)(r9:Sl)(rm' now':Int)(X':List Sh)(w:World),i+f=ops.length->TD rm now X (ops.take i) rs rm' now' X'->Ab W w (Hr b (k+i) rm' now' X'::recs Zc r9 rs::AJ (rs.map gsl)::M) ->
   TY Bg (λv w'=>∃(r9:Sl) (rs:List Ans) (rm' now':Int) (X':List Sh),v = .l r9.a r9.n r9.c/\TD rm now X ops rs rm' now' X'/\Ab W w' (Hr b (k+ops.length) rm' now' X'::recs Zc r9 rs::AJ (rs.map gsl)::M)) (f+1) (some ⟨b,0,none⟩) r9 sl (sl.n:Int) (i:Int) w:=by
  clear hs;intro f
  induction f with
  | zero=>
   intro i rs r9 rm' now' X' w hi hR hs;rw[Pd];refine Ac (decide_eq_false (by omega)) ?_;refine jw Zs ?_;have hi:i=ops.length:=by omega
   subst hi;rw[List.take_length] at hR;exact⟨r9,rs,rm',now',X',rfl,hR,hs⟩
  | succ f ih=>
   intro i rs r9 rm' now' X' w hi hR hs;rw[Pd];refine Al (decide_eq_true (by omega)) ?_;refine Cn (s:=sl) (E:=opR) (rows:=ops) hs λb_ o_ ha_=>?_;refine C6 (s:=sl) (E:=opR) (rows:=ops) ha_ hs (Lp (s:=sl) (E:=opR) (rows:=ops) ha_ hs (An3 (s:=sl) (E:=opR) (rows:=ops) ha_ hs (An4 (s:=sl) (E:=opR) (rows:=ops) ha_ hs ?_ (hc:=rfl)) (hc:=rfl)) (hc:=rfl)) (hc:=rfl);rw[Int.toNat_natCast];refine Ai hs λb7 w hs=>?_;refine A4 hs λw hs=>A4 hs λw hs=>A4 hs λw hs=>A4 hs λw hs=>?_;refine Ag hs (Ag hs (Ag hs (Ag hs ?_)));have hil:i<ops.length:=by omega
   have hmem:ops.getD i default∈ops:=by rw[List.getD_eq_getElem?_getD,List.getElem?_eq_getElem hil];exact List.getElem_mem hil
   have hs:Ab W w (Hr b (k+i) rm' now' X'::recs Zc r9 rs::AJ (rs.map gsl)::M):=by exact Ab.fin hs
   refine Calls.mono (Afo (o:=ops.getD i default) (hz _ hmem) (by omega) hs) λe_ w ⟨v,he,e,h,x,sg,gone,rm2,now2,X2,hv,hD,hs⟩=>⟨e,h,x,sg,by rw[he,hv],?_⟩;have hok2:=Jr hs;refine Ai hs λnb w hs=>?_
   have hlen:=hR.len;rw[List.length_take] at hlen;refine CG (s:=r9) (a:=(⟨e,h,x,sg,gone⟩:Ans)) hs rfl rfl rfl rfl (by decide) (by omega) λs5 w hs5 hs=>?_;have hs:Ab W w (gsl ⟨e,h,x,sg,gone⟩::AJ (rs.map gsl)::Hr b (k+i+1) rm2 now2 X2::recs Zc s5 (rs++[⟨e,h,x,sg,gone⟩])::M):=by exact Ab.fin hs
   have hs:=Hf hs;rw[show IntKind.wrap .i64 ((i:Int)+1)=((i+1:Nat):Int) by rw[i64_in _ (by omega)];omega]
   refine ih (i+1) _ s5 rm2 now2 X2 w (by omega) ?_ (by exact Ab.fin hs);rw[Cc hil];have e1:ops.getD i default=ops[i]:=by rw[List.getD_eq_getElem?_getD,List.getElem?_eq_getElem hil];rfl
   rw[<- e1];exact .snoc hR hD λz hz=>(hok2.2 z hz).1
 have hs:Ab W w (recs Zc ⟨none,0,0⟩ []::Hr b k rm now X::M):=Ab.nilR Zc hs;have hs:=I2 (f:=gsl) hs;exact AO _ (loop ops.length 0 [] ⟨none,0,0⟩ rm now X w (by omega) .nil (by exact Ab.fin hs))
end
end Go.Proofs.YtjipofkjmmpjdaaGreat
namespace Go.Hb
open Go.Proofs.YtjipofkjmmpjdaaGreat
theorem Awi{rm now:Int}{X:List Sh}{o u:MS}{e:Int}{h:Bool}{x:BA}{g:BL}{rm1 now1:Int}{X1:List Sh}{e2:Int}{h2:Bool}{x2:BA}{g2:BL}{rm2 now2:Int}{X2:List Sh}
  (hX:∀z∈X,Ad4 rm z.1) (k1:o.kind=2) (k2:u.kind=1) (hu:u.key=o.key) (ht:Fx o.key o.val now o.n=0) (hp:MQ rm now X o e h x g rm1 now1 X1) (hg:MQ rm1 now1 X1 u e2 h2 x2 g2 rm2 now2 X2):e=0/\e2=0/\h2=true/\x2=o.val:=by
 obtain⟨hk,hv,hn0,hn1,hl0,hl1⟩:=KR ht;have hm0:Jc u.key now=0:=by
  unfold Jc;rw[hu,if_neg (by rw[hk];simp),if_neg (by omega)]
 cases hp with
 | no he hN=>exact absurd ht (hN.n2 k1)
 | @put T kd p q g _ _ hT ho hnd hsub hng=>
  have hlt:=(List.getElem?_eq_some_iff.1 hT).1;have hok:=(hX _ (List.mem_of_getElem? hT)).tok;refine⟨rfl,?_⟩;cases hg with
  | no he hN=>exact absurd hm0 (hN.n1 k2)
  | @get T2 kd2 p2 q2 _ _ hT2 ho2=>
   refine⟨rfl,?_⟩;rw[List.length_set,hu,List.getElem?_set_self hlt] at hT2;simp only[Option.some.injEq,Prod.mk.injEq] at hT2;obtain⟨rfl,_,_⟩:=hT2;have hm:AC (Hn (AB (BW T o.key now) g) o.key o.val now o.n) o.key=some (o.val,Hm now o.n):=by
    unfold Hn;rw[if_pos ht,US (Eg (T4 hok)).rise,if_pos rfl]
   have hov:MN (Hm now o.n) now=false:=by
    unfold MN Hm;refine decide_eq_false λh=>?_;split at h <;> omega
   rw[hu];unfold FW;rw[hm];simp[hov]
  | put h1=>omega
  | del h1=>omega
  | tick h1=>omega
  | drain h1=>omega
  | step h1=>omega
  | epoch h1=>omega
  | force h1=>omega
  | res h1=>omega
 | get h1=>omega
 | del h1=>omega
 | tick h1=>omega
 | drain h1=>omega
 | step h1=>omega
 | epoch h1=>omega
 | force h1=>omega
 | res h1=>omega
end Go.Hb
namespace Go.Proofs.YtjipofkjmmpjdaaGreat
open Go.Hb Go.IntWalk
section
variable{W w:World}{L M:List HP}{s0 r9 tp:Sl}{ops:List MS}{rs:List Ans}{tape:List Int}{c0 c1 c2 c3 c4 c5 c6:Int}{b n:Nat}{rm now:Int}{X:List Sh}
theorem Apl(hs:Ab W w L):Ba PR 10 #[.agg #[.i c0,.i c1,.i c2,.i c3,.i c4,.i c5,.i c6,.l tp.a tp.n tp.c]] w λv w'=>∃t:Bool,v = .b t/\(t=true->tp.n<=100/\c1<=64)/\Ab W w' L:=by
 refine cw ⟨mixed,Tryz.func10,rfl⟩ Aqj ?_;refine Ai hs λb1 w hs=>?_;refine Ag hs ?_
 with_reducible refine Az (λh1=>?_) (λh1=>?_)
 rotate_left
 ·exact⟨false,rfl,(λh=>by cases h),hs.drop⟩
 refine Ag hs ?_
 with_reducible refine Az (λh2=>?_) (λh2=>?_)
 rotate_left
 ·exact⟨false,rfl,(λh=>by cases h),hs.drop⟩
 refine Ag hs ?_
 with_reducible refine Az (λh3=>?_) (λh3=>?_)
 rotate_left
 ·exact⟨false,rfl,(λh=>by cases h),hs.drop⟩
 refine Ag (x:=tp) hs ?_;exact⟨_,rfl,λh=>by have:=of_decide_eq_true h;omega,hs.drop⟩
def Ahj(ops:List MS):Prop:=∀i,i<ops.length->i<150->(ops.getD i default).key.size<=40
set_option maxRecDepth 100000 in
theorem YN[hr:OP W L s0 opR ops](hs:Ab W w L):Ba PR 9 #[.l s0.a s0.n s0.c] w λv w'=>∃b:Bool,v = .b b/\(b=false->Ahj ops)/\Ab W w' L:=by
 refine cw ⟨mixed,Tryz.func9,rfl⟩ Azs ?_;obtain⟨N,hN⟩:∃N:Nat,N=151:=⟨_,rfl⟩;have loop:∀(m i:Nat)(w:World),i+m=N->(∀j,j<i->j<ops.length->(ops.getD j default).key.size<=40)->Ab W w L->Ac4 Bg (λv w'=>∃b:Bool,v = .b b/\(b=false->Ahj ops)/\Ab W w' L) (m+1) s0 (i:Int) w:=by
  intro m
  induction m with
  | zero=>
   intro i w hi hp hs;have hn:=BE (s:=s0) hs;rw[SI]
   with_reducible refine Az (λh1=>?_) (λh1=>?_)
   ·with_reducible refine Dg (λh2=>absurd h2 (by omega)) (λh2=>?_)
    refine jw IF ?_;exact⟨_,rfl,λ_ j hj hj2=>hp j (by omega) hj,hs⟩
   ·refine jw IF ?_;exact⟨_,rfl,λ_ j hj hj2=>hp j (by omega) hj,hs⟩
  | succ m ih=>
   intro i w hi hp hs;have hn:=BE (s:=s0) hs;rw[SI]
   with_reducible refine Az (λh1=>?_) (λh1=>?_)
   ·with_reducible refine Az (λh2=>?_) (λh2=>?_)
    ·refine jw Afk ?_
     repeat (first|((with_reducible refine A3 ?_);first|refine Lp ha_ hs ?_|fail)|((with_reducible refine B0 ?_);first|refine Cn hs λb_ o_ ha_=>?_|fail)|fail)
     rw[Int.toNat_natCast]
     with_reducible refine Az (λh3=>?_) (λh3=>?_)
     ·exact⟨_,rfl,(λh=>by cases h),hs⟩
     ·repeat (first|((with_reducible refine A3 ?_);first|refine Lp ha_ hs ?_|fail)|((with_reducible refine B0 ?_);first|refine Cn hs λb_ o_ ha_=>?_|fail)|fail)
      with_reducible refine Az (λh4=>?_) (λh4=>?_)
      ·exact⟨_,rfl,(λh=>by cases h),hs⟩
      rw[i64_in _ (by omega)];refine ih (i+1) w (by omega) (λj hj hj2=>?_) hs
      by_cases hji:j=i
      ·subst hji;omega
      ·exact hp j (by omega) hj2
    ·refine jw IF ?_;exact⟨_,rfl,λ_ j hj hj2=>hp j (by omega) hj,hs⟩
   ·refine jw IF ?_;exact⟨_,rfl,λ_ j hj hj2=>hp j (by omega) hj,hs⟩
 refine⟨N+1,?_⟩;exact loop N 0 w (by omega) (λj hj=>by omega) hs
abbrev A2w(c0 c1 c6:Int)(W:World)(L:List HP):VW:=λv w'=>(∃(b sh:Nat),c0=(sh:Int)/\v = .tuple #[pq b 0,.b true]/\Ab W w' (Hr b 0 c1 0 (List.replicate sh ([],c6,none))::L))\/(v = .tuple #[.p none,.b false]/\Ab W w' L)
theorem Apj[hr:OP W L tp (Am.int .u32) tape](ht:tape.length<=1000)(hs:Ab W w L):Ba PR 13 #[.agg #[.i c0,.i c1,.i c2,.i c3,.i c4,.i c5,.i c6,.l tp.a tp.n tp.c]] w (A2w c0 c1 c6 W L):=by
 refine cw ⟨mixed,Tryz.func13,rfl⟩ Aqy ?_;refine Ai hs λb1 w hs=>?_
 iterate 7 refine Ag hs ?_
 refine Ag (x:=tp) hs ?_;refine AH (Axo ht hs) λv w h=>?_;rcases h with⟨b,sh,hsh,hv,hs⟩|⟨hno,e,he,hv,hs⟩
 ·exact⟨_,_,hv,Ac rfl (.inl ⟨b,sh,hsh,rfl,by exact Ab.fin hs⟩)⟩
 ·exact⟨_,_,hv,Al (by simpa using he) (.inr ⟨rfl,hs.drop⟩)⟩
theorem Apk(hs:Ab W w L):Ba PR 12 #[] w λv w'=>v = .b true/\Ab W w' L:=by
 refine cw ⟨mixed,Tryz.func12,rfl⟩ Aqt ?_;have hs:=Ab.nilR (Am.int .u32) hs;refine AH (Axo (tp:=⟨none,0,0⟩) (tape:=[]) (by simp) hs) λv w h=>?_;rcases h with⟨b,sh,hsh,hv,hs⟩|⟨hno,e,he,hv,hs⟩
 rotate_left
 ·exact absurd (by unfold Apr;omega) hno
 refine⟨_,_,hv,Ac rfl (Ac rfl ?_)⟩;refine jw Zr ?_;have hok:=Jr hs;refine Calls.mono (Afo (o:=⟨2,QE,QF,0⟩) (by decide) (by decide) hs) λe_ w ⟨v,he,e,h,x,sg,gone,rm2,now2,X2,hv,hD,hs⟩=>⟨e,h,x,sg,by rw[he,hv],?_⟩;refine Calls.mono (Afo (o:=⟨1,QE,⟨#[]⟩,0⟩) (by decide) (by decide) hs) λe_ w ⟨v,he,e2,h2,x2,sg2,gone2,rm3,now3,X3,hv,hD2,hs⟩=>⟨e2,h2,x2,sg2,by rw[he,hv],?_⟩;have hk:Fx QE QF 0 0=0:=by decide +kernel
 obtain⟨_,rfl,rfl,rfl⟩:=Awi (o:=⟨2,QE,QF,0⟩) (u:=⟨1,QE,⟨#[]⟩,0⟩) (λz hz=>(hok.2 z hz).1) rfl rfl rfl hk hD hD2;refine Ai hs λb1 w hs=>?_;refine A4 hs λw hs=>A4 hs λw hs=>A4 hs λw hs=>A4 hs λw hs=>?_;refine Ag hs (Al rfl ?_);refine Ag hs ?_;refine Al (show sEq QF QF=true by decide +kernel) ?_;exact Ag hs ⟨rfl,by exact Ab.fin hs⟩
end
end Go.Proofs.YtjipofkjmmpjdaaGreat
namespace Go.Hb
open Go.Proofs.YtjipofkjmmpjdaaGreat
section
variable{rm now rm' now':Int}{X X':List Sh}{o:MS}{e:Int}{h:Bool}{v:BA}{gone:BL}{key:BA}
theorem VM{T:TT}{g:BL}{k:BA}:Eo (AB T g) k=AB T (g++[k]):=by unfold AB;rw[List.foldl_append];rfl
theorem OK{i:Nat}{z z':Sh}{P:Sh->Sh->Prop}(hi:X[i]? = some z)(hp:P z z')(hs:∀y,P y y):(X.set i z').length=X.length/\∀(j:Nat)(y:Sh),X[j]? = some y->∃y',(X.set i z')[j]? = some y'/\P y y':=by
 have hlt:=(List.getElem?_eq_some_iff.1 hi).1;refine⟨by rw[List.length_set],λj y hj=>?_⟩
 by_cases hij:j=i
 ·subst hij;rw[hi] at hj;cases hj;exact⟨z',by rw[List.getElem?_set_self hlt],hp⟩
 ·exact⟨y,by rw[List.getElem?_set_ne (λh=>hij h.symm)];exact hj,hs y⟩
def A2y(n:Nat)(now:Int)(o:MS)(i:Nat)(z z':Sh):Prop:=(∃g,z'.1=AB z.1 g)\/(o.kind=2/\i=Bv n o.key/\Fx o.key o.val now o.n=0/\∃g,z'.1=Hn (AB z.1 g) o.key o.val now o.n)
theorem MQ.tab(hD:MQ rm now X o e h v gone rm' now' X'):X'.length=X.length/\∀(i:Nat)(z:Sh),X[i]? = some z->∃z',X'[i]? = some z'/\A2y X.length now o i z z':=by
 have same:∀z:Sh,∃g,z.1=AB z.1 g:=λz=>⟨[],rfl⟩;cases hD with
 | no he hN=>exact⟨rfl,λi z hz=>⟨z,hz,.inl (same z)⟩⟩
 | @get T kd p q hk hm hT ho=>
  have h1:=OK (P:=λz z'=>∃g,z'.1=AB z.1 g) hT (z':=(BW T o.key now,kd,q)) ⟨_,IT T o.key now⟩ same;exact⟨h1.1,λi z hz=>by obtain⟨z',a,b⟩:=h1.2 i z hz;exact⟨z',a,.inl b⟩⟩
 | @put T kd p q g hk ht hT ho hnd hsub hng=>
  have hlt:=(List.getElem?_eq_some_iff.1 hT).1;refine⟨by rw[List.length_set],λi z hz=>?_⟩
  by_cases hij:i=Bv X.length o.key
  ·subst hij;rw[hT] at hz;cases hz;refine⟨_,List.getElem?_set_self hlt,.inr ⟨hk,rfl,ht,CF T o.key now++g,?_⟩⟩;show Hn (AB (BW T o.key now) g) o.key o.val now o.n=_;rw[IT];unfold AB;rw[List.foldl_append]
  ·exact⟨z,by rw[List.getElem?_set_ne (λh=>hij h.symm)];exact hz,.inl (same z)⟩
 | @del T kd p q hk hm hT ho=>
  have h1:=OK (P:=λz z'=>∃g,z'.1=AB z.1 g) hT (z':=(Eo (BW T o.key now) o.key,kd,q)) ⟨_,by show Eo (BW T o.key now) o.key=_;rw[IT,VM]⟩ same;exact⟨h1.1,λi z hz=>by obtain⟨z',a,b⟩:=h1.2 i z hz;exact⟨z',a,.inl b⟩⟩
 | tick hk h0 h1 hF=>exact⟨hF.len.symm,λi z hz=>by obtain⟨z',a,b⟩:=hF.get hz;exact⟨z',a,.inl ⟨_,b.1⟩⟩⟩
 | @drain h i T kd p q hk hn hT ho=>
  have h1:=OK (P:=λz z'=>∃g,z'.1=AB z.1 g) hT (z':=(T,kd,q)) (same _) same;exact⟨h1.1,λi z hz=>by obtain⟨z',a,b⟩:=h1.2 i z hz;exact⟨z',a,.inl b⟩⟩
 | @step h v i T kd p q hk hn hT ho hle=>
  have h1:=OK (P:=λz z'=>∃g,z'.1=AB z.1 g) hT (z':=(T,kd,Qn q)) (same _) same;exact⟨h1.1,λi z hz=>by obtain⟨z',a,b⟩:=h1.2 i z hz;exact⟨z',a,.inl b⟩⟩
 | epoch hk hkd hF=>
  rcases hF with rfl|hF
  ·exact⟨rfl,λi z hz=>⟨z,hz,.inl (same z)⟩⟩
  ·exact⟨hF.len.symm,λi z hz=>by obtain⟨z',a,b⟩:=hF.get hz;exact⟨z',a,.inl ⟨[],b.1⟩⟩⟩
 | force hk hkd hF=>exact⟨hF.len.symm,λi z hz=>by obtain⟨z',a,b⟩:=hF.get hz;exact⟨z',a,.inl ⟨[],b.1⟩⟩⟩
 | res hk h1 h2 hF=>exact⟨hF.len.2.symm,λi z hz=>by obtain⟨g,z',a,c,b⟩:=hF.get hz;exact⟨z',c,.inl ⟨g,by rw[b.2.2]⟩⟩⟩
def KZ(key:BA)(X:List Sh):Prop:=∀z,X[Bv X.length key]? = some z->AC z.1 key=none
theorem HR{T:TT}{g:BL}(hr:BR T)(hn:AC T key=none):AC (AB T g) key=none:=by
 by_cases hg:key∈g
 ·exact(FL hr).1 hg
 ·rw[(FL hr).2 hg];exact hn
theorem MQ.absent(hX:∀z∈X,Ad4 rm z.1)(hD:MQ rm now X o e h v gone rm' now' X')(ha:KZ key X)(hk:o.kind=2->o.key≠key):KZ key X':=by
 obtain⟨hl,ht⟩:=hD.tab;intro z' hz';rw[hl] at hz';have hlt:Bv X.length key<X.length:=by have:=(List.getElem?_eq_some_iff.1 hz').1;omega
 obtain⟨z2,h2,h3⟩:=ht _ _ (List.getElem?_eq_getElem hlt);rw[hz'] at h2;cases h2;have hz:=ha _ (List.getElem?_eq_getElem hlt);have hr:=(hX _ (List.getElem_mem hlt)).tok;rcases h3 with⟨g,hg⟩|⟨h2,_,ht,g,hg⟩
 ·rw[hg];exact HR hr.rise hz
 ·rw[hg];unfold Hn;rw[if_pos ht,US (Eg hr).rise,if_neg (hk h2)];exact HR hr.rise hz
theorem MQ.del_absent(hX:∀z∈X,Ad4 rm z.1)(hk:o.kind=3)(hD:MQ rm now X o 0 h v gone rm' now' X'):KZ o.key X':=by
 cases hD with
 | no he hN=>exact absurd rfl he
 | @del T kd p q hk hm hT ho=>
  have hlt:=(List.getElem?_eq_some_iff.1 hT).1;have hr:=(hX _ (List.mem_of_getElem? hT)).tok;intro z hz;rw[List.length_set,List.getElem?_set_self hlt] at hz;cases hz;show AC (Eo (BW T o.key now) o.key) o.key=none;rw[Kt (T4 hr).rise,if_pos rfl]
 | get h1=>omega
 | put h1=>omega
 | tick h1=>omega
 | drain h1=>omega
 | step h1=>omega
 | epoch h1=>omega
 | force h1=>omega
 | res h1=>omega
theorem MQ.get_absent(hk:o.kind=1)(ha:KZ o.key X)(hD:MQ rm now X o e h v gone rm' now' X'):h=false:=by
 cases hD with
 | no he hN=>rfl
 | @get T kd p q hk hm hT ho=>
  have:=ha _ hT;unfold FW;rw[this]
 | del h1=>omega
 | put h1=>omega
 | tick h1=>omega
 | drain h1=>omega
 | step h1=>omega
 | epoch h1=>omega
 | force h1=>omega
 | res h1=>omega
end
end Go.Hb
namespace Go.Proofs.YtjipofkjmmpjdaaGreat
open Go.Hb Go.IntWalk
section
variable{W w:World}{L M:List HP}{s0 tp:Sl}{ops:List MS}{b k:Nat}{rm now:Int}{X:List Sh}
theorem Agd(hsz:Ahj ops){i:Nat}(h:i<ops.length)(h2:i<150):(ops.getD i default).key.size<4611686018427387904:=by
 have:=hsz i h h2;omega
theorem A05{K:Sl->WP}[hr0:Dc W s0 opR ops][hO:AtO M W](hc:s0.n<=s0.c)(hsz:Ahj ops)(hs:Ab W w (Hr b 0 rm now X::M))
  (hK:∀(r9:Sl)(rs:List Ans)(n:Nat)(rm' now':Int)(X':List Sh)(w:World),n<=150->TD rm now X (ops.take n) rs rm' now' X'->Ab W w (Hr b n rm' now' X'::M)->K r9 w) :
  AY ((0:Int)<=(if (150:Int)<(s0.n:Int) then (150:Int) else (s0.n:Int))/\(if (150:Int)<(s0.n:Int) then (150:Int) else (s0.n:Int))<=(s0.c:Int)) (call1 .slc PR 14 [pq b 0,.l (Hk s0.a 0 s0.c 4) (((if (150:Int)<(s0.n:Int) then (150:Int) else (s0.n:Int))).toNat-0) (s0.c-0)] K) w:=by
 have e0:=hr0.len;obtain⟨n,hn,hn1,hn2⟩:∃n:Nat,(if (150:Int)<(s0.n:Int) then (150:Int) else (s0.n:Int))=(n:Int)/\n<=150/\n<=ops.length:=by
  by_cases h:(150:Int)<(s0.n:Int)
  ·exact⟨150,if_pos h,by omega,by omega⟩
  ·exact⟨s0.n,if_neg h,by omega,by omega⟩
 rw[hn];refine Ax (by omega) ?_;haveI:Dc W ⟨Hk s0.a 0 s0.c 4,n,s0.c⟩ opR (ops.take n):=Aa0 hr0 hn2;have hlen:(ops.take n).length=n:=by rw[List.length_take];omega
 have hz:∀o∈ops.take n,o.key.size<4611686018427387904:=λo ho=>by
  obtain⟨i,hi,rfl⟩:=List.mem_iff_getElem.1 ho;have h1:=hsz i (by omega) (by omega);rw[List.getElem_take];rw[List.getD_eq_getElem?_getD,List.getElem?_eq_getElem (by omega)] at h1;have h1:(ops[i]).key.size<=40:=h1;omega
 rw[Int.toNat_natCast,Nat.sub_zero,Nat.sub_zero];refine Ah (A11 (sl:=⟨Hk s0.a 0 s0.c 4,n,s0.c⟩) (ops:=ops.take n) hz (by omega) hs) λv w ⟨r9,rs,rm1,now1,X1,hv,hR,hs⟩=>⟨r9,hv,?_⟩;rw[hlen,Nat.zero_add] at hs;exact hK r9 rs n rm1 now1 X1 w hn1 hR (by exact Ab.fin hs)
theorem kn{Q:World->Prop}(hs:Ab W w L)(hQ:∀w,Ab W w L->Q w):call1 .bool PR 12 [] (λx w'=>(Value.bool x = .b true/\Q w')) w:=Ah (Apk hs) λv w ⟨hv,hs⟩=>⟨_,hv,rfl,hQ w hs⟩
end
end Go.Proofs.YtjipofkjmmpjdaaGreat
namespace Go.Proofs.YtjipofkjmmpjdaaGreat
open Go.Hb Go.IntWalk
section
variable{W w:World}{L M:List HP}{s0 s1 tp:Sl}{ops more:List MS}{tape:List Int}{c0 c1 c2 c3 c4 c5 c6:Int}{key:BA}{b b1:Nat}
theorem Ahz[hr1:Dc W s1 opR more][hO:AtO M W](hsz:Ahj more)(hk:key.size<=40){Q:World->Prop}(hQ:∀w k rm now X,Ab W w (Hr b k rm now X::M)->Q w) :
  ∀(f i k:Nat)(rm now:Int)(X:List Sh)(w:World),i+f=151->k=151+2*i->KZ key X->Ab W w (Hr b k rm now X::M)->SF Bg (λv w'=>v = .b true/\Q w') f.succ s1 key (some ⟨b,0,none⟩) (i:Int) w:=by
 have e1:=hr1.len;intro f;have fin:∀(k:Nat)(rm now:Int)(X:List Sh)(w:World),Ab W w (Hr b k rm now X::M)->Am0 Bg (λv w'=>v = .b true/\Q w') w:=by
  intro k rm now X w hs;refine jw Afj ?_;exact kn hs λw hs=>hQ w _ _ _ _ hs
 induction f with
 | zero=>
  intro i k rm now X w hi hk2 ha hs;rw[SG];refine Ao (λh1=>?_) (λ_=>fin _ _ _ _ w hs);refine Ao (λh2=>?_) (λ_=>fin _ _ _ _ w hs);have h2:=of_decide_eq_true h2;omega
 | succ f ih=>
  intro i k rm now X w hi hk2 ha hs;rw[SG];refine Ao (λh1=>?_) (λ_=>fin _ _ _ _ w hs);refine Ao (λh2=>?_) (λ_=>fin _ _ _ _ w hs);have h1:=of_decide_eq_true h1;have h2:=of_decide_eq_true h2;have next:∀(k:Nat)(rm now:Int)(X:List Sh)(w:World),k<=151+2*(i+1)->KZ key X->Ab W w (Hr b k rm now X::M)->SF Bg (λv w'=>v = .b true/\Q w') (f+1) s1 key (some ⟨b,0,none⟩) (IntKind.wrap .i64 ((i:Int)+1)) w:=by
   intro k rm now X w hk ha hs;rw[show IntKind.wrap .i64 ((i:Int)+1)=((i+1:Nat):Int) by rw[i64_in _ (by omega)];omega]
   obtain⟨sl,p,ch,Ls,hi2,hX,hl,hn,hs⟩:=CJ hs;exact ih (i+1) (151+2*(i+1)) rm now X w (by omega) rfl ha (Cg (sl:=sl) (p:=p) (ch:=ch) (m1:=k) (m2:=k) (m3:=600000*k) hi2 hX (by omega) (by omega) (by omega) hs)
  have hil:i<more.length:=by omega
  have j4:∀w,((more.getD i default).kind=2->(more.getD i default).key≠key)->Ab W w (Hr b k rm now X::M)->Amz Bg (λv w'=>v = .b true/\Q w') (f+1) s1 key (some ⟨b,0,none⟩) (i:Int) w:=by
   intro w hne hs;refine jw Afi ?_;refine Cn (s:=s1) (E:=opR) (rows:=more) hs λb_ o_ ha_=>?_;refine C6 (s:=s1) (E:=opR) (rows:=more) ha_ hs (Lp (s:=s1) (E:=opR) (rows:=more) ha_ hs (An3 (s:=s1) (E:=opR) (rows:=more) ha_ hs (An4 (s:=s1) (E:=opR) (rows:=more) ha_ hs ?_ (hc:=rfl)) (hc:=rfl)) (hc:=rfl)) (hc:=rfl);rw[Int.toNat_natCast];have hok:=Jr hs;refine Calls.mono (Afo (o:=more.getD i default) (Agd hsz hil (by omega)) (by omega) hs) λe_ w ⟨v,he,e,h,x,sg,gone,rm2,now2,X2,hv,hD,hs⟩=>⟨e,h,x,sg,by rw[he,hv],?_⟩;have hok2:=Jr hs;have ha2:=hD.absent (λz hz=>(hok.2 z hz).1) ha hne
   refine Calls.mono (Afo (o:=⟨1,key,⟨#[]⟩,0⟩) (by show key.size<_;omega) (by omega) hs) λe_ w ⟨v,he,e2,h2,x2,sg2,gone2,rm3,now3,X3,hv,hD2,hs⟩=>⟨e2,h2,x2,sg2,by rw[he,hv],?_⟩;have hh:h2=false:=hD2.get_absent (o:=⟨1,key,⟨#[]⟩,0⟩) rfl ha2;refine Ac hh ?_;refine next (k+1+1) rm3 now3 X3 w (by omega) ?_ (by exact Ab.fin hs)
   exact hD2.absent (λz hz=>(hok2.2 z hz).1) ha2 (λh=>absurd h (show ¬(1:Int)=2 by decide))
  refine jw Afh ?_;refine Cn (s:=s1) (E:=opR) (rows:=more) hs λb_ o_ ha_=>?_;refine C6 (s:=s1) (E:=opR) (rows:=more) ha_ hs ?_ (hc:=rfl);rw[Int.toNat_natCast];refine Ao (λh3=>?_) (λh3=>?_)
  ·refine Cn (s:=s1) (E:=opR) (rows:=more) hs λb_ o_ ha_=>?_;refine Lp (s:=s1) (E:=opR) (rows:=more) ha_ hs ?_ (hc:=rfl);rw[Q6];refine Ao (λh4=>next k rm now X w (by omega) ha hs) (λh4=>?_);exact j4 w (λ_=>of_decide_eq_false h4) hs
  ·exact j4 w (λh=>absurd h (by simpa using h3)) hs
theorem topdeletes_walk[hr0:Dc W s0 opR ops][hr1:Dc W s1 opR more][hrt:Dc W tp (Am.int .u32) tape](hc:s0.n<=s0.c) :
  Calls PR 5 #[.agg #[.i c0,.i c1,.i c2,.i c3,.i c4,.i c5,.i c6,.l tp.a tp.n tp.c],.l s0.a s0.n s0.c,.l s1.a s1.n s1.c,.s key] W λe w'=>e = .returned (.b true)/\HW W w':=by
 have hs:=Ab.begin W;refine Az6 (cw ⟨mixed,Tryz.func5,rfl⟩ Azc ?_);have et:=hrt.len;refine Ai hs λb1 w hs=>?_;refine Ah (YN (s0:=s0) hs) λv w ⟨t,hv,hsz,hs⟩=>⟨_,hv,?_⟩;refine Ao (λh3=>⟨rfl,hs.drop⟩) (λh3=>?_);refine Ah (YN (s0:=s1) hs) λv w ⟨t,hv,hsz1,hs⟩=>⟨_,hv,?_⟩;refine Ao (λh3=>⟨rfl,hs.drop⟩) (λh4=>?_)
 iterate 7 refine Ag hs ?_
 refine Ag (x:=tp) hs ?_;refine Ah (Apl hs) λv w ⟨t,hv,ht,hs⟩=>⟨_,hv,?_⟩;refine Ao (λh5=>⟨rfl,hs.drop⟩) (λh5=>?_)
 with_reducible refine Az (λh6=>?_) (λh6=>?_)
 ·exact⟨rfl,hs.drop⟩
 refine jw Afg ?_
 iterate 7 refine Ag hs ?_
 refine Ag (x:=tp) hs ?_;have htp:=(ht (by simpa using h5)).1;refine AH (Apj (tape:=tape) (by omega) hs) λv w h=>?_;rcases h with⟨b,sh,hsh,hv,hs⟩|⟨hv,hs⟩
 rotate_left
 ·exact⟨_,_,hv,Al rfl (kn hs λw hs=>hs.drop)⟩
 refine⟨_,_,hv,Ac rfl ?_⟩;refine A05 hc (hsz h3) hs λr9 rs n rm1 now1 X1 w hn hR hs=>?_;have hok:=Jr hs;refine Calls.mono (Afo (o:=⟨3,key,⟨#[]⟩,0⟩) (by show key.size<_;omega) (by omega) hs) λe_ w ⟨v,he,e,h,x,sg,gone,rm2,now2,X2,hv,hD,hs⟩=>⟨e,h,x,sg,by rw[he,hv],?_⟩
 with_reducible refine Az (λh7=>?_) (λh7=>?_)
 ·exact kn hs λw hs=>by exact Ab.fin hs
 subst h7;have ha:=hD.del_absent (o:=⟨3,key,⟨#[]⟩,0⟩) (λz hz=>(hok.2 z hz).1) rfl;obtain⟨sl,p,ch,Ls,hi2,hX,hl,hn2,hs⟩:=CJ hs;have hs:=Cg (k:=151) (b:=b) (rm:=rm2) (now:=now2) (X:=X2) (sl:=sl) (p:=p) (ch:=ch) (m1:=n+1) (m2:=n+1) (m3:=600000*(n+1)) (M:=[cfB b1 c0 c1 c2 c3 c4 c5 c6 tp,old W]) hi2 hX (by omega) (by omega) (by omega) (by exact Ab.fin hs);exact AO _ (Ahz (hsz1 h4) (by omega) (λw k rm now X hs=>hs.drop.drop) 151 0 151 rm2 now2 X2 w (by omega) rfl ha hs)
end
end Go.Proofs.YtjipofkjmmpjdaaGreat
namespace Go.Hb
open Go.ChangeShapes Go.WideShapes Go.RowKit
section
variable{H:Type}{enc:TypeId×Value->H}{P:Program}{W:World}{sp:Nat->Bool}{held:Bool}{base:Nat}
theorem trod_int{t e:TypeId}{k:IntKind}{cs:List Value}{x:DataW H×List MemPlace}{fuel:Nat}{v:Value}{r:Reach}{b0:Nat}(hcs:cs=[v])(hok:Cell.okWide P W r b0 t v)(ht:P.underlying t=some (.slice e))(he:P.underlying e=some (.int k))(h1:P.cellsOf e=1)(hx:DataW.trod enc P W base sp held fuel t cs=some x)(hlt:HQ P t x.1) :
  ∃(s:Sl) (l:List Int),v = .slice s.a s.n s.c/\Dc W s (Am.int k) l:=by
 rcases DataW.trod_slice ht hx with⟨h,_⟩|⟨a',len',cap',elems,rest,n,rfl,h,hd',_,hlc,hcm,hel,hcell,_,_⟩
 ·rw[hcs] at h;simp only[List.cons.injEq,and_true] at h;exact⟨⟨none,0,0⟩,[],h,⟨rfl,.inl ⟨rfl,rfl⟩⟩⟩
 ·subst hd';rw[hcs] at h;simp only[List.cons.injEq,and_true] at h;subst h;have hspot:a'.spot=none:=by
   simp only[ht,Cell.okWide,Cell.ok] at hok;exact hok.2.2.2.1
  have hle:∀y∈elems,HQ P e y.1:=λy hy=>Lq (P:=P) (e:=e) (ds:=elems.map (·.1)) (λn hn=>hlt n (by simp only[DataW.weights,ht,List.mem_cons,List.mem_append];exact .inr (.inl hn))) (List.mem_map.2 ⟨y,hy,rfl⟩);obtain⟨rows,hr1,hr2,hr3⟩:=Apb (W:=W) (base:=base) (Q:=DL [.int k]) (a:=a') (m:=1) (len:=len') (cap:=cap') Nat.one_pos λi hi=>by
   have h2:=hcell i hi;rw[List.getElem?_eq_getElem (by omega)] at h2;simp only[Option.bind_eq_some_iff] at h2;obtain⟨c,hc,hx⟩:=h2;rw[h1] at hc;exact⟨c,hc,XY 9 e _ c (by unfold SJ;rw[he]) ⟨_,_,hx,hle _ (List.getElem_mem _)⟩⟩
  obtain⟨l,h3,h4,h5⟩:=Qy (Am.int k) (okK k) A2f hr2;refine⟨⟨some a',len',cap'⟩,l,rfl,?_⟩;rcases hr3 with h6|h6
  ·have:l=[]:=List.length_eq_zero_iff.1 (by omega);subst this;obtain⟨b,o,spot⟩:=a';simp only at hspot;subst hspot;exact⟨h6,.inr ⟨b,o,rfl,λi j a ha=>by simp at ha⟩⟩
  ·exact Dc.of Nat.one_pos (by rw[<- h3];exact h6)
theorem open_cfg{t t0 t7 e7:TypeId}{v:Value}{d:DataW H}{ps:List MemPlace}{r:Reach}{b0:Nat}(ht:Axm P t=true)(hfs:stF P t=[(t0,0),(t0,1),(t0,2),(t0,3),(t0,4),(t0,5),(t0,6),(t7,7)])
  (h0:P.underlying t0=some (.int .i64)) (h7:P.underlying t7=some (.slice e7)) (he:P.underlying e7=some (.int .u32)) (hce:P.cellsOf e7=1) (hc0:P.cellsOf t0=1) (hc7:P.cellsOf t7=1) (hct:P.cellsOf t=8) (hcell:P.cellTypes P.depth t=some [t0,t0,t0,t0,t0,t0,t0,t7])
  (hval:Value.okWide P W r b0 t v) (hd:DataW.Trod enc P W base sp held t v d ps) (hlt:HQ P t d) :
  ∃(c0 c1 c2 c3 c4 c5 c6:Int) (s:Sl) (l:List Int),v = .agg #[.int .i64 c0,.int .i64 c1,.int .i64 c2,.int .i64 c3,.int .i64 c4,.int .i64 c5,.int .i64 c6,.slice s.a s.n s.c]/\okK .i64 c1/\Dc W s (Am.int .u32) l:=by
 obtain⟨fs,hu⟩:∃fs,P.underlying t=some (.struct fs):=by
  unfold Axm at ht;split at ht
  ·exact⟨_,by assumption⟩
  ·cases ht
 simp only[Value.okWide,hu] at hval;obtain⟨cs,rfl,hsz,ts,hts,_,hcs⟩:=hval;rw[hcell] at hts;cases hts;obtain⟨fuel,hf⟩:=hd;obtain⟨hl,hp⟩:=Aw7 hu hf hlt;rw[hct] at hl hsz;rw[hfs] at hp;obtain⟨l,rfl⟩:∃l:List Value,cs=l.toArray:=⟨cs.toList,by simp⟩;have hl:l.length=8:=by simpa using hsz
 match l,hl with
 | [v0,v1,v2,v3,v4,v5,v6,v7],_=>
  obtain⟨f0,x0,e0,g0⟩:=hp (t0,0) (by simp);obtain⟨f1,x1,e1,g1⟩:=hp (t0,1) (by simp);obtain⟨f2,x2,e2,g2⟩:=hp (t0,2) (by simp);obtain⟨f3,x3,e3,g3⟩:=hp (t0,3) (by simp);obtain⟨f4,x4,e4,g4⟩:=hp (t0,4) (by simp);obtain⟨f5,x5,e5,g5⟩:=hp (t0,5) (by simp);obtain⟨f6,x6,e6,g6⟩:=hp (t0,6) (by simp);obtain⟨f7,x7,e7',g7⟩:=hp (t7,7) (by simp);simp only[Value.cells,hc0,hc7,List.drop_zero,List.drop_succ_cons,List.take_succ_cons,List.take_zero] at e0 e1 e2 e3 e4 e5 e6 e7';obtain⟨n0,k0,_,w0⟩:=DataW.trod_int h0 e0;obtain⟨n1,k1,_,w1⟩:=DataW.trod_int h0 e1;obtain⟨n2,k2,_,w2⟩:=DataW.trod_int h0 e2;obtain⟨n3,k3,_,w3⟩:=DataW.trod_int h0 e3
  obtain⟨n4,k4,_,w4⟩:=DataW.trod_int h0 e4;obtain⟨n5,k5,_,w5⟩:=DataW.trod_int h0 e5;obtain⟨n6,k6,_,w6⟩:=DataW.trod_int h0 e6;obtain⟨u,hu7,hok⟩:=hcs 7 v7 (by simp);have hu7:t7=u:=by simpa using hu7
  subst hu7;obtain⟨s,l,hv,hr⟩:=trod_int rfl hok h7 he hce e7' g7;simp only[List.cons.injEq,and_true] at k0 k1 k2 k3 k4 k5 k6;subst k0 k1 k2 k3 k4 k5 k6 hv;exact⟨n0,n1,n2,n3,n4,n5,n6,s,l,rfl,w1,hr⟩
end
end Go.Hb
namespace Go.Proofs.YtjipofkjmmpjdaaGreat
open Go.ChangeShapes Go.WideShapes Go.RowKit Go.ChangeMaps Go.Hb
set_option maxRecDepth 100000 in
theorem topDeletes_lifted(os:Os)(started:os.Started)(H:Type)(enc:TypeId×Value->H) :
  ReturnsInHanded {} Tryz.checked os 5 .any (Rows.topDeletesSpec.pre6 enc PR Tryz.f5 Rows.topDeletesRow.domain false) (Rows.topDeletesSpec.post enc PR Tryz.f5 false true false false):=by
 refine law_lifted (C:=Tryz.checked) (by kernel_rfl) started (by kernel_rfl) Tryz.func5
  (ChangeSpec.witness6 (enc:=enc) (C:=Tryz.checked) (s:=Rows.topDeletesSpec) false ⟨#[],#[.agg #[.i 0,.i 0,.i 0,.i 0,.i 0,.i 0,.i 0,.l none 0 0],.l none 0 0,.l none 0 0,.s ⟨#[]⟩],[]⟩ 8 (by kernel_rfl) (by kernel_rfl) (by kernel_rfl) (by kernel_rfl)) rfl rfl (by kernel_rfl) (by kernel_rfl) ?_
 intro W base args ds p hval hA hwt;obtain⟨v0,vs0,d0,ds0,p0,q0,hargs,rfl,rfl,h0,r0⟩:=trodAll_cons (ts:=[_,_,_]) hA;obtain⟨v1,vs1,d1,ds1,p1,q1,rfl,rfl,rfl,h1,r1⟩:=trodAll_cons r0;obtain⟨v2,vs2,d2,ds2,p2,q2,rfl,rfl,rfl,h2,r2⟩:=trodAll_cons r1;obtain⟨v3,vs3,d3,ds3,p3,q3,rfl,rfl,rfl,h3,r3⟩:=trodAll_cons r2;obtain⟨rfl,rfl,rfl⟩:=trodAll_nil r3;obtain rfl:args=#[v0,v1,v2,v3]:=by cases args;simp_all
 obtain⟨c0_0,c0_1,c0_2,c0_3,c0_4,c0_5,c0_6,s0,l0,rfl,w0,hr0⟩:=open_cfg (t0:=3) (t7:=22) (e7:=145) (by kernel_rfl) (by kernel_rfl) (by kernel_rfl) (by kernel_rfl) (by kernel_rfl) (by kernel_rfl) (by kernel_rfl) (by kernel_rfl) (by kernel_rfl) (by kernel_rfl) (hval 0 _ v0 rfl rfl) h0 (light_each hwt (j:=0) rfl rfl);obtain⟨s1,rows1,rfl,hn1,hm1,hr1,ho1⟩:=open_slc (e:=41) (ks:=[.int .i64,.str,.str,.int .i64]) (by kernel_rfl) (by kernel_rfl) (by kernel_rfl) (by decide) (hval 1 _ v1 rfl rfl) h1 (light_each hwt (j:=1) rfl rfl);obtain⟨l1,hr1,hl1,hw1⟩:=arg_rec opR OpOk of_op (by decide) (by decide) hr1 ho1
 have hc1:l1.length*48<=reachBytes:=by rw[hl1,<- hn1];have e:Tryz.checked.prog.bytesOf 41=48:=(by kernel_rfl);rw[e] at hm1;exact hm1
 obtain⟨s2,rows2,rfl,hn2,hm2,hr2,ho2⟩:=open_slc (e:=41) (ks:=[.int .i64,.str,.str,.int .i64]) (by kernel_rfl) (by kernel_rfl) (by kernel_rfl) (by decide) (hval 2 _ v2 rfl rfl) h2 (light_each hwt (j:=2) rfl rfl);obtain⟨l2,hr2,hl2,hw2⟩:=arg_rec opR OpOk of_op (by decide) (by decide) hr2 ho2;have hc2:l2.length*48<=reachBytes:=by rw[hl2,<- hn2];have e:Tryz.checked.prog.bytesOf 41=48:=(by kernel_rfl);rw[e] at hm2;exact hm2
 obtain⟨a3,rfl,rfl,rfl,w3⟩:=open_string (by kernel_rfl) (hval 3 _ v3 rfl rfl) h3;have z3:a3.size<=reachBytes:=by simpa using light_each hwt (j:=3) rfl rfl a3.data.toList.length (by simp[DataW.weights])
 exact⟨⟨rfl,rfl,rfl⟩,topdeletes_walk (ops:=l1) (more:=l2) (tape:=l0) (slc_cap (e:=41) (by kernel_rfl) h1)⟩
theorem topDeletes_inPlace:Program.inPlace PR 5=Rows.topDeletesRow.inPlace:=by kernel_rfl
theorem topDeletes_unf:Program.unfollowed PR 5=true:=by kernel_rfl
theorem topDeletes_rec:Program.recurses PR 5=true:=by unfold Program.recurses;rw[topDeletes_unf];rfl
theorem topDeletes_named:Program.varsNamed PR 5=Rows.topDeletesRow.named:=by kernel_rfl
theorem topDeletes_facts:joinedFacts PR 5 Tryz.f5 Rows.topDeletesSpec Rows.topDeletesRow=true:=by
 unfold joinedFacts;rw[topDeletes_inPlace,topDeletes_unf,topDeletes_rec,topDeletes_named];kernel_rfl
theorem topDeletes:Rows.TopDeletesSaid:=
 OpenClaim.holds_of_wide 5 Tryz.f5 rfl rfl rfl rfl rfl rfl rfl ⟨rfl,rfl,rfl,rfl,rfl⟩ rfl rfl rfl rfl rfl (by kernel_rfl) Tryz.func5 topDeletes_facts
  (of_decide_eq_true (by kernel_rfl)) (by unfold Func.isWrapper;first|(rw[if_pos (by decide +kernel)];kernel_rfl)|(rw[if_neg (by decide +kernel)];exact⟨rfl,rfl⟩))
  (λos started H enc _=>topDeletes_lifted os started H enc)
end Go.Proofs.YtjipofkjmmpjdaaGreat
