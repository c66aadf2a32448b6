import Derived.KernelRfl
import Derived.Test.YtjipofkjmmpjdaaGreatQTwins4
set_option linter.unusedVariables false
set_option linter.unusedSimpArgs false
set_option linter.unnecessarySimpa false
set_option linter.unusedSectionVars false
set_option maxRecDepth 100000
open Go.Proofs.Tryz
open List (replicate take_of_length_le take_append_drop map_append nodup_append length_append length_cons length_nil length_set append_nil countP_eq_zero mem_cons mem_map length_map mem_filter mem_append mem_append_left mem_append_right nodup_cons map_cons length_eq_zero_iff mem_singleton getD_eq_getElem?_getD getElem?_eq_getElem filter_append getElem_mem getElem?_map getElem?_set_ne)
open Go.IntKind (wrap wrap_u64)
open Int (tmod toNat_natCast natCast_add tdiv)
open Nat (mod_lt add_zero zero_le le_refl le_succ pow_add)
namespace Go.Hb
instance {s:Int} {k:BA} {v:Int}:N2 (C7<|Ap.int .i64) [.i s,.s k,.i v] ⟨s,k,v⟩:=⟨rfl⟩
instance {a:Pl Int} {v:Int}:Aeh (C7<|Ap.int .i64) a 2 (.i v) { a with v:=v }:=⟨rfl,by decide⟩
end Go.Hb
namespace Go.Proofs.YtjipofkjmmpjdaaGreat
open Go.Hb Go.IntWalk
section
variable{W w:World}{L M:List HP}{F:HP->List HP}{b:Nat}{seed:Int}{m:List (BA×Int)}{s:Sl}{ps:List (Pl Int)}{n1 u1:Int}
theorem Hn{st:BA->Nat}{k:BA}(E:st=A2 seed ps.length)(O:k.size<4611686018427387904)(G:0<ps.length/\ps.length<4611686018427387904)(g:∃e,e<ps.length/\B0 ps ((st k+e) % ps.length)=0)
  (hs:Ab W w (blk b [.int .u64 seed,.l s.a s.n s.c,.i n1,.i u1]::recs (C7<|Ap.int .i64) s ps::M)) :
  Ai PR 193 #[pq b 0,.s k] w λe w'=>e = .returned (.tuple #[.i ((AK st ps k).1:Int),.b (AK st ps k).2])/\Ab W w' (blk b [.int .u64 seed,.l s.a s.n s.c,.i n1,.i u1]::recs (C7<|Ap.int .i64) s ps::M):=by
 refine c1 (cw ⟨mixed,func193,rfl⟩ Arx ?_);have H:=(BE (s:=s) hs HQ.pos).1;refine An [blk b [.int .u64 seed,.l s.a s.n s.c,.i n1,.i u1]] hs λw hs=>?_
 repeat (first|with_reducible refine Aa ?_|((with_reducible refine Cm ?_);first|refine Au ?_|fail)|fail)
 refine Ao (Hl hs O) λe w ⟨p,hs⟩=>⟨_,p,?_⟩
 repeat (first|((with_reducible refine Bk ?_);first|refine Ag hs ?_|fail)|fail)
 refine Ao (GR (n:=s.n) hs (GH _ _).1 (by omega) (by omega)) λe w ⟨p,hs⟩=>⟨_,p,?_⟩;have P:(Fw seed k).toNat % s.n=A2 seed ps.length k:=by rw[H,Kw]
 rw[P];have y:∀(f:Nat)(free:Option Nat)(i:Nat)(w:World),i<ps.length->(∃e,e<f/\B0 ps ((i+e) % ps.length)=0)->Ab W w (blk b [.int .u64 seed,.l s.a s.n s.c,.i n1,.i u1]::recs (C7<|Ap.int .i64) s ps::M) ->
   Qj AU (λv w'=>v = .tuple #[.i ((AF ps k f free i).1:Int),.b (AF ps k f free i).2]/\Ab W w' (blk b [.int .u64 seed,.l s.a s.n s.c,.i n1,.i u1]::recs (C7<|Ap.int .i64) s ps::M)) f (some ⟨b,0,none⟩) k (MY free) (i:Int) w:=by
  intro f
  induction f with
  | zero=>intro free i w hi ⟨e,p,_⟩;omega
  | succ f Q=>
   intro free i w hi g hs;have R:(i+1) % ps.length<ps.length:=mod_lt _ G.1;have next:B0 ps i≠0->∃I,I<f/\B0 ps (((i+1) % ps.length+I) % ps.length)=0:=by
    obtain⟨e,p,q⟩:=g;intro r;cases e with
    | zero=>rw[add_zero,Nat.mod_eq_of_lt hi] at q;exact absurd q r
    | succ e=>exact⟨e,by omega,by rw[Ej];exact q⟩
   have F:tmod (wrap .i64<|(i:Int)+1) (s.n:Int)=(((i+1) % ps.length:Nat):Int):=by
    rw[i64_in _<|by omega,H,Int.tmod_eq_emod_of_nonneg<|by omega];simp
   have J:∀(d:Option Nat)(w:World),B0 ps i≠0->Ab W w (blk b [.int .u64 seed,.l s.a s.n s.c,.i n1,.i u1]::recs (C7<|Ap.int .i64) s ps::M)->AF ps k (f+1) free i=AF ps k f d ((i+1) % ps.length) ->
     Xc AU (λv w'=>v = .tuple #[.i ((AF ps k (f+1) free i).1:Int),.b (AF ps k (f+1) free i).2]/\Ab W w' (blk b [.int .u64 seed,.l s.a s.n s.c,.i n1,.i u1]::recs (C7<|Ap.int .i64) s ps::M)) f (some ⟨b,0,none⟩) k (MY d) (i:Int) w:=by
    intro d w r hs p;refine jw ZI ?_;rw[p]
    repeat (first|with_reducible refine Aa ?_|((with_reducible refine A7 ?_);first|refine Af hs ?_|fail)|((with_reducible refine RY ?_);first|refine ML ?_|fail)|fail)
    rw[F];exact Q d _ w R (next r) hs
   rw[ZK];have u:((i:Int)).toNat=i:=toNat_natCast i
   repeat (first|with_reducible refine Aa ?_|((with_reducible refine A7 ?_);first|refine Af hs ?_|refine Cx hs ?_|fail)|((with_reducible refine BI ?_);first|refine BO hs λT U hs=>?_|fail)|fail)
   rw[u];have D:(ps.getD i default).is_=B0 ps i:=rfl;have S:(ps.getD i default).key=DT ps i:=rfl;rw[D];have K:∀(t:Bool)(w:World)(b1 x:Nat),t=decide (B0 ps i=2/\DT ps i=k)->Ab W w (blk b [.int .u64 seed,.l s.a s.n s.c,.i n1,.i u1]::reca (C7<|Ap.int .i64) b1 x s ps::M) ->
     Xa AU (λv w'=>v = .tuple #[.i ((AF ps k (f+1) free i).1:Int),.b (AF ps k (f+1) free i).2]/\Ab W w' (blk b [.int .u64 seed,.l s.a s.n s.c,.i n1,.i u1]::recs (C7<|Ap.int .i64) s ps::M)) f (some ⟨b,0,none⟩) k (MY free) (i:Int) b1 (x+i*3) t w:=by
    intro t w b1 x z hs;refine jw ZG ?_;rw[z]
    with_reducible refine EH (λh=>?_) (λh=>?_)
    ·have A:AF ps k (f+1) free i=(i,true):=by rw[AF,if_pos h]
     rw[A];exact⟨rfl,by exact Ab.fin hs⟩
    ·repeat (first|with_reducible refine Aa ?_|((with_reducible refine A7 ?_);first|refine Cx hs ?_|fail)|fail)
     rw[D];have L:∀(t:Bool)(w:World),t=decide (B0 ps i=1/\free=none)->Ab W w (blk b [.int .u64 seed,.l s.a s.n s.c,.i n1,.i u1]::reca (C7<|Ap.int .i64) b1 x s ps::M) ->
       Xb AU (λv w'=>v = .tuple #[.i ((AF ps k (f+1) free i).1:Int),.b (AF ps k (f+1) free i).2]/\Ab W w' (blk b [.int .u64 seed,.l s.a s.n s.c,.i n1,.i u1]::recs (C7<|Ap.int .i64) s ps::M)) f (some ⟨b,0,none⟩) k (MY free) (i:Int) b1 (x+i*3) t w:=by
      intro t w z hs;refine jw ZH ?_;rw[z]
      with_reducible refine EH (λm=>?_) (λm=>?_)
      ·exact J (some i) w (by rw[m.1];decide) (by exact Ab.fin hs) (by rw[AF,if_neg h,if_pos m])
      ·repeat (first|with_reducible refine Aa ?_|((with_reducible refine A7 ?_);first|refine Cx hs ?_|fail)|fail)
       rw[D];have N:∀(t:Bool)(w:World),t=decide (B0 ps i=0/\free=none)->Ab W w (blk b [.int .u64 seed,.l s.a s.n s.c,.i n1,.i u1]::reca (C7<|Ap.int .i64) b1 x s ps::M) ->
         Xd AU (λv w'=>v = .tuple #[.i ((AF ps k (f+1) free i).1:Int),.b (AF ps k (f+1) free i).2]/\Ab W w' (blk b [.int .u64 seed,.l s.a s.n s.c,.i n1,.i u1]::recs (C7<|Ap.int .i64) s ps::M)) f (some ⟨b,0,none⟩) k (MY free) (i:Int) b1 (x+i*3) t w:=by
        intro t w z hs;refine jw ZJ ?_;rw[z]
        with_reducible refine EH (λo=>?_) (λo=>?_)
        ·have A:AF ps k (f+1) free i=(i,false):=by rw[AF,if_neg h,if_neg m,if_pos o.1,o.2];rfl
         rw[A];exact⟨rfl,by exact Ab.fin hs⟩
        ·repeat (first|with_reducible refine Aa ?_|((with_reducible refine A7 ?_);first|refine Cx hs ?_|fail)|fail)
         rw[D]
         with_reducible refine Cc (λB=>?_) (λB=>?_)
         ·have A:AF ps k (f+1) free i=(free.getD i,false):=by rw[AF,if_neg h,if_neg m,if_pos B]
          rw[A];cases free with
          | none=>exact absurd ⟨B,rfl⟩ o
          | some j=>exact⟨rfl,by exact Ab.fin hs⟩
         ·exact J free w B (by exact Ab.fin hs) (by rw[AF,if_neg h,if_neg m,if_neg B])
       with_reducible refine Cc (λo=>?_) (λo=>?_)
       ·exact N _ w (by simp[o,Hk]) (by exact Ab.fin hs)
       ·exact N _ w (by simp[o]) (by exact Ab.fin hs)
     with_reducible refine Cc (λm=>?_) (λm=>?_)
     ·exact L _ w (by simp[m,Hk]) (by exact Ab.fin hs)
     ·exact L _ w (by simp[m]) (by exact Ab.fin hs)
   with_reducible refine Cc (λh=>?_) (λh=>?_)
   ·repeat (first|with_reducible refine Aa ?_|((with_reducible refine A7 ?_);first|refine Fy hs ?_|fail)|fail)
    rw[S];refine K _ w _ _ ?_ (by exact Ab.fin hs);rw[Y5];simp[h]
   ·refine K _ w _ _ ?_ (by exact Ab.fin hs);simp[h]
 subst E;have C:=y ps.length none (A2 seed ps.length k) w (CY G.1 k) g hs;rw[show MY none = -1 from rfl] at C;unfold AK;refine⟨ps.length,?_⟩;exact C
theorem O0{k:BA}{v:Int}{j:Nat}(g:j<ps.length)(p:ps.length<4611686018427387904)(f:u1=(A9 ps:Int))(h:0<=n1/\n1<4611686018427387904)(hs:Ab W w (blk b [.int .u64 seed,.l s.a s.n s.c,.i n1,.i u1]::recs (C7<|Ap.int .i64) s ps::M)) :
  Ai PR 195 #[pq b 0,.i (j:Int),.s k,.i v] w λe w'=>e = .returned (.tuple #[])/\Ab W w' (blk b [.int .u64 seed,.l s.a s.n s.c,.i<|n1+1,.i (A9 (ps.set j ⟨2,k,v⟩):Int)]::recs (C7<|Ap.int .i64) s (ps.set j ⟨2,k,v⟩)::M):=by
 refine c1 (cw ⟨mixed,func195,rfl⟩ Arz ?_);have q:=(BE (s:=s) hs HQ.pos).1;have m:A9 ps<=ps.length:=List.countP_le_length;rw[Bu g _<|by show(2:Int)≠0;decide]
 repeat (first|with_reducible refine Aa ?_|((with_reducible refine A7 ?_);first|refine Af hs ?_|refine Cx hs ?_|fail)|((with_reducible refine BI ?_);first|refine BO hs λr t hs=>?_|fail)|fail)
 simp only[toNat_natCast];have o:(ps.getD j default).is_=B0 ps j:=rfl;rw[o]
 with_reducible refine Cc (λd=>?_) (λd=>?_)
 ·repeat (first|with_reducible refine Aa ?_|((with_reducible refine A7 ?_);first|refine Af hs ?_|fail)|((with_reducible refine Bv ?_);first|refine A4 hs λw hs=>?_|fail)|fail)
  refine jw NR ?_
  repeat (first|with_reducible refine Aa ?_|((with_reducible refine A7 ?_);first|refine Af hs ?_|fail)|((with_reducible refine Bv ?_);first|refine A4 hs λw hs=>?_|refine Y7 hs λw hs=>?_|fail)|((with_reducible refine BI ?_);first|refine Ia hs ?_|fail)|fail)
  rw[i64_in (n1+1)<|by omega,f,i64_in _<|by omega] at hs;simp only[toNat_natCast] at hs;rw[if_pos d];exact⟨rfl,by exact Ab.fin hs⟩
 ·refine jw NR ?_
  repeat (first|with_reducible refine Aa ?_|((with_reducible refine A7 ?_);first|refine Af hs ?_|fail)|((with_reducible refine Bv ?_);first|refine A4 hs λw hs=>?_|refine Y7 hs λw hs=>?_|fail)|((with_reducible refine BI ?_);first|refine Ia hs ?_|fail)|fail)
  rw[i64_in (n1+1)<|by omega,f] at hs;simp only[toNat_natCast] at hs;rw[if_neg d,add_zero];exact⟨rfl,by exact Ab.fin hs⟩
theorem Ya{st:BA->Nat}(hi:Cj st ps m)(E:∀e∈m,e.1.size<4611686018427387904)(hm:m.length<1000000000)(hs:Ab W w (blk b [.int .u64 seed,.l s.a s.n s.c,.i (m.length:Int),.i u1]::recs (C7<|Ap.int .i64) s ps::M)) :
  Ai PR 196 #[pq b 0] w λe w'=>e = .returned (.tuple #[])/\Ab W w' (ixr (Ap.int .i64) b seed m::M):=by
 refine c1 (cw ⟨mixed,func196,rfl⟩ Ar0 ?_);have hn:=(BE (s:=s) hs HQ.pos).1;have D:=hi.small;obtain⟨N,hN⟩:∃N:Nat,N=max 8 (4*(m.length+1)):=⟨_,rfl⟩;have X:(if (wrap .i64<|(4:Int)*(wrap .i64<|(m.length:Int)+(1:Int)))>(8:Int) then (wrap .i64<|(4:Int)*(wrap .i64<|(m.length:Int)+(1:Int))) else (8:Int))=(N:Int):=by
  rw[i64_in ((m.length:Int)+1)<|by omega,i64_in _<|by omega];split <;> omega
 repeat (first|with_reducible refine Aa ?_|((with_reducible refine A7 ?_);first|refine Af hs ?_|fail)|fail)
 rw[X];refine EJ (sz:=3) hs rfl (by omega) (by omega) (by omega) (by omega) λs2 w F _ _ hs=>?_;rw[toNat_natCast] at hs F;have hs:Ab W w (recs (C7<|Ap.int .i64) s2 (replicate N ⟨0,Ae,0⟩)::blk b [.int .u64 seed,.l s.a s.n s.c,.i (m.length:Int),.i u1]::recs (C7<|Ap.int .i64) s ps::M):=by
  have e:=El (C7<|Ap.int .i64) ⟨0,Ae,0⟩ N;unfold recs;rw[<- e];exact hs
 repeat (first|with_reducible refine Aa ?_|((with_reducible refine Bv ?_);first|refine A4 hs λw hs=>?_|fail)|fail)
 have x:=Cj.new (st:=A2 seed N) (n:=N) (z:=(⟨0,Ae,0⟩:Pl Int)) rfl (by omega) (by omega) (CY<|by omega);have p:(AS ps).map (·.1) |>.Nodup:=(hi.perm.map (·.1)).nodup_iff.2 hi.nodup
 have R:(AS ps).length=m.length:=hi.perm.length_eq;have y:∀(f i:Nat)(w:World)(d:List (Pl Int))(k:List (BA×Int)),i+f=ps.length->d.length=N->Cj (A2 seed N) d k->k.Perm (AS<|ps.take i)->A9 d<=k.length ->
   Ab W w (blk b [.int .u64 seed,.l s2.a s2.n s2.c,.i (k.length:Int),.i (A9 d:Int)]::recs (C7<|Ap.int .i64) s2 d::recs (C7<|Ap.int .i64) s ps::M) ->
   LN AU (λv w'=>v = .tuple #[]/\Ab W w' (ixr (Ap.int .i64) b seed m::M)) (f+1) (some ⟨b,0,none⟩) s (s.n:Int) (i:Int) w:=by
  intro f
  induction f with
  | zero=>
   intro i w d k G j g q S hs;rw[NS];refine Ad (decide_eq_false<|by omega) ⟨rfl,?_⟩;rw[take_of_length_le<|by omega] at q;have r:=q.trans hi.perm;refine Bd s2 (ps:=d) (n:=(k.length:Int)) ?_ ?_ (by rw[r.length_eq]) rfl (by exact Ab.fin hs)
   ·rw[j];exact g.perm' r
   ·rw[j];have:=r.length_eq;omega
  | succ f T=>
   intro i w d k G j g q S hs;rw[NS];refine Am (decide_eq_true<|by omega) ?_
   repeat (first|((with_reducible refine A7 ?_);first|refine Af hs ?_|refine Cx hs ?_|refine Fy hs ?_|refine O1 hs ?_|fail)|((with_reducible refine Bv ?_);first|refine A4 hs λw hs=>?_|fail)|((with_reducible refine BI ?_);first|refine BO hs λU o_ hs=>?_|fail)|((with_reducible refine Dd ?_);first|refine Ak hs λU w hs=>?_|fail)|fail)
   simp only[toNat_natCast] at hs ⊢;have H:i<ps.length:=by omega
   have h:AS (ps.take<|i+1)=AS (ps.take i)++EU (ps.getD i default):=by
    rw[CC H,BH];simp[AS]
   with_reducible refine Cc (λI=>?_) (λI=>?_)
   ·have t:EU (ps.getD i default)=[((ps.getD i default).key,(ps.getD i default).v)]:=Ga I;rw[t] at h;have o:(AS<|ps.take<|i+1).Sublist (AS ps):=by
     conv=>rhs;rw[<- take_append_drop (i+1) ps,BH]
     exact List.sublist_append_left _ _
    have A:((ps.getD i default).key,(ps.getD i default).v)∈m:=hi.perm.subset (o.subset<|by rw[h];simp);have u:=p.sublist (o.map (·.1));rw[h,map_append] at u;have B:AH k (ps.getD i default).key=none:=by
     rw[BC];intro e C Y;rw[nodup_append] at u;exact u.2.2 _ (List.mem_map_of_mem (f:=(·.1))<|q.subset C) _ (by simp) Y
    have Z:k.length+1<=m.length:=by
     have:=o.length_le;rw[h,length_append,<- q.length_eq] at this;simp only[length_cons,length_nil] at this;omega
    repeat (first|((with_reducible refine A7 ?_);first|refine Af hs ?_|fail)|fail)
    have hs:Ab W w (blk b [.int .u64 seed,.l s2.a s2.n s2.c,.i (k.length:Int),.i (A9 d:Int)]::recs (C7<|Ap.int .i64) s2 d::blk U [.i (ps.getD i default).is_,.s (ps.getD i default).key,.i (ps.getD i default).v]::recs (C7<|Ap.int .i64) s ps::M):=by exact Ab.fin hs
    refine AJ (Hn (st:=A2 seed N) (by rw[j]) (E _ A) (by omega) (g.stop _) hs) λe w ⟨C,hs⟩=>⟨_,_,C,?_⟩;have J:(AK (A2 seed N) d (ps.getD i default).key).2=false:=by
     cases hb:(AK (A2 seed N) d (ps.getD i default).key).2 with
     | false=>rfl
     | true=>have:=(g.hit hb).2.2;rw[B] at this;cases this
    obtain⟨K,L,_,O⟩:=g.miss J
    repeat (first|((with_reducible refine A7 ?_);first|refine Af hs ?_|fail)|fail)
    refine Av (O0 (v:=(ps.getD i default).v) K (by omega) rfl (by omega) hs) λe w ⟨C,hs⟩=>⟨C,?_⟩;rw[i64_in _<|by omega];have P:=Bu K (⟨2,(ps.getD i default).key,(ps.getD i default).v⟩:Pl Int) (by show(2:Int)≠0;decide)
    have V:A9 (d.set (AK (A2 seed N) d (ps.getD i default).key).1 ⟨2,(ps.getD i default).key,(ps.getD i default).v⟩)<=A9 d+1:=by rw[P];split <;> omega
    refine T (i+1) w _ (((ps.getD i default).key,(ps.getD i default).v)::k) (by omega) (by rw[length_set];exact j) (g.add K L B O<|by omega) ?_ (by simp only[length_cons];omega) ?_
    ·rw[h];exact((List.Perm.cons _ q).trans<|List.perm_append_comm (l₁:=[_]))
    ·simp only[length_cons,natCast_add];exact Ab.fin hs
   ·have t:EU (ps.getD i default)=[]:=Io I;rw[t,append_nil] at h;rw[i64_in _<|by omega];exact T (i+1) w d k (by omega) j g (by rw[h];exact q) S (by exact Ab.fin hs)
 refine⟨ps.length+1,?_⟩;refine y ps.length 0 w (replicate N ⟨0,Ae,0⟩) [] (by omega) (by simp) x (by simp[AS]) ?_ ?_
 ·have:A9 (replicate N (⟨0,Ae,0⟩:Pl Int))=0:=by
   unfold A9;rw[countP_eq_zero];intro a Q;rw[List.eq_of_mem_replicate Q];simp
  rw[this];exact zero_le _
 ·have:A9 (replicate N (⟨0,Ae,0⟩:Pl Int))=0:=by
   unfold A9;rw[countP_eq_zero];intro a Q;rw[List.eq_of_mem_replicate Q];simp
  rw[this];exact Ab.fin hs
end
section
variable{W w:World}{L M:List HP}{F:HP->List HP}{b:Nat}{seed:Int}{m:List (BA×Int)}{k:BA}
theorem Ajn(hs:Ab W w L):Ai PR 172 #[.int .u64 seed] w λe w'=>∃b,e = .returned (pq b 0)/\Ab W w' (ixr (Ap.int .i64) b seed []::L):=by
 refine(cw ⟨mixed,func172,rfl⟩ Ars (Q:=λv w'=>∃b,v=pq b 0/\Ab W w' (ixr (Ap.int .i64) b seed []::L)) ?_).mono λe w' ⟨v,a,b,c,hs⟩=>⟨b,by rw[a,c],hs⟩;refine EJ (sz:=3) hs rfl (by omega) (by omega) (by omega) (by omega) λs2 w d _ _ hs=>?_;have hs:Ab W w (recs (C7<|Ap.int .i64) s2 (replicate 8 ⟨0,Ae,0⟩)::L):=hs
 repeat (first|((with_reducible refine Dd ?_);first|refine Ak hs λf w hs=>?_|fail)|fail)
 refine⟨_,rfl,Bd s2 (ps:=replicate 8 ⟨0,Ae,0⟩) (n:=0) (u:=0) (Cj.new (n:=8) rfl (by omega) (by omega)<|CY<|by simp) (by decide +revert) rfl rfl<|by exact Ab.fin hs⟩
theorem QM(h:Ab W w L)[hA:At L b (ixr (Ap.int .i64) b seed m) F](d:k.size<4611686018427387904):Ai PR 192 #[pq b 0,.s k] w λe w'=>e = .returned (.tuple #[.i<|(AH m k).getD 0,.b (AH m k).isSome])/\Ab W w' (F<|ixr (Ap.int .i64) b seed m):=by
 refine At.call1 (hA:=hA) h λM hs=>?_;clear h hA;refine c1 (cw ⟨mixed,func192,rfl⟩ Arw ?_);refine Am rfl ?_;obtain⟨s,ps,hi,c,n,hs⟩:=CG hs;have f:=hi.small;have g:=hi.big;refine AJ (Hn (st:=A2 seed ps.length) rfl d (by omega) (hi.stop _) hs) λe w ⟨j,hs⟩=>⟨_,_,j,?_⟩;refine As (λa=>?_) (λa=>?_)
 ·obtain⟨o,_,l⟩:=hi.hit a;rw[l]
  repeat (first|with_reducible refine Aa ?_|((with_reducible refine A7 ?_);first|refine Af hs ?_|refine Fy hs ?_|fail)|((with_reducible refine BI ?_);first|refine BO hs λp q hs=>?_|fail)|fail)
  simp only[toNat_natCast];exact⟨rfl,Bd s hi c rfl rfl<|by exact Ab.fin hs⟩
 ·rw[(hi.miss a).2.2.1];exact⟨rfl,Bd s hi c rfl rfl hs⟩
theorem XZ(h:Ab W w L)[hA:At L b (ixr (Ap.int .i64) b seed m) F]{v:Int}(E:k.size<4611686018427387904)(z:∀e∈m,e.1.size<4611686018427387904)(P:m.length<900000000):Ai PR 161 #[pq b 0,.s k,.i v] w λe w'=>e = .returned (.b (AH m k).isNone)/\Ab W w' (F<|ixr (Ap.int .i64) b seed<|Cw m k v):=by
 refine At.call1 (hA:=hA) h λM hs=>?_;clear h hA;refine c1 (cw ⟨mixed,func161,rfl⟩ Ari ?_);refine Ad rfl ?_;obtain⟨s,ps,hi,H,I,hs⟩:=CG hs;have J:=hi.small;have K:=hi.big;refine AJ (Hn (st:=A2 seed ps.length) rfl E (by omega) (hi.stop _) hs) λe w ⟨f,hs⟩=>⟨_,_,f,?_⟩;refine As (λA=>?_) (λA=>?_)
 ·obtain⟨o,j,p⟩:=hi.hit A;have B:Cw m k v=Fm m k v:=by unfold Cw;rw[p]
  rw[p,B]
  repeat (first|with_reducible refine Aa ?_|((with_reducible refine A7 ?_);first|refine Af hs ?_|fail)|((with_reducible refine Bv ?_);first|refine Axh hs λw hs=>?_|fail)|((with_reducible refine BI ?_);first|refine BO hs λQ R hs=>?_|fail)|fail)
  simp only[toNat_natCast] at hs;have q:=hi.set (v:=v) o j;have g:A9 (ps.set (AK (A2 seed ps.length) ps k).1 { ps.getD (AK (A2 seed ps.length) ps k).1 default with v:=v })=A9 ps:=by
   rw[Bu o _<|by show B0 ps _≠0;rw[j.1];decide,if_neg<|by rw[j.1];decide];rfl
  refine⟨rfl,Bd s (n:=(m.length:Int)) (u:=(A9 ps:Int)) (by rw[length_set];exact q) (by rw[g,length_set];exact H) (by simp[Fm]) (by rw[g])<|by exact Ab.fin hs⟩
 ·obtain⟨o,C,p,N⟩:=hi.miss A;have B:Cw m k v=(k,v)::m:=by unfold Cw;rw[p]
  rw[p,B];refine Av (O0 (v:=v) o (by omega) rfl (by omega) hs) λe w ⟨f,hs⟩=>⟨f,?_⟩;have g:=Bu o (⟨2,k,v⟩:Pl Int) (by show(2:Int)≠0;decide)
  have r:A9 (ps.set (AK (A2 seed ps.length) ps k).1 ⟨2,k,v⟩)<=A9 ps+1:=by rw[g];split <;> omega
  have d:=hi.add (v:=v) o C p N (by omega);have t:(ps.set (AK (A2 seed ps.length) ps k).1 ⟨2,k,v⟩).length=ps.length:=by simp
  generalize G:ps.set (AK (A2 seed ps.length) ps k).1 ⟨2,k,v⟩=x at hs r d t
  repeat (first|with_reducible refine Aa ?_|((with_reducible refine A7 ?_);first|refine Af hs ?_|fail)|((with_reducible refine Cm ?_);first|refine Au ?_|fail)|((with_reducible refine Bk ?_);first|refine BJ hs ?_|fail)|((with_reducible refine E0 ?_);first|refine AI hs λw hs=>?_|fail)|fail)
  rw[i64_in _<|by omega,I]
  with_reducible refine D5 (λO=>?_) (λO=>?_)
  ·have y:∀e∈(k,v)::m,e.1.size<4611686018427387904:=by
    intro e f;rcases mem_cons.1 f with rfl|f
    ·exact E
    ·exact z e f
   have D:Ab W w (blk b [.int .u64 seed,.l s.a s.n s.c,.i (((k,v)::m).length:Int),.i (A9 x:Int)]::recs (C7<|Ap.int .i64) s x::M):=by
    simp only[length_cons,natCast_add];exact hs
   refine Av (Ya d y (by simp;omega) D) λe w ⟨f,hs⟩=>⟨f,?_⟩;exact⟨rfl,hs⟩
  ·exact⟨rfl,Bd s (n:=(m.length:Int)+1) (by rw[t];exact d) (by omega) (by simp) rfl<|by exact Ab.fin hs⟩
theorem RQ(h:Ab W w L)[hA:At L b (ixr (Ap.int .i64) b seed m) F](l:k.size<4611686018427387904)(t:m.length<900000000):Ai PR 159 #[pq b 0,.s k] w λe w'=>e = .returned (.tuple #[.i<|(AH m k).getD 0,.b (AH m k).isSome])/\Ab W w' (F<|ixr (Ap.int .i64) b seed<|BU m k):=by
 refine At.call1 (hA:=hA) h λM hs=>?_;clear h hA;refine c1 (cw ⟨mixed,func159,rfl⟩ Arf ?_);refine AJ (QM hs l) λe w ⟨a,hs⟩=>⟨_,_,a,?_⟩;refine Mc (λv g=>?_) (λg=>?_)
 ·obtain⟨s,ps,hi,p,v,hs⟩:=CG hs;have q:=hi.small;have r:=hi.big;refine AJ (Hn (st:=A2 seed ps.length) rfl l (by omega) (hi.stop _) hs) λe w ⟨a,hs⟩=>⟨_,_,a,?_⟩;have j:(AK (A2 seed ps.length) ps k).2=true:=by
   cases j:(AK (A2 seed ps.length) ps k).2 with
   | true=>rfl
   | false=>have:=(hi.miss j).2.2.1;rw[g] at this;cases this
  obtain⟨o,c,_⟩:=hi.hit j
  repeat (first|with_reducible refine Aa ?_|((with_reducible refine A7 ?_);first|refine Af hs ?_|fail)|((with_reducible refine Bv ?_);first|refine A4 hs λw hs=>?_|refine Y7 hs λw hs=>?_|fail)|((with_reducible refine BI ?_);first|refine BO hs λx y hs=>?_|fail)|fail)
  rw[i64_in _<|by omega] at hs;simp only[toNat_natCast] at hs;have d:=hi.del (z:=(⟨1,Ae,0⟩:Pl Int)) o c rfl;have f:A9 (ps.set (AK (A2 seed ps.length) ps k).1 (⟨1,Ae,0⟩:Pl Int))=A9 ps:=by
   rw[Bu o _<|by show(1:Int)≠0;decide,if_neg<|by rw[c.1];decide];rfl
  have A:=Mo hi.nodup g;refine⟨by trivial,Bd s (n:=(m.length:Int)-1) (u:=(A9 ps:Int)) (by rw[length_set];exact d) (by rw[f,length_set];exact p) (by omega) (by rw[f])<|by exact Ab.fin hs⟩
 ·have:BU m k=m:=by
   unfold BU;rw[List.filter_eq_self];intro e a;simpa using BC.1 g e a
  rw[this];exact⟨by trivial,by exact Ab.fin hs⟩
end
end Go.Proofs.YtjipofkjmmpjdaaGreat
namespace Go.Hb
open Go.Proofs.YtjipofkjmmpjdaaGreat
abbrev cS(b:Nat)(s:Sl)(xb:Nat)(c d e:Int)(cb:Nat):HP:=blk b [.l s.a s.n s.c,pq xb 0,.i c,.i d,.i e,pq cb 0]
abbrev CM:=List (BA×Int)
def C9(m:CM)(k:BA):Int:=(AH m k).getD 0
def T6(b:Nat)(c d:Int)(i a o:BL)(m:CM):HP:=Ly λ(z:Sl×Nat×Int×Nat)=>AN [cS b z.1 z.2.1 c z.2.2.1 d z.2.2.2,rowsC z.1 z.2.1 5000 [i,a,o],ixr (Ap.int .i64) z.2.2.2 0 m]
structure Js(c:Int)(R i a o:BL)(m:CM):Prop where
 eq:R=i++a
 ok:DC c R
 gh:o.length<=1024
 cnt:∀k,0<=C9 m k/\C9 m k<=3
 sub:∀e∈m,e.1∈R
def Jx(b:Nat)(c:Int)(R:BL):HP:=Ly λ(z:(BL×BL×BL)×CM×Int)=>Fs (Js c R z.1.1 z.1.2.1 z.1.2.2 z.2.1/\0<=z.2.2/\z.2.2<=1024) (T6 b c z.2.2 z.1.1 z.1.2.1 z.1.2.2 z.2.1)
section
variable{W w:World}{M L:List HP}{b:Nat}{c gh v:Int}{R i a o:BL}{m:CM}{k x:BA}
theorem Df(h:Ab W w (T6 b c gh i a o m::M)):∃(s:Sl) (xb:Nat) (d:Int) (cb:Nat),Ab W w (cS b s xb c d gh cb::rowsC s xb 5000 [i,a,o]::ixr (Ap.int .i64) cb 0 m::M):=by
 obtain⟨⟨s,xb,d,cb⟩,h⟩:=h.openE;exact⟨s,xb,d,cb,h.openL⟩
theorem Cy{s:Sl}{xb cb:Nat}{d:Int}(h:Ab W w (cS b s xb c d gh cb::rowsC s xb 5000 [i,a,o]::ixr (Ap.int .i64) cb 0 m::M)):Ab W w (T6 b c gh i a o m::M):=
 Ab.shutE (s,xb,d,cb) (Ab.shutL (Ps:=[_,_,_]) h)
theorem Ed(h:Ab W w (Jx b c R::M)):∃(i a o:BL) (m:CM) (d:Int),Js c R i a o m/\(0<=d/\d<=1024)/\Ab W w (T6 b c d i a o m::M):=by
 obtain⟨⟨⟨i,a,o⟩,m,d⟩,h⟩:=h.openE;obtain⟨e,h⟩:=h.openA;exact⟨i,a,o,m,d,e.1,e.2,h⟩
theorem Db(d:Js c R i a o m)(e:0<=gh/\gh<=1024)(h:Ab W w (T6 b c gh i a o m::M)):Ab W w (Jx b c R::M):=Ab.shutE ((i,a,o),m,gh) (Ab.shutA ⟨d,e⟩ h)
theorem Ru(h:Ab W w (Jx b c R::M)):DC c R:=by
 obtain⟨i,a,o,m,e,d,_⟩:=Ed h;exact d.ok
theorem WK(h:Ab W w (Jx b c R::M)):w.cell? ⟨b,2,none⟩=some (.i c):=by
 obtain⟨i,a,o,m,d,_,_,h⟩:=Ed h;obtain⟨s,xb,e,cb,h⟩:=Df h;exact h.cell (q:=0) rfl
theorem Tb(h:Ab W w (T6 b c gh i a o m::M)):Nd3 i a o/\(m.map (·.1)).Nodup:=by
 obtain⟨s,xb,d,cb,h⟩:=Df h;exact⟨nd3 (M:=ixr (Ap.int .i64) cb 0 m::M)<|h.drop,Amr (M:=M) (h.drop).drop⟩
theorem I0:C9 (Cw m k v) x=if k=x then v else C9 m x:=by
 unfold C9;rw[Wo];split <;> rfl
theorem W6:C9 (BU m k) x=if k=x then 0 else C9 m x:=by
 unfold C9;rw[Wn];split <;> rfl
theorem Js.two(h:Js c R i a o m):i.length+a.length<=1024/\R.length=i.length+a.length:=by
 have b:=h.ok.room;have d:=h.ok.c2
 have e:R.length=i.length+a.length:=by rw[h.eq];simp
 omega
theorem Js.mlen(h:Js c R i a o m)(d:(m.map (·.1)).Nodup):m.length<=1024:=by
 have f:=EB d (b:=R) λk g=>by
  obtain⟨e,j,rfl⟩:=mem_map.1 g;exact h.sub e j
 have k:=h.two;rw[length_map] at f;omega
theorem Js.msm(h:Js c R i a o m):∀e∈m,e.1.size<4611686018427387904:=λe b=>by
 have:=h.ok.small _ (h.sub e b);omega
theorem M1{m:CM}{S:BL}(h:∀e∈m,e.1∈S)(hk:k∈S):∀e∈Cw m k v,e.1∈S:=VK (P:=λk=>k∈S) h hk
theorem W9{m:CM}{S T:BL}(h:∀e∈m,e.1∈S)(hS:∀x∈S,x≠k->x∈T):∀e∈BU m k,e.1∈T:=λe he=>by
 unfold BU at he;rw[mem_filter,decide_eq_true_eq] at he;exact hS _ (h e he.1) he.2
end
end Go.Hb
namespace Go.Proofs.YtjipofkjmmpjdaaGreat
open Go.Hb Go.IntWalk
section
variable{W w:World}{L M:List HP}{b:Nat}{c gh n:Int}{R i a o:BL}{m:CM}{key:BA}
theorem MA{j:Nat}(h:j<2)(k:key.size<64)(p:i.length+a.length<=1024/\o.length<=1024)(l:m.length<=2000/\∀e∈m,e.1.size<4611686018427387904)(hs:Ab W w (T6 b c gh i a o m::M)) :
  Bh PR 371 #[pq b 0,.i (j:Int),.s key,.i n] w λv w'=>v = .tuple #[]/\∀d a' f,D2 [i,a,o] j key=[d,a',f]->Ab W w' (T6 b c gh d a' f (Cw m key n)::M):=by
 refine cw ⟨mixed,func371,rfl⟩ Aum ?_;obtain⟨s,xb,q,cb,hs⟩:=Df hs;refine Aa (Af (x:=s) hs<|Af hs ?_);refine Av (FG BG (K:=[i,a,o]) hs (show j<3 by omega) k (by omega) (show 3<=4 by decide) (by
  match j,h with
  | 0,_=>show i.length<5000;omega
  | 1,_=>show a.length<5000;omega)) λe w ⟨g,hs⟩=>⟨g,?_⟩
 refine Aa (Af hs ?_);refine Ao (XZ hs (v:=n) (by omega) l.2<|by omega) λe w ⟨g,hs⟩=>⟨_,g,?_⟩;refine⟨rfl,λd a' f e=>?_⟩;rw[e] at hs;exact Cy hs
theorem Y4(e:key.size<64)(f:m.length<=2000)(hs:Ab W w (T6 b c gh i a o m::M)) :
  Bh PR 376 #[pq b 0,.s key] w λv w'=>v = .tuple #[]/\Ab W w' (T6 b c gh (Aq i key) (Aq a key) (Aq o key) (BU m key)::M):=by
 refine cw ⟨mixed,func376,rfl⟩ Aur ?_;obtain⟨s,xb,g,cb,hs⟩:=Df hs;refine Aa (Af (x:=s) hs<|Af hs ?_);refine Av (Cg BG (K:=[i,a,o]) hs e (by omega)<|show 3<=4 by decide) λe w ⟨d,hs⟩=>⟨d,?_⟩;refine Aa (Af hs ?_);refine AJ (RQ hs (by omega)<|by omega) λe w ⟨d,hs⟩=>⟨_,_,d,?_⟩;exact⟨rfl,Cy hs⟩
theorem Baq(hs:Ab W w L){r:Int}:Bh PR 155 #[.i r] w λv w'=>∃b,v=pq b 0/\Ab W w' (Jx b (Ba r) []::L):=by
 refine cw ⟨mixed,func155,rfl⟩ Arc ?_;refine A1 (by decide) ?_;refine(M9 BG (nr:=3) (by decide) hs).mono λe w ⟨s,xb,a,hs⟩=>⟨s,_,a,?_⟩;have hs:=Ks (N':=5000) hs (by omega);refine Ao (Ajn hs) λe w ⟨cb,a,hs⟩=>⟨_,a,?_⟩;refine Ak hs λb w hs=>⟨b,rfl,?_⟩;have d:=ED r;rw[M5] at hs;have e:replicate 3 ([]:BL)=[[],[],[]]:=rfl;rw[e] at hs;have c:Js (Ba r) [] [] [] [] []:=⟨rfl,DC.nil d.1 d.2,by simp,λk=>by simp[C9,AH],by simp⟩;have f:1<=(if wrap .i64 (tdiv (Ba r) 10)>1 then wrap .i64 (tdiv (Ba r) 10) else 1)/\(if wrap .i64 (tdiv (Ba r) 10)>1 then wrap .i64 (tdiv (Ba r) 10) else 1)<=1024:=by
  rw[Int.tdiv_eq_ediv_of_nonneg<|by omega,i64_in _<|by omega];split <;> omega
 refine Db c ?_ (Cy (cb:=cb)<|by exact Ab.fin hs);generalize (if wrap .i64 (tdiv (Ba r) 10)>1 then wrap .i64 (tdiv (Ba r) 10) else 1)=q at f;rw[i64_in _<|by omega];split <;> omega
theorem A5v(hs:Ab W w (Jx b c R::M)):Bh PR 368 #[pq b 0] w λv w'=>v = .i c/\Ab W w' (Jx b c R::M):=by
 refine cw ⟨mixed,func368,rfl⟩ Aul ?_;obtain⟨i,a,o,m,f,d,e,hs⟩:=Ed hs;obtain⟨s,xb,g,cb,hs⟩:=Df hs;refine Ad rfl (Aa<|Af hs ?_);exact⟨rfl,Db d e<|Cy hs⟩
theorem Ta(hs:Ab W w (Jx b c R::M)):Bh PR 365 #[pq b 0] w λv w'=>v = .i (R.length:Int)/\Ab W w' (Jx b c R::M):=by
 refine cw ⟨mixed,func365,rfl⟩ Aui ?_;obtain⟨i,a,o,m,e,d,f,hs⟩:=Ed hs;obtain⟨s,xb,g,cb,hs⟩:=Df hs;refine Ad rfl (Aa<|Af (x:=s) hs<|Af hs ?_);refine Ak hs λnb w hs=>?_;refine AX BG (nr:=3) (K:=[i,a,o]) [0,1] (M:=cS b s xb c g e cb::ixr (Ap.int .i64) cb 0 m::M) (by exact Ab.fin hs) (by omega) rfl λw hs=>?_;refine⟨?_,Db d f<|Cy<|by exact Ab.fin hs⟩;rw[d.two.2];simp[BD]
theorem Y2(k:key.size<64)(hs:Ab W w (Jx b c R::M)):Bh PR 363 #[pq b 0,.s key] w λv w'=>v = .b (decide<|key∈R)/\Ab W w' (Jx b c R::M):=by
 refine cw ⟨mixed,func363,rfl⟩ Aug ?_;obtain⟨i,a,o,m,q,f,j,hs⟩:=Ed hs;obtain⟨s,xb,r,cb,hs⟩:=Df hs;refine Ad rfl (Aa<|Af (x:=s) hs<|Af hs ?_);refine Ao (Ei BG (K:=[i,a,o]) hs k) λe w ⟨l,hs⟩=>⟨_,l,?_⟩;have e:∀t:Bool,(t=true↔key∈i\/key∈a)->Value.bool t = .b (decide<|key∈R):=λt n=>by
  congr 1;rw[Bool.eq_iff_iff,n,f.eq,decide_eq_true_eq,mem_append]
 rcases T0 i a o key with⟨h,d⟩|⟨h,d,g⟩|⟨h,d,g,p⟩|⟨h,d,g,p⟩ <;> rw[h]
 ·exact Am rfl ⟨e _<|by simp[d],Db f j<|Cy hs⟩
 ·exact Ad rfl ⟨e _<|by simp[g],Db f j<|Cy hs⟩
 ·exact Ad rfl ⟨e _<|by simp[d,g],Db f j<|Cy hs⟩
 ·exact Ad rfl ⟨e _<|by simp[d,g],Db f j<|Cy hs⟩
theorem A5t(hs:Ab W w (Jx b c R::M)):Bh PR 364 #[pq b 0] w λv w'=>∃(l:Sl) (ks:BL),v = .l l.a l.n l.c/\ks.Perm R/\Ab W w' (Jx b c R::recs Ap.str l ks::M):=by
 refine cw ⟨mixed,func364,rfl⟩ Auh ?_;obtain⟨i,a,o,m,e,d,f,hs⟩:=Ed hs;obtain⟨s,xb,g,cb,hs⟩:=Df hs;refine Ad rfl (Aa<|Af (x:=s) hs<|Af hs ?_);refine Ak hs λnb w hs=>?_;refine QN BG (nr:=3) (K:=[i,a,o]) [0,1] (M:=cS b s xb c g e cb::ixr (Ap.int .i64) cb 0 m::M) (by exact Ab.fin hs) (by omega) rfl λl w hs=>?_;refine⟨l,_,rfl,?_,Db d f<|Cy<|by exact Ab.fin hs⟩;rw[d.eq];simp[F0]
theorem Adm(hl:i.length+a.length<=1024/\o.length<=1024)(h0:0<a.length)(hc:∀k,0<=C9 m k/\C9 m k<=3)(hsub:∀e∈m,e.1∈i++a)(hs:Ab W w (T6 b c gh i a o m::M)) :
  Bh PR 374 #[pq b 0] w λv w'=>∃(x:BA) (a':BL) (m':CM),v = .s x/\a.Perm (x::a')/\(∀k,0<=C9 m' k/\C9 m' k<=3)/\(∀e∈m',e.1∈i++a')/\Ab W w' (T6 b c gh i a' o m'::M):=by
 refine cw ⟨mixed,func374,rfl⟩ Auq ?_;have loop:∀(f:Nat)(y:BL)(m:CM)(w:World),a.Perm y->((y.map λk=>(C9 m k).toNat).sum=f)->(∀k,0<=C9 m k/\C9 m k<=3)->(∀e∈m,e.1∈i++y)->Ab W w (T6 b c gh i y o m::M) ->
   QK AU (λv w'=>∃(x:BA) (a':BL) (m':CM),v = .s x/\a.Perm (x::a')/\(∀k,0<=C9 m' k/\C9 m' k<=3)/\(∀e∈m',e.1∈i++a')/\Ab W w' (T6 b c gh i a' o m'::M)) (f+1) (some ⟨b,0,none⟩) w:=by
  clear hs hc hsub;intro f
  induction f using Nat.strongRecOn with
  | ind f ih=>
   intro y m w hp hf hc hsub hs;rw[Aa8];have hyl:=hp.length_eq;have hy0:0<y.length:=by omega
   obtain⟨hnd,hmn⟩:=Tb hs;have hm:=CN hy0;have hz:=hnd.small _ (.inr (.inl hm));have hml:m.length<=1024:=by
    have h1:=EB hmn (b:=i++y) λk hk=>by
     obtain⟨e,he,rfl⟩:=mem_map.1 hk;exact hsub e he
    rw[length_map,length_append] at h1;omega
   have hms:∀e∈m,e.1.size<4611686018427387904:=λe he=>by
    have:=hnd.small e.1 ((mem_append.1 (hsub e he)).elim .inl λh=>.inr (.inl h));omega
   obtain⟨s,xb,sm,cb,hs⟩:=Df hs;refine Aa (Af (x:=s) hs (Af hs ?_));refine Ao (BB BG (K:=[i,y,o]) (j:=1) hs (lt3 (by decide)) (show 3<=4 by decide)) λe w ⟨he,hs⟩=>⟨_,he,?_⟩;refine Aa (Af hs ?_);refine AJ (QM hs (k:=Ck y) (by omega)) λe w ⟨he,hs⟩=>⟨_,_,he,?_⟩;have hs:=Cy hs;have ec:((AH m (Ck y)).getD 0)=C9 m (Ck y):=rfl;rw[ec];have hdec:y=Ck y::y.drop 1:=by
    cases y with
    | nil=>simp at hy0
    | cons x t=>rfl
   with_reducible refine A3 (λh1=>?_) (λh1=>?_)
   ·refine Bf (Y4 (key:=Ck y) hz (by omega) hs) λv w ⟨hv,hs⟩=>⟨hv,?_⟩;rw[Ax λh=>(hnd.io _ h).1 hm,BT hnd.no hy0,Ax (hnd.oa _ hm)] at hs;refine⟨Ck y,y.drop 1,_,rfl,hdec ▸ hp,λk=>?_,W9 hsub λx hx hne=>?_,hs⟩
    ·rw[W6];split
     ·omega
     ·exact hc k
    ·rcases mem_append.1 hx with h|h
     ·exact mem_append_left _ h
     ·rw[hdec] at h;exact mem_append_right _ ((mem_cons.1 h).resolve_left hne)
   ·have hc1:=hc (Ck y);rw[i64_in _ (by omega)];refine Bf (MA (j:=1) (key:=Ck y) (by decide) hz ⟨by omega,hl.2⟩ ⟨by omega,hms⟩ hs) λv w ⟨hv,hs⟩=>⟨hv,?_⟩;have e1:D2 [i,y,o] 1 (Ck y)=[i,y.drop 1++[Ck y],o]:=by
     show[Aq i _,Aq y _++[_],Aq o _]=_;rw[Ax λh=>(hnd.io _ h).1 hm,BT hnd.no hy0,Ax (hnd.oa _ hm)]
    have hs:=hs _ _ _ e1;have hpy:y.Perm (y.drop 1++[Ck y]):=by
     rw[hdec];exact(List.perm_append_singleton _ _).symm
    have hsum:((y.drop 1++[Ck y]).map λk=>(C9 (Cw m (Ck y) (C9 m (Ck y)-1)) k).toNat).sum+1=f:=by
     have hnn:Ck y∉y.drop 1:=by
      have:=hnd.no;rw[hdec] at this;exact(nodup_cons.1 this).1
     have e2:((y.drop 1).map λk=>(C9 (Cw m (Ck y) (C9 m (Ck y)-1)) k).toNat)=(y.drop 1).map λk=>(C9 m k).toNat:=
      List.map_congr_left λk hk=>by rw[I0,if_neg λe=>hnn (by rw[e];exact hk)]
     have e3:(y.map λk=>(C9 m k).toNat).sum=(C9 m (Ck y)).toNat + ((y.drop 1).map λk=>(C9 m k).toNat).sum:=by
      conv=>lhs;rw[hdec]
      rfl
     rw[map_append,List.sum_append,e2,map_cons,List.map_nil,List.sum_cons,List.sum_nil,I0,if_pos rfl];omega
    obtain⟨g,hg⟩:∃g,f=g+1:=⟨f-1,by omega⟩;subst hg;refine ih g (by omega) _ _ w (hp.trans hpy) (by omega) (λk=>?_) (M1 (λe he=>?_) (by simp)) hs
    ·rw[I0];split
     ·omega
     ·exact hc k
    ·rcases mem_append.1 (hsub e he) with h|h
     ·exact mem_append_left _ h
     ·exact mem_append_right _ (hpy.mem_iff.1 h)
 exact AP _ (loop _ a m w (List.Perm.refl _) rfl hc hsub hs)
abbrev SmQ(b:Nat)(c d:Int)(R:BL)(W:World)(M:List HP):VW:=λv w'=>∃(x:BA) (t:Bool) (i a o:BL) (m:CM),v = .tuple #[.s x,.b t]/\(t=true->R.Perm (x::(i++a)))/\(t=false->R.Perm (i++a)/\i=[])/\o.length<=1024/\(∀k,0<=C9 m k/\C9 m k<=3)/\(∀e∈m,e.1∈i++a)/\Ab W w' (T6 b c d i a o m::M)
theorem An0{m1:Nat}{x:BA}(v:0<=gh/\gh<=1024){Q:VW}(n:∀(o:BL)(w':World),o.length<=1024->Ab W w' (T6 b c gh i a o m::M)->Q (.tuple #[.s x,.b true]) w') :
  ∀(f:Nat)(o:BL)(w:World),o.length=f->Ab W w (T6 b c gh i a o m::M)->QJ AU Q m1 (f+1) (some ⟨b,0,none⟩) x w:=by
 intro f
 induction f with
 | zero=>
  intro o w p hs;rw[Oy];obtain⟨s,xb,e,cb,hs⟩:=Df hs;refine An [cS b s xb c e gh cb] hs λw hs=>?_;refine Aa (Au (x:=s)<|Au<|Aa<|Au ?_);refine Ak hs λnb w hs=>Ag hs ?_;refine AX BG (nr:=3) (K:=[i,a,o]) [2] (M:=cS b s xb c e gh cb::ixr (Ap.int .i64) cb 0 m::M) (by exact Ab.fin hs) (by omega) rfl λw hs=>?_;refine Ag hs ?_;have g:(BD [i,a,o] [2]:Int)=0:=by simp[BD,p]
  rw[g];refine Ad (decide_eq_false<|by omega) ?_;refine jw Ow ?_;exact n o w (by omega) (Cy<|by exact Ab.fin hs)
 | succ f r=>
  intro o w p hs;rw[Oy];have d:=(Tb hs).1;obtain⟨s,xb,e,cb,hs⟩:=Df hs;refine An [cS b s xb c e gh cb] hs λw hs=>?_;refine Aa (Au (x:=s)<|Au<|Aa<|Au ?_);refine Ak hs λnb w hs=>Ag hs ?_;refine AX BG (nr:=3) (K:=[i,a,o]) [2] (M:=cS b s xb c e gh cb::ixr (Ap.int .i64) cb 0 m::M) (by exact Ab.fin hs) (by omega) rfl λw hs=>?_;refine Ag hs ?_;have g:(BD [i,a,o] [2]:Int)=o.length:=by simp[BD]
  rw[g];have hs:Ab W w (cS b s xb c e gh cb::rowsC s xb 5000 [i,a,o]::ixr (Ap.int .i64) cb 0 m::M):=by exact Ab.fin hs
  with_reducible refine A3 (λt=>?_) (λt=>?_)
  ·refine An [cS b s xb c e gh cb] hs λw hs=>?_;refine Aa (Au (x:=s)<|Au<|Aa<|Af (x:=s) hs<|Af hs<|Ag hs ?_);refine Ao (BB BG (K:=[i,a,o]) (j:=2) hs (lt3<|by decide)<|show 3<=4 by decide) λe w ⟨k,hs⟩=>⟨_,k,Ag hs ?_⟩;have q:0<o.length:=by omega
   have l:=CN q;refine Av (Cg BG (K:=[i,a,o]) (key:=Ck o) hs (d.small _<|.inr<|.inr l) (by omega)<|show 3<=4 by decide) λe w ⟨k,hs⟩=>⟨k,?_⟩;have u:DI [i,a,o] (Ck o)=[i,a,o.drop 1]:=by
    show[Aq _ _,Aq a _,Aq o _]=_;rw[Ax λh=>(d.io _ h).2 l,Ax λh=>d.oa _ h l,BT d.na q]
   rw[u] at hs;exact r (o.drop 1) w (by rw[List.length_drop];omega) (Cy hs)
  ·refine jw Ow ?_;exact n o w (by omega) (Cy hs)
theorem Y3(hg:0<=gh/\gh<=1024)(hr:Js c R i a o m)(hs:Ab W w (T6 b c gh i a o m::M)):Bh PR 373 #[pq b 0] w (SmQ b c gh R W M):=by
 refine cw ⟨mixed,func373,rfl⟩ Aup ?_;have h2:=hr.two;have loop:∀(f:Nat)(i a:BL)(m:CM)(w:World),i.length=f->R.Perm (i++a)->(∀k,0<=C9 m k/\C9 m k<=3)->(∀e∈m,e.1∈i++a)->Ab W w (T6 b c gh i a o m::M) ->
   QI AU (SmQ b c gh R W M) (f+1) (some ⟨b,0,none⟩) w:=by
  have hgo:=hr.gh;clear hs hr;intro f
  induction f with
  | zero=>
   intro i a m w hf hp hc hsub hs;rw[Ox];obtain⟨s,xb,sm,cb,hs⟩:=Df hs;refine Aa (Af (x:=s) hs (Af hs ?_));refine Ak hs λnb w hs=>?_;refine AX BG (nr:=3) (K:=[i,a,o]) [0] (M:=cS b s xb c sm gh cb::ixr (Ap.int .i64) cb 0 m::M) (by exact Ab.fin hs) (by omega) rfl λw hs=>?_;have e2:(BD [i,a,o] [0]:Int)=0:=by simp[BD,hf]
   rw[e2];refine Ad rfl ?_;refine jw Aa7 ?_;exact⟨_,false,i,a,o,m,rfl,(λh=>by cases h),λ_=>⟨hp,length_eq_zero_iff.1 hf⟩,hgo,hc,hsub,Cy (by exact Ab.fin hs)⟩
  | succ f ih=>
   intro i a m w hf hp hc hsub hs;rw[Ox];have hpl:=hp.length_eq;rw[length_append] at hpl;obtain⟨hnd,hmn⟩:=Tb hs;have h0:0<i.length:=by omega
   have hm:=CN h0;have hz:=hnd.small _ (.inl hm);have hml:m.length<=1024:=by
    have h1:=EB hmn (b:=i++a) λk hk=>by
     obtain⟨e,he,rfl⟩:=mem_map.1 hk;exact hsub e he
    rw[length_map,length_append] at h1;omega
   have hms:∀e∈m,e.1.size<4611686018427387904:=λe he=>by
    have:=hnd.small e.1 ((mem_append.1 (hsub e he)).elim .inl λh=>.inr (.inl h));omega
   have hdec:i=Ck i::i.drop 1:=by
    cases i with
    | nil=>simp at h0
    | cons x t=>rfl
   obtain⟨s,xb,sm,cb,hs⟩:=Df hs;refine Aa (Af (x:=s) hs (Af hs ?_));refine Ak hs λnb w hs=>?_;refine AX BG (nr:=3) (K:=[i,a,o]) [0] (M:=cS b s xb c sm gh cb::ixr (Ap.int .i64) cb 0 m::M) (by exact Ab.fin hs) (by omega) rfl λw hs=>?_;have e2:(BD [i,a,o] [0]:Int)=i.length:=by simp[BD]
   rw[e2];refine Am (decide_eq_true (by omega)) ?_;have hs:Ab W w (cS b s xb c sm gh cb::rowsC s xb 5000 [i,a,o]::ixr (Ap.int .i64) cb 0 m::M):=by exact Ab.fin hs
   refine Aa (Af (x:=s) hs (Af hs ?_));refine Ao (BB BG (K:=[i,a,o]) (j:=0) hs (lt3 (by decide)) (show 3<=4 by decide)) λe w ⟨he,hs⟩=>⟨_,he,?_⟩;refine Aa (Af hs ?_);refine AJ (QM hs (k:=Ck i) (by omega)) λe w ⟨he,hs⟩=>⟨_,_,he,?_⟩;have hs:=Cy hs
   with_reducible refine A3 (λh1=>?_) (λh1=>?_)
   ·refine Bf (MA (j:=1) (n:=0) (key:=Ck i) (by decide) hz ⟨by omega,hgo⟩ ⟨by omega,hms⟩ hs) λv w ⟨hv,hs⟩=>⟨hv,?_⟩;have e1:D2 [i,a,o] 1 (Ck i)=[i.drop 1,a++[Ck i],o]:=by
     show[Aq i _,Aq a _++[_],Aq o _]=_;rw[Ax (hnd.io _ hm).1,BT hnd.ni h0,Ax (hnd.io _ hm).2]
    have hs:=hs _ _ _ e1;have hpi:(i++a).Perm (i.drop 1++(a++[Ck i])):=by
     conv=>lhs;rw[hdec]
     exact EV.symm
    refine ih _ _ _ w (by rw[List.length_drop];omega) (hp.trans hpi) (λk=>?_) (M1 (λe he=>hpi.mem_iff.1 (hsub e he)) (by simp)) hs;rw[I0];split
    ·omega
    ·exact hc k
   ·refine Bf (Y4 (key:=Ck i) hz (by omega) hs) λv w ⟨hv,hs⟩=>⟨hv,?_⟩;rw[BT hnd.ni h0,Ax (hnd.io _ hm).1,Ax (hnd.io _ hm).2] at hs;obtain⟨s,xb,sm,cb,hs⟩:=Df hs;refine Aa (Af (x:=s) hs (Af hs ?_));refine Av (IP BG (K:=[i.drop 1,a,o]) (j:=2) (key:=Ck i) hs (by decide) hz (show o.length<5000 by omega) rfl) λe w ⟨he,hs⟩=>⟨he,?_⟩;have hni:Ck i∉i.drop 1:=by
     have:=hnd.ni;rw[hdec] at this;exact(nodup_cons.1 this).1
    have e1:D2 [i.drop 1,a,o] 2 (Ck i)=[i.drop 1,a,o++[Ck i]]:=by
     show[Aq _ _,Aq a _,Aq o _++[_]]=_;rw[Ax hni,Ax (hnd.io _ hm).1,Ax (hnd.io _ hm).2]
    rw[e1] at hs;have hs:=Cy hs;refine AP _ (An0 hg (λo w ho hs=>?_) _ _ w rfl hs);refine⟨Ck i,true,_,_,o,_,rfl,λ_=>?_,(λh=>by cases h),ho,λk=>?_,W9 hsub λx hx hne=>?_,hs⟩
    ·refine hp.trans ?_
     conv=>lhs;rw[hdec]
     exact List.Perm.refl _
    ·rw[W6];split
     ·omega
     ·exact hc k
    ·rw[hdec] at hx;exact(mem_cons.1 hx).resolve_left hne
 exact AP _ (loop _ i a m w rfl (by rw[hr.eq]) hr.cnt (by rw[<- hr.eq];exact hr.sub) hs)
theorem Adk(hs:Ab W w (Jx b c R::M)):Bh PR 361 #[pq b 0] w λv w'=>∃x d S,v = .tuple #[.s x,.b d]/\Hc c R x d S/\Ab W w' (Jx b c S::M):=by
 refine cw ⟨mixed,func361,rfl⟩ Auf ?_;refine Ah (Ta hs) λv w ⟨r,hs⟩=>⟨_,r,?_⟩;have B:=Ru hs
 with_reducible refine A3 (λI=>?_) (λI=>?_)
 ·exact⟨_,_,_,rfl,Hc.none B<|by omega,hs⟩
 obtain⟨i,a,o,m,q,l,C,hs⟩:=Ed hs;have P:=l.two;have j:∀(i a o:BL)(m:CM)(w:World),0<a.length->R.Perm (i++a)->o.length<=1024->(∀k,0<=C9 m k/\C9 m k<=3)->(∀e∈m,e.1∈i++a)->Ab W w (T6 b c q i a o m::M) ->
   call1 .str PR 374 [pq b 0] (λ(x:BA) w'=>∃y d S,(Value.tuple #[.s x,.b true]) = .tuple #[.s y,.b d]/\Hc c R y d S/\Ab W w' (Jx b c S::M)) w:=by
  clear hs;intro i a o m w J u z hc f hs;have n:=u.length_eq;rw[length_append] at n;refine Ah (Adm ⟨by omega,z⟩ J hc f hs) λv w ⟨x,a',G,r,D,E,p,hs⟩=>⟨_,r,?_⟩;have g:Hc c R x true (i++a'):=Hc.of_perm B (u.trans<|(List.Perm.append_left i D).trans List.perm_middle);exact⟨x,true,_,rfl,g,Db ⟨rfl,g.ok,z,E,p⟩ C hs⟩
 have H:∀(w:World)(t:Bool),(t=false->0<a.length)->Ab W w (T6 b c q i a o m::M) ->
   XC AU (λv w'=>∃x d S,v = .tuple #[.s x,.b d]/\Hc c R x d S/\Ab W w' (Jx b c S::M)) (some ⟨b,0,none⟩) t w:=by
  clear hs;intro w t F hs;refine jw Aa3 ?_;cases t with
  | true=>
   refine Am rfl ?_;refine AM (Y3 C l hs) λv w ⟨x,t,Q,a',L,G,r,N,F,z,hc,f,hs⟩=>⟨_,_,r,?_⟩;cases t with
   | true=>
    have g:=Hc.of_perm B (N rfl);exact Am rfl ⟨x,true,_,rfl,g,Db ⟨rfl,g.ok,z,hc,f⟩ C hs⟩
   | false=>
    obtain⟨u,rfl⟩:=F rfl;have n:=u.length_eq;rw[List.nil_append] at n;exact Ad rfl (j [] a' L G w (by omega) u z hc f hs)
  | false=>exact Ad rfl (j i a o m w (F rfl) (by rw[l.eq]) l.gh l.cnt (by rw[<- l.eq];exact l.sub) hs)
 obtain⟨s,xb,A,cb,hs⟩:=Df hs;refine An [cS b s xb c A q cb] hs λw hs=>?_;refine Aa (Au (x:=s)<|Au<|Aa<|Au ?_);refine Ak hs λnb w hs=>Ag hs ?_;refine AX BG (nr:=3) (K:=[i,a,o]) [0] (M:=cS b s xb c A q cb::ixr (Ap.int .i64) cb 0 m::M) (by exact Ab.fin hs) (by omega) rfl λw hs=>?_;refine Ag hs ?_;have hs:Ab W w (cS b s xb c A q cb::rowsC s xb 5000 [i,a,o]::ixr (Ap.int .i64) cb 0 m::M):=by exact Ab.fin hs
 refine As (λ_=>?_) (λ_=>?_)
 ·exact Ag hs (H w true (λh=>by cases h)<|Cy hs)
 ·refine Aa (Au (x:=s)<|Au ?_);refine Ak hs λnb w hs=>Ag hs ?_;refine AX BG (nr:=3) (K:=[i,a,o]) [1] (M:=cS b s xb c A q cb::ixr (Ap.int .i64) cb 0 m::M) (by exact Ab.fin hs) (by omega) rfl λw hs=>?_;have O:(BD [i,a,o] [1]:Int)=a.length:=by simp[BD]
  rw[O];refine H w _ (λh=>?_) (Cy<|by exact Ab.fin hs);have:¬(a.length:Int)=0:=by simpa using h
  omega
theorem Adl{S:BL}{g:BL}{l:Sl}(hR:DC c R)(hno:key∉R)(hz:key.size<64)(hrec:MP c R g S)(hs:Ab W w (Jx b c S::recs Ap.str l g::M)) :
  Ai9 AU (λv w'=>∃(hit:Bool) (l:Sl) (g S:BL),v = .tuple #[.b hit,.l l.a l.n l.c]/\Fh c R key hit g S/\Ab W w' (Jx b c S::recs Ap.str l g::M)) (some ⟨b,0,none⟩) key l w:=by
 refine jw Aa2 ?_;obtain⟨i,a,o,m,gh,h1,h2,hs⟩:=Ed hs;have h3:=h1.two;obtain⟨hnd,hmn⟩:=Tb hs;have hml:=h1.mlen hmn;have hnS:=hrec.not hno;have hni:key∉i:=λh=>hnS (by rw[h1.eq];exact mem_append_left _ h)
 have hna:key∉a:=λh=>hnS (by rw[h1.eq];exact mem_append_right _ h);obtain⟨s,xb,sm,cb,hs⟩:=Df hs;refine Aa (Af (x:=s) hs (Af hs ?_));refine Ao (Ei BG (K:=[i,a,o]) hs hz) λe w ⟨he,hs⟩=>⟨_,he,?_⟩;have hs:=Cy hs;have fin:∀(j:Nat)(w:World)(i' a' o':BL),j<2->D2 [i,a,o] j key=[i',a',o']->(i'++a').Perm (key::S)->o'.length<=1024->Ab W w (T6 b c gh i a o m::recs Ap.str l g::M) ->
   HT PR 371 [pq b 0,.i (j:Int),.s key,.i 0] (λw'=>∃(hit:Bool) (l2:Sl) (g2 S2:BL),(Value.tuple #[.b false,.l l.a l.n l.c]) = .tuple #[.b hit,.l l2.a l2.n l2.c]/\Fh c R key hit g2 S2/\Ab W w' (Jx b c S2::recs Ap.str l2 g2::M)) w:=by
  clear hs;intro j w i' a' o' hj e1 hp ho hs;refine Bf (MA (n:=0) hj hz ⟨by omega,h1.gh⟩ ⟨by omega,h1.msm⟩ hs) λv w ⟨hv,hs⟩=>⟨hv,?_⟩;have hs:=hs _ _ _ e1;have ha:=Fh.miss hR hno hz hrec hp;refine⟨false,l,g,_,rfl,ha,Db ⟨rfl,ha.ok,ho,λk=>?_,M1 (λe he=>hp.mem_iff.2 (.tail _ (h1.sub e he))) (hp.mem_iff.2 (.head _))⟩ h2 hs⟩;rw[I0];split
  ·omega
  ·exact h1.cnt k
 have hgo:=Bq o key;have hgh:=h1.gh;refine As (λ_=>?_) (λ_=>?_)
 ·exact fin 1 w i (a++[key]) (Aq o key) (by decide) (by show[Aq i _,Aq a _++[_],_]=_;rw[Ax hni,Ax hna]) (by rw[h1.eq];exact EV) (by omega) hs
 ·exact fin 0 w (i++[key]) a (Aq o key) (by decide) (by show[Aq i _++[_],Aq a _,_]=_;rw[Ax hni,Ax hna]) (by rw[h1.eq];exact D8) (by omega) hs
theorem Anx(hz:key.size<64)(hs:Ab W w (Jx b c R::M)):Bh PR 360 #[pq b 0,.s key] w λv w'=>∃(hit:Bool) (l:Sl) (g S:BL),v = .tuple #[.b hit,.l l.a l.n l.c]/\Fh c R key hit g S/\Ab W w' (Jx b c S::recs Ap.str l g::M):=by
 refine cw ⟨mixed,func360,rfl⟩ Aue ?_;have hk:=Ru hs;have hc1:=hk.c1;have hr:=hk.room
 refine Ad rfl ?_;refine Ah (Y2 hz hs) λv w ⟨hv,hs⟩=>⟨_,hv,?_⟩
 with_reducible refine A3 (λh0=>?_) (λh0=>?_)
 ·obtain⟨i,a,o,m,gh,h1,h2,hs⟩:=Ed hs;have hml:=h1.mlen (Tb hs).2;obtain⟨s,xb,sm,cb,hs⟩:=Df hs;refine Aa (Af hs ?_);refine AJ (QM hs (by omega)) λe w ⟨he,hs⟩=>⟨_,_,he,?_⟩;refine An [cS b s xb c sm gh cb] hs λw hs=>?_;refine Aa (Au ?_);have hc:=h1.cnt key;unfold C9 at hc;refine Ao (J6 hs (b:=3) (by decide) (by omega)) λe w ⟨he,hs⟩=>⟨_,he,Ag hs ?_⟩;refine Ao (XZ hs (by omega) h1.msm (by omega)) λe w ⟨he,hs⟩=>⟨_,he,?_⟩;have ha:=Fh.same hk h0 (List.Perm.refl R);have hi:0<=Ft ((AH m key).getD 0) 3/\Ft ((AH m key).getD 0) 3<=3:=by unfold Ft;split <;> omega
  refine⟨true,⟨none,0,0⟩,[],R,rfl,ha,(Ab.nilR Ap.str (Db ⟨h1.eq,h1.ok,h1.gh,λk=>?_,M1 h1.sub h0⟩ h2 (Cy hs))).perm (List.Perm.swap _ _ _)⟩;rw[I0];split
  ·exact hi
  ·exact h1.cnt k
 have last:∀(w:World)(l:Sl)(g S:BL),MP c R g S->(S.length:Int)<c->Ab W w (Jx b c S::recs Ap.str l g::M) ->
   QH AU (λv w'=>∃(hit:Bool) (l:Sl) (g S:BL),v = .tuple #[.b hit,.l l.a l.n l.c]/\Fh c R key hit g S/\Ab W w' (Jx b c S::recs Ap.str l g::M)) 1 (some ⟨b,0,none⟩) key l w:=by
  clear hs;intro w l g S hrec hl hs;rw[Ov];refine An [Jx b c S] hs λw hs=>?_;refine Aa (HF (k:=.int .i64) c (λw' h=>WK h) ?_);refine Ah (Ta hs) λv w ⟨hv,hs⟩=>⟨_,hv,Ag hs ?_⟩;refine Ad (decide_eq_false (by omega)) ?_;exact Adl hk h0 hz hrec hs
 refine AP 2 ?_;rw[Ov];have hs:=Ab.nilR Ap.str hs;have hs:Ab W w (Jx b c R::recs Ap.str ⟨none,0,0⟩ []::M):=by exact Ab.fin hs
 refine An [Jx b c R] hs λw hs=>?_;refine Aa (HF (k:=.int .i64) c (λw' h=>WK h) ?_);refine Ah (Ta hs) λv w ⟨hv,hs⟩=>⟨_,hv,Ag hs ?_⟩
 with_reducible refine A3 (λh1=>?_) (λh1=>?_)
 ·refine AM (Adk hs) λv w ⟨x,yes,S,hv,hev,hs⟩=>⟨_,_,hv,?_⟩;have hy:yes=true:=by rw[hev.says];exact decide_eq_true (by omega)
  subst hy;have hpl:=(hev.perm hk).length_eq;rw[length_cons] at hpl;refine Ak hs λnb w hs=>?_;refine D3 (s:=⟨none,0,0⟩) (a:=x) hs rfl rfl rfl rfl (by decide) (by simp) λs2 w hs2 hs=>?_;exact last w s2 [x] S (.inr ⟨x,rfl,hev,by omega⟩) (by omega) (by exact Ab.fin hs)
 ·exact Adl (l:=⟨none,0,0⟩) hk h0 hz (.inl ⟨rfl,rfl,by omega⟩) hs
theorem A5u(hz:key.size<64)(hs:Ab W w (Jx b c R::M)):Bh PR 366 #[pq b 0,.s key] w λv w'=>∃(yes:Bool) (S:BL),v = .b yes/\Dz c R key yes S/\Ab W w' (Jx b c S::M):=by
 refine cw ⟨mixed,func366,rfl⟩ Auj ?_;have hk:=Ru hs;have hr:=hk.room;refine An [Jx b c R] hs λw hs=>?_;refine Ad rfl ?_;refine Ah (Y2 hz hs) λv w ⟨hv,hs⟩=>⟨_,hv,Ag hs ?_⟩
 with_reducible refine A3 (λh1=>?_) (λh1=>?_)
 ·exact Ag hs ⟨false,R,rfl,Dz.no hk (λh=>h.1 h1),hs⟩
 refine Aa (HF (k:=.int .i64) c (λw' h=>WK h) ?_);refine Ah (Ta hs) λv w ⟨hv,hs⟩=>⟨_,hv,Ag hs ?_⟩
 with_reducible refine A3 (λh2=>?_) (λh2=>?_)
 ·exact⟨false,R,rfl,Dz.no hk (λh=>by omega),hs⟩
 obtain⟨i,a,o,m,gh,h3,h4,hs⟩:=Ed hs;have h5:=h3.two;have hml:=h3.mlen (Tb hs).2;refine Bf (MA (j:=1) (n:=0) (by decide) hz ⟨by omega,h3.gh⟩ ⟨by omega,h3.msm⟩ hs) λv w ⟨hv,hs⟩=>⟨hv,?_⟩;have e1:D2 [i,a,o] 1 key=[i,a++[key],Aq o key]:=by
  show[Aq i _,Aq a _++[_],Aq o _]=_;rw[Ax (show key∉i from λh=>h1 (by rw[h3.eq];exact mem_append_left _ h)),Ax (show key∉a from λh=>h1 (by rw[h3.eq];exact mem_append_right _ h))]
 have hs:=hs _ _ _ e1;have hp:(i++(a++[key])).Perm (key::R):=by rw[h3.eq];exact EV
 have hl:=Dz.yes hk hz h1 (by omega) hp;have hgo:=Bq o key;have hgh:=h3.gh;refine⟨true,_,rfl,hl,Db ⟨rfl,hl.ok,by omega,λk=>?_,M1 (λe he=>hp.mem_iff.2 (.tail _ (h3.sub e he))) (hp.mem_iff.2 (.head _))⟩ h4 hs⟩;rw[I0];split
 ·omega
 ·exact h3.cnt k
theorem Anz(hz:key.size<64)(hs:Ab W w (Jx b c R::M)):Bh PR 367 #[pq b 0,.s key] w λv w'=>∃(yes:Bool) (S:BL),v = .b yes/\Gf c R key yes S/\Ab W w' (Jx b c S::M):=by
 refine cw ⟨mixed,func367,rfl⟩ Auk ?_;have hk:=Ru hs;refine Ah (Y2 hz hs) λv w ⟨hv,hs⟩=>⟨_,hv,?_⟩
 by_cases h1:key∈R
 ·refine Ad (by rw[decide_eq_true h1];rfl) ?_;obtain⟨i,a,o,m,gh,h3,h4,hs⟩:=Ed hs;have hml:=h3.mlen (Tb hs).2;refine Bf (Y4 hz (by omega) hs) λv w ⟨hv,hs⟩=>⟨hv,?_⟩;have hgo:=Bq o key;have hgh:=h3.gh;have heq:=h3.eq;have hsub:=h3.sub;rw[heq] at hk h1 hsub;have hr:=Gf.cut2 hk h1;rw[<- heq] at hr;refine⟨true,_,rfl,hr,Db ⟨rfl,hr.ok,by omega,λk=>?_,W9 hsub λx hx hne=>?_⟩ h4 hs⟩
  ·rw[W6];split
   ·omega
   ·exact h3.cnt k
  ·rw[hr.mem,heq];exact⟨hx,hne⟩
 ·refine Am (by rw[decide_eq_false h1];rfl) ⟨false,R,rfl,Gf.no hk h1,hs⟩
end
end Go.Proofs.YtjipofkjmmpjdaaGreat
namespace Go.Hb
open Go.Proofs.YtjipofkjmmpjdaaGreat
def eg(t b:Nat)(c:Int)(R:BL):HP:=if t=223 then LA b c R else if t=225 then Rs b c R else if t=227 then Lx b c R else if t=229 then N7 b c R else Fs (t=231) (Jx b c R)
section
variable{W w:World}{M L:List HP}{t b:Nat}{c:Int}{R:BL}{key:BA}
theorem Fi(h:Ab W w (eg t b c R::M)){C:Prop}(i:t=223->Ab W w (LA b c R::M)->C)(j:t=225->Ab W w (Rs b c R::M)->C)(k:t=227->Ab W w (Lx b c R::M)->C)(l:t=229->Ab W w (N7 b c R::M)->C)(m:t=231->Ab W w (Jx b c R::M)->C):C:=by
 unfold eg at h
 by_cases a:t=223
 ·simp only[a] at h;exact i a h
 rw[if_neg a] at h
 by_cases d:t=225
 ·simp only[d] at h;exact j d h
 rw[if_neg d] at h
 by_cases f:t=227
 ·simp only[f] at h;exact k f h
 rw[if_neg f] at h
 by_cases g:t=229
 ·simp only[g] at h;exact l g h
 rw[if_neg g] at h;obtain⟨e,h⟩:=h.openA;exact m e h
theorem I4(h:Ab W w (LA b c R::M)):Ab W w (eg 223 b c R::M):=h
theorem I5(h:Ab W w (Rs b c R::M)):Ab W w (eg 225 b c R::M):=h
theorem I6(h:Ab W w (Lx b c R::M)):Ab W w (eg 227 b c R::M):=h
theorem I7(h:Ab W w (N7 b c R::M)):Ab W w (eg 229 b c R::M):=h
theorem I8(h:Ab W w (Jx b c R::M)):Ab W w (eg 231 b c R::M):=Ab.shutA (c:=(231:Nat)=231) rfl h
theorem Ap1(h:Ab W w (eg t b c R::M)):DC c R:=Fi h (λ_ h=>WG h) (λ_ h=>A8d h) (λ_ h=>Rr h) (λ_ h=>WL h) (λ_ h=>Ru h)
end
end Go.Hb
namespace Go.Proofs.YtjipofkjmmpjdaaGreat
open Go.Hb Go.IntWalk
theorem By{t:TypeId}{b:Nat}{a:String}{f:FuncId}{c:Func}{C:FuncId->VW}{w:World}(d:Jm PR f c)(e:∀b w',(method (PR.types.size+Made.depth) t (pq b 0) a).run PR w' = .ok (f,pq b 0) w')(g:c.body.isSome=true)(h:Lb c.name=true)(i:C f (pq b 0) w):Fu PR t (pq b 0) a C w:=⟨f,c,⟨b,rfl⟩,e,d.func,g,h,i⟩
section
variable{W w:World}{M L:List HP}{t b:Nat}{c:Int}{R:BL}{key:BA}{C:FuncId->VW}
theorem Ay7 (hs : Ab W w (eg t b c R :: M)) (a : ∀ f, Bh PR f #[.p (some ⟨b, 0, none⟩)] w (fun v w' => v = .i c ∧ Ab W w' (eg t b c R :: M)) → C f (.p (some ⟨b, 0, none⟩)) w) : Fu PR t (.p (some ⟨b, 0, none⟩)) "Room" C w := by
 refine Fi hs ?_ ?_ ?_ ?_ ?_ <;> (rintro rfl hs)
 ·exact By ⟨mixed,func254,rfl⟩ (λ_ _=>by kernel_rfl) rfl rfl (a _ ((Ayj hs).mono λv w h=>⟨h.1,I4 h.2⟩))
 ·exact By ⟨mixed,func279,rfl⟩ (λ_ _=>by kernel_rfl) rfl rfl (a _ ((A46 hs).mono λv w h=>⟨h.1,I5 h.2⟩))
 ·exact By ⟨mixed,func308,rfl⟩ (λ_ _=>by kernel_rfl) rfl rfl (a _ ((A6h hs).mono λv w h=>⟨h.1,I6 h.2⟩))
 ·exact By ⟨mixed,func331,rfl⟩ (λ_ _=>by kernel_rfl) rfl rfl (a _ ((A6m hs).mono λv w h=>⟨h.1,I7 h.2⟩))
 ·exact By ⟨mixed,func368,rfl⟩ (λ_ _=>by kernel_rfl) rfl rfl (a _ ((A5v hs).mono λv w h=>⟨h.1,I8 h.2⟩))
theorem Aex (hs : Ab W w (eg t b c R :: M)) (a : ∀ f, Bh PR f #[.p (some ⟨b, 0, none⟩)] w (fun v w' => v = .i (R.length : Int) ∧ Ab W w' (eg t b c R :: M)) → C f (.p (some ⟨b, 0, none⟩)) w) : Fu PR t (.p (some ⟨b, 0, none⟩)) "Len" C w := by
 refine Fi hs ?_ ?_ ?_ ?_ ?_ <;> (rintro rfl hs)
 ·exact By ⟨mixed,func251,rfl⟩ (λ_ _=>by kernel_rfl) rfl rfl (a _ ((Aej hs).mono λv w h=>⟨h.1,I4 h.2⟩))
 ·exact By ⟨mixed,func276,rfl⟩ (λ_ _=>by kernel_rfl) rfl rfl (a _ ((A93 hs).mono λv w h=>⟨h.1,I5 h.2⟩))
 ·exact By ⟨mixed,func305,rfl⟩ (λ_ _=>by kernel_rfl) rfl rfl (a _ ((YG hs).mono λv w h=>⟨h.1,I6 h.2⟩))
 ·exact By ⟨mixed,func328,rfl⟩ (λ_ _=>by kernel_rfl) rfl rfl (a _ ((Ahm hs).mono λv w h=>⟨h.1,I7 h.2⟩))
 ·exact By ⟨mixed,func365,rfl⟩ (λ_ _=>by kernel_rfl) rfl rfl (a _ ((Ta hs).mono λv w h=>⟨h.1,I8 h.2⟩))
theorem WH (a : key.size < 64) (hs : Ab W w (eg t b c R :: M)) (d : ∀ f, Bh PR f #[.p (some ⟨b, 0, none⟩), .s key] w (fun v w' => v = .b (decide (key ∈ R)) ∧ Ab W w' (eg t b c R :: M)) → C f (.p (some ⟨b, 0, none⟩)) w) : Fu PR t (.p (some ⟨b, 0, none⟩)) "Has" C w := by
 refine Fi hs ?_ ?_ ?_ ?_ ?_ <;> (rintro rfl hs)
 ·exact By ⟨mixed,func249,rfl⟩ (λ_ _=>by kernel_rfl) rfl rfl (d _ ((Aei a hs).mono λv w h=>⟨h.1,I4 h.2⟩))
 ·exact By ⟨mixed,func274,rfl⟩ (λ_ _=>by kernel_rfl) rfl rfl (d _ ((A92 a hs).mono λv w h=>⟨h.1,I5 h.2⟩))
 ·exact By ⟨mixed,func303,rfl⟩ (λ_ _=>by kernel_rfl) rfl rfl (d _ ((Ahk a hs).mono λv w h=>⟨h.1,I6 h.2⟩))
 ·exact By ⟨mixed,func326,rfl⟩ (λ_ _=>by kernel_rfl) rfl rfl (d _ ((Ahl a hs).mono λv w h=>⟨h.1,I7 h.2⟩))
 ·exact By ⟨mixed,func363,rfl⟩ (λ_ _=>by kernel_rfl) rfl rfl (d _ ((Y2 a hs).mono λv w h=>⟨h.1,I8 h.2⟩))
theorem Ah8 (hs : Ab W w (eg t b c R :: M)) (i : ∀ f, Bh PR f #[.p (some ⟨b, 0, none⟩)] w (fun v w' => ∃ (l : Sl) (ks : BL), v = .l l.a l.n l.c ∧ ks.Perm R ∧ Ab W w' (eg t b c R :: recs Ap.str l ks :: M)) → C f (.p (some ⟨b, 0, none⟩)) w) : Fu PR t (.p (some ⟨b, 0, none⟩)) "Keys" C w := by
 refine Fi hs ?_ ?_ ?_ ?_ ?_ <;> (rintro rfl hs)
 ·exact By ⟨mixed,func250,rfl⟩ (λ_ _=>by kernel_rfl) rfl rfl (i _ ((Ayh hs).mono λv w h=>let ⟨l,ks,d,e,g⟩:=h;⟨l,ks,d,e,I4 g⟩))
 ·exact By ⟨mixed,func275,rfl⟩ (λ_ _=>by kernel_rfl) rfl rfl (i _ ((A44 hs).mono λv w h=>let ⟨l,ks,d,e,g⟩:=h;⟨l,ks,d,e,I5 g⟩))
 ·exact By ⟨mixed,func304,rfl⟩ (λ_ _=>by kernel_rfl) rfl rfl (i _ ((A6f hs).mono λv w h=>let ⟨l,ks,d,e,g⟩:=h;⟨l,ks,d,e,I6 g⟩))
 ·exact By ⟨mixed,func327,rfl⟩ (λ_ _=>by kernel_rfl) rfl rfl (i _ ((A6k hs).mono λv w h=>let ⟨l,ks,d,e,g⟩:=h;⟨l,ks,d,e,I7 g⟩))
 ·exact By ⟨mixed,func364,rfl⟩ (λ_ _=>by kernel_rfl) rfl rfl (i _ ((A5t hs).mono λv w h=>let ⟨l,ks,d,e,g⟩:=h;⟨l,ks,d,e,I8 g⟩))
theorem Zd (hs : Ab W w (eg t b c R :: M)) (g : ∀ f, Bh PR f #[.p (some ⟨b, 0, none⟩)] w (fun v w' => ∃ x i S, v = .tuple #[.s x, .bool i] ∧ Hc c R x i S ∧ Ab W w' (eg t b c S :: M)) → C f (.p (some ⟨b, 0, none⟩)) w) : Fu PR t (.p (some ⟨b, 0, none⟩)) "Evict" C w := by
 refine Fi hs ?_ ?_ ?_ ?_ ?_ <;> (rintro rfl hs)
 ·exact By ⟨mixed,func247,rfl⟩ (λ_ _=>by kernel_rfl) rfl rfl (g _ ((Ao2 hs).mono λv w h=>let ⟨x,y,S,a,d,e⟩:=h;⟨x,y,S,a,d,I4 e⟩))
 ·exact By ⟨mixed,func272,rfl⟩ (λ_ _=>by kernel_rfl) rfl rfl (g _ ((Avx hs).mono λv w h=>let ⟨x,y,S,a,d,e⟩:=h;⟨x,y,S,a,d,I5 e⟩))
 ·exact By ⟨mixed,func301,rfl⟩ (λ_ _=>by kernel_rfl) rfl rfl (g _ ((Ad2 hs).mono λv w h=>let ⟨x,y,S,a,d,e⟩:=h;⟨x,y,S,a,d,I6 e⟩))
 ·exact By ⟨mixed,func324,rfl⟩ (λ_ _=>by kernel_rfl) rfl rfl (g _ ((Ax1 hs).mono λv w h=>let ⟨x,y,S,a,d,e⟩:=h;⟨x,y,S,a,d,I7 e⟩))
 ·exact By ⟨mixed,func361,rfl⟩ (λ_ _=>by kernel_rfl) rfl rfl (g _ ((Adk hs).mono λv w h=>let ⟨x,y,S,a,d,e⟩:=h;⟨x,y,S,a,d,I8 e⟩))
theorem HX (j : key.size < 64) (hs : Ab W w (eg t b c R :: M)) (k : ∀ f, Bh PR f #[.p (some ⟨b, 0, none⟩), .s key] w (fun v w' => ∃ (m : Bool) (l : Sl) (g S : BL), v = .tuple #[.b m, .l l.a l.n l.c] ∧ Fh c R key m g S ∧ Ab W w' (eg t b c S :: recs Ap.str l g :: M)) → C f (.p (some ⟨b, 0, none⟩)) w) : Fu PR t (.p (some ⟨b, 0, none⟩)) "Access" C w := by
 refine Fi hs ?_ ?_ ?_ ?_ ?_ <;> (rintro rfl hs)
 ·exact By ⟨mixed,func246,rfl⟩ (λ_ _=>by kernel_rfl) rfl rfl (k _ ((Ak6 j hs).mono λv w h=>let ⟨x,y,z,S,d,e,i⟩:=h;⟨x,y,z,S,d,e,I4 i⟩))
 ·exact By ⟨mixed,func271,rfl⟩ (λ_ _=>by kernel_rfl) rfl rfl (k _ ((Am2 j hs).mono λv w h=>let ⟨x,y,z,S,d,e,i⟩:=h;⟨x,y,z,S,d,e,I5 i⟩))
 ·exact By ⟨mixed,func300,rfl⟩ (λ_ _=>by kernel_rfl) rfl rfl (k _ ((Aoi j hs).mono λv w h=>let ⟨x,y,z,S,d,e,i⟩:=h;⟨x,y,z,S,d,e,I6 i⟩))
 ·exact By ⟨mixed,func323,rfl⟩ (λ_ _=>by kernel_rfl) rfl rfl (k _ ((Aol j hs).mono λv w h=>let ⟨x,y,z,S,d,e,i⟩:=h;⟨x,y,z,S,d,e,I7 i⟩))
 ·exact By ⟨mixed,func360,rfl⟩ (λ_ _=>by kernel_rfl) rfl rfl (k _ ((Anx j hs).mono λv w h=>let ⟨x,y,z,S,d,e,i⟩:=h;⟨x,y,z,S,d,e,I8 i⟩))
theorem Ah9 (g : key.size < 64) (hs : Ab W w (eg t b c R :: M)) (i : ∀ f, Bh PR f #[.p (some ⟨b, 0, none⟩), .s key] w (fun v w' => ∃ (j : Bool) (S : BL), v = .b j ∧ Dz c R key j S ∧ Ab W w' (eg t b c S :: M)) → C f (.p (some ⟨b, 0, none⟩)) w) : Fu PR t (.p (some ⟨b, 0, none⟩)) "Load" C w := by
 refine Fi hs ?_ ?_ ?_ ?_ ?_ <;> (rintro rfl hs)
 ·exact By ⟨mixed,func252,rfl⟩ (λ_ _=>by kernel_rfl) rfl rfl (i _ ((Ayi g hs).mono λv w h=>let ⟨y,S,a,d,e⟩:=h;⟨y,S,a,d,I4 e⟩))
 ·exact By ⟨mixed,func277,rfl⟩ (λ_ _=>by kernel_rfl) rfl rfl (i _ ((A45 g hs).mono λv w h=>let ⟨y,S,a,d,e⟩:=h;⟨y,S,a,d,I5 e⟩))
 ·exact By ⟨mixed,func306,rfl⟩ (λ_ _=>by kernel_rfl) rfl rfl (i _ ((A6g g hs).mono λv w h=>let ⟨y,S,a,d,e⟩:=h;⟨y,S,a,d,I6 e⟩))
 ·exact By ⟨mixed,func329,rfl⟩ (λ_ _=>by kernel_rfl) rfl rfl (i _ ((A6l g hs).mono λv w h=>let ⟨y,S,a,d,e⟩:=h;⟨y,S,a,d,I7 e⟩))
 ·exact By ⟨mixed,func366,rfl⟩ (λ_ _=>by kernel_rfl) rfl rfl (i _ ((A5u g hs).mono λv w h=>let ⟨y,S,a,d,e⟩:=h;⟨y,S,a,d,I8 e⟩))
theorem Ka (g : key.size < 64) (hs : Ab W w (eg t b c R :: M)) (i : ∀ f, Bh PR f #[.p (some ⟨b, 0, none⟩), .s key] w (fun v w' => ∃ (j : Bool) (S : BL), v = .b j ∧ Gf c R key j S ∧ Ab W w' (eg t b c S :: M)) → C f (.p (some ⟨b, 0, none⟩)) w) : Fu PR t (.p (some ⟨b, 0, none⟩)) "Remove" C w := by
 refine Fi hs ?_ ?_ ?_ ?_ ?_ <;> (rintro rfl hs)
 ·exact By ⟨mixed,func253,rfl⟩ (λ_ _=>by kernel_rfl) rfl rfl (i _ ((Ak7 g hs).mono λv w h=>let ⟨y,S,a,d,e⟩:=h;⟨y,S,a,d,I4 e⟩))
 ·exact By ⟨mixed,func278,rfl⟩ (λ_ _=>by kernel_rfl) rfl rfl (i _ ((Am3 g hs).mono λv w h=>let ⟨y,S,a,d,e⟩:=h;⟨y,S,a,d,I5 e⟩))
 ·exact By ⟨mixed,func307,rfl⟩ (λ_ _=>by kernel_rfl) rfl rfl (i _ ((Aoj g hs).mono λv w h=>let ⟨y,S,a,d,e⟩:=h;⟨y,S,a,d,I6 e⟩))
 ·exact By ⟨mixed,func330,rfl⟩ (λ_ _=>by kernel_rfl) rfl rfl (i _ ((Aom g hs).mono λv w h=>let ⟨y,S,a,d,e⟩:=h;⟨y,S,a,d,I7 e⟩))
 ·exact By ⟨mixed,func367,rfl⟩ (λ_ _=>by kernel_rfl) rfl rfl (i _ ((Anz g hs).mono λv w h=>let ⟨y,S,a,d,e⟩:=h;⟨y,S,a,d,I8 e⟩))
theorem Ab7{k j:Int}(e:(k==j)=true)(h:0<=j/\j<5):0<=k/\k<5:=by rw[beq_iff_eq.1 e];exact h
theorem WI(hs:Ab W w L){k r:Int}{N:Int->WP}{K:TypeId->Value->Int->WP}(f:(k<0\/5<=k)->∀w,Ab W w L->N 4 w)(g:0<=k->k<5->∀(t b:Nat)(w:World),Ab W w (eg t b (Ba r) []::L)->K t (pq b 0) 0 w):Rh (.int .i64) PR 113 [.i k,.i r] N K w:=by
 refine(cw ⟨mixed,func113,rfl⟩ Aqc (Q:=λv w'=>(v = .tuple #[.nilIface,.i 4]/\(k<0\/5<=k)/\Ab W w' L)\/∃t b:Nat,v = .tuple #[.iface t<|pq b 0,.i 0]/\(0<=k/\k<5)/\Ab W w' (eg t b (Ba r) []::L)) ?_).mono λe w' ⟨v,d,h⟩=>?_
 ·skip;refine As (λe=>?_) λj=>?_
  ·exact Ah (A7s hs) λv w ⟨b,a,hs⟩=>⟨_,a,.inr ⟨_,b,rfl,Ab7 e<|by decide,I4 hs⟩⟩
  refine As (λe=>?_) λl=>?_
  ·exact Ah (A94 hs) λv w ⟨b,a,hs⟩=>⟨_,a,.inr ⟨_,b,rfl,Ab7 e<|by decide,I5 hs⟩⟩
  refine As (λe=>?_) λm=>?_
  ·exact Ah (Bbh hs) λv w ⟨b,a,hs⟩=>⟨_,a,.inr ⟨_,b,rfl,Ab7 e<|by decide,I6 hs⟩⟩
  refine As (λe=>?_) λn=>?_
  ·exact Ah (Bbi hs) λv w ⟨b,a,hs⟩=>⟨_,a,.inr ⟨_,b,rfl,Ab7 e<|by decide,I7 hs⟩⟩
  refine As (λe=>?_) λo=>?_
  ·exact Ah (Baq hs) λv w ⟨b,a,hs⟩=>⟨_,a,.inr ⟨_,b,rfl,Ab7 e<|by decide,I8 hs⟩⟩
  simp only[beq_eq_false_iff_ne] at j l m n o;exact .inl ⟨rfl,by omega,hs⟩
 ·rcases h with⟨rfl,c,hs⟩|⟨t,b,rfl,c,hs⟩
  ·exact .inl ⟨_,d,f c _ hs⟩
  ·exact .inr ⟨_,_,_,d,g c.1 c.2 _ _ _ hs⟩
end
end Go.Proofs.YtjipofkjmmpjdaaGreat
namespace Go.Hb
open Go.Proofs.YtjipofkjmmpjdaaGreat
section
variable{W w:World}{L:List HP}{F:HP->List HP}{b o:Nat}{cs:List Value}
theorem Fx{t:TypeId}{v:Value}{N:WP}{K:TypeId->VW}(h:Ab W w L)[hA:At L b (Hb.blk b cs) F](a:K t v w)(hc:cs[o]? = some (.iface t v):=by exact rfl):Mk b o N K w:=
 At.one (hA:=hA) h λ_ h _=>by unfold Mk;rw[(h.cell (q:=0) rfl).trans hc];exact a
theorem Bcj{N:WP}{K:TypeId->VW}(h:Ab W w L)[hA:At L b (Hb.blk b cs) F](a:N w)(hc:cs[o]? = some .nilIface:=by exact rfl):Mk b o N K w:=
 At.one (hA:=hA) h λ_ h _=>by unfold Mk;rw[(h.cell (q:=0) rfl).trans hc];exact a
theorem Sn{t:TypeId}{v:Value}{N:WP}{K:TypeId->VW}[hA:At L b (Hb.blk b cs) F](a:K t v w)(hc:cs[o]? = some (.iface t v):=by exact rfl):Agl (λw'=>Ab W w' L) b o N K w:=
 .inr ⟨t,v,λw' h=>At.one (hA:=hA) h λ_ h _=>(h.cell (q:=0) rfl).trans hc,a⟩
end
abbrev m0(b:Nat)(k c:Int)(t e:Nat):HP:=blk b [.i k,.i c,.iface t<|pq e 0,.nilIface]
abbrev m1(b:Nat)(k c:Int)(t e u q:Nat):HP:=blk b [.i k,.i c,.iface t<|pq e 0,.iface u<|pq q 0]
def mvG(b:Nat)(k r c:Int)(R:BL):Option Nat->HP
 | none=>Ly λ(z:Nat×Nat)=>Fs ((0<=k/\k<5)/\DC c R) (AN [m0 b k r z.1 z.2,eg z.1 z.2 c R])
 | some n=>Ly λ(z:(Nat×Nat×Nat×Nat)×BL×BL)=>Fs ((0<=k/\k<5)/\DC c R/\R=z.2.1++z.2.2/\z.2.2.length=n) (AN [m1 b k r z.1.1 z.1.2.1 z.1.2.2.1 z.1.2.2.2,eg z.1.1 z.1.2.1 c z.2.1,eg z.1.2.2.1 z.1.2.2.2 c z.2.2])
abbrev FZ(b:Nat)(k c:Int)(R:BL)(o:Option Nat):HP:=mvG b k c c R o
def KK:Option Nat->Option Nat->Prop
 | none,none=>True
 | some n,some m=>n<=m
 | _,_=>False
abbrev Ev:=Int×BA
def Gi:Ap Ev:=⟨2,λe=>[.i e.1,.s e.2],λ_=>rfl⟩
instance:HQ Gi:=⟨by decide⟩
section
variable{W w:World}{M L:List HP}{b t e u q n:Nat}{c k r:Int}{R A B S:BL}{key:BA}{o:Option Nat}
theorem KK.refl:KK o o:=by cases o <;> simp[KK]
theorem Dr(h:Ab W w (mvG b k r c R o::M)){C:Prop}(d:∀t e,(0<=k/\k<5)->DC c R->o=none->Ab W w (m0 b k r t e::eg t e c R::M)->C)
  (f:∀t e u q A B,(0<=k/\k<5)->DC c R->R=A++B->o=some B.length->Ab W w (m1 b k r t e u q::eg t e c A::eg u q c B::M)->C):C:=by
 cases o with
 | none=>
  obtain⟨⟨t,e⟩,h⟩:=h.openE;obtain⟨a,h⟩:=h.openA;exact d t e a.1 a.2 rfl h.openL
 | some n=>
  obtain⟨⟨⟨t,e,u,q⟩,A,B⟩,h⟩:=h.openE;obtain⟨a,h⟩:=h.openA;exact f t e u q A B a.1 a.2.1 a.2.2.1 (by rw[a.2.2.2]) h.openL
theorem DH(a:0<=k/\k<5)(d:DC c R)(h:Ab W w (m0 b k r t e::eg t e c R::M)):Ab W w (mvG b k r c R none::M):=Ab.shutE (t,e) (Ab.shutA ⟨a,d⟩<|Ab.shutL (Ps:=[_,_]) h)
theorem EA(a:0<=k/\k<5)(d:DC c R)(hR:R=A++B)(f:B.length=n)(h:Ab W w (m1 b k r t e u q::eg t e c A::eg u q c B::M)):Ab W w (mvG b k r c R (some n)::M):=
 Ab.shutE ((t,e,u,q),A,B) (Ab.shutA ⟨a,d,hR,f⟩<|Ab.shutL (Ps:=[_,_,_]) h)
theorem OM(h:Ab W w (mvG b k r c R o::M)):DC c R:=Dr h (λ_ _ _ a _ _=>a) (λ_ _ _ _ _ _ _ a _ _ _=>a)
theorem A65(h:Ab W w (mvG b k r c R o::M)):0<=k/\k<5:=Dr h (λ_ _ h _ _ _=>h) (λ_ _ _ _ _ _ h _ _ _ _=>h)
theorem A5g(h:Ab W w (mvG b k r c R o::M)){n:Nat}(a:o=some n):n<=R.length:=Dr h (λ_ _ _ _ d _=>by rw[d] at a;cases a) (λ_ _ _ _ A B _ _ hR d _=>by rw[d] at a;cases a;rw[hR];simp)
theorem DC.same(h:DC c R)(a:S.Nodup)(b:∀x,x∈S↔x∈R):DC c S:=h.perm (De a h.nd b)
theorem Awz(h:DC c R)(a:S.Nodup)(b:∀x,x∈S↔x∈R):S.length=R.length:=(De a h.nd b).length_eq
def EvS(c:Int)(R:BL)(e:Ev)(K:BL):Prop:=DC c K/\∀x,x∈K↔(if e.1=2 then x∈R\/x=e.2 else if e.1=3 then x∈R/\x≠e.2 else x∈R)
structure A7p(c:Int)(R:BL)(k:BA)(g S:BL):Prop where
 ok:DC c S
 has:k∈R->g=[]/\∀x,x∈S↔x∈R
 sub:∀x∈g,x∈R
 nd:g.Nodup
 no:k∉g
 mem:∀x,x∈S↔(x∈R/\x∉g)\/x=k
 calm:(R.length:Int)<c->g=[]
theorem Av8{g:BL}(h:g.length<=1):g.Nodup:=by
 match g,h with
 | [],_=>simp
 | [x],_=>simp
theorem Yo(hA:A.Nodup)(hB:B.Nodup)(c:∀x∈A,x∉B):(A++B).Nodup:=nodup_append.2 ⟨hA,hB,λa d b f e=>c a d<|e ▸ f⟩
theorem Mu{a b:BL}(c:a.Nodup)(d:∀k∈a,k∈b):a.length<=b.length:=EB c d
theorem Fh.ins{a:Bool}{g:BL}{k:BA}(h:Fh c R k a g S):A7p c R k g S:=
 ⟨h.ok,λb=>by
  have d:g=[]:=h.acc.calm (by rw[h.acc.hits];exact decide_eq_true b);refine⟨d,λx=>?_⟩;rw[h.acc.mem,d];constructor
  ·rintro(h|rfl)
   ·exact h.1
   ·exact b
  ·exact λh=>.inl ⟨h,by simp⟩,h.acc.sub,Av8 h.acc.le1,h.acc.no,h.acc.mem,h.calm⟩
theorem Bcn{b B':BL}{v q:Bool}(g:DC c (A++B))(hB:key∈B)(e:Gf c B key v B')(i:Dz c A key q b):(∀x,x∈b++B'↔x∈A++B)/\DC c (b++B')/\key∈b/\B'.length+1=B.length:=by
 have f:=nodup_append.1 g.nd;have a:∀x∈A,x∉B:=λx w j=>f.2.2 x w x j rfl;have k:=g.room;have r:=List.length_pos_of_mem hB;have l:key∉A:=λh=>a _ h hB;have m:q=true:=by rw[i.says];exact decide_eq_true ⟨l,by simp only[length_append] at k;omega⟩
 have d:∀x,x∈b↔x∈A\/x=key:=λx=>by rw[i.mem,m];simp
 have s:∀x,x∈b++B'↔x∈A++B:=λx=>by
  rw[mem_append,d,e.mem,mem_append];constructor
  ·rintro((h|h)|h)
   ·exact .inl h
   ·exact .inr (h ▸ hB)
   ·exact .inr h.1
  ·rintro(h|h)
   ·exact .inl (.inl h)
   ·by_cases t:x=key
    ·exact .inl (.inr t)
    ·exact .inr ⟨h,t⟩
 have n:∀x∈b,x∉B':=λx j u=>by
  rcases(d x).1 j with o|o
  ·exact a x o ((e.mem x).1 u).1
  ·exact((e.mem x).1 u).2 o
 have p:=(Lg f.2.1 e.ok.nd hB e.mem).length_eq;simp only[length_cons] at p;exact⟨s,g.same (Yo i.ok.nd e.ok.nd n) s,(d key).2 (.inr rfl),by omega⟩
theorem A4s{A B k g l:BL}{o:Bool}(hR:DC c R)(b:key∉R)(hA:A.Nodup)(hB:B.Nodup)(w:∀x∈A,x∉B)(e:∀x∈k,x∈R)(a:∀x,x∈A++B↔x∈R/\x∉k)(p:k.length<=1)
  (f:(R.length:Int)<c->k=[]) (i:(A.length:Int)+B.length<c\/(B=[]/\k=[])) (d:Fh c A key o g l):A7p c R key (k++g) (l++B):=by
 have y:key∉A:=λh=>b ((a key).1 (mem_append_left _ h)).1;have q:key∉B:=λh=>b ((a key).1 (mem_append_right _ h)).1;have m:∀x∈l,x∉B:=λx z v=>by
  rcases(d.acc.mem x).1 z with r|r
  ·exact w x r.1 v
  ·exact q (r ▸ v)
 have s:=Yo d.ok.nd hB m;rcases i with C|⟨rfl,rfl⟩
 ·have D:g=[]:=d.calm (by omega);subst D;have E:l.length<=A.length+1:=by
   have hs:∀x∈l,x∈key::A:=λx n=>by
    rcases(d.acc.mem x).1 n with h|h
    ·exact .tail _ h.1
    ·exact h ▸ .head _
   have:=EB d.ok.nd hs;simpa using this
  have t:DC c (l++B):=⟨s,λx n=>by
   rcases mem_append.1 n with h|h
   ·exact d.ok.small x h
   ·exact hR.small x ((a x).1 (mem_append_right _ h)).1,by simp only[length_append];omega,hR.c1,hR.c2⟩
  rw[append_nil];refine⟨t,λh=>absurd h b,e,Av8 p,λh=>b<|e _ h,λx=>?_,f⟩;rw[mem_append,d.acc.mem];have:=a x;rw[mem_append] at this;constructor
  ·rintro((h|h)|h)
   ·exact .inl (this.1 (.inl h.1))
   ·exact .inr h
   ·exact .inl (this.1 (.inr h))
  ·rintro(h|h)
   ·rcases this.2 h with h|h
    ·exact .inl (.inl ⟨h,by simp⟩)
    ·exact .inr h
   ·exact .inl (.inr h)
 ·rw[append_nil,List.nil_append];have u:∀x,x∈A↔x∈R:=λx=>by have:=a x;rw[append_nil] at this;rw[this];simp
  have j:=d.ins;have F:A.length=R.length:=Awz hR hA u;refine⟨d.ok,λh=>absurd h b,λx n=>(u x).1 (j.sub x n),j.nd,j.no,λx=>?_,λh=>d.calm<|by omega⟩;rw[d.acc.mem,u]
theorem Aws(h:DC c R):Ba c=c:=by have:=h.c1;have:=h.c2;unfold Ba;omega
theorem Bao(r:Int):Ba (Ba r)=Ba r:=by unfold Ba;omega
end
end Go.Hb
namespace Go.Proofs.YtjipofkjmmpjdaaGreat
open Go.Hb Go.IntWalk
section
variable{W w:World}{L M:List HP}{b t e u q:Nat}{k r c:Int}{R A B:BL}{key:BA}{o:Option Nat}
theorem A95(hs:Ab W w L):Bh PR 76 #[.i k,.i r] w λv w'=>((0<=k/\k<5)/\∃b,v = .tuple #[pq b 0,.i 0]/\Ab W w' (FZ b k (Ba r) [] none::L))\/(¬(0<=k/\k<5)/\v = .tuple #[.p none,.i 4]/\Ab W w' L):=by
 refine cw ⟨mixed,func76,rfl⟩ A32 ?_;have a:=ED r;refine WI hs (λg w hs=>?_) (λc d t b w hs=>?_)
 ·exact Am rfl (.inr ⟨by omega,rfl,hs⟩)
 ·refine Ad rfl ?_;refine Ay7 hs λf e=>?_;refine Ah e λv w ⟨f,hs⟩=>⟨_,f,?_⟩;refine Ak hs λmb w hs=>?_;exact .inl ⟨⟨c,d⟩,mb,rfl,DH ⟨c,d⟩ (DC.nil a.1 a.2) hs⟩
theorem FC(hs:Ab W w (m0 b k r t e::M)):Bh PR 42 #[pq b 0] w λv w'=>v = .b false/\Ab W w' (m0 b k r t e::M):=by
 refine cw ⟨mixed,func42,rfl⟩ Ajc ?_;exact Am rfl (Aa<|Bcj hs ⟨rfl,hs⟩)
theorem ET(hs:Ab W w (m1 b k r t e u q::M)):Bh PR 42 #[pq b 0] w λv w'=>v = .b true/\Ab W w' (m1 b k r t e u q::M):=by
 refine cw ⟨mixed,func42,rfl⟩ Ajc ?_;exact Am rfl (Aa<|Fx hs ⟨rfl,hs⟩)
theorem A5c(hs:Ab W w (FZ b k c R o::M)):Bh PR 43 #[pq b 0] w λv w'=>v = .i k/\Ab W w' (FZ b k c R o::M):=by
 refine cw ⟨mixed,func43,rfl⟩ A29 ?_;refine Ad rfl ?_;have g:=hs;clear hs;refine Dr g (λt e a d f hs=>?_) (λt e u q A B a d hR f hs=>?_) <;> try rw[f]
 ·exact Aa (Af hs ⟨rfl,DH a d hs⟩)
 ·exact Aa (Af hs ⟨rfl,EA a d hR rfl hs⟩)
theorem A5e(hs:Ab W w (FZ b k c R o::M)):Bh PR 91 #[pq b 0] w λv w'=>v = .i c/\Ab W w' (FZ b k c R o::M):=by
 refine cw ⟨mixed,func91,rfl⟩ A4h ?_;refine Ad rfl ?_;have g:=hs;clear hs;refine Dr g (λt e a d f hs=>?_) (λt e u q A B a d hR f hs=>?_) <;> try rw[f]
 ·exact Aa (Af hs ⟨rfl,DH a d hs⟩)
 ·exact Aa (Af hs ⟨rfl,EA a d hR rfl hs⟩)
theorem S4(hs:Ab W w (m0 b k r t e::M)):Bh PR 134 #[pq b 0] w λv w'=>v = .i 0/\Ab W w' (m0 b k r t e::M):=by
 refine cw ⟨mixed,func134,rfl⟩ Zz ?_;exact Ah (FC hs) λv w ⟨a,hs⟩=>⟨_,a,Am rfl ⟨rfl,hs⟩⟩
theorem S5(hs:Ab W w (m1 b k r t e u q::eg t e c A::eg u q c B::M)):Bh PR 134 #[pq b 0] w λv w'=>v = .i (B.length:Int)/\Ab W w' (m1 b k r t e u q::eg t e c A::eg u q c B::M):=by
 refine cw ⟨mixed,func134,rfl⟩ Zz ?_;refine Ah (ET hs) λv w ⟨a,hs⟩=>⟨_,a,Ad rfl<|Aa<|Fx hs ?_⟩;have hs:Ab W w (eg u q c B::m1 b k r t e u q::eg t e c A::M):=by exact Ab.fin hs
 exact Aex hs λf d=>Ah d λv w ⟨a,hs⟩=>⟨_,a,rfl,by exact Ab.fin hs⟩
theorem Yn(f:A.length<=5000)(hs:Ab W w (m0 b k r t e::eg t e c A::M)):Bh PR 133 #[pq b 0] w λv w'=>v = .i (A.length:Int)/\Ab W w' (m0 b k r t e::eg t e c A::M):=by
 refine cw ⟨mixed,func133,rfl⟩ Zy ?_;refine Ad rfl ?_;refine An [m0 b k r t e,eg t e c A] hs λw hs=>?_;refine Aa (Sn ?_);refine Ah (S4 hs) λv w ⟨a,hs⟩=>⟨_,a,Ag hs ?_⟩;have hs:Ab W w (eg t e c A::m0 b k r t e::M):=by exact Ab.fin hs
 refine Aex hs λf d=>Ah d λv w ⟨a,hs⟩=>⟨_,a,?_⟩;rw[Int.zero_add,i64_in _<|by omega];exact⟨rfl,by exact Ab.fin hs⟩
theorem A5d(f:A.length+B.length<=5000)(hs:Ab W w (m1 b k r t e u q::eg t e c A::eg u q c B::M)):Bh PR 133 #[pq b 0] w λv w'=>v = .i ((B.length:Int)+A.length)/\Ab W w' (m1 b k r t e u q::eg t e c A::eg u q c B::M):=by
 refine cw ⟨mixed,func133,rfl⟩ Zy ?_;refine Ad rfl ?_;refine An [m1 b k r t e u q,eg t e c A,eg u q c B] hs λw hs=>?_;refine Aa (Sn ?_);refine Ah (S5 hs) λv w ⟨a,hs⟩=>⟨_,a,Ag hs ?_⟩;have hs:Ab W w (eg t e c A::m1 b k r t e u q::eg u q c B::M):=by exact Ab.fin hs
 refine Aex hs λf d=>Ah d λv w ⟨a,hs⟩=>⟨_,a,?_⟩;rw[i64_in _<|by omega];exact⟨rfl,by exact Ab.fin hs⟩
theorem Av7(hz:key.size<64)(hs:Ab W w (FZ b k c R o::M)):Bh PR 131 #[pq b 0,.s key] w λv w'=>v = .b (decide (key∈R))/\Ab W w' (FZ b k c R o::M):=by
 refine cw ⟨mixed,func131,rfl⟩ Aqu ?_;refine Am rfl ?_;have hO:=hs;clear hs;refine Dr hO (λt e h5 hk ho hs=>?_) (λt e u q A B h5 hk hR ho hs=>?_) <;> try rw[ho]
 ·refine Aa (Fx hs ?_);have hs:Ab W w (eg t e c R::m0 b k c t e::M):=by exact Ab.fin hs
  refine WH hz hs λf hf=>Ah hf λv w ⟨hv,hs⟩=>⟨_,hv,?_⟩;have hs:Ab W w (m0 b k c t e::eg t e c R::M):=by exact Ab.fin hs
  with_reducible refine A3 (λh1=>?_) (λh1=>?_)
  ·rw[decide_eq_true h1];exact⟨rfl,DH h5 hk hs⟩
  refine Ah (FC hs) λv w ⟨hv,hs⟩=>⟨_,hv,Ad rfl ?_⟩;rw[decide_eq_false h1];exact⟨rfl,DH h5 hk hs⟩
 ·refine Aa (Fx hs ?_);have hs:Ab W w (eg t e c A::m1 b k c t e u q::eg u q c B::M):=by exact Ab.fin hs
  refine WH hz hs λf hf=>Ah hf λv w ⟨hv,hs⟩=>⟨_,hv,?_⟩;have hs:Ab W w (m1 b k c t e u q::eg t e c A::eg u q c B::M):=by exact Ab.fin hs
  with_reducible refine A3 (λh1=>?_) (λh1=>?_)
  ·rw[decide_eq_true (show key∈R by rw[hR];exact mem_append_left _ h1)];exact⟨rfl,EA h5 hk hR rfl hs⟩
  refine Ah (ET hs) λv w ⟨hv,hs⟩=>⟨_,hv,Am rfl ?_⟩;refine Aa (Fx hs ?_);have hs:Ab W w (eg u q c B::m1 b k c t e u q::eg t e c A::M):=by exact Ab.fin hs
  refine WH hz hs λf hf=>Ah hf λv w ⟨hv,hs⟩=>⟨_,hv,?_⟩;refine⟨?_,EA h5 hk hR rfl (by exact Ab.fin hs)⟩;rw[show decide (key∈B)=decide (key∈R) by rw[decide_eq_decide,hR,mem_append];exact⟨.inr,λh=>h.elim (λh=>absurd h h1) id⟩]
theorem Acv(h:key.size<64)(d:key∈B)(i:DC c (A++B))(hs:Ab W w (m1 b k r t e u q::eg t e c A::eg u q c B::M)):Bh PR 137 #[pq b 0,.s key] w λv w'=>v = .tuple #[]/\∃a B',(∀x,x∈a++B'↔x∈A++B)/\DC c (a++B')/\key∈a/\B'.length+1=B.length/\Ab W w' (m1 b k r t e u q::eg t e c a::eg u q c B'::M):=by
 refine cw ⟨mixed,func137,rfl⟩ Aqx ?_;refine Aa (Fx hs ?_);have hs:Ab W w (eg u q c B::m1 b k r t e u q::eg t e c A::M):=by exact Ab.fin hs
 refine Ka h hs λf f=>Ah f λv w ⟨y,B',g,j,hs⟩=>⟨_,g,?_⟩;refine Aa (Fx hs ?_);have hs:Ab W w (eg t e c A::m1 b k r t e u q::eg u q c B'::M):=by exact Ab.fin hs
 refine Ah9 h hs λf f=>Ah f λv w ⟨z,a,g,l,hs⟩=>⟨_,g,?_⟩;obtain⟨m,n,o,p⟩:=Bcn i d j l;exact⟨rfl,a,B',m,n,o,p,by exact Ab.fin hs⟩
theorem Aj1(hk:key∈R)(hz:key.size<64)(hs:Ab W w (FZ b k c R o::M)):Bh PR 132 #[pq b 0,.s key] w λv w'=>∃(l:Sl) (S:BL) (o':Option Nat),v = .l l.a l.n l.c/\(∀x,x∈S↔x∈R)/\KK o' o/\Ab W w' (FZ b k c S o'::recs Ap.str l []::M):=by
 refine cw ⟨mixed,func132,rfl⟩ Aqv ?_;have hO:=hs;clear hs;refine Dr hO (λt e h5 hkR ho hs=>?_) (λt e u q A B h5 hkR hR ho hs=>?_) <;> try rw[ho]
 ·refine Ah (FC hs) λv w ⟨hv,hs⟩=>⟨_,hv,Ad rfl ?_⟩;refine jw NH ?_;refine Aa (Fx hs ?_);have hs:Ab W w (eg t e c R::m0 b k c t e::M):=by exact Ab.fin hs
  refine HX hz hs λf hf=>AM hf λv w ⟨hit,l,g,S,hv,ha,hs⟩=>⟨_,_,hv,?_⟩;obtain⟨hg,hm⟩:=ha.ins.has hk;subst hg;exact⟨l,S,none,rfl,hm,trivial,DH h5 ha.ok (by exact Ab.fin hs)⟩
 ·subst hR;have last:∀(w:World)(A' B':BL),key∈A'->B'.length<=B.length->DC c (A'++B')->(∀x,x∈A'++B'↔x∈A++B)->Ab W w (m1 b k c t e u q::eg t e c A'::eg u q c B'::M) ->
    PV AU (λv w'=>∃(l:Sl) (S:BL) (o':Option Nat),v = .l l.a l.n l.c/\(∀x,x∈S↔x∈A++B)/\KK o' (some B.length)/\Ab W w' (FZ b k c S o'::recs Ap.str l []::M)) (some ⟨b,0,none⟩) key w:=by
   clear hs;intro w A' B' hkA hlB hk2 hm hs;refine jw NH ?_;have hnd:=nodup_append.1 hk2.nd;refine Aa (Fx hs ?_);have hs:Ab W w (eg t e c A'::m1 b k c t e u q::eg u q c B'::M):=by exact Ab.fin hs
   refine HX hz hs λf hf=>AM hf λv w ⟨hit,l,g,S,hv,ha,hs⟩=>⟨_,_,hv,?_⟩;obtain⟨hg,hmS⟩:=ha.ins.has hkA;subst hg;have hm2:∀x,x∈S++B'↔x∈A++B:=λx=>by rw[<- hm,mem_append,mem_append,hmS]
   have hk3:=hkR.same (Yo ha.ok.nd hnd.2.1 λx h h2=>hnd.2.2 x ((hmS x).1 h) x h2 rfl) hm2;exact⟨l,S++B',some B'.length,rfl,hm2,hlB,EA h5 hk3 rfl rfl (by exact Ab.fin hs)⟩
  refine Ah (ET hs) λv w ⟨hv,hs⟩=>⟨_,hv,Am rfl ?_⟩;refine Aa (Fx hs ?_);have hs:Ab W w (eg u q c B::m1 b k c t e u q::eg t e c A::M):=by exact Ab.fin hs
  refine WH hz hs λf hf=>Ah hf λv w ⟨hv,hs⟩=>⟨_,hv,?_⟩;have hs:Ab W w (m1 b k c t e u q::eg t e c A::eg u q c B::M):=by exact Ab.fin hs
  with_reducible refine A3 (λh1=>?_) (λh1=>?_)
  ·refine Bf (Acv hz h1 hkR hs) λv w ⟨hv,A',B',h2,h3,h4,h6,hs⟩=>⟨hv,?_⟩;exact last w A' B' h4 (by omega) h3 h2 hs
  ·exact last w A B (by rw[mem_append] at hk;exact hk.elim id λh=>absurd h h1) (le_refl _) hkR (λ_=>Iff.rfl) hs
abbrev Ak4(W:World)(M:List HP)(b:Nat)(k c:Int)(R:BL)(key:BA)(o:Option Nat):VW:=λv w'=>∃(l:Sl) (g S:BL) (d:Option Nat),v = .l l.a l.n l.c/\A7p c R key g S/\KK d o/\Ab W w' (FZ b k c S d::recs Ap.str l g::M)
theorem VO(X:key.size<64)(hs:Ab W w (FZ b k c R o::M)):Bh PR 94 #[pq b 0,.s key] w (Ak4 W M b k c R key o):=by
 refine cw ⟨mixed,func94,rfl⟩ A4k ?_;refine Ad rfl ?_;refine Ah (Av7 X hs) λv w ⟨i,hs⟩=>⟨_,i,?_⟩;have K:=OM hs;have ag:=K.room;have ah:=K.c2
 with_reducible refine A3 (λY=>?_) (λY=>?_)
 ·refine Ah (Aj1 Y X hs) λv w ⟨l,S,o',i,hm,Z,hs⟩=>⟨_,i,?_⟩;have aa:=OM hs;exact⟨l,[],S,o',rfl,⟨aa,λ_=>⟨rfl,hm⟩,by simp,by simp,by simp,λx=>by
   rw[hm];constructor
   ·exact λh=>.inl ⟨h,by simp⟩
   ·rintro(h|rfl)
    ·exact h.1
    ·exact Y,λ_=>rfl⟩,Z,hs⟩
 have hO:=hs;clear hs;refine Dr hO (λt e L hk Z hs=>?_) (λt e u q A B L hk hR Z hs=>?_) <;> try rw[Z]
 ·have hs:=Ab.nilR Ap.str hs;have I:∀(w:World),Ab W w (m0 b k c t e::eg t e c R::recs Ap.str ⟨none,0,0⟩ []::M)->RD AU (Ak4 W M b k c R key none) (some ⟨b,0,none⟩) key ⟨none,0,0⟩ w:=by
   clear hs;intro w hs;refine jw RE ?_;refine Aa (Fx hs ?_);have hs:Ab W w (eg t e c R::m0 b k c t e::recs Ap.str ⟨none,0,0⟩ []::M):=by exact Ab.fin hs
   refine HX X hs λf N=>AM N λv w ⟨ab,l,g,S,i,J,hs⟩=>⟨_,_,i,?_⟩;have ac:=J.acc.le1;have hs:Ab W w (recs Ap.str ⟨none,0,0⟩ []::recs Ap.str l g::eg t e c S::m0 b k c t e::M):=by exact Ab.fin hs
   refine GA (s:=⟨none,0,0⟩) (new:=g) hs (GT (s:=l) hs) (BS (s:=l) hs) (Dt _) rfl (by decide) (by simp;omega) λO w ad hs=>?_;have hs:Ab W w (recs Ap.str O g::recs Ap.str l g::eg t e c S::m0 b k c t e::M):=hs;exact⟨O,g,S,none,rfl,J.ins,trivial,DH L J.ok<|by exact Ab.fin hs⟩
  refine AP 1 ?_;rw[RF];have hs:Ab W w (m0 b k c t e::eg t e c R::recs Ap.str ⟨none,0,0⟩ []::M):=by exact Ab.fin hs
  refine An [m0 b k c t e,eg t e c R] hs λw hs=>?_;refine Aa (Au ?_);refine Ah (Yn (by omega) hs) λv w ⟨i,hs⟩=>⟨_,i,Ag hs ?_⟩;refine As (λ_=>?_) (λ_=>I w hs);refine Ah (S4 hs) λv w ⟨i,hs⟩=>⟨_,i,?_⟩;exact Ad rfl (I w hs)
 ·have z:=hR ▸ hk.nd;have ae:=(nodup_append.1 z).1;have p:=(nodup_append.1 z).2.1;have d:∀x∈A,x∉B:=λx h1 E=>(nodup_append.1 z).2.2 x h1 x E rfl;have P:R.length=A.length+B.length:=by rw[hR];simp
  have I:∀(w:World)(n:Sl)(m B':BL),B'.length<=B.length->B'.Nodup->(∀x∈A,x∉B')->(∀x∈m,x∈R)->(∀x,x∈A++B'↔x∈R/\x∉m)->m.length<=1->((R.length:Int)<c->m=[])->((A.length:Int)+B'.length<c\/(B'=[]/\m=[])) ->
    Ab W w (m1 b k c t e u q::eg t e c A::eg u q c B'::recs Ap.str n m::M)->RD AU (Ak4 W M b k c R key<|some B.length) (some ⟨b,0,none⟩) key n w:=by
   clear hs d p z hR P;intro w n m B' Q p d T U af F G hs;refine jw RE ?_;refine Aa (Fx hs ?_);have hs:Ab W w (eg t e c A::m1 b k c t e u q::eg u q c B'::recs Ap.str n m::M):=by exact Ab.fin hs
   refine HX X hs λf N=>AM N λv w ⟨ab,l,g,S,i,J,hs⟩=>⟨_,_,i,?_⟩;have ac:=J.acc.le1;have V:=A4s hk Y ae p d T U af F G J;have hs:Ab W w (recs Ap.str n m::recs Ap.str l g::eg t e c S::m1 b k c t e u q::eg u q c B'::M):=by exact Ab.fin hs
   refine GA (s:=n) (new:=g) hs (GT (s:=l) hs) (BS (s:=l) hs) (Dt _) rfl (by decide) (by omega) λO w ad hs=>?_;have hs:Ab W w (recs Ap.str O (m++g)::recs Ap.str l g::eg t e c S::m1 b k c t e u q::eg u q c B'::M):=hs;exact⟨O,m++g,S++B',some B'.length,rfl,V,Q,EA L V.ok rfl rfl<|by exact Ab.fin hs⟩
  have hs:=Ab.nilR Ap.str hs;have hs:Ab W w (m1 b k c t e u q::eg t e c A::eg u q c B::recs Ap.str ⟨none,0,0⟩ []::M):=by exact Ab.fin hs
  have C:∀(w:World)(f:Nat)(n:Sl)(m B':BL),A.length+B'.length<=5000->Ab W w (m1 b k c t e u q::eg t e c A::eg u q c B'::recs Ap.str n m::M) ->
    ((A.length:Int)+B'.length>=c->B'.length>0->∀w,Ab W w (m1 b k c t e u q::eg t e c A::eg u q c B'::recs Ap.str n m::M)->Auy AU (Ak4 W M b k c R key<|some B.length) f (some ⟨b,0,none⟩) key n w) ->
    ((A.length:Int)+B'.length<c\/B'.length=0->∀w,Ab W w (m1 b k c t e u q::eg t e c A::eg u q c B'::recs Ap.str n m::M)->RD AU (Ak4 W M b k c R key<|some B.length) (some ⟨b,0,none⟩) key n w) ->
    XT AU (Ak4 W M b k c R key<|some B.length) (f+1) (some ⟨b,0,none⟩) key n w:=by
   clear hs d p z hR P I;intro w f n m B' hl hs E h3;rw[RF];refine An [m1 b k c t e u q,eg t e c A,eg u q c B'] hs λw hs=>?_;refine Aa (Au ?_);refine Ah (A5d hl hs) λv w ⟨i,hs⟩=>⟨_,i,Ag hs ?_⟩
   with_reducible refine A3 (λD=>?_) (λD=>?_)
   ·refine Ah (S5 hs) λv w ⟨i,hs⟩=>⟨_,i,?_⟩
    with_reducible refine A3 (λL=>?_) (λL=>?_)
    ·exact E (by omega) (by omega) w hs
    ·exact h3 (.inr<|by omega) w hs
   ·exact h3 (.inl<|by omega) w hs
  refine AP 2 ?_;refine C w 1 _ [] B (by omega) hs (λD h6 w hs=>?_) (λD w hs=>?_)
  ·refine jw Af8 ?_;have hE:Bh PR 135 #[pq b 0] w λv w'=>∃x r S,v = .tuple #[.s x,.b r]/\Hc c B x r S/\Ab W w' (m1 b k c t e u q::eg t e c A::eg u q c S::recs Ap.str ⟨none,0,0⟩ []::M):=by
    refine cw ⟨mixed,func135,rfl⟩ Z0 ?_;refine Ad rfl ?_;refine Ah (S5 hs) λv w ⟨i,hs⟩=>⟨_,i,?_⟩;refine Am (decide_eq_true<|by omega) ?_;refine Aa (Fx hs ?_);have hs:Ab W w (eg u q c B::m1 b k c t e u q::eg t e c A::recs Ap.str ⟨none,0,0⟩ []::M):=by exact Ab.fin hs
    refine Zd hs λf N=>AM N λv w ⟨x,r,B',i,j,hs⟩=>⟨_,_,i,?_⟩;exact⟨x,r,B',rfl,j,by exact Ab.fin hs⟩
   refine AM hE λv w ⟨x,r,B',i,j,hs⟩=>⟨_,_,i,?_⟩;have hy:r=true:=by rw[j.says];exact decide_eq_true h6
   subst hy;have H:=j.of rfl;have ai:B.length=B'.length+1:=by
    have hp:=Lg p j.ok.nd H j.mem';simpa using hp.length_eq
   refine Ak hs λnb w hs=>?_;have hs:Ab W w (recs Ap.str ⟨none,0,0⟩ []::blk nb [.s x]::m1 b k c t e u q::eg t e c A::eg u q c B'::M):=by exact Ab.fin hs
   refine D3 (s:=⟨none,0,0⟩) (a:=x) hs rfl rfl rfl rfl (by decide) (by simp) λs5 w aj hs=>?_;have hs:Ab W w (recs Ap.str s5 [x]::blk nb [.s x]::m1 b k c t e u q::eg t e c A::eg u q c B'::M):=hs;have hs:Ab W w (m1 b k c t e u q::eg t e c A::eg u q c B'::recs Ap.str s5 [x]::M):=by exact Ab.fin hs
   refine C w 0 s5 [x] B' (by omega) hs (λh6 _ w hs=>by omega) (λ_ w hs=>?_);refine I w s5 [x] B' (by omega) j.ok.nd (λy h1 E=>d y h1 ((j.mem' y).1 E).1) (λy hy=>by rw[mem_singleton] at hy;subst hy;rw[hR];exact mem_append_right _ H) (λy=>?_) (by simp) (λh=>by omega) (.inl<|by omega) hs
   rw[mem_append,j.mem',hR,mem_append,mem_singleton];constructor
   ·rintro(h|h)
    ·exact⟨.inl h,λe=>d y h<|e ▸ H⟩
    ·exact⟨.inr h.1,h.2⟩
   ·rintro⟨h|h,E⟩
    ·exact .inl h
    ·exact .inr ⟨h,E⟩
  ·exact I w _ [] B (le_refl _) p d (by simp) (λy=>by rw[hR];simp) (by simp) (λ_=>rfl) (by
    rcases D with D|D
    ·exact .inl D
    ·exact .inr ⟨length_eq_zero_iff.1 D,rfl⟩) hs
theorem Av5{F:Ev}{K:BL}(C:F.2.size<64)(L:EvS c R F K)(hs:Ab W w (FZ b k c R o::M)):Bh PR 130 #[pq b 0,.agg #[.i F.1,.s F.2]] w λv w'=>∃(l:Sl) (S:BL) (p:Option Nat),v = .l l.a l.n l.c/\(∀x,x∈S↔x∈K)/\KK p o/\Ab W w' (FZ b k c S p::recs Ap.str l []::M):=by
 obtain⟨kd,key⟩:=F;obtain⟨G,d⟩:=L;refine cw ⟨mixed,func130,rfl⟩ Aqt ?_;have N:=OM hs;refine Ak hs λnb w hs=>?_;refine Ad rfl ?_;have hs:Ab W w (FZ b k c R o::blk nb [.i kd,.s key]::M):=by exact Ab.fin hs
 refine Af hs ?_
 with_reducible refine A3 (λO=>?_) (λO=>?_)
 ·have d:∀x,x∈K↔x∈R:=λx=>by have:=d x;rw[if_neg<|by omega,if_neg<|by omega] at this;exact this
  refine Af hs ?_;refine Ah (Av7 C hs) λv w ⟨f,hs⟩=>⟨_,f,?_⟩
  with_reducible refine A3 (λj=>?_) (λj=>?_)
  ·refine Af hs ?_;refine Ah (Aj1 j C hs) λv w ⟨l,S,p,f,D,r,hs⟩=>⟨_,f,?_⟩;exact⟨l,S,p,rfl,λx=>by rw[D,d],r,by exact Ab.fin hs⟩
  ·have hs:=Ab.nilR Ap.str hs;exact⟨⟨none,0,0⟩,R,o,rfl,λx=>(d x).symm,KK.refl,by exact Ab.fin hs⟩
 with_reducible refine A3 (λj=>?_) (λj=>?_)
 ·have d:∀x,x∈K↔x∈R\/x=key:=λx=>by have:=d x;rw[if_pos j] at this;exact this
  refine Af hs ?_;refine Ah (VO C hs) λv w ⟨l,g,S,p,f,y,r,hs⟩=>⟨_,f,?_⟩
  by_cases E:key∈R
  ·obtain⟨rfl,D⟩:=y.has E;refine⟨l,S,p,rfl,λx=>?_,r,by exact Ab.fin hs⟩;rw[D,d];exact⟨.inl,λh=>h.elim id λh=>h ▸ E⟩
  ·have P:(R.length:Int)<c:=by
    have H:∀x∈key::R,x∈K:=λx hx=>(d x).2 (by
     rcases mem_cons.1 hx with h|h
     ·exact .inr h
     ·exact .inl h)
    have:=EB (nodup_cons.2 ⟨E,N.nd⟩) H;have z:=G.room;simp only[length_cons] at this;omega
   have hg:=y.calm P;subst hg;refine⟨l,S,p,rfl,λx=>?_,r,by exact Ab.fin hs⟩;rw[y.mem,d];simp
 with_reducible refine A3 (λQ=>?_) (λQ=>?_)
 ·have d:∀x,x∈K↔x∈R/\x≠key:=λx=>by have:=d x;rw[if_neg j,if_pos Q] at this;exact this
  have hO:=hs;clear hs;refine Dr hO (λt e T E r hs=>?_) (λt e u q A B T E hR r hs=>?_) <;> try rw[r]
  ·refine An [m0 b k c t e,blk nb [.i kd,.s key]] hs λw hs=>?_;refine Aa (Sn<|Af hs<|Ag hs ?_);have hs:Ab W w (eg t e c R::m0 b k c t e::M):=by exact Ab.fin hs
   refine Ka C hs λf I=>Ah I λv w ⟨U,S,f,z,hs⟩=>⟨_,f,?_⟩;have hs:Ab W w (m0 b k c t e::eg t e c S::M):=by exact Ab.fin hs
   refine Ah (FC hs) λv w ⟨f,hs⟩=>⟨_,f,Ad rfl ?_⟩;have hs:=Ab.nilR Ap.str hs;exact⟨⟨none,0,0⟩,S,none,rfl,λx=>by rw[z.mem,d],trivial,DH T z.ok<|by exact Ab.fin hs⟩
  ·have V:=nodup_append.1 (hR ▸ E.nd);refine An [m1 b k c t e u q,blk nb [.i kd,.s key]] hs λw hs=>?_;refine Aa (Sn<|Af hs<|Ag hs ?_);have hs:Ab W w (eg t e c A::m1 b k c t e u q::eg u q c B::blk nb [.i kd,.s key]::M):=by exact Ab.fin hs
   refine Ka C hs λf I=>Ah I λv w ⟨U,J,f,z,hs⟩=>⟨_,f,?_⟩;have hs:Ab W w (m1 b k c t e u q::eg t e c J::eg u q c B::blk nb [.i kd,.s key]::M):=by exact Ab.fin hs
   refine Ah (ET hs) λv w ⟨f,hs⟩=>⟨_,f,Am rfl ?_⟩;refine An [m1 b k c t e u q,blk nb [.i kd,.s key]] hs λw hs=>?_;refine Aa (Sn<|Af hs<|Ag hs ?_);have hs:Ab W w (eg u q c B::m1 b k c t e u q::eg t e c J::M):=by exact Ab.fin hs
   refine Ka C hs λf I=>Ah I λv w ⟨Z,B',f,m,hs⟩=>⟨_,f,?_⟩;have hs:=Ab.nilR Ap.str hs;have D:∀x,x∈J++B'↔x∈K:=λx=>by
    rw[mem_append,z.mem,m.mem,d,hR,mem_append];constructor
    ·rintro(h|h)
     ·exact⟨.inl h.1,h.2⟩
     ·exact⟨.inr h.1,h.2⟩
    ·rintro⟨h|h,j⟩
     ·exact .inl ⟨h,j⟩
     ·exact .inr ⟨h,j⟩
   have X:=G.same (Yo z.ok.nd m.ok.nd λx O j=>V.2.2 x ((z.mem x).1 O).1 x ((m.mem x).1 j).1 rfl) D;have Y:B'.length<=B.length:=EB m.ok.nd λx h=>((m.mem x).1 h).1;exact⟨⟨none,0,0⟩,J++B',some B'.length,rfl,D,Y,EA T X rfl rfl<|by exact Ab.fin hs⟩
 ·have d:∀x,x∈K↔x∈R:=λx=>by have:=d x;rw[if_neg j,if_neg Q] at this;exact this
  have hs:=Ab.nilR Ap.str hs;exact⟨⟨none,0,0⟩,R,o,rfl,λx=>(d x).symm,KK.refl,by exact Ab.fin hs⟩
theorem S6(i:DC c (A++B))(hs:Ab W w (m1 b k r t e u q::eg t e c A::eg u q c B::M)):Bh PR 99 #[pq b 0] w λv w'=>
  (v = .tuple #[.s ⟨#[]⟩,.b false]/\B=[]/\Ab W w' (m0 b k r t e::eg t e c A::M))\/(∃(x:BA) (d B':BL),v = .tuple #[.s x,.b true]/\B'.length+1=B.length/\(∀x,x∈d++B'↔x∈A++B)/\DC c (d++B')/\Ab W w' (m1 b k r t e u q::eg t e c d::eg u q c B'::M)):=by
 refine cw ⟨mixed,func99,rfl⟩ Ajd ?_;refine Ah (ET hs) λv w ⟨f,hs⟩=>⟨_,f,Ad rfl ?_⟩;refine Aa (Fx hs ?_);have hs:Ab W w (eg u q c B::m1 b k r t e u q::eg t e c A::M):=by exact Ab.fin hs
 refine Ah8 hs λf m=>Ah m λv w ⟨l,ks,f,j,hs⟩=>⟨_,f,?_⟩;have n:=BS (s:=l) hs;have o:=j.length_eq;have hs:Ab W w (m1 b k r t e u q::eg t e c A::eg u q c B::recs Ap.str l ks::M):=by exact Ab.fin hs
 with_reducible refine A3 (λp=>?_) (λp=>?_)
 ·refine Aa (A4 hs λw hs=>?_);have hB:B=[]:=length_eq_zero_iff.1 (by omega);exact .inl ⟨rfl,hB,by exact Ab.fin hs⟩
 have h:0<ks.length:=by omega
 have g:Ck ks∈B:=j.mem_iff.1 (by rw[<- XX h];exact HZ h);have y:(Ck ks).size<64:=i.small _ (mem_append_right _ g);refine CO (s:=l) hs λz C a=>?_;refine Dh a hs ?_;rw[XX h];refine Bf (Acv y g i hs) λv w ⟨f,d,B',D,E,G,F,hs⟩=>⟨f,?_⟩;refine CO (s:=l) hs λz C a=>?_;refine Dh a hs ?_;rw[XX h];exact .inr ⟨Ck ks,d,B',rfl,F,D,E,by exact Ab.fin hs⟩
def VQ:Option Nat->Option Nat
 | some (n+1)=>some n
 | _=>none
theorem A5f(hs:Ab W w (FZ b k c R o::M)):Bh PR 99 #[pq b 0] w λv w'=>∃(x:BA) (t:Bool) (S:BL),v = .tuple #[.s x,.b t]/\(∀x,x∈S↔x∈R)/\Ab W w' (FZ b k c S (VQ o)::M):=by
 have j:=hs;clear hs;refine Dr j (λt e f a i hs=>?_) (λt e u q A B f a hR i hs=>?_) <;> try rw[i]
 ·refine cw ⟨mixed,func99,rfl⟩ Ajd ?_;refine Ah (FC hs) λv w ⟨d,hs⟩=>⟨_,d,Am rfl ?_⟩;exact⟨_,_,R,rfl,λ_=>Iff.rfl,DH f a hs⟩
 ·rw[hR] at a;refine(S6 a hs).mono λv w' h=>?_;rcases h with⟨d,hB,hs⟩|⟨x,l,B',d,m,n,g,hs⟩
  ·have hA:A++B=A:=by rw[hB,append_nil]
   rw[hA] at a;rw[hB];exact⟨_,_,A,d,λx=>by rw[hR,hA],DH f a hs⟩
  ·rw[show VQ (some B.length)=some B'.length by rw[<- m];rfl];exact⟨x,true,l++B',d,λx=>by rw[n,hR],EA f g rfl rfl hs⟩
theorem VN(hs:Ab W w (mvG b k r c R o::M)):Bh PR 145 #[pq b 0] w λv w'=>∃(n:Int) (t e:Nat) (S:BL),v = .i n/\(∀x,x∈S↔x∈R)/\DC c S/\Ab W w' (m0 b k r t e::eg t e c S::M):=by
 refine cw ⟨mixed,func145,rfl⟩ Aq5 ?_;have g:∀(f:Nat)(w:World)(t e:Nat)(S:BL)(n:Int),(∀x,x∈S↔x∈R)->DC c S->Ab W w (m0 b k r t e::eg t e c S::M) ->
   Kc AU (λv w'=>∃(n:Int) (t e:Nat) (S:BL),v = .i n/\(∀x,x∈S↔x∈R)/\DC c S/\Ab W w' (m0 b k r t e::eg t e c S::M)) (f+1) (some ⟨b,0,none⟩) n w:=by
  clear hs;intro f w t e S n j a hs;rw[Jy];refine Ah (FC hs) λv w ⟨d,hs⟩=>⟨_,d,Ad rfl ?_⟩;refine jw Z4 ?_;exact⟨n,t,e,S,rfl,j,a,hs⟩
 have z:=hs;clear hs;refine Dr z (λt e C a s hs=>?_) (λt e u q A B C a hR s hs=>?_) <;> try rw[s]
 ·exact AP 1 (g 0 w t e R 0 (λ_=>Iff.rfl) a hs)
 ·have l:∀(f:Nat)(w:World)(A B:BL)(n:Int),B.length<=f->(∀x,x∈A++B↔x∈R)->DC c (A++B)->Ab W w (m1 b k r t e u q::eg t e c A::eg u q c B::M) ->
    Kc AU (λv w'=>∃(n:Int) (t e:Nat) (S:BL),v = .i n/\(∀x,x∈S↔x∈R)/\DC c S/\Ab W w' (m0 b k r t e::eg t e c S::M)) (f+2) (some ⟨b,0,none⟩) n w:=by
   clear hs a hR;intro f
   induction f with
   | zero=>
    intro w A B n D j a hs;rw[Jy];refine Ah (ET hs) λv w ⟨d,hs⟩=>⟨_,d,Am rfl ?_⟩;refine AM (S6 a hs) λv w h=>?_;rcases h with⟨d,hB,hs⟩|⟨x,y,B',d,E,_⟩
    ·refine⟨_,_,d,Ad rfl ?_⟩;simp only[hB,append_nil] at a j;exact g 0 w t e A n j a hs
    ·omega
   | succ f F=>
    intro w A B n D j a hs;rw[Jy];refine Ah (ET hs) λv w ⟨d,hs⟩=>⟨_,d,Am rfl ?_⟩;refine AM (S6 a hs) λv w h=>?_;rcases h with⟨d,hB,hs⟩|⟨x,y,B',d,E,m,p,hs⟩
    ·refine⟨_,_,d,Ad rfl ?_⟩;simp only[hB,append_nil] at a j;exact g _ w t e A n j a hs
    ·refine⟨_,_,d,Am rfl ?_⟩;exact F w y B' _ (by omega) (λx=>by rw[m,j]) p hs
  exact AP _ (l B.length w A B 0 (le_refl _) (λx=>by rw[hR]) (hR ▸ a) hs)
theorem Av6{kd:Int}(d:0<=kd/\kd<5)(hs:Ab W w (FZ b k c R o::M)):Bh PR 144 #[pq b 0,.i kd] w λv w'=>∃(S:BL),v = .i 0/\(∀x,x∈S↔x∈R)/\Ab W w' (FZ b kd c S (some S.length)::M):=by
 refine cw ⟨mixed,func144,rfl⟩ Aq4 ?_;refine Ad rfl ?_;have f:=OM hs;have g:=Aws f;refine Aa ?_;have a:∀K:Int->WP,K c w->ld (.int .i64) b (0+1) K w:=λK h=>Dr hs (λt e _ _ _ hs=>Af hs h) (λt e u q A B _ _ _ _ hs=>Af hs h);refine a _ ?_;refine WI hs (λh w hs=>by omega) (λ_ _ u q w hs=>?_);refine Ad rfl ?_;rw[g] at hs;have hs:Ab W w (FZ b k c R o::eg u q c []::M):=by exact Ab.fin hs
 refine Ah (VN hs) λv w ⟨n,t,e,S,j,l,m,hs⟩=>⟨_,j,?_⟩;refine Aa (Fx hs ?_);refine Aa (A4 hs λw hs=>?_);refine Aa (A4 hs λw hs=>?_);refine Aa (A4 hs λw hs=>?_);exact⟨S,rfl,l,EA d m (A:=[]) (B:=S) rfl rfl<|by exact Ab.fin hs⟩
theorem Am9(hs:Ab W w (m0 b k r t e::eg t e c R::M)):Bh PR 135 #[pq b 0] w λv w'=>∃x a S,v = .tuple #[.s x,.b a]/\Hc c R x a S/\Ab W w' (m0 b k r t e::eg t e c S::M):=by
 refine cw ⟨mixed,func135,rfl⟩ Z0 ?_;refine Ad rfl ?_;refine Ah (S4 hs) λv w ⟨d,hs⟩=>⟨_,d,?_⟩;refine Ad rfl ?_;refine Aa (Fx hs ?_);have hs:Ab W w (eg t e c R::m0 b k r t e::M):=by exact Ab.fin hs
 refine Zd hs λf g=>AM g λv w ⟨x,a,S,d,f,hs⟩=>⟨_,_,d,?_⟩;exact⟨x,a,S,rfl,f,by exact Ab.fin hs⟩
theorem Ay6(u:0<=k/\k<5){s0:Sl}{ks:BL}[T:TA W L s0 Ap.str ks](hs:Ab W w L)(y:ks.Nodup)(A:∀x∈ks,x.size<64)(U:(ks.length:Int)<=Ba r){N:Int->WP}{K:TypeId->Value->Int->WP}
  (B:∀(t b:Nat)(S:BL)(w:World),(∀x,x∈S↔x∈ks)->Ab W w (eg t b (Ba r) S::L)->K t (pq b 0) 0 w):Rh (.int .i64) PR 146 [.i k,.i r,.l s0.a s0.n s0.c] N K w:=by
 refine(cw ⟨mixed,func146,rfl⟩ Aq6 (Q:=λv w'=>∃(t b:Nat) (S:BL),v = .tuple #[.iface t<|pq b 0,.i 0]/\(∀x,x∈S↔x∈ks)/\Ab W w' (eg t b (Ba r) S::L)) ?_).mono λe w' ⟨v,C,t,b,S,j,D,g⟩=>.inr ⟨_,_,_,by rw[C,j];rfl,B t b S w' D g⟩;refine WI hs (λh w hs=>by omega) (λ_ _ t b w hs=>?_);refine Ad rfl ?_;have E:=BS (s:=s0) hs;have F:=ED r;have e:∀(f i:Nat)(w:World)(S:BL),i+f=ks.length->(∀x,x∈S↔x∈ks.take i)->Ab W w (eg t b (Ba r) S::L) ->
   Qd AU (λv w'=>∃(t b:Nat) (S:BL),v = .tuple #[.iface t<|pq b 0,.i 0]/\(∀x,x∈S↔x∈ks)/\Ab W w' (eg t b (Ba r) S::L)) (f+1) t (pq b 0) s0 (s0.n:Int) (i:Int) w:=by
  clear hs;intro f
  induction f with
  | zero=>
   intro i w S hi d hs;rw[NL];refine Ad (decide_eq_false<|by omega) ?_;refine jw Z5 ?_;rw[take_of_length_le<|by omega] at d;exact⟨t,b,S,rfl,d,hs⟩
  | succ f G=>
   intro i w S hi d hs;rw[NL];refine Am (decide_eq_true<|by omega) ?_;refine CO (s:=s0) hs λV X m=>?_;refine Dh m hs ?_;rw[toNat_natCast];have H:ks.getD i default∈ks:=HZ (by omega);have u:=Ap1 hs;have I:S.length=i:=by
    have J:=De u.nd (y.sublist<|List.take_sublist i ks) d;rw[J.length_eq,List.length_take];omega
   have o:ks.getD i default∉ks.take i:=by
    intro p;have g:=y;rw[<- take_append_drop i ks,nodup_append] at g;have M:ks.getD i default∈ks.drop i:=by
     rw[getD_eq_getElem?_getD,getElem?_eq_getElem<|show i<ks.length by omega];rw[List.drop_eq_getElem_cons<|show i<ks.length by omega];exact .head _
    exact g.2.2 _ p _ M rfl
   refine Ah9 (A _ H) hs λf O=>Ah O λv w ⟨q,P,j,z,hs⟩=>⟨_,j,?_⟩;rw[show wrap .i64 ((i:Int)+1)=((i+1:Nat):Int) by rw[i64_in _ (by have:=BS (s:=s0) hs;omega)];omega]
   refine G (i+1) w P (by omega) (λx=>?_) hs;have R:q=true:=by rw[z.says];exact decide_eq_true ⟨λh=>o<|(d _).1 h,by omega⟩
   rw[z.mem,CC<|by omega,mem_append,mem_singleton,d,R];simp
 exact AP _ (e ks.length 0 w [] (by omega) (by simp) hs)
theorem Aeo(n:Int):F4 n 1 1024=Ba n:=by unfold F4 Ba;split <;> split <;> omega
theorem Ana(hs:Ab W w (FZ b k c R o::M)){n:Int}:Bh PR 105 #[pq b 0,.i n] w λv w'=>∃(l:Sl) (g S:BL),v = .l l.a l.n l.c/\(∀x∈g,x∈R)/\g.Nodup/\(∀x,x∈S↔x∈R/\x∉g)/\(g=[]\/(S.length:Int)=Ba n)/\Ab W w' (FZ b k (Ba n) S none::recs Ap.str l g::M):=by
 refine cw ⟨mixed,func105,rfl⟩ Ap9 ?_;refine Ad rfl ?_;refine Ao (Da hs n 1 1024) λe w ⟨he,hs⟩=>⟨_,he,?_⟩;rw[Aeo];have hr:=ED n;have H:=Bao n;have I:=A65 hs;have ad:=OM hs;generalize Ba n=rm at *;refine Aa ?_;have C:∀K:WP,(∀w,Ab W w (mvG b k rm c R o::M)->K w)->st b (0+1) (.i rm) K w:=λK h=>Dr hs (λt e Q m T hi=>by subst T;exact A4 hi λw hs=>h w<|DH Q m hs) (λt e u q A B Q m hR T hi=>by subst T;exact A4 hi λw hs=>h w<|EA Q m hR rfl hs)
 refine C _ λw hs=>?_;refine Ah (VN hs) λv w ⟨n1,t,e,U,z,V,D,hs⟩=>⟨_,z,?_⟩;have hs:=Ab.nilR Ap.str hs;have hs:Ab W w (m0 b k rm t e::eg t e c U::recs Ap.str ⟨none,0,0⟩ []::M):=by exact Ab.fin hs
 have j2:∀(w:World)(l:Sl)(g S:BL),(∀x∈g,x∈R)->g.Nodup->(∀x,x∈S↔x∈R/\x∉g)->(S.length:Int)<=rm->(g=[]\/(S.length:Int)=rm)->DC c S->Ab W w (m0 b k rm t e::eg t e c S::recs Ap.str l g::M) ->
   Aid AU (λv w'=>∃(l:Sl) (g S:BL),v = .l l.a l.n l.c/\(∀x∈g,x∈R)/\g.Nodup/\(∀x,x∈S↔x∈R/\x∉g)/\(g=[]\/(S.length:Int)=rm)/\Ab W w' (FZ b k rm S none::recs Ap.str l g::M)) (some ⟨b,0,none⟩) l w:=by
  clear hs;intro w l g S d j E hl F m hs;refine jw Zo ?_;refine An [m0 b k rm t e] hs λw hs=>?_;refine Aa (Au<|Aa<|Au<|Aa<|Fx hs<|Ag hs ?_);have hs:Ab W w (eg t e c S::m0 b k rm t e::recs Ap.str l g::M):=by exact Ab.fin hs
  refine Ah8 hs λf X=>Ah X λv w ⟨l2,ks,z,G,hs⟩=>⟨_,z,?_⟩;have hs:Ab W w (m0 b k rm t e::recs Ap.str l2 ks::recs Ap.str l g::M):=by exact Ab.fin hs
  refine Ag hs ?_;refine Ay6 (r:=rm) (s0:=l2) (ks:=ks) I hs (G.nodup_iff.2 m.nd) (λx hx=>m.small x<|G.mem_iff.1 hx) (by rw[G.length_eq,H];exact hl) λt2 e2 S2 w J hs=>?_
  rw[H] at hs;have L:=Ap1 hs;have Y:S2.length=S.length:=by rw[(De L.nd (G.nodup_iff.2 m.nd) J).length_eq,G.length_eq]
  refine Aa (A4 hs λw hs=>?_);exact⟨l,g,S2,rfl,d,j,λx=>by rw[J,G.mem_iff,E],by rw[Y];exact F,DH I L<|by exact Ab.fin hs⟩
 have N:∀(f:Nat)(w:World)(l:Sl)(g S:BL),S.length<=f->g.length+S.length<=1024->(∀x∈g,x∈R)->g.Nodup->(∀x,x∈S↔x∈R/\x∉g)->(g=[]\/(S.length:Int)>=rm)->DC c S->Ab W w (m0 b k rm t e::eg t e c S::recs Ap.str l g::M) ->
   PO AU (λv w'=>∃(l:Sl) (g S:BL),v = .l l.a l.n l.c/\(∀x∈g,x∈R)/\g.Nodup/\(∀x,x∈S↔x∈R/\x∉g)/\(g=[]\/(S.length:Int)=rm)/\Ab W w' (FZ b k rm S none::recs Ap.str l g::M)) (f+1) (some ⟨b,0,none⟩) l w:=by
  clear hs;intro f
  induction f with
  | zero=>
   intro w l g S X F d j E Z m hs;rw[NB];refine An [m0 b k rm t e,eg t e c S] hs λw hs=>?_;refine Aa (Au ?_);refine Ah (Yn (by omega) hs) λv w ⟨z,hs⟩=>⟨_,z,Ag hs ?_⟩;refine Ad (decide_eq_false<|by omega) ?_;exact j2 w l g S d j E (by omega) (Z.imp id λh=>by omega) m hs
  | succ f ih=>
   intro w l g S X F d j E Z m hs;rw[NB];refine An [m0 b k rm t e,eg t e c S] hs λw hs=>?_;refine Aa (Au ?_);refine Ah (Yn (by omega) hs) λv w ⟨z,hs⟩=>⟨_,z,Ag hs ?_⟩
   with_reducible refine A3 (λh1=>?_) (λh1=>?_)
   ·refine AM (Am9 hs) λv w ⟨x,aa,S',z,p,hs⟩=>⟨_,_,z,?_⟩;have hy:aa=true:=by rw[p.says];exact decide_eq_true (by omega)
    subst hy;have ab:=(p.perm m).length_eq;simp only[length_cons] at ab;have ac:=p.of rfl;have O:=(E x).1 ac;refine Ak hs λnb w hs=>?_;refine D3 (s:=l) (a:=x) hs rfl rfl rfl rfl (by decide) (by omega) λs5 w ae hs=>?_;refine ih w s5 (g++[x]) S' (by omega) (by simp;omega) (λy hy=>?_) ?_ (λy=>?_) (.inr<|by omega) p.ok (by exact Ab.fin hs)
    ·rcases mem_append.1 hy with h|h
     ·exact d y h
     ·rw[mem_singleton] at h;exact h ▸ O.1
    ·rw[nodup_append];exact⟨j,by simp,λa ha b hb=>by rw[mem_singleton] at hb;subst hb;exact λe=>O.2<|e ▸ ha⟩
    ·rw[p.mem',E,mem_append,mem_singleton];constructor
     ·rintro⟨⟨h2,P⟩,h4⟩;exact⟨h2,λh=>h.elim P h4⟩
     ·rintro⟨h2,P⟩;exact⟨⟨h2,λh=>P<|.inl h⟩,λh=>P<|.inr h⟩
   ·exact j2 w l g S d j E (by omega) (Z.imp id λh=>by omega) m hs
 have af:=D.room;have ag:=D.c2
 exact AP _ (N U.length w ⟨none,0,0⟩ [] U (le_refl _) (by simp;omega) (by simp) (by simp) (λx=>by rw[V];simp) (.inl rfl) D hs)
end
end Go.Proofs.YtjipofkjmmpjdaaGreat
namespace Go.Hb
structure DZ where
 k:Int
 s:BA
 n:Int
 h:Bool
 cap:Nat
 buf:List (Int×BA×Int)
def TM(e:Int×BA×Int):Value:=.agg #[.i e.1,.s e.2.1,.i e.2.2]
abbrev Pg(c d:Nat)(r q:DZ)(n lo:Int):List Value:=[.chan<|some c,.i r.k,.s r.s,.i r.n,.bool r.h,.chan<|some d,.i q.k,.s q.s,.i q.n,.bool q.h,.i n,.i lo]
abbrev GJ(c:Nat)(r:DZ):HP:=chn c r.cap (r.buf.map TM)
def DZ.evs(q:DZ):List Ev:=(if q.h then [(q.k,q.s)] else [])++q.buf.map λe=>(e.1,e.2.1)
def DZ.peek(q:DZ):DZ:=if q.h then q else match q.buf with
 | []=>q
 | e::t=>{ q with k:=e.1,s:=e.2.1,n:=e.2.2,h:=true,buf:=t }
structure FdI(r q:DZ)(ws:List Ev):Prop where
 rd:∀e∈r.evs,e.1=1/\e.2.size<64
 wr:∀e∈q.evs,e.1≠1/\e.2.size<64
 eq:q.evs=ws
 c1:r.buf.length<=r.cap/\r.cap<=256
 c2:q.buf.length<=q.cap/\q.cap<=256
 c3:1<=q.cap
def fd(b:Nat)(a:List Ev):HP:=Ly λ(z:(Nat×Nat)×(DZ×DZ)×(Int×Int))=>Fs (FdI z.2.1.1 z.2.1.2 a) (AN [blk b<|Pg z.1.1 z.1.2 z.2.1.1 z.2.1.2 z.2.2.1 z.2.2.2,GJ z.1.1 z.2.1.1,GJ z.1.2 z.2.1.2])
section
variable{W w:World}{M L:List HP}{b c d:Nat}{r q:DZ}{n lo:Int}{ws:List Ev}
theorem XV(h:Ab W w (fd b ws::M)):∃c d r q n lo,FdI r q ws/\Ab W w (blk b (Pg c d r q n lo)::GJ c r::GJ d q::M):=by
 obtain⟨⟨⟨c,d⟩,⟨r,q⟩,n,lo⟩,h⟩:=h.openE;obtain⟨a,h⟩:=h.openA;exact⟨c,d,r,q,n,lo,a,h.openL⟩
theorem Ke(hi:FdI r q ws)(h:Ab W w (blk b (Pg c d r q n lo)::GJ c r::GJ d q::M)):Ab W w (fd b ws::M):=Ab.shutE ((c,d),(r,q),n,lo) (Ab.shutA hi<|Ab.shutL (Ps:=[_,_,_]) h)
theorem Du(q:DZ):q.peek.evs=q.evs:=by
 unfold DZ.peek;split
 ·rfl
 ·rename_i h;split
  ·rfl
  ·rename_i e t a;simp[DZ.evs,a,h]
theorem QP(h:q.peek.h=false):q.evs=[]:=by
 unfold DZ.peek at h;split at h
 ·rename_i a;rw[a] at h;cases h
 ·rename_i a;split at h
  ·rename_i b;simp[DZ.evs,a,b]
  ·cases h
theorem Ac1(q:DZ):q.peek.cap=q.cap/\q.peek.buf.length<=q.buf.length:=by
 unfold DZ.peek;split
 ·exact⟨rfl,le_refl _⟩
 ·split
  ·exact⟨rfl,le_refl _⟩
  ·rename_i e t a;exact⟨rfl,by rw[a];simp⟩
theorem Km(h:q.h=true):q.evs=(q.k,q.s)::({ q with h:=false }:DZ).evs:=by simp[DZ.evs,h]
theorem FdI.peek(hi:FdI r q ws):FdI r.peek q.peek ws:=by
 have b:=Ac1 r;have a:=Ac1 q
 exact⟨by rw[Du];exact hi.rd,by rw[Du];exact hi.wr,by rw[Du];exact hi.eq,by have:=hi.c1;omega,by have:=hi.c2;omega,by rw[a.1];exact hi.c3⟩
end
end Go.Hb
namespace Go.Proofs.YtjipofkjmmpjdaaGreat
open Go.Hb Go.IntWalk
section
variable{W w:World}{L M:List HP}{b c d:Nat}{r q:DZ}{n lo:Int}{ws:List Ev}{key:BA}
theorem Ao8:PR.underlying 182=some (.chan .both 184):=by kernel_rfl
theorem Ajz{K:Nat->WP}(b:0<=n)(e:n<=256)(hs:Ab W w L)(d:∀c w',Ab W w' (chn c n.toNat []::L)->K c w'):Ms PR 182 (.i n) K w:=by
 have a:∃i,PR.info? 184=some i/\i.bytes=32:=by
  have h:(PR.info? 184).map (·.bytes)=some 32:=by kernel_rfl
  obtain⟨i,hi,a⟩:=Option.map_eq_some_iff.1 h;exact⟨i,hi,a⟩
 obtain⟨i,hi,a⟩:=a;obtain⟨m,rfl⟩:=Int.eq_ofNat_of_zero_le b;refine⟨_,Go.Conc.run_makeChan (P:=PR) (w:=w) (t:=182) Ao8 hi .i64 m (by omega)<|by rw[a];omega,d _ _<|Eb (s:=0) (r:=0) (buf:=[]) hs.allocC⟩
theorem A99(hs:Ab W w (blk b (Pg c d r q n lo)::GJ c r::GJ d q::M)):Ai PR 200 #[pq b 0] w λe w'=>e = .returned (.bool r.peek.h)/\Ab W w' (blk b (Pg c d r.peek q n lo)::GJ c r.peek::GJ d q::M):=by
 have hs:Ab W w (GJ c r::blk b (Pg c d r q n lo)::GJ d q::M):=hs.perm (List.Perm.swap _ _ _);obtain⟨s,t,hs⟩:=L7 hs;have m:=(hs.perm<|List.Perm.swap _ _ _).cell (q:=0) (o:=4) rfl;have j:=(hs.perm<|List.Perm.swap _ _ _).cell (q:=0) (o:=0) rfl;cases f:r.h with
 | true=>
  have g:r.peek=r:=if_pos f;rw[g,f];exact(VX (o:=0) w<|by rw[m];simp[f]).mono λe w' ⟨i,l⟩=>⟨i,by subst l;exact(Eb hs).perm (List.Perm.swap _ _ _)⟩
 | false=>
  cases a:r.buf with
  | nil=>
   have g:r.peek=r:=by unfold DZ.peek;rw[if_neg<|by simp[f],a]
   rw[g,f];have hc:=hs.objC;rw[a] at hc;exact(SA (o:=0) (c:=c) w (by rw[m];simp[f]) (by rw[j];rfl) hc).mono λe w' ⟨i,l⟩=>⟨i,by subst l;exact(Eb hs).perm (List.Perm.swap _ _ _)⟩
  | cons e t=>
   have g:r.peek={ r with k:=e.1,s:=e.2.1,n:=e.2.2,h:=true,buf:=t }:=by unfold DZ.peek;rw[if_neg<|by simp[f],a]
   rw[g];rw[a] at hs;refine(SB (o:=0) (c:=c) (by simp) (by simp[f]) rfl hs).mono λe w' ⟨i,hs⟩=>⟨i,?_⟩;exact(Eb hs).perm (List.Perm.swap _ _ _)
theorem Baa(hs:Ab W w (blk b (Pg c d r q n lo)::GJ c r::GJ d q::M)):Ai PR 200 #[pq b 5] w λe w'=>e = .returned (.bool q.peek.h)/\Ab W w' (blk b (Pg c d r q.peek n lo)::GJ c r::GJ d q.peek::M):=by
 have hs:Ab W w (GJ d q::blk b (Pg c d r q n lo)::GJ c r::M):=by exact Ab.fin hs
 obtain⟨s,t,hs⟩:=L7 hs;have m:=(hs.perm<|List.Perm.swap _ _ _).cell (q:=0) (o:=9) rfl;have j:=(hs.perm<|List.Perm.swap _ _ _).cell (q:=0) (o:=5) rfl;cases f:q.h with
 | true=>
  have g:q.peek=q:=if_pos f;rw[g,f];exact(VX (o:=5) w<|by rw[m];simp[f]).mono λe w' ⟨i,l⟩=>⟨i,by subst l;have hs:=Eb hs;exact Ab.fin hs⟩
 | false=>
  cases a:q.buf with
  | nil=>
   have g:q.peek=q:=by unfold DZ.peek;rw[if_neg<|by simp[f],a]
   rw[g,f];have hc:=hs.objC;rw[a] at hc;exact(SA (o:=5) (c:=d) w (by rw[m];simp[f]) (by rw[j];rfl) hc).mono λe w' ⟨i,l⟩=>⟨i,by subst l;have hs:=Eb hs;exact Ab.fin hs⟩
  | cons x t=>
   have g:q.peek={ q with k:=x.1,s:=x.2.1,n:=x.2.2,h:=true,buf:=t }:=by unfold DZ.peek;rw[if_neg<|by simp[f],a]
   rw[g];rw[a] at hs;refine(SB (o:=5) (c:=d) (by simp) (by simp[f]) rfl hs).mono λe w' ⟨i,hs⟩=>⟨i,?_⟩;have hs:=Eb hs;have hs:Ab W w' (chn d q.cap (t.map TM)::blk b (Pg c d r { q with k:=x.1,s:=x.2.1,n:=x.2.2,h:=true,buf:=t } n lo)::GJ c r::M):=hs;exact Ab.fin hs
theorem Abw(hi:FdI r q ws)(hs:Ab W w (blk b (Pg c d r q n lo)::GJ c r::GJ d q::M)):Bh PR 168 #[pq b 0] w λv w'=>
  ((v = .p none/\r.peek.h=false/\q.peek.h=false)\/(v=pq b 0/\r.peek.h=true)\/(v=pq b 5/\q.peek.h=true))/\Ab W w' (blk b (Pg c d r.peek q.peek n lo)::GJ c r.peek::GJ d q.peek::M):=by
 refine cw ⟨mixed,func168,rfl⟩ Arp ?_;refine AI hs λw hs=>?_;refine Aa (Aa ?_);refine Ao (A99 hs) λe w ⟨f,hs⟩=>⟨_,f,?_⟩;refine Ao (Baa hs) λe w ⟨f,hs⟩=>⟨_,f,?_⟩;have g:∀(w:World)(t:Bool),(t=true->q.peek.h=true)->(t=false->r.peek.h=true\/q.peek.h=false)->Ab W w (blk b (Pg c d r.peek q.peek n lo)::GJ c r.peek::GJ d q.peek::M) ->
   Qg AU (λv w'=>((v = .p none/\r.peek.h=false/\q.peek.h=false)\/(v=pq b 0/\r.peek.h=true)\/(v=pq b 5/\q.peek.h=true))/\Ab W w' (blk b (Pg c d r.peek q.peek n lo)::GJ c r.peek::GJ d q.peek::M)) (some ⟨b,0,none⟩) r.peek.h t w:=by
  clear hs;intro w t i k hs;refine jw ZE ?_;refine As (λe=>?_) (λe=>?_)
  ·exact Aa ⟨.inr<|.inr ⟨rfl,i e⟩,hs⟩
  ·refine As (λa=>?_) (λa=>?_)
   ·exact Aa ⟨.inr<|.inl ⟨rfl,a⟩,hs⟩
   ·exact⟨.inl ⟨rfl,a,(k e).elim (λh=>by rw[h] at a;cases a) id⟩,hs⟩
 have j:∀(w:World)(t:Bool),(t=true->q.peek.h=true)->Ab W w (blk b (Pg c d r.peek q.peek n lo)::GJ c r.peek::GJ d q.peek::M) ->
   Qf AU (λv w'=>((v = .p none/\r.peek.h=false/\q.peek.h=false)\/(v=pq b 0/\r.peek.h=true)\/(v=pq b 5/\q.peek.h=true))/\Ab W w' (blk b (Pg c d r.peek q.peek n lo)::GJ c r.peek::GJ d q.peek::M)) (some ⟨b,0,none⟩) r.peek.h q.peek.h t w:=by
  clear hs;intro w t i hs;refine jw ZD ?_;refine As (λe=>?_) (λe=>?_)
  ·exact g w t i (λh=>by rw[e] at h;cases h) hs
  ·refine As (λa=>?_) (λa=>?_)
   ·refine g w _ (λ_=>a) (λh=>.inl<|by simpa using h) hs
   ·exact g w false (λh=>by cases h) (λ_=>.inr a) hs
 refine An [blk b<|Pg c d r.peek q.peek n lo,GJ c r.peek,GJ d q.peek] hs λw hs=>?_;refine As (λe=>?_) (λe=>?_)
 ·refine As (λa=>?_) (λa=>?_)
  ·refine Aa (Au<|Aa<|Af hs<|Ag hs ?_);exact j w _ (λ_=>a) hs
  ·exact Ag hs (j w false (λh=>by cases h) hs)
 ·exact Ag hs (j w false (λh=>by cases h) hs)
theorem A9p(hs:Ab W w L){x y:Int}:Bh PR 75 #[.i x,.i y] w λv w'=>((0<=x/\x<=256/\1<=y/\y<=256)/\∃b,v = .tuple #[pq b 0,.i 0]/\Ab W w' (fd b []::L))\/(¬(0<=x/\x<=256/\1<=y/\y<=256)/\v = .tuple #[.p none,.i 1]/\Ab W w' L):=by
 refine cwD (hs:=.inl ⟨rfl,rfl,rfl,rfl,_,_,rfl⟩) ⟨mixed,func75,rfl⟩ A31 ?_
 with_reducible refine A3 (λf=>?_) (λf=>?_)
 ·exact .inr ⟨by omega,rfl,hs⟩
 with_reducible refine A3 (λg=>?_) (λg=>?_)
 ·exact .inr ⟨by omega,rfl,hs⟩
 with_reducible refine A3 (λj=>?_) (λj=>?_)
 ·exact .inr ⟨by omega,rfl,hs⟩
 with_reducible refine A3 (λk=>?_) (λk=>?_)
 ·exact .inr ⟨by omega,rfl,hs⟩
 refine jw Afw ?_;have a:∀(w:World)(c d:Nat),Ab W w (chn c x.toNat []::chn d y.toNat []::L)->∀b,∀w',Ab W w' (blk b (Pg c d ⟨0,Ae,0,false,x.toNat,[]⟩ ⟨0,Ae,0,false,y.toNat,[]⟩ 0 0)::chn c x.toNat []::chn d y.toNat []::L)->Ab W w' (fd b []::L):=λw c d _ b w' h=>
  Ke (r:=⟨0,Ae,0,false,x.toNat,[]⟩) (q:=⟨0,Ae,0,false,y.toNat,[]⟩) ⟨by simp[DZ.evs],by simp[DZ.evs],rfl,⟨by simp,by show x.toNat<=256;omega⟩,⟨by simp,by show y.toNat<=256;omega⟩,by show 1<=y.toNat;omega⟩ h
 refine AI hs λw hs=>Re ?_;refine Ajz (by omega) (by omega) hs λc w hs=>?_;refine Ajz (by omega) (by omega) hs λd w hs=>?_;have hs:Ab W w (chn c x.toNat []::chn d y.toNat []::L):=hs.perm (List.Perm.swap _ _ _);refine Ak hs λb w' e=>.inl ⟨by omega,b,rfl,a w c d hs b w' e⟩
theorem A4p(i:key.size<64)(hs:Ab W w (fd b ws::M)):Bh PR 86 #[pq b 0,.s key] w λv w'=>∃t:Bool,v = .b t/\Ab W w' (fd b ws::M):=by
 refine cw ⟨mixed,func86,rfl⟩ A4c ?_;obtain⟨c,d,r,q,n,lo,hi,hs⟩:=XV hs;refine Ad rfl (Aa ?_);have hs:Ab W w (GJ c r::blk b (Pg c d r q n lo)::GJ d q::M):=hs.perm (List.Perm.swap _ _ _);obtain⟨s,t,hs⟩:=L7 hs
 by_cases g:r.buf.length<r.cap
 ·refine Ao (Pb (o:=0) (c:=c) (kd:=1) (key:=key) (n:=n) (by simp) rfl rfl (by simpa using g) hs) λe w ⟨a,hs⟩=>⟨_,a,Ad rfl ?_⟩;have hs:=Eb hs;have hs:Ab W w (GJ c { r with buf:=r.buf++[(1,key,n)] }::blk b (Pg c d { r with buf:=r.buf++[(1,key,n)] } q (wrap .i64<|n+1) lo)::GJ d q::M):=by
   have j:r.buf.map TM++[TM (1,key,n)]=(r.buf++[(1,key,n)]).map TM:=by simp
   show Ab W w (chn c r.cap ((r.buf++[(1,key,n)]).map TM)::_);rw[<- j];exact hs
  refine⟨true,rfl,Ke (r:={ r with buf:=r.buf++[(1,key,n)] }) (q:=q) ⟨λe a=>?_,hi.wr,hi.eq,⟨by simp;omega,hi.c1.2⟩,hi.c2,hi.c3⟩<|hs.perm<|List.Perm.swap _ _ _⟩;have f:e∈r.evs\/e=(1,key):=by simpa[DZ.evs,or_assoc] using a
  rcases f with h|rfl
  ·exact hi.rd e h
  ·exact⟨rfl,i⟩
 ·refine Ao (Pa (o:=0) (c:=c) (kd:=1) (key:=key) (n:=n) rfl rfl (by simpa using g) hs) λe w ⟨a,k⟩=>⟨_,a,Am rfl ?_⟩;subst k;have hs:=(Eb hs).perm (List.Perm.swap _ _ _);have hs:Ab W w (blk b (Pg c d r q n lo)::GJ c r::GJ d q::M):=hs;refine Aa (Af hs<|Aa<|A4 hs λw hs=>?_);exact⟨false,rfl,Ke hi hs⟩
theorem Abv{kd:Int}(m:kd=2\/kd=3)(p:key.size<64)(hs:Ab W w (fd b ws::M)):Bh PR 128 #[pq b 0,.i kd,.s key] w λv w'=>(v = .b true/\Ab W w' (fd b (ws++[(kd,key)])::M))\/(ws≠[]/\v = .b false/\Ab W w' (fd b ws::M)):=by
 refine cw ⟨mixed,func128,rfl⟩ Aqq ?_;have k:WS AU (λv w'=>(v = .b true/\Ab W w' (fd b (ws++[(kd,key)])::M))\/(ws≠[]/\v = .b false/\Ab W w' (fd b ws::M))) (some ⟨b,0,none⟩) kd key w:=by
  refine jw Zv ?_;obtain⟨c,d,r,q,n,lo,hi,hs⟩:=XV hs;refine Aa ?_;have hs:Ab W w (GJ d q::blk b (Pg c d r q n lo)::GJ c r::M):=by exact Ab.fin hs
  obtain⟨s,t,hs⟩:=L7 hs
  by_cases g:q.buf.length<q.cap
  ·refine Ao (Pb (o:=5) (c:=d) (kd:=kd) (key:=key) (n:=n) (by simp) rfl rfl (by simpa using g) hs) λe w ⟨a,hs⟩=>⟨_,a,?_⟩;have hs:=Eb hs;have hs:Ab W w (GJ d { q with buf:=q.buf++[(kd,key,n)] }::blk b (Pg c d r { q with buf:=q.buf++[(kd,key,n)] } (wrap .i64<|n+1) lo)::GJ c r::M):=by
    have u:q.buf.map TM++[TM (kd,key,n)]=(q.buf++[(kd,key,n)]).map TM:=by simp
    show Ab W w (chn d q.cap ((q.buf++[(kd,key,n)]).map TM)::_);rw[<- u];exact hs
   have l:({ q with buf:=q.buf++[(kd,key,n)] }:DZ).evs=ws++[(kd,key)]:=by rw[<- hi.eq];simp[DZ.evs]
   refine .inl ⟨rfl,Ke (r:=r) (q:={ q with buf:=q.buf++[(kd,key,n)] }) ⟨hi.rd,λe a=>?_,l,hi.c1,⟨by simp;omega,hi.c2.2⟩,hi.c3⟩<|by exact Ab.fin hs⟩;rw[l,mem_append,mem_singleton] at a;rcases a with h|rfl
   ·exact hi.wr e (by rw[hi.eq];exact h)
   ·exact⟨by show kd≠1;omega,p⟩
  ·refine Ao (Pa (o:=5) (c:=d) (kd:=kd) (key:=key) (n:=n) rfl rfl (by simpa using g) hs) λe w ⟨a,x⟩=>⟨_,a,?_⟩;subst x;have hs:=Eb hs;refine .inr ⟨λy=>?_,rfl,Ke hi<|by exact Ab.fin hs⟩;have f:=hi.eq;rw[y] at f;have j:=hi.c3;have z:q.buf=[]:=by
    have:=(List.append_eq_nil_iff.1 f).2;simpa using this
   rw[z] at g;simp at g;omega
 refine Ad rfl ?_;refine As (λf=>?_) (λ_=>k);refine As (λj=>?_) (λ_=>k);have f:kd≠2:=by simpa using f
 have j:kd≠3:=by simpa using j
 omega
theorem Au1(hs:Ab W w (fd b ws::M)):Bh PR 129 #[pq b 0] w λv w'=>∃(l:Sl) (evs:List Ev),v = .l l.a l.n l.c/\evs.filter (λe=>decide<|e.1≠1)=ws/\(∀e∈evs,e.2.size<64)/\evs.length<=520/\Ab W w' (fd b []::recs Gi l evs::M):=by
 refine cw ⟨mixed,func129,rfl⟩ Aqr ?_;obtain⟨c,d,r,q,n,lo,hi,hs⟩:=XV hs;refine Ad rfl ?_;refine Ah (Abw hi hs) λv w ⟨o,hs⟩=>?_;have hi:=hi.peek;have O:∀r:DZ,r.buf.length<=r.cap/\r.cap<=256->r.evs.length<=257:=λr h=>by
  unfold DZ.evs;rw[length_append,length_map];split <;> simp <;> omega
 have K:=O _ hi.c1;have L:=O _ hi.c2;have hs:=Ab.nilR Gi hs;have u:∀(m:Nat)(w:World)(r q:DZ)(D:OA)(f:Sl)(evs:List Ev)(p:List Ev),FdI r q p->r.evs.length+q.evs.length=m->evs.length+m<=514 ->
   ((D=none/\r.h=false/\q.h=false/\r.evs=[]/\q.evs=[])\/(D=some ⟨b,0,none⟩/\r.h=true)\/(D=some ⟨b,5,none⟩/\q.h=true))->evs.filter (λe=>decide<|e.1≠1)++p=ws->(∀e∈evs,e.2.size<64) ->
   Ab W w (recs Gi f evs::blk b (Pg c d r q n lo)::GJ c r::GJ d q::M) ->
   LF AU (λv w'=>∃(l:Sl) (evs:List Ev),v = .l l.a l.n l.c/\evs.filter (λe=>decide<|e.1≠1)=ws/\(∀e∈evs,e.2.size<64)/\evs.length<=520/\Ab W w' (fd b []::recs Gi l evs::M)) (m+1) (some ⟨b,0,none⟩) f D w:=by
  clear hs o K L hi;intro m
  induction m with
  | zero=>
   intro w r q D f evs p hi t i J A j hs;rw[NG];have g:r.evs=[]:=length_eq_zero_iff.1 (by omega);have x:q.evs=[]:=length_eq_zero_iff.1 (by omega);have P:D=none:=by
    rcases J with h|⟨_,h⟩|⟨_,h⟩
    ·exact h.1
    ·rw[Km h] at g;cases g
    ·rw[Km h] at x;cases x
   subst P;refine Ad rfl ?_;refine jw Zw ?_;have Q:p=[]:=by rw[<- hi.eq];exact x
   subst Q;exact⟨f,evs,rfl,by rw[append_nil] at A;exact A,j,by omega,by have F:=Ke (M:=recs Gi f evs::M) hi (by exact Ab.fin hs);exact F⟩
  | succ m N=>
   intro w r q D f evs p hi t i J A j hs;rw[NG];have next:∀(w:World)(r q:DZ)(f:Sl)(evs p:List Ev),FdI r q p->r.evs.length+q.evs.length=m->evs.length+m<=514->evs.filter (λe=>decide<|e.1≠1)++p=ws->(∀e∈evs,e.2.size<64)->Ab W w (blk b (Pg c d r q n lo)::GJ c r::GJ d q::recs Gi f evs::M) ->
     (call1 .ptr PR 168 [pq b 0] λ(H:OA)=>LF AU (λv w'=>∃(l:Sl) (evs:List Ev),v = .l l.a l.n l.c/\evs.filter (λe=>decide<|e.1≠1)=ws/\(∀e∈evs,e.2.size<64)/\evs.length<=520/\Ab W w' (fd b []::recs Gi l evs::M)) (m+1) (some ⟨b,0,none⟩) f H) w:=by
    clear hs hi t i J A j;intro w r q f evs p hi t i A j hs;refine Ah (Abw hi hs) λv w ⟨o,hs⟩=>?_;rcases o with⟨o,g,x⟩|⟨o,g⟩|⟨o,g⟩
    ·exact⟨none,o,N w r.peek q.peek none f evs p hi.peek (by rw[Du,Du];exact t) i (.inl ⟨rfl,g,x,by rw[Du];exact QP g,by rw[Du];exact QP x⟩) A j<|by exact Ab.fin hs⟩
    ·exact⟨some ⟨b,0,none⟩,o,N w r.peek q.peek _ f evs p hi.peek (by rw[Du,Du];exact t) i (.inr<|.inl ⟨rfl,g⟩) A j<|by exact Ab.fin hs⟩
    ·exact⟨some ⟨b,5,none⟩,o,N w r.peek q.peek _ f evs p hi.peek (by rw[Du,Du];exact t) i (.inr<|.inr ⟨rfl,g⟩) A j<|by exact Ab.fin hs⟩
   rcases J with⟨_,_,_,g,x⟩|⟨rfl,g⟩|⟨rfl,g⟩
   ·rw[g,x] at t;simp at t
   ·have C:=Km g;have y:=hi.rd (r.k,r.s) (by rw[C];exact .head _)
    refine Am rfl ?_;refine Aa (Af hs<|Af hs ?_);refine Ak hs λnb w hs=>?_;refine D3 (E:=Gi) (s:=f) (a:=(r.k,r.s)) hs rfl rfl rfl rfl (by decide) (by omega) λs2 w F hs=>?_;refine Aa (A4 hs λw hs=>?_);refine next w { r with h:=false } q s2 (evs++[(r.k,r.s)]) p ⟨λe B=>hi.rd e<|by rw[C];exact .tail _ B,hi.wr,hi.eq,hi.c1,hi.c2,hi.c3⟩ (by rw[C] at t;simp only[length_cons] at t;omega) (by simp;omega) ?_ (λe B=>?_) (by exact Ab.fin hs)
    ·rw[filter_append];have z:r.k=1:=y.1;have:[(r.k,r.s)].filter (λe:Ev=>decide<|e.1≠1)=[]:=by simp[z]
     rw[this,append_nil];exact A
    ·rw[mem_append,mem_singleton] at B;rcases B with h|rfl
     ·exact j e h
     ·exact y.2
   ·have C:=Km g;have y:=hi.wr (q.k,q.s) (by rw[C];exact .head _)
    have I:=hi.eq;rw[C] at I;refine Am rfl ?_;refine Aa (Af hs<|Af hs ?_);refine Ak hs λnb w hs=>?_;refine D3 (E:=Gi) (s:=f) (a:=(q.k,q.s)) hs rfl rfl rfl rfl (by decide) (by omega) λs2 w F hs=>?_;refine Aa (A4 hs λw hs=>?_);refine next w r { q with h:=false } s2 (evs++[(q.k,q.s)]) ({ q with h:=false }:DZ).evs ⟨hi.rd,λe B=>hi.wr e<|by rw[C];exact .tail _ B,rfl,hi.c1,hi.c2,hi.c3⟩ (by rw[C] at t;simp only[length_cons] at t;omega) (by simp;omega) ?_ (λe B=>?_) (by exact Ab.fin hs)
    ·rw[filter_append];have z:q.k≠1:=y.1;have:[(q.k,q.s)].filter (λe:Ev=>decide<|e.1≠1)=[(q.k,q.s)]:=by simp[z]
     rw[this,List.append_assoc,List.singleton_append,I];exact A
    ·rw[mem_append,mem_singleton] at B;rcases B with h|rfl
     ·exact j e h
     ·exact y.2
 have G:([]:List Ev).filter (λe=>decide<|e.1≠1)++ws=ws:=rfl;rcases o with⟨o,g,x⟩|⟨o,g⟩|⟨o,g⟩
 ·exact⟨none,o,AP _<|u _ w r.peek q.peek none _ [] ws hi rfl (by simp only[length_nil];omega) (.inl ⟨rfl,g,x,by rw[Du];exact QP g,by rw[Du];exact QP x⟩) G (by simp) hs⟩
 ·exact⟨some ⟨b,0,none⟩,o,AP _<|u _ w r.peek q.peek _ _ [] ws hi rfl (by simp only[length_nil];omega) (.inr<|.inl ⟨rfl,g⟩) G (by simp) hs⟩
 ·exact⟨some ⟨b,5,none⟩,o,AP _<|u _ w r.peek q.peek _ _ [] ws hi rfl (by simp only[length_nil];omega) (.inr<|.inr ⟨rfl,g⟩) G (by simp) hs⟩
end
end Go.Proofs.YtjipofkjmmpjdaaGreat
namespace Go.Hb
instance {s:Int} {k:BA} {x0:BA} {x1:Int}:N2 (C7 Ap.si) [.i s,.s k,.s x0,.i x1] ⟨s,k,(x0,x1)⟩:=⟨rfl⟩
end Go.Hb
namespace Go.Proofs.YtjipofkjmmpjdaaGreat
open Go.Hb Go.IntWalk
section
variable{W w:World}{L M:List HP}{F:HP->List HP}{b:Nat}{seed:Int}{m:List (BA×(BA×Int))}{s:Sl}{ps:List (Pl (BA×Int))}{n1 u1:Int}
theorem FS{st:BA->Nat}{k:BA}(E:st=A2 seed ps.length)(O:k.size<4611686018427387904)(G:0<ps.length/\ps.length<4611686018427387904)(g:∃e,e<ps.length/\B0 ps ((st k+e) % ps.length)=0)
  (hs:Ab W w (blk b [.int .u64 seed,.l s.a s.n s.c,.i n1,.i u1]::recs (C7 Ap.si) s ps::M)) :
  Ai PR 158 #[pq b 0,.s k] w λe w'=>e = .returned (.tuple #[.i ((AK st ps k).1:Int),.b (AK st ps k).2])/\Ab W w' (blk b [.int .u64 seed,.l s.a s.n s.c,.i n1,.i u1]::recs (C7 Ap.si) s ps::M):=by
 refine c1 (cw ⟨mixed,func158,rfl⟩ Are ?_);have H:=(BE (s:=s) hs HQ.pos).1;refine An [blk b [.int .u64 seed,.l s.a s.n s.c,.i n1,.i u1]] hs λw hs=>?_
 repeat (first|with_reducible refine Aa ?_|((with_reducible refine Cm ?_);first|refine Au ?_|fail)|fail)
 refine Ao (Hl hs O) λe w ⟨p,hs⟩=>⟨_,p,?_⟩
 repeat (first|((with_reducible refine Bk ?_);first|refine Ag hs ?_|fail)|fail)
 refine Ao (GR (n:=s.n) hs (GH _ _).1 (by omega) (by omega)) λe w ⟨p,hs⟩=>⟨_,p,?_⟩;have P:(Fw seed k).toNat % s.n=A2 seed ps.length k:=by rw[H,Kw]
 rw[P];have y:∀(f:Nat)(free:Option Nat)(i:Nat)(w:World),i<ps.length->(∃e,e<f/\B0 ps ((i+e) % ps.length)=0)->Ab W w (blk b [.int .u64 seed,.l s.a s.n s.c,.i n1,.i u1]::recs (C7 Ap.si) s ps::M) ->
   Qe AU (λv w'=>v = .tuple #[.i ((AF ps k f free i).1:Int),.b (AF ps k f free i).2]/\Ab W w' (blk b [.int .u64 seed,.l s.a s.n s.c,.i n1,.i u1]::recs (C7 Ap.si) s ps::M)) f (some ⟨b,0,none⟩) k (MY free) (i:Int) w:=by
  intro f
  induction f with
  | zero=>intro free i w hi ⟨e,p,_⟩;omega
  | succ f Q=>
   intro free i w hi g hs;have R:(i+1) % ps.length<ps.length:=mod_lt _ G.1;have next:B0 ps i≠0->∃I,I<f/\B0 ps (((i+1) % ps.length+I) % ps.length)=0:=by
    obtain⟨e,p,q⟩:=g;intro r;cases e with
    | zero=>rw[add_zero,Nat.mod_eq_of_lt hi] at q;exact absurd q r
    | succ e=>exact⟨e,by omega,by rw[Ej];exact q⟩
   have F:tmod (wrap .i64<|(i:Int)+1) (s.n:Int)=(((i+1) % ps.length:Nat):Int):=by
    rw[i64_in _<|by omega,H,Int.tmod_eq_emod_of_nonneg<|by omega];simp
   have J:∀(d:Option Nat)(w:World),B0 ps i≠0->Ab W w (blk b [.int .u64 seed,.l s.a s.n s.c,.i n1,.i u1]::recs (C7 Ap.si) s ps::M)->AF ps k (f+1) free i=AF ps k f d ((i+1) % ps.length) ->
     WW AU (λv w'=>v = .tuple #[.i ((AF ps k (f+1) free i).1:Int),.b (AF ps k (f+1) free i).2]/\Ab W w' (blk b [.int .u64 seed,.l s.a s.n s.c,.i n1,.i u1]::recs (C7 Ap.si) s ps::M)) f (some ⟨b,0,none⟩) k (MY d) (i:Int) w:=by
    intro d w r hs p;refine jw Z8 ?_;rw[p]
    repeat (first|with_reducible refine Aa ?_|((with_reducible refine A7 ?_);first|refine Af hs ?_|fail)|((with_reducible refine RY ?_);first|refine ML ?_|fail)|fail)
    rw[F];exact Q d _ w R (next r) hs
   rw[ZA];have u:((i:Int)).toNat=i:=toNat_natCast i
   repeat (first|with_reducible refine Aa ?_|((with_reducible refine A7 ?_);first|refine Af hs ?_|refine Cx hs ?_|fail)|((with_reducible refine BI ?_);first|refine BO hs λT U hs=>?_|fail)|fail)
   rw[u];have D:(ps.getD i default).is_=B0 ps i:=rfl;have S:(ps.getD i default).key=DT ps i:=rfl;rw[D];have K:∀(t:Bool)(w:World)(b1 x:Nat),t=decide (B0 ps i=2/\DT ps i=k)->Ab W w (blk b [.int .u64 seed,.l s.a s.n s.c,.i n1,.i u1]::reca (C7 Ap.si) b1 x s ps::M) ->
     WU AU (λv w'=>v = .tuple #[.i ((AF ps k (f+1) free i).1:Int),.b (AF ps k (f+1) free i).2]/\Ab W w' (blk b [.int .u64 seed,.l s.a s.n s.c,.i n1,.i u1]::recs (C7 Ap.si) s ps::M)) f (some ⟨b,0,none⟩) k (MY free) (i:Int) b1 (x+i*4) t w:=by
    intro t w b1 x z hs;refine jw Z6 ?_;rw[z]
    with_reducible refine EH (λh=>?_) (λh=>?_)
    ·have A:AF ps k (f+1) free i=(i,true):=by rw[AF,if_pos h]
     rw[A];exact⟨rfl,by exact Ab.fin hs⟩
    ·repeat (first|with_reducible refine Aa ?_|((with_reducible refine A7 ?_);first|refine Cx hs ?_|fail)|fail)
     rw[D];have L:∀(t:Bool)(w:World),t=decide (B0 ps i=1/\free=none)->Ab W w (blk b [.int .u64 seed,.l s.a s.n s.c,.i n1,.i u1]::reca (C7 Ap.si) b1 x s ps::M) ->
       WV AU (λv w'=>v = .tuple #[.i ((AF ps k (f+1) free i).1:Int),.b (AF ps k (f+1) free i).2]/\Ab W w' (blk b [.int .u64 seed,.l s.a s.n s.c,.i n1,.i u1]::recs (C7 Ap.si) s ps::M)) f (some ⟨b,0,none⟩) k (MY free) (i:Int) b1 (x+i*4) t w:=by
      intro t w z hs;refine jw Z7 ?_;rw[z]
      with_reducible refine EH (λm=>?_) (λm=>?_)
      ·exact J (some i) w (by rw[m.1];decide) (by exact Ab.fin hs) (by rw[AF,if_neg h,if_pos m])
      ·repeat (first|with_reducible refine Aa ?_|((with_reducible refine A7 ?_);first|refine Cx hs ?_|fail)|fail)
       rw[D];have N:∀(t:Bool)(w:World),t=decide (B0 ps i=0/\free=none)->Ab W w (blk b [.int .u64 seed,.l s.a s.n s.c,.i n1,.i u1]::reca (C7 Ap.si) b1 x s ps::M) ->
         WX AU (λv w'=>v = .tuple #[.i ((AF ps k (f+1) free i).1:Int),.b (AF ps k (f+1) free i).2]/\Ab W w' (blk b [.int .u64 seed,.l s.a s.n s.c,.i n1,.i u1]::recs (C7 Ap.si) s ps::M)) f (some ⟨b,0,none⟩) k (MY free) (i:Int) b1 (x+i*4) t w:=by
        intro t w z hs;refine jw Z9 ?_;rw[z]
        with_reducible refine EH (λo=>?_) (λo=>?_)
        ·have A:AF ps k (f+1) free i=(i,false):=by rw[AF,if_neg h,if_neg m,if_pos o.1,o.2];rfl
         rw[A];exact⟨rfl,by exact Ab.fin hs⟩
        ·repeat (first|with_reducible refine Aa ?_|((with_reducible refine A7 ?_);first|refine Cx hs ?_|fail)|fail)
         rw[D]
         with_reducible refine Cc (λB=>?_) (λB=>?_)
         ·have A:AF ps k (f+1) free i=(free.getD i,false):=by rw[AF,if_neg h,if_neg m,if_pos B]
          rw[A];cases free with
          | none=>exact absurd ⟨B,rfl⟩ o
          | some j=>exact⟨rfl,by exact Ab.fin hs⟩
         ·exact J free w B (by exact Ab.fin hs) (by rw[AF,if_neg h,if_neg m,if_neg B])
       with_reducible refine Cc (λo=>?_) (λo=>?_)
       ·exact N _ w (by simp[o,Hk]) (by exact Ab.fin hs)
       ·exact N _ w (by simp[o]) (by exact Ab.fin hs)
     with_reducible refine Cc (λm=>?_) (λm=>?_)
     ·exact L _ w (by simp[m,Hk]) (by exact Ab.fin hs)
     ·exact L _ w (by simp[m]) (by exact Ab.fin hs)
   with_reducible refine Cc (λh=>?_) (λh=>?_)
   ·repeat (first|with_reducible refine Aa ?_|((with_reducible refine A7 ?_);first|refine Fy hs ?_|fail)|fail)
    rw[S];refine K _ w _ _ ?_ (by exact Ab.fin hs);rw[Y5];simp[h]
   ·refine K _ w _ _ ?_ (by exact Ab.fin hs);simp[h]
 subst E;have C:=y ps.length none (A2 seed ps.length k) w (CY G.1 k) g hs;rw[show MY none = -1 from rfl] at C;unfold AK;refine⟨ps.length,?_⟩;exact C
theorem KJ{k:BA}{v:(BA×Int)}{j:Nat}(g:j<ps.length)(p:ps.length<4611686018427387904)(f:u1=(A9 ps:Int))(h:0<=n1/\n1<4611686018427387904)(hs:Ab W w (blk b [.int .u64 seed,.l s.a s.n s.c,.i n1,.i u1]::recs (C7 Ap.si) s ps::M)) :
  Ai PR 166 #[pq b 0,.i (j:Int),.s k,.agg #[.s (v).1,.i (v).2]] w λe w'=>e = .returned (.tuple #[])/\Ab W w' (blk b [.int .u64 seed,.l s.a s.n s.c,.i<|n1+1,.i (A9 (ps.set j ⟨2,k,v⟩):Int)]::recs (C7 Ap.si) s (ps.set j ⟨2,k,v⟩)::M):=by
 refine c1 (cw ⟨mixed,func166,rfl⟩ Arn ?_);refine Ak hs λq w hs=>?_;have r:=(BE (s:=s) hs HQ.pos).1;have m:A9 ps<=ps.length:=List.countP_le_length;rw[Bu g _<|by show(2:Int)≠0;decide]
 repeat (first|with_reducible refine Aa ?_|((with_reducible refine A7 ?_);first|refine Af hs ?_|refine Cx hs ?_|fail)|((with_reducible refine BI ?_);first|refine BO hs λt u hs=>?_|fail)|fail)
 simp only[toNat_natCast];have o:(ps.getD j default).is_=B0 ps j:=rfl;rw[o]
 with_reducible refine Cc (λd=>?_) (λd=>?_)
 ·repeat (first|with_reducible refine Aa ?_|((with_reducible refine A7 ?_);first|refine Af hs ?_|fail)|((with_reducible refine Bv ?_);first|refine A4 hs λw hs=>?_|fail)|fail)
  refine jw NM ?_
  repeat (first|with_reducible refine Aa ?_|((with_reducible refine A7 ?_);first|refine Af hs ?_|fail)|((with_reducible refine Bv ?_);first|refine A4 hs λw hs=>?_|refine Gx hs λw hs=>?_|fail)|((with_reducible refine BI ?_);first|refine Ia hs ?_|fail)|((with_reducible refine Cm ?_);first|refine Au ?_|fail)|((with_reducible refine Bk ?_);first|refine BJ hs ?_|fail)|((with_reducible refine E0 ?_);first|refine AI hs λw hs=>?_|fail)|fail)
  rw[i64_in (n1+1)<|by omega,f,i64_in _<|by omega] at hs;simp only[toNat_natCast] at hs;rw[if_pos d];exact⟨rfl,by exact Ab.fin hs⟩
 ·refine jw NM ?_
  repeat (first|with_reducible refine Aa ?_|((with_reducible refine A7 ?_);first|refine Af hs ?_|fail)|((with_reducible refine Bv ?_);first|refine A4 hs λw hs=>?_|refine Gx hs λw hs=>?_|fail)|((with_reducible refine BI ?_);first|refine Ia hs ?_|fail)|((with_reducible refine Cm ?_);first|refine Au ?_|fail)|((with_reducible refine Bk ?_);first|refine BJ hs ?_|fail)|((with_reducible refine E0 ?_);first|refine AI hs λw hs=>?_|fail)|fail)
  rw[i64_in (n1+1)<|by omega,f] at hs;simp only[toNat_natCast] at hs;rw[if_neg d,add_zero];exact⟨rfl,by exact Ab.fin hs⟩
theorem Ty{st:BA->Nat}(hi:Cj st ps m)(E:∀e∈m,e.1.size<4611686018427387904)(hm:m.length<1000000000)(hs:Ab W w (blk b [.int .u64 seed,.l s.a s.n s.c,.i (m.length:Int),.i u1]::recs (C7 Ap.si) s ps::M)) :
  Ai PR 167 #[pq b 0] w λe w'=>e = .returned (.tuple #[])/\Ab W w' (ixr Ap.si b seed m::M):=by
 refine c1 (cw ⟨mixed,func167,rfl⟩ Aro ?_);have hn:=(BE (s:=s) hs HQ.pos).1;have D:=hi.small;obtain⟨N,hN⟩:∃N:Nat,N=max 8 (4*(m.length+1)):=⟨_,rfl⟩;have X:(if (wrap .i64<|(4:Int)*(wrap .i64<|(m.length:Int)+(1:Int)))>(8:Int) then (wrap .i64<|(4:Int)*(wrap .i64<|(m.length:Int)+(1:Int))) else (8:Int))=(N:Int):=by
  rw[i64_in ((m.length:Int)+1)<|by omega,i64_in _<|by omega];split <;> omega
 repeat (first|with_reducible refine Aa ?_|((with_reducible refine A7 ?_);first|refine Af hs ?_|fail)|fail)
 rw[X];refine EJ (sz:=4) hs rfl (by omega) (by omega) (by omega) (by omega) λs2 w F _ _ hs=>?_;rw[toNat_natCast] at hs F;have hs:Ab W w (recs (C7 Ap.si) s2 (replicate N ⟨0,Ae,((Ae,0):BA×Int)⟩)::blk b [.int .u64 seed,.l s.a s.n s.c,.i (m.length:Int),.i u1]::recs (C7 Ap.si) s ps::M):=by
  have e:=El (C7 Ap.si) ⟨0,Ae,((Ae,0):BA×Int)⟩ N;unfold recs;rw[<- e];exact hs
 repeat (first|with_reducible refine Aa ?_|((with_reducible refine Bv ?_);first|refine A4 hs λw hs=>?_|fail)|fail)
 have x:=Cj.new (st:=A2 seed N) (n:=N) (z:=(⟨0,Ae,((Ae,0):BA×Int)⟩:Pl (BA×Int))) rfl (by omega) (by omega) (CY<|by omega);have p:(AS ps).map (·.1) |>.Nodup:=(hi.perm.map (·.1)).nodup_iff.2 hi.nodup
 have R:(AS ps).length=m.length:=hi.perm.length_eq;have y:∀(f i:Nat)(w:World)(d:List (Pl<|BA×Int))(k:List (BA×(BA×Int))),i+f=ps.length->d.length=N->Cj (A2 seed N) d k->k.Perm (AS<|ps.take i)->A9 d<=k.length ->
   Ab W w (blk b [.int .u64 seed,.l s2.a s2.n s2.c,.i (k.length:Int),.i (A9 d:Int)]::recs (C7 Ap.si) s2 d::recs (C7 Ap.si) s ps::M) ->
   LI AU (λv w'=>v = .tuple #[]/\Ab W w' (ixr Ap.si b seed m::M)) (f+1) (some ⟨b,0,none⟩) s (s.n:Int) (i:Int) w:=by
  intro f
  induction f with
  | zero=>
   intro i w d k G j g q S hs;rw[NN];refine Ad (decide_eq_false<|by omega) ⟨rfl,?_⟩;rw[take_of_length_le<|by omega] at q;have r:=q.trans hi.perm;refine Bd s2 (ps:=d) (n:=(k.length:Int)) ?_ ?_ (by rw[r.length_eq]) rfl (by exact Ab.fin hs)
   ·rw[j];exact g.perm' r
   ·rw[j];have:=r.length_eq;omega
  | succ f T=>
   intro i w d k G j g q S hs;rw[NN];refine Am (decide_eq_true<|by omega) ?_
   repeat (first|((with_reducible refine A7 ?_);first|refine Af hs ?_|refine Cx hs ?_|refine Fy hs ?_|refine O1 hs ?_|refine Acg hs ?_|fail)|((with_reducible refine Bv ?_);first|refine A4 hs λw hs=>?_|fail)|((with_reducible refine BI ?_);first|refine BO hs λU o_ hs=>?_|fail)|((with_reducible refine Dd ?_);first|refine Ak hs λU w hs=>?_|fail)|fail)
   simp only[toNat_natCast] at hs ⊢;have H:i<ps.length:=by omega
   have h:AS (ps.take<|i+1)=AS (ps.take i)++EU (ps.getD i default):=by
    rw[CC H,BH];simp[AS]
   with_reducible refine Cc (λI=>?_) (λI=>?_)
   ·have t:EU (ps.getD i default)=[((ps.getD i default).key,(ps.getD i default).v)]:=Ga I;rw[t] at h;have o:(AS<|ps.take<|i+1).Sublist (AS ps):=by
     conv=>rhs;rw[<- take_append_drop (i+1) ps,BH]
     exact List.sublist_append_left _ _
    have A:((ps.getD i default).key,(ps.getD i default).v)∈m:=hi.perm.subset (o.subset<|by rw[h];simp);have u:=p.sublist (o.map (·.1));rw[h,map_append] at u;have B:AH k (ps.getD i default).key=none:=by
     rw[BC];intro e C Y;rw[nodup_append] at u;exact u.2.2 _ (List.mem_map_of_mem (f:=(·.1))<|q.subset C) _ (by simp) Y
    have Z:k.length+1<=m.length:=by
     have:=o.length_le;rw[h,length_append,<- q.length_eq] at this;simp only[length_cons,length_nil] at this;omega
    repeat (first|((with_reducible refine A7 ?_);first|refine Af hs ?_|fail)|fail)
    have hs:Ab W w (blk b [.int .u64 seed,.l s2.a s2.n s2.c,.i (k.length:Int),.i (A9 d:Int)]::recs (C7 Ap.si) s2 d::blk U [.i (ps.getD i default).is_,.s (ps.getD i default).key,.s (ps.getD i default).v.1,.i (ps.getD i default).v.2]::recs (C7 Ap.si) s ps::M):=by exact Ab.fin hs
    refine AJ (FS (st:=A2 seed N) (by rw[j]) (E _ A) (by omega) (g.stop _) hs) λe w ⟨C,hs⟩=>⟨_,_,C,?_⟩;have J:(AK (A2 seed N) d (ps.getD i default).key).2=false:=by
     cases hb:(AK (A2 seed N) d (ps.getD i default).key).2 with
     | false=>rfl
     | true=>have:=(g.hit hb).2.2;rw[B] at this;cases this
    obtain⟨K,L,_,O⟩:=g.miss J
    repeat (first|((with_reducible refine A7 ?_);first|refine Af hs ?_|fail)|fail)
    refine Av (KJ (v:=(ps.getD i default).v) K (by omega) rfl (by omega) hs) λe w ⟨C,hs⟩=>⟨C,?_⟩;rw[i64_in _<|by omega];have P:=Bu K (⟨2,(ps.getD i default).key,(ps.getD i default).v⟩:Pl (BA×Int)) (by show(2:Int)≠0;decide)
    have V:A9 (d.set (AK (A2 seed N) d (ps.getD i default).key).1 ⟨2,(ps.getD i default).key,(ps.getD i default).v⟩)<=A9 d+1:=by rw[P];split <;> omega
    refine T (i+1) w _ (((ps.getD i default).key,(ps.getD i default).v)::k) (by omega) (by rw[length_set];exact j) (g.add K L B O<|by omega) ?_ (by simp only[length_cons];omega) ?_
    ·rw[h];exact((List.Perm.cons _ q).trans<|List.perm_append_comm (l₁:=[_]))
    ·simp only[length_cons,natCast_add];exact Ab.fin hs
   ·have t:EU (ps.getD i default)=[]:=Io I;rw[t,append_nil] at h;rw[i64_in _<|by omega];exact T (i+1) w d k (by omega) j g (by rw[h];exact q) S (by exact Ab.fin hs)
 refine⟨ps.length+1,?_⟩;refine y ps.length 0 w (replicate N ⟨0,Ae,((Ae,0):BA×Int)⟩) [] (by omega) (by simp) x (by simp[AS]) ?_ ?_
 ·have:A9 (replicate N (⟨0,Ae,((Ae,0):BA×Int)⟩:Pl (BA×Int)))=0:=by
   unfold A9;rw[countP_eq_zero];intro a Q;rw[List.eq_of_mem_replicate Q];simp
  rw[this];exact zero_le _
 ·have:A9 (replicate N (⟨0,Ae,((Ae,0):BA×Int)⟩:Pl (BA×Int)))=0:=by
   unfold A9;rw[countP_eq_zero];intro a Q;rw[List.eq_of_mem_replicate Q];simp
  rw[this];exact Ab.fin hs
end
section
variable{W w:World}{L M:List HP}{F:HP->List HP}{b:Nat}{seed:Int}{m:List (BA×(BA×Int))}{k:BA}
theorem Aor(hs:Ab W w L):Ai PR 114 #[.int .u64 seed] w λe w'=>∃b,e = .returned (pq b 0)/\Ab W w' (ixr Ap.si b seed []::L):=by
 refine(cw ⟨mixed,func114,rfl⟩ Aqd (Q:=λv w'=>∃b,v=pq b 0/\Ab W w' (ixr Ap.si b seed []::L)) ?_).mono λe w' ⟨v,a,b,c,hs⟩=>⟨b,by rw[a,c],hs⟩;refine EJ (sz:=4) hs rfl (by omega) (by omega) (by omega) (by omega) λs2 w d _ _ hs=>?_;have hs:Ab W w (recs (C7 Ap.si) s2 (replicate 8 ⟨0,Ae,((Ae,0):BA×Int)⟩)::L):=hs
 repeat (first|((with_reducible refine Dd ?_);first|refine Ak hs λf w hs=>?_|fail)|fail)
 refine⟨_,rfl,Bd s2 (ps:=replicate 8 ⟨0,Ae,((Ae,0):BA×Int)⟩) (n:=0) (u:=0) (Cj.new (n:=8) rfl (by omega) (by omega)<|CY<|by simp) (by decide +revert) rfl rfl<|by exact Ab.fin hs⟩
theorem K3(h:Ab W w L)[hA:At L b (ixr Ap.si b seed m) F](d:k.size<4611686018427387904):Ai PR 120 #[pq b 0,.s k] w λe w'=>e = .returned (.tuple #[.agg #[.s ((AH m k).getD ((Ae,0):BA×Int)).1,.i ((AH m k).getD ((Ae,0):BA×Int)).2],.b (AH m k).isSome])/\Ab W w' (F<|ixr Ap.si b seed m):=by
 refine At.call1 (hA:=hA) h λM hs=>?_;clear h hA;refine c1 (cw ⟨mixed,func120,rfl⟩ Aqj ?_);refine Ak hs λf w hs=>?_;have hs:Ab W w (ixr Ap.si b seed m::blk f [.s Ae,.i (0:Int)]::M):=by exact Ab.fin hs
 refine Am rfl ?_;obtain⟨s,ps,hi,c,p,hs⟩:=CG hs;have g:=hi.small;have j:=hi.big;refine AJ (FS (st:=A2 seed ps.length) rfl d (by omega) (hi.stop _) hs) λe w ⟨l,hs⟩=>⟨_,_,l,?_⟩;refine As (λa=>?_) (λa=>?_)
 ·obtain⟨q,_,n⟩:=hi.hit a;rw[n]
  repeat (first|with_reducible refine Aa ?_|((with_reducible refine A7 ?_);first|refine Af hs ?_|refine Fy hs ?_|refine O1 hs ?_|fail)|((with_reducible refine Bv ?_);first|refine A4 hs λw hs=>?_|fail)|((with_reducible refine BI ?_);first|refine BO hs λo r hs=>?_|fail)|fail)
  simp only[toNat_natCast];exact⟨rfl,Bd s hi c rfl rfl<|by exact Ab.fin hs⟩
 ·rw[(hi.miss a).2.2.1];refine jw Zt ?_
  repeat (first|((with_reducible refine A7 ?_);first|refine Af hs ?_|fail)|((with_reducible refine Bv ?_);first|refine A4 hs λw hs=>?_|fail)|((with_reducible refine Dd ?_);first|refine Ak hs λo w hs=>?_|fail)|fail)
  exact⟨rfl,Bd s hi c rfl rfl<|by exact Ab.fin hs⟩
theorem Aoq(h:Ab W w L)[hA:At L b (ixr Ap.si b seed m) F]:Ai PR 70 #[pq b 0] w λe w'=>e = .returned (.i (m.length:Int))/\Ab W w' (F<|ixr Ap.si b seed m):=by
 refine At.call1 (hA:=hA) h λM hs=>?_;clear h hA;refine c1 (cw ⟨mixed,func70,rfl⟩ A3w ?_);refine Ad rfl ?_;obtain⟨s,ps,hi,a,c,hs⟩:=CG hs
 repeat (first|with_reducible refine Aa ?_|((with_reducible refine A7 ?_);first|refine Af hs ?_|fail)|fail)
 exact⟨rfl,Bd s hi a rfl rfl hs⟩
theorem Aos(h:Ab W w L)[hA:At L b (ixr Ap.si b seed m) F]{v:(BA×Int)}(G:k.size<4611686018427387904)(A:∀e∈m,e.1.size<4611686018427387904)(R:m.length<900000000):Ai PR 127 #[pq b 0,.s k,.agg #[.s (v).1,.i (v).2]] w λe w'=>e = .returned (.b (AH m k).isNone)/\Ab W w' (F<|ixr Ap.si b seed<|Cw m k v):=by
 refine At.call1 (hA:=hA) h λM hs=>?_;clear h hA;refine c1 (cw ⟨mixed,func127,rfl⟩ Aqp ?_);refine Ak hs λI w hs=>?_;have hs:Ab W w (ixr Ap.si b seed m::blk I [.s v.1,.i v.2]::M):=by exact Ab.fin hs
 refine Ad rfl ?_;obtain⟨s,ps,hi,J,K,hs⟩:=CG hs;have N:=hi.small;have O:=hi.big;refine AJ (FS (st:=A2 seed ps.length) rfl G (by omega) (hi.stop _) hs) λe w ⟨f,hs⟩=>⟨_,_,f,?_⟩;refine As (λB=>?_) (λB=>?_)
 ·obtain⟨o,p,q⟩:=hi.hit B;have C:Cw m k v=Fm m k v:=by unfold Cw;rw[q]
  rw[q,C]
  repeat (first|with_reducible refine Aa ?_|((with_reducible refine A7 ?_);first|refine Af hs ?_|fail)|((with_reducible refine BI ?_);first|refine BO hs λS T hs=>?_|fail)|((with_reducible refine Cm ?_);first|refine Au ?_|fail)|((with_reducible refine Bk ?_);first|refine BJ hs ?_|fail)|((with_reducible refine E0 ?_);first|refine AI hs λw hs=>?_|fail)|fail)
  simp only[toNat_natCast];refine YC (vs:=[.s v.1,.i v.2]) (pre:=[.i (ps.getD (AK (A2 seed ps.length) ps k).1 default).is_,.s (ps.getD (AK (A2 seed ps.length) ps k).1 default).key]) (mid:=[.s (ps.getD (AK (A2 seed ps.length) ps k).1 default).v.1,.i (ps.getD (AK (A2 seed ps.length) ps k).1 default).v.2]) (tl:=[]) (a':={ ps.getD (AK (A2 seed ps.length) ps k).1 default with v:=v }) (i:=(AK (A2 seed ps.length) ps k).1) (j:=2) (n:=4) hs rfl o rfl rfl rfl rfl λw hs=>?_;have r:=hi.set (v:=v) o p;have g:A9 (ps.set (AK (A2 seed ps.length) ps k).1 { ps.getD (AK (A2 seed ps.length) ps k).1 default with v:=v })=A9 ps:=by
   rw[Bu o _<|by show B0 ps _≠0;rw[p.1];decide,if_neg<|by rw[p.1];decide];rfl
  refine⟨rfl,Bd s (n:=(m.length:Int)) (u:=(A9 ps:Int)) (by rw[length_set];exact r) (by rw[g,length_set];exact J) (by simp[Fm]) (by rw[g])<|by exact Ab.fin hs⟩
 ·obtain⟨o,D,q,P⟩:=hi.miss B;have C:Cw m k v=(k,v)::m:=by unfold Cw;rw[q]
  rw[q,C]
  repeat (first|((with_reducible refine A7 ?_);first|refine Af hs ?_|fail)|fail)
  refine Av (KJ (v:=v) o (by omega) rfl (by omega) hs) λe w ⟨f,hs⟩=>⟨f,?_⟩;have g:=Bu o (⟨2,k,v⟩:Pl (BA×Int)) (by show(2:Int)≠0;decide)
  have t:A9 (ps.set (AK (A2 seed ps.length) ps k).1 ⟨2,k,v⟩)<=A9 ps+1:=by rw[g];split <;> omega
  have d:=hi.add (v:=v) o D q P (by omega);have x:(ps.set (AK (A2 seed ps.length) ps k).1 ⟨2,k,v⟩).length=ps.length:=by simp
  generalize H:ps.set (AK (A2 seed ps.length) ps k).1 ⟨2,k,v⟩=y at hs t d x
  repeat (first|with_reducible refine Aa ?_|((with_reducible refine A7 ?_);first|refine Af hs ?_|fail)|((with_reducible refine Cm ?_);first|refine Au ?_|fail)|((with_reducible refine Bk ?_);first|refine BJ hs ?_|fail)|((with_reducible refine E0 ?_);first|refine AI hs λw hs=>?_|fail)|fail)
  rw[i64_in _<|by omega,K]
  with_reducible refine D5 (λQ=>?_) (λQ=>?_)
  ·have z:∀e∈(k,v)::m,e.1.size<4611686018427387904:=by
    intro e f;rcases mem_cons.1 f with rfl|f
    ·exact G
    ·exact A e f
   have E:Ab W w (blk b [.int .u64 seed,.l s.a s.n s.c,.i (((k,v)::m).length:Int),.i (A9 y:Int)]::recs (C7 Ap.si) s y::M):=by
    simp only[length_cons,natCast_add];exact Ab.fin hs
   refine Av (Ty d z (by simp;omega) E) λe w ⟨f,hs⟩=>⟨f,?_⟩;exact⟨rfl,hs⟩
  ·exact⟨rfl,Bd s (n:=(m.length:Int)+1) (by rw[x];exact d) (by omega) (by simp) rfl<|by exact Ab.fin hs⟩
theorem YI(h:Ab W w L)[hA:At L b (ixr Ap.si b seed m) F](l:k.size<4611686018427387904)(v:m.length<900000000):Ai PR 136 #[pq b 0,.s k] w λe w'=>e = .returned (.tuple #[.agg #[.s ((AH m k).getD ((Ae,0):BA×Int)).1,.i ((AH m k).getD ((Ae,0):BA×Int)).2],.b (AH m k).isSome])/\Ab W w' (F<|ixr Ap.si b seed<|BU m k):=by
 refine At.call1 (hA:=hA) h λM hs=>?_;clear h hA;refine c1 (cw ⟨mixed,func136,rfl⟩ Aqw ?_);refine Ak hs λb1 w hs=>?_;refine(K3 hs l).mono λe w ⟨a,hs⟩=>⟨_,_,_,a,?_⟩
 repeat (first|((with_reducible refine Bv ?_);first|refine A4 hs λw hs=>?_|fail)|((with_reducible refine Dd ?_);first|refine Ak hs λo w hs=>?_|fail)|fail)
 have hs:Ab W w (ixr Ap.si b seed m::blk o [.s ((AH m k).getD ((Ae,0):BA×Int)).1,.i ((AH m k).getD ((Ae,0):BA×Int)).2]::blk b1 [.s Ae,.i (0:Int)]::M):=by exact Ab.fin hs
 refine Mc (λv g=>?_) (λg=>?_)
 ·obtain⟨s,ps,hi,q,x,hs⟩:=CG hs;have r:=hi.small;have t:=hi.big;refine AJ (FS (st:=A2 seed ps.length) rfl l (by omega) (hi.stop _) hs) λe w ⟨a,hs⟩=>⟨_,_,a,?_⟩;have j:(AK (A2 seed ps.length) ps k).2=true:=by
   cases j:(AK (A2 seed ps.length) ps k).2 with
   | true=>rfl
   | false=>have:=(hi.miss j).2.2.1;rw[g] at this;cases this
  obtain⟨p,c,_⟩:=hi.hit j
  repeat (first|with_reducible refine Aa ?_|((with_reducible refine A7 ?_);first|refine Af hs ?_|fail)|((with_reducible refine Bv ?_);first|refine A4 hs λw hs=>?_|refine Gx hs λw hs=>?_|fail)|((with_reducible refine BI ?_);first|refine BO hs λo y hs=>?_|fail)|fail)
  rw[i64_in _<|by omega] at hs;simp only[toNat_natCast] at hs;have d:=hi.del (z:=(⟨1,Ae,((Ae,0):BA×Int)⟩:Pl (BA×Int))) p c rfl;have f:A9 (ps.set (AK (A2 seed ps.length) ps k).1 (⟨1,Ae,((Ae,0):BA×Int)⟩:Pl (BA×Int)))=A9 ps:=by
   rw[Bu p _<|by show(1:Int)≠0;decide,if_neg<|by rw[c.1];decide];rfl
  have A:=Mo hi.nodup g;refine⟨by trivial,Bd s (n:=(m.length:Int)-1) (u:=(A9 ps:Int)) (by rw[length_set];exact d) (by rw[f,length_set];exact q) (by omega) (by rw[f])<|by exact Ab.fin hs⟩
 ·have:BU m k=m:=by
   unfold BU;rw[List.filter_eq_self];intro e a;simpa using BC.1 g e a
  rw[this]
  repeat (first|((with_reducible refine A7 ?_);first|refine Af hs ?_|fail)|((with_reducible refine Bv ?_);first|refine A4 hs λw hs=>?_|fail)|fail)
  exact⟨by trivial,by exact Ab.fin hs⟩
theorem Aho(h:Ab W w L)[hA:At L b (ixr Ap.si b seed m) F](H:m.length<900000000):Ai PR 71 #[pq b 0] w λe w'=>∃l:Sl,e = .returned (.l l.a l.n l.c)/\Ab W w' (recs Ap.str l (Fq<|m.map (·.1))::F (ixr Ap.si b seed m)):=by
 refine At.oneX (hA:=hA) h λM hs y=>?_;refine(cw ⟨mixed,func71,rfl⟩ A3x (Q:=λv w'=>∃l:Sl,v = .l l.a l.n l.c/\Ab W w' (ixr Ap.si b seed m::recs Ap.str l (Fq<|m.map (·.1))::M)) ?_).mono λe w' ⟨v,o,l,z,hs⟩=>⟨l,by rw[o,z],?_⟩
 ·skip;refine Ad rfl ?_;obtain⟨s,ps,hi,A,I,hs⟩:=CG hs;have B:=hi.small;have p:(AS ps).length=m.length:=hi.perm.length_eq
  repeat (first|with_reducible refine Aa ?_|((with_reducible refine A7 ?_);first|refine Af hs ?_|fail)|fail)
  have hs:=Ab.nilR Ap.str hs;have k:∀(f i:Nat)(w:World)(d:Sl),i+f=ps.length->Ab W w (recs Ap.str d ((AS<|ps.take i).map (·.1))::blk b [.int .u64 seed,.l s.a s.n s.c,.i (m.length:Int),.i (A9 ps:Int)]::recs (C7 Ap.si) s ps::M) ->
    R7 AU (λv w'=>∃l:Sl,v = .l l.a l.n l.c/\Ab W w' (ixr Ap.si b seed m::recs Ap.str l (Fq<|m.map (·.1))::M)) (f+1) d s (s.n:Int) (i:Int) w:=by
   intro f
   induction f with
   | zero=>
    intro i w d q hs;rw[R8];refine Ad (decide_eq_false<|by omega) ?_;refine jw Afv ?_;rw[take_of_length_le<|by omega] at hs;refine Av (A51 (s:=d) hs<|by simp;omega) λe w ⟨o,hs⟩=>⟨o,d,rfl,?_⟩
    have C:Fq ((AS ps).map (·.1))=Fq (m.map (·.1)):=
     GQ (IZ _) (IZ _) ((Lq _).trans<|(hi.perm.map _).trans (Lq _).symm)
    rw[C] at hs;exact Bd s hi A rfl rfl (by exact Ab.fin hs)
   | succ f u=>
    intro i w d q hs;have r:i<ps.length:=by omega
    have g:AS (ps.take<|i+1)=AS (ps.take i)++EU (ps.getD i default):=by
     rw[CC r,BH];simp[AS]
    have D:(AS<|ps.take i).length<=m.length:=by
     rw[<- p]
     conv=>rhs;rw[<- take_append_drop i ps,BH]
     simp
    rw[R8];refine Am (decide_eq_true<|by omega) ?_
    repeat (first|((with_reducible refine A7 ?_);first|refine Af hs ?_|refine Cx hs ?_|refine Fy hs ?_|refine O1 hs ?_|refine Acg hs ?_|fail)|((with_reducible refine Bv ?_);first|refine A4 hs λw hs=>?_|fail)|((with_reducible refine BI ?_);first|refine BO hs λx J hs=>?_|fail)|((with_reducible refine Dd ?_);first|refine Ak hs λx w hs=>?_|fail)|fail)
    simp only[toNat_natCast] at hs ⊢
    with_reducible refine Cc (λt=>?_) (λt=>?_)
    ·have j:EU (ps.getD i default)=[((ps.getD i default).key,(ps.getD i default).v)]:=Ga t;rw[j] at g
     repeat (first|((with_reducible refine A7 ?_);first|refine Af hs ?_|fail)|((with_reducible refine Dd ?_);first|refine Ak hs λx w hs=>?_|fail)|fail)
     refine D3 (s:=d) (a:=(ps.getD i default).key) hs rfl rfl rfl rfl (by decide) (by simp;omega) λE w G hs=>?_;rw[i64_in _<|by omega];refine u (i+1) w E (by omega) ?_;rw[g,map_append];exact Ab.fin hs
    ·have j:EU (ps.getD i default)=[]:=Io t;rw[j,append_nil] at g;rw[i64_in _<|by omega];refine u (i+1) w d (by omega) ?_;rw[g];exact Ab.fin hs
  refine⟨ps.length+1,?_⟩;exact k ps.length 0 w ⟨none,0,0⟩ (by omega) hs
 ·exact y _ _ [recs Ap.str l<|Fq<|m.map (·.1)] hs
end
end Go.Proofs.YtjipofkjmmpjdaaGreat
namespace Go.Hb
theorem SS{k:Type}(E:Ap k)(P:k->Prop){ks:List CK}(c:∀x,Ew ks x->∃a,x=E.cells a/\P a):∀{rows:List (List Value)},(∀x∈rows,Ew ks x) ->
  ∃l:List k,rows.flatten=E.flat l/\l.length=rows.length/\∀a∈l,P a
 | [],_=>⟨[],rfl,rfl,λ_ h=>by cases h⟩
 | x::rows,h=>by
  obtain⟨l,e,f,g⟩:=SS E P c (rows:=rows) λy i=>h y (.tail _ i);obtain⟨a,rfl,j⟩:=c x (h x<|.head _);refine⟨a::l,?_,by simp[f],λb d=>?_⟩
  ·rw[List.flatten_cons,e];rfl
  ·cases d with
   | head=>exact j
   | tail _ d=>exact g b d
def okK(k:IntKind)(n:Int):Prop:=(Lit.int k n).wf=true
def A66(s:BA):Prop:=s.size<=reachBytes
theorem Bcr{k:IntKind}(x:List Value)(h:Ew [.int k] x):∃a,x=(Ap.int k).cells a/\okK k a:=by
 match x,h with
 | [v],⟨⟨s,b,c⟩,_⟩=>subst b;exact⟨s,rfl,c⟩
theorem arg_rec{j:Type}{W:World}{s:Sl}{ks:List CK}{rows:List (List Value)}(E:Ap j)(P:j->Prop)(c:∀x,Ew ks x->∃a,x=E.cells a/\P a)(b:0<E.sz)(d:E.sz=ks.length)
  (e:Ahu W ks.length s rows.flatten) (f:∀x∈rows,Ew ks x):∃l:List j,BZ W s E l/\l.length=rows.length/\∀a∈l,P a:=by
 obtain⟨l,g,h,i⟩:=SS E P c f;refine⟨l,BZ.of b ?_,h,i⟩;rw[<- g,d];exact e
def Ajp(P:Program)(t:TypeId):Bool:=match P.underlying t with
 | some (.struct _)=>true
 | _=>false
end Go.Hb
namespace Go.Hb
def okB(c:Int):Prop:=(97<=c/\c<=122)\/(65<=c/\c<=90)\/(48<=c/\c<=57)\/c=95\/c=45\/c=46\/c=47\/c=58
instance {c:Int}:Decidable (okB c):=by unfold okB;infer_instance
def FU(s:BA):Bool:=decide (1<=s.size/\s.size<=24/\∀j,j<s.size->okB (Bc s j))
theorem Ef{s:BA}(h:FU s=true):s.size<=24:=(of_decide_eq_true h).2.1
abbrev TT:=List (BA×(BA×Int))
structure N4(r:TT):Prop where
 rise:Ce r
 small:∀e∈r,e.1.size<4611686018427387904
 ends:∀e∈r,0<=e.2.2
def OY(e now:Int):Bool:=decide (e≠0/\e<=now)
def Ha(r:TT)(k:BA)(now:Int):BA×Bool:=match AH r k with
 | some v=>if OY v.2 now then (⟨#[]⟩,false) else (v.1,true)
 | none=>(⟨#[]⟩,false)
def Cz(r:TT)(now:Int):List BA:=(r.filter λe=>OY e.2.2 now).map (·.1)
def Gy(k v:BA)(now life:Int):Int:=if FU k=false then 2 else if 64<(v.size:Int) then 3 else if now<0\/1125899906842624<now\/life<0\/1099511627776<life then 1 else 0
def Iv(now life:Int):Int:=if 0<life then now+life else 0
def JR(r:TT)(k v:BA)(now life:Int):TT:=if Gy k v now life=0 then Ip r k (v,Iv now life) else r
def Ny(r:TT)(k v:BA)(now life:Int):Bool:=decide (Gy k v now life=0) && (AH r k).isNone
theorem MF{k v:BA}{now life:Int}(h:Gy k v now life=0):FU k=true/\(v.size:Int)<=64/\0<=now/\now<=1125899906842624/\0<=life/\life<=1099511627776:=by
 unfold Gy at h;split at h
 ·omega
 ·rename_i a;split at h
  ·omega
  ·split at h
   ·omega
   ·exact⟨by simpa using a,by omega,by omega,by omega,by omega,by omega⟩
theorem SI{r:TT}{k:BA}{v:BA×Int}{e:BA×(BA×Int)}(d:Ce r)(h:e∈Ip r k v):e∈r\/e=(k,v):=by
 have c:=(Kp (v:=v) d).mem_iff.1 h;unfold Cw at c;split at c
 ·unfold Fm at c;obtain⟨a,f,b⟩:=mem_map.1 c;split at b
  ·exact .inr b.symm
  ·exact .inl (b ▸ f)
 ·rcases mem_cons.1 c with b|b
  ·exact .inr b
  ·exact .inl b
theorem N4.put{r:TT}(h:N4 r)(k v:BA)(now life:Int):N4 (JR r k v now life):=by
 unfold JR;split
 ·rename_i a;obtain⟨c,d,f,g,i,j⟩:=MF a;have l:=Ef c;have b:0<=Iv now life:=by unfold Iv;split <;> omega
  refine⟨Kq h.rise,λe a=>?_,λe a=>?_⟩
  ·rcases SI h.rise a with a|rfl
   ·exact h.small e a
   ·simp only;omega
  ·rcases SI h.rise a with a|rfl
   ·exact h.ends e a
   ·exact b
 ·exact h
theorem N4.del{r:TT}(h:N4 r)(k:BA):N4 (FD r k):=by
 refine⟨Nv h.rise,λe a=>?_,λe a=>?_⟩
 ·rw[FQ h.rise] at a;exact h.small e (mem_filter.1 a).1
 ·rw[FQ h.rise] at a;exact h.ends e (mem_filter.1 a).1
theorem M3{r:TT}(h:N4 r)(k:BA):(FD r k).length<=r.length:=by rw[FQ h.rise];exact A49 _ _
theorem Ag7{r:TT}(h:Ce r):Fq (r.map (·.1))=r.map (·.1):=Aw9 (List.Perm.refl _) h
def tabR(b:Nat)(r:TT):HP:=Ly λ(xb:Nat)=>Fs (N4 r) (AN [blk b [pq xb 0],ixr Ap.si xb 0 r])
section
variable{b:Nat}{m r:TT}{W w:World}{M L:List HP}
instance At.tabR:At (tabR b r::L) b (tabR b r) (λx=>x::L):=⟨E7⟩
theorem Gc(h:Ab W w (tabR b r::M)):∃xb,N4 r/\Ab W w (blk b [pq xb 0]::ixr Ap.si xb 0 r::M):=by
 obtain⟨xb,h⟩:=h.openE;obtain⟨hi,h⟩:=h.openA;exact⟨xb,hi,h.openL⟩
theorem Ek{xb:Nat}(hi:N4 r)(h:Ab W w (blk b [pq xb 0]::ixr Ap.si xb 0 r::M)):Ab W w (tabR b r::M):=Ab.shutE xb (Ab.shutA hi<|Ab.shutL (Ps:=[_,_]) h)
end
end Go.Hb
namespace Go.Proofs.YtjipofkjmmpjdaaGreat
open Go.Hb Go.IntWalk
section
variable{W w:World}{L M:List HP}{F:HP->List HP}{b:Nat}{m r:TT}{k v:BA}{now life:Int}
theorem Pi(c:Nat)(hc:c<256):(Lib.indexByte Dx.data.toList ((c:Int)).toNat.toUInt8<0)↔¬((c:Int)=95\/(c:Int)=45\/(c:Int)=46\/(c:Int)=47\/(c:Int)=58):=by
 have h:∀c:Fin 256,(Lib.indexByte Dx.data.toList (((c.val:Nat):Int)).toNat.toUInt8<0)↔¬(((c.val:Nat):Int)=95\/((c.val:Nat):Int)=45\/((c.val:Nat):Int)=46\/((c.val:Nat):Int)=47\/((c.val:Nat):Int)=58):=by decide +kernel
 exact h ⟨c,hc⟩
theorem Ak8(s:BA)(i:Nat):∃c:Nat,c<256/\Bc s i=(c:Int):=⟨((s.data.toList[i]?).getD 0).toNat,UInt8.toNat_lt _,rfl⟩
theorem A9t(hs:Ab W w L){c:Int}{s:BA}:Ai PR 157 #[.s s,.int .u8 c] w λe w'=>e = .returned (.i<|Lib.indexByte s.data.toList c.toNat.toUInt8)/\Ab W w' L:=by
 refine Ai.mono (λC a=>a.prim _ _ _ _ _ ⟨rfl,.inl ⟨rfl,s,c,rfl,rfl,rfl⟩⟩:Ai PR 157 #[.s s,.int .u8 c] w λe w'=>e = .returned (.i<|Lib.indexByte s.data.toList c.toNat.toUInt8)/\w'=w) λe w' h=>?_;exact⟨h.1,by rw[h.2];exact hs⟩
theorem Aj0(hs:Ab W w L):Ai PR 118 #[.s k] w λe w'=>e = .returned (.b<|FU k)/\Ab W w' L:=by
 refine c1 (cw ⟨mixed,func118,rfl⟩ Aqh ?_)
 with_reducible refine D5 (λB=>?_) (λB=>?_)
 ·have:FU k=false:=decide_eq_false λh=>by omega
  exact⟨by rw[this],hs⟩
 with_reducible refine D5 (λl=>?_) (λl=>?_)
 ·have:FU k=false:=decide_eq_false λh=>by omega
  exact⟨by rw[this],hs⟩
 refine jw Zr ?_;have g:∀(f i:Nat)(w:World),i+f=k.size->(∀j,j<i->okB (Bc k j))->Ab W w L->CA AU (λv w'=>v = .b (FU k)/\Ab W w' L) (f+1) k (k.size:Int) (i:Int) w:=by
  intro f
  induction f with
  | zero=>
   intro i w hi d hs;rw[NF];refine Ad (decide_eq_false<|by omega) ?_;refine jw Zs ?_;have:FU k=true:=decide_eq_true ⟨by omega,by omega,λj x=>d j<|by omega⟩;exact⟨by rw[this],hs⟩
  | succ f C=>
   intro i w hi d hs;rw[NF];refine Am (decide_eq_true<|by omega) (A1 (by omega) ?_);rw[toNat_natCast];have next:∀w,okB (Bc k i)->Ab W w L->CA AU (λv w'=>v = .b (FU k)/\Ab W w' L) (f+1) k (k.size:Int) (wrap .i64<|(i:Int)+1) w:=by
    intro w h hs;rw[i64_in _<|by omega];refine C (i+1) w (by omega) (λj x=>?_) hs
    by_cases m:j=i
    ·subst m;exact h
    ·exact d j (by omega)
   have n:¬okB (Bc k i)->FU k=false:=λh=>decide_eq_false λl=>h (l.2.2 i<|by omega);have a:∀(o p:WP),o=(λw'=>Value.bool false = .b (FU k)/\Ab W w' L)->p=(CA AU (λv w'=>v = .b (FU k)/\Ab W w' L) (f+1) k (k.size:Int)<|wrap .i64<|(i:Int)+1) ->
     ¬(97<=Bc k i/\Bc k i<=122)->¬(65<=Bc k i/\Bc k i<=90)->¬(48<=Bc k i/\Bc k i<=57)->call1 (.int .i64) PR 157 [.s Dx,.int .u8<|Bc k i] (λ(q:Int)=>Aj (decide<|q<(0:Int)) o p) w:=by
    intro o p D E y z A;subst D E;refine Ao (A9t hs) λe w ⟨F,hs⟩=>⟨_,F,?_⟩;obtain⟨c,hc,G⟩:=Ak8 k i;have r:=Pi c hc;rw[<- G] at r
    with_reducible refine D5 (λt=>?_) (λt=>?_)
    ·have H:=r.1 t;refine⟨by rw[n<|by unfold okB;omega],hs⟩
    ·refine next w ?_ hs
     have H:¬ ¬_:=λh=>t (r.2 h);unfold okB;omega
   generalize I:Bc k i=c at *;have a:=λy z A=>a _ _ rfl rfl y z A;have next:=next w
   repeat' first
    | with_reducible refine D5 (λu=>?_) (λu=>?_)
    | with_reducible refine A4u (λu=>?_) (λu=>?_)
   all_goals first
    | (with_reducible exact a (by omega) (by omega) (by omega))
    | (with_reducible exact next (by unfold okB;omega) hs)
 exact⟨k.size+1,g k.size 0 w (by omega) (λj x=>by omega) hs⟩
theorem Aks(hs:Ab W w L):Ai PR 77 #[] w λe w'=>∃b,e = .returned (pq b 0)/\Ab W w' (tabR b []::L):=by
 refine(cw ⟨mixed,func77,rfl⟩ A33 (Q:=λv w'=>∃b,v=pq b 0/\Ab W w' (tabR b []::L)) ?_).mono λe w' ⟨v,a,b,c,hs⟩=>⟨b,by rw[a,c],hs⟩;refine(Aor hs).mono λe w ⟨xb,a,hs⟩=>⟨_,a,?_⟩
 repeat (first|((with_reducible refine Dd ?_);first|refine Ak hs λd w hs=>?_|fail)|fail)
 exact⟨_,rfl,Ek (xb:=xb) ⟨by simp[Ce,EL],by simp,by simp⟩ hs⟩
set_option maxRecDepth 100000 in
theorem YF(h:Ab W w L)[hA:At L b (tabR b r) F](C:r.length<800000000):Ai PR 89 #[pq b 0,.s k,.s v,.i now,.i life] w λe w'=>e = .returned (.tuple #[.b<|Ny r k v now life,.i<|Gy k v now life])/\Ab W w' (F<|tabR b<|JR r k v now life):=by
 refine At.call1 (hA:=hA) h λM hs=>?_;clear h hA;refine c1 (cw ⟨mixed,func89,rfl⟩ A4f ?_);refine Ad rfl ?_;have g:∀(e:Int),e≠0->Gy k v now life=e->Ny r k v now life=false/\JR r k v now life=r:=λe j h=>by
  unfold Ny JR;rw[h,if_neg j,decide_eq_false j];exact⟨rfl,rfl⟩
 refine Ao (Aj0 hs) λe w ⟨j,hs⟩=>⟨_,j,?_⟩;refine As (λc=>?_) (λc=>?_)
 ·have c:FU k=false:=by simpa using c
  have a:Gy k v now life=2:=if_pos c;obtain⟨b1,b2⟩:=g 2 (by omega) a;rw[b1,b2,a];exact⟨rfl,hs⟩
 have c:¬FU k=false:=by simpa using c
 with_reducible refine D5 (λx=>?_) (λx=>?_)
 ·have a:Gy k v now life=3:=by unfold Gy;rw[if_neg c,if_pos<|by omega]
  obtain⟨b1,b2⟩:=g 3 (by omega) a;rw[b1,b2,a];exact⟨rfl,hs⟩
 have a:Gy k v now life=if now<0\/1125899906842624<now\/life<0\/1099511627776<life then 1 else 0:=by unfold Gy;rw[if_neg c,if_neg<|by omega]
 have d:(now<0\/1125899906842624<now\/life<0\/1099511627776<life)->(Value.tuple #[.b false,.i 1] = .tuple #[.b<|Ny r k v now life,.i<|Gy k v now life])/\Ab W w (tabR b (JR r k v now life)::M):=by
  intro h;rw[if_pos h] at a;obtain⟨b1,b2⟩:=g 1 (by omega) a;rw[b1,b2,a];exact⟨rfl,hs⟩
 with_reducible refine D5 (λp=>?_) (λp=>?_)
 ·exact d (.inl p)
 with_reducible refine D5 (λq=>?_) (λq=>?_)
 ·exact d (.inr<|.inl q)
 with_reducible refine D5 (λt=>?_) (λt=>?_)
 ·exact d (.inr<|.inr<|.inl t)
 with_reducible refine D5 (λu=>?_) (λu=>?_)
 ·exact d (.inr<|.inr<|.inr u)
 rw[if_neg<|by omega] at a;have y:=Ef (s:=k) (by simpa using c);have m:=(Gc hs);obtain⟨xb,hi,hs⟩:=m;have f:=hi.put k v now life;have z:JR r k v now life=Ip r k (v,Iv now life):=if_pos a;have A:Ny r k v now life=(AH r k).isNone:=by unfold Ny;rw[a];rfl
 rw[z] at f ⊢;rw[A,a];refine jw Af2 ?_;have l:∀(n:Nat)(w:World),Ab W w (blk n [.s v,.i<|Iv now life]::blk b [pq xb 0]::ixr Ap.si xb 0 r::M)->Af3 AU (λB w'=>B = .tuple #[.b (AH r k).isNone,.i 0]/\Ab W w' (tabR b (Ip r k (v,Iv now life))::M)) (some ⟨b,0,none⟩) k n 0 w:=by
  intro n w hs;refine jw Af4 ?_
  repeat (first|with_reducible refine Aa ?_|((with_reducible refine A7 ?_);first|refine Af hs ?_|fail)|((with_reducible refine Cm ?_);first|refine Au ?_|fail)|((with_reducible refine Bk ?_);first|refine BJ hs ?_|fail)|((with_reducible refine E0 ?_);first|refine AI hs λw hs=>?_|fail)|fail)
  refine Ao (Aos (v:=(v,Iv now life)) hs (by omega) hi.small<|by omega) λe w ⟨j,hs⟩=>⟨_,j,?_⟩;have hs:Ab W w (ixr Ap.si xb 0 (Cw r k (v,Iv now life))::blk b [pq xb 0]::M):=by exact Ab.fin hs
  have hs:=Avg (Kp (v:=(v,Iv now life)) hi.rise).symm hs;exact⟨rfl,Ek f<|by exact Ab.fin hs⟩
 unfold Iv at l ⊢
 repeat (first|((with_reducible refine Bv ?_);first|refine A4 hs λw hs=>?_|fail)|((with_reducible refine Dd ?_);first|refine Ak hs λD w hs=>?_|fail)|fail)
 with_reducible refine D5 (λo=>?_) (λo=>?_)
 ·repeat (first|((with_reducible refine Bv ?_);first|refine A4 hs λw hs=>?_|fail)|fail)
  rw[i64_in _<|by omega] at hs;rw[if_pos o] at l ⊢;exact l _ w hs
 ·rw[if_neg o] at l ⊢;exact l _ w hs
theorem Aj3(hs:Ab W w L){a:Int}:Ai PR 121 #[.agg #[.s v,.i a],.i now] w λe w'=>e = .returned (.b<|OY a now)/\Ab W w' L:=by
 refine c1 (cw ⟨mixed,func121,rfl⟩ Aqk ?_)
 repeat (first|((with_reducible refine A7 ?_);first|refine Af hs ?_|fail)|((with_reducible refine Dd ?_);first|refine Ak hs λd w hs=>?_|fail)|fail)
 with_reducible refine A4v (λc=>?_) (λc=>?_)
 ·repeat (first|((with_reducible refine A7 ?_);first|refine Af hs ?_|fail)|fail)
  refine⟨?_,by exact Ab.fin hs⟩;congr 1;unfold OY;rw[Bool.eq_iff_iff,decide_eq_true_eq,decide_eq_true_eq];constructor
  ·intro h;exact⟨c,h⟩
  ·intro h;exact h.2
 ·refine⟨?_,by exact Ab.fin hs⟩;congr 1;symm;unfold OY;rw[decide_eq_false_iff_not];omega
theorem Akq(h:Ab W w L)[hA:At L b (tabR b r) F](f:k.size<4611686018427387904):Ai PR 85 #[pq b 0,.s k,.i now] w λe w'=>e = .returned (.tuple #[.s (Ha r k now).1,.b (Ha r k now).2])/\Ab W w' (F<|tabR b r):=by
 refine At.call1 (hA:=hA) h λM hs=>?_;clear h hA;refine c1 (cw ⟨mixed,func85,rfl⟩ A4b ?_);obtain⟨xb,hi,hs⟩:=Gc hs;refine Ad rfl ?_
 repeat (first|with_reducible refine Aa ?_|((with_reducible refine A7 ?_);first|refine Af hs ?_|fail)|fail)
 refine(K3 hs f).mono λe w ⟨a,hs⟩=>⟨_,_,_,a,?_⟩
 repeat (first|((with_reducible refine Bv ?_);first|refine A4 hs λw hs=>?_|fail)|((with_reducible refine Dd ?_);first|refine Ak hs λg w hs=>?_|fail)|fail)
 unfold Ha;cases d:AH r k with
 | none=>
  rw[d] at hs;exact Am rfl ⟨rfl,Ek hi<|by exact Ab.fin hs⟩
 | some x=>
  rw[d] at hs;refine Ad rfl ?_;simp only[Option.getD_some] at hs
  repeat (first|((with_reducible refine A7 ?_);first|refine Af hs ?_|fail)|fail)
  refine Ao (Aj3 hs) λe w ⟨a,hs⟩=>⟨_,a,?_⟩;refine As (λc=>?_) (λc=>?_)
  ·simp only[c,if_true];exact⟨rfl,Ek hi<|by exact Ab.fin hs⟩
  ·repeat (first|((with_reducible refine A7 ?_);first|refine Af hs ?_|fail)|fail)
   simp only[c,Bool.false_eq_true,if_false];exact⟨trivial,Ek hi<|by exact Ab.fin hs⟩
theorem Akr(h:Ab W w L)[hA:At L b (tabR b r) F](a:k.size<4611686018427387904):Ai PR 90 #[pq b 0,.s k] w λe w'=>e = .returned (.b (AH r k).isSome)/\Ab W w' (F<|tabR b r):=by
 refine At.call1 (hA:=hA) h λM hs=>?_;clear h hA;refine c1 (cw ⟨mixed,func90,rfl⟩ A4g ?_);obtain⟨xb,hi,hs⟩:=Gc hs;refine Ad rfl ?_
 repeat (first|with_reducible refine Aa ?_|((with_reducible refine A7 ?_);first|refine Af hs ?_|fail)|fail)
 refine(K3 hs a).mono λe w ⟨c,hs⟩=>⟨_,_,_,c,?_⟩
 repeat (first|((with_reducible refine Bv ?_);first|refine A4 hs λw hs=>?_|fail)|((with_reducible refine Dd ?_);first|refine Ak hs λd w hs=>?_|fail)|fail)
 exact⟨rfl,Ek hi<|by exact Ab.fin hs⟩
theorem Ts(h:Ab W w L)[hA:At L b (tabR b r) F](a:k.size<4611686018427387904)(d:r.length<800000000):Ai PR 96 #[pq b 0,.s k] w λe w'=>e = .returned (.b (AH r k).isSome)/\Ab W w' (F<|tabR b<|FD r k):=by
 refine At.call1 (hA:=hA) h λM hs=>?_;clear h hA;refine c1 (cw ⟨mixed,func96,rfl⟩ A4m ?_);obtain⟨xb,hi,hs⟩:=Gc hs;refine Ad rfl ?_
 repeat (first|with_reducible refine Aa ?_|((with_reducible refine A7 ?_);first|refine Af hs ?_|fail)|fail)
 refine(YI hs a<|by omega).mono λe w ⟨c,hs⟩=>⟨_,_,_,c,?_⟩
 repeat (first|((with_reducible refine Bv ?_);first|refine A4 hs λw hs=>?_|fail)|((with_reducible refine Dd ?_);first|refine Ak hs λf w hs=>?_|fail)|fail)
 rw[<- FQ hi.rise] at hs;exact⟨rfl,Ek (hi.del k)<|by exact Ab.fin hs⟩
theorem Axu(h:Ab W w L)[hA:At L b (tabR b r) F](i:r.length<800000000):Ai PR 41 #[pq b 0] w λe w'=>∃l:Sl,e = .returned (.l l.a l.n l.c)/\Ab W w' (recs Ap.str l (r.map (·.1))::F (tabR b r)):=by
 refine At.oneX (hA:=hA) h λM hs f=>?_;refine(cw ⟨mixed,func41,rfl⟩ A28 (Q:=λv w'=>∃l:Sl,v = .l l.a l.n l.c/\Ab W w' (tabR b r::recs Ap.str l (r.map (·.1))::M)) ?_).mono λe w' ⟨v,d,l,g,hs⟩=>⟨l,by rw[d,g],?_⟩
 ·skip;obtain⟨xb,hi,hs⟩:=Gc hs;refine Ad rfl ?_
  repeat (first|with_reducible refine Aa ?_|((with_reducible refine A7 ?_);first|refine Af hs ?_|fail)|fail)
  refine(Aho hs<|by omega).mono λe w ⟨l,d,hs⟩=>⟨_,d,?_⟩;rw[Ag7 hi.rise] at hs;exact⟨l,rfl,Ek hi<|by exact Ab.fin hs⟩
 ·exact f _ _ [recs Ap.str l<|r.map (·.1)] hs
theorem A6c(h:Ab W w L)[hA:At L b (tabR b r) F]:Ai PR 40 #[pq b 0] w λe w'=>e = .returned (.i (r.length:Int))/\Ab W w' (F<|tabR b r):=by
 refine At.call1 (hA:=hA) h λM hs=>?_;clear h hA;refine c1 (cw ⟨mixed,func40,rfl⟩ A27 ?_);obtain⟨xb,hi,hs⟩:=Gc hs;refine Ad rfl ?_
 repeat (first|with_reducible refine Aa ?_|((with_reducible refine A7 ?_);first|refine Af hs ?_|fail)|fail)
 refine Ao (Aoq hs) λe w ⟨a,hs⟩=>⟨_,a,?_⟩;exact⟨rfl,Ek hi<|by exact Ab.fin hs⟩
theorem Bbf(h:Ab W w L)[hA:At L b (tabR b r) F]:N4 r:=At.one (hA:=hA) h λM hs _=>by
 obtain⟨xb,hi,hs⟩:=Gc hs;exact hi
theorem Av1{r:TT}(h:N4 r){i:Nat}(hi:i<r.length):AH r (r.getD i default).1=some (r.getD i default).2:=by
 rw[BM h.rise.nodup];rw[getD_eq_getElem?_getD,getElem?_eq_getElem hi];exact getElem_mem hi
theorem Aog{r:TT}{i:Nat}(hi:i<r.length):Cz (r.take<|i+1) now=Cz (r.take i) now++(if OY (r.getD i default).2.2 now then [(r.getD i default).1] else []):=by
 unfold Cz;rw[CC hi,filter_append,map_append];congr 1;rw[List.filter_cons];split <;> rfl
theorem Axs(r:TT)(i:Nat):(Cz (r.take i) now).length<=i:=by
 unfold Cz;rw[length_map];exact Nat.le_trans (List.length_filter_le _ _) (by simp;omega)
theorem A6b(h:Ab W w L)[hA:At L b (tabR b r) F](y:r.length<800000000):Ai PR 98 #[pq b 0,.i now] w λe w'=>∃l:Sl,e = .returned (.l l.a l.n l.c)/\Ab W w' (recs Ap.str l (Cz r now)::F (tabR b r)):=by
 refine At.oneX (hA:=hA) h λM hs z=>?_;refine(cw ⟨mixed,func98,rfl⟩ A4o (Q:=λv w'=>∃l:Sl,v = .l l.a l.n l.c/\Ab W w' (tabR b r::recs Ap.str l (Cz r now)::M)) ?_).mono λe w' ⟨v,g,l,A,hs⟩=>⟨l,by rw[g,A],?_⟩
 ·skip;refine(Axu hs y).mono λe w ⟨ks,g,hs⟩=>⟨_,g,?_⟩;have B:=BS (s:=ks) hs;rw[length_map] at B;have hi:=Bbf (b:=b) (r:=r) hs;have hs:=Ab.nilR Ap.str hs;have j:∀(f i:Nat)(w:World)(d:Sl),i+f=r.length->Ab W w (recs Ap.str d (Cz (r.take i) now)::recs Ap.str ks (r.map (·.1))::tabR b r::M) ->
    RI AU (λv w'=>∃l:Sl,v = .l l.a l.n l.c/\Ab W w' (tabR b r::recs Ap.str l (Cz r now)::M)) (f+1) (some ⟨b,0,none⟩) now d ks (ks.n:Int) (i:Int) w:=by
   intro f
   induction f with
   | zero=>
    intro i w d o hs;rw[RJ];refine Ad (decide_eq_false<|by omega) ?_;refine jw Af9 ?_;rw[take_of_length_le<|by omega] at hs;exact⟨d,rfl,by exact Ab.fin hs⟩
   | succ f t=>
    intro i w d o hs;rw[RJ];refine Am (decide_eq_true<|by omega) ?_;have C:(r.map (·.1)).length=r.length:=by simp
    repeat (first|with_reducible refine Aa ?_|((with_reducible refine A7 ?_);first|refine Cx hs ?_|fail)|((with_reducible refine BI ?_);first|refine BO hs λu H hs=>?_|fail)|fail)
    rw[toNat_natCast];have D:(r.map (·.1)).getD i default=(r.getD i default).1:=by
     rw[getD_eq_getElem?_getD,getD_eq_getElem?_getD,getElem?_map,getElem?_eq_getElem<|by omega];rfl
    rw[D];have k:r.getD i default∈r:=by rw[getD_eq_getElem?_getD,getElem?_eq_getElem<|by omega];exact getElem_mem _
    have p:=hi.small _ k;have E:=Av1 hi (i:=i) (by omega);have I:=Axs (now:=now) r i;have m:=Aog (now:=now) (r:=r) (i:=i) (by omega);have hs:Ab W w (tabR b r::recs Ap.str d (Cz (r.take i) now)::recs Ap.str ks (r.map (·.1))::M):=by exact Ab.fin hs
    obtain⟨xb,_,hs⟩:=Gc hs
    repeat (first|((with_reducible refine A7 ?_);first|refine Af hs ?_|fail)|fail)
    refine(K3 hs p).mono λe w ⟨g,hs⟩=>⟨_,_,_,g,?_⟩
    repeat (first|((with_reducible refine A7 ?_);first|refine Af hs ?_|fail)|((with_reducible refine Bv ?_);first|refine A4 hs λw hs=>?_|fail)|((with_reducible refine Dd ?_);first|refine Ak hs λu w hs=>?_|fail)|fail)
    refine Ao (Aj3 hs) λe w ⟨g,hs⟩=>⟨_,g,?_⟩;rw[E,Option.getD_some];refine As (λq=>?_) (λq=>?_)
    ·repeat (first|((with_reducible refine Dd ?_);first|refine Ak hs λu w hs=>?_|fail)|fail)
     refine D3 (s:=d) (a:=(r.getD i default).1) hs rfl rfl rfl rfl (by decide) (by omega) λx w G hs=>?_;rw[i64_in _<|by omega];refine t (i+1) w x (by omega) ?_;rw[m,q];have hs:=Ek (b:=b) (r:=r) (xb:=xb) (M:=recs Ap.str x (Cz (r.take i) now++[(r.getD i default).1])::recs Ap.str ks (r.map (·.1))::M) hi (by exact Ab.fin hs);exact Ab.fin hs
    ·rw[i64_in _<|by omega];refine t (i+1) w d (by omega) ?_;rw[m,q];have hs:=Ek (b:=b) (r:=r) (xb:=xb) (M:=recs Ap.str d (Cz (r.take i) now)::recs Ap.str ks (r.map (·.1))::M) hi (by exact Ab.fin hs);simp only[Bool.false_eq_true,if_false,append_nil];exact Ab.fin hs
  refine⟨r.length+1,?_⟩;exact j r.length 0 w ⟨none,0,0⟩ (by omega) hs
 ·exact z _ _ [recs Ap.str l<|Cz r now] hs
set_option maxRecDepth 100000 in
end
end Go.Proofs.YtjipofkjmmpjdaaGreat
namespace Go.Hb
def kT(T:TT):BL:=T.map (·.1)
def AR(T:TT)(g:BL):TT:=g.foldl FD T
section
variable{T:TT}{k x:BA}{v:BA×Int}{g:BL}{now:Int}
theorem Age:k∉kT T↔AH T k=none:=by
 rw[BC];unfold kT;rw[mem_map];constructor
 ·intro h e a b;exact h ⟨e,a,b⟩
 ·rintro h ⟨e,a,b⟩;exact h e a b
theorem HE:k∈kT T↔(AH T k).isSome=true:=by
 by_cases a:k∈kT T
 ·refine⟨λ_=>?_,λ_=>a⟩;cases b:AH T k with
  | none=>exact absurd a (Age.2 b)
  | some v=>rfl
 ·rw[Age.1 a];exact⟨λh=>absurd h a,λh=>by cases h⟩
theorem QL(h:Ce T):AH (FD T k) x=if k=x then none else AH T x:=by rw[FQ h,Wn]
theorem Ajk(h:Ce T):AH (Ip T k v) x=if k=x then some v else AH T x:=by
 have a:((Ip T k v).map (·.1)).Nodup:=(Kq h).nodup;rw[Am8 a<|Kp h,Wo]
theorem Avh(h:Ce T):x∈kT (FD T k)↔x∈kT T/\x≠k:=by
 rw[HE,HE,QL h]
 by_cases a:k=x
 ·subst a;simp
 ·rw[if_neg a];exact⟨λh=>⟨h,λe=>a e.symm⟩,λh=>h.1⟩
theorem Avi(h:Ce T):x∈kT (Ip T k v)↔x∈kT T\/x=k:=by
 rw[HE,HE,Ajk h]
 by_cases a:k=x
 ·subst a;simp
 ·rw[if_neg a];exact⟨.inl,λh=>h.elim id λe=>absurd e.symm a⟩
theorem F5:∀{g:BL}{T:TT},N4 T->N4 (AR T g)
 | [],T,h=>h
 | k::g,T,h=>F5 (g:=g) (h.del k)
theorem KM:∀{g:BL}{T:TT},N4 T->(AR T g).length<=T.length
 | [],T,h=>le_refl _
 | k::g,T,h=>Nat.le_trans (KM (g:=g)<|h.del k) (M3 h k)
theorem KV:∀{g:BL}{T:TT},Ce T->(x∈g->AH (AR T g) x=none)/\(x∉g->AH (AR T g) x=AH T x)
 | [],T,h=>⟨by simp,λ_=>rfl⟩
 | k::g,T,h=>by
  obtain⟨d,c⟩:=KV (g:=g) (T:=FD T k) (Nv h);have e:AR T (k::g)=AR (FD T k) g:=rfl;rw[e];refine⟨λa=>?_,λa=>?_⟩
  ·by_cases b:x∈g
   ·exact d b
   ·rw[c b,QL h,if_pos];rcases mem_cons.1 a with a|a
    ·exact a.symm
    ·exact absurd a b
  ·rw[mem_cons,not_or] at a;rw[c a.2,QL h,if_neg λe=>a.1 e.symm]
theorem Nd(h:Ce T):x∈kT (AR T g)↔x∈kT T/\x∉g:=by
 obtain⟨d,c⟩:=KV (x:=x) (g:=g) h;rw[HE,HE];constructor
 ·intro a;have b:x∉g:=λb=>by rw[d b] at a;cases a
  exact⟨by rw[c b] at a;exact a,b⟩
 ·rintro⟨a,b⟩;rw[c b];exact a
theorem I2{P:BA->Prop}:∀{g:BL}{T:TT},Ce T->(∀e∈T,P e.1)->∀e∈AR T g,P e.1
 | [],T,_,h=>h
 | k::g,T,hr,h=>I2 (g:=g) (Nv hr) λe he=>by
  rw[FQ hr] at he;exact JH h e he
theorem Ahi{T S:TT}(h:AH T k=AH S k):Ha T k now=Ha S k now:=by unfold Ha;rw[h]
def tOv(T:TT)(k:BA)(now:Int):Bool:=(AH T k).isSome && !(Ha T k now).2
def C8(T:TT)(k:BA)(now:Int):TT:=if tOv T k now then FD T k else T
def Dc(T:TT)(k:BA)(now:Int):BL:=if tOv T k now then [k] else []
theorem Wp(T:TT)(k:BA)(now:Int):C8 T k now=AR T (Dc T k now):=by unfold C8 Dc;split <;> rfl
theorem An3(h:N4 T):N4 (C8 T k now):=by rw[Wp];exact F5 h
theorem An2(h:Ce T):Ha (C8 T k now) k now=Ha T k now:=by
 unfold C8;split
 ·rename_i b;unfold tOv at b;rw[Bool.and_eq_true,Bool.not_eq_true'] at b;have c:AH (FD T k) k=none:=by rw[QL h,if_pos rfl]
  have d:Ha (FD T k) k now=(⟨#[]⟩,false):=by unfold Ha;rw[c]
  rw[d];have a:=b.2;unfold Ha at a ⊢;cases e:AH T k with
  | none=>rfl
  | some v=>
   rw[e] at a;dsimp only at a ⊢;split
   ·rfl
   ·rename_i f;rw[if_neg f] at a;cases a
 ·rfl
end
def W2(c:Int):BL->List Ev->BL->Prop
 | R,[],K=>∀x,x∈R↔x∈K
 | R,e::l,K=>e.2.size<64/\∃a,EvS c R e a/\W2 c a l K
section
variable{c:Int}{R S K K':BL}{e:Ev}{l:List Ev}{T:TT}{key:BA}
theorem EvS.congr(h:∀x,x∈R↔x∈S)(hs:EvS c R e K):EvS c S e K:=by
 refine⟨hs.1,λx=>?_⟩;rw[hs.2];split
 ·rw[h]
 ·split
  ·rw[h]
  ·exact h x
theorem W2.left(h:∀x,x∈R↔x∈S)(hs:W2 c R l K):W2 c S l K:=by
 cases l with
 | nil=>exact λx=>by rw[<- h];exact hs x
 | cons e l=>
  obtain⟨a,b,d,f⟩:=hs;exact⟨a,b,d.congr h,f⟩
theorem W2.right(h:∀x,x∈K↔x∈K'):∀{l:List Ev}{R:BL},W2 c R l K->W2 c R l K'
 | [],R,hs=>λx=>by rw[<- h];exact hs x
 | e::l,R,⟨a,b,d,f⟩=>⟨a,b,d,W2.right h f⟩
theorem W2.snoc(b:e.2.size<64)(d:EvS c K e K'):∀{l:List Ev}{R:BL},W2 c R l K->W2 c R (l++[e]) K'
 | [],R,hs=>⟨b,K',d.congr λx=>(hs x).symm,λ_=>Iff.rfl⟩
 | _::l,R,⟨a,f,g,h⟩=>⟨a,f,g,W2.snoc b d h⟩
theorem Ajq(a:Ce T)(b:∀e∈T,e.1.size<=40)(d:(T.length:Int)<=c)(f:1<=c)(g:c<=1024):DC c (kT T):=
 ⟨a.nodup,λk h=>by
  obtain⟨e,i,rfl⟩:=mem_map.1 h;have:=b e i;omega,by unfold kT;rw[length_map];exact d,f,g⟩
theorem EvS.del(a:N4 T)(d:∀e∈T,e.1.size<=40)(h:(T.length:Int)<=c)(f:1<=c)(g:c<=1024):EvS c (kT T) ((3:Int),key) (kT<|FD T key):=
 ⟨Ajq (a.del key).rise (λe b=>by rw[FQ a.rise] at b;exact JH (P:=λk=>k.size<=40) d e b) (by have:=M3 a key;omega) f g,λx=>by
  rw[Avh a.rise];simp⟩
theorem Ll{v:BA×Int}(hr:Ce T)(hz:∀e∈T,e.1.size<=40)(hk:key.size<=40):∀e∈Ip T key v,e.1.size<=40:=λe he=>by
 rcases SI hr he with h|h
 ·exact hz e h
 ·subst h;exact hk
theorem EvS.put{v:BA×Int}(ht:N4 T)(hz:∀e∈T,e.1.size<=40)(hk:key.size<=40)(hl:((Ip T key v).length:Int)<=c)(h1:1<=c)(h2:c<=1024):EvS c (kT T) ((2:Int),key) (kT (Ip T key v)):=
 ⟨Ajq (Kq ht.rise) (Ll ht.rise hz hk) hl h1 h2,λx=>by rw[Avi ht.rise];simp⟩
theorem Ann{v:BA×Int}(b:N4 T):(Ip T key v).length=T.length+(if key∈kT T then 0 else 1):=by
 have c:=(Kp (v:=v) (k:=key) b.rise).length_eq;rw[c];unfold Cw;cases a:AH T key with
 | none=>
  have:key∉kT T:=Age.2 a;rw[if_neg this];simp
 | some u=>
  have:key∈kT T:=HE.2 (by rw[a];rfl);rw[if_pos this];unfold Fm;simp
end
end Go.Hb
namespace Go.Hb
abbrev cD(b tb fb mb:Nat)(x0 x1 x2 x3 x4 x5:Int)(s:Sl):HP:=blk b [pq tb 0,pq fb 0,pq mb 0,.i x0,.i x1,.i x2,.i x3,.i x4,.i x5,.l s.a s.n s.c]
structure Aow(x0 x1 x2 x3 x4 x5:Int):Prop where
 h0:0<=x0
 h1:0<=x1
 h2:0<=x2
 h3:0<=x3
 h4:0<=x4
 h5:0<=x5
structure Pe(c:Int)(n:Nat)(T:TT)(l:List Ev)(R:BL)(evs:List Ev):Prop where
 tok:N4 T
 small:∀e∈T,e.1.size<=40
 len:(T.length:Int)<=c
 n:evs.length<=n
 sim:W2 c R l (kT T)
def QT(b:Nat)(c:Int)(T:TT)(l:List Ev)(kd:Int)(o:Option Nat)(R:BL)(evs:List Ev):HP:=Ly λ(z:(Nat×Nat×Nat×Sl)×(Int×Int×Int×Int×Int×Int))=>Fs (Aow z.2.1 z.2.2.1 z.2.2.2.1 z.2.2.2.2.1 z.2.2.2.2.2.1 z.2.2.2.2.2.2)
 (AN [cD b z.1.1 z.1.2.1 z.1.2.2.1 z.2.1 z.2.2.1 z.2.2.2.1 z.2.2.2.2.1 z.2.2.2.2.2.1 z.2.2.2.2.2.2 z.1.2.2.2,tabR z.1.1 T,fd z.1.2.1 l,FZ z.1.2.2.1 kd c R o,recs Gi z.1.2.2.2 evs])
def sd(b:Nat)(c:Int)(n:Nat)(T:TT)(kd:Int)(o:Option Nat):HP:=Ly λ(z:List Ev×BL×List Ev)=>Fs (Pe c n T z.1 z.2.1 z.2.2) (QT b c T z.1 kd o z.2.1 z.2.2)
section
variable{W w:World}{M L:List HP}{b:Nat}{c:Int}{T:TT}{l evs:List Ev}{kd:Int}{o:Option Nat}{R:BL}{n:Nat}
theorem Ch(h:Ab W w (QT b c T l kd o R evs::M)):∃(tb fb mb:Nat) (s:Sl) (x0 x1 x2 x3 x4 x5:Int),Aow x0 x1 x2 x3 x4 x5/\Ab W w (cD b tb fb mb x0 x1 x2 x3 x4 x5 s::tabR tb T::fd fb l::FZ mb kd c R o::recs Gi s evs::M):=by
 obtain⟨⟨⟨tb,fb,mb,s⟩,⟨x0,x1,x2,x3,x4,x5⟩⟩,h⟩:=h.openE;obtain⟨a,h⟩:=h.openA;exact⟨tb,fb,mb,s,x0,x1,x2,x3,x4,x5,a,h.openL⟩
theorem Bs{tb fb mb:Nat}{s:Sl}{x0 x1 x2 x3 x4 x5:Int}(hc:Aow x0 x1 x2 x3 x4 x5)(h:Ab W w (cD b tb fb mb x0 x1 x2 x3 x4 x5 s::tabR tb T::fd fb l::FZ mb kd c R o::recs Gi s evs::M)):Ab W w (QT b c T l kd o R evs::M):=
 Ab.shutE ((tb,fb,mb,s),(x0,x1,x2,x3,x4,x5)) (Ab.shutA hc<|Ab.shutL (Ps:=[_,_,_,_,_]) h)
theorem EX(h:Ab W w (QT b c T l kd o R evs::M)):DC c R/\(0<=kd/\kd<5)/\∀n,o=some n->n<=R.length:=by
 obtain⟨tb,fb,mb,s,x0,x1,x2,x3,x4,x5,_,hs⟩:=Ch h;have hs:Ab W w (FZ mb kd c R o::M):=by exact Ab.fin hs
 exact⟨OM hs,A65 hs,λn h=>A5g hs h⟩
theorem DV(h:Ab W w (sd b c n T kd o::M)):∃(l:List Ev) (R:BL) (evs:List Ev),Pe c n T l R evs/\Ab W w (QT b c T l kd o R evs::M):=by
 obtain⟨⟨l,R,evs⟩,h⟩:=h.openE;obtain⟨a,h⟩:=h.openA;exact⟨l,R,evs,a,h⟩
theorem CB(hi:Pe c n T l R evs)(h:Ab W w (QT b c T l kd o R evs::M)):Ab W w (sd b c n T kd o::M):=Ab.shutE (l,R,evs) (Ab.shutA hi h)
instance:OkR Gi:=⟨λ_=>rfl⟩
theorem Gt{a b:Int}(h:0<=a):0<=Go.Proofs.YtjipofkjmmpjdaaGreat.Ft a b:=by unfold Go.Proofs.YtjipofkjmmpjdaaGreat.Ft;split <;> omega
theorem KK.trans{a b c:Option Nat}(d:KK a b)(e:KK b c):KK a c:=by
 cases a <;> cases b <;> cases c <;> simp[KK] at * <;> omega
def wrF(l:List Ev):List Ev:=l.filter λe=>decide (e.1≠1)
end
end Go.Hb
namespace Go.Proofs.YtjipofkjmmpjdaaGreat
open Go.Hb Go.IntWalk
section
variable{W w:World}{L M:List HP}{b:Nat}{c:Int}{T:TT}{l evs:List Ev}{kd:Int}{o:Option Nat}{R:BL}{n:Nat}{key val:BA}{now life:Int}
theorem HW{i:Nat}{cs:List Value}{x:Int}(hs:Ab W w (blk b cs::L))(hc:cs[i]? = some (.i x))(d:0<=x):Ai PR 84 #[pq b i] w λe w'=>e = .returned (.tuple #[])/\Ab W w' (blk b (cs.set i<|.i<|Ft x 1099511627776)::L):=by
 refine c1 (cw ⟨mixed,func84,rfl⟩ A4a ?_);refine Aa (Af hs ?_ (hc:=hc));refine Ao (J6 hs (by omega)<|by omega) λe w ⟨c,hs⟩=>⟨_,c,?_⟩;have a:i<cs.length:=(List.getElem?_eq_some_iff.1 hc).1;exact Aa (Jf 0 hs rfl a λw hs=>⟨rfl,hs⟩)
theorem QV{sg:Sl}{g:BL}(m:N4 T)(z:T.length<1000000)(A:g.length<1000000)(q:∀x∈g,x.size<64)(hs:Ab W w (QT b c T l kd o R evs::recs Ap.str sg g::M)) :
  Bh PR 95 #[pq b 0,.l sg.a sg.n sg.c] w λv w'=>v = .tuple #[]/\Ab W w' (QT b c (AR T g) l kd o R evs::recs Ap.str sg g::M):=by
 refine cw ⟨mixed,func95,rfl⟩ A4l ?_;have B:=BS (s:=sg) (E:=Ap.str) (rows:=g) hs;have e:∀(f i:Nat)(w:World),i+f=g.length->Ab W w (QT b c (AR T<|g.take i) l kd o R evs::recs Ap.str sg g::M) ->
   RG AU (λv w'=>v = .tuple #[]/\Ab W w' (QT b c (AR T g) l kd o R evs::recs Ap.str sg g::M)) (f+1) (some ⟨b,0,none⟩) sg (sg.n:Int) (i:Int) w:=by
  clear hs;intro f
  induction f with
  | zero=>
   intro i w hi hs;rw[RH];refine Ad (decide_eq_false<|by omega) ?_;rw[take_of_length_le<|by omega] at hs;exact⟨rfl,hs⟩
  | succ f p=>
   intro i w hi hs;rw[RH];refine Am (decide_eq_true<|by omega) ?_;obtain⟨tb,fb,mb,s,x0,x1,x2,x3,x4,x5,hc,hs⟩:=Ch hs;refine CO (s:=sg) (E:=Ap.str) (rows:=g) hs λC D h=>?_;refine Dh (s:=sg) (E:=Ap.str) (rows:=g) h hs ?_;rw[toNat_natCast];refine Aa (Af hs ?_);have r:N4 (AR T<|g.take i):=F5 m;have t:=KM (g:=g.take i) m;have u:AR T (g.take<|i+1)=FD (AR T<|g.take i) (g.getD i default):=by
    unfold AR;rw[CC<|by omega,List.foldl_append];rfl
   have y:=q _ (HZ (d:=default)<|show i<g.length by omega);have hs:Ab W w (tabR tb (AR T<|g.take i)::cD b tb fb mb x0 x1 x2 x3 x4 x5 s::fd fb l::FZ mb kd c R o::recs Gi s evs::recs Ap.str sg g::M):=by exact Ab.fin hs
   refine Ao (Ts (k:=g.getD i default) hs (by omega)<|by omega) λe w ⟨j,hs⟩=>⟨_,j,?_⟩;rw[<- u] at hs;have hs:Ab W w (cD b tb fb mb x0 x1 x2 x3 x4 x5 s::tabR tb (AR T<|g.take<|i+1)::fd fb l::FZ mb kd c R o::recs Gi s evs::recs Ap.str sg g::M):=by exact Ab.fin hs
   rw[show wrap .i64 ((i:Int)+1)=((i+1:Nat):Int) by rw[i64_in _<|by omega];omega];refine As (λ_=>?_) (λ_=>?_)
   ·refine Aa ?_;refine Av (HW hs rfl hc.h3) λe w ⟨j,hs⟩=>⟨j,?_⟩;exact p (i+1) w (by omega) (Bs ⟨hc.h0,hc.h1,hc.h2,Gt hc.h3,hc.h4,hc.h5⟩ hs)
   ·exact p (i+1) w (by omega) (Bs hc hs)
 exact AP _ (e g.length 0 w (by omega) hs)
theorem G5{K:BL}(N:N4 T)(O:T.length<1000000)(hn:evs.length<1000000000000)(a:W2 c R l K)(hs:Ab W w (QT b c T l kd o R evs::M)) :
  Bh PR 93 #[pq b 0] w λv w'=>∃(m:Int) (S:BL) (g:Option Nat) (e:List Ev),v = .i m/\(∀x,x∈S↔x∈K)/\KK g o/\e.length<=evs.length+520/\Ab W w' (QT b c T [] kd g S e::M):=by
 refine cw ⟨mixed,func93,rfl⟩ A4j ?_;obtain⟨tb,fb,mb,s,x0,x1,x2,x3,x4,x5,hc,hs⟩:=Ch hs;refine Aa (Af hs ?_);have hs:Ab W w (fd fb l::cD b tb fb mb x0 x1 x2 x3 x4 x5 s::tabR tb T::FZ mb kd c R o::recs Gi s evs::M):=by exact Ab.fin hs
 refine Ah (Au1 hs) λv w ⟨sl,D,k,u,y,P,hs⟩=>⟨_,k,?_⟩;have hs:Ab W w (cD b tb fb mb x0 x1 x2 x3 x4 x5 s::tabR tb T::fd fb []::FZ mb kd c R o::recs Gi s evs::recs Gi sl D::M):=by exact Ab.fin hs
 have hs:=Bs hc hs;have Q:=BS (s:=sl) (E:=Gi) (rows:=D) hs;have u:wrF D=l:=u;have p:∀(f i:Nat)(w:World)(S:BL)(g:Option Nat),i+f=D.length->KK g o->W2 c S (wrF<|D.drop i) K->Ab W w (QT b c T [] kd g S evs::recs Gi sl D::M) ->
   XS AU (λv w'=>∃(m:Int) (S:BL) (g:Option Nat) (e:List Ev),v = .i m/\(∀x,x∈S↔x∈K)/\KK g o/\e.length<=evs.length+520/\Ab W w' (QT b c T [] kd g S e::M)) (f+1) (some ⟨b,0,none⟩) sl sl (sl.n:Int) (i:Int) w:=by
  clear hs;intro f
  induction f with
  | zero=>
   intro i w S g hi z a hs;rw[RC];refine Ad (decide_eq_false<|by omega) ?_;refine jw Af6 ?_;rw[List.drop_eq_nil_of_le<|by omega] at a;have A:∀x,x∈S↔x∈K:=a;clear hc;obtain⟨tb,fb,mb,s,x0,x1,x2,x3,x4,x5,hc,hs⟩:=Ch hs;refine Aa (Af (x:=s) hs ?_);refine GA (s:=s) (E:=Gi) (new:=D) hs (GT (s:=sl) hs) (BS (s:=sl) (E:=Gi) hs) (Dt _) rfl (by decide) (by omega) λs2 w U hs=>?_;refine Aa (A4 hs λw hs=>?_);exact⟨_,S,g,evs++D,rfl,A,z,by rw[length_append];omega,Bs (s:=s2) hc<|by exact Ab.fin hs⟩
  | succ f V=>
   intro i w S g hi z a hs;rw[RC];refine Am (decide_eq_true<|by omega) ?_;have h:i<D.length:=by omega
   have X:D.drop i=D.getD i default::D.drop (i+1):=by
    rw[List.drop_eq_getElem_cons h,getD_eq_getElem?_getD,getElem?_eq_getElem h];rfl
   rw[X] at a;have Y:=y _ (HZ (d:=default) h);have B:=(EX hs).1;refine CO (s:=sl) (E:=Gi) (rows:=D) hs λb_ o_ q=>?_;refine Dh (s:=sl) (E:=Gi) (rows:=D) q hs (Agm (s:=sl) (E:=Gi) (rows:=D) q hs ?_ (hc:=rfl)) (hc:=rfl);rw[toNat_natCast];generalize D.getD i default=r at *;obtain⟨t,C,j⟩:∃t,EvS c S r t/\W2 c t (wrF<|D.drop<|i+1) K:=by
    by_cases J:r.1=1
    ·have F:wrF (r::D.drop (i+1))=wrF (D.drop<|i+1):=by unfold wrF;rw[List.filter_cons_of_neg<|by simp[J]]
     rw[F] at a;exact⟨S,⟨B,λx=>by rw[if_neg<|by omega,if_neg<|by omega]⟩,a⟩
    ·have F:wrF (r::D.drop (i+1))=r::wrF (D.drop<|i+1):=by unfold wrF;rw[List.filter_cons_of_pos<|by simp[J]]
     rw[F] at a;obtain⟨_,t,Z,h3⟩:=a;exact⟨t,Z,h3⟩
   clear hc;obtain⟨tb,fb,mb,s,x0,x1,x2,x3,x4,x5,hc,hs⟩:=Ch hs;refine Ak hs λnb w hs=>?_;refine A4 hs λw hs=>A4 hs λw hs=>?_;refine An [cD b tb fb mb x0 x1 x2 x3 x4 x5 s] hs λw hs=>?_;refine Aa (Au<|Af hs<|Af hs<|Ag hs ?_);have hs:Ab W w (FZ mb kd c S g::cD b tb fb mb x0 x1 x2 x3 x4 x5 s::tabR tb T::fd fb []::recs Gi s evs::recs Gi sl D::M):=by exact Ab.fin hs
   refine Ah (Av5 Y C hs) λv w ⟨L,G,H,k,A,I,hs⟩=>⟨_,k,?_⟩;have hs:Ab W w (cD b tb fb mb x0 x1 x2 x3 x4 x5 s::tabR tb T::fd fb []::FZ mb kd c G H::recs Gi s evs::recs Ap.str L []::recs Gi sl D::M):=by exact Ab.fin hs
   have hs:=Bs hc hs;refine Bf (QV N O (by simp) (by simp) hs) λv w ⟨k,hs⟩=>⟨k,?_⟩;have hs:Ab W w (QT b c T [] kd H G evs::recs Ap.str L []::recs Gi sl D::M):=hs;rw[show wrap .i64 ((i:Int)+1)=((i+1:Nat):Int) by rw[i64_in _<|by omega];omega]
   exact V (i+1) w G H (by omega) (I.trans z) (j.left λx=>(A x).symm) (by exact Ab.fin hs)
 refine AP _ (p D.length 0 w R o (by omega) KK.refl (by rw[List.drop_zero,u];exact a) hs)
theorem Td{kk:Int}(f:kk=2\/kk=3){K:BL}(q:N4 T)(r:T.length<1000000)(t:evs.length<1000000000000)(k:key.size<64)(d:W2 c R l K)(g:EvS c K (kk,key) (kT T))(hs:Ab W w (QT b c T l kd o R evs::M)) :
  Bh PR 92 #[pq b 0,.i kk,.s key] w λv w'=>v = .tuple #[]/\∃(p:List Ev) (S:BL) (j:Option Nat) (a:List Ev),a.length<=evs.length+520/\W2 c S p (kT T)/\KK j o/\Ab W w' (QT b c T p kd j S a::M):=by
 refine cw ⟨mixed,func92,rfl⟩ A4i ?_;obtain⟨tb,fb,mb,s,x0,x1,x2,x3,x4,x5,hc,hs⟩:=Ch hs;refine Aa (Af hs ?_);have hs:Ab W w (fd fb l::cD b tb fb mb x0 x1 x2 x3 x4 x5 s::tabR tb T::FZ mb kd c R o::recs Gi s evs::M):=by exact Ab.fin hs
 refine Ah (Abv f k hs) λv w h=>?_;rcases h with⟨e,hs⟩|⟨_,e,hs⟩
 ·refine⟨_,e,Ad rfl ?_⟩;exact⟨rfl,l++[(kk,key)],R,o,evs,by omega,d.snoc k g,KK.refl,Bs hc<|by exact Ab.fin hs⟩
 ·refine⟨_,e,Am rfl ?_⟩;have hs:Ab W w (QT b c T l kd o R evs::M):=Bs hc (by exact Ab.fin hs);refine Ah (G5 q r t d hs) λv w ⟨m,S,j,a,e,u,y,n,hs⟩=>⟨_,e,?_⟩;clear hc;obtain⟨tb,fb,mb,s,x0,x1,x2,x3,x4,x5,hc,hs⟩:=Ch hs;refine Aa (Af hs ?_);have hs:Ab W w (fd fb []::cD b tb fb mb x0 x1 x2 x3 x4 x5 s::tabR tb T::FZ mb kd c S j::recs Gi s a::M):=by exact Ab.fin hs
  refine Ah (Abv f k hs) λv w h=>?_;rcases h with⟨e,hs⟩|⟨z,e,hs⟩
  ·refine⟨_,e,rfl,[(kk,key)],S,j,a,n,?_,y,Bs hc<|by exact Ab.fin hs⟩;exact⟨k,kT T,g.congr λx=>(u x).symm,λ_=>Iff.rfl⟩
  ·exact absurd rfl z
theorem Aes:AR T [key]=FD T key:=rfl
abbrev sdL(b:Nat)(c:Int)(n:Nat)(T:TT)(kd:Int)(o:Option Nat)(W w:World)(M:List HP):Prop:=∃a,KK a o/\Ab W w (sd b c n T kd a::M)
theorem Aia{tb fb mb:Nat}{s:Sl}{x0 x1 x2 x3 x4 x5:Int}(hi:Pe c n T l R evs)(hc:Aow x0 x1 x2 x3 x4 x5)(h:tOv T key now=false)(hs:Ab W w (cD b tb fb mb x0 x1 x2 x3 x4 x5 s::tabR tb T::fd fb l::FZ mb kd c R o::recs Gi s evs::M)) :
  ∃s:Sl,Value.slice none 0 0 = .l s.a s.n s.c/\sdL b c (n+520) (C8 T key now) kd o W w (recs Ap.str s (Dc T key now)::M):=by
 have d:C8 T key now=T:=by unfold C8;rw[h];rfl
 have e:Dc T key now=[]:=by unfold Dc;rw[h];rfl
 rw[d,e];have f:=hi.n;have hs:=CB (n:=n+520) ⟨hi.tok,hi.small,hi.len,by omega,hi.sim⟩ (Bs hc hs);have hs:=Ab.nilR Ap.str hs;exact⟨⟨none,0,0⟩,rfl,o,KK.refl,by exact Ab.fin hs⟩
theorem Ay9(hi:Pe c n T l R evs)(hn:n<900000000000)(hkz:key.size<=40)(hov:tOv T key now=true)(hs:Ab W w (QT b c T l kd o R evs::M)) :
  Auw AU (λv w'=>∃s:Sl,v = .l s.a s.n s.c/\sdL b c (n+520) (C8 T key now) kd o W w' (recs Ap.str s (Dc T key now)::M)) (some ⟨b,0,none⟩) key w:=by
 have hkR:=(EX hs).1;have hc1:=hkR.c1;have hc2:=hkR.c2;have hTl:=hi.len;have hnn:=hi.n
 refine jw Afy ?_;have e1:C8 T key now=FD T key:=by unfold C8;rw[hov];rfl
 have e2:Dc T key now=[key]:=by unfold Dc;rw[hov];rfl
 rw[e1,e2];refine Ak hs λnb w hs=>?_;have hs:=Ab.blkS (b:=nb) (cs:=[.s key]) (n:=1) Ap.str [key] hs rfl rfl;have hs:Ab W w (QT b c T l kd o R evs::recs Ap.str ⟨some ⟨nb,0,none⟩,1,1⟩ [key]::M):=by exact Ab.fin hs
 refine Bf (QV (sg:=⟨some ⟨nb,0,none⟩,1,1⟩) (g:=[key]) hi.tok (by omega) (by simp) (by simp;omega) hs) λv w ⟨hv,hs⟩=>⟨hv,?_⟩;rw[Aes] at hs;have Lz:=M3 hi.tok key;have hsm:∀e∈FD T key,e.1.size<=40:=λe he=>by rw[FQ hi.tok.rise] at he;exact JH (P:=λk=>k.size<=40) hi.small e he
 have htk:=hi.tok.del key;have hev:=EvS.del (key:=key) hi.tok hi.small hi.len hc1 hc2;have hsi:=hi.sim;generalize FD T key=T' at *;refine Bf (Td (.inr rfl) htk (by omega) (by omega) (by omega) hsi hev hs) λv w ⟨hv,l',S,o',evs',hlen,hsim,ho,hs⟩=>⟨hv,?_⟩;refine Ak hs λnb2 w hs=>?_;have hs:=Ab.blkS (b:=nb2) (cs:=[.s key]) (n:=1) Ap.str [key] hs rfl rfl;have hs:Ab W w (QT b c T' l' kd o' S evs'::recs Ap.str ⟨some ⟨nb2,0,none⟩,1,1⟩ [key]::M):=by exact Ab.fin hs
 have hs:=CB (n:=n+520) ⟨htk,hsm,by omega,by omega,hsim⟩ hs;exact⟨⟨some ⟨nb2,0,none⟩,1,1⟩,rfl,o',ho,hs⟩
theorem QU(hn:n<900000000000)(hkz:key.size<=40)(hs:Ab W w (sd b c n T kd o::M)):Bh PR 83 #[pq b 0,.s key,.i now] w λv w'=>∃s:Sl,v = .l s.a s.n s.c/\sdL b c (n+520) (C8 T key now) kd o W w' (recs Ap.str s (Dc T key now)::M):=by
 refine cw ⟨mixed,func83,rfl⟩ A39 ?_;obtain⟨l,R,evs,hi,hs⟩:=DV hs;obtain⟨tb,fb,mb,s,x0,x1,x2,x3,x4,x5,hc,hs⟩:=Ch hs;refine Aa (Af hs ?_);refine AJ (Akq (k:=key) (now:=now) hs (by omega)) λe w ⟨he,hs⟩=>⟨_,_,he,?_⟩;refine As (λh1=>?_) (λh1=>?_)
 ·exact Aia hi hc (by unfold tOv;rw[h1];simp) hs
 refine Aa (Af hs ?_);refine Ao (Akr (k:=key) hs (by omega)) λe w ⟨he,hs⟩=>⟨_,he,?_⟩;refine As (λh2=>?_) (λh2=>?_)
 ·exact Aia hi hc (by unfold tOv;rw[Bool.not_eq_true'] at h2;rw[h2];rfl) hs
 exact Ay9 hi hn hkz (by unfold tOv;rw[h1];simpa using h2) (Bs hc hs)
def K4(key:BA)(now:Int):Int:=if FU key=false then 2 else if now<0\/1125899906842624<now then 1 else 0
theorem Ads(hs:Ab W w L):Bh PR 97 #[.i now] w λv w'=>v = .b (decide<|0<=now/\now<=1125899906842624)/\Ab W w' L:=by
 refine cw ⟨mixed,func97,rfl⟩ A4n ?_
 with_reducible refine A3 (λa=>?_) (λa=>?_)
 ·refine⟨?_,hs⟩;rw[decide_eq_decide.2<|show now<=1125899906842624↔(0<=now/\now<=1125899906842624) by omega]
 ·exact⟨by rw[decide_eq_false<|by omega],hs⟩
theorem Wq{r:Int}(hs:Ab W w L):Bh PR 74 #[.i r] w λv w'=>v = .b (decide<|1<=r/\r<=1024)/\Ab W w' L:=by
 refine cw ⟨mixed,func74,rfl⟩ A30 ?_
 with_reducible refine A3 (λa=>?_) (λa=>?_)
 ·refine⟨?_,hs⟩;rw[decide_eq_decide.2<|show r<=1024↔(1<=r/\r<=1024) by omega]
 ·exact⟨by rw[decide_eq_false<|by omega],hs⟩
theorem Adr(hs:Ab W w L):Bh PR 82 #[pq b 0,.s key,.i now] w λv w'=>v = .i (K4 key now)/\Ab W w' L:=by
 refine cw ⟨mixed,func82,rfl⟩ A38 ?_;refine Ad rfl ?_;refine Ao (Aj0 (k:=key) hs) λe w ⟨a,hs⟩=>⟨_,a,?_⟩;unfold K4;cases e:FU key with
 | false=>exact Am rfl ⟨rfl,hs⟩
 | true=>
  refine Ad rfl ?_;rw[if_neg<|by simp];refine Ah (Ads hs) λv w ⟨c,hs⟩=>⟨_,c,?_⟩
  with_reducible refine A3 (λd=>?_) (λd=>?_)
  ·rw[if_pos<|by omega];exact⟨rfl,hs⟩
  ·rw[if_neg<|by omega];exact⟨rfl,hs⟩
theorem Yi(h:K4 key now=0):FU key=true/\0<=now/\now<=1125899906842624:=by
 unfold K4 at h;split at h
 ·omega
 ·rename_i a;split at h
  ·omega
  ·exact⟨by simpa using a,by omega,by omega⟩
theorem Ave{n':Nat}(h:Pe c n T l R evs)(a:n<=n'):Pe c n' T l R evs:=⟨h.tok,h.small,h.len,by have:=h.n;omega,h.sim⟩
theorem Gw{n':Nat}(a:n<=n')(h:Ab W w (sd b c n T kd o::M)):Ab W w (sd b c n' T kd o::M):=by
 obtain⟨l,R,evs,hi,hs⟩:=DV h;exact CB (Ave hi a) hs
structure Ayg(c:Int)(T:TT):Prop where
 tok:N4 T
 small:∀e∈T,e.1.size<=40
 len:(T.length:Int)<=c
 c1:1<=c
 c2:c<=1024
theorem Aw0(h:Ab W w (sd b c n T kd o::M)):Ayg c T:=by
 obtain⟨l,R,evs,hi,hs⟩:=DV h;have a:=(EX hs).1;exact⟨hi.tok,hi.small,hi.len,a.c1,a.c2⟩
theorem Bar(D:n<800000000000)(hs:Ab W w (sd b c n T kd o::M)):Bh PR 51 #[pq b 0,.s key,.i now] w λv w'=>
  (K4 key now≠0/\v = .tuple #[.s ⟨#[]⟩,.b false,.l none 0 0,.i<|K4 key now]/\Ab W w' (sd b c n T kd o::M)) \/
  (K4 key now=0/\∃s:Sl,v = .tuple #[.s (Ha T key now).1,.b (Ha T key now).2,.l s.a s.n s.c,.i 0]/\sdL b c (n+520) (C8 T key now) kd o W w' (recs Ap.str s (Dc T key now)::M)):=by
 refine cw ⟨mixed,func51,rfl⟩ A3h ?_;refine Ah (Adr hs) λv w ⟨g,hs⟩=>⟨_,g,?_⟩
 with_reducible refine A3 (λf=>?_) (λf=>?_)
 ·exact .inl ⟨f,rfl,hs⟩
 obtain⟨h,u,x⟩:=Yi f;have y:=Ef h;have r:=An2 (k:=key) (now:=now) (Aw0 hs).tok.rise;refine Ah (QU (by omega) (by omega) hs) λv w ⟨sg,g,d,q,hs⟩=>⟨_,g,?_⟩;generalize Dc T key now=m at hs ⊢;generalize C8 T key now=p at hs r ⊢;obtain⟨l,R,evs,hi,hs⟩:=DV hs;have j:=(EX hs).1;have z:=j.c2;have A:=j.c1;have B:=hi.len;have C:=hi.n
 obtain⟨tb,fb,mb,s,x0,x1,x2,x3,x4,x5,hc,hs⟩:=Ch hs;refine Aa ?_;refine Av (HW hs rfl hc.h0) λe w ⟨e,hs⟩=>⟨e,?_⟩;have hs:Ab W w (cD b tb fb mb (Ft x0 1099511627776) x1 x2 x3 x4 x5 s::tabR tb p::fd fb l::FZ mb kd c R d::recs Gi s evs::recs Ap.str sg m::M):=hs;refine Aa (Af hs ?_);refine AJ (Akq (k:=key) (now:=now) hs<|by omega) λe w ⟨e,hs⟩=>⟨_,_,e,?_⟩;rw[r];refine As (λ_=>?_) (λ_=>?_)
 ·refine Aa ?_;refine Av (HW hs rfl hc.h1) λe w ⟨e,hs⟩=>⟨e,?_⟩;have hs:Ab W w (cD b tb fb mb (Ft x0 1099511627776) (Ft x1 1099511627776) x2 x3 x4 x5 s::tabR tb p::fd fb l::FZ mb kd c R d::recs Gi s evs::recs Ap.str sg m::M):=hs;refine Aa (Af hs ?_);have hs:Ab W w (fd fb l::cD b tb fb mb (Ft x0 1099511627776) (Ft x1 1099511627776) x2 x3 x4 x5 s::tabR tb p::FZ mb kd c R d::recs Gi s evs::recs Ap.str sg m::M):=by exact Ab.fin hs
  refine Ah (A4p (key:=key) (by omega) hs) λv w ⟨t,g,hs⟩=>⟨_,g,?_⟩;have hs:Ab W w (cD b tb fb mb (Ft x0 1099511627776) (Ft x1 1099511627776) x2 x3 x4 x5 s::tabR tb p::fd fb l::FZ mb kd c R d::recs Gi s evs::recs Ap.str sg m::M):=by exact Ab.fin hs
  refine As (λ_=>?_) (λ_=>?_)
  ·refine Aa ?_;refine Av (HW hs rfl hc.h4) λe w ⟨e,hs⟩=>⟨e,?_⟩;exact .inr ⟨f,sg,rfl,d,q,CB hi<|Bs ⟨Gt hc.h0,Gt hc.h1,hc.h2,hc.h3,Gt hc.h4,hc.h5⟩ hs⟩
  ·exact .inr ⟨f,sg,rfl,d,q,CB hi<|Bs ⟨Gt hc.h0,Gt hc.h1,hc.h2,hc.h3,hc.h4,hc.h5⟩ hs⟩
 ·exact .inr ⟨f,sg,rfl,d,q,CB hi<|Bs ⟨Gt hc.h0,hc.h1,hc.h2,hc.h3,hc.h4,hc.h5⟩ hs⟩
theorem An4(hn:n<800000000000)(hs:Ab W w (sd b c n T kd o::M)):Bh PR 54 #[pq b 0,.s key,.i now] w λv w'=>
  (K4 key now≠0/\v = .tuple #[.b false,.l none 0 0,.i (K4 key now)]/\Ab W w' (sd b c n T kd o::M)) \/
  (K4 key now=0/\∃s:Sl,v = .tuple #[.b (AH (C8 T key now) key).isSome,.l s.a s.n s.c,.i 0]/\sdL b c (n+1040) (FD (C8 T key now) key) kd o W w' (recs Ap.str s (Dc T key now)::M)):=by
 refine cw ⟨mixed,func54,rfl⟩ A3l ?_;refine Ah (Adr hs) λv w ⟨hv,hs⟩=>⟨_,hv,?_⟩
 with_reducible refine A3 (λh0=>?_) (λh0=>?_)
 ·exact .inl ⟨h0,rfl,hs⟩
 obtain⟨hkey,hn0,hn1⟩:=Yi h0;have hkz:=Ef hkey;refine Ah (QU (by omega) (by omega) hs) λv w ⟨sg,hv,o',ho,hs⟩=>⟨_,hv,?_⟩;generalize Dc T key now=gg at hs ⊢;generalize C8 T key now=T1 at hs ⊢;obtain⟨l,R,evs,hi,hs⟩:=DV hs;have hkR:=(EX hs).1;have hc2:=hkR.c2;have hc1:=hkR.c1;have hTl:=hi.len;have hnn:=hi.n
 obtain⟨tb,fb,mb,s,x0,x1,x2,x3,x4,x5,hc,hs⟩:=Ch hs;refine Aa (Af hs ?_);refine Ao (Ts (k:=key) hs (by omega) (by omega)) λe w ⟨he,hs⟩=>⟨_,he,?_⟩;have Lz:=M3 hi.tok key;have hsm:∀e∈FD T1 key,e.1.size<=40:=λe he=>by rw[FQ hi.tok.rise] at he;exact JH (P:=λk=>k.size<=40) hi.small e he
 have htk:=hi.tok.del key;have hev:=EvS.del (key:=key) hi.tok hi.small hi.len hc1 hc2;refine As (λhp=>?_) (λhp=>?_)
 ·have hsi:=hi.sim;generalize FD T1 key=T' at *;have hs:=Bs hc hs;refine Bf (Td (.inr rfl) htk (by omega) (by omega) (by omega) hsi hev hs) λv w ⟨hv,l',S,o2,evs',hlen,hsim,ho2,hs⟩=>⟨hv,?_⟩;exact .inr ⟨h0,sg,rfl,o2,ho2.trans ho,CB ⟨htk,hsm,by omega,by omega,hsim⟩ hs⟩
 ·have hno:key∉kT T1:=λh=>by rw[HE.1 h] at hp;cases hp
  have hsim:W2 c R l (kT (FD T1 key)):=hi.sim.right λx=>by
   rw[Avh hi.tok.rise];exact⟨λh=>⟨h,λe=>hno (e ▸ h)⟩,λh=>h.1⟩
  exact .inr ⟨h0,sg,rfl,o',ho,CB ⟨htk,hsm,by omega,by omega,hsim⟩ (Bs hc hs)⟩
theorem Aw1(r:n<900000000000)(hs:Ab W w (sd b c n T kd o::M)):Bh PR 56 #[pq b 0] w λv w'=>∃m:Int,v = .i m/\sdL b c (n+520) T kd o W w' M:=by
 refine cw ⟨mixed,func56,rfl⟩ A3n ?_;refine Ad rfl ?_;obtain⟨l,R,evs,hi,hs⟩:=DV hs;have d:=(EX hs).1;have e:=d.c2;have f:=hi.len;have g:=hi.n
 refine Ah (G5 hi.tok (by omega) (by omega) hi.sim hs) λv w ⟨m,S,h,a,j,k,p,q,hs⟩=>⟨_,j,m,rfl,h,p,?_⟩;exact CB (l:=[]) (R:=S) (evs:=a) ⟨hi.tok,hi.small,hi.len,by omega,k⟩ hs
theorem A5z(hn:n<900000000000)(hs:Ab W w (sd b c n T kd o::M)):Bh PR 57 #[pq b 0] w λv w'=>∃(x:BA) (t:Bool) (o':Option Nat),v = .tuple #[.s x,.b t]/\KK o' o/\(∀m,o'=some m->m<=T.length)/\Ab W w' (sd b c (n+520) T kd (VQ o')::M):=by
 refine cw ⟨mixed,func57,rfl⟩ A3o ?_;refine Ad rfl ?_;obtain⟨l,R,evs,hi,hs⟩:=DV hs;have hkR:=(EX hs).1;have hc2:=hkR.c2;have hTl:=hi.len;have hnn:=hi.n
 refine Ah (G5 hi.tok (by omega) (by omega) hi.sim hs) λv w ⟨m,S,o',evs',hv,hm,ho,_,hs⟩=>⟨_,hv,?_⟩;have hle:∀m,o'=some m->m<=T.length:=λm h=>by
  have h1:=(EX hs).2.2 m h;have h2:=EC (EX hs).1.nd (λx hx=>(hm x).1 hx);unfold kT at h2;rw[length_map] at h2;omega
 obtain⟨tb,fb,mb,s,x0,x1,x2,x3,x4,x5,hc,hs⟩:=Ch hs;refine Aa (Af hs ?_);have hs:Ab W w (FZ mb kd c S o'::cD b tb fb mb x0 x1 x2 x3 x4 x5 s::tabR tb T::fd fb []::recs Gi s evs'::M):=by exact Ab.fin hs
 refine AM (A5f hs) λv w ⟨x,t,S2,hv,hm2,hs⟩=>⟨_,_,hv,?_⟩;have hi2:Pe c (n+520) T [] S2 evs':=⟨hi.tok,hi.small,hi.len,by omega,λx=>by rw[hm2,hm]⟩;have hs:Ab W w (cD b tb fb mb x0 x1 x2 x3 x4 x5 s::tabR tb T::fd fb []::FZ mb kd c S2 (VQ o')::recs Gi s evs'::M):=by exact Ab.fin hs
 refine As (λ_=>?_) (λ_=>?_)
 ·refine Aa ?_;refine Av (HW hs rfl hc.h5) λe w ⟨he,hs⟩=>⟨he,?_⟩;exact⟨x,t,o',rfl,ho,hle,CB hi2 (Bs ⟨hc.h0,hc.h1,hc.h2,hc.h3,hc.h4,Gt hc.h5⟩ hs)⟩
 ·exact⟨x,t,o',rfl,ho,hle,CB hi2 (Bs hc hs)⟩
theorem An7{k:Int}(r:0<=k/\k<5)(D:n<900000000000)(hs:Ab W w (sd b c n T kd o::M)):Bh PR 104 #[pq b 0,.i k] w λv w'=>∃m:Int,v = .i m/\((k=kd/\Ab W w' (sd b c n T kd o::M))\/Ab W w' (sd b c (n+520) T k (some T.length)::M)):=by
 refine cw ⟨mixed,func104,rfl⟩ Ap8 ?_;refine Ad rfl (Ad (decide_eq_false<|by omega) ?_);refine jw Zm ?_;refine Ad (decide_eq_false<|by omega) ?_;obtain⟨l,R,evs,hi,hs⟩:=DV hs;have f:=(EX hs).1;have t:=f.c2;have u:=hi.len;have y:=hi.n
 obtain⟨tb,fb,mb,s,x0,x1,x2,x3,x4,x5,hc,hs⟩:=Ch hs;refine Aa (Af hs ?_);have hs:Ab W w (FZ mb kd c R o::cD b tb fb mb x0 x1 x2 x3 x4 x5 s::tabR tb T::fd fb l::recs Gi s evs::M):=by exact Ab.fin hs
 refine Ah (A5c hs) λv w ⟨d,hs⟩=>⟨_,d,?_⟩;have hs:Ab W w (QT b c T l kd o R evs::M):=Bs hc (by exact Ab.fin hs);refine As (λh=>⟨8,rfl,.inl ⟨by simpa using h,CB hi hs⟩⟩) (λ_=>?_);refine jw Zn ?_;refine Ah (G5 hi.tok (by omega) (by omega) hi.sim hs) λv w ⟨m,S,z,a,d,A,E,B,hs⟩=>⟨_,d,?_⟩;clear hc;have C:=(EX hs).1;obtain⟨tb,fb,mb,s,x0,x1,x2,x3,x4,x5,hc,hs⟩:=Ch hs;refine Aa (Af hs ?_);have hs:Ab W w (FZ mb kd c S z::cD b tb fb mb x0 x1 x2 x3 x4 x5 s::tabR tb T::fd fb []::recs Gi s a::M):=by exact Ab.fin hs
 refine Ah (Av6 r hs) λv w ⟨g,d,j,hs⟩=>⟨_,d,?_⟩;have p:=OM hs;have e:∀x,x∈g↔x∈kT T:=λx=>by rw[j,A]
 have q:g.length=T.length:=by
  have:=(De p.nd hi.tok.rise.nodup e).length_eq;simpa using this
 rw[q] at hs;exact⟨0,rfl,.inr<|CB (l:=[]) (R:=g) (evs:=a) ⟨hi.tok,hi.small,hi.len,by omega,e⟩<|Bs hc<|by exact Ab.fin hs⟩
theorem Bas{r d f c:Int}(hs:Ab W w L):Bh PR 47 #[.i r,.i d,.i f,.i c] w λv w'=>(((0<=d/\d<=256/\1<=f/\f<=256)/\0<=c/\c<5)/\∃b,v = .tuple #[pq b 0,.i 0]/\Ab W w' (sd b r 0 [] c none::L))\/(¬((1<=r/\r<=1024)/\(0<=d/\d<=256/\1<=f/\f<=256)/\0<=c/\c<5)/\∃e:Int,e≠0/\v = .tuple #[.p none,.i e]/\Ab W w' L):=by
 refine cw ⟨mixed,func47,rfl⟩ A3d ?_;refine Ah (Wq hs) λv w ⟨a,hs⟩=>⟨_,a,?_⟩
 with_reducible refine A3 (λl=>?_) (λl=>?_)
 ·exact .inr ⟨by omega,1,by decide,rfl,hs⟩
 have m:Ba r=r:=by unfold Ba;omega
 refine AM (A9p hs) λv w h=>?_;rcases h with⟨g,fb,a,hs⟩|⟨j,a,hs⟩
 ·refine⟨_,_,a,Ad rfl ?_⟩;refine AM (A95 hs) λv w h=>?_;rcases h with⟨k,mb,a,hs⟩|⟨j,a,hs⟩
  ·refine⟨_,_,a,Ad rfl ?_⟩;rw[m] at hs;refine Ao (Aks hs) λe w ⟨tb,n,hs⟩=>⟨_,n,?_⟩;have hs:=Ab.nilR Gi hs;refine Ak hs λb w hs=>?_;have hi:Pe r 0 [] [] [] []:=⟨⟨by simp[Ce,EL],by simp,by simp⟩,by simp,by simp;omega,by simp,λx=>by simp[kT]⟩
   exact .inl ⟨⟨g,k⟩,b,rfl,CB hi<|Bs (tb:=tb) (fb:=fb) (mb:=mb) (s:=⟨none,0,0⟩) (x0:=0) (x1:=0) (x2:=0) (x3:=0) (x4:=0) (x5:=0) ⟨by decide,by decide,by decide,by decide,by decide,by decide⟩<|by exact Ab.fin hs⟩
  ·exact⟨_,_,a,Am rfl<|.inr ⟨by omega,4,by decide,rfl,hs.drop⟩⟩
 ·exact⟨_,_,a,Am rfl<|.inr ⟨by omega,1,by decide,rfl,hs⟩⟩
theorem An6{r:Int}(hr1:1<=r)(hr2:r<=1024)(hn:n<900000000000)(hs:Ab W w (sd b c n T kd o::M)):Bh PR 63 #[pq b 0,.i r] w λv w'=>∃(sl:Sl) (g:BL),v = .tuple #[.l sl.a sl.n sl.c,.i 0]/\g.Nodup/\(∀x∈g,x∈kT T)/\(g=[]\/((AR T g).length:Int)=r)/\Ab W w' (sd b r (n+520) (AR T g) kd none::recs Ap.str sl g::M):=by
 refine cw ⟨mixed,func63,rfl⟩ A3u ?_;refine Ad rfl ?_;refine Ah (Wq hs) λv w ⟨hv,hs⟩=>⟨_,hv,?_⟩;refine Ad (by rw[decide_eq_true ⟨hr1,hr2⟩];rfl) ?_
 refine jw Aft ?_;obtain⟨l,R,evs,hi,hs⟩:=DV hs;have hkR:=(EX hs).1;have hc2:=hkR.c2;have hc1:=hkR.c1;have hTl:=hi.len;have hnn:=hi.n
 have hrr:Ba r=r:=by unfold Ba;omega
 refine Ah (G5 hi.tok (by omega) (by omega) hi.sim hs) λv w ⟨m,S,o',evs',hv,hm,ho,hle,hs⟩=>⟨_,hv,?_⟩;have hKok:=Ajq hi.tok.rise hi.small hi.len hc1 hc2;obtain⟨tb,fb,mb,s,x0,x1,x2,x3,x4,x5,hc,hs⟩:=Ch hs;refine Aa (Af hs ?_);have hs:Ab W w (FZ mb kd c S o'::cD b tb fb mb x0 x1 x2 x3 x4 x5 s::tabR tb T::fd fb []::recs Gi s evs'::M):=by exact Ab.fin hs
 refine Ah (Ana hs) λv w ⟨sl,g,S2,hv,hsub,hnd,hm2,hgl2,hs⟩=>⟨_,hv,?_⟩;rw[hrr] at hs hgl2;have hok2:=OM hs;have hs:Ab W w (QT b r T [] kd none S2 evs'::recs Ap.str sl g::M):=Bs hc (by exact Ab.fin hs);have hgT:∀x∈g,x∈kT T:=λx hx=>(hm x).1 (hsub x hx);have hgl:g.length<=T.length:=by
  have:=EB hnd hgT;unfold kT at this;simpa using this
 refine Bf (QV hi.tok (by omega) (by omega) (λx hx=>hKok.small x (hgT x hx)) hs) λv w ⟨hv,hs⟩=>⟨hv,?_⟩;have hmT:∀x,x∈S2↔x∈kT (AR T g):=λx=>by rw[hm2,hm,Nd hi.tok.rise]
 have htk:=F5 (g:=g) hi.tok;have hl2:S2.length=(AR T g).length:=by
  have h1:=(De hok2.nd htk.rise.nodup hmT).length_eq;simpa using h1
 have hlen:((AR T g).length:Int)<=r:=by
  have h2:=hok2.room;omega
 have hi2:Pe r (n+520) (AR T g) [] S2 evs':=⟨htk,I2 (P:=λk=>k.size<=40) hi.tok.rise hi.small,hlen,by omega,hmT⟩;exact⟨sl,g,rfl,hnd,hgT,by rw[<- hl2];exact hgl2,CB hi2 hs⟩
theorem Ako(h:Gy key val now life=0):JR T key val now life=Ip T key (val,Iv now life):=if_pos h
abbrev Aox(b:Nat)(c:Int)(n:Nat)(d:TT)(e:BL)(kd:Int)(o:Option Nat)(key val:BA)(now life:Int)(W:World)(M:List HP):VW:=λv w'=>
 ∃(sl:Sl) (g:BL),v = .tuple #[.l sl.a sl.n sl.c,.i 0]/\g.Nodup/\(∀x∈g,x∈kT d)/\key∉g/\sdL b c n (JR (AR d g) key val now life) kd o W w' (recs Ap.str sl (e++g)::M)
theorem Bac{T1:TT}{g0:BL}{s0:Sl}{Q:VW}(hQ:∀v w,Aox b c (n+1041) T1 g0 kd o key val now life W M v w->Q v w)(he:Gy key val now life=0)(hn:n<700000000000)(hg0:g0.length<=1)(t:Bool)(ht:t=true->key∈kT T1\/(T1.length:Int)<c)(hf:t=false->key∉kT T1/\c<=(T1.length:Int))(hs:Ab W w (sd b c n T1 kd o::recs Ap.str s0 g0::M)) :
  XJ AU Q (some ⟨b,0,none⟩) key val now life s0 t w:=by
 obtain⟨hkey,hv,hn0,hn1,hl0,hl1⟩:=MF he;have hkz:=Ef hkey;refine jw Afl ?_;obtain⟨l,R,evs,hi,hs⟩:=DV hs;have hkR:=(EX hs).1;have hc2:=hkR.c2;have hc1:=hkR.c1;have hTl:=hi.len;have hnn:=hi.n
 cases t with
 | true=>
  refine Am rfl ?_;obtain⟨tb,fb,mb,s,x0,x1,x2,x3,x4,x5,hc,hs⟩:=Ch hs;refine Aa (Af hs ?_);refine AJ (YF (k:=key) (v:=val) (now:=now) (life:=life) hs (by omega)) λe w ⟨he2,hs⟩=>⟨_,_,he2,?_⟩;have htp:=Ako (T:=T1) he;have hlen:((Ip T1 key (val,Iv now life)).length:Int)<=c:=by
   rw[Ann hi.tok];rcases ht rfl with h|h
   ·rw[if_pos h];omega
   ·split <;> omega
  have hev:EvS c (kT T1) ((2:Int),key) (kT (Ip T1 key (val,Iv now life))):=EvS.put hi.tok hi.small (by omega) hlen hc1 hc2;have htk:=hi.tok.put key val now life;have hsm:=Ll (v:=(val,Iv now life)) hi.tok.rise hi.small (key:=key) (by omega);rw[<- htp] at hev hlen hsm;have hdel:AR T1 []=T1:=rfl;have hsi:=hi.sim;unfold Aox at hQ;generalize hT2:JR T1 key val now life=T2 at *;have hs:=Bs hc hs;refine Bf (Td (.inl rfl) htk (by omega) (by omega) (by omega) hsi hev hs) λv w ⟨hv,l',S,o',evs',hlen2,hsim,ho,hs⟩=>⟨hv,?_⟩;have hi2:Pe c (n+1041) T2 l' S evs':=⟨htk,hsm,hlen,by omega,hsim⟩
  refine hQ _ _ ⟨s0,[],rfl,by simp,by simp,by simp,o',ho,?_⟩;rw[append_nil,hdel,hT2];exact CB hi2 hs
 | false=>
  refine Ad rfl ?_;obtain⟨hno,hfull⟩:=hf rfl;refine jw Afm ?_;refine Ah (G5 hi.tok (by omega) (by omega) hi.sim hs) λv w ⟨m,S,o',evs',hv,hm,ho,hle,hs⟩=>⟨_,hv,?_⟩;obtain⟨tb,fb,mb,s,x0,x1,x2,x3,x4,x5,hc,hs⟩:=Ch hs;refine Aa (Af hs ?_);have hs:Ab W w (FZ mb kd c S o'::cD b tb fb mb x0 x1 x2 x3 x4 x5 s::tabR tb T1::fd fb []::recs Gi s evs'::recs Ap.str s0 g0::M):=by exact Ab.fin hs
  refine Ah (VO (key:=key) (by omega) hs) λv w ⟨sg,g,S2,o2,hv,hin,ho2,hs⟩=>⟨_,hv,?_⟩;have hgT:∀x∈g,x∈kT T1:=λx hx=>(hm x).1 (hin.sub x hx);have hgl:g.length<=T1.length:=by
   have:=EB hin.nd hgT;unfold kT at this;simpa using this
  refine Aa (Af (x:=s) hs ?_);refine Ak hs λnb w hs=>?_;refine D3 (s:=s) (a:=(((2:Int),key):Ev)) hs rfl rfl rfl rfl (by decide) (by omega) λs5 w hs5 hs=>?_;refine Aa (A4 hs λw hs=>?_);have hs:Ab W w (QT b c T1 [] kd o2 S2 (evs'++[((2:Int),key)])::recs Ap.str sg g::recs Ap.str s0 g0::M):=Bs hc (by exact Ab.fin hs);have hKok:=Ajq hi.tok.rise hi.small hi.len hc1 hc2;refine Bf (QV hi.tok (by omega) (by omega) (λx hx=>hKok.small x (hgT x hx)) hs) λv w ⟨hv,hs⟩=>⟨hv,?_⟩;have htk:=F5 (g:=g) hi.tok;have Lz:=KM (g:=g) hi.tok
  have hsm:=I2 (P:=λk=>k.size<=40) (g:=g) hi.tok.rise hi.small;have hkd:∀x,x∈kT (AR T1 g)↔x∈kT T1/\x∉g:=λx=>Nd hi.tok.rise;clear hc;obtain⟨tb,fb,mb,s,x0,x1,x2,x3,x4,x5,hc,hs⟩:=Ch hs;refine Aa (Af hs ?_);refine AJ (YF (k:=key) (v:=val) (now:=now) (life:=life) hs (by omega)) λe w ⟨he2,hs⟩=>⟨_,_,he2,?_⟩;have htp:=Ako (T:=AR T1 g) he;have htk2:=htk.put key val now life;have hsm2:=Ll (v:=(val,Iv now life)) htk.rise hsm (key:=key) (by omega);have hmS:∀x,x∈S2↔x∈kT (Ip (AR T1 g) key (val,Iv now life)):=λx=>by
   rw[Avi htk.rise,hkd,hin.mem,hm]
  have hlen2:((Ip (AR T1 g) key (val,Iv now life)).length:Int)<=c:=by
   have h1:=(De hin.ok.nd (Kq htk.rise).nodup hmS).length_eq;have h2:=hin.ok.room;simp only[length_map] at h1;omega
  rw[<- htp] at hmS hlen2 hsm2;unfold Aox at hQ;generalize hT2:JR (AR T1 g) key val now life=T2 at *;have hs:=Bs hc hs;have hi2:Pe c (n+1041) T2 [] S2 (evs'++[((2:Int),key)]):=⟨htk2,hsm2,hlen2,by simp;omega,hmS⟩
  have hs:=CB hi2 hs;have hs:Ab W w (recs Ap.str s0 g0::recs Ap.str sg g::sd b c (n+1041) T2 kd o2::M):=by exact Ab.fin hs
  refine GA (s:=s0) (new:=g) hs (GT (s:=sg) (E:=Ap.str) (rows:=g) hs) (BS (s:=sg) (E:=Ap.str) (rows:=g) hs) (Dt _) rfl (by decide) (by omega) λs6 w hs6 hs=>?_;have hs:Ab W w (recs Ap.str s6 (g0++g)::recs Ap.str sg g::sd b c (n+1041) T2 kd o2::M):=hs;refine hQ _ _ ⟨s6,g,rfl,hin.nd,hgT,hin.no,o2,ho2.trans ho,?_⟩;rw[hT2];exact Ab.fin hs
theorem Bat(hn:n<600000000000)(hs:Ab W w (sd b c n T kd o::M)):Bh PR 53 #[pq b 0,.s key,.s val,.i now,.i life] w λv w'=>
  (Gy key val now life≠0/\v = .tuple #[.l none 0 0,.i (Gy key val now life)]/\Ab W w' (sd b c n T kd o::M)) \/
  (Gy key val now life=0/\Aox b c (n+1561) (C8 T key now) (Dc T key now) kd o key val now life W M v w'):=by
 refine cw ⟨mixed,func53,rfl⟩ A3k ?_;refine Ad rfl ?_;refine Ao (Aks hs) λe w ⟨tb0,he,hs⟩=>⟨_,he,?_⟩;refine AJ (YF (k:=key) (v:=val) (now:=now) (life:=life) hs (by simp)) λe w ⟨he2,hs⟩=>⟨_,_,he2,?_⟩;have hs:Ab W w (sd b c n T kd o::M):=hs.drop
 with_reducible refine A3 (λhe=>?_) (λhe=>?_)
 ·exact .inl ⟨he,rfl,hs⟩
 obtain⟨hkey,_⟩:=MF he;have hkz:=Ef hkey;refine Ah (QU (now:=now) (by omega) (by omega) hs) λv w ⟨sg,hv,o',ho,hs⟩=>⟨_,hv,?_⟩;have hg1:(Dc T key now).length<=1:=by unfold Dc;split <;> simp
 generalize Dc T key now=gg at hs hg1 ⊢;generalize C8 T key now=T1 at hs ⊢;obtain⟨l,R,evs,hi,hs⟩:=DV hs;have hkR:=(EX hs).1;have hc2:=hkR.c2;have hTl:=hi.len
 obtain⟨tb,fb,mb,s,x0,x1,x2,x3,x4,x5,hc,hs⟩:=Ch hs;refine Aa ?_;refine Av (HW hs rfl hc.h2) λe w ⟨he3,hs⟩=>⟨he3,?_⟩;have hc':Aow x0 x1 (Ft x2 1099511627776) x3 x4 x5:=⟨hc.h0,hc.h1,Gt hc.h2,hc.h3,hc.h4,hc.h5⟩;have hs:Ab W w (cD b tb fb mb x0 x1 (Ft x2 1099511627776) x3 x4 x5 s::tabR tb T1::fd fb l::FZ mb kd c R o'::recs Gi s evs::recs Ap.str sg gg::M):=hs;have fin:∀(w:World)(t:Bool),(t=true->key∈kT T1\/(T1.length:Int)<c)->(t=false->key∉kT T1/\c<=(T1.length:Int))->Ab W w (cD b tb fb mb x0 x1 (Ft x2 1099511627776) x3 x4 x5 s::tabR tb T1::fd fb l::FZ mb kd c R o'::recs Gi s evs::recs Ap.str sg gg::M) ->
   XJ AU (λv w'=>(Gy key val now life≠0/\v = .tuple #[.l none 0 0,.i (Gy key val now life)]/\Ab W w' (sd b c n T kd o::M))\/(Gy key val now life=0/\Aox b c (n+1561) T1 gg kd o key val now life W M v w')) (some ⟨b,0,none⟩) key val now life sg t w:=by
  clear hs;intro w t h1 h2 hs;refine Bac (n:=n+520) (o:=o') (λv w ⟨sl,g,a1,a2,a3,a4,o2,a5,a6⟩=>.inr ⟨he,sl,g,a1,a2,a3,a4,o2,a5.trans ho,a6⟩) he (by omega) hg1 t h1 h2 (CB hi (Bs hc' hs))
 refine An [cD b tb fb mb x0 x1 (Ft x2 1099511627776) x3 x4 x5 s] hs λw hs=>?_;refine Aa (Af hs (Ag hs ?_));refine Ao (Akr (k:=key) hs (by omega)) λe w ⟨he2,hs⟩=>⟨_,he2,Ag hs ?_⟩;refine As (λh1=>?_) (λh1=>?_)
 ·refine Ag hs ?_;exact fin w true (λ_=>.inl (HE.2 h1)) (λh=>by cases h) hs
 ·have hno:key∉kT T1:=λh=>by rw[HE.1 h] at h1;cases h1
  refine Aa (Au (Aa (Au ?_)));refine Ao (A6c hs) λe w ⟨he2,hs⟩=>⟨_,he2,Ag hs ?_⟩;have hs:Ab W w (FZ mb kd c R o'::cD b tb fb mb x0 x1 (Ft x2 1099511627776) x3 x4 x5 s::tabR tb T1::fd fb l::recs Gi s evs::recs Ap.str sg gg::M):=by exact Ab.fin hs
  refine Ah (A5e hs) λv w ⟨hv,hs⟩=>⟨_,hv,?_⟩;exact fin w _ (λh=>.inr (of_decide_eq_true h)) (λh=>⟨hno,by have:=of_decide_eq_false h;omega⟩) (by exact Ab.fin hs)
theorem Axt{T:TT}(a:Ce T){x:BA}(h:x∈Cz T now):tOv T x now=true:=by
 unfold Cz at h;obtain⟨e,b,rfl⟩:=mem_map.1 h;obtain⟨c,d⟩:=mem_filter.1 b;have f:AH T e.1=some e.2:=(BM a.nodup).2 c;unfold tOv Ha;rw[f];dsimp only;rw[d];rfl
theorem Ahh{T:TT}(a:Ce T):(Cz T now).Nodup:=by
 unfold Cz;exact a.nodup.sublist ((List.filter_sublist).map _)
theorem Aoh{T S:TT}{x:BA}(h:AH T x=AH S x):tOv T x now=tOv S x now:=by unfold tOv;rw[h,Ahi h]
theorem An5(h0:0<=now)(h1:now<=1125899906842624)(hn:n<800000000000)(hs:Ab W w (sd b c n T kd o::M)):Bh PR 55 #[pq b 0,.i now] w λv w'=>∃sl:Sl,v = .l sl.a sl.n sl.c/\sdL b c (n+600000) (AR T (Cz T now)) kd o W w' (recs Ap.str sl (Cz T now)::M):=by
 refine cw ⟨mixed,func55,rfl⟩ A3m ?_;refine Ad rfl ?_;refine Ah (Ads hs) λv w ⟨hv,hs⟩=>⟨_,hv,?_⟩;refine Ad (by rw[decide_eq_true ⟨h0,h1⟩];rfl) ?_
 refine jw Afn ?_;have hok:=Aw0 hs;have hTl:=hok.len;have hc2:=hok.c2
 obtain⟨l,R,evs,hi,hs⟩:=DV hs;obtain⟨tb,fb,mb,s,x0,x1,x2,x3,x4,x5,hc,hs⟩:=Ch hs;refine Aa (Af hs ?_);have hs:Ab W w (tabR tb T::cD b tb fb mb x0 x1 x2 x3 x4 x5 s::fd fb l::FZ mb kd c R o::recs Gi s evs::M):=by exact Ab.fin hs
 refine Ao (A6b (now:=now) hs (by omega)) λe w ⟨sl,he,hs⟩=>⟨sl,he,?_⟩;have hs:Ab W w (cD b tb fb mb x0 x1 x2 x3 x4 x5 s::tabR tb T::fd fb l::FZ mb kd c R o::recs Gi s evs::recs Ap.str sl (Cz T now)::M):=by exact Ab.fin hs
 have hs:=CB hi (Bs hc hs);have hnd:=Ahh (now:=now) hok.tok.rise;have hov:∀x∈Cz T now,tOv T x now=true:=λx hx=>Axt hok.tok.rise hx;have Lz:(Cz T now).length<=T.length:=by unfold Cz;rw[length_map];exact List.length_filter_le _ _
 have hdz:∀x∈Cz T now,x.size<=40:=λx hx=>by
  unfold Cz at hx;obtain⟨e,he,rfl⟩:=mem_map.1 hx;exact hok.small e (mem_filter.1 he).1
 generalize Cz T now=D at *;have hsn:=BS (s:=sl) (E:=Ap.str) (rows:=D) hs;have hs:=Ab.nilR Ap.str hs;have loop:∀(f i:Nat)(w:World)(acc:Sl)(o':Option Nat),i+f=D.length->KK o' o->Ab W w (recs Ap.str acc (D.take i)::sd b c (n+i*520) (AR T (D.take i)) kd o'::recs Ap.str sl D::M) ->
   XL AU (λv w'=>∃sl:Sl,v = .l sl.a sl.n sl.c/\sdL b c (n+600000) (AR T D) kd o W w' (recs Ap.str sl D::M)) (f+1) (some ⟨b,0,none⟩) now acc sl (sl.n:Int) (i:Int) w:=by
  clear hs;intro f
  induction f with
  | zero=>
   intro i w acc o' hi ho hs;rw[R5];refine Ad (decide_eq_false (by omega)) ?_;refine jw Afo ?_;rw[take_of_length_le (by omega)] at hs;have hs:Ab W w (sd b c (n+i*520) (AR T D) kd o'::recs Ap.str acc D::M):=by exact Ab.fin hs
   exact⟨acc,rfl,o',ho,Gw (by omega) hs⟩
  | succ f ih=>
   intro i w acc o' hi ho hs;rw[R5];refine Am (decide_eq_true (by omega)) ?_;have hil:i<D.length:=by omega
   refine CO (s:=sl) (E:=Ap.str) (rows:=D) hs λb_ o_ ha_=>?_;refine Dh (s:=sl) (E:=Ap.str) (rows:=D) ha_ hs ?_;rw[toNat_natCast];have hm:D.getD i default∈D:=HZ hil;have hno:D.getD i default∉D.take i:=by
    intro hin;have h2:=hnd;rw[<- take_append_drop i D,nodup_append] at h2;have hd:D.getD i default∈D.drop i:=by
     rw[getD_eq_getElem?_getD,getElem?_eq_getElem hil,List.drop_eq_getElem_cons hil];exact .head _
    exact h2.2.2 _ hin _ hd rfl
   have hg:AH (AR T (D.take i)) (D.getD i default)=AH T (D.getD i default):=(KV hok.tok.rise).2 hno;have ho2:tOv (AR T (D.take i)) (D.getD i default) now=true:=by rw[Aoh hg];exact hov _ hm
   have hs:Ab W w (sd b c (n+i*520) (AR T (D.take i)) kd o'::recs Ap.str acc (D.take i)::recs Ap.str sl D::M):=by exact Ab.fin hs
   refine Ah (QU (now:=now) (by omega) (hdz _ hm) hs) λv w ⟨s2,hv,o2,ho3,hs⟩=>⟨_,hv,?_⟩;have e1:C8 (AR T (D.take i)) (D.getD i default) now=AR T (D.take (i+1)):=by
    unfold C8;rw[ho2,CC hil];unfold AR;rw[List.foldl_append];rfl
   have e2:Dc (AR T (D.take i)) (D.getD i default) now=[D.getD i default]:=by unfold Dc;rw[ho2];rfl
   rw[e1,e2] at hs;rw[show wrap .i64 ((i:Int)+1)=((i+1:Nat):Int) by rw[i64_in _ (by omega)];omega]
   have hs:Ab W w (recs Ap.str acc (D.take i)::recs Ap.str s2 [D.getD i default]::sd b c (n+i*520+520) (AR T (D.take (i+1))) kd o2::recs Ap.str sl D::M):=by exact Ab.fin hs
   refine GA (s:=acc) (new:=[D.getD i default]) hs (GT (s:=s2) (E:=Ap.str) hs) (BS (s:=s2) (E:=Ap.str) hs) (Dt _) rfl (by decide) (by rw[List.length_take];simp;omega) λs6 w hs6 hs=>?_;rw[<- CC hil] at hs;refine ih (i+1) w s6 o2 (by omega) (ho3.trans ho) ?_;rw[show n+(i+1)*520=n+i*520+520 by omega];exact Ab.fin hs
 exact AP _ (loop D.length 0 w ⟨none,0,0⟩ o (by omega) KK.refl (by rw[Nat.zero_mul,add_zero];exact hs))
end
end Go.Proofs.YtjipofkjmmpjdaaGreat
namespace Go.Proofs.YtjipofkjmmpjdaaGreat
open Go.Hb Go.IntWalk
section
variable{W w:World}{L M:List HP}{F:HP->List HP}{b:Nat}{room:Int}{N:Nat}{ks:List BA}{k:BA}
theorem XW(h:Ab W w L)[hA:At L b (ghR b room N ks) F](n:k.size<4611686018427387904)(q:N<800000000):Ai PR 124 #[pq b 0,.s k] w λe w'=>e = .returned (.b<|TE ks k)/\Ab W w' (F<|ghR b room N<|Aq ks k):=by
 refine At.call1 (hA:=hA) h λM hs=>?_;clear h hA;refine c1 (cw ⟨mixed,func124,rfl⟩ Aqm ?_);obtain⟨lb,xb,row,free,m,hi,o,hs⟩:=Mb hs;have r:=hi.len;have a:=hi.has (k:=k);refine Ad rfl ?_
 repeat (first|with_reducible refine Aa ?_|((with_reducible refine A7 ?_);first|refine Af hs ?_|fail)|fail)
 refine AJ (RQ hs n<|by omega) λe w ⟨d,hs⟩=>⟨_,_,d,?_⟩;cases c:AH m k with
 | none=>
  rw[c] at a;obtain⟨f,g,p⟩:=hi.miss c;refine Ad rfl ?_;rw[<- a,g];exact⟨rfl,Kf p o<|by exact Ab.fin hs⟩
 | some x=>
  rw[c] at a;have j:=Ii (mk:=.string) (b:=lb) (row:=row) (free:=free) (M:=blk b [.i room,pq lb 0,pq xb 0]::ixr (Ap.int .i64) xb 0 (BU m k)::M) (by exact Ab.fin hs);obtain⟨i,f,g⟩:=hi.hit c j;refine Am rfl ?_
  repeat (first|with_reducible refine Aa ?_|((with_reducible refine A7 ?_);first|refine Af hs ?_|fail)|fail)
  refine AJ (HK hs<|by omega) λe w ⟨d,hs⟩=>⟨_,_,d,?_⟩;simp only[Option.getD_some,f] at hs;rw[<- a];obtain⟨_,_,_,_,l⟩:=M2 f;refine⟨rfl,Kf g ?_ (by exact Ab.fin hs)⟩;rw[List.length_eraseIdx,if_pos l];simp;omega
theorem A9q(h:Ab W w L)[hA:At L b (ghR b room N ks) F](u:k.size<4611686018427387904)(H:N<700000000):Ai PR 126 #[pq b 0,.s k] w λe w'=>e = .returned (.tuple #[.s<|Ajj room ks k,.b<|Ab2 room ks k])/\Ab W w' (F<|ghR b room (N+1)<|A4q room ks k):=by
 refine At.call1 (hA:=hA) h λM hs=>?_;clear h hA;refine c1 (cw ⟨mixed,func126,rfl⟩ Aqo ?_);refine Ad rfl ?_;refine Ao (XW hs u<|by omega) λe w ⟨a,hs⟩=>⟨_,a,?_⟩;obtain⟨lb,xb,row,free,m,hi,D,hs⟩:=Mb hs;have I:=hi.len;have E:k∉Aq ks k:=λh=>(AO.1 h).2 rfl;refine An [blk b [.i room,pq lb 0,pq xb 0]] hs λw hs=>?_
 repeat (first|with_reducible refine Aa ?_|((with_reducible refine A7 ?_);first|refine Af hs ?_|fail)|((with_reducible refine Cm ?_);first|refine Au ?_|fail)|((with_reducible refine Bk ?_);first|refine Ag hs ?_|fail)|fail)
 refine Ao (Gj hs<|by omega) λe w ⟨a,hs⟩=>⟨_,a,?_⟩
 repeat (first|((with_reducible refine Bk ?_);first|refine Ag hs ?_|fail)|fail)
 refine Ao (XZ hs u hi.small_m<|by omega) λe w ⟨a,hs⟩=>⟨_,a,?_⟩;have g:=hi.push E u (Lz row free);have v:(row++[(Lz row free,k)]).length+free.dropLast.length<=N+1:=by simp;omega
 refine An [blk b [.i room,pq lb 0,pq xb 0]] hs λw hs=>?_
 repeat (first|with_reducible refine Aa ?_|((with_reducible refine Cm ?_);first|refine Au ?_|fail)|fail)
 refine Ao (FJ hs) λe w ⟨a,hs⟩=>⟨_,a,?_⟩
 repeat (first|((with_reducible refine Bk ?_);first|refine Ag hs ?_|fail)|fail)
 rw[show(row++[(Lz row free,k)]).length=(Aq ks k++[k]).length by rw[g.len.2]];have hs:=Kf (b:=b) (room:=room) (lb:=lb) (xb:=xb) (M:=M) g v (by exact Ab.fin hs);refine As (λc=>?_) (λc=>?_)
 ·have c:=of_decide_eq_true c;have y:A4q room ks k=Aq ks k++[k]:=if_pos c;have z:Ajj room ks k=Ae:=if_pos c;have A:Ab2 room ks k=false:=by unfold Ab2;rw[decide_eq_true c];rfl
  rw[y,z,A];exact⟨rfl,hs⟩
 ·have c:=of_decide_eq_false c;have j:=(Au7 hs).1;have l:=(Au7 hs).2.2;obtain⟨x,t,B⟩:∃x t,Aq ks k++[k]=x::t:=by
   cases hc:Aq ks k++[k] with
   | nil=>simp at hc
   | cons x t=>exact⟨x,t,rfl⟩
  have y:A4q room ks k=t:=by unfold A4q;rw[if_neg c,B];rfl
  have z:Ajj room ks k=x:=by unfold Ajj;rw[if_neg c,B];rfl
  have A:Ab2 room ks k=true:=by unfold Ab2;rw[decide_eq_false c];rfl
  rw[y,z,A];rw[B] at hs j l;obtain⟨lb,xb,row,free,m,hi,D,hs⟩:=Mb hs;refine An [blk b [.i room,pq lb 0,pq xb 0]] hs λw hs=>?_
  repeat (first|with_reducible refine Aa ?_|((with_reducible refine A7 ?_);first|refine Af hs ?_|fail)|((with_reducible refine Cm ?_);first|refine Au ?_|fail)|((with_reducible refine Bk ?_);first|refine Ag hs ?_|fail)|fail)
  refine Ao (Et hs) λe w ⟨a,hs⟩=>⟨_,a,?_⟩
  repeat (first|((with_reducible refine Bk ?_);first|refine Ag hs ?_|fail)|fail)
  refine AJ (FI hs) λe w ⟨a,hs⟩=>⟨_,_,a,?_⟩;have n:=Ii (mk:=.string) (b:=lb) (row:=row) (free:=free) (M:=blk b [.i room,pq lb 0,pq xb 0]::ixr (Ap.int .i64) xb 0 m::M) (by exact Ab.fin hs);obtain⟨p,f,d⟩:∃p f,row=(p,x)::f:=by
   have:=hi.keys;cases hc:row with
   | nil=>rw[hc] at this;cases this
   | cons e r=>
    rw[hc] at this;rw[map_cons,List.cons.injEq] at this;exact⟨e.1,r,by rw[<- this.1]⟩
  have o:Ko row ((AY row 0:Nat):Int)=some 0:=by
   have G:AY row 0=p:=by rw[d];rfl
   rw[G];exact Lj n (i:=0) (e:=(p,x)) (by rw[d];rfl)
  have q:FE row ((AY row 0:Nat):Int)=some x:=by
   unfold FE;rw[o,d];rfl
  rw[q,o];have hs:=Kf (b:=b) (room:=room) (lb:=lb) (xb:=xb) (M:=M) hi D (by exact Ab.fin hs);have C:x.size<4611686018427387904:=l x (by simp);refine Ao (XW hs C<|by omega) λe w ⟨a,hs⟩=>⟨_,a,?_⟩;simp only[Option.getD_some] at hs;rw[KU j] at hs;exact⟨rfl,hs⟩
theorem A9r(hs:Ab W w L){r:Int}:Ai PR 147 #[.i r] w λe w'=>∃b,e = .returned (pq b 0)/\Ab W w' (ghR b (Aen r) 0 []::L):=by
 refine(cw ⟨mixed,func147,rfl⟩ Aq7 (Q:=λv w'=>∃b,v=pq b 0/\Ab W w' (ghR b (Aen r) 0 []::L)) ?_).mono λe w' ⟨v,a,b,c,hs⟩=>⟨b,by rw[a,c],hs⟩;refine Ao (Da hs _ _ _) λe w ⟨a,hs⟩=>⟨_,a,?_⟩;refine(Ja hs).mono λe w ⟨lb,a,hs⟩=>⟨_,a,?_⟩;refine(Ajn hs).mono λe w ⟨xb,a,hs⟩=>⟨_,a,?_⟩
 repeat (first|((with_reducible refine Dd ?_);first|refine Ak hs λd w hs=>?_|fail)|fail)
 exact⟨_,rfl,Kf (lb:=lb) (xb:=xb) (row:=[]) (free:=[]) (m:=[]) ⟨rfl,by simp,List.Perm.refl _,by simp⟩ (le_refl _)<|by exact Ab.fin hs⟩
end
end Go.Proofs.YtjipofkjmmpjdaaGreat
namespace Go.Hb
def YL(b n:Nat):HP:=Ly λ(z:Int×BL)=>ghR b z.1 n z.2
def GZ(b:Nat):HP:=Ly λ(z:Int×Int×Int)=>Fs ((0<=z.1/\z.1<=16777216)/\0<=z.2.1/\0<=z.2.2) (blk b [.i z.1,.i z.2.1,.i z.2.2])
abbrev cW(b:Nat)(k:Int)(t e g:Nat)(x0 x1 x2 x3 x4 x5:Int):HP:=blk b [.i k,.iface t<|pq e 0,pq g 0,.i x0,.i x1,.i x2,.i x3,.i x4,.i x5]
structure P6(x0 x1 x2 x3 x4 x5:Int):Prop where
 h0:0<=x0
 h1:0<=x1
 h2:0<=x2
 h3:0<=x3
 h4:0<=x4
 h5:0<=x5
def BY(b n:Nat):HP:=Ly λ(z:(Int×Nat×Nat×Nat)×(Int×BL)×(Int×Int×Int×Int×Int×Int))=>Fs (P6 z.2.2.1 z.2.2.2.1 z.2.2.2.2.1 z.2.2.2.2.2.1 z.2.2.2.2.2.2.1 z.2.2.2.2.2.2.2)
 (AN [cW b z.1.1 z.1.2.1 z.1.2.2.1 z.1.2.2.2 z.2.2.1 z.2.2.2.1 z.2.2.2.2.1 z.2.2.2.2.2.1 z.2.2.2.2.2.2.1 z.2.2.2.2.2.2.2,eg z.1.2.1 z.1.2.2.1 z.2.1.1 z.2.1.2,YL z.1.2.2.2 n])
def TR(l:List Nat)(n:Nat):HP:=AN (l.map λb=>BY b n)
def Ff(b n:Nat):HP:=Ly λ(z:(Nat×Int)×List Nat)=>Fs (z.2.length=5) (AN [blk b (pq z.1.1 0::.i z.1.2::z.2.map λq=>pq q 0),GZ z.1.1,TR z.2 n])
section
variable{W w:World}{M L:List HP}{b n m:Nat}
theorem Au9(c:n<=m)(h:Ab W w (YL b n::M)):Ab W w (YL b m::M):=by
 obtain⟨⟨r,ks⟩,h⟩:=h.openE;obtain⟨lb,xb,row,free,d,a,e,h⟩:=Mb h;exact Ab.shutE (r,ks) (Kf a (by omega) h)
theorem Adv(h:Ab W w (GZ b::M)):∃r a t:Int,((0<=r/\r<=16777216)/\0<=a/\0<=t)/\Ab W w (blk b [.i r,.i a,.i t]::M):=by
 obtain⟨⟨r,a,t⟩,h⟩:=h.openE;obtain⟨c,h⟩:=h.openA;exact⟨r,a,t,c,h⟩
theorem MD{r a t:Int}(c:(0<=r/\r<=16777216)/\0<=a/\0<=t)(h:Ab W w (blk b [.i r,.i a,.i t]::M)):Ab W w (GZ b::M):=Ab.shutE (r,a,t) (Ab.shutA c h)
theorem Te(h:Ab W w (BY b n::M)):∃(k:Int) (t e g:Nat) (c:Int) (R:BL) (x0 x1 x2 x3 x4 x5:Int),P6 x0 x1 x2 x3 x4 x5/\Ab W w (cW b k t e g x0 x1 x2 x3 x4 x5::eg t e c R::YL g n::M):=by
 obtain⟨⟨⟨k,t,e,g⟩,⟨c,R⟩,x0,x1,x2,x3,x4,x5⟩,h⟩:=h.openE;obtain⟨a,h⟩:=h.openA;exact⟨k,t,e,g,c,R,x0,x1,x2,x3,x4,x5,a,h.openL⟩
theorem JO{k:Int}{t e g:Nat}{c:Int}{R:BL}{x0 x1 x2 x3 x4 x5:Int}(a:P6 x0 x1 x2 x3 x4 x5)(h:Ab W w (cW b k t e g x0 x1 x2 x3 x4 x5::eg t e c R::YL g n::M)):Ab W w (BY b n::M):=
 Ab.shutE ((k,t,e,g),(c,R),x0,x1,x2,x3,x4,x5) (Ab.shutA a<|Ab.shutL (Ps:=[_,_,_]) h)
theorem GU(a:n<=m)(h:Ab W w (BY b n::M)):Ab W w (BY b m::M):=by
 obtain⟨k,t,e,g,c,R,x0,x1,x2,x3,x4,x5,d,hs⟩:=Te h;have hs:Ab W w (YL g n::cW b k t e g x0 x1 x2 x3 x4 x5::eg t e c R::M):=by exact Ab.fin hs
 have hs:=Au9 a hs;exact JO (c:=c) (R:=R) (t:=t) (e:=e) (g:=g) (k:=k) d (by exact Ab.fin hs)
theorem My(h:Ab W w (Ff b n::M)):∃(sb:Nat) (r:Int) (l:List Nat),l.length=5/\Ab W w (blk b (pq sb 0::.i r::l.map λq=>pq q 0)::GZ sb::TR l n::M):=by
 obtain⟨⟨⟨sb,r⟩,l⟩,h⟩:=h.openE;obtain⟨a,h⟩:=h.openA;exact⟨sb,r,l,a,h.openL⟩
theorem Mz{sb:Nat}{r:Int}{l:List Nat}(a:l.length=5)(h:Ab W w (blk b (pq sb 0::.i r::l.map λq=>pq q 0)::GZ sb::TR l n::M)):Ab W w (Ff b n::M):=
 Ab.shutE ((sb,r),l) (Ab.shutA a<|Ab.shutL (Ps:=[_,_,_]) h)
end
end Go.Hb
namespace Go.Proofs.YtjipofkjmmpjdaaGreat
open Go.Hb Go.IntWalk
section
variable{W w:World}{L M:List HP}{b n:Nat}{key:BA}
theorem Adq{l:List Value}{i:Nat}{x:Value}(h:l[i]? = some x):l.set i x=l:=by
 apply List.ext_getElem?;intro j
 by_cases a:i=j
 ·subst a;rw[List.getElem?_set_self (List.getElem?_eq_some_iff.1 h).1,h]
 ·rw[getElem?_set_ne a]
theorem J7{a b:Int}(h:0<=a):0<=Ft a b:=by unfold Ft;split <;> omega
theorem Apb{i:Nat}{cs:List Value}{x y z:Int}{k c:Bool}(hs:Ab W w (blk b cs::L))(l:cs[i]? = some (.i x))(m:cs[i+1]? = some (.i y))(n:cs[i+2]? = some (.i z))(s:0<=x)(o:0<=y)(p:0<=z) :
  Ai PR 125 #[pq b i,.b k,.b c] w λe w'=>e = .returned (.tuple #[])/\∃a y' z':Int,(0<=a/\0<=y'/\0<=z')/\Ab W w' (blk b (((cs.set i<|.i a).set (i+1)<|.i y').set (i+2)<|.i z')::L):=by
 refine(cw ⟨mixed,func125,rfl⟩ Aqn (Q:=λv w'=>v = .tuple #[]/\∃a y' z':Int,(0<=a/\0<=y'/\0<=z')/\Ab W w' (blk b (((cs.set i<|.i a).set (i+1)<|.i y').set (i+2)<|.i z')::L)) ?_).mono λe w' ⟨v,f,t,h⟩=>⟨by rw[f,t],h⟩;have u:=(List.getElem?_eq_some_iff.1 l).1;have A:=(List.getElem?_eq_some_iff.1 m).1;have B:=(List.getElem?_eq_some_iff.1 n).1;refine Aa (Af hs ?_ (hc:=l));refine Ao (J6 hs (by omega)<|by omega) λe w ⟨f,hs⟩=>⟨_,f,?_⟩;refine Aa (Jf 0 hs rfl u λw hs=>?_);have hs:Ab W w (blk b (cs.set i<|.i<|Ft x 1099511627776)::L):=hs
 have g:0<=Ft x 1099511627776:=J7 s;generalize Ft x 1099511627776=a at *;have q:(cs.set i<|.i a)[i+1]? = some (.i y):=by rw[getElem?_set_ne<|by omega];exact m
 have d:∀(w:World)(y':Int),0<=y'->Ab W w (blk b ((cs.set i<|.i a).set (i+1)<|.i y')::L)->WR AU (λv w'=>v = .tuple #[]/\∃a y' z':Int,(0<=a/\0<=y'/\0<=z')/\Ab W w' (blk b (((cs.set i<|.i a).set (i+1)<|.i y').set (i+2)<|.i z')::L)) (some ⟨b,i,none⟩) c w:=by
  clear hs;intro w y' j hs;refine jw Zu ?_;have r:((cs.set i<|.i a).set (i+1)<|.i y')[i+2]? = some (.i z):=by rw[getElem?_set_ne<|by omega,getElem?_set_ne<|by omega];exact n
  refine As (λ_=>?_) (λ_=>?_)
  ·refine Aa (Af hs ?_ (hc:=r));refine Ao (J6 hs (by omega)<|by omega) λe w ⟨f,hs⟩=>⟨_,f,?_⟩;refine Aa (Jf 0 hs rfl (by simp;omega) λw hs=>?_)
   exact⟨rfl,a,y',_,⟨g,j,J7 p⟩,hs⟩
  ·refine⟨rfl,a,y',z,⟨g,j,p⟩,?_⟩;rw[show((cs.set i<|.i a).set (i+1)<|.i y').set (i+2) (.i z)=(cs.set i<|.i a).set (i+1) (.i y') from Adq r];exact hs
 refine As (λ_=>?_) (λ_=>?_)
 ·refine Aa (Af hs ?_ (hc:=q));refine Ao (J6 hs (by omega)<|by omega) λe w ⟨f,hs⟩=>⟨_,f,?_⟩;refine Aa (Jf 0 hs rfl (by simp;omega) λw hs=>?_)
  exact d w _ (J7 o) hs
 ·refine d w y o ?_;rw[show(cs.set i<|.i a).set (i+1) (.i y)=cs.set i (.i a) from Adq q];exact hs
theorem Baw(hs:Ab W w L){r:Int}:Bh PR 73 #[.i r] w λv w'=>∃b,v=pq b 0/\Ab W w' (GZ b::L):=by
 refine cw ⟨mixed,func73,rfl⟩ A3z ?_;refine Ao (Da hs _ _ _) λe w ⟨a,hs⟩=>⟨_,a,?_⟩;refine Ak hs λb w hs=>⟨b,rfl,MD ⟨Eo r<|by omega,by omega,by omega⟩ hs⟩
theorem A50{c:Int}(hs:Ab W w (GZ b::M)):Bh PR 106 #[pq b 0,.i c] w λv w'=>∃x:Int,v = .i x/\Ab W w' (GZ b::M):=by
 refine cw ⟨mixed,func106,rfl⟩ Aqa ?_;refine Ad rfl ?_;obtain⟨r,a,t,d,hs⟩:=Adv hs;refine An [blk b [.i r,.i a,.i t]] hs λw hs=>?_;refine Aa (Au ?_);refine Ao (Da hs _ _ _) λe w ⟨e,hs⟩=>⟨_,e,Ag hs ?_⟩;exact A1 (by decide) ⟨_,rfl,MD d hs⟩
theorem Aw8(hz:key.size<64)(hs:Ab W w (GZ b::M)):Bh PR 87 #[pq b 0,.s key] w λv w'=>∃x:Bool,v = .b x/\Ab W w' (GZ b::M):=by
 refine cw ⟨mixed,func87,rfl⟩ A4d ?_;refine Ad rfl ?_;obtain⟨r,a,t,hp,hs⟩:=Adv hs;refine Aa (Af hs ?_);refine Ao (J6 hs (by omega) (by omega)) λe w ⟨he,hs⟩=>⟨_,he,?_⟩;refine Aa (A4 hs λw hs=>?_);refine An [blk b [.i r,.i (Ft a 1099511627776),.i t]] hs λw hs=>?_;refine Aa (Au ?_);refine Ao (Hl hs (by omega)) λe w ⟨he,hs⟩=>⟨_,he,Ag hs ?_⟩;have hS:∀{x y:Int},Bh PR 123 #[.int .u64 x,.i y] w λv w'=>∃z:Bool,v = .b z/\Ab W w' (blk b [.i r,.i (Ft a 1099511627776),.i t]::M):=by
  intro x y;refine cw ⟨mixed,func123,rfl⟩ Aql ?_;exact A1 (by decide) ⟨_,rfl,hs⟩
 clear hs;refine Ah hS λv w ⟨x,hv,hs⟩=>⟨_,hv,?_⟩;have hp2:0<=Ft a 1099511627776:=J7 hp.2.1;refine As (λ_=>⟨_,rfl,MD ⟨hp.1,hp2,hp.2.2⟩ hs⟩) (λ_=>?_);refine Aa (Af hs ?_);refine Ao (J6 hs (by omega) (by omega)) λe w ⟨he,hs⟩=>⟨_,he,?_⟩;refine Aa (A4 hs λw hs=>?_);exact⟨_,rfl,MD ⟨hp.1,hp2,J7 hp.2.2⟩ hs⟩
theorem Tn{k r:Int}(d:0<=k/\k<5)(hs:Ab W w L):Bh PR 107 #[.i k,.i r] w λv w'=>∃b,v = .tuple #[pq b 0,.i 0]/\Ab W w' (BY b 0::L):=by
 refine cw ⟨mixed,func107,rfl⟩ Aqb ?_;refine WI hs (λh=>by omega) (λ_ _ t e w hs=>?_);refine Ad rfl ?_;refine Ao (A9r hs) λf w ⟨g,a,hs⟩=>⟨_,a,?_⟩;have hs:Ab W w (YL g 0::eg t e (Ba r) []::L):=Ab.shutE (Aen r,[]) hs;refine Ak hs λb w hs=>⟨b,rfl,JO (t:=t) (e:=e) (g:=g) (k:=k) (c:=Ba r) (R:=[]) (x0:=0) (x1:=0) (x2:=0) (x3:=0) (x4:=0) (x5:=0) ⟨by decide,by decide,by decide,by decide,by decide,by decide⟩<|by exact Ab.fin hs⟩
theorem Au8(c:n<600000000)(d:key.size<64)(hs:Ab W w (YL b n::M)):Bh PR 124 #[pq b 0,.s key] w λv w'=>∃x:Bool,v = .b x/\Ab W w' (YL b n::M):=by
 obtain⟨⟨r,ks⟩,hs⟩:=hs.openE;exact Ai.mono (XW (k:=key) hs (by omega)<|by omega) λe w ⟨a,hs⟩=>⟨_,a,_,rfl,Ab.shutE (r,_) hs⟩
theorem A4r(c:n<600000000)(d:key.size<64)(hs:Ab W w (YL b n::M)):Bh PR 126 #[pq b 0,.s key] w λv w'=>∃(x:BA) (y:Bool),v = .tuple #[.s x,.b y]/\Ab W w' (YL b (n+1)::M):=by
 obtain⟨⟨r,ks⟩,hs⟩:=hs.openE;exact Ai.mono (A9q (k:=key) hs (by omega)<|by omega) λe w ⟨a,hs⟩=>⟨_,a,_,_,rfl,Ab.shutE (r,_) hs⟩
theorem Iu(K:n<600000000)(L:key.size<64)(hs:Ab W w (BY b n::M)):Bh PR 88 #[pq b 0,.s key] w λv w'=>∃x:Bool,v = .b x/\Ab W w' (BY b (n+1)::M):=by
 refine cw ⟨mixed,func88,rfl⟩ A4e ?_;refine Ad rfl ?_;obtain⟨k,t,e,g,c,R,x0,x1,x2,x3,x4,x5,h,hs⟩:=Te hs;refine Aa (Fx hs ?_);have hs:Ab W w (eg t e c R::cW b k t e g x0 x1 x2 x3 x4 x5::YL g n::M):=hs.perm (List.Perm.swap _ _ _);have z:=Ap1 hs;refine HX L hs λf P=>AM P λv w ⟨A,l,G,S,j,N,hs⟩=>⟨_,_,j,?_⟩;have B:=N.acc.le1;have m:∀x∈G,x.size<64:=λx Q=>z.small x (N.acc.sub x Q);have hs:Ab W w (cW b k t e g x0 x1 x2 x3 x4 x5::eg t e c S::YL g n::recs Ap.str l G::M):=by exact Ab.fin hs
 have a:=BS (s:=l) (E:=Ap.str) (rows:=G) hs;have O:∀(w:World)(d:Bool),Ab W w (cW b k t e g x0 x1 x2 x3 x4 x5::eg t e c S::YL g n::recs Ap.str l G::M)->Afz AU (λv w'=>∃x:Bool,v = .b x/\Ab W w' (BY b (n+1)::M)) (some ⟨b,0,none⟩) A l d w:=by
  clear hs;intro w d hs;refine jw Af0 ?_;refine Aa ?_;refine Av (Apb (i:=0+3) hs rfl rfl rfl h.h0 h.h1 h.h2) λT w ⟨C,q,r,u,D,hs⟩=>⟨C,?_⟩;have hs:Ab W w (cW b k t e g q r u x3 x4 x5::eg t e c S::YL g n::recs Ap.str l G::M):=hs;refine Aa ?_;refine Av (Apb (i:=0+6) hs rfl rfl rfl h.h3 h.h4 h.h5) λT w ⟨C,F,H,I,f,hs⟩=>⟨C,?_⟩;have hs:Ab W w (cW b k t e g q r u F H I::eg t e c S::YL g n::recs Ap.str l G::M):=hs;have o:P6 q r u F H I:=⟨D.1,D.2.1,D.2.2,f.1,f.2.1,f.2.2⟩;have p:G=[]\/∃x,G=[x]:=by
   cases G with
   | nil=>exact .inl rfl
   | cons x t=>exact .inr ⟨x,by cases t with
    | nil=>rfl
    | cons y t=>simp at B⟩
  rcases p with p|⟨x,p⟩
  ·rw[p] at hs a;refine AP 1 ?_;rw[KR];refine Ad (decide_eq_false<|by simp at a;omega) ?_
   refine jw RA ?_;exact⟨_,rfl,GU (le_succ n)<|JO (t:=t) (e:=e) (g:=g) (k:=k) (c:=c) (R:=S) o<|by exact Ab.fin hs⟩
  ·rw[p] at hs a m;have U:l.n=1:=by simpa using a
   refine AP 2 ?_;rw[KR];refine Am (decide_eq_true<|by omega) ?_;refine CO (s:=l) (E:=Ap.str) (rows:=[x]) hs λV X J=>?_;refine Dh (s:=l) (E:=Ap.str) (rows:=[x]) J hs ?_;refine Aa (Af hs ?_);have hs:Ab W w (YL g n::cW b k t e g q r u F H I::eg t e c S::recs Ap.str l [x]::M):=by exact Ab.fin hs
   refine AM (A4r (key:=x) K (m x<|.head _) hs) λv w ⟨Y,Z,j,hs⟩=>⟨_,_,j,?_⟩;rw[KR];refine Ad (decide_eq_false ?_) ?_
   ·rw[show wrap .i64 ((0:Int)+1)=1 from rfl];omega
   refine jw RA ?_;exact⟨_,rfl,JO (t:=t) (e:=e) (g:=g) (k:=k) (c:=c) (R:=S) o<|by exact Ab.fin hs⟩
 refine As (λ_=>?_) (λ_=>O w false hs);refine Aa (Af hs ?_);have hs:Ab W w (YL g n::cW b k t e g x0 x1 x2 x3 x4 x5::eg t e c S::recs Ap.str l G::M):=by exact Ab.fin hs
 refine Ah (Au8 K L hs) λv w ⟨x,j,hs⟩=>⟨_,j,O w x<|by exact Ab.fin hs⟩
theorem JQ(hs:Ab W w (BY b n::M)):Bh PR 103 #[pq b 0] w λv w'=>∃x y z:Int,v = .agg #[.i x,.i y,.i z]/\Ab W w' (BY b n::M):=by
 refine cw ⟨mixed,func103,rfl⟩ Ap7 ?_;refine Ak hs λb1 w hs=>?_;refine Ad rfl ?_;have hs:Ab W w (BY b n::blk b1 [.i (0:Int),.i (0:Int),.i (0:Int)]::M):=hs.perm (List.Perm.swap _ _ _);obtain⟨k,t,e,g,c,R,x0,x1,x2,x3,x4,x5,a,hs⟩:=Te hs;refine Aa (Af hs<|Af hs<|Af hs ?_);refine Ak hs λb2 w hs=>?_
 iterate 3 refine A4 hs λw hs=>?_
 refine Aa ?_
 iterate 3 refine A4 hs λw hs=>?_
 iterate 3 refine Af hs ?_
 iterate 3 refine A4 hs λw hs=>?_
 iterate 3 refine Af hs ?_
 exact⟨_,_,_,rfl,JO (t:=t) (e:=e) (g:=g) (k:=k) (c:=c) (R:=R) (x0:=0) (x1:=0) (x2:=0) ⟨by decide,by decide,by decide,a.h3,a.h4,a.h5⟩<|by exact Ab.fin hs⟩
theorem VZ(t:n<600000000)(q:key.size<64)(hs:Ab W w (Ff b n::M)):Bh PR 52 #[pq b 0,.s key] w λv w'=>∃x:Bool,v = .b x/\Ab W w' (Ff b (n+1)::M):=by
 refine cw ⟨mixed,func52,rfl⟩ A3i ?_;refine Ad rfl ?_;obtain⟨sb,r,l,u,hs⟩:=My hs;obtain⟨f,g,h,j,k,rfl⟩:∃a b c d e,l=[a,b,c,d,e]:=by
  match l,u with
  | [a,b,c,d,e],_=>exact⟨a,b,c,d,e,rfl⟩
 have hs:=(show Ab W w (TR [f,g,h,j,k] n::blk b [pq sb 0,.i r,pq f 0,pq g 0,pq h 0,pq j 0,pq k 0]::GZ sb::M) by exact Ab.fin hs).openL;have hs:Ab W w (BY f n::BY g n::BY h n::BY j n::BY k n::blk b [pq sb 0,.i r,pq f 0,pq g 0,pq h 0,pq j 0,pq k 0]::GZ sb::M):=hs;have p:∀w m,n<=m->Ab W w (BY f m::BY g m::BY h m::BY j m::BY k m::blk b [pq sb 0,.i r,pq f 0,pq g 0,pq h 0,pq j 0,pq k 0]::GZ sb::M)->Ab W w (Ff b m::M):=λw m _ hs=>by
  have hs:=Ab.shutL (Ps:=[BY f m,BY g m,BY h m,BY j m,BY k m]) hs;have hs:Ab W w (TR [f,g,h,j,k] m::blk b [pq sb 0,.i r,pq f 0,pq g 0,pq h 0,pq j 0,pq k 0]::GZ sb::M):=hs;exact Mz (l:=[f,g,h,j,k]) (r:=r) (sb:=sb) rfl (by exact Ab.fin hs)
 refine Aa (Af hs ?_);have hs:Ab W w (GZ sb::BY f n::BY g n::BY h n::BY j n::BY k n::blk b [pq sb 0,.i r,pq f 0,pq g 0,pq h 0,pq j 0,pq k 0]::M):=by exact Ab.fin hs
 refine Ah (Aw8 q hs) λv w ⟨x,o,hs⟩=>⟨_,o,?_⟩;have hs:Ab W w (BY f n::BY g n::BY h n::BY j n::BY k n::blk b [pq sb 0,.i r,pq f 0,pq g 0,pq h 0,pq j 0,pq k 0]::GZ sb::M):=by exact Ab.fin hs
 refine As (λ_=>⟨_,rfl,p w (n+1) (le_succ n) ?_⟩) (λ_=>?_)
 ·have hs:=GU (le_succ n) hs;have hs:=GU (le_succ n) (show Ab W w (BY g n::BY h n::BY j n::BY k n::BY f (n+1)::blk b [pq sb 0,.i r,pq f 0,pq g 0,pq h 0,pq j 0,pq k 0]::GZ sb::M) by exact Ab.fin hs);have hs:=GU (le_succ n) (show Ab W w (BY h n::BY j n::BY k n::BY f (n+1)::BY g (n+1)::blk b [pq sb 0,.i r,pq f 0,pq g 0,pq h 0,pq j 0,pq k 0]::GZ sb::M) by exact Ab.fin hs)
  have hs:=GU (le_succ n) (show Ab W w (BY j n::BY k n::BY f (n+1)::BY g (n+1)::BY h (n+1)::blk b [pq sb 0,.i r,pq f 0,pq g 0,pq h 0,pq j 0,pq k 0]::GZ sb::M) by exact Ab.fin hs);have hs:=GU (le_succ n) (show Ab W w (BY k n::BY f (n+1)::BY g (n+1)::BY h (n+1)::BY j (n+1)::blk b [pq sb 0,.i r,pq f 0,pq g 0,pq h 0,pq j 0,pq k 0]::GZ sb::M) by exact Ab.fin hs)
  exact Ab.fin hs
 refine jw Afi ?_;refine Aa ?_
 iterate 5 refine Af hs ?_
 refine AP 6 ?_;rw[F6];refine Am (by decide) (A1 (by decide) ⟨some ⟨f,0,none⟩,rfl,rfl,?_⟩);have hs:Ab W w (BY f n::BY g n::BY h n::BY j n::BY k n::blk b [pq sb 0,.i r,pq f 0,pq g 0,pq h 0,pq j 0,pq k 0]::GZ sb::M):=by exact Ab.fin hs
 refine Ah (Iu t q hs) λv w ⟨x,o,hs⟩=>⟨_,o,?_⟩;rw[show wrap .i64 ((0:Int)+1)=1 from rfl];rw[F6];refine Am (by decide) (A1 (by decide) ⟨some ⟨g,0,none⟩,rfl,rfl,?_⟩);have hs:Ab W w (BY g n::BY f (n+1)::BY h n::BY j n::BY k n::blk b [pq sb 0,.i r,pq f 0,pq g 0,pq h 0,pq j 0,pq k 0]::GZ sb::M):=by exact Ab.fin hs
 refine Ah (Iu t q hs) λv w ⟨x,o,hs⟩=>⟨_,o,?_⟩;rw[show wrap .i64 ((1:Int)+1)=2 from rfl];rw[F6];refine Am (by decide) (A1 (by decide) ⟨some ⟨h,0,none⟩,rfl,rfl,?_⟩);have hs:Ab W w (BY h n::BY f (n+1)::BY g (n+1)::BY j n::BY k n::blk b [pq sb 0,.i r,pq f 0,pq g 0,pq h 0,pq j 0,pq k 0]::GZ sb::M):=by exact Ab.fin hs
 refine Ah (Iu t q hs) λv w ⟨x,o,hs⟩=>⟨_,o,?_⟩;rw[show wrap .i64 ((2:Int)+1)=3 from rfl];rw[F6];refine Am (by decide) (A1 (by decide) ⟨some ⟨j,0,none⟩,rfl,rfl,?_⟩);have hs:Ab W w (BY j n::BY f (n+1)::BY g (n+1)::BY h (n+1)::BY k n::blk b [pq sb 0,.i r,pq f 0,pq g 0,pq h 0,pq j 0,pq k 0]::GZ sb::M):=by exact Ab.fin hs
 refine Ah (Iu t q hs) λv w ⟨x,o,hs⟩=>⟨_,o,?_⟩;rw[show wrap .i64 ((3:Int)+1)=4 from rfl];rw[F6];refine Am (by decide) (A1 (by decide) ⟨some ⟨k,0,none⟩,rfl,rfl,?_⟩);have hs:Ab W w (BY k n::BY f (n+1)::BY g (n+1)::BY h (n+1)::BY j (n+1)::blk b [pq sb 0,.i r,pq f 0,pq g 0,pq h 0,pq j 0,pq k 0]::GZ sb::M):=by exact Ab.fin hs
 refine Ah (Iu t q hs) λv w ⟨x,o,hs⟩=>⟨_,o,?_⟩;rw[show wrap .i64 ((4:Int)+1)=5 from rfl];rw[F6];refine Ad (by decide) ?_;refine jw Afj ?_;exact⟨_,rfl,p w (n+1) (le_succ n)<|by exact Ab.fin hs⟩
theorem Awg(hs:Ab W w (Ff b n::M)):Bh PR 59 #[pq b 0] w λv w'=>∃K L N O P all:Int,v = .tuple #[.agg #[.i K,.i L,.i N,.i O,.i P],.i all]/\Ab W w' (Ff b n::M):=by
 refine cw ⟨mixed,func59,rfl⟩ A3q ?_;refine Ak hs λq w hs=>?_;refine Ad rfl ?_;have hs:Ab W w (Ff b n::blk q [.i (0:Int),.i (0:Int),.i (0:Int),.i (0:Int),.i (0:Int)]::M):=hs.perm (List.Perm.swap _ _ _);obtain⟨sb,r,l,Q,hs⟩:=My hs;obtain⟨f,g,h,j,k,rfl⟩:∃a b c d e,l=[a,b,c,d,e]:=by
  match l,Q with
  | [a,b,c,d,e],_=>exact⟨a,b,c,d,e,rfl⟩
 have hs:=(show Ab W w (TR [f,g,h,j,k] n::blk q [.i (0:Int),.i (0:Int),.i (0:Int),.i (0:Int),.i (0:Int)]::blk b [pq sb 0,.i r,pq f 0,pq g 0,pq h 0,pq j 0,pq k 0]::GZ sb::M) by exact Ab.fin hs).openL;have hs:Ab W w (BY f n::BY g n::BY h n::BY j n::BY k n::blk q [.i (0:Int),.i (0:Int),.i (0:Int),.i (0:Int),.i (0:Int)]::blk b [pq sb 0,.i r,pq f 0,pq g 0,pq h 0,pq j 0,pq k 0]::GZ sb::M):=hs
 refine Aa ?_
 iterate 5 refine Af hs ?_
 refine AP 6 ?_;rw[F7];refine Am (by decide) (A1 (by decide) ⟨some ⟨f,0,none⟩,rfl,rfl,?_⟩);have hs:Ab W w (BY f n::BY g n::BY h n::BY j n::BY k n::blk q [.i (0:Int),.i (0:Int),.i (0:Int),.i (0:Int),.i (0:Int)]::blk b [pq sb 0,.i r,pq f 0,pq g 0,pq h 0,pq j 0,pq k 0]::GZ sb::M):=by exact Ab.fin hs
 refine Ai.mono (JQ hs) λB w ⟨v,m,E,t,s,p,hs⟩=>⟨E,t,s,by rw[m,p],?_⟩;refine Ak hs λnb w hs=>?_;refine A4 hs λw hs=>A4 hs λw hs=>A4 hs λw hs=>?_;refine An [blk nb [.i E,.i t,.i s]] hs λw hs=>?_;refine Au (Au<|A1 (by decide) ?_);refine A4 (o:=0) hs λw hs=>Ag hs ?_;rw[show wrap .i64 ((0:Int)+1)=1 from rfl];rw[F7];refine Am (by decide) (A1 (by decide) ⟨some ⟨g,0,none⟩,rfl,rfl,?_⟩);have hs:Ab W w (BY g n::BY f n::BY h n::BY j n::BY k n::blk q [.i s,.i (0:Int),.i (0:Int),.i (0:Int),.i (0:Int)]::blk b [pq sb 0,.i r,pq f 0,pq g 0,pq h 0,pq j 0,pq k 0]::GZ sb::M):=by exact Ab.fin hs
 refine Ai.mono (JQ hs) λB w ⟨v,m,F,u,x,p,hs⟩=>⟨F,u,x,by rw[m,p],?_⟩;refine Ak hs λnb w hs=>?_;refine A4 hs λw hs=>A4 hs λw hs=>A4 hs λw hs=>?_;refine An [blk nb [.i F,.i u,.i x]] hs λw hs=>?_;refine Au (Au<|A1 (by decide) ?_);refine A4 (o:=1) hs λw hs=>Ag hs ?_;rw[show wrap .i64 ((1:Int)+1)=2 from rfl];rw[F7];refine Am (by decide) (A1 (by decide) ⟨some ⟨h,0,none⟩,rfl,rfl,?_⟩);have hs:Ab W w (BY h n::BY f n::BY g n::BY j n::BY k n::blk q [.i s,.i x,.i (0:Int),.i (0:Int),.i (0:Int)]::blk b [pq sb 0,.i r,pq f 0,pq g 0,pq h 0,pq j 0,pq k 0]::GZ sb::M):=by exact Ab.fin hs
 refine Ai.mono (JQ hs) λB w ⟨v,m,G,y,C,p,hs⟩=>⟨G,y,C,by rw[m,p],?_⟩;refine Ak hs λnb w hs=>?_;refine A4 hs λw hs=>A4 hs λw hs=>A4 hs λw hs=>?_;refine An [blk nb [.i G,.i y,.i C]] hs λw hs=>?_;refine Au (Au<|A1 (by decide) ?_);refine A4 (o:=2) hs λw hs=>Ag hs ?_;rw[show wrap .i64 ((2:Int)+1)=3 from rfl];rw[F7];refine Am (by decide) (A1 (by decide) ⟨some ⟨j,0,none⟩,rfl,rfl,?_⟩);have hs:Ab W w (BY j n::BY f n::BY g n::BY h n::BY k n::blk q [.i s,.i x,.i C,.i (0:Int),.i (0:Int)]::blk b [pq sb 0,.i r,pq f 0,pq g 0,pq h 0,pq j 0,pq k 0]::GZ sb::M):=by exact Ab.fin hs
 refine Ai.mono (JQ hs) λB w ⟨v,m,H,z,D,p,hs⟩=>⟨H,z,D,by rw[m,p],?_⟩;refine Ak hs λnb w hs=>?_;refine A4 hs λw hs=>A4 hs λw hs=>A4 hs λw hs=>?_;refine An [blk nb [.i H,.i z,.i D]] hs λw hs=>?_;refine Au (Au<|A1 (by decide) ?_);refine A4 (o:=3) hs λw hs=>Ag hs ?_;rw[show wrap .i64 ((3:Int)+1)=4 from rfl];rw[F7];refine Am (by decide) (A1 (by decide) ⟨some ⟨k,0,none⟩,rfl,rfl,?_⟩);have hs:Ab W w (BY k n::BY f n::BY g n::BY h n::BY j n::blk q [.i s,.i x,.i C,.i D,.i (0:Int)]::blk b [pq sb 0,.i r,pq f 0,pq g 0,pq h 0,pq j 0,pq k 0]::GZ sb::M):=by exact Ab.fin hs
 refine Ai.mono (JQ hs) λB w ⟨v,m,I,A,J,p,hs⟩=>⟨I,A,J,by rw[m,p],?_⟩;refine Ak hs λnb w hs=>?_;refine A4 hs λw hs=>A4 hs λw hs=>A4 hs λw hs=>?_;refine An [blk nb [.i I,.i A,.i J]] hs λw hs=>?_;refine Au (Au<|A1 (by decide) ?_);refine A4 (o:=4) hs λw hs=>Ag hs ?_;rw[show wrap .i64 ((4:Int)+1)=5 from rfl];rw[F7];refine Ad (by decide) ?_;refine jw Afr ?_
 iterate 5 refine Af hs ?_
 iterate 5 refine A4 hs λw hs=>?_
 iterate 5 refine Af hs ?_
 have hs:=Ab.shutL (Ps:=[BY f n,BY g n,BY h n,BY j n,BY k n]) (M:=blk b [pq sb 0,.i r,pq f 0,pq g 0,pq h 0,pq j 0,pq k 0]::GZ sb::M) (by exact Ab.fin hs);have hs:Ab W w (TR [f,g,h,j,k] n::blk b [pq sb 0,.i r,pq f 0,pq g 0,pq h 0,pq j 0,pq k 0]::GZ sb::M):=hs;exact⟨_,_,_,_,_,_,rfl,Mz (l:=[f,g,h,j,k]) (r:=r) (sb:=sb) rfl<|by exact Ab.fin hs⟩
theorem Aj4{sb:Nat}{r c:Int}{vs:List Value}(s:vs.length=5)(hs:Ab W w (blk b (pq sb 0::.i r::vs)::GZ sb::M)):Bh PR 64 #[pq b 0,.i c] w λv w'=>v = .tuple #[]/\Ab W w' (Ff b 0::M):=by
 refine cw ⟨mixed,func64,rfl⟩ A3v ?_;refine Ad rfl ?_;obtain⟨u,t,q,n,m,rfl⟩:∃a b c d e,vs=[a,b,c,d,e]:=by
  match vs,s with
  | [a,b,c,d,e],_=>exact⟨a,b,c,d,e,rfl⟩
 refine Aa (Af hs ?_);have hs:Ab W w (GZ sb::blk b [pq sb 0,.i r,u,t,q,n,m]::M):=hs.perm (List.Perm.swap _ _ _);refine Ah (A50 hs) λv w ⟨x,g,hs⟩=>⟨_,g,?_⟩;refine Aa (A4 hs λw hs=>?_);refine AP 6 ?_;rw[F8];refine Am (by decide) ?_;have hs:Ab W w (blk b [pq sb 0,.i x,u,t,q,n,m]::GZ sb::M):=by exact Ab.fin hs
 refine AI hs λw hs=>Aa (Aa<|Af hs ?_);refine AM (Tn (by decide) hs) λv w ⟨f,g,hs⟩=>⟨_,_,g,A1 (by decide) ?_⟩;refine A4 (o:=2) hs λw hs=>?_;rw[show wrap .i64 ((0:Int)+1)=1 from rfl];rw[F8];refine Am (by decide) ?_;have hs:Ab W w (blk b [pq sb 0,.i x,pq f 0,t,q,n,m]::BY f 0::GZ sb::M):=by exact Ab.fin hs
 refine AI hs λw hs=>Aa (Aa<|Af hs ?_);refine AM (Tn (by decide) hs) λv w ⟨h,g,hs⟩=>⟨_,_,g,A1 (by decide) ?_⟩;refine A4 (o:=3) hs λw hs=>?_;rw[show wrap .i64 ((1:Int)+1)=2 from rfl];rw[F8];refine Am (by decide) ?_;have hs:Ab W w (blk b [pq sb 0,.i x,pq f 0,pq h 0,q,n,m]::BY f 0::BY h 0::GZ sb::M):=by exact Ab.fin hs
 refine AI hs λw hs=>Aa (Aa<|Af hs ?_);refine AM (Tn (by decide) hs) λv w ⟨j,g,hs⟩=>⟨_,_,g,A1 (by decide) ?_⟩;refine A4 (o:=4) hs λw hs=>?_;rw[show wrap .i64 ((2:Int)+1)=3 from rfl];rw[F8];refine Am (by decide) ?_;have hs:Ab W w (blk b [pq sb 0,.i x,pq f 0,pq h 0,pq j 0,n,m]::BY f 0::BY h 0::BY j 0::GZ sb::M):=by exact Ab.fin hs
 refine AI hs λw hs=>Aa (Aa<|Af hs ?_);refine AM (Tn (by decide) hs) λv w ⟨k,g,hs⟩=>⟨_,_,g,A1 (by decide) ?_⟩;refine A4 (o:=5) hs λw hs=>?_;rw[show wrap .i64 ((3:Int)+1)=4 from rfl];rw[F8];refine Am (by decide) ?_;have hs:Ab W w (blk b [pq sb 0,.i x,pq f 0,pq h 0,pq j 0,pq k 0,m]::BY f 0::BY h 0::BY j 0::BY k 0::GZ sb::M):=by exact Ab.fin hs
 refine AI hs λw hs=>Aa (Aa<|Af hs ?_);refine AM (Tn (by decide) hs) λv w ⟨p,g,hs⟩=>⟨_,_,g,A1 (by decide) ?_⟩;refine A4 (o:=6) hs λw hs=>?_;rw[show wrap .i64 ((4:Int)+1)=5 from rfl];rw[F8];refine Ad (by decide) ?_;have hs:=Ab.shutL (Ps:=[BY f 0,BY h 0,BY j 0,BY k 0,BY p 0]) (M:=blk b [pq sb 0,.i x,pq f 0,pq h 0,pq j 0,pq k 0,pq p 0]::GZ sb::M) (by exact Ab.fin hs);have hs:Ab W w (TR [f,h,j,k,p] 0::blk b [pq sb 0,.i x,pq f 0,pq h 0,pq j 0,pq k 0,pq p 0]::GZ sb::M):=hs
 exact⟨rfl,Mz (l:=[f,h,j,k,p]) (r:=x) (sb:=sb) rfl<|by exact Ab.fin hs⟩
theorem Anh{c:Int}(hs:Ab W w (Ff b n::M)):Bh PR 64 #[pq b 0,.i c] w λv w'=>v = .tuple #[]/\Ab W w' (Ff b 0::M):=by
 obtain⟨sb,r,l,a,hs⟩:=My hs;exact Aj4 (r:=r) (vs:=l.map λq=>pq q 0) (by simpa using a) (by exact Ab.fin hs)
theorem Bab{x c:Int}(hs:Ab W w L):Bh PR 46 #[.i x,.i c] w λv w'=>∃b,v=pq b 0/\Ab W w' (Ff b 0::L):=by
 refine cw ⟨mixed,func46,rfl⟩ A3c ?_;refine Ah (Baw hs) λv w ⟨sb,a,hs⟩=>⟨_,a,?_⟩;refine Ak hs λb w hs=>?_;refine Bf (Aj4 (r:=0) (vs:=[.p none,.p none,.p none,.p none,.p none]) rfl hs) λv w ⟨a,hs⟩=>⟨a,b,rfl,hs⟩
end
end Go.Proofs.YtjipofkjmmpjdaaGreat
namespace Go.Proofs.YtjipofkjmmpjdaaGreat
open Go.Hb
section
variable(jn:Jn)(Q:VW)
abbrev Oz:FuncId:=170
abbrev J5:FuncId:=183
abbrev Ee:FuncId:=201
def HG:BA:=⟨#[0,1,2,2,3,3,3,3,4,4,4,4,4,4,4,4,5,5,5,5,5,5,5,5,5,5,5,5,5,5,5,5,6,6,6,6,6,6,6,6,6,6,6,6,6,6,6,6,6,6,6,6,6,6,6,6,6,6,6,6,6,6,6,6,7,7,7,7,7,7,7,7,7,7,7,7,7,7,7,7,7,7,7,7,7,7,7,7,7,7,7,7,7,7,7,7,7,7,7,7,7,7,7,7,7,7,7,7,7,7,7,7,7,7,7,7,7,7,7,7,7,7,7,7,7,7,7,7,8,8,8,8,8,8,8,8,8,8,8,8,8,8,8,8,8,8,8,8,8,8,8,8,8,8,8,8,8,8,8,8,8,8,8,8,8,8,8,8,8,8,8,8,8,8,8,8,8,8,8,8,8,8,8,8,8,8,8,8,8,8,8,8,8,8,8,8,8,8,8,8,8,8,8,8,8,8,8,8,8,8,8,8,8,8,8,8,8,8,8,8,8,8,8,8,8,8,8,8,8,8,8,8,8,8,8,8,8,8,8,8,8,8,8,8,8,8,8,8,8,8,8,8,8,8,8,8]⟩
def A6:KP:=⟨[(8,[0,1,2]),(12,[0,1,2]),(37,[2,8,9,10,11,13,14,15,16]),(38,[2,8,9,10,11,13,14,15,16]),(44,[2,8,9,10,11,13,14,15]),(51,[2,8,9,10,14,15,16,17,18]),(52,[2,8,9,10,14,15,16,17,18]),(58,[2,8,14,15,17,18])],[(6,[0,1,2,3,4,5,6,7])]⟩
def Hv(e:Int)(f:Int)(b:Int)(c:Int)(a:Int)(d:Int):WP:=jn 58 (λg=>AD PR A6 jn (Gg (JT 18 [true])<|AC f170) (Bg PR f170 Q) A8 (Bg PR f170 Q) g) (us 2 ((.int .u64 e)::us 5 ((.int .u64 f)::us 5 ((.int .u64 b)::(.int .u64 c)::us 1 ((.int .u64 a)::(.int .u64 d)::us 116 [])))))
def Hu(h:Nat)(i:Int)(j:Int)(e:Int)(c:Int)(d:Int)(f:Int)(a:Int)(b:Int)(g:Int):WP:=jn 52 (λk=>AD PR A6 jn (Gg (JT 18 [false,false,false,true])<|AC f170) (JG PR A6 jn (Gg (JT 18 [false,false,false])<|AC f170) (AA 2 (IV PR A6 jn (Gg (JT 18 [true])<|AC f170) (Bg PR f170 Q) A8<|Bg PR f170 Q) A8) (Bg PR f170 Q) h) (AA 2 (IV PR A6 jn (Gg (JT 18 [true])<|AC f170) (Bg PR f170 Q) A8<|Bg PR f170 Q) A8) (Bg PR f170 Q) k) (us 2 ((.int .u64 i)::us 5 ((.int .u64 j)::(.int .u64 e)::(.int .u64 c)::us 3 ((.int .u64 d)::(.int .u64 f)::(.int .u64 a)::(.int .u64 b)::(.int .u64 g)::us 116 []))))
def Hx(h:Nat)(i:Int)(j:Int)(e:Int)(c:Int)(d:Int)(f:Int)(a:Int)(b:Int)(g:Int):WP:=Dl PR A6 jn (Gg (JT 18 [false,false,false])<|AC f170) (AA 2 (IV PR A6 jn (Gg (JT 18 [true])<|AC f170) (Bg PR f170 Q) A8<|Bg PR f170 Q) A8) (Bg PR f170 Q) h (us 2 ((.int .u64 i)::us 5 ((.int .u64 j)::(.int .u64 e)::(.int .u64 c)::us 3 ((.int .u64 d)::(.int .u64 f)::(.int .u64 a)::(.int .u64 b)::(.int .u64 g)::us 116 []))))
def Ht(g:Int)(h:Int)(e:Int)(b:Int)(a:Int)(c:Int)(d:Int)(f:Int):WP:=jn 44 (λi=>AD PR A6 jn (Gg (JT 14 [true])<|AC f170) (Bg PR f170 Q) A8 (Bg PR f170 Q) i) (us 2 ((.int .u64 g)::us 5 ((.int .u64 h)::(.int .u64 e)::(.int .u64 b)::(.int .u64 a)::us 1 ((.int .u64 c)::(.int .u64 d)::(.int .u64 f)::us 119 []))))
def Hs(m3:Nat)(h:Int)(i:Int)(f:Int)(c:Int)(a:Int)(d:Int)(e:Int)(g:Int)(b:Int):WP:=jn 38 (λj=>AD PR A6 jn (Gg (JT 14 [false,false,false,true])<|AC f170) (JG PR A6 jn (Gg (JT 14 [false,false,false])<|AC f170) (AA 0 (IV PR A6 jn (Gg (JT 14 [true])<|AC f170) (Bg PR f170 Q) A8<|Bg PR f170 Q) A8) (Bg PR f170 Q) m3) (AA 0 (IV PR A6 jn (Gg (JT 14 [true])<|AC f170) (Bg PR f170 Q) A8<|Bg PR f170 Q) A8) (Bg PR f170 Q) j) (us 2 ((.int .u64 h)::us 5 ((.int .u64 i)::(.int .u64 f)::(.int .u64 c)::(.int .u64 a)::us 1 ((.int .u64 d)::(.int .u64 e)::(.int .u64 g)::(.int .u64 b)::us 118 []))))
def Hw(m3:Nat)(h:Int)(i:Int)(f:Int)(c:Int)(a:Int)(d:Int)(e:Int)(g:Int)(b:Int):WP:=Dl PR A6 jn (Gg (JT 14 [false,false,false])<|AC f170) (AA 0 (IV PR A6 jn (Gg (JT 14 [true])<|AC f170) (Bg PR f170 Q) A8<|Bg PR f170 Q) A8) (Bg PR f170 Q) m3 (us 2 ((.int .u64 h)::us 5 ((.int .u64 i)::(.int .u64 f)::(.int .u64 c)::(.int .u64 a)::us 1 ((.int .u64 d)::(.int .u64 e)::(.int .u64 g)::(.int .u64 b)::us 118 []))))
def OK(a:Int)(b:Int)(c:Int):WP:=jn 12 (λd=>AD PR A6 jn (Gg [true,true,true] (AC f170)) (Bg PR f170 Q) A8 (Bg PR f170 Q) d) ((.int .u64 a)::(.int .u64 b)::(.int .u64 c)::us 132 [])
def OJ(a:Int)(b:Int)(c:Int):WP:=jn 8 (λd=>AD PR A6 jn (Gg [true,true] (AC f170)) (Bg PR f170 Q) A8 (Bg PR f170 Q) d) ((.int .u64 a)::(.int .u64 b)::(.int .u64 c)::us 132 [])
def Acq(a:Int)(b:Int)(c:Int)(Q:VW):WP:=Aw AU PR A6 f170 [.int .u64 a,.int .u64 b,.int .u64 c] Q
def Cr:KP:=⟨[(10,[0,2]),(16,[0,2]),(22,[0,2])],[]⟩
def H1(x0:Int)(a:Int):WP:=jn 22 (λb=>AD PR Cr jn (Gg [true,true,true,true] (AC f183)) (Bg PR f183 Q) A8 (Bg PR f183 Q) b) ((.int .u64 x0)::us 1 ((.i a)::us 22 []))
def H0(x0:Int)(a:Int):WP:=jn 16 (λb=>AD PR Cr jn (Gg [true,true,true] (AC f183)) (Bg PR f183 Q) A8 (Bg PR f183 Q) b) ((.int .u64 x0)::us 1 ((.i a)::us 22 []))
def Hz(x0:Int)(a:Int):WP:=jn 10 (λb=>AD PR Cr jn (Gg [true,true] (AC f183)) (Bg PR f183 Q) A8 (Bg PR f183 Q) b) ((.int .u64 x0)::us 1 ((.i a)::us 22 []))
def Acr(x0:Int)(Q:VW):WP:=Aw AU PR Cr f183 [.int .u64 x0] Q
def Hy(x0:Int)(Q:VW):WP:=Aw AU PR Aca f201 [.int .u64 x0] Q
end
theorem Px(g:Jn)(Q:VW)(f:Int)(e:Int)(b:Int)(d:Int)(a:Int)(c:Int):AD PR A6 g (Gg (JT 18 [true])<|AC f170) (Bg PR f170 Q) A8 (Bg PR f170 Q) (us 2 ((.int .u64 f)::us 5 ((.int .u64 e)::us 5 ((.int .u64 b)::(.int .u64 d)::us 1 ((.int .u64 a)::(.int .u64 c)::us 116 [])))))=(AV ((0:Int)<=e)<|Q<|.tuple #[.int .u64<|wrap .u64<|(wrap .u64<|d*4294967296)+c,.int .u64<|CV .u64 (wrap .u64<|(wrap .u64<|(wrap .u64<|a*4294967296)+b)-(wrap .u64<|c*f)) e]):=by kernel_rfl
theorem Pw(Q:VW)(e:Int)(f:Int)(b:Int)(c:Int)(a:Int)(d:Int):Hv AU Q e f b c a d=AD PR A6 AU (Gg (JT 18 [true])<|AC f170) (Bg PR f170 Q) A8 (Bg PR f170 Q) (us 2 ((.int .u64 e)::us 5 ((.int .u64 f)::us 5 ((.int .u64 b)::(.int .u64 c)::us 1 ((.int .u64 a)::(.int .u64 d)::us 116 []))))):=by kernel_rfl
theorem Pv(h:Jn)(Q:VW)(k:Nat)(i:Int)(j:Int)(d:Int)(e:Int)(c:Int)(f:Int)(a:Int)(b:Int)(g:Int):AD PR A6 h (Gg (JT 18 [false,false,false,true])<|AC f170) (JG PR A6 h (Gg (JT 18 [false,false,false])<|AC f170) (AA 2 (IV PR A6 h (Gg (JT 18 [true])<|AC f170) (Bg PR f170 Q) A8<|Bg PR f170 Q) A8) (Bg PR f170 Q) k) (AA 2 (IV PR A6 h (Gg (JT 18 [true])<|AC f170) (Bg PR f170 Q) A8<|Bg PR f170 Q) A8) (Bg PR f170 Q) (us 2 ((.int .u64 i)::us 5 ((.int .u64 j)::(.int .u64 d)::(.int .u64 e)::us 3 ((.int .u64 c)::(.int .u64 f)::(.int .u64 a)::(.int .u64 b)::(.int .u64 g)::us 116 []))))=(
 Aj (decide<|(wrap .u64<|a+d)>=4294967296) (Hv h Q i j c f b<|wrap .u64<|g-1) (Hx h Q k i j d e c f (wrap .u64<|a+d) b<|wrap .u64<|g-1)):=by kernel_rfl
theorem Pu(Q:VW)(h:Nat)(i:Int)(j:Int)(e:Int)(c:Int)(d:Int)(f:Int)(a:Int)(b:Int)(g:Int):Hu AU Q h i j e c d f a b g=AD PR A6 AU (Gg (JT 18 [false,false,false,true])<|AC f170) (JG PR A6 AU (Gg (JT 18 [false,false,false])<|AC f170) (AA 2 (IV PR A6 AU (Gg (JT 18 [true])<|AC f170) (Bg PR f170 Q) A8<|Bg PR f170 Q) A8) (Bg PR f170 Q) h) (AA 2 (IV PR A6 AU (Gg (JT 18 [true])<|AC f170) (Bg PR f170 Q) A8<|Bg PR f170 Q) A8) (Bg PR f170 Q) (us 2 ((.int .u64 i)::us 5 ((.int .u64 j)::(.int .u64 e)::(.int .u64 c)::us 3 ((.int .u64 d)::(.int .u64 f)::(.int .u64 a)::(.int .u64 b)::(.int .u64 g)::us 116 [])))):=by kernel_rfl
theorem Pz(h:Jn)(Q:VW)(k:Nat)(i:Int)(j:Int)(g:Int)(e:Int)(c:Int)(f:Int)(a:Int)(b:Int)(d:Int):Hx h Q (k+1) i j g e c f a b d=(Aj (decide<|d>=4294967296) (Hu h Q k i j g e c f a b d)<|Aj (decide<|(wrap .u64<|d*e)>(wrap .u64<|(wrap .u64<|4294967296*a)+c)) (Hu h Q k i j g e c f a b d)<|Hv h Q i j c f b d):=by kernel_rfl
theorem Pt(h:Jn)(Q:VW)(g:Int)(i:Int)(c:Int)(e:Int)(a:Int)(b:Int)(f:Int)(d:Int):AD PR A6 h (Gg (JT 14 [true])<|AC f170) (Bg PR f170 Q) A8 (Bg PR f170 Q) (us 2 ((.int .u64 g)::us 5 ((.int .u64 i)::(.int .u64 c)::(.int .u64 e)::(.int .u64 a)::us 1 ((.int .u64 b)::(.int .u64 f)::(.int .u64 d)::us 119 []))))=(AV (c≠0)<|Em λm=>Hx h Q m g i c e f d (wrap .u64<|(wrap .u64<|(wrap .u64<|(wrap .u64<|a*4294967296)+b)-(wrap .u64<|d*g))-(wrap .u64<|(wrap .u64<|tdiv (wrap .u64<|(wrap .u64<|(wrap .u64<|a*4294967296)+b)-(wrap .u64<|d*g)) c)*c)) (wrap .u64<|(wrap .u64<|(wrap .u64<|a*4294967296)+b)-(wrap .u64<|d*g))<|wrap .u64<|tdiv (wrap .u64<|(wrap .u64<|(wrap .u64<|a*4294967296)+b)-(wrap .u64<|d*g)) c):=by kernel_rfl
theorem Pr(Q:VW)(g:Int)(h:Int)(e:Int)(b:Int)(a:Int)(c:Int)(d:Int)(f:Int):Ht AU Q g h e b a c d f=AD PR A6 AU (Gg (JT 14 [true])<|AC f170) (Bg PR f170 Q) A8 (Bg PR f170 Q) (us 2 ((.int .u64 g)::us 5 ((.int .u64 h)::(.int .u64 e)::(.int .u64 b)::(.int .u64 a)::us 1 ((.int .u64 c)::(.int .u64 d)::(.int .u64 f)::us 119 [])))):=by kernel_rfl
theorem Pq(h:Jn)(Q:VW)(m3:Nat)(i:Int)(j:Int)(c:Int)(d:Int)(a:Int)(e:Int)(f:Int)(g:Int)(b:Int):AD PR A6 h (Gg (JT 14 [false,false,false,true])<|AC f170) (JG PR A6 h (Gg (JT 14 [false,false,false])<|AC f170) (AA 0 (IV PR A6 h (Gg (JT 14 [true])<|AC f170) (Bg PR f170 Q) A8<|Bg PR f170 Q) A8) (Bg PR f170 Q) m3) (AA 0 (IV PR A6 h (Gg (JT 14 [true])<|AC f170) (Bg PR f170 Q) A8<|Bg PR f170 Q) A8) (Bg PR f170 Q) (us 2 ((.int .u64 i)::us 5 ((.int .u64 j)::(.int .u64 c)::(.int .u64 d)::(.int .u64 a)::us 1 ((.int .u64 e)::(.int .u64 f)::(.int .u64 g)::(.int .u64 b)::us 118 []))))=(
 Aj (decide<|(wrap .u64<|b+c)>=4294967296) (Ht h Q i j c d a e f<|wrap .u64<|g-1) (Hw h Q m3 i j c d a e f (wrap .u64<|g-1)<|wrap .u64<|b+c)):=by kernel_rfl
theorem Pp(Q:VW)(m3:Nat)(h:Int)(i:Int)(f:Int)(c:Int)(a:Int)(d:Int)(e:Int)(g:Int)(b:Int):Hs AU Q m3 h i f c a d e g b=AD PR A6 AU (Gg (JT 14 [false,false,false,true])<|AC f170) (JG PR A6 AU (Gg (JT 14 [false,false,false])<|AC f170) (AA 0 (IV PR A6 AU (Gg (JT 14 [true])<|AC f170) (Bg PR f170 Q) A8<|Bg PR f170 Q) A8) (Bg PR f170 Q) m3) (AA 0 (IV PR A6 AU (Gg (JT 14 [true])<|AC f170) (Bg PR f170 Q) A8<|Bg PR f170 Q) A8) (Bg PR f170 Q) (us 2 ((.int .u64 h)::us 5 ((.int .u64 i)::(.int .u64 f)::(.int .u64 c)::(.int .u64 a)::us 1 ((.int .u64 d)::(.int .u64 e)::(.int .u64 g)::(.int .u64 b)::us 118 [])))):=by kernel_rfl
theorem Py(h:Jn)(Q:VW)(m3:Nat)(i:Int)(j:Int)(g:Int)(c:Int)(a:Int)(d:Int)(f:Int)(e:Int)(b:Int):Hw h Q (m3+1) i j g c a d f e b=(Aj (decide<|e>=4294967296) (Hs h Q m3 i j g c a d f e b)<|Aj (decide<|(wrap .u64<|e*c)>(wrap .u64<|(wrap .u64<|4294967296*b)+d)) (Hs h Q m3 i j g c a d f e b)<|Ht h Q i j g c a d f e):=by kernel_rfl
theorem Po(e:Jn)(Q:VW)(c:Int)(b:Int)(d:Int):AD PR A6 e (Gg [true,true,true] (AC f170)) (Bg PR f170 Q) A8 (Bg PR f170 Q) ((.int .u64 c)::(.int .u64 b)::(.int .u64 d)::us 132 [])=(Aj (c==0) (A5 λS=>AV (d≠0)<|AV (d≠0)<|Q<|.tuple #[.int .u64<|wrap .u64<|tdiv b d,.int .u64<|tmod b d]) (Bw Ee [.int .u64 d] λa=>AV ((0:Int)<=(wrap .u64 a))<|AV ((0:Int)<=(32:Int))<|AV ((0:Int)<=(wrap .u64 a))<|AV ((0:Int)<=(wrap .u64<|(64:Int)-(wrap .u64 a)))<|AV ((0:Int)<=(wrap .u64 a))<|
 AV ((0:Int)<=(32:Int))<|AV ((CV .u64 (HJ .u64 d<|wrap .u64 a) (32:Int))≠0)<|Em λm=>Hw e Q m (HJ .u64 d<|wrap .u64 a) (wrap .u64 a) (CV .u64 (HJ .u64 d<|wrap .u64 a) 32) (bits .and .u64 (HJ .u64 d<|wrap .u64 a) 4294967295) (bits .or .u64 (HJ .u64 c<|wrap .u64 a)<|CV .u64 b<|wrap .u64<|64-(wrap .u64 a)) (CV .u64 (HJ .u64 b<|wrap .u64 a) 32) (bits .and .u64 (HJ .u64 b<|wrap .u64 a) 4294967295) (wrap .u64<|tdiv (bits .or .u64 (HJ .u64 c<|wrap .u64 a)<|CV .u64 b<|wrap .u64<|64-(wrap .u64 a))<|CV .u64 (HJ .u64 d<|wrap .u64 a) 32)<|wrap .u64<|(bits .or .u64 (HJ .u64 c<|wrap .u64 a)<|CV .u64 b<|wrap .u64<|64-(wrap .u64 a))-(wrap .u64<|(wrap .u64<|tdiv (bits .or .u64 (HJ .u64 c<|wrap .u64 a)<|CV .u64 b<|wrap .u64<|64-(wrap .u64 a))<|CV .u64 (HJ .u64 d<|wrap .u64 a) 32)*(CV .u64 (HJ .u64 d<|wrap .u64 a) 32)))):=by kernel_rfl
theorem Pn(Q:VW)(a:Int)(b:Int)(c:Int):OK AU Q a b c=AD PR A6 AU (Gg [true,true,true] (AC f170)) (Bg PR f170 Q) A8 (Bg PR f170 Q) ((.int .u64 a)::(.int .u64 b)::(.int .u64 c)::us 132 []):=by kernel_rfl
theorem Pm(d:Jn)(Q:VW)(a:Int)(b:Int)(c:Int):AD PR A6 d (Gg [true,true] (AC f170)) (Bg PR f170 Q) A8 (Bg PR f170 Q) ((.int .u64 a)::(.int .u64 b)::(.int .u64 c)::us 132 [])=(Aj (decide<|c<=a) (Cv)<|OK d Q a b c):=by kernel_rfl
theorem Pk(Q:VW)(a:Int)(b:Int)(c:Int):OJ AU Q a b c=AD PR A6 AU (Gg [true,true] (AC f170)) (Bg PR f170 Q) A8 (Bg PR f170 Q) ((.int .u64 a)::(.int .u64 b)::(.int .u64 c)::us 132 []):=by kernel_rfl
theorem Yk(d:Jn)(a:Int)(b:Int)(c:Int)(Q:VW):Aw d PR A6 f170 [.int .u64 a,.int .u64 b,.int .u64 c] Q=(Aj (c==0) (Cv)<|OJ d Q a b c):=by kernel_rfl
theorem Yj(a:Int)(b:Int)(c:Int)(Q:VW):Acq a b c Q=Aw AU PR A6 f170 [.int .u64 a,.int .u64 b,.int .u64 c] Q:=rfl
theorem Sw{a:Int}{b:Int}{c:Int}{Q:VW}{w:World}(h:Acq a b c Q w):Ai PR Oz #[.int .u64 a,.int .u64 b,.int .u64 c] w λe w'=>∃v,e = .returned v/\Q v w':=
 EZ GS ⟨mixed,func170,rfl,.inl<|by kernel_rfl⟩ h
theorem P5(b:Jn)(Q:VW)(x0:Int)(a:Int):AD PR Cr b (Gg [true,true,true,true] (AC f183)) (Bg PR f183 Q) A8 (Bg PR f183 Q) ((.int .u64 x0)::us 1 ((.i a)::us 22 []))=(AV ((0:Int)<=(wrap .u8 x0)/\(wrap .u8 x0)<(HG.size:Int))<|Q<|.i<|wrap .i64<|a+(wrap .i64<|Bc HG ((wrap .u8 x0)).toNat)):=by kernel_rfl
theorem P4(Q:VW)(x0:Int)(a:Int):H1 AU Q x0 a=AD PR Cr AU (Gg [true,true,true,true] (AC f183)) (Bg PR f183 Q) A8 (Bg PR f183 Q) ((.int .u64 x0)::us 1 ((.i a)::us 22 [])):=by kernel_rfl
theorem P3(a:Jn)(Q:VW)(x0:Int)(b:Int):AD PR Cr a (Gg [true,true,true] (AC f183)) (Bg PR f183 Q) A8 (Bg PR f183 Q) ((.int .u64 x0)::us 1 ((.i b)::us 22 []))=(Aj (decide<|x0>=256) (AV ((0:Int)<=(8:Int))<|H1 a Q (CV .u64 x0 8)<|wrap .i64<|b+8)<|H1 a Q x0 b):=by kernel_rfl
theorem P2(Q:VW)(x0:Int)(a:Int):H0 AU Q x0 a=AD PR Cr AU (Gg [true,true,true] (AC f183)) (Bg PR f183 Q) A8 (Bg PR f183 Q) ((.int .u64 x0)::us 1 ((.i a)::us 22 [])):=by kernel_rfl
theorem P1(a:Jn)(Q:VW)(x0:Int)(b:Int):AD PR Cr a (Gg [true,true] (AC f183)) (Bg PR f183 Q) A8 (Bg PR f183 Q) ((.int .u64 x0)::us 1 ((.i b)::us 22 []))=(Aj (decide<|x0>=65536) (AV ((0:Int)<=(16:Int))<|H0 a Q (CV .u64 x0 16)<|wrap .i64<|b+16)<|H0 a Q x0 b):=by kernel_rfl
theorem P0(Q:VW)(x0:Int)(a:Int):Hz AU Q x0 a=AD PR Cr AU (Gg [true,true] (AC f183)) (Bg PR f183 Q) A8 (Bg PR f183 Q) ((.int .u64 x0)::us 1 ((.i a)::us 22 [])):=by kernel_rfl
theorem Ym(a:Jn)(x0:Int)(Q:VW):Aw a PR Cr f183 [.int .u64 x0] Q=(Aj (decide<|x0>=4294967296) (AV ((0:Int)<=(32:Int))<|Hz a Q (CV .u64 x0 32) 32)<|Hz a Q x0 0):=by kernel_rfl
theorem Yl(x0:Int)(Q:VW):Acr x0 Q=Aw AU PR Cr f183 [.int .u64 x0] Q:=rfl
theorem Sx{x0:Int}{Q:VW}{w:World}(h:Acr x0 Q w):Ai PR J5 #[.int .u64 x0] w λe w'=>∃v,e = .returned v/\Q v w':=
 EZ GS ⟨mixed,func183,rfl,.inl<|by kernel_rfl⟩ h
theorem Jj(a:Jn)(x0:Int)(Q:VW):Aw a PR Aca f201 [.int .u64 x0] Q=(Bw J5 [.int .u64 x0] λb=>Q<|.i<|wrap .i64<|64-b):=by kernel_rfl
theorem Ji(x0:Int)(Q:VW):Hy x0 Q=Aw AU PR Aca f201 [.int .u64 x0] Q:=rfl
theorem Il{x0:Int}{Q:VW}{w:World}(h:Hy x0 Q w):Ai PR Ee #[.int .u64 x0] w λe w'=>∃v,e = .returned v/\Q v w':=
 EZ GS ⟨mixed,func201,rfl,.inl<|by kernel_rfl⟩ h
end Go.Proofs.YtjipofkjmmpjdaaGreat
namespace Go.Proofs.YtjipofkjmmpjdaaGreat
open Go.Hb Go.IntWalk
theorem Bau(a k:Nat)(b:k<=64):CV .u64 (a:Int) (k:Int)=((a / 2 ^ k:Nat):Int):=by
 unfold CV;have:min (k:Int).toNat (IntKind.bits .u64)=k:=by simp[IntKind.bits];omega
 rw[this,Int.fdiv_eq_ediv_of_nonneg _<|by exact_mod_cast zero_le _];norm_cast
theorem Bdp(a k:Nat)(b:k<=64):HJ .u64 (a:Int) (k:Int)=((a*2 ^ k % 18446744073709551616:Nat):Int):=by
 unfold HJ;have:min (k:Int).toNat (IntKind.bits .u64)=k:=by simp[IntKind.bits];omega
 rw[this,<- A7o];norm_cast
section
variable{W w:World}{M:List HP}
theorem Am1:∀x:Fin 256,x.val≠0->∃L:Nat,1<=L/\L<=8/\Bc HG x.val=(L:Int)/\2 ^ (L-1)<=x.val/\x.val<2 ^ L:=by
 have key:∀x:Fin 256,x.val≠0->1<=(Bc HG x.val).toNat/\(Bc HG x.val).toNat<=8/\Bc HG x.val=(((Bc HG x.val).toNat:Nat):Int) /\
   2 ^ ((Bc HG x.val).toNat-1)<=x.val/\x.val<2 ^ (Bc HG x.val).toNat:=by decide +kernel
 exact λx a=>⟨_,key x a⟩
def RU(x L:Nat):Prop:=1<=L/\2 ^ (L-1)<=x/\x<2 ^ L
theorem RW{x L k:Nat}(h:RU (x / 2 ^ k) L):RU x (L+k):=by
 obtain⟨c,b,a⟩:=h;refine⟨by omega,?_,?_⟩
 ·rw[Nat.le_div_iff_mul_le<|Nat.two_pow_pos k,<- pow_add] at b
  rwa [show L+k-1=L-1+k by omega]
 ·rw[Nat.div_lt_iff_lt_mul<|Nat.two_pow_pos k,<- pow_add] at a;exact a
theorem Avw{Q:VW}{x n:Nat}(d:x<256)(e:x≠0)(k:n<=56)(f:∀L:Nat,L<=8->RU x L->Q (.i ((L+n:Nat):Int)) w):H1 AU Q x n w:=by
 rw[P4,P5];have g:wrap .u8 (x:Int)=(x:Int):=u8_in _ (by omega);rw[g];have a:HG.size=256:=by decide +kernel
 refine A1 ⟨by omega,by rw[a];omega⟩ ?_;obtain⟨L,h,j,b,c,hc⟩:=Am1 ⟨x,d⟩ e;simp only at b c hc;rw[toNat_natCast,b,i64_in (L:Int)<|by omega,i64_in _<|by omega];have:=f L j ⟨h,c,hc⟩
 rwa [show((L+n:Nat):Int)=(n:Int)+(L:Int) by omega] at this
theorem Avv{Q:VW}{x n:Nat}(e:x<65536)(c:x≠0)(f:n<=48)(b:∀L:Nat,L<=16->RU x L->Q (.i ((L+n:Nat):Int)) w):H0 AU Q x n w:=by
 rw[P2,P3];refine As (λhc=>?_) (λhc=>?_) <;> simp only[decide_eq_true_eq,decide_eq_false_iff_not] at hc
 ·refine A1 (by omega) ?_;rw[show(8:Int)=((8:Nat):Int) by rfl,Bau x 8<|by omega,i64_in _<|by omega,A7r];refine Avw (by omega) (by omega) (by omega) λL d a=>?_;have:=b (L+8) (by omega) (RW a)
  rwa [show L+8+n=L+(n+8) by omega] at this
 ·exact Avw (by omega) c (by omega) λL d a=>b L (by omega) a
theorem Avu{Q:VW}{x n:Nat}(e:x<4294967296)(c:x≠0)(f:n<=32)(b:∀L:Nat,L<=32->RU x L->Q (.i ((L+n:Nat):Int)) w):Hz AU Q x n w:=by
 rw[P0,P1];refine As (λhc=>?_) (λhc=>?_) <;> simp only[decide_eq_true_eq,decide_eq_false_iff_not] at hc
 ·refine A1 (by omega) ?_;rw[show(16:Int)=((16:Nat):Int) by rfl,Bau x 16<|by omega,i64_in _<|by omega,A7r];refine Avv (by omega) (by omega) (by omega) λL d a=>?_;have:=b (L+16) (by omega) (RW a)
  rwa [show L+16+n=L+(n+16) by omega] at this
 ·exact Avv (by omega) c (by omega) λL d a=>b L (by omega) a
theorem Avt(h:Ab W w M){x:Nat}(g:x<18446744073709551616)(b:x≠0):Ai PR J5 #[.int .u64 x] w λe w'=>∃L:Nat,(L<=64/\RU x L)/\e = .returned (.i (L:Int))/\Ab W w' M:=by
 refine(Sx (Q:=λv w'=>∃L:Nat,(L<=64/\RU x L)/\v = .i (L:Int)/\Ab W w' M) ?_).mono λe w' ⟨v,c,L,a,d,hs⟩=>⟨L,a,by rw[c,d],hs⟩;rw[Yl,Ym];refine As (λhc=>?_) (λhc=>?_) <;> simp only[decide_eq_true_eq,decide_eq_false_iff_not] at hc
 ·refine A1 (by omega) ?_;rw[show(32:Int)=((32:Nat):Int) by rfl,Bau x 32<|by omega];refine Avu (by omega) (by omega) (by omega) λL f a=>?_;exact⟨L+32,⟨by omega,RW a⟩,rfl,h⟩
 ·exact Avu (n:=0) (by omega) b (by omega) λL f a=>⟨L,⟨by omega,a⟩,rfl,h⟩
theorem A48(h:Ab W w M){x:Nat}(b:x<18446744073709551616)(c:x≠0):Ai PR Ee #[.int .u64 x] w λe w'=>
  ∃s:Nat,(s<=63/\9223372036854775808<=x*2 ^ s/\x*2 ^ s<18446744073709551616)/\e = .returned (.i (s:Int))/\Ab W w' M:=by
 refine(Il (Q:=λv w'=>∃s:Nat,(s<=63/\9223372036854775808<=x*2 ^ s/\x*2 ^ s<18446744073709551616)/\v = .i (s:Int)/\Ab W w' M) ?_).mono λe w' ⟨v,a,L,d,f,hs⟩=>⟨L,d,by rw[a,f],hs⟩;rw[Ji,Jj];refine Ao (Avt h b c) λe w ⟨L,⟨k,l,g,j⟩,a,h⟩=>⟨_,a,?_⟩;rw[i64_in _<|by omega];refine⟨64-L,⟨by omega,?_,?_⟩,by rw[show(64:Int)-(L:Int)=((64-L:Nat):Int) by omega],h⟩
 ·have:=Nat.mul_le_mul_right (2 ^ (64-L)) g
  rwa [<- pow_add,show L-1+(64-L)=63 by omega] at this
 ·have:=Nat.mul_lt_mul_of_pos_right j (Nat.two_pow_pos<|64-L)
  rwa [<- pow_add,show L+(64-L)=64 by omega] at this
def HM(x:Int):Prop:=0<=x/\x<18446744073709551616
theorem GY(x:Int):HM (wrap .u64 x):=by rw[wrap_u64];unfold HM;omega
theorem HM.nat{x:Int}(h:HM x):∃n:Nat,x=(n:Int)/\n<18446744073709551616:=⟨x.toNat,by have:=h.1;omega,by have:=h.1;have:=h.2;omega⟩
section
variable{Q:VW}{S:World->Prop}{y2 s8 y1 y0 u3 u1 u0 q1 u2:Int}
theorem Bdi(u:1<=y1)(v:y1<4294967296)(g:0<=s8)(i:∀q r w,HM q->S w->Q (.tuple #[.int .u64 q,.int .u64 r]) w):∀(f:Nat)(a q:Int)(w:World),0<=a->a<4294967296->4294967296<=a+f->S w->Hx AU Q (f+1) y2 s8 y1 y0 u0 q1 a u2 q w:=by
 have c:∀q w,S w->Hv AU Q y2 s8 u0 q1 u2 q w:=by
  intro q w b;rw[Pw,Px];refine A1 g ?_;have j:=λq r h=>i q r w h b;refine j _ _ ?_;exact GY _
 intro f
 induction f with
 | zero=>intro a q w k l m b;omega
 | succ f n=>
  intro a q w k l m b;rw[Pz];have d:Hu AU Q (f+1) y2 s8 y1 y0 u0 q1 a u2 q w:=by
   rw[Pu,Pv];have o:wrap .u64 (a+y1)=a+y1:=by rw[wrap_u64];omega
   rw[o];generalize wrap .u64 (q-1)=e;refine As (λ_=>by with_reducible exact c e w b) (λh=>?_);have h:=of_decide_eq_false h;have p:0<=a+y1:=by omega
   have s:a+y1<4294967296:=by omega
   have t:4294967296<=a+y1+(f:Int):=by omega
   with_reducible exact n (a+y1) e w p s t b
  refine As (λ_=>by with_reducible exact d) (λ_=>?_);exact As (λ_=>by with_reducible exact d) (λ_=>by with_reducible exact c q w b)
theorem A7a{x y:Int}(b:HM x)(h:1<=y)(i:y<4294967296):0<=wrap .u64 (x-wrap .u64 (wrap .u64 (tdiv x y)*y))/\wrap .u64 (x-wrap .u64 (wrap .u64 (tdiv x y)*y))<4294967296:=by
 obtain⟨a,j⟩:=b;have c:tdiv x y=x / y:=Int.tdiv_eq_ediv_of_nonneg a;have k:y*(x / y)+x % y=x:=Int.mul_ediv_add_emod x y;have l:=Int.emod_nonneg x (show y≠0 by omega);have m:=Int.emod_lt_of_pos x (show 0<y by omega);have d:0<=x / y:=Int.ediv_nonneg a (by omega);have n:x / y<=x:=Int.ediv_le_self y a;have o:0<=y*(x / y):=Int.mul_nonneg (by omega) d;rw[c];have e:wrap .u64 (x / y)=x / y:=by rw[wrap_u64];omega
 rw[e,Int.mul_comm];generalize y*(x / y)=z at *;have f:wrap .u64 z=z:=by rw[wrap_u64];omega
 rw[f];have g:wrap .u64 (x-z)=x-z:=by rw[wrap_u64];omega
 rw[g];omega
theorem Bce(a:1<=y1)(b:y1<4294967296)(d:0<=s8)(e:∀q r w,HM q->S w->Q (.tuple #[.int .u64 q,.int .u64 r]) w){w:World}(f:S w):Ht AU Q y2 s8 y1 y0 u3 u1 u0 q1 w:=by
 rw[Pr,Pt];refine A1 (by omega) ?_;have g:=GY (wrap .u64 (wrap .u64 (u3*4294967296)+u1)-wrap .u64 (q1*y2));have c:=A7a g a b;exact AP _ (Bdi a b d e 4294967296 _ _ w c.1 c.2 (by omega) f)
theorem Bdh(c:1<=y1)(d:y1<4294967296)(e:0<=s8)(g:∀q r w,HM q->S w->Q (.tuple #[.int .u64 q,.int .u64 r]) w):∀(f:Nat)(a q:Int)(w:World),0<=a->a<4294967296->4294967296<=a+f->S w->Hw AU Q (f+1) y2 s8 y1 y0 u3 u1 u0 q a w:=by
 intro f
 induction f with
 | zero=>intro a q w j k l b;omega
 | succ f m=>
  intro a q w j k l b;rw[Py];have i:Hs AU Q (f+1) y2 s8 y1 y0 u3 u1 u0 q a w:=by
   rw[Pp,Pq];have n:wrap .u64 (a+y1)=a+y1:=by rw[wrap_u64];omega
   rw[n];generalize wrap .u64 (q-1)=o;have p:0<=a+y1:=by omega
   have s:4294967296<=a+y1+(f:Int):=by omega
   refine As (λ_=>by with_reducible exact Bce c d e g b) (λh=>?_);have h:=of_decide_eq_false h;have t:a+y1<4294967296:=by omega
   with_reducible exact m (a+y1) o w p t s b
  refine As (λ_=>by with_reducible exact i) (λ_=>?_);exact As (λ_=>by with_reducible exact i) (λ_=>by with_reducible exact Bce c d e g b)
end
theorem Ayu(hs:Ab W w M){hi lo y:Int}(g:HM hi)(p:HM lo)(e:HM y)(h:hi<y):Bh PR Oz #[.int .u64 hi,.int .u64 lo,.int .u64 y] w λv w'=>∃q r:Int,v = .tuple #[.int .u64 q,.int .u64 r]/\HM q/\Ab W w' M:=by
 refine Sw ?_;rw[Yj,Yk];have t:=g.1;have a:=e.2
 refine Ad (by simp;omega) ?_;rw[Pk,Pm];refine Ad (by simp;omega) ?_
 rw[Pn,Po];refine As (λhc=>?_) (λhc=>?_)
 ·refine AI hs λw hs=>?_;exact A1 (by omega) (A1 (by omega) ⟨_,_,rfl,GY _,hs⟩)
 ·clear a;obtain⟨y,rfl,a⟩:=e.nat;refine Ao (A48 hs a<|by omega) λe w ⟨s,⟨i,j,b⟩,k,hs⟩=>⟨_,k,?_⟩;have l:wrap .u64 (s:Int)=(s:Int):=by rw[wrap_u64];omega
  have c:wrap .u64 ((64:Int)-(s:Int))=((64-s:Nat):Int):=by rw[wrap_u64];omega
  rw[l,c,Bdp y s<|by omega,Nat.mod_eq_of_lt b];generalize y*2 ^ s=Y at *;have m:CV .u64 (Y:Int) (32:Int)=((Y / 4294967296:Nat):Int):=Akh Y;rw[m];have n:1<=Y / 4294967296:=by omega
  refine A1 (by omega) (A1 (by omega)<|A1 (by omega)<|A1 (by omega)<|A1 (by omega)<|A1 (by omega)<|A1 (by omega) ?_);have d:HM (bits .or .u64 (HJ .u64 hi (s:Int))<|CV .u64 lo<|((64-s:Nat):Int)):=by
   show HM (wrap .u64 _);exact GY _
  have f:=A7a d (show(1:Int)<=((Y / 4294967296:Nat):Int) by omega) (show((Y / 4294967296:Nat):Int)<4294967296 by omega);refine AP _ (Bdh (S:=λw=>Ab W w M) (by omega) (by omega) (by omega) (λq r w o hs=>⟨q,r,rfl,o,hs⟩) 4294967296 _ _ w f.1 f.2 (by omega) hs)
theorem Akg(hs:Ab W w M){a b c:Int}(ha:HM a)(hb:HM b)(hc:HM c):Bh PR 143 #[.int .u64 a,.int .u64 b,.int .u64 c] w λv w'=>∃q:Int,v = .int .u64 q/\HM q/\Ab W w' M:=by
 refine cw ⟨mixed,func143,rfl⟩ Aq3 ?_;obtain⟨a,rfl,ha'⟩:=ha.nat;obtain⟨b,rfl,hb'⟩:=hb.nat;refine AJ (Av4 hs ha' hb') λe w ⟨he,hs⟩=>⟨_,_,he,?_⟩;have hx:HM ((a*b / 18446744073709551616:Nat):Int):=by
  have:a*b / 18446744073709551616<18446744073709551616:=by
   rw[Nat.div_lt_iff_lt_mul (by decide)];exact Nat.mul_lt_mul'' ha' hb'
  exact⟨by omega,by omega⟩
 have hy:HM ((a*b % 18446744073709551616:Nat):Int):=by
  have:=mod_lt (a*b) (show 0<18446744073709551616 by decide);exact⟨by omega,by omega⟩
 refine As (λ_=>⟨_,rfl,by unfold HM;omega,hs⟩) (λh=>?_);have h:=of_decide_eq_false h;refine AM (Ayu hs hx hy hc (by omega)) λv w ⟨q,r,hv,hq,hs⟩=>⟨_,_,hv,q,rfl,hq,hs⟩
theorem Bco(hs:Ab W w M){a b:Int}(c:HM a)(d:HM b):Bh PR 139 #[.int .u64 a,.int .u64 b] w λv w'=>∃q:Int,v = .int .u64 q/\HM q/\Ab W w' M:=by
 refine cw ⟨mixed,func139,rfl⟩ Aqz ?_;exact Ah (Akg hs c d<|by unfold HM;omega) λv w ⟨q,e,f,hs⟩=>⟨_,e,q,rfl,f,hs⟩
end
end Go.Proofs.YtjipofkjmmpjdaaGreat
namespace Go.Hb
def Cs(l:List Int):List Value:=l.map (Value.int .u64)
theorem Fe{l:List Int}{i:Nat}(h:i<l.length):(Cs l)[i]? = some ((CK.int .u64).val<|l.getD i 0):=by
 unfold Cs;rw[getElem?_map,getElem?_eq_getElem h,getD_eq_getElem?_getD,getElem?_eq_getElem h];rfl
theorem Kz{l:List Int}{i:Nat}{x:Int}:(Cs l).set i (.int .u64 x)=Cs (l.set i x):=by unfold Cs;rw[List.map_set]
theorem Ky(l:List Int):(Cs l).length=l.length:=by simp[Cs]
def MK(l:List Int):List Value:=l.map (Value.int .i64)
theorem Avc{l:List Int}{i:Nat}(h:i<l.length):(MK l)[i]? = some ((CK.int .i64).val<|l.getD i 0):=by
 unfold MK;rw[getElem?_map,getElem?_eq_getElem h,getD_eq_getElem?_getD,getElem?_eq_getElem h];rfl
theorem Au2{l:List Int}(h:l.length=5):∃a b c d e,l=[a,b,c,d,e]:=by
 match l,h with
 | [a,b,c,d,e],_=>exact⟨a,b,c,d,e,rfl⟩
end Go.Hb
namespace Go.Proofs.YtjipofkjmmpjdaaGreat
open Go.Hb Go.IntWalk
structure U5(l:List Int):Prop where
 len:l.length=5
 all:∀x∈l,HM x
theorem A7k:HM 0:=by unfold HM;omega
theorem U5.get{l:List Int}(h:U5 l){i:Nat}(hi:i<5):HM (l.getD i 0):=by
 have a:=h.len;rw[getD_eq_getElem?_getD,getElem?_eq_getElem<|by omega];exact h.all _ (getElem_mem _)
theorem U5.set{l:List Int}(h:U5 l){i:Nat}{x:Int}(b:HM x):U5 (l.set i x):=⟨by simp[h.len],λy c=>by
 rcases List.mem_or_eq_of_mem_set c with a|a
 ·exact h.all y a
 ·exact a ▸ b⟩
theorem U5.zero:U5 [0,0,0,0,0]:=⟨rfl,λx a=>by simp at a;subst a;exact A7k⟩
abbrev WQ(W:World)(L:List HP):VW:=λv w'=>∃a b c d e:Int,v = .agg #[.int .u64 a,.int .u64 b,.int .u64 c,.int .u64 d,.int .u64 e]/\U5 [a,b,c,d,e]/\Ab W w' L
theorem J4{i:Nat}(h:i<100):wrap .i64 ((i:Int)+1)=((i+1:Nat):Int):=by rw[i64_in _<|by omega];omega
theorem V7(i:Nat):0+((i:Int)).toNat*1=i:=by omega
section
variable{W w:World}{L M:List HP}{a b c d e:Int}
theorem Ahs(hs:Ab W w L):Bh PR 142 #[.agg #[.int .u64 a,.int .u64 b,.int .u64 c,.int .u64 d,.int .u64 e]] w λv w'=>∃x:Int,v = .int .u64 x/\HM x/\Ab W w' L:=by
 refine cw ⟨mixed,func142,rfl⟩ Aq2 ?_;refine Ak hs λb1 w hs=>?_
 iterate 5 refine Af hs ?_
 have g:∀(f i:Nat)(y:Int),i+f=5->HM y->Qb AU (λv w'=>∃x:Int,v = .int .u64 x/\HM x/\Ab W w' L) (f+1) y a b c d e (i:Int) w:=by
  intro f
  induction f with
  | zero=>
   intro i y hi h;rw[NK];refine Ad (decide_eq_false<|by omega) ?_;refine jw Z3 ?_;exact⟨_,rfl,h,hs.drop⟩
  | succ f j=>
   intro i y hi h;rw[NK];refine Am (decide_eq_true<|by omega) ?_;refine A1 (by omega) ?_;rw[toNat_natCast,J4<|by omega];refine⟨[a,b,c,d,e].getD i 0,Fe (l:=[a,b,c,d,e])<|show i<5 by omega,rfl,?_⟩
   with_reducible exact j (i+1) _ (by omega) (GY _)
 exact AP _ (g 5 0 0 (by omega) A7k)
theorem Bcz(hs:Ab W w L):Bh PR 138 #[.agg #[.int .u64 a,.int .u64 b,.int .u64 c,.int .u64 d,.int .u64 e]] w λv w'=>∃t,v = .b t/\Ab W w' L:=by
 refine cw ⟨mixed,func138,rfl⟩ Aqy ?_;refine Ak hs λb1 w hs=>?_
 iterate 5 refine Af hs ?_
 have g:∀(f i:Nat),i+f=5->PX AU (λv w'=>∃t,v = .b t/\Ab W w' L) (f+1) b1 0 a b c d e (i:Int) w:=by
  intro f
  induction f with
  | zero=>
   intro i hi;rw[NI];refine Ad (decide_eq_false<|by omega) ?_;refine jw Z1 ?_
   iterate 5 refine Af hs ?_
   exact Ah (Ahs hs) λv w ⟨x,h,_,hs⟩=>⟨_,h,_,rfl,hs.drop⟩
  | succ f j=>
   intro i hi;rw[NI];refine Am (decide_eq_true<|by omega) ?_;refine A1 (by omega) ?_;rw[toNat_natCast,J4<|by omega];refine⟨[a,b,c,d,e].getD i 0,Fe (l:=[a,b,c,d,e])<|show i<5 by omega,rfl,?_⟩;refine As (λ_=>⟨_,rfl,hs.drop⟩) (λ_=>?_);refine As (λ_=>⟨_,rfl,hs.drop⟩) (λ_=>?_)
   with_reducible exact j (i+1) (by omega)
 exact AP _ (g 5 0<|by omega)
theorem A6s(hs:Ab W w L){x:Int}:Bh PR 101 #[.agg #[.int .u64 a,.int .u64 b,.int .u64 c,.int .u64 d,.int .u64 e],.int .u32 x] w λv w'=>∃t:Int,v = .i t/\(0<=t/\t<5)/\Ab W w' L:=by
 refine cw ⟨mixed,func101,rfl⟩ Ap5 ?_;refine Ak hs λb1 w hs=>?_
 iterate 5 refine Af hs ?_
 have g:∀(f i:Nat)(y:Int),i+f=5->PL AU (λv w'=>∃t:Int,v = .i t/\(0<=t/\t<5)/\Ab W w' L) (f+1) x y a b c d e (i:Int) w:=by
  intro f
  induction f with
  | zero=>
   intro i y hi;rw[NA];refine Ad (decide_eq_false<|by omega) ?_;refine jw Zl ?_;exact⟨_,rfl,by omega,hs.drop⟩
  | succ f h=>
   intro i y hi;rw[NA];refine Am (decide_eq_true<|by omega) ?_;refine A1 (by omega) ?_;rw[toNat_natCast,J4<|by omega];refine⟨[a,b,c,d,e].getD i 0,Fe (l:=[a,b,c,d,e])<|show i<5 by omega,rfl,?_⟩;refine As (λ_=>⟨_,rfl,by omega,hs.drop⟩) (λ_=>?_)
   with_reducible exact h (i+1) _ (by omega)
 exact AP _ (g 5 0 0<|by omega)
theorem A6q(hs:Ab W w L){k:Int}:Bh PR 140 #[.i k] w λv w'=>∃x:Int,v = .int .u64 x/\HM x/\Ab W w' L:=by
 refine cw ⟨mixed,func140,rfl⟩ Aq0 ?_;refine Ao (Da hs _ _ _) λe w ⟨c,hs⟩=>⟨_,c,?_⟩;have e:=Eo k (show(0:Int)<=15 by omega);generalize F4 k 0 15=n at *;have a:∀(f i:Nat)(y:Int),(i:Int)+f=n->HM y->PZ AU (λv w'=>∃x:Int,v = .int .u64 x/\HM x/\Ab W w' L) (f+1) y n (i:Int) w:=by
  intro f
  induction f with
  | zero=>
   intro i y hi b;rw[NJ];refine Ad (decide_eq_false<|by omega) ?_;refine jw Z2 ?_;exact⟨_,rfl,b,hs⟩
  | succ f d=>
   intro i y hi b;rw[NJ];refine Am (decide_eq_true<|by omega) ?_;refine A1 (by decide) ?_;rw[J4<|by omega]
   with_reducible exact d (i+1) _ (by omega) (GY _)
 exact AP _ (a n.toNat 0 _ (by omega)<|by unfold HM;omega)
theorem Aht(hs:Ab W w L){g a:Int}:Bh PR 141 #[.i g,.i a] w λv w'=>∃x:Int,v = .i x/\Ab W w' L:=by
 refine cw ⟨mixed,func141,rfl⟩ Aq1 ?_;refine Ao (Da hs _ _ _) λe w ⟨b,hs⟩=>⟨_,b,?_⟩;refine Ao (Da hs _ _ _) λe w ⟨b,hs⟩=>⟨_,b,?_⟩
 with_reducible refine A3 (λc=>?_) (λc=>?_)
 ·exact⟨_,rfl,hs⟩
 ·exact A1 c ⟨_,rfl,hs⟩
theorem Ak0(l:U5 [a,b,c,d,e])(hs:Ab W w L):Bh PR 115 #[.agg #[.int .u64 a,.int .u64 b,.int .u64 c,.int .u64 d,.int .u64 e]] w (WQ W L):=by
 refine cw ⟨mixed,func115,rfl⟩ Aqe ?_;refine Ak hs λb1 w hs=>?_;refine Ak hs λb2 w hs=>?_;have hs:Ab W w (blk b2 (Cs [0,0,0,0,0])::blk b1 (Cs [a,b,c,d,e])::L):=hs;generalize [a,b,c,d,e]=xs at hs l;have n:=l.len;have o:∀(w:World)(g:Nat),g<5->Ab W w (blk b2 (Cs [0,0,0,0,0])::blk b1 (Cs xs)::L)->Aie AU (WQ W L) b1 0 b2 0 (g:Int) w:=by
  clear hs;intro w g k hs;refine jw Zp ?_;rw[V7 g];have hs:Ab W w (blk b1 (Cs xs)::blk b2 (Cs [0,0,0,0,0])::L):=hs.perm (List.Perm.swap _ _ _);refine An [blk b1<|Cs xs] hs λw hs=>?_;refine A1 (by omega) ?_;refine Au ?_ (hc:=Fe (by omega));obtain⟨x0,x1,x2,x3,x4,rfl⟩:=Au2 n;refine Af (x:=x0) hs ?_;refine Af (x:=x1) hs ?_;refine Af (x:=x2) hs ?_;refine Af (x:=x3) hs ?_;refine Af (x:=x4) hs ?_;refine Ag hs ?_;refine Ah (Ahs hs) λv w ⟨z,p,_,hs⟩=>⟨_,p,Ag hs ?_⟩;refine A1 (by omega) ?_;refine Jf 0 (cs:=Cs [x0,x1,x2,x3,x4]) hs rfl (by rw[Ky];omega) λw hs=>?_
  rw[Kz] at hs;have h:=l.set (i:=g) (GY<|[x0,x1,x2,x3,x4].getD g 0+wrap .u64 (4294967296-z));generalize [x0,x1,x2,x3,x4].set g _=ys at hs h;obtain⟨q,r,s,t,u,rfl⟩:=Au2 h.len;have hs:Ab W w (blk b1 [.int .u64 q,.int .u64 r,.int .u64 s,.int .u64 t,.int .u64 u]::blk b2 [.int .u64 0,.int .u64 0,.int .u64 0,.int .u64 0,.int .u64 0]::L):=hs
  iterate 5 refine Af hs ?_
  iterate 5 refine A4 hs λw hs=>?_
  iterate 5 refine Af hs ?_
  exact⟨_,_,_,_,_,rfl,h,by exact Ab.fin hs⟩
 have j:∀(f i g:Nat)(w:World),i+f=5->g<5->Ab W w (blk b2 (Cs [0,0,0,0,0])::blk b1 (Cs xs)::L)->LC AU (WQ W L) (f+1) b1 0 b2 0 (g:Int) (i:Int) w:=by
  clear hs;intro f
  induction f with
  | zero=>
   intro i g w hi k hs;rw[NC];refine Ad (decide_eq_false<|by omega) ?_;exact o w g k hs
  | succ f m=>
   intro i g w hi k hs;rw[NC];refine Am (decide_eq_true<|by omega) ?_;rw[V7 i,V7 g,J4<|by omega];refine An [blk b1<|Cs xs] hs λw hs=>?_;refine A1 (by omega) ?_;refine Au ?_ (hc:=Fe (by omega));refine A1 (by omega) ?_;refine Af hs ?_ (hc:=Fe (by omega));refine Ag hs ?_;refine As (λ_=>?_) (λ_=>?_)
   ·with_reducible exact m (i+1) i w (by omega) (by omega) hs
   ·with_reducible exact m (i+1) g w (by omega) k hs
 exact AP _ (j 5 0 0 w (by omega) (by omega) hs)
theorem Tz{f:FuncId}{args:Array Value}{K:Int->Int->Int->Int->Int->WP}(h:Bh PR f args w (WQ W L))(i:∀(a b c d e:Int) w,U5 [a,b,c,d,e]->Ab W w L->K a b c d e w) :
  Ai PR f args w λg w'=>∃a b c d e:Int,g = .returned (.agg #[.int .u64 a,.int .u64 b,.int .u64 c,.int .u64 d,.int .u64 e])/\K a b c d e w':=
 Ai.mono h λg w' ⟨v,j,a,b,c,d,e,k,l,hs⟩=>⟨a,b,c,d,e,by rw[j,k],i a b c d e w' l hs⟩
theorem Ad8(hs:Ab W w L):Bh PR 79 #[] w (WQ W L):=by
 refine cw ⟨mixed,func79,rfl⟩ A35 ?_;refine Ak hs λb1 w hs=>?_;refine Ak hs λb2 w hs=>?_;have a:∀(f i:Nat)(xs:List Int)(w:World),i+f=5->U5 xs->Ab W w (blk b2 (Cs xs)::blk b1 (Cs [0,0,0,0,0])::L) ->
   XQ AU (WQ W L) (f+1) b1 0 b2 0 (i:Int) w:=by
  clear hs;intro f
  induction f with
  | zero=>
   intro i xs w hi b hs;rw[R9];refine Ad (decide_eq_false<|by omega) ?_;refine jw Afx ?_;obtain⟨x0,x1,x2,x3,x4,rfl⟩:=Au2 b.len;have hs:Ab W w (blk b2 [.int .u64 x0,.int .u64 x1,.int .u64 x2,.int .u64 x3,.int .u64 x4]::blk b1 [.int .u64 0,.int .u64 0,.int .u64 0,.int .u64 0,.int .u64 0]::L):=hs
   iterate 5 refine Af hs ?_
   refine Tz (Ak0 b hs) λe g h j k w c hs=>?_
   iterate 5 refine A4 hs λw hs=>?_
   iterate 5 refine Af hs ?_
   exact⟨_,_,_,_,_,rfl,c,by exact Ab.fin hs⟩
  | succ f d=>
   intro i xs w hi b hs;rw[R9];refine Am (decide_eq_true<|by omega) ?_;refine A1 (by omega) ?_;have l:=b.len;rw[V7 i,J4<|by omega];refine Jf 0 (cs:=Cs xs) hs rfl (by rw[Ky];omega) λw hs=>?_
   rw[Kz] at hs;have hs:Ab W w (blk b2 (Cs<|xs.set i 858993459)::blk b1 (Cs [0,0,0,0,0])::L):=hs
   with_reducible exact d (i+1) _ w (by omega) (b.set<|by unfold HM;omega) hs
 exact AP _ (a 5 0 [0,0,0,0,0] w (by omega) U5.zero hs)
theorem A6r(hu:U5 [a,b,c,d,e])(hs:Ab W w L){g0 g1 g2 g3 g4 all:Int}:Bh PR 100 #[.agg #[.int .u64 a,.int .u64 b,.int .u64 c,.int .u64 d,.int .u64 e],.agg #[.i g0,.i g1,.i g2,.i g3,.i g4],.i all] w (WQ W L):=by
 refine cw ⟨mixed,func100,rfl⟩ Ap4 ?_;refine Ak hs λb1 w hs=>?_;refine Ak hs λb2 w hs=>?_;refine Ak hs λb3 w hs=>?_
 iterate 5 refine Af hs ?_
 refine Ah (Bcz hs) λv w ⟨t,hv,hs⟩=>⟨_,hv,?_⟩;refine As (λ_=>?_) (λ_=>?_)
 ·refine Tz (Ad8 hs) λy0 y1 y2 y3 y4 w hu hs=>?_
  iterate 5 refine A4 hs λw hs=>?_
  iterate 5 refine Af hs ?_
  exact⟨_,_,_,_,_,rfl,hu,by exact Ab.fin hs⟩
 have hs:Ab W w (blk b1 (Cs [a,b,c,d,e])::blk b2 (MK [g0,g1,g2,g3,g4])::blk b3 (Cs [0,0,0,0,0])::L):=by
  have hs:Ab W w (blk b3 (Cs [0,0,0,0,0])::blk b2 (MK [g0,g1,g2,g3,g4])::blk b1 (Cs [a,b,c,d,e])::L):=hs;exact Ab.fin hs
 have hg:[g0,g1,g2,g3,g4].length=5:=rfl;generalize [g0,g1,g2,g3,g4]=gs at hs hg;generalize [a,b,c,d,e]=ws at hs hu;have l3:∀(f i:Nat)(xs:List Int)(t:Int)(w:World),i+f=5->U5 xs->HM t->Ab W w (blk b1 (Cs xs)::blk b2 (MK gs)::blk b3 (Cs [0,0,0,0,0])::L)->PJ AU (WQ W L) (f+1) b1 0 b3 0 t (i:Int) w:=by
  clear hs;intro f
  induction f with
  | zero=>
   intro i xs t w hi hx ht hs;rw[N9];refine Ad (decide_eq_false (by omega)) ?_;refine jw Zk ?_;obtain⟨x0,x1,x2,x3,x4,rfl⟩:=Au2 hx.len;have hs:Ab W w (blk b1 [.int .u64 x0,.int .u64 x1,.int .u64 x2,.int .u64 x3,.int .u64 x4]::blk b2 (MK gs)::blk b3 [.int .u64 0,.int .u64 0,.int .u64 0,.int .u64 0,.int .u64 0]::L):=hs
   iterate 5 refine Af hs ?_
   refine Tz (Ak0 hx hs) λy0 y1 y2 y3 y4 w hu hs=>?_
   iterate 5 refine A4 hs λw hs=>?_
   iterate 5 refine Af hs ?_
   exact⟨_,_,_,_,_,rfl,hu,by exact Ab.fin hs⟩
  | succ f ih=>
   intro i xs t w hi hx ht hs;rw[N9];refine Am (decide_eq_true (by omega)) ?_;have h5:=hx.len;rw[V7 i,J4 (by omega)];refine A1 (by omega) ?_;refine Af hs ?_ (hc:=Fe (by omega));refine Ah (Akg hs (hx.get (by omega)) (by unfold HM;omega) ht) λv w ⟨q,hv,hq,hs⟩=>⟨_,hv,?_⟩
   refine A1 (by omega) ?_;refine Jf 0 (cs:=Cs xs) hs rfl (by rw[Ky];omega) λw hs=>?_
   rw[Kz] at hs;have hq2:HM (if q>42949672 then q else 42949672):=by
    unfold HM at *;split <;> omega
   generalize (if q>42949672 then q else 42949672)=q2 at hs hq2;have hs:Ab W w (blk b1 (Cs (xs.set i q2))::blk b2 (MK gs)::blk b3 (Cs [0,0,0,0,0])::L):=hs
   with_reducible exact ih (i+1) _ t w (by omega) (hx.set hq2) ht hs
 have l1:∀(f i:Nat)(xs:List Int)(w:World),i+f=5->U5 xs->Ab W w (blk b1 (Cs xs)::blk b2 (MK gs)::blk b3 (Cs [0,0,0,0,0])::L)->PH AU (WQ W L) (f+1) all b1 0 b2 0 b3 0 (i:Int) w:=by
  clear hs;intro f
  induction f with
  | zero=>
   intro i xs w hi hx hs;rw[N8];refine Ad (decide_eq_false (by omega)) ?_;refine jw Zj ?_;have hx0:=hx;obtain⟨x0,x1,x2,x3,x4,rfl⟩:=Au2 hx.len;refine Af (x:=x0) hs ?_;refine Af (x:=x1) hs ?_;refine Af (x:=x2) hs ?_;refine Af (x:=x3) hs ?_;refine Af (x:=x4) hs ?_;refine Ah (Ahs hs) λv w ⟨z,hv,hz,hs⟩=>⟨_,hv,?_⟩;exact AP _ (l3 5 0 _ z w (by omega) hx0 hz hs)
  | succ f ih=>
   intro i xs w hi hx hs;rw[N8];refine Am (decide_eq_true (by omega)) ?_;have h5:=hx.len;rw[V7 i,J4 (by omega)];refine An [blk b1 (Cs xs)] hs λw hs=>?_;refine A1 (by omega) ?_;refine Au ?_ (hc:=Fe (by omega));refine A1 (by omega) ?_;refine Af hs ?_ (hc:=Avc (by omega));refine Ag hs ?_;refine Ah (Aht hs) λv w ⟨p,hv,hs⟩=>⟨_,hv,Ag hs ?_⟩;refine Ah (A6q hs) λv w ⟨y,hv,hy,hs⟩=>⟨_,hv,Ag hs ?_⟩;refine Ah (Bco hs (hx.get (by omega)) hy) λv w ⟨q,hv,hq,hs⟩=>⟨_,hv,?_⟩;refine A1 (by omega) ?_
   refine Jf 0 (cs:=Cs xs) hs rfl (by rw[Ky];omega) λw hs=>?_;rw[Kz] at hs;have hs:Ab W w (blk b1 (Cs (xs.set i q))::blk b2 (MK gs)::blk b3 (Cs [0,0,0,0,0])::L):=hs
   with_reducible exact ih (i+1) _ w (by omega) (hx.set hq) hs
 exact AP _ (l1 5 0 ws w (by omega) hu hs)
end
end Go.Proofs.YtjipofkjmmpjdaaGreat
