/- For every argument hoardtop.TopTwins returns true, and each argument reads behind the call as it read before. No condition. -/
import Derived.Test.YtjipofkjmmpjdaaGreatRows
import Derived.Test.YtjipofkjmmpjdaaGreatQTwins5
set_option linter.unusedVariables false
set_option linter.unusedSimpArgs false
set_option linter.unnecessarySimpa false
set_option linter.unusedSectionVars false
set_option maxRecDepth 100000
open Go.Proofs.Tryz
open List (perm_middle map_append range mem_map flatten_cons getElem?_eq_getElem getElem?_map length_map map_set append_nil length_nil length_cons length length_append mem_of_getElem? replicate mem_cons)
open Go.IntKind (wrap)
open Int (toNat_natCast toNat)
open Nat (one_pos le_refl)
namespace Go.Hb
open Go.Proofs.YtjipofkjmmpjdaaGreat
def tpe(b n:Nat):HP:=Ly λ(z:Sl×List Int×Int)=>Fs (0<=z.2.2/\z.2.2<=n) (AN [blk b [.l z.1.a z.1.n z.1.c,.i z.2.2],recs (Ap.int .u32) z.1 z.2.1])
abbrev cC(b:Nat)(c a:Int)(tb:Nat)(d e f g h kd j:Int):HP:=blk b [.i c,.i a,pq tb 0,.int .u64 d,.int .u64 e,.int .u64 f,.int .u64 g,.int .u64 h,.i kd,.i j]
def FK(b n:Nat):HP:=Ly λ(z:(Int×Int×Nat)×(Int×Int×Int×Int×Int)×(Int×Int))=>Fs (U5 [z.2.1.1,z.2.1.2.1,z.2.1.2.2.1,z.2.1.2.2.2.1,z.2.1.2.2.2.2]) (AN [cC b z.1.1 z.1.2.1 z.1.2.2 z.2.1.1 z.2.1.2.1 z.2.1.2.2.1 z.2.1.2.2.2.1 z.2.1.2.2.2.2 z.2.2.1 z.2.2.2,tpe z.1.2.2 n])
section
variable{W w:World}{M L:List HP}{b n:Nat}
theorem Ad1(h:Ab W w (tpe b n::M)):∃(s:Sl) (l:List Int) (k:Int),(0<=k/\k<=n)/\(s.n=l.length/\s.n<=s.c)/\Ab W w (blk b [.l s.a s.n s.c,.i k]::recs (Ap.int .u32) s l::M):=by
 obtain⟨⟨s,l,k⟩,h⟩:=h.openE;obtain⟨d,h⟩:=h.openA;have h:=h.openL;have h:Ab W w (blk b [.l s.a s.n s.c,.i k]::recs (Ap.int .u32) s l::M):=h;exact⟨s,l,k,d,BE (s:=s) h,h⟩
theorem MH{s:Sl}{l:List Int}{k:Int}(d:0<=k/\k<=n)(h:Ab W w (blk b [.l s.a s.n s.c,.i k]::recs (Ap.int .u32) s l::M)):Ab W w (tpe b n::M):=
 Ab.shutE (s,l,k) (Ab.shutA d<|Ab.shutL (Ps:=[_,_]) h)
theorem Rj(h:Ab W w (FK b n::M)):∃(c a:Int) (tb:Nat) (d e f g i kd j:Int),U5 [d,e,f,g,i]/\Ab W w (cC b c a tb d e f g i kd j::tpe tb n::M):=by
 obtain⟨⟨⟨c,a,tb⟩,⟨d,e,f,g,i⟩,kd,j⟩,h⟩:=h.openE;obtain⟨k,h⟩:=h.openA;exact⟨c,a,tb,d,e,f,g,i,kd,j,k,h.openL⟩
theorem HV{c a:Int}{tb:Nat}{d e f g i kd j:Int}(k:U5 [d,e,f,g,i])(h:Ab W w (cC b c a tb d e f g i kd j::tpe tb n::M)):Ab W w (FK b n::M):=
 Ab.shutE ((c,a,tb),(d,e,f,g,i),kd,j) (Ab.shutA k<|Ab.shutL (Ps:=[_,_]) h)
end
end Go.Hb
namespace Go.Proofs.YtjipofkjmmpjdaaGreat
open Go.Hb Go.IntWalk
section
variable{W w:World}{L M:List HP}{b n:Nat}
instance:OkR (Ap.int .u32):=⟨λ_=>rfl⟩
theorem A6e(g:n<1000000000000)(hs:Ab W w (tpe b n::M)):Bh PR 102 #[pq b 0] w λv w'=>∃x:Int,v = .int .u32 x/\Ab W w' (tpe b (n+1)::M):=by
 refine cw ⟨mixed,func102,rfl⟩ Ap6 ?_;obtain⟨s,l,k,h,e,hs⟩:=Ad1 hs;refine Ad rfl ?_;refine Aa (Af hs ?_);rw[i64_in (k+1)<|by omega];refine Aa (A4 hs λw hs=>?_);refine An [blk b [.l s.a s.n s.c,.i<|k+1]] hs λw hs=>?_;refine Aa (Au<|Aa<|Af (x:=s) hs<|Ag hs ?_)
 with_reducible refine A3 (λf=>?_) (λf=>?_)
 ·exact⟨_,rfl,MH (by omega) hs⟩
 refine An [blk b [.l s.a s.n s.c,.i<|k+1]] hs λw hs=>?_;refine Aa (Au (x:=s)<|Aa<|Af hs<|Ag hs ?_);rw[i64_in (k+1-1)<|by omega];refine CO (s:=s) (E:=Ap.int .u32) (rows:=l) hs λj m d=>?_;refine Dh (s:=s) (E:=Ap.int .u32) (rows:=l) d hs ?_;exact⟨_,rfl,MH (by omega) hs⟩
theorem Ays{s:Sl}{ds:List Int}[e:TA W L s (Ap.int .u32) ds](f:ds.length<1000000)(hs:Ab W w L):Bh PR 80 #[.l s.a s.n s.c] w λv w'=>∃(t:Sl) (l:List Int),v = .l t.a t.n t.c/\Ab W w' (recs (Ap.int .u32) t l::L):=by
 refine cw ⟨mixed,func80,rfl⟩ A36 ?_;refine As (λ_=>⟨⟨none,0,0⟩,[],rfl,Ab.nilR _ hs⟩) (λ_=>?_);refine Ak hs λnb w hs=>?_;have hs:=Ab.blkS (b:=nb) (cs:=[]) (n:=0) (Ap.int .u32) [] hs rfl rfl;refine GA (s:=⟨some ⟨nb,0,none⟩,0,0⟩) (E:=Ap.int .u32) (new:=ds) hs (GT (s:=s) hs) (BS (s:=s) (E:=Ap.int .u32) hs) (Dt _) rfl (by decide) (by simp;omega) λs2 w d hs=>?_
 exact⟨s2,_,rfl,hs⟩
theorem Bbg{s:Sl}{ds:List Int}[f:TA W L s (Ap.int .u32) ds](d:ds.length<1000000)(hs:Ab W w L):Bh PR 49 #[.l s.a s.n s.c] w λv w'=>∃b,v=pq b 0/\Ab W w' (tpe b 0::L):=by
 refine cw ⟨mixed,func49,rfl⟩ A3f ?_;refine Ah (Ays (s:=s) d hs) λv w ⟨t,l,e,hs⟩=>⟨t,e,?_⟩;refine Ak hs λb w hs=>⟨b,rfl,MH (s:=t) (l:=l) (k:=0) (by omega) hs⟩
theorem Uc(hs:Ab W w L){k:Int}:Bh PR 78 #[.i k] w λv w'=>v = .b (decide<|0<=k/\k<5)/\Ab W w' L:=by
 refine cw ⟨mixed,func78,rfl⟩ A34 ?_
 with_reducible refine A3 (λa=>?_) (λa=>?_)
 ·exact⟨by rw[decide_eq_decide.2<|show k<5↔(0<=k/\k<5) by omega],hs⟩
 ·exact⟨by rw[decide_eq_false<|by omega],hs⟩
theorem A7v{k h:Int}{tb:Nat}(hs:Ab W w (tpe tb n::L)):Bh PR 48 #[.i k,.i h,pq tb 0] w λv w'=>(((0<=k/\k<5)/\1<=h/\h<=256)/\∃b,v = .tuple #[pq b 0,.i 0]/\Ab W w' (FK b n::L))\/(¬((0<=k/\k<5)/\1<=h/\h<=256)/\∃e:Int,e≠0/\v = .tuple #[.p none,.i e]/\Ab W w' L):=by
 refine cw ⟨mixed,func48,rfl⟩ A3e ?_;refine Ah (Uc hs) λv w ⟨c,hs⟩=>⟨_,c,?_⟩
 with_reducible refine A3 (λa=>?_) (λa=>?_)
 ·exact .inr ⟨λh=>a<|by simpa using h.1,4,by decide,rfl,hs.drop⟩
 with_reducible refine A3 (λd=>?_) (λd=>?_)
 ·exact .inr ⟨by omega,1,by decide,rfl,hs.drop⟩
 with_reducible refine A3 (λf=>?_) (λf=>?_)
 ·exact .inr ⟨by omega,1,by decide,rfl,hs.drop⟩
 refine jw Afh ?_;refine Tz (Ad8 hs) λj l m o q w g hs=>?_;refine Ak hs λb w hs=>?_;exact .inl ⟨⟨by simpa using a,by omega,by omega⟩,b,rfl,HV g hs⟩
theorem YX{k:Int}(hs:Ab W w (FK b n::M)):Bh PR 62 #[pq b 0,.i k] w λv w'=>∃m:Int,v = .i m/\(m=0↔(0<=k/\k<5))/\Ab W w' (FK b n::M):=by
 refine cw ⟨mixed,func62,rfl⟩ A3t ?_;refine Ad rfl ?_;refine Ah (Uc hs) λv w ⟨d,hs⟩=>⟨_,d,?_⟩
 with_reducible refine A3 (λa=>?_) (λa=>?_)
 ·exact⟨4,rfl,by have:¬(0<=k/\k<5):=a;omega,hs⟩
 obtain⟨e,c,tb,g,h,j,l,o,kd,p,f,hs⟩:=Rj hs;refine Aa (A4 hs λw hs=>?_);refine Aa (A4 hs λw hs=>?_);refine Aa (A4 hs λw hs=>?_);exact⟨0,rfl,by simpa using a,HV f hs⟩
theorem Ao7(B:n<1000000000000){r s u y z all:Int}(hs:Ab W w (FK b n::M)):Bh PR 58 #[pq b 0,.agg #[.i r,.i s,.i u,.i y,.i z],.i all] w λv w'=>∃(k:Int) (t:Bool),v = .tuple #[.i k,.b t]/\(0<=k/\k<5)/\Ab W w' (FK b (n+1)::M):=by
 refine cw ⟨mixed,func58,rfl⟩ A3p ?_;refine Ak hs λb1 w hs=>?_;refine Ad rfl ?_;have hs:Ab W w (FK b n::blk b1 [.i r,.i s,.i u,.i y,.i z]::M):=hs.perm (List.Perm.swap _ _ _);obtain⟨c,a,tb,e,f,g,h,j,kd,d,l,hs⟩:=Rj hs;refine An [cC b c a tb e f g h j kd d] hs λw hs=>?_;refine Aa (Au<|Au<|Au<|Au<|Au ?_)
 iterate 5 refine Af hs ?_
 refine Ag hs ?_;refine Tz (A6r l hs) λe f g h j w l hs=>?_;refine Aa ?_
 iterate 5 refine A4 hs λw hs=>?_
 refine An [cC b c a tb e f g h j kd d] hs λw hs=>?_;refine Aa (Au<|Au<|Au<|Au<|Au<|Aa<|Af hs<|Ag hs ?_);have hs:Ab W w (tpe tb n::cC b c a tb e f g h j kd d::M):=by exact Ab.fin hs
 refine Ah (A6e B hs) λv w ⟨x,o,hs⟩=>⟨_,o,?_⟩;have hs:Ab W w (cC b c a tb e f g h j kd d::tpe tb (n+1)::M):=hs.perm (List.Perm.swap _ _ _);refine Ag hs ?_;refine Ah (A6s hs) λv w ⟨t,o,p,hs⟩=>⟨_,o,?_⟩;refine Aa (Af hs ?_);have A:∀(w:World)(d:Int),Ab W w (cC b c a tb e f g h j t d::tpe tb (n+1)::M)->Afp AU (λv w'=>∃(k:Int) (t:Bool),v = .tuple #[.i k,.b t]/\(0<=k/\k<5)/\Ab W w' (FK b (n+1)::M)) (some ⟨b,0,none⟩) t w:=by
  clear hs;intro w d hs;refine jw Afq ?_;refine An [cC b c a tb e f g h j t d] hs λw hs=>?_;refine Aa (Au<|Aa<|Af hs<|Ag hs ?_);refine As (λ_=>⟨t,false,rfl,p,HV l hs⟩) (λ_=>?_);exact Ah (YX<|HV l hs) λv w ⟨m,o,_,hs⟩=>⟨_,o,t,true,rfl,p,hs⟩
 refine As (λ_=>?_) (λ_=>?_)
 ·refine Aa (A4 hs λw hs=>?_);refine Aa (A4 hs λw hs=>?_);exact⟨t,false,rfl,p,HV l hs⟩
 ·refine Aa (Af hs ?_);refine As (λq=>?_) (λ_=>?_)
  ·have q:t=kd:=by simpa using q
   subst q;refine Aa (Af hs ?_);refine Aa (A4 hs λw hs=>?_);exact A w _ hs
  ·refine Aa (A4 hs λw hs=>?_);refine Aa (A4 hs λw hs=>?_);exact A w _ hs
end
end Go.Proofs.YtjipofkjmmpjdaaGreat
namespace Go.Hb
instance:HQ Ap.ptr:=⟨one_pos⟩
section
variable{α:Type}{f:α->HP}{l:List α}{i:Nat}{x:α}{W w:World}{M:List HP}
theorem QQ(hi:i<l.length)(h:Ab W w (AN (l.map f)::M)):Ab W w (f l[i]::AN ((l.eraseIdx i).map f)::M):=by
 have c:=h.openL;have d:(l.map f).Perm (f l[i]::(l.eraseIdx i).map f):=(((EM hi).map f).symm);have b:=c.perm (d.append_right M);have b:Ab W w (f l[i]::((l.eraseIdx i).map f++M)):=b;have e:=b.perm (perm_middle (a:=f l[i]) (l₁:=(l.eraseIdx i).map f) (l₂:=M)).symm;have g:=Ab.shutL e;exact g.perm (List.Perm.swap _ _ _)
theorem Awj(hi:i<l.length)(h:Ab W w (f x::AN ((l.eraseIdx i).map f)::M)):Ab W w (AN ((l.set i x).map f)::M):=by
 have b:=(h.perm<|List.Perm.swap _ _ _).openL;have c:Ab W w (f x::((l.eraseIdx i).map f++M)):=b.perm perm_middle;have hs:i<(l.set i x).length:=by simpa using hi
 have a:=(EM hs).map f;have d:(l.set i x)[i]=x:=by simp
 have e:(l.set i x).eraseIdx i=l.eraseIdx i:=List.eraseIdx_set_eq;rw[d,e] at a;exact Ab.shutL (c.perm<|a.append_right M)
theorem M0(hi:i<l.length)(h:Ab W w (f l[i]::AN ((l.eraseIdx i).map f)::M)):Ab W w (AN (l.map f)::M):=by
 have a:=Awj hi h;rw[List.set_getElem_self] at a;exact a
theorem JM(h:Ab W w (f x::AN (l.map f)::M)):Ab W w (AN ((l++[x]).map f)::M):=by
 have a:=(h.perm<|List.Perm.swap _ _ _).openL;refine Ab.shutL ?_;rw[map_append,List.append_assoc];exact a
theorem Mw(h:Ab W w M):Ab W w (AN (([]:List α).map f)::M):=Ab.shutL h
end
end Go.Hb

namespace Go.Hb
open Go.ChangeShapes Go.WideShapes Go.RowKit
def stF(P:Program)(t:TypeId):List (TypeId×Nat):=match P.underlying t with
 | some (.struct fs)=>fs.toList.map λf=>(f.type,f.offset)
 | _=>[]
section
variable{H:Type}{enc:TypeId×Value->H}{P:Program}{W:World}{sp:Nat->Bool}{held:Bool}{base:Nat}
theorem Aem{a:Addr}{n:Nat}{c:List Value}(h:W.cells? base a n=some c)(e:0<n):a.spot=none:=by
 unfold World.cells? at h;have h:(range n).mapM (λi=>W.cell?<|Addr.add a i)=some c:=by
  by_cases d:base<=a.block
  ·rwa [if_pos d] at h
  ·rw[if_neg d] at h;cases h
 obtain⟨y,b⟩:=Aco h 0 (by simp[e]);have f:Addr.add a 0=a:=by simp[Addr.add]
 rw[f] at b;unfold World.cell? at b;split at b
 ·split at b
  ·cases b
  ·rename_i hs;cases g:a.spot <;> simp_all
 ·cases b
theorem MR{b o j:Nat}:Addr.add ⟨b,o,none⟩ j=⟨b,o+j,none⟩:=by
 unfold Addr.add;split
 ·simp_all
 ·rfl
theorem Ub{b i n:Nat}{c:List Value}(h:W.cells? base ⟨b,i,none⟩ n=some c):c.length=n/\∀j,j<n->W.cell? ⟨b,i+j,none⟩=c[j]?:=by
 unfold World.cells? at h;have h:(range n).mapM (λa=>W.cell?<|Addr.add ⟨b,i,none⟩ a)=some c:=by
  by_cases k:base<=b
  ·rwa [if_pos k] at h
  ·rw[if_neg k] at h;cases h
 have:∀(l:List Nat)(c:List Value),l.mapM (λa=>W.cell?<|Addr.add ⟨b,i,none⟩ a)=some c->c.length=l.length/\∀j (d:j<l.length),W.cell? (Addr.add ⟨b,i,none⟩ l[j])=c[j]?:=by
  intro l
  induction l with
  | nil=>intro c h;simp only[List.mapM_nil,Option.pure_def,Option.some.injEq] at h;subst h;exact⟨rfl,λj d=>by simp at d⟩
  | cons x l m=>
   intro c h;simp only[List.mapM_cons,Option.bind_eq_bind,Option.pure_def,Option.bind_eq_some_iff] at h;obtain⟨y,o,ys,e,hc⟩:=h;cases hc;obtain⟨f,g⟩:=m ys e;refine⟨by simp[f],λj d=>?_⟩;cases j with
   | zero=>simpa using o
   | succ j=>simpa using g j (by simpa using d)
 obtain⟨f,g⟩:=this _ _ h;refine⟨by simpa using f,λj d=>?_⟩;have:=g j (by simpa using d);simp only[List.getElem_range] at this;rw[<- this,MR]
theorem Aw7{Q:List Value->Prop}{a:Addr}{m len cap:Nat}(r:0<m)(k:∀i,i<len->∃c,W.cells? base (a.add<|i*m) m=some c/\Q c) :
  ∃rows:List (List Value),rows.length=len/\(∀x∈rows,Q x)/\(len=0\/Ahu W m ⟨some a,len,cap⟩ rows.flatten):=by
 by_cases v:len=0
 ·exact⟨[],v.symm,λ_ h=>(by cases h),.inl v⟩
 obtain⟨c0,s,_⟩:=k 0 (by omega);have D:Addr.add a (0*m)=a:=by simp[Addr.add]
 rw[D] at s;have d:=Aem s r;obtain⟨b,o,C⟩:=a;simp only at d;subst d;have e:∀i,∃c,i<len->W.cells? base (Addr.add ⟨b,o,none⟩<|i*m) m=some c/\Q c:=by
  intro i
  by_cases hi:i<len
  ·obtain⟨c,hc⟩:=k i hi;exact⟨c,λ_=>hc⟩
  ·exact⟨[],λh=>absurd h hi⟩
 let f:Nat->List Value:=λi=>Classical.choose (e i);have w:∀i,i<len->W.cells? base (Addr.add ⟨b,o,none⟩<|i*m) m=some (f i)/\Q (f i):=λi hi=>Classical.choose_spec (e i) hi;refine⟨(range len).map f,by simp,?_,.inr ⟨?_,.inr ⟨b,o,rfl,?_⟩⟩⟩
 ·intro x t;simp only[mem_map,List.mem_range] at t;obtain⟨i,hi,rfl⟩:=t;exact(w i hi).2
 ·simp only;have:∀(l:List (List Value)),(∀x∈l,x.length=m)->l.flatten.length=l.length*m:=by
   intro l
   induction l with
   | nil=>simp
   | cons x l z=>intro h;simp[z λy E=>h y<|.tail _ E,h x<|.head _,Nat.add_mul,Nat.add_comm]
  rw[this]
  ·simp
  ·intro x t;simp only[mem_map,List.mem_range] at t;obtain⟨i,hi,rfl⟩:=t;have u:=(w i hi).1;rw[MR] at u;exact(Ub u).1
 ·have:∀(n:Nat)(g:Nat->List Value)(p:Nat),(∀i,i<n->(g i).length=m/\∀j,j<m->W.cell? ⟨b,p+i*m+j,none⟩=(g i)[j]?) ->
    ∀j,j<((range n).map g).flatten.length->W.cell? ⟨b,p+j,none⟩=((range n).map g).flatten[j]?:=by
   intro n
   induction n with
   | zero=>intro g p _ j q;simp at q
   | succ n z=>
    intro g p h j q;have F:(range<|n+1).map g=g 0::(range n).map (g ∘ Nat.succ):=by
     rw[List.range_succ_eq_map];simp
    rw[F] at q ⊢;simp only[flatten_cons] at q ⊢;obtain⟨v,A⟩:=h 0 (by omega)
    by_cases B:j<m
    ·rw[List.getElem?_append_left<|by omega];simpa using A j B
    ·rw[List.getElem?_append_right<|by omega];have:=z (g ∘ Nat.succ) (p+m) (λi hi=>by
      obtain⟨G,H⟩:=h (i+1) (by omega);refine⟨G,λj q=>?_⟩;have:=H j q;show _=(g<|i+1)[j]?;rw[<- this];congr 2;rw[Nat.add_mul];omega) (j-m) (by simp at q ⊢;omega)
     rw[v,<- this];congr 2;omega
  refine this len f o λi hi=>?_;obtain⟨u,I⟩:=w i hi;rw[MR] at u;exact Ub u
theorem A6i{t:TypeId}{us:List Value}{x:DataW H×List MemPlace}{fuel:Nat}{fs:Array Field}(hu:P.underlying t=some (.struct fs))(hx:DataW.trod enc P W base sp held fuel t us=some x)(hlt:Je P t x.1) :
  us.length=P.cellsOf t/\∀p∈stF P t,∃fuel y,DataW.trod enc P W base sp held fuel p.1 ((us.drop p.2).take (P.cellsOf p.1))=some y/\Je P p.1 y.1:=by
 cases fuel with
 | zero=>cases hx
 | succ fuel=>
 unfold DataW.trod at hx;rw[hu] at hx;simp only at hx;split at hx
 case isFalse=>cases hx
 rename_i hlen;simp only[Option.map_eq_some_iff] at hx;obtain⟨xs,hxs,rfl⟩:=hx;have hlt':∀n∈DataW.weightsEach P (fs.toList.map (·.type)) (xs.map (·.1)),n<=reachBytes:=λn hn=>hlt n (by simp only[DataW.weights,hu];exact hn)
 refine⟨hlen,λp hp=>?_⟩;simp only[stF,hu,mem_map] at hp;obtain⟨f,hf,rfl⟩:=hp;obtain⟨i,hi,hfi⟩:=List.mem_iff_getElem.1 hf;obtain⟨y,hy,hfy⟩:=Mr hxs (getElem?_eq_getElem hi);rw[hfi] at hfy;exact⟨fuel,y,hfy,light_each hlt' (j:=i) (by rw[getElem?_map,getElem?_eq_getElem hi,hfi];rfl) (by rw[getElem?_map,hy];rfl)⟩
end
end Go.Hb
namespace Go.Hb
structure YK where
 kind:Int
 key:BA
 val:BA
 n:Int
instance:Inhabited YK:=⟨⟨0,⟨#[]⟩,⟨#[]⟩,0⟩⟩
def opR:Ap YK:=⟨4,λo=>[.i o.kind,.s o.key,.s o.val,.i o.n],λ_=>rfl⟩
structure OpOk(o:YK):Prop where
 kind:okK .i64 o.kind
 key:A66 o.key
 val:A66 o.val
 n:okK .i64 o.n
theorem of_op(x:List Value)(h:Ew [.int .i64,.str,.str,.int .i64] x):∃o,x=opR.cells o/\OpOk o:=by
 obtain⟨a,b,c,d,rfl⟩:∃a b c d,x=[a,b,c,d]:=by
  have e:=Ns h
  match x,e with
  | [a,b,c,d],_=>exact⟨a,b,c,d,rfl⟩
 obtain⟨f,g,i,j,_⟩:=h;obtain⟨k,rfl,l⟩:=f;obtain⟨m,rfl,n⟩:=g;obtain⟨p,rfl,q⟩:=i;obtain⟨r,rfl,s⟩:=j;exact⟨⟨k,m,p,r⟩,rfl,l,n,q,s⟩
end Go.Hb
namespace Go.Hb
open Go.Proofs.YtjipofkjmmpjdaaGreat
noncomputable def BK(m:Nat)(k:BA):Nat:=(Fw 31 k % (m:Int)).toNat
theorem MC{m:Nat}(h:1<=m)(k:BA):BK m k<m:=by
 unfold BK;have a:=Int.emod_nonneg (Fw 31 k) (show(m:Int)≠0 by omega);have b:=Int.emod_lt_of_pos (Fw 31 k) (show(0:Int)<m by omega);omega
abbrev Sh:=TT×Int×Option Nat
abbrev Dm(rm:Int)(n:Nat)(z:Nat×Sh):HP:=sd z.1 rm n z.2.1 z.2.2.1 z.2.2.2
abbrev cB(b:Nat)(s:Sl)(p ch:Nat)(now:Int):HP:=blk b [.l s.a s.n s.c,pq p 0,pq ch 0,.i now]
structure KCI(rm now:Int)(n:Nat):Prop where
 sh1:1<=n
 sh8:n<=8
 rm1:1<=rm
 rm2:rm<=1024
 now0:0<=now
 nowM:now<=1125899906842624
def Lw(b k:Nat)(rm now:Int)(X:List Sh):HP:=Ly λ(z:Sl×Nat×Nat×List (Nat×Sh))=>Fs (KCI rm now X.length/\z.2.2.2.map (·.2)=X) (AN [cB b z.1 z.2.1 z.2.2.1 now,recs Ap.ptr z.1<|z.2.2.2.map (·.1),Ff z.2.1 k,FK z.2.2.1 k,AN<|z.2.2.2.map<|Dm rm<|600000*k])
abbrev rsV(e:Int)(h:Bool)(v:BA)(s:Sl):Value:=.agg #[.i e,.b h,.s v,.l s.a s.n s.c]
abbrev rsB(b:Nat)(e:Int)(h:Bool)(v:BA)(s:Sl):HP:=blk b [.i e,.b h,.s v,.l s.a s.n s.c]
abbrev Gm(b:Nat)(o:YK):HP:=blk b [.i o.kind,.s o.key,.s o.val,.i o.n]
abbrev L0(b:Nat):HP:=blk b [.i 0,.b false,.s ⟨#[]⟩,.l none 0 0]
def swR(k:Int)(z z':Sh):Prop:=z'.1=z.1/\z'.2.1=k/\((k=z.2.1/\z'=z)\/z'.2.2=some z.1.length)
def exR(a:Int)(z z':Sh):Prop:=z'.1=AR z.1 (Cz z.1 a)/\z'.2.1=z.2.1/\KK z'.2.2 z.2.2
def rsR(r:Int)(z:Sh)(g:BL)(z':Sh):Prop:=(g.Nodup/\∀x∈g,x∈kT z.1)/\(g=[]\/((AR z.1 g).length:Int)=r)/\z'=(AR z.1 g,z.2.1,none)
inductive F2 {α β:Type} (R:α->β->Prop):List α->List β->Prop
 | nil:F2 R [] []
 | cons {a b l m}:R a b->F2 R l m->F2 R (a::l) (b::m)
inductive F3 {α β γ:Type} (R:α->β->γ->Prop):List α->List β->List γ->Prop
 | nil:F3 R [] [] []
 | cons {a b c l m n}:R a b c->F3 R l m n->F3 R (a::l) (b::m) (c::n)
section
variable{α β γ:Type}{R:α->β->Prop}{S:α->β->γ->Prop}{l:List α}{m:List β}{n:List γ}{a:α}{b:β}{c:γ}{i:Nat}
theorem F2.snoc(h:F2 R l m)(c:R a b):F2 R (l++[a]) (m++[b]):=by
 induction h with
 | nil=>exact .cons c .nil
 | cons h _ d=>exact .cons h d
theorem F3.snoc(h:F3 S l m n)(d:S a b c):F3 S (l++[a]) (m++[b]) (n++[c]):=by
 induction h with
 | nil=>exact .cons d .nil
 | cons h _ e=>exact .cons h e
end
structure NoR(X:List Sh)(now:Int)(o:YK):Prop where
 n1:o.kind=1->K4 o.key now≠0
 n2:o.kind=2->Gy o.key o.val now o.n≠0
 n3:o.kind=3->K4 o.key now≠0
 n6:o.kind=6->¬(0<=o.n/\o.n<X.length)
 n8:o.kind=8->¬(0<=o.n/\o.n<5)
 n9:o.kind=9->¬(1<=o.n/\o.n<=1024)
inductive YM (rm now:Int) (X:List Sh) (o:YK):Int->Bool->BA->BL->Int->Int->List Sh->Prop
 | no {e:Int}:e≠0->NoR X now o->YM rm now X o e false ⟨#[]⟩ [] rm now X
 | get {T:TT} {kd:Int} {p q:Option Nat}:o.kind=1->K4 o.key now=0->X[BK X.length o.key]? = some (T,kd,p)->KK q p->YM rm now X o 0 (Ha T o.key now).2 (Ha T o.key now).1 (Dc T o.key now) rm now (X.set (BK X.length o.key) (C8 T o.key now,kd,q))
 | put {T:TT} {kd:Int} {p q:Option Nat} {g:BL}:o.kind=2->Gy o.key o.val now o.n=0->X[BK X.length o.key]? = some (T,kd,p)->KK q p->g.Nodup->(∀x∈g,x∈kT (C8 T o.key now))->o.key∉g->YM rm now X o 0 false ⟨#[]⟩ (Dc T o.key now++g) rm now (X.set (BK X.length o.key) (JR (AR (C8 T o.key now) g) o.key o.val now o.n,kd,q))
 | del {T:TT} {kd:Int} {p q:Option Nat}:o.kind=3->K4 o.key now=0->X[BK X.length o.key]? = some (T,kd,p)->KK q p->YM rm now X o 0 (AH (C8 T o.key now) o.key).isSome ⟨#[]⟩ (Dc T o.key now) rm now (X.set (BK X.length o.key) (FD (C8 T o.key now) o.key,kd,q))
 | tick {X':List Sh}:o.kind=4->0<=o.n->now+o.n<=1125899906842624->F2 (exR (now+o.n)) X X'->YM rm now X o 0 false ⟨#[]⟩ (X.map λz=>Cz z.1 (now+o.n)).flatten rm (now+o.n) X'
 | drain {h:Bool} {i:Nat} {T:TT} {kd:Int} {p q:Option Nat}:o.kind=5->o.n=i->X[i]? = some (T,kd,p)->KK q p->YM rm now X o 0 h ⟨#[]⟩ [] rm now (X.set i (T,kd,q))
 | step {h:Bool} {v:BA} {i:Nat} {T:TT} {kd:Int} {p q:Option Nat}:o.kind=6->o.n=i->X[i]? = some (T,kd,p)->KK q p->(∀m,q=some m->m<=T.length)->YM rm now X o 0 h v [] rm now (X.set i (T,kd,VQ q))
 | epoch {h:Bool} {v:BA} {X':List Sh} {k:Int}:o.kind=7->(0<=k/\k<5)->(X'=X\/F2 (swR k) X X')->YM rm now X o 0 h v [] rm now X'
 | force {X':List Sh}:o.kind=8->(0<=o.n/\o.n<5)->F2 (swR o.n) X X'->YM rm now X o 0 false ⟨#[]⟩ [] rm now X'
 | res {X':List Sh} {G:List BL}:o.kind=9->1<=o.n->o.n<=1024->F3 (rsR o.n) X G X'->YM rm now X o 0 false ⟨#[]⟩ G.flatten o.n now X'
abbrev TS(b k:Nat)(rm now:Int)(X:List Sh)(o:YK)(W:World)(M:List HP):VW:=λv w'=>∃(e:Int) (h:Bool) (x:BA) (sl:Sl) (a:BL) (d c:Int) (f:List Sh),v=rsV e h x sl/\YM rm now X o e h x a d c f/\Ab W w' (Lw b (k+1) d c f::recs Ap.str sl a::M)
theorem Rf{k:Type}{W:World}{f g:k->HP}(a:∀(x:k)(w:World)(M:List HP),Ab W w (f x::M)->Ab W w (g x::M)):∀{l:List k}{w:World}{M:List HP},Ab W w (AN (l.map f)::M)->Ab W w (AN (l.map g)::M)
 | [],w,M,h=>h
 | x::l,w,M,h=>by
  have b:Ab W w (f x::(l.map f++M)):=h.openL;have c:=a x w _ b;have d:Ab W w (l.map f++g x::M):=c.perm perm_middle.symm;have e:=Rf a (l:=l) (Ab.shutL d);have i:Ab W w (l.map g++g x::M):=e.openL;have j:Ab W w (g x::(l.map g++M)):=i.perm perm_middle;exact Ab.shutL j
section
variable{W w:World}{M L:List HP}{F:HP->List HP}{b k n m:Nat}{X:List Sh}{p ch:Nat}{sl:Sl}{Ls:List (Nat×Sh)}{rm now:Int}{o:YK}
theorem Awh(a:n<=m)(hs:Ab W w (Ff b n::M)):Ab W w (Ff b m::M):=by
 obtain⟨sb,r,l,c,hs⟩:=My hs;have hs:Ab W w (TR l n::blk b (pq sb 0::.i r::l.map λq=>pq q 0)::GZ sb::M):=by exact Ab.fin hs
 have hs:Ab W w (TR l m::blk b (pq sb 0::.i r::l.map λq=>pq q 0)::GZ sb::M):=Rf (λx w M hs=>GU a hs) hs;exact Mz c (by exact Ab.fin hs)
theorem Ao9(p:n<=m)(hs:Ab W w (FK b n::M)):Ab W w (FK b m::M):=by
 obtain⟨c,a,tb,d,e,f,g,h,kd,i,j,hs⟩:=Rj hs;have hs:Ab W w (tpe tb n::cC b c a tb d e f g h kd i::M):=by exact Ab.fin hs
 obtain⟨s,l,k,o,_,hs⟩:=Ad1 hs;have hs:Ab W w (tpe tb m::cC b c a tb d e f g h kd i::M):=MH (s:=s) (l:=l) (k:=k) ⟨o.1,by omega⟩ hs;exact HV j (by exact Ab.fin hs)
theorem Ado(a:n<=m)(hs:Ab W w (AN (Ls.map<|Dm rm n)::M)):Ab W w (AN (Ls.map<|Dm rm m)::M):=Rf (λx w M hs=>Gw a hs) hs
theorem DD(h:Ab W w (Lw b k rm now X::M)):∃(sl:Sl) (p ch:Nat) (Ls:List (Nat×Sh)),KCI rm now Ls.length/\Ls.map (·.2)=X/\Ls.length=X.length/\sl.n=Ls.length/\Ab W w (cB b sl p ch now::recs Ap.ptr sl (Ls.map (·.1))::Ff p k::FK ch k::AN (Ls.map<|Dm rm<|600000*k)::M):=by
 obtain⟨⟨sl,p,ch,Ls⟩,h⟩:=h.openE;obtain⟨⟨e,a⟩,h⟩:=h.openA;have h:=h.openL;have h:Ab W w (cB b sl p ch now::recs Ap.ptr sl (Ls.map (·.1))::Ff p k::FK ch k::AN (Ls.map<|Dm rm<|600000*k)::M):=h;have c:=(BE (s:=sl) h).1;rw[length_map] at c;have d:Ls.length=X.length:=by rw[<- a,length_map]
 exact⟨sl,p,ch,Ls,d ▸ e,a,d,c,h⟩
theorem C3{m1 m2 m3:Nat}(c:KCI rm now Ls.length)(a:Ls.map (·.2)=X)(d:m1<=k:=by omega)(e:m2<=k:=by omega)(f:m3<=600000*k:=by omega)(hs:Ab W w (cB b sl p ch now::recs Ap.ptr sl (Ls.map (·.1))::Ff p m1::FK ch m2::AN (Ls.map<|Dm rm m3)::M)):Ab W w (Lw b k rm now X::M):=by
 have hs:Ab W w (Ff p m1::cB b sl p ch now::recs Ap.ptr sl (Ls.map (·.1))::FK ch m2::AN (Ls.map<|Dm rm m3)::M):=by exact Ab.fin hs
 have hs:=Awh d hs;have hs:Ab W w (FK ch m2::cB b sl p ch now::recs Ap.ptr sl (Ls.map (·.1))::Ff p k::AN (Ls.map<|Dm rm m3)::M):=by exact Ab.fin hs
 have hs:=Ao9 e hs;have hs:Ab W w (AN (Ls.map<|Dm rm m3)::cB b sl p ch now::recs Ap.ptr sl (Ls.map (·.1))::Ff p k::FK ch k::M):=by exact Ab.fin hs
 have hs:=Ado f hs;have g:X.length=Ls.length:=by rw[<- a,length_map]
 exact Ab.shutE (sl,p,ch,Ls) (Ab.shutA ⟨g.symm ▸ c,a⟩<|Ab.shutL (Ps:=[_,_,_,_,_])<|by exact Ab.fin hs)
theorem W5(h:Ab W w (Lw b k rm now X::M)):KCI rm now X.length/\∀z∈X,Ayg rm z.1/\(0<=z.2.1/\z.2.1<5):=by
 obtain⟨sl,p,ch,Ls,hi,rfl,c,f,hs⟩:=DD h;refine⟨c ▸ hi,λz d=>?_⟩;obtain⟨y,e,rfl⟩:=mem_map.1 d;obtain⟨i,a,rfl⟩:=List.mem_iff_getElem.1 e;have hs:Ab W w (AN (Ls.map<|Dm rm<|600000*k)::cB b sl p ch now::recs Ap.ptr sl (Ls.map (·.1))::Ff p k::FK ch k::M):=by exact Ab.fin hs
 have hs:=QQ a hs;refine⟨Aw0 hs,?_⟩;obtain⟨l,R,evs,hi,hs⟩:=DV hs;exact(EX hs).2.1
theorem I3{e:Int}(a:e≠0)(c:NoR X now o)(hs:Ab W w (Lw b (k+1) rm now X::M)):TS b k rm now X o W M (rsV e false ⟨#[]⟩ ⟨none,0,0⟩) w:=
 ⟨e,false,⟨#[]⟩,⟨none,0,0⟩,[],rm,now,X,rfl,.no a c,(Ab.nilR Ap.str hs).perm<|List.Perm.swap _ _ _⟩
theorem PG{h:Bool}{x:BA}{a:List Sh}(c:YM rm now X o 0 h x [] rm now a)(hs:Ab W w (Lw b (k+1) rm now a::M)):TS b k rm now X o W M (rsV 0 h x ⟨none,0,0⟩) w:=
 ⟨0,h,x,⟨none,0,0⟩,[],rm,now,a,rfl,c,(Ab.nilR Ap.str hs).perm<|List.Perm.swap _ _ _⟩
theorem IR{f:Nat}{g j k m:Value}{K:Int->Bool->BA->Sl->WP}{e:Int}{h:Bool}{x:BA}{s:Sl}(hs:Ab W w L)[hA:At L f (blk f [g,j,k,m]) F](o:∀w',Ab W w' (F<|rsB f e h x s)->K e h x s w') :
  st f 0 (.i e) (st f 1 (.b h)<|st f 2 (.s x)<|st f 3 (.l s.a s.n s.c)<|ld (.int .i64) f 0 λa=>ld .bool f 1 λb=>ld .str f 2 λc=>ld .slc f 3 λd=>K a b c d) w:=by
 refine At.one (hA:=hA) hs λM hs p=>?_;refine A4 hs λw hs=>A4 hs λw hs=>A4 hs λw hs=>A4 hs λw hs=>?_;refine Af hs (Af hs<|Af hs<|Af (x:=s) hs ?_);exact o w (p _ _ hs)
theorem Au6{i:Nat}(hi:i<Ls.length):(Ls.map λz:Nat×Sh=>z.1).getD i default=(Ls[i]).1:=by
 rw[List.getD_eq_getElem?_getD,getElem?_map,getElem?_eq_getElem hi];rfl
theorem Na{i:Int}{j:Nat}(e:i=(j:Int))(hi:j<Ls.length):(Ap.ptr.cells<|(Ls.map λz:Nat×Sh=>z.1).getD i.toNat default)[0]? = some (CK.ptr.val<|some ⟨(Ls[j]).1,0,none⟩):=by
 subst e;rw[toNat_natCast,Au6 hi];rfl
theorem RO{pre:List (Nat×Sh)}{z:Nat×Sh}{a:List (Nat×Sh)}(e:Ls=pre++z::a):(Ap.ptr.cells<|(Ls.map λz:Nat×Sh=>z.1).getD (toNat (pre.length:Int)) default)[0]? = some (CK.ptr.val<|some ⟨z.1,0,none⟩):=by
 subst e;rw[toNat_natCast,List.getD_eq_getElem?_getD,getElem?_map,List.getElem?_append_right<|le_refl _,Nat.sub_self];rfl
theorem Ys{a:Type}{f:a->HP}{x:a}{l:List a}(h:Ab W w (AN ((x::l).map f)::M)):Ab W w (f x::AN (l.map f)::M):=QQ (i:=0) (l:=x::l) (Nat.succ_pos _) h
variable{i:Nat}{y:Sh}
theorem Mx(hi:i<Ls.length)(a:n<=m)(h:Ab W w (AN (Ls.map<|Dm rm n)::M)):Ab W w (sd (Ls[i]).1 rm n (Ls[i]).2.1 (Ls[i]).2.2.1 (Ls[i]).2.2.2::AN ((Ls.eraseIdx i).map<|Dm rm m)::M):=by
 have hs:=QQ hi h;have hs:=Ado (m:=m) a (hs.perm<|List.Perm.swap _ _ _);exact hs.perm (List.Perm.swap _ _ _)
theorem SE(hi:i<Ls.length)(a:n<=m)(h:Ab W w (sd (Ls[i]).1 rm n y.1 y.2.1 y.2.2::AN ((Ls.eraseIdx i).map<|Dm rm m)::M)):Ab W w (AN ((Ls.set i ((Ls[i]).1,y)).map<|Dm rm m)::M):=
 Awj (f:=Dm rm m) (x:=((Ls[i]).1,y)) hi (Gw a h)
theorem A5y(hi:i<Ls.length):(Ls.set i ((Ls[i]).1,y)).map (λz=>z.1)=Ls.map λz=>z.1:=by
 rw[map_set,<- List.getElem_map (λz:Nat×Sh=>z.1) (h:=by simpa using hi),List.set_getElem_self]
theorem L5{m1 m2:Nat}(a:KCI rm now Ls.length)(c:Ls.map (·.2)=X)(hi:i<Ls.length)(d:m1<=k+1:=by omega)(e:m2<=k+1:=by omega)(hs:Ab W w (AN ((Ls.set i ((Ls[i]).1,y)).map<|Dm rm<|600000*(k+1))::cB b sl p ch now::recs Ap.ptr sl (Ls.map λz=>z.1)::Ff p m1::FK ch m2::M)):Ab W w (Lw b (k+1) rm now (X.set i y)::M):=by
 refine C3 (sl:=sl) (p:=p) (ch:=ch) (m1:=m1) (m2:=m2) (m3:=600000*(k+1)) (Ls:=Ls.set i ((Ls[i]).1,y)) (by rw[List.length_set];exact a) (by rw[map_set,c]) d e (le_refl _) ?_;rw[A5y hi];exact Ab.fin hs
end
end Go.Hb
namespace Go.Proofs.YtjipofkjmmpjdaaGreat
open Go.Hb Go.IntWalk
section
variable{W w:World}{L M:List HP}{b k n:Nat}{X:List Sh}{p ch:Nat}{sl:Sl}{Ls:List (Nat×Sh)}{rm now:Int}{o:YK}{key:BA}
theorem Awx{m:Nat}(g:1<=m)(h:m<=8)(d:key.size<4611686018427387904)(hs:Ab W w L):Bh PR 81 #[.s key,.i (m:Int)] w λv w'=>v = .i (BK m key:Int)/\Ab W w' L:=by
 refine cw ⟨mixed,func81,rfl⟩ A37 ?_;refine Ao (Hl hs d) λe w ⟨b,hs⟩=>⟨_,b,?_⟩;refine Ao (Da hs _ _ _) λe w ⟨b,hs⟩=>⟨_,b,?_⟩;have e:F4 (m:Int) 1 8=(m:Int):=by unfold F4;rw[if_neg<|show ¬(1:Int)>(m:Int) by omega,if_neg<|by omega]
 rw[e];have c:0<=Fw 31 key:=by exact(GH 31 key).1
 refine Ao (GR hs c (by omega)<|by omega) λe w ⟨b,hs⟩=>⟨_,b,?_⟩;refine⟨?_,hs⟩;unfold BK;obtain⟨a,f⟩:=Int.eq_ofNat_of_zero_le c;rw[f];show Value.int .i64 (((toNat (a:Int)) % m:Nat):Int)=_;rw[toNat_natCast,<- Int.natCast_emod,toNat_natCast]
theorem A9v(a:1<=Ls.length)(d:Ls.length<=8)(i:sl.n=Ls.length)(f:key.size<4611686018427387904)(hs:Ab W w (cB b sl p ch now::recs Ap.ptr sl (Ls.map (·.1))::M)):Bh PR 50 #[pq b 0,.s key] w λv w'=>v = .p (some ⟨(Ls[BK Ls.length key]'(MC a key)).1,0,none⟩)/\Ab W w' (cB b sl p ch now::recs Ap.ptr sl (Ls.map (·.1))::M):=by
 refine cw ⟨mixed,func50,rfl⟩ A3g ?_;refine An [cB b sl p ch now] hs λw hs=>?_;refine Aa (Au (x:=sl)<|Aa<|Af (x:=sl) hs<|Ag hs ?_);rw[show((sl.n:Nat):Int)=(Ls.length:Int) by omega];refine Ah (Awx a d f hs) λv w ⟨g,hs⟩=>⟨_,g,Ag hs ?_⟩;have c:=MC a key;have h:(Ls.map (·.1)).length=Ls.length:=by rw[length_map]
 refine CO (s:=sl) hs (λj l e=>?_);refine Dh (s:=sl) (rows:=Ls.map λz:Nat×Sh=>z.1) e hs ?_ (k:=.ptr) (x:=some ⟨(Ls[BK Ls.length key]'c).1,0,none⟩) (hc:=Na rfl c);exact⟨rfl,hs⟩
theorem Ajr{i:Int}(l:sl.n=Ls.length)(hs:Ab W w (cB b sl p ch now::recs Ap.ptr sl (Ls.map (·.1))::M)):Bh PR 19 #[pq b 0,.i i] w λv w'=>((¬(0<=i/\i<Ls.length)/\v = .p none)\/∃(j:Nat) (h:j<Ls.length),i=j/\v = .p (some ⟨(Ls[j]).1,0,none⟩))/\Ab W w' (cB b sl p ch now::recs Ap.ptr sl (Ls.map (·.1))::M):=by
 refine cw ⟨mixed,func19,rfl⟩ A0r ?_;refine Ad rfl ?_
 with_reducible refine A3 (λe=>?_) (λe=>?_)
 ·exact⟨.inl ⟨by omega,rfl⟩,hs⟩
 refine Aa (Af (x:=sl) hs ?_)
 with_reducible refine A3 (λf=>?_) (λf=>?_)
 ·exact⟨.inl ⟨by omega,rfl⟩,hs⟩
 obtain⟨j,d⟩:∃j:Nat,i=(j:Int):=⟨i.toNat,by omega⟩;have a:j<Ls.length:=by omega
 refine jw Ae3 ?_;have g:(Ls.map (·.1)).length=Ls.length:=by rw[length_map]
 refine Aa (Af (x:=sl) hs ?_);refine CO (s:=sl) hs (λm o c=>?_);refine Dh (s:=sl) (rows:=Ls.map λz:Nat×Sh=>z.1) c hs ?_ (k:=.ptr) (x:=some ⟨(Ls[j]'a).1,0,none⟩) (hc:=Na d a);exact⟨.inr ⟨j,a,d,rfl⟩,hs⟩
theorem RZ{kd:Int}(u:0<=kd/\kd<5)(C:n<800000000000)(D:Ls.length<1000)(E:sl.n=Ls.length)(hs:Ab W w (AN (Ls.map<|Dm rm n)::cB b sl p ch now::recs Ap.ptr sl (Ls.map λz=>z.1)::M)) :
  Bh PR 60 #[pq b 0,.i kd] w λv w'=>v = .tuple #[]/\∃d:List (Nat×Sh),(d.map λz=>z.1)=(Ls.map λz=>z.1)/\F2 (swR kd) (Ls.map (·.2)) (d.map (·.2))/\Ab W w' (AN (d.map<|Dm rm<|n+520)::cB b sl p ch now::recs Ap.ptr sl (Ls.map λz=>z.1)::M):=by
 refine cw ⟨mixed,func60,rfl⟩ A3r ?_;refine Aa (Af (x:=sl) hs ?_);have y:(Ls.map (·.1)).length=Ls.length:=by rw[length_map]
 have h:∀(c pre a:List (Nat×Sh))(w:World),Ls=pre++c->(a.map λz=>z.1)=(pre.map λz=>z.1)->F2 (swR kd) (pre.map (·.2)) (a.map (·.2))->Ab W w (AN (c.map<|Dm rm n)::AN (a.map<|Dm rm<|n+520)::cB b sl p ch now::recs Ap.ptr sl (Ls.map λz=>z.1)::M) ->
   XN AU (λv w'=>v = .tuple #[]/\∃d:List (Nat×Sh),(d.map λz=>z.1)=(Ls.map λz=>z.1)/\F2 (swR kd) (Ls.map (·.2)) (d.map (·.2))/\Ab W w' (AN (d.map<|Dm rm<|n+520)::cB b sl p ch now::recs Ap.ptr sl (Ls.map λz=>z.1)::M)) (c.length+1) kd sl (sl.n:Int) (pre.length:Int) w:=by
  clear hs;intro c
  induction c with
  | nil=>
   intro pre a w e l o hs;rw[append_nil] at e;subst e;rw[length_nil,R6];refine Ad (decide_eq_false<|by omega) ?_;exact⟨rfl,a,l,o,by exact Ab.fin hs⟩
  | cons z g r=>
   intro pre a w e l o hs;rw[length_cons,R6];have A:Ls.length=pre.length+(g.length+1):=by rw[e];simp
   refine Am (decide_eq_true<|by omega) ?_;refine CO (s:=sl) hs λF G q=>?_;refine Dh (s:=sl) (rows:=Ls.map λz:Nat×Sh=>z.1) q hs ?_ (k:=.ptr) (x:=some ⟨z.1,0,none⟩) (hc:=RO e);have hs:=Ys hs;have t:pre++[z]++g=Ls:=by rw[e];simp
   refine Ah (An7 u (by omega) hs) λv w ⟨m,B,hs⟩=>⟨_,B,?_⟩;rw[show wrap .i64 ((pre.length:Int)+1)=((pre++[z]).length:Int) by rw[i64_in _<|by omega];simp]
   rcases hs with⟨j,hs⟩|hs
   ·have hs:=Gw (n':=n+520) (by omega) hs;have hs:Ab W w (Dm rm (n+520) z::AN (a.map<|Dm rm<|n+520)::AN (g.map<|Dm rm n)::cB b sl p ch now::recs Ap.ptr sl (Ls.map λz=>z.1)::M):=by exact Ab.fin hs
    have hs:=JM hs;refine r (pre++[z]) (a++[z]) w t.symm (by simp[l]) ?_ (by exact Ab.fin hs);rw[map_append,map_append];exact o.snoc ⟨rfl,j.symm,.inl ⟨j,rfl⟩⟩
   ·have hs:Ab W w (Dm rm (n+520) (z.1,z.2.1,kd,some z.2.1.length)::AN (a.map<|Dm rm<|n+520)::AN (g.map<|Dm rm n)::cB b sl p ch now::recs Ap.ptr sl (Ls.map λz=>z.1)::M):=by exact Ab.fin hs
    have hs:=JM hs;refine r (pre++[z]) (a++[(z.1,z.2.1,kd,some z.2.1.length)]) w t.symm (by simp[l]) ?_ (by exact Ab.fin hs);rw[map_append,map_append];exact o.snoc ⟨rfl,rfl,.inr rfl⟩
 have hs:=(Mw (f:=Dm rm (n+520)) hs).perm (List.Perm.swap _ _ _);exact AP _ (h Ls [] [] w rfl rfl .nil hs)
end
end Go.Proofs.YtjipofkjmmpjdaaGreat
namespace Go.Proofs.YtjipofkjmmpjdaaGreat
open Go.Hb Go.IntWalk
section
variable{W w:World}{L M:List HP}{b k n:Nat}{c kd:Int}{T:TT}{o:Option Nat}{X:List Sh}{p ch:Nat}{sl:Sl}{Ls:List (Nat×Sh)}{rm now:Int}
abbrev zB6(b:Nat)(x0 x1 x2 x3 x4 x5:Int):HP:=blk b [.i x0,.i x1,.i x2,.i x3,.i x4,.i x5]
abbrev Ag6(x0 x1 x2 x3 x4 x5:Int):Value:=.agg #[.i x0,.i x1,.i x2,.i x3,.i x4,.i x5]
theorem Aw2(hs:Ab W w (sd b c n T kd o::M)):Bh PR 44 #[pq b 0] w λv w'=>(∃x0 x1 x2 x3 x4 x5:Int,v=Ag6 x0 x1 x2 x3 x4 x5)/\Ab W w' (sd b c n T kd o::M):=by
 refine cw ⟨mixed,func44,rfl⟩ A3a ?_;refine Ak hs λb1 w hs=>Ad rfl ?_;have hs:Ab W w (sd b c n T kd o::zB6 b1 0 0 0 0 0 0::M):=by exact Ab.fin hs
 obtain⟨l,R,evs,hi,hs⟩:=DV hs;obtain⟨tb,fb,mb,s,x0,x1,x2,x3,x4,x5,hc,hs⟩:=Ch hs;refine Aa (Af hs<|Af hs<|Af hs<|Af hs<|Af hs<|Af hs ?_);refine A4 hs λw hs=>A4 hs λw hs=>A4 hs λw hs=>A4 hs λw hs=>A4 hs λw hs=>A4 hs λw hs=>?_;refine Af hs (Af hs<|Af hs<|Af hs<|Af hs<|Af hs ?_);have hs:Ab W w (cD b tb fb mb x0 x1 x2 x3 x4 x5 s::tabR tb T::fd fb l::FZ mb kd c R o::recs Gi s evs::M):=by exact Ab.fin hs
 exact⟨⟨_,_,_,_,_,_,rfl⟩,CB hi<|Bs hc hs⟩
theorem A4w(hs:Ab W w (Lw b k rm now X::M)):Bh PR 26 #[pq b 0] w λv w'=>(∃x0 x1 x2 x3 x4 x5:Int,v=Ag6 x0 x1 x2 x3 x4 x5)/\Ab W w' (Lw b k rm now X::M):=by
 refine cw ⟨mixed,func26,rfl⟩ A05 ?_;refine Ak hs λb1 w hs=>Ad rfl ?_;obtain⟨sl,p,ch,Ls,hi,r,A,B,hs⟩:=DD (b:=b) (k:=k) (rm:=rm) (now:=now) (X:=X) (M:=zB6 b1 0 0 0 0 0 0::M) (by exact Ab.fin hs);have C:=hi.sh8;have t:(Ls.map (·.1)).length=Ls.length:=by rw[length_map]
 refine Aa (Af (x:=sl) hs ?_);have d:∀(f i:Nat)(w:World)(e g h j l m:Int),i+f=Ls.length->Ab W w (AN (Ls.map<|Dm rm<|600000*k)::zB6 b1 e g h j l m::cB b sl p ch now::recs Ap.ptr sl (Ls.map λz=>z.1)::Ff p k::FK ch k::M) ->
   Xk AU (λv w'=>(∃x0 x1 x2 x3 x4 x5:Int,v=Ag6 x0 x1 x2 x3 x4 x5)/\Ab W w' (Lw b k rm now X::M)) (f+1) b1 0 sl (sl.n:Int) (i:Int) w:=by
  clear hs;intro f
  induction f with
  | zero=>
   intro i w e g h j l m o hs;rw[Ry];refine Ad (decide_eq_false<|by omega) ?_;refine jw Ae4 ?_;refine Af hs (Af hs<|Af hs<|Af hs<|Af hs<|Af hs ?_);refine A4 hs λw hs=>A4 hs λw hs=>A4 hs λw hs=>A4 hs λw hs=>A4 hs λw hs=>A4 hs λw hs=>?_;refine Af hs (Af hs<|Af hs<|Af hs<|Af hs<|Af hs ?_);exact⟨⟨_,_,_,_,_,_,rfl⟩,C3 (sl:=sl) (p:=p) (ch:=ch) (m1:=k) (m2:=k) (m3:=600000*k) hi r (le_refl _) (le_refl _) (le_refl _)<|by exact Ab.fin hs⟩
  | succ f u=>
   intro i w e g h j l m o hs;rw[Ry];have c:i<Ls.length:=by omega
   refine Am (decide_eq_true<|by omega) ?_;refine CO (s:=sl) hs λD E q=>?_;refine Dh (s:=sl) (rows:=Ls.map λz:Nat×Sh=>z.1) q hs ?_ (k:=.ptr) (x:=some ⟨(Ls[i]).1,0,none⟩) (hc:=Na rfl c);have hs:=QQ c hs;refine Ai.mono (Aw2 hs) λF w ⟨v,a,⟨x0,x1,x2,x3,x4,x5,y⟩,hs⟩=>⟨x0,x1,x2,x3,x4,x5,by rw[a,y],?_⟩;have hs:=M0 (f:=Dm rm (600000*k)) c hs;refine Ak hs λb2 w hs=>?_;refine A4 hs λw hs=>A4 hs λw hs=>A4 hs λw hs=>A4 hs λw hs=>A4 hs λw hs=>A4 hs λw hs=>?_;have hs:Ab W w (zB6 b1 e g h j l m::zB6 b2 x0 x1 x2 x3 x4 x5::AN (Ls.map<|Dm rm<|600000*k)::cB b sl p ch now::recs Ap.ptr sl (Ls.map λz=>z.1)::Ff p k::FK ch k::M):=by exact Ab.fin hs
   refine An [zB6 b1 e g h j l m,zB6 b2 x0 x1 x2 x3 x4 x5] hs λw hs=>?_;refine Au (Au<|Au<|Au<|Au<|Au<|Au<|Au<|Au<|Au<|Au<|Au ?_);refine Ao (MQ hs _ _) λe w ⟨a,hs⟩=>⟨_,a,Ag hs ?_⟩;refine Ao (MQ hs _ _) λe w ⟨a,hs⟩=>⟨_,a,Ag hs ?_⟩;refine Ao (MQ hs _ _) λe w ⟨a,hs⟩=>⟨_,a,Ag hs ?_⟩;refine Ao (MQ hs _ _) λe w ⟨a,hs⟩=>⟨_,a,Ag hs ?_⟩;refine Ao (MQ hs _ _) λe w ⟨a,hs⟩=>⟨_,a,Ag hs ?_⟩;refine Ao (MQ hs _ _) λe w ⟨a,hs⟩=>⟨_,a,?_⟩
   refine A4 hs λw hs=>A4 hs λw hs=>A4 hs λw hs=>A4 hs λw hs=>A4 hs λw hs=>A4 hs λw hs=>?_;rw[show wrap .i64 ((i:Int)+1)=((i+1:Nat):Int) by rw[i64_in _<|by omega];omega]
   exact u (i+1) w _ _ _ _ _ _ (by omega) (by exact Ab.fin hs)
 exact AP _ (d Ls.length 0 w 0 0 0 0 0 0 (by omega)<|by exact Ab.fin hs)
end
end Go.Proofs.YtjipofkjmmpjdaaGreat
namespace Go.Proofs.YtjipofkjmmpjdaaGreat
open Go.Hb Go.IntWalk
section
variable{W w:World}{L M:List HP}{b k n:Nat}{X:List Sh}{p ch:Nat}{sl:Sl}{Ls:List (Nat×Sh)}{rm now:Int}{o:YK}{key:BA}
theorem Sv{i:Nat}(hi:i<Ls.length):(Ls.map (·.2))[i]? = some ((Ls[i]).2.1,(Ls[i]).2.2.1,(Ls[i]).2.2.2):=by rw[getElem?_map,getElem?_eq_getElem hi];rfl
theorem A4x(f:o.kind=5)(r:k<1000000)(hs:Ab W w (Lw b k rm now X::M)):Bh PR 32 #[pq b 0,.agg #[.i o.kind,.s o.key,.s o.val,.i o.n]] w (TS b k rm now X o W M):=by
 refine cw ⟨mixed,func32,rfl⟩ A13 ?_;refine Ak hs λb1 w hs=>Ak hs λb2 w hs=>?_;obtain⟨sl,p,ch,Ls,hi,d,t,g,hs⟩:=DD (b:=b) (k:=k) (rm:=rm) (now:=now) (X:=X) (M:=L0 b2::Gm b1 o::M) (by exact Ab.fin hs);refine Af hs ?_;have hs:Ab W w (cB b sl p ch now::recs Ap.ptr sl (Ls.map (·.1))::AN (Ls.map<|Dm rm<|600000*k)::Ff p k::FK ch k::L0 b2::Gm b1 o::M):=by exact Ab.fin hs
 refine Ah (Ajr g hs) λv w ⟨a,hs⟩=>?_;rcases a with⟨h,a⟩|⟨j,c,e,a⟩
 ·refine⟨_,a,Am rfl ?_⟩;refine IR (s:=⟨none,0,0⟩) hs λw hs=>?_;refine I3 (by decide) ⟨by omega,by omega,by omega,by omega,by omega,by omega⟩ ?_;exact C3 (sl:=sl) (p:=p) (ch:=ch) (m1:=k) (m2:=k) (m3:=600000*k) hi d (by omega) (by omega) (by omega) (by exact Ab.fin hs)
 ·refine⟨_,a,Ad rfl ?_⟩;have hs:Ab W w (AN (Ls.map<|Dm rm<|600000*k)::cB b sl p ch now::recs Ap.ptr sl (Ls.map λz=>z.1)::Ff p k::FK ch k::L0 b2::Gm b1 o::M):=by exact Ab.fin hs
  have hs:=Mx (m:=600000*(k+1)) c (by omega) hs;refine Ah (Aw1 (by omega) hs) λv w ⟨m,a,l,q,hs⟩=>⟨_,a,?_⟩;have hs:=SE (y:=((Ls[j]).2.1,(Ls[j]).2.2.1,l)) c (by omega) hs;refine IR (s:=⟨none,0,0⟩) hs λw hs=>?_;refine PG (.drain f e (by rw[<- d];exact Sv c) q) ?_
  exact L5 (m1:=k) (m2:=k) hi d c (by omega) (by omega) (by exact Ab.fin hs)
theorem A9w(g:o.kind=6)(u:k<1000000)(hs:Ab W w (Lw b k rm now X::M)):Bh PR 33 #[pq b 0,.agg #[.i o.kind,.s o.key,.s o.val,.i o.n]] w (TS b k rm now X o W M):=by
 refine cw ⟨mixed,func33,rfl⟩ A19 ?_;refine Ak hs λb1 w hs=>Ak hs λb2 w hs=>?_;obtain⟨sl,p,ch,Ls,hi,d,v,h,hs⟩:=DD (b:=b) (k:=k) (rm:=rm) (now:=now) (X:=X) (M:=L0 b2::Gm b1 o::M) (by exact Ab.fin hs);refine Af hs ?_;have hs:Ab W w (cB b sl p ch now::recs Ap.ptr sl (Ls.map (·.1))::AN (Ls.map<|Dm rm<|600000*k)::Ff p k::FK ch k::L0 b2::Gm b1 o::M):=by exact Ab.fin hs
 refine Ah (Ajr h hs) λv w ⟨a,hs⟩=>?_;rcases a with⟨l,a⟩|⟨j,c,e,a⟩
 ·refine⟨_,a,Am rfl ?_⟩;refine IR (s:=⟨none,0,0⟩) hs λw hs=>?_;refine I3 (by decide) ⟨by omega,by omega,by omega,λ_=>by omega,by omega,by omega⟩ ?_;exact C3 (sl:=sl) (p:=p) (ch:=ch) (m1:=k) (m2:=k) (m3:=600000*k) hi d (by omega) (by omega) (by omega) (by exact Ab.fin hs)
 ·refine⟨_,a,Ad rfl ?_⟩;have hs:Ab W w (AN (Ls.map<|Dm rm<|600000*k)::cB b sl p ch now::recs Ap.ptr sl (Ls.map λz=>z.1)::Ff p k::FK ch k::L0 b2::Gm b1 o::M):=by exact Ab.fin hs
  have hs:=Mx (m:=600000*(k+1)) c (by omega) hs;refine AM (A5z (by omega) hs) λv w ⟨x,t,q,a,r,f,hs⟩=>⟨_,_,a,?_⟩;have hs:=SE (y:=((Ls[j]).2.1,(Ls[j]).2.2.1,VQ q)) c (by omega) hs;refine A4 hs λw hs=>A4 hs λw hs=>?_;refine Af hs (Af hs<|Af hs<|Af (k:=.slc) (x:=(⟨none,0,0⟩:Sl)) hs ?_);refine IR (s:=⟨none,0,0⟩) hs λw hs=>?_;refine PG (.step g e (by rw[<- d];exact Sv c) r f) ?_
  exact L5 (m1:=k) (m2:=k) hi d c (by omega) (by omega) (by exact Ab.fin hs)
theorem Ay8{kd:Int}(hs:Ab W w L):Bh PR 61 #[.i kd] w λv w'=>∃x:BA,v = .s x/\Ab W w' L:=by
 refine cw ⟨mixed,func61,rfl⟩ A3s ?_;refine As (λ_=>⟨_,rfl,hs⟩) λ_=>?_;refine As (λ_=>⟨_,rfl,hs⟩) λ_=>?_;refine As (λ_=>⟨_,rfl,hs⟩) λ_=>?_;refine As (λ_=>⟨_,rfl,hs⟩) λ_=>?_;refine As (λ_=>⟨_,rfl,hs⟩) λ_=>⟨_,rfl,hs⟩
theorem A4y(r:o.kind=7)(A:k<1000000)(hs:Ab W w (Lw b k rm now X::M)):Bh PR 34 #[pq b 0,.agg #[.i o.kind,.s o.key,.s o.val,.i o.n]] w (TS b k rm now X o W M):=by
 refine cw ⟨mixed,func34,rfl⟩ A2g ?_;refine Ak hs λb1 w hs=>Ak hs λb2 w hs=>?_;obtain⟨sl,p,ch,Ls,hi,j,B,u,hs⟩:=DD (b:=b) (k:=k) (rm:=rm) (now:=now) (X:=X) (M:=L0 b2::Gm b1 o::M) (by exact Ab.fin hs);have C:=hi.sh8;refine An [cB b sl p ch now] hs λw hs=>?_;refine Aa (Au<|Aa<|Af hs<|Ag hs ?_);have hs:Ab W w (Ff p k::cB b sl p ch now::recs Ap.ptr sl (Ls.map (·.1))::AN (Ls.map<|Dm rm<|600000*k)::FK ch k::L0 b2::Gm b1 o::M):=by exact Ab.fin hs
 refine Ai.mono (Awg hs) λD w ⟨v,y,x0,x1,x2,x3,x4,a,d,hs⟩=>⟨x0,x1,x2,x3,x4,a,by rw[y,d],Ag hs ?_⟩;have hs:Ab W w (FK ch k::cB b sl p ch now::recs Ap.ptr sl (Ls.map λz=>z.1)::Ff p k::AN (Ls.map<|Dm rm<|600000*k)::L0 b2::Gm b1 o::M):=by exact Ab.fin hs
 refine AM (Ao7 (by omega) hs) λv w ⟨kd,t,d,e,hs⟩=>⟨_,_,d,?_⟩;have l:∀(w:World)(f:List Sh),(f=X\/F2 (swR kd) X f)->Ab W w (L0 b2::Lw b (k+1) rm now f::Gm b1 o::M)->Afb AU (TS b k rm now X o W M) b2 0 kd t w:=by
  clear hs;intro w f g hs;refine jw Afc ?_;refine Ah (Ay8 hs) λv w ⟨x,d,hs⟩=>⟨_,d,?_⟩;refine IR (s:=⟨none,0,0⟩) hs λw hs=>?_;exact PG (.epoch r e g) (by exact Ab.fin hs)
 refine As (λ_=>?_) (λ_=>?_)
 ·have hs:Ab W w (AN (Ls.map<|Dm rm<|600000*k)::cB b sl p ch now::recs Ap.ptr sl (Ls.map λz=>z.1)::Ff p k::FK ch (k+1)::L0 b2::Gm b1 o::M):=by exact Ab.fin hs
  refine Bf (RZ e (by omega) (by omega) u hs) λv w ⟨d,c,m,q,hs⟩=>⟨d,?_⟩;have h:c.length=Ls.length:=by have:=congrArg length m;simpa using this
  rw[j] at q;refine l w (c.map (·.2)) (.inr q) ?_;have hs:=C3 (k:=k+1) (sl:=sl) (p:=p) (ch:=ch) (m1:=k) (m2:=k+1) (m3:=600000*k+520) (Ls:=c) (b:=b) (now:=now) (rm:=rm) (X:=c.map (·.2)) (M:=L0 b2::Gm b1 o::M) (h ▸ hi) rfl (by omega) (by omega) (by omega) (by rw[m];exact Ab.fin hs)
  exact Ab.fin hs
 ·refine l w X (.inl rfl) ?_;have hs:=C3 (k:=k+1) (sl:=sl) (p:=p) (ch:=ch) (m1:=k) (m2:=k+1) (m3:=600000*k) (Ls:=Ls) (b:=b) (now:=now) (rm:=rm) (X:=X) (M:=L0 b2::Gm b1 o::M) hi j (by omega) (by omega) (by omega) (by exact Ab.fin hs);exact Ab.fin hs
theorem A4z(r:o.kind=8)(u:k<1000000)(hs:Ab W w (Lw b k rm now X::M)):Bh PR 35 #[pq b 0,.agg #[.i o.kind,.s o.key,.s o.val,.i o.n]] w (TS b k rm now X o W M):=by
 refine cw ⟨mixed,func35,rfl⟩ A2u ?_;refine Ak hs λb1 w hs=>Ak hs λb2 w hs=>?_;obtain⟨sl,p,ch,Ls,hi,g,v,t,hs⟩:=DD (b:=b) (k:=k) (rm:=rm) (now:=now) (X:=X) (M:=L0 b2::Gm b1 o::M) (by exact Ab.fin hs);have x:=hi.sh8;refine An [cB b sl p ch now] hs λw hs=>?_;refine Aa (Au<|Af hs<|Ag hs ?_);have hs:Ab W w (FK ch k::cB b sl p ch now::recs Ap.ptr sl (Ls.map λz=>z.1)::Ff p k::AN (Ls.map<|Dm rm<|600000*k)::L0 b2::Gm b1 o::M):=by exact Ab.fin hs
 refine Ah (YX hs) λv w ⟨m,e,j,hs⟩=>⟨_,e,?_⟩
 with_reducible refine A3 (λa=>?_) (λa=>?_)
 ·refine Af hs ?_;have c:=j.1 a;have hs:Ab W w (AN (Ls.map<|Dm rm<|600000*k)::cB b sl p ch now::recs Ap.ptr sl (Ls.map λz=>z.1)::Ff p k::FK ch k::L0 b2::Gm b1 o::M):=by exact Ab.fin hs
  refine Bf (RZ c (by omega) (by omega) t hs) λv w ⟨e,d,l,q,hs⟩=>⟨e,?_⟩;have f:d.length=Ls.length:=by have:=congrArg length l;simpa using this
  rw[g] at q;refine IR (s:=⟨none,0,0⟩) hs λw hs=>?_;rw[a];refine PG (.force r c q) ?_;exact C3 (k:=k+1) (sl:=sl) (p:=p) (ch:=ch) (m1:=k) (m2:=k) (m3:=600000*k+520) (Ls:=d) (f ▸ hi) rfl (by omega) (by omega) (by omega) (by rw[l];exact Ab.fin hs)
 ·refine IR (s:=⟨none,0,0⟩) hs λw hs=>?_;refine I3 a ⟨by omega,by omega,by omega,by omega,λ_ h=>a<|j.2 h,by omega⟩ ?_;exact C3 (sl:=sl) (p:=p) (ch:=ch) (m1:=k) (m2:=k) (m3:=600000*k) hi g (by omega) (by omega) (by omega) (by exact Ab.fin hs)
end
end Go.Proofs.YtjipofkjmmpjdaaGreat
namespace Go.Proofs.YtjipofkjmmpjdaaGreat
open Go.Hb Go.IntWalk
section
variable{W w:World}{L M:List HP}{b k n:Nat}{X:List Sh}{p ch:Nat}{sl:Sl}{Ls:List (Nat×Sh)}{rm now:Int}{o:YK}{key:BA}
theorem Apr{T:TT}:(Cz T now).length<=T.length:=by
 unfold Cz;rw[length_map];exact List.length_filter_le _ _
theorem OB{e:Type}{c:Nat}:∀{L:List (List e)},(∀l∈L,l.length<=c)->L.flatten.length<=L.length*c
 | [],_=>by simp
 | l::L,h=>by
  have b:=h l (by simp);have d:=OB (L:=L) (c:=c) λx a=>h x (by simp[a]);simp only[flatten_cons,length_append,length_cons];rw[Nat.succ_mul];omega
theorem A9x(hk:o.kind=4)(hb:k<1000000)(hs:Ab W w (Lw b k rm now X::M)):Bh PR 31 #[pq b 0,.agg #[.i o.kind,.s o.key,.s o.val,.i o.n]] w (TS b k rm now X o W M):=by
 refine cw ⟨mixed,func31,rfl⟩ A1v ?_;have hok:=W5 hs;refine Ak hs λb1 w hs=>Ak hs λb2 w hs=>?_;obtain⟨sl,p,ch,Ls,hi,hX,hl,hn,hs⟩:=DD (b:=b) (k:=k) (rm:=rm) (now:=now) (X:=X) (M:=L0 b2::Gm b1 o::M) (by exact Ab.fin hs);have h8:=hi.sh8;have hn0:=hi.now0;have hnM:=hi.nowM
 have hS:∀z∈Ls,z.2.1.length<=1024:=λz hz=>by
  have h:=(hok.2 z.2 (by rw[<- hX];exact List.mem_map_of_mem hz)).1;have h1:=h.len;have h2:=h.c2
  omega
 have j1:∀(w:World)(t:Bool),(t=false->0<=o.n/\now+o.n<=1125899906842624)->Ab W w (cB b sl p ch now::recs Ap.ptr sl (Ls.map λz=>z.1)::Ff p k::FK ch k::AN (Ls.map (Dm rm (600000*k)))::L0 b2::Gm b1 o::M) ->
   Ae7 AU (TS b k rm now X o W M) (some ⟨b,0,none⟩) b1 0 b2 0 t w:=by
  clear hs;intro w t ht hs;refine jw Ae8 ?_;cases t with
  | true=>
   refine Am rfl ?_;refine IR (s:=⟨none,0,0⟩) hs λw hs=>?_;refine I3 (by decide) ⟨by omega,by omega,by omega,by omega,by omega,by omega⟩ ?_;exact C3 (sl:=sl) (p:=p) (ch:=ch) (m1:=k) (m2:=k) (m3:=600000*k) hi hX (by omega) (by omega) (by omega) (by exact Ab.fin hs)
  | false=>
   refine Ad rfl ?_;obtain⟨h0,h1⟩:=ht rfl;refine jw Ae9 ?_;refine An [cB b sl p ch now] hs λw hs=>?_;refine Aa (Au (Af hs (Ag hs ?_)));refine Aa (A4 hs λw hs=>?_);rw[i64_in _ (by omega)] at hs;refine Aa (Af (x:=sl) hs ?_);have hD:∀{X':List Sh},F2 (exR (now+o.n)) X X'->YM rm now X o 0 false ⟨#[]⟩ (X.map λz=>Cz z.1 (now+o.n)).flatten rm (now+o.n) X':=λh=>.tick hk h0 h1 h;have hn1:0<=now+o.n:=by omega
   generalize now+o.n=nw at hD hs h1 hn1;have hs:=Ab.nilR Ap.str hs;have hi':KCI rm nw Ls.length:=⟨hi.sh1,hi.sh8,hi.rm1,hi.rm2,hn1,h1⟩;have loop:∀(pend pre pre':List (Nat×Sh))(w:World)(gs:Sl),Ls=pre++pend->(pre'.map λz=>z.1)=(pre.map λz=>z.1)->F2 (exR nw) (pre.map (·.2)) (pre'.map (·.2)) ->
     Ab W w (recs Ap.str gs (pre.map λz=>Cz z.2.1 nw).flatten::rsB b2 0 false ⟨#[]⟩ gs::Gm b1 o::cB b sl p ch nw::recs Ap.ptr sl (Ls.map λz=>z.1)::Ff p k::FK ch k::AN (pre'.map (Dm rm (600000*(k+1))))::AN (pend.map (Dm rm (600000*k)))::M) ->
     Xy AU (TS b k rm now X o W M) (pend.length+1) (some ⟨b,0,none⟩) b2 0 sl (sl.n:Int) (pre.length:Int) w:=by
    clear hs;intro pend
    induction pend with
    | nil=>
     intro pre pre' w gs e g1 g2 hs;rw[append_nil] at e;rw[<- e] at g1 g2 hs;rw[<- e,length_nil,R1];refine Ad (decide_eq_false (by omega)) ?_;refine jw Afa ?_;refine Af hs (Af hs (Af hs (Af (x:=gs) hs ?_)));refine IR (s:=gs) hs λw hs=>?_;have hl':pre'.length=Ls.length:=by have:=congrArg length g1;simpa using this
     rw[hX] at g2;have e3:(X.map λz=>Cz z.1 nw)=Ls.map λz=>Cz z.2.1 nw:=by rw[<- hX,List.map_map];rfl
     refine⟨0,false,⟨#[]⟩,gs,(X.map λz=>Cz z.1 nw).flatten,rm,nw,pre'.map (·.2),rfl,hD g2,?_⟩;refine C3 (k:=k+1) (sl:=sl) (p:=p) (ch:=ch) (m1:=k) (m2:=k) (m3:=600000*(k+1)) (Ls:=pre') (hl' ▸ hi') rfl (by omega) (by omega) (by omega) ?_;rw[g1,e3];exact Ab.fin hs
    | cons z rest ih=>
     intro pre pre' w gs e g1 g2 hs;rw[length_cons,R1];have hle:Ls.length=pre.length+(rest.length+1):=by rw[e];simp
     have hlm:(Ls.map (·.1)).length=Ls.length:=by rw[length_map]
     refine Am (decide_eq_true (by omega)) ?_;refine CO (s:=sl) hs λb_ o_ ha_=>?_;refine Dh (s:=sl) (rows:=Ls.map λz:Nat×Sh=>z.1) ha_ hs ?_ (k:=.ptr) (x:=some ⟨z.1,0,none⟩) (hc:=RO e);refine An [rsB b2 0 false ⟨#[]⟩ gs,cB b sl p ch nw] hs λw hs=>?_;refine Au (x:=gs) (Aa (Af hs (Ag hs ?_)));have hs:Ab W w (AN ((z::rest).map (Dm rm (600000*k)))::recs Ap.str gs (pre.map λz=>Cz z.2.1 nw).flatten::rsB b2 0 false ⟨#[]⟩ gs::Gm b1 o::cB b sl p ch nw::recs Ap.ptr sl (Ls.map λz=>z.1)::Ff p k::FK ch k::AN (pre'.map (Dm rm (600000*(k+1))))::M):=by exact Ab.fin hs
     have hs:=Ys hs;refine Ah (An5 hn1 h1 (by omega) hs) λv w ⟨sg,hv,o',ho,hs⟩=>⟨_,hv,Ag hs ?_⟩;have hz:=hS z (by rw[e];simp)
     have hd:=Apr (T:=z.2.1) (now:=nw);have hfl:(pre.map λz=>Cz z.2.1 nw).flatten.length<=(pre.map λz=>Cz z.2.1 nw).length*1024:=OB λl hl=>by
      obtain⟨y,hy,rfl⟩:=mem_map.1 hl;have:=hS y (by rw[e];simp[hy])
      have:=Apr (T:=y.2.1) (now:=nw);omega
     rw[length_map] at hfl;refine GA (s:=gs) (new:=Cz z.2.1 nw) hs (GT (s:=sg) (E:=Ap.str) (rows:=Cz z.2.1 nw) hs) (BS (s:=sg) (E:=Ap.str) (rows:=Cz z.2.1 nw) hs) (Dt _) rfl (by decide) (by omega) λgs2 w hg2 hs=>?_;refine A4 hs λw hs=>?_;have hs:Ab W w (sd z.1 rm (600000*k+600000) (AR z.2.1 (Cz z.2.1 nw)) z.2.2.1 o'::AN (pre'.map (Dm rm (600000*(k+1))))::recs Ap.str gs2 ((pre.map λz=>Cz z.2.1 nw).flatten++Cz z.2.1 nw)::rsB b2 0 false ⟨#[]⟩ gs2::Gm b1 o::cB b sl p ch nw::recs Ap.ptr sl (Ls.map λz=>z.1)::Ff p k::FK ch k::AN (rest.map (Dm rm (600000*k)))::M):=by exact Ab.fin hs
     have hs:=Gw (n':=600000*(k+1)) (by omega) hs;have hs:Ab W w (Dm rm (600000*(k+1)) (z.1,AR z.2.1 (Cz z.2.1 nw),z.2.2.1,o')::AN (pre'.map (Dm rm (600000*(k+1))))::recs Ap.str gs2 ((pre.map λz=>Cz z.2.1 nw).flatten++Cz z.2.1 nw)::rsB b2 0 false ⟨#[]⟩ gs2::Gm b1 o::cB b sl p ch nw::recs Ap.ptr sl (Ls.map λz=>z.1)::Ff p k::FK ch k::AN (rest.map (Dm rm (600000*k)))::M):=hs;have hs:=JM hs;have e1:(pre.map λz=>Cz z.2.1 nw).flatten++Cz z.2.1 nw=((pre++[z]).map λz=>Cz z.2.1 nw).flatten:=by simp
     rw[e1] at hs;rw[show wrap .i64 ((pre.length:Int)+1)=((pre++[z]).length:Int) by rw[i64_in _ (by omega)];simp]
     refine ih (pre++[z]) (pre'++[(z.1,AR z.2.1 (Cz z.2.1 nw),z.2.2.1,o')]) w gs2 (by rw[e];simp) (by simp[g1]) ?_ (by exact Ab.fin hs);rw[map_append,map_append];exact g2.snoc ⟨rfl,rfl,ho⟩
   refine AP _ (loop Ls [] [] w ⟨none,0,0⟩ rfl rfl .nil ?_);have hs:=Mw (f:=Dm rm (600000*(k+1))) hs;exact(by exact Ab.fin hs:Ab W w (recs Ap.str ⟨none,0,0⟩ []::rsB b2 0 false ⟨#[]⟩ ⟨none,0,0⟩::Gm b1 o::cB b sl p ch nw::recs Ap.ptr sl (Ls.map λz=>z.1)::Ff p k::FK ch k::AN (([]:List (Nat×Sh)).map (Dm rm (600000*(k+1))))::AN (Ls.map (Dm rm (600000*k)))::M))
 refine An [cB b sl p ch now,Gm b1 o] hs λw hs=>?_;refine Af hs (Ag hs ?_);refine As (λh1=>?_) (λh1=>?_)
 ·exact Ag hs (j1 w true (λh=>by cases h) hs)
 ·refine Au (Aa (Af hs (Ag hs ?_)));refine j1 w _ (λh=>?_) hs;have h1:=of_decide_eq_false h1;have h2:=of_decide_eq_false h;rw[i64_in _ (by omega)] at h2;omega
theorem Avk(hk:o.kind=9)(hb:k<1000000)(hs:Ab W w (Lw b k rm now X::M)):Bh PR 36 #[pq b 0,.agg #[.i o.kind,.s o.key,.s o.val,.i o.n]] w (TS b k rm now X o W M):=by
 refine cw ⟨mixed,func36,rfl⟩ A2x ?_;have hok:=W5 hs;refine Ak hs λb1 w hs=>Ak hs λb2 w hs=>?_;obtain⟨sl,p,ch,Ls,hi,hX,hl,hn,hs⟩:=DD (b:=b) (k:=k) (rm:=rm) (now:=now) (X:=X) (M:=L0 b2::Gm b1 o::M) (by exact Ab.fin hs);have h8:=hi.sh8;have hn0:=hi.now0;have hnM:=hi.nowM
 have hS:∀z∈Ls,z.2.1.length<=1024:=λz hz=>by
  have h:=(hok.2 z.2 (by rw[<- hX];exact List.mem_map_of_mem hz)).1;have h1:=h.len;have h2:=h.c2
  omega
 have j1:∀(w:World)(t:Bool),(t=true->¬(1<=o.n/\o.n<=1024))->(t=false->1<=o.n/\o.n<=1024)->Ab W w (cB b sl p ch now::recs Ap.ptr sl (Ls.map λz=>z.1)::Ff p k::FK ch k::AN (Ls.map (Dm rm (600000*k)))::L0 b2::Gm b1 o::M) ->
   Afd AU (TS b k rm now X o W M) (some ⟨b,0,none⟩) b1 0 b2 0 t w:=by
  clear hs;intro w t htt ht hs;refine jw Afe ?_;cases t with
  | true=>
   refine Am rfl ?_;refine IR (s:=⟨none,0,0⟩) hs λw hs=>?_;refine I3 (by decide) ⟨by omega,by omega,by omega,by omega,by omega,λ_=>htt rfl⟩ ?_;exact C3 (sl:=sl) (p:=p) (ch:=ch) (m1:=k) (m2:=k) (m3:=600000*k) hi hX (by omega) (by omega) (by omega) (by exact Ab.fin hs)
  | false=>
   refine Ad rfl ?_;obtain⟨h0,h1⟩:=ht rfl;refine jw Aff ?_;refine Aa (Af (x:=sl) hs ?_);have hs:=Ab.nilR Ap.str hs;have hi':KCI o.n now Ls.length:=⟨hi.sh1,hi.sh8,h0,h1,hi.now0,hi.nowM⟩;have loop:∀(pend pre pre':List (Nat×Sh))(G:List BL)(w:World)(gs:Sl),Ls=pre++pend->(pre'.map λz=>z.1)=(pre.map λz=>z.1)->F3 (rsR o.n) (pre.map (·.2)) G (pre'.map (·.2))->G.flatten.length<=pre.length*1024 ->
     Ab W w (recs Ap.str gs G.flatten::rsB b2 0 false ⟨#[]⟩ gs::Gm b1 o::cB b sl p ch now::recs Ap.ptr sl (Ls.map λz=>z.1)::Ff p k::FK ch k::AN (pre'.map (Dm o.n (600000*(k+1))))::AN (pend.map (Dm rm (600000*k)))::M) ->
     XE AU (TS b k rm now X o W M) (pend.length+1) (some ⟨b,0,none⟩) b1 0 b2 0 sl (sl.n:Int) (pre.length:Int) w:=by
    clear hs;intro pend
    induction pend with
    | nil=>
     intro pre pre' G w gs e g1 g2 hfl hs;rw[append_nil] at e;rw[<- e] at g1 g2;rw[<- e,length_nil,R2];refine Ad (decide_eq_false (by omega)) ?_;refine jw Afg ?_;refine An [cB b sl p ch now,Gm b1 o] hs λw hs=>?_;refine Aa (Au (Au (Aa (Af (x:=sl) hs (Ag hs ?_)))));have hs:Ab W w (Ff p k::recs Ap.str gs G.flatten::rsB b2 0 false ⟨#[]⟩ gs::Gm b1 o::cB b sl p ch now::recs Ap.ptr sl (Ls.map λz=>z.1)::FK ch k::AN (pre'.map (Dm o.n (600000*(k+1))))::M):=by exact Ab.fin hs
     refine Bf (Anh hs) λv w ⟨hv,hs⟩=>⟨hv,?_⟩;refine Af hs (Af hs (Af hs (Af (x:=gs) hs ?_)));refine IR (s:=gs) hs λw hs=>?_;have hl':pre'.length=Ls.length:=by have:=congrArg length g1;simpa using this
     rw[hX] at g2;refine⟨0,false,⟨#[]⟩,gs,G.flatten,o.n,now,pre'.map (·.2),rfl,.res hk h0 h1 g2,?_⟩;refine C3 (k:=k+1) (sl:=sl) (p:=p) (ch:=ch) (m1:=0) (m2:=k) (m3:=600000*(k+1)) (Ls:=pre') (hl' ▸ hi') rfl (by omega) (by omega) (by omega) ?_;rw[g1];exact Ab.fin hs
    | cons z rest ih=>
     intro pre pre' G w gs e g1 g2 hfl hs;rw[length_cons,R2];have hle:Ls.length=pre.length+(rest.length+1):=by rw[e];simp
     have hlm:(Ls.map (·.1)).length=Ls.length:=by rw[length_map]
     refine Am (decide_eq_true (by omega)) ?_;refine CO (s:=sl) hs λb_ o_ ha_=>?_;refine Dh (s:=sl) (rows:=Ls.map λz:Nat×Sh=>z.1) ha_ hs ?_ (k:=.ptr) (x:=some ⟨z.1,0,none⟩) (hc:=RO e);refine Af hs ?_;have hs:Ab W w (AN ((z::rest).map (Dm rm (600000*k)))::recs Ap.str gs G.flatten::rsB b2 0 false ⟨#[]⟩ gs::Gm b1 o::cB b sl p ch now::recs Ap.ptr sl (Ls.map λz=>z.1)::Ff p k::FK ch k::AN (pre'.map (Dm o.n (600000*(k+1))))::M):=by exact Ab.fin hs
     have hs:=Ys hs;refine AM (An6 h0 h1 (by omega) hs) λv w ⟨sg,g,hv,hnd,hsub,hfull,hs⟩=>⟨_,_,hv,?_⟩;have hz:=hS z (by rw[e];simp)
     have hgl:g.length<=1024:=by
      have:=EC hnd hsub;unfold kT at this;rw[length_map] at this;omega
     refine Af (x:=gs) hs ?_;refine GA (s:=gs) (new:=g) hs (GT (s:=sg) (E:=Ap.str) (rows:=g) hs) (BS (s:=sg) (E:=Ap.str) (rows:=g) hs) (Dt _) rfl (by decide) (by omega) λgs2 w hg2 hs=>?_;refine A4 hs λw hs=>?_;have hs:=Gw (n':=600000*(k+1)) (by omega) hs;have hs:Ab W w (Dm o.n (600000*(k+1)) (z.1,AR z.2.1 g,z.2.2.1,none)::AN (pre'.map (Dm o.n (600000*(k+1))))::recs Ap.str gs2 (G.flatten++g)::rsB b2 0 false ⟨#[]⟩ gs2::Gm b1 o::cB b sl p ch now::recs Ap.ptr sl (Ls.map λz=>z.1)::Ff p k::FK ch k::AN (rest.map (Dm rm (600000*k)))::M):=by exact Ab.fin hs
     have hs:=JM hs;have e1:G.flatten++g=(G++[g]).flatten:=by simp
     rw[e1] at hs;rw[show wrap .i64 ((pre.length:Int)+1)=((pre++[z]).length:Int) by rw[i64_in _ (by omega)];simp]
     refine ih (pre++[z]) (pre'++[(z.1,AR z.2.1 g,z.2.2.1,none)]) (G++[g]) w gs2 (by rw[e];simp) (by simp[g1]) ?_ (by rw[<- e1,length_append,length_append,List.length_singleton];omega) (by exact Ab.fin hs);rw[map_append,map_append];exact g2.snoc ⟨⟨hnd,hsub⟩,hfull,rfl⟩
   refine AP _ (loop Ls [] [] [] w ⟨none,0,0⟩ rfl rfl .nil (by simp) ?_);have hs:=Mw (f:=Dm o.n (600000*(k+1))) hs;exact(by exact Ab.fin hs:Ab W w (recs Ap.str ⟨none,0,0⟩ []::rsB b2 0 false ⟨#[]⟩ ⟨none,0,0⟩::Gm b1 o::cB b sl p ch now::recs Ap.ptr sl (Ls.map λz=>z.1)::Ff p k::FK ch k::AN (([]:List (Nat×Sh)).map (Dm o.n (600000*(k+1))))::AN (Ls.map (Dm rm (600000*k)))::M))
 refine Af hs ?_;refine As (λh1=>?_) (λh1=>?_)
 ·have h1:=of_decide_eq_true h1;exact j1 w true (λ_=>by omega) (λh=>by cases h) hs
 ·refine Af hs ?_;have h1:=of_decide_eq_false h1;refine j1 w _ (λh=>?_) (λh=>?_) hs
  ·have h2:=of_decide_eq_true h;omega
  ·have h2:=of_decide_eq_false h;omega
end
end Go.Proofs.YtjipofkjmmpjdaaGreat
namespace Go.Proofs.YtjipofkjmmpjdaaGreat
open Go.Hb Go.IntWalk
section
variable{W w:World}{L M:List HP}{b k n:Nat}{X:List Sh}{p ch:Nat}{sl:Sl}{Ls:List (Nat×Sh)}{rm now:Int}{o:YK}{key:BA}
theorem Ml{W w:World}{L:List HP}{F:HP->List HP}{b o i:Nat}{cs:List Value}{f:FuncId}{N K:WP}{l:List (FuncId×WP)}(h:Ab W w L)[hA:At L b (Hb.blk b cs) F](a:l[i]? = some (f,K))(hc:cs[o]? = some (.func (.func f) #[] #[]))(c:K w):ldV b o N l w:=
 At.one (hA:=hA) h λ_ h _=>by unfold ldV;rw[(h.cell (q:=0) rfl).trans hc];exact⟨rfl,rfl,_,mem_of_getElem? a,rfl,c⟩
theorem A91{W w:World}{L:List HP}{F:HP->List HP}{b o:Nat}{cs:List Value}{N:WP}{l:List (FuncId×WP)}(h:Ab W w L)[hA:At L b (Hb.blk b cs) F](hc:cs[o]? = some .nilFunc)(a:N w):ldV b o N l w:=
 At.one (hA:=hA) h λ_ h _=>by unfold ldV;rw[(h.cell (q:=0) rfl).trans hc];exact a
theorem IK{W w:World}{L:List HP}{F:HP->List HP}{b o i:Nat}{cs:List Value}{f:FuncId}{N K:WP}{l:List (FuncId×WP)}[hA:At L b (Hb.blk b cs) F](a:l[i]? = some (f,K))(hc:cs[o]? = some (.func (.func f) #[] #[]))(c:K w):Avr (λw'=>Ab W w' L) b o N l w:=
 .inr ⟨(f,K),mem_of_getElem? a,λw' h=>At.one (hA:=hA) h λ_ h _=>(h.cell (q:=0) rfl).trans hc,c⟩
abbrev fnB(b:Nat):HP:=blk b [.nilFunc,.func (.func 28) #[] #[],.func (.func 29) #[] #[],.func (.func 30) #[] #[],.func (.func 31) #[] #[],.func (.func 32) #[] #[],.func (.func 33) #[] #[],.func (.func 34) #[] #[],.func (.func 35) #[] #[],.func (.func 36) #[] #[]]
theorem Bcf(t:o.kind=1)(u:o.key.size<4611686018427387904)(D:k<1000000)(hs:Ab W w (Lw b k rm now X::M)):Bh PR 28 #[pq b 0,.agg #[.i o.kind,.s o.key,.s o.val,.i o.n]] w (TS b k rm now X o W M):=by
 refine cw ⟨mixed,func28,rfl⟩ A1g ?_;refine Ak hs λb1 w hs=>Ak hs λb2 w hs=>?_;obtain⟨sl,p,ch,Ls,hi,e,l,A,hs⟩:=DD (b:=b) (k:=k) (rm:=rm) (now:=now) (X:=X) (M:=L0 b2::Gm b1 o::M) (by exact Ab.fin hs);refine An [cB b sl p ch now,Gm b1 o] hs λw hs=>?_;refine Au (Au<|Aa<|Au ?_);refine Ah (A9v hi.sh1 hi.sh8 A u hs) λv w ⟨a,hs⟩=>⟨_,a,Ag hs ?_⟩;have d:=MC hi.sh1 o.key;have g:X[BK X.length o.key]? = some ((Ls[BK Ls.length o.key]).2.1,(Ls[BK Ls.length o.key]).2.2.1,(Ls[BK Ls.length o.key]).2.2.2):=by rw[<- l];have:=Sv d;rw[e] at this;exact this
 have hs:Ab W w (AN (Ls.map<|Dm rm<|600000*k)::cB b sl p ch now::recs Ap.ptr sl (Ls.map λz=>z.1)::Ff p k::FK ch k::L0 b2::Gm b1 o::M):=by exact Ab.fin hs
 have hs:=Mx (m:=600000*(k+1)) d (by omega) hs;refine Ai.mono (Bar (key:=o.key) (now:=now) (by omega) hs) λE w ⟨v,q,h⟩=>?_;rcases h with⟨c,a,hs⟩|⟨r,sg,a,j,B,hs⟩
 ·refine⟨_,_,⟨none,0,0⟩,_,by rw[q,a],?_⟩;refine A4 hs λw hs=>A4 hs λw hs=>A4 hs λw hs=>A4 hs λw hs=>Af hs ?_;refine Ad (by simpa using c) ?_;refine Af hs (Af hs<|Af hs<|Af (k:=.slc) (x:=(⟨none,0,0⟩:Sl)) hs ?_);refine IR (s:=⟨none,0,0⟩) hs λw hs=>?_;have hs:=M0 (f:=Dm rm (600000*(k+1))) d (Gw (n':=600000*(k+1)) (by omega)<|show Ab W w (sd (Ls[BK Ls.length o.key]).1 rm (600000*k) (Ls[BK Ls.length o.key]).2.1 (Ls[BK Ls.length o.key]).2.2.1 (Ls[BK Ls.length o.key]).2.2.2::AN ((Ls.eraseIdx<|BK Ls.length o.key).map<|Dm rm<|600000*(k+1))::cB b sl p ch now::recs Ap.ptr sl (Ls.map λz=>z.1)::Ff p k::FK ch k::M) by exact Ab.fin hs)
  refine I3 c ⟨λ_=>c,by omega,by omega,by omega,by omega,by omega⟩ ?_;exact C3 (sl:=sl) (p:=p) (ch:=ch) (m1:=k) (m2:=k) (m3:=600000*(k+1)) hi e (by omega) (by omega) (by omega) (by exact Ab.fin hs)
 ·refine⟨_,_,sg,_,by rw[q,a],?_⟩;refine A4 hs λw hs=>A4 hs λw hs=>A4 hs λw hs=>A4 hs λw hs=>Af hs ?_;refine Am rfl ?_;have hs:Ab W w (sd (Ls[BK Ls.length o.key]).1 rm (600000*k+520) (C8 (Ls[BK Ls.length o.key]).2.1 o.key now) (Ls[BK Ls.length o.key]).2.2.1 j::AN ((Ls.eraseIdx<|BK Ls.length o.key).map<|Dm rm<|600000*(k+1))::cB b sl p ch now::recs Ap.ptr sl (Ls.map λz=>z.1)::Ff p k::FK ch k::recs Ap.str sg (Dc (Ls[BK Ls.length o.key]).2.1 o.key now)::rsB b2 0 (Ha (Ls[BK Ls.length o.key]).2.1 o.key now).2 (Ha (Ls[BK Ls.length o.key]).2.1 o.key now).1 sg::Gm b1 o::M):=by exact Ab.fin hs
  have hs:=SE (y:=(C8 (Ls[BK Ls.length o.key]).2.1 o.key now,(Ls[BK Ls.length o.key]).2.2.1,j)) d (by omega) hs;refine An [cB b sl p ch now] hs λw hs=>?_;refine Aa (Au<|Af hs<|Ag hs ?_);have C:=Ef (Yi r).1;have hs:Ab W w (Ff p k::AN ((Ls.set (BK Ls.length o.key) ((Ls[BK Ls.length o.key]).1,(C8 (Ls[BK Ls.length o.key]).2.1 o.key now,(Ls[BK Ls.length o.key]).2.2.1,j))).map<|Dm rm<|600000*(k+1))::cB b sl p ch now::recs Ap.ptr sl (Ls.map λz=>z.1)::FK ch k::recs Ap.str sg (Dc (Ls[BK Ls.length o.key]).2.1 o.key now)::rsB b2 0 (Ha (Ls[BK Ls.length o.key]).2.1 o.key now).2 (Ha (Ls[BK Ls.length o.key]).2.1 o.key now).1 sg::Gm b1 o::M):=by exact Ab.fin hs
  refine Ah (VZ (by omega) (by omega) hs) λv w ⟨x,a,hs⟩=>⟨_,a,?_⟩;refine Af hs (Af hs<|Af hs<|Af (k:=.slc) (x:=sg) hs ?_);refine IR (s:=sg) hs λw hs=>?_;refine⟨0,_,_,sg,_,rm,now,_,rfl,.get t r g B,?_⟩;rw[<- l];exact L5 (m1:=k+1) (m2:=k) (sl:=sl) (p:=p) (ch:=ch) hi e d (by omega) (by omega) (by exact Ab.fin hs)
theorem Bcg(hk:o.kind=2)(hz:o.key.size<4611686018427387904)(hb:k<1000000)(hs:Ab W w (Lw b k rm now X::M)):Bh PR 29 #[pq b 0,.agg #[.i o.kind,.s o.key,.s o.val,.i o.n]] w (TS b k rm now X o W M):=by
 refine cw ⟨mixed,func29,rfl⟩ A1k ?_;refine Ak hs λb1 w hs=>Ak hs λb2 w hs=>?_;obtain⟨sl,p,ch,Ls,hi,hX,hl,hn,hs⟩:=DD (b:=b) (k:=k) (rm:=rm) (now:=now) (X:=X) (M:=L0 b2::Gm b1 o::M) (by exact Ab.fin hs);refine An [cB b sl p ch now,Gm b1 o] hs λw hs=>?_;refine Au (Au (Au (Aa (Au (Au ?_)))));refine Ah (A9v hi.sh1 hi.sh8 hn hz hs) λv w ⟨hv,hs⟩=>⟨_,hv,Ag hs ?_⟩;have hj:=MC hi.sh1 o.key;have hat:X[BK X.length o.key]? = some ((Ls[BK Ls.length o.key]).2.1,(Ls[BK Ls.length o.key]).2.2.1,(Ls[BK Ls.length o.key]).2.2.2):=by rw[<- hl];have:=Sv hj;rw[hX] at this;exact this
 have hs:Ab W w (AN (Ls.map (Dm rm (600000*k)))::cB b sl p ch now::recs Ap.ptr sl (Ls.map λz=>z.1)::Ff p k::FK ch k::L0 b2::Gm b1 o::M):=by exact Ab.fin hs
 have hs:=Mx (m:=600000*(k+1)) hj (by omega) hs;refine AM (Bat (key:=o.key) (val:=o.val) (now:=now) (life:=o.n) (by omega) hs) λv w h=>?_;rcases h with⟨hne,hv,hs⟩|⟨h0,sg,g,hv,hnd,hsub,hng,o',ho,hs⟩
 ·refine⟨⟨none,0,0⟩,_,hv,?_⟩;refine A4 hs λw hs=>A4 hs λw hs=>Af hs ?_;refine Ad (by simpa using hne) ?_;refine Af hs (Af hs (Af hs (Af (k:=.slc) (x:=(⟨none,0,0⟩:Sl)) hs ?_)));refine IR (s:=⟨none,0,0⟩) hs λw hs=>?_;have hs:=M0 (f:=Dm rm (600000*(k+1))) hj (Gw (n':=600000*(k+1)) (by omega) (show Ab W w (sd (Ls[BK Ls.length o.key]).1 rm (600000*k) (Ls[BK Ls.length o.key]).2.1 (Ls[BK Ls.length o.key]).2.2.1 (Ls[BK Ls.length o.key]).2.2.2::AN ((Ls.eraseIdx (BK Ls.length o.key)).map (Dm rm (600000*(k+1))))::cB b sl p ch now::recs Ap.ptr sl (Ls.map λz=>z.1)::Ff p k::FK ch k::M) by exact Ab.fin hs))
  refine I3 hne ⟨by omega,λ_=>hne,by omega,by omega,by omega,by omega⟩ ?_;exact C3 (sl:=sl) (p:=p) (ch:=ch) (m1:=k) (m2:=k) (m3:=600000*(k+1)) hi hX (by omega) (by omega) (by omega) (by exact Ab.fin hs)
 ·refine⟨sg,_,hv,?_⟩;refine A4 hs λw hs=>A4 hs λw hs=>Af hs ?_;refine Am rfl ?_;have hs:Ab W w (sd (Ls[BK Ls.length o.key]).1 rm (600000*k+1561) (JR (AR (C8 (Ls[BK Ls.length o.key]).2.1 o.key now) g) o.key o.val now o.n) (Ls[BK Ls.length o.key]).2.2.1 o'::AN ((Ls.eraseIdx (BK Ls.length o.key)).map (Dm rm (600000*(k+1))))::cB b sl p ch now::recs Ap.ptr sl (Ls.map λz=>z.1)::Ff p k::FK ch k::recs Ap.str sg (Dc (Ls[BK Ls.length o.key]).2.1 o.key now++g)::rsB b2 0 false ⟨#[]⟩ sg::Gm b1 o::M):=by exact Ab.fin hs
  have hs:=SE (y:=(JR (AR (C8 (Ls[BK Ls.length o.key]).2.1 o.key now) g) o.key o.val now o.n,(Ls[BK Ls.length o.key]).2.2.1,o')) hj (by omega) hs;refine An [cB b sl p ch now] hs λw hs=>?_;refine Aa (Au (Af hs (Ag hs ?_)));have hk2:=Ef (MF h0).1;have hs:Ab W w (Ff p k::AN ((Ls.set (BK Ls.length o.key) ((Ls[BK Ls.length o.key]).1,(JR (AR (C8 (Ls[BK Ls.length o.key]).2.1 o.key now) g) o.key o.val now o.n,(Ls[BK Ls.length o.key]).2.2.1,o'))).map (Dm rm (600000*(k+1))))::cB b sl p ch now::recs Ap.ptr sl (Ls.map λz=>z.1)::FK ch k::recs Ap.str sg (Dc (Ls[BK Ls.length o.key]).2.1 o.key now++g)::rsB b2 0 false ⟨#[]⟩ sg::Gm b1 o::M):=by exact Ab.fin hs
  refine Ah (VZ (by omega) (by omega) hs) λv w ⟨x,hv,hs⟩=>⟨_,hv,?_⟩;refine Af hs (Af hs (Af hs (Af (k:=.slc) (x:=sg) hs ?_)));refine IR (s:=sg) hs λw hs=>?_;refine⟨0,_,_,sg,_,rm,now,_,rfl,.put hk h0 hat ho hnd hsub hng,?_⟩;rw[<- hl];exact L5 (m1:=k+1) (m2:=k) (sl:=sl) (p:=p) (ch:=ch) hi hX hj (by omega) (by omega) (by exact Ab.fin hs)
theorem Avj(r:o.kind=3)(t:o.key.size<4611686018427387904)(C:k<1000000)(hs:Ab W w (Lw b k rm now X::M)):Bh PR 30 #[pq b 0,.agg #[.i o.kind,.s o.key,.s o.val,.i o.n]] w (TS b k rm now X o W M):=by
 refine cw ⟨mixed,func30,rfl⟩ A1p ?_;refine Ak hs λb1 w hs=>Ak hs λb2 w hs=>?_;obtain⟨sl,p,ch,Ls,hi,e,j,u,hs⟩:=DD (b:=b) (k:=k) (rm:=rm) (now:=now) (X:=X) (M:=L0 b2::Gm b1 o::M) (by exact Ab.fin hs);refine An [cB b sl p ch now,Gm b1 o] hs λw hs=>?_;refine Au (Au<|Aa<|Au ?_);refine Ah (A9v hi.sh1 hi.sh8 u t hs) λv w ⟨a,hs⟩=>⟨_,a,Ag hs ?_⟩;have c:=MC hi.sh1 o.key;have g:X[BK X.length o.key]? = some ((Ls[BK Ls.length o.key]).2.1,(Ls[BK Ls.length o.key]).2.2.1,(Ls[BK Ls.length o.key]).2.2.2):=by rw[<- j];have:=Sv c;rw[e] at this;exact this
 have hs:Ab W w (AN (Ls.map<|Dm rm<|600000*k)::cB b sl p ch now::recs Ap.ptr sl (Ls.map λz=>z.1)::Ff p k::FK ch k::L0 b2::Gm b1 o::M):=by exact Ab.fin hs
 have hs:=Mx (m:=600000*(k+1)) c (by omega) hs;refine Ai.mono (An4 (key:=o.key) (now:=now) (by omega) hs) λD w ⟨v,l,h⟩=>?_;rcases h with⟨d,a,hs⟩|⟨A,sg,a,q,B,hs⟩
 ·refine⟨_,⟨none,0,0⟩,_,by rw[l,a];rfl,?_⟩;refine A4 hs λw hs=>A4 hs λw hs=>A4 hs λw hs=>?_;refine Af hs (Af hs<|Af hs<|Af (k:=.slc) (x:=(⟨none,0,0⟩:Sl)) hs ?_);refine IR (s:=⟨none,0,0⟩) hs λw hs=>?_;have hs:=M0 (f:=Dm rm (600000*(k+1))) c (Gw (n':=600000*(k+1)) (by omega)<|show Ab W w (sd (Ls[BK Ls.length o.key]).1 rm (600000*k) (Ls[BK Ls.length o.key]).2.1 (Ls[BK Ls.length o.key]).2.2.1 (Ls[BK Ls.length o.key]).2.2.2::AN ((Ls.eraseIdx<|BK Ls.length o.key).map<|Dm rm<|600000*(k+1))::cB b sl p ch now::recs Ap.ptr sl (Ls.map λz=>z.1)::Ff p k::FK ch k::M) by exact Ab.fin hs)
  refine I3 d ⟨by omega,by omega,λ_=>d,by omega,by omega,by omega⟩ ?_;exact C3 (sl:=sl) (p:=p) (ch:=ch) (m1:=k) (m2:=k) (m3:=600000*(k+1)) hi e (by omega) (by omega) (by omega) (by exact Ab.fin hs)
 ·refine⟨_,sg,_,by rw[l,a];rfl,?_⟩;refine A4 hs λw hs=>A4 hs λw hs=>A4 hs λw hs=>?_;refine Af hs (Af hs<|Af hs<|Af (k:=.slc) (x:=sg) hs ?_);refine IR (s:=sg) hs λw hs=>?_;have hs:Ab W w (sd (Ls[BK Ls.length o.key]).1 rm (600000*k+1040) (FD (C8 (Ls[BK Ls.length o.key]).2.1 o.key now) o.key) (Ls[BK Ls.length o.key]).2.2.1 q::AN ((Ls.eraseIdx<|BK Ls.length o.key).map<|Dm rm<|600000*(k+1))::cB b sl p ch now::recs Ap.ptr sl (Ls.map λz=>z.1)::Ff p k::FK ch k::recs Ap.str sg (Dc (Ls[BK Ls.length o.key]).2.1 o.key now)::M):=by exact Ab.fin hs
  have hs:=SE (y:=(FD (C8 (Ls[BK Ls.length o.key]).2.1 o.key now) o.key,(Ls[BK Ls.length o.key]).2.2.1,q)) c (by omega) hs;refine⟨0,_,_,sg,_,rm,now,_,rfl,.del r A g B,?_⟩;rw[<- j];exact L5 (m1:=k) (m2:=k) (sl:=sl) (p:=p) (ch:=ch) hi e c (by omega) (by omega) (by exact Ab.fin hs)
theorem M4{P:Program}{f:FuncId}{args:Array Value}{m:Nat}{r u A B:Value}(C:Bh P f args w (TS b k rm now X o W (blk m [r,u,A,B]::L))){K:Int->Bool->BA->Sl->WP}
  (D:∀(e:Int)(h:Bool)(x:BA)(sl:Sl)(g:BL)(p j:Int)(q:List Sh)(w':World),YM rm now X o e h x g p j q->Ab W w' (Lw b (k+1) p j q::recs Ap.str sl g::L)->K e h x sl w') :
  Ai P f args w λe w'=>∃(x:Int) (y:Bool) (z:BA) (t:Sl),e = .returned (.agg #[.i x,.b y,.s z,.l t.a t.n t.c])/\(st m 0 (.i x) (st m 1 (.b y)<|st m 2 (.s z)<|st m 3 (.l t.a t.n t.c)<|ld (.int .i64) m 0 λa=>ld .bool m 1 λb=>ld .str m 2 λc=>ld .slc m 3 λd=>K a b c d) w'):=by
 refine Ai.mono C λH w ⟨v,E,e,h,x,sl,g,p,j,q,F,G,hs⟩=>⟨e,h,x,sl,by rw[E,F],?_⟩;exact IR hs λw hs=>D e h x sl g p j q w G (by exact Ab.fin hs)
theorem A70{b1 b2 a:Nat}(d:o.kind<=0\/10<=o.kind)(hs:Ab W w (fnB a::L0 b2::Gm b1 o::Lw b k rm now X::M)):EN AU (TS b k rm now X o W M) (some ⟨b,0,none⟩) b1 0 b2 0 a 0 true w:=by
 refine jw Rx ?_;refine Am rfl ?_;refine IR (s:=⟨none,0,0⟩) hs λw hs=>?_;refine I3 (by decide) ⟨by omega,by omega,by omega,by omega,by omega,by omega⟩ ?_;obtain⟨sl,p,ch,Ls,hi,c,e,f,hs⟩:=DD (b:=b) (k:=k) (rm:=rm) (now:=now) (X:=X) (M:=M) (by exact Ab.fin hs);exact C3 (sl:=sl) (p:=p) (ch:=ch) (m1:=k) (m2:=k) (m3:=600000*k) hi c (by omega) (by omega) (by omega) hs
theorem WA{b1 b2 l:Nat}(n:1<=o.kind/\o.kind<=9)(m:o.key.size<4611686018427387904)(j:k<1000000)(hs:Ab W w (fnB l::L0 b2::Gm b1 o::Lw b k rm now X::M)):EN AU (TS b k rm now X o W M) (some ⟨b,0,none⟩) b1 0 b2 0 l 0 false w:=by
 refine jw Rx ?_;refine Ad rfl ?_;refine jw Ae2 ?_;refine An [Gm b1 o,fnB l] hs λw hs=>?_;refine Au (x:=o.kind) ?_;refine A1 (by omega) ?_;have hs:Ab W w (Lw b k rm now X::L0 b2::fnB l::Gm b1 o::M):=by exact Ab.fin hs
 have hc:o.kind=1\/o.kind=2\/o.kind=3\/o.kind=4\/o.kind=5\/o.kind=6\/o.kind=7\/o.kind=8\/o.kind=9:=by omega
 rcases hc with h|h|h|h|h|h|h|h|h
 ·refine IK (i:=1) rfl (by rw[h];rfl) ?_;refine Af hs (Af hs<|Af hs<|Af hs<|Ag hs ?_);exact M4 (Bcf h m j hs) λe h x sl a d c f w g hs=>⟨e,h,x,sl,a,d,c,f,rfl,g,by exact Ab.fin hs⟩
 ·refine IK (i:=2) rfl (by rw[h];rfl) ?_;refine Af hs (Af hs<|Af hs<|Af hs<|Ag hs ?_);exact M4 (Bcg h m j hs) λe h x sl a d c f w g hs=>⟨e,h,x,sl,a,d,c,f,rfl,g,by exact Ab.fin hs⟩
 ·refine IK (i:=3) rfl (by rw[h];rfl) ?_;refine Af hs (Af hs<|Af hs<|Af hs<|Ag hs ?_);exact M4 (Avj h m j hs) λe h x sl a d c f w g hs=>⟨e,h,x,sl,a,d,c,f,rfl,g,by exact Ab.fin hs⟩
 ·refine IK (i:=4) rfl (by rw[h];rfl) ?_;refine Af hs (Af hs<|Af hs<|Af hs<|Ag hs ?_);exact M4 (A9x h j hs) λe h x sl a d c f w g hs=>⟨e,h,x,sl,a,d,c,f,rfl,g,by exact Ab.fin hs⟩
 ·refine IK (i:=5) rfl (by rw[h];rfl) ?_;refine Af hs (Af hs<|Af hs<|Af hs<|Ag hs ?_);exact M4 (A4x h j hs) λe h x sl a d c f w g hs=>⟨e,h,x,sl,a,d,c,f,rfl,g,by exact Ab.fin hs⟩
 ·refine IK (i:=6) rfl (by rw[h];rfl) ?_;refine Af hs (Af hs<|Af hs<|Af hs<|Ag hs ?_);exact M4 (A9w h j hs) λe h x sl a d c f w g hs=>⟨e,h,x,sl,a,d,c,f,rfl,g,by exact Ab.fin hs⟩
 ·refine IK (i:=7) rfl (by rw[h];rfl) ?_;refine Af hs (Af hs<|Af hs<|Af hs<|Ag hs ?_);exact M4 (A4y h j hs) λe h x sl a d c f w g hs=>⟨e,h,x,sl,a,d,c,f,rfl,g,by exact Ab.fin hs⟩
 ·refine IK (i:=8) rfl (by rw[h];rfl) ?_;refine Af hs (Af hs<|Af hs<|Af hs<|Ag hs ?_);exact M4 (A4z h j hs) λe h x sl a d c f w g hs=>⟨e,h,x,sl,a,d,c,f,rfl,g,by exact Ab.fin hs⟩
 ·refine IK (i:=9) rfl (by rw[h];rfl) ?_;refine Af hs (Af hs<|Af hs<|Af hs<|Ag hs ?_);exact M4 (Avk h j hs) λe h x sl a d c f w g hs=>⟨e,h,x,sl,a,d,c,f,rfl,g,by exact Ab.fin hs⟩
theorem A9u(a:o.key.size<4611686018427387904)(c:k<1000000)(hs:Ab W w (Lw b k rm now X::M)):Bh PR 15 #[pq b 0,.agg #[.i o.kind,.s o.key,.s o.val,.i o.n]] w (TS b k rm now X o W M):=by
 refine cw ⟨mixed,func15,rfl⟩ A0a ?_;refine Ak hs λb1 w hs=>Ak hs λb2 w hs=>?_;refine Ad rfl ?_;refine Ak hs λd w hs=>?_
 iterate 10 refine A4 hs λw hs=>?_
 have hs:Ab W w (fnB d::L0 b2::Gm b1 o::Lw b k rm now X::M):=hs;refine Af hs ?_
 with_reducible refine A3 (λe=>?_) (λe=>?_)
 ·exact A70 (.inl<|by omega) hs
 refine Af hs ?_
 with_reducible refine A3 (λf=>?_) (λf=>?_)
 ·exact A70 (.inr<|by omega) hs
 refine Af (x:=o.kind) hs ?_;refine A1 (by omega) ?_;have hc:o.kind=0\/o.kind=1\/o.kind=2\/o.kind=3\/o.kind=4\/o.kind=5\/o.kind=6\/o.kind=7\/o.kind=8\/o.kind=9:=by omega
 rcases hc with h|h|h|h|h|h|h|h|h|h
 ·exact A91 hs (by rw[h];rfl) (A70 (.inl<|by omega) hs)
 ·exact Ml (i:=1) hs rfl (by rw[h];rfl) (WA (by omega) a c hs)
 ·exact Ml (i:=2) hs rfl (by rw[h];rfl) (WA (by omega) a c hs)
 ·exact Ml (i:=3) hs rfl (by rw[h];rfl) (WA (by omega) a c hs)
 ·exact Ml (i:=4) hs rfl (by rw[h];rfl) (WA (by omega) a c hs)
 ·exact Ml (i:=5) hs rfl (by rw[h];rfl) (WA (by omega) a c hs)
 ·exact Ml (i:=6) hs rfl (by rw[h];rfl) (WA (by omega) a c hs)
 ·exact Ml (i:=7) hs rfl (by rw[h];rfl) (WA (by omega) a c hs)
 ·exact Ml (i:=8) hs rfl (by rw[h];rfl) (WA (by omega) a c hs)
 ·exact Ml (i:=9) hs rfl (by rw[h];rfl) (WA (by omega) a c hs)
end
end Go.Proofs.YtjipofkjmmpjdaaGreat
namespace Go.Proofs.YtjipofkjmmpjdaaGreat
open Go.Hb Go.IntWalk
section
variable{W w:World}{L M:List HP}{b k n sh:Nat}{X:List Sh}{p ch:Nat}{sl:Sl}{Ls:List (Nat×Sh)}{rm now:Int}{o:YK}{key:BA}{c0 c1 c2 c3 c4 c5 c6:Int}{tp:Sl}{tape:List Int}
abbrev cfB(b:Nat)(c0 c1 c2 c3 c4 c5 c6:Int)(tp:Sl):HP:=blk b [.i c0,.i c1,.i c2,.i c3,.i c4,.i c5,.i c6,.l tp.a tp.n tp.c]
def Ayb(c0 c1 c2 c3 c4 c5 c6:Int):Prop:=(1<=c0/\c0<=8)/\(1<=c1/\c1<=1024)/\(0<=c2/\c2<=256/\1<=c3/\c3<=256)/\(0<=c4/\c4<=16777216)/\(1<=c5/\c5<=256)/\0<=c6/\c6<5
abbrev Ayd(c0 c1 c2 c3 c4 c5 c6:Int)(W:World)(L:List HP):VW:=λv w'=>(∃(b a:Nat),c0=(a:Int)/\v = .tuple #[pq b 0,.i 0]/\Ab W w' (Lw b 0 c1 0 (replicate a ([],c6,none))::L))\/(¬Ayb c0 c1 c2 c3 c4 c5 c6/\∃e:Int,e≠0/\v = .tuple #[.p none,.i e]/\Ab W w' L)
theorem A97[r:TA W L tp (Ap.int .u32) tape](t:tape.length<=1000){b1 cb:Nat}(d:c0=(sh:Int))(u:1<=sh)(v:sh<=8)(f:1<=c1)(g:c1<=1024)(k:Ls.map (·.2)=replicate sh ([],c6,none))(hs:Ab W w (blk cb [.l sl.a sl.n sl.c,pq p 0,.p none,.i 0]::Ff p 0::recs Ap.ptr sl (Ls.map λz=>z.1)::AN (Ls.map<|Dm c1 0)::cfB b1 c0 c1 c2 c3 c4 c5 c6 tp::L)) :
  Ass AU (Ayd c0 c1 c2 c3 c4 c5 c6 W L) b1 0 cb 0 w:=by
 refine jw Ae6 ?_;refine An [cfB b1 c0 c1 c2 c3 c4 c5 c6 tp] hs λw hs=>?_;refine Au (Au<|Af (x:=tp) hs<|Ag hs ?_);refine Ah (Bbg (s:=tp) (ds:=tape) (by omega) hs) λv w ⟨tb,b,hs⟩=>⟨_,b,Ag hs ?_⟩;refine AM (A7v hs) λv w h=>?_;rcases h with⟨o,q,b,hs⟩|⟨j,e,m,b,hs⟩
 ·refine⟨_,_,b,Ad rfl ?_⟩;refine Aa (A4 hs λw hs=>?_);have y:Ls.length=sh:=by have:=congrArg length k;simpa using this
  exact .inl ⟨cb,sh,d,rfl,C3 (sl:=sl) (p:=p) (ch:=q) (m1:=0) (m2:=0) (m3:=0) ⟨by omega,by omega,f,g,by omega,by omega⟩ k (by omega) (by omega) (by omega)<|by exact Ab.fin hs⟩
 ·exact⟨_,_,b,Am (by simpa using m)<|.inr ⟨λh=>j ⟨h.2.2.2.2.2,h.2.2.2.2.1⟩,e,m,rfl,by exact Ab.fin hs⟩⟩
theorem A62[hr:TA W L tp (Ap.int .u32) tape](ht:tape.length<=1000)(hs:Ab W w L):Bh PR 27 #[.agg #[.i c0,.i c1,.i c2,.i c3,.i c4,.i c5,.i c6,.l tp.a tp.n tp.c]] w (Ayd c0 c1 c2 c3 c4 c5 c6 W L):=by
 refine cw ⟨mixed,func27,rfl⟩ A1b ?_;refine Ak hs λb1 w hs=>?_;have bad:¬Ayb c0 c1 c2 c3 c4 c5 c6->∀w:World,Ab W w (cfB b1 c0 c1 c2 c3 c4 c5 c6 tp::L)->Ayd c0 c1 c2 c3 c4 c5 c6 W L (.tuple #[.p none,.i 1]) w:=λhn w hs=>.inr ⟨hn,1,by decide,rfl,hs.drop⟩;unfold Ayb at bad;refine Af hs ?_
 with_reducible refine A3 (λh1=>?_) (λh1=>?_)
 ·exact bad (by omega) w hs
 refine Af hs ?_
 with_reducible refine A3 (λh2=>?_) (λh2=>?_)
 ·exact bad (by omega) w hs
 refine Af hs ?_
 with_reducible refine A3 (λh3=>?_) (λh3=>?_)
 ·exact bad (by omega) w hs
 refine Af hs ?_
 with_reducible refine A3 (λh4=>?_) (λh4=>?_)
 ·exact bad (by omega) w hs
 refine Af hs ?_
 with_reducible refine A3 (λh5=>?_) (λh5=>?_)
 ·exact bad (by omega) w hs
 refine Af hs ?_
 with_reducible refine A3 (λh6=>?_) (λh6=>?_)
 ·exact bad (by omega) w hs
 obtain⟨sh,hsh⟩:∃sh:Nat,c0=(sh:Int):=⟨c0.toNat,by omega⟩;refine jw Ae5 ?_;refine Af hs (Af hs (Af hs ?_));refine Ah (Bab hs) λv w ⟨p,hv,hs⟩=>⟨_,hv,?_⟩;refine Ak hs λcb w hs=>?_;refine Af hs ?_;have loop:∀(f i:Nat)(Ls:List (Nat×Sh))(sl:Sl)(w:World),i+f=sh->Ls.map (·.2)=replicate i ([],c6,none)->Ab W w (blk cb [.l sl.a sl.n sl.c,pq p 0,.p none,.i 0]::Ff p 0::recs Ap.ptr sl (Ls.map λz=>z.1)::AN (Ls.map (Dm c1 0))::cfB b1 c0 c1 c2 c3 c4 c5 c6 tp::L) ->
   Xp AU (Ayd c0 c1 c2 c3 c4 c5 c6 W L) (f+1) b1 0 cb 0 c0 (i:Int) w:=by
  clear hs;intro f
  induction f with
  | zero=>
   intro i Ls sl w hi hT hs;rw[R0];refine Ad (decide_eq_false (by omega)) ?_;have hi:i=sh:=by omega
   subst hi;exact A97 ht hsh (by omega) (by omega) (by omega) (by omega) hT hs
  | succ f ih=>
   intro i Ls sl w hi hT hs;rw[R0];refine Am (decide_eq_true (by omega)) ?_
   iterate 4 refine Af hs ?_
   refine AM (Bas hs) λv w h=>?_;rcases h with⟨hok,q,hv,hs⟩|⟨hno,e,he,hv,hs⟩
   ·refine⟨_,_,hv,Ad rfl ?_⟩;have hlen:Ls.length=i:=by have:=congrArg length hT;simpa using this
    refine Aa (Af (x:=sl) hs ?_);refine Ak hs λnb w hs=>?_;refine D3 (s:=sl) (a:=q) hs rfl rfl rfl rfl (by decide) (by rw[length_map];omega) λs5 w hs5 hs=>?_
    refine Aa (A4 hs λw hs=>?_);have hs:Ab W w (Dm c1 0 (q,[],c6,none)::AN (Ls.map (Dm c1 0))::blk cb [.l s5.a s5.n s5.c,pq p 0,.p none,.i 0]::Ff p 0::recs Ap.ptr s5 ((Ls.map λz=>z.1)++[q])::cfB b1 c0 c1 c2 c3 c4 c5 c6 tp::L):=by exact Ab.fin hs
    have hs:=JM hs;rw[show(Ls.map λz=>z.1)++[q]=(Ls++[(q,(([]:TT),c6,(none:Option Nat)))]).map λz=>z.1 by simp] at hs;rw[show wrap .i64 ((i:Int)+1)=((i+1:Nat):Int) by rw[i64_in _ (by omega)];omega]
    exact ih (i+1) (Ls++[(q,(([]:TT),c6,(none:Option Nat)))]) s5 w (by omega) (by rw[map_append,hT,List.replicate_succ'];rfl) (by exact Ab.fin hs)
   ·exact⟨_,_,hv,Am (by simpa using he) (.inr ⟨λh=>hno ⟨h.2.1,h.2.2.1,h.2.2.2.2.2⟩,e,he,rfl,by exact Ab.fin hs⟩)⟩
 have hs:=Ab.nilR Ap.ptr hs;have hs:=Mw (f:=Dm c1 0) hs;exact AP _ (loop sh 0 [] ⟨none,0,0⟩ w (by omega) rfl (by exact Ab.fin hs))
end
end Go.Proofs.YtjipofkjmmpjdaaGreat
namespace Go.Hb
open Go.Proofs.YtjipofkjmmpjdaaGreat
theorem A5k{rm now:Int}{X:List Sh}{o u:YK}{e:Int}{h:Bool}{x:BA}{g:BL}{d b:Int}{v:List Sh}{w:Int}{y:Bool}{x2:BA}{C:BL}{i f:Int}{D:List Sh}
  (E:∀z∈X,Ayg rm z.1) (F:o.kind=2) (G:u.kind=1) (j:u.key=o.key) (k:Gy o.key o.val now o.n=0) (H:YM rm now X o e h x g d b v) (I:YM d b v u w y x2 C i f D):e=0/\w=0/\y=true/\x2=o.val:=by
 obtain⟨J,V,K,L,M,N⟩:=MF k;have l:K4 u.key now=0:=by
  unfold K4;rw[j,if_neg<|by rw[J];simp,if_neg<|by omega]
 cases H with
 | no O m=>exact absurd k (m.n2 F)
 | @put T kd p q g _ _ A W P B Q=>
  have r:=(List.getElem?_eq_some_iff.1 A).1;have s:=(E _<|mem_of_getElem? A).tok;refine⟨rfl,?_⟩;cases I with
  | no O m=>exact absurd l (m.n1 G)
  | @get T2 R Y Z _ _ c S=>
   refine⟨rfl,?_⟩;rw[List.length_set,j,List.getElem?_set_self r] at c;simp only[Option.some.injEq,Prod.mk.injEq] at c;obtain⟨rfl,_,_⟩:=c;have U:AH (JR (AR (C8 T o.key now) g) o.key o.val now o.n) o.key=some (o.val,Iv now o.n):=by
    unfold JR;rw[if_pos k,Ajk (F5<|An3 s).rise,if_pos rfl]
   have t:OY (Iv now o.n) now=false:=by
    unfold OY Iv;refine decide_eq_false λh=>?_;split at h <;> omega
   rw[j];unfold Ha;rw[U];simp[t]
  | put a=>omega
  | del a=>omega
  | tick a=>omega
  | drain a=>omega
  | step a=>omega
  | epoch a=>omega
  | force a=>omega
  | res a=>omega
 | get a=>omega
 | del a=>omega
 | tick a=>omega
 | drain a=>omega
 | step a=>omega
 | epoch a=>omega
 | force a=>omega
 | res a=>omega
end Go.Hb
namespace Go.Proofs.YtjipofkjmmpjdaaGreat
open Go.Hb Go.IntWalk
section
variable{W w:World}{L M:List HP}{s0 r9 tp:Sl}{ops:List YK}{tape:List Int}{c0 c1 c2 c3 c4 c5 c6:Int}{b n:Nat}{rm now:Int}{X:List Sh}
theorem Axy(hs:Ab W w L):Bh PR 10 #[.agg #[.i c0,.i c1,.i c2,.i c3,.i c4,.i c5,.i c6,.l tp.a tp.n tp.c]] w λv w'=>∃t:Bool,v = .b t/\(t=true->tp.n<=100/\c1<=64)/\Ab W w' L:=by
 refine cw ⟨mixed,func10,rfl⟩ Azl ?_;refine Ak hs λb1 w hs=>?_;refine Af hs ?_
 with_reducible refine A3 (λd=>?_) (λd=>?_)
 rotate_left
 ·exact⟨false,rfl,(λh=>by cases h),hs.drop⟩
 refine Af hs ?_
 with_reducible refine A3 (λe=>?_) (λe=>?_)
 rotate_left
 ·exact⟨false,rfl,(λh=>by cases h),hs.drop⟩
 refine Af hs ?_
 with_reducible refine A3 (λf=>?_) (λf=>?_)
 rotate_left
 ·exact⟨false,rfl,(λh=>by cases h),hs.drop⟩
 refine Af (x:=tp) hs ?_;exact⟨_,rfl,λh=>by have:=of_decide_eq_true h;omega,hs.drop⟩
def Aye(ops:List YK):Prop:=∀i,i<ops.length->i<150->(ops.getD i default).key.size<=40
set_option maxRecDepth 100000 in
theorem Axw[A:TA W L s0 opR ops](hs:Ab W w L):Bh PR 9 #[.l s0.a s0.n s0.c] w λv w'=>∃b:Bool,v = .b b/\(b=false->Aye ops)/\Ab W w' L:=by
 refine cw ⟨mixed,func9,rfl⟩ A9o ?_;obtain⟨N,B⟩:∃N:Nat,N=151:=⟨_,rfl⟩;have k:∀(m i:Nat)(w:World),i+m=N->(∀j,j<i->j<ops.length->(ops.getD j default).key.size<=40)->Ab W w L->Ajg AU (λv w'=>∃b:Bool,v = .b b/\(b=false->Aye ops)/\Ab W w' L) (m+1) s0 (i:Int) w:=by
  intro m
  induction m with
  | zero=>
   intro i w hi g hs;have r:=BS (s:=s0) hs;rw[V3]
   with_reducible refine A3 (λp=>?_) (λp=>?_)
   ·with_reducible refine D5 (λo=>absurd o<|by omega) (λo=>?_)
    refine jw Kd ?_;exact⟨_,rfl,λ_ j e d=>g j (by omega) e,hs⟩
   ·refine jw Kd ?_;exact⟨_,rfl,λ_ j e d=>g j (by omega) e,hs⟩
  | succ m t=>
   intro i w hi g hs;have r:=BS (s:=s0) hs;rw[V3]
   with_reducible refine A3 (λp=>?_) (λp=>?_)
   ·with_reducible refine A3 (λo=>?_) (λo=>?_)
    ·refine jw Amn ?_
     repeat (first|((with_reducible refine A7 ?_);first|refine Agm f hs ?_|fail)|((with_reducible refine BI ?_);first|refine CO hs λu x f=>?_|fail)|fail)
     rw[toNat_natCast]
     with_reducible refine A3 (λy=>?_) (λy=>?_)
     ·exact⟨_,rfl,(λh=>by cases h),hs⟩
     ·repeat (first|((with_reducible refine A7 ?_);first|refine Agm f hs ?_|fail)|((with_reducible refine BI ?_);first|refine CO hs λu x f=>?_|fail)|fail)
      with_reducible refine A3 (λz=>?_) (λz=>?_)
      ·exact⟨_,rfl,(λh=>by cases h),hs⟩
      rw[i64_in _<|by omega];refine t (i+1) w (by omega) (λj e d=>?_) hs
      by_cases q:j=i
      ·subst q;omega
      ·exact g j (by omega) d
    ·refine jw Kd ?_;exact⟨_,rfl,λ_ j e d=>g j (by omega) e,hs⟩
   ·refine jw Kd ?_;exact⟨_,rfl,λ_ j e d=>g j (by omega) e,hs⟩
 refine⟨N+1,?_⟩;exact k N 0 w (by omega) (λj e=>by omega) hs
abbrev Bc7(c0 c1 c6:Int)(W:World)(L:List HP):VW:=λv w'=>(∃(b a:Nat),c0=(a:Int)/\v = .tuple #[pq b 0,.b true]/\Ab W w' (Lw b 0 c1 0 (replicate a ([],c6,none))::L))\/(v = .tuple #[.p none,.b false]/\Ab W w' L)
theorem Axv[o:TA W L tp (Ap.int .u32) tape](g:tape.length<=1000)(hs:Ab W w L):Bh PR 13 #[.agg #[.i c0,.i c1,.i c2,.i c3,.i c4,.i c5,.i c6,.l tp.a tp.n tp.c]] w (Bc7 c0 c1 c6 W L):=by
 refine cw ⟨mixed,func13,rfl⟩ Az0 ?_;refine Ak hs λb1 w hs=>?_
 iterate 7 refine Af hs ?_
 refine Af (x:=tp) hs ?_;refine AM (A62 g hs) λv w h=>?_;rcases h with⟨b,j,d,f,hs⟩|⟨k,e,m,f,hs⟩
 ·exact⟨_,_,f,Ad rfl<|.inl ⟨b,j,d,rfl,by exact Ab.fin hs⟩⟩
 ·exact⟨_,_,f,Am (by simpa using m)<|.inr ⟨rfl,hs.drop⟩⟩
theorem Axx(hs:Ab W w L):Bh PR 12 #[] w λv w'=>v = .b true/\Ab W w' L:=by
 refine cw ⟨mixed,func12,rfl⟩ Azv ?_;have hs:=Ab.nilR (Ap.int .u32) hs;refine AM (A62 (tp:=⟨none,0,0⟩) (tape:=[]) (by simp) hs) λv w h=>?_;rcases h with⟨b,C,n,a,hs⟩|⟨d,e,c,a,hs⟩
 rotate_left
 ·exact absurd (by unfold Ayb;omega) d
 refine⟨_,_,a,Ad rfl<|Ad rfl ?_⟩;refine jw Ae1 ?_;have f:=W5 hs;refine Ai.mono (A9u (o:=⟨2,Ti,Tj,0⟩) (by decide) (by decide) hs) λp w ⟨v,c,e,h,x,sg,k,q,l,D,a,r,hs⟩=>⟨e,h,x,sg,by rw[c,a],?_⟩;refine Ai.mono (A9u (o:=⟨1,Ti,⟨#[]⟩,0⟩) (by decide) (by decide) hs) λp w ⟨v,c,s,t,x2,g,i,y,m,E,a,j,hs⟩=>⟨s,t,x2,g,by rw[c,a],?_⟩;have A:Gy Ti Tj 0 0=0:=by decide +kernel
 obtain⟨_,rfl,rfl,rfl⟩:=A5k (o:=⟨2,Ti,Tj,0⟩) (u:=⟨1,Ti,⟨#[]⟩,0⟩) (λz B=>(f.2 z B).1) rfl rfl rfl A r j;refine Ak hs λb1 w hs=>?_;refine A4 hs λw hs=>A4 hs λw hs=>A4 hs λw hs=>A4 hs λw hs=>?_;refine Af hs (Am rfl ?_);refine Af hs ?_;refine Am (show sEq Tj Tj=true by decide +kernel) ?_;exact Af hs ⟨rfl,by exact Ab.fin hs⟩
end
end Go.Proofs.YtjipofkjmmpjdaaGreat
namespace Go.Proofs.YtjipofkjmmpjdaaGreat
open Go.Hb Go.IntWalk
section
variable{W wv wr:World}{m:Mp}{rm now:Int}{X:List Sh}{o:YK}{b b1 b2 k:Nat}
theorem Aki{x0 x1 x2 x3 x4 x5:Int}{r:Value}(h:VR m (Ag6 x0 x1 x2 x3 x4 x5) r):r=Ag6 x0 x1 x2 x3 x4 x5:=by
 obtain⟨cs,rfl,a⟩:=VR.agg h;have h:AT (VF m) [.i x0,.i x1,.i x2,.i x3,.i x4,.i x5] cs.toList:=a;have hc:cs=cs.toList.toArray:=by simp
 rw[hc];generalize cs.toList=l at h;obtain _|⟨b,h⟩:=h
 obtain _|⟨c,h⟩:=h
 obtain _|⟨d,h⟩:=h
 obtain _|⟨e,h⟩:=h
 obtain _|⟨f,h⟩:=h
 obtain _|⟨g,h⟩:=h
 obtain _|_:=h
 rw[(VR.one<|.flat b).int,(VR.one<|.flat c).int,(VR.one<|.flat d).int,(VR.one<|.flat e).int,(VR.one<|.flat f).int,(VR.one<|.flat g).int]
theorem Aww{e:Int}{h:Bool}{x:BA}{s:Sl}{r:Value}(d:VR m (rsV e h x s) r):∃s':Sl,r=rsV e h x s'/\VF m (.l s.a s.n s.c) (.l s'.a s'.n s'.c):=by
 cases d with
 | one d=>
  cases d with
  | flat d=>cases d with|atom h=>simp[Cq] at h
  | @agg cs f d=>
   match j:f.toList,d with
   | [_,_,_,y],.cons k (.cons o<|.cons p<|.cons g .nil)=>
    have q:=(VR.one<|.flat k).int;have t:=(VR.one<|.flat o).boolV;have u:=(VR.one<|.flat p).str
    subst q t u;have v:=g.slcI;obtain⟨a,n,c,rfl⟩:∃a n c,y = .l a n c:=by
     rcases v with⟨_,h⟩|⟨_,_,_,_,_,_,_,h⟩
     ·exact⟨_,_,_,h⟩
     ·exact⟨_,_,_,h⟩
    refine⟨⟨a,n,c⟩,?_,g⟩;have:f=#[.i e,.b h,.s x,.l a n c]:=by rw[<- Array.toList_inj,j]
    rw[this]
theorem Ayv{e:Int}{h:Bool}{x:BA}{g:BL}{m f:Int}{A:List Sh}(r:∀z∈X,Ayg rm z.1)(K:X.length<=8)(E:YM rm now X o e h x g m f A):g.length<=9000:=by
 have a:∀(T:TT)(k:BA),(Dc T k now).length<=1:=λT k=>by unfold Dc;split <;> simp
 have c:∀z∈X,z.1.length<=1024:=λz d=>by have:=(r z d).len;have:=(r z d).c2;omega
 cases E with
 | no=>simp
 | get=>have:=a ‹TT› o.key;omega
 | @put T kd p q g _ _ F L s i H=>
  have B:=mem_of_getElem? F;have C:=Mu (b:=kT T) s λx I=>by
   have j:=i x I;rw[Wp] at j;exact((Nd (r _ B).tok.rise).1 j).1
  have j:(kT T).length=T.length:=by unfold kT;rw[length_map]
  have u:=c _ B;have J:=a T o.key;rw[length_append];dsimp only at u;omega
 | del=>have:=a ‹TT› o.key;omega
 | tick=>
  have:∀(Y:List Sh)(t:Int),(∀z∈Y,z.1.length<=1024)->((Y.map λz=>Cz z.1 t).flatten).length<=1024*Y.length:=by
   intro Y t
   induction Y with
   | nil=>intro _;simp
   | cons z Y v=>
    intro l;have C:=v λz d=>l z (.tail _ d);have j:(Cz z.1 t).length<=z.1.length:=by unfold Cz;rw[length_map];exact List.length_filter_le ..
    have u:=l z (.head _);simp only[List.map_cons,flatten_cons,length_append,length_cons];omega
  have:=this X (now+o.n) c;omega
 | drain=>simp
 | step=>simp
 | epoch=>simp
 | force=>simp
 | @res A G _ _ _ w=>
  have:∀{Y:List Sh}{G:List BL}{y:List Sh},F3 (rsR o.n) Y G y->(∀z∈Y,z.1.length<=1024)->G.flatten.length<=1024*Y.length:=by
   intro Y G y w
   induction w with
   | nil=>intro _;simp
   | @cons z g z' Y G y D _ v=>
    intro l;have C:=v λz d=>l z (.tail _ d);have j:=Mu (b:=kT z.1) D.1.1 D.1.2;have J:(kT z.1).length=z.1.length:=by unfold kT;rw[length_map]
    have u:=l z (.head _);simp only[flatten_cons,length_append,length_cons];omega
  have:=this w c;omega
def TwI(W:World)(b1 b2 k:Nat)(wr:World):Prop:=∃(m1 m2:Mp) (wv:World) (b:Nat) (rm now:Int) (X:List Sh),Tw W m1 m2 wv wr/\Ab (Eu W) wv [Lw b k rm now X,old<|Eu W]/\m1.f b=some b1/\m2.f b=some b2
theorem TwI.kept(h:TwI W b1 b2 k wr):Be W wr:=by
 obtain⟨_,_,_,_,_,_,_,h,_⟩:=h;exact h.kept
theorem TwI.keep{wr':World}(h:TwI W b1 b2 k wr)(a:Be wr wr'):TwI W b1 b2 k wr':=by
 obtain⟨m1,m2,wv,b,rm,now,X,h,hs⟩:=h;exact⟨m1,m2,wv,b,rm,now,X,h.keep a,hs⟩
theorem Bcw(h:TwI W b1 b2 k wr)(C:o.key.size<4611686018427387904)(M:k<1000000) :
  Calls PR 15 #[pq b1 0,.agg #[.i o.kind,.s o.key,.s o.val,.i o.n]] wr λg wr1=>∃(e:Int) (h:Bool) (x:BA) (B:Sl),g = .returned (rsV e h x B)/\Be W wr1 /\
   Calls PR 15 #[pq b2 0,.agg #[.i o.kind,.s o.key,.s o.val,.i o.n]] wr1 λg c=>∃(s2:Sl) (a:BL),g = .returned (rsV e h x s2)/\a.length<=9000/\BZ c B Ap.str a/\BZ c s2 Ap.str a/\TwI W b1 b2 (k+1) c:=by
 obtain⟨m1,m2,wv,b,rm,now,X,N,hs,j,l⟩:=h;have p:∀m:Mp,VR m (.agg #[.i o.kind,.s o.key,.s o.val,.i o.n]) (.agg #[.i o.kind,.s o.key,.s o.val,.i o.n]):=λm=>.one (.agg<|.cons (.atom rfl)<|.cons (.atom rfl)<|.cons (.atom rfl)<|.cons (.atom rfl) .nil);have q:=W5 hs;refine(Aku (A9u (o:=o) C M hs) N (ar1:=#[pq b1 0,.agg #[.i o.kind,.s o.key,.s o.val,.i o.n]]) (ar2:=#[pq b2 0,.agg #[.i o.kind,.s o.key,.s o.val,.i o.n]])
  (.cons (.one<|.flat<|.ptr j)<|.cons (p _) .nil) (.cons (.one<|.flat<|.ptr l)<|.cons (p _) .nil)).mono λg wr1 ⟨D,wv',v,r1,⟨S,E,O⟩,F,P,r,G,Q⟩=>?_
 cases E;obtain⟨e,h,x,sl,a,t,d,L,rfl,R,u⟩:=O;obtain⟨B,rfl,H⟩:=Aww P;refine⟨e,h,x,B,F,G,Q.mono λg c ⟨I,r2,w,J,y,f⟩=>?_⟩;obtain⟨s2,rfl,K⟩:=Aww J;have A:BZ wv' sl Ap.str a:=(inferInstance:TA (Eu W) (Lw b (k+1) t d L::recs Ap.str sl a::[old<|Eu W]) sl Ap.str a).rd wv' u;refine⟨s2,a,w,Ayv (λz C=>(q.2 z C).1) q.1.sh8 R,SK f.s1 A H,SK f.s2 A K,D,I,wv',b,t,d,L,f,?_,(r _ _ j).1,(y _ _ l).1⟩;exact(u.perm<|List.Perm.swap _ _ _).drop
theorem Ax0(h:TwI W b1 b2 k wr) :
  Calls PR 26 #[pq b1 0] wr λa wr1=>∃x0 x1 x2 x3 x4 x5:Int,a = .returned (Ag6 x0 x1 x2 x3 x4 x5) /\
   Calls PR 26 #[pq b2 0] wr1 λa c=>a = .returned (Ag6 x0 x1 x2 x3 x4 x5)/\TwI W b1 b2 k c:=by
 obtain⟨m1,m2,wv,b,rm,now,X,r,hs,d,e⟩:=h;refine(Aku (A4w hs) r (ar1:=#[pq b1 0]) (ar2:=#[pq b2 0]) (.cons (.one<|.flat<|.ptr d) .nil)<|.cons (.one<|.flat<|.ptr e) .nil).mono λa wr1 ⟨j,wv',v,r1,⟨x,l,s⟩,m,t,f,u,w⟩=>?_;cases l;obtain⟨⟨x0,x1,x2,x3,x4,x5,rfl⟩,n⟩:=s;obtain rfl:=Aki t;refine⟨x0,x1,x2,x3,x4,x5,m,w.mono λa c ⟨o,r2,g,p,i,q⟩=>?_⟩;obtain rfl:=Aki p;exact⟨g,j,o,wv',b,rm,now,X,q,n,(f _ _ d).1,(i _ _ e).1⟩
end
end Go.Proofs.YtjipofkjmmpjdaaGreat
namespace Go.Proofs.YtjipofkjmmpjdaaGreat
open Go.Hb Go.IntWalk
section
variable{W wr:World}{m:Mp}{b1 b2 k:Nat}{s0 tp:Sl}{ops:List YK}{tape:List Int}{c0 c1 c2 c3 c4 c5 c6:Int}
def slB(W:World)(s:Sl):Prop:=s.a=none\/∃b o,s.a=some ⟨b,o,none⟩/\b<W.heap.size
theorem QY{p:OA}{t:Bool}{r:Value}(h:VR m (.tuple #[.p p,.b t]) r):∃p',r = .tuple #[.p p',.b t]/\((p=none/\p'=none)\/∃b o b',p=some ⟨b,o,none⟩/\m.f b=some b'/\p'=some ⟨b',o,none⟩):=by
 cases h with
 | one h=>
  cases h with
  | flat h=>cases h with|atom h=>simp[Cq] at h
 | @tup vs rs h=>
  have h:AT (VG m) [.p p,.b t] rs.toList:=h;have hc:rs=rs.toList.toArray:=by simp
  rw[hc];generalize rs.toList=l at h;obtain _|⟨a,h⟩:=h
  obtain _|⟨c,h⟩:=h
  obtain _|_:=h
  rw[(VR.one c).boolV];rcases(VR.one a).ptr with⟨rfl,rfl⟩|⟨b,o,b',rfl,d,rfl⟩
  ·exact⟨_,rfl,.inl ⟨rfl,rfl⟩⟩
  ·exact⟨_,rfl,.inr ⟨b,o,b',rfl,d,rfl⟩⟩
abbrev YW(c0 c1 c2 c3 c4 c5 c6:Int)(tp:Sl):Value:=.agg #[.i c0,.i c1,.i c2,.i c3,.i c4,.i c5,.i c6,.l tp.a tp.n tp.c]
theorem Ao6(h:slB W tp):AT (VR<|idM W) [YW c0 c1 c2 c3 c4 c5 c6 tp] [YW c0 c1 c2 c3 c4 c5 c6 tp]:=
 .cons (.one<|.agg<|.cons (.atom rfl)<|.cons (.atom rfl)<|.cons (.atom rfl)<|.cons (.atom rfl)<|.cons (.atom rfl)<|.cons (.atom rfl)<|.cons (.atom rfl)<|.cons (Ah0 h) .nil) .nil
theorem Ayp(a:Be W wr):Calls PR 12 #[] wr λe w'=>e = .returned (.b true)/\Be W w':=
 (MU (Axx<|Ab.begin<|Eu W) a .nil).mono λe w' ⟨m,wv,v,r,⟨h,d,f,_⟩,c,g,a⟩=>by
  cases d;subst f
  rw[g.boolV] at c;exact⟨c,a⟩
theorem Ayo(h:BZ W s0 opR ops)(i:slB W s0)(f:Be W wr):Calls PR 9 #[.l s0.a s0.n s0.c] wr λe w'=>∃t:Bool,e = .returned (.b t)/\(t=false->Aye ops)/\Be W w':=by
 haveI:BZ (Eu W) s0 opR ops:=Rl h λa v d=>by
  simp only[opR,mem_cons,List.not_mem_nil,or_false] at d;rcases d with rfl|rfl|rfl|rfl <;> rfl
 exact(MU (Axw (s0:=s0) (ops:=ops)<|Ab.begin<|Eu W) f<|.cons (.one<|.flat<|Ah0 i) .nil).mono λe w' ⟨m,wv,v,r,⟨p,j,t,k,o,_⟩,g,d,f⟩=>by
  cases j;subst k
  rw[d.boolV] at g;exact⟨t,g,o,f⟩
theorem Ayq(d:slB W tp)(a:Be W wr):Calls PR 10 #[YW c0 c1 c2 c3 c4 c5 c6 tp] wr λe w'=>∃t:Bool,e = .returned (.b t)/\(t=true->tp.n<=100)/\Be W w':=
 (MU (Axy<|Ab.begin<|Eu W) a<|Ao6 d).mono λe w' ⟨m,wv,v,r,⟨k,f,t,g,i,_⟩,c,j,a⟩=>by
  cases f;subst g
  rw[j.boolV] at c;exact⟨t,c,λh=>(i h).1,a⟩
theorem Ayn(y:BZ W tp (Ap.int .u32) tape)(z:tape.length<=1000)(A:slB W tp)(B:Be W wr) :
  Calls PR 13 #[YW c0 c1 c2 c3 c4 c5 c6 tp] wr λe q=>∃(j:OA) (t:Bool),e = .returned (.tuple #[.p j,.b t])/\Be W q/\∀a,Be q a ->
   Calls PR 13 #[YW c0 c1 c2 c3 c4 c5 c6 tp] a λe n=>∃k:OA,e = .returned (.tuple #[.p k,.b t])/\Be W n /\
    (t=true->∃b1 b2,j=some ⟨b1,0,none⟩/\k=some ⟨b2,0,none⟩/\TwI W b1 b2 0 n):=by
 haveI:BZ (Eu W) tp (Ap.int .u32) tape:=Rl y λa v l=>by
  simp only[Ap.int,mem_cons,List.not_mem_nil,or_false] at l;subst l;rfl
 refine(Axz (Axv (tp:=tp) (tape:=tape) (c0:=c0) (c1:=c1) (c2:=c2) (c3:=c3) (c4:=c4) (c5:=c5) (c6:=c6) z<|Ab.begin<|Eu W) B<|Ao6 A).mono λe q ⟨m1,wv,v,r1,⟨F,C,hB⟩,w,l,m,x⟩=>?_;cases C;rcases hB with⟨b,G,_,rfl,hs⟩|⟨rfl,hs⟩
 ·obtain⟨j,rfl,c⟩:=QY l;refine⟨j,true,w,m,λa f=>(x a f).mono λe n ⟨m2,r2,g,r,i,o⟩=>?_⟩;obtain⟨k,rfl,d⟩:=QY i;refine⟨k,g,o.kept,λ_=>?_⟩;rcases c with⟨h,_⟩|⟨D,E,b1,h,s,c⟩
  ·cases h
  cases h;rcases d with⟨h,_⟩|⟨D,E,b2,h,u,d⟩
  ·cases h
  cases h;exact⟨b1,b2,c,d,m1,m2,wv,b,c1,0,_,o,hs,s,u⟩
 ·obtain⟨j,rfl,c⟩:=QY l;refine⟨j,false,w,m,λa f=>(x a f).mono λe n ⟨m2,r2,g,r,i,o⟩=>?_⟩;obtain⟨k,rfl,d⟩:=QY i;exact⟨k,g,o.kept,λh=>by cases h⟩
abbrev TwQ(W:World):VW:=λv w'=>v = .b true/\Be W w'
theorem Awp{W0:World}(b:Be W0 W)(c:Be W wr):Ada AU (TwQ W0) wr:=by
 unfold Ada AU;rw[Anl];exact(Ayp c).mono λe w' ⟨d,a⟩=>⟨true,d,rfl,b.trans a⟩
theorem Baj{W0:World}(p:Be W0 W)(q:BZ W s0 opR ops)(M:Aye ops):∀(f i:Nat)(wr:World),i+f=150->TwI W b1 b2 i wr->Akb AU (TwQ W0) (f+1) s0 (some ⟨b1,0,none⟩) true (some ⟨b2,0,none⟩) (i:Int) wr:=by
 intro f
 induction f with
 | zero=>
  intro i wr hi h;rw[Nu];refine As (λ_=>?_) λ_=>Awp p h.kept;exact Ad (decide_eq_false<|by omega) (Awp p h.kept)
 | succ f N=>
  intro i wr hi h;rw[Nu];refine As (λg=>?_) λ_=>Awp p h.kept;have g:=of_decide_eq_true g;refine Am (decide_eq_true<|by omega) (Am rfl ?_);unfold A69 AU;rw[Ank];have k:i<ops.length:=by have:=q.len;omega
  obtain⟨H,d,I,l⟩:∃b o,s0.a=some ⟨b,o,none⟩/\∀j,j<4->W.cell? ⟨b,o+(i*4+j),none⟩=(opR.cells ops[i])[j]?:=by
   rcases q.at_ with h|⟨b,o,O,P⟩
   ·have:=q.len;omega
   ·exact⟨b,o,O,λj Q=>P i j ops[i] (getElem?_eq_getElem k) Q⟩
  have r:=l 0 (by omega);have s:=l 1 (by omega);have t:=l 2 (by omega);have u:=l 3 (by omega)
  rw[show d+(i*4+0)=d+((i:Int)).toNat*4 by rw[toNat_natCast];omega] at r;rw[show d+(i*4+1)=d+((i:Int)).toNat*4+1 by rw[toNat_natCast];omega] at s
  rw[show d+(i*4+2)=d+((i:Int)).toNat*4+1+1 by rw[toNat_natCast];omega] at t;rw[show d+(i*4+3)=d+((i:Int)).toNat*4+1+1+1 by rw[toNat_natCast];omega] at u
  have R:(ops[i]).key.size<4611686018427387904:=by
   have:=M i k (by omega);rw[List.getD_eq_getElem?_getD,getElem?_eq_getElem k] at this;simp only[Option.getD_some] at this;omega
  have J:=h.keep (Be.refl (w:=wr)).drew;refine⟨Be W,J.kept,?_⟩;refine⟨H,d,I,⟨by omega,g⟩,?_⟩;refine⟨(ops[i]).kind,λw' c=>c.cell r,(ops[i]).key,λw' c=>c.cell s,(ops[i]).val,λw' c=>c.cell t,(ops[i]).n,λw' c=>c.cell u,?_⟩;refine⟨H,d,I,⟨by omega,g⟩,?_⟩;refine⟨(ops[i]).kind,λw' c=>c.cell r,(ops[i]).key,λw' c=>c.cell s,(ops[i]).val,λw' c=>c.cell t,(ops[i]).n,λw' c=>c.cell u,?_⟩;refine(Bcw (o:=ops[i]) J R<|by omega).mono λm wr1 ⟨e,K,x,S,T,v,U⟩=>⟨e,K,x,S,T,v,?_⟩;refine U.mono λm V ⟨s2,L,y,hl,z,A,X⟩=>⟨e,K,x,s2,y,?_⟩
  refine(Anp z A<|by omega).mono λm Y ⟨B,C⟩=>⟨true,B,Ad rfl ?_⟩;refine(Ax0<|X.keep C).mono λm Z ⟨x0,x1,x2,x3,x4,x5,D,E⟩=>⟨x0,x1,x2,x3,x4,x5,D,?_⟩;refine E.mono λm aa ⟨F,G⟩=>⟨x0,x1,x2,x3,x4,x5,F,Ad (by simp) ?_⟩;rw[show wrap .i64 ((i:Int)+1)=((i+1:Nat):Int) by rw[i64_in _<|by omega];omega]
  exact N (i+1) _ (by omega) G
theorem QO{w w':World}{kk:CK}{b o:Nat}{x:kk.ty}{K:kk.ty->WP}(a:Be w w')(h:w.cell? ⟨b,o,none⟩=some (kk.val x))(c:kk ≠ .any)(d:K x w'):ld kk b o K w':=Mm (a.cell h) c d
theorem twins_walk(g:BZ W s0 opR ops)(j:BZ W tp (Ap.int .u32) tape)(r:slB W s0)(p:slB W tp) :
  Calls PR 8 #[YW c0 c1 c2 c3 c4 c5 c6 tp,.l s0.a s0.n s0.c] W λe w'=>e = .returned (.b true)/\Be W w':=by
 have h:@Aw Bn AU PR OS f8 [YW c0 c1 c2 c3 c4 c5 c6 tp,.l s0.a s0.n s0.c] (λv w'=>v = .b true/\Be W w') W:=by
  rw[Bai];refine Ak (Ab.begin W) λb w hs=>?_;have k:Be W w:=hs.kept (q:=1) rfl;have hc:∀i:Nat,w.cell? ⟨b,i,none⟩=[Value.int .i64 c0,.i c1,.i c2,.i c3,.i c4,.i c5,.i c6,.l tp.a tp.n tp.c][i]?:=λi=>hs.cell (q:=0) rfl;have u:∀{s:Sl},slB W s->slB w s:=λ{s} h=>h.imp id λ⟨b,o,J,K⟩=>⟨b,o,J,Nat.lt_of_lt_of_le K k.big⟩;have g:=IQ g k;have j:=IQ j k;refine(Ayo g (u r) .refl).mono λe U ⟨t,y,z,d⟩=>⟨t,y,?_⟩;refine As (λ_=>⟨rfl,k.trans d⟩) λL=>?_;have z:=z L;refine QO d (hc 0) (by simp) (QO d (hc 1) (by simp)<|QO d (hc 2) (by simp)<|QO d (hc 3) (by simp)<|QO d (hc 4) (by simp)<|QO d (hc 5) (by simp)<|QO d (hc 6) (by simp)<|QO (kk:=.slc) (x:=tp) d (hc 7) (by simp) ?_)
  refine(Ayq (u p) d).mono λe V ⟨t2,A,B,f⟩=>⟨t2,A,?_⟩;refine As (λ_=>⟨rfl,k.trans f⟩) λC=>?_;have X:=B (by simpa using C);have D:tape.length<=1000:=by have:=j.len;omega
  unfold A68 AU;rw[Anj];refine QO f (hc 0) (by simp) (QO f (hc 1) (by simp)<|QO f (hc 2) (by simp)<|QO f (hc 3) (by simp)<|QO f (hc 4) (by simp)<|QO f (hc 5) (by simp)<|QO f (hc 6) (by simp)<|QO (kk:=.slc) (x:=tp) f (hc 7) (by simp) ?_);refine(Ayn j D (u p) f).mono λe M ⟨N,E,F,m,O⟩=>⟨N,E,F,?_⟩;refine QO m (hc 0) (by simp) (QO m (hc 1) (by simp)<|QO m (hc 2) (by simp)<|QO m (hc 3) (by simp)<|QO m (hc 4) (by simp)<|QO m (hc 5) (by simp)<|QO m (hc 6) (by simp)<|QO (kk:=.slc) (x:=tp) m (hc 7) (by simp) ?_);refine(O M .refl).mono λe P ⟨Q,G,I,R⟩=>⟨Q,E,G,Ad (by simp) ?_⟩
  cases E with
  | true=>
   obtain⟨b1,b2,rfl,rfl,H⟩:=R rfl;exact AP _ (Baj k g z 150 0 P (by omega) H)
  | false=>
   refine AP (0+1) ?_;rw[Nu];exact As (λ_=>Am (by decide)<|Ad rfl<|Awp k I) λ_=>Awp k I
 exact(F9 mixed func8 rfl h).mono λe w' ⟨v,y,S,T⟩=>⟨by rw[y,S],T⟩
end
end Go.Proofs.YtjipofkjmmpjdaaGreat
namespace Go.Hb
open Go.ChangeShapes Go.WideShapes Go.RowKit
section
variable{H:Type}{enc:TypeId×Value->H}{P:Program}{W:World}{sp:Nat->Bool}{held:Bool}{base:Nat}
theorem trod_int{t e:TypeId}{k:IntKind}{cs:List Value}{x:DataW H×List MemPlace}{u:Nat}{v:Value}{r:Reach}{M:Nat}(w:cs=[v])(z:Cell.okWide P W r M t v)(A:P.underlying t=some (.slice e))(N:P.underlying e=some (.int k))(O:P.cellsOf e=1)(B:DataW.trod enc P W base sp held u t cs=some x)(C:Je P t x.1) :
  ∃(s:Sl) (l:List Int),v = .slice s.a s.n s.c/\BZ W s (Ap.int k) l:=by
 rcases DataW.trod_slice A B with⟨h,_⟩|⟨a',g,p,d,K,n,rfl,h,D,_,R,S,T,q,_,_⟩
 ·rw[w] at h;simp only[List.cons.injEq,and_true] at h;exact⟨⟨none,0,0⟩,[],h,⟨rfl,.inl ⟨rfl,rfl⟩⟩⟩
 ·subst D;rw[w] at h;simp only[List.cons.injEq,and_true] at h;subst h;have f:a'.spot=none:=by
   simp only[A,Cell.okWide,Cell.ok] at z;exact z.2.2.2.1
  have E:∀y∈d,Je P e y.1:=λy U=>Nk (P:=P) (e:=e) (ds:=d.map (·.1)) (λn V=>C n<|by simp only[DataW.weights,A,mem_cons,List.mem_append];exact .inr (.inl V)) (mem_map.2 ⟨y,U,rfl⟩);obtain⟨rows,X,F,G⟩:=Aw7 (W:=W) (base:=base) (Q:=Ew [.int k]) (a:=a') (m:=1) (len:=g) (cap:=p) one_pos λi hi=>by
   have I:=q i hi;rw[getElem?_eq_getElem<|by omega] at I;simp only[Option.bind_eq_some_iff] at I;obtain⟨c,hc,B⟩:=I;rw[O] at hc;exact⟨c,hc,Abz 9 e _ c (by unfold V4;rw[N]) ⟨_,_,B,E _<|List.getElem_mem _⟩⟩
  obtain⟨l,Y,h4,h5⟩:=SS (Ap.int k) (okK k) Bcr F;refine⟨⟨some a',g,p⟩,l,rfl,?_⟩;rcases G with J|J
  ·have:l=[]:=List.length_eq_zero_iff.1 (by omega);subst this;obtain⟨b,o,L⟩:=a';simp only at f;subst f;exact⟨J,.inr ⟨b,o,rfl,λi j a Z=>by simp at Z⟩⟩
  ·exact BZ.of one_pos (by rw[<- Y];exact J)
theorem open_cfg{t t0 t7 e7:TypeId}{v:Value}{d:DataW H}{ps:List MemPlace}{r:Reach}{b0:Nat}(ht:Ajp P t=true)(hfs:stF P t=[(t0,0),(t0,1),(t0,2),(t0,3),(t0,4),(t0,5),(t0,6),(t7,7)])
  (h0:P.underlying t0=some (.int .i64)) (h7:P.underlying t7=some (.slice e7)) (he:P.underlying e7=some (.int .u32)) (hce:P.cellsOf e7=1) (hc0:P.cellsOf t0=1) (hc7:P.cellsOf t7=1) (hct:P.cellsOf t=8) (hcell:P.cellTypes P.depth t=some [t0,t0,t0,t0,t0,t0,t0,t7])
  (hval:Value.okWide P W r b0 t v) (hd:DataW.Trod enc P W base sp held t v d ps) (hlt:Je P t d) :
  ∃(c0 c1 c2 c3 c4 c5 c6:Int) (s:Sl) (l:List Int),v = .agg #[.int .i64 c0,.int .i64 c1,.int .i64 c2,.int .i64 c3,.int .i64 c4,.int .i64 c5,.int .i64 c6,.slice s.a s.n s.c]/\okK .i64 c1/\BZ W s (Ap.int .u32) l:=by
 obtain⟨fs,hu⟩:∃fs,P.underlying t=some (.struct fs):=by
  unfold Ajp at ht;split at ht
  ·exact⟨_,by assumption⟩
  ·cases ht
 simp only[Value.okWide,hu] at hval;obtain⟨cs,rfl,hsz,ts,hts,_,hcs⟩:=hval;rw[hcell] at hts;cases hts;obtain⟨fuel,hf⟩:=hd;obtain⟨hl,hp⟩:=A6i hu hf hlt;rw[hct] at hl hsz;rw[hfs] at hp;obtain⟨l,rfl⟩:∃l:List Value,cs=l.toArray:=⟨cs.toList,by simp⟩;have hl:l.length=8:=by simpa using hsz
 match l,hl with
 | [v0,v1,v2,v3,v4,v5,v6,v7],_=>
  obtain⟨f0,x0,e0,g0⟩:=hp (t0,0) (by simp);obtain⟨f1,x1,e1,g1⟩:=hp (t0,1) (by simp);obtain⟨f2,x2,e2,g2⟩:=hp (t0,2) (by simp);obtain⟨f3,x3,e3,g3⟩:=hp (t0,3) (by simp);obtain⟨f4,x4,e4,g4⟩:=hp (t0,4) (by simp);obtain⟨f5,x5,e5,g5⟩:=hp (t0,5) (by simp);obtain⟨f6,x6,e6,g6⟩:=hp (t0,6) (by simp);obtain⟨f7,x7,e7',g7⟩:=hp (t7,7) (by simp);simp only[Value.cells,hc0,hc7,List.drop_zero,List.drop_succ_cons,List.take_succ_cons,List.take_zero] at e0 e1 e2 e3 e4 e5 e6 e7';obtain⟨n0,k0,_,w0⟩:=DataW.trod_int h0 e0;obtain⟨n1,k1,_,w1⟩:=DataW.trod_int h0 e1;obtain⟨n2,k2,_,w2⟩:=DataW.trod_int h0 e2;obtain⟨n3,k3,_,w3⟩:=DataW.trod_int h0 e3
  obtain⟨n4,k4,_,w4⟩:=DataW.trod_int h0 e4;obtain⟨n5,k5,_,w5⟩:=DataW.trod_int h0 e5;obtain⟨n6,k6,_,w6⟩:=DataW.trod_int h0 e6;obtain⟨u,hu7,hok⟩:=hcs 7 v7 (by simp);have hu7:t7=u:=by simpa using hu7
  subst hu7;obtain⟨s,l,hv,hr⟩:=trod_int rfl hok h7 he hce e7' g7;simp only[List.cons.injEq,and_true] at k0 k1 k2 k3 k4 k5 k6;subst k0 k1 k2 k3 k4 k5 k6 hv;exact⟨n0,n1,n2,n3,n4,n5,n6,s,l,rfl,w1,hr⟩
end
end Go.Hb
namespace Go.Proofs.YtjipofkjmmpjdaaGreat
open Go.ChangeShapes Go.WideShapes Go.RowKit Go.Hb
section
variable{P:Program}{W:World}{r:Reach}{b0:Nat}
theorem Adu{t e:TypeId}{a:OA}{n c:Nat}(i:P.underlying t=some (.slice e))(d:Cell.okWide P W r b0 t (.slice a n c)):slB W ⟨a,n,c⟩:=by
 cases a with
 | none=>exact .inl rfl
 | some a=>
  simp only[i,Cell.okWide,Cell.ok] at d;obtain⟨_,_,_,hs,row,f,g,_⟩:=d;obtain⟨b,o,sp⟩:=a;simp only at hs;subst hs;refine .inr ⟨b,o,rfl,?_⟩;cases h:W.heap[b]? with
  | none=>simp[World.shape?,h] at g
  | some q=>exact BX h
theorem slb_arg{t e:TypeId}{s:Sl}(d:P.underlying t=some (.slice e))(b:Value.okWide P W r b0 t (.slice s.a s.n s.c)):slB W s:=by
 simp only[Value.okWide,d] at b;exact Adu d b
theorem slb_cfg{t t0 t7 e7:TypeId}{c0 c1 c2 c3 c4 c5 c6:Int}{s:Sl}(h:Ajp P t=true)(k:P.underlying t7=some (.slice e7))(d:P.cellTypes P.depth t=some [t0,t0,t0,t0,t0,t0,t0,t7])(b:Value.okWide P W r b0 t (YW c0 c1 c2 c3 c4 c5 c6 s)):slB W s:=by
 obtain⟨fs,l⟩:∃fs,P.underlying t=some (.struct fs):=by
  unfold Ajp at h;split at h
  ·exact⟨_,by assumption⟩
  ·cases h
 simp only[Value.okWide,l] at b;obtain⟨cs,f,m,ts,g,_,i⟩:=b;rw[d] at g;cases g;cases f;obtain⟨u,e,j⟩:=i 7 (.slice s.a s.n s.c) (by simp);have e:t7=u:=by simpa using e
 subst e;exact Adu k j
end
end Go.Proofs.YtjipofkjmmpjdaaGreat
namespace Go.Proofs.YtjipofkjmmpjdaaGreat
open Go.ChangeShapes Go.WideShapes Go.RowKit Go.ChangeMaps Go.Hb
set_option maxRecDepth 100000 in
theorem topTwins_lifted(t:Os)(b:t.Started)(H:Type)(enc:TypeId×Value->H) :
  ReturnsInHanded {} Tryz.checked t 8 .any (Rows.topTwinsSpec.pre6 enc PR f8 Rows.topTwinsRow.domain false) (Rows.topTwinsSpec.post enc PR f8 false true false false):=by
 refine law_lifted (C:=Tryz.checked) (by kernel_rfl) b (by kernel_rfl) func8
  (ChangeSpec.witness6 (enc:=enc) (C:=Tryz.checked) (s:=Rows.topTwinsSpec) false ⟨#[],#[.agg #[.i 0,.i 0,.i 0,.i 0,.i 0,.i 0,.i 0,.l none 0 0],.l none 0 0],[]⟩ 8 (by kernel_rfl) (by kernel_rfl) (by kernel_rfl)<|by kernel_rfl) rfl rfl (by kernel_rfl) (by kernel_rfl) ?_
 intro W base args ds p a hA d;obtain⟨u,F,R,G,S,T,g,rfl,rfl,I,J⟩:=trodAll_cons (ts:=[_]) hA;obtain⟨v,K,U,L,V,X,rfl,rfl,rfl,M,r1⟩:=trodAll_cons J;obtain⟨rfl,rfl,rfl⟩:=trodAll_nil r1;obtain rfl:args=#[u,v]:=by cases args;simp_all
 obtain⟨w,x,y,z,A,B,D,s0,N,rfl,Y,h⟩:=open_cfg (t0:=3) (t7:=22) (e7:=145) (by kernel_rfl) (by kernel_rfl) (by kernel_rfl) (by kernel_rfl) (by kernel_rfl) (by kernel_rfl) (by kernel_rfl) (by kernel_rfl) (by kernel_rfl) (by kernel_rfl) (a 0 _ u rfl rfl) I (light_each d (j:=0) rfl rfl);obtain⟨O,k,rfl,m,f,c,n⟩:=open_slc (e:=41) (ks:=[.int .i64,.str,.str,.int .i64]) (by kernel_rfl) (by kernel_rfl) (by kernel_rfl) (by decide) (a 1 _ v rfl rfl) M (light_each d (j:=1) rfl rfl);obtain⟨E,c,o,P⟩:=arg_rec opR OpOk of_op (by decide) (by decide) c n
 have Q:E.length*48<=reachBytes:=by rw[o,<- m];have e:Tryz.checked.prog.bytesOf 41=48:=(by kernel_rfl);rw[e] at f;exact f
 have q:slB W s0:=slb_cfg (t0:=3) (t7:=22) (e7:=145) (by kernel_rfl) (by kernel_rfl) (by kernel_rfl) (a 0 _ _ rfl rfl);have r:slB W O:=slb_arg (e:=41) (by kernel_rfl) (a 1 _ _ rfl rfl);exact⟨⟨rfl,rfl,rfl⟩,twins_walk (ops:=E) (tape:=N) c h r q⟩
theorem topTwins_inPlace:Program.inPlace PR 8=Rows.topTwinsRow.inPlace:=by kernel_rfl
theorem topTwins_unf:Program.unfollowed PR 8=true:=by kernel_rfl
theorem topTwins_rec:Program.recurses PR 8=true:=by unfold Program.recurses;rw[topTwins_unf];rfl
theorem topTwins_named:Program.varsNamed PR 8=Rows.topTwinsRow.named:=by kernel_rfl
theorem topTwins_facts:joinedFacts PR 8 f8 Rows.topTwinsSpec Rows.topTwinsRow=true:=by
 unfold joinedFacts;rw[topTwins_inPlace,topTwins_unf,topTwins_rec,topTwins_named];kernel_rfl
theorem topTwins:Rows.TopTwinsSaid:=
 OpenClaim.holds_of_wide 8 f8 rfl rfl rfl rfl rfl rfl rfl ⟨rfl,rfl,rfl,rfl,rfl⟩ rfl rfl rfl rfl rfl (by kernel_rfl) func8 topTwins_facts
  (of_decide_eq_true<|by kernel_rfl) (by unfold Func.isWrapper;first|(rw[if_pos<|by decide +kernel];kernel_rfl)|(rw[if_neg<|by decide +kernel];exact⟨rfl,rfl⟩))
  (λb a H enc _=>topTwins_lifted b a H enc)
end Go.Proofs.YtjipofkjmmpjdaaGreat
