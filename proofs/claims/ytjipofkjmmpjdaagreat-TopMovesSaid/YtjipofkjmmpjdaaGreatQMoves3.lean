import Derived.IntWalk
import Derived.Shelf.Small.Strs
import Derived.Shelf.Strings.Search1
import Derived.Shelf.Sort.Plain
import Derived.Shelf.Bits.Mul64
import Derived.Shelf.Slices.In.SortNone
import Derived.Test.YtjipofkjmmpjdaaGreatProg
import Derived.Test.YtjipofkjmmpjdaaGreatQMoves2
set_option linter.unusedVariables false
set_option linter.unusedSimpArgs false
set_option linter.unnecessarySimpa false
set_option linter.unusedSectionVars false
set_option maxRecDepth 100000
namespace Go.Hb
structure Aia(ls:List Lk)(free:List Nat)(row:List (Nat×Value))(v:Value)(h:Nat)(ls1:List Lk)(free1:List Nat):Prop where
 pos:0<h
 lt:h<ls1.length
 le:ls.length<=ls1.length
 out:h∉row.map (·.1)
 kept:Dp ls1=upd (Dp ls) h (v,true)
 nx:DK ls1=upd (DK ls) h 0
 pv:DL ls1=upd (DL ls) h 0
 all:∀x,(x∈row.map (·.1)\/x=h\/x∈free1)↔(0<x/\x<ls1.length)
 nodup:(row.map (·.1)++h::free1).Nodup
 sub:∀x∈free1,x∈free
theorem Ym{l:List Nat}(hl:l≠[])(d:Nat):l.dropLast++[l.getLastD d]=l:=by
 rcases List.eq_nil_or_concat l with rfl|⟨m,x,rfl⟩
 ·exact absurd rfl hl
 ·simp[List.getLastD_eq_getLast?]
theorem IG.take{ls:List Lk}{free:List Nat}{row:List (Nat×Value)}(hi:IG ls free row)(v:Value):Aia ls free row v (T9 ls.length free) (GE ls free v) free.dropLast:=by
 by_cases hf:free=[]
 ·subst hf;have e:GE ls [] v=ls++[⟨v,0,0,true⟩]:=by simp[GE]
  have eh:T9 ls.length []=ls.length:=rfl;rw[e,eh];have hout:ls.length∉row.map (·.1):=λh=>by
   have:=(hi.all _).1 (.inl h);omega
  refine⟨hi.pos,by simp,by simp,hout,Agd,A1z,A14,λx=>?_,?_,λx hx=>by simpa using hx⟩
  ·have:=hi.all x;simp only[List.dropLast_nil,List.not_mem_nil,or_false,List.length_append,List.length_cons,List.length_nil] at this ⊢;constructor
   ·rintro(h|h)
    ·have:=this.1 h;omega
    ·have:=hi.pos;omega
   ·intro h
    by_cases hx:x=ls.length
    ·exact .inr hx
    ·exact .inl (this.2 (by omega))
  ·have:=hi.nodup;simp only[List.append_nil,List.dropLast_nil] at this ⊢;rw[List.nodup_append];exact⟨this,by simp,λa ha b hb=>by simp at hb;subst hb;rintro rfl;exact hout ha⟩
 ·have hsplit:=Ym hf 0;have eh:T9 ls.length free=free.getLastD 0:=by
   unfold T9;rcases List.eq_nil_or_concat free with rfl|⟨m,x,rfl⟩
   ·exact absurd rfl hf
   ·simp[List.getLastD_eq_getLast?]
  have e:GE ls free v=ls.set (free.getLastD 0) ⟨v,0,0,true⟩:=by simp[GE,hf]
  rw[e,eh];generalize free.getLastD 0=h at *;have hmem:h∈free:=by rw[<- hsplit];simp
  have hb:=(hi.all h).1 (.inr hmem);have hnd:=hi.nodup;rw[<- hsplit] at hnd;have hnd':=hnd;simp only[List.nodup_append] at hnd';have hout:h∉row.map (·.1):=λhr=>hnd'.2.2 h hr h (by simp) rfl;refine⟨hb.1,by simpa using hb.2,by simp,hout,SU hb.2,Apg hb.2,Apm hb.2,λx=>?_,?_,λx hx=>(List.dropLast_sublist _).subset hx⟩
  ·have:=hi.all x;rw[<- hsplit] at this;simp only[List.mem_append,List.mem_singleton,List.length_set] at this ⊢;rw[<- this];constructor
   ·rintro(h|h|h)
    ·exact .inl h
    ·exact .inr (.inr h)
    ·exact .inr (.inl h)
   ·rintro(h|h|h)
    ·exact .inl h
    ·exact .inr (.inr h)
    ·exact .inr (.inl h)
  ·refine(List.Perm.nodup_iff ?_).1 hnd;exact List.Perm.append_left _ (List.perm_append_comm (l₁:=free.dropLast) (l₂:=[h]))
theorem IG.bound{ls:List Lk}{free:List Nat}{row:List (Nat×Value)}(hi:IG ls free row){x:Nat}(hx:x∈0::row.map (·.1)):x<ls.length:=by
 rcases List.mem_cons.1 hx with rfl|hx
 ·exact hi.pos
 ·exact((hi.all x).1 (.inl hx)).2
theorem IG.nodup0{ls:List Lk}{free:List Nat}{row:List (Nat×Value)}(hi:IG ls free row):(0::row.map (·.1)).Nodup:=by
 rw[List.nodup_cons];refine⟨λh0=>?_,(List.nodup_append.1 hi.nodup).1⟩;have:=(hi.all 0).1 (.inl h0);omega
theorem Th{l:List Nat}:l.headD 0∈0::l:=by cases l <;> simp
theorem L1{l:List Nat}:l.getLastD 0∈0::l:=by
 rcases List.eq_nil_or_concat l with rfl|⟨m,x,rfl⟩
 ·simp
 ·simp[List.getLastD_eq_getLast?]
theorem IG.lay{ls:List Lk}{free:List Nat}{r1 r2:List (Nat×Value)}(hi:IG ls free (r1++r2)){v:Value}{h:Nat}{ls1:List Lk}{free1:List Nat}(ht:Aia ls free (r1++r2) v h ls1 free1) :
  IG (Rf ls1 h ((r1.map (·.1)).getLastD 0) ((r2.map (·.1)).headD 0)) free1 (r1++(h,v)::r2):=by
 have hp:(r1.map (·.1)).getLastD 0<ls1.length:=by
  have h1:(r1.map (·.1)).getLastD 0∈0::(r1++r2).map (·.1):=by
   have:=L1 (l:=r1.map (·.1));simp only[List.map_append,List.mem_cons,List.mem_append] at this ⊢;rcases this with h|h
   ·exact .inl h
   ·exact .inr (.inl h)
  exact Nat.lt_of_lt_of_le (hi.bound h1) ht.le
 have hx:(r2.map (·.1)).headD 0<ls1.length:=by
  have h1:(r2.map (·.1)).headD 0∈0::(r1++r2).map (·.1):=by
   have:=Th (l:=r2.map (·.1));simp only[List.map_append,List.mem_cons,List.mem_append] at this ⊢;rcases this with h|h
   ·exact .inl h
   ·exact .inr (.inr h)
  exact Nat.lt_of_lt_of_le (hi.bound h1) ht.le
 have hk:=Agl ht.lt hp hx;have hout:h∉0::(r1++r2).map (·.1):=by
  rw[List.mem_cons];rintro(h0|h0)
  ·have:=ht.pos;omega
  ·exact ht.out h0
 refine⟨by rw[Yw];have:=ht.lt;omega,λx=>?_,?_,?_,?_,?_,?_⟩
 ·rw[Yw,<- ht.all x];simp only[List.map_append,List.map_cons,List.mem_append,List.mem_cons];constructor
  ·rintro((a|a|a)|a)
   ·exact .inl (.inl a)
   ·exact .inr (.inl a)
   ·exact .inl (.inr a)
   ·exact .inr (.inr a)
  ·rintro((a|a)|a|a)
   ·exact .inl (.inl a)
   ·exact .inl (.inr (.inr a))
   ·exact .inl (.inr (.inl a))
   ·exact .inr a
 ·have:=ht.nodup;simp only[List.map_append,List.map_cons] at this ⊢;refine(List.Perm.nodup_iff ?_).1 this;simp only[List.append_assoc,List.cons_append];refine List.Perm.append_left _ ?_;exact List.perm_middle
 ·have hs:=hi.stands;simp only[List.map_append,List.map_cons] at hs hout ⊢;have hn:=hi.nodup0;simp only[List.map_append] at hn;have h1:D4 (DK ls1) (DL ls1) (r1.map (·.1)++r2.map (·.1)):=by
   rw[ht.nx,ht.pv];exact hs.upd_out hout
  rw[Awz ht.lt hp hx,Aw0 ht.lt hp hx];exact Abq h1 hout hn
 ·intro e he;rw[hk,ht.kept];simp only[List.mem_append,List.mem_cons] at he
  by_cases heq:e.1=h
  ·rcases he with he|he|he
   ·exact absurd (by rw[<- heq];exact List.mem_map_of_mem (List.mem_append_left _ he)) ht.out
   ·subst he;exact Fw _ _ _
   ·exact absurd (by rw[<- heq];exact List.mem_map_of_mem (List.mem_append_right _ he)) ht.out
  ·rw[Bk heq];refine hi.vals e ?_;rcases he with he|he|he
   ·exact List.mem_append_left _ he
   ·subst he;exact absurd rfl heq
   ·exact List.mem_append_right _ he
 ·intro x hx';rw[hk,ht.kept];have hxh:x≠h:=by
   rintro rfl;have:=(List.nodup_append.1 ht.nodup).2.1;simp only[List.nodup_cons] at this;exact this.1 hx'
  rw[Bk hxh];exact hi.gone x (ht.sub x hx')
 ·rw[hk,ht.kept,Bk (by have:=ht.pos;omega)];exact hi.zero
end Go.Hb
namespace Go.Hb
def lkR:Rec Lk:=⟨4,Lk.cells,λ_=>rfl⟩
instance Lk.of0{v:Value}{t:Bool}:LB lkR [v,.i (0:Int),.i (0:Int),.b t] ⟨v,0,0,t⟩:=⟨rfl⟩
instance Lk.setP{a:Lk}{p:Nat}:Zo lkR a 1 (.i (p:Int)) { a with prev:=p }:=⟨rfl,by decide⟩
instance Lk.setN{a:Lk}{p:Nat}:Zo lkR a 2 (.i (p:Int)) { a with next:=p }:=⟨rfl,by decide⟩
theorem IG.len{ls:List Lk}{free:List Nat}{row:List (Nat×Value)}(hi:IG ls free row):ls.length=row.length+free.length+1:=by
 have h1:(row.map (·.1)++free).Perm ((List.range ls.length).drop 1):=by
  refine(List.perm_ext_iff_of_nodup hi.nodup ?_).2 λx=>?_
  ·exact(List.nodup_range).sublist (List.drop_sublist _ _)
  ·rw[List.mem_append,hi.all x];constructor
   ·intro h;rw[List.mem_iff_getElem];exact⟨x-1,by simp;omega,by simp;omega⟩
   ·intro h;rw[List.mem_iff_getElem] at h;obtain⟨i,hi,rfl⟩:=h;simp at hi ⊢;omega
 have:=h1.length_eq;simp at this;have:=hi.pos;omega
def Fu{T:Type}(mk:T->Value)(row:List (Nat×T)):List (Nat×Value):=row.map λe=>(e.1,mk e.2)
theorem Qw{T:Type}(mk:T->Value)(row:List (Nat×T)):(Fu mk row).map (·.1)=row.map (·.1):=by simp[Fu]
theorem Apr{T:Type}(mk:T->Value)(row:List (Nat×T)):(Fu mk row).length=row.length:=by simp[Fu]
def lst{T:Type}(mk:T->Value)(b:Nat)(row:List (Nat×T))(free:List Nat):HP:=
 JU λ(x:Sl×Sl×List Lk)=>ED (IG x.2.2 free (Fu mk row)) (AF [blk b [.l x.1.a x.1.n x.1.c,.l x.2.1.a x.2.1.n x.2.1.c,.i (row.length:Int)],recs lkR x.1 x.2.2,recs Rec.nat x.2.1 free])
section
variable{T:Type}{mk:T->Value}{b:Nat}{row:List (Nat×T)}{free:List Nat}{W w:World}{M:List HP}
instance At.lst{L:List HP}:At (lst mk b row free::L) b (lst mk b row free) (λx=>x::L):=⟨DX⟩
theorem DZ(h:Ab W w (lst mk b row free::M)):∃(s f:Sl) (ls:List Lk),IG ls free (Fu mk row)/\(s.n=ls.length/\f.n=free.length/\ls.length=row.length+free.length+1) /\
  Ab W w (blk b [.l s.a s.n s.c,.l f.a f.n f.c,.i (row.length:Int)]::recs lkR s ls::recs Rec.nat f free::M):=by
 obtain⟨⟨s,f,ls⟩,h⟩:=h.openE;obtain⟨hi,h⟩:=h.openA;have h:=h.openL;have h:Ab W w (blk b [.l s.a s.n s.c,.l f.a f.n f.c,.i (row.length:Int)]::recs lkR s ls::recs Rec.nat f free::M):=h;refine⟨s,f,ls,hi,⟨(h.pure (q:=1) rfl λg hg=>?_),(h.pure (q:=2) rfl λg hg=>?_),?_⟩,h⟩
 ·have:=hg.1.1;rw[Rec.flat_length] at this;exact(Nat.eq_of_mul_eq_mul_right (by decide:0<4) this).symm
 ·have:=hg.1.1;rw[Rec.flat_length] at this;exact(Nat.eq_of_mul_eq_mul_right (by decide:0<1) this).symm
 ·have:=hi.len;rw[Apr] at this;exact this
theorem DC(s f:Sl){ls:List Lk}{n:Int}(hi:IG ls free (Fu mk row))(hn:n=row.length)
  (h:Ab W w (blk b [.l s.a s.n s.c,.l f.a f.n f.c,.i n]::recs lkR s ls::recs Rec.nat f free::M)):Ab W w (lst mk b row free::M):=by
 subst hn;exact Ab.shutE (s,f,ls) (Ab.shutA hi (Ab.shutL (Ps:=[_,_,_]) h))
def JV{T:Type}(row:List (Nat×T))(free:List Nat):Nat:=free.getLastD (row.length+free.length+1)
end
end Go.Hb
namespace Go.Hb
section
variable{T:Type}
def IW(row:List (Nat×T))(h:Int):Option Nat:=row.findIdx? λe=>decide ((e.1:Int)=h)
def AS(row:List (Nat×T))(i:Nat):Nat:=(row.map (·.1)).getD i 0
def HO(row:List (Nat×T))(h:Int):Nat:=match IW row h with
 | some i=>AS row (i+1)
 | none=>0
theorem KL{row:List (Nat×T)}{h:Int}{i:Nat}(hr:IW row h=some i):∃e,row[i]? = some e/\(e.1:Int)=h/\row=row.take i++e::row.drop (i+1)/\i<row.length:=by
 unfold IW at hr;rw[List.findIdx?_eq_some_iff_getElem] at hr;obtain⟨hlt,hp,_⟩:=hr;exact⟨row[i],List.getElem?_eq_getElem hlt,of_decide_eq_true hp,by simp,hlt⟩
theorem YG{row:List (Nat×T)}{h:Int}:IW row h=none↔∀e∈row,(e.1:Int)≠h:=by
 unfold IW;rw[List.findIdx?_eq_none_iff];simp
theorem Axl{U:Type}(f:Nat×T->Nat×U)(hf:∀e,(f e).1=e.1)(row:List (Nat×T))(h:Int):IW (row.map f) h=IW row h:=by
 unfold IW;rw[List.findIdx?_map];congr 1;funext e;simp[hf]
theorem JJ{row:List (Nat×T)}(hn:(row.map (·.1)).Nodup){i:Nat}{e:Nat×T}(h:row[i]? = some e):IW row (e.1:Int)=some i:=by
 obtain⟨hlt,rfl⟩:=List.getElem?_eq_some_iff.1 h;unfold IW;rw[List.findIdx?_eq_some_iff_getElem];refine⟨hlt,by simp,λj hj=>?_⟩;rw[decide_eq_true_eq];intro he;have:(row.map (·.1))[j]? = (row.map (·.1))[i]?:=by
  rw[List.getElem?_map,List.getElem?_map,List.getElem?_eq_getElem hlt,List.getElem?_eq_getElem (by omega)];simp only[Option.map_some,Option.some.injEq];omega
 have:=(List.getElem?_inj (by simp;omega) hn).1 this;omega
end
section
variable{ls:List Lk}{free:List Nat}{row:List (Nat×Value)}
theorem IG.at_row(hi:IG ls free row){h:Nat}(hh:0<h)(hl:h<ls.length)(ht:(ls.getD h default).there=true):∃i,IW row (h:Int)=some i:=by
 rcases(hi.all h).2 ⟨hh,hl⟩ with hr|hf
 ·cases hx:IW row (h:Int) with
  | some i=>exact⟨i,rfl⟩
  | none=>
   rw[List.mem_map] at hr;obtain⟨e,he,rfl⟩:=hr;exact absurd rfl (YG.1 hx e he)
 ·have:=hi.gone h hf;unfold Dp at this;simp only at this;rw[ht] at this;cases this
theorem IG.row_at(hi:IG ls free row){h:Int}{i:Nat}(hr:IW row h=some i):∃(k:Nat) (v:Value),h=(k:Int)/\row[i]? = some (k,v)/\0<k/\k<ls.length/\(ls.getD k default).there=true/\(ls.getD k default).v=v/\row=row.take i++(k,v)::row.drop (i+1) /\
  DK ls k=AS row (i+1)/\DL ls k=(if i=0 then 0 else AS row (i-1)):=by
 obtain⟨⟨k,v⟩,he,hk,hs,hlt⟩:=KL hr;have hm:(k,v)∈row:=by rw[hs];simp
 have hb:=(hi.all k).1 (.inl (List.mem_map.2 ⟨_,hm,rfl⟩));have hv:=hi.vals _ hm;unfold Dp at hv;simp only[Prod.mk.injEq] at hv;have hst:=hi.stands;rw[hs] at hst;simp only[List.map_append,List.map_cons] at hst;have:=Jb hst;refine⟨k,v,hk.symm,he,hb.1,hb.2,hv.2,hv.1,hs,?_,?_⟩
 ·rw[this.1];unfold AS
  rw[List.map_drop];rw[List.getD_eq_getElem?_getD,List.headD_eq_head?_getD,List.head?_drop]
 ·rw[this.2];rcases i with _|i
  ·simp
  ·simp only[Nat.add_eq_zero_iff,Nat.one_ne_zero,and_false,if_false,Nat.add_sub_cancel];unfold AS;rw[List.getLastD_eq_getLast?,List.map_take,List.getLast?_eq_getElem?,List.getD_eq_getElem?_getD,List.length_take,List.length_map,Nat.min_eq_left (by omega)];rw[List.getElem?_take_of_lt (by omega)];rfl
theorem IG.has(hi:IG ls free row)(h:Int):(decide (h>0) && (decide (h<(ls.length:Int)) && (ls.getD h.toNat default).there))=(IW row h).isSome:=by
 cases hr:IW row h with
 | some i=>
  obtain⟨k,v,rfl,_,h1,h2,h3,_⟩:=hi.row_at hr;simp only[Option.isSome_some,Bool.and_eq_true,decide_eq_true_eq,Int.toNat_natCast];exact⟨by omega,by omega,h3⟩
 | none=>
  simp only[Option.isSome_none];cases hb:(decide (h>0) && (decide (h<(ls.length:Int)) && (ls.getD h.toNat default).there)) with
  | false=>rfl
  | true=>
   simp only[Bool.and_eq_true,decide_eq_true_eq] at hb;obtain⟨i,hx⟩:=hi.at_row (h:=h.toNat) (by omega) (by omega) hb.2.2;rw[show((h.toNat:Nat):Int)=h by omega,hr] at hx;cases hx
theorem IG.front(hi:IG ls free row):DK ls 0=AS row 0:=by
 rw[V9 hi.stands];unfold AS;cases row <;> rfl
theorem IG.lift(hi:IG ls free row){i k:Nat}{v:Value}(hs:row=row.take i++(k,v)::row.drop (i+1))(hp:DL ls k<ls.length)(hx:DK ls k<ls.length) :
  D4 (DK (Gw ls k)) (DL (Gw ls k)) ((row.take i++row.drop (i+1)).map (·.1)):=by
 have hst:=hi.stands;have hn:=hi.nodup0;rw[hs] at hst hn;simp only[List.map_append,List.map_cons] at hst hn ⊢;have hat:=Jb hst;rw[Aow hp hx,Aox hp hx];have:=YW hst hn;rw[hat.1,hat.2];exact this
theorem Ag1{l1 l2:List Nat}{x:Nat}(h:(l1++x::l2).Nodup):x∉l1++l2/\(l1++l2).Nodup:=by
 have:=(List.perm_middle (a:=x) (l₁:=l1) (l₂:=l2)).nodup_iff.1 h;simpa using List.nodup_cons.1 this
theorem IG.remove(hi:IG ls free row){i k:Nat}{v z:Value}(hs:row=row.take i++(k,v)::row.drop (i+1))(hk:0<k)(hkl:k<ls.length)(hp:DL ls k<ls.length)(hx:DK ls k<ls.length) :
  IG ((Gw ls k).set k ⟨z,0,0,false⟩) (free++[k]) (row.eraseIdx i):=by
 have he:row.eraseIdx i=row.take i++row.drop (i+1):=List.eraseIdx_eq_take_drop_succ ..;have hst:=hi.lift hs hp hx;rw[he];have hnd:=hi.nodup;rw[hs] at hnd;simp only[List.map_append,List.map_cons,List.append_assoc,List.cons_append] at hnd;obtain⟨hnk,hnd2⟩:=Ag1 hnd;have hll:=Tc ls k;have hout:k∉(row.take i++row.drop (i+1)).map (·.1):=by
  simp only[List.map_append,List.mem_append,not_or] at hnk ⊢;exact⟨hnk.1,hnk.2.1⟩
 have hkf:k∉free:=by simp only[List.mem_append,not_or] at hnk;exact hnk.2.2
 have hkept:Dp ((Gw ls k).set k ⟨z,0,0,false⟩)=upd (Dp ls) k (z,false):=by
  rw[SU (by omega),Aa4 hp hx]
 refine⟨by simp[hll];omega,λx=>?_,?_,?_,?_,?_,?_⟩
 ·have:=hi.all x;rw[hs] at this;simp only[List.map_append,List.map_cons,List.mem_append,List.mem_cons,List.length_set,hll,List.mem_singleton,List.not_mem_nil,or_false] at this ⊢;rw[<- this];constructor
  ·rintro((h|h)|h|h)
   ·exact .inl (.inl h)
   ·exact .inl (.inr (.inr h))
   ·exact .inr h
   ·exact .inl (.inr (.inl h))
  ·rintro((h|h|h)|h)
   ·exact .inl (.inl h)
   ·exact .inr (.inr h)
   ·exact .inl (.inr h)
   ·exact .inr (.inl h)
 ·rw[<- List.append_assoc];have:((row.take i++row.drop (i+1)).map (·.1)++free).Nodup:=by simpa using hnd2
  rw[List.nodup_append];refine⟨this,by simp,λa ha b hb=>?_⟩;simp only[List.mem_singleton] at hb;subst hb;rintro rfl;rcases List.mem_append.1 ha with h|h
  ·exact hout h
  ·exact hkf h
 ·rw[Apg (by omega),Apm (by omega)];refine hst.upd_out ?_;rw[List.mem_cons,not_or];exact⟨by omega,hout⟩
 ·intro e hm;rw[hkept];have hek:e.1≠k:=by
   rintro rfl;exact hout (List.mem_map_of_mem hm)
  rw[Bk hek];refine hi.vals e ?_;rw[hs];rcases List.mem_append.1 hm with h|h
  ·exact List.mem_append_left _ h
  ·exact List.mem_append_right _ (List.mem_cons_of_mem _ h)
 ·intro h hm;rw[hkept];rcases List.mem_append.1 hm with hm1|hm1
  ·have hne:h≠k:=by rintro rfl;exact hkf hm1
   rw[Bk hne];exact hi.gone h hm1
  ·simp only[List.mem_singleton] at hm1;subst hm1;rw[Fw]
 ·rw[hkept,Bk (by omega)];exact hi.zero
end
section
variable{T:Type}{mk:T->Value}
def EY(row:List (Nat×T))(h:Int):Option T:=match IW row h with
 | some i=>(row[i]?).map (·.2)
 | none=>none
theorem Tt(row:List (Nat×T))(h:Int):IW (Fu mk row) h=IW row h:=Axl (λe=>(e.1,mk e.2)) (λ_=>rfl) row h
theorem Qx(row:List (Nat×T))(i:Nat):AS (Fu mk row) i=AS row i:=by unfold AS;rw[Qw]
theorem Abl(row:List (Nat×T))(i:Nat):Fu mk (row.eraseIdx i)=(Fu mk row).eraseIdx i:=by
 simp only[Fu,List.eraseIdx_eq_take_drop_succ,List.map_append,List.map_take,List.map_drop]
theorem Aps{row:List (Nat×T)}{i k:Nat}{v:Value}{z:T}(h1:IW row (k:Int)=some i)(h:(Fu mk row)[i]? = some (k,v)):v=mk ((EY row k).getD z):=by
 unfold Fu at h;unfold EY;rw[List.getElem?_map] at h;rw[h1];simp only[];cases hr:row[i]? with
 | none=>rw[hr] at h;cases h
 | some e=>rw[hr] at h;simp at h;simp[h]
end
section
variable{ls:List Lk}{free:List Nat}{row:List (Nat×Value)}
theorem IG.next_lt(hi:IG ls free row){i k:Nat}{v:Value}(hs:row=row.take i++(k,v)::row.drop (i+1)):DK ls k<ls.length:=by
 have hst:=hi.stands;have hb:=hi.bound (x:=((row.drop (i+1)).map (·.1)).headD 0) (by
  rcases List.mem_cons.1 (Th (l:=(row.drop (i+1)).map (·.1))) with h|h
  ·exact List.mem_cons.2 (.inl h)
  ·exact List.mem_cons_of_mem _ (((List.drop_sublist _ _).map _).subset h))
 rw[hs] at hst;simp only[List.map_append,List.map_cons] at hst;rw[(Jb hst).1];exact hb
theorem IG.prev_lt(hi:IG ls free row){i k:Nat}{v:Value}(hs:row=row.take i++(k,v)::row.drop (i+1)):DL ls k<ls.length:=by
 have hst:=hi.stands;have hb:=hi.bound (x:=((row.take i).map (·.1)).getLastD 0) (by
  rcases List.mem_cons.1 (L1 (l:=(row.take i).map (·.1))) with h|h
  ·exact List.mem_cons.2 (.inl h)
  ·exact List.mem_cons_of_mem _ (((List.take_sublist _ _).map _).subset h))
 rw[hs] at hst;simp only[List.map_append,List.map_cons] at hst;rw[(Jb hst).2];exact hb
end
theorem Awr(z:Value):IG [⟨z,0,0,false⟩] [] []:=by
 refine⟨by simp,λh=>?_,by simp,⟨rfl,rfl,trivial⟩,λe he=>by simp at he,λh hh=>by simp at hh,rfl⟩;simp;omega
end Go.Hb
namespace Go.Hb
theorem Kf{α β:Type}(f:α->β)(l:List α)(i:Nat):(l.eraseIdx i).map f=(l.map f).eraseIdx i:=by
 simp only[List.eraseIdx_eq_take_drop_succ,List.map_append,List.map_take,List.map_drop]
def Ao(ks:List BA)(k:BA):List BA:=ks.filter λx=>decide (x≠k)
def QZ(ks:List BA)(k:BA):Bool:=ks.any λx=>decide (x=k)
theorem GY{ks:List BA}{k:BA}:QZ ks k=true↔k∈ks:=by simp[QZ]
instance A4j{k:BA}{l:List BA}:Decidable (k∈l):=decidable_of_iff (QZ l k=true) GY
theorem FD(l:List BA)(k:BA):QZ l k=decide (k∈l):=by rw[Bool.eq_iff_iff,GY,decide_eq_true_eq]
theorem Kz{ks:List BA}{k:BA}:QZ ks k=false↔k∉ks:=by rw[<- GY];simp
theorem As{ks:List BA}{k:BA}(h:k∉ks):Ao ks k=ks:=by
 unfold Ao;rw[List.filter_eq_self];intro x hx;exact decide_eq_true λhe=>h (he ▸ hx)
theorem AK{ks:List BA}{k x:BA}:x∈Ao ks k↔x∈ks/\x≠k:=by simp[Ao]
theorem Bj(ks:List BA)(k:BA):(Ao ks k).length<=ks.length:=List.length_filter_le _ _
theorem Er{ks:List BA}{k:BA}(h:ks.Nodup):(Ao ks k).Nodup:=h.sublist List.filter_sublist
theorem Y2{V:Type}[Inhabited V](m:List (BA×V))(k:BA):(BJ m k).map (·.1)=Ao (m.map (·.1)) k:=by
 unfold BJ Ao;rw[List.filter_map];rfl
def Awn(room:Int)(ks:List BA)(k:BA):List BA:=if ((Ao ks k++[k]).length:Int)<=room then Ao ks k++[k] else (Ao ks k++[k]).drop 1
def Adu(room:Int)(ks:List BA)(k:BA):BA:=if ((Ao ks k++[k]).length:Int)<=room then ⟨#[]⟩ else (Ao ks k++[k]).headD ⟨#[]⟩
def Yl(room:Int)(ks:List BA)(k:BA):Bool:=!decide (((Ao ks k++[k]).length:Int)<=room)
theorem P9{ks:List BA}{k:BA}(h:ks.Nodup):(Ao ks k++[k]).Nodup:=by
 rw[List.nodup_append];refine⟨Er h,by simp,λa ha b hb=>?_⟩;rw[List.mem_singleton] at hb;subst hb;exact(AK.1 ha).2
theorem J6{k:BA}{t:List BA}(h:(k::t).Nodup):Ao (k::t) k=t:=by
 have:Ao (k::t) k=Ao t k:=by simp[Ao]
 rw[this,As (List.nodup_cons.1 h).1]
def KR(row:List (Nat×BA)):List (BA×Int):=row.map λe=>(e.2,(e.1:Int))
theorem Hq(row:List (Nat×BA)):(KR row).map (·.1)=row.map (·.2):=by simp[KR]
structure GR(ks:List BA)(row:List (Nat×BA))(m:List (BA×Int)):Prop where
 keys:row.map (·.2)=ks
 nd:ks.Nodup
 perm:m.Perm (KR row)
 small:∀k∈ks,k.size<4611686018427387904
section
variable{ks:List BA}{row:List (Nat×BA)}{m:List (BA×Int)}{k:BA}
theorem GR.mnd(hi:GR ks row m):(m.map (·.1)).Nodup:=by
 have:=(hi.perm.map (·.1)).nodup_iff.2 (by rw[Hq,hi.keys];exact hi.nd);exact this
theorem GR.has(hi:GR ks row m):(AE m k).isSome=QZ ks k:=by
 have hm:∀x,x∈m.map (·.1)↔x∈ks:=λx=>by rw[(hi.perm.map (·.1)).mem_iff,Hq,hi.keys]
 cases hg:AE m k with
 | none=>
  have:=Bu.1 hg;have h2:k∉ks:=by
   rw[<- hm,List.mem_map];rintro⟨e,he,rfl⟩;exact this e he rfl
  rw[Kz.2 h2];rfl
 | some v=>
  have:=(Bz hi.mnd).1 hg;have h2:k∈ks:=(hm k).1 (List.mem_map.2 ⟨_,this,rfl⟩);rw[GY.2 h2];rfl
theorem GR.small_m(hi:GR ks row m):∀e∈m,e.1.size<4611686018427387904:=λe he=>by
 refine hi.small _ ?_;rw[<- hi.keys,<- Hq,<- (hi.perm.map (·.1)).mem_iff];exact List.mem_map.2 ⟨e,he,rfl⟩
theorem GR.len(hi:GR ks row m):m.length=row.length/\ks.length=row.length:=by
 constructor
 ·rw[hi.perm.length_eq];simp[KR]
 ·rw[<- hi.keys];simp
theorem GR.miss(hi:GR ks row m)(hg:AE m k=none):k∉ks/\Ao ks k=ks/\GR ks row (BJ m k):=by
 have h1:k∉ks:=by have:=hi.has (k:=k);rw[hg] at this;exact Kz.1 this.symm
 refine⟨h1,As h1,hi.keys,hi.nd,?_,hi.small⟩;have:BJ m k=m:=by
  unfold BJ;rw[List.filter_eq_self];intro e he;exact decide_eq_true (Bu.1 hg e he)
 rw[this];exact hi.perm
theorem GR.hit(hi:GR ks row m){h:Int}(hg:AE m k=some h)(hn:(row.map (·.1)).Nodup):∃i,IW row h=some i/\GR (Ao ks k) (row.eraseIdx i) (BJ m k):=by
 have h1:(k,h)∈KR row:=hi.perm.mem_iff.1 ((Bz hi.mnd).1 hg);obtain⟨i,hil,hi2⟩:=List.mem_iff_getElem.1 h1;have hi3:(KR row)[i]? = some (k,h):=by rw[List.getElem?_eq_getElem hil,hi2]
 have hi4:i<row.length:=by simpa[KR] using hil
 have he:(row[i].2,(row[i].1:Int))=(k,h):=by rw[<- hi2];simp[KR]
 have hnR:((KR row).map (·.1)).Nodup:=by rw[Hq,hi.keys];exact hi.nd
 have hdel:=GH hnR hi3;have hK:KR (row.eraseIdx i)=BJ (KR row) k:=by rw[<- hdel];exact Kf _ _ _
 refine⟨i,?_,?_,Er hi.nd,?_,λx hx=>hi.small x (AK.1 hx).1⟩
 ·have:=JJ hn (List.getElem?_eq_getElem hi4);have h5:(row[i].1:Int)=h:=congrArg Prod.snd he;rw[h5] at this;exact this
 ·rw[<- Hq,hK,Y2,Hq,hi.keys]
 ·rw[hK];exact Tf hi.perm
theorem GR.push(hi:GR ks row m)(h1:k∉ks)(hz:k.size<4611686018427387904)(h:Nat):GR (ks++[k]) (row++[(h,k)]) (Cj m k (h:Int)):=by
 have hg:AE m k=none:=by
  have:=hi.has (k:=k);rw[Kz.2 h1] at this;simpa using this
 refine⟨by simp[hi.keys],?_,?_,λx hx=>?_⟩
 ·rw[List.nodup_append];refine⟨hi.nd,by simp,λa ha b hb=>?_⟩;rw[List.mem_singleton] at hb;subst hb;rintro rfl;exact h1 ha
 ·have e1:Cj m k (h:Int)=(k,(h:Int))::m:=by unfold Cj;rw[hg]
  have e2:KR (row++[(h,k)])=KR row++[(k,(h:Int))]:=by simp[KR]
  rw[e1,e2];exact(hi.perm.cons _).trans (List.perm_append_singleton _ _).symm
 ·rw[List.mem_append,List.mem_singleton] at hx;rcases hx with hx|rfl
  ·exact hi.small x hx
  ·exact hz
end
section
variable{W w:World}{M L:List HP}{b:Nat}{room:Int}{N:Nat}{ks:List BA}
theorem Hg{T:Type}{mk:T->Value}{row:List (Nat×T)}{free:List Nat}(h:Ab W w (lst mk b row free::M)):(row.map (·.1)).Nodup:=by
 obtain⟨s,f,ls,hi,_⟩:=DZ h;have:=hi.nodup;rw[Qw] at this;exact(List.nodup_append.1 this).1
abbrev GX:Type:=Nat×Nat×List (Nat×BA)×List Nat×List (BA×Int)
def ghR(b:Nat)(room:Int)(N:Nat)(ks:List BA):HP:=JU λ(x:GX)=>ED (GR ks x.2.2.1 x.2.2.2.2/\x.2.2.1.length+x.2.2.2.1.length<=N)
 (AF [blk b [.i room,pq x.1 0,pq x.2.1 0],lst .s x.1 x.2.2.1 x.2.2.2.1,ixr (Rec.int .i64) x.2.1 0 x.2.2.2.2])
instance At.ghR:At (ghR b room N ks::L) b (ghR b room N ks) (λx=>x::L):=⟨DX⟩
theorem K0(h:Ab W w (ghR b room N ks::M)):∃(lb xb:Nat) (row:List (Nat×BA)) (free:List Nat) (m:List (BA×Int)),GR ks row m/\row.length+free.length<=N /\
  Ab W w (blk b [.i room,pq lb 0,pq xb 0]::lst .s lb row free::ixr (Rec.int .i64) xb 0 m::M):=by
 obtain⟨⟨lb,xb,row,free,m⟩,h⟩:=h.openE;obtain⟨hi,h⟩:=h.openA;exact⟨lb,xb,row,free,m,hi.1,hi.2,h.openL⟩
theorem IP{lb xb:Nat}{row:List (Nat×BA)}{free:List Nat}{m:List (BA×Int)}(hi:GR ks row m)(hN:row.length+free.length<=N)
  (h:Ab W w (blk b [.i room,pq lb 0,pq xb 0]::lst .s lb row free::ixr (Rec.int .i64) xb 0 m::M)):Ab W w (ghR b room N ks::M):=
 Ab.shutE (lb,xb,row,free,m) (Ab.shutA ⟨hi,hN⟩ (Ab.shutL (Ps:=[_,_,_]) h))
theorem An7(h:Ab W w (ghR b room N ks::M)):ks.Nodup/\ks.length<=N/\∀k∈ks,k.size<4611686018427387904:=by
 obtain⟨lb,xb,row,free,m,hi,hN,_⟩:=K0 h;exact⟨hi.nd,by have:=hi.len;omega,hi.small⟩
def Zw(room:Int):Int:=if (1024:Int)<(if (1:Int)>room then (1:Int) else room) then (1024:Int) else (if (1:Int)>room then (1:Int) else room)
end
end Go.Hb
namespace Go.Hb
abbrev TF:=List (Nat×BA)
def Nu(j:Nat)(row:TF):List (BA×(Int×Int)):=row.map λe=>(e.2,((j:Int),(e.1:Int)))
def CY:Nat->List TF->List (BA×(Int×Int))
 | _,[]=>[]
 | j,r::rs=>Nu j r++CY (j+1) rs
def C3(rs:List TF):List (List BA):=rs.map λr=>r.map (·.2)
theorem IA(j:Nat)(r:TF):(Nu j r).map (·.1)=r.map (·.2):=by simp[Nu]
theorem Ds:∀(rs:List TF)(j:Nat),(CY j rs).map (·.1)=(C3 rs).flatten
 | [],_=>rfl
 | r::rs,j=>by
  have ih:=Ds rs (j+1);simp only[CY,C3,List.map_append,List.map_cons,List.flatten_cons,IA] at ih ⊢;rw[ih]
theorem Ti{k:BA}{p:Int×Int}:∀{rs:List TF}{j:Nat},(k,p)∈CY j rs->∃(jn:Nat) (row:TF) (i:Nat) (e:Nat×BA),rs[jn]? = some row/\row[i]? = some e/\e.2=k/\p=(((j+jn:Nat):Int),(e.1:Int))
 | [],_,h=>by cases h
 | r::rs,j,h=>by
  rw[CY,List.mem_append] at h;rcases h with h|h
  ·simp only[Nu,List.mem_map] at h;obtain⟨e,he,h⟩:=h;obtain⟨i,hi,rfl⟩:=List.mem_iff_getElem.1 he;cases h;exact⟨0,r,i,r[i],rfl,List.getElem?_eq_getElem hi,rfl,rfl⟩
  ·obtain⟨jn,row,i,e,h1,h2,h3,h4⟩:=Ti h;refine⟨jn+1,row,i,e,by simpa using h1,h2,h3,?_⟩;rw[h4];congr 2;omega
theorem MH{V:Type}[Inhabited V](a b:List (BA×V))(k:BA):BJ (a++b) k=BJ a k++BJ b k:=by unfold BJ;rw[List.filter_append]
theorem Qf{V:Type}[Inhabited V]{m:List (BA×V)}{k:BA}(h:k∉m.map (·.1)):BJ m k=m:=by
 unfold BJ;rw[List.filter_eq_self];intro e he;exact decide_eq_true λhk=>h (List.mem_map.2 ⟨e,he,hk⟩)
theorem MO{k:BA}:∀{rs:List TF}{j jn i:Nat}{row:TF}{e:Nat×BA},((CY j rs).map (·.1)).Nodup->rs[jn]? = some row->row[i]? = some e->e.2=k ->
  CY j (rs.set jn (row.eraseIdx i))=BJ (CY j rs) k/\C3 (rs.set jn (row.eraseIdx i))=(C3 rs).map λr=>Ao r k
 | [],_,_,_,_,_,_,h,_,_=>by simp at h
 | r::rs,j,jn,i,row,e,hn,hr,hi,he=>by
  rw[CY,List.map_append,List.nodup_append] at hn;obtain⟨n1,n2,n3⟩:=hn;have hcross:∀x,x∈r.map (·.2)->x∈(C3 rs).flatten->False:=λx h1 h2=>by
   rw[<- IA j] at h1;rw[<- Ds rs (j+1)] at h2;exact n3 x h1 x h2 rfl
  cases jn with
  | zero=>
   simp only[List.getElem?_cons_zero,Option.some.injEq] at hr;subst hr;have h1:(Nu j r)[i]? = some (k,((j:Int),(e.1:Int))):=by unfold Nu;rw[List.getElem?_map,hi,<- he];rfl
   have h2:Nu j (r.eraseIdx i)=BJ (Nu j r) k:=by rw[<- GH n1 h1];exact Kf _ _ _
   have hk:k∈r.map (·.2):=by rw[<- he];exact List.mem_map.2 ⟨e,List.mem_of_getElem? hi,rfl⟩
   have hno:k∉(C3 rs).flatten:=λh=>hcross k hk h;have h3:BJ (CY (j+1) rs) k=CY (j+1) rs:=Qf (by rw[Ds];exact hno)
   constructor
   ·rw[List.set_cons_zero,CY,CY,MH,h2,h3]
   ·have h4:(r.eraseIdx i).map (·.2)=Ao (r.map (·.2)) k:=by
     rw[<- IA j,h2,Y2,IA]
    have h5:(C3 rs).map (λr=>Ao r k)=C3 rs:=by
     conv=>rhs;rw[<- List.map_id (C3 rs)]
     refine List.map_congr_left λx hx=>As λh=>hno (List.mem_flatten.2 ⟨x,hx,h⟩)
    show(r.eraseIdx i).map (·.2)::C3 rs=Ao (r.map (·.2)) k::(C3 rs).map λr=>Ao r k;rw[h4,h5]
  | succ jn=>
   simp only[List.getElem?_cons_succ] at hr;obtain⟨h1,h2⟩:=MO (j:=j+1) n2 hr hi he;have hk:k∈(C3 rs).flatten:=by
    refine List.mem_flatten.2 ⟨row.map (·.2),?_,by rw[<- he];exact List.mem_map.2 ⟨e,List.mem_of_getElem? hi,rfl⟩⟩;exact List.mem_map.2 ⟨row,List.mem_of_getElem? hr,rfl⟩
   have hno:k∉r.map (·.2):=λh=>hcross k h hk;constructor
   ·rw[List.set_cons_succ,CY,CY,MH,h1,Qf (m:=Nu j r) (by rw[IA];exact hno)]
   ·show r.map (·.2)::C3 (rs.set jn (row.eraseIdx i))=Ao (r.map (·.2)) k::(C3 rs).map λr=>Ao r k;rw[h2,As hno]
theorem Qy{k:BA}{h:Nat}:∀{rs:List TF}{j jn:Nat}{row:TF},rs[jn]? = some row->(CY j (rs.set jn (row++[(h,k)]))).Perm ((k,(((j+jn:Nat):Int),(h:Int)))::CY j rs)
 | [],_,_,_,h=>by simp at h
 | r::rs,j,jn,row,hr=>by
  cases jn with
  | zero=>
   simp only[List.getElem?_cons_zero,Option.some.injEq] at hr;subst hr;rw[List.set_cons_zero,CY,CY];have:Nu j (r++[(h,k)])=Nu j r++[(k,(((j+0:Nat):Int),(h:Int)))]:=by simp[Nu]
   rw[this];exact((List.perm_append_singleton _ _).append_right _)
  | succ jn=>
   simp only[List.getElem?_cons_succ] at hr;rw[List.set_cons_succ,CY,CY];have ih:=Qy (k:=k) (h:=h) (j:=j+1) hr;rw[show j+1+jn=j+(jn+1) by omega] at ih;exact(ih.append_left _).trans List.perm_middle
structure DO(K:List (List BA))(rs:List TF)(m:List (BA×(Int×Int))):Prop where
 keys:C3 rs=K
 nd:K.flatten.Nodup
 perm:m.Perm (CY 0 rs)
 small:∀k∈K.flatten,k.size<64
def DT(K:List (List BA))(k:BA):Int:=match K.findIdx? λr=>QZ r k with
 | some j=>(j:Int)
 | none=>-1
def Dr(K:List (List BA))(k:BA):List (List BA):=K.map λr=>Ao r k
def Dd(K:List (List BA))(j:Nat)(k:BA):List (List BA):=(Dr K k).set j ((Dr K k).getD j []++[k])
section
variable{K:List (List BA)}{rs:List TF}{m:List (BA×(Int×Int))}{k:BA}
theorem DO.mnd(hi:DO K rs m):(m.map (·.1)).Nodup:=by
 rw[(hi.perm.map (·.1)).nodup_iff,Ds,hi.keys];exact hi.nd
theorem DO.small_m(hi:DO K rs m):∀e∈m,e.1.size<4611686018427387904:=λe he=>by
 refine Nat.lt_trans (hi.small _ ?_) (by decide);rw[<- hi.keys,<- Ds rs 0,<- (hi.perm.map (·.1)).mem_iff];exact List.mem_map.2 ⟨e,he,rfl⟩
theorem DO.klen(hi:DO K rs m):K.length=rs.length:=by rw[<- hi.keys];simp[C3]
theorem DO.mlen(hi:DO K rs m):m.length=K.flatten.length:=by
 have:=(hi.perm.map (·.1)).length_eq;rw[Ds,hi.keys] at this;simpa using this
theorem DO.row(hi:DO K rs m){j:Nat}{row:TF}(h:rs[j]? = some row):K[j]? = some (row.map (·.2)):=by
 rw[<- hi.keys];unfold C3;rw[List.getElem?_map,h];rfl
theorem DO.none_iff(hi:DO K rs m):AE m k=none↔k∉K.flatten:=by
 rw[<- hi.keys,<- Ds rs 0,<- (hi.perm.map (·.1)).mem_iff,Bu];constructor
 ·intro h hk;obtain⟨e,he,rfl⟩:=List.mem_map.1 hk;exact h e he rfl
 ·intro h e he hk;exact h (List.mem_map.2 ⟨e,he,hk⟩)
theorem DO.miss(hi:DO K rs m)(hg:AE m k=none):k∉K.flatten/\Dr K k=K/\DT K k = -1/\DO K rs (BJ m k):=by
 have h1:=hi.none_iff.1 hg;have h2:∀r∈K,k∉r:=λr hr h=>h1 (List.mem_flatten.2 ⟨r,hr,h⟩);refine⟨h1,?_,?_,?_⟩
 ·unfold Dr
  conv=>rhs;rw[<- List.map_id K]
  exact List.map_congr_left λx hx=>As (h2 x hx)
 ·unfold DT;have:K.findIdx? (λr=>QZ r k)=none:=by
   rw[List.findIdx?_eq_none_iff];intro r hr;exact Kz.2 (h2 r hr)
  rw[this]
 ·have:BJ m k=m:=Qf (by rw[(hi.perm.map (·.1)).mem_iff,Ds,hi.keys];exact h1);rw[this];exact hi
theorem DO.at_row(hi:DO K rs m){p:Int×Int}(hg:AE m k=some p):∃(j:Nat) (row:TF) (i:Nat) (e:Nat×BA),rs[j]? = some row/\row[i]? = some e/\e.2=k/\p=((j:Int),(e.1:Int)):=by
 have h1:(k,p)∈CY 0 rs:=hi.perm.mem_iff.1 ((Bz hi.mnd).1 hg);obtain⟨j,row,i,e,h2,h3,h4,h5⟩:=Ti h1;exact⟨j,row,i,e,h2,h3,h4,by rw[h5,Nat.zero_add]⟩
theorem Abg{K:List (List BA)}(hn:K.flatten.Nodup){i j:Nat}{a b:List BA}(ha:K[i]? = some a)(hb:K[j]? = some b)(h1:k∈a)(h2:k∈b):i=j:=by
 have hp:=(List.pairwise_flatten.1 hn).2;rw[List.pairwise_iff_getElem] at hp;obtain⟨hi,rfl⟩:=List.getElem?_eq_some_iff.1 ha;obtain⟨hj,rfl⟩:=List.getElem?_eq_some_iff.1 hb;rcases Nat.lt_trichotomy i j with h|h|h
 ·exact absurd rfl (hp i j hi hj h k h1 k h2)
 ·exact h
 ·exact absurd rfl (hp j i hj hi h k h2 k h1)
theorem DO.where_eq(hi:DO K rs m){p:Int×Int}(hg:AE m k=some p):p.1=DT K k:=by
 obtain⟨j,row,i,e,h2,h3,h4,rfl⟩:=hi.at_row hg;have hK:=hi.row h2;have hk:k∈row.map (·.2):=by rw[<- h4];exact List.mem_map.2 ⟨e,List.mem_of_getElem? h3,rfl⟩
 have:K.findIdx? (λr=>QZ r k)=some j:=by
  rw[List.findIdx?_eq_some_iff_getElem];obtain⟨hj,hj2⟩:=List.getElem?_eq_some_iff.1 hK;refine⟨hj,by rw[hj2];exact GY.2 hk,λx hx=>?_⟩
  rw[GY];intro hx2;have:=Abg hi.nd (List.getElem?_eq_getElem (show x<K.length by omega)) hK hx2 hk;omega
 unfold DT;rw[this]
theorem DO.hit(hi:DO K rs m){p:Int×Int}(hg:AE m k=some p)(hn:∀row∈rs,(row.map (·.1)).Nodup):∃(j:Nat) (row:TF) (i:Nat),p.1=(j:Int)/\rs[j]? = some row/\IW row p.2=some i/\i<row.length /\
  DO (Dr K k) (rs.set j (row.eraseIdx i)) (BJ m k):=by
 obtain⟨j,row,i,e,h2,h3,h4,rfl⟩:=hi.at_row hg;have hnd:((CY 0 rs).map (·.1)).Nodup:=by rw[Ds,hi.keys];exact hi.nd
 obtain⟨h5,h6⟩:=MO hnd h2 h3 h4;refine⟨j,row,i,rfl,h2,JJ (hn row (List.mem_of_getElem? h2)) h3,(List.getElem?_eq_some_iff.1 h3).1,?_,?_,?_,?_⟩
 ·rw[h6,hi.keys];rfl
 ·rw[<- show C3 (rs.set j (row.eraseIdx i))=Dr K k by rw[h6,hi.keys];rfl,<- Ds _ 0,h5];exact hnd.sublist ((List.filter_sublist (p:=λe=>decide (e.1≠k)) (l:=CY 0 rs)).map (·.1))
 ·rw[h5];exact Tf hi.perm
 ·intro x hx;obtain⟨r,hr,hx⟩:=List.mem_flatten.1 hx;obtain⟨r0,hr0,rfl⟩:=List.mem_map.1 hr;exact hi.small x (List.mem_flatten.2 ⟨r0,hr0,(AK.1 hx).1⟩)
theorem Ju{α:Type}:∀{l:List (List α)}{j:Nat}{r:List α}{x:α},l[j]? = some r->((l.set j (r++[x])).flatten).Perm (x::l.flatten)
 | [],_,_,_,h=>by simp at h
 | a::l,0,r,x,h=>by
  simp only[List.getElem?_cons_zero,Option.some.injEq] at h;subst h;rw[List.set_cons_zero,List.flatten_cons,List.flatten_cons];exact(List.perm_append_singleton _ _).append_right _
 | a::l,j+1,r,x,h=>by
  simp only[List.getElem?_cons_succ] at h;rw[List.set_cons_succ,List.flatten_cons,List.flatten_cons];exact((Ju h).append_left _).trans List.perm_middle
theorem DO.push(hi:DO K rs m)(h1:k∉K.flatten)(hz:k.size<64){j:Nat}{row:TF}(hr:rs[j]? = some row)(h:Nat) :
  DO (K.set j (K.getD j []++[k])) (rs.set j (row++[(h,k)])) (Cj m k ((j:Int),(h:Int))):=by
 have hK:=hi.row hr;have hKd:K.getD j []=row.map (·.2):=by rw[List.getD_eq_getElem?_getD,hK];rfl
 have hp:=Ju (x:=k) hK;rw[hKd];refine⟨?_,?_,?_,?_⟩
 ·rw[<- hi.keys];unfold C3;rw[List.map_set];simp
 ·rw[hp.nodup_iff,List.nodup_cons];exact⟨h1,hi.nd⟩
 ·have hg:=hi.none_iff.2 h1;have e1:Cj m k ((j:Int),(h:Int))=(k,((j:Int),(h:Int)))::m:=by unfold Cj;rw[hg]
  rw[e1];have:=Qy (k:=k) (h:=h) (j:=0) hr;rw[Nat.zero_add] at this;exact(hi.perm.cons _).trans this.symm
 ·intro x hx;rw[hp.mem_iff,List.mem_cons] at hx;rcases hx with rfl|hx
  ·exact hz
  ·exact hi.small x hx
theorem Ag8(K:List (List BA))(k:BA):k∉(Dr K k).flatten:=by
 intro h;obtain⟨r,hr,h⟩:=List.mem_flatten.1 h;obtain⟨r0,_,rfl⟩:=List.mem_map.1 hr;exact(AK.1 h).2 rfl
end
abbrev GS:=Nat×TF×List Nat
def Et(x:GS):HP:=lst .s x.1 x.2.1 x.2.2
def rowsC(s:Sl)(xb:Nat)(N:Nat)(K:List (List BA)):HP:=JU λ(x:List GS×List (BA×(Int×Int)))=>
 ED (DO K (x.1.map (·.2.1)) x.2/\∀y∈x.1,y.2.1.length+y.2.2.length<=N)
  (Axz (recs Rec.ptr s (x.1.map (·.1))) (Axz (ixr Rec.ii xb 0 x.2) (AF (x.1.map Et))))
section
variable{W w:World}{M L:List HP}{xb N:Nat}{s:Sl}{K:List (List BA)}
instance At.rowsC:At (rowsC s xb N K::L) xb (rowsC s xb N K) (λx=>x::L):=⟨DX⟩
theorem Ahd(h:Ab W w (rowsC s xb N K::M)):∃(xs:List GS) (m:List (BA×(Int×Int))),DO K (xs.map (·.2.1)) m/\(∀y∈xs,y.2.1.length+y.2.2.length<=N)/\s.n=xs.length /\
  Ab W w (recs Rec.ptr s (xs.map (·.1))::ixr Rec.ii xb 0 m::(xs.map Et++M)):=by
 obtain⟨⟨xs,m⟩,h⟩:=h.openE;obtain⟨⟨h1,h2⟩,h⟩:=h.openA;have h:=h.split;have h3:=(h.perm (List.Perm.swap _ _ _)).split;have h4:Ab W w (AF (xs.map Et)::recs Rec.ptr s (xs.map (·.1))::ixr Rec.ii xb 0 m::M):=by
  refine h3.perm ?_;exact((List.Perm.swap _ _ _).trans ((List.Perm.swap _ _ _).cons _)).trans (List.Perm.refl _) |>.trans (by
   first|exact List.Perm.refl _|exact(List.Perm.swap _ _ _).trans ((List.Perm.swap _ _ _).cons _)|exact(List.Perm.swap _ _ _).cons _)
 have h5:=h4.openL;have h6:Ab W w (recs Rec.ptr s (xs.map (·.1))::ixr Rec.ii xb 0 m::(xs.map Et++M)):=by
  refine h5.perm ?_;exact List.perm_middle.trans (List.perm_middle.cons _)
 refine⟨xs,m,h1,h2,?_,h6⟩;have:=(Bx (s:=s) h6 (by decide)).1;simpa using this
theorem Ahe{xs:List GS}{m:List (BA×(Int×Int))}(hi:DO K (xs.map (·.2.1)) m)(hN:∀y∈xs,y.2.1.length+y.2.2.length<=N)
  (h:Ab W w (recs Rec.ptr s (xs.map (·.1))::ixr Rec.ii xb 0 m::(xs.map Et++M))):Ab W w (rowsC s xb N K::M):=by
 refine Ab.shutE (xs,m) (Ab.shutA ⟨hi,hN⟩ ?_);refine Ab.join ?_;have h5:Ab W w (xs.map Et++(recs Rec.ptr s (xs.map (·.1))::ixr Rec.ii xb 0 m::M)):=
  h.perm (List.perm_middle.trans (List.perm_middle.cons _)).symm
 have h4:=Ab.shutL h5;have h3:Ab W w (ixr Rec.ii xb 0 m::AF (xs.map Et)::recs Rec.ptr s (xs.map (·.1))::M):=by
  refine h4.perm ?_;exact((List.Perm.swap _ _ _).cons _).trans (List.Perm.swap _ _ _)
 exact(h3.join).perm (List.Perm.swap _ _ _)
theorem FG(h:Ab W w (rowsC s xb N K::M)):∃(xs:List GS) (m:List (BA×(Int×Int))),DO K (xs.map (·.2.1)) m/\(∀y∈xs,y.2.1.length+y.2.2.length<=N)/\s.n=xs.length /\
  Ab W w (recs Rec.ptr s (xs.map (·.1))::ixr Rec.ii xb 0 m::AF (xs.map Et)::M):=by
 obtain⟨xs,m,h1,h2,h3,h⟩:=Ahd h;refine⟨xs,m,h1,h2,h3,?_⟩;have h4:=Ab.shutL (h.perm (List.perm_middle.trans (List.perm_middle.cons _)).symm);exact h4.perm ((List.Perm.swap _ _ _).trans ((List.Perm.swap _ _ _).cons _))
theorem Fl{xs:List GS}{m:List (BA×(Int×Int))}(hi:DO K (xs.map (·.2.1)) m)(hN:∀y∈xs,y.2.1.length+y.2.2.length<=N)
  (h:Ab W w (recs Rec.ptr s (xs.map (·.1))::ixr Rec.ii xb 0 m::AF (xs.map Et)::M)):Ab W w (rowsC s xb N K::M):=by
 refine Ahe hi hN ?_;have h1:Ab W w (AF (xs.map Et)::recs Rec.ptr s (xs.map (·.1))::ixr Rec.ii xb 0 m::M):=h.perm (((List.Perm.swap _ _ _).cons _).trans (List.Perm.swap _ _ _));exact(h1.openL).perm (List.perm_middle.trans (List.perm_middle.cons _))
theorem GT{xs:List GS}{j:Nat}{x:GS}(hx:xs[j]? = some x)(h:Ab W w (AF (xs.map Et)::M)):Ab W w (lst .s x.1 x.2.1 x.2.2::AF ((xs.eraseIdx j).map Et)::M):=by
 obtain⟨hj,rfl⟩:=List.getElem?_eq_some_iff.1 hx;have h1:=h.openL.perm (((Ei hj).map Et).append_right M).symm;rw[List.map_cons,List.cons_append] at h1;exact(Ab.shutL (h1.perm List.perm_middle.symm)).perm (List.Perm.swap _ _ _)
theorem OV{xs:List GS}{j:Nat}{x:GS}{r:TF}{f:List Nat}(hx:xs[j]? = some x)(h:Ab W w (lst .s x.1 r f::AF ((xs.eraseIdx j).map Et)::M)):Ab W w (AF ((xs.set j (x.1,r,f)).map Et)::M):=by
 obtain⟨hj,rfl⟩:=List.getElem?_eq_some_iff.1 hx;have hj2:j<(xs.set j (xs[j].1,r,f)).length:=by simpa using hj
 have h1:=((Ei hj2).map Et).append_right M;rw[List.getElem_set_self,List.eraseIdx_set_eq] at h1;refine Ab.shutL (Ab.perm ?_ h1);rw[List.map_cons,List.cons_append];exact((h.perm (List.Perm.swap _ _ _)).openL).perm List.perm_middle
theorem Q8{α:Type}{l:List α}{j:Nat}{x:α}(h:l[j]? = some x):l.set j x=l:=by
 obtain⟨hj,rfl⟩:=List.getElem?_eq_some_iff.1 h;exact List.set_getElem_self hj
theorem Lj{xs:List GS}{j:Nat}{x:GS}(hx:xs[j]? = some x)(h:Ab W w (lst .s x.1 x.2.1 x.2.2::AF ((xs.eraseIdx j).map Et)::M)):Ab W w (AF (xs.map Et)::M):=by
 have:=OV hx h
 rwa [Q8 hx] at this
theorem Jw:∀{xs:List GS},(∀y∈xs,y.2.1.length+y.2.2.length<=N)->(C3 (xs.map (·.2.1))).flatten.length<=xs.length*N
 | [],_=>by simp[C3]
 | y::xs,h=>by
  have h1:=Jw (xs:=xs) λz hz=>h z (.tail _ hz);have h2:=h y (.head _);simp only[C3,List.map_cons,List.flatten_cons,List.length_append,List.length_map,List.length_cons] at h1 ⊢;rw[Nat.succ_mul];omega
theorem DO.mlenR{xs:List GS}{m:List (BA×(Int×Int))}(hi:DO K (xs.map (·.2.1)) m)(hN:∀y∈xs,y.2.1.length+y.2.2.length<=N)(hK:K.length<=4):m.length<=4*N/\xs.length=K.length:=by
 have h1:=hi.mlen;have h2:=Jw hN;have h3:=hi.klen;rw[hi.keys] at h2;have h4:xs.length=K.length:=by simpa using h3.symm
 have h5:=Nat.mul_le_mul_right N hK;rw[h4] at h2;exact⟨by omega,h4⟩
theorem It{xs:List GS}{j:Nat}{x:GS}(hx:xs[j]? = some x):(xs.map (·.1)).getD j default=x.1:=by
 rw[List.getD_eq_getElem?_getD,List.getElem?_map,hx];rfl
end
end Go.Hb
namespace Go.Hb
structure A20(R S:List BA)(k:BA)(hit:Bool)(g:List BA):Prop where
 hits:hit=decide (k∈R)
 sub:∀x∈g,x∈R
 le1:g.length<=1
 no:k∉g
 calm:hit=true->g=[]
 mem:∀x,x∈S↔(x∈R/\x∉g)\/x=k
theorem CE{a b:List BA}(ha:a.Nodup)(hb:b.Nodup)(h:∀x,x∈a↔x∈b):a.Perm b:=(List.perm_ext_iff_of_nodup ha hb).2 h
section
variable{R S:List BA}{k:BA}{hit:Bool}{g:List BA}
theorem Co{l:List BA}(hn:l.Nodup)(hk:k∈l):l.Perm (k::Ao l k):=by
 refine CE hn (List.nodup_cons.2 ⟨λh=>(AK.1 h).2 rfl,Er hn⟩) λx=>?_;rw[List.mem_cons,AK];constructor
 ·intro h
  by_cases hx:x=k
  ·exact .inl hx
  ·exact .inr ⟨h,hx⟩
 ·rintro(rfl|h)
  ·exact hk
  ·exact h.1
end
end Go.Hb
namespace Go.Hb
class TD(b:Bool)(p q:outParam Prop):Prop where
 t:b=true->p
 f:b=false->q
instance TD.dec{p:Prop}[Decidable p]:TD (decide p) p (¬p):=⟨of_decide_eq_true,of_decide_eq_false⟩
instance TD.ndec{p:Prop}[Decidable p]:TD (!decide p) (¬p) p:=⟨λh=>by simpa using h,λh=>by simpa using h⟩
instance TD.eqI{a b:Int}:TD (a==b) (a=b) (¬a=b):=⟨λh=>by simpa using h,λh=>by simpa using h⟩
instance TD.neI{a b:Int}:TD (a != b) (¬a=b) (a=b):=⟨λh=>by simpa using h,λh=>by simpa using h⟩
theorem Ay{w:World}{b:Bool}{p q:Prop}{K M:WP}[h:TD b p q](h1:p->K w)(h2:q->M w):Aj b K M w:=Ap (λe=>h1 (h.t e)) λe=>h2 (h.f e)
theorem AJ{L:Nat->WP}{w:World}(m:Nat)(h:L m w):D2 L w:=⟨m,h⟩
abbrev BL:=List BA
structure Dl(c:Int)(R:BL):Prop where
 nd:R.Nodup
 small:∀k∈R,k.size<64
 room:(R.length:Int)<=c
 c1:1<=c
 c2:c<=1024
structure Ey(c:Int)(R:BL)(k:BA)(hit:Bool)(g S:BL):Prop where
 acc:A20 R S k hit g
 ok:Dl c S
 calm:(R.length:Int)<c->g=[]
structure Db(c:Int)(R:BL)(k:BA)(yes:Bool)(S:BL):Prop where
 says:yes=decide (k∉R/\(R.length:Int)<c)
 mem:∀x,x∈S↔x∈R\/(yes=true/\x=k)
 ok:Dl c S
structure Fz(c:Int)(R:BL)(k:BA)(yes:Bool)(S:BL):Prop where
 says:yes=decide (k∈R)
 mem:∀x,x∈S↔x∈R/\x≠k
 ok:Dl c S
structure Gi(c:Int)(R:BL)(k:BA)(yes:Bool)(S:BL):Prop where
 says:yes=decide (0<R.length)
 of:yes=true->k∈R
 mem:∀x,x∈S↔x∈R/\¬(yes=true/\x=k)
 ok:Dl c S
def Lh(c:Int)(R g S:BL):Prop:=(g=[]/\S=R/\(R.length:Int)<c)\/(∃x,g=[x]/\Gi c R x true S/\¬(R.length:Int)<c)
section
variable{c:Int}{R S T g:BL}{k x:BA}
theorem Dl.perm(h:Dl c R)(hp:S.Perm R):Dl c S:=⟨hp.nodup_iff.2 h.nd,λk hk=>h.small k (hp.mem_iff.1 hk),by rw[hp.length_eq];exact h.room,h.c1,h.c2⟩
theorem Dl.nil(h1:1<=c)(h2:c<=1024):Dl c []:=⟨by simp,by simp,by simp;omega,h1,h2⟩
theorem JG(hR:R.Nodup)(hS:S.Nodup)(hk:k∈R)(hm:∀x,x∈S↔x∈R/\x≠k):R.Perm (k::S):=
 CE hR (List.nodup_cons.2 ⟨λh=>((hm k).1 h).2 rfl,hS⟩) λx=>by
  rw[List.mem_cons,hm];constructor
  ·intro h
   by_cases hx:x=k
   ·exact .inl hx
   ·exact .inr ⟨h,hx⟩
  ·rintro(rfl|h)
   ·exact hk
   ·exact h.1
theorem Gi.mem'(h:Gi c R k true S)(y:BA):y∈S↔y∈R/\y≠k:=by rw[h.mem];simp
theorem Gi.perm(h:Gi c R k true S)(hR:Dl c R):R.Perm (k::S):=JG hR.nd h.ok.nd (h.of rfl) h.mem'
theorem Gi.of_perm(hR:Dl c R)(hp:R.Perm (k::S)):Gi c R k true S:=by
 have h1:=hp.nodup_iff.1 hR.nd;have h2:=hp.length_eq;have hr:=hR.room;simp only[List.length_cons] at h2;refine⟨(decide_eq_true (by omega)).symm,λ_=>hp.mem_iff.2 (.head _),λx=>?_,(List.nodup_cons.1 h1).2,λy hy=>hR.small y (hp.mem_iff.2 (.tail _ hy)),by omega,hR.c1,hR.c2⟩;rw[hp.mem_iff,List.mem_cons];constructor
 ·intro h3;exact⟨.inr h3,λh4=>(List.nodup_cons.1 h1).1 (h4.2 ▸ h3)⟩
 ·rintro⟨h3|h3,h4⟩
  ·exact absurd ⟨rfl,h3⟩ h4
  ·exact h3
theorem Gi.none(hR:Dl c R)(h0:R.length=0){z:BA}:Gi c R z false R:=⟨(decide_eq_false (by omega)).symm,by simp,by simp,hR⟩
theorem Ey.same(hR:Dl c R)(hk:k∈R)(hp:S.Perm R):Ey c R k true [] S:=
 ⟨⟨(decide_eq_true hk).symm,by simp,by simp,by simp,λ_=>rfl,λx=>by
  rw[hp.mem_iff];constructor
  ·intro h;exact .inl ⟨h,by simp⟩
  ·rintro(h|rfl)
   ·exact h.1
   ·exact hk⟩,hR.perm hp,λ_=>rfl⟩
theorem Ey.miss(hR:Dl c R)(hk:k∉R)(hz:k.size<64)(h:Lh c R g S)(hp:T.Perm (k::S)):Ey c R k false g T:=by
 have hhit:=(decide_eq_false hk).symm;rcases h with⟨rfl,rfl,hl⟩|⟨x,rfl,he,hl⟩
 ·refine⟨⟨hhit,by simp,by simp,by simp,(λh=>by cases h),λy=>?_⟩,⟨hp.nodup_iff.2 (List.nodup_cons.2 ⟨hk,hR.nd⟩),λy hy=>?_,by rw[hp.length_eq];simp only[List.length_cons];omega,hR.c1,hR.c2⟩,λ_=>rfl⟩
  ·rw[hp.mem_iff,List.mem_cons];constructor
   ·rintro(h|h)
    ·exact .inr h
    ·exact .inl ⟨h,by simp⟩
   ·rintro(h|h)
    ·exact .inr h.1
    ·exact .inl h
  ·rcases List.mem_cons.1 (hp.mem_iff.1 hy) with h|h
   ·exact h ▸ hz
   ·exact hR.small _ h
 ·have hx:=he.of rfl;have hkS:k∉S:=λh=>hk ((he.mem' k).1 h).1;have hpl:=(he.perm hR).length_eq;have hr:=hR.room;simp only[List.length_cons] at hpl;refine⟨⟨hhit,λy hy=>by rw[List.mem_singleton] at hy;exact hy ▸ hx,by simp,λh=>hk (by rw[List.mem_singleton] at h;exact h ▸ hx),(λh=>by cases h),λy=>?_⟩,⟨hp.nodup_iff.2 (List.nodup_cons.2 ⟨hkS,he.ok.nd⟩),λy hy=>?_,by rw[hp.length_eq];simp only[List.length_cons];omega,hR.c1,hR.c2⟩,λh=>absurd h hl⟩
  ·rw[hp.mem_iff,List.mem_cons,he.mem',List.mem_singleton];constructor
   ·rintro(h|h)
    ·exact .inr h
    ·exact .inl h
   ·rintro(h|h)
    ·exact .inr h
    ·exact .inl h
  ·rcases List.mem_cons.1 (hp.mem_iff.1 hy) with h|h
   ·exact h ▸ hz
   ·exact he.ok.small _ h
theorem Db.no(hR:Dl c R)(h:¬(k∉R/\(R.length:Int)<c)):Db c R k false R:=⟨(decide_eq_false h).symm,by simp,hR⟩
theorem Db.yes(hR:Dl c R)(hz:k.size<64)(h1:k∉R)(h2:(R.length:Int)<c)(hp:S.Perm (k::R)):Db c R k true S:=by
 refine⟨(decide_eq_true ⟨h1,h2⟩).symm,λx=>?_,hp.nodup_iff.2 (List.nodup_cons.2 ⟨h1,hR.nd⟩),λy hy=>?_,by rw[hp.length_eq];simp only[List.length_cons];omega,hR.c1,hR.c2⟩
 ·rw[hp.mem_iff,List.mem_cons];constructor
  ·rintro(h|h)
   ·exact .inr ⟨rfl,h⟩
   ·exact .inl h
  ·rintro(h|h)
   ·exact .inr h
   ·exact .inl h.2
 ·rcases List.mem_cons.1 (hp.mem_iff.1 hy) with h|h
  ·exact h ▸ hz
  ·exact hR.small _ h
theorem Fz.no(hR:Dl c R)(h:k∉R):Fz c R k false R:=⟨(decide_eq_false h).symm,λx=>⟨λhx=>⟨hx,λe=>h (e ▸ hx)⟩,λhx=>hx.1⟩,hR⟩
theorem Fz.yes(hR:Dl c R)(h:k∈R)(hp:R.Perm (k::S)):Fz c R k true S:=by
 have he:=Gi.of_perm hR hp;exact⟨(decide_eq_true h).symm,he.mem',he.ok⟩
theorem ET(a b:BL)(k:BA):Ao (a++b) k=Ao a k++Ao b k:=List.filter_append ..
theorem Fz.cut2{i a:BL}(hR:Dl c (i++a))(h:k∈i++a):Fz c (i++a) k true (Ao i k++Ao a k):=by
 rw[<- ET];exact Fz.yes hR h (Co hR.nd h)
theorem Fz.cut3{i a p:BL}(hR:Dl c (i++(a++p)))(h:k∈i++(a++p)):Fz c (i++(a++p)) k true (Ao i k++(Ao a k++Ao p k)):=by
 rw[<- ET,<- ET];exact Fz.yes hR h (Co hR.nd h)
theorem Dk{i a:BL}:((i++[k])++a).Perm (k::(i++a)):=by
 rw[List.append_assoc];exact List.perm_middle
theorem Eo{i a:BL}:(i++(a++[k])).Perm (k::(i++a)):=by
 rw[<- List.append_assoc];exact List.perm_append_comm
end
abbrev AZ(P:Program)(f:FuncId)(args:Array Value)(w:World)(Q:VW):Prop:=Calls P f args w λe w'=>∃v,e = .returned v/\Q v w'
section
variable{P:Program}{f:FuncId}{args:List Value}{w:World}{Q:VW}
theorem AY{K:WP}(hC:AZ P f args.toArray w Q)(hR:∀v w',Q v w'->v = .tuple #[]/\K w'):VP P f args K w:=
 Ar hC λe w' ⟨v,he,h⟩=>by obtain⟨hv,h⟩:=hR v w' h;exact⟨by rw[he,hv],h⟩
theorem Ag{k:CK}{K:k.ty->WP}(hC:AZ P f args.toArray w Q)(hR:∀v w',Q v w'->∃x,v=k.val x/\K x w'):call1 k P f args K w:=
 Am hC λe w' ⟨v,he,h⟩=>by obtain⟨x,hv,h⟩:=hR v w' h;exact⟨x,by rw[he,hv],h⟩
theorem AH{k l:CK}{K:k.ty->l.ty->WP}(hC:AZ P f args.toArray w Q)(hR:∀v w',Q v w'->∃x y,v = .tuple #[k.val x,l.val y]/\K x y w'):Gj k l P f args K w:=
 AG hC λe w' ⟨v,he,h⟩=>by obtain⟨x,y,hv,h⟩:=hR v w' h;exact⟨x,y,by rw[he,hv],h⟩
theorem AZ.mono{R:VW}{a:Array Value}(h:AZ P f a w Q)(hQ:∀v w',Q v w'->R v w'):AZ P f a w R:=Calls.mono h λe w' ⟨v,he,h⟩=>⟨v,he,hQ v w' h⟩
end
def AT(r:Int):Int:=max 1 (min r 1024)
theorem Eb(r:Int):1<=AT r/\AT r<=1024:=by unfold AT;omega
def BW(l:BL):BA:=l.headD ⟨#[]⟩
theorem BH{l:BL}(hn:l.Nodup)(h:0<l.length):Ao l (BW l)=l.drop 1:=by
 cases l with
 | nil=>simp at h
 | cons x t=>exact J6 hn
theorem Va{l:BL}(h:0<l.length):l.getD (Int.toNat 0) default=BW l:=by
 cases l with
 | nil=>simp at h
 | cons a l=>rfl
theorem GZ{α:Type}{d:α}{S:List α}{j:Nat}(hj:j<S.length):S.getD j d∈S:=by
 rw[List.getD_eq_getElem?_getD,List.getElem?_eq_getElem hj];exact List.getElem_mem _
instance (priority:=low) Lg.cons {W0:World} {L:List HP} {p:HP} {s:Sl} {α:Type} {E:Rec α} {rows:List α} [h:Lg W0 L s E rows]:Lg W0 (p::L) s E rows:=⟨λw hs=>h.rd w hs.drop⟩
end Go.Hb
namespace Go.Proofs.YtjipofkjmmpjdaaGreat
open Go.Hb
theorem c1{P:Program}{f:FuncId}{args:Array Value}{w:World}{v0:Value}{S:World->Prop}(h:Calls P f args w λe w'=>∃v,e = .returned v/\(v=v0/\S w')) :
  Calls P f args w λe w'=>e = .returned v0/\S w':=h.mono λ_ _ ⟨_,he,hv,hs⟩=>⟨by rw[he,hv],hs⟩
end Go.Proofs.YtjipofkjmmpjdaaGreat
namespace Go.Proofs.YtjipofkjmmpjdaaGreat
open Go.Hb Go.IntWalk
section
variable{W w:World}{L:List HP}
theorem Ao3(hs:Ab W w L){x:Int}:Calls PR 156 #[.int .u64 x] w λe w'=>e = .returned (.int .u64 (Abd x))/\Ab W w' L:=by
 refine c1 (cw ⟨mixed,Tryz.func156,rfl⟩ Aj6 ?_);exact⟨by decide,by decide,by decide,rfl,hs⟩
theorem Gs(hs:Ab W w L){seed:Int}{s:BA}(hz:s.size<4611686018427387904):Calls PR 117 #[.int .u64 seed,.s s] w λe w'=>e = .returned (.int .u64 (EJ seed s))/\Ab W w' L:=by
 refine c1 (cw ⟨mixed,Tryz.func117,rfl⟩ Ai9 ?_);refine Am (Ao3 hs) λe w ⟨he,hs⟩=>⟨_,he,?_⟩;have loop:∀(m i:Nat)(h:Int)(w:World),i+m=s.size->Ab W w L->N9 Be (λv w'=>v = .int .u64 (PD s m i h)/\Ab W w' L) (m+1) s h (s.size:Int) (i:Int) w:=by
  intro m
  induction m with
  | zero=>
   intro i h w hi hs;rw[LN];refine Ac (decide_eq_false (by omega)) ?_;refine jw Wl ?_;exact⟨rfl,hs⟩
  | succ m ih=>
   intro i h w hi hs;rw[LN];refine Ak (decide_eq_true (by omega)) (Aw (by omega) ?_);refine Am (Ao3 hs) λe w ⟨he,hs⟩=>⟨_,he,?_⟩;rw[i64_in _ (by omega)];exact ih (i+1) _ w (by omega) hs
 rw[Yn];refine⟨s.size+1,?_⟩;exact loop s.size 0 _ w (by omega) hs
theorem Ga(hs:Ab W w L){h:Int}{n:Nat}(h0:0<=h)(hn:0<n)(hb:n<4611686018427387904):Calls PR 116 #[.int .u64 h,.i (n:Int)] w λe w'=>e = .returned (.i ((h.toNat % n:Nat):Int))/\Ab W w' L:=by
 refine c1 (cw ⟨mixed,Tryz.func116,rfl⟩ Ai8 ?_);refine Ac (decide_eq_false (by omega)) ?_;rw[u64_in _ (by omega)];refine Aw (by omega) ⟨?_,hs⟩;rw[Int.tmod_eq_emod_of_nonneg h0];have e1:h % (n:Int)=((h.toNat % n:Nat):Int):=by
  rw[Int.natCast_emod,Int.toNat_of_nonneg h0]
 have:=Nat.mod_lt h.toNat hn;rw[e1,i64_in _ (by omega)]
end
end Go.Proofs.YtjipofkjmmpjdaaGreat
namespace Go.Proofs.YtjipofkjmmpjdaaGreat
open Go.Hb
def OT(c:Jn->(VW)->EW)(jn:Jn)(Q:VW)(t4_b t4_o:Nat):WP:=jn 12 (c jn Q ) (us 4 ((pq t4_b t4_o)::us 22 []))
def Ih(c:Jn->(VW)->Nat->EW)(jn:Jn)(Q:VW)(m1:Nat)(x0:OA)(key1:BA)(free6 i7:Int):WP:=jn 8 (c jn Q m1) ((.p x0)::(.s key1)::us 4 ((.i free6)::(.i i7)::us 71 []))
def Ii(c:Jn->(VW)->Nat->EW)(jn:Jn)(Q:VW)(m1:Nat)(x0:OA)(key1:BA)(free6 i7:Int)(p8_b p8_o:Nat)(t61:Bool):WP:=jn 22 (c jn Q m1) ((.p x0)::(.s key1)::us 4 ((.i free6)::(.i i7)::(pq p8_b p8_o)::us 52 ((.b t61)::us 17 [])))
def Ig(c:Jn->(VW)->Nat->EW)(jn:Jn)(Q:VW)(m1:Nat)(x0:OA)(key1:BA)(free6 i7:Int)(p8_b p8_o:Nat)(t50:Bool):WP:=jn 18 (c jn Q m1) ((.p x0)::(.s key1)::us 4 ((.i free6)::(.i i7)::(pq p8_b p8_o)::us 41 ((.b t50)::us 28 [])))
def If(c:Jn->(VW)->Nat->EW)(jn:Jn)(Q:VW)(m1:Nat)(x0:OA)(key1:BA)(free6 i7:Int)(p8_b p8_o:Nat)(t35:Bool):WP:=jn 14 (c jn Q m1) ((.p x0)::(.s key1)::us 4 ((.i free6)::(.i i7)::(pq p8_b p8_o)::us 26 ((.b t35)::us 43 [])))
def LC(c:Jn->(VW)->EW)(jn:Jn)(Q:VW)(x0:OA)(i1:Int)(key2:BA)(v7_b v7_o:Nat):WP:=jn 8 (c jn Q ) ((.p x0)::(.i i1)::(.s key2)::us 4 ((pq v7_b v7_o)::us 32 []))
def VJ(c:Jn->(VW)->EW)(jn:Jn)(Q:VW)(n5:Int):WP:=jn 16 (c jn Q ) (us 5 ((.i n5)::us 18 []))
def VI(c:Jn->(VW)->EW)(jn:Jn)(Q:VW)(l5:Sl):WP:=jn 16 (c jn Q ) (us 5 ((.l l5.a l5.n l5.c)::us 18 []))
def OU(c:Jn->(VW)->EW)(jn:Jn)(Q:VW)(t2_b t2_o r3_b r3_o:Nat):WP:=jn 14 (c jn Q ) (us 2 ((pq t2_b t2_o)::(pq r3_b r3_o)::us 13 []))
structure RwF where
 i_new:Nat
 new_fn:Func
 new_kp:KP
 i_get:Nat
 get_fn:Func
 get_kp:KP
 i_put:Nat
 put_fn:Func
 put_kp:KP
 i_del:Nat
 del_fn:Func
 del_kp:KP
 i_find:Nat
 find_fn:Func
 find_kp:KP
 i_lays:Nat
 lays_fn:Func
 lays_kp:KP
 i_grows:Nat
 grows_fn:Func
 grows_kp:KP
 i_where:Nat
 where_fn:Func
 where_kp:KP
 i_push:Nat
 push_fn:Func
 push_kp:KP
 i_many:Nat
 many_fn:Func
 many_kp:KP
 i_keys:Nat
 keys_fn:Func
 keys_kp:KP
 i_drop:Nat
 drop_fn:Func
 drop_kp:KP
 i_oldest:Nat
 oldest_fn:Func
 oldest_kp:KP
 i_newRows:Nat
 newRows_fn:Func
 newRows_kp:KP
 (p1 p2 p3 p4:Nat)
 get_j1_c:Jn->(VW)->EW
 find_j4_c:Jn->(VW)->Nat->EW
 find_j5_c:Jn->(VW)->Nat->EW
 find_j3_c:Jn->(VW)->Nat->EW
 find_j2_c:Jn->(VW)->Nat->EW
 find_l1:Jn->(VW)->Nat->OA->BA->Int->Int->WP
 lays_j1_c:Jn->(VW)->EW
 grows_l1:Jn->(VW)->Nat->OA->Sl->Int->Int->WP
 many_j2_c:Jn->(VW)->EW
 many_l1:Jn->(VW)->Nat->Nat->Nat->Int->Sl->Int->Int->WP
 keys_j2_c:Jn->(VW)->EW
 keys_l1:Jn->(VW)->Nat->Nat->Nat->Sl->Sl->Int->Int->WP
 newRows_j2_c:Jn->(VW)->EW
 newRows_l1:Jn->(VW)->Nat->Nat->Nat->Nat->Nat->Int->Int->WP
 new_ok:Ji PR i_new new_fn
 new_raw:∀{jn:Jn}{seed0:Int}{Q:VW},Au jn PR new_kp new_fn [.int .u64 seed0] Q=(
 Hh p1 40 [.i (0:Int),.s Ae,.i (0:Int),.i (0:Int)] (8:Int) (8:Int) λs_1=>
 A0 [.int .u64 seed0,.l s_1.a s_1.n s_1.c,.i (0:Int),.i (0:Int)] p2 λb_2=>
 Q (pq b_2 0))
 get_ok:Ji PR i_get get_fn
 get_j1_raw:∀{jn:Jn}{Q:VW}{t4_b t4_o:Nat},get_j1_c jn Q  (us 4 ((pq t4_b t4_o)::us 22 []))=(
 A0 [.i (0:Int),.i (0:Int)] p3 λb_13=>
 Ax b_13 0 λx_14=>
 Ax b_13 1 λx_15=>
 st t4_b t4_o (.i x_14)<|
 st t4_b (t4_o+1) (.i x_15)<|
 Ax t4_b t4_o λx_16=>
 Ax t4_b (t4_o+1) λx_17=>
 Q (.tuple #[.agg #[.i x_16,.i x_17],.b false]))
 get_raw:∀{jn:Jn}{x0:OA}{key1:BA}{Q:VW},Au jn PR get_kp get_fn [.p x0,.s key1] Q=(
 A0 [.i (0:Int),.i (0:Int)] p3 λb_1=>
 Aj (!Option.isNone x0) (
 F7 i_find [.p x0,.s key1] λx_2 x_3=>
 Aj x_3 (
 Ad x0 λb_4 o_5=>
 Ba b_4 (o_5+1) λx_6=>
 C1 x_6.a x_6.n x_2 λb_7 o_8=>
 Ax b_7 ((o_8+(x_2).toNat*4)+2) λx_9=>
 Ax b_7 (((o_8+(x_2).toNat*4)+2)+1) λx_10=>
 st b_1 0 (.i x_9)<|
 st b_1 1 (.i x_10)<|
 Ax b_1 0 λx_11=>
 Ax b_1 1 λx_12=>
 Q (.tuple #[.agg #[.i x_11,.i x_12],.b true])) (
 OT get_j1_c jn Q  b_1 0)) (
 OT get_j1_c jn Q  b_1 0))
 put_ok:Ji PR i_put put_fn
 put_raw:∀{jn:Jn}{x0:OA}{key1:BA}{v2_0 v2_1:Int}{Q:VW},Au jn PR put_kp put_fn [.p x0,.s key1,.agg #[.i v2_0,.i v2_1]] Q=(
 A0 [.i v2_0,.i v2_1] p3 λb_1=>
 Aj (Option.isNone x0) (
 Q (.b false)) (
 F7 i_find [.p x0,.s key1] λx_2 x_3=>
 Aj x_3 (
 A3 λS=>
 Ad x0 λb_4 o_5=>
 Fx S b_4 (o_5+1) λx_6=>
 Ax b_1 0 λx_7=>
 Ax b_1 1 λx_8=>
 An true S<|
 C1 x_6.a x_6.n x_2 λb_9 o_10=>
 st b_9 ((o_10+(x_2).toNat*4)+2) (.i x_7)<|
 st b_9 (((o_10+(x_2).toNat*4)+2)+1) (.i x_8)<|
 Q (.b false)) (
 Ax b_1 0 λx_11=>
 Ax b_1 1 λx_12=>
 wz i_lays [.p x0,.i x_2,.s key1,.agg #[.i x_11,.i x_12]]<|
 A3 λS=>
 Ad x0 λb_13 o_14=>
 Eh S b_13 (o_14+3) λx_15=>
 Ad x0 λb_16 o_17=>
 Ba b_16 (o_17+1) λx_18=>
 An true S<|
 Aj (decide ((IntKind.wrap .i64 ((2:Int)*x_15))>(x_18.n:Int))) (
 wz i_grows [.p x0]<|
 Q (.b true)) (
 Q (.b true)))))
 del_ok:Ji PR i_del del_fn
 del_raw:∀{jn:Jn}{x0:OA}{key1:BA}{Q:VW},Au jn PR del_kp del_fn [.p x0,.s key1] Q=(
 A0 [.i (0:Int),.i (0:Int)] p3 λb_1=>
 λw=>Calls PR i_get #[.p x0,.s key1] w λe w'=>∃x_2:Int,∃x_3:Int,∃x_4:Bool,e = .returned (.tuple #[.agg #[.i x_2,.i x_3],.b x_4])/\(
 A0 [.i (0:Int),.i (0:Int)] p3 λb_5=>
 st b_5 0 (.i x_2)<|
 st b_5 1 (.i x_3)<|
 Aj x_4 (
 F7 i_find [.p x0,.s key1] λx_6 x_7=>
 Ad x0 λb_8 o_9=>
 Ba b_8 (o_9+1) λx_10=>
 C1 x_10.a x_10.n x_6 λb_11 o_12=>
 st b_11 (o_12+(x_6).toNat*4) (.i (1:Int))<|
 st b_11 ((o_12+(x_6).toNat*4)+1) (.s Ae)<|
 st b_11 (((o_12+(x_6).toNat*4)+1)+1) (.i (0:Int))<|
 st b_11 ((((o_12+(x_6).toNat*4)+1)+1)+1) (.i (0:Int))<|
 Ad x0 λb_13 o_14=>
 Ax b_13 (o_14+2) λx_15=>
 Ad x0 λb_16 o_17=>
 st b_16 (o_17+2) (.i (IntKind.wrap .i64 (x_15-(1:Int))))<|
 Ax b_5 0 λx_18=>
 Ax b_5 1 λx_19=>
 st b_1 0 (.i x_18)<|
 st b_1 1 (.i x_19)<|
 Ax b_1 0 λx_20=>
 Ax b_1 1 λx_21=>
 Q (.tuple #[.agg #[.i x_20,.i x_21],.b x_4])) (
 Ax b_5 0 λx_22=>
 Ax b_5 1 λx_23=>
 st b_1 0 (.i x_22)<|
 st b_1 1 (.i x_23)<|
 Ax b_1 0 λx_24=>
 Ax b_1 1 λx_25=>
 Q (.tuple #[.agg #[.i x_24,.i x_25],.b x_4]))) w')
 find_ok:Ji PR i_find find_fn
 find_j4_raw:∀{jn:Jn}{Q:VW}{m1:Nat}{x0:OA}{key1:BA}{free6 i7:Int},find_j4_c jn Q m1 ((.p x0)::(.s key1)::us 4 ((.i free6)::(.i i7)::us 71 []))=(
 Ad x0 λb_23 o_24=>
 Ba b_23 (o_24+1) λx_25=>
 AX ((x_25.n:Int)≠0)<|
 find_l1 jn Q  m1 x0 key1 free6 (Int.tmod (IntKind.wrap .i64 (i7+(1:Int))) (x_25.n:Int)))
 find_j5_raw:∀{jn:Jn}{Q:VW}{m1:Nat}{x0:OA}{key1:BA}{free6 i7:Int}{p8_b p8_o:Nat}{t61:Bool},find_j5_c jn Q m1 ((.p x0)::(.s key1)::us 4 ((.i free6)::(.i i7)::(pq p8_b p8_o)::us 52 ((.b t61)::us 17 [])))=(
 Aj t61 (
 Q (.tuple #[.i i7,.b false])) (
 Ad (some ⟨p8_b,p8_o,none⟩) λb_29 o_30=>
 Ax b_29 o_30 λx_31=>
 Aj (x_31==(0:Int)) (
 Q (.tuple #[.i free6,.b false])) (
 Ih find_j4_c jn Q m1 x0 key1 free6 i7)))
 find_j3_raw:∀{jn:Jn}{Q:VW}{m1:Nat}{x0:OA}{key1:BA}{free6 i7:Int}{p8_b p8_o:Nat}{t50:Bool},find_j3_c jn Q m1 ((.p x0)::(.s key1)::us 4 ((.i free6)::(.i i7)::(pq p8_b p8_o)::us 41 ((.b t50)::us 28 [])))=(
 Aj t50 (
 Ih find_j4_c jn Q m1 x0 key1 i7 i7) (
 Ad (some ⟨p8_b,p8_o,none⟩) λb_26 o_27=>
 Ax b_26 o_27 λx_28=>
 Aj (x_28==(0:Int)) (
 Ii find_j5_c jn Q m1 x0 key1 free6 i7 p8_b p8_o (decide (free6<(0:Int)))) (
 Ii find_j5_c jn Q m1 x0 key1 free6 i7 p8_b p8_o false)))
 find_j2_raw:∀{jn:Jn}{Q:VW}{m1:Nat}{x0:OA}{key1:BA}{free6 i7:Int}{p8_b p8_o:Nat}{t35:Bool},find_j2_c jn Q m1 ((.p x0)::(.s key1)::us 4 ((.i free6)::(.i i7)::(pq p8_b p8_o)::us 26 ((.b t35)::us 43 [])))=(
 Aj t35 (
 Q (.tuple #[.i i7,.b true])) (
 Ad (some ⟨p8_b,p8_o,none⟩) λb_20 o_21=>
 Ax b_20 o_21 λx_22=>
 Aj (x_22==(1:Int)) (
 Ig find_j3_c jn Q m1 x0 key1 free6 i7 p8_b p8_o (decide (free6<(0:Int)))) (
 Ig find_j3_c jn Q m1 x0 key1 free6 i7 p8_b p8_o false)))
 find_l1_raw:∀{jn:Jn}{Q:VW}{m1:Nat}{x0:OA}{key1:BA}{free6 i7:Int},find_l1 jn Q  (m1+1) x0 key1 free6 i7=(
 Ad x0 λb_9 o_10=>
 Ba b_9 (o_10+1) λx_11=>
 C1 x_11.a x_11.n i7 λb_12 o_13=>
 Ad (some ⟨b_12,(o_13+(i7).toNat*4),none⟩) λb_14 o_15=>
 Ax b_14 o_15 λx_16=>
 Aj (x_16==(2:Int)) (
 Ad (some ⟨b_12,(o_13+(i7).toNat*4),none⟩) λb_17 o_18=>
 BR b_17 (o_18+1) λx_19=>
 If find_j2_c jn Q m1 x0 key1 free6 i7 b_12 (o_13+(i7).toNat*4) (sEq x_19 key1)) (
 If find_j2_c jn Q m1 x0 key1 free6 i7 b_12 (o_13+(i7).toNat*4) false))
 find_raw:∀{jn:Jn}{x0:OA}{key1:BA}{Q:VW},Au jn PR find_kp find_fn [.p x0,.s key1] Q=(
 A3 λS=>
 Ad x0 λb_1 o_2=>
 Zd S b_1 o_2 λx_3=>
 Ad x0 λb_4 o_5=>
 Fx S b_4 (o_5+1) λx_6=>
 Ze 117 [.int .u64 x_3,.s key1] λx_7=>
 An true S<|
 Bw 116 [.int .u64 x_7,.i (x_6.n:Int)] λx_8=>
 D2 λm=>find_l1 jn Q  m x0 key1 (-1:Int) x_8)
 lays_ok:Ji PR i_lays lays_fn
 lays_j1_raw:∀{jn:Jn}{Q:VW}{x0:OA}{i1:Int}{key2:BA}{v7_b v7_o:Nat},lays_j1_c jn Q  ((.p x0)::(.i i1)::(.s key2)::us 4 ((pq v7_b v7_o)::us 32 []))=(
 A3 λS=>
 Ad x0 λb_13 o_14=>
 Fx S b_13 (o_14+1) λx_15=>
 Ax v7_b v7_o λx_16=>
 Ax v7_b (v7_o+1) λx_17=>
 An true S<|
 C1 x_15.a x_15.n i1 λb_18 o_19=>
 st b_18 (o_19+(i1).toNat*4) (.i (2:Int))<|
 st b_18 ((o_19+(i1).toNat*4)+1) (.s key2)<|
 st b_18 (((o_19+(i1).toNat*4)+1)+1) (.i x_16)<|
 st b_18 ((((o_19+(i1).toNat*4)+1)+1)+1) (.i x_17)<|
 Ad x0 λb_20 o_21=>
 Ax b_20 (o_21+2) λx_22=>
 Ad x0 λb_23 o_24=>
 st b_23 (o_24+2) (.i (IntKind.wrap .i64 (x_22+(1:Int))))<|
 Q (.tuple #[]))
 lays_raw:∀{jn:Jn}{x0:OA}{i1:Int}{key2:BA}{v3_0 v3_1:Int}{Q:VW},Au jn PR lays_kp lays_fn [.p x0,.i i1,.s key2,.agg #[.i v3_0,.i v3_1]] Q=(
 A0 [.i v3_0,.i v3_1] p3 λb_1=>
 Ad x0 λb_2 o_3=>
 Ba b_2 (o_3+1) λx_4=>
 C1 x_4.a x_4.n i1 λb_5 o_6=>
 Ax b_5 (o_6+(i1).toNat*4) λx_7=>
 Aj (x_7==(0:Int)) (
 Ad x0 λb_8 o_9=>
 Ax b_8 (o_9+3) λx_10=>
 Ad x0 λb_11 o_12=>
 st b_11 (o_12+3) (.i (IntKind.wrap .i64 (x_10+(1:Int))))<|
 LC lays_j1_c jn Q  x0 i1 key2 b_1 0) (
 LC lays_j1_c jn Q  x0 i1 key2 b_1 0))
 grows_ok:Ji PR i_grows grows_fn
 grows_l1_raw:∀{jn:Jn}{Q:VW}{m1:Nat}{x0:OA}{t28:Sl}{t29 t30:Int},grows_l1 jn Q  (m1+1) x0 t28 t29 t30=(
 Aj (decide (t30<t29)) (
 C1 t28.a t28.n t30 λb_14 o_15=>
 Ax b_14 (o_15+(t30).toNat*4) λx_16=>
 BR b_14 ((o_15+(t30).toNat*4)+1) λx_17=>
 Ax b_14 (((o_15+(t30).toNat*4)+1)+1) λx_18=>
 Ax b_14 ((((o_15+(t30).toNat*4)+1)+1)+1) λx_19=>
 A0 [.i (0:Int),.s Ae,.i (0:Int),.i (0:Int)] p1 λb_20=>
 st b_20 0 (.i x_16)<|
 st b_20 1 (.s x_17)<|
 st b_20 2 (.i x_18)<|
 st b_20 3 (.i x_19)<|
 Ax b_20 0 λx_21=>
 Aj (x_21==(2:Int)) (
 BR b_20 1 λx_22=>
 F7 i_find [.p x0,.s x_22] λx_23 x_24=>
 BR b_20 1 λx_25=>
 Ax b_20 2 λx_26=>
 Ax b_20 3 λx_27=>
 wz i_lays [.p x0,.i x_23,.s x_25,.agg #[.i x_26,.i x_27]]<|
 grows_l1 jn Q  m1 x0 t28 t29 (IntKind.wrap .i64 (t30+(1:Int)))) (
 grows_l1 jn Q  m1 x0 t28 t29 (IntKind.wrap .i64 (t30+(1:Int))))) (
 Q (.tuple #[])))
 grows_raw:∀{jn:Jn}{x0:OA}{Q:VW},Au jn PR grows_kp grows_fn [.p x0] Q=(
 Ad x0 λb_1 o_2=>
 Ba b_1 (o_2+1) λx_3=>
 Ad x0 λb_4 o_5=>
 Ax b_4 (o_5+2) λx_6=>
 Hh p1 40 [.i (0:Int),.s Ae,.i (0:Int),.i (0:Int)] (if (IntKind.wrap .i64 ((4:Int)*(IntKind.wrap .i64 (x_6+(1:Int)))))>(8:Int) then (IntKind.wrap .i64 ((4:Int)*(IntKind.wrap .i64 (x_6+(1:Int))))) else (8:Int)) (if (IntKind.wrap .i64 ((4:Int)*(IntKind.wrap .i64 (x_6+(1:Int)))))>(8:Int) then (IntKind.wrap .i64 ((4:Int)*(IntKind.wrap .i64 (x_6+(1:Int))))) else (8:Int)) λs_7=>
 Ad x0 λb_8 o_9=>
 st b_8 (o_9+1) (.l s_7.a s_7.n s_7.c)<|
 Ad x0 λb_10 o_11=>
 st b_10 (o_11+2) (.i (0:Int))<|
 Ad x0 λb_12 o_13=>
 st b_12 (o_13+3) (.i (0:Int))<|
 D2 λm=>grows_l1 jn Q  m x0 x_3 (x_3.n:Int) (0:Int))
 where_ok:Ji PR i_where where_fn
 where_raw:∀{jn:Jn}{r0_0:Sl}{r0_1:OA}{key1:BA}{Q:VW},Au jn PR where_kp where_fn [.agg #[.l r0_0.a r0_0.n r0_0.c,.p r0_1],.s key1] Q=(
 A0 [.l r0_0.a r0_0.n r0_0.c,.p r0_1] p4 λb_1=>
 Br b_1 1 λx_2=>
 λw=>Calls PR i_get #[.p x_2,.s key1] w λe w'=>∃x_3:Int,∃x_4:Int,∃x_5:Bool,e = .returned (.tuple #[.agg #[.i x_3,.i x_4],.b x_5])/\(
 A0 [.i (0:Int),.i (0:Int)] p3 λb_6=>
 st b_6 0 (.i x_3)<|
 st b_6 1 (.i x_4)<|
 Aj (!x_5) (
 Q (.i (-1:Int))) (
 Ax b_6 0 λx_7=>
 Q (.i x_7))) w')
 push_ok:Ji PR i_push push_fn
 push_raw:∀{jn:Jn}{r0_0:Sl}{r0_1:OA}{row1:Int}{key2:BA}{Q:VW},Au jn PR push_kp push_fn [.agg #[.l r0_0.a r0_0.n r0_0.c,.p r0_1],.i row1,.s key2] Q=(
 A0 [.l r0_0.a r0_0.n r0_0.c,.p r0_1] p4 λb_1=>
 Ba b_1 0 λx_2=>
 Br b_1 1 λx_3=>
 wz i_drop [.agg #[.l x_2.a x_2.n x_2.c,.p x_3],.s key2]<|
 A3 λS=>
 EO S b_1 1 λx_4=>
 Ba b_1 0 λx_5=>
 An true S<|
 C1 x_5.a x_5.n row1 λb_6 o_7=>
 Br b_6 (o_7+(row1).toNat*1) λx_8=>
 An true S<|
 Bw 162 [.p x_8,.s key2] λx_9=>
 An true S<|
 Dv i_put [.p x_4,.s key2,.agg #[.i row1,.i x_9]] λx_10=>
 Q (.tuple #[]))
 many_ok:Ji PR i_many many_fn
 many_j2_raw:∀{jn:Jn}{Q:VW}{n5:Int},many_j2_c jn Q  (us 5 ((.i n5)::us 18 []))=(
 Q (.i n5))
 many_l1_raw:∀{jn:Jn}{Q:VW}{m1:Nat}{r2_b r2_o:Nat}{n5:Int}{t8:Sl}{t9 t10:Int},many_l1 jn Q  (m1+1) r2_b r2_o n5 t8 t9 t10=(
 Aj (decide (t10<t9)) (
 C1 t8.a t8.n t10 λb_2 o_3=>
 Ax b_2 (o_3+(t10).toNat*1) λx_4=>
 Ba r2_b r2_o λx_5=>
 C1 x_5.a x_5.n x_4 λb_6 o_7=>
 Br b_6 (o_7+(x_4).toNat*1) λx_8=>
 Bw 163 [.p x_8] λx_9=>
 many_l1 jn Q  m1 r2_b r2_o (IntKind.wrap .i64 (n5+x_9)) t8 t9 (IntKind.wrap .i64 (t10+(1:Int)))) (
 VJ many_j2_c jn Q  n5))
 many_raw:∀{jn:Jn}{r0_0:Sl}{r0_1:OA}{of1:Sl}{Q:VW},Au jn PR many_kp many_fn [.agg #[.l r0_0.a r0_0.n r0_0.c,.p r0_1],.l of1.a of1.n of1.c] Q=(
 A0 [.l r0_0.a r0_0.n r0_0.c,.p r0_1] p4 λb_1=>
 D2 λm=>many_l1 jn Q  m b_1 0 (0:Int) of1 (of1.n:Int) (0:Int))
 keys_ok:Ji PR i_keys keys_fn
 keys_j2_raw:∀{jn:Jn}{Q:VW}{l5:Sl},keys_j2_c jn Q  (us 5 ((.l l5.a l5.n l5.c)::us 18 []))=(
 Q (.l l5.a l5.n l5.c))
 keys_l1_raw:∀{jn:Jn}{Q:VW}{m1:Nat}{r2_b r2_o:Nat}{l5 t8:Sl}{t9 t10:Int},keys_l1 jn Q  (m1+1) r2_b r2_o l5 t8 t9 t10=(
 Aj (decide (t10<t9)) (
 C1 t8.a t8.n t10 λb_2 o_3=>
 Ax b_2 (o_3+(t10).toNat*1) λx_4=>
 Ba r2_b r2_o λx_5=>
 C1 x_5.a x_5.n x_4 λb_6 o_7=>
 Br b_6 (o_7+(x_4).toNat*1) λx_8=>
 F6 244 [.p x_8] λx_9=>
 Bn 9 1 16 [.s Ae] ⟨l5.a,l5.n,l5.c⟩ x_9.n (λw=>Hv w x_9.a (x_9.n*1)) λs_10=>
 keys_l1 jn Q  m1 r2_b r2_o s_10 t8 t9 (IntKind.wrap .i64 (t10+(1:Int)))) (
 VI keys_j2_c jn Q  l5))
 keys_raw:∀{jn:Jn}{r0_0:Sl}{r0_1:OA}{of1:Sl}{Q:VW},Au jn PR keys_kp keys_fn [.agg #[.l r0_0.a r0_0.n r0_0.c,.p r0_1],.l of1.a of1.n of1.c] Q=(
 A0 [.l r0_0.a r0_0.n r0_0.c,.p r0_1] p4 λb_1=>
 D2 λm=>keys_l1 jn Q  m b_1 0 ⟨(none:OA),0,0⟩ of1 (of1.n:Int) (0:Int))
 drop_ok:Ji PR i_drop drop_fn
 drop_raw:∀{jn:Jn}{r0_0:Sl}{r0_1:OA}{key1:BA}{Q:VW},Au jn PR drop_kp drop_fn [.agg #[.l r0_0.a r0_0.n r0_0.c,.p r0_1],.s key1] Q=(
 A0 [.l r0_0.a r0_0.n r0_0.c,.p r0_1] p4 λb_1=>
 Br b_1 1 λx_2=>
 λw=>Calls PR i_del #[.p x_2,.s key1] w λe w'=>∃x_3:Int,∃x_4:Int,∃x_5:Bool,e = .returned (.tuple #[.agg #[.i x_3,.i x_4],.b x_5])/\(
 A0 [.i (0:Int),.i (0:Int)] p3 λb_6=>
 st b_6 0 (.i x_3)<|
 st b_6 1 (.i x_4)<|
 Aj x_5 (
 A3 λS=>
 Fx S b_1 0 λx_7=>
 Eh S b_6 0 λx_8=>
 C1 x_7.a x_7.n x_8 λb_9 o_10=>
 EO S b_9 (o_10+(x_8).toNat*1) λx_11=>
 Ax b_6 1 λx_12=>
 An true S<|
 EG 160 [.p x_11,.i x_12] λx_13 x_14=>
 Q (.tuple #[])) (
 Q (.tuple #[]))) w')
 oldest_ok:Ji PR i_oldest oldest_fn
 oldest_raw:∀{jn:Jn}{r0_0:Sl}{r0_1:OA}{row1:Int}{Q:VW},Au jn PR oldest_kp oldest_fn [.agg #[.l r0_0.a r0_0.n r0_0.c,.p r0_1],.i row1] Q=(
 A0 [.l r0_0.a r0_0.n r0_0.c,.p r0_1] p4 λb_1=>
 A3 λS=>
 Fx S b_1 0 λx_2=>
 C1 x_2.a x_2.n row1 λb_3 o_4=>
 EO S b_3 (o_4+(row1).toNat*1) λx_5=>
 Ba b_1 0 λx_6=>
 An true S<|
 C1 x_6.a x_6.n row1 λb_7 o_8=>
 Br b_7 (o_8+(row1).toNat*1) λx_9=>
 An true S<|
 Bw 165 [.p x_9] λx_10=>
 An true S<|
 EG 164 [.p x_5,.i x_10] λx_11 x_12=>
 Q (.s x_11))
 newRows_ok:Ji PR i_newRows newRows_fn
 newRows_j2_raw:∀{jn:Jn}{Q:VW}{t2_b t2_o r3_b r3_o:Nat},newRows_j2_c jn Q  (us 2 ((pq t2_b t2_o)::(pq r3_b r3_o)::us 13 []))=(
 Ba r3_b r3_o λx_8=>
 Br r3_b (r3_o+1) λx_9=>
 st t2_b t2_o (.l x_8.a x_8.n x_8.c)<|
 st t2_b (t2_o+1) (.p x_9)<|
 Ba t2_b t2_o λx_10=>
 Br t2_b (t2_o+1) λx_11=>
 Q (.agg #[.l x_10.a x_10.n x_10.c,.p x_11]))
 newRows_l1_raw:∀{jn:Jn}{Q:VW}{m1:Nat}{t2_b t2_o r3_b r3_o:Nat}{t6 t7:Int},newRows_l1 jn Q  (m1+1) t2_b t2_o r3_b r3_o t6 t7=(
 Aj (decide (t7<t6)) (
 A3 λS=>
 Fx S r3_b r3_o λx_4=>
 Jh 171 [] λx_5=>
 An true S<|
 A0 [.p x_5] 235 λb_6=>
 An true S<|
 Bn 235 1 8 [.p (none:OA)] ⟨x_4.a,x_4.n,x_4.c⟩ 1 (λw=>Hv w (some ⟨b_6,0,none⟩) (1*1)) λs_7=>
 st r3_b r3_o (.l s_7.a s_7.n s_7.c)<|
 newRows_l1 jn Q  m1 t2_b t2_o r3_b r3_o t6 (IntKind.wrap .i64 (t7+(1:Int)))) (
 OU newRows_j2_c jn Q  t2_b t2_o r3_b r3_o))
 newRows_raw:∀{jn:Jn}{n0:Int}{Q:VW},Au jn PR newRows_kp newRows_fn [.i n0] Q=(
 A0 [.l (none:OA) 0 0,.p (none:OA)] p4 λb_1=>
 Jh i_new [.int .u64 (0:Int)] λx_2=>
 A0 [.l (none:OA) 0 0,.p (none:OA)] p4 λb_3=>
 st b_3 0 (.l (none:OA) 0 0)<|
 st b_3 1 (.p x_2)<|
 D2 λm=>newRows_l1 jn Q  m b_1 0 b_3 0 n0 (0:Int))
end Go.Proofs.YtjipofkjmmpjdaaGreat
namespace Go.Hb
instance {s:Int} {k:BA} {x0:Int} {x1:Int}:LB (Cr Rec.ii) [.i s,.s k,.i x0,.i x1] ⟨s,k,(x0,x1)⟩:=⟨rfl⟩
end Go.Hb
namespace Go.Proofs.YtjipofkjmmpjdaaGreat
open Go.Hb Go.IntWalk
section
variable(R:RwF){W w:World}{L M:List HP}{F:HP->List HP}{b:Nat}{seed:Int}{m:List (BA×(Int×Int))}{s:Sl}{ps:List (Pl (Int×Int))}{n1 u1:Int}
theorem Fj{st:BA->Nat}{k:BA}(hst:st=Az seed ps.length)(hz:k.size<4611686018427387904)(hl:0<ps.length/\ps.length<4611686018427387904)(hstop:∃e,e<ps.length/\Bs ps ((st k+e) % ps.length)=0)
  (hs:Ab W w (blk b [.int .u64 seed,.l s.a s.n s.c,.i n1,.i u1]::recs (Cr Rec.ii) s ps::M)) :
  Calls PR R.i_find #[pq b 0,.s k] w λe w'=>e = .returned (.tuple #[.i ((AI st ps k).1:Int),.b (AI st ps k).2])/\Ab W w' (blk b [.int .u64 seed,.l s.a s.n s.c,.i n1,.i u1]::recs (Cr Rec.ii) s ps::M):=by
 refine c1 (cw R.find_ok R.find_raw ?_);have hn:=(Bx (s:=s) hs GG.pos).1;refine Al [blk b [.int .u64 seed,.l s.a s.n s.c,.i n1,.i u1]] hs λw hs=>?_
 repeat (first|with_reducible refine Aa ?_|((with_reducible refine BY ?_);first|refine Aq ?_|fail)|fail)
 refine Am (Gs hs hz) λe w ⟨he,hs⟩=>⟨_,he,?_⟩
 repeat (first|((with_reducible refine Bf ?_);first|refine Af hs ?_|fail)|fail)
 refine Am (Ga (n:=s.n) hs (FR _ _).1 (by omega) (by omega)) λe w ⟨he,hs⟩=>⟨_,he,?_⟩;have e9:(EJ seed k).toNat % s.n=Az seed ps.length k:=by rw[hn,Jc]
 rw[e9];have loop:∀(f:Nat)(free:Option Nat)(i:Nat)(w:World),i<ps.length->(∃e,e<f/\Bs ps ((i+e) % ps.length)=0)->Ab W w (blk b [.int .u64 seed,.l s.a s.n s.c,.i n1,.i u1]::recs (Cr Rec.ii) s ps::M) ->
   R.find_l1 Be (λv w'=>v = .tuple #[.i ((AC ps k f free i).1:Int),.b (AC ps k f free i).2]/\Ab W w' (blk b [.int .u64 seed,.l s.a s.n s.c,.i n1,.i u1]::recs (Cr Rec.ii) s ps::M)) f (some ⟨b,0,none⟩) k (Ln free) (i:Int) w:=by
  intro f
  induction f with
  | zero=>intro free i w hi ⟨e,he,_⟩;omega
  | succ f ih=>
   intro free i w hi hstop hs;have hm:(i+1) % ps.length<ps.length:=Nat.mod_lt _ hl.1;have next:Bs ps i≠0->∃e',e'<f/\Bs ps (((i+1) % ps.length+e') % ps.length)=0:=by
    obtain⟨e,he,hz0⟩:=hstop;intro hne;cases e with
    | zero=>rw[Nat.add_zero,Nat.mod_eq_of_lt hi] at hz0;exact absurd hz0 hne
    | succ e=>exact⟨e,by omega,by rw[DG];exact hz0⟩
   have hwr:Int.tmod (IntKind.wrap .i64 ((i:Int)+1)) (s.n:Int)=(((i+1) % ps.length:Nat):Int):=by
    rw[i64_in _ (by omega),hn,Int.tmod_eq_emod_of_nonneg (by omega)];simp
   have j4:∀(free':Option Nat)(w:World),Bs ps i≠0->Ab W w (blk b [.int .u64 seed,.l s.a s.n s.c,.i n1,.i u1]::recs (Cr Rec.ii) s ps::M)->AC ps k (f+1) free i=AC ps k f free' ((i+1) % ps.length) ->
     Ih R.find_j4_c Be (λv w'=>v = .tuple #[.i ((AC ps k (f+1) free i).1:Int),.b (AC ps k (f+1) free i).2]/\Ab W w' (blk b [.int .u64 seed,.l s.a s.n s.c,.i n1,.i u1]::recs (Cr Rec.ii) s ps::M)) f (some ⟨b,0,none⟩) k (Ln free') (i:Int) w:=by
    intro free' w hne hs he;refine jw R.find_j4_raw ?_;rw[he]
    repeat (first|with_reducible refine Aa ?_|((with_reducible refine A2 ?_);first|refine Ah hs ?_|fail)|((with_reducible refine PM ?_);first|refine Lc ?_|fail)|fail)
    rw[hwr];exact ih free' _ w hm (next hne) hs
   rw[R.find_l1_raw];have hcast:((i:Int)).toNat=i:=Int.toNat_natCast i
   repeat (first|with_reducible refine Aa ?_|((with_reducible refine A2 ?_);first|refine Ah hs ?_|refine Ck hs ?_|fail)|((with_reducible refine BC ?_);first|refine BF hs λb_ o_ hs=>?_|fail)|fail)
   rw[hcast];have ei:(ps.getD i default).is_=Bs ps i:=rfl;have ek:(ps.getD i default).key=Dx ps i:=rfl;rw[ei];have j2:∀(t:Bool)(w:World)(b1 o1:Nat),t=decide (Bs ps i=2/\Dx ps i=k)->Ab W w (blk b [.int .u64 seed,.l s.a s.n s.c,.i n1,.i u1]::reca (Cr Rec.ii) b1 o1 s ps::M) ->
     If R.find_j2_c Be (λv w'=>v = .tuple #[.i ((AC ps k (f+1) free i).1:Int),.b (AC ps k (f+1) free i).2]/\Ab W w' (blk b [.int .u64 seed,.l s.a s.n s.c,.i n1,.i u1]::recs (Cr Rec.ii) s ps::M)) f (some ⟨b,0,none⟩) k (Ln free) (i:Int) b1 (o1+i*4) t w:=by
    intro t w b1 o1 ht hs;refine jw R.find_j2_raw ?_;rw[ht]
    with_reducible refine Ee (λh1=>?_) (λh1=>?_)
    ·have e1:AC ps k (f+1) free i=(i,true):=by rw[AC,if_pos h1]
     rw[e1];exact⟨rfl,by exact Ab.fin hs⟩
    ·repeat (first|with_reducible refine Aa ?_|((with_reducible refine A2 ?_);first|refine Ck hs ?_|fail)|fail)
     rw[ei];have j3:∀(t:Bool)(w:World),t=decide (Bs ps i=1/\free=none)->Ab W w (blk b [.int .u64 seed,.l s.a s.n s.c,.i n1,.i u1]::reca (Cr Rec.ii) b1 o1 s ps::M) ->
       Ig R.find_j3_c Be (λv w'=>v = .tuple #[.i ((AC ps k (f+1) free i).1:Int),.b (AC ps k (f+1) free i).2]/\Ab W w' (blk b [.int .u64 seed,.l s.a s.n s.c,.i n1,.i u1]::recs (Cr Rec.ii) s ps::M)) f (some ⟨b,0,none⟩) k (Ln free) (i:Int) b1 (o1+i*4) t w:=by
      intro t w ht hs;refine jw R.find_j3_raw ?_;rw[ht]
      with_reducible refine Ee (λh2=>?_) (λh2=>?_)
      ·exact j4 (some i) w (by rw[h2.1];decide) (by exact Ab.fin hs) (by rw[AC,if_neg h1,if_pos h2])
      ·repeat (first|with_reducible refine Aa ?_|((with_reducible refine A2 ?_);first|refine Ck hs ?_|fail)|fail)
       rw[ei];have j5:∀(t:Bool)(w:World),t=decide (Bs ps i=0/\free=none)->Ab W w (blk b [.int .u64 seed,.l s.a s.n s.c,.i n1,.i u1]::reca (Cr Rec.ii) b1 o1 s ps::M) ->
         Ii R.find_j5_c Be (λv w'=>v = .tuple #[.i ((AC ps k (f+1) free i).1:Int),.b (AC ps k (f+1) free i).2]/\Ab W w' (blk b [.int .u64 seed,.l s.a s.n s.c,.i n1,.i u1]::recs (Cr Rec.ii) s ps::M)) f (some ⟨b,0,none⟩) k (Ln free) (i:Int) b1 (o1+i*4) t w:=by
        intro t w ht hs;refine jw R.find_j5_raw ?_;rw[ht]
        with_reducible refine Ee (λh3=>?_) (λh3=>?_)
        ·have e1:AC ps k (f+1) free i=(i,false):=by rw[AC,if_neg h1,if_neg h2,if_pos h3.1,h3.2];rfl
         rw[e1];exact⟨rfl,by exact Ab.fin hs⟩
        ·repeat (first|with_reducible refine Aa ?_|((with_reducible refine A2 ?_);first|refine Ck hs ?_|fail)|fail)
         rw[ei]
         with_reducible refine BP (λh4=>?_) (λh4=>?_)
         ·have e1:AC ps k (f+1) free i=(free.getD i,false):=by rw[AC,if_neg h1,if_neg h2,if_pos h4]
          rw[e1];cases free with
          | none=>exact absurd ⟨h4,rfl⟩ h3
          | some j=>exact⟨rfl,by exact Ab.fin hs⟩
         ·exact j4 free w h4 (by exact Ab.fin hs) (by rw[AC,if_neg h1,if_neg h2,if_neg h4])
       with_reducible refine BP (λh3=>?_) (λh3=>?_)
       ·exact j5 _ w (by simp[h3,Gr]) (by exact Ab.fin hs)
       ·exact j5 _ w (by simp[h3]) (by exact Ab.fin hs)
     with_reducible refine BP (λh2=>?_) (λh2=>?_)
     ·exact j3 _ w (by simp[h2,Gr]) (by exact Ab.fin hs)
     ·exact j3 _ w (by simp[h2]) (by exact Ab.fin hs)
   with_reducible refine BP (λh1=>?_) (λh1=>?_)
   ·repeat (first|with_reducible refine Aa ?_|((with_reducible refine A2 ?_);first|refine EL hs ?_|fail)|fail)
    rw[ek];refine j2 _ w _ _ ?_ (by exact Ab.fin hs);rw[Q7];simp[h1]
   ·refine j2 _ w _ _ ?_ (by exact Ab.fin hs);simp[h1]
 subst hst;have hl2:=loop ps.length none (Az seed ps.length k) w (C9 hl.1 k) hstop hs;rw[show Ln none = -1 from rfl] at hl2;unfold AI;refine⟨ps.length,?_⟩;exact hl2
theorem Jv{k:BA}{v:(Int×Int)}{j:Nat}(hj:j<ps.length)(hb:ps.length<4611686018427387904)(hu:u1=(A7 ps:Int))(hn1:0<=n1/\n1<4611686018427387904)(hs:Ab W w (blk b [.int .u64 seed,.l s.a s.n s.c,.i n1,.i u1]::recs (Cr Rec.ii) s ps::M)) :
  Calls PR R.i_lays #[pq b 0,.i (j:Int),.s k,.agg #[.i (v).1,.i (v).2]] w λe w'=>e = .returned (.tuple #[])/\Ab W w' (blk b [.int .u64 seed,.l s.a s.n s.c,.i (n1+1),.i (A7 (ps.set j ⟨2,k,v⟩):Int)]::recs (Cr Rec.ii) s (ps.set j ⟨2,k,v⟩)::M):=by
 refine c1 (cw R.lays_ok R.lays_raw ?_);refine Ai hs λbv w hs=>?_;have hn:=(Bx (s:=s) hs GG.pos).1;have hle:A7 ps<=ps.length:=List.countP_le_length;rw[Bl hj _ (by show(2:Int)≠0;decide)]
 repeat (first|with_reducible refine Aa ?_|((with_reducible refine A2 ?_);first|refine Ah hs ?_|refine Ck hs ?_|fail)|((with_reducible refine BC ?_);first|refine BF hs λb_ o_ hs=>?_|fail)|fail)
 simp only[Int.toNat_natCast];have ei:(ps.getD j default).is_=Bs ps j:=rfl;rw[ei]
 with_reducible refine BP (λh1=>?_) (λh1=>?_)
 ·repeat (first|with_reducible refine Aa ?_|((with_reducible refine A2 ?_);first|refine Ah hs ?_|fail)|((with_reducible refine Bm ?_);first|refine A4 hs λw hs=>?_|fail)|fail)
  refine jw R.lays_j1_raw ?_
  repeat (first|with_reducible refine Aa ?_|((with_reducible refine A2 ?_);first|refine Ah hs ?_|fail)|((with_reducible refine Bm ?_);first|refine A4 hs λw hs=>?_|refine FJ hs λw hs=>?_|fail)|((with_reducible refine BC ?_);first|refine Ha hs ?_|fail)|((with_reducible refine BY ?_);first|refine Aq ?_|fail)|((with_reducible refine Bf ?_);first|refine AW hs ?_|fail)|((with_reducible refine DQ ?_);first|refine A9 hs λw hs=>?_|fail)|fail)
  rw[i64_in (n1+1) (by omega),hu,i64_in _ (by omega)] at hs;simp only[Int.toNat_natCast] at hs;rw[if_pos h1];exact⟨rfl,by exact Ab.fin hs⟩
 ·refine jw R.lays_j1_raw ?_
  repeat (first|with_reducible refine Aa ?_|((with_reducible refine A2 ?_);first|refine Ah hs ?_|fail)|((with_reducible refine Bm ?_);first|refine A4 hs λw hs=>?_|refine FJ hs λw hs=>?_|fail)|((with_reducible refine BC ?_);first|refine Ha hs ?_|fail)|((with_reducible refine BY ?_);first|refine Aq ?_|fail)|((with_reducible refine Bf ?_);first|refine AW hs ?_|fail)|((with_reducible refine DQ ?_);first|refine A9 hs λw hs=>?_|fail)|fail)
  rw[i64_in (n1+1) (by omega),hu] at hs;simp only[Int.toNat_natCast] at hs;rw[if_neg h1,Nat.add_zero];exact⟨rfl,by exact Ab.fin hs⟩
theorem Qs{st:BA->Nat}(hi:BV st ps m)(hkz:∀e∈m,e.1.size<4611686018427387904)(hm:m.length<1000000000)(hs:Ab W w (blk b [.int .u64 seed,.l s.a s.n s.c,.i (m.length:Int),.i u1]::recs (Cr Rec.ii) s ps::M)) :
  Calls PR R.i_grows #[pq b 0] w λe w'=>e = .returned (.tuple #[])/\Ab W w' (ixr Rec.ii b seed m::M):=by
 refine c1 (cw R.grows_ok R.grows_raw ?_);have hn:=(Bx (s:=s) hs GG.pos).1;have hsmall:=hi.small;obtain⟨N,hN⟩:∃N:Nat,N=max 8 (4*(m.length+1)):=⟨_,rfl⟩;have e1:(if (IntKind.wrap .i64 ((4:Int)*(IntKind.wrap .i64 ((m.length:Int)+(1:Int)))))>(8:Int) then (IntKind.wrap .i64 ((4:Int)*(IntKind.wrap .i64 ((m.length:Int)+(1:Int))))) else (8:Int))=(N:Int):=by
  rw[i64_in ((m.length:Int)+1) (by omega),i64_in _ (by omega)];split <;> omega
 repeat (first|with_reducible refine Aa ?_|((with_reducible refine A2 ?_);first|refine Ah hs ?_|fail)|fail)
 rw[e1];refine Eg (sz:=4) hs rfl (by omega) (by omega) (by omega) (by omega) λs2 w hn2 _ _ hs=>?_;rw[Int.toNat_natCast] at hs hn2;have hs:Ab W w (recs (Cr Rec.ii) s2 (List.replicate N ⟨0,Ae,((0,0):Int×Int)⟩)::blk b [.int .u64 seed,.l s.a s.n s.c,.i (m.length:Int),.i u1]::recs (Cr Rec.ii) s ps::M):=by
  have e:=DI (Cr Rec.ii) ⟨0,Ae,((0,0):Int×Int)⟩ N;unfold recs;rw[<- e];exact hs
 repeat (first|with_reducible refine Aa ?_|((with_reducible refine Bm ?_);first|refine A4 hs λw hs=>?_|fail)|fail)
 have hinv:=BV.new (st:=Az seed N) (n:=N) (z:=(⟨0,Ae,((0,0):Int×Int)⟩:Pl (Int×Int))) rfl (by omega) (by omega) (C9 (by omega));have hdist:(AP ps).map (·.1) |>.Nodup:=(hi.perm.map (·.1)).nodup_iff.2 hi.nodup
 have hlen:(AP ps).length=m.length:=hi.perm.length_eq;have loop:∀(f i:Nat)(w:World)(ps2:List (Pl (Int×Int)))(mi:List (BA×(Int×Int))),i+f=ps.length->ps2.length=N->BV (Az seed N) ps2 mi->mi.Perm (AP (ps.take i))->A7 ps2<=mi.length ->
   Ab W w (blk b [.int .u64 seed,.l s2.a s2.n s2.c,.i (mi.length:Int),.i (A7 ps2:Int)]::recs (Cr Rec.ii) s2 ps2::recs (Cr Rec.ii) s ps::M) ->
   R.grows_l1 Be (λv w'=>v = .tuple #[]/\Ab W w' (ixr Rec.ii b seed m::M)) (f+1) (some ⟨b,0,none⟩) s (s.n:Int) (i:Int) w:=by
  intro f
  induction f with
  | zero=>
   intro i w ps2 mi hif hpl hiv hp hu hs;rw[R.grows_l1_raw];refine Ac (decide_eq_false (by omega)) ⟨rfl,?_⟩;rw[List.take_of_length_le (by omega)] at hp;have hpm:=hp.trans hi.perm;refine AV s2 (ps:=ps2) (n:=(mi.length:Int)) ?_ ?_ (by rw[hpm.length_eq]) rfl (by exact Ab.fin hs)
   ·rw[hpl];exact hiv.perm' hpm
   ·rw[hpl];have:=hpm.length_eq;omega
  | succ f ih=>
   intro i w ps2 mi hif hpl hiv hp hu hs;rw[R.grows_l1_raw];refine Ak (decide_eq_true (by omega)) ?_
   repeat (first|((with_reducible refine A2 ?_);first|refine Ah hs ?_|refine Ck hs ?_|refine EL hs ?_|refine MA hs ?_|refine Yx hs ?_|fail)|((with_reducible refine Bm ?_);first|refine A4 hs λw hs=>?_|fail)|((with_reducible refine BC ?_);first|refine BF hs λb_ o_ hs=>?_|fail)|((with_reducible refine CC ?_);first|refine Ai hs λb_ w hs=>?_|fail)|fail)
   simp only[Int.toNat_natCast] at hs ⊢;have hil:i<ps.length:=by omega
   have hft:AP (ps.take (i+1))=AP (ps.take i)++En (ps.getD i default):=by
    rw[Cc hil,BB];simp[AP]
   with_reducible refine BP (λh1=>?_) (λh1=>?_)
   ·have hop:En (ps.getD i default)=[((ps.getD i default).key,(ps.getD i default).v)]:=Ft h1;rw[hop] at hft;have hsub:(AP (ps.take (i+1))).Sublist (AP ps):=by
     conv=>rhs;rw[<- List.take_append_drop (i+1) ps,BB]
     exact List.sublist_append_left _ _
    have hmem:((ps.getD i default).key,(ps.getD i default).v)∈m:=hi.perm.subset (hsub.subset (by rw[hft];simp));have hnd:=hdist.sublist (hsub.map (·.1));rw[hft,List.map_append] at hnd;have hno:AE mi (ps.getD i default).key=none:=by
     rw[Bu];intro e he hk;rw[List.nodup_append] at hnd;exact hnd.2.2 _ (List.mem_map_of_mem (f:=(·.1)) (hp.subset he)) _ (by simp) hk
    have hlt:mi.length+1<=m.length:=by
     have:=hsub.length_le;rw[hft,List.length_append,<- hp.length_eq] at this;simp only[List.length_cons,List.length_nil] at this;omega
    repeat (first|((with_reducible refine A2 ?_);first|refine Ah hs ?_|fail)|fail)
    have hs:Ab W w (blk b [.int .u64 seed,.l s2.a s2.n s2.c,.i (mi.length:Int),.i (A7 ps2:Int)]::recs (Cr Rec.ii) s2 ps2::blk b_ [.i (ps.getD i default).is_,.s (ps.getD i default).key,.i (ps.getD i default).v.1,.i (ps.getD i default).v.2]::recs (Cr Rec.ii) s ps::M):=by exact Ab.fin hs
    refine AG (Fj R (st:=Az seed N) (by rw[hpl]) (hkz _ hmem) (by omega) (hiv.stop _) hs) λe w ⟨he,hs⟩=>⟨_,_,he,?_⟩;have hfm:(AI (Az seed N) ps2 (ps.getD i default).key).2=false:=by
     cases hb:(AI (Az seed N) ps2 (ps.getD i default).key).2 with
     | false=>rfl
     | true=>have:=(hiv.hit hb).2.2;rw[hno] at this;cases this
    obtain⟨hj,hj2,_,hjr⟩:=hiv.miss hfm
    repeat (first|((with_reducible refine A2 ?_);first|refine Ah hs ?_|fail)|fail)
    refine Ar (Jv R (v:=(ps.getD i default).v) hj (by omega) rfl (by omega) hs) λe w ⟨he,hs⟩=>⟨he,?_⟩;rw[i64_in _ (by omega)];have hus:=Bl hj (⟨2,(ps.getD i default).key,(ps.getD i default).v⟩:Pl (Int×Int)) (by show(2:Int)≠0;decide)
    have hus2:A7 (ps2.set (AI (Az seed N) ps2 (ps.getD i default).key).1 ⟨2,(ps.getD i default).key,(ps.getD i default).v⟩)<=A7 ps2+1:=by rw[hus];split <;> omega
    refine ih (i+1) w _ (((ps.getD i default).key,(ps.getD i default).v)::mi) (by omega) (by rw[List.length_set];exact hpl) (hiv.add hj hj2 hno hjr (by omega)) ?_ (by simp only[List.length_cons];omega) ?_
    ·rw[hft];exact((List.Perm.cons _ hp).trans (List.perm_append_comm (l₁:=[_])))
    ·simp only[List.length_cons,Int.natCast_add];exact Ab.fin hs
   ·have hop:En (ps.getD i default)=[]:=Hl h1;rw[hop,List.append_nil] at hft;rw[i64_in _ (by omega)];exact ih (i+1) w ps2 mi (by omega) hpl hiv (by rw[hft];exact hp) hu (by exact Ab.fin hs)
 refine⟨ps.length+1,?_⟩;refine loop ps.length 0 w (List.replicate N ⟨0,Ae,((0,0):Int×Int)⟩) [] (by omega) (by simp) hinv (by simp[AP]) ?_ ?_
 ·have:A7 (List.replicate N (⟨0,Ae,((0,0):Int×Int)⟩:Pl (Int×Int)))=0:=by
   unfold A7;rw[List.countP_eq_zero];intro a ha;rw[List.eq_of_mem_replicate ha];simp
  rw[this];exact Nat.zero_le _
 ·have:A7 (List.replicate N (⟨0,Ae,((0,0):Int×Int)⟩:Pl (Int×Int)))=0:=by
   unfold A7;rw[List.countP_eq_zero];intro a ha;rw[List.eq_of_mem_replicate ha];simp
  rw[this];exact Ab.fin hs
end
section
variable(R:RwF){W w:World}{L M:List HP}{F:HP->List HP}{b:Nat}{seed:Int}{m:List (BA×(Int×Int))}{k:BA}
theorem Ag2(hs:Ab W w L):Calls PR R.i_new #[.int .u64 seed] w λe w'=>∃b,e = .returned (pq b 0)/\Ab W w' (ixr Rec.ii b seed []::L):=by
 refine(cw R.new_ok R.new_raw (Q:=λv w'=>∃b,v=pq b 0/\Ab W w' (ixr Rec.ii b seed []::L)) ?_).mono λe w' ⟨v,he,b,hv,hs⟩=>⟨b,by rw[he,hv],hs⟩;refine Eg (sz:=4) hs rfl (by omega) (by omega) (by omega) (by omega) λs2 w hn2 _ _ hs=>?_;have hs:Ab W w (recs (Cr Rec.ii) s2 (List.replicate 8 ⟨0,Ae,((0,0):Int×Int)⟩)::L):=hs
 repeat (first|((with_reducible refine CC ?_);first|refine Ai hs λb_ w hs=>?_|fail)|fail)
 refine⟨_,rfl,AV s2 (ps:=List.replicate 8 ⟨0,Ae,((0,0):Int×Int)⟩) (n:=0) (u:=0) (BV.new (n:=8) rfl (by omega) (by omega) (C9 (by simp))) (by decide +revert) rfl rfl (by exact Ab.fin hs)⟩
theorem Tq(h:Ab W w L)[hA:At L b (ixr Rec.ii b seed m) F](hz:k.size<4611686018427387904):Calls PR R.i_get #[pq b 0,.s k] w λe w'=>e = .returned (.tuple #[.agg #[.i ((AE m k).getD ((0,0):Int×Int)).1,.i ((AE m k).getD ((0,0):Int×Int)).2],.b (AE m k).isSome])/\Ab W w' (F (ixr Rec.ii b seed m)):=by
 refine At.call1 (hA:=hA) h λM hs=>?_;clear h hA;refine c1 (cw R.get_ok R.get_raw ?_);refine Ai hs λbz w hs=>?_;have hs:Ab W w (ixr Rec.ii b seed m::blk bz [.i (0:Int),.i (0:Int)]::M):=by exact Ab.fin hs
 refine Ak rfl ?_;obtain⟨s,ps,hi,h2,hn,hs⟩:=Cy hs;have hsm:=hi.small;have hbg:=hi.big;refine AG (Fj R (st:=Az seed ps.length) rfl hz (by omega) (hi.stop _) hs) λe w ⟨he,hs⟩=>⟨_,_,he,?_⟩;refine Ap (λhb=>?_) (λhb=>?_)
 ·obtain⟨hj,_,hg⟩:=hi.hit hb;rw[hg]
  repeat (first|with_reducible refine Aa ?_|((with_reducible refine A2 ?_);first|refine Ah hs ?_|refine EL hs ?_|refine MA hs ?_|fail)|((with_reducible refine Bm ?_);first|refine A4 hs λw hs=>?_|fail)|((with_reducible refine BC ?_);first|refine BF hs λb_ o_ hs=>?_|fail)|fail)
  simp only[Int.toNat_natCast];exact⟨rfl,AV s hi h2 rfl rfl (by exact Ab.fin hs)⟩
 ·rw[(hi.miss hb).2.2.1];refine jw R.get_j1_raw ?_
  repeat (first|((with_reducible refine A2 ?_);first|refine Ah hs ?_|fail)|((with_reducible refine Bm ?_);first|refine A4 hs λw hs=>?_|fail)|((with_reducible refine CC ?_);first|refine Ai hs λb_ w hs=>?_|fail)|fail)
  exact⟨rfl,AV s hi h2 rfl rfl (by exact Ab.fin hs)⟩
theorem Ag3(h:Ab W w L)[hA:At L b (ixr Rec.ii b seed m) F]{v:(Int×Int)}(hz:k.size<4611686018427387904)(hkz:∀e∈m,e.1.size<4611686018427387904)(hm:m.length<900000000):Calls PR R.i_put #[pq b 0,.s k,.agg #[.i (v).1,.i (v).2]] w λe w'=>e = .returned (.b (AE m k).isNone)/\Ab W w' (F (ixr Rec.ii b seed (Cj m k v))):=by
 refine At.call1 (hA:=hA) h λM hs=>?_;clear h hA;refine c1 (cw R.put_ok R.put_raw ?_);refine Ai hs λbv w hs=>?_;have hs:Ab W w (ixr Rec.ii b seed m::blk bv [.i v.1,.i v.2]::M):=by exact Ab.fin hs
 refine Ac rfl ?_;obtain⟨s,ps,hi,h2,hn,hs⟩:=Cy hs;have hsm:=hi.small;have hbg:=hi.big;refine AG (Fj R (st:=Az seed ps.length) rfl hz (by omega) (hi.stop _) hs) λe w ⟨he,hs⟩=>⟨_,_,he,?_⟩;refine Ap (λhb=>?_) (λhb=>?_)
 ·obtain⟨hj,hit,hg⟩:=hi.hit hb;have hp:Cj m k v=E5 m k v:=by unfold Cj;rw[hg]
  rw[hg,hp]
  repeat (first|with_reducible refine Aa ?_|((with_reducible refine A2 ?_);first|refine Ah hs ?_|fail)|((with_reducible refine BC ?_);first|refine BF hs λb_ o_ hs=>?_|fail)|((with_reducible refine BY ?_);first|refine Aq ?_|fail)|((with_reducible refine Bf ?_);first|refine AW hs ?_|fail)|((with_reducible refine DQ ?_);first|refine A9 hs λw hs=>?_|fail)|fail)
  simp only[Int.toNat_natCast];refine VB (vs:=[.i v.1,.i v.2]) (pre:=[.i (ps.getD (AI (Az seed ps.length) ps k).1 default).is_,.s (ps.getD (AI (Az seed ps.length) ps k).1 default).key]) (mid:=[.i (ps.getD (AI (Az seed ps.length) ps k).1 default).v.1,.i (ps.getD (AI (Az seed ps.length) ps k).1 default).v.2]) (tl:=[]) (a':={ ps.getD (AI (Az seed ps.length) ps k).1 default with v:=v }) (i:=(AI (Az seed ps.length) ps k).1) (j:=2) (n:=4) hs rfl hj rfl rfl rfl rfl λw hs=>?_;have hset:=hi.set (v:=v) hj hit;have hus:A7 (ps.set (AI (Az seed ps.length) ps k).1 { ps.getD (AI (Az seed ps.length) ps k).1 default with v:=v })=A7 ps:=by
   rw[Bl hj _ (by show Bs ps _≠0;rw[hit.1];decide),if_neg (by rw[hit.1];decide)];rfl
  refine⟨rfl,AV s (n:=(m.length:Int)) (u:=(A7 ps:Int)) (by rw[List.length_set];exact hset) (by rw[hus,List.length_set];exact h2) (by simp[E5]) (by rw[hus]) (by exact Ab.fin hs)⟩
 ·obtain⟨hj,hj2,hg,hr⟩:=hi.miss hb;have hp:Cj m k v=(k,v)::m:=by unfold Cj;rw[hg]
  rw[hg,hp]
  repeat (first|((with_reducible refine A2 ?_);first|refine Ah hs ?_|fail)|fail)
  refine Ar (Jv R (v:=v) hj (by omega) rfl (by omega) hs) λe w ⟨he,hs⟩=>⟨he,?_⟩;have hus:=Bl hj (⟨2,k,v⟩:Pl (Int×Int)) (by show(2:Int)≠0;decide)
  have hus2:A7 (ps.set (AI (Az seed ps.length) ps k).1 ⟨2,k,v⟩)<=A7 ps+1:=by rw[hus];split <;> omega
  have hadd:=hi.add (v:=v) hj hj2 hg hr (by omega);have hsl:(ps.set (AI (Az seed ps.length) ps k).1 ⟨2,k,v⟩).length=ps.length:=by simp
  generalize hps2:ps.set (AI (Az seed ps.length) ps k).1 ⟨2,k,v⟩=ps2 at hs hus2 hadd hsl
  repeat (first|with_reducible refine Aa ?_|((with_reducible refine A2 ?_);first|refine Ah hs ?_|fail)|((with_reducible refine BY ?_);first|refine Aq ?_|fail)|((with_reducible refine Bf ?_);first|refine AW hs ?_|fail)|((with_reducible refine DQ ?_);first|refine A9 hs λw hs=>?_|fail)|fail)
  rw[i64_in _ (by omega),hn]
  with_reducible refine Di (λh9=>?_) (λh9=>?_)
  ·have hkz2:∀e∈(k,v)::m,e.1.size<4611686018427387904:=by
    intro e he;rcases List.mem_cons.1 he with rfl|he
    ·exact hz
    ·exact hkz e he
   have hs2:Ab W w (blk b [.int .u64 seed,.l s.a s.n s.c,.i (((k,v)::m).length:Int),.i (A7 ps2:Int)]::recs (Cr Rec.ii) s ps2::M):=by
    simp only[List.length_cons,Int.natCast_add];exact Ab.fin hs
   refine Ar (Qs R hadd hkz2 (by simp;omega) hs2) λe w ⟨he,hs⟩=>⟨he,?_⟩;exact⟨rfl,hs⟩
  ·exact⟨rfl,AV s (n:=(m.length:Int)+1) (by rw[hsl];exact hadd) (by omega) (by simp) rfl (by exact Ab.fin hs)⟩
theorem Vx(h:Ab W w L)[hA:At L b (ixr Rec.ii b seed m) F](hz:k.size<4611686018427387904)(hm:m.length<900000000):Calls PR R.i_del #[pq b 0,.s k] w λe w'=>e = .returned (.tuple #[.agg #[.i ((AE m k).getD ((0,0):Int×Int)).1,.i ((AE m k).getD ((0,0):Int×Int)).2],.b (AE m k).isSome])/\Ab W w' (F (ixr Rec.ii b seed (BJ m k))):=by
 refine At.call1 (hA:=hA) h λM hs=>?_;clear h hA;refine c1 (cw R.del_ok R.del_raw ?_);refine Ai hs λb1 w hs=>?_;refine(Tq R hs hz).mono λe w ⟨he,hs⟩=>⟨_,_,_,he,?_⟩
 repeat (first|((with_reducible refine Bm ?_);first|refine A4 hs λw hs=>?_|fail)|((with_reducible refine CC ?_);first|refine Ai hs λb_ w hs=>?_|fail)|fail)
 have hs:Ab W w (ixr Rec.ii b seed m::blk b_ [.i ((AE m k).getD ((0,0):Int×Int)).1,.i ((AE m k).getD ((0,0):Int×Int)).2]::blk b1 [.i (0:Int),.i (0:Int)]::M):=by exact Ab.fin hs
 refine K3 (λv hg=>?_) (λhg=>?_)
 ·obtain⟨s,ps,hi,h2,hn,hs⟩:=Cy hs;have hsm:=hi.small;have hbg:=hi.big;refine AG (Fj R (st:=Az seed ps.length) rfl hz (by omega) (hi.stop _) hs) λe w ⟨he,hs⟩=>⟨_,_,he,?_⟩;have hb:(AI (Az seed ps.length) ps k).2=true:=by
   cases hb:(AI (Az seed ps.length) ps k).2 with
   | true=>rfl
   | false=>have:=(hi.miss hb).2.2.1;rw[hg] at this;cases this
  obtain⟨hj,hit,_⟩:=hi.hit hb
  repeat (first|with_reducible refine Aa ?_|((with_reducible refine A2 ?_);first|refine Ah hs ?_|fail)|((with_reducible refine Bm ?_);first|refine A4 hs λw hs=>?_|refine FJ hs λw hs=>?_|fail)|((with_reducible refine BC ?_);first|refine BF hs λb_ o_ hs=>?_|fail)|fail)
  rw[i64_in _ (by omega)] at hs;simp only[Int.toNat_natCast] at hs;have hdel:=hi.del (z:=(⟨1,Ae,((0,0):Int×Int)⟩:Pl (Int×Int))) hj hit rfl;have hus:A7 (ps.set (AI (Az seed ps.length) ps k).1 (⟨1,Ae,((0,0):Int×Int)⟩:Pl (Int×Int)))=A7 ps:=by
   rw[Bl hj _ (by show(1:Int)≠0;decide),if_neg (by rw[hit.1];decide)];rfl
  have hl:=KD hi.nodup hg;refine⟨by trivial,AV s (n:=(m.length:Int)-1) (u:=(A7 ps:Int)) (by rw[List.length_set];exact hdel) (by rw[hus,List.length_set];exact h2) (by omega) (by rw[hus]) (by exact Ab.fin hs)⟩
 ·have:BJ m k=m:=by
   unfold BJ;rw[List.filter_eq_self];intro e he;simpa using Bu.1 hg e he
  rw[this]
  repeat (first|((with_reducible refine A2 ?_);first|refine Ah hs ?_|fail)|((with_reducible refine Bm ?_);first|refine A4 hs λw hs=>?_|fail)|fail)
  exact⟨by trivial,by exact Ab.fin hs⟩
end
end Go.Proofs.YtjipofkjmmpjdaaGreat
namespace Go.Proofs.YtjipofkjmmpjdaaGreat
open Go.Hb Go.IntWalk
theorem Dt{P:Program}{f:FuncId}{args:Array Value}{w:World}{v0:Value}{S:World->Prop}(h:Calls P f args w λe w'=>∃v,e = .returned v/\(v=v0/\S w')) :
  Calls P f args w λe w'=>e = .returned v0/\S w':=h.mono λ_ _ ⟨_,he,hv,hs⟩=>⟨by rw[he,hv],hs⟩
section
variable{W w:World}{L M:List HP}{F:HP->List HP}{b:Nat}{row:List (Nat×BA)}{free:List Nat}
theorem QI{s f:Sl}{n:Int}{ls:List Lk}{fr:List Nat}{h p x:Nat}(hh:h<ls.length)(hp:p<ls.length)(hx:x<ls.length)(hs:Ab W w (blk b [.l s.a s.n s.c,.l f.a f.n f.c,.i n]::recs lkR s ls::recs Rec.nat f fr::M)) :
  Calls PR 198 #[pq b 0,.i (h:Int),.i (p:Int),.i (x:Int)] w λe w'=>e = .returned (.tuple #[])/\Ab W w' (blk b [.l s.a s.n s.c,.l f.a f.n f.c,.i n]::recs lkR s (Rf ls h p x)::recs Rec.nat f fr::M):=by
 refine Dt (cw ⟨mixed,Tryz.func198,rfl⟩ Aku ?_);have hn:=(Bx (s:=s) hs).1
 repeat (first|with_reducible refine Aa ?_|((with_reducible refine A2 ?_);first|refine Ah hs ?_|fail)|((with_reducible refine Bm ?_);first|refine Ap4 hs λw hs=>?_|fail)|((with_reducible refine BC ?_);first|refine BF hs λb_ o_ hs=>?_|refine Ha hs ?_|fail)|((with_reducible refine BY ?_);first|refine Aq ?_|fail)|((with_reducible refine Bf ?_);first|refine AW hs ?_|fail)|((with_reducible refine DQ ?_);first|refine A9 hs λw hs=>?_|fail)|fail)
 try simp only[Int.toNat_natCast] at hs
 refine⟨rfl,?_⟩;exact Ab.fin hs
theorem Ny{s f:Sl}{n:Int}{ls:List Lk}{fr:List Nat}{h:Nat}(hh:h<ls.length)(hp:DL ls h<ls.length)(hx:DK ls h<ls.length)(hs:Ab W w (blk b [.l s.a s.n s.c,.l f.a f.n f.c,.i n]::recs lkR s ls::recs Rec.nat f fr::M)) :
  Calls PR 194 #[pq b 0,.i (h:Int)] w λe w'=>e = .returned (.tuple #[])/\Ab W w' (blk b [.l s.a s.n s.c,.l f.a f.n f.c,.i n]::recs lkR s (Gw ls h)::recs Rec.nat f fr::M):=by
 refine Dt (cw ⟨mixed,Tryz.func194,rfl⟩ Akq ?_);have hn:=(Bx (s:=s) hs).1;have hp:(ls.getD (h:Int).toNat default).prev<ls.length:=hp;have hx:(ls.getD (h:Int).toNat default).next<ls.length:=hx
 have hp1:(ls.getD h default).prev<ls.length:=hp;have hx1:(ls.getD h default).next<ls.length:=hx
 repeat (first|with_reducible refine Aa ?_|((with_reducible refine A2 ?_);first|refine Ah hs ?_|refine EL hs ?_|fail)|((with_reducible refine Bm ?_);first|refine Ap4 hs λw hs=>?_|fail)|((with_reducible refine BC ?_);first|refine BF hs λb_ o_ hs=>?_|refine Ha hs ?_|fail)|((with_reducible refine BY ?_);first|refine Aq ?_|refine Aw1 hs ?_|fail)|((with_reducible refine Bf ?_);first|refine AW hs ?_|refine Af hs ?_|fail)|((with_reducible refine DQ ?_);first|refine A9 hs λw hs=>?_|fail)|fail)
 try simp only[Int.toNat_natCast] at hs
 refine⟨rfl,?_⟩;exact Ab.fin hs
theorem QH(h:Ab W w L)[hA:At L b (lst .s b row free) F]{x:Int}:Calls PR 199 #[pq b 0,.i x] w λe w'=>e = .returned (.b (IW row x).isSome)/\Ab W w' (F (lst .s b (row) (free))):=by
 refine At.call1 (hA:=hA) h λM hs=>?_;clear h hA;refine Dt (cw ⟨mixed,Tryz.func199,rfl⟩ Akv ?_);obtain⟨s,f,ls,hi,⟨hn,hf,hl⟩,hs⟩:=DZ hs;have hh:=hi.has x;rw[Tt] at hh;rw[<- hn] at hh;rw[<- hh];refine Ak rfl ?_;refine Ap (λh1=>?_) (λh1=>⟨by simp only[h1,Bool.false_and],DC s f hi rfl hs⟩)
 repeat (first|with_reducible refine Aa ?_|((with_reducible refine A2 ?_);first|refine Ah hs ?_|fail)|fail)
 refine Ap (λh2=>?_) (λh2=>⟨by simp only[h1,h2,Bool.false_and,Bool.and_false],DC s f hi rfl hs⟩);have h1':=of_decide_eq_true h1;have h2':=of_decide_eq_true h2
 repeat (first|with_reducible refine Aa ?_|((with_reducible refine A2 ?_);first|refine Ah hs ?_|refine EL hs ?_|fail)|((with_reducible refine BC ?_);first|refine BF hs λb_ o_ hs=>?_|fail)|fail)
 refine⟨by simp only[h1,h2,Bool.true_and],DC s f hi rfl ?_⟩;exact Ab.fin hs
theorem Fb(h:Ab W w L)[hA:At L b (lst .s b row free) F]{x:Int}:Calls PR 164 #[pq b 0,.i x] w λe w'=>e = .returned (.tuple #[.s ((EY row x).getD Ae),.b (IW row x).isSome])/\Ab W w' (F (lst .s b (row) (free))):=by
 refine At.call1 (hA:=hA) h λM hs=>?_;clear h hA;refine Dt (cw ⟨mixed,Tryz.func164,rfl⟩ Akd ?_);refine Am (QH hs) λe w ⟨he,hs⟩=>⟨_,he,?_⟩;refine Ap (λh1=>?_) (λh1=>?_)
 ·simp only[Bool.not_eq_true',Option.isSome_eq_false_iff,Option.isNone_iff_eq_none] at h1;rw[EY,h1];exact⟨rfl,hs⟩
 ·simp only[Bool.not_eq_false',Option.isSome_iff_exists] at h1;obtain⟨i,h1⟩:=h1;obtain⟨s,f,ls,hi,⟨hn,hf,hl⟩,hs⟩:=DZ hs;obtain⟨k,v,rfl,hrv,hk,hkl,ht,hv,hr,_⟩:=hi.row_at (i:=i) (by rw[Tt];exact h1)
  have hv:(ls.getD k default).v = .s ((EY row k).getD Ae):=by rw[hv];exact Aps h1 hrv
  repeat (first|with_reducible refine Aa ?_|((with_reducible refine A2 ?_);first|refine Ah hs ?_|fail)|((with_reducible refine BC ?_);first|refine BF hs λb_ o_ hs=>?_|fail)|fail)
  refine Ck (x:=(EY row k).getD Ae) hs ?_ (hc:=by rw[Int.toNat_natCast];simp only[lkR,Lk.cells,List.getElem?_cons_zero];rw[hv];rfl);rw[h1];refine⟨rfl,DC s f hi rfl ?_⟩;exact Ab.fin hs
theorem QJ{v:BA}(hr:row.length+free.length<1099511627776)(hs:Ab W w (lst .s b row free::M)) :
  Calls PR 197 #[pq b 0,.s v] w λe w'=>e = .returned (.i (JV row free:Int))/\∃(s f:Sl) (ls ls1:List Lk),IG ls free (Fu .s row)/\s.n=ls1.length/\Aia ls free (Fu .s row) (.s v) (JV row free) ls1 free.dropLast /\
   Ab W w' (blk b [.l s.a s.n s.c,.l f.a f.n f.c,.i ((row.length:Int)+1)]::recs lkR s ls1::recs Rec.nat f free.dropLast::M):=by
 refine Dt (cw ⟨mixed,Tryz.func197,rfl⟩ Akt ?_);obtain⟨s,f,ls,hi,⟨hn,hf,hl⟩,hs⟩:=DZ hs;have ht:=hi.take (.s v);have hh:T9 ls.length free=JV row free:=by unfold T9 JV;rw[hl]
 rw[hh] at ht
 repeat (first|with_reducible refine Aa ?_|((with_reducible refine A2 ?_);first|refine Ah hs ?_|fail)|fail)
 rw[hf];refine Ap (λh1=>?_) (λh1=>?_)
 ·simp only[gt_iff_lt,decide_eq_true_eq] at h1;have hne:free≠[]:=by rintro rfl;simp at h1
  have hfc:=(Bx (s:=f) hs).2;have hwr:IntKind.wrap .i64 ((free.length:Int)-1)=((free.length-1:Nat):Int):=by rw[i64_in _ (by omega)];omega
  simp only[hwr,Int.toNat_natCast]
  repeat (first|with_reducible refine Aa ?_|((with_reducible refine A2 ?_);first|refine Ah hs ?_|refine Ck hs ?_|fail)|((with_reducible refine Bm ?_);first|refine A4 hs λw hs=>?_|fail)|((with_reducible refine BC ?_);first|refine BF hs λb_ o_ hs=>?_|fail)|((with_reducible refine PM ?_);first|refine Lc ?_|fail)|fail)
  have hs:=A27 (s:=f) (lo:=0) (hi:=free.length-1) (c:=f.c) (hs.shut f) rfl (by omega) (by omega) rfl (by decide);refine jw Mf ?_;have hlast:free.getD (free.length-1) default=JV row free:=by
   rw[JV,List.getLastD_eq_getLast?,List.getLast?_eq_getElem?,List.getD_eq_getElem?_getD,List.getElem?_eq_getElem (by omega)];rfl
  simp only[hlast] at hs ⊢;rw[List.drop_zero,Nat.sub_zero,<- List.dropLast_eq_take] at hs;have hlt:=ht.lt;have hlt2:JV row free<ls.length:=by
   have:=ht.lt;unfold GE at this;rw[if_neg hne,List.length_set] at this;exact this
  repeat (first|with_reducible refine Aa ?_|((with_reducible refine A2 ?_);first|refine Ah hs ?_|fail)|((with_reducible refine Bm ?_);first|refine A4 hs λw hs=>?_|refine FJ hs λw hs=>?_|fail)|((with_reducible refine BC ?_);first|refine BF hs λb_ o_ hs=>?_|fail)|fail)
  rw[i64_in _ (by omega)] at hs;simp only[Int.toNat_natCast] at hs;refine⟨by trivial,s,⟨Ht f.a 0 f.c 1,free.length-1,f.c⟩,ls,GE ls free (.s v),hi,?_,ht,?_⟩
  ·rw[GE,if_neg hne,List.length_set];exact hn
  ·have hset:ls.set (JV row free) ⟨.s v,0,0,true⟩=GE ls free (.s v):=by
    unfold GE JV;rw[if_neg hne]
    congr 1;rcases List.eq_nil_or_concat free with rfl|⟨m,x,rfl⟩
    ·exact absurd rfl hne
    ·simp[List.getLastD_eq_getLast?]
   rw[hset] at hs;exact Ab.fin hs
 ·simp only[gt_iff_lt,decide_eq_false_iff_not] at h1;have hfe:free=[]:=List.length_eq_zero_iff.1 (by omega);subst hfe;have hn':=hn
  repeat (first|with_reducible refine Aa ?_|((with_reducible refine A2 ?_);first|refine Ah hs ?_|fail)|((with_reducible refine CC ?_);first|refine Ai hs λb_ w hs=>?_|fail)|fail)
  refine CA (s:=s) (a:=(⟨.s Ae,0,0,false⟩:Lk)) hs rfl rfl rfl rfl (by decide) (by rw[hl];simp only[List.length_nil];simp only[List.length_nil] at hr;omega) λs2 w hs2 hs=>?_
  repeat (first|with_reducible refine Aa ?_|((with_reducible refine Bm ?_);first|refine A4 hs λw hs=>?_|fail)|fail)
  refine jw Mf ?_;rw[hn]
  repeat (first|with_reducible refine Aa ?_|((with_reducible refine A2 ?_);first|refine Ah hs ?_|fail)|((with_reducible refine Bm ?_);first|refine A4 hs λw hs=>?_|refine FJ hs λw hs=>?_|fail)|((with_reducible refine BC ?_);first|refine BF hs λb_ o_ hs=>?_|fail)|fail)
  rw[i64_in _ (by omega)] at hs;simp only[Int.toNat_natCast] at hs;have hh2:(ls.length:Int)=(JV row []:Int):=by rw[<- hh];rfl
  refine⟨by rw[hh2],s2,f,ls,GE ls [] (.s v),hi,?_,ht,?_⟩
  ·simp[GE,hs2]
  ·have hset:(ls++[(⟨.s Ae,0,0,false⟩:Lk)]).set ls.length ⟨.s v,0,0,true⟩=GE ls [] (.s v):=by
    simp[GE]
   rw[hset] at hs;exact Ab.fin hs
theorem F4(h:Ab W w L)[hA:At L b (lst .s b row free) F]{v:BA}(hr:row.length+free.length<1099511627776):Calls PR 162 #[pq b 0,.s v] w λe w'=>e = .returned (.i (JV row free:Int))/\Ab W w' (F (lst .s b (row++[(JV row free,v)]) (free.dropLast))):=by
 refine At.call1 (hA:=hA) h λM hs=>?_;clear h hA;refine Dt (cw ⟨mixed,Tryz.func162,rfl⟩ Akb ?_);refine Ac rfl ?_;refine Am (QJ hr hs) λe w ⟨he,s,f,ls,ls1,hi,hn,ht,hs⟩=>⟨_,he,?_⟩;have hlen:=ht.le;have hpos:=hi.pos;have hl1:=ht.lt
 repeat (first|with_reducible refine Aa ?_|((with_reducible refine A2 ?_);first|refine Ah hs ?_|refine EL hs ?_|fail)|((with_reducible refine BC ?_);first|refine BF hs λb_ o_ hs=>?_|fail)|fail)
 have e1:(ls1.getD (0:Int).toNat default).prev=((Fu .s row).map (·.1)).getLastD 0:=by
  show DL ls1 0=_;rw[ht.pv,Bk (by have:=ht.pos;omega),YV hi.stands]
 rw[e1];have hx:((Fu .s row).map (·.1)).getLastD 0<ls.length:=hi.bound L1;refine Ar (QI (x:=0) hl1 (by omega) (by omega) (hs.shut s)) λe w ⟨he,hs⟩=>⟨he,?_⟩;refine⟨rfl,DC s f ?_ (by simp) hs⟩;have:=IG.lay (r1:=Fu .s row) (r2:=[]) (by rw[List.append_nil];exact hi) (by rw[List.append_nil];exact ht)
 rw[show Fu .s (row++[(JV row free,v)])=Fu .s row++[(JV row free,.s v)] by simp[Fu]];exact this
theorem GN(h:Ab W w L)[hA:At L b (lst .s b row free) F]{x:Int}(hr:row.length+free.length<1099511627776):Calls PR 160 #[pq b 0,.i x] w λe w'=>e = .returned (.tuple #[.s ((EY row x).getD Ae),.b (IW row x).isSome])/\Ab W w' (F (lst .s b (match IW row x with|some i=>row.eraseIdx i|none=>row) (match IW row x with|some i=>free++[x.toNat]|none=>free))):=by
 refine At.call1 (hA:=hA) h λM hs=>?_;clear h hA;refine Dt (cw ⟨mixed,Tryz.func160,rfl⟩ Aj9 ?_);refine AG (Fb hs) λe w ⟨he,hs⟩=>⟨_,_,he,?_⟩;refine Ap (λh1=>?_) (λh1=>?_)
 ·simp only[Option.isSome_iff_exists] at h1;obtain⟨i,h1⟩:=h1;obtain⟨s,f,ls,hi,⟨hn,hf,hl⟩,hs⟩:=DZ hs;obtain⟨k,v,rfl,hrv,hk,hkl,ht,hv,hr2,hnx,hpv⟩:=hi.row_at (i:=i) (by rw[Tt];exact h1)
  have hx:=hi.next_lt hr2;have hp:=hi.prev_lt hr2;refine Ar (Ny hkl hp hx hs) λe w ⟨he,hs⟩=>⟨he,?_⟩;have hll:=Tc ls k
  repeat (first|with_reducible refine Aa ?_|((with_reducible refine A2 ?_);first|refine Ah hs ?_|fail)|((with_reducible refine Bm ?_);first|refine FJ hs λw hs=>?_|fail)|((with_reducible refine BC ?_);first|refine BF hs λb_ o_ hs=>?_|fail)|((with_reducible refine CC ?_);first|refine Ai hs λb_ w hs=>?_|fail)|fail)
  refine CA (s:=f) (a:=k) hs rfl rfl rfl rfl (by decide) (by omega) λf2 w hf2 hs=>?_
  repeat (first|with_reducible refine Aa ?_|((with_reducible refine A2 ?_);first|refine Ah hs ?_|fail)|((with_reducible refine Bm ?_);first|refine A4 hs λw hs=>?_|fail)|fail)
  rw[i64_in _ (by omega)] at hs;simp only[Int.toNat_natCast] at hs;rw[h1];have hlt:i<row.length:=by
   obtain⟨_,_,_,_,hlt⟩:=KL h1;exact hlt
  refine⟨rfl,DC s f2 (n:=(row.length:Int)-1) (ls:=(Gw ls k).set k ⟨.s Ae,0,0,false⟩) ?_ (by rw[List.length_eraseIdx,if_pos hlt];omega) (by exact Ab.fin hs)⟩;rw[Abl];exact hi.remove hr2 hk hkl hp hx
 ·simp only[Option.isSome_eq_false_iff,Option.isNone_iff_eq_none] at h1;rw[h1];exact⟨rfl,hs⟩
theorem DM(h:Ab W w L)[hA:At L b (lst .s b row free) F]:Calls PR 165 #[pq b 0] w λe w'=>e = .returned (.i ((AS row 0:Nat):Int))/\Ab W w' (F (lst .s b (row) (free))):=by
 refine At.call1 (hA:=hA) h λM hs=>?_;clear h hA;refine Dt (cw ⟨mixed,Tryz.func165,rfl⟩ Ake ?_);refine Ac rfl ?_;obtain⟨s,f,ls,hi,⟨hn,hf,hl⟩,hs⟩:=DZ hs;have hpos:=hi.pos
 repeat (first|with_reducible refine Aa ?_|((with_reducible refine A2 ?_);first|refine Ah hs ?_|refine EL hs ?_|fail)|((with_reducible refine BC ?_);first|refine BF hs λb_ o_ hs=>?_|fail)|fail)
 refine⟨?_,DC s f hi rfl (by exact Ab.fin hs)⟩;congr 2;have:=hi.front;rw[Qx] at this;exact this
theorem MR(h:Ab W w L)[hA:At L b (lst .s b row free) F]{x:Int}:Calls PR 245 #[pq b 0,.i x] w λe w'=>e = .returned (.i (HO row x:Int))/\Ab W w' (F (lst .s b (row) (free))):=by
 refine At.call1 (hA:=hA) h λM hs=>?_;clear h hA;refine Dt (cw ⟨mixed,Tryz.func245,rfl⟩ Akx ?_);refine Am (QH hs) λe w ⟨he,hs⟩=>⟨_,he,?_⟩;refine Ap (λh1=>?_) (λh1=>?_)
 ·simp only[Bool.not_eq_true',Option.isSome_eq_false_iff,Option.isNone_iff_eq_none] at h1;refine⟨by simp only[HO,h1];rfl,hs⟩
 ·simp only[Bool.not_eq_false',Option.isSome_iff_exists] at h1;obtain⟨i,h1⟩:=h1;obtain⟨s,f,ls,hi,⟨hn,hf,hl⟩,hs⟩:=DZ hs;obtain⟨k,v0,rfl,hrv,hk,hkl,ht,hv,hr2,hnx,hpv⟩:=hi.row_at (i:=i) (by rw[Tt];exact h1)
  repeat (first|with_reducible refine Aa ?_|((with_reducible refine A2 ?_);first|refine Ah hs ?_|refine EL hs ?_|fail)|((with_reducible refine BC ?_);first|refine BF hs λb_ o_ hs=>?_|fail)|fail)
  refine⟨?_,DC s f hi rfl (by exact Ab.fin hs)⟩;rw[Int.toNat_natCast];congr 2;rw[Qx] at hnx;simp only[HO,h1];exact hnx
theorem Fc(h:Ab W w L)[hA:At L b (lst .s b row free) F]:Calls PR 163 #[pq b 0] w λe w'=>e = .returned (.i (row.length:Int))/\Ab W w' (F (lst .s b (row) (free))):=by
 refine At.call1 (hA:=hA) h λM hs=>?_;clear h hA;refine Dt (cw ⟨mixed,Tryz.func163,rfl⟩ Akc ?_);refine Ac rfl ?_;obtain⟨s,f,ls,hi,⟨hn,hf,hl⟩,hs⟩:=DZ hs
 repeat (first|with_reducible refine Aa ?_|((with_reducible refine A2 ?_);first|refine Ah hs ?_|fail)|fail)
 exact⟨rfl,DC s f hi rfl hs⟩
theorem HU(hs:Ab W w L):Calls PR 171 #[] w λe w'=>∃b,e = .returned (pq b 0)/\Ab W w' (lst .s b [] []::L):=by
 refine(cw ⟨mixed,Tryz.func171,rfl⟩ Akj (Q:=λv w'=>∃b,v=pq b 0/\Ab W w' (lst .s b [] []::L)) ?_).mono λe w' ⟨v,he,b,hv,hs⟩=>⟨b,by rw[he,hv],hs⟩;refine Eg (sz:=4) hs rfl (by omega) (by omega) (by omega) (by omega) λs w hn _ _ hs=>?_;have hs:Ab W w (recs lkR s [⟨.s Ae,0,0,false⟩]::L):=hs;have hs:=Ab.nilR Rec.nat hs
 repeat (first|((with_reducible refine CC ?_);first|refine Ai hs λb_ w hs=>?_|fail)|fail)
 refine⟨_,rfl,DC s ⟨none,0,0⟩ (ls:=[⟨.s Ae,0,0,false⟩]) (n:=0) ?_ rfl (by exact Ab.fin hs)⟩;exact Awr _
theorem Nx{Q:VW}(hr:row.length+free.length<1099511627776)
  (hQ:∀w (m:Sl),Ab W w (recs (Rec.str) m (row.map (·.2))::lst .s b row free::M)->Q (.l m.a m.n m.c) w) :
  ∀(m i:Nat)(w:World)(acc:Sl),i+m=row.length->Ab W w (recs (Rec.str) acc ((row.take i).map (·.2))::lst .s b row free::M) ->
  NS Be Q (m+1) (some ⟨b,0,none⟩) acc (AS row i:Int) w:=by
 intro m
 induction m with
 | zero=>
  intro i w acc hi hs;rw[Mg];have e:AS row i=0:=by unfold AS;rw[List.getD_eq_getElem?_getD,List.getElem?_eq_none (by simp;omega)];rfl
  rw[e];refine Ac rfl ?_;refine jw WK ?_;rw[List.take_of_length_le (by omega)] at hs;exact hQ w acc hs
 | succ m ih=>
  intro i w acc hi hs;rw[Mg];have hs:=(hs.perm (List.Perm.swap _ _ _));obtain⟨s,f,ls,hin,⟨hn,hf,hl⟩,hs⟩:=DZ hs;have hlt:i<row.length:=by omega
  have hr1:IW row (AS row i:Int)=some i:=by
   have:=JJ (row:=Fu .s row) (List.nodup_append.1 hin.nodup).1 (i:=i) (e:=(row[i].1,.s row[i].2)) (by simp[Fu,hlt]);rw[Tt] at this;rw[show AS row i=row[i].1 by unfold AS;rw[List.getD_eq_getElem?_getD,List.getElem?_map,List.getElem?_eq_getElem hlt];rfl]
   exact this
  obtain⟨k,v,hk,hrv,hk0,hkl,ht,hv,hr2,_⟩:=hin.row_at (i:=i) (by rw[Tt];exact hr1);have hk:AS row i=k:=by omega
  have hv2:v = .s (row.getD i default).2:=by
   simp only[Fu,List.getElem?_map,List.getElem?_eq_getElem hlt,Option.map_some,Option.some.injEq,Prod.mk.injEq] at hrv;rw[<- hrv.2,List.getD_eq_getElem?_getD,List.getElem?_eq_getElem hlt];rfl
  refine Ak (by rw[hk];simp;omega) ?_;rw[hk] at hr1 ⊢
  repeat (first|with_reducible refine Aa ?_|((with_reducible refine A2 ?_);first|refine Ah hs ?_|fail)|((with_reducible refine BC ?_);first|refine BF hs λb_ o_ hs=>?_|fail)|fail)
  refine Ck (x:=(row.getD i default).2) hs ?_ (hc:=by rw[Int.toNat_natCast];simp only[lkR,Lk.cells,List.getElem?_cons_zero];rw[hv,hv2];rfl)
  repeat (first|((with_reducible refine CC ?_);first|refine Ai hs λb_ w hs=>?_|fail)|fail)
  have hs:=hs.shut s;refine CA (s:=acc) (a:=(row.getD i default).2) hs rfl rfl rfl rfl (by decide) (by simp;omega) λs4 w hs4 hs=>?_
  have hs:Ab W w (lst .s b row free::recs (Rec.str) s4 (List.map (·.2) (List.take i row)++[(row.getD i default).2])::M):=DC s f hin rfl (by exact Ab.fin hs);have e:(row.take i).map (·.2)++[(row.getD i default).2]=(row.take (i+1)).map (·.2):=by
   rw[Cc (by omega),List.map_append];rfl
  rw[e] at hs;refine Am (MR hs) λe w ⟨he,hs⟩=>⟨_,he,?_⟩;have e2:HO row (k:Int)=AS row (i+1):=by unfold HO;rw[hr1]
  rw[e2];exact ih (i+1) w s4 (by omega) (hs.perm (List.Perm.swap _ _ _))
theorem JP(h:Ab W w L)[hA:At L b (lst .s b row free) F](hr:row.length+free.length<1099511627776):Calls PR 244 #[pq b 0] w λe w'=>∃m:Sl,e = .returned (.l m.a m.n m.c)/\Ab W w' (recs (Rec.str) m (row.map (·.2))::F (lst .s b row free)):=by
 refine At.oneX (hA:=hA) h λM hs hb=>?_;refine(cw ⟨mixed,Tryz.func244,rfl⟩ Akw (Q:=λv w'=>∃m:Sl,v = .l m.a m.n m.c/\Ab W w' (lst .s b row free::recs (Rec.str) m (row.map (·.2))::M)) ?_).mono λe w' ⟨v,he,m,hv,hs⟩=>⟨m,by rw[he,hv],?_⟩
 ·skip;refine Am (DM hs) λe w ⟨he,hs⟩=>⟨_,he,?_⟩;have hs:=Ab.nilR (Rec.str) hs;have hl:=Nx (row:=row) (free:=free) (M:=M) (b:=b) (Q:=λv w'=>∃m:Sl,v = .l m.a m.n m.c/\Ab W w' (lst .s b row free::recs (Rec.str) m (row.map (·.2))::M)) hr
   (λw m hs=>⟨m,rfl,hs.perm (List.Perm.swap _ _ _)⟩) row.length 0 w ⟨none,0,0⟩ (by omega) hs
  exact⟨_,hl⟩
 ·exact hb _ _ [recs (Rec.str) m (row.map (·.2))] hs
end
end Go.Proofs.YtjipofkjmmpjdaaGreat
namespace Go.Hb
def Bv(K:List (List BA))(js:List Nat):Nat:=(js.map λj=>(K.getD j []).length).sum
def EM(K:List (List BA))(js:List Nat):List BA:=(js.map λj=>K.getD j []).flatten
theorem Tv{K:List (List BA)}{js:List Nat}{j:Nat}(h:j<js.length):Bv K (js.take (j+1))=Bv K (js.take j)+(K.getD (js.getD j default) []).length:=by
 unfold Bv;rw[Cc h];simp
theorem Abh{K:List (List BA)}{js:List Nat}{j:Nat}(h:j<js.length):EM K (js.take (j+1))=EM K (js.take j)++K.getD (js.getD j default) []:=by
 unfold EM;rw[Cc h];simp
theorem Ag6(K:List (List BA))(js:List Nat):(EM K js).length=Bv K js:=by
 unfold EM Bv;induction js with
 | nil=>rfl
 | cons a l ih=>rw[List.map_cons,List.flatten_cons,List.length_append,ih,List.map_cons,List.sum_cons]
theorem T4:∀(n j:Nat),CY j (List.replicate n [])=[]
 | 0,_=>rfl
 | n+1,j=>by rw[List.replicate_succ,CY,T4 n (j+1)];rfl
theorem Apn(n:Nat):DO (List.replicate n []) (List.replicate n []) []:=by
 have h:(List.replicate n ([]:List BA)).flatten=[]:=List.flatten_replicate_nil;refine⟨by simp[C3],by rw[h];simp,by rw[T4],by rw[h];simp⟩
end Go.Hb
namespace Go.Proofs.YtjipofkjmmpjdaaGreat
open Go.Hb Go.IntWalk
section
variable(R:RwF){W w:World}{L M:List HP}{F:HP->List HP}{xb N:Nat}{s:Sl}{K:List (List BA)}{key:BA}
theorem DF(h:Ab W w L)[hA:At L xb (rowsC s xb N K) F](hz:key.size<64):Calls PR R.i_where #[.agg #[.l s.a s.n s.c,pq xb 0],.s key] w λe w'=>e = .returned (.i (DT K key))/\Ab W w' (F (rowsC s xb N K)):=by
 refine At.call1 (hA:=hA) h λM hs=>?_;clear h hA;refine c1 (cw R.where_ok R.where_raw ?_);obtain⟨xs,m,hi,hN,hn,hs⟩:=FG hs
 repeat (first|((with_reducible refine A2 ?_);first|refine Ah hs ?_|fail)|with_reducible refine Ai hs λb_ w hs=>?_|fail)
 refine(Tq R hs (by omega)).mono λe w ⟨he,hs⟩=>⟨_,_,_,he,?_⟩;cases hg:AE m key with
 | none=>
  repeat (first|((with_reducible refine Bm ?_);first|refine A4 hs λw hs=>?_|fail)|with_reducible refine Ai hs λb_ w hs=>?_|fail)
  refine Ak rfl ?_;rw[(hi.miss hg).2.2.1];exact⟨rfl,Fl hi hN (by exact Ab.fin hs)⟩
 | some p=>
  repeat (first|((with_reducible refine Bm ?_);first|refine A4 hs λw hs=>?_|fail)|with_reducible refine Ai hs λb_ w hs=>?_|fail)
  refine Ac rfl ?_
  repeat (first|((with_reducible refine A2 ?_);first|refine Ah hs ?_|fail)|fail)
  have:=hi.where_eq hg;exact⟨by rw[<- this];rfl,Fl hi hN (by exact Ab.fin hs)⟩
theorem BT(h:Ab W w L)[hA:At L xb (rowsC s xb N K) F](hz:key.size<64)(hN:N<100000000)(hK:K.length<=4):Calls PR R.i_drop #[.agg #[.l s.a s.n s.c,pq xb 0],.s key] w λe w'=>e = .returned (.tuple #[])/\Ab W w' (F (rowsC s xb N (Dr K key))):=by
 refine At.call1 (hA:=hA) h λM hs=>?_;clear h hA;refine c1 (cw R.drop_ok R.drop_raw ?_);obtain⟨xs,m,hi,hNN,hn,hs⟩:=FG hs;obtain⟨hm,hxl⟩:=hi.mlenR hNN hK
 repeat (first|((with_reducible refine A2 ?_);first|refine Ah hs ?_|fail)|with_reducible refine Ai hs λb_ w hs=>?_|fail)
 refine(Vx R hs (by omega) (by omega)).mono λe w ⟨he,hs⟩=>⟨_,_,_,he,?_⟩;cases hg:AE m key with
 | none=>
  repeat (first|((with_reducible refine Bm ?_);first|refine A4 hs λw hs=>?_|fail)|with_reducible refine Ai hs λb_ w hs=>?_|fail)
  refine Ac rfl ?_;obtain⟨_,h2,_,h4⟩:=hi.miss hg;rw[h2];exact⟨rfl,Fl h4 hNN (by exact Ab.fin hs)⟩
 | some p=>
  repeat (first|((with_reducible refine Bm ?_);first|refine A4 hs λw hs=>?_|fail)|with_reducible refine Ai hs λb_ w hs=>?_|fail)
  refine Ak rfl ?_;have hnd:∀row∈xs.map (·.2.1),(row.map (·.1)).Nodup:=by
   intro row hr;obtain⟨x,hx,rfl⟩:=List.mem_map.1 hr;obtain⟨j,hj⟩:=List.mem_iff_getElem?.1 hx;have h1:Ab W w (AF (xs.map Et)::M):=by exact Ab.fin hs
   exact Hg (GT hj h1)
  obtain⟨j,row,i,h1,h2,h3,h4,h5⟩:=hi.hit hg hnd;obtain⟨x,hx,hxr⟩:∃x,xs[j]? = some x/\x.2.1=row:=by
   rw[List.getElem?_map] at h2;cases hx:xs[j]? with
   | none=>rw[hx] at h2;cases h2
   | some x=>rw[hx] at h2;exact⟨x,rfl,by simpa using h2⟩
  have hjl:j<xs.length:=(List.getElem?_eq_some_iff.1 hx).1;have hp1:((some p).getD ((0,0):Int×Int)).1=(j:Int):=h1;have hp2:((some p).getD ((0,0):Int×Int)).2=p.2:=rfl;rw[hp1,hp2] at hs;refine A9 hs λw hs=>?_;refine Aq (x:=s) ?_;refine Aq ?_;refine BF hs λb_ o_ hs=>?_;refine Ad1 hs ?_;refine Ah hs ?_;refine Af hs ?_;rw[Int.toNat_natCast,It hx];have hl:=hNN x (List.mem_of_getElem? hx);have hs:=GT (M:=ixr Rec.ii xb 0 (BJ m key)::recs Rec.ptr s (xs.map (·.1))::M) hx (by exact Ab.fin hs);refine AG (GN hs (by omega) (x:=p.2)) λe w ⟨he,hs⟩=>⟨_,_,he,?_⟩
  subst hxr;rw[h3] at hs;simp only at hs;have hs:=OV hx hs;have hset:(xs.set j (x.1,x.2.1.eraseIdx i,x.2.2++[(p.2).toNat])).map (·.1)=xs.map (·.1):=by
   rw[List.map_set];refine Q8 ?_;rw[List.getElem?_map,hx];rfl
  refine⟨rfl,Fl (xs:=xs.set j (x.1,x.2.1.eraseIdx i,x.2.2++[(p.2).toNat])) (m:=BJ m key) ?_ ?_ ?_⟩
  ·rw[List.map_set];exact h5
  ·intro y hy;rcases List.mem_or_eq_of_mem_set hy with hy|rfl
   ·exact hNN y hy
   ·simp only[List.length_eraseIdx,List.length_append,List.length_cons,List.length_nil];split <;> omega
  ·rw[hset];exact Ab.fin hs
theorem OM{xs:List GS}{j:Nat}(hj:j<xs.length):∃x,xs[j]? = some x:=⟨_,List.getElem?_eq_getElem hj⟩
theorem IY{N':Nat}(h:Ab W w (rowsC s xb N K::M))(hN:N<=N'):Ab W w (rowsC s xb N' K::M):=by
 obtain⟨xs,m,hi,hNN,hn,h⟩:=FG h;exact Fl hi (λy hy=>Nat.le_trans (hNN y hy) hN) h
theorem YI(h:Ab W w (rowsC s xb N K::M)):∀j,(K.getD j []).length<=N:=by
 obtain⟨xs,m,hi,hNN,hn,h⟩:=FG h;intro j;rw[List.getD_eq_getElem?_getD];cases hx:xs[j]? with
 | none=>
  have:K[j]? = none:=by rw[List.getElem?_eq_none_iff] at hx ⊢;have:=hi.klen;simp at this;omega
  rw[this];simp
 | some x=>
  have:K[j]? = some (x.2.1.map (·.2)):=hi.row (by rw[List.getElem?_map,hx];rfl);rw[this];have:=hNN x (List.mem_of_getElem? hx);simp;omega
theorem Fa(h:Ab W w L)[hA:At L xb (rowsC s xb N K) F]{j:Nat}(hj:j<K.length)(hz:key.size<64)(hN:N<100000000)(hK:K.length<=4)(hl:(K.getD j []).length<N):Calls PR R.i_push #[.agg #[.l s.a s.n s.c,pq xb 0],.i (j:Int),.s key] w λe w'=>e = .returned (.tuple #[])/\Ab W w' (F (rowsC s xb N (Dd K j key))):=by
 refine At.call1 (hA:=hA) h λM hs=>?_;clear h hA;refine c1 (cw R.push_ok R.push_raw ?_);refine Ai hs λb1 w hs=>?_
 repeat (first|((with_reducible refine A2 ?_);first|refine Ah hs ?_|fail)|fail)
 refine Ar (BT R hs hz hN hK) λe w ⟨he,hs⟩=>⟨he,?_⟩;have hs:Ab W w (rowsC s xb N (Dr K key)::blk b1 [.l s.a s.n s.c,pq xb 0]::M):=by exact Ab.fin hs
 have hKT:(Dr K key).length=K.length:=by unfold Dr;simp
 obtain⟨xs,m,hi,hNN,hn,hs⟩:=FG hs;obtain⟨hm,hxl⟩:=hi.mlenR hNN (by omega);obtain⟨x,hx⟩:=OM (xs:=xs) (j:=j) (by omega);have hl:=hNN x (List.mem_of_getElem? hx);refine Al [blk b1 [.l s.a s.n s.c,pq xb 0]] hs λw hs=>?_;refine Aq ?_;refine Ah (x:=s) hs ?_;refine Af hs ?_;refine BF hs λb_ o_ hs=>?_;refine Ck hs ?_;refine Af hs ?_;rw[Int.toNat_natCast,It hx];have hs:=GT (M:=recs Rec.ptr s (xs.map (·.1))::ixr Rec.ii xb 0 m::blk b1 [.l s.a s.n s.c,pq xb 0]::M) hx (by exact Ab.fin hs);refine Am (F4 hs (by omega) (v:=key)) λe w ⟨he,hs⟩=>⟨_,he,?_⟩
 have hs:=OV hx hs;refine Af hs ?_;refine Am (Ag3 R hs (v:=((j:Int),(JV x.2.1 x.2.2:Int))) (by omega) hi.small_m (by omega)) λe w ⟨he,hs⟩=>⟨_,he,?_⟩;have hset:(xs.set j (x.1,x.2.1++[(JV x.2.1 x.2.2,key)],x.2.2.dropLast)).map (·.1)=xs.map (·.1):=by
  rw[List.map_set];refine Q8 ?_;rw[List.getElem?_map,hx];rfl
 refine⟨rfl,Fl (xs:=xs.set j (x.1,x.2.1++[(JV x.2.1 x.2.2,key)],x.2.2.dropLast)) (m:=Cj m key ((j:Int),(JV x.2.1 x.2.2:Int))) ?_ ?_ ?_⟩
 ·rw[List.map_set];exact hi.push (Ag8 K key) hz (by rw[List.getElem?_map,hx];rfl) _
 ·intro y hy;rcases List.mem_or_eq_of_mem_set hy with hy|rfl
  ·exact hNN y hy
  ·have h1:x.2.1.length<=(K.getD j []).length:=by
    have h2:=hi.row (j:=j) (row:=x.2.1) (by rw[List.getElem?_map,hx];rfl);unfold Dr at h2;rw[List.getElem?_map] at h2;rw[List.getD_eq_getElem?_getD];cases hk:K[j]? with
    | none=>rw[hk] at h2;cases h2
    | some r=>
     rw[hk] at h2;have h3:(Ao r key).length=(x.2.1.map (·.2)).length:=congrArg List.length (Option.some.inj h2);have h4:=Bj r key;rw[List.length_map] at h3;show x.2.1.length<=r.length;omega
   simp only[List.length_append,List.length_dropLast,List.length_cons,List.length_nil];omega
 ·rw[hset];exact Ab.fin hs
theorem Bt(h:Ab W w L)[hA:At L xb (rowsC s xb N K) F]{j:Nat}(hj:j<K.length)(hK:K.length<=4):Calls PR R.i_oldest #[.agg #[.l s.a s.n s.c,pq xb 0],.i (j:Int)] w λe w'=>e = .returned (.s (BW (K.getD j [])))/\Ab W w' (F (rowsC s xb N K)):=by
 refine At.call1 (hA:=hA) h λM hs=>?_;clear h hA;refine c1 (cw R.oldest_ok R.oldest_raw ?_);refine Ai hs λb1 w hs=>?_;have hs:Ab W w (rowsC s xb N K::blk b1 [.l s.a s.n s.c,pq xb 0]::M):=by exact Ab.fin hs
 obtain⟨xs,m,hi,hNN,hn,hs⟩:=FG hs;have hxl:xs.length=K.length:=(hi.mlenR hNN hK).2;obtain⟨x,hx⟩:=OM (xs:=xs) (j:=j) (by omega);refine Al [blk b1 [.l s.a s.n s.c,pq xb 0],recs Rec.ptr s (xs.map (·.1))] hs λw hs=>?_;refine Aq (x:=s) ?_;refine BF hs λb_ o_ hs=>?_;refine Ad1 hs ?_;refine Ah (x:=s) hs ?_;refine Af hs ?_;refine Ha hs ?_;refine Ck hs ?_;refine Af hs ?_;rw[Int.toNat_natCast,It hx];have hs:=GT (M:=recs Rec.ptr s (xs.map (·.1))::ixr Rec.ii xb 0 m::blk b1 [.l s.a s.n s.c,pq xb 0]::M) hx (by exact Ab.fin hs)
 refine Am (DM hs) λe w ⟨he,hs⟩=>⟨_,he,?_⟩;refine Af hs ?_;have hnd:=Hg hs;refine AG (Fb hs) λe w ⟨he,hs⟩=>⟨_,_,he,?_⟩;have hs:=Lj hx hs;have hKj:K.getD j []=x.2.1.map (·.2):=by
  rw[List.getD_eq_getElem?_getD,hi.row (j:=j) (row:=x.2.1) (by rw[List.getElem?_map,hx];rfl)];rfl
 have e1:(EY x.2.1 ((AS x.2.1 0:Nat):Int)).getD Ae=BW (K.getD j []):=by
  rw[hKj];cases hr:x.2.1 with
  | nil=>rfl
  | cons a l=>
   rw[hr] at hnd;have:IW (a::l) ((AS (a::l) 0:Nat):Int)=some 0:=JJ hnd rfl;unfold EY;rw[this];rfl
 exact⟨by rw[e1],Fl hi hNN (by exact Ab.fin hs)⟩
theorem Ahc{o:Sl}{js:List Nat}(hs:Ab W w (rowsC s xb N K::recs Rec.nat o js::M))(hj:∀i,i<js.length->js.getD i default<K.length)(hN:N<100000000)(hK:K.length<=4)(hl:js.length<=4) :
  Calls PR R.i_many #[.agg #[.l s.a s.n s.c,pq xb 0],.l o.a o.n o.c] w λe w'=>e = .returned (.i (Bv K js:Int))/\Ab W w' (rowsC s xb N K::recs Rec.nat o js::M):=by
 refine c1 (cw R.many_ok R.many_raw ?_);refine Ai hs λb1 w hs=>?_;have hrl:=YI (w:=w) (W:=W) (M:=recs Rec.nat o js::M) (s:=s) (xb:=xb) (N:=N) (K:=K) (by exact Ab.fin hs);have hlen:=Bg (s:=o) (rows:=js) hs;have loop:∀(f j:Nat)(w:World)(acc:Int),j+f=js.length->acc=(Bv K (js.take j):Int)/\acc<=j*N->Ab W w (blk b1 [.l s.a s.n s.c,pq xb 0]::rowsC s xb N K::recs Rec.nat o js::M) ->
   R.many_l1 Be (λv w'=>v = .i (Bv K js:Int)/\Ab W w' (rowsC s xb N K::recs Rec.nat o js::M)) (f+1) b1 0 acc o (o.n:Int) (j:Int) w:=by
  clear hs;intro f
  induction f with
  | zero=>
   intro j w acc hif hacc hs;rw[R.many_l1_raw];refine Ac (decide_eq_false (by omega)) ?_;refine jw R.many_j2_raw ?_;rw[List.take_of_length_le (by omega)] at hacc;exact⟨by rw[hacc.1],by exact Ab.fin hs⟩
  | succ f ih=>
   intro j w acc hif hacc hs;rw[R.many_l1_raw];refine Ak (decide_eq_true (by omega)) ?_;refine BU (rows:=js) hs λb_ o_ ha_=>?_;refine Cw (rows:=js) ha_ hs ?_;refine Ah (x:=s) hs ?_;rw[Int.toNat_natCast];have hjj:=hj j (by omega);have hs:Ab W w (rowsC s xb N K::blk b1 [.l s.a s.n s.c,pq xb 0]::recs Rec.nat o js::M):=by exact Ab.fin hs
   obtain⟨xs,m,hi,hNN,hn,hs⟩:=FG hs;have hxl:xs.length=K.length:=(hi.mlenR hNN hK).2;obtain⟨x,hx⟩:=OM (xs:=xs) (j:=js.getD j default) (by omega);refine BF hs λb_ o_ hs=>?_;refine Ck hs ?_;rw[Int.toNat_natCast,It hx];have hs:=GT (M:=recs Rec.ptr s (xs.map (·.1))::ixr Rec.ii xb 0 m::blk b1 [.l s.a s.n s.c,pq xb 0]::recs Rec.nat o js::M) hx (by exact Ab.fin hs);refine Am (Fc hs) λe w ⟨he,hs⟩=>⟨_,he,?_⟩;have hs:=Lj hx hs;have hKj:K.getD (js.getD j default) []=x.2.1.map (·.2):=by
    rw[List.getD_eq_getElem?_getD,hi.row (j:=js.getD j default) (row:=x.2.1) (by rw[List.getElem?_map,hx];rfl)];rfl
   have hsn:=Tv (K:=K) (js:=js) (j:=j) (by omega);have hb:=hrl (js.getD j default);rw[hKj,List.length_map] at hsn hb;have hs:Ab W w (rowsC s xb N K::blk b1 [.l s.a s.n s.c,pq xb 0]::recs Rec.nat o js::M):=Fl hi hNN (by exact Ab.fin hs);have hmul:(j:Int)*N<=4*N:=by exact_mod_cast Nat.mul_le_mul_right N (show j<=4 by omega)
   have hmul2:((j+1:Nat):Int)*N=(j:Int)*N+N:=by rw[Int.natCast_add,Int.add_mul];omega
   rw[show IntKind.wrap .i64 ((j:Int)+1)=((j+1:Nat):Int) by rw[i64_in _ (by omega)];omega,i64_in (acc+_) (by omega)];exact ih (j+1) w _ (by omega) ⟨by omega,by omega⟩ (by exact Ab.fin hs)
 refine AJ (js.length+1) ?_;exact loop js.length 0 w 0 (by omega) ⟨rfl,by omega⟩ (by exact Ab.fin hs)
theorem Ahb{o:Sl}{js:List Nat}(hs:Ab W w (rowsC s xb N K::recs Rec.nat o js::M))(hj:∀i,i<js.length->js.getD i default<K.length)(hN:N<100000000)(hK:K.length<=4)(hl:js.length<=4) :
  Calls PR R.i_keys #[.agg #[.l s.a s.n s.c,pq xb 0],.l o.a o.n o.c] w λe w'=>∃l:Sl,e = .returned (.l l.a l.n l.c)/\Ab W w' (recs Rec.str l (EM K js)::rowsC s xb N K::recs Rec.nat o js::M):=by
 refine(cw R.keys_ok R.keys_raw (Q:=λv w'=>∃l:Sl,v = .l l.a l.n l.c/\Ab W w' (recs Rec.str l (EM K js)::rowsC s xb N K::recs Rec.nat o js::M)) ?_).mono λe w' ⟨v,he,l,hv,hs⟩=>⟨l,by rw[he,hv],hs⟩;refine Ai hs λb1 w hs=>?_;have hrl:=YI (w:=w) (W:=W) (M:=recs Rec.nat o js::M) (s:=s) (xb:=xb) (N:=N) (K:=K) (by exact Ab.fin hs);have hlen:=Bg (s:=o) (rows:=js) hs;have hs:=Ab.nilR Rec.str hs;have loop:∀(f j:Nat)(w:World)(acc:Sl),j+f=js.length->Bv K (js.take j)<=j*N->Ab W w (recs Rec.str acc (EM K (js.take j))::blk b1 [.l s.a s.n s.c,pq xb 0]::rowsC s xb N K::recs Rec.nat o js::M) ->
   R.keys_l1 Be (λv w'=>∃l:Sl,v = .l l.a l.n l.c/\Ab W w' (recs Rec.str l (EM K js)::rowsC s xb N K::recs Rec.nat o js::M)) (f+1) b1 0 acc o (o.n:Int) (j:Int) w:=by
  clear hs;intro f
  induction f with
  | zero=>
   intro j w acc hif hacc hs;rw[R.keys_l1_raw];refine Ac (decide_eq_false (by omega)) ?_;refine jw R.keys_j2_raw ?_;rw[List.take_of_length_le (by omega)] at hs;exact⟨acc,rfl,by exact Ab.fin hs⟩
  | succ f ih=>
   intro j w acc hif hacc hs;rw[R.keys_l1_raw];refine Ak (decide_eq_true (by omega)) ?_;refine BU (rows:=js) hs λb_ o_ ha_=>?_;refine Cw (rows:=js) ha_ hs ?_;refine Ah (x:=s) hs ?_;rw[Int.toNat_natCast];have hjj:=hj j (by omega);have hs:Ab W w (rowsC s xb N K::recs Rec.str acc (EM K (js.take j))::blk b1 [.l s.a s.n s.c,pq xb 0]::recs Rec.nat o js::M):=by exact Ab.fin hs
   obtain⟨xs,m,hi,hNN,hn,hs⟩:=FG hs;have hxl:xs.length=K.length:=(hi.mlenR hNN hK).2;obtain⟨x,hx⟩:=OM (xs:=xs) (j:=js.getD j default) (by omega);have hnx:=hNN x (List.mem_of_getElem? hx);refine BF hs λb_ o_ hs=>?_;refine Ck hs ?_;rw[Int.toNat_natCast,It hx];have hs:=GT (M:=recs Rec.ptr s (xs.map (·.1))::ixr Rec.ii xb 0 m::recs Rec.str acc (EM K (js.take j))::blk b1 [.l s.a s.n s.c,pq xb 0]::recs Rec.nat o js::M) hx (by exact Ab.fin hs);refine Am (JP hs (by omega)) λe w ⟨ks,he,hs⟩=>⟨_,he,?_⟩;have hs:=Lj (M:=recs Rec.str ks (x.2.1.map (·.2))::recs Rec.ptr s (xs.map (·.1))::ixr Rec.ii xb 0 m::recs Rec.str acc (EM K (js.take j))::blk b1 [.l s.a s.n s.c,pq xb 0]::recs Rec.nat o js::M) hx (by exact Ab.fin hs)
   have hKj:K.getD (js.getD j default) []=x.2.1.map (·.2):=by
    rw[List.getD_eq_getElem?_getD,hi.row (j:=js.getD j default) (row:=x.2.1) (by rw[List.getElem?_map,hx];rfl)];rfl
   have hsn:=Tv (K:=K) (js:=js) (j:=j) (by omega);have hkn:=Abh (K:=K) (js:=js) (j:=j) (by omega);have hkl:=Ag6 K (js.take j);have hb:=hrl (js.getD j default);rw[hKj,List.length_map] at hsn hb;rw[hKj] at hkn;have hmul:j*N<=4*N:=Nat.mul_le_mul_right N (show j<=4 by omega);have hmul2:(j+1)*N=j*N+N:=Nat.succ_mul j N;have hn2:=Bg (s:=ks) hs;have hs:Ab W w (rowsC s xb N K::recs Rec.str acc (EM K (js.take j))::recs Rec.str ks (x.2.1.map (·.2))::blk b1 [.l s.a s.n s.c,pq xb 0]::recs Rec.nat o js::M):=Fl hi hNN (by exact Ab.fin hs);refine FP (s:=acc) (new:=x.2.1.map (λe:Nat×BA=>e.2)) hs (Gc (s:=ks) hs) hn2 (CV _) rfl (by decide) (by rw[List.length_map];omega) λs2 w hs2 hs=>?_
   rw[<- hkn] at hs;rw[show IntKind.wrap .i64 ((j:Int)+1)=((j+1:Nat):Int) by rw[i64_in _ (by omega)];omega]
   exact ih (j+1) w s2 (by omega) (by omega) (by exact Ab.fin hs)
 refine AJ (js.length+1) ?_;exact loop js.length 0 w ⟨none,0,0⟩ (by omega) (by simp[Bv]) (by exact Ab.fin hs)
theorem AM{o n:Nat}{cs:List Value}(js:List Nat){Q:Int->WP}(hs:Ab W w (blk o cs::rowsC s xb N K::M))(hN:N<100000000){nr:Nat}(hK:K.length=nr)(hQ:∀w,Ab W w (rowsC s xb N K::M)->Q (Bv K js:Int) w)
  (hc:Rec.nat.flat js=cs:=by exact rfl) (hn:js.length=n:=by exact rfl) (hj:∀i,i<js.length->js.getD i default<nr:=by decide) (hl:js.length<=4:=by decide) (h4:nr<=4:=by decide) :
  call1 (.int .i64) PR R.i_many [.agg #[.l s.a s.n s.c,pq xb 0],.l (some ⟨o,0,none⟩) n n] Q w:=by
 have hs:=Ab.blkS (b:=o) (cs:=cs) Rec.nat js hs hc hn;have hs:Ab W w (rowsC s xb N K::recs Rec.nat ⟨some ⟨o,0,none⟩,n,n⟩ js::M):=by exact Ab.fin hs
 exact Am (Ahc R (o:=⟨some ⟨o,0,none⟩,n,n⟩) (js:=js) hs (by rw[hK];exact hj) hN (by omega) hl) λe w ⟨he,hs⟩=>⟨_,he,hQ w (by exact Ab.fin hs)⟩
theorem OJ{o n:Nat}{cs:List Value}(js:List Nat){Q:Sl->WP}(hs:Ab W w (blk o cs::rowsC s xb N K::M))(hN:N<100000000){nr:Nat}(hK:K.length=nr)(hQ:∀l w,Ab W w (recs Rec.str l (EM K js)::rowsC s xb N K::M)->Q l w)
  (hc:Rec.nat.flat js=cs:=by exact rfl) (hn:js.length=n:=by exact rfl) (hj:∀i,i<js.length->js.getD i default<nr:=by decide) (hl:js.length<=4:=by decide) (h4:nr<=4:=by decide) :
  call1 .slc PR R.i_keys [.agg #[.l s.a s.n s.c,pq xb 0],.l (some ⟨o,0,none⟩) n n] Q w:=by
 have hs:=Ab.blkS (b:=o) (cs:=cs) Rec.nat js hs hc hn;have hs:Ab W w (rowsC s xb N K::recs Rec.nat ⟨some ⟨o,0,none⟩,n,n⟩ js::M):=by exact Ab.fin hs
 exact Am (Ahb R (o:=⟨some ⟨o,0,none⟩,n,n⟩) (js:=js) hs (by rw[hK];exact hj) hN (by omega) hl) λe w ⟨l,he,hs⟩=>⟨l,he,hQ l w (by exact Ab.fin hs)⟩
theorem KT{nr:Nat}(hnr:nr<=4)(hs:Ab W w L):Calls PR R.i_newRows #[.i (nr:Int)] w λe w'=>∃(s:Sl) (xb:Nat),e = .returned (.agg #[.l s.a s.n s.c,pq xb 0])/\Ab W w' (rowsC s xb 0 (List.replicate nr [])::L):=by
 refine(cw R.newRows_ok R.newRows_raw (Q:=λv w'=>∃(s:Sl) (xb:Nat),v = .agg #[.l s.a s.n s.c,pq xb 0]/\Ab W w' (rowsC s xb 0 (List.replicate nr [])::L)) ?_).mono λe w' ⟨v,he,s,xb,hv,hs⟩=>⟨s,xb,by rw[he,hv],hs⟩;refine Ai hs λb1 w hs=>?_;refine Am (Ag2 R hs) λe w ⟨xb,he,hs⟩=>⟨_,he,?_⟩;refine Ai hs λb3 w hs=>?_;refine A4 hs λw hs=>?_;refine A4 hs λw hs=>?_;have hs:=Ab.nilR Rec.ptr hs;have hs:=Ab.shutL (Ps:=[]) hs;have loop:∀(f j:Nat)(w:World)(acc:Sl)(bs:List Nat),j+f=nr->bs.length=j->Ab W w (AF (bs.map λb=>lst .s b [] [])::recs Rec.ptr acc bs::blk b3 [.l acc.a acc.n acc.c,pq xb 0]::ixr Rec.ii xb 0 []::blk b1 [.l none 0 0,.p none]::L) ->
   R.newRows_l1 Be (λv w'=>∃(s:Sl) (xb:Nat),v = .agg #[.l s.a s.n s.c,pq xb 0]/\Ab W w' (rowsC s xb 0 (List.replicate nr [])::L)) (f+1) b1 0 b3 0 (nr:Int) (j:Int) w:=by
  clear hs;intro f
  induction f with
  | zero=>
   intro j w acc bs hif hj hs;rw[R.newRows_l1_raw];refine Ac (decide_eq_false (by omega)) ?_;refine jw R.newRows_j2_raw ?_;refine Ah (x:=acc) hs ?_;refine Ah hs ?_;refine A4 hs λw hs=>?_;refine A4 hs λw hs=>?_;refine Ah (x:=acc) hs ?_;refine Ah hs ?_;refine⟨acc,xb,rfl,?_⟩;have e1:(bs.map λb=>((b,[],[]):GS)).map (·.1)=bs:=by rw[List.map_map];exact List.map_id _
   have e2:(bs.map λb=>((b,[],[]):GS)).map Et=bs.map λb=>lst .s b [] []:=by rw[List.map_map];rfl
   have e3:(bs.map λb=>((b,[],[]):GS)).map (·.2.1)=List.replicate nr []:=by
    rw[List.map_map,show nr=bs.length by omega];exact List.map_const' ..
   refine Fl (xs:=bs.map λb=>(b,[],[])) (m:=[]) ?_ ?_ ?_
   ·rw[e3];exact Apn nr
   ·intro y hy;obtain⟨b,_,rfl⟩:=List.mem_map.1 hy;exact Nat.le_refl _
   ·rw[e1,e2];exact Ab.fin hs
  | succ f ih=>
   intro j w acc bs hif hj hs;rw[R.newRows_l1_raw];refine Ak (decide_eq_true (by omega)) ?_;refine Al [blk b3 [.l acc.a acc.n acc.c,pq xb 0]] hs λw hs=>?_;refine Aq (x:=acc) ?_;refine Am (HU hs) λe w ⟨lb,he,hs⟩=>⟨_,he,?_⟩;refine Af hs ?_;refine Ai hs λnb w hs=>?_;refine Af hs ?_;refine CA (s:=acc) (a:=lb) hs rfl rfl rfl rfl (by decide) (by omega) λs2 w hs2 hs=>?_;refine A4 hs λw hs=>?_;rw[show IntKind.wrap .i64 ((j:Int)+1)=((j+1:Nat):Int) by rw[i64_in _ (by omega)];omega]
   refine ih (j+1) w s2 (bs++[lb]) (by omega) (by simp;omega) ?_;have hs:Ab W w (AF (bs.map λb=>lst .s b [] [])::lst .s lb [] []::recs Rec.ptr s2 (bs++[lb])::blk b3 [.l s2.a s2.n s2.c,pq xb 0]::ixr Rec.ii xb 0 []::blk b1 [.l none 0 0,.p none]::L):=by exact Ab.fin hs
   rw[List.map_append];refine Ab.shutL ?_;have h2:=hs.openL;rw[List.append_assoc];exact h2
 refine AJ (nr+1) ?_;exact loop nr 0 w ⟨none,0,0⟩ [] (by omega) rfl (by exact Ab.fin hs)
end
end Go.Proofs.YtjipofkjmmpjdaaGreat
namespace Go.Hb
theorem E6:∀{a b:List BA},a.Nodup->(∀k∈a,k∈b)->a.length<=b.length
 | [],_,_,_=>by simp
 | k::a,b,hn,hs=>by
  rw[List.nodup_cons] at hn;have h1:∀j∈a,j∈Ao b k:=λj hj=>AK.2 ⟨hs j (.tail _ hj),λh=>hn.1 (by rw[<- h];exact hj)⟩
  have h2:=E6 hn.2 h1;have h3:(Ao b k).length<b.length:=List.length_filter_lt_length_iff_exists.2 ⟨k,hs k (.head _),by simp⟩;simp only[List.length_cons];omega
section
variable{i o a:BL}{key:BA}{W w:World}{M:List HP}{s:Sl}{xb N:Nat}
theorem lt3{j:Nat}(h:j<3):j<[i,o,a].length:=h
theorem A3b:[i,o,a].flatten=i++(o++a):=by simp
theorem QQ(i o a:BL)(key:BA):(DT [i,o,a] key=0/\key∈i)\/(DT [i,o,a] key=1/\key∉i/\key∈o)\/(DT [i,o,a] key=2/\key∉i/\key∉o/\key∈a)\/(DT [i,o,a] key = -1/\key∉i/\key∉o/\key∉a):=by
 unfold DT
 by_cases h0:key∈i
 ·left;simp[List.findIdx?_cons,FD,h0]
 by_cases h1:key∈o
 ·right;left;simp[List.findIdx?_cons,FD,h0,h1]
 by_cases h2:key∈a
 ·right;right;left;simp[List.findIdx?_cons,FD,h0,h1,h2]
 ·right;right;right;simp[List.findIdx?_cons,FD,h0,h1,h2]
theorem V2{K:List BL}(h:Ab W w (rowsC s xb N K::M)):K.flatten.Nodup/\∀k∈K.flatten,k.size<64:=by
 obtain⟨xs,m,hi,_⟩:=FG h;exact⟨hi.nd,hi.small⟩
structure Nd3(i o a:BL):Prop where
 ni:i.Nodup
 no:o.Nodup
 na:a.Nodup
 io:∀x∈i,x∉o/\x∉a
 oa:∀x∈o,x∉a
 small:∀x,x∈i\/x∈o\/x∈a->x.size<64
theorem nd3(h:Ab W w (rowsC s xb N [i,o,a]::M)):Nd3 i o a:=by
 obtain⟨h1,h2⟩:=V2 h;rw[A3b] at h1 h2;rw[List.nodup_append,List.nodup_append] at h1;obtain⟨h3,⟨h4,h5,h6⟩,h7⟩:=h1;exact⟨h3,h4,h5,λx hx=>⟨λh=>h7 x hx x (List.mem_append_left _ h) rfl,λh=>h7 x hx x (List.mem_append_right _ h) rfl⟩,λx hx h=>h6 x hx x h rfl,λx hx=>h2 x (by
  rcases hx with h|h|h
  ·exact List.mem_append_left _ h
  ·exact List.mem_append_right _ (List.mem_append_left _ h)
  ·exact List.mem_append_right _ (List.mem_append_right _ h))⟩
theorem C2{l:BL}(h:0<l.length):BW l∈l:=by
 cases l with
 | nil=>simp at h
 | cons x t=>exact .head _
theorem KO{r:Int}:(if (if (1024:Int)<r then (1024:Int) else r)>(1:Int) then (if (1024:Int)<r then (1024:Int) else r) else (1:Int))=AT r:=by unfold AT;split <;> split <;> omega
theorem Lh.not{c:Int}{R g S:BL}{k:BA}(h:Lh c R g S)(hk:k∉R):k∉S:=by
 rcases h with⟨_,rfl,_⟩|⟨x,_,he,_⟩
 ·exact hk
 ·exact λh=>hk ((he.mem' k).1 h).1
end
end Go.Hb
namespace Go.Proofs.YtjipofkjmmpjdaaGreat
open Go.Hb
theorem YF(R:RwF){W w:World}{L:List HP}{F:HP->List HP}{s:Sl}{xb j:Nat}{i o a:BL}{key:BA}(h:Ab W w L)[hA:At L xb (rowsC s xb 5000 [i,o,a]) F](hj:j<3)(hz:key.size<64)(hl:i.length+a.length<=1024/\o.length<=1024) :
  Calls PR R.i_push #[.agg #[.l s.a s.n s.c,pq xb 0],.i (j:Int),.s key] w λe w'=>e = .returned (.tuple #[])/\Ab W w' (F (rowsC s xb 5000 (Dd [i,o,a] j key))):=by
 refine Fa R (hA:=hA) h hj hz (by decide) (show 3<=4 by decide) ?_
 match j,hj with
 | 0,_=>show i.length<5000;omega
 | 1,_=>show o.length<5000;omega
 | 2,_=>show a.length<5000;omega
theorem HL(R:RwF){W w:World}{L:List HP}{F:HP->List HP}{s:Sl}{xb j:Nat}{K:List BL}{key:BA}(h:Ab W w L)[hA:At L xb (rowsC s xb 5000 K) F](hj:j<3)(hz:key.size<64)(hl:(K.getD j []).length<5000)(hK:K.length=3) :
  Calls PR R.i_push #[.agg #[.l s.a s.n s.c,pq xb 0],.i (j:Int),.s key] w λe w'=>e = .returned (.tuple #[])/\Ab W w' (F (rowsC s xb 5000 (Dd K j key))):=Fa R (hA:=hA) h (by omega) hz (by decide) (by omega) hl
end Go.Proofs.YtjipofkjmmpjdaaGreat
namespace Go.Proofs.YtjipofkjmmpjdaaGreat
open Go.Hb
noncomputable def AN:RwF where
 i_new:=208
 new_fn:=Tryz.f208
 new_kp:=Av
 i_get:=265
 get_fn:=Tryz.f265
 get_kp:=Ec
 i_put:=266
 put_fn:=Tryz.f266
 put_kp:=IK
 i_del:=267
 del_fn:=Tryz.f267
 del_kp:=Av
 i_find:=268
 find_fn:=Tryz.f268
 find_kp:=AA
 i_lays:=269
 lays_fn:=Tryz.f269
 lays_kp:=Ed
 i_grows:=270
 grows_fn:=Tryz.f270
 grows_kp:=Dw
 i_where:=256
 where_fn:=Tryz.f256
 where_kp:=Av
 i_push:=257
 push_fn:=Tryz.f257
 push_kp:=NW
 i_many:=258
 many_fn:=Tryz.f258
 many_kp:=Bo
 i_keys:=262
 keys_fn:=Tryz.f262
 keys_kp:=Bo
 i_drop:=263
 drop_fn:=Tryz.f263
 drop_kp:=NX
 i_oldest:=264
 oldest_fn:=Tryz.f264
 oldest_kp:=NY
 i_newRows:=184
 newRows_fn:=Tryz.f184
 newRows_kp:=CN
 p1:=374
 p2:=342
 p3:=317
 p4:=263
 new_ok:=⟨mixed,Tryz.func208,rfl⟩
 new_raw:=by intros;kernel_rfl
 get_j1_c:=Afa
 get_ok:=⟨mixed,Tryz.func265,rfl⟩
 get_j1_raw:=by intros;kernel_rfl
 get_raw:=by intros;kernel_rfl
 put_ok:=⟨mixed,Tryz.func266,rfl⟩
 put_raw:=by intros;kernel_rfl
 del_ok:=⟨mixed,Tryz.func267,rfl⟩
 del_raw:=by intros;kernel_rfl
 find_j4_c:=Afd
 find_j5_c:=Afe
 find_j3_c:=Afc
 find_j2_c:=Afb
 find_l1:=As4
 find_ok:=⟨mixed,Tryz.func268,rfl⟩
 find_j4_raw:=by intros;kernel_rfl
 find_j5_raw:=by intros;kernel_rfl
 find_j3_raw:=by intros;kernel_rfl
 find_j2_raw:=by intros;kernel_rfl
 find_l1_raw:=by intros;kernel_rfl
 find_raw:=by intros;kernel_rfl
 lays_j1_c:=Aff
 lays_ok:=⟨mixed,Tryz.func269,rfl⟩
 lays_j1_raw:=by intros;kernel_rfl
 lays_raw:=by intros;kernel_rfl
 grows_l1:=As5
 grows_ok:=⟨mixed,Tryz.func270,rfl⟩
 grows_l1_raw:=by intros;kernel_rfl
 grows_raw:=by intros;kernel_rfl
 where_ok:=⟨mixed,Tryz.func256,rfl⟩
 where_raw:=by intros;kernel_rfl
 push_ok:=⟨mixed,Tryz.func257,rfl⟩
 push_raw:=by intros;kernel_rfl
 many_j2_c:=Ae8
 many_l1:=Asz
 many_ok:=⟨mixed,Tryz.func258,rfl⟩
 many_j2_raw:=by intros;kernel_rfl
 many_l1_raw:=by intros;kernel_rfl
 many_raw:=by intros;kernel_rfl
 keys_j2_c:=Ae9
 keys_l1:=As2
 keys_ok:=⟨mixed,Tryz.func262,rfl⟩
 keys_j2_raw:=by intros;kernel_rfl
 keys_l1_raw:=by intros;kernel_rfl
 keys_raw:=by intros;kernel_rfl
 drop_ok:=⟨mixed,Tryz.func263,rfl⟩
 drop_raw:=by intros;kernel_rfl
 oldest_ok:=⟨mixed,Tryz.func264,rfl⟩
 oldest_raw:=by intros;kernel_rfl
 newRows_j2_c:=Ae4
 newRows_l1:=Ar9
 newRows_ok:=⟨mixed,Tryz.func184,rfl⟩
 newRows_j2_raw:=by intros;kernel_rfl
 newRows_l1_raw:=by intros;kernel_rfl
 newRows_raw:=by intros;kernel_rfl
noncomputable def BO:RwF where
 i_new:=209
 new_fn:=Tryz.f209
 new_kp:=Av
 i_get:=317
 get_fn:=Tryz.f317
 get_kp:=Ec
 i_put:=318
 put_fn:=Tryz.f318
 put_kp:=IK
 i_del:=319
 del_fn:=Tryz.f319
 del_kp:=Av
 i_find:=320
 find_fn:=Tryz.f320
 find_kp:=AA
 i_lays:=321
 lays_fn:=Tryz.f321
 lays_kp:=Ed
 i_grows:=322
 grows_fn:=Tryz.f322
 grows_kp:=Dw
 i_where:=310
 where_fn:=Tryz.f310
 where_kp:=Av
 i_push:=311
 push_fn:=Tryz.f311
 push_kp:=NW
 i_many:=314
 many_fn:=Tryz.f314
 many_kp:=Bo
 i_keys:=316
 keys_fn:=Tryz.f316
 keys_kp:=Bo
 i_drop:=312
 drop_fn:=Tryz.f312
 drop_kp:=NX
 i_oldest:=315
 oldest_fn:=Tryz.f315
 oldest_kp:=NY
 i_newRows:=186
 newRows_fn:=Tryz.f186
 newRows_kp:=CN
 p1:=396
 p2:=345
 p3:=323
 p4:=275
 new_ok:=⟨mixed,Tryz.func209,rfl⟩
 new_raw:=by intros;kernel_rfl
 get_j1_c:=Afi
 get_ok:=⟨mixed,Tryz.func317,rfl⟩
 get_j1_raw:=by intros;kernel_rfl
 get_raw:=by intros;kernel_rfl
 put_ok:=⟨mixed,Tryz.func318,rfl⟩
 put_raw:=by intros;kernel_rfl
 del_ok:=⟨mixed,Tryz.func319,rfl⟩
 del_raw:=by intros;kernel_rfl
 find_j4_c:=Afl
 find_j5_c:=Afm
 find_j3_c:=Afk
 find_j2_c:=Afj
 find_l1:=Atw
 find_ok:=⟨mixed,Tryz.func320,rfl⟩
 find_j4_raw:=by intros;kernel_rfl
 find_j5_raw:=by intros;kernel_rfl
 find_j3_raw:=by intros;kernel_rfl
 find_j2_raw:=by intros;kernel_rfl
 find_l1_raw:=by intros;kernel_rfl
 find_raw:=by intros;kernel_rfl
 lays_j1_c:=Afn
 lays_ok:=⟨mixed,Tryz.func321,rfl⟩
 lays_j1_raw:=by intros;kernel_rfl
 lays_raw:=by intros;kernel_rfl
 grows_l1:=Atx
 grows_ok:=⟨mixed,Tryz.func322,rfl⟩
 grows_l1_raw:=by intros;kernel_rfl
 grows_raw:=by intros;kernel_rfl
 where_ok:=⟨mixed,Tryz.func310,rfl⟩
 where_raw:=by intros;kernel_rfl
 push_ok:=⟨mixed,Tryz.func311,rfl⟩
 push_raw:=by intros;kernel_rfl
 many_j2_c:=Afg
 many_l1:=Atr
 many_ok:=⟨mixed,Tryz.func314,rfl⟩
 many_j2_raw:=by intros;kernel_rfl
 many_l1_raw:=by intros;kernel_rfl
 many_raw:=by intros;kernel_rfl
 keys_j2_c:=Afh
 keys_l1:=Att
 keys_ok:=⟨mixed,Tryz.func316,rfl⟩
 keys_j2_raw:=by intros;kernel_rfl
 keys_l1_raw:=by intros;kernel_rfl
 keys_raw:=by intros;kernel_rfl
 drop_ok:=⟨mixed,Tryz.func312,rfl⟩
 drop_raw:=by intros;kernel_rfl
 oldest_ok:=⟨mixed,Tryz.func315,rfl⟩
 oldest_raw:=by intros;kernel_rfl
 newRows_j2_c:=Ae5
 newRows_l1:=Asb
 newRows_ok:=⟨mixed,Tryz.func186,rfl⟩
 newRows_j2_raw:=by intros;kernel_rfl
 newRows_l1_raw:=by intros;kernel_rfl
 newRows_raw:=by intros;kernel_rfl
noncomputable def AD:RwF where
 i_new:=210
 new_fn:=Tryz.f210
 new_kp:=Av
 i_get:=346
 get_fn:=Tryz.f346
 get_kp:=Ec
 i_put:=347
 put_fn:=Tryz.f347
 put_kp:=IK
 i_del:=349
 del_fn:=Tryz.f349
 del_kp:=Av
 i_find:=357
 find_fn:=Tryz.f357
 find_kp:=AA
 i_lays:=358
 lays_fn:=Tryz.f358
 lays_kp:=Ed
 i_grows:=359
 grows_fn:=Tryz.f359
 grows_kp:=Dw
 i_where:=334
 where_fn:=Tryz.f334
 where_kp:=Av
 i_push:=335
 push_fn:=Tryz.f335
 push_kp:=NW
 i_many:=336
 many_fn:=Tryz.f336
 many_kp:=Bo
 i_keys:=341
 keys_fn:=Tryz.f341
 keys_kp:=Bo
 i_drop:=340
 drop_fn:=Tryz.f340
 drop_kp:=NX
 i_oldest:=337
 oldest_fn:=Tryz.f337
 oldest_kp:=NY
 i_newRows:=187
 newRows_fn:=Tryz.f187
 newRows_kp:=CN
 p1:=408
 p2:=348
 p3:=326
 p4:=281
 new_ok:=⟨mixed,Tryz.func210,rfl⟩
 new_raw:=by intros;kernel_rfl
 get_j1_c:=Afq
 get_ok:=⟨mixed,Tryz.func346,rfl⟩
 get_j1_raw:=by intros;kernel_rfl
 get_raw:=by intros;kernel_rfl
 put_ok:=⟨mixed,Tryz.func347,rfl⟩
 put_raw:=by intros;kernel_rfl
 del_ok:=⟨mixed,Tryz.func349,rfl⟩
 del_raw:=by intros;kernel_rfl
 find_j4_c:=Aft
 find_j5_c:=Afu
 find_j3_c:=Afs
 find_j2_c:=Afr
 find_l1:=Aur
 find_ok:=⟨mixed,Tryz.func357,rfl⟩
 find_j4_raw:=by intros;kernel_rfl
 find_j5_raw:=by intros;kernel_rfl
 find_j3_raw:=by intros;kernel_rfl
 find_j2_raw:=by intros;kernel_rfl
 find_l1_raw:=by intros;kernel_rfl
 find_raw:=by intros;kernel_rfl
 lays_j1_c:=Afv
 lays_ok:=⟨mixed,Tryz.func358,rfl⟩
 lays_j1_raw:=by intros;kernel_rfl
 lays_raw:=by intros;kernel_rfl
 grows_l1:=Aus
 grows_ok:=⟨mixed,Tryz.func359,rfl⟩
 grows_l1_raw:=by intros;kernel_rfl
 grows_raw:=by intros;kernel_rfl
 where_ok:=⟨mixed,Tryz.func334,rfl⟩
 where_raw:=by intros;kernel_rfl
 push_ok:=⟨mixed,Tryz.func335,rfl⟩
 push_raw:=by intros;kernel_rfl
 many_j2_c:=Afo
 many_l1:=At4
 many_ok:=⟨mixed,Tryz.func336,rfl⟩
 many_j2_raw:=by intros;kernel_rfl
 many_l1_raw:=by intros;kernel_rfl
 many_raw:=by intros;kernel_rfl
 keys_j2_c:=Afp
 keys_l1:=Aua
 keys_ok:=⟨mixed,Tryz.func341,rfl⟩
 keys_j2_raw:=by intros;kernel_rfl
 keys_l1_raw:=by intros;kernel_rfl
 keys_raw:=by intros;kernel_rfl
 drop_ok:=⟨mixed,Tryz.func340,rfl⟩
 drop_raw:=by intros;kernel_rfl
 oldest_ok:=⟨mixed,Tryz.func337,rfl⟩
 oldest_raw:=by intros;kernel_rfl
 newRows_j2_c:=Ae6
 newRows_l1:=Asd
 newRows_ok:=⟨mixed,Tryz.func187,rfl⟩
 newRows_j2_raw:=by intros;kernel_rfl
 newRows_l1_raw:=by intros;kernel_rfl
 newRows_raw:=by intros;kernel_rfl
noncomputable def B0:RwF where
 i_new:=211
 new_fn:=Tryz.f211
 new_kp:=Av
 i_get:=377
 get_fn:=Tryz.f377
 get_kp:=Ec
 i_put:=382
 put_fn:=Tryz.f382
 put_kp:=IK
 i_del:=383
 del_fn:=Tryz.f383
 del_kp:=Av
 i_find:=381
 find_fn:=Tryz.f381
 find_kp:=AA
 i_lays:=384
 lays_fn:=Tryz.f384
 lays_kp:=Ed
 i_grows:=385
 grows_fn:=Tryz.f385
 grows_kp:=Dw
 i_where:=370
 where_fn:=Tryz.f370
 where_kp:=Av
 i_push:=378
 push_fn:=Tryz.f378
 push_kp:=NW
 i_many:=372
 many_fn:=Tryz.f372
 many_kp:=Bo
 i_keys:=375
 keys_fn:=Tryz.f375
 keys_kp:=Bo
 i_drop:=380
 drop_fn:=Tryz.f380
 drop_kp:=NX
 i_oldest:=379
 oldest_fn:=Tryz.f379
 oldest_kp:=NY
 i_newRows:=190
 newRows_fn:=Tryz.f190
 newRows_kp:=CN
 p1:=414
 p2:=351
 p3:=335
 p4:=291
 new_ok:=⟨mixed,Tryz.func211,rfl⟩
 new_raw:=by intros;kernel_rfl
 get_j1_c:=Afy
 get_ok:=⟨mixed,Tryz.func377,rfl⟩
 get_j1_raw:=by intros;kernel_rfl
 get_raw:=by intros;kernel_rfl
 put_ok:=⟨mixed,Tryz.func382,rfl⟩
 put_raw:=by intros;kernel_rfl
 del_ok:=⟨mixed,Tryz.func383,rfl⟩
 del_raw:=by intros;kernel_rfl
 find_j4_c:=Af1
 find_j5_c:=Af2
 find_j3_c:=Af0
 find_j2_c:=Afz
 find_l1:=Au4
 find_ok:=⟨mixed,Tryz.func381,rfl⟩
 find_j4_raw:=by intros;kernel_rfl
 find_j5_raw:=by intros;kernel_rfl
 find_j3_raw:=by intros;kernel_rfl
 find_j2_raw:=by intros;kernel_rfl
 find_l1_raw:=by intros;kernel_rfl
 find_raw:=by intros;kernel_rfl
 lays_j1_c:=Af3
 lays_ok:=⟨mixed,Tryz.func384,rfl⟩
 lays_j1_raw:=by intros;kernel_rfl
 lays_raw:=by intros;kernel_rfl
 grows_l1:=Au5
 grows_ok:=⟨mixed,Tryz.func385,rfl⟩
 grows_l1_raw:=by intros;kernel_rfl
 grows_raw:=by intros;kernel_rfl
 where_ok:=⟨mixed,Tryz.func370,rfl⟩
 where_raw:=by intros;kernel_rfl
 push_ok:=⟨mixed,Tryz.func378,rfl⟩
 push_raw:=by intros;kernel_rfl
 many_j2_c:=Afw
 many_l1:=Auy
 many_ok:=⟨mixed,Tryz.func372,rfl⟩
 many_j2_raw:=by intros;kernel_rfl
 many_l1_raw:=by intros;kernel_rfl
 many_raw:=by intros;kernel_rfl
 keys_j2_c:=Afx
 keys_l1:=Au2
 keys_ok:=⟨mixed,Tryz.func375,rfl⟩
 keys_j2_raw:=by intros;kernel_rfl
 keys_l1_raw:=by intros;kernel_rfl
 keys_raw:=by intros;kernel_rfl
 drop_ok:=⟨mixed,Tryz.func380,rfl⟩
 drop_raw:=by intros;kernel_rfl
 oldest_ok:=⟨mixed,Tryz.func379,rfl⟩
 oldest_raw:=by intros;kernel_rfl
 newRows_j2_c:=Ae7
 newRows_l1:=Asi
 newRows_ok:=⟨mixed,Tryz.func190,rfl⟩
 newRows_j2_raw:=by intros;kernel_rfl
 newRows_l1_raw:=by intros;kernel_rfl
 newRows_raw:=by intros;kernel_rfl
end Go.Proofs.YtjipofkjmmpjdaaGreat
namespace Go.Hb
open Go.Proofs.YtjipofkjmmpjdaaGreat
abbrev cA(b:Nat)(s:Sl)(xb:Nat)(c p:Int):HP:=blk b [.l s.a s.n s.c,pq xb 0,.i c,.i p]
structure AcI(c p:Int)(R t1 t2 b1 b2:BL):Prop where
 eq:R=t1++t2
 ok:Dl c R
 p0:0<=p/\p<=c
 l1:(t1.length:Int)+b1.length<=c
 tot:([t1,t2,b1,b2].flatten.length:Int)<=2*c
def Ke(b:Nat)(c:Int)(R:BL):HP:=JU λ(z:(Sl×Nat×Int)×(BL×BL×BL×BL))=>ED (AcI c z.1.2.2 R z.2.1 z.2.2.1 z.2.2.2.1 z.2.2.2.2)
 (AF [cA b z.1.1 z.1.2.1 c z.1.2.2,rowsC z.1.1 z.1.2.1 5000 [z.2.1,z.2.2.1,z.2.2.2.1,z.2.2.2.2]])
structure Nd4(t1 t2 b1 b2:BL):Prop where
 n1:t1.Nodup
 n2:t2.Nodup
 n3:b1.Nodup
 n4:b2.Nodup
 d1:∀x∈t1,x∉t2/\x∉b1/\x∉b2
 d2:∀x∈t2,x∉b1/\x∉b2
 d3:∀x∈b1,x∉b2
 small:∀x,x∈[t1,t2,b1,b2].flatten->x.size<64
section
variable{W w:World}{M L:List HP}{b:Nat}{c p:Int}{R t1 t2 b1 b2:BL}{s:Sl}{xb N:Nat}{k:BA}
theorem lt4{j:Nat}(h:j<4):j<[t1,t2,b1,b2].length:=h
theorem An3:[t1,t2,b1,b2].flatten=t1++(t2++(b1++b2)):=by simp
theorem CR:[t1,t2,b1,b2].flatten.length=t1.length+t2.length+b1.length+b2.length:=by simp;omega
theorem JC:k∈[t1,t2,b1,b2].flatten↔k∈t1\/k∈t2\/k∈b1\/k∈b2:=by simp
theorem nd4(h:Ab W w (rowsC s xb N [t1,t2,b1,b2]::M)):Nd4 t1 t2 b1 b2:=by
 obtain⟨h1,h2⟩:=V2 h;have h8:=h2;rw[An3] at h1;rw[List.nodup_append,List.nodup_append,List.nodup_append] at h1;obtain⟨h3,⟨h4,⟨h5,h6,h7⟩,h9⟩,h10⟩:=h1;exact⟨h3,h4,h5,h6,λx hx=>⟨λh=>h10 x hx x (by simp[h]) rfl,λh=>h10 x hx x (by simp[h]) rfl,λh=>h10 x hx x (by simp[h]) rfl⟩,λx hx=>⟨λh=>h9 x hx x (by simp[h]) rfl,λh=>h9 x hx x (by simp[h]) rfl⟩,λx hx h=>h7 x hx x h rfl,h2⟩
theorem Aqg(t1 t2 b1 b2:BL)(key:BA):(DT [t1,t2,b1,b2] key=0/\key∈t1)\/(DT [t1,t2,b1,b2] key=1/\key∉t1/\key∈t2)\/(DT [t1,t2,b1,b2] key=2/\key∉t1/\key∉t2/\key∈b1)\/(DT [t1,t2,b1,b2] key=3/\key∉t1/\key∉t2/\key∉b1/\key∈b2)\/(DT [t1,t2,b1,b2] key = -1/\key∉t1/\key∉t2/\key∉b1/\key∉b2):=by
 unfold DT
 by_cases h0:key∈t1
 ·left;simp[List.findIdx?_cons,FD,h0]
 by_cases h1:key∈t2
 ·right;left;simp[List.findIdx?_cons,FD,h0,h1]
 by_cases h2:key∈b1
 ·right;right;left;simp[List.findIdx?_cons,FD,h0,h1,h2]
 by_cases h3:key∈b2
 ·right;right;right;left;simp[List.findIdx?_cons,FD,h0,h1,h2,h3]
 ·right;right;right;right;simp[List.findIdx?_cons,FD,h0,h1,h2,h3]
theorem DV(h:Ab W w (Ke b c R::M)):∃(s:Sl) (xb:Nat) (p:Int) (t1 t2 b1 b2:BL),AcI c p R t1 t2 b1 b2/\Ab W w (cA b s xb c p::rowsC s xb 5000 [t1,t2,b1,b2]::M):=by
 obtain⟨⟨⟨s,xb,p⟩,⟨t1,t2,b1,b2⟩⟩,h⟩:=h.openE;obtain⟨h1,h⟩:=h.openA;exact⟨s,xb,p,t1,t2,b1,b2,h1,h.openL⟩
theorem D6(h1:AcI c p R t1 t2 b1 b2)(h:Ab W w (cA b s xb c p::rowsC s xb 5000 [t1,t2,b1,b2]::M)):Ab W w (Ke b c R::M):=
 Ab.shutE ((s,xb,p),(t1,t2,b1,b2)) (Ab.shutA h1 (Ab.shutL (Ps:=[_,_]) h))
theorem TO(h:Ab W w (Ke b c R::M)):Dl c R:=by
 obtain⟨s,xb,p,t1,t2,b1,b2,h1,_⟩:=DV h;exact h1.ok
theorem Aqz(h:Ab W w (Ke b c R::M)):w.cell? ⟨b,2,none⟩=some (.i c):=by
 obtain⟨s,xb,p,t1,t2,b1,b2,_,h⟩:=DV h;exact h.cell (q:=0) rfl
theorem AcI.num(h:AcI c p R t1 t2 b1 b2):(R.length=t1.length+t2.length/\(R.length:Int)<=c)/\(1<=c/\c<=1024)/\(t1.length:Int)+b1.length<=c/\(t1.length:Int)+t2.length+b1.length+b2.length<=2*c:=by
 have h1:=h.ok.room;have h2:=h.ok.c1;have h3:=h.ok.c2;have h4:=h.l1;have h5:=h.tot
 rw[CR] at h5;have h6:R.length=t1.length+t2.length:=by rw[h.eq];simp
 omega
theorem YZ(a b:Nat):Int.tdiv (a:Int) (b:Int)=((a / b:Nat):Int):=by rw[Int.tdiv_eq_ediv_of_nonneg (by omega)];rfl
theorem A30{a b N:Nat}{p c:Int}(ha:a<=N)(hN:N<100000000)(hp:0<=p/\p<=1024) :
  (if (IntKind.wrap .i64 (p+(if (IntKind.wrap .i64 (Int.tdiv (a:Int) (b:Int)))>(1:Int) then (IntKind.wrap .i64 (Int.tdiv (a:Int) (b:Int))) else (1:Int))))<c then (IntKind.wrap .i64 (p+(if (IntKind.wrap .i64 (Int.tdiv (a:Int) (b:Int)))>(1:Int) then (IntKind.wrap .i64 (Int.tdiv (a:Int) (b:Int))) else (1:Int)))) else c)=min c (p+max 1 ((a / b:Nat):Int)):=by
 have h1:a / b<=a:=Nat.div_le_self a b;rw[YZ];generalize a / b=q at *;rw[Go.IntWalk.i64_in (q:Int) (by omega),Go.IntWalk.i64_in _ (by split <;> omega)]
 split <;> split <;> omega
theorem Aqx{a b N:Nat}{p:Int}(ha:a<=N)(hN:N<100000000)(hp:0<=p/\p<=1024) :
  (if (IntKind.wrap .i64 (p-(if (IntKind.wrap .i64 (Int.tdiv (a:Int) (b:Int)))>(1:Int) then (IntKind.wrap .i64 (Int.tdiv (a:Int) (b:Int))) else (1:Int))))>(0:Int) then (IntKind.wrap .i64 (p-(if (IntKind.wrap .i64 (Int.tdiv (a:Int) (b:Int)))>(1:Int) then (IntKind.wrap .i64 (Int.tdiv (a:Int) (b:Int))) else (1:Int)))) else (0:Int))=max 0 (p-max 1 ((a / b:Nat):Int)):=by
 have h1:a / b<=a:=Nat.div_le_self a b;rw[YZ];generalize a / b=q at *;rw[Go.IntWalk.i64_in (q:Int) (by omega),Go.IntWalk.i64_in _ (by split <;> omega)]
 split <;> split <;> omega
theorem FQ{l:BL}(h:k∉l):Ao l k=l:=As h
theorem YD{a d:BL}(h:∀x,@List.count _ instBEqOfDecidableEq x a = @List.count _ instBEqOfDecidableEq x d):a.Perm d:=(@List.perm_iff_count _ instBEqOfDecidableEq _ a d).2 h
theorem sl1{w:World}(nb:Nat)(hs:Ab W w (blk nb [.s k]::L)):Ab W w (recs Rec.str ⟨some ⟨nb,0,none⟩,1,1⟩ [k]::L):=Ab.blkS (b:=nb) (cs:=[.s k]) (n:=1) Rec.str [k] hs rfl rfl
end
end Go.Hb
namespace Go.Proofs.YtjipofkjmmpjdaaGreat
open Go.Hb Go.IntWalk
section
variable{W w:World}{L M:List HP}{b xb:Nat}{c p:Int}{R t1 t2 b1 b2:BL}{key:BA}{s:Sl}
theorem Azc(hs:Ab W w L){r:Int}:AZ PR 151 #[.i r] w λv w'=>∃b,v=pq b 0/\Ab W w' (Ke b (AT r) []::L):=by
 refine cw ⟨mixed,Tryz.func151,rfl⟩ Aj1 ?_;refine(KT AN (nr:=4) (by decide) hs).mono λe w ⟨s,xb,he,hs⟩=>⟨s,_,he,?_⟩;refine Ai hs λb w hs=>⟨b,rfl,?_⟩;rw[KO] at hs;have hs:Ab W w (rowsC s xb 0 [[],[],[],[]]::blk b _::L):=hs.perm (List.Perm.swap _ _ _);have hs:=(IY (N':=5000) hs (by omega)).perm (List.Perm.swap _ _ _);have hr:=Eb r;exact D6 (t1:=[]) (t2:=[]) (b1:=[]) (b2:=[]) ⟨rfl,Dl.nil hr.1 hr.2,by omega,by simp only[List.length_nil];omega,by rw[CR];simp only[List.length_nil];omega⟩ hs
theorem Aqr(hs:Ab W w (Ke b c R::M)):AZ PR 254 #[pq b 0] w λv w'=>v = .i c/\Ab W w' (Ke b c R::M):=by
 refine cw ⟨mixed,Tryz.func254,rfl⟩ Ak6 ?_;obtain⟨s,xb,p,t1,t2,b1,b2,h1,hs⟩:=DV hs;refine Ac rfl (Aa (Ah hs ?_));exact⟨rfl,D6 h1 hs⟩
theorem Zr(hs:Ab W w (Ke b c R::M)):AZ PR 251 #[pq b 0] w λv w'=>v = .i (R.length:Int)/\Ab W w' (Ke b c R::M):=by
 refine cw ⟨mixed,Tryz.func251,rfl⟩ Ak2 ?_;obtain⟨s,xb,p,t1,t2,b1,b2,h1,hs⟩:=DV hs;refine Ac rfl (Aa (Ah (x:=s) hs (Ah hs ?_)));refine Ai hs λnb w hs=>?_;refine AM AN (nr:=4) (K:=[t1,t2,b1,b2]) [0,1] (M:=cA b s xb c p::M) (by exact Ab.fin hs) (by omega) rfl λw hs=>?_;refine⟨?_,D6 h1 (by exact Ab.fin hs)⟩;rw[h1.eq];simp[Bv]
theorem Zq(hz:key.size<64)(hs:Ab W w (Ke b c R::M)):AZ PR 249 #[pq b 0,.s key] w λv w'=>v = .b (decide (key∈R))/\Ab W w' (Ke b c R::M):=by
 refine cw ⟨mixed,Tryz.func249,rfl⟩ Ak0 ?_;obtain⟨s,xb,p,t1,t2,b1,b2,h1,hs⟩:=DV hs;refine Ac rfl (Aa (Ah (x:=s) hs (Ah hs ?_)));refine Am (DF AN (K:=[t1,t2,b1,b2]) hs hz) λe w ⟨he,hs⟩=>⟨_,he,?_⟩;have e:∀t:Bool,(t=true↔key∈t1\/key∈t2)->Value.bool t = .b (decide (key∈R)):=λt ht=>by
  congr 1;rw[Bool.eq_iff_iff,ht,h1.eq,decide_eq_true_eq,List.mem_append]
 rcases Aqg t1 t2 b1 b2 key with⟨h,h4⟩|⟨h,h4,h5⟩|⟨h,h4,h5,h6⟩|⟨h,h4,h5,h6⟩|⟨h,h4,h5,h6⟩ <;> rw[h]
 ·exact Ak rfl ⟨e _ (by simp[h4]),D6 h1 hs⟩
 all_goals exact Ac rfl ⟨e _ (by simp[h4,h5]),D6 h1 hs⟩
theorem Aqp(hs:Ab W w (Ke b c R::M)):AZ PR 250 #[pq b 0] w λv w'=>∃(l:Sl) (ks:BL),v = .l l.a l.n l.c/\ks.Perm R/\Ab W w' (Ke b c R::recs Rec.str l ks::M):=by
 refine cw ⟨mixed,Tryz.func250,rfl⟩ Ak1 ?_;obtain⟨s,xb,p,t1,t2,b1,b2,h1,hs⟩:=DV hs;refine Ac rfl (Aa (Ah (x:=s) hs (Ah hs ?_)));refine Ai hs λnb w hs=>?_;refine OJ AN (nr:=4) (K:=[t1,t2,b1,b2]) [0,1] (M:=cA b s xb c p::M) (by exact Ab.fin hs) (by omega) rfl λl w hs=>?_;refine⟨l,_,rfl,?_,D6 h1 (by exact Ab.fin hs)⟩;rw[h1.eq];simp[EM]
def L9(W:World)(M:List HP)(b xb:Nat)(s:Sl)(c p:Int)(E:BL->BL->BL->BL->BL->Prop):VW:=λv w'=>∃(l:Sl) (g t1 t2 b1 b2:BL),v = .l l.a l.n l.c/\E g t1 t2 b1 b2/\Ab W w' (cA b s xb c p::rowsC s xb 5000 [t1,t2,b1,b2]::recs Rec.str l g::M)
theorem VM(hs:Ab W w (cA b s xb c p::rowsC s xb 5000 [t1,t2,b1,b2]::M)){first:Bool}(hf:first=true->0<t1.length)(hg:first=false->0<t2.length)(hl:b1.length<5000/\b2.length<5000) :
  AZ PR 261 #[pq b 0,.b first] w (L9 W M b xb s c p λg u1 u2 d1 d2=>(∃x,g=[x]/\(t1++t2).Perm (x::(u1++u2)))/\[u1,u2,d1,d2].flatten.Perm [t1,t2,b1,b2].flatten/\u1.length+d1.length=t1.length+b1.length):=by
 refine cw ⟨mixed,Tryz.func261,rfl⟩ Ak9 ?_;have hnd:=nd4 (t1:=t1) (t2:=t2) (b1:=b1) (b2:=b2) (M:=cA b s xb c p::M) (by exact Ab.fin hs);have j:∀(fr to:Nat)(u1 u2 d1 d2:BL),fr<4->to<4->([t1,t2,b1,b2].getD to []).length<5000->(BW ([t1,t2,b1,b2].getD fr []))∈[t1,t2,b1,b2].flatten->Dd [t1,t2,b1,b2] to (BW ([t1,t2,b1,b2].getD fr []))=[u1,u2,d1,d2] ->
   (t1++t2).Perm (BW ([t1,t2,b1,b2].getD fr [])::(u1++u2))->[u1,u2,d1,d2].flatten.Perm [t1,t2,b1,b2].flatten->u1.length+d1.length=t1.length+b1.length ->
   Ur Be (L9 W M b xb s c p λg u1 u2 d1 d2=>(∃x,g=[x]/\(t1++t2).Perm (x::(u1++u2)))/\[u1,u2,d1,d2].flatten.Perm [t1,t2,b1,b2].flatten/\u1.length+d1.length=t1.length+b1.length) (some ⟨b,0,none⟩) (fr:Int) (to:Int) w:=by
  intro fr to u1 u2 d1 d2 h1 h2 h3 h4 h5 h6 h7 h8;refine jw WS ?_;refine Aa (Ah (x:=s) hs (Ah hs ?_));refine Am (Bt AN (K:=[t1,t2,b1,b2]) (j:=fr) hs h1 (Nat.le_refl 4)) λe w ⟨he,hs⟩=>⟨_,he,?_⟩;refine Aa (Ah (x:=s) hs (Ah hs ?_));refine Ar (Fa AN (K:=[t1,t2,b1,b2]) (j:=to) hs h2 (hnd.small _ h4) (by omega) (Nat.le_refl 4) h3) λe w ⟨he,hs⟩=>⟨he,?_⟩;rw[h5] at hs;refine Ai hs λnb w hs=>?_;have hs:=sl1 nb hs;exact⟨⟨some ⟨nb,0,none⟩,1,1⟩,_,u1,u2,d1,d2,rfl,⟨⟨_,rfl,h6⟩,h7,h8⟩,by exact Ab.fin hs⟩
 cases first with
 | true=>
  refine Ak rfl ?_;have h0:=hf rfl;have hm:=C2 h0;have e0:[t1,t2,b1,b2].getD 0 []=t1:=rfl;have e1:Dd [t1,t2,b1,b2] 2 (BW t1)=[t1.drop 1,t2,b1++[BW t1],b2]:=by
   show[Ao t1 _,Ao t2 _,Ao b1 _++[_],Ao b2 _]=_;rw[BH hnd.n1 h0,FQ (hnd.d1 _ hm).1,FQ (hnd.d1 _ hm).2.1,FQ (hnd.d1 _ hm).2.2]
  have h:=j 0 2 (t1.drop 1) t2 (b1++[BW t1]) b2 (by decide) (by decide) hl.1;rw[e0] at h;clear j;refine h (JC.2 (.inl hm)) e1 ?_ ?_ ?_ <;> (cases t1 with
   | nil=>simp at h0
   | cons x l=>first|exact List.Perm.refl _|exact YD (λy=>by simp[BW,List.count_append,List.count_cons];omega)|(simp[BW];omega))
 | false=>
  refine Ac rfl ?_;have h0:=hg rfl;have hm:=C2 h0;have e0:[t1,t2,b1,b2].getD 1 []=t2:=rfl;have e1:Dd [t1,t2,b1,b2] 3 (BW t2)=[t1,t2.drop 1,b1,b2++[BW t2]]:=by
   show[Ao t1 _,Ao t2 _,Ao b1 _,Ao b2 _++[_]]=_;rw[BH hnd.n2 h0,FQ (λh=>(hnd.d1 _ h).1 hm),FQ (hnd.d2 _ hm).1,FQ (hnd.d2 _ hm).2]
  have h:=j 1 3 t1 (t2.drop 1) b1 (b2++[BW t2]) (by decide) (by decide) hl.2;rw[e0] at h;clear j;refine h (JC.2 (.inr (.inl hm))) e1 ?_ ?_ rfl <;> (cases t2 with
   | nil=>simp at h0
   | cons x l=>exact YD (λy=>by simp[BW,List.count_append,List.count_cons];omega))
theorem LD(hs:Ab W w (cA b s xb c p::rowsC s xb 5000 [t1,t2,b1,b2]::M))(hR:Dl c (t1++t2))(hl:b1.length<5000/\b2.length<5000){again:Bool} :
  AZ PR 259 #[pq b 0,.b again] w (L9 W M b xb s c p λg u1 u2 d1 d2=>Lh c (t1++t2) g (u1++u2)/\[u1,u2,d1,d2].flatten.Perm [t1,t2,b1,b2].flatten/\u1.length+d1.length=t1.length+b1.length):=by
 refine cw ⟨mixed,Tryz.func259,rfl⟩ Ak7 ?_;have hc:=hR.c1;have hll:(t1++t2).length=t1.length+t2.length:=by simp
 have e0:(Bv [t1,t2,b1,b2] [0]:Int)=t1.length:=by simp[Bv]
 have e1:(Bv [t1,t2,b1,b2] [1]:Int)=t2.length:=by simp[Bv]
 have e2:(Bv [t1,t2,b1,b2] [0,1]:Int)=t1.length+t2.length:=by simp[Bv]
 refine Al [cA b s xb c p] hs λw hs=>?_;refine Aa (Aq (x:=s) (Aq (Aa (Aq ?_))));refine Ai hs λnb w hs=>Af hs ?_;refine AM AN (nr:=4) (K:=[t1,t2,b1,b2]) [0,1] (M:=cA b s xb c p::M) (by exact Ab.fin hs) (by omega) rfl λw hs=>?_;refine Af hs ?_;have hs:Ab W w (cA b s xb c p::rowsC s xb 5000 [t1,t2,b1,b2]::M):=by exact Ab.fin hs
 rw[e2]
 with_reducible refine Ay (λh1=>?_) (λh1=>?_)
 ·exact⟨⟨none,0,0⟩,[],t1,t2,b1,b2,rfl,⟨.inl ⟨rfl,rfl,by rw[hll];omega⟩,List.Perm.refl _,rfl⟩,(Ab.nilR Rec.str hs).perm (List.perm_middle (l₁:=[_,_])).symm⟩
 have oust:∀(w:World)(first:Bool),(first=true->0<t1.length)->(first=false->0<t2.length)->Ab W w (cA b s xb c p::rowsC s xb 5000 [t1,t2,b1,b2]::M) ->
   (call1 .slc PR 261 [pq b 0,.b first] λx=>(L9 W M b xb s c p λg u1 u2 d1 d2=>Lh c (t1++t2) g (u1++u2)/\[u1,u2,d1,d2].flatten.Perm [t1,t2,b1,b2].flatten/\u1.length+d1.length=t1.length+b1.length) (.l x.a x.n x.c)) w:=by
  clear hs;intro w first hf hg hs
  refine Ag (VM hs hf hg hl) λv w ⟨l,g,u1,u2,d1,d2,hv,⟨⟨x,hg,hp⟩,h3,h4⟩,hs⟩=>⟨l,hv,?_⟩;exact⟨l,g,u1,u2,d1,d2,rfl,⟨.inr ⟨x,hg,Gi.of_perm hR hp,by rw[hll];omega⟩,h3,h4⟩,hs⟩
 refine Aa (Ah (x:=s) hs (Ah hs ?_));refine Ai hs λnb w hs=>?_;refine AM AN (nr:=4) (K:=[t1,t2,b1,b2]) [0] (M:=cA b s xb c p::M) (by exact Ab.fin hs) (by omega) rfl λw hs=>?_;have hs:Ab W w (cA b s xb c p::rowsC s xb 5000 [t1,t2,b1,b2]::M):=by exact Ab.fin hs
 rw[e0];have more:∀(w:World),0<t1.length->Ab W w (cA b s xb c p::rowsC s xb 5000 [t1,t2,b1,b2]::M)->(Ad (some ⟨b,0,none⟩) λb_24 o_25=>
   ld .slc b_24 o_25 λ(x_26:Sl)=>
   ld .ptr b_24 (o_25+1) λ(x_27:OA)=>
   A0 [.i (1:Int)] 3 λb_28=>
   call1 (.int .i64) PR 258 [.agg #[.l x_26.a x_26.n x_26.c,.p x_27],.l (some ⟨b_28,0,none⟩) 1 1] λ(x_29:Int)=>
   call1 .slc PR 261 [pq b 0,.b (x_29==(0:Int))] λx=>(L9 W M b xb s c p λg u1 u2 d1 d2=>Lh c (t1++t2) g (u1++u2)/\[u1,u2,d1,d2].flatten.Perm [t1,t2,b1,b2].flatten/\u1.length+d1.length=t1.length+b1.length) (.l x.a x.n x.c)) w:=by
  clear hs;intro w h0 hs;refine Aa (Ah (x:=s) hs (Ah hs ?_));refine Ai hs λnb w hs=>?_;refine AM AN (nr:=4) (K:=[t1,t2,b1,b2]) [1] (M:=cA b s xb c p::M) (by exact Ab.fin hs) (by omega) rfl λw hs=>?_;rw[e1];exact oust w _ (λ_=>h0) (λh=>by have:¬(t2.length:Int)=0:=(by simpa using h);omega) (by exact Ab.fin hs)
 with_reducible refine Ay (λh2=>?_) (λh2=>?_)
 ·refine Aa (Ah hs ?_)
  with_reducible refine Ay (λh3=>?_) (λh3=>?_)
  ·exact oust w true (λ_=>by omega) (λh=>by cases h) hs
  ·refine Aa (Ah hs ?_)
   with_reducible refine Ay (λh4=>?_) (λh4=>?_)
   ·cases again with
    | true=>exact Ak rfl (oust w true (λ_=>by omega) (λh=>by cases h) hs)
    | false=>exact Ac rfl (more w (by omega) hs)
   ·exact more w (by omega) hs
 ·exact oust w false (λh=>by cases h) (λ_=>by omega) hs
theorem Aid(hs:Ab W w (Ke b c R::M)):AZ PR 247 #[pq b 0] w λv w'=>∃x yes S,v = .tuple #[.s x,.b yes]/\Gi c R x yes S/\Ab W w' (Ke b c S::M):=by
 refine cw ⟨mixed,Tryz.func247,rfl⟩ Akz ?_;refine Ag (Zr hs) λv w ⟨hv,hs⟩=>⟨_,hv,?_⟩;have hk:=TO hs
 with_reducible refine Ay (λh0=>?_) (λh0=>?_)
 ·exact⟨_,_,_,rfl,Gi.none hk (by omega),hs⟩
 obtain⟨s,xb,p,t1,t2,b1,b2,h1,hs⟩:=DV hs;have hn:=h1.num;have e0:(Bv [t1,t2,b1,b2] [0]:Int)=t1.length:=by simp[Bv]
 have e1:(Bv [t1,t2,b1,b2] [1]:Int)=t2.length:=by simp[Bv]
 have oust:∀(w:World)(first:Bool),(first=true->0<t1.length)->(first=false->0<t2.length)->Ab W w (cA b s xb c p::rowsC s xb 5000 [t1,t2,b1,b2]::M) ->
   (call1 .slc PR 261 [pq b 0,.b first] λx=>
    C1 x.a x.n (0:Int) λb_12 o_13=>
    ld .str b_12 (o_13+((0:Int)).toNat*1) λ(x_14:BA)=>λw'=>∃x yes S,(Value.tuple #[.s x_14,.b true]) = .tuple #[.s x,.b yes]/\Gi c R x yes S/\Ab W w' (Ke b c S::M)) w:=by
  clear hs;intro w first hf hg hs
  refine Ag (VM hs hf hg (by omega)) λv w ⟨l,g,u1,u2,d1,d2,hv,⟨⟨x,hg,hp⟩,h3,h4⟩,hs⟩=>⟨l,hv,?_⟩;subst hg;have hev:Gi c R x true (u1++u2):=Gi.of_perm hk (by rw[h1.eq];exact hp)
  have hl1:=Bg (s:=l) (E:=Rec.str) (rows:=[x]) hs;simp only[List.length_cons,List.length_nil] at hl1;refine BU (s:=l) (E:=Rec.str) (rows:=[x]) hs λb_ o_ ha_=>?_;refine Cw ha_ hs ?_;exact⟨x,_,_,rfl,hev,D6 (t1:=u1) (t2:=u2) (b1:=d1) (b2:=d2) (s:=s) (xb:=xb) ⟨rfl,hev.ok,h1.p0,by omega,by rw[h3.length_eq];exact h1.tot⟩ (by exact Ab.fin hs)⟩
 refine Aa (Ah (x:=s) hs (Ah hs ?_));refine Ai hs λnb w hs=>?_;refine AM AN (nr:=4) (K:=[t1,t2,b1,b2]) [0] (M:=cA b s xb c p::M) (by exact Ab.fin hs) (by omega) rfl λw hs=>?_;have hs:Ab W w (cA b s xb c p::rowsC s xb 5000 [t1,t2,b1,b2]::M):=by exact Ab.fin hs
 rw[e0]
 with_reducible refine Ay (λh2=>?_) (λh2=>?_)
 ·refine Aa (Ah hs ?_)
  with_reducible refine Ay (λh3=>?_) (λh3=>?_)
  ·exact oust w true (λ_=>by omega) (λh=>by cases h) hs
  ·refine Aa (Ah (x:=s) hs (Ah hs ?_));refine Ai hs λnb w hs=>?_;refine AM AN (nr:=4) (K:=[t1,t2,b1,b2]) [1] (M:=cA b s xb c p::M) (by exact Ab.fin hs) (by omega) rfl λw hs=>?_;rw[e1];exact oust w _ (λ_=>by omega) (λh=>by have:¬(t2.length:Int)=0:=(by simpa using h);omega) (by exact Ab.fin hs)
 ·exact oust w false (λh=>by cases h) (λ_=>by omega) hs
theorem A4c(hnd:Nd4 t1 t2 b1 b2):(Dr [t1,t2,b1,b2] key).flatten=Ao [t1,t2,b1,b2].flatten key:=by
 show[Ao t1 key,Ao t2 key,Ao b1 key,Ao b2 key].flatten=_;rw[An3,An3,ET,ET,ET]
theorem Ay3(hnd:Nd4 t1 t2 b1 b2)(h0:0<b1.length):Dr [t1,t2,b1,b2] (BW b1)=[t1,t2,b1.drop 1,b2]:=by
 have hm:=C2 h0;show[Ao t1 _,Ao t2 _,Ao b1 _,Ao b2 _]=_;rw[BH hnd.n3 h0,FQ (λh=>(hnd.d1 _ h).2.1 hm),FQ (λh=>(hnd.d2 _ h).1 hm),FQ (hnd.d3 _ hm)]
theorem Ay4(hnd:Nd4 t1 t2 b1 b2)(h0:0<b2.length):Dr [t1,t2,b1,b2] (BW b2)=[t1,t2,b1,b2.drop 1]:=by
 have hm:=C2 h0;show[Ao t1 _,Ao t2 _,Ao b1 _,Ao b2 _]=_;rw[BH hnd.n4 h0,FQ (λh=>(hnd.d1 _ h).2.2 hm),FQ (λh=>(hnd.d2 _ h).2 hm),FQ (λh=>hnd.d3 _ h hm)]
theorem OZ{l:BL}{x:BA}(h:x∈l.drop 1):x∈l:=List.mem_of_mem_drop h
def Zm(c:Int)(t1 t2 b1 b2:BL)(g u1 u2 d1 d2:BL):Prop:=Lh c (t1++t2) g (u1++u2)/\(∀x,x∈[u1,u2,d1,d2].flatten->x∈[t1,t2,b1,b2].flatten)/\(u1.length:Int)+d1.length<c/\([u1,u2,d1,d2].flatten.length:Int)<2*c
theorem Aie(hs:Ab W w (cA b s xb c p::rowsC s xb 5000 [t1,t2,b1,b2]::M))(hi:AcI c p (t1++t2) t1 t2 b1 b2) :
  AZ PR 260 #[pq b 0] w (L9 W M b xb s c p (Zm c t1 t2 b1 b2)):=by
 refine cw ⟨mixed,Tryz.func260,rfl⟩ Ak8 ?_;have hn:=hi.num;have e0:(Bv [t1,t2,b1,b2] [0]:Int)=t1.length:=by simp[Bv]
 have e2:(Bv [t1,t2,b1,b2] [0,2]:Int)=t1.length+b1.length:=by simp[Bv]
 have e4:(Bv [t1,t2,b1,b2] [0,1,2,3]:Int)=t1.length+t2.length+b1.length+b2.length:=by simp[Bv];omega
 have hnd:=nd4 (t1:=t1) (t2:=t2) (b1:=b1) (b2:=b2) (M:=cA b s xb c p::M) (by exact Ab.fin hs);have rep:∀(w:World)(d1 d2:BL),(∀x∈d1,x∈b1)->(∀x∈d2,x∈b2)->(t1.length:Int)+d1.length<c->(t1.length:Int)+t2.length+d1.length+d2.length<2*c->Ab W w (cA b s xb c p::rowsC s xb 5000 [t1,t2,d1,d2]::M) ->
   (call1 .slc PR 259 [pq b 0,.b false] λx=>(L9 W M b xb s c p (Zm c t1 t2 b1 b2)) (.l x.a x.n x.c)) w:=by
  clear hs;intro w d1 d2 h1 h2 h3 h4 hs;refine Ag (LD hs hi.ok (by omega)) λv w ⟨l,g,u1,u2,f1,f2,hv,⟨h5,h6,h7⟩,hs⟩=>⟨l,hv,?_⟩;refine⟨l,g,u1,u2,f1,f2,rfl,⟨h5,λx hx=>?_,by omega,by rw[h6.length_eq,CR];omega⟩,hs⟩
  rcases JC.1 (h6.mem_iff.1 hx) with h|h|h|h
  ·exact JC.2 (.inl h)
  ·exact JC.2 (.inr (.inl h))
  ·exact JC.2 (.inr (.inr (.inl (h1 _ h))))
  ·exact JC.2 (.inr (.inr (.inr (h2 _ h))))
 have j1:∀(w:World)(t:Bool),(t=true->c<=(t1.length:Int)+b1.length/\(t1.length:Int)<c)->(t=false->c<=(t1.length:Int)+b1.length->c<=(t1.length:Int))->Ab W w (cA b s xb c p::rowsC s xb 5000 [t1,t2,b1,b2]::M) ->
   Up Be (L9 W M b xb s c p (Zm c t1 t2 b1 b2)) (some ⟨b,0,none⟩) t w:=by
  clear hs;intro w t ht hf hs;refine jw WR ?_;cases t with
  | true=>
   have ht:=ht rfl;have h0:0<b1.length:=by omega
   refine Ak rfl ?_;refine Al [cA b s xb c p] hs λw hs=>?_;refine Aa (Aq (x:=s) (Aq (Aa (Ah (x:=s) hs (Ah hs (Af hs ?_))))));refine Am (Bt AN (K:=[t1,t2,b1,b2]) (j:=2) hs (lt4 (by decide)) (Nat.le_refl 4)) λe w ⟨he,hs⟩=>⟨_,he,Af hs ?_⟩;refine Ar (BT AN (K:=[t1,t2,b1,b2]) (key:=BW b1) hs (hnd.small _ (JC.2 (.inr (.inr (.inl (C2 h0)))))) (by omega) (Nat.le_refl 4)) λe w ⟨he,hs⟩=>⟨he,?_⟩;rw[Ay3 hnd h0] at hs;exact rep w _ _ (λx h=>OZ h) (λx h=>h) (by rw[List.length_drop];omega) (by rw[List.length_drop];omega) hs
  | false=>
   have hf:=hf rfl;refine Ac rfl ?_;refine Al [cA b s xb c p] hs λw hs=>?_;refine Aa (Aq (x:=s) (Aq (Aa (Aq ?_))));refine Ai hs λnb w hs=>Af hs ?_;refine AM AN (nr:=4) (K:=[t1,t2,b1,b2]) [0,2] (M:=cA b s xb c p::M) (by exact Ab.fin hs) (by omega) rfl λw hs=>Af hs ?_;have hs:Ab W w (cA b s xb c p::rowsC s xb 5000 [t1,t2,b1,b2]::M):=by exact Ab.fin hs
   rw[e2]
   with_reducible refine Ay (λh1=>?_) (λh1=>?_)
   ·have h2:=hf (by omega);have h0:0<t1.length:=by omega
    have hm:=C2 h0;refine Aa (Ah (x:=s) hs (Ah hs ?_));refine Am (Bt AN (K:=[t1,t2,b1,b2]) (j:=0) hs (lt4 (by decide)) (Nat.le_refl 4)) λe w ⟨he,hs⟩=>⟨_,he,?_⟩;refine Aa (Ah (x:=s) hs (Ah hs ?_));refine Ar (BT AN (K:=[t1,t2,b1,b2]) (key:=BW t1) hs (hnd.small _ (JC.2 (.inl hm))) (by omega) (Nat.le_refl 4)) λe w ⟨he,hs⟩=>⟨he,?_⟩;have e1:Dr [t1,t2,b1,b2] (BW t1)=[t1.drop 1,t2,b1,b2]:=by
     show[Ao t1 _,Ao t2 _,Ao b1 _,Ao b2 _]=_;rw[BH hnd.n1 h0,FQ (hnd.d1 _ hm).1,FQ (hnd.d1 _ hm).2.1,FQ (hnd.d1 _ hm).2.2]
    rw[e1] at hs;refine Ai hs λnb w hs=>?_;have hs:=sl1 nb hs;have hev:Gi c (t1++t2) (BW t1) true (t1.drop 1++t2):=Gi.of_perm hi.ok (by
     cases t1 with
     | nil=>simp at h0
     | cons x l=>exact List.Perm.refl _)
    refine⟨⟨some ⟨nb,0,none⟩,1,1⟩,_,t1.drop 1,t2,b1,b2,rfl,⟨.inr ⟨_,rfl,hev,by rw[List.length_append];omega⟩,λx hx=>?_,by rw[List.length_drop];omega,by rw[CR,List.length_drop];omega⟩,by exact Ab.fin hs⟩;rcases JC.1 hx with h|h
    ·exact JC.2 (.inl (OZ h))
    ·exact JC.2 (.inr h)
   refine Al [cA b s xb c p] hs λw hs=>?_;refine Aa (Aq (x:=s) (Aq (Aa (Aq ?_))));refine Ai hs λnb w hs=>Af hs ?_;refine AM AN (nr:=4) (K:=[t1,t2,b1,b2]) [0,1,2,3] (M:=cA b s xb c p::M) (by exact Ab.fin hs) (by omega) rfl λw hs=>Af hs ?_;have hs:Ab W w (cA b s xb c p::rowsC s xb 5000 [t1,t2,b1,b2]::M):=by exact Ab.fin hs
   rw[e4]
   with_reducible refine Ay (λh2=>?_) (λh2=>?_)
   ·refine⟨⟨none,0,0⟩,[],t1,t2,b1,b2,rfl,⟨.inl ⟨rfl,rfl,by rw[List.length_append];omega⟩,λx hx=>hx,by omega,by rw[CR];omega⟩,(Ab.nilR Rec.str hs).perm (List.perm_middle (l₁:=[_,_])).symm⟩
   refine Al [cA b s xb c p] hs λw hs=>?_;refine Aa (Aq (x:=s) (Aq (Aa (Aq ?_))));refine Ai hs λnb w hs=>Af hs ?_;refine AM AN (nr:=4) (K:=[t1,t2,b1,b2]) [0,1,2,3] (M:=cA b s xb c p::M) (by exact Ab.fin hs) (by omega) rfl λw hs=>Af hs ?_;have hs:Ab W w (cA b s xb c p::rowsC s xb 5000 [t1,t2,b1,b2]::M):=by exact Ab.fin hs
   rw[e4,i64_in (2*c) (by omega)]
   with_reducible refine Ay (λh3=>?_) (λh3=>?_)
   ·have h0:0<b2.length:=by omega
    refine Al [cA b s xb c p] hs λw hs=>?_;refine Aa (Aq (x:=s) (Aq (Aa (Ah (x:=s) hs (Ah hs (Af hs ?_))))));refine Am (Bt AN (K:=[t1,t2,b1,b2]) (j:=3) hs (lt4 (by decide)) (Nat.le_refl 4)) λe w ⟨he,hs⟩=>⟨_,he,Af hs ?_⟩;refine Ar (BT AN (K:=[t1,t2,b1,b2]) (key:=BW b2) hs (hnd.small _ (JC.2 (.inr (.inr (.inr (C2 h0)))))) (by omega) (Nat.le_refl 4)) λe w ⟨he,hs⟩=>⟨he,?_⟩;rw[Ay4 hnd h0] at hs;exact rep w _ _ (λx h=>h) (λx h=>OZ h) (by omega) (by rw[List.length_drop];omega) hs
   ·exact rep w _ _ (λx h=>h) (λx h=>h) (by omega) (by omega) hs
 refine Al [cA b s xb c p] hs λw hs=>?_;refine Aa (Aq (x:=s) (Aq (Aa (Aq ?_))));refine Ai hs λnb w hs=>Af hs ?_;refine AM AN (nr:=4) (K:=[t1,t2,b1,b2]) [0,2] (M:=cA b s xb c p::M) (by exact Ab.fin hs) (by omega) rfl λw hs=>Af hs ?_;have hs:Ab W w (cA b s xb c p::rowsC s xb 5000 [t1,t2,b1,b2]::M):=by exact Ab.fin hs
 rw[e2]
 with_reducible refine Ay (λh1=>?_) (λh1=>?_)
 ·refine Aa (Aq (x:=s) (Aq (Aa (Aq ?_))));refine Ai hs λnb w hs=>Af hs ?_;refine AM AN (nr:=4) (K:=[t1,t2,b1,b2]) [0] (M:=cA b s xb c p::M) (by exact Ab.fin hs) (by omega) rfl λw hs=>Af hs ?_;rw[e0];exact j1 w _ (λh=>⟨by omega,of_decide_eq_true h⟩) (λh _=>by have:=of_decide_eq_false h;omega) (by exact Ab.fin hs)
 ·exact Af hs (Af hs (j1 w false (λh=>by cases h) (λ_ h=>by omega) hs))
theorem VN(hs:Ab W w (cA b s xb c p::rowsC s xb 5000 [t1,t2,b1,b2]::M))(hz:key.size<64)(hm:key∈[t1,t2,b1,b2].flatten)(hl:t2.length<5000)(hp:0<=p/\p<=c)(h1:(t1.length:Int)+b1.length<=c)(h2:([t1,t2,b1,b2].flatten.length:Int)<=2*c)(hk:Dl c (Ao t1 key++(Ao t2 key++[key]))) :
  Calls PR 257 #[.agg #[.l s.a s.n s.c,pq xb 0],.i (1:Int),.s key] w λe w'=>e = .returned (.tuple #[])/\Ab W w' (Ke b c (Ao t1 key++(Ao t2 key++[key]))::M):=by
 have hnd:=nd4 (t1:=t1) (t2:=t2) (b1:=b1) (b2:=b2) (M:=cA b s xb c p::M) (by exact Ab.fin hs);have hn:=(V2 (K:=[t1,t2,b1,b2]) (s:=s) (xb:=xb) (N:=5000) (M:=cA b s xb c p::M) (W:=W) (w:=w) (by exact Ab.fin hs)).1;refine(Fa AN (K:=[t1,t2,b1,b2]) (j:=1) hs (lt4 (by decide)) hz (by omega) (Nat.le_refl 4) hl).mono λe w ⟨he,hs⟩=>⟨he,?_⟩;refine D6 (t1:=Ao t1 key) (t2:=Ao t2 key++[key]) (b1:=Ao b1 key) (b2:=Ao b2 key) ⟨rfl,hk,hp,?_,?_⟩ hs
 ·have a1:=Bj t1 key;have a2:=Bj b1 key;omega
 ·have a1:=(Co hn hm).length_eq;rw[<- A4c hnd] at a1;have a2:(Dr [t1,t2,b1,b2] key).flatten.length=(Ao t1 key).length+(Ao t2 key).length+(Ao b1 key).length+(Ao b2 key).length:=CR;rw[CR,List.length_append];simp only[List.length_cons,List.length_nil] at *;omega
theorem YH{c:Int}{R g S:BL}(h:Lh c R g S)(hk:Dl c R):S.length<=1024:=by
 have h1:=hk.room;have h2:=hk.c2
 rcases h with⟨_,rfl,_⟩|⟨x,_,he,_⟩
 ·omega
 ·have:=he.ok.room;omega
abbrev Aer(W:World)(M:List HP)(b:Nat)(c:Int)(R:BL)(key:BA):VW:=λv w'=>∃(hit:Bool) (l:Sl) (g S:BL),v = .tuple #[.b hit,.l l.a l.n l.c]/\Ey c R key hit g S/\Ab W w' (Ke b c S::recs Rec.str l g::M)
theorem A24{l:Sl}{g:BL}(hs:Ab W w (cA b s xb c p::rowsC s xb 5000 [t1,t2,b1,b2]::recs Rec.str l g::M))(hz:key.size<64)(hk:Dl c R)(hno:key∉R)(hrec:Lh c R g (t1++t2))(hm:key∈[t1,t2,b1,b2].flatten)(hp:0<=p/\p<=c)(h1:(t1.length:Int)+b1.length<=c)(h2:([t1,t2,b1,b2].flatten.length:Int)<=2*c) :
  Fh Be (Aer W M b c R key) (some ⟨b,0,none⟩) key l w:=by
 refine jw WL ?_;have hnS:=hrec.not hno;have n1:key∉t1:=λh=>hnS (List.mem_append_left _ h);have n2:key∉t2:=λh=>hnS (List.mem_append_right _ h);have ha:=Ey.miss hk hno hz hrec (T:=Ao t1 key++(Ao t2 key++[key])) (by rw[FQ n1,FQ n2];exact Eo)
 have hl:=YH hrec hk;rw[List.length_append] at hl;refine Aa (Ah (x:=s) hs (Ah hs ?_));refine Ar (VN hs hz hm (by omega) hp h1 h2 ha.ok) λe w ⟨he,hs⟩=>⟨he,?_⟩;exact⟨false,l,g,_,rfl,ha,hs⟩
theorem Aeu(hz:key.size<64)(hs:Ab W w (Ke b c R::M)):AZ PR 246 #[pq b 0,.s key] w (Aer W M b c R key):=by
 refine cw ⟨mixed,Tryz.func246,rfl⟩ Aky ?_;have h0:=DV hs;clear hs;obtain⟨s,xb,p,t1,t2,b1,b2,h1,hs⟩:=h0;have hn:=h1.num;have hk:=h1.ok;have hp:=h1.p0;have htot:=h1.tot;have hl1:=h1.l1;obtain rfl:=h1.eq;refine Ac rfl (Aa (Ah (x:=s) hs (Ah hs ?_)));refine Am (DF AN (K:=[t1,t2,b1,b2]) hs hz) λe w ⟨he,hs⟩=>⟨_,he,?_⟩;have hit:∀(w:World)(i:Int)(t:Bool),key∈t1++t2->t=true->Ab W w (cA b s xb c p::rowsC s xb 5000 [t1,t2,b1,b2]::M)->Uo Be (Aer W M b c (t1++t2) key) (some ⟨b,0,none⟩) key i t w:=by
  clear hs;rintro w i _ hm rfl hs;refine jw Gm ?_;have ha:=Ey.same (S:=Ao t1 key++(Ao t2 key++[key])) hk hm (by
   rw[<- List.append_assoc,<- ET];exact List.perm_append_comm.trans (Co hk.nd hm).symm)
  refine Ak rfl (Aa (Ah (x:=s) hs (Ah hs ?_)));refine Ar (VN hs hz (by rcases List.mem_append.1 hm with h|h <;> simp[h]) (by omega) hp hl1 htot ha.ok) λe w ⟨he,hs⟩=>⟨he,?_⟩
  exact⟨true,⟨none,0,0⟩,[],_,rfl,ha,(Ab.nilR Rec.str hs).perm (List.Perm.swap _ _ _)⟩
 have bcase:∀(w:World)(q:Int)(again:Bool),0<=q/\q<=c->key∉t1++t2->key∈[t1,t2,b1,b2].flatten->Ab W w (cA b s xb c q::rowsC s xb 5000 [t1,t2,b1,b2]::M) ->
   (call1 .slc PR 259 [pq b 0,.b again] λ(x:Sl)=>Fh Be (Aer W M b c (t1++t2) key) (some ⟨b,0,none⟩) key x) w:=by
  clear hs;intro w q again hq hno hm hs;refine Ag (LD hs hk (by omega)) λv w ⟨l,g,u1,u2,d1,d2,hv,⟨h5,h6,h7⟩,hs⟩=>⟨l,hv,?_⟩;exact A24 hs hz hk hno h5 (h6.mem_iff.2 hm) hq (by omega) (by rw[h6.length_eq];exact htot)
 rcases Aqg t1 t2 b1 b2 key with⟨h,h4⟩|⟨h,h4,h5⟩|⟨h,h4,h5,h6⟩|⟨h,h4,h5,h6,h7⟩|⟨h,h4,h5,h6,h7⟩ <;> rw[h]
 ·exact Ak rfl (hit w _ _ (List.mem_append_left _ h4) rfl hs)
 ·exact Ac rfl (hit w _ _ (List.mem_append_right _ h5) rfl hs)
 ·refine Ac rfl ?_;refine jw Gm ?_;refine Ac rfl (Ak rfl ?_);have h0:0<b1.length:=List.length_pos_of_mem h6;have cont:∀(w:World)(m n:Int),m=(Bv [t1,t2,b1,b2] [3]:Int)->n=(Bv [t1,t2,b1,b2] [2]:Int)->Ab W w (cA b s xb c p::rowsC s xb 5000 [t1,t2,b1,b2]::M)->(AX (n≠0)<| Ad (some ⟨b,0,none⟩) λb_28 o_29=>
    st b_28 (o_29+3) (.i (if (IntKind.wrap .i64 (p+(if (IntKind.wrap .i64 (Int.tdiv m n))>(1:Int) then (IntKind.wrap .i64 (Int.tdiv m n)) else (1:Int))))<c then (IntKind.wrap .i64 (p+(if (IntKind.wrap .i64 (Int.tdiv m n))>(1:Int) then (IntKind.wrap .i64 (Int.tdiv m n)) else (1:Int)))) else c))<|
    call1 .slc PR 259 [pq b 0,.b false] λ(x_30:Sl)=>
    Fh Be (Aer W M b c (t1++t2) key) (some ⟨b,0,none⟩) key x_30) w:=by
   clear hs;intro w m n hm hn2 hs;have e2:n=(b1.length:Int):=by rw[hn2];simp[Bv]
   have e3:m=(b2.length:Int):=by rw[hm];simp[Bv]
   subst e2 e3;refine Aw (by omega) (Aa ?_);refine A4 hs λw hs=>?_;rw[A30 (N:=5000) (by omega) (by omega) (by omega)] at hs;exact bcase w _ false (by omega) (by simp[h4,h5]) (by simp[h6]) hs
  refine Al [cA b s xb c p] hs λw hs=>?_;refine Aa (Aq (Aa (Aq (Aa (Aq (x:=s) (Aq (Aa (Aq (x:=s) (Aq ?_)))))))));refine⟨?_,?_⟩
  ·refine Ai hs λb3 w hs=>Af hs ⟨?_,?_⟩
   ·refine AM AN (nr:=4) (K:=[t1,t2,b1,b2]) [3] (M:=cA b s xb c p::M) (by exact Ab.fin hs) (by omega) rfl λw hs=>Af hs ?_;refine Ai hs λnb w hs=>Af hs ?_;refine AM AN (nr:=4) (K:=[t1,t2,b1,b2]) [2] (M:=cA b s xb c p::M) (by exact Ab.fin hs) (by omega) rfl λw hs=>Af hs ?_;exact cont w _ _ rfl rfl (by exact Ab.fin hs)
   ·refine Ai hs λnb w hs=>Af hs ?_;refine AM AN (nr:=4) (K:=[t1,t2,b1,b2]) [3] (M:=blk nb [.i (2:Int)]::cA b s xb c p::M) (by exact Ab.fin hs) (by omega) rfl λw hs=>Af hs ?_;refine AM AN (nr:=4) (K:=[t1,t2,b1,b2]) [2] (M:=cA b s xb c p::M) (by exact Ab.fin hs) (by omega) rfl λw hs=>Af hs ?_;exact cont w _ _ rfl rfl (by exact Ab.fin hs)
  ·refine Ai hs λnb w hs=>Af hs ?_;refine Ai hs λb3 w hs=>Af hs ?_;refine AM AN (nr:=4) (K:=[t1,t2,b1,b2]) [3] (M:=blk nb [.i (2:Int)]::cA b s xb c p::M) (by exact Ab.fin hs) (by omega) rfl λw hs=>Af hs ?_;refine AM AN (nr:=4) (K:=[t1,t2,b1,b2]) [2] (M:=cA b s xb c p::M) (by exact Ab.fin hs) (by omega) rfl λw hs=>Af hs ?_;exact cont w _ _ rfl rfl (by exact Ab.fin hs)
 ·refine Ac rfl ?_;refine jw Gm ?_;refine Ac rfl (Ac rfl (Ak rfl ?_));have h0:0<b2.length:=List.length_pos_of_mem h7;have cont:∀(w:World)(m n:Int),m=(Bv [t1,t2,b1,b2] [2]:Int)->n=(Bv [t1,t2,b1,b2] [3]:Int)->Ab W w (cA b s xb c p::rowsC s xb 5000 [t1,t2,b1,b2]::M)->(AX (n≠0)<| Ad (some ⟨b,0,none⟩) λb_28 o_29=>
    st b_28 (o_29+3) (.i (if (IntKind.wrap .i64 (p-(if (IntKind.wrap .i64 (Int.tdiv m n))>(1:Int) then (IntKind.wrap .i64 (Int.tdiv m n)) else (1:Int))))>(0:Int) then (IntKind.wrap .i64 (p-(if (IntKind.wrap .i64 (Int.tdiv m n))>(1:Int) then (IntKind.wrap .i64 (Int.tdiv m n)) else (1:Int)))) else (0:Int)))<|
    call1 .slc PR 259 [pq b 0,.b true] λ(x_30:Sl)=>
    Fh Be (Aer W M b c (t1++t2) key) (some ⟨b,0,none⟩) key x_30) w:=by
   clear hs;intro w m n hm hn2 hs;have e2:n=(b2.length:Int):=by rw[hn2];simp[Bv]
   have e3:m=(b1.length:Int):=by rw[hm];simp[Bv]
   subst e2 e3;refine Aw (by omega) (Aa ?_);refine A4 hs λw hs=>?_;rw[Aqx (N:=5000) (by omega) (by omega) (by omega)] at hs;exact bcase w _ true (by omega) (by simp[h4,h5]) (by simp[h7]) hs
  refine Al [cA b s xb c p] hs λw hs=>?_;refine Aa (Aq (Aa (Aq (x:=s) (Aq (Aa (Aq (x:=s) (Aq ?_)))))));refine⟨?_,?_⟩
  ·refine Ai hs λb3 w hs=>Af hs ⟨?_,?_⟩
   ·refine AM AN (nr:=4) (K:=[t1,t2,b1,b2]) [2] (M:=cA b s xb c p::M) (by exact Ab.fin hs) (by omega) rfl λw hs=>Af hs ?_;refine Ai hs λnb w hs=>Af hs ?_;refine AM AN (nr:=4) (K:=[t1,t2,b1,b2]) [3] (M:=cA b s xb c p::M) (by exact Ab.fin hs) (by omega) rfl λw hs=>Af hs ?_;exact cont w _ _ rfl rfl (by exact Ab.fin hs)
   ·refine Ai hs λnb w hs=>Af hs ?_;refine AM AN (nr:=4) (K:=[t1,t2,b1,b2]) [2] (M:=blk nb [.i (3:Int)]::cA b s xb c p::M) (by exact Ab.fin hs) (by omega) rfl λw hs=>Af hs ?_;refine AM AN (nr:=4) (K:=[t1,t2,b1,b2]) [3] (M:=cA b s xb c p::M) (by exact Ab.fin hs) (by omega) rfl λw hs=>Af hs ?_;exact cont w _ _ rfl rfl (by exact Ab.fin hs)
  ·refine Ai hs λnb w hs=>Af hs ?_;refine Ai hs λb3 w hs=>Af hs ?_;refine AM AN (nr:=4) (K:=[t1,t2,b1,b2]) [2] (M:=blk nb [.i (3:Int)]::cA b s xb c p::M) (by exact Ab.fin hs) (by omega) rfl λw hs=>Af hs ?_;refine AM AN (nr:=4) (K:=[t1,t2,b1,b2]) [3] (M:=cA b s xb c p::M) (by exact Ab.fin hs) (by omega) rfl λw hs=>Af hs ?_;exact cont w _ _ rfl rfl (by exact Ab.fin hs)
 ·refine Ac rfl ?_;refine jw Gm ?_;refine Ac rfl (Ac rfl (Ac rfl ?_));have hno:key∉t1++t2:=by simp[h4,h5]
  refine Ag (Aie hs h1) λv w ⟨l,g,u1,u2,d1,d2,hv,⟨h8,h9,h10,h11⟩,hs⟩=>⟨l,hv,?_⟩;have hkn:key∉[u1,u2,d1,d2].flatten:=λhm=>by
   have:=h9 _ hm;simp[h4,h5,h6,h7] at this
  rw[CR] at h11;have hll:=YH h8 hk;rw[List.length_append] at hll;refine Aa (Ah (x:=s) hs (Ah hs ?_));refine Ar (Fa AN (K:=[u1,u2,d1,d2]) (j:=0) hs (lt4 (by decide)) hz (by omega) (Nat.le_refl 4) (show u1.length<5000 by omega)) λe w ⟨he,hs⟩=>⟨he,?_⟩;have e1:Dd [u1,u2,d1,d2] 0 key=[u1++[key],u2,d1,d2]:=by
   show[Ao u1 _++[_],Ao u2 _,Ao d1 _,Ao d2 _]=_;rw[FQ λh=>hkn (by simp[h]),FQ λh=>hkn (by simp[h]),FQ λh=>hkn (by simp[h]),FQ λh=>hkn (by simp[h])]
  rw[e1] at hs;have ha:=Ey.miss hk hno hz h8 (T:=(u1++[key])++u2) Dk;exact⟨false,l,g,_,rfl,ha,D6 ⟨rfl,ha.ok,hp,by simp only[List.length_append,List.length_cons,List.length_nil];omega,by rw[CR];simp only[List.length_append,List.length_cons,List.length_nil];omega⟩ hs⟩
theorem Aqq(hz:key.size<64)(hs:Ab W w (Ke b c R::M)):AZ PR 252 #[pq b 0,.s key] w λv w'=>∃(yes:Bool) (S:BL),v = .b yes/\Db c R key yes S/\Ab W w' (Ke b c S::M):=by
 refine cw ⟨mixed,Tryz.func252,rfl⟩ Ak4 ?_;have hk:=TO hs;have hr:=hk.room;refine Al [Ke b c R] hs λw hs=>?_;refine Ac rfl ?_;refine Ag (Zq hz hs) λv w ⟨hv,hs⟩=>⟨_,hv,Af hs ?_⟩
 with_reducible refine Ay (λh1=>?_) (λh1=>?_)
 ·exact Af hs ⟨false,R,rfl,Db.no hk (λh=>h.1 h1),hs⟩
 refine Aa ?_;refine FV (k:=.int .i64) c (λw' h=>Aqz h) ?_;refine Ag (Zr hs) λv w ⟨hv,hs⟩=>⟨_,hv,Af hs ?_⟩
 with_reducible refine Ay (λh2=>?_) (λh2=>?_)
 ·exact⟨false,R,rfl,Db.no hk (λh=>by omega),hs⟩
 refine jw WM ?_;obtain⟨s,xb,p,t1,t2,b1,b2,h3,hs⟩:=DV hs;have hn:=h3.num;have htot:=h3.tot;have hp:=h3.p0;refine Aa (Ah (x:=s) hs (Ah hs ?_));refine Ar (Fa AN (K:=[t1,t2,b1,b2]) (j:=0) hs (lt4 (by decide)) hz (by omega) (Nat.le_refl 4) (show t1.length<5000 by omega)) λe w ⟨he,hs⟩=>⟨he,?_⟩;have hs:Ab W w (cA b s xb c p::rowsC s xb 5000 [Ao t1 key++[key],Ao t2 key,Ao b1 key,Ao b2 key]::M):=hs;have n1:key∉t1:=λh=>h1 (by rw[h3.eq];exact List.mem_append_left _ h)
 have n2:key∉t2:=λh=>h1 (by rw[h3.eq];exact List.mem_append_right _ h);rw[FQ n1,FQ n2] at hs;have hl:=Db.yes hk hz h1 (by omega) (S:=(t1++[key])++t2) (by rw[h3.eq];exact Dk)
 have hrm:=hl.ok.room;have a3:=Bj b1 key;have a4:=Bj b2 key;have e1:(t1++[key]).length=t1.length+1:=by simp
 rw[List.length_append] at hrm;generalize t1++[key]=u1 at *;generalize Ao b1 key=d1 at *;generalize Ao b2 key=d2 at *;have loop2:∀(f:Nat)(w:World)(d1 d2:BL),((u1.length:Int)+t2.length+d1.length+d2.length-2*c).toNat=f->((u1.length:Int)+d1.length<=c)->d1.length<=1024->d2.length<=4096->Ab W w (cA b s xb c p::rowsC s xb 5000 [u1,t2,d1,d2]::M) ->
   NV Be (λv w'=>∃(yes:Bool) (S:BL),v = .b yes/\Db c R key yes S/\Ab W w' (Ke b c S::M)) (f+1) (some ⟨b,0,none⟩) w:=by
  clear hs;intro f
  induction f with
  | zero=>
   intro w d1 d2 hf hl1 hd1 hd2 hs;rw[Mi];have e4:(Bv [u1,t2,d1,d2] [0,1,2,3]:Int)=u1.length+t2.length+d1.length+d2.length:=by simp[Bv];omega
   refine Al [cA b s xb c p] hs λw hs=>?_;refine Aa (Aq (x:=s) (Aq (Aa (Aq ?_))));refine Ai hs λnb w hs=>Af hs ?_;refine AM AN (nr:=4) (K:=[u1,t2,d1,d2]) [0,1,2,3] (M:=cA b s xb c p::M) (by exact Ab.fin hs) (by omega) rfl λw hs=>Af hs ?_;rw[e4,i64_in (2*c) (by omega)];refine Ac (decide_eq_false (by omega)) ?_;refine jw WO ?_;exact⟨true,_,rfl,hl,D6 (t1:=u1) (t2:=t2) (b1:=d1) (b2:=d2) (s:=s) (xb:=xb) ⟨rfl,hl.ok,hp,by omega,by rw[CR];omega⟩ (by exact Ab.fin hs)⟩
  | succ f ih=>
   intro w d1 d2 hf hl1 hd1 hd2 hs;rw[Mi];have hnd:=nd4 (t1:=u1) (t2:=t2) (b1:=d1) (b2:=d2) (M:=cA b s xb c p::M) (by exact Ab.fin hs);have h0:0<d2.length:=by omega
   have e4:(Bv [u1,t2,d1,d2] [0,1,2,3]:Int)=u1.length+t2.length+d1.length+d2.length:=by simp[Bv];omega
   refine Al [cA b s xb c p] hs λw hs=>?_;refine Aa (Aq (x:=s) (Aq (Aa (Aq ?_))));refine Ai hs λnb w hs=>Af hs ?_;refine AM AN (nr:=4) (K:=[u1,t2,d1,d2]) [0,1,2,3] (M:=cA b s xb c p::M) (by exact Ab.fin hs) (by omega) rfl λw hs=>Af hs ?_;rw[e4,i64_in (2*c) (by omega)];refine Ak (decide_eq_true (by omega)) ?_;have hs:Ab W w (cA b s xb c p::rowsC s xb 5000 [u1,t2,d1,d2]::M):=by exact Ab.fin hs
   refine Al [cA b s xb c p] hs λw hs=>?_;refine Aa (Aq (x:=s) (Aq (Aa (Ah (x:=s) hs (Ah hs (Af hs ?_))))));refine Am (Bt AN (K:=[u1,t2,d1,d2]) (j:=3) hs (lt4 (by decide)) (Nat.le_refl 4)) λe w ⟨he,hs⟩=>⟨_,he,Af hs ?_⟩;refine Ar (BT AN (K:=[u1,t2,d1,d2]) (key:=BW d2) hs (hnd.small _ (JC.2 (.inr (.inr (.inr (C2 h0)))))) (by omega) (Nat.le_refl 4)) λe w ⟨he,hs⟩=>⟨he,?_⟩;rw[Ay4 hnd h0] at hs;exact ih w _ _ (by rw[List.length_drop];omega) hl1 hd1 (by rw[List.length_drop];omega) hs
 have loop1:∀(f:Nat)(w:World)(d1:BL),((u1.length:Int)+d1.length-c).toNat=f->d1.length<=1024->Ab W w (cA b s xb c p::rowsC s xb 5000 [u1,t2,d1,d2]::M) ->
   NU Be (λv w'=>∃(yes:Bool) (S:BL),v = .b yes/\Db c R key yes S/\Ab W w' (Ke b c S::M)) (f+1) (some ⟨b,0,none⟩) w:=by
  clear hs;intro f
  induction f with
  | zero=>
   intro w d1 hf hd1 hs;rw[Mh];have e2:(Bv [u1,t2,d1,d2] [0,2]:Int)=u1.length+d1.length:=by simp[Bv]
   refine Al [cA b s xb c p] hs λw hs=>?_;refine Aa (Aq (x:=s) (Aq (Aa (Aq ?_))));refine Ai hs λnb w hs=>Af hs ?_;refine AM AN (nr:=4) (K:=[u1,t2,d1,d2]) [0,2] (M:=cA b s xb c p::M) (by exact Ab.fin hs) (by omega) rfl λw hs=>Af hs ?_;rw[e2];refine Ac (decide_eq_false (by omega)) ?_;refine jw WN ?_;exact AJ _ (loop2 _ w d1 d2 rfl (by omega) hd1 (by omega) (by exact Ab.fin hs))
  | succ f ih=>
   intro w d1 hf hd1 hs;rw[Mh];have hnd:=nd4 (t1:=u1) (t2:=t2) (b1:=d1) (b2:=d2) (M:=cA b s xb c p::M) (by exact Ab.fin hs);have h0:0<d1.length:=by omega
   have e2:(Bv [u1,t2,d1,d2] [0,2]:Int)=u1.length+d1.length:=by simp[Bv]
   refine Al [cA b s xb c p] hs λw hs=>?_;refine Aa (Aq (x:=s) (Aq (Aa (Aq ?_))));refine Ai hs λnb w hs=>Af hs ?_;refine AM AN (nr:=4) (K:=[u1,t2,d1,d2]) [0,2] (M:=cA b s xb c p::M) (by exact Ab.fin hs) (by omega) rfl λw hs=>Af hs ?_;rw[e2];refine Ak (decide_eq_true (by omega)) ?_;have hs:Ab W w (cA b s xb c p::rowsC s xb 5000 [u1,t2,d1,d2]::M):=by exact Ab.fin hs
   refine Al [cA b s xb c p] hs λw hs=>?_;refine Aa (Aq (x:=s) (Aq (Aa (Ah (x:=s) hs (Ah hs (Af hs ?_))))));refine Am (Bt AN (K:=[u1,t2,d1,d2]) (j:=2) hs (lt4 (by decide)) (Nat.le_refl 4)) λe w ⟨he,hs⟩=>⟨_,he,Af hs ?_⟩;refine Ar (BT AN (K:=[u1,t2,d1,d2]) (key:=BW d1) hs (hnd.small _ (JC.2 (.inr (.inr (.inl (C2 h0)))))) (by omega) (Nat.le_refl 4)) λe w ⟨he,hs⟩=>⟨he,?_⟩;rw[Ay3 hnd h0] at hs;exact ih w _ (by rw[List.length_drop];omega) (by rw[List.length_drop];omega) hs
 exact AJ _ (loop1 _ w d1 rfl (by omega) hs)
theorem Aev(hz:key.size<64)(hs:Ab W w (Ke b c R::M)):AZ PR 253 #[pq b 0,.s key] w λv w'=>∃(yes:Bool) (S:BL),v = .b yes/\Fz c R key yes S/\Ab W w' (Ke b c S::M):=by
 refine cw ⟨mixed,Tryz.func253,rfl⟩ Ak5 ?_;have hk:=TO hs;refine Ag (Zq hz hs) λv w ⟨hv,hs⟩=>⟨_,hv,?_⟩
 by_cases h1:key∈R
 ·refine Ac (by rw[decide_eq_true h1];rfl) ?_;obtain⟨s,xb,p,t1,t2,b1,b2,h3,hs⟩:=DV hs;have hn:=h3.num;refine Aa (Ah (x:=s) hs (Ah hs ?_));refine Ar (BT AN (K:=[t1,t2,b1,b2]) hs hz (by omega) (Nat.le_refl 4)) λe w ⟨he,hs⟩=>⟨he,?_⟩;rw[h3.eq] at hk h1;have hr:=Fz.cut2 hk h1;rw[<- h3.eq] at hr;have a1:=Bj t1 key;have a2:=Bj t2 key;have a3:=Bj b1 key;have a4:=Bj b2 key;exact⟨true,_,rfl,hr,D6 (t1:=Ao t1 key) (t2:=Ao t2 key) (b1:=Ao b1 key) (b2:=Ao b2 key) ⟨rfl,hr.ok,h3.p0,by omega,by rw[CR];omega⟩ hs⟩
 ·refine Ak (by rw[decide_eq_false h1];rfl) ⟨false,R,rfl,Fz.no hk h1,hs⟩
end
end Go.Proofs.YtjipofkjmmpjdaaGreat
namespace Go.Hb
abbrev SL:=List (BA×Int)
instance A36{e:BA×Int}{S:SL}:Decidable (e∈S):=decidable_of_iff (S.any (λx=>decide (x=e))=true) (by simp)
structure Bb where
 s:SL
 q:List BA
def AR(S:SL):List BA:=S.map (·.1)
def A8(S:SL)(i:Int):Nat:=S.countP λe=>decide (e.2=i)
def Cp(S:SL)(i:Int):List BA:=(S.filter λe=>decide (e.2=i)).map (·.1)
def IQ(S:SL)(k:BA):Int:=((S.find? λe=>decide (e.1=k)).map (·.2)).getD 0
def Bq(S:SL)(k:BA):SL:=S.filter λe=>decide (e.1≠k)
def He(S:SL)(k:BA)(i:Int):SL:=Bq S k++[(k,i)]
def DS(S:SL):SL:=S.dropWhile λe=>decide (e.2≠1)
def C5(S:SL)(i:Int):Option BA:=(S.find? λe=>decide (e.2=i)).map (·.1)
def BZ(S:SL)(k:BA):SL:=S.map λe=>if e.1=k then (k,3) else e
def CT(c:Int):Int:=c-max 1 (c / 10)
def Lq(x:Bb):Bb:=match C5 x.s 1 with
 | some k=>⟨Bq x.s k,x.q++[k]⟩
 | none=>x
def CS(x:Bb):Bb:=⟨DS (Lq x).s,(Lq x).q⟩
def C6(S:SL):Nat->SL
 | 0=>S
 | n+1=>match C5 S 3 with
  | some k=>C6 (Bq S k) n
  | none=>S
def HG(c:Int)(S:SL):SL:=C6 S ((A8 S 3:Int)-c).toNat
def Du(x:Bb)(k:BA):Bb:=⟨He x.s k 1,Ao x.q k⟩
def DR(c:Int)(x:Bb)(k:BA):Bb:=if CT c<(A8 (Du x k).s 1:Int) then CS (Du x k) else Du x k
def Cf(x:Bb)(k:BA):Bb:=⟨He x.s k 2,Ao x.q k++[k]⟩
def C0(x:Bb):Nat:=x.q.length+A8 x.s 1
def Yt(x:Bb):Bb:=⟨DS x.s,x.q⟩
def Zi(c:Int)(x:Bb):Bb:=⟨DS (HG c x.s),x.q⟩
def PQ(x:Bb):Bb:=if x.q=[] then CS x else x
def Cv(c:Int)(x:Bb):(BA×Bool)×Bb:=
 if C0 x=0 then ((⟨#[]⟩,false),x) else (((PQ x).q.headD ⟨#[]⟩,true),Zi c ⟨BZ (PQ x).s ((PQ x).q.headD ⟨#[]⟩),(PQ x).q.drop 1⟩)
def Hd(c:Int)(x:Bb):List BA×Bb:=if c<=(C0 x:Int) then ([(Cv c x).1.1],(Cv c x).2) else ([],x)
def Re(c:Int)(y:Bb)(k:BA):Bb:=if (A8 y.s 1:Int)<CT c\/IQ y.s k=3 then DR c y k else Cf y k
def Fp(c:Int)(x:Bb)(k:BA):(Bool×List BA)×Bb:=
 if IQ x.s k=1\/(k∈x.q/\IQ x.s k=2) then ((true,[]),Yt (DR c x k))
 else if k∈x.q then ((true,[]),Yt (Cf x k))
 else ((false,(Hd c x).1),Zi c (Re c (Hd c x).2 k))
def BG(x:Bb):List BA:=x.q++Cp x.s 1
def Fq(c:Int)(x:Bb)(k:BA):Bool×Bb:=
 if IQ x.s k=1\/k∈x.q\/(C0 x:Int)=c then (false,x)
 else (true,Yt (if (A8 x.s 1:Int)<CT c then DR c x k else Cf x k))
def KA(x:Bb)(k:BA):Bool×Bb:=if IQ x.s k=1\/k∈x.q then (true,Yt ⟨Bq x.s k,Ao x.q k⟩) else (false,x)
def Fs:Bb:=⟨[],[]⟩
structure LW(x:Bb):Prop where
 sn:(AR x.s).Nodup
 qn:x.q.Nodup
 kinds:∀e∈x.s,e.2=1\/e.2=2\/e.2=3
 hotq:∀e∈x.s,e.2=1->e.1∉x.q
 ghq:∀e∈x.s,e.2=3->e.1∉x.q
 coldq:∀e∈x.s,e.2=2->e.1∈x.q
 ssm:∀e∈x.s,e.1.size<64
 qsm:∀k∈x.q,k.size<64
structure MU(c:Int)(x:Bb):Prop where
 w:LW x
 c1:1<=c
 c2:c<=1024
 hots:(A8 x.s 1:Int)<=CT c
 ghs:(A8 x.s 3:Int)<=c
 len:(C0 x:Int)<=c
section
variable{S:SL}{x:Bb}{k:BA}{c:Int}{i:Int}
theorem Ca{e:BA×Int}:e∈Bq S k↔e∈S/\e.1≠k:=by simp[Bq]
theorem Dq{e:BA×Int}:e∈He S k i↔(e∈S/\e.1≠k)\/e=(k,i):=by unfold He;rw[List.mem_append,Ca,List.mem_singleton]
theorem DJ(S:SL)(k:BA):AR (Bq S k)=Ao (AR S) k:=by unfold AR Bq Ao;rw[List.filter_map];rfl
theorem PU(h:k∉AR S):Bq S k=S:=by
 unfold Bq;rw[List.filter_eq_self];intro e he;exact decide_eq_true λhk=>h (List.mem_map.2 ⟨e,he,hk⟩)
theorem HH(h:(AR S).Nodup):(AR (Bq S k)).Nodup:=by rw[DJ];exact Er h
theorem PX(h:(AR S).Nodup):(AR (He S k i)).Nodup:=by
 unfold He;have:AR (Bq S k++[(k,i)])=Ao (AR S) k++[k]:=by rw[<- DJ];simp[AR]
 rw[this];exact P9 h
theorem Gv(S:SL)(k:BA):AR (BZ S k)=AR S:=by
 unfold AR BZ;rw[List.map_map];refine List.map_congr_left λe _=>?_;simp only[Function.comp];split
 ·rename_i h;exact h.symm
 ·rfl
theorem El{e:BA×Int}:e∈BZ S k↔(e∈S/\e.1≠k)\/(e=(k,3)/\k∈AR S):=by
 unfold BZ AR;simp only[List.mem_map];constructor
 ·rintro⟨a,ha,rfl⟩;split
  ·rename_i h;exact .inr ⟨rfl,a,ha,h⟩
  ·rename_i h;exact .inl ⟨ha,h⟩
 ·rintro(⟨h1,h2⟩|⟨rfl,a,ha,hk⟩)
  ·exact⟨e,h1,by rw[if_neg h2]⟩
  ·exact⟨a,ha,by rw[if_pos hk]⟩
theorem L2{a b:Int}(h:(AR S).Nodup)(h1:(k,a)∈S)(h2:(k,b)∈S):a=b:=by
 have e1:AE S k=some a:=(Bz h).2 h1;have e2:AE S k=some b:=(Bz h).2 h2;rw[e1] at e2;exact Option.some.inj e2
theorem Dj(h:(AR S).Nodup)(hi:i≠0):IQ S k=i↔(k,i)∈S:=by
 rw[<- Bz (m:=S) h];unfold IQ AE;cases hf:(S.find? λe=>decide (e.1=k)) with
 | none=>
  simp only[Option.map_none,Option.getD_none];constructor
  ·intro h;exact absurd h.symm hi
  ·intro h;cases h
 | some e=>simp
theorem Ek(S:SL):(DS S).Sublist S:=List.dropWhile_sublist _
theorem EX(S:SL):A8 (DS S) 1=A8 S 1:=by
 induction S with
 | nil=>rfl
 | cons a S ih=>
  unfold DS;rw[List.dropWhile_cons];split
  ·rename_i ha;simp only[ne_eq,decide_not,Bool.not_eq_eq_eq_not,Bool.not_true,decide_eq_false_iff_not] at ha;show A8 (DS S) 1=_;rw[ih];unfold A8;rw[List.countP_cons_of_neg (by simpa using ha)]
  ·rfl
theorem K9(S:SL):Cp (DS S) 1=Cp S 1:=by
 induction S with
 | nil=>rfl
 | cons a S ih=>
  unfold DS;rw[List.dropWhile_cons];split
  ·rename_i ha;simp only[ne_eq,decide_not,Bool.not_eq_eq_eq_not,Bool.not_true,decide_eq_false_iff_not] at ha;show Cp (DS S) 1=_;rw[ih];unfold Cp;rw[List.filter_cons_of_neg (by simpa using ha)]
  ·rfl
theorem PP{T:SL}(h:T.Sublist S)(i:Int):A8 T i<=A8 S i:=h.countP_le
theorem C4(h:(AR S).Nodup)(i:Int):A8 (Bq S k) i+(if (k,i)∈S then 1 else 0)=A8 S i:=by
 induction S with
 | nil=>rfl
 | cons a S ih=>
  unfold AR at h;rw[List.map_cons,List.nodup_cons] at h;have ih:=ih h.2;unfold Bq A8 at ih ⊢
  by_cases hk:a.1=k
  ·have hno:∀j,(k,j)∉S:=λj hj=>h.1 (List.mem_map.2 ⟨_,hj,hk.symm⟩);rw[List.filter_cons_of_neg (by simpa using hk),List.countP_cons];rw[if_neg (hno i)] at ih;have hme:(k,i)∈a::S↔a.2=i:=by
    rw[List.mem_cons];constructor
    ·rintro(h|h)
     ·rw[<- h]
     ·exact absurd h (hno i)
    ·intro h2;left;rw[<- hk,<- h2]
   simp only[hme,decide_eq_true_eq];omega
  ·rw[List.filter_cons_of_pos (by simpa using hk),List.countP_cons,List.countP_cons];have hme:(k,i)∈a::S↔(k,i)∈S:=by
    rw[List.mem_cons];constructor
    ·rintro(h|h)
     ·exact absurd (by rw[<- h]) hk
     ·exact h
    ·exact .inr
   simp only[hme];omega
theorem K4(j:Int):A8 (He S k i) j=A8 (Bq S k) j+(if i=j then 1 else 0):=by
 unfold He A8;rw[List.countP_append,List.countP_cons];simp
theorem Aay(h:(AR S).Nodup):A8 (BZ S k) 1=A8 (Bq S k) 1/\A8 (BZ S k) 3<=A8 S 3+1:=by
 induction S with
 | nil=>exact⟨rfl,by simp[A8,BZ]⟩
 | cons a S ih=>
  unfold AR at h;rw[List.map_cons,List.nodup_cons] at h;obtain⟨ih1,ih2⟩:=ih h.2
  by_cases hk:a.1=k
  ·have hno:k∉S.map (·.1):=by rw[<- hk];exact h.1
   have e1:BZ S k=S:=by
    unfold BZ
    conv=>rhs;rw[<- List.map_id S]
    refine List.map_congr_left λe he=>?_;rw[if_neg (λh2=>hno (List.mem_map.2 ⟨e,he,h2⟩))];rfl
   have e2:Bq S k=S:=PU hno;have e3:BZ (a::S) k=(k,3)::S:=by
    show(if a.1=k then (k,3) else a)::BZ S k=_;rw[if_pos hk,e1]
   have e4:Bq (a::S) k=S:=by
    have:Bq (a::S) k=Bq S k:=by unfold Bq;rw[List.filter_cons_of_neg (by simpa using hk)]
    rw[this,e2]
   rw[e3,e4];unfold A8;rw[List.countP_cons,List.countP_cons,List.countP_cons];simp
  ·have e3:BZ (a::S) k=a::BZ S k:=by
    show(if a.1=k then (k,3) else a)::BZ S k=_;rw[if_neg hk]
   have e4:Bq (a::S) k=a::Bq S k:=by
    unfold Bq;rw[List.filter_cons_of_pos (by simpa using hk)]
   rw[e3,e4];unfold A8 at *;constructor
   ·rw[List.countP_cons,List.countP_cons,ih1]
   ·rw[List.countP_cons,List.countP_cons];omega
theorem FT(h:C5 S i=some k):(k,i)∈S:=by
 unfold C5 at h;cases hf:(S.find? λe=>decide (e.2=i)) with
 | none=>rw[hf] at h;cases h
 | some e=>
  rw[hf] at h;simp only[Option.map_some,Option.some.injEq] at h;have h1:=List.mem_of_find?_eq_some hf;have h2:=List.find?_some hf;simp only[decide_eq_true_eq] at h2;rw[<- h,<- h2];exact h1
theorem Gu:C5 S i=none↔A8 S i=0:=by
 unfold C5 A8;rw[Option.map_eq_none_iff,List.find?_eq_none,List.countP_eq_zero]
theorem K6:∀(n:Nat)(S:SL),(C6 S n).Sublist S
 | 0,S=>List.Sublist.refl _
 | n+1,S=>by
  unfold C6;split
  ·exact(K6 n _).trans List.filter_sublist
  ·exact List.Sublist.refl _
theorem K5:∀(n:Nat)(S:SL),(AR S).Nodup->A8 (C6 S n) 3=A8 S 3-n/\(∀e∈S,e.2≠3->e∈C6 S n)
 | 0,S,_=>⟨by simp[C6],λe he _=>he⟩
 | n+1,S,h=>by
  unfold C6;split
  ·rename_i k hk;have hm:=FT hk;have h1:=C4 (k:=k) h 3;rw[if_pos hm] at h1;obtain⟨h2,h3⟩:=K5 n (Bq S k) (HH h);refine⟨by omega,λe he he3=>h3 e (Ca.2 ⟨he,λhek=>?_⟩) he3⟩;have:e.2=3:=L2 (k:=k) h (by rw[<- hek];exact he) hm
   exact he3 this
  ·rename_i hk;have:=Gu.1 hk;exact⟨by omega,λe he _=>he⟩
theorem I0:∀(n:Nat)(S:SL),(AR S).Nodup->Cp (C6 S n) 1=Cp S 1/\A8 (C6 S n) 1=A8 S 1
 | 0,S,_=>⟨rfl,rfl⟩
 | n+1,S,h=>by
  unfold C6;split
  ·rename_i k hk;have hm:=FT hk;obtain⟨h2,h3⟩:=I0 n (Bq S k) (HH h);have hne:∀e∈S,e.2=1->e.1≠k:=λe he h1 hek=>by
    have:e.2=3:=L2 (k:=k) h (by rw[<- hek];exact he) hm;omega
   have h4:(Bq S k).filter (λe=>decide (e.2=1))=S.filter (λe=>decide (e.2=1)):=by
    unfold Bq;rw[List.filter_filter];refine List.filter_congr λe he=>?_
    by_cases h1:e.2=1
    ·simp[h1,hne e he h1]
    ·simp[h1]
   rw[h2,h3];unfold Cp A8;rw[h4,List.countP_eq_length_filter,List.countP_eq_length_filter,h4];exact⟨rfl,rfl⟩
  ·exact⟨rfl,rfl⟩
theorem PW:k∈Cp S i↔(k,i)∈S:=by
 unfold Cp;simp only[List.mem_map,List.mem_filter,decide_eq_true_eq];constructor
 ·rintro⟨e,⟨h1,h2⟩,rfl⟩;rw[<- h2];exact h1
 ·intro h;exact⟨_,⟨h,rfl⟩,rfl⟩
theorem Aa2(S:SL)(i:Int):(Cp S i).length=A8 S i:=by unfold Cp A8;rw[List.length_map,List.countP_eq_length_filter]
theorem Bc:k∈BG x↔k∈x.q\/(k,1)∈x.s:=by unfold BG;rw[List.mem_append,PW]
theorem I1(x:Bb):(BG x).length=C0 x:=by unfold BG C0;rw[List.length_append,Aa2]
theorem LW.res_nd(h:LW x):(BG x).Nodup:=by
 unfold BG;rw[List.nodup_append];refine⟨h.qn,?_,λa ha b hb hab=>?_⟩
 ·exact h.sn.sublist (List.filter_sublist.map _)
 ·subst hab;exact h.hotq _ (PW.1 hb) rfl ha
theorem LW.heat(h:LW x)(hz:k.size<64):LW (Du x k):=by
 refine⟨PX h.sn,Er h.qn,λe he=>?_,λe he h1=>?_,λe he h1=>?_,λe he h1=>?_,λe he=>?_,λy hy=>h.qsm y (AK.1 hy).1⟩
 ·rcases Dq.1 he with⟨he,_⟩|rfl
  ·exact h.kinds e he
  ·exact .inl rfl
 ·rcases Dq.1 he with⟨he,hk⟩|rfl
  ·exact λhq=>h.hotq e he h1 (AK.1 hq).1
  ·exact λhq=>(AK.1 hq).2 rfl
 ·rcases Dq.1 he with⟨he,hk⟩|rfl
  ·exact λhq=>h.ghq e he h1 (AK.1 hq).1
  ·cases h1
 ·rcases Dq.1 he with⟨he,hk⟩|rfl
  ·exact AK.2 ⟨h.coldq e he h1,hk⟩
  ·cases h1
 ·rcases Dq.1 he with⟨he,hk⟩|rfl
  ·exact h.ssm e he
  ·exact hz
theorem LW.chill(h:LW x)(hz:k.size<64):LW (Cf x k):=by
 refine⟨PX h.sn,P9 h.qn,λe he=>?_,λe he h1=>?_,λe he h1=>?_,λe he h1=>?_,λe he=>?_,λy hy=>?_⟩
 ·rcases Dq.1 he with⟨he,_⟩|rfl
  ·exact h.kinds e he
  ·exact .inr (.inl rfl)
 ·rcases Dq.1 he with⟨he,hk⟩|rfl
  ·intro hq;rcases List.mem_append.1 hq with hq|hq
   ·exact h.hotq e he h1 (AK.1 hq).1
   ·exact hk (List.mem_singleton.1 hq)
  ·cases h1
 ·rcases Dq.1 he with⟨he,hk⟩|rfl
  ·intro hq;rcases List.mem_append.1 hq with hq|hq
   ·exact h.ghq e he h1 (AK.1 hq).1
   ·exact hk (List.mem_singleton.1 hq)
  ·cases h1
 ·rcases Dq.1 he with⟨he,hk⟩|rfl
  ·exact List.mem_append_left _ (AK.2 ⟨h.coldq e he h1,hk⟩)
  ·exact List.mem_append_right _ (List.mem_singleton.2 rfl)
 ·rcases Dq.1 he with⟨he,hk⟩|rfl
  ·exact h.ssm e he
  ·exact hz
 ·rcases List.mem_append.1 hy with hy|hy
  ·exact h.qsm y (AK.1 hy).1
  ·rw[List.mem_singleton] at hy;subst hy;exact hz
theorem LW.sub(h:LW x){T:SL}(hT:T.Sublist x.s):LW ⟨T,x.q⟩:=
 ⟨h.sn.sublist (hT.map _),h.qn,λe he=>h.kinds e (hT.subset he),λe he=>h.hotq e (hT.subset he),λe he=>h.ghq e (hT.subset he),λe he=>h.coldq e (hT.subset he),λe he=>h.ssm e (hT.subset he),h.qsm⟩
theorem LW.cool(h:LW x)(hk:(k,1)∈x.s):LW ⟨Bq x.s k,x.q++[k]⟩:=by
 have hq:=h.hotq _ hk rfl;refine⟨HH h.sn,?_,λe he=>h.kinds e (Ca.1 he).1,λe he h1 hq2=>?_,λe he h1 hq2=>?_,λe he h1=>List.mem_append_left _ (h.coldq e (Ca.1 he).1 h1),λe he=>h.ssm e (Ca.1 he).1,λy hy=>?_⟩
 ·rw[List.nodup_append];exact⟨h.qn,by simp,λa ha b hb hab=>by rw[List.mem_singleton] at hb;subst hb;exact hq (hab ▸ ha)⟩
 ·rcases List.mem_append.1 hq2 with h2|h2
  ·exact h.hotq e (Ca.1 he).1 h1 h2
  ·exact(Ca.1 he).2 (List.mem_singleton.1 h2)
 ·rcases List.mem_append.1 hq2 with h2|h2
  ·exact h.ghq e (Ca.1 he).1 h1 h2
  ·exact(Ca.1 he).2 (List.mem_singleton.1 h2)
 ·rcases List.mem_append.1 hy with hy|hy
  ·exact h.qsm y hy
  ·rw[List.mem_singleton] at hy;subst hy;exact h.ssm _ hk
theorem LW.ghost{t:List BA}(h:LW x)(hq:x.q=k::t):LW ⟨BZ x.s k,t⟩:=by
 have hn:=h.qn;rw[hq,List.nodup_cons] at hn;have hsub:∀y∈t,y∈x.q:=λy hy=>by rw[hq];exact .tail _ hy
 refine⟨by rw[Gv];exact h.sn,hn.2,λe he=>?_,λe he h1=>?_,λe he h1=>?_,λe he h1=>?_,λe he=>?_,λy hy=>h.qsm y (hsub y hy)⟩
 ·rcases El.1 he with⟨he,_⟩|⟨rfl,_⟩
  ·exact h.kinds e he
  ·exact .inr (.inr rfl)
 ·rcases El.1 he with⟨he,hk⟩|⟨rfl,_⟩
  ·exact λh2=>h.hotq e he h1 (hsub _ h2)
  ·cases h1
 ·rcases El.1 he with⟨he,hk⟩|⟨rfl,_⟩
  ·exact λh2=>h.ghq e he h1 (hsub _ h2)
  ·exact hn.1
 ·rcases El.1 he with⟨he,hk⟩|⟨rfl,_⟩
  ·have:=h.coldq e he h1;rw[hq] at this;rcases List.mem_cons.1 this with h2|h2
   ·exact absurd h2 hk
   ·exact h2
  ·cases h1
 ·rcases El.1 he with⟨he,hk⟩|⟨rfl,_⟩
  ·exact h.ssm e he
  ·exact h.qsm k (by rw[hq];exact .head _)
theorem LW.rem(h:LW x)(k:BA):LW ⟨Bq x.s k,Ao x.q k⟩:=
 ⟨HH h.sn,Er h.qn,λe he=>h.kinds e (Ca.1 he).1,λe he h1 hq=>h.hotq e (Ca.1 he).1 h1 (AK.1 hq).1,λe he h1 hq=>h.ghq e (Ca.1 he).1 h1 (AK.1 hq).1,
  λe he h1=>AK.2 ⟨h.coldq e (Ca.1 he).1 h1,(Ca.1 he).2⟩,λe he=>h.ssm e (Ca.1 he).1,λy hy=>h.qsm y (AK.1 hy).1⟩
theorem IT(x:Bb):BG (Yt x)=BG x:=by unfold BG Yt;rw[K9]
theorem K8(x:Bb):C0 (Yt x)=C0 x/\A8 (Yt x).s 1=A8 x.s 1/\A8 (Yt x).s 3<=A8 x.s 3:=by
 refine⟨?_,EX _,PP (Ek _) 3⟩;unfold C0 Yt;rw[EX]
theorem Adz(h:(AR x.s).Nodup):BG (Zi c x)=BG x/\C0 (Zi c x)=C0 x/\A8 (Zi c x).s 1=A8 x.s 1/\(0<=c->(A8 (Zi c x).s 3:Int)<=c):=by
 obtain⟨h1,h2⟩:=I0 ((A8 x.s 3:Int)-c).toNat x.s h;obtain⟨h3,_⟩:=K5 ((A8 x.s 3:Int)-c).toNat x.s h;have h4:=PP (Ek (HG c x.s)) 3;refine⟨?_,?_,?_,λhc=>?_⟩
 ·unfold BG Zi;rw[K9];unfold HG;rw[h1]
 ·unfold C0 Zi;rw[EX];unfold HG;rw[h2]
 ·unfold Zi;rw[EX];unfold HG;rw[h2]
 ·unfold Zi;unfold HG at h4 ⊢;simp only;omega
theorem LW.fp(h:LW x):LW (Zi c x):=h.sub ((Ek _).trans (K6 _ _))
theorem LW.pr(h:LW x):LW (Yt x):=h.sub (Ek _)
theorem Lr(h:LW x)(hp:0<A8 x.s 1):∃k,(k,1)∈x.s/\Lq x=⟨Bq x.s k,x.q++[k]⟩/\LW (CS x)/\(∀y,y∈BG (CS x)↔y∈BG x)/\C0 (CS x)=C0 x/\A8 (CS x).s 1+1=A8 x.s 1/\A8 (CS x).s 3<=A8 x.s 3:=by
 cases hf:C5 x.s 1 with
 | none=>have:=Gu.1 hf;omega
 | some k=>
  have hm:=FT hf;have e0:Lq x=⟨Bq x.s k,x.q++[k]⟩:=by unfold Lq;rw[hf]
  have hw:=h.cool hm;have h1:=C4 (k:=k) h.sn 1;rw[if_pos hm] at h1;have h3:=C4 (k:=k) h.sn 3;have h4:=PP (Ek (Bq x.s k)) 3;refine⟨k,hm,e0,?_,λy=>?_,?_,?_,?_⟩
  ·unfold CS;rw[e0];exact hw.sub (Ek _)
  ·have:BG (CS x)=BG ⟨Bq x.s k,x.q++[k]⟩:=by unfold CS;rw[e0];exact IT ⟨Bq x.s k,x.q++[k]⟩
   rw[this,Bc,Bc];simp only[List.mem_append,List.mem_singleton,Ca];constructor
   ·rintro((h|rfl)|h)
    ·exact .inl h
    ·exact .inr hm
    ·exact .inr h.1
   ·rintro(h|h)
    ·exact .inl (.inl h)
    ·by_cases hy:y=k
     ·exact .inl (.inr hy)
     ·exact .inr ⟨h,hy⟩
  ·unfold CS C0;rw[e0];simp only[EX,List.length_append,List.length_cons,List.length_nil];omega
  ·unfold CS;rw[e0];simp only[EX];omega
  ·unfold CS;rw[e0];simp only;split at h3 <;> omega
theorem Aaz(h:LW x):(∀y,y∈BG (Du x k)↔y∈BG x\/y=k)/\A8 (Du x k).s 1+(if (k,1)∈x.s then 1 else 0)=A8 x.s 1+1/\C0 (Du x k)+(if k∈BG x then 1 else 0)=C0 x+1/\A8 (Du x k).s 3<=A8 x.s 3:=by
 have h1:=C4 (k:=k) h.sn 1;have h3:=C4 (k:=k) h.sn 3;have e1:A8 (Du x k).s 1=A8 (Bq x.s k) 1+1:=by unfold Du;simp only;rw[K4];simp
 have e3:A8 (Du x k).s 3=A8 (Bq x.s k) 3:=by unfold Du;simp only;rw[K4];simp
 refine⟨λy=>?_,by omega,?_,by omega⟩
 ·rw[Bc,Bc];unfold Du;simp only[AK,Dq];constructor
  ·rintro(h|(h|h))
   ·exact .inl (.inl h.1)
   ·exact .inl (.inr h.1)
   ·exact .inr (by cases h;rfl)
  ·rintro(h|rfl)
   ·by_cases hy:y=k
    ·subst hy;exact .inr (.inr rfl)
    ·rcases h with h|h
     ·exact .inl ⟨h,hy⟩
     ·exact .inr (.inl ⟨h,hy⟩)
   ·exact .inr (.inr rfl)
 ·unfold C0;rw[e1];have e4:(Du x k).q=Ao x.q k:=rfl;rw[e4]
  by_cases hq:k∈x.q
  ·have e5:=(Co h.qn hq).length_eq;simp only[List.length_cons] at e5;rw[if_pos (Bc.2 (.inl hq))];rw[if_neg (λhh=>h.hotq _ hh rfl hq)] at h1;omega
  ·rw[As hq]
   by_cases hh:(k,1)∈x.s
   ·rw[if_pos (Bc.2 (.inr hh))];rw[if_pos hh] at h1;omega
   ·rw[if_neg (λh=>(Bc.1 h).elim hq hh)];rw[if_neg hh] at h1;omega
theorem Lt(h:LW x)(hz:k.size<64)(hm:0<=CT c)(hh:(A8 x.s 1:Int)<=CT c):LW (DR c x k)/\(∀y,y∈BG (DR c x k)↔y∈BG x\/y=k) /\
  C0 (DR c x k)+(if k∈BG x then 1 else 0)=C0 x+1/\(A8 (DR c x k).s 1:Int)<=CT c/\A8 (DR c x k).s 3<=A8 x.s 3:=by
 obtain⟨h1,h2,h3,h4⟩:=Aaz h (k:=k);have hw:=h.heat (k:=k) hz;unfold DR;split
 ·rename_i hc;obtain⟨j,hj,e0,w1,w2,w3,w4,w5⟩:=Lr hw (by omega);refine⟨w1,λy=>(w2 y).trans (h1 y),by omega,?_,by omega⟩;split at h2 <;> omega
 ·rename_i hc;exact⟨hw,h1,h3,by omega,h4⟩
theorem Iz(h:LW x)(hk:(k,1)∉x.s):(∀y,y∈BG (Cf x k)↔y∈BG x\/y=k)/\A8 (Cf x k).s 1=A8 x.s 1/\C0 (Cf x k)+(if k∈BG x then 1 else 0)=C0 x+1/\A8 (Cf x k).s 3<=A8 x.s 3:=by
 have h1:=C4 (k:=k) h.sn 1;have h3:=C4 (k:=k) h.sn 3;rw[if_neg hk] at h1;have e1:A8 (Cf x k).s 1=A8 (Bq x.s k) 1:=by unfold Cf;simp only;rw[K4];simp
 have e3:A8 (Cf x k).s 3=A8 (Bq x.s k) 3:=by unfold Cf;simp only;rw[K4];simp
 refine⟨λy=>?_,by omega,?_,by omega⟩
 ·rw[Bc,Bc];unfold Cf;simp only[List.mem_append,List.mem_singleton,AK,Dq];constructor
  ·rintro((h|h)|(h|h))
   ·exact .inl (.inl h.1)
   ·exact .inr h
   ·exact .inl (.inr h.1)
   ·cases h
  ·rintro(h|rfl)
   ·by_cases hy:y=k
    ·exact .inl (.inr hy)
    ·rcases h with h|h
     ·exact .inl (.inl ⟨h,hy⟩)
     ·exact .inr (.inl ⟨h,hy⟩)
   ·exact .inl (.inr rfl)
 ·unfold C0;rw[e1];have e4:(Cf x k).q=Ao x.q k++[k]:=rfl;rw[e4,List.length_append];simp only[List.length_cons,List.length_nil]
  by_cases hq:k∈x.q
  ·have e5:=(Co h.qn hq).length_eq;simp only[List.length_cons] at e5;rw[if_pos (Bc.2 (.inl hq))];omega
  ·rw[As hq,if_neg (λh=>(Bc.1 h).elim hq hk)];omega
structure LEv(c:Int)(x y:Bb)(k:BA):Prop where
 ok:MU c y
 sub:k∈BG x
 mem:∀z,z∈BG y↔z∈BG x/\z≠k
 len:C0 y+1=C0 x
theorem SW(h:MU c x)(hp:C0 x≠0):(Cv c x).1.2=true/\LEv c x (Cv c x).2 (Cv c x).1.1:=by
 have hc1:=h.c1;have hE:∀y:Bb,LW y->(A8 y.s 1:Int)<=CT c->(∀z,z∈BG y↔z∈BG x)->C0 y=C0 x->y.q≠[]->LEv c x (Zi c ⟨BZ y.s (y.q.headD ⟨#[]⟩),y.q.drop 1⟩) (y.q.headD ⟨#[]⟩):=by
  intro y hw hh hm hl hq;obtain⟨k,t,hk⟩:∃k t,y.q=k::t:=by
   cases hq2:y.q with
   | nil=>exact absurd hq2 hq
   | cons k t=>exact⟨k,t,rfl⟩
  have e1:y.q.headD ⟨#[]⟩=k:=by rw[hk];rfl
  have e2:y.q.drop 1=t:=by rw[hk];rfl
  rw[e1,e2];have hw2:=hw.ghost hk;have hg:=Adz (c:=c) (x:=⟨BZ y.s k,t⟩) hw2.sn;obtain⟨c1,c3⟩:=Aay (k:=k) hw.sn;have c0:=C4 (k:=k) hw.sn 1;have hkq:k∈y.q:=by rw[hk];exact .head _
  have hno:(k,(1:Int))∉y.s:=λhx=>hw.hotq _ hx rfl hkq;rw[if_neg hno] at c0;have hlen:C0 ⟨BZ y.s k,t⟩+1=C0 y:=by
   unfold C0;simp only;rw[hk,List.length_cons];omega
  refine⟨⟨hw2.fp,h.c1,h.c2,?_,hg.2.2.2 (by omega),?_⟩,(hm k).1 (Bc.2 (.inl hkq)),λz=>?_,?_⟩
  ·rw[hg.2.2.1];simp only;omega
  ·rw[hg.2.1];have:=h.len;omega
  ·rw[hg.1,<- hm z,Bc,Bc,hk];have hn:=hw.qn;rw[hk,List.nodup_cons] at hn;simp only[El,List.mem_cons];constructor
   ·rintro(hz|(⟨hz,hz2⟩|⟨hz,_⟩))
    ·exact⟨.inl (.inr hz),λhzk=>hn.1 (hzk ▸ hz)⟩
    ·exact⟨.inr hz,hz2⟩
    ·cases hz
   ·rintro⟨(rfl|hz)|hz,hne⟩
    ·exact absurd rfl hne
    ·exact .inl hz
    ·exact .inr (.inl ⟨hz,hne⟩)
  ·rw[hg.2.1];omega
 unfold Cv;rw[if_neg hp];refine⟨rfl,?_⟩;simp only;unfold PQ;split
 ·rename_i hq;have hpos:0<A8 x.s 1:=by unfold C0 at hp;rw[hq] at hp;simp at hp;omega
  obtain⟨j,hj,e0,w1,w2,w3,w4,w5⟩:=Lr h.w hpos;have hh:=h.hots;exact hE _ w1 (by omega) w2 w3 (by unfold CS;rw[e0];simp)
 ·rename_i hq;exact hE x h.w h.hots (λz=>Iff.rfl) rfl hq
theorem IS(h1:1<=c):0<=CT c/\CT c<c:=by unfold CT;omega
theorem PO(h:MU c x)(hz:k.size<64):MU c (Fp c x k).2/\A20 (BG x) (BG (Fp c x k).2) k (Fp c x k).1.1 (Fp c x k).1.2:=by
 have hc1:=h.c1;have hmp:=IS hc1;have hlen:=h.len;unfold Fp;split
 ·rename_i h1;dsimp only;have hk:k∈BG x:=by
   rcases h1 with h1|h1
   ·exact Bc.2 (.inr ((Dj h.w.sn (by decide)).1 h1))
   ·exact Bc.2 (.inl h1.1)
  obtain⟨w1,w2,w3,w4,w5⟩:=Lt h.w hz (c:=c) hmp.1 h.hots;obtain⟨p1,p2,p3⟩:=K8 (DR c x k);rw[if_pos hk] at w3;have hg:=h.ghs;refine⟨⟨w1.pr,h.c1,h.c2,by rw[p2];exact w4,by omega,by rw[p1];omega⟩,⟨by simp[hk],by simp,by simp,by simp,λ_=>rfl,λy=>?_⟩⟩
  rw[IT,w2];simp
 ·rename_i h1;split
  ·rename_i hq;dsimp only;have hk:k∈BG x:=Bc.2 (.inl hq);have hno:(k,(1:Int))∉x.s:=λhx=>h.w.hotq _ hx rfl hq;obtain⟨w2,w4,w3,w5⟩:=Iz h.w hno;obtain⟨p1,p2,p3⟩:=K8 (Cf x k);rw[if_pos hk] at w3;have hg:=h.ghs;refine⟨⟨(h.w.chill hz).pr,h.c1,h.c2,by rw[p2,w4];exact h.hots,by omega,by rw[p1];omega⟩,⟨by simp[hk],by simp,by simp,by simp,λ_=>rfl,λy=>?_⟩⟩
   rw[IT,w2];simp
  ·rename_i hq;have hno:(k,(1:Int))∉x.s:=λhx=>h1 (.inl ((Dj h.w.sn (by decide)).2 hx));have hk:k∉BG x:=λhx=>(Bc.1 hx).elim hq hno;have hR:∃g y,Hd c x=(g,y)/\MU c y/\(C0 y:Int)<c/\(∀z∈g,z∈BG x)/\g.length<=1/\(∀z,z∈BG y↔z∈BG x/\z∉g):=by
    unfold Hd;split
    ·rename_i hl;obtain⟨_,he⟩:=SW h (by omega);exact⟨_,_,rfl,he.ok,by have:=he.len;omega,λz hz=>by rw[List.mem_singleton] at hz;subst hz;exact he.sub,by simp,λz=>by rw[he.mem,List.mem_singleton]⟩
    ·rename_i hl;exact⟨_,_,rfl,h,by omega,by simp,by simp,by simp⟩
   obtain⟨g,y,e0,hy,hl,g1,g2,g3⟩:=hR;rw[e0];simp only;have hky:k∉BG y:=λhx=>hk ((g3 k).1 hx).1;have hnoy:(k,(1:Int))∉y.s:=λhx=>hky (Bc.2 (.inr hx));have hN:LW (Re c y k)/\(∀z,z∈BG (Re c y k)↔z∈BG y\/z=k)/\C0 (Re c y k)=C0 y+1/\(A8 (Re c y k).s 1:Int)<=CT c:=by
    unfold Re;split
    ·obtain⟨w1,w2,w3,w4,w5⟩:=Lt hy.w hz (c:=c) hmp.1 hy.hots;rw[if_neg hky] at w3;exact⟨w1,w2,by omega,w4⟩
    ·obtain⟨w2,w4,w3,w5⟩:=Iz hy.w hnoy;rw[if_neg hky] at w3;exact⟨hy.w.chill hz,w2,by omega,by rw[w4];exact hy.hots⟩
   obtain⟨n1,n2,n3,n4⟩:=hN;obtain⟨f1,f2,f3,f4⟩:=Adz (c:=c) n1.sn;refine⟨⟨n1.fp,h.c1,h.c2,by rw[f3];exact n4,f4 (by omega),by rw[f2];omega⟩,⟨by simp[hk],g1,g2,λhx=>hk (g1 k hx),λh=>(by cases h),λz=>?_⟩⟩
   rw[f1,n2,g3]
theorem A3k(h:LW x):(decide (IQ x.s k=1) || decide (k∈x.q))=decide (k∈BG x):=by
 rw[Bool.eq_iff_iff];simp only[Bool.or_eq_true,decide_eq_true_eq];rw[Bc,Dj h.sn (by decide)];constructor
 ·rintro(h|h)
  ·exact .inr h
  ·exact .inl h
 ·rintro(h|h)
  ·exact .inr h
  ·exact .inl h
theorem SY(h:MU c x)(hz:k.size<64):MU c (Fq c x k).2/\(Fq c x k).1=decide (k∉BG x/\((BG x).length:Int)<c)/\((Fq c x k).1=true->∀z,z∈BG (Fq c x k).2↔z∈BG x\/z=k)/\((Fq c x k).1=false->(Fq c x k).2=x):=by
 have hc1:=h.c1;have hmp:=IS hc1;have hlen:=h.len;have hrl:=I1 x;unfold Fq;split
 ·rename_i h1;refine⟨h,?_,λh=>by (cases h),λ_=>rfl⟩;symm;rw[decide_eq_false_iff_not,Bc];rintro⟨h2,h3⟩;rcases h1 with h1|h1|h1
  ·exact h2 (.inr ((Dj h.w.sn (by decide)).1 h1))
  ·exact h2 (.inl h1)
  ·omega
 ·rename_i h1;have hno:(k,(1:Int))∉x.s:=λhx=>h1 (.inl ((Dj h.w.sn (by decide)).2 hx));have hk:k∉BG x:=λhx=>by
   rcases Bc.1 hx with hx|hx
   ·exact h1 (.inr (.inl hx))
   ·exact hno hx
  have hl:(C0 x:Int)<c:=by
   have:¬(C0 x:Int)=c:=λhx=>h1 (.inr (.inr hx));omega
  have hg:=h.ghs;dsimp only;split
  ·obtain⟨w1,w2,w3,w4,w5⟩:=Lt h.w hz (c:=c) hmp.1 h.hots;rw[if_neg hk] at w3;obtain⟨p1,p2,p3⟩:=K8 (DR c x k);refine⟨⟨w1.pr,h.c1,h.c2,by rw[p2];exact w4,by omega,by rw[p1];omega⟩,?_,λ_ z=>by rw[IT,w2],λh=>by cases h⟩
   symm;rw[decide_eq_true_eq];exact⟨hk,by omega⟩
  ·obtain⟨w2,w4,w3,w5⟩:=Iz h.w hno;rw[if_neg hk] at w3;obtain⟨p1,p2,p3⟩:=K8 (Cf x k);refine⟨⟨(h.w.chill hz).pr,h.c1,h.c2,by rw[p2,w4];exact h.hots,by omega,by rw[p1];omega⟩,?_,λ_ z=>by rw[IT,w2],λh=>by cases h⟩
   symm;rw[decide_eq_true_eq];exact⟨hk,by omega⟩
theorem Yu(h:MU c x):MU c (KA x k).2/\(KA x k).1=decide (k∈BG x)/\((KA x k).1=true->(∀z,z∈BG (KA x k).2↔z∈BG x/\z≠k)/\(k,(3:Int))∉(KA x k).2.s)/\((KA x k).1=false->(KA x k).2=x):=by
 have hc1:=h.c1;have hlen:=h.len;unfold KA;split
 ·rename_i h1;dsimp only;have hk:k∈BG x:=by
   rcases h1 with h1|h1
   ·exact Bc.2 (.inr ((Dj h.w.sn (by decide)).1 h1))
   ·exact Bc.2 (.inl h1)
  have hw:=h.w.rem k;obtain⟨p1,p2,p3⟩:=K8 ⟨Bq x.s k,Ao x.q k⟩;have c1:=C4 (k:=k) h.w.sn 1;have c3:=C4 (k:=k) h.w.sn 3;have hh:=h.hots;have hg:=h.ghs;have hq:=Bj x.q k;refine⟨⟨hw.pr,h.c1,h.c2,by rw[p2];simp only;omega,by simp only at p3;omega,?_⟩,by simp[hk],λ_=>⟨λz=>?_,λhx=>?_⟩,λh=>by cases h⟩
  ·rw[p1];unfold C0 at hlen ⊢;simp only;omega
  ·rw[IT,Bc,Bc];simp only[AK,Ca];constructor
   ·rintro(h|h)
    ·exact⟨.inl h.1,h.2⟩
    ·exact⟨.inr h.1,h.2⟩
   ·rintro⟨h|h,h2⟩
    ·exact .inl ⟨h,h2⟩
    ·exact .inr ⟨h,h2⟩
  ·have:=(Ek _).subset hx;exact(Ca.1 this).2 rfl
 ·rename_i h1;refine⟨h,?_,λh=>by (cases h),λ_=>rfl⟩;symm;rw[decide_eq_false_iff_not,Bc];rintro(h2|h2)
  ·exact h1 (.inr h2)
  ·exact h1 (.inl ((Dj h.w.sn (by decide)).2 h2))
theorem A3l(h1:1<=c)(h2:c<=1024):MU c Fs:=by
 have:=IS h1;exact⟨⟨by simp[Fs,AR],by simp[Fs],by simp[Fs],by simp[Fs],by simp[Fs],by simp[Fs],by simp[Fs],by simp[Fs]⟩,h1,h2,by simp only[Fs,A8,List.countP_nil];omega,by simp only[Fs,A8,List.countP_nil];omega,by simp only[Fs,C0,A8,List.countP_nil,List.length_nil];omega⟩
end
end Go.Hb
namespace Go.Hb
abbrev D1:=List (Nat×BA)
def AO(row:D1)(k:BA):Int:=((row.find? λe=>decide (e.2=k)).map λe=>(e.1:Int)).getD 0
def CX(row:D1)(k:BA):D1:=row.filter λe=>decide (e.2≠k)
theorem GC(row:D1)(k:BA):(CX row k).map (·.2)=Ao (row.map (·.2)) k:=by unfold CX Ao;rw[List.filter_map];rfl
theorem HN{row:D1}{k:BA}(h:k∉row.map (·.2)):AO row k=0:=by
 unfold AO;have:(row.find? λe=>decide (e.2=k))=none:=by
  rw[List.find?_eq_none];intro e he;simp only[decide_eq_true_eq];intro hk;exact h (List.mem_map.2 ⟨e,he,hk⟩)
 rw[this];rfl
theorem KQ{row:D1}{k key:BA}(h:k≠key):AO (CX row key) k=AO row k:=by
 unfold AO CX;rw[List.find?_filter];congr 2;apply congrFun;apply congrArg;funext e
 by_cases hk:e.2=k
 ·simp[hk,h]
 ·simp[hk]
theorem Tz{row:D1}{key:BA}:AO (CX row key) key=0:=HN (by rw[GC];exact λh=>(AK.1 h).2 rfl)
theorem Rh{row:D1}{k key:BA}{h:Nat}(hk:k≠key):AO (row++[(h,key)]) k=AO row k:=by
 unfold AO;rw[List.find?_append];have:([(h,key)].find? λe=>decide (e.2=k))=none:=by simp[Ne.symm hk]
 rw[this,Option.or_none]
theorem Abk{row:D1}{key:BA}{h:Nat}(hk:key∉row.map (·.2)):AO (row++[(h,key)]) key=(h:Int):=by
 unfold AO;rw[List.find?_append];have:(row.find? λe=>decide (e.2=key))=none:=by
  rw[List.find?_eq_none];intro e he;simp only[decide_eq_true_eq];intro h2;exact hk (List.mem_map.2 ⟨e,he,h2⟩)
 rw[this];simp
theorem Apq{row:D1}{k:BA}(hn:(row.map (·.2)).Nodup){i:Nat}{e:Nat×BA}(h:row[i]? = some e)(hk:e.2=k):AO row k=(e.1:Int):=by
 induction row generalizing i with
 | nil=>simp at h
 | cons a row ih=>
  rw[List.map_cons,List.nodup_cons] at hn;cases i with
  | zero=>
   simp only[List.getElem?_cons_zero,Option.some.injEq] at h;subst h;unfold AO;rw[List.find?_cons_of_pos (by simpa using hk)];rfl
  | succ i=>
   simp only[List.getElem?_cons_succ] at h;have hne:a.2≠k:=λha=>hn.1 (List.mem_map.2 ⟨e,List.mem_of_getElem? h,by rw[hk,ha]⟩);have:=ih hn.2 h;unfold AO at this ⊢;rw[List.find?_cons_of_neg (by simpa using hne)];exact this
theorem Ae2{row:D1}{k:BA}(hn:(row.map (·.2)).Nodup){i:Nat}{e:Nat×BA}(h:row[i]? = some e)(hk:e.2=k):row.eraseIdx i=CX row k:=by
 induction row generalizing i with
 | nil=>simp at h
 | cons a row ih=>
  rw[List.map_cons,List.nodup_cons] at hn;cases i with
  | zero=>
   simp only[List.getElem?_cons_zero,Option.some.injEq] at h;subst h;have h1:CX row k=row:=by
    unfold CX;rw[List.filter_eq_self];intro x hx;exact decide_eq_true λhxk=>hn.1 (List.mem_map.2 ⟨x,hx,by rw[hxk,hk]⟩)
   unfold CX;rw[List.filter_cons_of_neg (by simpa using hk)];exact h1.symm
  | succ i=>
   simp only[List.getElem?_cons_succ] at h;have hne:a.2≠k:=λha=>hn.1 (List.mem_map.2 ⟨e,List.mem_of_getElem? h,by rw[hk,ha]⟩);have:=ih hn.2 h;unfold CX at this ⊢;rw[List.filter_cons_of_pos (by simpa using hne),List.eraseIdx_cons_succ,this]
theorem Aip{row:D1}{k:BA}(h:k∉row.map (·.2)):CX row k=row:=by
 unfold CX;rw[List.filter_eq_self];intro x hx;exact decide_eq_true λhxk=>h (List.mem_map.2 ⟨x,hx,hxk⟩)
theorem A19{row:D1}{k:BA}(hn:(row.map (·.2)).Nodup)(hh:(row.map (·.1)).Nodup)(hp:∀e∈row,0<e.1) :
  (match IW row (AO row k) with|some i=>row.eraseIdx i|none=>row)=CX row k/\((IW row (AO row k)).isSome=decide (k∈row.map (·.2))):=by
 by_cases hk:k∈row.map (·.2)
 ·obtain⟨e,he,hek⟩:=List.mem_map.1 hk;obtain⟨i,hi,hie⟩:=List.mem_iff_getElem.1 he;have h1:row[i]? = some e:=by rw[List.getElem?_eq_getElem hi,hie]
  have h2:=Apq hn h1 hek;have h3:=JJ hh h1;rw[h2,h3];exact⟨Ae2 hn h1 hek,by simp[hk]⟩
 ·rw[HN hk];have:IW row 0=none:=by
   rw[YG];intro e he;have:=hp e he;omega
  rw[this];exact⟨(Aip hk).symm,by simp[hk]⟩
theorem IU{W w:World}{M:List HP}{b:Nat}{row:D1}{free:List Nat}(h:Ab W w (lst .s b row free::M)):(row.map (·.1)).Nodup/\∀e∈row,0<e.1:=by
 refine⟨Hg h,λe he=>?_⟩;obtain⟨s,f,ls,hi,_⟩:=DZ h;have h1:e.1∈(Fu Value.string row).map (·.1):=by rw[Qw];exact List.mem_map.2 ⟨e,he,rfl⟩
 exact((hi.all e.1).1 (.inl h1)).1
abbrev LE:=Int×Int×Int
def lK(S:SL)(q:List BA)(k:BA):Int:=if k∈AR S then IQ S k else if k∈q then 2 else 0
abbrev LM:=List (BA×LE)
def lG(m:LM)(k:BA):LE:=(AE m k).getD (0,0,0)
theorem A1j{m:LM}(hn:(m.map (·.1)).Nodup)(key:BA)(n:LE)(k:BA):lG (Cj m key n) k=if k=key then n else lG m k:=by
 have hput:∀x,(x,lG (Cj m key n) x)=(x,lG (Cj m key n) x):=λ_=>rfl;unfold lG;have hnd:((Cj m key n).map (·.1)).Nodup:=by
  unfold Cj;split
  ·rw[Lz];exact hn
  ·rename_i h;rw[List.map_cons,List.nodup_cons];refine⟨λhm=>?_,hn⟩;obtain⟨e,he,hek⟩:=List.mem_map.1 hm;exact Bu.1 h e he hek
 by_cases hk:k=key
 ·subst hk;rw[if_pos rfl];have:AE (Cj m k n) k=some n:=by
   rw[Bz hnd];unfold Cj;split
   ·rename_i u hu;unfold E5;exact List.mem_map.2 ⟨(k,u),(Bz hn).1 hu,by simp⟩
   ·exact .head _
  rw[this];rfl
 ·rw[if_neg hk];congr 1;cases hg:AE m k with
  | none=>
   rw[Bu] at hg ⊢;intro e he;unfold Cj at he;split at he
   ·unfold E5 at he;obtain⟨a,ha,rfl⟩:=List.mem_map.1 he;split
    ·exact Ne.symm hk
    ·exact hg a ha
   ·rcases List.mem_cons.1 he with rfl|he
    ·exact Ne.symm hk
    ·exact hg e he
  | some v=>
   rw[Bz hnd];have hm:=(Bz hn).1 hg;unfold Cj;split
   ·unfold E5;exact List.mem_map.2 ⟨(k,v),hm,by simp[hk]⟩
   ·exact .tail _ hm
theorem Aa9{m:LM}(hn:(m.map (·.1)).Nodup)(key:BA)(n:LE):((Cj m key n).map (·.1)).Nodup:=by
 unfold Cj;split
 ·rw[Lz];exact hn
 ·rename_i h;rw[List.map_cons,List.nodup_cons];refine⟨λhm=>?_,hn⟩;obtain⟨e,he,hek⟩:=List.mem_map.1 hm;exact Bu.1 h e he hek
theorem A1i{m:LM}(hn:(m.map (·.1)).Nodup)(key:BA)(k:BA):lG (BJ m key) k=if k=key then (0,0,0) else lG m k:=by
 unfold lG;have hnd:((BJ m key).map (·.1)).Nodup:=hn.sublist (List.filter_sublist.map _)
 by_cases hk:k=key
 ·subst hk;rw[if_pos rfl];have:AE (BJ m k) k=none:=by
   rw[Bu];intro e he;simpa using(List.mem_filter.1 he).2
  rw[this];rfl
 ·rw[if_neg hk];congr 1;cases hg:AE m k with
  | none=>
   rw[Bu] at hg ⊢;intro e he;exact hg e (List.mem_filter.1 he).1
  | some v=>
   rw[Bz hnd];exact List.mem_filter.2 ⟨(Bz hn).1 hg,by simpa using hk⟩
def PV(m:LM)(key:BA)(n:LE):LM:=if n.1=0 then BJ m key else Cj m key n
structure LX(N:Nat)(x:Bb)(sr:D1)(sf:List Nat)(qr:D1)(qf:List Nat)(m:LM):Prop where
 w:LW x
 sk:sr.map (·.2)=AR x.s
 qk:qr.map (·.2)=x.q
 ent:∀k,lG m k=(lK x.s x.q k,AO sr k,AO qr k)
 mn:(m.map (·.1)).Nodup
 msm:∀e∈m,e.1.size<4611686018427387904
 ns:sr.length+sf.length<=N
 nq:qr.length+qf.length<=N
 nz:∀e∈m,e.2.1≠0
def QV(N:Nat)(x:Bb):Prop:=x.s.length+1<=N/\x.q.length+1<=N
section
variable{N:Nat}{x y:Bb}{sr sr' qr qr':D1}{sf sf' qf qf':List Nat}{m:LM}{key:BA}
theorem Ea:∀{a b:List BA},a.Nodup->(∀k∈a,k∈b)->a.length<=b.length
 | [],_,_,_=>by simp
 | k::a,b,hn,hs=>by
  rw[List.nodup_cons] at hn;have h1:∀j∈a,j∈Ao b k:=λj hj=>AK.2 ⟨hs j (.tail _ hj),λh=>hn.1 (by rw[<- h];exact hj)⟩
  have h2:=Ea hn.2 h1;have h3:(Ao b k).length<b.length:=List.length_filter_lt_length_iff_exists.2 ⟨k,hs k (.head _),by simp⟩;simp only[List.length_cons];omega
theorem LX.nm(h:LX N x sr sf qr qf m):m.length<=N+N:=by
 have h1:(m.map (·.1)).length<=(sr.map (·.2)++qr.map (·.2)).length:=by
  refine Ea h.mn λk hk=>?_;obtain⟨e,he,rfl⟩:=List.mem_map.1 hk;have h2:lG m e.1=e.2:=by unfold lG;rw[(Bz h.mn).2 he];rfl
  have h3:=h.nz e he;rw[<- h2,h.ent] at h3;simp only at h3;rw[List.mem_append,h.sk,h.qk];unfold lK at h3
  by_cases a:e.1∈AR x.s
  ·exact .inl a
  ·rw[if_neg a] at h3
   by_cases b:e.1∈x.q
   ·exact .inr b
   ·rw[if_neg b] at h3;exact absurd rfl h3
 have:=h.ns;have:=h.nq
 simp only[List.length_map,List.length_append] at h1;omega
theorem LX.upd(h:LX N x sr sf qr qf m)(hw:LW y)(hsk:sr'.map (·.2)=AR y.s)(hqk:qr'.map (·.2)=y.q)(hz:key.size<64){n:LE}{N':Nat}
  (h1:∀k,k≠key->lK y.s y.q k=lK x.s x.q k/\AO sr' k=AO sr k/\AO qr' k=AO qr k) (h2:n=(lK y.s y.q key,AO sr' key,AO qr' key)) (h0:n.1=0->n=(0,0,0))
  (ns:sr'.length+sf'.length<=N') (nq:qr'.length+qf'.length<=N'):LX N' y sr' sf' qr' qf' (PV m key n):=by
 unfold PV;split
 ·rename_i hn0;refine⟨hw,hsk,hqk,λk=>?_,h.mn.sublist (List.filter_sublist.map _),I5 (P:=λk=>k.size<4611686018427387904) h.msm,ns,nq,λe he=>h.nz e (List.mem_filter.1 he).1⟩;rw[A1i h.mn];split
  ·rename_i hk;rw[hk,<- h2,h0 hn0]
  ·rename_i hk;rw[h.ent,(h1 k hk).1,(h1 k hk).2.1,(h1 k hk).2.2]
 ·refine⟨hw,hsk,hqk,λk=>?_,Aa9 h.mn _ _,Tg (P:=λk=>k.size<4611686018427387904) h.msm (by omega),ns,nq,λe he=>?_⟩;rotate_left
  ·unfold Cj at he;split at he
   ·unfold E5 at he;obtain⟨a,ha,rfl⟩:=List.mem_map.1 he;split
    ·assumption
    ·exact h.nz a ha
   ·rcases List.mem_cons.1 he with rfl|he
    ·assumption
    ·exact h.nz e he
  rw[A1j h.mn];split
  ·rename_i hk;rw[hk,<- h2]
  ·rename_i hk;rw[h.ent,(h1 k hk).1,(h1 k hk).2.1,(h1 k hk).2.2]
theorem PS{S:SL}{k:BA}(hk:k≠key):IQ (Bq S key) k=IQ S k:=by
 unfold IQ Bq;rw[List.find?_filter];congr 2;apply congrFun;apply congrArg;funext e
 by_cases h:e.1=k
 ·simp[h,hk]
 ·simp[h]
theorem Yr{S:SL}{k:BA}{i:Int}(hk:k≠key):IQ (S++[(key,i)]) k=IQ S k:=by
 unfold IQ;rw[List.find?_append];have:([(key,i)].find? λe=>decide (e.1=k))=none:=by simp[Ne.symm hk]
 rw[this,Option.or_none]
theorem Vg{S:SL}{k:BA}(hk:k≠key):IQ (BZ S key) k=IQ S k:=by
 unfold IQ BZ;rw[List.find?_map]
 induction S with
 | nil=>rfl
 | cons a S ih=>
  by_cases ha:a.1=k
  ·rw[List.find?_cons_of_pos (by simp[ha,hk]),List.find?_cons_of_pos (by simpa using ha)];simp[ha,hk]
  ·rw[List.find?_cons_of_neg,List.find?_cons_of_neg (by simpa using ha)]
   ·exact ih
   ·simp only[Function.comp];split
    ·simpa using Ne.symm hk
    ·simpa using ha
theorem Rb{S:SL}{k:BA}(hk:k≠key):k∈AR (Bq S key)↔k∈AR S:=by rw[DJ,AK];exact⟨λh=>h.1,λh=>⟨h,hk⟩⟩
theorem Aa1{S:SL}{i:Int}:AR (S++[(key,i)])=AR S++[key]:=by simp[AR]
theorem Aok{S S':SL}{q q':List BA}{k:BA}(h1:k∈AR S'↔k∈AR S)(h2:IQ S' k=IQ S k)(h3:k∈q'↔k∈q):lK S' q' k=lK S q k:=by
 unfold lK
 by_cases a:k∈AR S
 ·rw[if_pos a,if_pos (h1.2 a),h2]
 ·rw[if_neg a,if_neg (λh=>a (h1.1 h))]
  by_cases b:k∈q
  ·rw[if_pos b,if_pos (h3.2 b)]
  ·rw[if_neg b,if_neg (λh=>b (h3.1 h))]
theorem Awy(S:SL)(i:Int):IQ (He S key i) key=i:=by
 unfold He IQ;rw[List.find?_append];have:(Bq S key).find? (λe=>decide (e.1=key))=none:=by
  rw[List.find?_eq_none];intro e he;simpa using(Ca.1 he).2
 rw[this];simp
theorem IR(S:SL)(i:Int):AR (He S key i)=Ao (AR S) key++[key]:=by unfold He;rw[Aa1,DJ]
theorem Vi(S:SL)(q:List BA)(i:Int):lK (He S key i) q key=i:=by
 unfold lK;rw[if_pos (by rw[IR];simp),Awy]
theorem SX{S:SL}{q q':List BA}{i:Int}{k:BA}(hk:k≠key)(h3:k∈q'↔k∈q):lK (He S key i) q' k=lK S q k:=
 Aok (by
  rw[IR,List.mem_append,List.mem_singleton,AK];constructor
  ·exact λh=>h.elim (λh=>h.1) (λh=>absurd h hk)
  ·exact λh=>.inl ⟨h,hk⟩) (by unfold He;rw[Yr hk,PS hk]) h3
theorem Lv{S:SL}{q q':List BA}{k:BA}(hk:k≠key)(h3:k∈q'↔k∈q):lK (Bq S key) q' k=lK S q k:=Aok (Rb hk) (PS hk) h3
theorem J9(S:SL)(q:List BA):lK (Bq S key) q key=if key∈q then 2 else 0:=by
 unfold lK;rw[if_neg (by rw[DJ];exact λh=>(AK.1 h).2 rfl)]
theorem FE{q:List BA}{k:BA}(hk:k≠key):k∈Ao q key↔k∈q:=by rw[AK];exact⟨λh=>h.1,λh=>⟨h,hk⟩⟩
theorem MQ{q:List BA}{k:BA}(hk:k≠key):k∈q++[key]↔k∈q:=by
 rw[List.mem_append,List.mem_singleton];exact⟨λh=>h.elim id λh=>absurd h hk,.inl⟩
theorem Ab7(row:D1)(k:BA):k∉(CX row k).map (·.2):=by rw[GC];exact λh=>(AK.1 h).2 rfl
theorem Lu(h:LW x)(k:BA):lK x.s x.q k=1↔(k,(1:Int))∈x.s:=by
 unfold lK
 by_cases a:k∈AR x.s
 ·rw[if_pos a];exact Dj h.sn (by decide)
 ·rw[if_neg a];have hno:(k,(1:Int))∉x.s:=λhm=>a (List.mem_map.2 ⟨_,hm,rfl⟩);constructor
  ·intro h;split at h <;> omega
  ·intro h;exact absurd h hno
theorem K7(h:LW x)(k:BA):lK x.s x.q k=3↔(k,(3:Int))∈x.s:=by
 unfold lK
 by_cases a:k∈AR x.s
 ·rw[if_pos a];exact Dj h.sn (by decide)
 ·rw[if_neg a];have hno:(k,(3:Int))∉x.s:=λhm=>a (List.mem_map.2 ⟨_,hm,rfl⟩);constructor
  ·intro h;split at h <;> omega
  ·intro h;exact absurd h hno
theorem JA(h:LW x)(k:BA):lK x.s x.q k=2↔k∈x.q:=by
 unfold lK
 by_cases a:k∈AR x.s
 ·rw[if_pos a,Dj h.sn (by decide)];constructor
  ·intro h2;exact h.coldq _ h2 rfl
  ·intro hq;obtain⟨e,he,rfl⟩:=List.mem_map.1 a;rcases h.kinds e he with h1|h1|h1
   ·exact absurd hq (h.hotq e he h1)
   ·rw[<- h1];exact he
   ·exact absurd hq (h.ghq e he h1)
 ·rw[if_neg a];constructor
  ·intro h;split at h
   ·rename_i hq;exact hq
   ·omega
  ·intro h;rw[if_pos h]
theorem Aol(h:LW x)(k:BA):lK x.s x.q k=0\/lK x.s x.q k=1\/lK x.s x.q k=2\/lK x.s x.q k=3:=by
 unfold lK
 by_cases a:k∈AR x.s
 ·rw[if_pos a];obtain⟨e,he,rfl⟩:=List.mem_map.1 a;have:IQ x.s e.1=e.2:=(Dj h.sn (by rcases h.kinds e he with h1|h1|h1 <;> omega)).2 he
  rw[this];rcases h.kinds e he with h1|h1|h1 <;> simp[h1]
 ·rw[if_neg a];split <;> simp
theorem Hc(S:SL)(k:BA):Bq (Bq S k) k=Bq S k:=PU (by rw[DJ];exact λh=>(AK.1 h).2 rfl)
theorem Ys(S:SL)(k:BA)(i:Int):Bq (He S k i) k=Bq S k:=by
 have h1:Bq (He S k i) k=Bq (Bq S k) k++Bq [(k,i)] k:=by unfold He Bq;rw[List.filter_append]
 rw[h1,Hc];simp[Bq]
theorem PT(S:SL)(k:BA):Bq (BZ S k) k=Bq S k:=by
 unfold Bq BZ
 induction S with
 | nil=>rfl
 | cons a S ih=>
  rw[List.map_cons]
  by_cases h:a.1=k
  ·rw[if_pos h,List.filter_cons_of_neg (by simp),List.filter_cons_of_neg (by simpa using h),ih]
  ·rw[if_neg h,List.filter_cons_of_pos (by simpa using h),List.filter_cons_of_pos (by simpa using h),ih]
theorem Azg(hx:LW x)(hy:LW y)(h:Bq y.s key=Bq x.s key) :
  (A8 x.s 1:Int)+(if lK x.s x.q key=1 then -1 else 0)+(if lK y.s y.q key=1 then 1 else 0)=(A8 y.s 1:Int)/\(A8 x.s 3:Int)+(if lK x.s x.q key=3 then -1 else 0)+(if lK y.s y.q key=3 then 1 else 0)=(A8 y.s 3:Int):=by
 have a1:=C4 (k:=key) hx.sn 1;have a3:=C4 (k:=key) hx.sn 3;have b1:=C4 (k:=key) hy.sn 1;have b3:=C4 (k:=key) hy.sn 3;rw[h] at b1 b3;simp only[Lu hx,K7 hx,Lu hy,K7 hy];constructor
 ·split <;> split <;> simp_all <;> omega
 ·split <;> split <;> simp_all <;> omega
structure Hw(row:D1)(free:List Nat)(key:BA)(row':D1)(free':List Nat):Prop where
 keys:row'.map (·.2)=Ao (row.map (·.2)) key
 ne:∀k,k≠key->AO row' k=AO row k
 at0:AO row' key=0
 len:row'.length+free'.length<=row.length+free.length
structure Hx(row:D1)(free:List Nat)(key:BA)(row':D1)(free':List Nat):Prop where
 keys:row'.map (·.2)=Ao (row.map (·.2)) key++[key]
 ne:∀k,k≠key->AO row' k=AO row k
 len:row'.length+free'.length<=max (row.length+free.length) (row.length+1)
end
abbrev LXs:=(Nat×Nat×Nat)×(D1×List Nat×D1×List Nat×LM)
def Azl(c:Int)(s:Nat×Nat×Nat)(h g:Int):List Value:=[.i c,.i (CT c),pq s.1 0,pq s.2.1 0,pq s.2.2 0,.i h,.i g]
abbrev eB(b:Nat)(c:Int)(sb qb xb:Nat)(h g:Int):HP:=blk b [.i c,.i (CT c),pq sb 0,pq qb 0,pq xb 0,.i h,.i g]
def lirR(b:Nat)(c:Int)(N:Nat)(x:Bb):HP:=JU λ(z:LXs)=>ED (LX N x z.2.1 z.2.2.1 z.2.2.2.1 z.2.2.2.2.1 z.2.2.2.2.2)
 (AF [blk b (Azl c z.1 (A8 x.s 1) (A8 x.s 3)),lst .s z.1.1 z.2.1 z.2.2.1,lst .s z.1.2.1 z.2.2.2.1 z.2.2.2.2.1,ixr Rec.iii z.1.2.2 0 z.2.2.2.2.2])
section
variable{W w:World}{M L:List HP}{b:Nat}{c:Int}{N:Nat}{x:Bb}
instance At.lirR:At (lirR b c N x::L) b (lirR b c N x) (λx=>x::L):=⟨DX⟩
theorem BS(h:Ab W w (lirR b c N x::M)):∃(sb qb xb:Nat) (sr:D1) (sf:List Nat) (qr:D1) (qf:List Nat) (m:LM),LX N x sr sf qr qf m /\
  Ab W w (blk b [.i c,.i (CT c),pq sb 0,pq qb 0,pq xb 0,.i (A8 x.s 1),.i (A8 x.s 3)]::lst .s sb sr sf::lst .s qb qr qf::ixr Rec.iii xb 0 m::M):=by
 obtain⟨⟨⟨sb,qb,xb⟩,⟨sr,sf,qr,qf,m⟩⟩,h⟩:=h.openE;obtain⟨hi,h⟩:=h.openA;exact⟨sb,qb,xb,sr,sf,qr,qf,m,hi,h.openL⟩
theorem Ci{sb qb xb:Nat}{sr:D1}{sf:List Nat}{qr:D1}{qf:List Nat}{m:LM}{h1 h3:Int}(hi:LX N x sr sf qr qf m)(e1:h1=A8 x.s 1)(e3:h3=A8 x.s 3)
  (h:Ab W w (blk b [.i c,.i (CT c),pq sb 0,pq qb 0,pq xb 0,.i h1,.i h3]::lst .s sb sr sf::lst .s qb qr qf::ixr Rec.iii xb 0 m::M)) :
  Ab W w (lirR b c N x::M):=by
 subst e1 e3;exact Ab.shutE ((sb,qb,xb),(sr,sf,qr,qf,m)) (Ab.shutA hi (Ab.shutL (Ps:=[_,_,_,_]) h))
theorem LX.more{N':Nat}{sr:D1}{sf:List Nat}{qr:D1}{qf:List Nat}{m:LM}(h:LX N x sr sf qr qf m)(hN:N<=N'):LX N' x sr sf qr qf m:=
 ⟨h.w,h.sk,h.qk,h.ent,h.mn,h.msm,Nat.le_trans h.ns hN,Nat.le_trans h.nq hN,h.nz⟩
theorem DY{N':Nat}(h:Ab W w (lirR b c N x::M))(hN:N<=N'):Ab W w (lirR b c N' x::M):=by
 obtain⟨sb,qb,xb,sr,sf,qr,qf,m,hi,h⟩:=BS h;exact Ci (hi.more hN) rfl rfl h
theorem Qb(h:Ab W w (lirR b c N x::M)):LW x/\x.s.length<=N/\x.q.length<=N:=by
 obtain⟨sb,qb,xb,sr,sf,qr,qf,m,hi,h⟩:=BS h;have h1:=congrArg List.length hi.sk;have h2:=congrArg List.length hi.qk;have:=hi.ns;have:=hi.nq
 simp only[List.length_map,AR] at h1 h2;exact⟨hi.w,by omega,by omega⟩
end
end Go.Hb
namespace Go.Proofs
open Go.Shelf
def Tryz.lays137_ren:Go.Shelf.Ren:=⟨fun|137=>157|217=>191|266=>212|n=>n,fun|9=>9|5=>5|3=>3|n=>n,fun|n=>n⟩
theorem Tryz.lays137:Go.Proofs.Lays.n137 Tryz.prog Tryz.lays137_ren:={
 mixed:=by kernel_rfl
 f137:=Tryz.func157.trans (congrArg some (by kernel_rfl))
 f217:=Tryz.func191.trans (congrArg some (by kernel_rfl))
 f266:=Tryz.func212.trans (congrArg some (by kernel_rfl))
 t3:=Tryz.underlying3
 a3:=Tryz.isAgg3
 z3:=Tryz.sizeOf3
 v3:=Tryz.zeroValue3
 t5:=Tryz.underlying5
 a5:=Tryz.isAgg5
 z5:=Tryz.sizeOf5
 v5:=Tryz.zeroValue5
 t9:=Tryz.underlying9
 a9:=Tryz.isAgg9
 z9:=Tryz.sizeOf9
 v9:=Tryz.zeroValue9 }
open Go.RowKit in
theorem Tryz.strings_IndexByte(s:ByteArray)(c:Int)(w:World) :
  Calls Tryz.prog 157 #[.string s,.int .u8 c] w λe w'=>e = .returned (.int .i64 (Lib.indexByte s.data.toList c.toNat.toUInt8))/\w'=w:=Any.strings_IndexByte Tryz.lays137 s c w
def Tryz.lays190_ren:Go.Shelf.Ren:=⟨fun|190=>112|125=>150|258=>149|128=>182|129=>183|302=>173|303=>174|304=>175|305=>176|306=>177|307=>178|308=>179|309=>180|310=>181|333=>202|329=>203|330=>204|334=>205|335=>206|336=>207|344=>213|n=>n,fun|31=>36|9=>9|3=>3|46=>222|0=>0|51=>145|53=>138|4=>4|183=>252|182=>251|131=>98|5=>5|218=>310|222=>152|228=>337|229=>338|n=>n,fun|n=>n⟩
theorem Tryz.lays190:Go.Proofs.Lays.n190 Tryz.prog Tryz.lays190_ren:={
 mixed:=by kernel_rfl
 f125:=Tryz.func150.trans (congrArg some (by kernel_rfl))
 f128:=Tryz.func182.trans (congrArg some (by kernel_rfl))
 f129:=Tryz.func183.trans (congrArg some (by kernel_rfl))
 f190:=Tryz.func112.trans (congrArg some (by kernel_rfl))
 f258:=Tryz.func149.trans (congrArg some (by kernel_rfl))
 f302:=Tryz.func173.trans (congrArg some (by kernel_rfl))
 f303:=Tryz.func174.trans (congrArg some (by kernel_rfl))
 f304:=Tryz.func175.trans (congrArg some (by kernel_rfl))
 f305:=Tryz.func176.trans (congrArg some (by kernel_rfl))
 f306:=Tryz.func177.trans (congrArg some (by kernel_rfl))
 f307:=Tryz.func178.trans (congrArg some (by kernel_rfl))
 f308:=Tryz.func179.trans (congrArg some (by kernel_rfl))
 f309:=Tryz.func180.trans (congrArg some (by kernel_rfl))
 f310:=Tryz.func181.trans (congrArg some (by kernel_rfl))
 f329:=Tryz.func203.trans (congrArg some (by kernel_rfl))
 f330:=Tryz.func204.trans (congrArg some (by kernel_rfl))
 f333:=Tryz.func202.trans (congrArg some (by kernel_rfl))
 f334:=Tryz.func205.trans (congrArg some (by kernel_rfl))
 f335:=Tryz.func206.trans (congrArg some (by kernel_rfl))
 f336:=Tryz.func207.trans (congrArg some (by kernel_rfl))
 f344:=Tryz.func213.trans (congrArg some (by kernel_rfl))
 t0:=Tryz.underlying0
 a0:=Tryz.isAgg0
 z0:=Tryz.sizeOf0
 v0:=Tryz.zeroValue0
 t3:=Tryz.underlying3
 a3:=Tryz.isAgg3
 z3:=Tryz.sizeOf3
 v3:=Tryz.zeroValue3
 t4:=Tryz.underlying4
 a4:=Tryz.isAgg4
 z4:=Tryz.sizeOf4
 v4:=Tryz.zeroValue4
 t5:=Tryz.underlying5
 a5:=Tryz.isAgg5
 z5:=Tryz.sizeOf5
 v5:=Tryz.zeroValue5
 t9:=Tryz.underlying9
 a9:=Tryz.isAgg9
 z9:=Tryz.sizeOf9
 v9:=Tryz.zeroValue9
 t31:=Tryz.underlying36
 a31:=Tryz.isAgg36
 z31:=Tryz.sizeOf36
 v31:=Tryz.zeroValue36
 t46:=Tryz.underlying222
 a46:=Tryz.isAgg222
 z46:=Tryz.sizeOf222
 v46:=Tryz.zeroValue222
 t51:=Tryz.underlying145
 a51:=Tryz.isAgg145
 z51:=Tryz.sizeOf145
 v51:=Tryz.zeroValue145
 t53:=Tryz.underlying138
 a53:=Tryz.isAgg138
 z53:=Tryz.sizeOf138
 v53:=Tryz.zeroValue138
 t131:=Tryz.underlying98
 a131:=Tryz.isAgg98
 z131:=Tryz.sizeOf98
 v131:=Tryz.zeroValue98
 t182:=Tryz.underlying251
 a182:=Tryz.isAgg251
 z182:=Tryz.sizeOf251
 v182:=Tryz.zeroValue251
 t183:=Tryz.underlying252
 a183:=Tryz.isAgg252
 z183:=Tryz.sizeOf252
 v183:=Tryz.zeroValue252
 t218:=Tryz.underlying310
 a218:=Tryz.isAgg310
 z218:=Tryz.sizeOf310
 v218:=Tryz.zeroValue310
 t222:=Tryz.underlying152
 a222:=Tryz.isAgg152
 z222:=Tryz.sizeOf152
 v222:=Tryz.zeroValue152
 t228:=Tryz.underlying337
 a228:=Tryz.isAgg337
 z228:=Tryz.sizeOf337
 v228:=Tryz.zeroValue337
 t229:=Tryz.underlying338
 a229:=Tryz.isAgg338
 z229:=Tryz.sizeOf338
 v229:=Tryz.zeroValue338 }
open Go.Sort Go.RowKit in
theorem Tryz.slices_Sort_string(blk off cap:Nat)(ss:List (List UInt8))(w:World)(hH:Holds encStr w blk off ss.toArray)(hblk:blk<w.heap.size)(hsz:ss.length<4611686018427387904) :
  Calls Tryz.prog 112 #[.slice (some ⟨blk,off,none⟩) ss.length cap] w λe w'=>
   e = .returned (.tuple #[])/\∃n os,w'=grow (putRow encStr (Sort.ahead w n) blk off (ss.mergeSort λx y=>decide (x<=y)).toArray) os:=Any.slices_Sort_string Tryz.lays190 blk off cap ss w hH hblk hsz
open Go.RowKit Go.Sort in
theorem Tryz.slices_Sort_string_none(p:Option Addr)(cap:Nat)(w:World) :
  Calls Tryz.prog 112 #[.slice p 0 cap] w λe w'=>e = .returned (.tuple #[])/\w'=w:=Any.slices_Sort_string_none Tryz.lays190 p cap w
end Go.Proofs
namespace Go.Proofs.YtjipofkjmmpjdaaGreat
open Go.Hb
theorem Axy{W w:World}{L:List HP}{F:HP->List HP}{s:Sl}{keys:List BA}(h:Ab W w L)[hA:Jl L s (recs Rec.str s keys) F](hk:keys.length<4611686018427387904) :
  Calls PR 112 #[.slice s.a s.n s.c] w λe w'=>e = .returned (.tuple #[])/\Ab W w' (F (recs Rec.str s (EA keys))):=
 Ahq (hA:=hA) (λblk off cap ss w hH hb hs=>Tryz.slices_Sort_string blk off cap ss w hH hb hs) (λcap w=>Tryz.slices_Sort_string_none none cap w) h hk
end Go.Proofs.YtjipofkjmmpjdaaGreat
namespace Go.Hb
instance {s:Int} {k:BA} {x0:Int} {x1:Int} {x2:Int}:LB (Cr Rec.iii) [.i s,.s k,.i x0,.i x1,.i x2] ⟨s,k,(x0,x1,x2)⟩:=⟨rfl⟩
end Go.Hb
namespace Go.Proofs.YtjipofkjmmpjdaaGreat
open Go.Hb Go.IntWalk
section
variable{W w:World}{L M:List HP}{F:HP->List HP}{b:Nat}{seed:Int}{m:List (BA×(Int×Int×Int))}{s:Sl}{ps:List (Pl (Int×Int×Int))}{n1 u1:Int}
theorem Ff{st:BA->Nat}{k:BA}(hst:st=Az seed ps.length)(hz:k.size<4611686018427387904)(hl:0<ps.length/\ps.length<4611686018427387904)(hstop:∃e,e<ps.length/\Bs ps ((st k+e) % ps.length)=0)
  (hs:Ab W w (blk b [.int .u64 seed,.l s.a s.n s.c,.i n1,.i u1]::recs (Cr Rec.iii) s ps::M)) :
  Calls PR 292 #[pq b 0,.s k] w λe w'=>e = .returned (.tuple #[.i ((AI st ps k).1:Int),.b (AI st ps k).2])/\Ab W w' (blk b [.int .u64 seed,.l s.a s.n s.c,.i n1,.i u1]::recs (Cr Rec.iii) s ps::M):=by
 refine c1 (cw ⟨mixed,Tryz.func292,rfl⟩ Alw ?_);have hn:=(Bx (s:=s) hs GG.pos).1;refine Al [blk b [.int .u64 seed,.l s.a s.n s.c,.i n1,.i u1]] hs λw hs=>?_
 repeat (first|with_reducible refine Aa ?_|((with_reducible refine BY ?_);first|refine Aq ?_|fail)|fail)
 refine Am (Gs hs hz) λe w ⟨he,hs⟩=>⟨_,he,?_⟩
 repeat (first|((with_reducible refine Bf ?_);first|refine Af hs ?_|fail)|fail)
 refine Am (Ga (n:=s.n) hs (FR _ _).1 (by omega) (by omega)) λe w ⟨he,hs⟩=>⟨_,he,?_⟩;have e9:(EJ seed k).toNat % s.n=Az seed ps.length k:=by rw[hn,Jc]
 rw[e9];have loop:∀(f:Nat)(free:Option Nat)(i:Nat)(w:World),i<ps.length->(∃e,e<f/\Bs ps ((i+e) % ps.length)=0)->Ab W w (blk b [.int .u64 seed,.l s.a s.n s.c,.i n1,.i u1]::recs (Cr Rec.iii) s ps::M) ->
   Of Be (λv w'=>v = .tuple #[.i ((AC ps k f free i).1:Int),.b (AC ps k f free i).2]/\Ab W w' (blk b [.int .u64 seed,.l s.a s.n s.c,.i n1,.i u1]::recs (Cr Rec.iii) s ps::M)) f (some ⟨b,0,none⟩) k (Ln free) (i:Int) w:=by
  intro f
  induction f with
  | zero=>intro free i w hi ⟨e,he,_⟩;omega
  | succ f ih=>
   intro free i w hi hstop hs;have hm:(i+1) % ps.length<ps.length:=Nat.mod_lt _ hl.1;have next:Bs ps i≠0->∃e',e'<f/\Bs ps (((i+1) % ps.length+e') % ps.length)=0:=by
    obtain⟨e,he,hz0⟩:=hstop;intro hne;cases e with
    | zero=>rw[Nat.add_zero,Nat.mod_eq_of_lt hi] at hz0;exact absurd hz0 hne
    | succ e=>exact⟨e,by omega,by rw[DG];exact hz0⟩
   have hwr:Int.tmod (IntKind.wrap .i64 ((i:Int)+1)) (s.n:Int)=(((i+1) % ps.length:Nat):Int):=by
    rw[i64_in _ (by omega),hn,Int.tmod_eq_emod_of_nonneg (by omega)];simp
   have j4:∀(free':Option Nat)(w:World),Bs ps i≠0->Ab W w (blk b [.int .u64 seed,.l s.a s.n s.c,.i n1,.i u1]::recs (Cr Rec.iii) s ps::M)->AC ps k (f+1) free i=AC ps k f free' ((i+1) % ps.length) ->
     U2 Be (λv w'=>v = .tuple #[.i ((AC ps k (f+1) free i).1:Int),.b (AC ps k (f+1) free i).2]/\Ab W w' (blk b [.int .u64 seed,.l s.a s.n s.c,.i n1,.i u1]::recs (Cr Rec.iii) s ps::M)) f (some ⟨b,0,none⟩) k (Ln free') (i:Int) w:=by
    intro free' w hne hs he;refine jw Xg ?_;rw[he]
    repeat (first|with_reducible refine Aa ?_|((with_reducible refine A2 ?_);first|refine Ah hs ?_|fail)|((with_reducible refine PM ?_);first|refine Lc ?_|fail)|fail)
    rw[hwr];exact ih free' _ w hm (next hne) hs
   rw[Xi];have hcast:((i:Int)).toNat=i:=Int.toNat_natCast i
   repeat (first|with_reducible refine Aa ?_|((with_reducible refine A2 ?_);first|refine Ah hs ?_|refine Ck hs ?_|fail)|((with_reducible refine BC ?_);first|refine BF hs λb_ o_ hs=>?_|fail)|fail)
   rw[hcast];have ei:(ps.getD i default).is_=Bs ps i:=rfl;have ek:(ps.getD i default).key=Dx ps i:=rfl;rw[ei];have j2:∀(t:Bool)(w:World)(b1 o1:Nat),t=decide (Bs ps i=2/\Dx ps i=k)->Ab W w (blk b [.int .u64 seed,.l s.a s.n s.c,.i n1,.i u1]::reca (Cr Rec.iii) b1 o1 s ps::M) ->
     U0 Be (λv w'=>v = .tuple #[.i ((AC ps k (f+1) free i).1:Int),.b (AC ps k (f+1) free i).2]/\Ab W w' (blk b [.int .u64 seed,.l s.a s.n s.c,.i n1,.i u1]::recs (Cr Rec.iii) s ps::M)) f (some ⟨b,0,none⟩) k (Ln free) (i:Int) b1 (o1+i*5) t w:=by
    intro t w b1 o1 ht hs;refine jw Xe ?_;rw[ht]
    with_reducible refine Ee (λh1=>?_) (λh1=>?_)
    ·have e1:AC ps k (f+1) free i=(i,true):=by rw[AC,if_pos h1]
     rw[e1];exact⟨rfl,by exact Ab.fin hs⟩
    ·repeat (first|with_reducible refine Aa ?_|((with_reducible refine A2 ?_);first|refine Ck hs ?_|fail)|fail)
     rw[ei];have j3:∀(t:Bool)(w:World),t=decide (Bs ps i=1/\free=none)->Ab W w (blk b [.int .u64 seed,.l s.a s.n s.c,.i n1,.i u1]::reca (Cr Rec.iii) b1 o1 s ps::M) ->
       U1 Be (λv w'=>v = .tuple #[.i ((AC ps k (f+1) free i).1:Int),.b (AC ps k (f+1) free i).2]/\Ab W w' (blk b [.int .u64 seed,.l s.a s.n s.c,.i n1,.i u1]::recs (Cr Rec.iii) s ps::M)) f (some ⟨b,0,none⟩) k (Ln free) (i:Int) b1 (o1+i*5) t w:=by
      intro t w ht hs;refine jw Xf ?_;rw[ht]
      with_reducible refine Ee (λh2=>?_) (λh2=>?_)
      ·exact j4 (some i) w (by rw[h2.1];decide) (by exact Ab.fin hs) (by rw[AC,if_neg h1,if_pos h2])
      ·repeat (first|with_reducible refine Aa ?_|((with_reducible refine A2 ?_);first|refine Ck hs ?_|fail)|fail)
       rw[ei];have j5:∀(t:Bool)(w:World),t=decide (Bs ps i=0/\free=none)->Ab W w (blk b [.int .u64 seed,.l s.a s.n s.c,.i n1,.i u1]::reca (Cr Rec.iii) b1 o1 s ps::M) ->
         U3 Be (λv w'=>v = .tuple #[.i ((AC ps k (f+1) free i).1:Int),.b (AC ps k (f+1) free i).2]/\Ab W w' (blk b [.int .u64 seed,.l s.a s.n s.c,.i n1,.i u1]::recs (Cr Rec.iii) s ps::M)) f (some ⟨b,0,none⟩) k (Ln free) (i:Int) b1 (o1+i*5) t w:=by
        intro t w ht hs;refine jw Xh ?_;rw[ht]
        with_reducible refine Ee (λh3=>?_) (λh3=>?_)
        ·have e1:AC ps k (f+1) free i=(i,false):=by rw[AC,if_neg h1,if_neg h2,if_pos h3.1,h3.2];rfl
         rw[e1];exact⟨rfl,by exact Ab.fin hs⟩
        ·repeat (first|with_reducible refine Aa ?_|((with_reducible refine A2 ?_);first|refine Ck hs ?_|fail)|fail)
         rw[ei]
         with_reducible refine BP (λh4=>?_) (λh4=>?_)
         ·have e1:AC ps k (f+1) free i=(free.getD i,false):=by rw[AC,if_neg h1,if_neg h2,if_pos h4]
          rw[e1];cases free with
          | none=>exact absurd ⟨h4,rfl⟩ h3
          | some j=>exact⟨rfl,by exact Ab.fin hs⟩
         ·exact j4 free w h4 (by exact Ab.fin hs) (by rw[AC,if_neg h1,if_neg h2,if_neg h4])
       with_reducible refine BP (λh3=>?_) (λh3=>?_)
       ·exact j5 _ w (by simp[h3,Gr]) (by exact Ab.fin hs)
       ·exact j5 _ w (by simp[h3]) (by exact Ab.fin hs)
     with_reducible refine BP (λh2=>?_) (λh2=>?_)
     ·exact j3 _ w (by simp[h2,Gr]) (by exact Ab.fin hs)
     ·exact j3 _ w (by simp[h2]) (by exact Ab.fin hs)
   with_reducible refine BP (λh1=>?_) (λh1=>?_)
   ·repeat (first|with_reducible refine Aa ?_|((with_reducible refine A2 ?_);first|refine EL hs ?_|fail)|fail)
    rw[ek];refine j2 _ w _ _ ?_ (by exact Ab.fin hs);rw[Q7];simp[h1]
   ·refine j2 _ w _ _ ?_ (by exact Ab.fin hs);simp[h1]
 subst hst;have hl2:=loop ps.length none (Az seed ps.length k) w (C9 hl.1 k) hstop hs;rw[show Ln none = -1 from rfl] at hl2;unfold AI;refine⟨ps.length,?_⟩;exact hl2
theorem Jp{k:BA}{v:(Int×Int×Int)}{j:Nat}(hj:j<ps.length)(hb:ps.length<4611686018427387904)(hu:u1=(A7 ps:Int))(hn1:0<=n1/\n1<4611686018427387904)(hs:Ab W w (blk b [.int .u64 seed,.l s.a s.n s.c,.i n1,.i u1]::recs (Cr Rec.iii) s ps::M)) :
  Calls PR 298 #[pq b 0,.i (j:Int),.s k,.agg #[.i (v).1,.i (v).2.1,.i (v).2.2]] w λe w'=>e = .returned (.tuple #[])/\Ab W w' (blk b [.int .u64 seed,.l s.a s.n s.c,.i (n1+1),.i (A7 (ps.set j ⟨2,k,v⟩):Int)]::recs (Cr Rec.iii) s (ps.set j ⟨2,k,v⟩)::M):=by
 refine c1 (cw ⟨mixed,Tryz.func298,rfl⟩ Al2 ?_);refine Ai hs λbv w hs=>?_;have hn:=(Bx (s:=s) hs GG.pos).1;have hle:A7 ps<=ps.length:=List.countP_le_length;rw[Bl hj _ (by show(2:Int)≠0;decide)]
 repeat (first|with_reducible refine Aa ?_|((with_reducible refine A2 ?_);first|refine Ah hs ?_|refine Ck hs ?_|fail)|((with_reducible refine BC ?_);first|refine BF hs λb_ o_ hs=>?_|fail)|fail)
 simp only[Int.toNat_natCast];have ei:(ps.getD j default).is_=Bs ps j:=rfl;rw[ei]
 with_reducible refine BP (λh1=>?_) (λh1=>?_)
 ·repeat (first|with_reducible refine Aa ?_|((with_reducible refine A2 ?_);first|refine Ah hs ?_|fail)|((with_reducible refine Bm ?_);first|refine A4 hs λw hs=>?_|fail)|fail)
  refine jw Mo ?_
  repeat (first|with_reducible refine Aa ?_|((with_reducible refine A2 ?_);first|refine Ah hs ?_|fail)|((with_reducible refine Bm ?_);first|refine A4 hs λw hs=>?_|refine V8 hs λw hs=>?_|fail)|((with_reducible refine BC ?_);first|refine Ha hs ?_|fail)|((with_reducible refine BY ?_);first|refine Aq ?_|fail)|((with_reducible refine Bf ?_);first|refine AW hs ?_|fail)|((with_reducible refine DQ ?_);first|refine A9 hs λw hs=>?_|fail)|fail)
  rw[i64_in (n1+1) (by omega),hu,i64_in _ (by omega)] at hs;simp only[Int.toNat_natCast] at hs;rw[if_pos h1];exact⟨rfl,by exact Ab.fin hs⟩
 ·refine jw Mo ?_
  repeat (first|with_reducible refine Aa ?_|((with_reducible refine A2 ?_);first|refine Ah hs ?_|fail)|((with_reducible refine Bm ?_);first|refine A4 hs λw hs=>?_|refine V8 hs λw hs=>?_|fail)|((with_reducible refine BC ?_);first|refine Ha hs ?_|fail)|((with_reducible refine BY ?_);first|refine Aq ?_|fail)|((with_reducible refine Bf ?_);first|refine AW hs ?_|fail)|((with_reducible refine DQ ?_);first|refine A9 hs λw hs=>?_|fail)|fail)
  rw[i64_in (n1+1) (by omega),hu] at hs;simp only[Int.toNat_natCast] at hs;rw[if_neg h1,Nat.add_zero];exact⟨rfl,by exact Ab.fin hs⟩
theorem Pc{st:BA->Nat}(hi:BV st ps m)(hkz:∀e∈m,e.1.size<4611686018427387904)(hm:m.length<1000000000)(hs:Ab W w (blk b [.int .u64 seed,.l s.a s.n s.c,.i (m.length:Int),.i u1]::recs (Cr Rec.iii) s ps::M)) :
  Calls PR 299 #[pq b 0] w λe w'=>e = .returned (.tuple #[])/\Ab W w' (ixr Rec.iii b seed m::M):=by
 refine c1 (cw ⟨mixed,Tryz.func299,rfl⟩ Al3 ?_);have hn:=(Bx (s:=s) hs GG.pos).1;have hsmall:=hi.small;obtain⟨N,hN⟩:∃N:Nat,N=max 8 (4*(m.length+1)):=⟨_,rfl⟩;have e1:(if (IntKind.wrap .i64 ((4:Int)*(IntKind.wrap .i64 ((m.length:Int)+(1:Int)))))>(8:Int) then (IntKind.wrap .i64 ((4:Int)*(IntKind.wrap .i64 ((m.length:Int)+(1:Int))))) else (8:Int))=(N:Int):=by
  rw[i64_in ((m.length:Int)+1) (by omega),i64_in _ (by omega)];split <;> omega
 repeat (first|with_reducible refine Aa ?_|((with_reducible refine A2 ?_);first|refine Ah hs ?_|fail)|fail)
 rw[e1];refine Eg (sz:=5) hs rfl (by omega) (by omega) (by omega) (by omega) λs2 w hn2 _ _ hs=>?_;rw[Int.toNat_natCast] at hs hn2;have hs:Ab W w (recs (Cr Rec.iii) s2 (List.replicate N ⟨0,Ae,((0,0,0):Int×Int×Int)⟩)::blk b [.int .u64 seed,.l s.a s.n s.c,.i (m.length:Int),.i u1]::recs (Cr Rec.iii) s ps::M):=by
  have e:=DI (Cr Rec.iii) ⟨0,Ae,((0,0,0):Int×Int×Int)⟩ N;unfold recs;rw[<- e];exact hs
 repeat (first|with_reducible refine Aa ?_|((with_reducible refine Bm ?_);first|refine A4 hs λw hs=>?_|fail)|fail)
 have hinv:=BV.new (st:=Az seed N) (n:=N) (z:=(⟨0,Ae,((0,0,0):Int×Int×Int)⟩:Pl (Int×Int×Int))) rfl (by omega) (by omega) (C9 (by omega));have hdist:(AP ps).map (·.1) |>.Nodup:=(hi.perm.map (·.1)).nodup_iff.2 hi.nodup
 have hlen:(AP ps).length=m.length:=hi.perm.length_eq;have loop:∀(f i:Nat)(w:World)(ps2:List (Pl (Int×Int×Int)))(mi:List (BA×(Int×Int×Int))),i+f=ps.length->ps2.length=N->BV (Az seed N) ps2 mi->mi.Perm (AP (ps.take i))->A7 ps2<=mi.length ->
   Ab W w (blk b [.int .u64 seed,.l s2.a s2.n s2.c,.i (mi.length:Int),.i (A7 ps2:Int)]::recs (Cr Rec.iii) s2 ps2::recs (Cr Rec.iii) s ps::M) ->
   Kt Be (λv w'=>v = .tuple #[]/\Ab W w' (ixr Rec.iii b seed m::M)) (f+1) (some ⟨b,0,none⟩) s (s.n:Int) (i:Int) w:=by
  intro f
  induction f with
  | zero=>
   intro i w ps2 mi hif hpl hiv hp hu hs;rw[Mp];refine Ac (decide_eq_false (by omega)) ⟨rfl,?_⟩;rw[List.take_of_length_le (by omega)] at hp;have hpm:=hp.trans hi.perm;refine AV s2 (ps:=ps2) (n:=(mi.length:Int)) ?_ ?_ (by rw[hpm.length_eq]) rfl (by exact Ab.fin hs)
   ·rw[hpl];exact hiv.perm' hpm
   ·rw[hpl];have:=hpm.length_eq;omega
  | succ f ih=>
   intro i w ps2 mi hif hpl hiv hp hu hs;rw[Mp];refine Ak (decide_eq_true (by omega)) ?_
   repeat (first|((with_reducible refine A2 ?_);first|refine Ah hs ?_|refine Ck hs ?_|refine EL hs ?_|refine MA hs ?_|refine Yx hs ?_|refine A3o hs ?_|fail)|((with_reducible refine Bm ?_);first|refine A4 hs λw hs=>?_|fail)|((with_reducible refine BC ?_);first|refine BF hs λb_ o_ hs=>?_|fail)|((with_reducible refine CC ?_);first|refine Ai hs λb_ w hs=>?_|fail)|fail)
   simp only[Int.toNat_natCast] at hs ⊢;have hil:i<ps.length:=by omega
   have hft:AP (ps.take (i+1))=AP (ps.take i)++En (ps.getD i default):=by
    rw[Cc hil,BB];simp[AP]
   with_reducible refine BP (λh1=>?_) (λh1=>?_)
   ·have hop:En (ps.getD i default)=[((ps.getD i default).key,(ps.getD i default).v)]:=Ft h1;rw[hop] at hft;have hsub:(AP (ps.take (i+1))).Sublist (AP ps):=by
     conv=>rhs;rw[<- List.take_append_drop (i+1) ps,BB]
     exact List.sublist_append_left _ _
    have hmem:((ps.getD i default).key,(ps.getD i default).v)∈m:=hi.perm.subset (hsub.subset (by rw[hft];simp));have hnd:=hdist.sublist (hsub.map (·.1));rw[hft,List.map_append] at hnd;have hno:AE mi (ps.getD i default).key=none:=by
     rw[Bu];intro e he hk;rw[List.nodup_append] at hnd;exact hnd.2.2 _ (List.mem_map_of_mem (f:=(·.1)) (hp.subset he)) _ (by simp) hk
    have hlt:mi.length+1<=m.length:=by
     have:=hsub.length_le;rw[hft,List.length_append,<- hp.length_eq] at this;simp only[List.length_cons,List.length_nil] at this;omega
    repeat (first|((with_reducible refine A2 ?_);first|refine Ah hs ?_|fail)|fail)
    have hs:Ab W w (blk b [.int .u64 seed,.l s2.a s2.n s2.c,.i (mi.length:Int),.i (A7 ps2:Int)]::recs (Cr Rec.iii) s2 ps2::blk b_ [.i (ps.getD i default).is_,.s (ps.getD i default).key,.i (ps.getD i default).v.1,.i (ps.getD i default).v.2.1,.i (ps.getD i default).v.2.2]::recs (Cr Rec.iii) s ps::M):=by exact Ab.fin hs
    refine AG (Ff (st:=Az seed N) (by rw[hpl]) (hkz _ hmem) (by omega) (hiv.stop _) hs) λe w ⟨he,hs⟩=>⟨_,_,he,?_⟩;have hfm:(AI (Az seed N) ps2 (ps.getD i default).key).2=false:=by
     cases hb:(AI (Az seed N) ps2 (ps.getD i default).key).2 with
     | false=>rfl
     | true=>have:=(hiv.hit hb).2.2;rw[hno] at this;cases this
    obtain⟨hj,hj2,_,hjr⟩:=hiv.miss hfm
    repeat (first|((with_reducible refine A2 ?_);first|refine Ah hs ?_|fail)|fail)
    refine Ar (Jp (v:=(ps.getD i default).v) hj (by omega) rfl (by omega) hs) λe w ⟨he,hs⟩=>⟨he,?_⟩;rw[i64_in _ (by omega)];have hus:=Bl hj (⟨2,(ps.getD i default).key,(ps.getD i default).v⟩:Pl (Int×Int×Int)) (by show(2:Int)≠0;decide)
    have hus2:A7 (ps2.set (AI (Az seed N) ps2 (ps.getD i default).key).1 ⟨2,(ps.getD i default).key,(ps.getD i default).v⟩)<=A7 ps2+1:=by rw[hus];split <;> omega
    refine ih (i+1) w _ (((ps.getD i default).key,(ps.getD i default).v)::mi) (by omega) (by rw[List.length_set];exact hpl) (hiv.add hj hj2 hno hjr (by omega)) ?_ (by simp only[List.length_cons];omega) ?_
    ·rw[hft];exact((List.Perm.cons _ hp).trans (List.perm_append_comm (l₁:=[_])))
    ·simp only[List.length_cons,Int.natCast_add];exact Ab.fin hs
   ·have hop:En (ps.getD i default)=[]:=Hl h1;rw[hop,List.append_nil] at hft;rw[i64_in _ (by omega)];exact ih (i+1) w ps2 mi (by omega) hpl hiv (by rw[hft];exact hp) hu (by exact Ab.fin hs)
 refine⟨ps.length+1,?_⟩;refine loop ps.length 0 w (List.replicate N ⟨0,Ae,((0,0,0):Int×Int×Int)⟩) [] (by omega) (by simp) hinv (by simp[AP]) ?_ ?_
 ·have:A7 (List.replicate N (⟨0,Ae,((0,0,0):Int×Int×Int)⟩:Pl (Int×Int×Int)))=0:=by
   unfold A7;rw[List.countP_eq_zero];intro a ha;rw[List.eq_of_mem_replicate ha];simp
  rw[this];exact Nat.zero_le _
 ·have:A7 (List.replicate N (⟨0,Ae,((0,0,0):Int×Int×Int)⟩:Pl (Int×Int×Int)))=0:=by
   unfold A7;rw[List.countP_eq_zero];intro a ha;rw[List.eq_of_mem_replicate ha];simp
  rw[this];exact Ab.fin hs
end
section
variable{W w:World}{L M:List HP}{F:HP->List HP}{b:Nat}{seed:Int}{m:List (BA×(Int×Int×Int))}{k:BA}
theorem Ae0(hs:Ab W w L):Calls PR 185 #[.int .u64 seed] w λe w'=>∃b,e = .returned (pq b 0)/\Ab W w' (ixr Rec.iii b seed []::L):=by
 refine(cw ⟨mixed,Tryz.func185,rfl⟩ Akl (Q:=λv w'=>∃b,v=pq b 0/\Ab W w' (ixr Rec.iii b seed []::L)) ?_).mono λe w' ⟨v,he,b,hv,hs⟩=>⟨b,by rw[he,hv],hs⟩;refine Eg (sz:=5) hs rfl (by omega) (by omega) (by omega) (by omega) λs2 w hn2 _ _ hs=>?_;have hs:Ab W w (recs (Cr Rec.iii) s2 (List.replicate 8 ⟨0,Ae,((0,0,0):Int×Int×Int)⟩)::L):=hs
 repeat (first|((with_reducible refine CC ?_);first|refine Ai hs λb_ w hs=>?_|fail)|fail)
 refine⟨_,rfl,AV s2 (ps:=List.replicate 8 ⟨0,Ae,((0,0,0):Int×Int×Int)⟩) (n:=0) (u:=0) (BV.new (n:=8) rfl (by omega) (by omega) (C9 (by simp))) (by decide +revert) rfl rfl (by exact Ab.fin hs)⟩
theorem CQ(h:Ab W w L)[hA:At L b (ixr Rec.iii b seed m) F](hz:k.size<4611686018427387904):Calls PR 282 #[pq b 0,.s k] w λe w'=>e = .returned (.tuple #[.agg #[.i ((AE m k).getD ((0,0,0):Int×Int×Int)).1,.i ((AE m k).getD ((0,0,0):Int×Int×Int)).2.1,.i ((AE m k).getD ((0,0,0):Int×Int×Int)).2.2],.b (AE m k).isSome])/\Ab W w' (F (ixr Rec.iii b seed m)):=by
 refine At.call1 (hA:=hA) h λM hs=>?_;clear h hA;refine c1 (cw ⟨mixed,Tryz.func282,rfl⟩ All ?_);refine Ai hs λbz w hs=>?_;have hs:Ab W w (ixr Rec.iii b seed m::blk bz [.i (0:Int),.i (0:Int),.i (0:Int)]::M):=by exact Ab.fin hs
 refine Ak rfl ?_;obtain⟨s,ps,hi,h2,hn,hs⟩:=Cy hs;have hsm:=hi.small;have hbg:=hi.big;refine AG (Ff (st:=Az seed ps.length) rfl hz (by omega) (hi.stop _) hs) λe w ⟨he,hs⟩=>⟨_,_,he,?_⟩;refine Ap (λhb=>?_) (λhb=>?_)
 ·obtain⟨hj,_,hg⟩:=hi.hit hb;rw[hg]
  repeat (first|with_reducible refine Aa ?_|((with_reducible refine A2 ?_);first|refine Ah hs ?_|refine EL hs ?_|refine MA hs ?_|refine Yx hs ?_|fail)|((with_reducible refine Bm ?_);first|refine A4 hs λw hs=>?_|fail)|((with_reducible refine BC ?_);first|refine BF hs λb_ o_ hs=>?_|fail)|fail)
  simp only[Int.toNat_natCast];exact⟨rfl,AV s hi h2 rfl rfl (by exact Ab.fin hs)⟩
 ·rw[(hi.miss hb).2.2.1];refine jw Xb ?_
  repeat (first|((with_reducible refine A2 ?_);first|refine Ah hs ?_|fail)|((with_reducible refine Bm ?_);first|refine A4 hs λw hs=>?_|fail)|((with_reducible refine CC ?_);first|refine Ai hs λb_ w hs=>?_|fail)|fail)
  exact⟨rfl,AV s hi h2 rfl rfl (by exact Ab.fin hs)⟩
theorem Ae1(h:Ab W w L)[hA:At L b (ixr Rec.iii b seed m) F]{v:(Int×Int×Int)}(hz:k.size<4611686018427387904)(hkz:∀e∈m,e.1.size<4611686018427387904)(hm:m.length<900000000):Calls PR 297 #[pq b 0,.s k,.agg #[.i (v).1,.i (v).2.1,.i (v).2.2]] w λe w'=>e = .returned (.b (AE m k).isNone)/\Ab W w' (F (ixr Rec.iii b seed (Cj m k v))):=by
 refine At.call1 (hA:=hA) h λM hs=>?_;clear h hA;refine c1 (cw ⟨mixed,Tryz.func297,rfl⟩ Al1 ?_);refine Ai hs λbv w hs=>?_;have hs:Ab W w (ixr Rec.iii b seed m::blk bv [.i v.1,.i v.2.1,.i v.2.2]::M):=by exact Ab.fin hs
 refine Ac rfl ?_;obtain⟨s,ps,hi,h2,hn,hs⟩:=Cy hs;have hsm:=hi.small;have hbg:=hi.big;refine AG (Ff (st:=Az seed ps.length) rfl hz (by omega) (hi.stop _) hs) λe w ⟨he,hs⟩=>⟨_,_,he,?_⟩;refine Ap (λhb=>?_) (λhb=>?_)
 ·obtain⟨hj,hit,hg⟩:=hi.hit hb;have hp:Cj m k v=E5 m k v:=by unfold Cj;rw[hg]
  rw[hg,hp]
  repeat (first|with_reducible refine Aa ?_|((with_reducible refine A2 ?_);first|refine Ah hs ?_|fail)|((with_reducible refine BC ?_);first|refine BF hs λb_ o_ hs=>?_|fail)|((with_reducible refine BY ?_);first|refine Aq ?_|fail)|((with_reducible refine Bf ?_);first|refine AW hs ?_|fail)|((with_reducible refine DQ ?_);first|refine A9 hs λw hs=>?_|fail)|fail)
  simp only[Int.toNat_natCast];refine VB (vs:=[.i v.1,.i v.2.1,.i v.2.2]) (pre:=[.i (ps.getD (AI (Az seed ps.length) ps k).1 default).is_,.s (ps.getD (AI (Az seed ps.length) ps k).1 default).key]) (mid:=[.i (ps.getD (AI (Az seed ps.length) ps k).1 default).v.1,.i (ps.getD (AI (Az seed ps.length) ps k).1 default).v.2.1,.i (ps.getD (AI (Az seed ps.length) ps k).1 default).v.2.2]) (tl:=[]) (a':={ ps.getD (AI (Az seed ps.length) ps k).1 default with v:=v }) (i:=(AI (Az seed ps.length) ps k).1) (j:=2) (n:=5) hs rfl hj rfl rfl rfl rfl λw hs=>?_
  have hset:=hi.set (v:=v) hj hit;have hus:A7 (ps.set (AI (Az seed ps.length) ps k).1 { ps.getD (AI (Az seed ps.length) ps k).1 default with v:=v })=A7 ps:=by
   rw[Bl hj _ (by show Bs ps _≠0;rw[hit.1];decide),if_neg (by rw[hit.1];decide)];rfl
  refine⟨rfl,AV s (n:=(m.length:Int)) (u:=(A7 ps:Int)) (by rw[List.length_set];exact hset) (by rw[hus,List.length_set];exact h2) (by simp[E5]) (by rw[hus]) (by exact Ab.fin hs)⟩
 ·obtain⟨hj,hj2,hg,hr⟩:=hi.miss hb;have hp:Cj m k v=(k,v)::m:=by unfold Cj;rw[hg]
  rw[hg,hp]
  repeat (first|((with_reducible refine A2 ?_);first|refine Ah hs ?_|fail)|fail)
  refine Ar (Jp (v:=v) hj (by omega) rfl (by omega) hs) λe w ⟨he,hs⟩=>⟨he,?_⟩;have hus:=Bl hj (⟨2,k,v⟩:Pl (Int×Int×Int)) (by show(2:Int)≠0;decide)
  have hus2:A7 (ps.set (AI (Az seed ps.length) ps k).1 ⟨2,k,v⟩)<=A7 ps+1:=by rw[hus];split <;> omega
  have hadd:=hi.add (v:=v) hj hj2 hg hr (by omega);have hsl:(ps.set (AI (Az seed ps.length) ps k).1 ⟨2,k,v⟩).length=ps.length:=by simp
  generalize hps2:ps.set (AI (Az seed ps.length) ps k).1 ⟨2,k,v⟩=ps2 at hs hus2 hadd hsl
  repeat (first|with_reducible refine Aa ?_|((with_reducible refine A2 ?_);first|refine Ah hs ?_|fail)|((with_reducible refine BY ?_);first|refine Aq ?_|fail)|((with_reducible refine Bf ?_);first|refine AW hs ?_|fail)|((with_reducible refine DQ ?_);first|refine A9 hs λw hs=>?_|fail)|fail)
  rw[i64_in _ (by omega),hn]
  with_reducible refine Di (λh9=>?_) (λh9=>?_)
  ·have hkz2:∀e∈(k,v)::m,e.1.size<4611686018427387904:=by
    intro e he;rcases List.mem_cons.1 he with rfl|he
    ·exact hz
    ·exact hkz e he
   have hs2:Ab W w (blk b [.int .u64 seed,.l s.a s.n s.c,.i (((k,v)::m).length:Int),.i (A7 ps2:Int)]::recs (Cr Rec.iii) s ps2::M):=by
    simp only[List.length_cons,Int.natCast_add];exact Ab.fin hs
   refine Ar (Pc hadd hkz2 (by simp;omega) hs2) λe w ⟨he,hs⟩=>⟨he,?_⟩;exact⟨rfl,hs⟩
  ·exact⟨rfl,AV s (n:=(m.length:Int)+1) (by rw[hsl];exact hadd) (by omega) (by simp) rfl (by exact Ab.fin hs)⟩
theorem TR(h:Ab W w L)[hA:At L b (ixr Rec.iii b seed m) F](hz:k.size<4611686018427387904)(hm:m.length<900000000):Calls PR 296 #[pq b 0,.s k] w λe w'=>e = .returned (.tuple #[.agg #[.i ((AE m k).getD ((0,0,0):Int×Int×Int)).1,.i ((AE m k).getD ((0,0,0):Int×Int×Int)).2.1,.i ((AE m k).getD ((0,0,0):Int×Int×Int)).2.2],.b (AE m k).isSome])/\Ab W w' (F (ixr Rec.iii b seed (BJ m k))):=by
 refine At.call1 (hA:=hA) h λM hs=>?_;clear h hA;refine c1 (cw ⟨mixed,Tryz.func296,rfl⟩ Al0 ?_);refine Ai hs λb1 w hs=>?_;refine(CQ hs hz).mono λe w ⟨he,hs⟩=>⟨_,_,_,_,he,?_⟩
 repeat (first|((with_reducible refine Bm ?_);first|refine A4 hs λw hs=>?_|fail)|((with_reducible refine CC ?_);first|refine Ai hs λb_ w hs=>?_|fail)|fail)
 have hs:Ab W w (ixr Rec.iii b seed m::blk b_ [.i ((AE m k).getD ((0,0,0):Int×Int×Int)).1,.i ((AE m k).getD ((0,0,0):Int×Int×Int)).2.1,.i ((AE m k).getD ((0,0,0):Int×Int×Int)).2.2]::blk b1 [.i (0:Int),.i (0:Int),.i (0:Int)]::M):=by exact Ab.fin hs
 refine K3 (λv hg=>?_) (λhg=>?_)
 ·obtain⟨s,ps,hi,h2,hn,hs⟩:=Cy hs;have hsm:=hi.small;have hbg:=hi.big;refine AG (Ff (st:=Az seed ps.length) rfl hz (by omega) (hi.stop _) hs) λe w ⟨he,hs⟩=>⟨_,_,he,?_⟩;have hb:(AI (Az seed ps.length) ps k).2=true:=by
   cases hb:(AI (Az seed ps.length) ps k).2 with
   | true=>rfl
   | false=>have:=(hi.miss hb).2.2.1;rw[hg] at this;cases this
  obtain⟨hj,hit,_⟩:=hi.hit hb
  repeat (first|with_reducible refine Aa ?_|((with_reducible refine A2 ?_);first|refine Ah hs ?_|fail)|((with_reducible refine Bm ?_);first|refine A4 hs λw hs=>?_|refine V8 hs λw hs=>?_|fail)|((with_reducible refine BC ?_);first|refine BF hs λb_ o_ hs=>?_|fail)|fail)
  rw[i64_in _ (by omega)] at hs;simp only[Int.toNat_natCast] at hs;have hdel:=hi.del (z:=(⟨1,Ae,((0,0,0):Int×Int×Int)⟩:Pl (Int×Int×Int))) hj hit rfl;have hus:A7 (ps.set (AI (Az seed ps.length) ps k).1 (⟨1,Ae,((0,0,0):Int×Int×Int)⟩:Pl (Int×Int×Int)))=A7 ps:=by
   rw[Bl hj _ (by show(1:Int)≠0;decide),if_neg (by rw[hit.1];decide)];rfl
  have hl:=KD hi.nodup hg;refine⟨by trivial,AV s (n:=(m.length:Int)-1) (u:=(A7 ps:Int)) (by rw[List.length_set];exact hdel) (by rw[hus,List.length_set];exact h2) (by omega) (by rw[hus]) (by exact Ab.fin hs)⟩
 ·have:BJ m k=m:=by
   unfold BJ;rw[List.filter_eq_self];intro e he;simpa using Bu.1 hg e he
  rw[this]
  repeat (first|((with_reducible refine A2 ?_);first|refine Ah hs ?_|fail)|((with_reducible refine Bm ?_);first|refine A4 hs λw hs=>?_|fail)|fail)
  exact⟨by trivial,by exact Ab.fin hs⟩
end
end Go.Proofs.YtjipofkjmmpjdaaGreat
namespace Go.Proofs.YtjipofkjmmpjdaaGreat
open Go.Hb Go.IntWalk
section
variable{W w:World}{L M:List HP}{F:HP->List HP}{b nb:Nat}{c:Int}{N N':Nat}{x y:Bb}{sb qb xb:Nat}{row sr sr' qr qr':D1}{free sf sf' qf qf':List Nat}{m:LM}{key:BA}{h g i:Int}
theorem EZ(h:Ab W w L)[hA:At L b (lst .s b row free) F]{x:Int}(hr:row.length+free.length<1099511627776)(hn:(row.map (·.2)).Nodup)(hx:x=AO row key) :
  Calls PR 160 #[pq b 0,.i x] w λe w'=>(∃v o,e = .returned (.tuple #[.s v,.b o]))/\∃f',Hw row free key (CX row key) f'/\Ab W w' (F (lst .s b (CX row key) f')):=by
 refine At.one (hA:=hA) h λM hs hb=>?_;obtain⟨hh,hp⟩:=IU hs;have hR:=(A19 (k:=key) hn hh hp).1;refine(GN hs hr (x:=x)).mono λe w' ⟨he,hs⟩=>⟨⟨_,_,he⟩,?_⟩;subst hx;cases hq:IW row (AO row key) with
 | none=>
  simp only[hq] at hs hR;rw[hR] at hs;exact⟨_,⟨GC row key,λk hk=>KQ hk,Tz,by rw[<- hR];omega⟩,hb _ _ hs⟩
 | some i=>
  simp only[hq] at hs hR;rw[hR] at hs;obtain⟨_,_,_,_,hlt⟩:=KL hq;refine⟨_,⟨GC row key,λk hk=>KQ hk,Tz,?_⟩,hb _ _ hs⟩;rw[<- hR,List.length_eraseIdx,if_pos hlt];simp;omega
theorem KS(h:Ab W w L)[hA:At L b (lst .s b row free) F](hr:row.length+free.length<1099511627776)(hk:key∉row.map (·.2)) :
  Calls PR 162 #[pq b 0,.s key] w λe w'=>∃row' f',e = .returned (.i (AO row' key))/\Hx row free key row' f'/\Ab W w' (F (lst .s b row' f')):=by
 refine(F4 h hr).mono λe w' ⟨he,hs⟩=>⟨_,_,?_,⟨?_,λk h=>Rh h,?_⟩,hs⟩
 ·rw[he,Abk hk]
 ·rw[As hk];simp
 ·simp;omega
theorem T3{row1:D1}{free1:List Nat}(h1:Hw row free key row1 free1)(h2:Hx row1 free1 key sr' sf'):Hx row free key sr' sf':=by
 refine⟨?_,λk hk=>by rw[h2.ne k hk,h1.ne k hk],by
  have a1:=h1.len;have a2:=h2.len;have a3:=congrArg List.length h1.keys;have a4:=Bj (row.map (·.2)) key
  simp only[List.length_map] at a3 a4;omega⟩
 rw[h2.keys,h1.keys,As (λh=>(AK.1 h).2 rfl)]
theorem ME{s q:Int}(hs:Ab W w (blk nb [.i i,.i s,.i q]::eB b c sb qb xb h g::lst .s sb sr sf::M))(hr:sr.length+sf.length<1000000000)(hn:(sr.map (·.2)).Nodup)(hx:s=AO sr key) :
  Calls PR 293 #[pq b 0,pq nb 0,.s key] w λe w'=>e = .returned (.tuple #[])/\∃sr' sf',Hx sr sf key sr' sf'/\Ab W w' (blk nb [.i i,.i (AO sr' key),.i q]::eB b c sb qb xb h g::lst .s sb sr' sf'::M):=by
 refine c1 (cw ⟨mixed,Tryz.func293,rfl⟩ Alx ?_)
 repeat (first|with_reducible refine Aa ?_|((with_reducible refine A2 ?_);first|refine Ah hs ?_|fail)|((with_reducible refine BY ?_);first|refine Aq ?_|fail)|((with_reducible refine Bf ?_);first|refine AW hs ?_|fail)|with_reducible refine A9 hs λw hs=>?_|fail)
 refine AG (EZ hs (by omega) hn hx) λe w ⟨⟨_,_,he⟩,f',hc,hs⟩=>⟨_,_,he,?_⟩;have hl:=hc.len
 repeat (first|with_reducible refine Aa ?_|((with_reducible refine A2 ?_);first|refine Ah hs ?_|fail)|fail)
 refine Am (KS (key:=key) hs (by omega) (Ab7 _ _)) λe w ⟨sr',sf',he,hp,hs⟩=>⟨_,he,?_⟩
 repeat (first|with_reducible refine Aa ?_|((with_reducible refine Bm ?_);first|refine A4 hs λw hs=>?_|fail)|fail)
 exact⟨rfl,sr',sf',T3 hc hp,by exact Ab.fin hs⟩
theorem MD{s q:Int}(hs:Ab W w (blk nb [.i i,.i s,.i q]::eB b c sb qb xb h g::lst .s qb qr qf::M))(hr:qr.length+qf.length<1000000000)(hn:(qr.map (·.2)).Nodup)(hx:q=AO qr key) :
  Calls PR 291 #[pq b 0,pq nb 0,.s key] w λe w'=>e = .returned (.tuple #[])/\∃qr' qf',Hx qr qf key qr' qf'/\Ab W w' (blk nb [.i i,.i s,.i (AO qr' key)]::eB b c sb qb xb h g::lst .s qb qr' qf'::M):=by
 refine c1 (cw ⟨mixed,Tryz.func291,rfl⟩ Alv ?_)
 repeat (first|with_reducible refine Aa ?_|((with_reducible refine A2 ?_);first|refine Ah hs ?_|fail)|((with_reducible refine BY ?_);first|refine Aq ?_|fail)|((with_reducible refine Bf ?_);first|refine AW hs ?_|fail)|with_reducible refine A9 hs λw hs=>?_|fail)
 refine AG (EZ hs (by omega) hn hx) λe w ⟨⟨_,_,he⟩,f',hc,hs⟩=>⟨_,_,he,?_⟩;have hl:=hc.len
 repeat (first|with_reducible refine Aa ?_|((with_reducible refine A2 ?_);first|refine Ah hs ?_|fail)|fail)
 refine Am (KS (key:=key) hs (by omega) (Ab7 _ _)) λe w ⟨qr',qf',he,hp,hs⟩=>⟨_,he,?_⟩
 repeat (first|with_reducible refine Aa ?_|((with_reducible refine Bm ?_);first|refine A4 hs λw hs=>?_|fail)|fail)
 exact⟨rfl,qr',qf',T3 hc hp,by exact Ab.fin hs⟩
theorem FX{s q:Int}(hs:Ab W w (blk nb [.i i,.i s,.i q]::eB b c sb qb xb h g::lst .s qb qr qf::M))(hr:qr.length+qf.length<1000000000)(hn:(qr.map (·.2)).Nodup)(hx:q=AO qr key) :
  Calls PR 287 #[pq b 0,pq nb 0] w λe w'=>e = .returned (.tuple #[])/\∃qf',Hw qr qf key (CX qr key) qf'/\Ab W w' (blk nb [.i i,.i s,.i 0]::eB b c sb qb xb h g::lst .s qb (CX qr key) qf'::M):=by
 refine c1 (cw ⟨mixed,Tryz.func287,rfl⟩ Alq ?_)
 repeat (first|with_reducible refine Aa ?_|((with_reducible refine A2 ?_);first|refine Ah hs ?_|fail)|((with_reducible refine BY ?_);first|refine Aq ?_|fail)|((with_reducible refine Bf ?_);first|refine AW hs ?_|fail)|with_reducible refine A9 hs λw hs=>?_|fail)
 refine AG (EZ hs (by omega) hn hx) λe w ⟨⟨_,_,he⟩,f',hc,hs⟩=>⟨_,_,he,?_⟩
 repeat (first|with_reducible refine Aa ?_|((with_reducible refine Bm ?_);first|refine A4 hs λw hs=>?_|fail)|fail)
 exact⟨rfl,f',hc,by exact Ab.fin hs⟩
theorem I3{is by_:Int}(hs:Ab W w (eB b c sb qb xb h g::M))(h1:-1099511627776<h/\h<1099511627776)(h2:-1099511627776<g/\g<1099511627776)(hb:-1<=by_/\by_<=1) :
  Calls PR 295 #[pq b 0,.i is,.i by_] w λe w'=>e = .returned (.tuple #[])/\Ab W w' (eB b c sb qb xb (h+(if is=1 then by_ else 0)) (g+(if is=3 then by_ else 0))::M):=by
 refine c1 (cw ⟨mixed,Tryz.func295,rfl⟩ Alz ?_)
 with_reducible refine Ay (λh3=>?_) (λh3=>?_)
 ·subst h3
  repeat (first|with_reducible refine Aa ?_|((with_reducible refine A2 ?_);first|refine Ah hs ?_|fail)|((with_reducible refine Bm ?_);first|refine A4 hs λw hs=>?_|fail)|fail)
  rw[i64_in _ (by omega)] at hs;simp only[if_true,show ¬((1:Int)=3) by decide,if_false,Int.add_zero,true_and];exact Ab.fin hs
 ·with_reducible refine Ay (λh4=>?_) (λh4=>?_)
  ·subst h4
   repeat (first|with_reducible refine Aa ?_|((with_reducible refine A2 ?_);first|refine Ah hs ?_|fail)|((with_reducible refine Bm ?_);first|refine A4 hs λw hs=>?_|fail)|fail)
   rw[i64_in _ (by omega)] at hs;simp only[if_true,show ¬((3:Int)=1) by decide,if_false,Int.add_zero,true_and];exact Ab.fin hs
  ·rw[if_neg h3,if_neg h4,Int.add_zero,Int.add_zero];exact⟨rfl,hs⟩
theorem Dc{n:LE}(hi:LX N x sr sf qr qf m)(hu:LX N' y sr' sf' qr' qf' (PV m key n))(hz:key.size<64)(hc:Bq y.s key=Bq x.s key)(hk:n.1=lK y.s y.q key)(hN:N<400000000)
  (hs:Ab W w (eB b c sb qb xb ((A8 x.s 1:Int)) ((A8 x.s 3:Int))::lst .s sb sr' sf'::lst .s qb qr' qf'::ixr Rec.iii xb 0 m::M)) :
  Calls PR 288 #[pq b 0,.s key,.agg #[.i n.1,.i n.2.1,.i n.2.2]] w λe w'=>e = .returned (.tuple #[])/\Ab W w' (lirR b c N' y::M):=by
 refine c1 (cw ⟨mixed,Tryz.func288,rfl⟩ Alr ?_);have hw:((AE m key).getD ((0,0,0):Int×Int×Int)).1=lK x.s x.q key:=by have:=hi.ent key;unfold lG at this;rw[this]
 have hnm:=hi.nm;have hc1:A8 x.s 1<=N/\A8 x.s 3<=N:=by
  have h1:=congrArg List.length hi.sk;have:=hi.ns;simp only[List.length_map,AR] at h1;have a:=List.countP_le_length (p:=λe:BA×Int=>decide (e.2=1)) (l:=x.s);have d:=List.countP_le_length (p:=λe:BA×Int=>decide (e.2=3)) (l:=x.s);unfold A8;omega
 obtain⟨e1,e3⟩:=Azg hi.w hu.w hc;refine Ai hs λnb w hs=>?_
 repeat (first|with_reducible refine Aa ?_|((with_reducible refine A2 ?_);first|refine Ah hs ?_|fail)|fail)
 refine(CQ hs (by omega)).mono λe w ⟨he,hs⟩=>⟨_,_,_,_,he,?_⟩;rw[hw]
 repeat (first|((with_reducible refine A2 ?_);first|refine Ah hs ?_|fail)|((with_reducible refine Bm ?_);first|refine A4 hs λw hs=>?_|fail)|with_reducible refine Ai hs λb_ w hs=>?_|fail)
 refine Ar (I3 (W:=W) (c:=c) (sb:=sb) (qb:=qb) (xb:=xb) (h:=(A8 x.s 1:Int)) (g:=(A8 x.s 3:Int)) (by exact Ab.fin hs) (by omega) (by omega) (by decide) (M:=blk nb [.i n.1,.i n.2.1,.i n.2.2]::lst .s sb sr' sf'::lst .s qb qr' qf'::ixr Rec.iii xb 0 m::M)) λe w ⟨he,hs⟩=>⟨he,?_⟩
 repeat (first|((with_reducible refine A2 ?_);first|refine Ah hs ?_|fail)|fail)
 refine Ar (I3 hs (by split <;> omega) (by split <;> omega) (by decide)) λe w ⟨he,hs⟩=>⟨he,?_⟩;rw[<- hk] at e1 e3;rw[e1,e3] at hs
 repeat (first|((with_reducible refine A2 ?_);first|refine Ah hs ?_|fail)|fail)
 with_reducible refine Ay (λh0=>?_) (λh0=>?_)
 ·repeat (first|with_reducible refine Aa ?_|((with_reducible refine A2 ?_);first|refine Ah hs ?_|fail)|fail)
  refine(TR hs (by omega) (by omega)).mono λe w ⟨he,hs⟩=>⟨_,_,_,_,he,?_⟩;have:PV m key n=BJ m key:=if_pos h0;rw[this] at hu;exact⟨rfl,Ci hu rfl rfl (by exact Ab.fin hs)⟩
 ·repeat (first|with_reducible refine Aa ?_|((with_reducible refine A2 ?_);first|refine Ah hs ?_|fail)|((with_reducible refine BY ?_);first|refine Aq ?_|fail)|((with_reducible refine Bf ?_);first|refine AW hs ?_|fail)|with_reducible refine A9 hs λw hs=>?_|fail)
  refine Am (Ae1 (v:=n) hs (by omega) hi.msm (by omega)) λe w ⟨he,hs⟩=>⟨_,he,?_⟩;have:PV m key n=Cj m key n:=if_neg h0;rw[this] at hu;exact⟨rfl,Ci hu rfl rfl (by exact Ab.fin hs)⟩
end
end Go.Proofs.YtjipofkjmmpjdaaGreat
namespace Go.Hb
theorem MN{T:Type}{row:List (Nat×T)}{i:Nat}(h:i<row.length):AS row i=row[i].1:=by
 unfold AS;rw[List.getD_eq_getElem?_getD,List.getElem?_map,List.getElem?_eq_getElem h];rfl
theorem Tu{T:Type}{row:List (Nat×T)}(hn:(row.map (·.1)).Nodup){i:Nat}(h:i<row.length):IW row (AS row i:Int)=some i:=by
 rw[MN h];exact JJ hn (List.getElem?_eq_getElem h)
theorem Ri{T:Type}{row:List (Nat×T)}(hn:(row.map (·.1)).Nodup){i:Nat}(h:i<row.length):HO row (AS row i:Int)=AS row (i+1):=by
 unfold HO;rw[Tu hn h]
theorem Rj{T:Type}{row:List (Nat×T)}{i:Nat}(h:row.length<=i):AS row i=0:=by
 unfold AS;rw[List.getD_eq_getElem?_getD,List.getElem?_eq_none (by simpa using h)];rfl
theorem HQ{T:Type}{row:List (Nat×T)}(hn:(row.map (·.1)).Nodup){i:Nat}(h:i<row.length):EY row (AS row i:Int)=some row[i].2:=by
 unfold EY;rw[Tu hn h];simp[h]
theorem T0{row:D1}{k:BA}(hp:∀e∈row,0<e.1)(h:k∈row.map (·.2)):AO row k≠0:=by
 unfold AO;cases hf:(row.find? λe=>decide (e.2=k)) with
 | none=>
  rw[List.find?_eq_none] at hf;obtain⟨e,he,hk⟩:=List.mem_map.1 h;exact absurd (by simpa using hk) (hf e he)
 | some e=>
  have:=hp e (List.mem_of_find?_eq_some hf);simp;omega
def Rc(m:LM)(f:Option BA):BA×LE:=match f with
 | some k=>(k,lG m k)
 | none=>(⟨#[]⟩,(0,0,0))
section
variable{N:Nat}{x y:Bb}{sr sr' qr qr':D1}{sf sf' qf qf':List Nat}{m:LM}{key:BA}
theorem LX.snd(h:LX N x sr sf qr qf m):(sr.map (·.2)).Nodup/\(qr.map (·.2)).Nodup:=⟨by rw[h.sk];exact h.w.sn,by rw[h.qk];exact h.w.qn⟩
theorem LX.q0(h:LX N x sr sf qr qf m)(hk:key∉x.q):AO qr key=0:=HN (by rw[h.qk];exact hk)
theorem LX.s0(h:LX N x sr sf qr qf m)(hk:key∉AR x.s):AO sr key=0:=HN (by rw[h.sk];exact hk)
theorem Aoj(h:LW x){e:BA×Int}(he:e∈x.s):lK x.s x.q e.1=e.2:=by
 have:e.1∈AR x.s:=List.mem_map.2 ⟨_,he,rfl⟩;unfold lK;rw[if_pos this];exact(Dj h.sn (by rcases h.kinds _ he with h|h|h <;> omega)).2 he
theorem LX.lift(h:LX N x sr sf qr qf m){e:Int}(he:(key,e)∈x.s)(hne:e≠1)(hc:Hw sr sf key sr' sf') :
  LX N ⟨Bq x.s key,x.q⟩ sr' sf' qr qf (PV m key (if lK x.s x.q key=3 then 0 else lK x.s x.q key,0,AO qr key))/\(if lK x.s x.q key=3 then 0 else lK x.s x.q key)=lK (Bq x.s key) x.q key:=by
 have h2:(if lK x.s x.q key=3 then 0 else lK x.s x.q key)=lK (Bq x.s key) x.q key:=by
  rw[J9]
  by_cases hq:key∈x.q
  ·rw[(JA h.w key).2 hq,if_pos hq];rfl
  ·have a2:lK x.s x.q key≠2:=λh2=>hq ((JA h.w key).1 h2);have a1:lK x.s x.q key≠1:=λh1=>hne (L2 h.w.sn he ((Lu h.w key).1 h1));rw[if_neg hq];rcases Aol h.w key with a|a|a|a
   ·rw[a];rfl
   ·exact absurd a a1
   ·exact absurd a a2
   ·rw[a];rfl
 refine⟨?_,h2⟩;have hl:=hc.len;have ns:=h.ns
 refine h.upd (y:=⟨Bq x.s key,x.q⟩) (key:=key) (h.w.sub List.filter_sublist) (by rw[hc.keys,h.sk];exact(DJ _ _).symm) h.qk (h.w.ssm _ he) (λk hk=>⟨Lv hk Iff.rfl,hc.ne k hk,rfl⟩) (by rw[h2,hc.at0]) (λh0=>?_) (by omega) h.nq;simp only at h0;rw[h2,J9] at h0;have hq:key∉x.q:=λhq=>by rw[if_pos hq] at h0;omega
 rw[h2,J9,if_neg hq,h.q0 hq]
theorem LX.heat(h:LX N x sr sf qr qf m)(hf:QV N x)(hz:key.size<64)(hp:Hx sr sf key sr' sf')(hc:Hw qr qf key qr' qf'):LX N (Du x key) sr' sf' qr' qf' (PV m key (1,AO sr' key,0)):=by
 have e1:sr.length=x.s.length:=by have:=congrArg List.length h.sk;simpa[AR] using this
 have e2:qr.length=x.q.length:=by have:=congrArg List.length h.qk;simpa using this
 obtain⟨f1,f2⟩:=hf;have hl:=hc.len;have ns:=h.ns;have hl2:=hp.len;have nq:=h.nq
 refine h.upd (h.w.heat hz) (by rw[hp.keys,h.sk];exact(IR _ _).symm) (by rw[hc.keys,h.qk];rfl) hz (λk hk=>⟨SX hk (FE hk),hp.ne k hk,hc.ne k hk⟩) ?_ (λh0=>?_) (by omega) (by omega)
 ·rw[hc.at0];unfold Du;simp only;rw[Vi]
 ·simp at h0
theorem LX.chill(h:LX N x sr sf qr qf m)(hf:QV N x)(hz:key.size<64)(hp:Hx sr sf key sr' sf')(hc:Hx qr qf key qr' qf'):LX N (Cf x key) sr' sf' qr' qf' (PV m key (2,AO sr' key,AO qr' key)):=by
 have e1:sr.length=x.s.length:=by have:=congrArg List.length h.sk;simpa[AR] using this
 have e2:qr.length=x.q.length:=by have:=congrArg List.length h.qk;simpa using this
 obtain⟨f1,f2⟩:=hf;have hl:=hc.len;have ns:=h.ns;have hl2:=hp.len;have nq:=h.nq
 refine h.upd (h.w.chill hz) (by rw[hp.keys,h.sk];exact(IR _ _).symm) (by rw[hc.keys,h.qk];rfl) hz (λk hk=>⟨SX hk ((MQ hk).trans (FE hk)),hp.ne k hk,hc.ne k hk⟩) ?_ (λh0=>?_) (by omega) (by omega)
 ·unfold Cf;simp only;rw[Vi]
 ·simp at h0
theorem LX.cool(h:LX N x sr sf qr qf m)(hf:x.q.length+1<=N)(he:(key,(1:Int))∈x.s)(hc:Hw sr sf key sr' sf')(hp:Hx qr qf key qr' qf'):LX N ⟨Bq x.s key,x.q++[key]⟩ sr' sf' qr' qf' (PV m key (2,0,AO qr' key)):=by
 have e1:sr.length=x.s.length:=by have:=congrArg List.length h.sk;simpa[AR] using this
 have e2:qr.length=x.q.length:=by have:=congrArg List.length h.qk;simpa using this
 have hl:=hc.len;have ns:=h.ns;have hl2:=hp.len;have nq:=h.nq
 refine h.upd (h.w.cool he) (by rw[hc.keys,h.sk];exact(DJ _ _).symm) (by rw[hp.keys,h.qk,As (h.w.hotq _ he rfl)]) (h.w.ssm _ he) (λk hk=>⟨Lv hk (MQ hk),hc.ne k hk,hp.ne k hk⟩) ?_ (λh0=>?_) (by omega) (by omega)
 ·rw[J9,hc.at0,if_pos (by simp)]
 ·simp at h0
theorem LX.ghost(h:LX N x sr sf qr qf m){t:List BA}(hq:x.q=key::t)(hpos:∀e∈sr,0<e.1)(hc:Hw qr qf key qr' qf') :
  LX N ⟨BZ x.s key,t⟩ sr sf qr' qf' (PV m key (if AO sr key=0 then 0 else 3,AO sr key,0))/\(if AO sr key=0 then (0:Int) else 3)=lK (BZ x.s key) t key:=by
 have hl:=hc.len;have ns:=h.ns;have nq:=h.nq
 have hn:=h.w.qn;rw[hq,List.nodup_cons] at hn;have e2:(if AO sr key=0 then (0:Int) else 3)=lK (BZ x.s key) t key:=by
  have hw:=h.w.ghost hq
  by_cases a:key∈AR x.s
  ·have:AO sr key≠0:=T0 hpos (by rw[h.sk];exact a);rw[if_neg this];exact((K7 (x:=⟨BZ x.s key,t⟩) hw key).2 (El.2 (.inr ⟨rfl,a⟩))).symm
  ·rw[if_pos (h.s0 a)];unfold lK;rw[if_neg (by rw[Gv];exact a),if_neg hn.1]
 refine⟨?_,e2⟩;have ht:Ao x.q key=t:=by rw[hq];exact J6 (by rw[<- hq];exact h.w.qn)
 refine h.upd (h.w.ghost hq) (by rw[h.sk,Gv]) (by rw[hc.keys,h.qk,ht]) (h.w.qsm _ (by rw[hq];exact .head _)) (λk hk=>⟨Aok (by rw[Gv]) (Vg hk) ?_,rfl,hc.ne k hk⟩) (by rw[e2,hc.at0]) (λh0=>?_) (by omega) (by omega)
 ·rw[<- ht];exact FE hk
 ·simp only at h0 ⊢;split at h0
  ·rename_i h1;rw[if_pos h1,h1]
  ·omega
theorem LX.rem(h:LX N x sr sf qr qf m)(hz:key.size<64)(hc:Hw sr sf key sr' sf')(hc2:Hw qr qf key qr' qf'):LX N ⟨Bq x.s key,Ao x.q key⟩ sr' sf' qr' qf' (PV m key (0,0,0)):=by
 have hl:=hc.len;have ns:=h.ns;have hl2:=hc2.len;have nq:=h.nq
 refine h.upd (h.w.rem key) (by rw[hc.keys,h.sk];exact(DJ _ _).symm) (by rw[hc2.keys,h.qk]) hz (λk hk=>⟨Lv hk (FE hk),hc.ne k hk,hc2.ne k hk⟩) ?_ (λ_=>rfl) (by omega) (by omega);rw[J9,hc.at0,hc2.at0,if_neg (λh=>(AK.1 h).2 rfl)]
end
end Go.Hb
