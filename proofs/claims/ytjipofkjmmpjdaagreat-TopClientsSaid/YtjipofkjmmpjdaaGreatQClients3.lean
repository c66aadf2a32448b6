import Derived.OpenShut
import Derived.IntWalk
import Derived.Sort.EncStr
import Derived.Sort.Grow
import Derived.Sort.Walk0
import Derived.Shelf.Small.Strs
import Derived.Shelf.Strings.Search1
import Derived.Shelf.Sort.Plain
import Derived.Shelf.Bits.Mul64
import Derived.Shelf.Slices.In.SortNone
import Derived.Test.YtjipofkjmmpjdaaGreatProg
import Derived.Test.YtjipofkjmmpjdaaGreatQClients2
set_option linter.unusedVariables false
set_option linter.unusedSimpArgs false
set_option linter.unnecessarySimpa false
set_option linter.unusedSectionVars false
set_option maxRecDepth 100000
namespace Go.Hb
def Af1(x0:Int):Int:=
 (bits .xor .u64 (IntKind.wrap .u64 ((bits .xor .u64 (IntKind.wrap .u64 ((bits .xor .u64 x0 (Dq .u64 x0 (30:Int)))*(13787848793156543929:Int))) (Dq .u64 (IntKind.wrap .u64 ((bits .xor .u64 x0 (Dq .u64 x0 (30:Int)))*(13787848793156543929:Int))) (27:Int)))*(10723151780598845931:Int))) (Dq .u64 (IntKind.wrap .u64 ((bits .xor .u64 (IntKind.wrap .u64 ((bits .xor .u64 x0 (Dq .u64 x0 (30:Int)))*(13787848793156543929:Int))) (Dq .u64 (IntKind.wrap .u64 ((bits .xor .u64 x0 (Dq .u64 x0 (30:Int)))*(13787848793156543929:Int))) (27:Int)))*(10723151780598845931:Int))) (31:Int)))
theorem Aim(x:Int):0<=Af1 x/\Af1 x<=18446744073709551615:=by
 have h:(Lit.int .u64 (Af1 x)).wf=true:=wf_bits _ _ _ _;generalize Af1 x=n at h;simpa[Lit.wf,IntKind.min,IntKind.max,IntKind.signed,IntKind.bits] using h
def Rr(s:BA):Nat->Nat->Int->Int
 | 0,_,h=>h
 | m+1,i,h=>Rr s m (i+1) (Af1 (IntKind.wrap .u64 ((bits .xor .u64 h (IntKind.wrap .u64 (AG s i)))+(11400714819323198485:Int))))
def Aaq(seed:Int)(s:BA):Int:=Rr s s.size 0 (Af1 (bits .xor .u64 seed (IntKind.wrap .u64 (s.size:Int))))
noncomputable def FB(seed:Int)(s:BA):Int:=Classical.choose (⟨Aaq seed s,rfl⟩:∃x,x=Aaq seed s)
theorem Aap(seed:Int)(s:BA):FB seed s=Aaq seed s:=Classical.choose_spec (⟨Aaq seed s,rfl⟩:∃x,x=Aaq seed s)
theorem UF(s:BA):∀(m i:Nat)(h:Int),(0<=h/\h<=18446744073709551615)->0<=Rr s m i h/\Rr s m i h<=18446744073709551615
 | 0,_,_,h=>h
 | m+1,i,_,_=>UF s m (i+1) _ (Aim _)
theorem GJ(seed:Int)(s:BA):0<=FB seed s/\FB seed s<=18446744073709551615:=by
 rw[Aap];exact UF s _ _ _ (Aim _)
noncomputable def A4(seed:Int)(n:Nat)(k:BA):Nat:=(FB seed k).toNat % n
theorem Kd(seed:Int)(n:Nat)(k:BA):(FB seed k).toNat % n=A4 seed n k:=by unfold A4;rfl
theorem Ds{seed:Int}{n:Nat}(h:0<n)(k:BA):A4 seed n k<n:=Nat.mod_lt _ h
def Rec.ii:Rec (Int×Int):=⟨2,λv=>[.i v.1,.i v.2],λ_=>rfl⟩
def Rec.iii:Rec (Int×Int×Int):=⟨3,λv=>[.i v.1,.i v.2.1,.i v.2.2],λ_=>rfl⟩
def Rec.si:Rec (BA×Int):=⟨2,λv=>[.s v.1,.i v.2],λ_=>rfl⟩
def M8:Option Nat->Int
 | some j=>(j:Int)
 | none=>-1
theorem Hl(f:Option Nat):M8 f<0↔f=none:=by
 cases f with
 | none=>simp[M8]
 | some j=>simp[M8]
section
variable{V:Type}[Inhabited V]
noncomputable def ixr(RV:Rec V)(b:Nat)(seed:Int)(m:List (BA×V)):HP:=
 Ks λ(x:Sl×List (Pl V))=>F6 (C2 (A4 seed x.2.length) x.2 m/\2*AD x.2<=x.2.length)
  (AO [blk b [.int .u64 seed,.l x.1.a x.1.n x.1.c,.i (m.length:Int),.i (AD x.2:Int)],recs (CS RV) x.1 x.2])
variable{RV:Rec V}{b:Nat}{seed:Int}{m:List (BA×V)}{W w:World}{M L:List HP}
instance At.ixr:At (ixr RV b seed m::L) b (ixr RV b seed m) (λx=>x::L):=⟨DU⟩
theorem Db(h:Ab W w (ixr RV b seed m::M)):∃(s:Sl) (ps:List (Pl V)),C2 (A4 seed ps.length) ps m/\2*AD ps<=ps.length/\s.n=ps.length /\
  Ab W w (blk b [.int .u64 seed,.l s.a s.n s.c,.i (m.length:Int),.i (AD ps:Int)]::recs (CS RV) s ps::M):=by
 obtain⟨⟨s,ps⟩,h⟩:=h.openE;obtain⟨⟨h1,h2⟩,h⟩:=h.openA;have h:=h.openL;have h:Ab W w (blk b [.int .u64 seed,.l s.a s.n s.c,.i (m.length:Int),.i (AD ps:Int)]::recs (CS RV) s ps::M):=h;exact⟨s,ps,h1,h2,(BV (s:=s) h (Gv.pos)).1,h⟩
theorem Bz(s:Sl){ps:List (Pl V)}{n u:Int}(h1:C2 (A4 seed ps.length) ps m)(h2:2*AD ps<=ps.length)(hn:n=m.length)(hu:u=AD ps)
  (h:Ab W w (blk b [.int .u64 seed,.l s.a s.n s.c,.i n,.i u]::recs (CS RV) s ps::M)):Ab W w (ixr RV b seed m::M):=by
 subst hn hu;exact Ab.shutE (s,ps) (Ab.shutA ⟨h1,h2⟩ (Ab.shutL (Ps:=[_,_]) h))
theorem C2.perm'{st:BA->Nat}{ps:List (Pl V)}{m m':List (BA×V)}(h:C2 st ps m)(hp:m.Perm m'):C2 st ps m':=
 ⟨h.big,h.small,h.start,h.perm.trans hp,(hp.map _).nodup_iff.1 h.nodup,h.reach,h.room⟩
theorem As6{m':List (BA×V)}(hp:m.Perm m')(h:Ab W w (ixr RV b seed m::M)):Ab W w (ixr RV b seed m'::M):=by
 obtain⟨s,ps,h1,h2,_,h⟩:=Db h;exact Bz s (h1.perm' hp) h2 (by rw[hp.length_eq]) rfl h
theorem Akp(h:Ab W w (ixr RV b seed m::M)):(m.map (·.1)).Nodup:=by
 obtain⟨s,ps,h1,_⟩:=Db h;exact h1.nodup
theorem Ey{α:Type}(E:Rec α)(z:α):∀n,DE (E.cells z) n=E.flat (List.replicate n z)
 | 0=>rfl
 | n+1=>by rw[DE,Ey E z n,List.replicate_succ];rfl
theorem Xw{α:Type}[Inhabited α]{E:Rec α}{b o i n j:Nat}{s:Sl}{rows:List α}{F:HP->List HP}{vs pre mid tl:List Value}{a':α}{K:WP}(h:Ab W w L)[hA:At L b (reca E b o s rows) F](hn:n=E.sz)(hi:i<rows.length)
  (ha:E.cells (rows.getD i default)=pre++mid++tl) (hj:pre.length=j) (hm:mid.length=vs.length) (ha':E.cells a'=pre++vs++tl) (hK:∀w',Ab W w' (F (reca E b o s (rows.set i a')))->K w'):sts vs b (o+i*n+j) K w:=by
 subst hn hj;refine At.one (hA:=hA) h λM h hb=>?_;have hsa:s.a=some ⟨b,o,none⟩:=h.pure (q:=0) rfl λ_ hg=>hg.1;have h':=h.turn (q:=0) (p':=recs E s rows) rfl λ_ hg=>hg.2;obtain⟨pr,tl2,hp,hl,hn,ht,h2⟩:=h'.openS (q:=0) rfl hsa;have h2:Ab W w (blk b (pr++E.flat rows++tl2)::M):=h2;have hr:rows=rows.take i++rows.getD i default::rows.drop (i+1):=Sw hi;have hfr:E.flat rows=E.flat (rows.take i)++(E.cells (rows.getD i default)++E.flat (rows.drop (i+1))):=by
  have h:=congrArg E.flat hr;rw[Rec.flat_append] at h;exact h
 have hfs:E.flat (rows.set i a')=E.flat (rows.take i)++(E.cells a'++E.flat (rows.drop (i+1))):=by
  rw[MR hi,Rec.flat_append];rfl
 rw[hfr,ha] at h2;have e1:pr++(E.flat (rows.take i)++(pre++mid++tl++E.flat (rows.drop (i+1))))++tl2=(pr++E.flat (rows.take i)++pre)++mid++(tl++E.flat (rows.drop (i+1))++tl2):=by simp only[List.append_assoc]
 have e2:pr++(E.flat (rows.take i)++(pre++vs++tl++E.flat (rows.drop (i+1))))++tl2=(pr++E.flat (rows.take i)++pre)++vs++(tl++E.flat (rows.drop (i+1))++tl2):=by simp only[List.append_assoc]
 rw[e1] at h2;have hpl:(pr++E.flat (rows.take i)++pre).length=o+i*E.sz+pre.length:=by
  rw[List.length_append,List.length_append,hp,Rec.flat_length,List.length_take,Nat.min_eq_left (by omega)]
 rw[<- hpl];refine Qt 0 vs w _ _ mid _ K h2 rfl hm λw' h3=>hK w' (hb _ _ ?_);have h3:Ab W w' (blk b ((pr++E.flat (rows.take i)++pre)++vs++(tl++E.flat (rows.drop (i+1))++tl2))::M):=h3;rw[<- e2,<- ha',<- hfs] at h3;have h4:=h3.shutS (q:=0) (s:=s) (sz:=E.sz) rfl hsa hp (by rw[Rec.flat_length,List.length_set,<- Rec.flat_length];exact hl) hn ht
 exact h4.turn (q:=0) rfl λ_ hg=>⟨hsa,hg⟩
end
end Go.Hb
namespace Go.Hb
open Go.Sort Go.Proofs
section
variable{W0 w w':World}{L M:List HP}{F:HP->List HP}{b:Nat}
theorem Ab.write{cs cs':List Value}(h:Ab W0 w (blk b cs::M))(ho:w'.os=w.os)(hu:w'.output=w.output)(hoth:∀x o,x≠b->w.heap[x]? = some o->w'.heap[x]? = some o)
  (hb:∀T fr,w.heap[b]? = some (.cells cs.toArray T fr)->w'.heap[b]? = some (.cells cs'.toArray T fr)) (hl:cs'.length=cs.length):Ab W0 w' (blk b cs'::M):=by
 obtain⟨h1,h2,ha,hb2,hc,⟨T,lo,hi,hd,hf⟩,he⟩:=h.st;have hwb:w.heap[b]? = some (.cells cs.toArray T (lo,hi)):=ha _ _ hd;have hnew:=hb _ _ hwb;refine⟨by rw[ho];exact h.os,by rw[hu];exact h.out,λx=>if x=b then some (.cells cs'.toArray T (lo,hi)) else none,h2,λx y hx=>?_,λx y hx=>?_,λx=>?_,⟨T,lo,hi,by simp,λi hi'=>hf i (by omega)⟩,he⟩
 ·simp only at hx;split at hx
  ·rename_i hxb;subst hxb;cases hx;exact hnew
  ·cases hx
 ·have hxb:x≠b:=by
   intro hxb;subst hxb
   rcases hc x with h'|h'
   ·rw[hd] at h';cases h'
   ·rw[hx] at h';cases h'
  exact hoth x y hxb (hb2 _ _ hx)
 ·simp only
  by_cases hxb:x=b
  ·subst hxb;rcases hc x with h'|h'
   ·rw[hd] at h';cases h'
   ·exact .inr h'
  ·left;rw[if_neg hxb]
def HH(k:BA):List UInt8:=k.data.toList
def txB(l:List UInt8):BA:=⟨l.toArray⟩
theorem Ai2(k:BA):txB (HH k)=k:=by unfold txB HH;simp
theorem A4l(l:List UInt8):HH (txB l)=l:=by unfold txB HH;simp
def Fz(l:List BA):List BA:=((l.map HH).mergeSort λx y=>decide (x<=y)).map txB
theorem Akm(l:List (List UInt8)):Rec.str.flat (l.map txB)=l.map encStr:=by
 unfold Rec.flat Rec.str
 induction l with
 | nil=>rfl
 | cons x l ih=>simp only[List.map_cons,List.flatten_cons];rw[ih];rfl
theorem A2t{pre cs tl:List Value}{d:List (List UInt8)}(hl:d.length=cs.length):putCells encStr pre.length d.toArray (pre++cs++tl).toArray=(pre++d.map encStr++tl).toArray:=by
 unfold putCells;apply Array.ext_getElem?;intro i;simp only[Array.getElem?_mapIdx,List.getElem?_toArray,List.size_toArray]
 by_cases h1:i<pre.length
 ·rw[List.getElem?_append_left (by simp;omega),List.getElem?_append_left h1,List.getElem?_append_left (by simp;omega),List.getElem?_append_left h1,List.getElem?_eq_getElem h1];simp only[Option.map_some];rw[if_neg (by omega)]
 ·by_cases h2:i<pre.length+cs.length
  ·rw[List.getElem?_append_left (by simp;omega),List.getElem?_append_right (by omega),List.getElem?_append_left (by simp;omega),List.getElem?_append_right (by omega),List.getElem?_eq_getElem (by omega),List.getElem?_map,List.getElem?_eq_getElem (by omega)];simp only[Option.map_some];rw[if_pos (by omega),getElem!_pos _ _ (by simp;omega)]
   simp
  ·rw[List.getElem?_append_right (by simp;omega),List.getElem?_append_right (by simp;omega)];simp only[List.length_append,List.length_map,hl];cases tl[i-(pre.length+cs.length)]? with
   | none=>rfl
   | some v=>simp only[Option.map_some];rw[if_neg (by omega)]
theorem Al6{P:Program}{f:FuncId}{s:Sl}{keys:List BA}
  (hC:∀(blk off cap:Nat)(ss:List (List UInt8))(w:World),Holds encStr w blk off ss.toArray->blk<w.heap.size->ss.length<4611686018427387904 ->
   Calls P f #[.l (some ⟨blk,off,none⟩) ss.length cap] w λe w'=>e = .returned (.tuple #[])/\∃n os,w'=grow (putRow encStr (Sort.ahead w n) blk off (ss.mergeSort λx y=>decide (x<=y)).toArray) os)
  (hN:∀(cap:Nat)(w:World),Calls P f #[.l none 0 cap] w λe w'=>e = .returned (.tuple #[])/\w'=w)
  (h:Ab W0 w L) [hA:Km L s (recs Rec.str s keys) F] (hk:keys.length<4611686018427387904):Calls P f #[.l s.a s.n s.c] w λe w'=>e = .returned (.tuple #[])/\Ab W0 w' (F (recs Rec.str s (Fz keys))):=by
 have hn:=(BV (hA:=hA) h).1;refine Km.one (hA:=hA) h λM h hb=>?_;obtain⟨g,_,⟨h1,h2⟩,h3⟩:=h.get (q:=0) rfl;have hsl:(Fz keys).length=keys.length:=by simp[Fz]
 rcases h3 with⟨ha,hn0,_⟩|⟨b,o,pre0,tl0,ha,_⟩
 ·have hk0:keys=[]:=List.length_eq_zero_iff.1 (by omega);subst hk0;rw[ha,hn0];exact(hN _ w).mono λe w' ⟨he,hw⟩=>⟨he,by subst hw;rw[show Fz []=[] by simp[Fz]];exact hb _ _ h⟩
 ·obtain⟨pre,tl,hp,hl,hsn,ht,h4⟩:=Ab.openS (q:=0) h rfl ha;subst hp;have h4:Ab W0 w (blk b (pre++Rec.str.flat keys++tl)::M):=h4;have hfl:(Rec.str.flat keys).length=keys.length:=by rw[Rec.flat_length];simp[Rec.str]
  have hblk:b<w.heap.size:=by
   obtain⟨g,hg,T,lo,hi,hb0,_⟩:=h4.get (q:=0) rfl;exact(Array.getElem?_eq_some_iff.1 (hg _ _ hb0)).1
  have hH:Holds encStr w b pre.length (keys.map HH).toArray:=by
   intro j hj;have hj:j<keys.length:=by simpa using hj
   refine⟨?_,h4.frozen (q:=0) rfl (by simp[hfl];omega)⟩;rw[h4.cell (q:=0) rfl,List.append_assoc,List.getElem?_append_right (by omega),List.getElem?_append_left (by rw[hfl];omega)]
   have:=Rec.flat_get (E:=Rec.str) (rows:=keys) (i:=j) (j:=0) (List.getElem?_eq_getElem hj) (by decide);have hj2:j*Rec.str.sz+0=j:=by show j*1+0=j;omega
   rw[hj2] at this;rw[Nat.add_sub_cancel_left,this,getElem!_pos _ _ (by simpa using hj)];simp only[List.getElem_toArray,List.getElem_map];show some (Value.string keys[j])=some (Value.string (txB (HH keys[j])));rw[Ai2]
  rw[ha,hn,<- List.length_map (f:=HH)];refine(hC b pre.length s.c (keys.map HH) w hH hblk (by simpa using hk)).mono λe w' ⟨he,n,os,hw⟩=>⟨he,?_⟩;have hd:((keys.map HH).mergeSort λx y=>decide (x<=y)).length=(Rec.str.flat keys).length:=by simp[hfl]
  have h5:Ab W0 w' (blk b (pre++((keys.map HH).mergeSort λx y=>decide (x<=y)).map encStr++tl)::M):=by
   subst hw;refine Ab.write h4 rfl rfl (λx o hx ho=>?_) (λT fr hT=>?_) (by simp[hfl])
   ·unfold grow putRow mapBlock;simp only[Sort.ahead];have hlt:=(Array.getElem?_eq_some_iff.1 ho).1;rw[Array.getElem?_append_left (by simpa using hlt),Array.getElem?_modify,if_neg (Ne.symm hx)];exact ho
   ·unfold grow putRow mapBlock;simp only[Sort.ahead];rw[Array.getElem?_append_left (by simpa using hblk),Array.getElem?_modify,if_pos rfl,hT];simp only[Option.map_some,onCells];rw[A2t hd]
  rw[<- Akm] at h5;have h6:=h5.shutS (q:=0) (s:=s) (sz:=1) rfl ha rfl (by show(Rec.str.flat (Fz keys)).length=_;rw[Rec.flat_length,hsl,hn];rfl) hsn ht
  exact hb _ _ h6
end
theorem Aut(a b:BA):sLt a b=decide (HH a<HH b):=by
 unfold sLt HH;rw[ByteArray.toList_eq,ByteArray.toList_eq,bytesLess_eq]
theorem Ai3{a b:BA}(h:HH a=HH b):a=b:=by
 rw[<- Ai2 a,<- Ai2 b,h]
def Ei(l:List BA):Prop:=l.Pairwise λa b=>HH a<HH b
theorem Ei.nodup{l:List BA}(h:Ei l):l.Nodup:=by
 refine List.Pairwise.imp (λ{a b} hab=>?_) h;rintro rfl;exact absurd hab (List.lt_irrefl _)
theorem GQ:∀{l l':List BA},l.Pairwise (λa b=>HH a<=HH b)->l'.Pairwise (λa b=>HH a<=HH b)->l.Perm l'->l=l'
 | [],l',_,_,hp=>(List.nil_perm.1 hp).symm
 | a::l,[],_,_,hp=>absurd hp.symm (by simp)
 | a::l,b::l',h,h',hp=>by
  simp only[List.pairwise_cons] at h h';have hab:HH a=HH b:=by
   have h1:b∈a::l:=hp.symm.subset (by simp);have h2:a∈b::l':=hp.subset (by simp);have h3:HH a<=HH b:=by
    rcases List.mem_cons.1 h1 with rfl|h1
    ·exact List.le_refl _
    ·exact h.1 b h1
   have h4:HH b<=HH a:=by
    rcases List.mem_cons.1 h2 with rfl|h2
    ·exact List.le_refl _
    ·exact h'.1 a h2
   exact List.le_antisymm h3 h4
  have:=Ai3 hab;subst this;rw[GQ h.2 h'.2 (List.Perm.cons_inv hp)]
theorem KZ(l:List BA):(Fz l).Perm l:=by
 unfold Fz;have:=(List.mergeSort_perm (l.map HH) λx y=>decide (x<=y)).map txB;refine this.trans ?_;have e:(l.map HH).map txB=l:=by
  rw[List.map_map];conv=>rhs;rw[<- List.map_id l]
  exact List.map_congr_left λa _=>Ai2 a
 rw[e]
theorem IP(l:List BA):(Fz l).Pairwise λa b=>HH a<=HH b:=by
 unfold Fz;rw[List.pairwise_map];have:=List.pairwise_mergeSort (le:=λx y:List UInt8=>decide (x<=y)) (λa b c h1 h2=>by simp only[decide_eq_true_eq] at *;exact List.le_trans h1 h2) (λa b=>by simp only[Bool.or_eq_true,decide_eq_true_eq];exact List.le_total a b) (l.map HH)
 refine List.Pairwise.imp (λ{a b} h=>?_) this;rw[A4l,A4l];simpa using h
theorem Ei.le{l:List BA}(h:Ei l):l.Pairwise λa b=>HH a<=HH b:=List.Pairwise.imp (λ{a b} h=>List.le_of_lt h) h
theorem Au4{l r:List BA}(hp:l.Perm r)(hr:Ei r):Fz l=r:=GQ (IP l) hr.le ((KZ l).trans hp)
end Go.Hb
namespace Go.Hb
section
variable{V:Type}[Inhabited V]
def Iq:List (BA×V)->BA->Nat×Bool
 | [],_=>(0,false)
 | e::r,k=>if sLt e.1 k then ((Iq r k).1+1,(Iq r k).2) else (0,decide (e.1=k))
theorem Amv(e:BA×V)(r:List (BA×V))(k:BA):Iq (e::r) k=if sLt e.1 k then ((Iq r k).1+1,(Iq r k).2) else (0,decide (e.1=k)):=rfl
def Ci(m:List (BA×V)):Prop:=Ei (m.map (·.1))
theorem Ci.nodup{m:List (BA×V)}(h:Ci m):(m.map (·.1)).Nodup:=Ei.nodup h
theorem Ci.tail{e:BA×V}{m:List (BA×V)}(h:Ci (e::m)):Ci m:=by
 unfold Ci Ei at h ⊢;simp only[List.map_cons,List.pairwise_cons] at h;exact h.2
theorem Acs:∀(m:List (BA×V))(k:BA),(Iq m k).1<=m.length
 | [],_=>Nat.le_refl _
 | e::r,k=>by
  unfold Iq;split
  ·have:=Acs r k;simp only[List.length_cons];omega
  ·simp
theorem Fk:∀{m:List (BA×V)}{k:BA},(Iq m k).2=true->∃v,m[(Iq m k).1]? = some (k,v)
 | [],_,h=>by cases h
 | e::r,k,h=>by
  unfold Iq at h ⊢;split at h
  ·rename_i h1;rw[if_pos h1];obtain⟨v,hv⟩:=Fk h;exact⟨v,by simpa using hv⟩
  ·rename_i h1;rw[if_neg h1];simp only[decide_eq_true_eq] at h;exact⟨e.2,by simp[<- h]⟩
theorem Ak8{a k:BA}(h1:sLt a k=false)(h2:a≠k):HH k<HH a:=by
 rw[Aut] at h1;have h3:HH k<=HH a:=by simpa using h1
 rcases List.le_iff_lt_or_eq.1 h3 with h|h
 ·exact h
 ·exact absurd (Ai3 h).symm h2
theorem JG:∀{m:List (BA×V)}{k:BA},Ci m->(Iq m k).2=false->(∀e∈m,e.1≠k)/\∀v,Ci (m.take (Iq m k).1++(k,v)::m.drop (Iq m k).1)
 | [],_,_,_=>⟨(λ_ h=>by cases h),λv=>by simp[Ci,Ei,Iq]⟩
 | e::r,k,hr,h=>by
  unfold Iq at h ⊢;split at h
  ·rename_i h1;rw[if_pos h1];obtain⟨h2,h3⟩:=JG hr.tail h;have hlt:HH e.1<HH k:=by rw[Aut] at h1;simpa using h1
   refine⟨λx hx=>?_,λv=>?_⟩
   ·rcases List.mem_cons.1 hx with rfl|hx
    ·intro he;rw[he] at hlt;exact absurd hlt (List.lt_irrefl _)
    ·exact h2 x hx
   ·have h4:=h3 v;unfold Ci Ei at h4 hr ⊢;simp only[List.take_succ_cons,List.drop_succ_cons,List.cons_append,List.map_cons,List.pairwise_cons] at hr ⊢;refine⟨λx hx=>?_,h4⟩;simp only[List.map_append,List.map_cons,List.mem_append,List.mem_cons] at hx;rcases hx with hx|hx|hx
    ·exact hr.1 x (((List.take_sublist _ _).map _).subset hx)
    ·rw[hx];exact hlt
    ·exact hr.1 x (((List.drop_sublist _ _).map _).subset hx)
  ·rename_i h1;rw[if_neg h1];simp only[decide_eq_false_iff_not] at h;have hlt:=Ak8 (by simpa using h1) h;have hall:∀x∈(e::r).map (·.1),HH k<HH x:=by
    intro x hx;rw[List.map_cons,List.mem_cons] at hx;rcases hx with rfl|hx
    ·exact hlt
    ·unfold Ci Ei at hr;simp only[List.map_cons,List.pairwise_cons] at hr;exact List.lt_trans hlt (hr.1 x hx)
   refine⟨λx hx he=>?_,λv=>?_⟩
   ·have:=hall x.1 (List.mem_map_of_mem hx);rw[he] at this;exact absurd this (List.lt_irrefl _)
   ·show Ci ((k,v)::e::r);unfold Ci Ei at hr ⊢;rw[List.map_cons,List.pairwise_cons];exact⟨hall,hr⟩
theorem JV{m:List (BA×V)}{k:BA}(hr:Ci m):AC m k=if (Iq m k).2 then (m[(Iq m k).1]?).map (·.2) else none:=by
 cases h:(Iq m k).2 with
 | true=>
  obtain⟨v,hv⟩:=Fk h;rw[hv];exact(Ck hr.nodup).2 (List.mem_of_getElem? hv)
 | false=>exact BY.2 (JG hr h).1
theorem Xa{m:List (BA×V)}{i:Nat}{k:BA}{v u:V}(h:m[i]? = some (k,v)):(m.set i (k,u)).map (·.1)=m.map (·.1):=by
 obtain⟨hlt,hri⟩:=List.getElem?_eq_some_iff.1 h;rw[List.map_set];apply List.ext_getElem?;intro j;rw[List.getElem?_set];split
 ·rename_i h;subst h;simp[hlt,hri]
 ·rfl
theorem Aul{m:List (BA×V)}{i:Nat}{k:BA}{v u:V}(hr:Ci m)(h:m[i]? = some (k,v)):Ci (m.set i (k,u)):=by
 unfold Ci;rw[Xa h];exact hr
theorem Abu{m:List (BA×V)}{i:Nat}{k:BA}{v u:V}(hn:(m.map (·.1)).Nodup)(h:m[i]? = some (k,v)):m.set i (k,u)=Fg m k u:=by
 obtain⟨hlt,hri⟩:=List.getElem?_eq_some_iff.1 h;unfold Fg;apply List.ext_getElem?;intro j;rw[List.getElem?_set,List.getElem?_map]
 by_cases e:i=j
 ·subst e;simp[hlt,hri]
 ·rw[if_neg e];cases hj:m[j]? with
  | none=>rfl
  | some x=>
   simp only[Option.map_some];rw[if_neg];intro hk;obtain⟨hjl,hjx⟩:=List.getElem?_eq_some_iff.1 hj;have:(m.map (·.1))[i]? = (m.map (·.1))[j]?:=by simp[hlt,hjl,hri,hjx,hk]
   exact e ((List.getElem?_inj (by simpa using hlt) hn).1 this)
theorem H8{m:List (BA×V)}{i:Nat}{k:BA}{v:V}(hn:(m.map (·.1)).Nodup)(h:m[i]? = some (k,v)):m.eraseIdx i=Cr m k:=by
 obtain⟨hlt,hri⟩:=List.getElem?_eq_some_iff.1 h;have hs:m=m.take i++(k,v)::m.drop (i+1):=by rw[<- hri];simp
 rw[List.eraseIdx_eq_take_drop_succ];unfold Cr
 conv=>rhs;rw[hs]
 rw[hs] at hn;simp only[List.map_append,List.map_cons] at hn;rw[List.nodup_append] at hn;simp only[List.nodup_cons] at hn;rw[List.filter_append,List.filter_cons_of_neg (by simp),List.filter_eq_self.2,List.filter_eq_self.2]
 ·intro e he;simp only[ne_eq,decide_not,Bool.not_eq_eq_eq_not,Bool.not_true,decide_eq_false_iff_not];rintro rfl;exact hn.2.1.1 (List.mem_map_of_mem he)
 ·intro e he;simp only[ne_eq,decide_not,Bool.not_eq_eq_eq_not,Bool.not_true,decide_eq_false_iff_not];rintro rfl;exact hn.2.2 _ (List.mem_map_of_mem he) e.1 (by simp) rfl
def G4(m:List (BA×V))(k:BA)(v:V):List (BA×V):=if (Iq m k).2 then m.set (Iq m k).1 (k,v) else m.take (Iq m k).1++(k,v)::m.drop (Iq m k).1
theorem JY{m:List (BA×V)}{k:BA}{v:V}(hr:Ci m):Ci (G4 m k v):=by
 unfold G4;split
 ·rename_i h;obtain⟨u,hu⟩:=Fk h;exact Aul hr hu
 ·rename_i h;exact(JG hr (by simpa using h)).2 v
theorem Ih{m:List (BA×V)}{k:BA}{v:V}(hr:Ci m):(G4 m k v).Perm (CE m k v):=by
 unfold G4 CE;cases h:(Iq m k).2 with
 | true=>
  obtain⟨u,hu⟩:=Fk h;have hg:AC m k=some u:=by rw[JV hr,h,hu];rfl
  rw[hg];simp only[if_true];rw[Abu hr.nodup hu]
 | false=>
  have hg:AC m k=none:=by rw[JV hr,h];rfl
  rw[hg];simp only[Bool.false_eq_true,if_false];refine List.perm_middle.trans ?_;rw[List.take_append_drop]
def CY(m:List (BA×V))(k:BA):List (BA×V):=if (Iq m k).2 then m.eraseIdx (Iq m k).1 else m
theorem FX{m:List (BA×V)}{k:BA}(hr:Ci m):CY m k=Cr m k:=by
 unfold CY;split
 ·rename_i h;obtain⟨u,hu⟩:=Fk h;exact H8 hr.nodup hu
 ·rename_i h;have:=(JG hr (by simpa using h)).1;unfold Cr;rw[List.filter_eq_self.2];intro e he;simpa using this e he
theorem MP{m:List (BA×V)}{k:BA}(hr:Ci m):Ci (CY m k):=by
 rw[FX hr];unfold Ci Ei Cr at *;exact List.Pairwise.sublist ((List.filter_sublist).map _) hr
theorem UU{m m':List (BA×V)}{k:BA}(hp:m.Perm m'):(Cr m k).Perm (Cr m' k):=hp.filter _
theorem Aty(m:List (BA×V))(k:BA)(v:V):(CE m k v).length<=m.length+1:=by
 unfold CE;cases AC m k <;> simp[Fg]
theorem UV{m:List (BA×V)}{k:BA}{v:V}{P:BA->Prop}(hm:∀e∈m,P e.1)(hk:P k):∀e∈CE m k v,P e.1:=by
 unfold CE;cases AC m k with
 | none=>
  intro e he;rcases List.mem_cons.1 he with rfl|he
  ·exact hk
  ·exact hm e he
 | some u=>
  intro e he;unfold Fg at he;rw[List.mem_map] at he;obtain⟨x,hx,rfl⟩:=he;split
  ·exact hk
  ·exact hm x hx
theorem J2{m:List (BA×V)}{k:BA}{P:BA->Prop}(hm:∀e∈m,P e.1):∀e∈Cr m k,P e.1:=λe he=>hm e (List.mem_filter.1 he).1
theorem A2h(m:List (BA×V))(k:BA):(Cr m k).length<=m.length:=List.length_filter_le _ _
end
end Go.Hb
namespace Go.Hb
theorem UJ{ls:List Lk}{h:Nat}{l:Lk}(hl:h<ls.length):DV (ls.set h l)=upd (DV ls) h (l.v,l.there):=by
 funext x;unfold DV upd;rw[Fq hl];split <;> rfl
theorem Rm{ls:List Lk}{l:Lk}(x:Nat):(ls++[l]).getD x default=if x=ls.length then l else ls.getD x default:=by
 rw[List.getD_eq_getElem?_getD,List.getD_eq_getElem?_getD];rcases Nat.lt_trichotomy x ls.length with h|h|h
 ·rw[List.getElem?_append_left h,if_neg (by omega)]
 ·subst h;rw[if_pos rfl,List.getElem?_append_right (by omega)];simp
 ·rw[List.getElem?_append_right (by omega),if_neg (by omega),List.getElem?_eq_none (by simp;omega),List.getElem?_eq_none (by omega)]
theorem Akr{ls:List Lk}{l:Lk}:DV (ls++[l])=upd (DV ls) ls.length (l.v,l.there):=by
 funext x;unfold DV upd;rw[Rm];split <;> rfl
theorem At9{ls:List Lk}{h:Nat}{l:Lk}(hl:h<ls.length):E3 (ls.set h l)=upd (E3 ls) h l.next:=by
 funext x;unfold E3 upd;rw[Fq hl];split <;> rfl
theorem Auh{ls:List Lk}{h:Nat}{l:Lk}(hl:h<ls.length):E4 (ls.set h l)=upd (E4 ls) h l.prev:=by
 funext x;unfold E4 upd;rw[Fq hl];split <;> rfl
theorem A7q{ls:List Lk}{l:Lk}:E3 (ls++[l])=upd (E3 ls) ls.length l.next:=by
 funext x;unfold E3 upd;rw[Rm];split <;> rfl
theorem A7w{ls:List Lk}{l:Lk}:E4 (ls++[l])=upd (E4 ls) ls.length l.prev:=by
 funext x;unfold E4 upd;rw[Rm];split <;> rfl
theorem Ej.upd_out{nx pv:Nat->Nat}{ord:List Nat}{h a b:Nat}(hs:Ej nx pv ord)(hh:h∉0::ord):Ej (upd nx h a) (upd pv h b) ord:=by
 refine EE.mono hs (λx hx=>BN ?_) (λy hy=>BN ?_)
 ·rintro rfl;rw[show(0::(ord++[0]))=(0::ord)++[0] by simp,List.dropLast_concat] at hx;exact hh hx
 ·rintro rfl;simp only[List.tail_cons,List.mem_append,List.mem_singleton] at hy;rcases hy with hy|hy
  ·exact hh (List.mem_cons_of_mem _ hy)
  ·exact hh (by rw[hy];exact List.mem_cons_self)
def Vy(cap:Nat)(free:List Nat):Nat:=free.getLastD cap
def H6(ls:List Lk)(free:List Nat)(v:Value):List Lk:=if free=[] then ls++[⟨v,0,0,true⟩] else ls.set (free.getLastD 0) ⟨v,0,0,true⟩
def SU(ls:List Lk)(h p x:Nat):List Lk:=Fy (Fx (Fx (Fy ls h p) h x) p h) x h
def Hs(ls:List Lk)(h:Nat):List Lk:=Fy (Fx ls (E4 ls h) (E3 ls h)) (E3 ls h) (E4 ls h)
theorem Aa2(ls:List Lk)(h p x:Nat):(SU ls h p x).length=ls.length:=by simp[SU,CR,Cs]
theorem A19{ls:List Lk}{h p x:Nat}(hh:h<ls.length)(hp:p<ls.length)(hx:x<ls.length):E3 (SU ls h p x)=upd (upd (E3 ls) h x) p h:=by
 unfold SU;rw[KO (by rw[Cs,Cs,CR];exact hx),KN (by rw[Cs,CR];exact hp),KN (by rw[CR];exact hh),KO hh]
theorem A2a{ls:List Lk}{h p x:Nat}(hh:h<ls.length)(hp:p<ls.length)(hx:x<ls.length):E4 (SU ls h p x)=upd (upd (E4 ls) h p) x h:=by
 unfold SU;rw[KT (by rw[Cs,Cs,CR];exact hx),KS (by rw[Cs,CR];exact hp),KS (by rw[CR];exact hh),KT hh]
theorem Akz{ls:List Lk}{h p x:Nat}(hh:h<ls.length)(hp:p<ls.length)(hx:x<ls.length):DV (SU ls h p x)=DV ls:=by
 unfold SU;rw[IA (by rw[Cs,Cs,CR];exact hx),I9 (by rw[Cs,CR];exact hp),I9 (by rw[CR];exact hh),IA hh]
theorem UR(ls:List Lk)(h:Nat):(Hs ls h).length=ls.length:=by simp[Hs,CR,Cs]
theorem Att{ls:List Lk}{h:Nat}(hp:E4 ls h<ls.length)(hx:E3 ls h<ls.length):E3 (Hs ls h)=upd (E3 ls) (E4 ls h) (E3 ls h):=by
 unfold Hs;rw[KO (by rw[Cs];exact hx),KN hp]
theorem Atu{ls:List Lk}{h:Nat}(hp:E4 ls h<ls.length)(hx:E3 ls h<ls.length):E4 (Hs ls h)=upd (E4 ls) (E3 ls h) (E4 ls h):=by
 unfold Hs;rw[KT (by rw[Cs];exact hx),KS hp]
theorem Afs{ls:List Lk}{h:Nat}(hp:E4 ls h<ls.length)(hx:E3 ls h<ls.length):DV (Hs ls h)=DV ls:=by
 unfold Hs;rw[IA (by rw[Cs];exact hx),I9 hp]
end Go.Hb
namespace Go.Hb
structure Amq(ls:List Lk)(free:List Nat)(row:List (Nat×Value))(v:Value)(h:Nat)(ls1:List Lk)(free1:List Nat):Prop where
 pos:0<h
 lt:h<ls1.length
 le:ls.length<=ls1.length
 out:h∉row.map (·.1)
 kept:DV ls1=upd (DV ls) h (v,true)
 nx:E3 ls1=upd (E3 ls) h 0
 pv:E4 ls1=upd (E4 ls) h 0
 all:∀x,(x∈row.map (·.1)\/x=h\/x∈free1)↔(0<x/\x<ls1.length)
 nodup:(row.map (·.1)++h::free1).Nodup
 sub:∀x∈free1,x∈free
theorem Aao{l:List Nat}(hl:l≠[])(d:Nat):l.dropLast++[l.getLastD d]=l:=by
 rcases List.eq_nil_or_concat l with rfl|⟨m,x,rfl⟩
 ·exact absurd rfl hl
 ·simp[List.getLastD_eq_getLast?]
theorem JE.take{ls:List Lk}{free:List Nat}{row:List (Nat×Value)}(hi:JE ls free row)(v:Value):Amq ls free row v (Vy ls.length free) (H6 ls free v) free.dropLast:=by
 by_cases hf:free=[]
 ·subst hf;have e:H6 ls [] v=ls++[⟨v,0,0,true⟩]:=by simp[H6]
  have eh:Vy ls.length []=ls.length:=rfl;rw[e,eh];have hout:ls.length∉row.map (·.1):=λh=>by
   have:=(hi.all _).1 (.inl h);omega
  refine⟨hi.pos,by simp,by simp,hout,Akr,A7q,A7w,λx=>?_,?_,λx hx=>by simpa using hx⟩
  ·have:=hi.all x;simp only[List.dropLast_nil,List.not_mem_nil,or_false,List.length_append,List.length_cons,List.length_nil] at this ⊢;constructor
   ·rintro(h|h)
    ·have:=this.1 h;omega
    ·have:=hi.pos;omega
   ·intro h
    by_cases hx:x=ls.length
    ·exact .inr hx
    ·exact .inl (this.2 (by omega))
  ·have:=hi.nodup;simp only[List.append_nil,List.dropLast_nil] at this ⊢;rw[List.nodup_append];exact⟨this,by simp,λa ha b hb=>by simp at hb;subst hb;rintro rfl;exact hout ha⟩
 ·have hsplit:=Aao hf 0;have eh:Vy ls.length free=free.getLastD 0:=by
   unfold Vy;rcases List.eq_nil_or_concat free with rfl|⟨m,x,rfl⟩
   ·exact absurd rfl hf
   ·simp[List.getLastD_eq_getLast?]
  have e:H6 ls free v=ls.set (free.getLastD 0) ⟨v,0,0,true⟩:=by simp[H6,hf]
  rw[e,eh];generalize free.getLastD 0=h at *;have hmem:h∈free:=by rw[<- hsplit];simp
  have hb:=(hi.all h).1 (.inr hmem);have hnd:=hi.nodup;rw[<- hsplit] at hnd;have hnd':=hnd;simp only[List.nodup_append] at hnd';have hout:h∉row.map (·.1):=λhr=>hnd'.2.2 h hr h (by simp) rfl;refine⟨hb.1,by simpa using hb.2,by simp,hout,UJ hb.2,At9 hb.2,Auh hb.2,λx=>?_,?_,λx hx=>(List.dropLast_sublist _).subset hx⟩
  ·have:=hi.all x;rw[<- hsplit] at this;simp only[List.mem_append,List.mem_singleton,List.length_set] at this ⊢;rw[<- this];constructor
   ·rintro(h|h|h)
    ·exact .inl h
    ·exact .inr (.inr h)
    ·exact .inr (.inl h)
   ·rintro(h|h|h)
    ·exact .inl h
    ·exact .inr (.inr h)
    ·exact .inr (.inl h)
  ·refine(List.Perm.nodup_iff ?_).1 hnd;exact List.Perm.append_left _ (List.perm_append_comm (l₁:=free.dropLast) (l₂:=[h]))
theorem JE.bound{ls:List Lk}{free:List Nat}{row:List (Nat×Value)}(hi:JE ls free row){x:Nat}(hx:x∈0::row.map (·.1)):x<ls.length:=by
 rcases List.mem_cons.1 hx with rfl|hx
 ·exact hi.pos
 ·exact((hi.all x).1 (.inl hx)).2
theorem JE.nodup0{ls:List Lk}{free:List Nat}{row:List (Nat×Value)}(hi:JE ls free row):(0::row.map (·.1)).Nodup:=by
 rw[List.nodup_cons];refine⟨λh0=>?_,(List.nodup_append.1 hi.nodup).1⟩;have:=(hi.all 0).1 (.inl h0);omega
theorem UW{l:List Nat}:l.headD 0∈0::l:=by cases l <;> simp
theorem ML{l:List Nat}:l.getLastD 0∈0::l:=by
 rcases List.eq_nil_or_concat l with rfl|⟨m,x,rfl⟩
 ·simp
 ·simp[List.getLastD_eq_getLast?]
theorem JE.lay{ls:List Lk}{free:List Nat}{r1 r2:List (Nat×Value)}(hi:JE ls free (r1++r2)){v:Value}{h:Nat}{ls1:List Lk}{free1:List Nat}(ht:Amq ls free (r1++r2) v h ls1 free1) :
  JE (SU ls1 h ((r1.map (·.1)).getLastD 0) ((r2.map (·.1)).headD 0)) free1 (r1++(h,v)::r2):=by
 have hp:(r1.map (·.1)).getLastD 0<ls1.length:=by
  have h1:(r1.map (·.1)).getLastD 0∈0::(r1++r2).map (·.1):=by
   have:=ML (l:=r1.map (·.1));simp only[List.map_append,List.mem_cons,List.mem_append] at this ⊢;rcases this with h|h
   ·exact .inl h
   ·exact .inr (.inl h)
  exact Nat.lt_of_lt_of_le (hi.bound h1) ht.le
 have hx:(r2.map (·.1)).headD 0<ls1.length:=by
  have h1:(r2.map (·.1)).headD 0∈0::(r1++r2).map (·.1):=by
   have:=UW (l:=r2.map (·.1));simp only[List.map_append,List.mem_cons,List.mem_append] at this ⊢;rcases this with h|h
   ·exact .inl h
   ·exact .inr (.inr h)
  exact Nat.lt_of_lt_of_le (hi.bound h1) ht.le
 have hk:=Akz ht.lt hp hx;have hout:h∉0::(r1++r2).map (·.1):=by
  rw[List.mem_cons];rintro(h0|h0)
  ·have:=ht.pos;omega
  ·exact ht.out h0
 refine⟨by rw[Aa2];have:=ht.lt;omega,λx=>?_,?_,?_,?_,?_,?_⟩
 ·rw[Aa2,<- ht.all x];simp only[List.map_append,List.map_cons,List.mem_append,List.mem_cons];constructor
  ·rintro((a|a|a)|a)
   ·exact .inl (.inl a)
   ·exact .inr (.inl a)
   ·exact .inl (.inr a)
   ·exact .inr (.inr a)
  ·rintro((a|a)|a|a)
   ·exact .inl (.inl a)
   ·exact .inl (.inr (.inr a))
   ·exact .inl (.inr (.inl a))
   ·exact .inr a
 ·have:=ht.nodup;simp only[List.map_append,List.map_cons] at this ⊢;refine(List.Perm.nodup_iff ?_).1 this;simp only[List.append_assoc,List.cons_append];refine List.Perm.append_left _ ?_;exact List.perm_middle
 ·have hs:=hi.stands;simp only[List.map_append,List.map_cons] at hs hout ⊢;have hn:=hi.nodup0;simp only[List.map_append] at hn;have h1:Ej (E3 ls1) (E4 ls1) (r1.map (·.1)++r2.map (·.1)):=by
   rw[ht.nx,ht.pv];exact hs.upd_out hout
  rw[A19 ht.lt hp hx,A2a ht.lt hp hx];exact Agd h1 hout hn
 ·intro e he;rw[hk,ht.kept];simp only[List.mem_append,List.mem_cons] at he
  by_cases heq:e.1=h
  ·rcases he with he|he|he
   ·exact absurd (by rw[<- heq];exact List.mem_map_of_mem (List.mem_append_left _ he)) ht.out
   ·subst he;exact Gg _ _ _
   ·exact absurd (by rw[<- heq];exact List.mem_map_of_mem (List.mem_append_right _ he)) ht.out
  ·rw[BN heq];refine hi.vals e ?_;rcases he with he|he|he
   ·exact List.mem_append_left _ he
   ·subst he;exact absurd rfl heq
   ·exact List.mem_append_right _ he
 ·intro x hx';rw[hk,ht.kept];have hxh:x≠h:=by
   rintro rfl;have:=(List.nodup_append.1 ht.nodup).2.1;simp only[List.nodup_cons] at this;exact this.1 hx'
  rw[BN hxh];exact hi.gone x (ht.sub x hx')
 ·rw[hk,ht.kept,BN (by have:=ht.pos;omega)];exact hi.zero
end Go.Hb
namespace Go.Hb
def lkR:Rec Lk:=⟨4,Lk.cells,λ_=>rfl⟩
instance Lk.of0{v:Value}{t:Bool}:Ln lkR [v,.i (0:Int),.i (0:Int),.b t] ⟨v,0,0,t⟩:=⟨rfl⟩
instance Lk.setP{a:Lk}{p:Nat}:Acp lkR a 1 (.i (p:Int)) { a with prev:=p }:=⟨rfl,by decide⟩
instance Lk.setN{a:Lk}{p:Nat}:Acp lkR a 2 (.i (p:Int)) { a with next:=p }:=⟨rfl,by decide⟩
theorem JE.len{ls:List Lk}{free:List Nat}{row:List (Nat×Value)}(hi:JE ls free row):ls.length=row.length+free.length+1:=by
 have h1:(row.map (·.1)++free).Perm ((List.range ls.length).drop 1):=by
  refine(List.perm_ext_iff_of_nodup hi.nodup ?_).2 λx=>?_
  ·exact(List.nodup_range).sublist (List.drop_sublist _ _)
  ·rw[List.mem_append,hi.all x];constructor
   ·intro h;rw[List.mem_iff_getElem];exact⟨x-1,by simp;omega,by simp;omega⟩
   ·intro h;rw[List.mem_iff_getElem] at h;obtain⟨i,hi,rfl⟩:=h;simp at hi ⊢;omega
 have:=h1.length_eq;simp at this;have:=hi.pos;omega
def Ge{T:Type}(mk:T->Value)(row:List (Nat×T)):List (Nat×Value):=row.map λe=>(e.1,mk e.2)
theorem Sf{T:Type}(mk:T->Value)(row:List (Nat×T)):(Ge mk row).map (·.1)=row.map (·.1):=by simp[Ge]
theorem Aup{T:Type}(mk:T->Value)(row:List (Nat×T)):(Ge mk row).length=row.length:=by simp[Ge]
def lst{T:Type}(mk:T->Value)(b:Nat)(row:List (Nat×T))(free:List Nat):HP:=
 Ks λ(x:Sl×Sl×List Lk)=>F6 (JE x.2.2 free (Ge mk row)) (AO [blk b [.l x.1.a x.1.n x.1.c,.l x.2.1.a x.2.1.n x.2.1.c,.i (row.length:Int)],recs lkR x.1 x.2.2,recs Rec.nat x.2.1 free])
section
variable{T:Type}{mk:T->Value}{b:Nat}{row:List (Nat×T)}{free:List Nat}{W w:World}{M:List HP}
instance At.lst{L:List HP}:At (lst mk b row free::L) b (lst mk b row free) (λx=>x::L):=⟨DU⟩
theorem EI(h:Ab W w (lst mk b row free::M)):∃(s f:Sl) (ls:List Lk),JE ls free (Ge mk row)/\(s.n=ls.length/\f.n=free.length/\ls.length=row.length+free.length+1) /\
  Ab W w (blk b [.l s.a s.n s.c,.l f.a f.n f.c,.i (row.length:Int)]::recs lkR s ls::recs Rec.nat f free::M):=by
 obtain⟨⟨s,f,ls⟩,h⟩:=h.openE;obtain⟨hi,h⟩:=h.openA;have h:=h.openL;have h:Ab W w (blk b [.l s.a s.n s.c,.l f.a f.n f.c,.i (row.length:Int)]::recs lkR s ls::recs Rec.nat f free::M):=h;refine⟨s,f,ls,hi,⟨(h.pure (q:=1) rfl λg hg=>?_),(h.pure (q:=2) rfl λg hg=>?_),?_⟩,h⟩
 ·have:=hg.1.1;rw[Rec.flat_length] at this;exact(Nat.eq_of_mul_eq_mul_right (by decide:0<4) this).symm
 ·have:=hg.1.1;rw[Rec.flat_length] at this;exact(Nat.eq_of_mul_eq_mul_right (by decide:0<1) this).symm
 ·have:=hi.len;rw[Aup] at this;exact this
theorem Et(s f:Sl){ls:List Lk}{n:Int}(hi:JE ls free (Ge mk row))(hn:n=row.length)
  (h:Ab W w (blk b [.l s.a s.n s.c,.l f.a f.n f.c,.i n]::recs lkR s ls::recs Rec.nat f free::M)):Ab W w (lst mk b row free::M):=by
 subst hn;exact Ab.shutE (s,f,ls) (Ab.shutA hi (Ab.shutL (Ps:=[_,_,_]) h))
def Li{T:Type}(row:List (Nat×T))(free:List Nat):Nat:=free.getLastD (row.length+free.length+1)
end
end Go.Hb
namespace Go.Hb
section
variable{T:Type}
def JX(row:List (Nat×T))(h:Int):Option Nat:=row.findIdx? λe=>decide ((e.1:Int)=h)
def Bo(row:List (Nat×T))(i:Nat):Nat:=(row.map (·.1)).getD i 0
def IJ(row:List (Nat×T))(h:Int):Nat:=match JX row h with
 | some i=>Bo row (i+1)
 | none=>0
theorem Mi{row:List (Nat×T)}{h:Int}{i:Nat}(hr:JX row h=some i):∃e,row[i]? = some e/\(e.1:Int)=h/\row=row.take i++e::row.drop (i+1)/\i<row.length:=by
 unfold JX at hr;rw[List.findIdx?_eq_some_iff_getElem] at hr;obtain⟨hlt,hp,_⟩:=hr;exact⟨row[i],List.getElem?_eq_getElem hlt,of_decide_eq_true hp,by simp,hlt⟩
theorem Abl{row:List (Nat×T)}{h:Int}:JX row h=none↔∀e∈row,(e.1:Int)≠h:=by
 unfold JX;rw[List.findIdx?_eq_none_iff];simp
theorem A2w{U:Type}(f:Nat×T->Nat×U)(hf:∀e,(f e).1=e.1)(row:List (Nat×T))(h:Int):JX (row.map f) h=JX row h:=by
 unfold JX;rw[List.findIdx?_map];congr 1;funext e;simp[hf]
theorem KU{row:List (Nat×T)}(hn:(row.map (·.1)).Nodup){i:Nat}{e:Nat×T}(h:row[i]? = some e):JX row (e.1:Int)=some i:=by
 obtain⟨hlt,rfl⟩:=List.getElem?_eq_some_iff.1 h;unfold JX;rw[List.findIdx?_eq_some_iff_getElem];refine⟨hlt,by simp,λj hj=>?_⟩;rw[decide_eq_true_eq];intro he;have:(row.map (·.1))[j]? = (row.map (·.1))[i]?:=by
  rw[List.getElem?_map,List.getElem?_map,List.getElem?_eq_getElem hlt,List.getElem?_eq_getElem (by omega)];simp only[Option.map_some,Option.some.injEq];omega
 have:=(List.getElem?_inj (by simp;omega) hn).1 this;omega
end
section
variable{ls:List Lk}{free:List Nat}{row:List (Nat×Value)}
theorem JE.at_row(hi:JE ls free row){h:Nat}(hh:0<h)(hl:h<ls.length)(ht:(ls.getD h default).there=true):∃i,JX row (h:Int)=some i:=by
 rcases(hi.all h).2 ⟨hh,hl⟩ with hr|hf
 ·cases hx:JX row (h:Int) with
  | some i=>exact⟨i,rfl⟩
  | none=>
   rw[List.mem_map] at hr;obtain⟨e,he,rfl⟩:=hr;exact absurd rfl (Abl.1 hx e he)
 ·have:=hi.gone h hf;unfold DV at this;simp only at this;rw[ht] at this;cases this
theorem JE.row_at(hi:JE ls free row){h:Int}{i:Nat}(hr:JX row h=some i):∃(k:Nat) (v:Value),h=(k:Int)/\row[i]? = some (k,v)/\0<k/\k<ls.length/\(ls.getD k default).there=true/\(ls.getD k default).v=v/\row=row.take i++(k,v)::row.drop (i+1) /\
  E3 ls k=Bo row (i+1)/\E4 ls k=(if i=0 then 0 else Bo row (i-1)):=by
 obtain⟨⟨k,v⟩,he,hk,hs,hlt⟩:=Mi hr;have hm:(k,v)∈row:=by rw[hs];simp
 have hb:=(hi.all k).1 (.inl (List.mem_map.2 ⟨_,hm,rfl⟩));have hv:=hi.vals _ hm;unfold DV at hv;simp only[Prod.mk.injEq] at hv;have hst:=hi.stands;rw[hs] at hst;simp only[List.map_append,List.map_cons] at hst;have:=Kc hst;refine⟨k,v,hk.symm,he,hb.1,hb.2,hv.2,hv.1,hs,?_,?_⟩
 ·rw[this.1];unfold Bo
  rw[List.map_drop];rw[List.getD_eq_getElem?_getD,List.headD_eq_head?_getD,List.head?_drop]
 ·rw[this.2];rcases i with _|i
  ·simp
  ·simp only[Nat.add_eq_zero_iff,Nat.one_ne_zero,and_false,if_false,Nat.add_sub_cancel];unfold Bo;rw[List.getLastD_eq_getLast?,List.map_take,List.getLast?_eq_getElem?,List.getD_eq_getElem?_getD,List.length_take,List.length_map,Nat.min_eq_left (by omega)];rw[List.getElem?_take_of_lt (by omega)];rfl
theorem JE.has(hi:JE ls free row)(h:Int):(decide (h>0) && (decide (h<(ls.length:Int)) && (ls.getD h.toNat default).there))=(JX row h).isSome:=by
 cases hr:JX row h with
 | some i=>
  obtain⟨k,v,rfl,_,h1,h2,h3,_⟩:=hi.row_at hr;simp only[Option.isSome_some,Bool.and_eq_true,decide_eq_true_eq,Int.toNat_natCast];exact⟨by omega,by omega,h3⟩
 | none=>
  simp only[Option.isSome_none];cases hb:(decide (h>0) && (decide (h<(ls.length:Int)) && (ls.getD h.toNat default).there)) with
  | false=>rfl
  | true=>
   simp only[Bool.and_eq_true,decide_eq_true_eq] at hb;obtain⟨i,hx⟩:=hi.at_row (h:=h.toNat) (by omega) (by omega) hb.2.2;rw[show((h.toNat:Nat):Int)=h by omega,hr] at hx;cases hx
theorem JE.front(hi:JE ls free row):E3 ls 0=Bo row 0:=by
 rw[Xu hi.stands];unfold Bo;cases row <;> rfl
theorem JE.lift(hi:JE ls free row){i k:Nat}{v:Value}(hs:row=row.take i++(k,v)::row.drop (i+1))(hp:E4 ls k<ls.length)(hx:E3 ls k<ls.length) :
  Ej (E3 (Hs ls k)) (E4 (Hs ls k)) ((row.take i++row.drop (i+1)).map (·.1)):=by
 have hst:=hi.stands;have hn:=hi.nodup0;rw[hs] at hst hn;simp only[List.map_append,List.map_cons] at hst hn ⊢;have hat:=Kc hst;rw[Att hp hx,Atu hp hx];have:=Ab1 hst hn;rw[hat.1,hat.2];exact this
theorem Ale{l1 l2:List Nat}{x:Nat}(h:(l1++x::l2).Nodup):x∉l1++l2/\(l1++l2).Nodup:=by
 have:=(List.perm_middle (a:=x) (l₁:=l1) (l₂:=l2)).nodup_iff.1 h;simpa using List.nodup_cons.1 this
theorem JE.remove(hi:JE ls free row){i k:Nat}{v z:Value}(hs:row=row.take i++(k,v)::row.drop (i+1))(hk:0<k)(hkl:k<ls.length)(hp:E4 ls k<ls.length)(hx:E3 ls k<ls.length) :
  JE ((Hs ls k).set k ⟨z,0,0,false⟩) (free++[k]) (row.eraseIdx i):=by
 have he:row.eraseIdx i=row.take i++row.drop (i+1):=List.eraseIdx_eq_take_drop_succ ..;have hst:=hi.lift hs hp hx;rw[he];have hnd:=hi.nodup;rw[hs] at hnd;simp only[List.map_append,List.map_cons,List.append_assoc,List.cons_append] at hnd;obtain⟨hnk,hnd2⟩:=Ale hnd;have hll:=UR ls k;have hout:k∉(row.take i++row.drop (i+1)).map (·.1):=by
  simp only[List.map_append,List.mem_append,not_or] at hnk ⊢;exact⟨hnk.1,hnk.2.1⟩
 have hkf:k∉free:=by simp only[List.mem_append,not_or] at hnk;exact hnk.2.2
 have hkept:DV ((Hs ls k).set k ⟨z,0,0,false⟩)=upd (DV ls) k (z,false):=by
  rw[UJ (by omega),Afs hp hx]
 refine⟨by simp[hll];omega,λx=>?_,?_,?_,?_,?_,?_⟩
 ·have:=hi.all x;rw[hs] at this;simp only[List.map_append,List.map_cons,List.mem_append,List.mem_cons,List.length_set,hll,List.mem_singleton,List.not_mem_nil,or_false] at this ⊢;rw[<- this];constructor
  ·rintro((h|h)|h|h)
   ·exact .inl (.inl h)
   ·exact .inl (.inr (.inr h))
   ·exact .inr h
   ·exact .inl (.inr (.inl h))
  ·rintro((h|h|h)|h)
   ·exact .inl (.inl h)
   ·exact .inr (.inr h)
   ·exact .inl (.inr h)
   ·exact .inr (.inl h)
 ·rw[<- List.append_assoc];have:((row.take i++row.drop (i+1)).map (·.1)++free).Nodup:=by simpa using hnd2
  rw[List.nodup_append];refine⟨this,by simp,λa ha b hb=>?_⟩;simp only[List.mem_singleton] at hb;subst hb;rintro rfl;rcases List.mem_append.1 ha with h|h
  ·exact hout h
  ·exact hkf h
 ·rw[At9 (by omega),Auh (by omega)];refine hst.upd_out ?_;rw[List.mem_cons,not_or];exact⟨by omega,hout⟩
 ·intro e hm;rw[hkept];have hek:e.1≠k:=by
   rintro rfl;exact hout (List.mem_map_of_mem hm)
  rw[BN hek];refine hi.vals e ?_;rw[hs];rcases List.mem_append.1 hm with h|h
  ·exact List.mem_append_left _ h
  ·exact List.mem_append_right _ (List.mem_cons_of_mem _ h)
 ·intro h hm;rw[hkept];rcases List.mem_append.1 hm with hm1|hm1
  ·have hne:h≠k:=by rintro rfl;exact hkf hm1
   rw[BN hne];exact hi.gone h hm1
  ·simp only[List.mem_singleton] at hm1;subst hm1;rw[Gg]
 ·rw[hkept,BN (by omega)];exact hi.zero
end
section
variable{T:Type}{mk:T->Value}
def FO(row:List (Nat×T))(h:Int):Option T:=match JX row h with
 | some i=>(row[i]?).map (·.2)
 | none=>none
theorem Vh(row:List (Nat×T))(h:Int):JX (Ge mk row) h=JX row h:=A2w (λe=>(e.1,mk e.2)) (λ_=>rfl) row h
theorem Sg(row:List (Nat×T))(i:Nat):Bo (Ge mk row) i=Bo row i:=by unfold Bo;rw[Sf]
theorem Af8(row:List (Nat×T))(i:Nat):Ge mk (row.eraseIdx i)=(Ge mk row).eraseIdx i:=by
 simp only[Ge,List.eraseIdx_eq_take_drop_succ,List.map_append,List.map_take,List.map_drop]
theorem Auq{row:List (Nat×T)}{i k:Nat}{v:Value}{z:T}(h1:JX row (k:Int)=some i)(h:(Ge mk row)[i]? = some (k,v)):v=mk ((FO row k).getD z):=by
 unfold Ge at h;unfold FO;rw[List.getElem?_map] at h;rw[h1];simp only[];cases hr:row[i]? with
 | none=>rw[hr] at h;cases h
 | some e=>rw[hr] at h;simp at h;simp[h]
end
section
variable{ls:List Lk}{free:List Nat}{row:List (Nat×Value)}
theorem JE.next_lt(hi:JE ls free row){i k:Nat}{v:Value}(hs:row=row.take i++(k,v)::row.drop (i+1)):E3 ls k<ls.length:=by
 have hst:=hi.stands;have hb:=hi.bound (x:=((row.drop (i+1)).map (·.1)).headD 0) (by
  rcases List.mem_cons.1 (UW (l:=(row.drop (i+1)).map (·.1))) with h|h
  ·exact List.mem_cons.2 (.inl h)
  ·exact List.mem_cons_of_mem _ (((List.drop_sublist _ _).map _).subset h))
 rw[hs] at hst;simp only[List.map_append,List.map_cons] at hst;rw[(Kc hst).1];exact hb
theorem JE.prev_lt(hi:JE ls free row){i k:Nat}{v:Value}(hs:row=row.take i++(k,v)::row.drop (i+1)):E4 ls k<ls.length:=by
 have hst:=hi.stands;have hb:=hi.bound (x:=((row.take i).map (·.1)).getLastD 0) (by
  rcases List.mem_cons.1 (ML (l:=(row.take i).map (·.1))) with h|h
  ·exact List.mem_cons.2 (.inl h)
  ·exact List.mem_cons_of_mem _ (((List.take_sublist _ _).map _).subset h))
 rw[hs] at hst;simp only[List.map_append,List.map_cons] at hst;rw[(Kc hst).2];exact hb
end
theorem A10(z:Value):JE [⟨z,0,0,false⟩] [] []:=by
 refine⟨by simp,λh=>?_,by simp,⟨rfl,rfl,trivial⟩,λe he=>by simp at he,λh hh=>by simp at hh,rfl⟩;simp;omega
end Go.Hb
namespace Go.Hb
theorem Lw{α β:Type}(f:α->β)(l:List α)(i:Nat):(l.eraseIdx i).map f=(l.map f).eraseIdx i:=by
 simp only[List.eraseIdx_eq_take_drop_succ,List.map_append,List.map_take,List.map_drop]
def Aq(ks:List BA)(k:BA):List BA:=ks.filter λx=>decide (x≠k)
def SO(ks:List BA)(k:BA):Bool:=ks.any λx=>decide (x=k)
theorem HS{ks:List BA}{k:BA}:SO ks k=true↔k∈ks:=by simp[SO]
instance Baa{k:BA}{l:List BA}:Decidable (k∈l):=decidable_of_iff (SO l k=true) HS
theorem Gz(l:List BA)(k:BA):SO l k=decide (k∈l):=by rw[Bool.eq_iff_iff,HS,decide_eq_true_eq]
theorem LJ{ks:List BA}{k:BA}:SO ks k=false↔k∉ks:=by rw[<- HS];simp
theorem Av{ks:List BA}{k:BA}(h:k∉ks):Aq ks k=ks:=by
 unfold Aq;rw[List.filter_eq_self];intro x hx;exact decide_eq_true λhe=>h (he ▸ hx)
theorem AT{ks:List BA}{k x:BA}:x∈Aq ks k↔x∈ks/\x≠k:=by simp[Aq]
theorem BM(ks:List BA)(k:BA):(Aq ks k).length<=ks.length:=List.length_filter_le _ _
theorem Fa{ks:List BA}{k:BA}(h:ks.Nodup):(Aq ks k).Nodup:=h.sublist List.filter_sublist
theorem Aa7{V:Type}[Inhabited V](m:List (BA×V))(k:BA):(Cr m k).map (·.1)=Aq (m.map (·.1)) k:=by
 unfold Cr Aq;rw[List.filter_map];rfl
def A1x(room:Int)(ks:List BA)(k:BA):List BA:=if ((Aq ks k++[k]).length:Int)<=room then Aq ks k++[k] else (Aq ks k++[k]).drop 1
def Ah9(room:Int)(ks:List BA)(k:BA):BA:=if ((Aq ks k++[k]).length:Int)<=room then ⟨#[]⟩ else (Aq ks k++[k]).headD ⟨#[]⟩
def Aan(room:Int)(ks:List BA)(k:BA):Bool:=!decide (((Aq ks k++[k]).length:Int)<=room)
theorem Rl{ks:List BA}{k:BA}(h:ks.Nodup):(Aq ks k++[k]).Nodup:=by
 rw[List.nodup_append];refine⟨Fa h,by simp,λa ha b hb=>?_⟩;rw[List.mem_singleton] at hb;subst hb;exact(AT.1 ha).2
theorem KE{k:BA}{t:List BA}(h:(k::t).Nodup):Aq (k::t) k=t:=by
 have:Aq (k::t) k=Aq t k:=by simp[Aq]
 rw[this,Av (List.nodup_cons.1 h).1]
def Mm(row:List (Nat×BA)):List (BA×Int):=row.map λe=>(e.2,(e.1:Int))
theorem Ii(row:List (Nat×BA)):(Mm row).map (·.1)=row.map (·.2):=by simp[Mm]
structure HL(ks:List BA)(row:List (Nat×BA))(m:List (BA×Int)):Prop where
 keys:row.map (·.2)=ks
 nd:ks.Nodup
 perm:m.Perm (Mm row)
 small:∀k∈ks,k.size<4611686018427387904
section
variable{ks:List BA}{row:List (Nat×BA)}{m:List (BA×Int)}{k:BA}
theorem HL.mnd(hi:HL ks row m):(m.map (·.1)).Nodup:=by
 have:=(hi.perm.map (·.1)).nodup_iff.2 (by rw[Ii,hi.keys];exact hi.nd);exact this
theorem HL.has(hi:HL ks row m):(AC m k).isSome=SO ks k:=by
 have hm:∀x,x∈m.map (·.1)↔x∈ks:=λx=>by rw[(hi.perm.map (·.1)).mem_iff,Ii,hi.keys]
 cases hg:AC m k with
 | none=>
  have:=BY.1 hg;have h2:k∉ks:=by
   rw[<- hm,List.mem_map];rintro⟨e,he,rfl⟩;exact this e he rfl
  rw[LJ.2 h2];rfl
 | some v=>
  have:=(Ck hi.mnd).1 hg;have h2:k∈ks:=(hm k).1 (List.mem_map.2 ⟨_,this,rfl⟩);rw[HS.2 h2];rfl
theorem HL.small_m(hi:HL ks row m):∀e∈m,e.1.size<4611686018427387904:=λe he=>by
 refine hi.small _ ?_;rw[<- hi.keys,<- Ii,<- (hi.perm.map (·.1)).mem_iff];exact List.mem_map.2 ⟨e,he,rfl⟩
theorem HL.len(hi:HL ks row m):m.length=row.length/\ks.length=row.length:=by
 constructor
 ·rw[hi.perm.length_eq];simp[Mm]
 ·rw[<- hi.keys];simp
theorem HL.miss(hi:HL ks row m)(hg:AC m k=none):k∉ks/\Aq ks k=ks/\HL ks row (Cr m k):=by
 have h1:k∉ks:=by have:=hi.has (k:=k);rw[hg] at this;exact LJ.1 this.symm
 refine⟨h1,Av h1,hi.keys,hi.nd,?_,hi.small⟩;have:Cr m k=m:=by
  unfold Cr;rw[List.filter_eq_self];intro e he;exact decide_eq_true (BY.1 hg e he)
 rw[this];exact hi.perm
theorem HL.hit(hi:HL ks row m){h:Int}(hg:AC m k=some h)(hn:(row.map (·.1)).Nodup):∃i,JX row h=some i/\HL (Aq ks k) (row.eraseIdx i) (Cr m k):=by
 have h1:(k,h)∈Mm row:=hi.perm.mem_iff.1 ((Ck hi.mnd).1 hg);obtain⟨i,hil,hi2⟩:=List.mem_iff_getElem.1 h1;have hi3:(Mm row)[i]? = some (k,h):=by rw[List.getElem?_eq_getElem hil,hi2]
 have hi4:i<row.length:=by simpa[Mm] using hil
 have he:(row[i].2,(row[i].1:Int))=(k,h):=by rw[<- hi2];simp[Mm]
 have hnR:((Mm row).map (·.1)).Nodup:=by rw[Ii,hi.keys];exact hi.nd
 have hdel:=H8 hnR hi3;have hK:Mm (row.eraseIdx i)=Cr (Mm row) k:=by rw[<- hdel];exact Lw _ _ _
 refine⟨i,?_,?_,Fa hi.nd,?_,λx hx=>hi.small x (AT.1 hx).1⟩
 ·have:=KU hn (List.getElem?_eq_getElem hi4);have h5:(row[i].1:Int)=h:=congrArg Prod.snd he;rw[h5] at this;exact this
 ·rw[<- Ii,hK,Aa7,Ii,hi.keys]
 ·rw[hK];exact UU hi.perm
theorem HL.push(hi:HL ks row m)(h1:k∉ks)(hz:k.size<4611686018427387904)(h:Nat):HL (ks++[k]) (row++[(h,k)]) (CE m k (h:Int)):=by
 have hg:AC m k=none:=by
  have:=hi.has (k:=k);rw[LJ.2 h1] at this;simpa using this
 refine⟨by simp[hi.keys],?_,?_,λx hx=>?_⟩
 ·rw[List.nodup_append];refine⟨hi.nd,by simp,λa ha b hb=>?_⟩;rw[List.mem_singleton] at hb;subst hb;rintro rfl;exact h1 ha
 ·have e1:CE m k (h:Int)=(k,(h:Int))::m:=by unfold CE;rw[hg]
  have e2:Mm (row++[(h,k)])=Mm row++[(k,(h:Int))]:=by simp[Mm]
  rw[e1,e2];exact(hi.perm.cons _).trans (List.perm_append_singleton _ _).symm
 ·rw[List.mem_append,List.mem_singleton] at hx;rcases hx with hx|rfl
  ·exact hi.small x hx
  ·exact hz
end
section
variable{W w:World}{M L:List HP}{b:Nat}{room:Int}{N:Nat}{ks:List BA}
theorem Ia{T:Type}{mk:T->Value}{row:List (Nat×T)}{free:List Nat}(h:Ab W w (lst mk b row free::M)):(row.map (·.1)).Nodup:=by
 obtain⟨s,f,ls,hi,_⟩:=EI h;have:=hi.nodup;rw[Sf] at this;exact(List.nodup_append.1 this).1
abbrev GX:Type:=Nat×Nat×List (Nat×BA)×List Nat×List (BA×Int)
def ghR(b:Nat)(room:Int)(N:Nat)(ks:List BA):HP:=Ks λ(x:GX)=>F6 (HL ks x.2.2.1 x.2.2.2.2/\x.2.2.1.length+x.2.2.2.1.length<=N)
 (AO [blk b [.i room,pq x.1 0,pq x.2.1 0],lst .s x.1 x.2.2.1 x.2.2.2.1,ixr (Rec.int .i64) x.2.1 0 x.2.2.2.2])
instance At.ghR:At (ghR b room N ks::L) b (ghR b room N ks) (λx=>x::L):=⟨DU⟩
theorem LN(h:Ab W w (ghR b room N ks::M)):∃(lb xb:Nat) (row:List (Nat×BA)) (free:List Nat) (m:List (BA×Int)),HL ks row m/\row.length+free.length<=N /\
  Ab W w (blk b [.i room,pq lb 0,pq xb 0]::lst .s lb row free::ixr (Rec.int .i64) xb 0 m::M):=by
 obtain⟨⟨lb,xb,row,free,m⟩,h⟩:=h.openE;obtain⟨hi,h⟩:=h.openA;exact⟨lb,xb,row,free,m,hi.1,hi.2,h.openL⟩
theorem JM{lb xb:Nat}{row:List (Nat×BA)}{free:List Nat}{m:List (BA×Int)}(hi:HL ks row m)(hN:row.length+free.length<=N)
  (h:Ab W w (blk b [.i room,pq lb 0,pq xb 0]::lst .s lb row free::ixr (Rec.int .i64) xb 0 m::M)):Ab W w (ghR b room N ks::M):=
 Ab.shutE (lb,xb,row,free,m) (Ab.shutA ⟨hi,hN⟩ (Ab.shutL (Ps:=[_,_,_]) h))
theorem Asx(h:Ab W w (ghR b room N ks::M)):ks.Nodup/\ks.length<=N/\∀k∈ks,k.size<4611686018427387904:=by
 obtain⟨lb,xb,row,free,m,hi,hN,_⟩:=LN h;exact⟨hi.nd,by have:=hi.len;omega,hi.small⟩
def Acy(room:Int):Int:=if (1024:Int)<(if (1:Int)>room then (1:Int) else room) then (1024:Int) else (if (1:Int)>room then (1:Int) else room)
end
end Go.Hb
namespace Go.Hb
abbrev V3:=List (Nat×BA)
def ON(j:Nat)(row:V3):List (BA×(Int×Int)):=row.map λe=>(e.2,((j:Int),(e.1:Int)))
def D9:Nat->List V3->List (BA×(Int×Int))
 | _,[]=>[]
 | j,r::rs=>ON j r++D9 (j+1) rs
def Dl(rs:List V3):List (List BA):=rs.map λr=>r.map (·.2)
theorem J8(j:Nat)(r:V3):(ON j r).map (·.1)=r.map (·.2):=by simp[ON]
theorem DZ:∀(rs:List V3)(j:Nat),(D9 j rs).map (·.1)=(Dl rs).flatten
 | [],_=>rfl
 | r::rs,j=>by
  have ih:=DZ rs (j+1);simp only[D9,Dl,List.map_append,List.map_cons,List.flatten_cons,J8] at ih ⊢;rw[ih]
theorem UX{k:BA}{p:Int×Int}:∀{rs:List V3}{j:Nat},(k,p)∈D9 j rs->∃(jn:Nat) (row:V3) (i:Nat) (e:Nat×BA),rs[jn]? = some row/\row[i]? = some e/\e.2=k/\p=(((j+jn:Nat):Int),(e.1:Int))
 | [],_,h=>by cases h
 | r::rs,j,h=>by
  rw[D9,List.mem_append] at h;rcases h with h|h
  ·simp only[ON,List.mem_map] at h;obtain⟨e,he,h⟩:=h;obtain⟨i,hi,rfl⟩:=List.mem_iff_getElem.1 he;cases h;exact⟨0,r,i,r[i],rfl,List.getElem?_eq_getElem hi,rfl,rfl⟩
  ·obtain⟨jn,row,i,e,h1,h2,h3,h4⟩:=UX h;refine⟨jn+1,row,i,e,by simpa using h1,h2,h3,?_⟩;rw[h4];congr 2;omega
theorem NY{V:Type}[Inhabited V](a b:List (BA×V))(k:BA):Cr (a++b) k=Cr a k++Cr b k:=by unfold Cr;rw[List.filter_append]
theorem RI{V:Type}[Inhabited V]{m:List (BA×V)}{k:BA}(h:k∉m.map (·.1)):Cr m k=m:=by
 unfold Cr;rw[List.filter_eq_self];intro e he;exact decide_eq_true λhk=>h (List.mem_map.2 ⟨e,he,hk⟩)
theorem Of{k:BA}:∀{rs:List V3}{j jn i:Nat}{row:V3}{e:Nat×BA},((D9 j rs).map (·.1)).Nodup->rs[jn]? = some row->row[i]? = some e->e.2=k ->
  D9 j (rs.set jn (row.eraseIdx i))=Cr (D9 j rs) k/\Dl (rs.set jn (row.eraseIdx i))=(Dl rs).map λr=>Aq r k
 | [],_,_,_,_,_,_,h,_,_=>by simp at h
 | r::rs,j,jn,i,row,e,hn,hr,hi,he=>by
  rw[D9,List.map_append,List.nodup_append] at hn;obtain⟨n1,n2,n3⟩:=hn;have hcross:∀x,x∈r.map (·.2)->x∈(Dl rs).flatten->False:=λx h1 h2=>by
   rw[<- J8 j] at h1;rw[<- DZ rs (j+1)] at h2;exact n3 x h1 x h2 rfl
  cases jn with
  | zero=>
   simp only[List.getElem?_cons_zero,Option.some.injEq] at hr;subst hr;have h1:(ON j r)[i]? = some (k,((j:Int),(e.1:Int))):=by unfold ON;rw[List.getElem?_map,hi,<- he];rfl
   have h2:ON j (r.eraseIdx i)=Cr (ON j r) k:=by rw[<- H8 n1 h1];exact Lw _ _ _
   have hk:k∈r.map (·.2):=by rw[<- he];exact List.mem_map.2 ⟨e,List.mem_of_getElem? hi,rfl⟩
   have hno:k∉(Dl rs).flatten:=λh=>hcross k hk h;have h3:Cr (D9 (j+1) rs) k=D9 (j+1) rs:=RI (by rw[DZ];exact hno)
   constructor
   ·rw[List.set_cons_zero,D9,D9,NY,h2,h3]
   ·have h4:(r.eraseIdx i).map (·.2)=Aq (r.map (·.2)) k:=by
     rw[<- J8 j,h2,Aa7,J8]
    have h5:(Dl rs).map (λr=>Aq r k)=Dl rs:=by
     conv=>rhs;rw[<- List.map_id (Dl rs)]
     refine List.map_congr_left λx hx=>Av λh=>hno (List.mem_flatten.2 ⟨x,hx,h⟩)
    show(r.eraseIdx i).map (·.2)::Dl rs=Aq (r.map (·.2)) k::(Dl rs).map λr=>Aq r k;rw[h4,h5]
  | succ jn=>
   simp only[List.getElem?_cons_succ] at hr;obtain⟨h1,h2⟩:=Of (j:=j+1) n2 hr hi he;have hk:k∈(Dl rs).flatten:=by
    refine List.mem_flatten.2 ⟨row.map (·.2),?_,by rw[<- he];exact List.mem_map.2 ⟨e,List.mem_of_getElem? hi,rfl⟩⟩;exact List.mem_map.2 ⟨row,List.mem_of_getElem? hr,rfl⟩
   have hno:k∉r.map (·.2):=λh=>hcross k h hk;constructor
   ·rw[List.set_cons_succ,D9,D9,NY,h1,RI (m:=ON j r) (by rw[J8];exact hno)]
   ·show r.map (·.2)::Dl (rs.set jn (row.eraseIdx i))=Aq (r.map (·.2)) k::(Dl rs).map λr=>Aq r k;rw[h2,Av hno]
theorem Si{k:BA}{h:Nat}:∀{rs:List V3}{j jn:Nat}{row:V3},rs[jn]? = some row->(D9 j (rs.set jn (row++[(h,k)]))).Perm ((k,(((j+jn:Nat):Int),(h:Int)))::D9 j rs)
 | [],_,_,_,h=>by simp at h
 | r::rs,j,jn,row,hr=>by
  cases jn with
  | zero=>
   simp only[List.getElem?_cons_zero,Option.some.injEq] at hr;subst hr;rw[List.set_cons_zero,D9,D9];have:ON j (r++[(h,k)])=ON j r++[(k,(((j+0:Nat):Int),(h:Int)))]:=by simp[ON]
   rw[this];exact((List.perm_append_singleton _ _).append_right _)
  | succ jn=>
   simp only[List.getElem?_cons_succ] at hr;rw[List.set_cons_succ,D9,D9];have ih:=Si (k:=k) (h:=h) (j:=j+1) hr;rw[show j+1+jn=j+(jn+1) by omega] at ih;exact(ih.append_left _).trans List.perm_middle
structure EA(K:List (List BA))(rs:List V3)(m:List (BA×(Int×Int))):Prop where
 keys:Dl rs=K
 nd:K.flatten.Nodup
 perm:m.Perm (D9 0 rs)
 small:∀k∈K.flatten,k.size<64
def ED(K:List (List BA))(k:BA):Int:=match K.findIdx? λr=>SO r k with
 | some j=>(j:Int)
 | none=>-1
def DY(K:List (List BA))(k:BA):List (List BA):=K.map λr=>Aq r k
def DJ(K:List (List BA))(j:Nat)(k:BA):List (List BA):=(DY K k).set j ((DY K k).getD j []++[k])
section
variable{K:List (List BA)}{rs:List V3}{m:List (BA×(Int×Int))}{k:BA}
theorem EA.mnd(hi:EA K rs m):(m.map (·.1)).Nodup:=by
 rw[(hi.perm.map (·.1)).nodup_iff,DZ,hi.keys];exact hi.nd
theorem EA.small_m(hi:EA K rs m):∀e∈m,e.1.size<4611686018427387904:=λe he=>by
 refine Nat.lt_trans (hi.small _ ?_) (by decide);rw[<- hi.keys,<- DZ rs 0,<- (hi.perm.map (·.1)).mem_iff];exact List.mem_map.2 ⟨e,he,rfl⟩
theorem EA.klen(hi:EA K rs m):K.length=rs.length:=by rw[<- hi.keys];simp[Dl]
theorem EA.mlen(hi:EA K rs m):m.length=K.flatten.length:=by
 have:=(hi.perm.map (·.1)).length_eq;rw[DZ,hi.keys] at this;simpa using this
theorem EA.row(hi:EA K rs m){j:Nat}{row:V3}(h:rs[j]? = some row):K[j]? = some (row.map (·.2)):=by
 rw[<- hi.keys];unfold Dl;rw[List.getElem?_map,h];rfl
theorem EA.none_iff(hi:EA K rs m):AC m k=none↔k∉K.flatten:=by
 rw[<- hi.keys,<- DZ rs 0,<- (hi.perm.map (·.1)).mem_iff,BY];constructor
 ·intro h hk;obtain⟨e,he,rfl⟩:=List.mem_map.1 hk;exact h e he rfl
 ·intro h e he hk;exact h (List.mem_map.2 ⟨e,he,hk⟩)
theorem EA.miss(hi:EA K rs m)(hg:AC m k=none):k∉K.flatten/\DY K k=K/\ED K k = -1/\EA K rs (Cr m k):=by
 have h1:=hi.none_iff.1 hg;have h2:∀r∈K,k∉r:=λr hr h=>h1 (List.mem_flatten.2 ⟨r,hr,h⟩);refine⟨h1,?_,?_,?_⟩
 ·unfold DY
  conv=>rhs;rw[<- List.map_id K]
  exact List.map_congr_left λx hx=>Av (h2 x hx)
 ·unfold ED;have:K.findIdx? (λr=>SO r k)=none:=by
   rw[List.findIdx?_eq_none_iff];intro r hr;exact LJ.2 (h2 r hr)
  rw[this]
 ·have:Cr m k=m:=RI (by rw[(hi.perm.map (·.1)).mem_iff,DZ,hi.keys];exact h1);rw[this];exact hi
theorem EA.at_row(hi:EA K rs m){p:Int×Int}(hg:AC m k=some p):∃(j:Nat) (row:V3) (i:Nat) (e:Nat×BA),rs[j]? = some row/\row[i]? = some e/\e.2=k/\p=((j:Int),(e.1:Int)):=by
 have h1:(k,p)∈D9 0 rs:=hi.perm.mem_iff.1 ((Ck hi.mnd).1 hg);obtain⟨j,row,i,e,h2,h3,h4,h5⟩:=UX h1;exact⟨j,row,i,e,h2,h3,h4,by rw[h5,Nat.zero_add]⟩
theorem Af4{K:List (List BA)}(hn:K.flatten.Nodup){i j:Nat}{a b:List BA}(ha:K[i]? = some a)(hb:K[j]? = some b)(h1:k∈a)(h2:k∈b):i=j:=by
 have hp:=(List.pairwise_flatten.1 hn).2;rw[List.pairwise_iff_getElem] at hp;obtain⟨hi,rfl⟩:=List.getElem?_eq_some_iff.1 ha;obtain⟨hj,rfl⟩:=List.getElem?_eq_some_iff.1 hb;rcases Nat.lt_trichotomy i j with h|h|h
 ·exact absurd rfl (hp i j hi hj h k h1 k h2)
 ·exact h
 ·exact absurd rfl (hp j i hj hi h k h2 k h1)
theorem EA.where_eq(hi:EA K rs m){p:Int×Int}(hg:AC m k=some p):p.1=ED K k:=by
 obtain⟨j,row,i,e,h2,h3,h4,rfl⟩:=hi.at_row hg;have hK:=hi.row h2;have hk:k∈row.map (·.2):=by rw[<- h4];exact List.mem_map.2 ⟨e,List.mem_of_getElem? h3,rfl⟩
 have:K.findIdx? (λr=>SO r k)=some j:=by
  rw[List.findIdx?_eq_some_iff_getElem];obtain⟨hj,hj2⟩:=List.getElem?_eq_some_iff.1 hK;refine⟨hj,by rw[hj2];exact HS.2 hk,λx hx=>?_⟩
  rw[HS];intro hx2;have:=Af4 hi.nd (List.getElem?_eq_getElem (show x<K.length by omega)) hK hx2 hk;omega
 unfold ED;rw[this]
theorem EA.hit(hi:EA K rs m){p:Int×Int}(hg:AC m k=some p)(hn:∀row∈rs,(row.map (·.1)).Nodup):∃(j:Nat) (row:V3) (i:Nat),p.1=(j:Int)/\rs[j]? = some row/\JX row p.2=some i/\i<row.length /\
  EA (DY K k) (rs.set j (row.eraseIdx i)) (Cr m k):=by
 obtain⟨j,row,i,e,h2,h3,h4,rfl⟩:=hi.at_row hg;have hnd:((D9 0 rs).map (·.1)).Nodup:=by rw[DZ,hi.keys];exact hi.nd
 obtain⟨h5,h6⟩:=Of hnd h2 h3 h4;refine⟨j,row,i,rfl,h2,KU (hn row (List.mem_of_getElem? h2)) h3,(List.getElem?_eq_some_iff.1 h3).1,?_,?_,?_,?_⟩
 ·rw[h6,hi.keys];rfl
 ·rw[<- show Dl (rs.set j (row.eraseIdx i))=DY K k by rw[h6,hi.keys];rfl,<- DZ _ 0,h5];exact hnd.sublist ((List.filter_sublist (p:=λe=>decide (e.1≠k)) (l:=D9 0 rs)).map (·.1))
 ·rw[h5];exact UU hi.perm
 ·intro x hx;obtain⟨r,hr,hx⟩:=List.mem_flatten.1 hx;obtain⟨r0,hr0,rfl⟩:=List.mem_map.1 hr;exact hi.small x (List.mem_flatten.2 ⟨r0,hr0,(AT.1 hx).1⟩)
theorem Ky{α:Type}:∀{l:List (List α)}{j:Nat}{r:List α}{x:α},l[j]? = some r->((l.set j (r++[x])).flatten).Perm (x::l.flatten)
 | [],_,_,_,h=>by simp at h
 | a::l,0,r,x,h=>by
  simp only[List.getElem?_cons_zero,Option.some.injEq] at h;subst h;rw[List.set_cons_zero,List.flatten_cons,List.flatten_cons];exact(List.perm_append_singleton _ _).append_right _
 | a::l,j+1,r,x,h=>by
  simp only[List.getElem?_cons_succ] at h;rw[List.set_cons_succ,List.flatten_cons,List.flatten_cons];exact((Ky h).append_left _).trans List.perm_middle
theorem EA.push(hi:EA K rs m)(h1:k∉K.flatten)(hz:k.size<64){j:Nat}{row:V3}(hr:rs[j]? = some row)(h:Nat) :
  EA (K.set j (K.getD j []++[k])) (rs.set j (row++[(h,k)])) (CE m k ((j:Int),(h:Int))):=by
 have hK:=hi.row hr;have hKd:K.getD j []=row.map (·.2):=by rw[List.getD_eq_getElem?_getD,hK];rfl
 have hp:=Ky (x:=k) hK;rw[hKd];refine⟨?_,?_,?_,?_⟩
 ·rw[<- hi.keys];unfold Dl;rw[List.map_set];simp
 ·rw[hp.nodup_iff,List.nodup_cons];exact⟨h1,hi.nd⟩
 ·have hg:=hi.none_iff.2 h1;have e1:CE m k ((j:Int),(h:Int))=(k,((j:Int),(h:Int)))::m:=by unfold CE;rw[hg]
  rw[e1];have:=Si (k:=k) (h:=h) (j:=0) hr;rw[Nat.zero_add] at this;exact(hi.perm.cons _).trans this.symm
 ·intro x hx;rw[hp.mem_iff,List.mem_cons] at hx;rcases hx with rfl|hx
  ·exact hz
  ·exact hi.small x hx
theorem Alo(K:List (List BA))(k:BA):k∉(DY K k).flatten:=by
 intro h;obtain⟨r,hr,h⟩:=List.mem_flatten.1 h;obtain⟨r0,_,rfl⟩:=List.mem_map.1 hr;exact(AT.1 h).2 rfl
end
abbrev HM:=Nat×V3×List Nat
def Fc(x:HM):HP:=lst .s x.1 x.2.1 x.2.2
def rowsC(s:Sl)(xb:Nat)(N:Nat)(K:List (List BA)):HP:=Ks λ(x:List HM×List (BA×(Int×Int)))=>
 F6 (EA K (x.1.map (·.2.1)) x.2/\∀y∈x.1,y.2.1.length+y.2.2.length<=N)
  (A3d (recs Rec.ptr s (x.1.map (·.1))) (A3d (ixr Rec.ii xb 0 x.2) (AO (x.1.map Fc))))
section
variable{W w:World}{M L:List HP}{xb N:Nat}{s:Sl}{K:List (List BA)}
instance At.rowsC:At (rowsC s xb N K::L) xb (rowsC s xb N K) (λx=>x::L):=⟨DU⟩
theorem Alu(h:Ab W w (rowsC s xb N K::M)):∃(xs:List HM) (m:List (BA×(Int×Int))),EA K (xs.map (·.2.1)) m/\(∀y∈xs,y.2.1.length+y.2.2.length<=N)/\s.n=xs.length /\
  Ab W w (recs Rec.ptr s (xs.map (·.1))::ixr Rec.ii xb 0 m::(xs.map Fc++M)):=by
 obtain⟨⟨xs,m⟩,h⟩:=h.openE;obtain⟨⟨h1,h2⟩,h⟩:=h.openA;have h:=h.split;have h3:=(h.perm (List.Perm.swap _ _ _)).split;have h4:Ab W w (AO (xs.map Fc)::recs Rec.ptr s (xs.map (·.1))::ixr Rec.ii xb 0 m::M):=by
  refine h3.perm ?_;exact((List.Perm.swap _ _ _).trans ((List.Perm.swap _ _ _).cons _)).trans (List.Perm.refl _) |>.trans (by
   first|exact List.Perm.refl _|exact(List.Perm.swap _ _ _).trans ((List.Perm.swap _ _ _).cons _)|exact(List.Perm.swap _ _ _).cons _)
 have h5:=h4.openL;have h6:Ab W w (recs Rec.ptr s (xs.map (·.1))::ixr Rec.ii xb 0 m::(xs.map Fc++M)):=by
  refine h5.perm ?_;exact List.perm_middle.trans (List.perm_middle.cons _)
 refine⟨xs,m,h1,h2,?_,h6⟩;have:=(BV (s:=s) h6 (by decide)).1;simpa using this
theorem Alv{xs:List HM}{m:List (BA×(Int×Int))}(hi:EA K (xs.map (·.2.1)) m)(hN:∀y∈xs,y.2.1.length+y.2.2.length<=N)
  (h:Ab W w (recs Rec.ptr s (xs.map (·.1))::ixr Rec.ii xb 0 m::(xs.map Fc++M))):Ab W w (rowsC s xb N K::M):=by
 refine Ab.shutE (xs,m) (Ab.shutA ⟨hi,hN⟩ ?_);refine Ab.join ?_;have h5:Ab W w (xs.map Fc++(recs Rec.ptr s (xs.map (·.1))::ixr Rec.ii xb 0 m::M)):=
  h.perm (List.perm_middle.trans (List.perm_middle.cons _)).symm
 have h4:=Ab.shutL h5;have h3:Ab W w (ixr Rec.ii xb 0 m::AO (xs.map Fc)::recs Rec.ptr s (xs.map (·.1))::M):=by
  refine h4.perm ?_;exact((List.Perm.swap _ _ _).cons _).trans (List.Perm.swap _ _ _)
 exact(h3.join).perm (List.Perm.swap _ _ _)
theorem G8(h:Ab W w (rowsC s xb N K::M)):∃(xs:List HM) (m:List (BA×(Int×Int))),EA K (xs.map (·.2.1)) m/\(∀y∈xs,y.2.1.length+y.2.2.length<=N)/\s.n=xs.length /\
  Ab W w (recs Rec.ptr s (xs.map (·.1))::ixr Rec.ii xb 0 m::AO (xs.map Fc)::M):=by
 obtain⟨xs,m,h1,h2,h3,h⟩:=Alu h;refine⟨xs,m,h1,h2,h3,?_⟩;have h4:=Ab.shutL (h.perm (List.perm_middle.trans (List.perm_middle.cons _)).symm);exact h4.perm ((List.Perm.swap _ _ _).trans ((List.Perm.swap _ _ _).cons _))
theorem FY{xs:List HM}{m:List (BA×(Int×Int))}(hi:EA K (xs.map (·.2.1)) m)(hN:∀y∈xs,y.2.1.length+y.2.2.length<=N)
  (h:Ab W w (recs Rec.ptr s (xs.map (·.1))::ixr Rec.ii xb 0 m::AO (xs.map Fc)::M)):Ab W w (rowsC s xb N K::M):=by
 refine Alv hi hN ?_;have h1:Ab W w (AO (xs.map Fc)::recs Rec.ptr s (xs.map (·.1))::ixr Rec.ii xb 0 m::M):=h.perm (((List.Perm.swap _ _ _).cons _).trans (List.Perm.swap _ _ _));exact(h1.openL).perm (List.perm_middle.trans (List.perm_middle.cons _))
theorem HN{xs:List HM}{j:Nat}{x:HM}(hx:xs[j]? = some x)(h:Ab W w (AO (xs.map Fc)::M)):Ab W w (lst .s x.1 x.2.1 x.2.2::AO ((xs.eraseIdx j).map Fc)::M):=by
 obtain⟨hj,rfl⟩:=List.getElem?_eq_some_iff.1 hx;have h1:=h.openL.perm (((EO hj).map Fc).append_right M).symm;rw[List.map_cons,List.cons_append] at h1;exact(Ab.shutL (h1.perm List.perm_middle.symm)).perm (List.Perm.swap _ _ _)
theorem Qz{xs:List HM}{j:Nat}{x:HM}{r:V3}{f:List Nat}(hx:xs[j]? = some x)(h:Ab W w (lst .s x.1 r f::AO ((xs.eraseIdx j).map Fc)::M)):Ab W w (AO ((xs.set j (x.1,r,f)).map Fc)::M):=by
 obtain⟨hj,rfl⟩:=List.getElem?_eq_some_iff.1 hx;have hj2:j<(xs.set j (xs[j].1,r,f)).length:=by simpa using hj
 have h1:=((EO hj2).map Fc).append_right M;rw[List.getElem_set_self,List.eraseIdx_set_eq] at h1;refine Ab.shutL (Ab.perm ?_ h1);rw[List.map_cons,List.cons_append];exact((h.perm (List.Perm.swap _ _ _)).openL).perm List.perm_middle
theorem Ss{α:Type}{l:List α}{j:Nat}{x:α}(h:l[j]? = some x):l.set j x=l:=by
 obtain⟨hj,rfl⟩:=List.getElem?_eq_some_iff.1 h;exact List.set_getElem_self hj
theorem M1{xs:List HM}{j:Nat}{x:HM}(hx:xs[j]? = some x)(h:Ab W w (lst .s x.1 x.2.1 x.2.2::AO ((xs.eraseIdx j).map Fc)::M)):Ab W w (AO (xs.map Fc)::M):=by
 have:=Qz hx h
 rwa [Ss hx] at this
theorem K0:∀{xs:List HM},(∀y∈xs,y.2.1.length+y.2.2.length<=N)->(Dl (xs.map (·.2.1))).flatten.length<=xs.length*N
 | [],_=>by simp[Dl]
 | y::xs,h=>by
  have h1:=K0 (xs:=xs) λz hz=>h z (.tail _ hz);have h2:=h y (.head _);simp only[Dl,List.map_cons,List.flatten_cons,List.length_append,List.length_map,List.length_cons] at h1 ⊢;rw[Nat.succ_mul];omega
theorem EA.mlenR{xs:List HM}{m:List (BA×(Int×Int))}(hi:EA K (xs.map (·.2.1)) m)(hN:∀y∈xs,y.2.1.length+y.2.2.length<=N)(hK:K.length<=4):m.length<=4*N/\xs.length=K.length:=by
 have h1:=hi.mlen;have h2:=K0 hN;have h3:=hi.klen;rw[hi.keys] at h2;have h4:xs.length=K.length:=by simpa using h3.symm
 have h5:=Nat.mul_le_mul_right N hK;rw[h4] at h2;exact⟨by omega,h4⟩
theorem Jp{xs:List HM}{j:Nat}{x:HM}(hx:xs[j]? = some x):(xs.map (·.1)).getD j default=x.1:=by
 rw[List.getD_eq_getElem?_getD,List.getElem?_map,hx];rfl
end
end Go.Hb
namespace Go.Hb
structure A8q(R S:List BA)(k:BA)(hit:Bool)(g:List BA):Prop where
 hits:hit=decide (k∈R)
 sub:∀x∈g,x∈R
 le1:g.length<=1
 no:k∉g
 calm:hit=true->g=[]
 mem:∀x,x∈S↔(x∈R/\x∉g)\/x=k
theorem Dv{a b:List BA}(ha:a.Nodup)(hb:b.Nodup)(h:∀x,x∈a↔x∈b):a.Perm b:=(List.perm_ext_iff_of_nodup ha hb).2 h
section
variable{R S:List BA}{k:BA}{hit:Bool}{g:List BA}
theorem CP{l:List BA}(hn:l.Nodup)(hk:k∈l):l.Perm (k::Aq l k):=by
 refine Dv hn (List.nodup_cons.2 ⟨λh=>(AT.1 h).2 rfl,Fa hn⟩) λx=>?_;rw[List.mem_cons,AT];constructor
 ·intro h
  by_cases hx:x=k
  ·exact .inl hx
  ·exact .inr ⟨h,hx⟩
 ·rintro(rfl|h)
  ·exact hk
  ·exact h.1
end
end Go.Hb
namespace Go.Hb
class V2(b:Bool)(p q:outParam Prop):Prop where
 t:b=true->p
 f:b=false->q
instance V2.dec{p:Prop}[Decidable p]:V2 (decide p) p (¬p):=⟨of_decide_eq_true,of_decide_eq_false⟩
instance V2.ndec{p:Prop}[Decidable p]:V2 (!decide p) (¬p) p:=⟨λh=>by simpa using h,λh=>by simpa using h⟩
instance V2.eqI{a b:Int}:V2 (a==b) (a=b) (¬a=b):=⟨λh=>by simpa using h,λh=>by simpa using h⟩
instance V2.neI{a b:Int}:V2 (a != b) (¬a=b) (a=b):=⟨λh=>by simpa using h,λh=>by simpa using h⟩
theorem A2{w:World}{b:Bool}{p q:Prop}{K M:WP}[h:V2 b p q](h1:p->K w)(h2:q->M w):Aj b K M w:=Al (λe=>h1 (h.t e)) λe=>h2 (h.f e)
theorem AR{L:Nat->WP}{w:World}(m:Nat)(h:L m w):DH L w:=⟨m,h⟩
abbrev BL:=List BA
structure DR(c:Int)(R:BL):Prop where
 nd:R.Nodup
 small:∀k∈R,k.size<64
 room:(R.length:Int)<=c
 c1:1<=c
 c2:c<=1024
structure Fj(c:Int)(R:BL)(k:BA)(hit:Bool)(g S:BL):Prop where
 acc:A8q R S k hit g
 ok:DR c S
 calm:(R.length:Int)<c->g=[]
structure DG(c:Int)(R:BL)(k:BA)(yes:Bool)(S:BL):Prop where
 says:yes=decide (k∉R/\(R.length:Int)<c)
 mem:∀x,x∈S↔x∈R\/(yes=true/\x=k)
 ok:DR c S
structure Gj(c:Int)(R:BL)(k:BA)(yes:Bool)(S:BL):Prop where
 says:yes=decide (k∈R)
 mem:∀x,x∈S↔x∈R/\x≠k
 ok:DR c S
structure Hc(c:Int)(R:BL)(k:BA)(yes:Bool)(S:BL):Prop where
 says:yes=decide (0<R.length)
 of:yes=true->k∈R
 mem:∀x,x∈S↔x∈R/\¬(yes=true/\x=k)
 ok:DR c S
def Mz(c:Int)(R g S:BL):Prop:=(g=[]/\S=R/\(R.length:Int)<c)\/(∃x,g=[x]/\Hc c R x true S/\¬(R.length:Int)<c)
section
variable{c:Int}{R S T g:BL}{k x:BA}
theorem DR.perm(h:DR c R)(hp:S.Perm R):DR c S:=⟨hp.nodup_iff.2 h.nd,λk hk=>h.small k (hp.mem_iff.1 hk),by rw[hp.length_eq];exact h.room,h.c1,h.c2⟩
theorem DR.nil(h1:1<=c)(h2:c<=1024):DR c []:=⟨by simp,by simp,by simp;omega,h1,h2⟩
theorem KR(hR:R.Nodup)(hS:S.Nodup)(hk:k∈R)(hm:∀x,x∈S↔x∈R/\x≠k):R.Perm (k::S):=
 Dv hR (List.nodup_cons.2 ⟨λh=>((hm k).1 h).2 rfl,hS⟩) λx=>by
  rw[List.mem_cons,hm];constructor
  ·intro h
   by_cases hx:x=k
   ·exact .inl hx
   ·exact .inr ⟨h,hx⟩
  ·rintro(rfl|h)
   ·exact hk
   ·exact h.1
theorem Hc.mem'(h:Hc c R k true S)(y:BA):y∈S↔y∈R/\y≠k:=by rw[h.mem];simp
theorem Hc.perm(h:Hc c R k true S)(hR:DR c R):R.Perm (k::S):=KR hR.nd h.ok.nd (h.of rfl) h.mem'
theorem Hc.of_perm(hR:DR c R)(hp:R.Perm (k::S)):Hc c R k true S:=by
 have h1:=hp.nodup_iff.1 hR.nd;have h2:=hp.length_eq;have hr:=hR.room;simp only[List.length_cons] at h2;refine⟨(decide_eq_true (by omega)).symm,λ_=>hp.mem_iff.2 (.head _),λx=>?_,(List.nodup_cons.1 h1).2,λy hy=>hR.small y (hp.mem_iff.2 (.tail _ hy)),by omega,hR.c1,hR.c2⟩;rw[hp.mem_iff,List.mem_cons];constructor
 ·intro h3;exact⟨.inr h3,λh4=>(List.nodup_cons.1 h1).1 (h4.2 ▸ h3)⟩
 ·rintro⟨h3|h3,h4⟩
  ·exact absurd ⟨rfl,h3⟩ h4
  ·exact h3
theorem Hc.none(hR:DR c R)(h0:R.length=0){z:BA}:Hc c R z false R:=⟨(decide_eq_false (by omega)).symm,by simp,by simp,hR⟩
theorem Fj.same(hR:DR c R)(hk:k∈R)(hp:S.Perm R):Fj c R k true [] S:=
 ⟨⟨(decide_eq_true hk).symm,by simp,by simp,by simp,λ_=>rfl,λx=>by
  rw[hp.mem_iff];constructor
  ·intro h;exact .inl ⟨h,by simp⟩
  ·rintro(h|rfl)
   ·exact h.1
   ·exact hk⟩,hR.perm hp,λ_=>rfl⟩
theorem Fj.miss(hR:DR c R)(hk:k∉R)(hz:k.size<64)(h:Mz c R g S)(hp:T.Perm (k::S)):Fj c R k false g T:=by
 have hhit:=(decide_eq_false hk).symm;rcases h with⟨rfl,rfl,hl⟩|⟨x,rfl,he,hl⟩
 ·refine⟨⟨hhit,by simp,by simp,by simp,(λh=>by cases h),λy=>?_⟩,⟨hp.nodup_iff.2 (List.nodup_cons.2 ⟨hk,hR.nd⟩),λy hy=>?_,by rw[hp.length_eq];simp only[List.length_cons];omega,hR.c1,hR.c2⟩,λ_=>rfl⟩
  ·rw[hp.mem_iff,List.mem_cons];constructor
   ·rintro(h|h)
    ·exact .inr h
    ·exact .inl ⟨h,by simp⟩
   ·rintro(h|h)
    ·exact .inr h.1
    ·exact .inl h
  ·rcases List.mem_cons.1 (hp.mem_iff.1 hy) with h|h
   ·exact h ▸ hz
   ·exact hR.small _ h
 ·have hx:=he.of rfl;have hkS:k∉S:=λh=>hk ((he.mem' k).1 h).1;have hpl:=(he.perm hR).length_eq;have hr:=hR.room;simp only[List.length_cons] at hpl;refine⟨⟨hhit,λy hy=>by rw[List.mem_singleton] at hy;exact hy ▸ hx,by simp,λh=>hk (by rw[List.mem_singleton] at h;exact h ▸ hx),(λh=>by cases h),λy=>?_⟩,⟨hp.nodup_iff.2 (List.nodup_cons.2 ⟨hkS,he.ok.nd⟩),λy hy=>?_,by rw[hp.length_eq];simp only[List.length_cons];omega,hR.c1,hR.c2⟩,λh=>absurd h hl⟩
  ·rw[hp.mem_iff,List.mem_cons,he.mem',List.mem_singleton];constructor
   ·rintro(h|h)
    ·exact .inr h
    ·exact .inl h
   ·rintro(h|h)
    ·exact .inr h
    ·exact .inl h
  ·rcases List.mem_cons.1 (hp.mem_iff.1 hy) with h|h
   ·exact h ▸ hz
   ·exact he.ok.small _ h
theorem DG.no(hR:DR c R)(h:¬(k∉R/\(R.length:Int)<c)):DG c R k false R:=⟨(decide_eq_false h).symm,by simp,hR⟩
theorem DG.yes(hR:DR c R)(hz:k.size<64)(h1:k∉R)(h2:(R.length:Int)<c)(hp:S.Perm (k::R)):DG c R k true S:=by
 refine⟨(decide_eq_true ⟨h1,h2⟩).symm,λx=>?_,hp.nodup_iff.2 (List.nodup_cons.2 ⟨h1,hR.nd⟩),λy hy=>?_,by rw[hp.length_eq];simp only[List.length_cons];omega,hR.c1,hR.c2⟩
 ·rw[hp.mem_iff,List.mem_cons];constructor
  ·rintro(h|h)
   ·exact .inr ⟨rfl,h⟩
   ·exact .inl h
  ·rintro(h|h)
   ·exact .inr h
   ·exact .inl h.2
 ·rcases List.mem_cons.1 (hp.mem_iff.1 hy) with h|h
  ·exact h ▸ hz
  ·exact hR.small _ h
theorem Gj.no(hR:DR c R)(h:k∉R):Gj c R k false R:=⟨(decide_eq_false h).symm,λx=>⟨λhx=>⟨hx,λe=>h (e ▸ hx)⟩,λhx=>hx.1⟩,hR⟩
theorem Gj.yes(hR:DR c R)(h:k∈R)(hp:R.Perm (k::S)):Gj c R k true S:=by
 have he:=Hc.of_perm hR hp;exact⟨(decide_eq_true h).symm,he.mem',he.ok⟩
theorem FI(a b:BL)(k:BA):Aq (a++b) k=Aq a k++Aq b k:=List.filter_append ..
theorem Gj.cut2{i a:BL}(hR:DR c (i++a))(h:k∈i++a):Gj c (i++a) k true (Aq i k++Aq a k):=by
 rw[<- FI];exact Gj.yes hR h (CP hR.nd h)
theorem Gj.cut3{i a p:BL}(hR:DR c (i++(a++p)))(h:k∈i++(a++p)):Gj c (i++(a++p)) k true (Aq i k++(Aq a k++Aq p k)):=by
 rw[<- FI,<- FI];exact Gj.yes hR h (CP hR.nd h)
theorem DQ{i a:BL}:((i++[k])++a).Perm (k::(i++a)):=by
 rw[List.append_assoc];exact List.perm_middle
theorem EV{i a:BL}:(i++(a++[k])).Perm (k::(i++a)):=by
 rw[<- List.append_assoc];exact List.perm_append_comm
end
abbrev BB(P:Program)(f:FuncId)(args:Array Value)(w:World)(Q:VW):Prop:=Calls P f args w λe w'=>∃v,e = .returned v/\Q v w'
section
variable{P:Program}{f:FuncId}{args:List Value}{w:World}{Q:VW}
theorem B0{K:WP}(hC:BB P f args.toArray w Q)(hR:∀v w',Q v w'->v = .tuple #[]/\K w'):XI P f args K w:=
 Ar hC λe w' ⟨v,he,h⟩=>by obtain⟨hv,h⟩:=hR v w' h;exact⟨by rw[he,hv],h⟩
theorem Ai{k:CK}{K:k.ty->WP}(hC:BB P f args.toArray w Q)(hR:∀v w',Q v w'->∃x,v=k.val x/\K x w'):call1 k P f args K w:=
 An hC λe w' ⟨v,he,h⟩=>by obtain⟨x,hv,h⟩:=hR v w' h;exact⟨x,by rw[he,hv],h⟩
theorem AP{k l:CK}{K:k.ty->l.ty->WP}(hC:BB P f args.toArray w Q)(hR:∀v w',Q v w'->∃x y,v = .tuple #[k.val x,l.val y]/\K x y w'):Hd k l P f args K w:=
 AH hC λe w' ⟨v,he,h⟩=>by obtain⟨x,y,hv,h⟩:=hR v w' h;exact⟨x,y,by rw[he,hv],h⟩
theorem BB.mono{R:VW}{a:Array Value}(h:BB P f a w Q)(hQ:∀v w',Q v w'->R v w'):BB P f a w R:=Calls.mono h λe w' ⟨v,he,h⟩=>⟨v,he,hQ v w' h⟩
end
def Bv(r:Int):Int:=max 1 (min r 1024)
theorem EK(r:Int):1<=Bv r/\Bv r<=1024:=by unfold Bv;omega
def C3(l:BL):BA:=l.headD ⟨#[]⟩
theorem Co{l:BL}(hn:l.Nodup)(h:0<l.length):Aq l (C3 l)=l.drop 1:=by
 cases l with
 | nil=>simp at h
 | cons x t=>exact KE hn
theorem WM{l:BL}(h:0<l.length):l.getD (Int.toNat 0) default=C3 l:=by
 cases l with
 | nil=>simp at h
 | cons a l=>rfl
theorem GI{α:Type}{d:α}{S:List α}{j:Nat}(hj:j<S.length):S.getD j d∈S:=by
 rw[List.getD_eq_getElem?_getD,List.getElem?_eq_getElem hj];exact List.getElem_mem _
instance (priority:=low) IU.cons {W0:World} {L:List HP} {p:HP} {s:Sl} {α:Type} {E:Rec α} {rows:List α} [h:IU W0 L s E rows]:IU W0 (p::L) s E rows:=⟨λw hs=>h.rd w hs.drop⟩
end Go.Hb
namespace Go.Proofs.YtjipofkjmmpjdaaGreat
open Go.Hb
theorem c1{P:Program}{f:FuncId}{args:Array Value}{w:World}{v0:Value}{S:World->Prop}(h:Calls P f args w λe w'=>∃v,e = .returned v/\(v=v0/\S w')) :
  Calls P f args w λe w'=>e = .returned v0/\S w':=h.mono λ_ _ ⟨_,he,hv,hs⟩=>⟨by rw[he,hv],hs⟩
end Go.Proofs.YtjipofkjmmpjdaaGreat
namespace Go.Proofs.YtjipofkjmmpjdaaGreat
open Go.Hb Go.IntWalk
section
variable{W w:World}{L:List HP}
theorem At1(hs:Ab W w L){x:Int}:Calls PR 156 #[.int .u64 x] w λe w'=>e = .returned (.int .u64 (Af1 x))/\Ab W w' L:=by
 refine c1 (cw ⟨mixed,Tryz.func156,rfl⟩ Aox ?_);exact⟨by decide,by decide,by decide,rfl,hs⟩
theorem Hm(hs:Ab W w L){seed:Int}{s:BA}(hz:s.size<4611686018427387904):Calls PR 117 #[.int .u64 seed,.s s] w λe w'=>e = .returned (.int .u64 (FB seed s))/\Ab W w' L:=by
 refine c1 (cw ⟨mixed,Tryz.func117,rfl⟩ Anw ?_);refine An (At1 hs) λe w ⟨he,hs⟩=>⟨_,he,?_⟩;have loop:∀(m i:Nat)(h:Int)(w:World),i+m=s.size->Ab W w L->Pi By (λv w'=>v = .int .u64 (Rr s m i h)/\Ab W w' L) (m+1) s h (s.size:Int) (i:Int) w:=by
  intro m
  induction m with
  | zero=>
   intro i h w hi hs;rw[Nh];refine Ac (decide_eq_false (by omega)) ?_;refine jw Yg ?_;exact⟨rfl,hs⟩
  | succ m ih=>
   intro i h w hi hs;rw[Nh];refine Ak (decide_eq_true (by omega)) (Az (by omega) ?_);refine An (At1 hs) λe w ⟨he,hs⟩=>⟨_,he,?_⟩;rw[i64_in _ (by omega)];exact ih (i+1) _ w (by omega) hs
 rw[Aap];refine⟨s.size+1,?_⟩;exact loop s.size 0 _ w (by omega) hs
theorem GR(hs:Ab W w L){h:Int}{n:Nat}(h0:0<=h)(hn:0<n)(hb:n<4611686018427387904):Calls PR 116 #[.int .u64 h,.i (n:Int)] w λe w'=>e = .returned (.i ((h.toNat % n:Nat):Int))/\Ab W w' L:=by
 refine c1 (cw ⟨mixed,Tryz.func116,rfl⟩ Anv ?_);refine Ac (decide_eq_false (by omega)) ?_;rw[u64_in _ (by omega)];refine Az (by omega) ⟨?_,hs⟩;rw[Int.tmod_eq_emod_of_nonneg h0];have e1:h % (n:Int)=((h.toNat % n:Nat):Int):=by
  rw[Int.natCast_emod,Int.toNat_of_nonneg h0]
 have:=Nat.mod_lt h.toNat hn;rw[e1,i64_in _ (by omega)]
end
end Go.Proofs.YtjipofkjmmpjdaaGreat
namespace Go.Proofs.YtjipofkjmmpjdaaGreat
open Go.Hb
def Qw(c:Jn->(VW)->EW)(jn:Jn)(Q:VW)(t4_b t4_o:Nat):WP:=jn 12 (c jn Q ) (us 4 ((pq t4_b t4_o)::us 22 []))
def Jd(c:Jn->(VW)->Nat->EW)(jn:Jn)(Q:VW)(m1:Nat)(x0:OA)(key1:BA)(free6 i7:Int):WP:=jn 8 (c jn Q m1) ((.p x0)::(.s key1)::us 4 ((.i free6)::(.i i7)::us 71 []))
def Je(c:Jn->(VW)->Nat->EW)(jn:Jn)(Q:VW)(m1:Nat)(x0:OA)(key1:BA)(free6 i7:Int)(p8_b p8_o:Nat)(t61:Bool):WP:=jn 22 (c jn Q m1) ((.p x0)::(.s key1)::us 4 ((.i free6)::(.i i7)::(pq p8_b p8_o)::us 52 ((.b t61)::us 17 [])))
def Jc(c:Jn->(VW)->Nat->EW)(jn:Jn)(Q:VW)(m1:Nat)(x0:OA)(key1:BA)(free6 i7:Int)(p8_b p8_o:Nat)(t50:Bool):WP:=jn 18 (c jn Q m1) ((.p x0)::(.s key1)::us 4 ((.i free6)::(.i i7)::(pq p8_b p8_o)::us 41 ((.b t50)::us 28 [])))
def Jb(c:Jn->(VW)->Nat->EW)(jn:Jn)(Q:VW)(m1:Nat)(x0:OA)(key1:BA)(free6 i7:Int)(p8_b p8_o:Nat)(t35:Bool):WP:=jn 14 (c jn Q m1) ((.p x0)::(.s key1)::us 4 ((.i free6)::(.i i7)::(pq p8_b p8_o)::us 26 ((.b t35)::us 43 [])))
def MT(c:Jn->(VW)->EW)(jn:Jn)(Q:VW)(x0:OA)(i1:Int)(key2:BA)(v7_b v7_o:Nat):WP:=jn 8 (c jn Q ) ((.p x0)::(.i i1)::(.s key2)::us 4 ((pq v7_b v7_o)::us 32 []))
def XE(c:Jn->(VW)->EW)(jn:Jn)(Q:VW)(n5:Int):WP:=jn 16 (c jn Q ) (us 5 ((.i n5)::us 18 []))
def XD(c:Jn->(VW)->EW)(jn:Jn)(Q:VW)(l5:Sl):WP:=jn 16 (c jn Q ) (us 5 ((.l l5.a l5.n l5.c)::us 18 []))
def Qx(c:Jn->(VW)->EW)(jn:Jn)(Q:VW)(t2_b t2_o r3_b r3_o:Nat):WP:=jn 14 (c jn Q ) (us 2 ((pq t2_b t2_o)::(pq r3_b r3_o)::us 13 []))
structure RwF where
 i_new:Nat
 new_fn:Func
 new_kp:KP
 i_get:Nat
 get_fn:Func
 get_kp:KP
 i_put:Nat
 put_fn:Func
 put_kp:KP
 i_del:Nat
 del_fn:Func
 del_kp:KP
 i_find:Nat
 find_fn:Func
 find_kp:KP
 i_lays:Nat
 lays_fn:Func
 lays_kp:KP
 i_grows:Nat
 grows_fn:Func
 grows_kp:KP
 i_where:Nat
 where_fn:Func
 where_kp:KP
 i_push:Nat
 push_fn:Func
 push_kp:KP
 i_many:Nat
 many_fn:Func
 many_kp:KP
 i_keys:Nat
 keys_fn:Func
 keys_kp:KP
 i_drop:Nat
 drop_fn:Func
 drop_kp:KP
 i_oldest:Nat
 oldest_fn:Func
 oldest_kp:KP
 i_newRows:Nat
 newRows_fn:Func
 newRows_kp:KP
 (p1 p2 p3 p4:Nat)
 get_j1_c:Jn->(VW)->EW
 find_j4_c:Jn->(VW)->Nat->EW
 find_j5_c:Jn->(VW)->Nat->EW
 find_j3_c:Jn->(VW)->Nat->EW
 find_j2_c:Jn->(VW)->Nat->EW
 find_l1:Jn->(VW)->Nat->OA->BA->Int->Int->WP
 lays_j1_c:Jn->(VW)->EW
 grows_l1:Jn->(VW)->Nat->OA->Sl->Int->Int->WP
 many_j2_c:Jn->(VW)->EW
 many_l1:Jn->(VW)->Nat->Nat->Nat->Int->Sl->Int->Int->WP
 keys_j2_c:Jn->(VW)->EW
 keys_l1:Jn->(VW)->Nat->Nat->Nat->Sl->Sl->Int->Int->WP
 newRows_j2_c:Jn->(VW)->EW
 newRows_l1:Jn->(VW)->Nat->Nat->Nat->Nat->Nat->Int->Int->WP
 new_ok:Ki PR i_new new_fn
 new_raw:∀{jn:Jn}{seed0:Int}{Q:VW},Au jn PR new_kp new_fn [.int .u64 seed0] Q=(
 Ht p1 40 [.i (0:Int),.s Af,.i (0:Int),.i (0:Int)] (8:Int) (8:Int) λs_1=>
 A1 [.int .u64 seed0,.l s_1.a s_1.n s_1.c,.i (0:Int),.i (0:Int)] p2 λb_2=>
 Q (pq b_2 0))
 get_ok:Ki PR i_get get_fn
 get_j1_raw:∀{jn:Jn}{Q:VW}{t4_b t4_o:Nat},get_j1_c jn Q  (us 4 ((pq t4_b t4_o)::us 22 []))=(
 A1 [.i (0:Int),.i (0:Int)] p3 λb_13=>
 Ay b_13 0 λx_14=>
 Ay b_13 1 λx_15=>
 st t4_b t4_o (.i x_14)<|
 st t4_b (t4_o+1) (.i x_15)<|
 Ay t4_b t4_o λx_16=>
 Ay t4_b (t4_o+1) λx_17=>
 Q (.tuple #[.agg #[.i x_16,.i x_17],.b false]))
 get_raw:∀{jn:Jn}{x0:OA}{key1:BA}{Q:VW},Au jn PR get_kp get_fn [.p x0,.s key1] Q=(
 A1 [.i (0:Int),.i (0:Int)] p3 λb_1=>
 Aj (!Option.isNone x0) (
 F0 i_find [.p x0,.s key1] λx_2 x_3=>
 Aj x_3 (
 Ad x0 λb_4 o_5=>
 Bu b_4 (o_5+1) λx_6=>
 CB x_6.a x_6.n x_2 λb_7 o_8=>
 Ay b_7 ((o_8+(x_2).toNat*4)+2) λx_9=>
 Ay b_7 (((o_8+(x_2).toNat*4)+2)+1) λx_10=>
 st b_1 0 (.i x_9)<|
 st b_1 1 (.i x_10)<|
 Ay b_1 0 λx_11=>
 Ay b_1 1 λx_12=>
 Q (.tuple #[.agg #[.i x_11,.i x_12],.b true])) (
 Qw get_j1_c jn Q  b_1 0)) (
 Qw get_j1_c jn Q  b_1 0))
 put_ok:Ki PR i_put put_fn
 put_raw:∀{jn:Jn}{x0:OA}{key1:BA}{v2_0 v2_1:Int}{Q:VW},Au jn PR put_kp put_fn [.p x0,.s key1,.agg #[.i v2_0,.i v2_1]] Q=(
 A1 [.i v2_0,.i v2_1] p3 λb_1=>
 Aj (Option.isNone x0) (
 Q (.b false)) (
 F0 i_find [.p x0,.s key1] λx_2 x_3=>
 Aj x_3 (
 A5 λS=>
 Ad x0 λb_4 o_5=>
 F5 S b_4 (o_5+1) λx_6=>
 Ay b_1 0 λx_7=>
 Ay b_1 1 λx_8=>
 Ap true S<|
 CB x_6.a x_6.n x_2 λb_9 o_10=>
 st b_9 ((o_10+(x_2).toNat*4)+2) (.i x_7)<|
 st b_9 (((o_10+(x_2).toNat*4)+2)+1) (.i x_8)<|
 Q (.b false)) (
 Ay b_1 0 λx_11=>
 Ay b_1 1 λx_12=>
 wz i_lays [.p x0,.i x_2,.s key1,.agg #[.i x_11,.i x_12]]<|
 A5 λS=>
 Ad x0 λb_13 o_14=>
 Ez S b_13 (o_14+3) λx_15=>
 Ad x0 λb_16 o_17=>
 Bu b_16 (o_17+1) λx_18=>
 Ap true S<|
 Aj (decide ((IntKind.wrap .i64 ((2:Int)*x_15))>(x_18.n:Int))) (
 wz i_grows [.p x0]<|
 Q (.b true)) (
 Q (.b true)))))
 del_ok:Ki PR i_del del_fn
 del_raw:∀{jn:Jn}{x0:OA}{key1:BA}{Q:VW},Au jn PR del_kp del_fn [.p x0,.s key1] Q=(
 A1 [.i (0:Int),.i (0:Int)] p3 λb_1=>
 λw=>Calls PR i_get #[.p x0,.s key1] w λe w'=>∃x_2:Int,∃x_3:Int,∃x_4:Bool,e = .returned (.tuple #[.agg #[.i x_2,.i x_3],.b x_4])/\(
 A1 [.i (0:Int),.i (0:Int)] p3 λb_5=>
 st b_5 0 (.i x_2)<|
 st b_5 1 (.i x_3)<|
 Aj x_4 (
 F0 i_find [.p x0,.s key1] λx_6 x_7=>
 Ad x0 λb_8 o_9=>
 Bu b_8 (o_9+1) λx_10=>
 CB x_10.a x_10.n x_6 λb_11 o_12=>
 st b_11 (o_12+(x_6).toNat*4) (.i (1:Int))<|
 st b_11 ((o_12+(x_6).toNat*4)+1) (.s Af)<|
 st b_11 (((o_12+(x_6).toNat*4)+1)+1) (.i (0:Int))<|
 st b_11 ((((o_12+(x_6).toNat*4)+1)+1)+1) (.i (0:Int))<|
 Ad x0 λb_13 o_14=>
 Ay b_13 (o_14+2) λx_15=>
 Ad x0 λb_16 o_17=>
 st b_16 (o_17+2) (.i (IntKind.wrap .i64 (x_15-(1:Int))))<|
 Ay b_5 0 λx_18=>
 Ay b_5 1 λx_19=>
 st b_1 0 (.i x_18)<|
 st b_1 1 (.i x_19)<|
 Ay b_1 0 λx_20=>
 Ay b_1 1 λx_21=>
 Q (.tuple #[.agg #[.i x_20,.i x_21],.b x_4])) (
 Ay b_5 0 λx_22=>
 Ay b_5 1 λx_23=>
 st b_1 0 (.i x_22)<|
 st b_1 1 (.i x_23)<|
 Ay b_1 0 λx_24=>
 Ay b_1 1 λx_25=>
 Q (.tuple #[.agg #[.i x_24,.i x_25],.b x_4]))) w')
 find_ok:Ki PR i_find find_fn
 find_j4_raw:∀{jn:Jn}{Q:VW}{m1:Nat}{x0:OA}{key1:BA}{free6 i7:Int},find_j4_c jn Q m1 ((.p x0)::(.s key1)::us 4 ((.i free6)::(.i i7)::us 71 []))=(
 Ad x0 λb_23 o_24=>
 Bu b_23 (o_24+1) λx_25=>
 Bw ((x_25.n:Int)≠0)<|
 find_l1 jn Q  m1 x0 key1 free6 (Int.tmod (IntKind.wrap .i64 (i7+(1:Int))) (x_25.n:Int)))
 find_j5_raw:∀{jn:Jn}{Q:VW}{m1:Nat}{x0:OA}{key1:BA}{free6 i7:Int}{p8_b p8_o:Nat}{t61:Bool},find_j5_c jn Q m1 ((.p x0)::(.s key1)::us 4 ((.i free6)::(.i i7)::(pq p8_b p8_o)::us 52 ((.b t61)::us 17 [])))=(
 Aj t61 (
 Q (.tuple #[.i i7,.b false])) (
 Ad (some ⟨p8_b,p8_o,none⟩) λb_29 o_30=>
 Ay b_29 o_30 λx_31=>
 Aj (x_31==(0:Int)) (
 Q (.tuple #[.i free6,.b false])) (
 Jd find_j4_c jn Q m1 x0 key1 free6 i7)))
 find_j3_raw:∀{jn:Jn}{Q:VW}{m1:Nat}{x0:OA}{key1:BA}{free6 i7:Int}{p8_b p8_o:Nat}{t50:Bool},find_j3_c jn Q m1 ((.p x0)::(.s key1)::us 4 ((.i free6)::(.i i7)::(pq p8_b p8_o)::us 41 ((.b t50)::us 28 [])))=(
 Aj t50 (
 Jd find_j4_c jn Q m1 x0 key1 i7 i7) (
 Ad (some ⟨p8_b,p8_o,none⟩) λb_26 o_27=>
 Ay b_26 o_27 λx_28=>
 Aj (x_28==(0:Int)) (
 Je find_j5_c jn Q m1 x0 key1 free6 i7 p8_b p8_o (decide (free6<(0:Int)))) (
 Je find_j5_c jn Q m1 x0 key1 free6 i7 p8_b p8_o false)))
 find_j2_raw:∀{jn:Jn}{Q:VW}{m1:Nat}{x0:OA}{key1:BA}{free6 i7:Int}{p8_b p8_o:Nat}{t35:Bool},find_j2_c jn Q m1 ((.p x0)::(.s key1)::us 4 ((.i free6)::(.i i7)::(pq p8_b p8_o)::us 26 ((.b t35)::us 43 [])))=(
 Aj t35 (
 Q (.tuple #[.i i7,.b true])) (
 Ad (some ⟨p8_b,p8_o,none⟩) λb_20 o_21=>
 Ay b_20 o_21 λx_22=>
 Aj (x_22==(1:Int)) (
 Jc find_j3_c jn Q m1 x0 key1 free6 i7 p8_b p8_o (decide (free6<(0:Int)))) (
 Jc find_j3_c jn Q m1 x0 key1 free6 i7 p8_b p8_o false)))
 find_l1_raw:∀{jn:Jn}{Q:VW}{m1:Nat}{x0:OA}{key1:BA}{free6 i7:Int},find_l1 jn Q  (m1+1) x0 key1 free6 i7=(
 Ad x0 λb_9 o_10=>
 Bu b_9 (o_10+1) λx_11=>
 CB x_11.a x_11.n i7 λb_12 o_13=>
 Ad (some ⟨b_12,(o_13+(i7).toNat*4),none⟩) λb_14 o_15=>
 Ay b_14 o_15 λx_16=>
 Aj (x_16==(2:Int)) (
 Ad (some ⟨b_12,(o_13+(i7).toNat*4),none⟩) λb_17 o_18=>
 Ch b_17 (o_18+1) λx_19=>
 Jb find_j2_c jn Q m1 x0 key1 free6 i7 b_12 (o_13+(i7).toNat*4) (Vr x_19 key1)) (
 Jb find_j2_c jn Q m1 x0 key1 free6 i7 b_12 (o_13+(i7).toNat*4) false))
 find_raw:∀{jn:Jn}{x0:OA}{key1:BA}{Q:VW},Au jn PR find_kp find_fn [.p x0,.s key1] Q=(
 A5 λS=>
 Ad x0 λb_1 o_2=>
 wLu S b_1 o_2 λx_3=>
 Ad x0 λb_4 o_5=>
 F5 S b_4 (o_5+1) λx_6=>
 wcu 117 [.int .u64 x_3,.s key1] λx_7=>
 Ap true S<|
 Cc 116 [.int .u64 x_7,.i (x_6.n:Int)] λx_8=>
 DH λm=>find_l1 jn Q  m x0 key1 (-1:Int) x_8)
 lays_ok:Ki PR i_lays lays_fn
 lays_j1_raw:∀{jn:Jn}{Q:VW}{x0:OA}{i1:Int}{key2:BA}{v7_b v7_o:Nat},lays_j1_c jn Q  ((.p x0)::(.i i1)::(.s key2)::us 4 ((pq v7_b v7_o)::us 32 []))=(
 A5 λS=>
 Ad x0 λb_13 o_14=>
 F5 S b_13 (o_14+1) λx_15=>
 Ay v7_b v7_o λx_16=>
 Ay v7_b (v7_o+1) λx_17=>
 Ap true S<|
 CB x_15.a x_15.n i1 λb_18 o_19=>
 st b_18 (o_19+(i1).toNat*4) (.i (2:Int))<|
 st b_18 ((o_19+(i1).toNat*4)+1) (.s key2)<|
 st b_18 (((o_19+(i1).toNat*4)+1)+1) (.i x_16)<|
 st b_18 ((((o_19+(i1).toNat*4)+1)+1)+1) (.i x_17)<|
 Ad x0 λb_20 o_21=>
 Ay b_20 (o_21+2) λx_22=>
 Ad x0 λb_23 o_24=>
 st b_23 (o_24+2) (.i (IntKind.wrap .i64 (x_22+(1:Int))))<|
 Q (.tuple #[]))
 lays_raw:∀{jn:Jn}{x0:OA}{i1:Int}{key2:BA}{v3_0 v3_1:Int}{Q:VW},Au jn PR lays_kp lays_fn [.p x0,.i i1,.s key2,.agg #[.i v3_0,.i v3_1]] Q=(
 A1 [.i v3_0,.i v3_1] p3 λb_1=>
 Ad x0 λb_2 o_3=>
 Bu b_2 (o_3+1) λx_4=>
 CB x_4.a x_4.n i1 λb_5 o_6=>
 Ay b_5 (o_6+(i1).toNat*4) λx_7=>
 Aj (x_7==(0:Int)) (
 Ad x0 λb_8 o_9=>
 Ay b_8 (o_9+3) λx_10=>
 Ad x0 λb_11 o_12=>
 st b_11 (o_12+3) (.i (IntKind.wrap .i64 (x_10+(1:Int))))<|
 MT lays_j1_c jn Q  x0 i1 key2 b_1 0) (
 MT lays_j1_c jn Q  x0 i1 key2 b_1 0))
 grows_ok:Ki PR i_grows grows_fn
 grows_l1_raw:∀{jn:Jn}{Q:VW}{m1:Nat}{x0:OA}{t28:Sl}{t29 t30:Int},grows_l1 jn Q  (m1+1) x0 t28 t29 t30=(
 Aj (decide (t30<t29)) (
 CB t28.a t28.n t30 λb_14 o_15=>
 Ay b_14 (o_15+(t30).toNat*4) λx_16=>
 Ch b_14 ((o_15+(t30).toNat*4)+1) λx_17=>
 Ay b_14 (((o_15+(t30).toNat*4)+1)+1) λx_18=>
 Ay b_14 ((((o_15+(t30).toNat*4)+1)+1)+1) λx_19=>
 A1 [.i (0:Int),.s Af,.i (0:Int),.i (0:Int)] p1 λb_20=>
 st b_20 0 (.i x_16)<|
 st b_20 1 (.s x_17)<|
 st b_20 2 (.i x_18)<|
 st b_20 3 (.i x_19)<|
 Ay b_20 0 λx_21=>
 Aj (x_21==(2:Int)) (
 Ch b_20 1 λx_22=>
 F0 i_find [.p x0,.s x_22] λx_23 x_24=>
 Ch b_20 1 λx_25=>
 Ay b_20 2 λx_26=>
 Ay b_20 3 λx_27=>
 wz i_lays [.p x0,.i x_23,.s x_25,.agg #[.i x_26,.i x_27]]<|
 grows_l1 jn Q  m1 x0 t28 t29 (IntKind.wrap .i64 (t30+(1:Int)))) (
 grows_l1 jn Q  m1 x0 t28 t29 (IntKind.wrap .i64 (t30+(1:Int))))) (
 Q (.tuple #[])))
 grows_raw:∀{jn:Jn}{x0:OA}{Q:VW},Au jn PR grows_kp grows_fn [.p x0] Q=(
 Ad x0 λb_1 o_2=>
 Bu b_1 (o_2+1) λx_3=>
 Ad x0 λb_4 o_5=>
 Ay b_4 (o_5+2) λx_6=>
 Ht p1 40 [.i (0:Int),.s Af,.i (0:Int),.i (0:Int)] (if (IntKind.wrap .i64 ((4:Int)*(IntKind.wrap .i64 (x_6+(1:Int)))))>(8:Int) then (IntKind.wrap .i64 ((4:Int)*(IntKind.wrap .i64 (x_6+(1:Int))))) else (8:Int)) (if (IntKind.wrap .i64 ((4:Int)*(IntKind.wrap .i64 (x_6+(1:Int)))))>(8:Int) then (IntKind.wrap .i64 ((4:Int)*(IntKind.wrap .i64 (x_6+(1:Int))))) else (8:Int)) λs_7=>
 Ad x0 λb_8 o_9=>
 st b_8 (o_9+1) (.l s_7.a s_7.n s_7.c)<|
 Ad x0 λb_10 o_11=>
 st b_10 (o_11+2) (.i (0:Int))<|
 Ad x0 λb_12 o_13=>
 st b_12 (o_13+3) (.i (0:Int))<|
 DH λm=>grows_l1 jn Q  m x0 x_3 (x_3.n:Int) (0:Int))
 where_ok:Ki PR i_where where_fn
 where_raw:∀{jn:Jn}{r0_0:Sl}{r0_1:OA}{key1:BA}{Q:VW},Au jn PR where_kp where_fn [.agg #[.l r0_0.a r0_0.n r0_0.c,.p r0_1],.s key1] Q=(
 A1 [.l r0_0.a r0_0.n r0_0.c,.p r0_1] p4 λb_1=>
 BZ b_1 1 λx_2=>
 λw=>Calls PR i_get #[.p x_2,.s key1] w λe w'=>∃x_3:Int,∃x_4:Int,∃x_5:Bool,e = .returned (.tuple #[.agg #[.i x_3,.i x_4],.b x_5])/\(
 A1 [.i (0:Int),.i (0:Int)] p3 λb_6=>
 st b_6 0 (.i x_3)<|
 st b_6 1 (.i x_4)<|
 Aj (!x_5) (
 Q (.i (-1:Int))) (
 Ay b_6 0 λx_7=>
 Q (.i x_7))) w')
 push_ok:Ki PR i_push push_fn
 push_raw:∀{jn:Jn}{r0_0:Sl}{r0_1:OA}{row1:Int}{key2:BA}{Q:VW},Au jn PR push_kp push_fn [.agg #[.l r0_0.a r0_0.n r0_0.c,.p r0_1],.i row1,.s key2] Q=(
 A1 [.l r0_0.a r0_0.n r0_0.c,.p r0_1] p4 λb_1=>
 Bu b_1 0 λx_2=>
 BZ b_1 1 λx_3=>
 wz i_drop [.agg #[.l x_2.a x_2.n x_2.c,.p x_3],.s key2]<|
 A5 λS=>
 EZ S b_1 1 λx_4=>
 Bu b_1 0 λx_5=>
 Ap true S<|
 CB x_5.a x_5.n row1 λb_6 o_7=>
 BZ b_6 (o_7+(row1).toNat*1) λx_8=>
 Ap true S<|
 Cc 162 [.p x_8,.s key2] λx_9=>
 Ap true S<|
 DD i_put [.p x_4,.s key2,.agg #[.i row1,.i x_9]] λx_10=>
 Q (.tuple #[]))
 many_ok:Ki PR i_many many_fn
 many_j2_raw:∀{jn:Jn}{Q:VW}{n5:Int},many_j2_c jn Q  (us 5 ((.i n5)::us 18 []))=(
 Q (.i n5))
 many_l1_raw:∀{jn:Jn}{Q:VW}{m1:Nat}{r2_b r2_o:Nat}{n5:Int}{t8:Sl}{t9 t10:Int},many_l1 jn Q  (m1+1) r2_b r2_o n5 t8 t9 t10=(
 Aj (decide (t10<t9)) (
 CB t8.a t8.n t10 λb_2 o_3=>
 Ay b_2 (o_3+(t10).toNat*1) λx_4=>
 Bu r2_b r2_o λx_5=>
 CB x_5.a x_5.n x_4 λb_6 o_7=>
 BZ b_6 (o_7+(x_4).toNat*1) λx_8=>
 Cc 163 [.p x_8] λx_9=>
 many_l1 jn Q  m1 r2_b r2_o (IntKind.wrap .i64 (n5+x_9)) t8 t9 (IntKind.wrap .i64 (t10+(1:Int)))) (
 XE many_j2_c jn Q  n5))
 many_raw:∀{jn:Jn}{r0_0:Sl}{r0_1:OA}{of1:Sl}{Q:VW},Au jn PR many_kp many_fn [.agg #[.l r0_0.a r0_0.n r0_0.c,.p r0_1],.l of1.a of1.n of1.c] Q=(
 A1 [.l r0_0.a r0_0.n r0_0.c,.p r0_1] p4 λb_1=>
 DH λm=>many_l1 jn Q  m b_1 0 (0:Int) of1 (of1.n:Int) (0:Int))
 keys_ok:Ki PR i_keys keys_fn
 keys_j2_raw:∀{jn:Jn}{Q:VW}{l5:Sl},keys_j2_c jn Q  (us 5 ((.l l5.a l5.n l5.c)::us 18 []))=(
 Q (.l l5.a l5.n l5.c))
 keys_l1_raw:∀{jn:Jn}{Q:VW}{m1:Nat}{r2_b r2_o:Nat}{l5 t8:Sl}{t9 t10:Int},keys_l1 jn Q  (m1+1) r2_b r2_o l5 t8 t9 t10=(
 Aj (decide (t10<t9)) (
 CB t8.a t8.n t10 λb_2 o_3=>
 Ay b_2 (o_3+(t10).toNat*1) λx_4=>
 Bu r2_b r2_o λx_5=>
 CB x_5.a x_5.n x_4 λb_6 o_7=>
 BZ b_6 (o_7+(x_4).toNat*1) λx_8=>
 Gu 244 [.p x_8] λx_9=>
 AU 9 1 16 [.s Af] ⟨l5.a,l5.n,l5.c⟩ x_9.n (λw=>F9 w x_9.a (x_9.n*1)) λs_10=>
 keys_l1 jn Q  m1 r2_b r2_o s_10 t8 t9 (IntKind.wrap .i64 (t10+(1:Int)))) (
 XD keys_j2_c jn Q  l5))
 keys_raw:∀{jn:Jn}{r0_0:Sl}{r0_1:OA}{of1:Sl}{Q:VW},Au jn PR keys_kp keys_fn [.agg #[.l r0_0.a r0_0.n r0_0.c,.p r0_1],.l of1.a of1.n of1.c] Q=(
 A1 [.l r0_0.a r0_0.n r0_0.c,.p r0_1] p4 λb_1=>
 DH λm=>keys_l1 jn Q  m b_1 0 ⟨(none:OA),0,0⟩ of1 (of1.n:Int) (0:Int))
 drop_ok:Ki PR i_drop drop_fn
 drop_raw:∀{jn:Jn}{r0_0:Sl}{r0_1:OA}{key1:BA}{Q:VW},Au jn PR drop_kp drop_fn [.agg #[.l r0_0.a r0_0.n r0_0.c,.p r0_1],.s key1] Q=(
 A1 [.l r0_0.a r0_0.n r0_0.c,.p r0_1] p4 λb_1=>
 BZ b_1 1 λx_2=>
 λw=>Calls PR i_del #[.p x_2,.s key1] w λe w'=>∃x_3:Int,∃x_4:Int,∃x_5:Bool,e = .returned (.tuple #[.agg #[.i x_3,.i x_4],.b x_5])/\(
 A1 [.i (0:Int),.i (0:Int)] p3 λb_6=>
 st b_6 0 (.i x_3)<|
 st b_6 1 (.i x_4)<|
 Aj x_5 (
 A5 λS=>
 F5 S b_1 0 λx_7=>
 Ez S b_6 0 λx_8=>
 CB x_7.a x_7.n x_8 λb_9 o_10=>
 EZ S b_9 (o_10+(x_8).toNat*1) λx_11=>
 Ay b_6 1 λx_12=>
 Ap true S<|
 Fi 160 [.p x_11,.i x_12] λx_13 x_14=>
 Q (.tuple #[])) (
 Q (.tuple #[]))) w')
 oldest_ok:Ki PR i_oldest oldest_fn
 oldest_raw:∀{jn:Jn}{r0_0:Sl}{r0_1:OA}{row1:Int}{Q:VW},Au jn PR oldest_kp oldest_fn [.agg #[.l r0_0.a r0_0.n r0_0.c,.p r0_1],.i row1] Q=(
 A1 [.l r0_0.a r0_0.n r0_0.c,.p r0_1] p4 λb_1=>
 A5 λS=>
 F5 S b_1 0 λx_2=>
 CB x_2.a x_2.n row1 λb_3 o_4=>
 EZ S b_3 (o_4+(row1).toNat*1) λx_5=>
 Bu b_1 0 λx_6=>
 Ap true S<|
 CB x_6.a x_6.n row1 λb_7 o_8=>
 BZ b_7 (o_8+(row1).toNat*1) λx_9=>
 Ap true S<|
 Cc 165 [.p x_9] λx_10=>
 Ap true S<|
 Fi 164 [.p x_5,.i x_10] λx_11 x_12=>
 Q (.s x_11))
 newRows_ok:Ki PR i_newRows newRows_fn
 newRows_j2_raw:∀{jn:Jn}{Q:VW}{t2_b t2_o r3_b r3_o:Nat},newRows_j2_c jn Q  (us 2 ((pq t2_b t2_o)::(pq r3_b r3_o)::us 13 []))=(
 Bu r3_b r3_o λx_8=>
 BZ r3_b (r3_o+1) λx_9=>
 st t2_b t2_o (.l x_8.a x_8.n x_8.c)<|
 st t2_b (t2_o+1) (.p x_9)<|
 Bu t2_b t2_o λx_10=>
 BZ t2_b (t2_o+1) λx_11=>
 Q (.agg #[.l x_10.a x_10.n x_10.c,.p x_11]))
 newRows_l1_raw:∀{jn:Jn}{Q:VW}{m1:Nat}{t2_b t2_o r3_b r3_o:Nat}{t6 t7:Int},newRows_l1 jn Q  (m1+1) t2_b t2_o r3_b r3_o t6 t7=(
 Aj (decide (t7<t6)) (
 A5 λS=>
 F5 S r3_b r3_o λx_4=>
 Lf 171 [] λx_5=>
 Ap true S<|
 A1 [.p x_5] 235 λb_6=>
 Ap true S<|
 AU 235 1 8 [.p (none:OA)] ⟨x_4.a,x_4.n,x_4.c⟩ 1 (λw=>F9 w (some ⟨b_6,0,none⟩) (1*1)) λs_7=>
 st r3_b r3_o (.l s_7.a s_7.n s_7.c)<|
 newRows_l1 jn Q  m1 t2_b t2_o r3_b r3_o t6 (IntKind.wrap .i64 (t7+(1:Int)))) (
 Qx newRows_j2_c jn Q  t2_b t2_o r3_b r3_o))
 newRows_raw:∀{jn:Jn}{n0:Int}{Q:VW},Au jn PR newRows_kp newRows_fn [.i n0] Q=(
 A1 [.l (none:OA) 0 0,.p (none:OA)] p4 λb_1=>
 Lf i_new [.int .u64 (0:Int)] λx_2=>
 A1 [.l (none:OA) 0 0,.p (none:OA)] p4 λb_3=>
 st b_3 0 (.l (none:OA) 0 0)<|
 st b_3 1 (.p x_2)<|
 DH λm=>newRows_l1 jn Q  m b_1 0 b_3 0 n0 (0:Int))
end Go.Proofs.YtjipofkjmmpjdaaGreat
namespace Go.Hb
instance {s:Int} {k:BA} {x0:Int} {x1:Int}:Ln (CS Rec.ii) [.i s,.s k,.i x0,.i x1] ⟨s,k,(x0,x1)⟩:=⟨rfl⟩
end Go.Hb
namespace Go.Proofs.YtjipofkjmmpjdaaGreat
open Go.Hb Go.IntWalk
section
variable(R:RwF){W w:World}{L M:List HP}{F:HP->List HP}{b:Nat}{seed:Int}{m:List (BA×(Int×Int))}{s:Sl}{ps:List (Pl (Int×Int))}{n1 u1:Int}
theorem FW{st:BA->Nat}{k:BA}(hst:st=A4 seed ps.length)(hz:k.size<4611686018427387904)(hl:0<ps.length/\ps.length<4611686018427387904)(hstop:∃e,e<ps.length/\BU ps ((st k+e) % ps.length)=0)
  (hs:Ab W w (blk b [.int .u64 seed,.l s.a s.n s.c,.i n1,.i u1]::recs (CS Rec.ii) s ps::M)) :
  Calls PR R.i_find #[pq b 0,.s k] w λe w'=>e = .returned (.tuple #[.i ((AQ st ps k).1:Int),.b (AQ st ps k).2])/\Ab W w' (blk b [.int .u64 seed,.l s.a s.n s.c,.i n1,.i u1]::recs (CS Rec.ii) s ps::M):=by
 refine c1 (cw R.find_ok R.find_raw ?_);have hn:=(BV (s:=s) hs Gv.pos).1;refine Ao [blk b [.int .u64 seed,.l s.a s.n s.c,.i n1,.i u1]] hs λw hs=>?_
 repeat (first|with_reducible refine Aa ?_|((with_reducible refine AX ?_);first|refine Am ?_|fail)|fail)
 refine An (Hm hs hz) λe w ⟨he,hs⟩=>⟨_,he,?_⟩
 repeat (first|((with_reducible refine AA ?_);first|refine Ae hs ?_|fail)|fail)
 refine An (GR (n:=s.n) hs (GJ _ _).1 (by omega) (by omega)) λe w ⟨he,hs⟩=>⟨_,he,?_⟩;have e9:(FB seed k).toNat % s.n=A4 seed ps.length k:=by rw[hn,Kd]
 rw[e9];have loop:∀(f:Nat)(free:Option Nat)(i:Nat)(w:World),i<ps.length->(∃e,e<f/\BU ps ((i+e) % ps.length)=0)->Ab W w (blk b [.int .u64 seed,.l s.a s.n s.c,.i n1,.i u1]::recs (CS Rec.ii) s ps::M) ->
   R.find_l1 By (λv w'=>v = .tuple #[.i ((AJ ps k f free i).1:Int),.b (AJ ps k f free i).2]/\Ab W w' (blk b [.int .u64 seed,.l s.a s.n s.c,.i n1,.i u1]::recs (CS Rec.ii) s ps::M)) f (some ⟨b,0,none⟩) k (M8 free) (i:Int) w:=by
  intro f
  induction f with
  | zero=>intro free i w hi ⟨e,he,_⟩;omega
  | succ f ih=>
   intro free i w hi hstop hs;have hm:(i+1) % ps.length<ps.length:=Nat.mod_lt _ hl.1;have next:BU ps i≠0->∃e',e'<f/\BU ps (((i+1) % ps.length+e') % ps.length)=0:=by
    obtain⟨e,he,hz0⟩:=hstop;intro hne;cases e with
    | zero=>rw[Nat.add_zero,Nat.mod_eq_of_lt hi] at hz0;exact absurd hz0 hne
    | succ e=>exact⟨e,by omega,by rw[Ew];exact hz0⟩
   have hwr:Int.tmod (IntKind.wrap .i64 ((i:Int)+1)) (s.n:Int)=(((i+1) % ps.length:Nat):Int):=by
    rw[i64_in _ (by omega),hn,Int.tmod_eq_emod_of_nonneg (by omega)];simp
   have j4:∀(free':Option Nat)(w:World),BU ps i≠0->Ab W w (blk b [.int .u64 seed,.l s.a s.n s.c,.i n1,.i u1]::recs (CS Rec.ii) s ps::M)->AJ ps k (f+1) free i=AJ ps k f free' ((i+1) % ps.length) ->
     Jd R.find_j4_c By (λv w'=>v = .tuple #[.i ((AJ ps k (f+1) free i).1:Int),.b (AJ ps k (f+1) free i).2]/\Ab W w' (blk b [.int .u64 seed,.l s.a s.n s.c,.i n1,.i u1]::recs (CS Rec.ii) s ps::M)) f (some ⟨b,0,none⟩) k (M8 free') (i:Int) w:=by
    intro free' w hne hs he;refine jw R.find_j4_raw ?_;rw[he]
    repeat (first|with_reducible refine Aa ?_|((with_reducible refine Ax ?_);first|refine Ag hs ?_|fail)|((with_reducible refine Bx ?_);first|refine AW ?_|fail)|fail)
    rw[hwr];exact ih free' _ w hm (next hne) hs
   rw[R.find_l1_raw];have hcast:((i:Int)).toNat=i:=Int.toNat_natCast i
   repeat (first|with_reducible refine Aa ?_|((with_reducible refine Ax ?_);first|refine Ag hs ?_|refine Bb hs ?_|fail)|((with_reducible refine AM ?_);first|refine AK hs λb_ o_ hs=>?_|fail)|fail)
   rw[hcast];have ei:(ps.getD i default).is_=BU ps i:=rfl;have ek:(ps.getD i default).key=Ed ps i:=rfl;rw[ei];have j2:∀(t:Bool)(w:World)(b1 o1:Nat),t=decide (BU ps i=2/\Ed ps i=k)->Ab W w (blk b [.int .u64 seed,.l s.a s.n s.c,.i n1,.i u1]::reca (CS Rec.ii) b1 o1 s ps::M) ->
     Jb R.find_j2_c By (λv w'=>v = .tuple #[.i ((AJ ps k (f+1) free i).1:Int),.b (AJ ps k (f+1) free i).2]/\Ab W w' (blk b [.int .u64 seed,.l s.a s.n s.c,.i n1,.i u1]::recs (CS Rec.ii) s ps::M)) f (some ⟨b,0,none⟩) k (M8 free) (i:Int) b1 (o1+i*4) t w:=by
    intro t w b1 o1 ht hs;refine jw R.find_j2_raw ?_;rw[ht]
    with_reducible refine Cd (λh1=>?_) (λh1=>?_)
    ·have e1:AJ ps k (f+1) free i=(i,true):=by rw[AJ,if_pos h1]
     rw[e1];exact⟨rfl,by exact Ab.fin hs⟩
    ·repeat (first|with_reducible refine Aa ?_|((with_reducible refine Ax ?_);first|refine Bb hs ?_|fail)|fail)
     rw[ei];have j3:∀(t:Bool)(w:World),t=decide (BU ps i=1/\free=none)->Ab W w (blk b [.int .u64 seed,.l s.a s.n s.c,.i n1,.i u1]::reca (CS Rec.ii) b1 o1 s ps::M) ->
       Jc R.find_j3_c By (λv w'=>v = .tuple #[.i ((AJ ps k (f+1) free i).1:Int),.b (AJ ps k (f+1) free i).2]/\Ab W w' (blk b [.int .u64 seed,.l s.a s.n s.c,.i n1,.i u1]::recs (CS Rec.ii) s ps::M)) f (some ⟨b,0,none⟩) k (M8 free) (i:Int) b1 (o1+i*4) t w:=by
      intro t w ht hs;refine jw R.find_j3_raw ?_;rw[ht]
      with_reducible refine Cd (λh2=>?_) (λh2=>?_)
      ·exact j4 (some i) w (by rw[h2.1];decide) (by exact Ab.fin hs) (by rw[AJ,if_neg h1,if_pos h2])
      ·repeat (first|with_reducible refine Aa ?_|((with_reducible refine Ax ?_);first|refine Bb hs ?_|fail)|fail)
       rw[ei];have j5:∀(t:Bool)(w:World),t=decide (BU ps i=0/\free=none)->Ab W w (blk b [.int .u64 seed,.l s.a s.n s.c,.i n1,.i u1]::reca (CS Rec.ii) b1 o1 s ps::M) ->
         Je R.find_j5_c By (λv w'=>v = .tuple #[.i ((AJ ps k (f+1) free i).1:Int),.b (AJ ps k (f+1) free i).2]/\Ab W w' (blk b [.int .u64 seed,.l s.a s.n s.c,.i n1,.i u1]::recs (CS Rec.ii) s ps::M)) f (some ⟨b,0,none⟩) k (M8 free) (i:Int) b1 (o1+i*4) t w:=by
        intro t w ht hs;refine jw R.find_j5_raw ?_;rw[ht]
        with_reducible refine Cd (λh3=>?_) (λh3=>?_)
        ·have e1:AJ ps k (f+1) free i=(i,false):=by rw[AJ,if_neg h1,if_neg h2,if_pos h3.1,h3.2];rfl
         rw[e1];exact⟨rfl,by exact Ab.fin hs⟩
        ·repeat (first|with_reducible refine Aa ?_|((with_reducible refine Ax ?_);first|refine Bb hs ?_|fail)|fail)
         rw[ei]
         with_reducible refine Be (λh4=>?_) (λh4=>?_)
         ·have e1:AJ ps k (f+1) free i=(free.getD i,false):=by rw[AJ,if_neg h1,if_neg h2,if_pos h4]
          rw[e1];cases free with
          | none=>exact absurd ⟨h4,rfl⟩ h3
          | some j=>exact⟨rfl,by exact Ab.fin hs⟩
         ·exact j4 free w h4 (by exact Ab.fin hs) (by rw[AJ,if_neg h1,if_neg h2,if_neg h4])
       with_reducible refine Be (λh3=>?_) (λh3=>?_)
       ·exact j5 _ w (by simp[h3,Hl]) (by exact Ab.fin hs)
       ·exact j5 _ w (by simp[h3]) (by exact Ab.fin hs)
     with_reducible refine Be (λh2=>?_) (λh2=>?_)
     ·exact j3 _ w (by simp[h2,Hl]) (by exact Ab.fin hs)
     ·exact j3 _ w (by simp[h2]) (by exact Ab.fin hs)
   with_reducible refine Be (λh1=>?_) (λh1=>?_)
   ·repeat (first|with_reducible refine Aa ?_|((with_reducible refine Ax ?_);first|refine BG hs ?_|fail)|fail)
    rw[ek];refine j2 _ w _ _ ?_ (by exact Ab.fin hs);rw[HE];simp[h1]
   ·refine j2 _ w _ _ ?_ (by exact Ab.fin hs);simp[h1]
 subst hst;have hl2:=loop ps.length none (A4 seed ps.length k) w (Ds hl.1 k) hstop hs;rw[show M8 none = -1 from rfl] at hl2;unfold AQ;refine⟨ps.length,?_⟩;exact hl2
theorem Kz{k:BA}{v:(Int×Int)}{j:Nat}(hj:j<ps.length)(hb:ps.length<4611686018427387904)(hu:u1=(AD ps:Int))(hn1:0<=n1/\n1<4611686018427387904)(hs:Ab W w (blk b [.int .u64 seed,.l s.a s.n s.c,.i n1,.i u1]::recs (CS Rec.ii) s ps::M)) :
  Calls PR R.i_lays #[pq b 0,.i (j:Int),.s k,.agg #[.i (v).1,.i (v).2]] w λe w'=>e = .returned (.tuple #[])/\Ab W w' (blk b [.int .u64 seed,.l s.a s.n s.c,.i (n1+1),.i (AD (ps.set j ⟨2,k,v⟩):Int)]::recs (CS Rec.ii) s (ps.set j ⟨2,k,v⟩)::M):=by
 refine c1 (cw R.lays_ok R.lays_raw ?_);refine Ah hs λbv w hs=>?_;have hn:=(BV (s:=s) hs Gv.pos).1;have hle:AD ps<=ps.length:=List.countP_le_length;rw[BO hj _ (by show(2:Int)≠0;decide)]
 repeat (first|with_reducible refine Aa ?_|((with_reducible refine Ax ?_);first|refine Ag hs ?_|refine Bb hs ?_|fail)|((with_reducible refine AM ?_);first|refine AK hs λb_ o_ hs=>?_|fail)|fail)
 simp only[Int.toNat_natCast];have ei:(ps.getD j default).is_=BU ps j:=rfl;rw[ei]
 with_reducible refine Be (λh1=>?_) (λh1=>?_)
 ·repeat (first|with_reducible refine Aa ?_|((with_reducible refine Ax ?_);first|refine Ag hs ?_|fail)|((with_reducible refine AS ?_);first|refine A0 hs λw hs=>?_|fail)|fail)
  refine jw R.lays_j1_raw ?_
  repeat (first|with_reducible refine Aa ?_|((with_reducible refine Ax ?_);first|refine Ag hs ?_|fail)|((with_reducible refine AS ?_);first|refine A0 hs λw hs=>?_|refine Ba hs λw hs=>?_|fail)|((with_reducible refine AM ?_);first|refine BT hs ?_|fail)|((with_reducible refine AX ?_);first|refine Am ?_|fail)|((with_reducible refine AA ?_);first|refine A9 hs ?_|fail)|((with_reducible refine AZ ?_);first|refine As hs λw hs=>?_|fail)|fail)
  rw[i64_in (n1+1) (by omega),hu,i64_in _ (by omega)] at hs;simp only[Int.toNat_natCast] at hs;rw[if_pos h1];exact⟨rfl,by exact Ab.fin hs⟩
 ·refine jw R.lays_j1_raw ?_
  repeat (first|with_reducible refine Aa ?_|((with_reducible refine Ax ?_);first|refine Ag hs ?_|fail)|((with_reducible refine AS ?_);first|refine A0 hs λw hs=>?_|refine Ba hs λw hs=>?_|fail)|((with_reducible refine AM ?_);first|refine BT hs ?_|fail)|((with_reducible refine AX ?_);first|refine Am ?_|fail)|((with_reducible refine AA ?_);first|refine A9 hs ?_|fail)|((with_reducible refine AZ ?_);first|refine As hs λw hs=>?_|fail)|fail)
  rw[i64_in (n1+1) (by omega),hu] at hs;simp only[Int.toNat_natCast] at hs;rw[if_neg h1,Nat.add_zero];exact⟨rfl,by exact Ab.fin hs⟩
theorem RX{st:BA->Nat}(hi:C2 st ps m)(hkz:∀e∈m,e.1.size<4611686018427387904)(hm:m.length<1000000000)(hs:Ab W w (blk b [.int .u64 seed,.l s.a s.n s.c,.i (m.length:Int),.i u1]::recs (CS Rec.ii) s ps::M)) :
  Calls PR R.i_grows #[pq b 0] w λe w'=>e = .returned (.tuple #[])/\Ab W w' (ixr Rec.ii b seed m::M):=by
 refine c1 (cw R.grows_ok R.grows_raw ?_);have hn:=(BV (s:=s) hs Gv.pos).1;have hsmall:=hi.small;obtain⟨N,hN⟩:∃N:Nat,N=max 8 (4*(m.length+1)):=⟨_,rfl⟩;have e1:(if (IntKind.wrap .i64 ((4:Int)*(IntKind.wrap .i64 ((m.length:Int)+(1:Int)))))>(8:Int) then (IntKind.wrap .i64 ((4:Int)*(IntKind.wrap .i64 ((m.length:Int)+(1:Int))))) else (8:Int))=(N:Int):=by
  rw[i64_in ((m.length:Int)+1) (by omega),i64_in _ (by omega)];split <;> omega
 repeat (first|with_reducible refine Aa ?_|((with_reducible refine Ax ?_);first|refine Ag hs ?_|fail)|fail)
 rw[e1];refine E2 (sz:=4) hs rfl (by omega) (by omega) (by omega) (by omega) λs2 w hn2 _ _ hs=>?_;rw[Int.toNat_natCast] at hs hn2;have hs:Ab W w (recs (CS Rec.ii) s2 (List.replicate N ⟨0,Af,((0,0):Int×Int)⟩)::blk b [.int .u64 seed,.l s.a s.n s.c,.i (m.length:Int),.i u1]::recs (CS Rec.ii) s ps::M):=by
  have e:=Ey (CS Rec.ii) ⟨0,Af,((0,0):Int×Int)⟩ N;unfold recs;rw[<- e];exact hs
 repeat (first|with_reducible refine Aa ?_|((with_reducible refine AS ?_);first|refine A0 hs λw hs=>?_|fail)|fail)
 have hinv:=C2.new (st:=A4 seed N) (n:=N) (z:=(⟨0,Af,((0,0):Int×Int)⟩:Pl (Int×Int))) rfl (by omega) (by omega) (Ds (by omega));have hdist:(Bd ps).map (·.1) |>.Nodup:=(hi.perm.map (·.1)).nodup_iff.2 hi.nodup
 have hlen:(Bd ps).length=m.length:=hi.perm.length_eq;have loop:∀(f i:Nat)(w:World)(ps2:List (Pl (Int×Int)))(mi:List (BA×(Int×Int))),i+f=ps.length->ps2.length=N->C2 (A4 seed N) ps2 mi->mi.Perm (Bd (ps.take i))->AD ps2<=mi.length ->
   Ab W w (blk b [.int .u64 seed,.l s2.a s2.n s2.c,.i (mi.length:Int),.i (AD ps2:Int)]::recs (CS Rec.ii) s2 ps2::recs (CS Rec.ii) s ps::M) ->
   R.grows_l1 By (λv w'=>v = .tuple #[]/\Ab W w' (ixr Rec.ii b seed m::M)) (f+1) (some ⟨b,0,none⟩) s (s.n:Int) (i:Int) w:=by
  intro f
  induction f with
  | zero=>
   intro i w ps2 mi hif hpl hiv hp hu hs;rw[R.grows_l1_raw];refine Ac (decide_eq_false (by omega)) ⟨rfl,?_⟩;rw[List.take_of_length_le (by omega)] at hp;have hpm:=hp.trans hi.perm;refine Bz s2 (ps:=ps2) (n:=(mi.length:Int)) ?_ ?_ (by rw[hpm.length_eq]) rfl (by exact Ab.fin hs)
   ·rw[hpl];exact hiv.perm' hpm
   ·rw[hpl];have:=hpm.length_eq;omega
  | succ f ih=>
   intro i w ps2 mi hif hpl hiv hp hu hs;rw[R.grows_l1_raw];refine Ak (decide_eq_true (by omega)) ?_
   repeat (first|((with_reducible refine Ax ?_);first|refine Ag hs ?_|refine Bb hs ?_|refine BG hs ?_|refine Cn hs ?_|refine Cv hs ?_|fail)|((with_reducible refine AS ?_);first|refine A0 hs λw hs=>?_|fail)|((with_reducible refine AM ?_);first|refine AK hs λb_ o_ hs=>?_|fail)|((with_reducible refine Bf ?_);first|refine Ah hs λb_ w hs=>?_|fail)|fail)
   simp only[Int.toNat_natCast] at hs ⊢;have hil:i<ps.length:=by omega
   have hft:Bd (ps.take (i+1))=Bd (ps.take i)++EU (ps.getD i default):=by
    rw[CA hil,Cg];simp[Bd]
   with_reducible refine Be (λh1=>?_) (λh1=>?_)
   ·have hop:EU (ps.getD i default)=[((ps.getD i default).key,(ps.getD i default).v)]:=Gd h1;rw[hop] at hft;have hsub:(Bd (ps.take (i+1))).Sublist (Bd ps):=by
     conv=>rhs;rw[<- List.take_append_drop (i+1) ps,Cg]
     exact List.sublist_append_left _ _
    have hmem:((ps.getD i default).key,(ps.getD i default).v)∈m:=hi.perm.subset (hsub.subset (by rw[hft];simp));have hnd:=hdist.sublist (hsub.map (·.1));rw[hft,List.map_append] at hnd;have hno:AC mi (ps.getD i default).key=none:=by
     rw[BY];intro e he hk;rw[List.nodup_append] at hnd;exact hnd.2.2 _ (List.mem_map_of_mem (f:=(·.1)) (hp.subset he)) _ (by simp) hk
    have hlt:mi.length+1<=m.length:=by
     have:=hsub.length_le;rw[hft,List.length_append,<- hp.length_eq] at this;simp only[List.length_cons,List.length_nil] at this;omega
    repeat (first|((with_reducible refine Ax ?_);first|refine Ag hs ?_|fail)|fail)
    have hs:Ab W w (blk b [.int .u64 seed,.l s2.a s2.n s2.c,.i (mi.length:Int),.i (AD ps2:Int)]::recs (CS Rec.ii) s2 ps2::blk b_ [.i (ps.getD i default).is_,.s (ps.getD i default).key,.i (ps.getD i default).v.1,.i (ps.getD i default).v.2]::recs (CS Rec.ii) s ps::M):=by exact Ab.fin hs
    refine AH (FW R (st:=A4 seed N) (by rw[hpl]) (hkz _ hmem) (by omega) (hiv.stop _) hs) λe w ⟨he,hs⟩=>⟨_,_,he,?_⟩;have hfm:(AQ (A4 seed N) ps2 (ps.getD i default).key).2=false:=by
     cases hb:(AQ (A4 seed N) ps2 (ps.getD i default).key).2 with
     | false=>rfl
     | true=>have:=(hiv.hit hb).2.2;rw[hno] at this;cases this
    obtain⟨hj,hj2,_,hjr⟩:=hiv.miss hfm
    repeat (first|((with_reducible refine Ax ?_);first|refine Ag hs ?_|fail)|fail)
    refine Ar (Kz R (v:=(ps.getD i default).v) hj (by omega) rfl (by omega) hs) λe w ⟨he,hs⟩=>⟨he,?_⟩;rw[i64_in _ (by omega)];have hus:=BO hj (⟨2,(ps.getD i default).key,(ps.getD i default).v⟩:Pl (Int×Int)) (by show(2:Int)≠0;decide)
    have hus2:AD (ps2.set (AQ (A4 seed N) ps2 (ps.getD i default).key).1 ⟨2,(ps.getD i default).key,(ps.getD i default).v⟩)<=AD ps2+1:=by rw[hus];split <;> omega
    refine ih (i+1) w _ (((ps.getD i default).key,(ps.getD i default).v)::mi) (by omega) (by rw[List.length_set];exact hpl) (hiv.add hj hj2 hno hjr (by omega)) ?_ (by simp only[List.length_cons];omega) ?_
    ·rw[hft];exact((List.Perm.cons _ hp).trans (List.perm_append_comm (l₁:=[_])))
    ·simp only[List.length_cons,Int.natCast_add];exact Ab.fin hs
   ·have hop:EU (ps.getD i default)=[]:=Ie h1;rw[hop,List.append_nil] at hft;rw[i64_in _ (by omega)];exact ih (i+1) w ps2 mi (by omega) hpl hiv (by rw[hft];exact hp) hu (by exact Ab.fin hs)
 refine⟨ps.length+1,?_⟩;refine loop ps.length 0 w (List.replicate N ⟨0,Af,((0,0):Int×Int)⟩) [] (by omega) (by simp) hinv (by simp[Bd]) ?_ ?_
 ·have:AD (List.replicate N (⟨0,Af,((0,0):Int×Int)⟩:Pl (Int×Int)))=0:=by
   unfold AD;rw[List.countP_eq_zero];intro a ha;rw[List.eq_of_mem_replicate ha];simp
  rw[this];exact Nat.zero_le _
 ·have:AD (List.replicate N (⟨0,Af,((0,0):Int×Int)⟩:Pl (Int×Int)))=0:=by
   unfold AD;rw[List.countP_eq_zero];intro a ha;rw[List.eq_of_mem_replicate ha];simp
  rw[this];exact Ab.fin hs
end
section
variable(R:RwF){W w:World}{L M:List HP}{F:HP->List HP}{b:Nat}{seed:Int}{m:List (BA×(Int×Int))}{k:BA}
theorem Alg(hs:Ab W w L):Calls PR R.i_new #[.int .u64 seed] w λe w'=>∃b,e = .returned (pq b 0)/\Ab W w' (ixr Rec.ii b seed []::L):=by
 refine(cw R.new_ok R.new_raw (Q:=λv w'=>∃b,v=pq b 0/\Ab W w' (ixr Rec.ii b seed []::L)) ?_).mono λe w' ⟨v,he,b,hv,hs⟩=>⟨b,by rw[he,hv],hs⟩;refine E2 (sz:=4) hs rfl (by omega) (by omega) (by omega) (by omega) λs2 w hn2 _ _ hs=>?_;have hs:Ab W w (recs (CS Rec.ii) s2 (List.replicate 8 ⟨0,Af,((0,0):Int×Int)⟩)::L):=hs
 repeat (first|((with_reducible refine Bf ?_);first|refine Ah hs λb_ w hs=>?_|fail)|fail)
 refine⟨_,rfl,Bz s2 (ps:=List.replicate 8 ⟨0,Af,((0,0):Int×Int)⟩) (n:=0) (u:=0) (C2.new (n:=8) rfl (by omega) (by omega) (Ds (by simp))) (by decide +revert) rfl rfl (by exact Ab.fin hs)⟩
theorem Ve(h:Ab W w L)[hA:At L b (ixr Rec.ii b seed m) F](hz:k.size<4611686018427387904):Calls PR R.i_get #[pq b 0,.s k] w λe w'=>e = .returned (.tuple #[.agg #[.i ((AC m k).getD ((0,0):Int×Int)).1,.i ((AC m k).getD ((0,0):Int×Int)).2],.b (AC m k).isSome])/\Ab W w' (F (ixr Rec.ii b seed m)):=by
 refine At.call1 (hA:=hA) h λM hs=>?_;clear h hA;refine c1 (cw R.get_ok R.get_raw ?_);refine Ah hs λbz w hs=>?_;have hs:Ab W w (ixr Rec.ii b seed m::blk bz [.i (0:Int),.i (0:Int)]::M):=by exact Ab.fin hs
 refine Ak rfl ?_;obtain⟨s,ps,hi,h2,hn,hs⟩:=Db hs;have hsm:=hi.small;have hbg:=hi.big;refine AH (FW R (st:=A4 seed ps.length) rfl hz (by omega) (hi.stop _) hs) λe w ⟨he,hs⟩=>⟨_,_,he,?_⟩;refine Al (λhb=>?_) (λhb=>?_)
 ·obtain⟨hj,_,hg⟩:=hi.hit hb;rw[hg]
  repeat (first|with_reducible refine Aa ?_|((with_reducible refine Ax ?_);first|refine Ag hs ?_|refine BG hs ?_|refine Cn hs ?_|fail)|((with_reducible refine AS ?_);first|refine A0 hs λw hs=>?_|fail)|((with_reducible refine AM ?_);first|refine AK hs λb_ o_ hs=>?_|fail)|fail)
  simp only[Int.toNat_natCast];exact⟨rfl,Bz s hi h2 rfl rfl (by exact Ab.fin hs)⟩
 ·rw[(hi.miss hb).2.2.1];refine jw R.get_j1_raw ?_
  repeat (first|((with_reducible refine Ax ?_);first|refine Ag hs ?_|fail)|((with_reducible refine AS ?_);first|refine A0 hs λw hs=>?_|fail)|((with_reducible refine Bf ?_);first|refine Ah hs λb_ w hs=>?_|fail)|fail)
  exact⟨rfl,Bz s hi h2 rfl rfl (by exact Ab.fin hs)⟩
theorem Alh(h:Ab W w L)[hA:At L b (ixr Rec.ii b seed m) F]{v:(Int×Int)}(hz:k.size<4611686018427387904)(hkz:∀e∈m,e.1.size<4611686018427387904)(hm:m.length<900000000):Calls PR R.i_put #[pq b 0,.s k,.agg #[.i (v).1,.i (v).2]] w λe w'=>e = .returned (.b (AC m k).isNone)/\Ab W w' (F (ixr Rec.ii b seed (CE m k v))):=by
 refine At.call1 (hA:=hA) h λM hs=>?_;clear h hA;refine c1 (cw R.put_ok R.put_raw ?_);refine Ah hs λbv w hs=>?_;have hs:Ab W w (ixr Rec.ii b seed m::blk bv [.i v.1,.i v.2]::M):=by exact Ab.fin hs
 refine Ac rfl ?_;obtain⟨s,ps,hi,h2,hn,hs⟩:=Db hs;have hsm:=hi.small;have hbg:=hi.big;refine AH (FW R (st:=A4 seed ps.length) rfl hz (by omega) (hi.stop _) hs) λe w ⟨he,hs⟩=>⟨_,_,he,?_⟩;refine Al (λhb=>?_) (λhb=>?_)
 ·obtain⟨hj,hit,hg⟩:=hi.hit hb;have hp:CE m k v=Fg m k v:=by unfold CE;rw[hg]
  rw[hg,hp]
  repeat (first|with_reducible refine Aa ?_|((with_reducible refine Ax ?_);first|refine Ag hs ?_|fail)|((with_reducible refine AM ?_);first|refine AK hs λb_ o_ hs=>?_|fail)|((with_reducible refine AX ?_);first|refine Am ?_|fail)|((with_reducible refine AA ?_);first|refine A9 hs ?_|fail)|((with_reducible refine AZ ?_);first|refine As hs λw hs=>?_|fail)|fail)
  simp only[Int.toNat_natCast];refine Xw (vs:=[.i v.1,.i v.2]) (pre:=[.i (ps.getD (AQ (A4 seed ps.length) ps k).1 default).is_,.s (ps.getD (AQ (A4 seed ps.length) ps k).1 default).key]) (mid:=[.i (ps.getD (AQ (A4 seed ps.length) ps k).1 default).v.1,.i (ps.getD (AQ (A4 seed ps.length) ps k).1 default).v.2]) (tl:=[]) (a':={ ps.getD (AQ (A4 seed ps.length) ps k).1 default with v:=v }) (i:=(AQ (A4 seed ps.length) ps k).1) (j:=2) (n:=4) hs rfl hj rfl rfl rfl rfl λw hs=>?_;have hset:=hi.set (v:=v) hj hit;have hus:AD (ps.set (AQ (A4 seed ps.length) ps k).1 { ps.getD (AQ (A4 seed ps.length) ps k).1 default with v:=v })=AD ps:=by
   rw[BO hj _ (by show BU ps _≠0;rw[hit.1];decide),if_neg (by rw[hit.1];decide)];rfl
  refine⟨rfl,Bz s (n:=(m.length:Int)) (u:=(AD ps:Int)) (by rw[List.length_set];exact hset) (by rw[hus,List.length_set];exact h2) (by simp[Fg]) (by rw[hus]) (by exact Ab.fin hs)⟩
 ·obtain⟨hj,hj2,hg,hr⟩:=hi.miss hb;have hp:CE m k v=(k,v)::m:=by unfold CE;rw[hg]
  rw[hg,hp]
  repeat (first|((with_reducible refine Ax ?_);first|refine Ag hs ?_|fail)|fail)
  refine Ar (Kz R (v:=v) hj (by omega) rfl (by omega) hs) λe w ⟨he,hs⟩=>⟨he,?_⟩;have hus:=BO hj (⟨2,k,v⟩:Pl (Int×Int)) (by show(2:Int)≠0;decide)
  have hus2:AD (ps.set (AQ (A4 seed ps.length) ps k).1 ⟨2,k,v⟩)<=AD ps+1:=by rw[hus];split <;> omega
  have hadd:=hi.add (v:=v) hj hj2 hg hr (by omega);have hsl:(ps.set (AQ (A4 seed ps.length) ps k).1 ⟨2,k,v⟩).length=ps.length:=by simp
  generalize hps2:ps.set (AQ (A4 seed ps.length) ps k).1 ⟨2,k,v⟩=ps2 at hs hus2 hadd hsl
  repeat (first|with_reducible refine Aa ?_|((with_reducible refine Ax ?_);first|refine Ag hs ?_|fail)|((with_reducible refine AX ?_);first|refine Am ?_|fail)|((with_reducible refine AA ?_);first|refine A9 hs ?_|fail)|((with_reducible refine AZ ?_);first|refine As hs λw hs=>?_|fail)|fail)
  rw[i64_in _ (by omega),hn]
  with_reducible refine Bg (λh9=>?_) (λh9=>?_)
  ·have hkz2:∀e∈(k,v)::m,e.1.size<4611686018427387904:=by
    intro e he;rcases List.mem_cons.1 he with rfl|he
    ·exact hz
    ·exact hkz e he
   have hs2:Ab W w (blk b [.int .u64 seed,.l s.a s.n s.c,.i (((k,v)::m).length:Int),.i (AD ps2:Int)]::recs (CS Rec.ii) s ps2::M):=by
    simp only[List.length_cons,Int.natCast_add];exact Ab.fin hs
   refine Ar (RX R hadd hkz2 (by simp;omega) hs2) λe w ⟨he,hs⟩=>⟨he,?_⟩;exact⟨rfl,hs⟩
  ·exact⟨rfl,Bz s (n:=(m.length:Int)+1) (by rw[hsl];exact hadd) (by omega) (by simp) rfl (by exact Ab.fin hs)⟩
theorem Xk(h:Ab W w L)[hA:At L b (ixr Rec.ii b seed m) F](hz:k.size<4611686018427387904)(hm:m.length<900000000):Calls PR R.i_del #[pq b 0,.s k] w λe w'=>e = .returned (.tuple #[.agg #[.i ((AC m k).getD ((0,0):Int×Int)).1,.i ((AC m k).getD ((0,0):Int×Int)).2],.b (AC m k).isSome])/\Ab W w' (F (ixr Rec.ii b seed (Cr m k))):=by
 refine At.call1 (hA:=hA) h λM hs=>?_;clear h hA;refine c1 (cw R.del_ok R.del_raw ?_);refine Ah hs λb1 w hs=>?_;refine(Ve R hs hz).mono λe w ⟨he,hs⟩=>⟨_,_,_,he,?_⟩
 repeat (first|((with_reducible refine AS ?_);first|refine A0 hs λw hs=>?_|fail)|((with_reducible refine Bf ?_);first|refine Ah hs λb_ w hs=>?_|fail)|fail)
 have hs:Ab W w (ixr Rec.ii b seed m::blk b_ [.i ((AC m k).getD ((0,0):Int×Int)).1,.i ((AC m k).getD ((0,0):Int×Int)).2]::blk b1 [.i (0:Int),.i (0:Int)]::M):=by exact Ab.fin hs
 refine Cp (λv hg=>?_) (λhg=>?_)
 ·obtain⟨s,ps,hi,h2,hn,hs⟩:=Db hs;have hsm:=hi.small;have hbg:=hi.big;refine AH (FW R (st:=A4 seed ps.length) rfl hz (by omega) (hi.stop _) hs) λe w ⟨he,hs⟩=>⟨_,_,he,?_⟩;have hb:(AQ (A4 seed ps.length) ps k).2=true:=by
   cases hb:(AQ (A4 seed ps.length) ps k).2 with
   | true=>rfl
   | false=>have:=(hi.miss hb).2.2.1;rw[hg] at this;cases this
  obtain⟨hj,hit,_⟩:=hi.hit hb
  repeat (first|with_reducible refine Aa ?_|((with_reducible refine Ax ?_);first|refine Ag hs ?_|fail)|((with_reducible refine AS ?_);first|refine A0 hs λw hs=>?_|refine Ba hs λw hs=>?_|fail)|((with_reducible refine AM ?_);first|refine AK hs λb_ o_ hs=>?_|fail)|fail)
  rw[i64_in _ (by omega)] at hs;simp only[Int.toNat_natCast] at hs;have hdel:=hi.del (z:=(⟨1,Af,((0,0):Int×Int)⟩:Pl (Int×Int))) hj hit rfl;have hus:AD (ps.set (AQ (A4 seed ps.length) ps k).1 (⟨1,Af,((0,0):Int×Int)⟩:Pl (Int×Int)))=AD ps:=by
   rw[BO hj _ (by show(1:Int)≠0;decide),if_neg (by rw[hit.1];decide)];rfl
  have hl:=Mb hi.nodup hg;refine⟨by trivial,Bz s (n:=(m.length:Int)-1) (u:=(AD ps:Int)) (by rw[List.length_set];exact hdel) (by rw[hus,List.length_set];exact h2) (by omega) (by rw[hus]) (by exact Ab.fin hs)⟩
 ·have:Cr m k=m:=by
   unfold Cr;rw[List.filter_eq_self];intro e he;simpa using BY.1 hg e he
  rw[this]
  repeat (first|((with_reducible refine Ax ?_);first|refine Ag hs ?_|fail)|((with_reducible refine AS ?_);first|refine A0 hs λw hs=>?_|fail)|fail)
  exact⟨by trivial,by exact Ab.fin hs⟩
end
end Go.Proofs.YtjipofkjmmpjdaaGreat
namespace Go.Proofs.YtjipofkjmmpjdaaGreat
open Go.Hb Go.IntWalk
theorem Ea{P:Program}{f:FuncId}{args:Array Value}{w:World}{v0:Value}{S:World->Prop}(h:Calls P f args w λe w'=>∃v,e = .returned v/\(v=v0/\S w')) :
  Calls P f args w λe w'=>e = .returned v0/\S w':=h.mono λ_ _ ⟨_,he,hv,hs⟩=>⟨by rw[he,hv],hs⟩
section
variable{W w:World}{L M:List HP}{F:HP->List HP}{b:Nat}{row:List (Nat×BA)}{free:List Nat}
theorem S3{s f:Sl}{n:Int}{ls:List Lk}{fr:List Nat}{h p x:Nat}(hh:h<ls.length)(hp:p<ls.length)(hx:x<ls.length)(hs:Ab W w (blk b [.l s.a s.n s.c,.l f.a f.n f.c,.i n]::recs lkR s ls::recs Rec.nat f fr::M)) :
  Calls PR 198 #[pq b 0,.i (h:Int),.i (p:Int),.i (x:Int)] w λe w'=>e = .returned (.tuple #[])/\Ab W w' (blk b [.l s.a s.n s.c,.l f.a f.n f.c,.i n]::recs lkR s (SU ls h p x)::recs Rec.nat f fr::M):=by
 refine Ea (cw ⟨mixed,Tryz.func198,rfl⟩ Apl ?_);have hn:=(BV (s:=s) hs).1
 repeat (first|with_reducible refine Aa ?_|((with_reducible refine Ax ?_);first|refine Ag hs ?_|fail)|((with_reducible refine AS ?_);first|refine C1 hs λw hs=>?_|fail)|((with_reducible refine AM ?_);first|refine AK hs λb_ o_ hs=>?_|refine BT hs ?_|fail)|((with_reducible refine AX ?_);first|refine Am ?_|fail)|((with_reducible refine AA ?_);first|refine A9 hs ?_|fail)|((with_reducible refine AZ ?_);first|refine As hs λw hs=>?_|fail)|fail)
 try simp only[Int.toNat_natCast] at hs
 refine⟨rfl,?_⟩;exact Ab.fin hs
theorem OR{s f:Sl}{n:Int}{ls:List Lk}{fr:List Nat}{h:Nat}(hh:h<ls.length)(hp:E4 ls h<ls.length)(hx:E3 ls h<ls.length)(hs:Ab W w (blk b [.l s.a s.n s.c,.l f.a f.n f.c,.i n]::recs lkR s ls::recs Rec.nat f fr::M)) :
  Calls PR 194 #[pq b 0,.i (h:Int)] w λe w'=>e = .returned (.tuple #[])/\Ab W w' (blk b [.l s.a s.n s.c,.l f.a f.n f.c,.i n]::recs lkR s (Hs ls h)::recs Rec.nat f fr::M):=by
 refine Ea (cw ⟨mixed,Tryz.func194,rfl⟩ Aph ?_);have hn:=(BV (s:=s) hs).1;have hp:(ls.getD (h:Int).toNat default).prev<ls.length:=hp;have hx:(ls.getD (h:Int).toNat default).next<ls.length:=hx
 have hp1:(ls.getD h default).prev<ls.length:=hp;have hx1:(ls.getD h default).next<ls.length:=hx
 repeat (first|with_reducible refine Aa ?_|((with_reducible refine Ax ?_);first|refine Ag hs ?_|refine BG hs ?_|fail)|((with_reducible refine AS ?_);first|refine C1 hs λw hs=>?_|fail)|((with_reducible refine AM ?_);first|refine AK hs λb_ o_ hs=>?_|refine BT hs ?_|fail)|((with_reducible refine AX ?_);first|refine Am ?_|refine Bs hs ?_|fail)|((with_reducible refine AA ?_);first|refine A9 hs ?_|refine Ae hs ?_|fail)|((with_reducible refine AZ ?_);first|refine As hs λw hs=>?_|fail)|fail)
 try simp only[Int.toNat_natCast] at hs
 refine⟨rfl,?_⟩;exact Ab.fin hs
theorem S1(h:Ab W w L)[hA:At L b (lst .s b row free) F]{x:Int}:Calls PR 199 #[pq b 0,.i x] w λe w'=>e = .returned (.b (JX row x).isSome)/\Ab W w' (F (lst .s b (row) (free))):=by
 refine At.call1 (hA:=hA) h λM hs=>?_;clear h hA;refine Ea (cw ⟨mixed,Tryz.func199,rfl⟩ Apm ?_);obtain⟨s,f,ls,hi,⟨hn,hf,hl⟩,hs⟩:=EI hs;have hh:=hi.has x;rw[Vh] at hh;rw[<- hn] at hh;rw[<- hh];refine Ak rfl ?_;refine Al (λh1=>?_) (λh1=>⟨by simp only[h1,Bool.false_and],Et s f hi rfl hs⟩)
 repeat (first|with_reducible refine Aa ?_|((with_reducible refine Ax ?_);first|refine Ag hs ?_|fail)|fail)
 refine Al (λh2=>?_) (λh2=>⟨by simp only[h1,h2,Bool.false_and,Bool.and_false],Et s f hi rfl hs⟩);have h1':=of_decide_eq_true h1;have h2':=of_decide_eq_true h2
 repeat (first|with_reducible refine Aa ?_|((with_reducible refine Ax ?_);first|refine Ag hs ?_|refine BG hs ?_|fail)|((with_reducible refine AM ?_);first|refine AK hs λb_ o_ hs=>?_|fail)|fail)
 refine⟨by simp only[h1,h2,Bool.true_and],Et s f hi rfl ?_⟩;exact Ab.fin hs
theorem FR(h:Ab W w L)[hA:At L b (lst .s b row free) F]{x:Int}:Calls PR 164 #[pq b 0,.i x] w λe w'=>e = .returned (.tuple #[.s ((FO row x).getD Af),.b (JX row x).isSome])/\Ab W w' (F (lst .s b (row) (free))):=by
 refine At.call1 (hA:=hA) h λM hs=>?_;clear h hA;refine Ea (cw ⟨mixed,Tryz.func164,rfl⟩ Ao4 ?_);refine An (S1 hs) λe w ⟨he,hs⟩=>⟨_,he,?_⟩;refine Al (λh1=>?_) (λh1=>?_)
 ·simp only[Bool.not_eq_true',Option.isSome_eq_false_iff,Option.isNone_iff_eq_none] at h1;rw[FO,h1];exact⟨rfl,hs⟩
 ·simp only[Bool.not_eq_false',Option.isSome_iff_exists] at h1;obtain⟨i,h1⟩:=h1;obtain⟨s,f,ls,hi,⟨hn,hf,hl⟩,hs⟩:=EI hs;obtain⟨k,v,rfl,hrv,hk,hkl,ht,hv,hr,_⟩:=hi.row_at (i:=i) (by rw[Vh];exact h1)
  have hv:(ls.getD k default).v = .s ((FO row k).getD Af):=by rw[hv];exact Auq h1 hrv
  repeat (first|with_reducible refine Aa ?_|((with_reducible refine Ax ?_);first|refine Ag hs ?_|fail)|((with_reducible refine AM ?_);first|refine AK hs λb_ o_ hs=>?_|fail)|fail)
  refine Bb (x:=(FO row k).getD Af) hs ?_ (hc:=by rw[Int.toNat_natCast];simp only[lkR,Lk.cells,List.getElem?_cons_zero];rw[hv];rfl);rw[h1];refine⟨rfl,Et s f hi rfl ?_⟩;exact Ab.fin hs
theorem S4{v:BA}(hr:row.length+free.length<1099511627776)(hs:Ab W w (lst .s b row free::M)) :
  Calls PR 197 #[pq b 0,.s v] w λe w'=>e = .returned (.i (Li row free:Int))/\∃(s f:Sl) (ls ls1:List Lk),JE ls free (Ge .s row)/\s.n=ls1.length/\Amq ls free (Ge .s row) (.s v) (Li row free) ls1 free.dropLast /\
   Ab W w' (blk b [.l s.a s.n s.c,.l f.a f.n f.c,.i ((row.length:Int)+1)]::recs lkR s ls1::recs Rec.nat f free.dropLast::M):=by
 refine Ea (cw ⟨mixed,Tryz.func197,rfl⟩ Apk ?_);obtain⟨s,f,ls,hi,⟨hn,hf,hl⟩,hs⟩:=EI hs;have ht:=hi.take (.s v);have hh:Vy ls.length free=Li row free:=by unfold Vy Li;rw[hl]
 rw[hh] at ht
 repeat (first|with_reducible refine Aa ?_|((with_reducible refine Ax ?_);first|refine Ag hs ?_|fail)|fail)
 rw[hf];refine Al (λh1=>?_) (λh1=>?_)
 ·simp only[gt_iff_lt,decide_eq_true_eq] at h1;have hne:free≠[]:=by rintro rfl;simp at h1
  have hfc:=(BV (s:=f) hs).2;have hwr:IntKind.wrap .i64 ((free.length:Int)-1)=((free.length-1:Nat):Int):=by rw[i64_in _ (by omega)];omega
  simp only[hwr,Int.toNat_natCast]
  repeat (first|with_reducible refine Aa ?_|((with_reducible refine Ax ?_);first|refine Ag hs ?_|refine Bb hs ?_|fail)|((with_reducible refine AS ?_);first|refine A0 hs λw hs=>?_|fail)|((with_reducible refine AM ?_);first|refine AK hs λb_ o_ hs=>?_|fail)|((with_reducible refine Bx ?_);first|refine AW ?_|fail)|fail)
  have hs:=A8x (s:=f) (lo:=0) (hi:=free.length-1) (c:=f.c) (hs.shut f) rfl (by omega) (by omega) rfl (by decide);refine jw Nw ?_;have hlast:free.getD (free.length-1) default=Li row free:=by
   rw[Li,List.getLastD_eq_getLast?,List.getLast?_eq_getElem?,List.getD_eq_getElem?_getD,List.getElem?_eq_getElem (by omega)];rfl
  simp only[hlast] at hs ⊢;rw[List.drop_zero,Nat.sub_zero,<- List.dropLast_eq_take] at hs;have hlt:=ht.lt;have hlt2:Li row free<ls.length:=by
   have:=ht.lt;unfold H6 at this;rw[if_neg hne,List.length_set] at this;exact this
  repeat (first|with_reducible refine Aa ?_|((with_reducible refine Ax ?_);first|refine Ag hs ?_|fail)|((with_reducible refine AS ?_);first|refine A0 hs λw hs=>?_|refine Ba hs λw hs=>?_|fail)|((with_reducible refine AM ?_);first|refine AK hs λb_ o_ hs=>?_|fail)|fail)
  rw[i64_in _ (by omega)] at hs;simp only[Int.toNat_natCast] at hs;refine⟨by trivial,s,⟨GC f.a 0 f.c 1,free.length-1,f.c⟩,ls,H6 ls free (.s v),hi,?_,ht,?_⟩
  ·rw[H6,if_neg hne,List.length_set];exact hn
  ·have hset:ls.set (Li row free) ⟨.s v,0,0,true⟩=H6 ls free (.s v):=by
    unfold H6 Li;rw[if_neg hne]
    congr 1;rcases List.eq_nil_or_concat free with rfl|⟨m,x,rfl⟩
    ·exact absurd rfl hne
    ·simp[List.getLastD_eq_getLast?]
   rw[hset] at hs;exact Ab.fin hs
 ·simp only[gt_iff_lt,decide_eq_false_iff_not] at h1;have hfe:free=[]:=List.length_eq_zero_iff.1 (by omega);subst hfe;have hn':=hn
  repeat (first|with_reducible refine Aa ?_|((with_reducible refine Ax ?_);first|refine Ag hs ?_|fail)|((with_reducible refine Bf ?_);first|refine Ah hs λb_ w hs=>?_|fail)|fail)
  refine Cf (s:=s) (a:=(⟨.s Af,0,0,false⟩:Lk)) hs rfl rfl rfl rfl (by decide) (by rw[hl];simp only[List.length_nil];simp only[List.length_nil] at hr;omega) λs2 w hs2 hs=>?_
  repeat (first|with_reducible refine Aa ?_|((with_reducible refine AS ?_);first|refine A0 hs λw hs=>?_|fail)|fail)
  refine jw Nw ?_;rw[hn]
  repeat (first|with_reducible refine Aa ?_|((with_reducible refine Ax ?_);first|refine Ag hs ?_|fail)|((with_reducible refine AS ?_);first|refine A0 hs λw hs=>?_|refine Ba hs λw hs=>?_|fail)|((with_reducible refine AM ?_);first|refine AK hs λb_ o_ hs=>?_|fail)|fail)
  rw[i64_in _ (by omega)] at hs;simp only[Int.toNat_natCast] at hs;have hh2:(ls.length:Int)=(Li row []:Int):=by rw[<- hh];rfl
  refine⟨by rw[hh2],s2,f,ls,H6 ls [] (.s v),hi,?_,ht,?_⟩
  ·simp[H6,hs2]
  ·have hset:(ls++[(⟨.s Af,0,0,false⟩:Lk)]).set ls.length ⟨.s v,0,0,true⟩=H6 ls [] (.s v):=by
    simp[H6]
   rw[hset] at hs;exact Ab.fin hs
theorem Gn(h:Ab W w L)[hA:At L b (lst .s b row free) F]{v:BA}(hr:row.length+free.length<1099511627776):Calls PR 162 #[pq b 0,.s v] w λe w'=>e = .returned (.i (Li row free:Int))/\Ab W w' (F (lst .s b (row++[(Li row free,v)]) (free.dropLast))):=by
 refine At.call1 (hA:=hA) h λM hs=>?_;clear h hA;refine Ea (cw ⟨mixed,Tryz.func162,rfl⟩ Ao2 ?_);refine Ac rfl ?_;refine An (S4 hr hs) λe w ⟨he,s,f,ls,ls1,hi,hn,ht,hs⟩=>⟨_,he,?_⟩;have hlen:=ht.le;have hpos:=hi.pos;have hl1:=ht.lt
 repeat (first|with_reducible refine Aa ?_|((with_reducible refine Ax ?_);first|refine Ag hs ?_|refine BG hs ?_|fail)|((with_reducible refine AM ?_);first|refine AK hs λb_ o_ hs=>?_|fail)|fail)
 have e1:(ls1.getD (0:Int).toNat default).prev=((Ge .s row).map (·.1)).getLastD 0:=by
  show E4 ls1 0=_;rw[ht.pv,BN (by have:=ht.pos;omega),Ab0 hi.stands]
 rw[e1];have hx:((Ge .s row).map (·.1)).getLastD 0<ls.length:=hi.bound ML;refine Ar (S3 (x:=0) hl1 (by omega) (by omega) (hs.shut s)) λe w ⟨he,hs⟩=>⟨he,?_⟩;refine⟨rfl,Et s f ?_ (by simp) hs⟩;have:=JE.lay (r1:=Ge .s row) (r2:=[]) (by rw[List.append_nil];exact hi) (by rw[List.append_nil];exact ht)
 rw[show Ge .s (row++[(Li row free,v)])=Ge .s row++[(Li row free,.s v)] by simp[Ge]];exact this
theorem HG(h:Ab W w L)[hA:At L b (lst .s b row free) F]{x:Int}(hr:row.length+free.length<1099511627776):Calls PR 160 #[pq b 0,.i x] w λe w'=>e = .returned (.tuple #[.s ((FO row x).getD Af),.b (JX row x).isSome])/\Ab W w' (F (lst .s b (match JX row x with|some i=>row.eraseIdx i|none=>row) (match JX row x with|some i=>free++[x.toNat]|none=>free))):=by
 refine At.call1 (hA:=hA) h λM hs=>?_;clear h hA;refine Ea (cw ⟨mixed,Tryz.func160,rfl⟩ Ao0 ?_);refine AH (FR hs) λe w ⟨he,hs⟩=>⟨_,_,he,?_⟩;refine Al (λh1=>?_) (λh1=>?_)
 ·simp only[Option.isSome_iff_exists] at h1;obtain⟨i,h1⟩:=h1;obtain⟨s,f,ls,hi,⟨hn,hf,hl⟩,hs⟩:=EI hs;obtain⟨k,v,rfl,hrv,hk,hkl,ht,hv,hr2,hnx,hpv⟩:=hi.row_at (i:=i) (by rw[Vh];exact h1)
  have hx:=hi.next_lt hr2;have hp:=hi.prev_lt hr2;refine Ar (OR hkl hp hx hs) λe w ⟨he,hs⟩=>⟨he,?_⟩;have hll:=UR ls k
  repeat (first|with_reducible refine Aa ?_|((with_reducible refine Ax ?_);first|refine Ag hs ?_|fail)|((with_reducible refine AS ?_);first|refine Ba hs λw hs=>?_|fail)|((with_reducible refine AM ?_);first|refine AK hs λb_ o_ hs=>?_|fail)|((with_reducible refine Bf ?_);first|refine Ah hs λb_ w hs=>?_|fail)|fail)
  refine Cf (s:=f) (a:=k) hs rfl rfl rfl rfl (by decide) (by omega) λf2 w hf2 hs=>?_
  repeat (first|with_reducible refine Aa ?_|((with_reducible refine Ax ?_);first|refine Ag hs ?_|fail)|((with_reducible refine AS ?_);first|refine A0 hs λw hs=>?_|fail)|fail)
  rw[i64_in _ (by omega)] at hs;simp only[Int.toNat_natCast] at hs;rw[h1];have hlt:i<row.length:=by
   obtain⟨_,_,_,_,hlt⟩:=Mi h1;exact hlt
  refine⟨rfl,Et s f2 (n:=(row.length:Int)-1) (ls:=(Hs ls k).set k ⟨.s Af,0,0,false⟩) ?_ (by rw[List.length_eraseIdx,if_pos hlt];omega) (by exact Ab.fin hs)⟩;rw[Af8];exact hi.remove hr2 hk hkl hp hx
 ·simp only[Option.isSome_eq_false_iff,Option.isNone_iff_eq_none] at h1;rw[h1];exact⟨rfl,hs⟩
theorem E6(h:Ab W w L)[hA:At L b (lst .s b row free) F]:Calls PR 165 #[pq b 0] w λe w'=>e = .returned (.i ((Bo row 0:Nat):Int))/\Ab W w' (F (lst .s b (row) (free))):=by
 refine At.call1 (hA:=hA) h λM hs=>?_;clear h hA;refine Ea (cw ⟨mixed,Tryz.func165,rfl⟩ Ao5 ?_);refine Ac rfl ?_;obtain⟨s,f,ls,hi,⟨hn,hf,hl⟩,hs⟩:=EI hs;have hpos:=hi.pos
 repeat (first|with_reducible refine Aa ?_|((with_reducible refine Ax ?_);first|refine Ag hs ?_|refine BG hs ?_|fail)|((with_reducible refine AM ?_);first|refine AK hs λb_ o_ hs=>?_|fail)|fail)
 refine⟨?_,Et s f hi rfl (by exact Ab.fin hs)⟩;congr 2;have:=hi.front;rw[Sg] at this;exact this
theorem Oi(h:Ab W w L)[hA:At L b (lst .s b row free) F]{x:Int}:Calls PR 245 #[pq b 0,.i x] w λe w'=>e = .returned (.i (IJ row x:Int))/\Ab W w' (F (lst .s b (row) (free))):=by
 refine At.call1 (hA:=hA) h λM hs=>?_;clear h hA;refine Ea (cw ⟨mixed,Tryz.func245,rfl⟩ Apo ?_);refine An (S1 hs) λe w ⟨he,hs⟩=>⟨_,he,?_⟩;refine Al (λh1=>?_) (λh1=>?_)
 ·simp only[Bool.not_eq_true',Option.isSome_eq_false_iff,Option.isNone_iff_eq_none] at h1;refine⟨by simp only[IJ,h1];rfl,hs⟩
 ·simp only[Bool.not_eq_false',Option.isSome_iff_exists] at h1;obtain⟨i,h1⟩:=h1;obtain⟨s,f,ls,hi,⟨hn,hf,hl⟩,hs⟩:=EI hs;obtain⟨k,v0,rfl,hrv,hk,hkl,ht,hv,hr2,hnx,hpv⟩:=hi.row_at (i:=i) (by rw[Vh];exact h1)
  repeat (first|with_reducible refine Aa ?_|((with_reducible refine Ax ?_);first|refine Ag hs ?_|refine BG hs ?_|fail)|((with_reducible refine AM ?_);first|refine AK hs λb_ o_ hs=>?_|fail)|fail)
  refine⟨?_,Et s f hi rfl (by exact Ab.fin hs)⟩;rw[Int.toNat_natCast];congr 2;rw[Sg] at hnx;simp only[IJ,h1];exact hnx
theorem FS(h:Ab W w L)[hA:At L b (lst .s b row free) F]:Calls PR 163 #[pq b 0] w λe w'=>e = .returned (.i (row.length:Int))/\Ab W w' (F (lst .s b (row) (free))):=by
 refine At.call1 (hA:=hA) h λM hs=>?_;clear h hA;refine Ea (cw ⟨mixed,Tryz.func163,rfl⟩ Ao3 ?_);refine Ac rfl ?_;obtain⟨s,f,ls,hi,⟨hn,hf,hl⟩,hs⟩:=EI hs
 repeat (first|with_reducible refine Aa ?_|((with_reducible refine Ax ?_);first|refine Ag hs ?_|fail)|fail)
 exact⟨rfl,Et s f hi rfl hs⟩
theorem IQ(hs:Ab W w L):Calls PR 171 #[] w λe w'=>∃b,e = .returned (pq b 0)/\Ab W w' (lst .s b [] []::L):=by
 refine(cw ⟨mixed,Tryz.func171,rfl⟩ Apa (Q:=λv w'=>∃b,v=pq b 0/\Ab W w' (lst .s b [] []::L)) ?_).mono λe w' ⟨v,he,b,hv,hs⟩=>⟨b,by rw[he,hv],hs⟩;refine E2 (sz:=4) hs rfl (by omega) (by omega) (by omega) (by omega) λs w hn _ _ hs=>?_;have hs:Ab W w (recs lkR s [⟨.s Af,0,0,false⟩]::L):=hs;have hs:=Ab.nilR Rec.nat hs
 repeat (first|((with_reducible refine Bf ?_);first|refine Ah hs λb_ w hs=>?_|fail)|fail)
 refine⟨_,rfl,Et s ⟨none,0,0⟩ (ls:=[⟨.s Af,0,0,false⟩]) (n:=0) ?_ rfl (by exact Ab.fin hs)⟩;exact A10 _
theorem OQ{Q:VW}(hr:row.length+free.length<1099511627776)
  (hQ:∀w (m:Sl),Ab W w (recs (Rec.str) m (row.map (·.2))::lst .s b row free::M)->Q (.l m.a m.n m.c) w) :
  ∀(m i:Nat)(w:World)(acc:Sl),i+m=row.length->Ab W w (recs (Rec.str) acc ((row.take i).map (·.2))::lst .s b row free::M) ->
  P2 By Q (m+1) (some ⟨b,0,none⟩) acc (Bo row i:Int) w:=by
 intro m
 induction m with
 | zero=>
  intro i w acc hi hs;rw[Nx];have e:Bo row i=0:=by unfold Bo;rw[List.getD_eq_getElem?_getD,List.getElem?_eq_none (by simp;omega)];rfl
  rw[e];refine Ac rfl ?_;refine jw YK ?_;rw[List.take_of_length_le (by omega)] at hs;exact hQ w acc hs
 | succ m ih=>
  intro i w acc hi hs;rw[Nx];have hs:=(hs.perm (List.Perm.swap _ _ _));obtain⟨s,f,ls,hin,⟨hn,hf,hl⟩,hs⟩:=EI hs;have hlt:i<row.length:=by omega
  have hr1:JX row (Bo row i:Int)=some i:=by
   have:=KU (row:=Ge .s row) (List.nodup_append.1 hin.nodup).1 (i:=i) (e:=(row[i].1,.s row[i].2)) (by simp[Ge,hlt]);rw[Vh] at this;rw[show Bo row i=row[i].1 by unfold Bo;rw[List.getD_eq_getElem?_getD,List.getElem?_map,List.getElem?_eq_getElem hlt];rfl]
   exact this
  obtain⟨k,v,hk,hrv,hk0,hkl,ht,hv,hr2,_⟩:=hin.row_at (i:=i) (by rw[Vh];exact hr1);have hk:Bo row i=k:=by omega
  have hv2:v = .s (row.getD i default).2:=by
   simp only[Ge,List.getElem?_map,List.getElem?_eq_getElem hlt,Option.map_some,Option.some.injEq,Prod.mk.injEq] at hrv;rw[<- hrv.2,List.getD_eq_getElem?_getD,List.getElem?_eq_getElem hlt];rfl
  refine Ak (by rw[hk];simp;omega) ?_;rw[hk] at hr1 ⊢
  repeat (first|with_reducible refine Aa ?_|((with_reducible refine Ax ?_);first|refine Ag hs ?_|fail)|((with_reducible refine AM ?_);first|refine AK hs λb_ o_ hs=>?_|fail)|fail)
  refine Bb (x:=(row.getD i default).2) hs ?_ (hc:=by rw[Int.toNat_natCast];simp only[lkR,Lk.cells,List.getElem?_cons_zero];rw[hv,hv2];rfl)
  repeat (first|((with_reducible refine Bf ?_);first|refine Ah hs λb_ w hs=>?_|fail)|fail)
  have hs:=hs.shut s;refine Cf (s:=acc) (a:=(row.getD i default).2) hs rfl rfl rfl rfl (by decide) (by simp;omega) λs4 w hs4 hs=>?_
  have hs:Ab W w (lst .s b row free::recs (Rec.str) s4 (List.map (·.2) (List.take i row)++[(row.getD i default).2])::M):=Et s f hin rfl (by exact Ab.fin hs);have e:(row.take i).map (·.2)++[(row.getD i default).2]=(row.take (i+1)).map (·.2):=by
   rw[CA (by omega),List.map_append];rfl
  rw[e] at hs;refine An (Oi hs) λe w ⟨he,hs⟩=>⟨_,he,?_⟩;have e2:IJ row (k:Int)=Bo row (i+1):=by unfold IJ;rw[hr1]
  rw[e2];exact ih (i+1) w s4 (by omega) (hs.perm (List.Perm.swap _ _ _))
theorem Lb(h:Ab W w L)[hA:At L b (lst .s b row free) F](hr:row.length+free.length<1099511627776):Calls PR 244 #[pq b 0] w λe w'=>∃m:Sl,e = .returned (.l m.a m.n m.c)/\Ab W w' (recs (Rec.str) m (row.map (·.2))::F (lst .s b row free)):=by
 refine At.oneX (hA:=hA) h λM hs hb=>?_;refine(cw ⟨mixed,Tryz.func244,rfl⟩ Apn (Q:=λv w'=>∃m:Sl,v = .l m.a m.n m.c/\Ab W w' (lst .s b row free::recs (Rec.str) m (row.map (·.2))::M)) ?_).mono λe w' ⟨v,he,m,hv,hs⟩=>⟨m,by rw[he,hv],?_⟩
 ·skip;refine An (E6 hs) λe w ⟨he,hs⟩=>⟨_,he,?_⟩;have hs:=Ab.nilR (Rec.str) hs;have hl:=OQ (row:=row) (free:=free) (M:=M) (b:=b) (Q:=λv w'=>∃m:Sl,v = .l m.a m.n m.c/\Ab W w' (lst .s b row free::recs (Rec.str) m (row.map (·.2))::M)) hr
   (λw m hs=>⟨m,rfl,hs.perm (List.Perm.swap _ _ _)⟩) row.length 0 w ⟨none,0,0⟩ (by omega) hs
  exact⟨_,hl⟩
 ·exact hb _ _ [recs (Rec.str) m (row.map (·.2))] hs
end
end Go.Proofs.YtjipofkjmmpjdaaGreat
namespace Go.Hb
def Ca(K:List (List BA))(js:List Nat):Nat:=(js.map λj=>(K.getD j []).length).sum
def FD(K:List (List BA))(js:List Nat):List BA:=(js.map λj=>K.getD j []).flatten
theorem Vj{K:List (List BA)}{js:List Nat}{j:Nat}(h:j<js.length):Ca K (js.take (j+1))=Ca K (js.take j)+(K.getD (js.getD j default) []).length:=by
 unfold Ca;rw[CA h];simp
theorem Af5{K:List (List BA)}{js:List Nat}{j:Nat}(h:j<js.length):FD K (js.take (j+1))=FD K (js.take j)++K.getD (js.getD j default) []:=by
 unfold FD;rw[CA h];simp
theorem Alm(K:List (List BA))(js:List Nat):(FD K js).length=Ca K js:=by
 unfold FD Ca;induction js with
 | nil=>rfl
 | cons a l ih=>rw[List.map_cons,List.flatten_cons,List.length_append,ih,List.map_cons,List.sum_cons]
theorem Vq:∀(n j:Nat),D9 j (List.replicate n [])=[]
 | 0,_=>rfl
 | n+1,j=>by rw[List.replicate_succ,D9,Vq n (j+1)];rfl
theorem Auk(n:Nat):EA (List.replicate n []) (List.replicate n []) []:=by
 have h:(List.replicate n ([]:List BA)).flatten=[]:=List.flatten_replicate_nil;refine⟨by simp[Dl],by rw[h];simp,by rw[Vq],by rw[h];simp⟩
end Go.Hb
namespace Go.Proofs.YtjipofkjmmpjdaaGreat
open Go.Hb Go.IntWalk
section
variable(R:RwF){W w:World}{L M:List HP}{F:HP->List HP}{xb N:Nat}{s:Sl}{K:List (List BA)}{key:BA}
theorem Eu(h:Ab W w L)[hA:At L xb (rowsC s xb N K) F](hz:key.size<64):Calls PR R.i_where #[.agg #[.l s.a s.n s.c,pq xb 0],.s key] w λe w'=>e = .returned (.i (ED K key))/\Ab W w' (F (rowsC s xb N K)):=by
 refine At.call1 (hA:=hA) h λM hs=>?_;clear h hA;refine c1 (cw R.where_ok R.where_raw ?_);obtain⟨xs,m,hi,hN,hn,hs⟩:=G8 hs
 repeat (first|((with_reducible refine Ax ?_);first|refine Ag hs ?_|fail)|with_reducible refine Ah hs λb_ w hs=>?_|fail)
 refine(Ve R hs (by omega)).mono λe w ⟨he,hs⟩=>⟨_,_,_,he,?_⟩;cases hg:AC m key with
 | none=>
  repeat (first|((with_reducible refine AS ?_);first|refine A0 hs λw hs=>?_|fail)|with_reducible refine Ah hs λb_ w hs=>?_|fail)
  refine Ak rfl ?_;rw[(hi.miss hg).2.2.1];exact⟨rfl,FY hi hN (by exact Ab.fin hs)⟩
 | some p=>
  repeat (first|((with_reducible refine AS ?_);first|refine A0 hs λw hs=>?_|fail)|with_reducible refine Ah hs λb_ w hs=>?_|fail)
  refine Ac rfl ?_
  repeat (first|((with_reducible refine Ax ?_);first|refine Ag hs ?_|fail)|fail)
  have:=hi.where_eq hg;exact⟨by rw[<- this];rfl,FY hi hN (by exact Ab.fin hs)⟩
theorem C0(h:Ab W w L)[hA:At L xb (rowsC s xb N K) F](hz:key.size<64)(hN:N<100000000)(hK:K.length<=4):Calls PR R.i_drop #[.agg #[.l s.a s.n s.c,pq xb 0],.s key] w λe w'=>e = .returned (.tuple #[])/\Ab W w' (F (rowsC s xb N (DY K key))):=by
 refine At.call1 (hA:=hA) h λM hs=>?_;clear h hA;refine c1 (cw R.drop_ok R.drop_raw ?_);obtain⟨xs,m,hi,hNN,hn,hs⟩:=G8 hs;obtain⟨hm,hxl⟩:=hi.mlenR hNN hK
 repeat (first|((with_reducible refine Ax ?_);first|refine Ag hs ?_|fail)|with_reducible refine Ah hs λb_ w hs=>?_|fail)
 refine(Xk R hs (by omega) (by omega)).mono λe w ⟨he,hs⟩=>⟨_,_,_,he,?_⟩;cases hg:AC m key with
 | none=>
  repeat (first|((with_reducible refine AS ?_);first|refine A0 hs λw hs=>?_|fail)|with_reducible refine Ah hs λb_ w hs=>?_|fail)
  refine Ac rfl ?_;obtain⟨_,h2,_,h4⟩:=hi.miss hg;rw[h2];exact⟨rfl,FY h4 hNN (by exact Ab.fin hs)⟩
 | some p=>
  repeat (first|((with_reducible refine AS ?_);first|refine A0 hs λw hs=>?_|fail)|with_reducible refine Ah hs λb_ w hs=>?_|fail)
  refine Ak rfl ?_;have hnd:∀row∈xs.map (·.2.1),(row.map (·.1)).Nodup:=by
   intro row hr;obtain⟨x,hx,rfl⟩:=List.mem_map.1 hr;obtain⟨j,hj⟩:=List.mem_iff_getElem?.1 hx;have h1:Ab W w (AO (xs.map Fc)::M):=by exact Ab.fin hs
   exact Ia (HN hj h1)
  obtain⟨j,row,i,h1,h2,h3,h4,h5⟩:=hi.hit hg hnd;obtain⟨x,hx,hxr⟩:∃x,xs[j]? = some x/\x.2.1=row:=by
   rw[List.getElem?_map] at h2;cases hx:xs[j]? with
   | none=>rw[hx] at h2;cases h2
   | some x=>rw[hx] at h2;exact⟨x,rfl,by simpa using h2⟩
  have hjl:j<xs.length:=(List.getElem?_eq_some_iff.1 hx).1;have hp1:((some p).getD ((0,0):Int×Int)).1=(j:Int):=h1;have hp2:((some p).getD ((0,0):Int×Int)).2=p.2:=rfl;rw[hp1,hp2] at hs;refine As hs λw hs=>?_;refine Am (x:=s) ?_;refine Am ?_;refine AK hs λb_ o_ hs=>?_;refine Bn hs ?_;refine Ag hs ?_;refine Ae hs ?_;rw[Int.toNat_natCast,Jp hx];have hl:=hNN x (List.mem_of_getElem? hx);have hs:=HN (M:=ixr Rec.ii xb 0 (Cr m key)::recs Rec.ptr s (xs.map (·.1))::M) hx (by exact Ab.fin hs);refine AH (HG hs (by omega) (x:=p.2)) λe w ⟨he,hs⟩=>⟨_,_,he,?_⟩
  subst hxr;rw[h3] at hs;simp only at hs;have hs:=Qz hx hs;have hset:(xs.set j (x.1,x.2.1.eraseIdx i,x.2.2++[(p.2).toNat])).map (·.1)=xs.map (·.1):=by
   rw[List.map_set];refine Ss ?_;rw[List.getElem?_map,hx];rfl
  refine⟨rfl,FY (xs:=xs.set j (x.1,x.2.1.eraseIdx i,x.2.2++[(p.2).toNat])) (m:=Cr m key) ?_ ?_ ?_⟩
  ·rw[List.map_set];exact h5
  ·intro y hy;rcases List.mem_or_eq_of_mem_set hy with hy|rfl
   ·exact hNN y hy
   ·simp only[List.length_eraseIdx,List.length_append,List.length_cons,List.length_nil];split <;> omega
  ·rw[hset];exact Ab.fin hs
theorem Qn{xs:List HM}{j:Nat}(hj:j<xs.length):∃x,xs[j]? = some x:=⟨_,List.getElem?_eq_getElem hj⟩
theorem JZ{N':Nat}(h:Ab W w (rowsC s xb N K::M))(hN:N<=N'):Ab W w (rowsC s xb N' K::M):=by
 obtain⟨xs,m,hi,hNN,hn,h⟩:=G8 h;exact FY hi (λy hy=>Nat.le_trans (hNN y hy) hN) h
theorem Abn(h:Ab W w (rowsC s xb N K::M)):∀j,(K.getD j []).length<=N:=by
 obtain⟨xs,m,hi,hNN,hn,h⟩:=G8 h;intro j;rw[List.getD_eq_getElem?_getD];cases hx:xs[j]? with
 | none=>
  have:K[j]? = none:=by rw[List.getElem?_eq_none_iff] at hx ⊢;have:=hi.klen;simp at this;omega
  rw[this];simp
 | some x=>
  have:K[j]? = some (x.2.1.map (·.2)):=hi.row (by rw[List.getElem?_map,hx];rfl);rw[this];have:=hNN x (List.mem_of_getElem? hx);simp;omega
theorem FQ(h:Ab W w L)[hA:At L xb (rowsC s xb N K) F]{j:Nat}(hj:j<K.length)(hz:key.size<64)(hN:N<100000000)(hK:K.length<=4)(hl:(K.getD j []).length<N):Calls PR R.i_push #[.agg #[.l s.a s.n s.c,pq xb 0],.i (j:Int),.s key] w λe w'=>e = .returned (.tuple #[])/\Ab W w' (F (rowsC s xb N (DJ K j key))):=by
 refine At.call1 (hA:=hA) h λM hs=>?_;clear h hA;refine c1 (cw R.push_ok R.push_raw ?_);refine Ah hs λb1 w hs=>?_
 repeat (first|((with_reducible refine Ax ?_);first|refine Ag hs ?_|fail)|fail)
 refine Ar (C0 R hs hz hN hK) λe w ⟨he,hs⟩=>⟨he,?_⟩;have hs:Ab W w (rowsC s xb N (DY K key)::blk b1 [.l s.a s.n s.c,pq xb 0]::M):=by exact Ab.fin hs
 have hKT:(DY K key).length=K.length:=by unfold DY;simp
 obtain⟨xs,m,hi,hNN,hn,hs⟩:=G8 hs;obtain⟨hm,hxl⟩:=hi.mlenR hNN (by omega);obtain⟨x,hx⟩:=Qn (xs:=xs) (j:=j) (by omega);have hl:=hNN x (List.mem_of_getElem? hx);refine Ao [blk b1 [.l s.a s.n s.c,pq xb 0]] hs λw hs=>?_;refine Am ?_;refine Ag (x:=s) hs ?_;refine Ae hs ?_;refine AK hs λb_ o_ hs=>?_;refine Bb hs ?_;refine Ae hs ?_;rw[Int.toNat_natCast,Jp hx];have hs:=HN (M:=recs Rec.ptr s (xs.map (·.1))::ixr Rec.ii xb 0 m::blk b1 [.l s.a s.n s.c,pq xb 0]::M) hx (by exact Ab.fin hs);refine An (Gn hs (by omega) (v:=key)) λe w ⟨he,hs⟩=>⟨_,he,?_⟩
 have hs:=Qz hx hs;refine Ae hs ?_;refine An (Alh R hs (v:=((j:Int),(Li x.2.1 x.2.2:Int))) (by omega) hi.small_m (by omega)) λe w ⟨he,hs⟩=>⟨_,he,?_⟩;have hset:(xs.set j (x.1,x.2.1++[(Li x.2.1 x.2.2,key)],x.2.2.dropLast)).map (·.1)=xs.map (·.1):=by
  rw[List.map_set];refine Ss ?_;rw[List.getElem?_map,hx];rfl
 refine⟨rfl,FY (xs:=xs.set j (x.1,x.2.1++[(Li x.2.1 x.2.2,key)],x.2.2.dropLast)) (m:=CE m key ((j:Int),(Li x.2.1 x.2.2:Int))) ?_ ?_ ?_⟩
 ·rw[List.map_set];exact hi.push (Alo K key) hz (by rw[List.getElem?_map,hx];rfl) _
 ·intro y hy;rcases List.mem_or_eq_of_mem_set hy with hy|rfl
  ·exact hNN y hy
  ·have h1:x.2.1.length<=(K.getD j []).length:=by
    have h2:=hi.row (j:=j) (row:=x.2.1) (by rw[List.getElem?_map,hx];rfl);unfold DY at h2;rw[List.getElem?_map] at h2;rw[List.getD_eq_getElem?_getD];cases hk:K[j]? with
    | none=>rw[hk] at h2;cases h2
    | some r=>
     rw[hk] at h2;have h3:(Aq r key).length=(x.2.1.map (·.2)).length:=congrArg List.length (Option.some.inj h2);have h4:=BM r key;rw[List.length_map] at h3;show x.2.1.length<=r.length;omega
   simp only[List.length_append,List.length_dropLast,List.length_cons,List.length_nil];omega
 ·rw[hset];exact Ab.fin hs
theorem BW(h:Ab W w L)[hA:At L xb (rowsC s xb N K) F]{j:Nat}(hj:j<K.length)(hK:K.length<=4):Calls PR R.i_oldest #[.agg #[.l s.a s.n s.c,pq xb 0],.i (j:Int)] w λe w'=>e = .returned (.s (C3 (K.getD j [])))/\Ab W w' (F (rowsC s xb N K)):=by
 refine At.call1 (hA:=hA) h λM hs=>?_;clear h hA;refine c1 (cw R.oldest_ok R.oldest_raw ?_);refine Ah hs λb1 w hs=>?_;have hs:Ab W w (rowsC s xb N K::blk b1 [.l s.a s.n s.c,pq xb 0]::M):=by exact Ab.fin hs
 obtain⟨xs,m,hi,hNN,hn,hs⟩:=G8 hs;have hxl:xs.length=K.length:=(hi.mlenR hNN hK).2;obtain⟨x,hx⟩:=Qn (xs:=xs) (j:=j) (by omega);refine Ao [blk b1 [.l s.a s.n s.c,pq xb 0],recs Rec.ptr s (xs.map (·.1))] hs λw hs=>?_;refine Am (x:=s) ?_;refine AK hs λb_ o_ hs=>?_;refine Bn hs ?_;refine Ag (x:=s) hs ?_;refine Ae hs ?_;refine BT hs ?_;refine Bb hs ?_;refine Ae hs ?_;rw[Int.toNat_natCast,Jp hx];have hs:=HN (M:=recs Rec.ptr s (xs.map (·.1))::ixr Rec.ii xb 0 m::blk b1 [.l s.a s.n s.c,pq xb 0]::M) hx (by exact Ab.fin hs)
 refine An (E6 hs) λe w ⟨he,hs⟩=>⟨_,he,?_⟩;refine Ae hs ?_;have hnd:=Ia hs;refine AH (FR hs) λe w ⟨he,hs⟩=>⟨_,_,he,?_⟩;have hs:=M1 hx hs;have hKj:K.getD j []=x.2.1.map (·.2):=by
  rw[List.getD_eq_getElem?_getD,hi.row (j:=j) (row:=x.2.1) (by rw[List.getElem?_map,hx];rfl)];rfl
 have e1:(FO x.2.1 ((Bo x.2.1 0:Nat):Int)).getD Af=C3 (K.getD j []):=by
  rw[hKj];cases hr:x.2.1 with
  | nil=>rfl
  | cons a l=>
   rw[hr] at hnd;have:JX (a::l) ((Bo (a::l) 0:Nat):Int)=some 0:=KU hnd rfl;unfold FO;rw[this];rfl
 exact⟨by rw[e1],FY hi hNN (by exact Ab.fin hs)⟩
theorem Als{o:Sl}{js:List Nat}(hs:Ab W w (rowsC s xb N K::recs Rec.nat o js::M))(hj:∀i,i<js.length->js.getD i default<K.length)(hN:N<100000000)(hK:K.length<=4)(hl:js.length<=4) :
  Calls PR R.i_many #[.agg #[.l s.a s.n s.c,pq xb 0],.l o.a o.n o.c] w λe w'=>e = .returned (.i (Ca K js:Int))/\Ab W w' (rowsC s xb N K::recs Rec.nat o js::M):=by
 refine c1 (cw R.many_ok R.many_raw ?_);refine Ah hs λb1 w hs=>?_;have hrl:=Abn (w:=w) (W:=W) (M:=recs Rec.nat o js::M) (s:=s) (xb:=xb) (N:=N) (K:=K) (by exact Ab.fin hs);have hlen:=Bt (s:=o) (rows:=js) hs;have loop:∀(f j:Nat)(w:World)(acc:Int),j+f=js.length->acc=(Ca K (js.take j):Int)/\acc<=j*N->Ab W w (blk b1 [.l s.a s.n s.c,pq xb 0]::rowsC s xb N K::recs Rec.nat o js::M) ->
   R.many_l1 By (λv w'=>v = .i (Ca K js:Int)/\Ab W w' (rowsC s xb N K::recs Rec.nat o js::M)) (f+1) b1 0 acc o (o.n:Int) (j:Int) w:=by
  clear hs;intro f
  induction f with
  | zero=>
   intro j w acc hif hacc hs;rw[R.many_l1_raw];refine Ac (decide_eq_false (by omega)) ?_;refine jw R.many_j2_raw ?_;rw[List.take_of_length_le (by omega)] at hacc;exact⟨by rw[hacc.1],by exact Ab.fin hs⟩
  | succ f ih=>
   intro j w acc hif hacc hs;rw[R.many_l1_raw];refine Ak (decide_eq_true (by omega)) ?_;refine AB (rows:=js) hs λb_ o_ ha_=>?_;refine AE (rows:=js) ha_ hs ?_;refine Ag (x:=s) hs ?_;rw[Int.toNat_natCast];have hjj:=hj j (by omega);have hs:Ab W w (rowsC s xb N K::blk b1 [.l s.a s.n s.c,pq xb 0]::recs Rec.nat o js::M):=by exact Ab.fin hs
   obtain⟨xs,m,hi,hNN,hn,hs⟩:=G8 hs;have hxl:xs.length=K.length:=(hi.mlenR hNN hK).2;obtain⟨x,hx⟩:=Qn (xs:=xs) (j:=js.getD j default) (by omega);refine AK hs λb_ o_ hs=>?_;refine Bb hs ?_;rw[Int.toNat_natCast,Jp hx];have hs:=HN (M:=recs Rec.ptr s (xs.map (·.1))::ixr Rec.ii xb 0 m::blk b1 [.l s.a s.n s.c,pq xb 0]::recs Rec.nat o js::M) hx (by exact Ab.fin hs);refine An (FS hs) λe w ⟨he,hs⟩=>⟨_,he,?_⟩;have hs:=M1 hx hs;have hKj:K.getD (js.getD j default) []=x.2.1.map (·.2):=by
    rw[List.getD_eq_getElem?_getD,hi.row (j:=js.getD j default) (row:=x.2.1) (by rw[List.getElem?_map,hx];rfl)];rfl
   have hsn:=Vj (K:=K) (js:=js) (j:=j) (by omega);have hb:=hrl (js.getD j default);rw[hKj,List.length_map] at hsn hb;have hs:Ab W w (rowsC s xb N K::blk b1 [.l s.a s.n s.c,pq xb 0]::recs Rec.nat o js::M):=FY hi hNN (by exact Ab.fin hs);have hmul:(j:Int)*N<=4*N:=by exact_mod_cast Nat.mul_le_mul_right N (show j<=4 by omega)
   have hmul2:((j+1:Nat):Int)*N=(j:Int)*N+N:=by rw[Int.natCast_add,Int.add_mul];omega
   rw[show IntKind.wrap .i64 ((j:Int)+1)=((j+1:Nat):Int) by rw[i64_in _ (by omega)];omega,i64_in (acc+_) (by omega)];exact ih (j+1) w _ (by omega) ⟨by omega,by omega⟩ (by exact Ab.fin hs)
 refine AR (js.length+1) ?_;exact loop js.length 0 w 0 (by omega) ⟨rfl,by omega⟩ (by exact Ab.fin hs)
theorem Alr{o:Sl}{js:List Nat}(hs:Ab W w (rowsC s xb N K::recs Rec.nat o js::M))(hj:∀i,i<js.length->js.getD i default<K.length)(hN:N<100000000)(hK:K.length<=4)(hl:js.length<=4) :
  Calls PR R.i_keys #[.agg #[.l s.a s.n s.c,pq xb 0],.l o.a o.n o.c] w λe w'=>∃l:Sl,e = .returned (.l l.a l.n l.c)/\Ab W w' (recs Rec.str l (FD K js)::rowsC s xb N K::recs Rec.nat o js::M):=by
 refine(cw R.keys_ok R.keys_raw (Q:=λv w'=>∃l:Sl,v = .l l.a l.n l.c/\Ab W w' (recs Rec.str l (FD K js)::rowsC s xb N K::recs Rec.nat o js::M)) ?_).mono λe w' ⟨v,he,l,hv,hs⟩=>⟨l,by rw[he,hv],hs⟩;refine Ah hs λb1 w hs=>?_;have hrl:=Abn (w:=w) (W:=W) (M:=recs Rec.nat o js::M) (s:=s) (xb:=xb) (N:=N) (K:=K) (by exact Ab.fin hs);have hlen:=Bt (s:=o) (rows:=js) hs;have hs:=Ab.nilR Rec.str hs;have loop:∀(f j:Nat)(w:World)(acc:Sl),j+f=js.length->Ca K (js.take j)<=j*N->Ab W w (recs Rec.str acc (FD K (js.take j))::blk b1 [.l s.a s.n s.c,pq xb 0]::rowsC s xb N K::recs Rec.nat o js::M) ->
   R.keys_l1 By (λv w'=>∃l:Sl,v = .l l.a l.n l.c/\Ab W w' (recs Rec.str l (FD K js)::rowsC s xb N K::recs Rec.nat o js::M)) (f+1) b1 0 acc o (o.n:Int) (j:Int) w:=by
  clear hs;intro f
  induction f with
  | zero=>
   intro j w acc hif hacc hs;rw[R.keys_l1_raw];refine Ac (decide_eq_false (by omega)) ?_;refine jw R.keys_j2_raw ?_;rw[List.take_of_length_le (by omega)] at hs;exact⟨acc,rfl,by exact Ab.fin hs⟩
  | succ f ih=>
   intro j w acc hif hacc hs;rw[R.keys_l1_raw];refine Ak (decide_eq_true (by omega)) ?_;refine AB (rows:=js) hs λb_ o_ ha_=>?_;refine AE (rows:=js) ha_ hs ?_;refine Ag (x:=s) hs ?_;rw[Int.toNat_natCast];have hjj:=hj j (by omega);have hs:Ab W w (rowsC s xb N K::recs Rec.str acc (FD K (js.take j))::blk b1 [.l s.a s.n s.c,pq xb 0]::recs Rec.nat o js::M):=by exact Ab.fin hs
   obtain⟨xs,m,hi,hNN,hn,hs⟩:=G8 hs;have hxl:xs.length=K.length:=(hi.mlenR hNN hK).2;obtain⟨x,hx⟩:=Qn (xs:=xs) (j:=js.getD j default) (by omega);have hnx:=hNN x (List.mem_of_getElem? hx);refine AK hs λb_ o_ hs=>?_;refine Bb hs ?_;rw[Int.toNat_natCast,Jp hx];have hs:=HN (M:=recs Rec.ptr s (xs.map (·.1))::ixr Rec.ii xb 0 m::recs Rec.str acc (FD K (js.take j))::blk b1 [.l s.a s.n s.c,pq xb 0]::recs Rec.nat o js::M) hx (by exact Ab.fin hs);refine An (Lb hs (by omega)) λe w ⟨ks,he,hs⟩=>⟨_,he,?_⟩;have hs:=M1 (M:=recs Rec.str ks (x.2.1.map (·.2))::recs Rec.ptr s (xs.map (·.1))::ixr Rec.ii xb 0 m::recs Rec.str acc (FD K (js.take j))::blk b1 [.l s.a s.n s.c,pq xb 0]::recs Rec.nat o js::M) hx (by exact Ab.fin hs)
   have hKj:K.getD (js.getD j default) []=x.2.1.map (·.2):=by
    rw[List.getD_eq_getElem?_getD,hi.row (j:=js.getD j default) (row:=x.2.1) (by rw[List.getElem?_map,hx];rfl)];rfl
   have hsn:=Vj (K:=K) (js:=js) (j:=j) (by omega);have hkn:=Af5 (K:=K) (js:=js) (j:=j) (by omega);have hkl:=Alm K (js.take j);have hb:=hrl (js.getD j default);rw[hKj,List.length_map] at hsn hb;rw[hKj] at hkn;have hmul:j*N<=4*N:=Nat.mul_le_mul_right N (show j<=4 by omega);have hmul2:(j+1)*N=j*N+N:=Nat.succ_mul j N;have hn2:=Bt (s:=ks) hs;have hs:Ab W w (rowsC s xb N K::recs Rec.str acc (FD K (js.take j))::recs Rec.str ks (x.2.1.map (·.2))::blk b1 [.l s.a s.n s.c,pq xb 0]::recs Rec.nat o js::M):=FY hi hNN (by exact Ab.fin hs);refine DK (s:=acc) (new:=x.2.1.map (λe:Nat×BA=>e.2)) hs (GS (s:=ks) hs) hn2 (Cx _) rfl (by decide) (by rw[List.length_map];omega) λs2 w hs2 hs=>?_
   rw[<- hkn] at hs;rw[show IntKind.wrap .i64 ((j:Int)+1)=((j+1:Nat):Int) by rw[i64_in _ (by omega)];omega]
   exact ih (j+1) w s2 (by omega) (by omega) (by exact Ab.fin hs)
 refine AR (js.length+1) ?_;exact loop js.length 0 w ⟨none,0,0⟩ (by omega) (by simp[Ca]) (by exact Ab.fin hs)
theorem AV{o n:Nat}{cs:List Value}(js:List Nat){Q:Int->WP}(hs:Ab W w (blk o cs::rowsC s xb N K::M))(hN:N<100000000){nr:Nat}(hK:K.length=nr)(hQ:∀w,Ab W w (rowsC s xb N K::M)->Q (Ca K js:Int) w)
  (hc:Rec.nat.flat js=cs:=by exact rfl) (hn:js.length=n:=by exact rfl) (hj:∀i,i<js.length->js.getD i default<nr:=by decide) (hl:js.length<=4:=by decide) (h4:nr<=4:=by decide) :
  call1 (.int .i64) PR R.i_many [.agg #[.l s.a s.n s.c,pq xb 0],.l (some ⟨o,0,none⟩) n n] Q w:=by
 have hs:=Ab.blkS (b:=o) (cs:=cs) Rec.nat js hs hc hn;have hs:Ab W w (rowsC s xb N K::recs Rec.nat ⟨some ⟨o,0,none⟩,n,n⟩ js::M):=by exact Ab.fin hs
 exact An (Als R (o:=⟨some ⟨o,0,none⟩,n,n⟩) (js:=js) hs (by rw[hK];exact hj) hN (by omega) hl) λe w ⟨he,hs⟩=>⟨_,he,hQ w (by exact Ab.fin hs)⟩
theorem Qj{o n:Nat}{cs:List Value}(js:List Nat){Q:Sl->WP}(hs:Ab W w (blk o cs::rowsC s xb N K::M))(hN:N<100000000){nr:Nat}(hK:K.length=nr)(hQ:∀l w,Ab W w (recs Rec.str l (FD K js)::rowsC s xb N K::M)->Q l w)
  (hc:Rec.nat.flat js=cs:=by exact rfl) (hn:js.length=n:=by exact rfl) (hj:∀i,i<js.length->js.getD i default<nr:=by decide) (hl:js.length<=4:=by decide) (h4:nr<=4:=by decide) :
  call1 .slc PR R.i_keys [.agg #[.l s.a s.n s.c,pq xb 0],.l (some ⟨o,0,none⟩) n n] Q w:=by
 have hs:=Ab.blkS (b:=o) (cs:=cs) Rec.nat js hs hc hn;have hs:Ab W w (rowsC s xb N K::recs Rec.nat ⟨some ⟨o,0,none⟩,n,n⟩ js::M):=by exact Ab.fin hs
 exact An (Alr R (o:=⟨some ⟨o,0,none⟩,n,n⟩) (js:=js) hs (by rw[hK];exact hj) hN (by omega) hl) λe w ⟨l,he,hs⟩=>⟨l,he,hQ l w (by exact Ab.fin hs)⟩
theorem Mo{nr:Nat}(hnr:nr<=4)(hs:Ab W w L):Calls PR R.i_newRows #[.i (nr:Int)] w λe w'=>∃(s:Sl) (xb:Nat),e = .returned (.agg #[.l s.a s.n s.c,pq xb 0])/\Ab W w' (rowsC s xb 0 (List.replicate nr [])::L):=by
 refine(cw R.newRows_ok R.newRows_raw (Q:=λv w'=>∃(s:Sl) (xb:Nat),v = .agg #[.l s.a s.n s.c,pq xb 0]/\Ab W w' (rowsC s xb 0 (List.replicate nr [])::L)) ?_).mono λe w' ⟨v,he,s,xb,hv,hs⟩=>⟨s,xb,by rw[he,hv],hs⟩;refine Ah hs λb1 w hs=>?_;refine An (Alg R hs) λe w ⟨xb,he,hs⟩=>⟨_,he,?_⟩;refine Ah hs λb3 w hs=>?_;refine A0 hs λw hs=>?_;refine A0 hs λw hs=>?_;have hs:=Ab.nilR Rec.ptr hs;have hs:=Ab.shutL (Ps:=[]) hs;have loop:∀(f j:Nat)(w:World)(acc:Sl)(bs:List Nat),j+f=nr->bs.length=j->Ab W w (AO (bs.map λb=>lst .s b [] [])::recs Rec.ptr acc bs::blk b3 [.l acc.a acc.n acc.c,pq xb 0]::ixr Rec.ii xb 0 []::blk b1 [.l none 0 0,.p none]::L) ->
   R.newRows_l1 By (λv w'=>∃(s:Sl) (xb:Nat),v = .agg #[.l s.a s.n s.c,pq xb 0]/\Ab W w' (rowsC s xb 0 (List.replicate nr [])::L)) (f+1) b1 0 b3 0 (nr:Int) (j:Int) w:=by
  clear hs;intro f
  induction f with
  | zero=>
   intro j w acc bs hif hj hs;rw[R.newRows_l1_raw];refine Ac (decide_eq_false (by omega)) ?_;refine jw R.newRows_j2_raw ?_;refine Ag (x:=acc) hs ?_;refine Ag hs ?_;refine A0 hs λw hs=>?_;refine A0 hs λw hs=>?_;refine Ag (x:=acc) hs ?_;refine Ag hs ?_;refine⟨acc,xb,rfl,?_⟩;have e1:(bs.map λb=>((b,[],[]):HM)).map (·.1)=bs:=by rw[List.map_map];exact List.map_id _
   have e2:(bs.map λb=>((b,[],[]):HM)).map Fc=bs.map λb=>lst .s b [] []:=by rw[List.map_map];rfl
   have e3:(bs.map λb=>((b,[],[]):HM)).map (·.2.1)=List.replicate nr []:=by
    rw[List.map_map,show nr=bs.length by omega];exact List.map_const' ..
   refine FY (xs:=bs.map λb=>(b,[],[])) (m:=[]) ?_ ?_ ?_
   ·rw[e3];exact Auk nr
   ·intro y hy;obtain⟨b,_,rfl⟩:=List.mem_map.1 hy;exact Nat.le_refl _
   ·rw[e1,e2];exact Ab.fin hs
  | succ f ih=>
   intro j w acc bs hif hj hs;rw[R.newRows_l1_raw];refine Ak (decide_eq_true (by omega)) ?_;refine Ao [blk b3 [.l acc.a acc.n acc.c,pq xb 0]] hs λw hs=>?_;refine Am (x:=acc) ?_;refine An (IQ hs) λe w ⟨lb,he,hs⟩=>⟨_,he,?_⟩;refine Ae hs ?_;refine Ah hs λnb w hs=>?_;refine Ae hs ?_;refine Cf (s:=acc) (a:=lb) hs rfl rfl rfl rfl (by decide) (by omega) λs2 w hs2 hs=>?_;refine A0 hs λw hs=>?_;rw[show IntKind.wrap .i64 ((j:Int)+1)=((j+1:Nat):Int) by rw[i64_in _ (by omega)];omega]
   refine ih (j+1) w s2 (bs++[lb]) (by omega) (by simp;omega) ?_;have hs:Ab W w (AO (bs.map λb=>lst .s b [] [])::lst .s lb [] []::recs Rec.ptr s2 (bs++[lb])::blk b3 [.l s2.a s2.n s2.c,pq xb 0]::ixr Rec.ii xb 0 []::blk b1 [.l none 0 0,.p none]::L):=by exact Ab.fin hs
   rw[List.map_append];refine Ab.shutL ?_;have h2:=hs.openL;rw[List.append_assoc];exact h2
 refine AR (nr+1) ?_;exact loop nr 0 w ⟨none,0,0⟩ [] (by omega) rfl (by exact Ab.fin hs)
end
end Go.Proofs.YtjipofkjmmpjdaaGreat
namespace Go.Hb
theorem Fv:∀{a b:List BA},a.Nodup->(∀k∈a,k∈b)->a.length<=b.length
 | [],_,_,_=>by simp
 | k::a,b,hn,hs=>by
  rw[List.nodup_cons] at hn;have h1:∀j∈a,j∈Aq b k:=λj hj=>AT.2 ⟨hs j (.tail _ hj),λh=>hn.1 (by rw[<- h];exact hj)⟩
  have h2:=Fv hn.2 h1;have h3:(Aq b k).length<b.length:=List.length_filter_lt_length_iff_exists.2 ⟨k,hs k (.head _),by simp⟩;simp only[List.length_cons];omega
section
variable{i o a:BL}{key:BA}{W w:World}{M:List HP}{s:Sl}{xb N:Nat}
theorem lt3{j:Nat}(h:j<3):j<[i,o,a].length:=h
theorem A81:[i,o,a].flatten=i++(o++a):=by simp
theorem SC(i o a:BL)(key:BA):(ED [i,o,a] key=0/\key∈i)\/(ED [i,o,a] key=1/\key∉i/\key∈o)\/(ED [i,o,a] key=2/\key∉i/\key∉o/\key∈a)\/(ED [i,o,a] key = -1/\key∉i/\key∉o/\key∉a):=by
 unfold ED
 by_cases h0:key∈i
 ·left;simp[List.findIdx?_cons,Gz,h0]
 by_cases h1:key∈o
 ·right;left;simp[List.findIdx?_cons,Gz,h0,h1]
 by_cases h2:key∈a
 ·right;right;left;simp[List.findIdx?_cons,Gz,h0,h1,h2]
 ·right;right;right;simp[List.findIdx?_cons,Gz,h0,h1,h2]
theorem Xp{K:List BL}(h:Ab W w (rowsC s xb N K::M)):K.flatten.Nodup/\∀k∈K.flatten,k.size<64:=by
 obtain⟨xs,m,hi,_⟩:=G8 h;exact⟨hi.nd,hi.small⟩
structure Nd3(i o a:BL):Prop where
 ni:i.Nodup
 no:o.Nodup
 na:a.Nodup
 io:∀x∈i,x∉o/\x∉a
 oa:∀x∈o,x∉a
 small:∀x,x∈i\/x∈o\/x∈a->x.size<64
theorem nd3(h:Ab W w (rowsC s xb N [i,o,a]::M)):Nd3 i o a:=by
 obtain⟨h1,h2⟩:=Xp h;rw[A81] at h1 h2;rw[List.nodup_append,List.nodup_append] at h1;obtain⟨h3,⟨h4,h5,h6⟩,h7⟩:=h1;exact⟨h3,h4,h5,λx hx=>⟨λh=>h7 x hx x (List.mem_append_left _ h) rfl,λh=>h7 x hx x (List.mem_append_right _ h) rfl⟩,λx hx h=>h6 x hx x h rfl,λx hx=>h2 x (by
  rcases hx with h|h|h
  ·exact List.mem_append_left _ h
  ·exact List.mem_append_right _ (List.mem_append_left _ h)
  ·exact List.mem_append_right _ (List.mem_append_right _ h))⟩
theorem Dk{l:BL}(h:0<l.length):C3 l∈l:=by
 cases l with
 | nil=>simp at h
 | cons x t=>exact .head _
theorem Mk{r:Int}:(if (if (1024:Int)<r then (1024:Int) else r)>(1:Int) then (if (1024:Int)<r then (1024:Int) else r) else (1:Int))=Bv r:=by unfold Bv;split <;> split <;> omega
theorem Mz.not{c:Int}{R g S:BL}{k:BA}(h:Mz c R g S)(hk:k∉R):k∉S:=by
 rcases h with⟨_,rfl,_⟩|⟨x,_,he,_⟩
 ·exact hk
 ·exact λh=>hk ((he.mem' k).1 h).1
end
end Go.Hb
namespace Go.Proofs.YtjipofkjmmpjdaaGreat
open Go.Hb
theorem Abk(R:RwF){W w:World}{L:List HP}{F:HP->List HP}{s:Sl}{xb j:Nat}{i o a:BL}{key:BA}(h:Ab W w L)[hA:At L xb (rowsC s xb 5000 [i,o,a]) F](hj:j<3)(hz:key.size<64)(hl:i.length+a.length<=1024/\o.length<=1024) :
  Calls PR R.i_push #[.agg #[.l s.a s.n s.c,pq xb 0],.i (j:Int),.s key] w λe w'=>e = .returned (.tuple #[])/\Ab W w' (F (rowsC s xb 5000 (DJ [i,o,a] j key))):=by
 refine FQ R (hA:=hA) h hj hz (by decide) (show 3<=4 by decide) ?_
 match j,hj with
 | 0,_=>show i.length<5000;omega
 | 1,_=>show o.length<5000;omega
 | 2,_=>show a.length<5000;omega
theorem IG(R:RwF){W w:World}{L:List HP}{F:HP->List HP}{s:Sl}{xb j:Nat}{K:List BL}{key:BA}(h:Ab W w L)[hA:At L xb (rowsC s xb 5000 K) F](hj:j<3)(hz:key.size<64)(hl:(K.getD j []).length<5000)(hK:K.length=3) :
  Calls PR R.i_push #[.agg #[.l s.a s.n s.c,pq xb 0],.i (j:Int),.s key] w λe w'=>e = .returned (.tuple #[])/\Ab W w' (F (rowsC s xb 5000 (DJ K j key))):=FQ R (hA:=hA) h (by omega) hz (by decide) (by omega) hl
end Go.Proofs.YtjipofkjmmpjdaaGreat
namespace Go.Proofs.YtjipofkjmmpjdaaGreat
open Go.Hb
noncomputable def AY:RwF where
 i_new:=208
 new_fn:=Tryz.f208
 new_kp:=Aw
 i_get:=265
 get_fn:=Tryz.f265
 get_kp:=EL
 i_put:=266
 put_fn:=Tryz.f266
 put_kp:=JI
 i_del:=267
 del_fn:=Tryz.f267
 del_kp:=Aw
 i_find:=268
 find_fn:=Tryz.f268
 find_kp:=AI
 i_lays:=269
 lays_fn:=Tryz.f269
 lays_kp:=EM
 i_grows:=270
 grows_fn:=Tryz.f270
 grows_kp:=Ec
 i_where:=256
 where_fn:=Tryz.f256
 where_kp:=Aw
 i_push:=257
 push_fn:=Tryz.f257
 push_kp:=P7
 i_many:=258
 many_fn:=Tryz.f258
 many_kp:=BP
 i_keys:=262
 keys_fn:=Tryz.f262
 keys_kp:=BP
 i_drop:=263
 drop_fn:=Tryz.f263
 drop_kp:=P8
 i_oldest:=264
 oldest_fn:=Tryz.f264
 oldest_kp:=P9
 i_newRows:=184
 newRows_fn:=Tryz.f184
 newRows_kp:=Dz
 p1:=374
 p2:=342
 p3:=317
 p4:=263
 new_ok:=⟨mixed,Tryz.func208,rfl⟩
 new_raw:=by intros;kernel_rfl
 get_j1_c:=Ajq
 get_ok:=⟨mixed,Tryz.func265,rfl⟩
 get_j1_raw:=by intros;kernel_rfl
 get_raw:=by intros;kernel_rfl
 put_ok:=⟨mixed,Tryz.func266,rfl⟩
 put_raw:=by intros;kernel_rfl
 del_ok:=⟨mixed,Tryz.func267,rfl⟩
 del_raw:=by intros;kernel_rfl
 find_j4_c:=Ajt
 find_j5_c:=Aju
 find_j3_c:=Ajs
 find_j2_c:=Ajr
 find_l1:=Ax4
 find_ok:=⟨mixed,Tryz.func268,rfl⟩
 find_j4_raw:=by intros;kernel_rfl
 find_j5_raw:=by intros;kernel_rfl
 find_j3_raw:=by intros;kernel_rfl
 find_j2_raw:=by intros;kernel_rfl
 find_l1_raw:=by intros;kernel_rfl
 find_raw:=by intros;kernel_rfl
 lays_j1_c:=Ajv
 lays_ok:=⟨mixed,Tryz.func269,rfl⟩
 lays_j1_raw:=by intros;kernel_rfl
 lays_raw:=by intros;kernel_rfl
 grows_l1:=Ax5
 grows_ok:=⟨mixed,Tryz.func270,rfl⟩
 grows_l1_raw:=by intros;kernel_rfl
 grows_raw:=by intros;kernel_rfl
 where_ok:=⟨mixed,Tryz.func256,rfl⟩
 where_raw:=by intros;kernel_rfl
 push_ok:=⟨mixed,Tryz.func257,rfl⟩
 push_raw:=by intros;kernel_rfl
 many_j2_c:=Ajo
 many_l1:=Axz
 many_ok:=⟨mixed,Tryz.func258,rfl⟩
 many_j2_raw:=by intros;kernel_rfl
 many_l1_raw:=by intros;kernel_rfl
 many_raw:=by intros;kernel_rfl
 keys_j2_c:=Ajp
 keys_l1:=Ax2
 keys_ok:=⟨mixed,Tryz.func262,rfl⟩
 keys_j2_raw:=by intros;kernel_rfl
 keys_l1_raw:=by intros;kernel_rfl
 keys_raw:=by intros;kernel_rfl
 drop_ok:=⟨mixed,Tryz.func263,rfl⟩
 drop_raw:=by intros;kernel_rfl
 oldest_ok:=⟨mixed,Tryz.func264,rfl⟩
 oldest_raw:=by intros;kernel_rfl
 newRows_j2_c:=Ajk
 newRows_l1:=Axe
 newRows_ok:=⟨mixed,Tryz.func184,rfl⟩
 newRows_j2_raw:=by intros;kernel_rfl
 newRows_l1_raw:=by intros;kernel_rfl
 newRows_raw:=by intros;kernel_rfl
noncomputable def Cy:RwF where
 i_new:=209
 new_fn:=Tryz.f209
 new_kp:=Aw
 i_get:=317
 get_fn:=Tryz.f317
 get_kp:=EL
 i_put:=318
 put_fn:=Tryz.f318
 put_kp:=JI
 i_del:=319
 del_fn:=Tryz.f319
 del_kp:=Aw
 i_find:=320
 find_fn:=Tryz.f320
 find_kp:=AI
 i_lays:=321
 lays_fn:=Tryz.f321
 lays_kp:=EM
 i_grows:=322
 grows_fn:=Tryz.f322
 grows_kp:=Ec
 i_where:=310
 where_fn:=Tryz.f310
 where_kp:=Aw
 i_push:=311
 push_fn:=Tryz.f311
 push_kp:=P7
 i_many:=314
 many_fn:=Tryz.f314
 many_kp:=BP
 i_keys:=316
 keys_fn:=Tryz.f316
 keys_kp:=BP
 i_drop:=312
 drop_fn:=Tryz.f312
 drop_kp:=P8
 i_oldest:=315
 oldest_fn:=Tryz.f315
 oldest_kp:=P9
 i_newRows:=186
 newRows_fn:=Tryz.f186
 newRows_kp:=Dz
 p1:=396
 p2:=345
 p3:=323
 p4:=275
 new_ok:=⟨mixed,Tryz.func209,rfl⟩
 new_raw:=by intros;kernel_rfl
 get_j1_c:=Ajy
 get_ok:=⟨mixed,Tryz.func317,rfl⟩
 get_j1_raw:=by intros;kernel_rfl
 get_raw:=by intros;kernel_rfl
 put_ok:=⟨mixed,Tryz.func318,rfl⟩
 put_raw:=by intros;kernel_rfl
 del_ok:=⟨mixed,Tryz.func319,rfl⟩
 del_raw:=by intros;kernel_rfl
 find_j4_c:=Aj1
 find_j5_c:=Aj2
 find_j3_c:=Aj0
 find_j2_c:=Ajz
 find_l1:=Ayw
 find_ok:=⟨mixed,Tryz.func320,rfl⟩
 find_j4_raw:=by intros;kernel_rfl
 find_j5_raw:=by intros;kernel_rfl
 find_j3_raw:=by intros;kernel_rfl
 find_j2_raw:=by intros;kernel_rfl
 find_l1_raw:=by intros;kernel_rfl
 find_raw:=by intros;kernel_rfl
 lays_j1_c:=Aj3
 lays_ok:=⟨mixed,Tryz.func321,rfl⟩
 lays_j1_raw:=by intros;kernel_rfl
 lays_raw:=by intros;kernel_rfl
 grows_l1:=Ayx
 grows_ok:=⟨mixed,Tryz.func322,rfl⟩
 grows_l1_raw:=by intros;kernel_rfl
 grows_raw:=by intros;kernel_rfl
 where_ok:=⟨mixed,Tryz.func310,rfl⟩
 where_raw:=by intros;kernel_rfl
 push_ok:=⟨mixed,Tryz.func311,rfl⟩
 push_raw:=by intros;kernel_rfl
 many_j2_c:=Ajw
 many_l1:=Ayr
 many_ok:=⟨mixed,Tryz.func314,rfl⟩
 many_j2_raw:=by intros;kernel_rfl
 many_l1_raw:=by intros;kernel_rfl
 many_raw:=by intros;kernel_rfl
 keys_j2_c:=Ajx
 keys_l1:=Ayt
 keys_ok:=⟨mixed,Tryz.func316,rfl⟩
 keys_j2_raw:=by intros;kernel_rfl
 keys_l1_raw:=by intros;kernel_rfl
 keys_raw:=by intros;kernel_rfl
 drop_ok:=⟨mixed,Tryz.func312,rfl⟩
 drop_raw:=by intros;kernel_rfl
 oldest_ok:=⟨mixed,Tryz.func315,rfl⟩
 oldest_raw:=by intros;kernel_rfl
 newRows_j2_c:=Ajl
 newRows_l1:=Axg
 newRows_ok:=⟨mixed,Tryz.func186,rfl⟩
 newRows_j2_raw:=by intros;kernel_rfl
 newRows_l1_raw:=by intros;kernel_rfl
 newRows_raw:=by intros;kernel_rfl
noncomputable def AN:RwF where
 i_new:=210
 new_fn:=Tryz.f210
 new_kp:=Aw
 i_get:=346
 get_fn:=Tryz.f346
 get_kp:=EL
 i_put:=347
 put_fn:=Tryz.f347
 put_kp:=JI
 i_del:=349
 del_fn:=Tryz.f349
 del_kp:=Aw
 i_find:=357
 find_fn:=Tryz.f357
 find_kp:=AI
 i_lays:=358
 lays_fn:=Tryz.f358
 lays_kp:=EM
 i_grows:=359
 grows_fn:=Tryz.f359
 grows_kp:=Ec
 i_where:=334
 where_fn:=Tryz.f334
 where_kp:=Aw
 i_push:=335
 push_fn:=Tryz.f335
 push_kp:=P7
 i_many:=336
 many_fn:=Tryz.f336
 many_kp:=BP
 i_keys:=341
 keys_fn:=Tryz.f341
 keys_kp:=BP
 i_drop:=340
 drop_fn:=Tryz.f340
 drop_kp:=P8
 i_oldest:=337
 oldest_fn:=Tryz.f337
 oldest_kp:=P9
 i_newRows:=187
 newRows_fn:=Tryz.f187
 newRows_kp:=Dz
 p1:=408
 p2:=348
 p3:=326
 p4:=281
 new_ok:=⟨mixed,Tryz.func210,rfl⟩
 new_raw:=by intros;kernel_rfl
 get_j1_c:=Aj6
 get_ok:=⟨mixed,Tryz.func346,rfl⟩
 get_j1_raw:=by intros;kernel_rfl
 get_raw:=by intros;kernel_rfl
 put_ok:=⟨mixed,Tryz.func347,rfl⟩
 put_raw:=by intros;kernel_rfl
 del_ok:=⟨mixed,Tryz.func349,rfl⟩
 del_raw:=by intros;kernel_rfl
 find_j4_c:=Aj9
 find_j5_c:=Aka
 find_j3_c:=Aj8
 find_j2_c:=Aj7
 find_l1:=Azr
 find_ok:=⟨mixed,Tryz.func357,rfl⟩
 find_j4_raw:=by intros;kernel_rfl
 find_j5_raw:=by intros;kernel_rfl
 find_j3_raw:=by intros;kernel_rfl
 find_j2_raw:=by intros;kernel_rfl
 find_l1_raw:=by intros;kernel_rfl
 find_raw:=by intros;kernel_rfl
 lays_j1_c:=Akb
 lays_ok:=⟨mixed,Tryz.func358,rfl⟩
 lays_j1_raw:=by intros;kernel_rfl
 lays_raw:=by intros;kernel_rfl
 grows_l1:=Azs
 grows_ok:=⟨mixed,Tryz.func359,rfl⟩
 grows_l1_raw:=by intros;kernel_rfl
 grows_raw:=by intros;kernel_rfl
 where_ok:=⟨mixed,Tryz.func334,rfl⟩
 where_raw:=by intros;kernel_rfl
 push_ok:=⟨mixed,Tryz.func335,rfl⟩
 push_raw:=by intros;kernel_rfl
 many_j2_c:=Aj4
 many_l1:=Ay4
 many_ok:=⟨mixed,Tryz.func336,rfl⟩
 many_j2_raw:=by intros;kernel_rfl
 many_l1_raw:=by intros;kernel_rfl
 many_raw:=by intros;kernel_rfl
 keys_j2_c:=Aj5
 keys_l1:=Aza
 keys_ok:=⟨mixed,Tryz.func341,rfl⟩
 keys_j2_raw:=by intros;kernel_rfl
 keys_l1_raw:=by intros;kernel_rfl
 keys_raw:=by intros;kernel_rfl
 drop_ok:=⟨mixed,Tryz.func340,rfl⟩
 drop_raw:=by intros;kernel_rfl
 oldest_ok:=⟨mixed,Tryz.func337,rfl⟩
 oldest_raw:=by intros;kernel_rfl
 newRows_j2_c:=Ajm
 newRows_l1:=Axi
 newRows_ok:=⟨mixed,Tryz.func187,rfl⟩
 newRows_j2_raw:=by intros;kernel_rfl
 newRows_l1_raw:=by intros;kernel_rfl
 newRows_raw:=by intros;kernel_rfl
noncomputable def Ce:RwF where
 i_new:=211
 new_fn:=Tryz.f211
 new_kp:=Aw
 i_get:=377
 get_fn:=Tryz.f377
 get_kp:=EL
 i_put:=382
 put_fn:=Tryz.f382
 put_kp:=JI
 i_del:=383
 del_fn:=Tryz.f383
 del_kp:=Aw
 i_find:=381
 find_fn:=Tryz.f381
 find_kp:=AI
 i_lays:=384
 lays_fn:=Tryz.f384
 lays_kp:=EM
 i_grows:=385
 grows_fn:=Tryz.f385
 grows_kp:=Ec
 i_where:=370
 where_fn:=Tryz.f370
 where_kp:=Aw
 i_push:=378
 push_fn:=Tryz.f378
 push_kp:=P7
 i_many:=372
 many_fn:=Tryz.f372
 many_kp:=BP
 i_keys:=375
 keys_fn:=Tryz.f375
 keys_kp:=BP
 i_drop:=380
 drop_fn:=Tryz.f380
 drop_kp:=P8
 i_oldest:=379
 oldest_fn:=Tryz.f379
 oldest_kp:=P9
 i_newRows:=190
 newRows_fn:=Tryz.f190
 newRows_kp:=Dz
 p1:=414
 p2:=351
 p3:=335
 p4:=291
 new_ok:=⟨mixed,Tryz.func211,rfl⟩
 new_raw:=by intros;kernel_rfl
 get_j1_c:=Ake
 get_ok:=⟨mixed,Tryz.func377,rfl⟩
 get_j1_raw:=by intros;kernel_rfl
 get_raw:=by intros;kernel_rfl
 put_ok:=⟨mixed,Tryz.func382,rfl⟩
 put_raw:=by intros;kernel_rfl
 del_ok:=⟨mixed,Tryz.func383,rfl⟩
 del_raw:=by intros;kernel_rfl
 find_j4_c:=Akh
 find_j5_c:=Aki
 find_j3_c:=Akg
 find_j2_c:=Akf
 find_l1:=Az7
 find_ok:=⟨mixed,Tryz.func381,rfl⟩
 find_j4_raw:=by intros;kernel_rfl
 find_j5_raw:=by intros;kernel_rfl
 find_j3_raw:=by intros;kernel_rfl
 find_j2_raw:=by intros;kernel_rfl
 find_l1_raw:=by intros;kernel_rfl
 find_raw:=by intros;kernel_rfl
 lays_j1_c:=Akj
 lays_ok:=⟨mixed,Tryz.func384,rfl⟩
 lays_j1_raw:=by intros;kernel_rfl
 lays_raw:=by intros;kernel_rfl
 grows_l1:=Az8
 grows_ok:=⟨mixed,Tryz.func385,rfl⟩
 grows_l1_raw:=by intros;kernel_rfl
 grows_raw:=by intros;kernel_rfl
 where_ok:=⟨mixed,Tryz.func370,rfl⟩
 where_raw:=by intros;kernel_rfl
 push_ok:=⟨mixed,Tryz.func378,rfl⟩
 push_raw:=by intros;kernel_rfl
 many_j2_c:=Akc
 many_l1:=Azy
 many_ok:=⟨mixed,Tryz.func372,rfl⟩
 many_j2_raw:=by intros;kernel_rfl
 many_l1_raw:=by intros;kernel_rfl
 many_raw:=by intros;kernel_rfl
 keys_j2_c:=Akd
 keys_l1:=Az2
 keys_ok:=⟨mixed,Tryz.func375,rfl⟩
 keys_j2_raw:=by intros;kernel_rfl
 keys_l1_raw:=by intros;kernel_rfl
 keys_raw:=by intros;kernel_rfl
 drop_ok:=⟨mixed,Tryz.func380,rfl⟩
 drop_raw:=by intros;kernel_rfl
 oldest_ok:=⟨mixed,Tryz.func379,rfl⟩
 oldest_raw:=by intros;kernel_rfl
 newRows_j2_c:=Ajn
 newRows_l1:=Axn
 newRows_ok:=⟨mixed,Tryz.func190,rfl⟩
 newRows_j2_raw:=by intros;kernel_rfl
 newRows_l1_raw:=by intros;kernel_rfl
 newRows_raw:=by intros;kernel_rfl
end Go.Proofs.YtjipofkjmmpjdaaGreat
namespace Go.Hb
open Go.Proofs.YtjipofkjmmpjdaaGreat
abbrev cA(b:Nat)(s:Sl)(xb:Nat)(c p:Int):HP:=blk b [.l s.a s.n s.c,pq xb 0,.i c,.i p]
structure AcI(c p:Int)(R t1 t2 b1 b2:BL):Prop where
 eq:R=t1++t2
 ok:DR c R
 p0:0<=p/\p<=c
 l1:(t1.length:Int)+b1.length<=c
 tot:([t1,t2,b1,b2].flatten.length:Int)<=2*c
def Lv(b:Nat)(c:Int)(R:BL):HP:=Ks λ(z:(Sl×Nat×Int)×(BL×BL×BL×BL))=>F6 (AcI c z.1.2.2 R z.2.1 z.2.2.1 z.2.2.2.1 z.2.2.2.2)
 (AO [cA b z.1.1 z.1.2.1 c z.1.2.2,rowsC z.1.1 z.1.2.1 5000 [z.2.1,z.2.2.1,z.2.2.2.1,z.2.2.2.2]])
structure Nd4(t1 t2 b1 b2:BL):Prop where
 n1:t1.Nodup
 n2:t2.Nodup
 n3:b1.Nodup
 n4:b2.Nodup
 d1:∀x∈t1,x∉t2/\x∉b1/\x∉b2
 d2:∀x∈t2,x∉b1/\x∉b2
 d3:∀x∈b1,x∉b2
 small:∀x,x∈[t1,t2,b1,b2].flatten->x.size<64
section
variable{W w:World}{M L:List HP}{b:Nat}{c p:Int}{R t1 t2 b1 b2:BL}{s:Sl}{xb N:Nat}{k:BA}
theorem lt4{j:Nat}(h:j<4):j<[t1,t2,b1,b2].length:=h
theorem Ast:[t1,t2,b1,b2].flatten=t1++(t2++(b1++b2)):=by simp
theorem D2:[t1,t2,b1,b2].flatten.length=t1.length+t2.length+b1.length+b2.length:=by simp;omega
theorem KM:k∈[t1,t2,b1,b2].flatten↔k∈t1\/k∈t2\/k∈b1\/k∈b2:=by simp
theorem nd4(h:Ab W w (rowsC s xb N [t1,t2,b1,b2]::M)):Nd4 t1 t2 b1 b2:=by
 obtain⟨h1,h2⟩:=Xp h;have h8:=h2;rw[Ast] at h1;rw[List.nodup_append,List.nodup_append,List.nodup_append] at h1;obtain⟨h3,⟨h4,⟨h5,h6,h7⟩,h9⟩,h10⟩:=h1;exact⟨h3,h4,h5,h6,λx hx=>⟨λh=>h10 x hx x (by simp[h]) rfl,λh=>h10 x hx x (by simp[h]) rfl,λh=>h10 x hx x (by simp[h]) rfl⟩,λx hx=>⟨λh=>h9 x hx x (by simp[h]) rfl,λh=>h9 x hx x (by simp[h]) rfl⟩,λx hx h=>h7 x hx x h rfl,h2⟩
theorem Avf(t1 t2 b1 b2:BL)(key:BA):(ED [t1,t2,b1,b2] key=0/\key∈t1)\/(ED [t1,t2,b1,b2] key=1/\key∉t1/\key∈t2)\/(ED [t1,t2,b1,b2] key=2/\key∉t1/\key∉t2/\key∈b1)\/(ED [t1,t2,b1,b2] key=3/\key∉t1/\key∉t2/\key∉b1/\key∈b2)\/(ED [t1,t2,b1,b2] key = -1/\key∉t1/\key∉t2/\key∉b1/\key∉b2):=by
 unfold ED
 by_cases h0:key∈t1
 ·left;simp[List.findIdx?_cons,Gz,h0]
 by_cases h1:key∈t2
 ·right;left;simp[List.findIdx?_cons,Gz,h0,h1]
 by_cases h2:key∈b1
 ·right;right;left;simp[List.findIdx?_cons,Gz,h0,h1,h2]
 by_cases h3:key∈b2
 ·right;right;right;left;simp[List.findIdx?_cons,Gz,h0,h1,h2,h3]
 ·right;right;right;right;simp[List.findIdx?_cons,Gz,h0,h1,h2,h3]
theorem EF(h:Ab W w (Lv b c R::M)):∃(s:Sl) (xb:Nat) (p:Int) (t1 t2 b1 b2:BL),AcI c p R t1 t2 b1 b2/\Ab W w (cA b s xb c p::rowsC s xb 5000 [t1,t2,b1,b2]::M):=by
 obtain⟨⟨⟨s,xb,p⟩,⟨t1,t2,b1,b2⟩⟩,h⟩:=h.openE;obtain⟨h1,h⟩:=h.openA;exact⟨s,xb,p,t1,t2,b1,b2,h1,h.openL⟩
theorem Em(h1:AcI c p R t1 t2 b1 b2)(h:Ab W w (cA b s xb c p::rowsC s xb 5000 [t1,t2,b1,b2]::M)):Ab W w (Lv b c R::M):=
 Ab.shutE ((s,xb,p),(t1,t2,b1,b2)) (Ab.shutA h1 (Ab.shutL (Ps:=[_,_]) h))
theorem VC(h:Ab W w (Lv b c R::M)):DR c R:=by
 obtain⟨s,xb,p,t1,t2,b1,b2,h1,_⟩:=EF h;exact h1.ok
theorem Avv(h:Ab W w (Lv b c R::M)):w.cell? ⟨b,2,none⟩=some (.i c):=by
 obtain⟨s,xb,p,t1,t2,b1,b2,_,h⟩:=EF h;exact h.cell (q:=0) rfl
theorem AcI.num(h:AcI c p R t1 t2 b1 b2):(R.length=t1.length+t2.length/\(R.length:Int)<=c)/\(1<=c/\c<=1024)/\(t1.length:Int)+b1.length<=c/\(t1.length:Int)+t2.length+b1.length+b2.length<=2*c:=by
 have h1:=h.ok.room;have h2:=h.ok.c1;have h3:=h.ok.c2;have h4:=h.l1;have h5:=h.tot
 rw[D2] at h5;have h6:R.length=t1.length+t2.length:=by rw[h.eq];simp
 omega
theorem Ab5(a b:Nat):Int.tdiv (a:Int) (b:Int)=((a / b:Nat):Int):=by rw[Int.tdiv_eq_ediv_of_nonneg (by omega)];rfl
theorem A9q{a b N:Nat}{p c:Int}(ha:a<=N)(hN:N<100000000)(hp:0<=p/\p<=1024) :
  (if (IntKind.wrap .i64 (p+(if (IntKind.wrap .i64 (Int.tdiv (a:Int) (b:Int)))>(1:Int) then (IntKind.wrap .i64 (Int.tdiv (a:Int) (b:Int))) else (1:Int))))<c then (IntKind.wrap .i64 (p+(if (IntKind.wrap .i64 (Int.tdiv (a:Int) (b:Int)))>(1:Int) then (IntKind.wrap .i64 (Int.tdiv (a:Int) (b:Int))) else (1:Int)))) else c)=min c (p+max 1 ((a / b:Nat):Int)):=by
 have h1:a / b<=a:=Nat.div_le_self a b;rw[Ab5];generalize a / b=q at *;rw[Go.IntWalk.i64_in (q:Int) (by omega),Go.IntWalk.i64_in _ (by split <;> omega)]
 split <;> split <;> omega
theorem Avu{a b N:Nat}{p:Int}(ha:a<=N)(hN:N<100000000)(hp:0<=p/\p<=1024) :
  (if (IntKind.wrap .i64 (p-(if (IntKind.wrap .i64 (Int.tdiv (a:Int) (b:Int)))>(1:Int) then (IntKind.wrap .i64 (Int.tdiv (a:Int) (b:Int))) else (1:Int))))>(0:Int) then (IntKind.wrap .i64 (p-(if (IntKind.wrap .i64 (Int.tdiv (a:Int) (b:Int)))>(1:Int) then (IntKind.wrap .i64 (Int.tdiv (a:Int) (b:Int))) else (1:Int)))) else (0:Int))=max 0 (p-max 1 ((a / b:Nat):Int)):=by
 have h1:a / b<=a:=Nat.div_le_self a b;rw[Ab5];generalize a / b=q at *;rw[Go.IntWalk.i64_in (q:Int) (by omega),Go.IntWalk.i64_in _ (by split <;> omega)]
 split <;> split <;> omega
theorem GH{l:BL}(h:k∉l):Aq l k=l:=Av h
theorem Abi{a d:BL}(h:∀x,@List.count _ instBEqOfDecidableEq x a = @List.count _ instBEqOfDecidableEq x d):a.Perm d:=(@List.perm_iff_count _ instBEqOfDecidableEq _ a d).2 h
theorem sl1{w:World}(nb:Nat)(hs:Ab W w (blk nb [.s k]::L)):Ab W w (recs Rec.str ⟨some ⟨nb,0,none⟩,1,1⟩ [k]::L):=Ab.blkS (b:=nb) (cs:=[.s k]) (n:=1) Rec.str [k] hs rfl rfl
end
end Go.Hb
namespace Go.Proofs.YtjipofkjmmpjdaaGreat
open Go.Hb Go.IntWalk
section
variable{W w:World}{L M:List HP}{b xb:Nat}{c p:Int}{R t1 t2 b1 b2:BL}{key:BA}{s:Sl}
theorem A4r(hs:Ab W w L){r:Int}:BB PR 151 #[.i r] w λv w'=>∃b,v=pq b 0/\Ab W w' (Lv b (Bv r) []::L):=by
 refine cw ⟨mixed,Tryz.func151,rfl⟩ Aos ?_;refine(Mo AY (nr:=4) (by decide) hs).mono λe w ⟨s,xb,he,hs⟩=>⟨s,_,he,?_⟩;refine Ah hs λb w hs=>⟨b,rfl,?_⟩;rw[Mk] at hs;have hs:Ab W w (rowsC s xb 0 [[],[],[],[]]::blk b _::L):=hs.perm (List.Perm.swap _ _ _);have hs:=(JZ (N':=5000) hs (by omega)).perm (List.Perm.swap _ _ _);have hr:=EK r;exact Em (t1:=[]) (t2:=[]) (b1:=[]) (b2:=[]) ⟨rfl,DR.nil hr.1 hr.2,by omega,by simp only[List.length_nil];omega,by rw[D2];simp only[List.length_nil];omega⟩ hs
theorem Avo(hs:Ab W w (Lv b c R::M)):BB PR 254 #[pq b 0] w λv w'=>v = .i c/\Ab W w' (Lv b c R::M):=by
 refine cw ⟨mixed,Tryz.func254,rfl⟩ Apx ?_;obtain⟨s,xb,p,t1,t2,b1,b2,h1,hs⟩:=EF hs;refine Ac rfl (Aa (Ag hs ?_));exact⟨rfl,Em h1 hs⟩
theorem Acr(hs:Ab W w (Lv b c R::M)):BB PR 251 #[pq b 0] w λv w'=>v = .i (R.length:Int)/\Ab W w' (Lv b c R::M):=by
 refine cw ⟨mixed,Tryz.func251,rfl⟩ Apt ?_;obtain⟨s,xb,p,t1,t2,b1,b2,h1,hs⟩:=EF hs;refine Ac rfl (Aa (Ag (x:=s) hs (Ag hs ?_)));refine Ah hs λnb w hs=>?_;refine AV AY (nr:=4) (K:=[t1,t2,b1,b2]) [0,1] (M:=cA b s xb c p::M) (by exact Ab.fin hs) (by omega) rfl λw hs=>?_;refine⟨?_,Em h1 (by exact Ab.fin hs)⟩;rw[h1.eq];simp[Ca]
theorem Acq(hz:key.size<64)(hs:Ab W w (Lv b c R::M)):BB PR 249 #[pq b 0,.s key] w λv w'=>v = .b (decide (key∈R))/\Ab W w' (Lv b c R::M):=by
 refine cw ⟨mixed,Tryz.func249,rfl⟩ Apr ?_;obtain⟨s,xb,p,t1,t2,b1,b2,h1,hs⟩:=EF hs;refine Ac rfl (Aa (Ag (x:=s) hs (Ag hs ?_)));refine An (Eu AY (K:=[t1,t2,b1,b2]) hs hz) λe w ⟨he,hs⟩=>⟨_,he,?_⟩;have e:∀t:Bool,(t=true↔key∈t1\/key∈t2)->Value.bool t = .b (decide (key∈R)):=λt ht=>by
  congr 1;rw[Bool.eq_iff_iff,ht,h1.eq,decide_eq_true_eq,List.mem_append]
 rcases Avf t1 t2 b1 b2 key with⟨h,h4⟩|⟨h,h4,h5⟩|⟨h,h4,h5,h6⟩|⟨h,h4,h5,h6⟩|⟨h,h4,h5,h6⟩ <;> rw[h]
 ·exact Ak rfl ⟨e _ (by simp[h4]),Em h1 hs⟩
 all_goals exact Ac rfl ⟨e _ (by simp[h4,h5]),Em h1 hs⟩
theorem Avm(hs:Ab W w (Lv b c R::M)):BB PR 250 #[pq b 0] w λv w'=>∃(l:Sl) (ks:BL),v = .l l.a l.n l.c/\ks.Perm R/\Ab W w' (Lv b c R::recs Rec.str l ks::M):=by
 refine cw ⟨mixed,Tryz.func250,rfl⟩ Aps ?_;obtain⟨s,xb,p,t1,t2,b1,b2,h1,hs⟩:=EF hs;refine Ac rfl (Aa (Ag (x:=s) hs (Ag hs ?_)));refine Ah hs λnb w hs=>?_;refine Qj AY (nr:=4) (K:=[t1,t2,b1,b2]) [0,1] (M:=cA b s xb c p::M) (by exact Ab.fin hs) (by omega) rfl λl w hs=>?_;refine⟨l,_,rfl,?_,Em h1 (by exact Ab.fin hs)⟩;rw[h1.eq];simp[FD]
def MS(W:World)(M:List HP)(b xb:Nat)(s:Sl)(c p:Int)(E:BL->BL->BL->BL->BL->Prop):VW:=λv w'=>∃(l:Sl) (g t1 t2 b1 b2:BL),v = .l l.a l.n l.c/\E g t1 t2 b1 b2/\Ab W w' (cA b s xb c p::rowsC s xb 5000 [t1,t2,b1,b2]::recs Rec.str l g::M)
theorem XF(hs:Ab W w (cA b s xb c p::rowsC s xb 5000 [t1,t2,b1,b2]::M)){first:Bool}(hf:first=true->0<t1.length)(hg:first=false->0<t2.length)(hl:b1.length<5000/\b2.length<5000) :
  BB PR 261 #[pq b 0,.b first] w (MS W M b xb s c p λg u1 u2 d1 d2=>(∃x,g=[x]/\(t1++t2).Perm (x::(u1++u2)))/\[u1,u2,d1,d2].flatten.Perm [t1,t2,b1,b2].flatten/\u1.length+d1.length=t1.length+b1.length):=by
 refine cw ⟨mixed,Tryz.func261,rfl⟩ Ap0 ?_;have hnd:=nd4 (t1:=t1) (t2:=t2) (b1:=b1) (b2:=b2) (M:=cA b s xb c p::M) (by exact Ab.fin hs);have j:∀(fr to:Nat)(u1 u2 d1 d2:BL),fr<4->to<4->([t1,t2,b1,b2].getD to []).length<5000->(C3 ([t1,t2,b1,b2].getD fr []))∈[t1,t2,b1,b2].flatten->DJ [t1,t2,b1,b2] to (C3 ([t1,t2,b1,b2].getD fr []))=[u1,u2,d1,d2] ->
   (t1++t2).Perm (C3 ([t1,t2,b1,b2].getD fr [])::(u1++u2))->[u1,u2,d1,d2].flatten.Perm [t1,t2,b1,b2].flatten->u1.length+d1.length=t1.length+b1.length ->
   We By (MS W M b xb s c p λg u1 u2 d1 d2=>(∃x,g=[x]/\(t1++t2).Perm (x::(u1++u2)))/\[u1,u2,d1,d2].flatten.Perm [t1,t2,b1,b2].flatten/\u1.length+d1.length=t1.length+b1.length) (some ⟨b,0,none⟩) (fr:Int) (to:Int) w:=by
  intro fr to u1 u2 d1 d2 h1 h2 h3 h4 h5 h6 h7 h8;refine jw YQ ?_;refine Aa (Ag (x:=s) hs (Ag hs ?_));refine An (BW AY (K:=[t1,t2,b1,b2]) (j:=fr) hs h1 (Nat.le_refl 4)) λe w ⟨he,hs⟩=>⟨_,he,?_⟩;refine Aa (Ag (x:=s) hs (Ag hs ?_));refine Ar (FQ AY (K:=[t1,t2,b1,b2]) (j:=to) hs h2 (hnd.small _ h4) (by omega) (Nat.le_refl 4) h3) λe w ⟨he,hs⟩=>⟨he,?_⟩;rw[h5] at hs;refine Ah hs λnb w hs=>?_;have hs:=sl1 nb hs;exact⟨⟨some ⟨nb,0,none⟩,1,1⟩,_,u1,u2,d1,d2,rfl,⟨⟨_,rfl,h6⟩,h7,h8⟩,by exact Ab.fin hs⟩
 cases first with
 | true=>
  refine Ak rfl ?_;have h0:=hf rfl;have hm:=Dk h0;have e0:[t1,t2,b1,b2].getD 0 []=t1:=rfl;have e1:DJ [t1,t2,b1,b2] 2 (C3 t1)=[t1.drop 1,t2,b1++[C3 t1],b2]:=by
   show[Aq t1 _,Aq t2 _,Aq b1 _++[_],Aq b2 _]=_;rw[Co hnd.n1 h0,GH (hnd.d1 _ hm).1,GH (hnd.d1 _ hm).2.1,GH (hnd.d1 _ hm).2.2]
  have h:=j 0 2 (t1.drop 1) t2 (b1++[C3 t1]) b2 (by decide) (by decide) hl.1;rw[e0] at h;clear j;refine h (KM.2 (.inl hm)) e1 ?_ ?_ ?_ <;> (cases t1 with
   | nil=>simp at h0
   | cons x l=>first|exact List.Perm.refl _|exact Abi (λy=>by simp[C3,List.count_append,List.count_cons];omega)|(simp[C3];omega))
 | false=>
  refine Ac rfl ?_;have h0:=hg rfl;have hm:=Dk h0;have e0:[t1,t2,b1,b2].getD 1 []=t2:=rfl;have e1:DJ [t1,t2,b1,b2] 3 (C3 t2)=[t1,t2.drop 1,b1,b2++[C3 t2]]:=by
   show[Aq t1 _,Aq t2 _,Aq b1 _,Aq b2 _++[_]]=_;rw[Co hnd.n2 h0,GH (λh=>(hnd.d1 _ h).1 hm),GH (hnd.d2 _ hm).1,GH (hnd.d2 _ hm).2]
  have h:=j 1 3 t1 (t2.drop 1) b1 (b2++[C3 t2]) (by decide) (by decide) hl.2;rw[e0] at h;clear j;refine h (KM.2 (.inr (.inl hm))) e1 ?_ ?_ rfl <;> (cases t2 with
   | nil=>simp at h0
   | cons x l=>exact Abi (λy=>by simp[C3,List.count_append,List.count_cons];omega))
theorem MU(hs:Ab W w (cA b s xb c p::rowsC s xb 5000 [t1,t2,b1,b2]::M))(hR:DR c (t1++t2))(hl:b1.length<5000/\b2.length<5000){again:Bool} :
  BB PR 259 #[pq b 0,.b again] w (MS W M b xb s c p λg u1 u2 d1 d2=>Mz c (t1++t2) g (u1++u2)/\[u1,u2,d1,d2].flatten.Perm [t1,t2,b1,b2].flatten/\u1.length+d1.length=t1.length+b1.length):=by
 refine cw ⟨mixed,Tryz.func259,rfl⟩ Apy ?_;have hc:=hR.c1;have hll:(t1++t2).length=t1.length+t2.length:=by simp
 have e0:(Ca [t1,t2,b1,b2] [0]:Int)=t1.length:=by simp[Ca]
 have e1:(Ca [t1,t2,b1,b2] [1]:Int)=t2.length:=by simp[Ca]
 have e2:(Ca [t1,t2,b1,b2] [0,1]:Int)=t1.length+t2.length:=by simp[Ca]
 refine Ao [cA b s xb c p] hs λw hs=>?_;refine Aa (Am (x:=s) (Am (Aa (Am ?_))));refine Ah hs λnb w hs=>Ae hs ?_;refine AV AY (nr:=4) (K:=[t1,t2,b1,b2]) [0,1] (M:=cA b s xb c p::M) (by exact Ab.fin hs) (by omega) rfl λw hs=>?_;refine Ae hs ?_;have hs:Ab W w (cA b s xb c p::rowsC s xb 5000 [t1,t2,b1,b2]::M):=by exact Ab.fin hs
 rw[e2]
 with_reducible refine A2 (λh1=>?_) (λh1=>?_)
 ·exact⟨⟨none,0,0⟩,[],t1,t2,b1,b2,rfl,⟨.inl ⟨rfl,rfl,by rw[hll];omega⟩,List.Perm.refl _,rfl⟩,(Ab.nilR Rec.str hs).perm (List.perm_middle (l₁:=[_,_])).symm⟩
 have oust:∀(w:World)(first:Bool),(first=true->0<t1.length)->(first=false->0<t2.length)->Ab W w (cA b s xb c p::rowsC s xb 5000 [t1,t2,b1,b2]::M) ->
   (call1 .slc PR 261 [pq b 0,.b first] λx=>(MS W M b xb s c p λg u1 u2 d1 d2=>Mz c (t1++t2) g (u1++u2)/\[u1,u2,d1,d2].flatten.Perm [t1,t2,b1,b2].flatten/\u1.length+d1.length=t1.length+b1.length) (.l x.a x.n x.c)) w:=by
  clear hs;intro w first hf hg hs
  refine Ai (XF hs hf hg hl) λv w ⟨l,g,u1,u2,d1,d2,hv,⟨⟨x,hg,hp⟩,h3,h4⟩,hs⟩=>⟨l,hv,?_⟩;exact⟨l,g,u1,u2,d1,d2,rfl,⟨.inr ⟨x,hg,Hc.of_perm hR hp,by rw[hll];omega⟩,h3,h4⟩,hs⟩
 refine Aa (Ag (x:=s) hs (Ag hs ?_));refine Ah hs λnb w hs=>?_;refine AV AY (nr:=4) (K:=[t1,t2,b1,b2]) [0] (M:=cA b s xb c p::M) (by exact Ab.fin hs) (by omega) rfl λw hs=>?_;have hs:Ab W w (cA b s xb c p::rowsC s xb 5000 [t1,t2,b1,b2]::M):=by exact Ab.fin hs
 rw[e0];have more:∀(w:World),0<t1.length->Ab W w (cA b s xb c p::rowsC s xb 5000 [t1,t2,b1,b2]::M)->(Ad (some ⟨b,0,none⟩) λb_24 o_25=>
   ld .slc b_24 o_25 λ(x_26:Sl)=>
   ld .ptr b_24 (o_25+1) λ(x_27:OA)=>
   A1 [.i (1:Int)] 3 λb_28=>
   call1 (.int .i64) PR 258 [.agg #[.l x_26.a x_26.n x_26.c,.p x_27],.l (some ⟨b_28,0,none⟩) 1 1] λ(x_29:Int)=>
   call1 .slc PR 261 [pq b 0,.b (x_29==(0:Int))] λx=>(MS W M b xb s c p λg u1 u2 d1 d2=>Mz c (t1++t2) g (u1++u2)/\[u1,u2,d1,d2].flatten.Perm [t1,t2,b1,b2].flatten/\u1.length+d1.length=t1.length+b1.length) (.l x.a x.n x.c)) w:=by
  clear hs;intro w h0 hs;refine Aa (Ag (x:=s) hs (Ag hs ?_));refine Ah hs λnb w hs=>?_;refine AV AY (nr:=4) (K:=[t1,t2,b1,b2]) [1] (M:=cA b s xb c p::M) (by exact Ab.fin hs) (by omega) rfl λw hs=>?_;rw[e1];exact oust w _ (λ_=>h0) (λh=>by have:¬(t2.length:Int)=0:=(by simpa using h);omega) (by exact Ab.fin hs)
 with_reducible refine A2 (λh2=>?_) (λh2=>?_)
 ·refine Aa (Ag hs ?_)
  with_reducible refine A2 (λh3=>?_) (λh3=>?_)
  ·exact oust w true (λ_=>by omega) (λh=>by cases h) hs
  ·refine Aa (Ag hs ?_)
   with_reducible refine A2 (λh4=>?_) (λh4=>?_)
   ·cases again with
    | true=>exact Ak rfl (oust w true (λ_=>by omega) (λh=>by cases h) hs)
    | false=>exact Ac rfl (more w (by omega) hs)
   ·exact more w (by omega) hs
 ·exact oust w false (λh=>by cases h) (λ_=>by omega) hs
theorem Amt(hs:Ab W w (Lv b c R::M)):BB PR 247 #[pq b 0] w λv w'=>∃x yes S,v = .tuple #[.s x,.b yes]/\Hc c R x yes S/\Ab W w' (Lv b c S::M):=by
 refine cw ⟨mixed,Tryz.func247,rfl⟩ Apq ?_;refine Ai (Acr hs) λv w ⟨hv,hs⟩=>⟨_,hv,?_⟩;have hk:=VC hs
 with_reducible refine A2 (λh0=>?_) (λh0=>?_)
 ·exact⟨_,_,_,rfl,Hc.none hk (by omega),hs⟩
 obtain⟨s,xb,p,t1,t2,b1,b2,h1,hs⟩:=EF hs;have hn:=h1.num;have e0:(Ca [t1,t2,b1,b2] [0]:Int)=t1.length:=by simp[Ca]
 have e1:(Ca [t1,t2,b1,b2] [1]:Int)=t2.length:=by simp[Ca]
 have oust:∀(w:World)(first:Bool),(first=true->0<t1.length)->(first=false->0<t2.length)->Ab W w (cA b s xb c p::rowsC s xb 5000 [t1,t2,b1,b2]::M) ->
   (call1 .slc PR 261 [pq b 0,.b first] λx=>
    CB x.a x.n (0:Int) λb_12 o_13=>
    ld .str b_12 (o_13+((0:Int)).toNat*1) λ(x_14:BA)=>λw'=>∃x yes S,(Value.tuple #[.s x_14,.b true]) = .tuple #[.s x,.b yes]/\Hc c R x yes S/\Ab W w' (Lv b c S::M)) w:=by
  clear hs;intro w first hf hg hs
  refine Ai (XF hs hf hg (by omega)) λv w ⟨l,g,u1,u2,d1,d2,hv,⟨⟨x,hg,hp⟩,h3,h4⟩,hs⟩=>⟨l,hv,?_⟩;subst hg;have hev:Hc c R x true (u1++u2):=Hc.of_perm hk (by rw[h1.eq];exact hp)
  have hl1:=Bt (s:=l) (E:=Rec.str) (rows:=[x]) hs;simp only[List.length_cons,List.length_nil] at hl1;refine AB (s:=l) (E:=Rec.str) (rows:=[x]) hs λb_ o_ ha_=>?_;refine AE ha_ hs ?_;exact⟨x,_,_,rfl,hev,Em (t1:=u1) (t2:=u2) (b1:=d1) (b2:=d2) (s:=s) (xb:=xb) ⟨rfl,hev.ok,h1.p0,by omega,by rw[h3.length_eq];exact h1.tot⟩ (by exact Ab.fin hs)⟩
 refine Aa (Ag (x:=s) hs (Ag hs ?_));refine Ah hs λnb w hs=>?_;refine AV AY (nr:=4) (K:=[t1,t2,b1,b2]) [0] (M:=cA b s xb c p::M) (by exact Ab.fin hs) (by omega) rfl λw hs=>?_;have hs:Ab W w (cA b s xb c p::rowsC s xb 5000 [t1,t2,b1,b2]::M):=by exact Ab.fin hs
 rw[e0]
 with_reducible refine A2 (λh2=>?_) (λh2=>?_)
 ·refine Aa (Ag hs ?_)
  with_reducible refine A2 (λh3=>?_) (λh3=>?_)
  ·exact oust w true (λ_=>by omega) (λh=>by cases h) hs
  ·refine Aa (Ag (x:=s) hs (Ag hs ?_));refine Ah hs λnb w hs=>?_;refine AV AY (nr:=4) (K:=[t1,t2,b1,b2]) [1] (M:=cA b s xb c p::M) (by exact Ab.fin hs) (by omega) rfl λw hs=>?_;rw[e1];exact oust w _ (λ_=>by omega) (λh=>by have:¬(t2.length:Int)=0:=(by simpa using h);omega) (by exact Ab.fin hs)
 ·exact oust w false (λh=>by cases h) (λ_=>by omega) hs
theorem A94(hnd:Nd4 t1 t2 b1 b2):(DY [t1,t2,b1,b2] key).flatten=Aq [t1,t2,b1,b2].flatten key:=by
 show[Aq t1 key,Aq t2 key,Aq b1 key,Aq b2 key].flatten=_;rw[Ast,Ast,FI,FI,FI]
theorem A4j(hnd:Nd4 t1 t2 b1 b2)(h0:0<b1.length):DY [t1,t2,b1,b2] (C3 b1)=[t1,t2,b1.drop 1,b2]:=by
 have hm:=Dk h0;show[Aq t1 _,Aq t2 _,Aq b1 _,Aq b2 _]=_;rw[Co hnd.n3 h0,GH (λh=>(hnd.d1 _ h).2.1 hm),GH (λh=>(hnd.d2 _ h).1 hm),GH (hnd.d3 _ hm)]
theorem A4k(hnd:Nd4 t1 t2 b1 b2)(h0:0<b2.length):DY [t1,t2,b1,b2] (C3 b2)=[t1,t2,b1,b2.drop 1]:=by
 have hm:=Dk h0;show[Aq t1 _,Aq t2 _,Aq b1 _,Aq b2 _]=_;rw[Co hnd.n4 h0,GH (λh=>(hnd.d1 _ h).2.2 hm),GH (λh=>(hnd.d2 _ h).2 hm),GH (λh=>hnd.d3 _ h hm)]
theorem Q5{l:BL}{x:BA}(h:x∈l.drop 1):x∈l:=List.mem_of_mem_drop h
def Acm(c:Int)(t1 t2 b1 b2:BL)(g u1 u2 d1 d2:BL):Prop:=Mz c (t1++t2) g (u1++u2)/\(∀x,x∈[u1,u2,d1,d2].flatten->x∈[t1,t2,b1,b2].flatten)/\(u1.length:Int)+d1.length<c/\([u1,u2,d1,d2].flatten.length:Int)<2*c
theorem Amu(hs:Ab W w (cA b s xb c p::rowsC s xb 5000 [t1,t2,b1,b2]::M))(hi:AcI c p (t1++t2) t1 t2 b1 b2) :
  BB PR 260 #[pq b 0] w (MS W M b xb s c p (Acm c t1 t2 b1 b2)):=by
 refine cw ⟨mixed,Tryz.func260,rfl⟩ Apz ?_;have hn:=hi.num;have e0:(Ca [t1,t2,b1,b2] [0]:Int)=t1.length:=by simp[Ca]
 have e2:(Ca [t1,t2,b1,b2] [0,2]:Int)=t1.length+b1.length:=by simp[Ca]
 have e4:(Ca [t1,t2,b1,b2] [0,1,2,3]:Int)=t1.length+t2.length+b1.length+b2.length:=by simp[Ca];omega
 have hnd:=nd4 (t1:=t1) (t2:=t2) (b1:=b1) (b2:=b2) (M:=cA b s xb c p::M) (by exact Ab.fin hs);have rep:∀(w:World)(d1 d2:BL),(∀x∈d1,x∈b1)->(∀x∈d2,x∈b2)->(t1.length:Int)+d1.length<c->(t1.length:Int)+t2.length+d1.length+d2.length<2*c->Ab W w (cA b s xb c p::rowsC s xb 5000 [t1,t2,d1,d2]::M) ->
   (call1 .slc PR 259 [pq b 0,.b false] λx=>(MS W M b xb s c p (Acm c t1 t2 b1 b2)) (.l x.a x.n x.c)) w:=by
  clear hs;intro w d1 d2 h1 h2 h3 h4 hs;refine Ai (MU hs hi.ok (by omega)) λv w ⟨l,g,u1,u2,f1,f2,hv,⟨h5,h6,h7⟩,hs⟩=>⟨l,hv,?_⟩;refine⟨l,g,u1,u2,f1,f2,rfl,⟨h5,λx hx=>?_,by omega,by rw[h6.length_eq,D2];omega⟩,hs⟩
  rcases KM.1 (h6.mem_iff.1 hx) with h|h|h|h
  ·exact KM.2 (.inl h)
  ·exact KM.2 (.inr (.inl h))
  ·exact KM.2 (.inr (.inr (.inl (h1 _ h))))
  ·exact KM.2 (.inr (.inr (.inr (h2 _ h))))
 have j1:∀(w:World)(t:Bool),(t=true->c<=(t1.length:Int)+b1.length/\(t1.length:Int)<c)->(t=false->c<=(t1.length:Int)+b1.length->c<=(t1.length:Int))->Ab W w (cA b s xb c p::rowsC s xb 5000 [t1,t2,b1,b2]::M) ->
   Wc By (MS W M b xb s c p (Acm c t1 t2 b1 b2)) (some ⟨b,0,none⟩) t w:=by
  clear hs;intro w t ht hf hs;refine jw YP ?_;cases t with
  | true=>
   have ht:=ht rfl;have h0:0<b1.length:=by omega
   refine Ak rfl ?_;refine Ao [cA b s xb c p] hs λw hs=>?_;refine Aa (Am (x:=s) (Am (Aa (Ag (x:=s) hs (Ag hs (Ae hs ?_))))));refine An (BW AY (K:=[t1,t2,b1,b2]) (j:=2) hs (lt4 (by decide)) (Nat.le_refl 4)) λe w ⟨he,hs⟩=>⟨_,he,Ae hs ?_⟩;refine Ar (C0 AY (K:=[t1,t2,b1,b2]) (key:=C3 b1) hs (hnd.small _ (KM.2 (.inr (.inr (.inl (Dk h0)))))) (by omega) (Nat.le_refl 4)) λe w ⟨he,hs⟩=>⟨he,?_⟩;rw[A4j hnd h0] at hs;exact rep w _ _ (λx h=>Q5 h) (λx h=>h) (by rw[List.length_drop];omega) (by rw[List.length_drop];omega) hs
  | false=>
   have hf:=hf rfl;refine Ac rfl ?_;refine Ao [cA b s xb c p] hs λw hs=>?_;refine Aa (Am (x:=s) (Am (Aa (Am ?_))));refine Ah hs λnb w hs=>Ae hs ?_;refine AV AY (nr:=4) (K:=[t1,t2,b1,b2]) [0,2] (M:=cA b s xb c p::M) (by exact Ab.fin hs) (by omega) rfl λw hs=>Ae hs ?_;have hs:Ab W w (cA b s xb c p::rowsC s xb 5000 [t1,t2,b1,b2]::M):=by exact Ab.fin hs
   rw[e2]
   with_reducible refine A2 (λh1=>?_) (λh1=>?_)
   ·have h2:=hf (by omega);have h0:0<t1.length:=by omega
    have hm:=Dk h0;refine Aa (Ag (x:=s) hs (Ag hs ?_));refine An (BW AY (K:=[t1,t2,b1,b2]) (j:=0) hs (lt4 (by decide)) (Nat.le_refl 4)) λe w ⟨he,hs⟩=>⟨_,he,?_⟩;refine Aa (Ag (x:=s) hs (Ag hs ?_));refine Ar (C0 AY (K:=[t1,t2,b1,b2]) (key:=C3 t1) hs (hnd.small _ (KM.2 (.inl hm))) (by omega) (Nat.le_refl 4)) λe w ⟨he,hs⟩=>⟨he,?_⟩;have e1:DY [t1,t2,b1,b2] (C3 t1)=[t1.drop 1,t2,b1,b2]:=by
     show[Aq t1 _,Aq t2 _,Aq b1 _,Aq b2 _]=_;rw[Co hnd.n1 h0,GH (hnd.d1 _ hm).1,GH (hnd.d1 _ hm).2.1,GH (hnd.d1 _ hm).2.2]
    rw[e1] at hs;refine Ah hs λnb w hs=>?_;have hs:=sl1 nb hs;have hev:Hc c (t1++t2) (C3 t1) true (t1.drop 1++t2):=Hc.of_perm hi.ok (by
     cases t1 with
     | nil=>simp at h0
     | cons x l=>exact List.Perm.refl _)
    refine⟨⟨some ⟨nb,0,none⟩,1,1⟩,_,t1.drop 1,t2,b1,b2,rfl,⟨.inr ⟨_,rfl,hev,by rw[List.length_append];omega⟩,λx hx=>?_,by rw[List.length_drop];omega,by rw[D2,List.length_drop];omega⟩,by exact Ab.fin hs⟩;rcases KM.1 hx with h|h
    ·exact KM.2 (.inl (Q5 h))
    ·exact KM.2 (.inr h)
   refine Ao [cA b s xb c p] hs λw hs=>?_;refine Aa (Am (x:=s) (Am (Aa (Am ?_))));refine Ah hs λnb w hs=>Ae hs ?_;refine AV AY (nr:=4) (K:=[t1,t2,b1,b2]) [0,1,2,3] (M:=cA b s xb c p::M) (by exact Ab.fin hs) (by omega) rfl λw hs=>Ae hs ?_;have hs:Ab W w (cA b s xb c p::rowsC s xb 5000 [t1,t2,b1,b2]::M):=by exact Ab.fin hs
   rw[e4]
   with_reducible refine A2 (λh2=>?_) (λh2=>?_)
   ·refine⟨⟨none,0,0⟩,[],t1,t2,b1,b2,rfl,⟨.inl ⟨rfl,rfl,by rw[List.length_append];omega⟩,λx hx=>hx,by omega,by rw[D2];omega⟩,(Ab.nilR Rec.str hs).perm (List.perm_middle (l₁:=[_,_])).symm⟩
   refine Ao [cA b s xb c p] hs λw hs=>?_;refine Aa (Am (x:=s) (Am (Aa (Am ?_))));refine Ah hs λnb w hs=>Ae hs ?_;refine AV AY (nr:=4) (K:=[t1,t2,b1,b2]) [0,1,2,3] (M:=cA b s xb c p::M) (by exact Ab.fin hs) (by omega) rfl λw hs=>Ae hs ?_;have hs:Ab W w (cA b s xb c p::rowsC s xb 5000 [t1,t2,b1,b2]::M):=by exact Ab.fin hs
   rw[e4,i64_in (2*c) (by omega)]
   with_reducible refine A2 (λh3=>?_) (λh3=>?_)
   ·have h0:0<b2.length:=by omega
    refine Ao [cA b s xb c p] hs λw hs=>?_;refine Aa (Am (x:=s) (Am (Aa (Ag (x:=s) hs (Ag hs (Ae hs ?_))))));refine An (BW AY (K:=[t1,t2,b1,b2]) (j:=3) hs (lt4 (by decide)) (Nat.le_refl 4)) λe w ⟨he,hs⟩=>⟨_,he,Ae hs ?_⟩;refine Ar (C0 AY (K:=[t1,t2,b1,b2]) (key:=C3 b2) hs (hnd.small _ (KM.2 (.inr (.inr (.inr (Dk h0)))))) (by omega) (Nat.le_refl 4)) λe w ⟨he,hs⟩=>⟨he,?_⟩;rw[A4k hnd h0] at hs;exact rep w _ _ (λx h=>h) (λx h=>Q5 h) (by omega) (by rw[List.length_drop];omega) hs
   ·exact rep w _ _ (λx h=>h) (λx h=>h) (by omega) (by omega) hs
 refine Ao [cA b s xb c p] hs λw hs=>?_;refine Aa (Am (x:=s) (Am (Aa (Am ?_))));refine Ah hs λnb w hs=>Ae hs ?_;refine AV AY (nr:=4) (K:=[t1,t2,b1,b2]) [0,2] (M:=cA b s xb c p::M) (by exact Ab.fin hs) (by omega) rfl λw hs=>Ae hs ?_;have hs:Ab W w (cA b s xb c p::rowsC s xb 5000 [t1,t2,b1,b2]::M):=by exact Ab.fin hs
 rw[e2]
 with_reducible refine A2 (λh1=>?_) (λh1=>?_)
 ·refine Aa (Am (x:=s) (Am (Aa (Am ?_))));refine Ah hs λnb w hs=>Ae hs ?_;refine AV AY (nr:=4) (K:=[t1,t2,b1,b2]) [0] (M:=cA b s xb c p::M) (by exact Ab.fin hs) (by omega) rfl λw hs=>Ae hs ?_;rw[e0];exact j1 w _ (λh=>⟨by omega,of_decide_eq_true h⟩) (λh _=>by have:=of_decide_eq_false h;omega) (by exact Ab.fin hs)
 ·exact Ae hs (Ae hs (j1 w false (λh=>by cases h) (λ_ h=>by omega) hs))
theorem XG(hs:Ab W w (cA b s xb c p::rowsC s xb 5000 [t1,t2,b1,b2]::M))(hz:key.size<64)(hm:key∈[t1,t2,b1,b2].flatten)(hl:t2.length<5000)(hp:0<=p/\p<=c)(h1:(t1.length:Int)+b1.length<=c)(h2:([t1,t2,b1,b2].flatten.length:Int)<=2*c)(hk:DR c (Aq t1 key++(Aq t2 key++[key]))) :
  Calls PR 257 #[.agg #[.l s.a s.n s.c,pq xb 0],.i (1:Int),.s key] w λe w'=>e = .returned (.tuple #[])/\Ab W w' (Lv b c (Aq t1 key++(Aq t2 key++[key]))::M):=by
 have hnd:=nd4 (t1:=t1) (t2:=t2) (b1:=b1) (b2:=b2) (M:=cA b s xb c p::M) (by exact Ab.fin hs);have hn:=(Xp (K:=[t1,t2,b1,b2]) (s:=s) (xb:=xb) (N:=5000) (M:=cA b s xb c p::M) (W:=W) (w:=w) (by exact Ab.fin hs)).1;refine(FQ AY (K:=[t1,t2,b1,b2]) (j:=1) hs (lt4 (by decide)) hz (by omega) (Nat.le_refl 4) hl).mono λe w ⟨he,hs⟩=>⟨he,?_⟩;refine Em (t1:=Aq t1 key) (t2:=Aq t2 key++[key]) (b1:=Aq b1 key) (b2:=Aq b2 key) ⟨rfl,hk,hp,?_,?_⟩ hs
 ·have a1:=BM t1 key;have a2:=BM b1 key;omega
 ·have a1:=(CP hn hm).length_eq;rw[<- A94 hnd] at a1;have a2:(DY [t1,t2,b1,b2] key).flatten.length=(Aq t1 key).length+(Aq t2 key).length+(Aq b1 key).length+(Aq b2 key).length:=D2;rw[D2,List.length_append];simp only[List.length_cons,List.length_nil] at *;omega
theorem Abm{c:Int}{R g S:BL}(h:Mz c R g S)(hk:DR c R):S.length<=1024:=by
 have h1:=hk.room;have h2:=hk.c2
 rcases h with⟨_,rfl,_⟩|⟨x,_,he,_⟩
 ·omega
 ·have:=he.ok.room;omega
abbrev Ai6(W:World)(M:List HP)(b:Nat)(c:Int)(R:BL)(key:BA):VW:=λv w'=>∃(hit:Bool) (l:Sl) (g S:BL),v = .tuple #[.b hit,.l l.a l.n l.c]/\Fj c R key hit g S/\Ab W w' (Lv b c S::recs Rec.str l g::M)
theorem A8u{l:Sl}{g:BL}(hs:Ab W w (cA b s xb c p::rowsC s xb 5000 [t1,t2,b1,b2]::recs Rec.str l g::M))(hz:key.size<64)(hk:DR c R)(hno:key∉R)(hrec:Mz c R g (t1++t2))(hm:key∈[t1,t2,b1,b2].flatten)(hp:0<=p/\p<=c)(h1:(t1.length:Int)+b1.length<=c)(h2:([t1,t2,b1,b2].flatten.length:Int)<=2*c) :
  FU By (Ai6 W M b c R key) (some ⟨b,0,none⟩) key l w:=by
 refine jw YL ?_;have hnS:=hrec.not hno;have n1:key∉t1:=λh=>hnS (List.mem_append_left _ h);have n2:key∉t2:=λh=>hnS (List.mem_append_right _ h);have ha:=Fj.miss hk hno hz hrec (T:=Aq t1 key++(Aq t2 key++[key])) (by rw[GH n1,GH n2];exact EV)
 have hl:=Abm hrec hk;rw[List.length_append] at hl;refine Aa (Ag (x:=s) hs (Ag hs ?_));refine Ar (XG hs hz hm (by omega) hp h1 h2 ha.ok) λe w ⟨he,hs⟩=>⟨he,?_⟩;exact⟨false,l,g,_,rfl,ha,hs⟩
theorem Aja(hz:key.size<64)(hs:Ab W w (Lv b c R::M)):BB PR 246 #[pq b 0,.s key] w (Ai6 W M b c R key):=by
 refine cw ⟨mixed,Tryz.func246,rfl⟩ App ?_;have h0:=EF hs;clear hs;obtain⟨s,xb,p,t1,t2,b1,b2,h1,hs⟩:=h0;have hn:=h1.num;have hk:=h1.ok;have hp:=h1.p0;have htot:=h1.tot;have hl1:=h1.l1;obtain rfl:=h1.eq;refine Ac rfl (Aa (Ag (x:=s) hs (Ag hs ?_)));refine An (Eu AY (K:=[t1,t2,b1,b2]) hs hz) λe w ⟨he,hs⟩=>⟨_,he,?_⟩;have hit:∀(w:World)(i:Int)(t:Bool),key∈t1++t2->t=true->Ab W w (cA b s xb c p::rowsC s xb 5000 [t1,t2,b1,b2]::M)->Wb By (Ai6 W M b c (t1++t2) key) (some ⟨b,0,none⟩) key i t w:=by
  clear hs;rintro w i _ hm rfl hs;refine jw Hh ?_;have ha:=Fj.same (S:=Aq t1 key++(Aq t2 key++[key])) hk hm (by
   rw[<- List.append_assoc,<- FI];exact List.perm_append_comm.trans (CP hk.nd hm).symm)
  refine Ak rfl (Aa (Ag (x:=s) hs (Ag hs ?_)));refine Ar (XG hs hz (by rcases List.mem_append.1 hm with h|h <;> simp[h]) (by omega) hp hl1 htot ha.ok) λe w ⟨he,hs⟩=>⟨he,?_⟩
  exact⟨true,⟨none,0,0⟩,[],_,rfl,ha,(Ab.nilR Rec.str hs).perm (List.Perm.swap _ _ _)⟩
 have bcase:∀(w:World)(q:Int)(again:Bool),0<=q/\q<=c->key∉t1++t2->key∈[t1,t2,b1,b2].flatten->Ab W w (cA b s xb c q::rowsC s xb 5000 [t1,t2,b1,b2]::M) ->
   (call1 .slc PR 259 [pq b 0,.b again] λ(x:Sl)=>FU By (Ai6 W M b c (t1++t2) key) (some ⟨b,0,none⟩) key x) w:=by
  clear hs;intro w q again hq hno hm hs;refine Ai (MU hs hk (by omega)) λv w ⟨l,g,u1,u2,d1,d2,hv,⟨h5,h6,h7⟩,hs⟩=>⟨l,hv,?_⟩;exact A8u hs hz hk hno h5 (h6.mem_iff.2 hm) hq (by omega) (by rw[h6.length_eq];exact htot)
 rcases Avf t1 t2 b1 b2 key with⟨h,h4⟩|⟨h,h4,h5⟩|⟨h,h4,h5,h6⟩|⟨h,h4,h5,h6,h7⟩|⟨h,h4,h5,h6,h7⟩ <;> rw[h]
 ·exact Ak rfl (hit w _ _ (List.mem_append_left _ h4) rfl hs)
 ·exact Ac rfl (hit w _ _ (List.mem_append_right _ h5) rfl hs)
 ·refine Ac rfl ?_;refine jw Hh ?_;refine Ac rfl (Ak rfl ?_);have h0:0<b1.length:=List.length_pos_of_mem h6;have cont:∀(w:World)(m n:Int),m=(Ca [t1,t2,b1,b2] [3]:Int)->n=(Ca [t1,t2,b1,b2] [2]:Int)->Ab W w (cA b s xb c p::rowsC s xb 5000 [t1,t2,b1,b2]::M)->(Bw (n≠0)<| Ad (some ⟨b,0,none⟩) λb_28 o_29=>
    st b_28 (o_29+3) (.i (if (IntKind.wrap .i64 (p+(if (IntKind.wrap .i64 (Int.tdiv m n))>(1:Int) then (IntKind.wrap .i64 (Int.tdiv m n)) else (1:Int))))<c then (IntKind.wrap .i64 (p+(if (IntKind.wrap .i64 (Int.tdiv m n))>(1:Int) then (IntKind.wrap .i64 (Int.tdiv m n)) else (1:Int)))) else c))<|
    call1 .slc PR 259 [pq b 0,.b false] λ(x_30:Sl)=>
    FU By (Ai6 W M b c (t1++t2) key) (some ⟨b,0,none⟩) key x_30) w:=by
   clear hs;intro w m n hm hn2 hs;have e2:n=(b1.length:Int):=by rw[hn2];simp[Ca]
   have e3:m=(b2.length:Int):=by rw[hm];simp[Ca]
   subst e2 e3;refine Az (by omega) (Aa ?_);refine A0 hs λw hs=>?_;rw[A9q (N:=5000) (by omega) (by omega) (by omega)] at hs;exact bcase w _ false (by omega) (by simp[h4,h5]) (by simp[h6]) hs
  refine Ao [cA b s xb c p] hs λw hs=>?_;refine Aa (Am (Aa (Am (Aa (Am (x:=s) (Am (Aa (Am (x:=s) (Am ?_)))))))));refine⟨?_,?_⟩
  ·refine Ah hs λb3 w hs=>Ae hs ⟨?_,?_⟩
   ·refine AV AY (nr:=4) (K:=[t1,t2,b1,b2]) [3] (M:=cA b s xb c p::M) (by exact Ab.fin hs) (by omega) rfl λw hs=>Ae hs ?_;refine Ah hs λnb w hs=>Ae hs ?_;refine AV AY (nr:=4) (K:=[t1,t2,b1,b2]) [2] (M:=cA b s xb c p::M) (by exact Ab.fin hs) (by omega) rfl λw hs=>Ae hs ?_;exact cont w _ _ rfl rfl (by exact Ab.fin hs)
   ·refine Ah hs λnb w hs=>Ae hs ?_;refine AV AY (nr:=4) (K:=[t1,t2,b1,b2]) [3] (M:=blk nb [.i (2:Int)]::cA b s xb c p::M) (by exact Ab.fin hs) (by omega) rfl λw hs=>Ae hs ?_;refine AV AY (nr:=4) (K:=[t1,t2,b1,b2]) [2] (M:=cA b s xb c p::M) (by exact Ab.fin hs) (by omega) rfl λw hs=>Ae hs ?_;exact cont w _ _ rfl rfl (by exact Ab.fin hs)
  ·refine Ah hs λnb w hs=>Ae hs ?_;refine Ah hs λb3 w hs=>Ae hs ?_;refine AV AY (nr:=4) (K:=[t1,t2,b1,b2]) [3] (M:=blk nb [.i (2:Int)]::cA b s xb c p::M) (by exact Ab.fin hs) (by omega) rfl λw hs=>Ae hs ?_;refine AV AY (nr:=4) (K:=[t1,t2,b1,b2]) [2] (M:=cA b s xb c p::M) (by exact Ab.fin hs) (by omega) rfl λw hs=>Ae hs ?_;exact cont w _ _ rfl rfl (by exact Ab.fin hs)
 ·refine Ac rfl ?_;refine jw Hh ?_;refine Ac rfl (Ac rfl (Ak rfl ?_));have h0:0<b2.length:=List.length_pos_of_mem h7;have cont:∀(w:World)(m n:Int),m=(Ca [t1,t2,b1,b2] [2]:Int)->n=(Ca [t1,t2,b1,b2] [3]:Int)->Ab W w (cA b s xb c p::rowsC s xb 5000 [t1,t2,b1,b2]::M)->(Bw (n≠0)<| Ad (some ⟨b,0,none⟩) λb_28 o_29=>
    st b_28 (o_29+3) (.i (if (IntKind.wrap .i64 (p-(if (IntKind.wrap .i64 (Int.tdiv m n))>(1:Int) then (IntKind.wrap .i64 (Int.tdiv m n)) else (1:Int))))>(0:Int) then (IntKind.wrap .i64 (p-(if (IntKind.wrap .i64 (Int.tdiv m n))>(1:Int) then (IntKind.wrap .i64 (Int.tdiv m n)) else (1:Int)))) else (0:Int)))<|
    call1 .slc PR 259 [pq b 0,.b true] λ(x_30:Sl)=>
    FU By (Ai6 W M b c (t1++t2) key) (some ⟨b,0,none⟩) key x_30) w:=by
   clear hs;intro w m n hm hn2 hs;have e2:n=(b2.length:Int):=by rw[hn2];simp[Ca]
   have e3:m=(b1.length:Int):=by rw[hm];simp[Ca]
   subst e2 e3;refine Az (by omega) (Aa ?_);refine A0 hs λw hs=>?_;rw[Avu (N:=5000) (by omega) (by omega) (by omega)] at hs;exact bcase w _ true (by omega) (by simp[h4,h5]) (by simp[h7]) hs
  refine Ao [cA b s xb c p] hs λw hs=>?_;refine Aa (Am (Aa (Am (x:=s) (Am (Aa (Am (x:=s) (Am ?_)))))));refine⟨?_,?_⟩
  ·refine Ah hs λb3 w hs=>Ae hs ⟨?_,?_⟩
   ·refine AV AY (nr:=4) (K:=[t1,t2,b1,b2]) [2] (M:=cA b s xb c p::M) (by exact Ab.fin hs) (by omega) rfl λw hs=>Ae hs ?_;refine Ah hs λnb w hs=>Ae hs ?_;refine AV AY (nr:=4) (K:=[t1,t2,b1,b2]) [3] (M:=cA b s xb c p::M) (by exact Ab.fin hs) (by omega) rfl λw hs=>Ae hs ?_;exact cont w _ _ rfl rfl (by exact Ab.fin hs)
   ·refine Ah hs λnb w hs=>Ae hs ?_;refine AV AY (nr:=4) (K:=[t1,t2,b1,b2]) [2] (M:=blk nb [.i (3:Int)]::cA b s xb c p::M) (by exact Ab.fin hs) (by omega) rfl λw hs=>Ae hs ?_;refine AV AY (nr:=4) (K:=[t1,t2,b1,b2]) [3] (M:=cA b s xb c p::M) (by exact Ab.fin hs) (by omega) rfl λw hs=>Ae hs ?_;exact cont w _ _ rfl rfl (by exact Ab.fin hs)
  ·refine Ah hs λnb w hs=>Ae hs ?_;refine Ah hs λb3 w hs=>Ae hs ?_;refine AV AY (nr:=4) (K:=[t1,t2,b1,b2]) [2] (M:=blk nb [.i (3:Int)]::cA b s xb c p::M) (by exact Ab.fin hs) (by omega) rfl λw hs=>Ae hs ?_;refine AV AY (nr:=4) (K:=[t1,t2,b1,b2]) [3] (M:=cA b s xb c p::M) (by exact Ab.fin hs) (by omega) rfl λw hs=>Ae hs ?_;exact cont w _ _ rfl rfl (by exact Ab.fin hs)
 ·refine Ac rfl ?_;refine jw Hh ?_;refine Ac rfl (Ac rfl (Ac rfl ?_));have hno:key∉t1++t2:=by simp[h4,h5]
  refine Ai (Amu hs h1) λv w ⟨l,g,u1,u2,d1,d2,hv,⟨h8,h9,h10,h11⟩,hs⟩=>⟨l,hv,?_⟩;have hkn:key∉[u1,u2,d1,d2].flatten:=λhm=>by
   have:=h9 _ hm;simp[h4,h5,h6,h7] at this
  rw[D2] at h11;have hll:=Abm h8 hk;rw[List.length_append] at hll;refine Aa (Ag (x:=s) hs (Ag hs ?_));refine Ar (FQ AY (K:=[u1,u2,d1,d2]) (j:=0) hs (lt4 (by decide)) hz (by omega) (Nat.le_refl 4) (show u1.length<5000 by omega)) λe w ⟨he,hs⟩=>⟨he,?_⟩;have e1:DJ [u1,u2,d1,d2] 0 key=[u1++[key],u2,d1,d2]:=by
   show[Aq u1 _++[_],Aq u2 _,Aq d1 _,Aq d2 _]=_;rw[GH λh=>hkn (by simp[h]),GH λh=>hkn (by simp[h]),GH λh=>hkn (by simp[h]),GH λh=>hkn (by simp[h])]
  rw[e1] at hs;have ha:=Fj.miss hk hno hz h8 (T:=(u1++[key])++u2) DQ;exact⟨false,l,g,_,rfl,ha,Em ⟨rfl,ha.ok,hp,by simp only[List.length_append,List.length_cons,List.length_nil];omega,by rw[D2];simp only[List.length_append,List.length_cons,List.length_nil];omega⟩ hs⟩
theorem Avn(hz:key.size<64)(hs:Ab W w (Lv b c R::M)):BB PR 252 #[pq b 0,.s key] w λv w'=>∃(yes:Bool) (S:BL),v = .b yes/\DG c R key yes S/\Ab W w' (Lv b c S::M):=by
 refine cw ⟨mixed,Tryz.func252,rfl⟩ Apv ?_;have hk:=VC hs;have hr:=hk.room;refine Ao [Lv b c R] hs λw hs=>?_;refine Ac rfl ?_;refine Ai (Acq hz hs) λv w ⟨hv,hs⟩=>⟨_,hv,Ae hs ?_⟩
 with_reducible refine A2 (λh1=>?_) (λh1=>?_)
 ·exact Ae hs ⟨false,R,rfl,DG.no hk (λh=>h.1 h1),hs⟩
 refine Aa ?_;refine GM (k:=.int .i64) c (λw' h=>Avv h) ?_;refine Ai (Acr hs) λv w ⟨hv,hs⟩=>⟨_,hv,Ae hs ?_⟩
 with_reducible refine A2 (λh2=>?_) (λh2=>?_)
 ·exact⟨false,R,rfl,DG.no hk (λh=>by omega),hs⟩
 refine jw YM ?_;obtain⟨s,xb,p,t1,t2,b1,b2,h3,hs⟩:=EF hs;have hn:=h3.num;have htot:=h3.tot;have hp:=h3.p0;refine Aa (Ag (x:=s) hs (Ag hs ?_));refine Ar (FQ AY (K:=[t1,t2,b1,b2]) (j:=0) hs (lt4 (by decide)) hz (by omega) (Nat.le_refl 4) (show t1.length<5000 by omega)) λe w ⟨he,hs⟩=>⟨he,?_⟩;have hs:Ab W w (cA b s xb c p::rowsC s xb 5000 [Aq t1 key++[key],Aq t2 key,Aq b1 key,Aq b2 key]::M):=hs;have n1:key∉t1:=λh=>h1 (by rw[h3.eq];exact List.mem_append_left _ h)
 have n2:key∉t2:=λh=>h1 (by rw[h3.eq];exact List.mem_append_right _ h);rw[GH n1,GH n2] at hs;have hl:=DG.yes hk hz h1 (by omega) (S:=(t1++[key])++t2) (by rw[h3.eq];exact DQ)
 have hrm:=hl.ok.room;have a3:=BM b1 key;have a4:=BM b2 key;have e1:(t1++[key]).length=t1.length+1:=by simp
 rw[List.length_append] at hrm;generalize t1++[key]=u1 at *;generalize Aq b1 key=d1 at *;generalize Aq b2 key=d2 at *;have loop2:∀(f:Nat)(w:World)(d1 d2:BL),((u1.length:Int)+t2.length+d1.length+d2.length-2*c).toNat=f->((u1.length:Int)+d1.length<=c)->d1.length<=1024->d2.length<=4096->Ab W w (cA b s xb c p::rowsC s xb 5000 [u1,t2,d1,d2]::M) ->
   P5 By (λv w'=>∃(yes:Bool) (S:BL),v = .b yes/\DG c R key yes S/\Ab W w' (Lv b c S::M)) (f+1) (some ⟨b,0,none⟩) w:=by
  clear hs;intro f
  induction f with
  | zero=>
   intro w d1 d2 hf hl1 hd1 hd2 hs;rw[Nz];have e4:(Ca [u1,t2,d1,d2] [0,1,2,3]:Int)=u1.length+t2.length+d1.length+d2.length:=by simp[Ca];omega
   refine Ao [cA b s xb c p] hs λw hs=>?_;refine Aa (Am (x:=s) (Am (Aa (Am ?_))));refine Ah hs λnb w hs=>Ae hs ?_;refine AV AY (nr:=4) (K:=[u1,t2,d1,d2]) [0,1,2,3] (M:=cA b s xb c p::M) (by exact Ab.fin hs) (by omega) rfl λw hs=>Ae hs ?_;rw[e4,i64_in (2*c) (by omega)];refine Ac (decide_eq_false (by omega)) ?_;refine jw YO ?_;exact⟨true,_,rfl,hl,Em (t1:=u1) (t2:=t2) (b1:=d1) (b2:=d2) (s:=s) (xb:=xb) ⟨rfl,hl.ok,hp,by omega,by rw[D2];omega⟩ (by exact Ab.fin hs)⟩
  | succ f ih=>
   intro w d1 d2 hf hl1 hd1 hd2 hs;rw[Nz];have hnd:=nd4 (t1:=u1) (t2:=t2) (b1:=d1) (b2:=d2) (M:=cA b s xb c p::M) (by exact Ab.fin hs);have h0:0<d2.length:=by omega
   have e4:(Ca [u1,t2,d1,d2] [0,1,2,3]:Int)=u1.length+t2.length+d1.length+d2.length:=by simp[Ca];omega
   refine Ao [cA b s xb c p] hs λw hs=>?_;refine Aa (Am (x:=s) (Am (Aa (Am ?_))));refine Ah hs λnb w hs=>Ae hs ?_;refine AV AY (nr:=4) (K:=[u1,t2,d1,d2]) [0,1,2,3] (M:=cA b s xb c p::M) (by exact Ab.fin hs) (by omega) rfl λw hs=>Ae hs ?_;rw[e4,i64_in (2*c) (by omega)];refine Ak (decide_eq_true (by omega)) ?_;have hs:Ab W w (cA b s xb c p::rowsC s xb 5000 [u1,t2,d1,d2]::M):=by exact Ab.fin hs
   refine Ao [cA b s xb c p] hs λw hs=>?_;refine Aa (Am (x:=s) (Am (Aa (Ag (x:=s) hs (Ag hs (Ae hs ?_))))));refine An (BW AY (K:=[u1,t2,d1,d2]) (j:=3) hs (lt4 (by decide)) (Nat.le_refl 4)) λe w ⟨he,hs⟩=>⟨_,he,Ae hs ?_⟩;refine Ar (C0 AY (K:=[u1,t2,d1,d2]) (key:=C3 d2) hs (hnd.small _ (KM.2 (.inr (.inr (.inr (Dk h0)))))) (by omega) (Nat.le_refl 4)) λe w ⟨he,hs⟩=>⟨he,?_⟩;rw[A4k hnd h0] at hs;exact ih w _ _ (by rw[List.length_drop];omega) hl1 hd1 (by rw[List.length_drop];omega) hs
 have loop1:∀(f:Nat)(w:World)(d1:BL),((u1.length:Int)+d1.length-c).toNat=f->d1.length<=1024->Ab W w (cA b s xb c p::rowsC s xb 5000 [u1,t2,d1,d2]::M) ->
   P4 By (λv w'=>∃(yes:Bool) (S:BL),v = .b yes/\DG c R key yes S/\Ab W w' (Lv b c S::M)) (f+1) (some ⟨b,0,none⟩) w:=by
  clear hs;intro f
  induction f with
  | zero=>
   intro w d1 hf hd1 hs;rw[Ny];have e2:(Ca [u1,t2,d1,d2] [0,2]:Int)=u1.length+d1.length:=by simp[Ca]
   refine Ao [cA b s xb c p] hs λw hs=>?_;refine Aa (Am (x:=s) (Am (Aa (Am ?_))));refine Ah hs λnb w hs=>Ae hs ?_;refine AV AY (nr:=4) (K:=[u1,t2,d1,d2]) [0,2] (M:=cA b s xb c p::M) (by exact Ab.fin hs) (by omega) rfl λw hs=>Ae hs ?_;rw[e2];refine Ac (decide_eq_false (by omega)) ?_;refine jw YN ?_;exact AR _ (loop2 _ w d1 d2 rfl (by omega) hd1 (by omega) (by exact Ab.fin hs))
  | succ f ih=>
   intro w d1 hf hd1 hs;rw[Ny];have hnd:=nd4 (t1:=u1) (t2:=t2) (b1:=d1) (b2:=d2) (M:=cA b s xb c p::M) (by exact Ab.fin hs);have h0:0<d1.length:=by omega
   have e2:(Ca [u1,t2,d1,d2] [0,2]:Int)=u1.length+d1.length:=by simp[Ca]
   refine Ao [cA b s xb c p] hs λw hs=>?_;refine Aa (Am (x:=s) (Am (Aa (Am ?_))));refine Ah hs λnb w hs=>Ae hs ?_;refine AV AY (nr:=4) (K:=[u1,t2,d1,d2]) [0,2] (M:=cA b s xb c p::M) (by exact Ab.fin hs) (by omega) rfl λw hs=>Ae hs ?_;rw[e2];refine Ak (decide_eq_true (by omega)) ?_;have hs:Ab W w (cA b s xb c p::rowsC s xb 5000 [u1,t2,d1,d2]::M):=by exact Ab.fin hs
   refine Ao [cA b s xb c p] hs λw hs=>?_;refine Aa (Am (x:=s) (Am (Aa (Ag (x:=s) hs (Ag hs (Ae hs ?_))))));refine An (BW AY (K:=[u1,t2,d1,d2]) (j:=2) hs (lt4 (by decide)) (Nat.le_refl 4)) λe w ⟨he,hs⟩=>⟨_,he,Ae hs ?_⟩;refine Ar (C0 AY (K:=[u1,t2,d1,d2]) (key:=C3 d1) hs (hnd.small _ (KM.2 (.inr (.inr (.inl (Dk h0)))))) (by omega) (Nat.le_refl 4)) λe w ⟨he,hs⟩=>⟨he,?_⟩;rw[A4j hnd h0] at hs;exact ih w _ (by rw[List.length_drop];omega) (by rw[List.length_drop];omega) hs
 exact AR _ (loop1 _ w d1 rfl (by omega) hs)
theorem Ajb(hz:key.size<64)(hs:Ab W w (Lv b c R::M)):BB PR 253 #[pq b 0,.s key] w λv w'=>∃(yes:Bool) (S:BL),v = .b yes/\Gj c R key yes S/\Ab W w' (Lv b c S::M):=by
 refine cw ⟨mixed,Tryz.func253,rfl⟩ Apw ?_;have hk:=VC hs;refine Ai (Acq hz hs) λv w ⟨hv,hs⟩=>⟨_,hv,?_⟩
 by_cases h1:key∈R
 ·refine Ac (by rw[decide_eq_true h1];rfl) ?_;obtain⟨s,xb,p,t1,t2,b1,b2,h3,hs⟩:=EF hs;have hn:=h3.num;refine Aa (Ag (x:=s) hs (Ag hs ?_));refine Ar (C0 AY (K:=[t1,t2,b1,b2]) hs hz (by omega) (Nat.le_refl 4)) λe w ⟨he,hs⟩=>⟨he,?_⟩;rw[h3.eq] at hk h1;have hr:=Gj.cut2 hk h1;rw[<- h3.eq] at hr;have a1:=BM t1 key;have a2:=BM t2 key;have a3:=BM b1 key;have a4:=BM b2 key;exact⟨true,_,rfl,hr,Em (t1:=Aq t1 key) (t2:=Aq t2 key) (b1:=Aq b1 key) (b2:=Aq b2 key) ⟨rfl,hr.ok,h3.p0,by omega,by rw[D2];omega⟩ hs⟩
 ·refine Ak (by rw[decide_eq_false h1];rfl) ⟨false,R,rfl,Gj.no hk h1,hs⟩
end
end Go.Proofs.YtjipofkjmmpjdaaGreat
namespace Go.Hb
abbrev SL:=List (BA×Int)
instance A9x{e:BA×Int}{S:SL}:Decidable (e∈S):=decidable_of_iff (S.any (λx=>decide (x=e))=true) (by simp)
structure BE where
 s:SL
 q:List BA
def Bm(S:SL):List BA:=S.map (·.1)
def AF(S:SL)(i:Int):Nat:=S.countP λe=>decide (e.2=i)
def CQ(S:SL)(i:Int):List BA:=(S.filter λe=>decide (e.2=i)).map (·.1)
def JO(S:SL)(k:BA):Int:=((S.find? λe=>decide (e.1=k)).map (·.2)).getD 0
def BR(S:SL)(k:BA):SL:=S.filter λe=>decide (e.1≠k)
def HX(S:SL)(k:BA)(i:Int):SL:=BR S k++[(k,i)]
def EC(S:SL):SL:=S.dropWhile λe=>decide (e.2≠1)
def Dn(S:SL)(i:Int):Option BA:=(S.find? λe=>decide (e.2=i)).map (·.1)
def C6(S:SL)(k:BA):SL:=S.map λe=>if e.1=k then (k,3) else e
def D5(c:Int):Int:=c-max 1 (c / 10)
def MB(x:BE):BE:=match Dn x.s 1 with
 | some k=>⟨BR x.s k,x.q++[k]⟩
 | none=>x
def D4(x:BE):BE:=⟨EC (MB x).s,(MB x).q⟩
def Do(S:SL):Nat->SL
 | 0=>S
 | n+1=>match Dn S 3 with
  | some k=>Do (BR S k) n
  | none=>S
def IB(c:Int)(S:SL):SL:=Do S ((AF S 3:Int)-c).toNat
def Eb(x:BE)(k:BA):BE:=⟨HX x.s k 1,Aq x.q k⟩
def EB(c:Int)(x:BE)(k:BA):BE:=if D5 c<(AF (Eb x k).s 1:Int) then D4 (Eb x k) else Eb x k
def CG(x:BE)(k:BA):BE:=⟨HX x.s k 2,Aq x.q k++[k]⟩
def Dj(x:BE):Nat:=x.q.length+AF x.s 1
def lPr(x:BE):BE:=⟨EC x.s,x.q⟩
def lFp(c:Int)(x:BE):BE:=⟨EC (IB c x.s),x.q⟩
def R4(x:BE):BE:=if x.q=[] then D4 x else x
def CX(c:Int)(x:BE):(BA×Bool)×BE:=
 if Dj x=0 then ((⟨#[]⟩,false),x) else (((R4 x).q.headD ⟨#[]⟩,true),lFp c ⟨C6 (R4 x).s ((R4 x).q.headD ⟨#[]⟩),(R4 x).q.drop 1⟩)
def HW(c:Int)(x:BE):List BA×BE:=if c<=(Dj x:Int) then ([(CX c x).1.1],(CX c x).2) else ([],x)
def SS(c:Int)(y:BE)(k:BA):BE:=if (AF y.s 1:Int)<D5 c\/JO y.s k=3 then EB c y k else CG y k
def Ga(c:Int)(x:BE)(k:BA):(Bool×List BA)×BE:=
 if JO x.s k=1\/(k∈x.q/\JO x.s k=2) then ((true,[]),lPr (EB c x k))
 else if k∈x.q then ((true,[]),lPr (CG x k))
 else ((false,(HW c x).1),lFp c (SS c (HW c x).2 k))
def Cm(x:BE):List BA:=x.q++CQ x.s 1
def Gb(c:Int)(x:BE)(k:BA):Bool×BE:=
 if JO x.s k=1\/k∈x.q\/(Dj x:Int)=c then (false,x)
 else (true,lPr (if (AF x.s 1:Int)<D5 c then EB c x k else CG x k))
def LY(x:BE)(k:BA):Bool×BE:=if JO x.s k=1\/k∈x.q then (true,lPr ⟨BR x.s k,Aq x.q k⟩) else (false,x)
def Gc:BE:=⟨[],[]⟩
structure LW(x:BE):Prop where
 sn:(Bm x.s).Nodup
 qn:x.q.Nodup
 kinds:∀e∈x.s,e.2=1\/e.2=2\/e.2=3
 hotq:∀e∈x.s,e.2=1->e.1∉x.q
 ghq:∀e∈x.s,e.2=3->e.1∉x.q
 coldq:∀e∈x.s,e.2=2->e.1∈x.q
 ssm:∀e∈x.s,e.1.size<64
 qsm:∀k∈x.q,k.size<64
structure Om(c:Int)(x:BE):Prop where
 w:LW x
 c1:1<=c
 c2:c<=1024
 hots:(AF x.s 1:Int)<=D5 c
 ghs:(AF x.s 3:Int)<=c
 len:(Dj x:Int)<=c
section
variable{S:SL}{x:BE}{k:BA}{c:Int}{i:Int}
theorem C8{e:BA×Int}:e∈BR S k↔e∈S/\e.1≠k:=by simp[BR]
theorem DW{e:BA×Int}:e∈HX S k i↔(e∈S/\e.1≠k)\/e=(k,i):=by unfold HX;rw[List.mem_append,C8,List.mem_singleton]
theorem E1(S:SL)(k:BA):Bm (BR S k)=Aq (Bm S) k:=by unfold Bm BR Aq;rw[List.filter_map];rfl
theorem R7(h:k∉Bm S):BR S k=S:=by
 unfold BR;rw[List.filter_eq_self];intro e he;exact decide_eq_true λhk=>h (List.mem_map.2 ⟨e,he,hk⟩)
theorem IC(h:(Bm S).Nodup):(Bm (BR S k)).Nodup:=by rw[E1];exact Fa h
theorem RA(h:(Bm S).Nodup):(Bm (HX S k i)).Nodup:=by
 unfold HX;have:Bm (BR S k++[(k,i)])=Aq (Bm S) k++[k]:=by rw[<- E1];simp[Bm]
 rw[this];exact Rl h
theorem Hq(S:SL)(k:BA):Bm (C6 S k)=Bm S:=by
 unfold Bm C6;rw[List.map_map];refine List.map_congr_left λe _=>?_;simp only[Function.comp];split
 ·rename_i h;exact h.symm
 ·rfl
theorem ES{e:BA×Int}:e∈C6 S k↔(e∈S/\e.1≠k)\/(e=(k,3)/\k∈Bm S):=by
 unfold C6 Bm;simp only[List.mem_map];constructor
 ·rintro⟨a,ha,rfl⟩;split
  ·rename_i h;exact .inr ⟨rfl,a,ha,h⟩
  ·rename_i h;exact .inl ⟨ha,h⟩
 ·rintro(⟨h1,h2⟩|⟨rfl,a,ha,hk⟩)
  ·exact⟨e,h1,by rw[if_neg h2]⟩
  ·exact⟨a,ha,by rw[if_pos hk]⟩
theorem MM{a b:Int}(h:(Bm S).Nodup)(h1:(k,a)∈S)(h2:(k,b)∈S):a=b:=by
 have e1:AC S k=some a:=(Ck h).2 h1;have e2:AC S k=some b:=(Ck h).2 h2;rw[e1] at e2;exact Option.some.inj e2
theorem DP(h:(Bm S).Nodup)(hi:i≠0):JO S k=i↔(k,i)∈S:=by
 rw[<- Ck (m:=S) h];unfold JO AC;cases hf:(S.find? λe=>decide (e.1=k)) with
 | none=>
  simp only[Option.map_none,Option.getD_none];constructor
  ·intro h;exact absurd h.symm hi
  ·intro h;cases h
 | some e=>simp
theorem ER(S:SL):(EC S).Sublist S:=List.dropWhile_sublist _
theorem FL(S:SL):AF (EC S) 1=AF S 1:=by
 induction S with
 | nil=>rfl
 | cons a S ih=>
  unfold EC;rw[List.dropWhile_cons];split
  ·rename_i ha;simp only[ne_eq,decide_not,Bool.not_eq_eq_eq_not,Bool.not_true,decide_eq_false_iff_not] at ha;show AF (EC S) 1=_;rw[ih];unfold AF;rw[List.countP_cons_of_neg (by simpa using ha)]
  ·rfl
theorem LV(S:SL):CQ (EC S) 1=CQ S 1:=by
 induction S with
 | nil=>rfl
 | cons a S ih=>
  unfold EC;rw[List.dropWhile_cons];split
  ·rename_i ha;simp only[ne_eq,decide_not,Bool.not_eq_eq_eq_not,Bool.not_true,decide_eq_false_iff_not] at ha;show CQ (EC S) 1=_;rw[ih];unfold CQ;rw[List.filter_cons_of_neg (by simpa using ha)]
  ·rfl
theorem R3{T:SL}(h:T.Sublist S)(i:Int):AF T i<=AF S i:=h.countP_le
theorem Dm(h:(Bm S).Nodup)(i:Int):AF (BR S k) i+(if (k,i)∈S then 1 else 0)=AF S i:=by
 induction S with
 | nil=>rfl
 | cons a S ih=>
  unfold Bm at h;rw[List.map_cons,List.nodup_cons] at h;have ih:=ih h.2;unfold BR AF at ih ⊢
  by_cases hk:a.1=k
  ·have hno:∀j,(k,j)∉S:=λj hj=>h.1 (List.mem_map.2 ⟨_,hj,hk.symm⟩);rw[List.filter_cons_of_neg (by simpa using hk),List.countP_cons];rw[if_neg (hno i)] at ih;have hme:(k,i)∈a::S↔a.2=i:=by
    rw[List.mem_cons];constructor
    ·rintro(h|h)
     ·rw[<- h]
     ·exact absurd h (hno i)
    ·intro h2;left;rw[<- hk,<- h2]
   simp only[hme,decide_eq_true_eq];omega
  ·rw[List.filter_cons_of_pos (by simpa using hk),List.countP_cons,List.countP_cons];have hme:(k,i)∈a::S↔(k,i)∈S:=by
    rw[List.mem_cons];constructor
    ·rintro(h|h)
     ·exact absurd (by rw[<- h]) hk
     ·exact h
    ·exact .inr
   simp only[hme];omega
theorem LP(j:Int):AF (HX S k i) j=AF (BR S k) j+(if i=j then 1 else 0):=by
 unfold HX AF;rw[List.countP_append,List.countP_cons];simp
theorem Afm(h:(Bm S).Nodup):AF (C6 S k) 1=AF (BR S k) 1/\AF (C6 S k) 3<=AF S 3+1:=by
 induction S with
 | nil=>exact⟨rfl,by simp[AF,C6]⟩
 | cons a S ih=>
  unfold Bm at h;rw[List.map_cons,List.nodup_cons] at h;obtain⟨ih1,ih2⟩:=ih h.2
  by_cases hk:a.1=k
  ·have hno:k∉S.map (·.1):=by rw[<- hk];exact h.1
   have e1:C6 S k=S:=by
    unfold C6
    conv=>rhs;rw[<- List.map_id S]
    refine List.map_congr_left λe he=>?_;rw[if_neg (λh2=>hno (List.mem_map.2 ⟨e,he,h2⟩))];rfl
   have e2:BR S k=S:=R7 hno;have e3:C6 (a::S) k=(k,3)::S:=by
    show(if a.1=k then (k,3) else a)::C6 S k=_;rw[if_pos hk,e1]
   have e4:BR (a::S) k=S:=by
    have:BR (a::S) k=BR S k:=by unfold BR;rw[List.filter_cons_of_neg (by simpa using hk)]
    rw[this,e2]
   rw[e3,e4];unfold AF;rw[List.countP_cons,List.countP_cons,List.countP_cons];simp
  ·have e3:C6 (a::S) k=a::C6 S k:=by
    show(if a.1=k then (k,3) else a)::C6 S k=_;rw[if_neg hk]
   have e4:BR (a::S) k=a::BR S k:=by
    unfold BR;rw[List.filter_cons_of_pos (by simpa using hk)]
   rw[e3,e4];unfold AF at *;constructor
   ·rw[List.countP_cons,List.countP_cons,ih1]
   ·rw[List.countP_cons,List.countP_cons];omega
theorem GK(h:Dn S i=some k):(k,i)∈S:=by
 unfold Dn at h;cases hf:(S.find? λe=>decide (e.2=i)) with
 | none=>rw[hf] at h;cases h
 | some e=>
  rw[hf] at h;simp only[Option.map_some,Option.some.injEq] at h;have h1:=List.mem_of_find?_eq_some hf;have h2:=List.find?_some hf;simp only[decide_eq_true_eq] at h2;rw[<- h,<- h2];exact h1
theorem Hp:Dn S i=none↔AF S i=0:=by
 unfold Dn AF;rw[Option.map_eq_none_iff,List.find?_eq_none,List.countP_eq_zero]
theorem LR:∀(n:Nat)(S:SL),(Do S n).Sublist S
 | 0,S=>List.Sublist.refl _
 | n+1,S=>by
  unfold Do;split
  ·exact(LR n _).trans List.filter_sublist
  ·exact List.Sublist.refl _
theorem LQ:∀(n:Nat)(S:SL),(Bm S).Nodup->AF (Do S n) 3=AF S 3-n/\(∀e∈S,e.2≠3->e∈Do S n)
 | 0,S,_=>⟨by simp[Do],λe he _=>he⟩
 | n+1,S,h=>by
  unfold Do;split
  ·rename_i k hk;have hm:=GK hk;have h1:=Dm (k:=k) h 3;rw[if_pos hm] at h1;obtain⟨h2,h3⟩:=LQ n (BR S k) (IC h);refine⟨by omega,λe he he3=>h3 e (C8.2 ⟨he,λhek=>?_⟩) he3⟩;have:e.2=3:=MM (k:=k) h (by rw[<- hek];exact he) hm
   exact he3 this
  ·rename_i hk;have:=Hp.1 hk;exact⟨by omega,λe he _=>he⟩
theorem Jx:∀(n:Nat)(S:SL),(Bm S).Nodup->CQ (Do S n) 1=CQ S 1/\AF (Do S n) 1=AF S 1
 | 0,S,_=>⟨rfl,rfl⟩
 | n+1,S,h=>by
  unfold Do;split
  ·rename_i k hk;have hm:=GK hk;obtain⟨h2,h3⟩:=Jx n (BR S k) (IC h);have hne:∀e∈S,e.2=1->e.1≠k:=λe he h1 hek=>by
    have:e.2=3:=MM (k:=k) h (by rw[<- hek];exact he) hm;omega
   have h4:(BR S k).filter (λe=>decide (e.2=1))=S.filter (λe=>decide (e.2=1)):=by
    unfold BR;rw[List.filter_filter];refine List.filter_congr λe he=>?_
    by_cases h1:e.2=1
    ·simp[h1,hne e he h1]
    ·simp[h1]
   rw[h2,h3];unfold CQ AF;rw[h4,List.countP_eq_length_filter,List.countP_eq_length_filter,h4];exact⟨rfl,rfl⟩
  ·exact⟨rfl,rfl⟩
theorem R9:k∈CQ S i↔(k,i)∈S:=by
 unfold CQ;simp only[List.mem_map,List.mem_filter,decide_eq_true_eq];constructor
 ·rintro⟨e,⟨h1,h2⟩,rfl⟩;rw[<- h2];exact h1
 ·intro h;exact⟨_,⟨h,rfl⟩,rfl⟩
theorem Afq(S:SL)(i:Int):(CQ S i).length=AF S i:=by unfold CQ AF;rw[List.length_map,List.countP_eq_length_filter]
theorem BF:k∈Cm x↔k∈x.q\/(k,1)∈x.s:=by unfold Cm;rw[List.mem_append,R9]
theorem Jy(x:BE):(Cm x).length=Dj x:=by unfold Cm Dj;rw[List.length_append,Afq]
theorem LW.res_nd(h:LW x):(Cm x).Nodup:=by
 unfold Cm;rw[List.nodup_append];refine⟨h.qn,?_,λa ha b hb hab=>?_⟩
 ·exact h.sn.sublist (List.filter_sublist.map _)
 ·subst hab;exact h.hotq _ (R9.1 hb) rfl ha
theorem LW.heat(h:LW x)(hz:k.size<64):LW (Eb x k):=by
 refine⟨RA h.sn,Fa h.qn,λe he=>?_,λe he h1=>?_,λe he h1=>?_,λe he h1=>?_,λe he=>?_,λy hy=>h.qsm y (AT.1 hy).1⟩
 ·rcases DW.1 he with⟨he,_⟩|rfl
  ·exact h.kinds e he
  ·exact .inl rfl
 ·rcases DW.1 he with⟨he,hk⟩|rfl
  ·exact λhq=>h.hotq e he h1 (AT.1 hq).1
  ·exact λhq=>(AT.1 hq).2 rfl
 ·rcases DW.1 he with⟨he,hk⟩|rfl
  ·exact λhq=>h.ghq e he h1 (AT.1 hq).1
  ·cases h1
 ·rcases DW.1 he with⟨he,hk⟩|rfl
  ·exact AT.2 ⟨h.coldq e he h1,hk⟩
  ·cases h1
 ·rcases DW.1 he with⟨he,hk⟩|rfl
  ·exact h.ssm e he
  ·exact hz
theorem LW.chill(h:LW x)(hz:k.size<64):LW (CG x k):=by
 refine⟨RA h.sn,Rl h.qn,λe he=>?_,λe he h1=>?_,λe he h1=>?_,λe he h1=>?_,λe he=>?_,λy hy=>?_⟩
 ·rcases DW.1 he with⟨he,_⟩|rfl
  ·exact h.kinds e he
  ·exact .inr (.inl rfl)
 ·rcases DW.1 he with⟨he,hk⟩|rfl
  ·intro hq;rcases List.mem_append.1 hq with hq|hq
   ·exact h.hotq e he h1 (AT.1 hq).1
   ·exact hk (List.mem_singleton.1 hq)
  ·cases h1
 ·rcases DW.1 he with⟨he,hk⟩|rfl
  ·intro hq;rcases List.mem_append.1 hq with hq|hq
   ·exact h.ghq e he h1 (AT.1 hq).1
   ·exact hk (List.mem_singleton.1 hq)
  ·cases h1
 ·rcases DW.1 he with⟨he,hk⟩|rfl
  ·exact List.mem_append_left _ (AT.2 ⟨h.coldq e he h1,hk⟩)
  ·exact List.mem_append_right _ (List.mem_singleton.2 rfl)
 ·rcases DW.1 he with⟨he,hk⟩|rfl
  ·exact h.ssm e he
  ·exact hz
 ·rcases List.mem_append.1 hy with hy|hy
  ·exact h.qsm y (AT.1 hy).1
  ·rw[List.mem_singleton] at hy;subst hy;exact hz
theorem LW.sub(h:LW x){T:SL}(hT:T.Sublist x.s):LW ⟨T,x.q⟩:=
 ⟨h.sn.sublist (hT.map _),h.qn,λe he=>h.kinds e (hT.subset he),λe he=>h.hotq e (hT.subset he),λe he=>h.ghq e (hT.subset he),λe he=>h.coldq e (hT.subset he),λe he=>h.ssm e (hT.subset he),h.qsm⟩
theorem LW.cool(h:LW x)(hk:(k,1)∈x.s):LW ⟨BR x.s k,x.q++[k]⟩:=by
 have hq:=h.hotq _ hk rfl;refine⟨IC h.sn,?_,λe he=>h.kinds e (C8.1 he).1,λe he h1 hq2=>?_,λe he h1 hq2=>?_,λe he h1=>List.mem_append_left _ (h.coldq e (C8.1 he).1 h1),λe he=>h.ssm e (C8.1 he).1,λy hy=>?_⟩
 ·rw[List.nodup_append];exact⟨h.qn,by simp,λa ha b hb hab=>by rw[List.mem_singleton] at hb;subst hb;exact hq (hab ▸ ha)⟩
 ·rcases List.mem_append.1 hq2 with h2|h2
  ·exact h.hotq e (C8.1 he).1 h1 h2
  ·exact(C8.1 he).2 (List.mem_singleton.1 h2)
 ·rcases List.mem_append.1 hq2 with h2|h2
  ·exact h.ghq e (C8.1 he).1 h1 h2
  ·exact(C8.1 he).2 (List.mem_singleton.1 h2)
 ·rcases List.mem_append.1 hy with hy|hy
  ·exact h.qsm y hy
  ·rw[List.mem_singleton] at hy;subst hy;exact h.ssm _ hk
theorem LW.ghost{t:List BA}(h:LW x)(hq:x.q=k::t):LW ⟨C6 x.s k,t⟩:=by
 have hn:=h.qn;rw[hq,List.nodup_cons] at hn;have hsub:∀y∈t,y∈x.q:=λy hy=>by rw[hq];exact .tail _ hy
 refine⟨by rw[Hq];exact h.sn,hn.2,λe he=>?_,λe he h1=>?_,λe he h1=>?_,λe he h1=>?_,λe he=>?_,λy hy=>h.qsm y (hsub y hy)⟩
 ·rcases ES.1 he with⟨he,_⟩|⟨rfl,_⟩
  ·exact h.kinds e he
  ·exact .inr (.inr rfl)
 ·rcases ES.1 he with⟨he,hk⟩|⟨rfl,_⟩
  ·exact λh2=>h.hotq e he h1 (hsub _ h2)
  ·cases h1
 ·rcases ES.1 he with⟨he,hk⟩|⟨rfl,_⟩
  ·exact λh2=>h.ghq e he h1 (hsub _ h2)
  ·exact hn.1
 ·rcases ES.1 he with⟨he,hk⟩|⟨rfl,_⟩
  ·have:=h.coldq e he h1;rw[hq] at this;rcases List.mem_cons.1 this with h2|h2
   ·exact absurd h2 hk
   ·exact h2
  ·cases h1
 ·rcases ES.1 he with⟨he,hk⟩|⟨rfl,_⟩
  ·exact h.ssm e he
  ·exact h.qsm k (by rw[hq];exact .head _)
theorem LW.rem(h:LW x)(k:BA):LW ⟨BR x.s k,Aq x.q k⟩:=
 ⟨IC h.sn,Fa h.qn,λe he=>h.kinds e (C8.1 he).1,λe he h1 hq=>h.hotq e (C8.1 he).1 h1 (AT.1 hq).1,λe he h1 hq=>h.ghq e (C8.1 he).1 h1 (AT.1 hq).1,
  λe he h1=>AT.2 ⟨h.coldq e (C8.1 he).1 h1,(C8.1 he).2⟩,λe he=>h.ssm e (C8.1 he).1,λy hy=>h.qsm y (AT.1 hy).1⟩
theorem JT(x:BE):Cm (lPr x)=Cm x:=by unfold Cm lPr;rw[LV]
theorem LU(x:BE):Dj (lPr x)=Dj x/\AF (lPr x).s 1=AF x.s 1/\AF (lPr x).s 3<=AF x.s 3:=by
 refine⟨?_,FL _,R3 (ER _) 3⟩;unfold Dj lPr;rw[FL]
theorem Aii(h:(Bm x.s).Nodup):Cm (lFp c x)=Cm x/\Dj (lFp c x)=Dj x/\AF (lFp c x).s 1=AF x.s 1/\(0<=c->(AF (lFp c x).s 3:Int)<=c):=by
 obtain⟨h1,h2⟩:=Jx ((AF x.s 3:Int)-c).toNat x.s h;obtain⟨h3,_⟩:=LQ ((AF x.s 3:Int)-c).toNat x.s h;have h4:=R3 (ER (IB c x.s)) 3;refine⟨?_,?_,?_,λhc=>?_⟩
 ·unfold Cm lFp;rw[LV];unfold IB;rw[h1]
 ·unfold Dj lFp;rw[FL];unfold IB;rw[h2]
 ·unfold lFp;rw[FL];unfold IB;rw[h2]
 ·unfold lFp;unfold IB at h4 ⊢;simp only;omega
theorem LW.fp(h:LW x):LW (lFp c x):=h.sub ((ER _).trans (LR _ _))
theorem LW.pr(h:LW x):LW (lPr x):=h.sub (ER _)
theorem MC(h:LW x)(hp:0<AF x.s 1):∃k,(k,1)∈x.s/\MB x=⟨BR x.s k,x.q++[k]⟩/\LW (D4 x)/\(∀y,y∈Cm (D4 x)↔y∈Cm x)/\Dj (D4 x)=Dj x/\AF (D4 x).s 1+1=AF x.s 1/\AF (D4 x).s 3<=AF x.s 3:=by
 cases hf:Dn x.s 1 with
 | none=>have:=Hp.1 hf;omega
 | some k=>
  have hm:=GK hf;have e0:MB x=⟨BR x.s k,x.q++[k]⟩:=by unfold MB;rw[hf]
  have hw:=h.cool hm;have h1:=Dm (k:=k) h.sn 1;rw[if_pos hm] at h1;have h3:=Dm (k:=k) h.sn 3;have h4:=R3 (ER (BR x.s k)) 3;refine⟨k,hm,e0,?_,λy=>?_,?_,?_,?_⟩
  ·unfold D4;rw[e0];exact hw.sub (ER _)
  ·have:Cm (D4 x)=Cm ⟨BR x.s k,x.q++[k]⟩:=by unfold D4;rw[e0];exact JT ⟨BR x.s k,x.q++[k]⟩
   rw[this,BF,BF];simp only[List.mem_append,List.mem_singleton,C8];constructor
   ·rintro((h|rfl)|h)
    ·exact .inl h
    ·exact .inr hm
    ·exact .inr h.1
   ·rintro(h|h)
    ·exact .inl (.inl h)
    ·by_cases hy:y=k
     ·exact .inl (.inr hy)
     ·exact .inr ⟨h,hy⟩
  ·unfold D4 Dj;rw[e0];simp only[FL,List.length_append,List.length_cons,List.length_nil];omega
  ·unfold D4;rw[e0];simp only[FL];omega
  ·unfold D4;rw[e0];simp only;split at h3 <;> omega
theorem Afn(h:LW x):(∀y,y∈Cm (Eb x k)↔y∈Cm x\/y=k)/\AF (Eb x k).s 1+(if (k,1)∈x.s then 1 else 0)=AF x.s 1+1/\Dj (Eb x k)+(if k∈Cm x then 1 else 0)=Dj x+1/\AF (Eb x k).s 3<=AF x.s 3:=by
 have h1:=Dm (k:=k) h.sn 1;have h3:=Dm (k:=k) h.sn 3;have e1:AF (Eb x k).s 1=AF (BR x.s k) 1+1:=by unfold Eb;simp only;rw[LP];simp
 have e3:AF (Eb x k).s 3=AF (BR x.s k) 3:=by unfold Eb;simp only;rw[LP];simp
 refine⟨λy=>?_,by omega,?_,by omega⟩
 ·rw[BF,BF];unfold Eb;simp only[AT,DW];constructor
  ·rintro(h|(h|h))
   ·exact .inl (.inl h.1)
   ·exact .inl (.inr h.1)
   ·exact .inr (by cases h;rfl)
  ·rintro(h|rfl)
   ·by_cases hy:y=k
    ·subst hy;exact .inr (.inr rfl)
    ·rcases h with h|h
     ·exact .inl ⟨h,hy⟩
     ·exact .inr (.inl ⟨h,hy⟩)
   ·exact .inr (.inr rfl)
 ·unfold Dj;rw[e1];have e4:(Eb x k).q=Aq x.q k:=rfl;rw[e4]
  by_cases hq:k∈x.q
  ·have e5:=(CP h.qn hq).length_eq;simp only[List.length_cons] at e5;rw[if_pos (BF.2 (.inl hq))];rw[if_neg (λhh=>h.hotq _ hh rfl hq)] at h1;omega
  ·rw[Av hq]
   by_cases hh:(k,1)∈x.s
   ·rw[if_pos (BF.2 (.inr hh))];rw[if_pos hh] at h1;omega
   ·rw[if_neg (λh=>(BF.1 h).elim hq hh)];rw[if_neg hh] at h1;omega
theorem MD(h:LW x)(hz:k.size<64)(hm:0<=D5 c)(hh:(AF x.s 1:Int)<=D5 c):LW (EB c x k)/\(∀y,y∈Cm (EB c x k)↔y∈Cm x\/y=k) /\
  Dj (EB c x k)+(if k∈Cm x then 1 else 0)=Dj x+1/\(AF (EB c x k).s 1:Int)<=D5 c/\AF (EB c x k).s 3<=AF x.s 3:=by
 obtain⟨h1,h2,h3,h4⟩:=Afn h (k:=k);have hw:=h.heat (k:=k) hz;unfold EB;split
 ·rename_i hc;obtain⟨j,hj,e0,w1,w2,w3,w4,w5⟩:=MC hw (by omega);refine⟨w1,λy=>(w2 y).trans (h1 y),by omega,?_,by omega⟩;split at h2 <;> omega
 ·rename_i hc;exact⟨hw,h1,h3,by omega,h4⟩
theorem Jw(h:LW x)(hk:(k,1)∉x.s):(∀y,y∈Cm (CG x k)↔y∈Cm x\/y=k)/\AF (CG x k).s 1=AF x.s 1/\Dj (CG x k)+(if k∈Cm x then 1 else 0)=Dj x+1/\AF (CG x k).s 3<=AF x.s 3:=by
 have h1:=Dm (k:=k) h.sn 1;have h3:=Dm (k:=k) h.sn 3;rw[if_neg hk] at h1;have e1:AF (CG x k).s 1=AF (BR x.s k) 1:=by unfold CG;simp only;rw[LP];simp
 have e3:AF (CG x k).s 3=AF (BR x.s k) 3:=by unfold CG;simp only;rw[LP];simp
 refine⟨λy=>?_,by omega,?_,by omega⟩
 ·rw[BF,BF];unfold CG;simp only[List.mem_append,List.mem_singleton,AT,DW];constructor
  ·rintro((h|h)|(h|h))
   ·exact .inl (.inl h.1)
   ·exact .inr h
   ·exact .inl (.inr h.1)
   ·cases h
  ·rintro(h|rfl)
   ·by_cases hy:y=k
    ·exact .inl (.inr hy)
    ·rcases h with h|h
     ·exact .inl (.inl ⟨h,hy⟩)
     ·exact .inr (.inl ⟨h,hy⟩)
   ·exact .inl (.inr rfl)
 ·unfold Dj;rw[e1];have e4:(CG x k).q=Aq x.q k++[k]:=rfl;rw[e4,List.length_append];simp only[List.length_cons,List.length_nil]
  by_cases hq:k∈x.q
  ·have e5:=(CP h.qn hq).length_eq;simp only[List.length_cons] at e5;rw[if_pos (BF.2 (.inl hq))];omega
  ·rw[Av hq,if_neg (λh=>(BF.1 h).elim hq hk)];omega
structure LEv(c:Int)(x y:BE)(k:BA):Prop where
 ok:Om c y
 sub:k∈Cm x
 mem:∀z,z∈Cm y↔z∈Cm x/\z≠k
 len:Dj y+1=Dj x
theorem UL(h:Om c x)(hp:Dj x≠0):(CX c x).1.2=true/\LEv c x (CX c x).2 (CX c x).1.1:=by
 have hc1:=h.c1;have hE:∀y:BE,LW y->(AF y.s 1:Int)<=D5 c->(∀z,z∈Cm y↔z∈Cm x)->Dj y=Dj x->y.q≠[]->LEv c x (lFp c ⟨C6 y.s (y.q.headD ⟨#[]⟩),y.q.drop 1⟩) (y.q.headD ⟨#[]⟩):=by
  intro y hw hh hm hl hq;obtain⟨k,t,hk⟩:∃k t,y.q=k::t:=by
   cases hq2:y.q with
   | nil=>exact absurd hq2 hq
   | cons k t=>exact⟨k,t,rfl⟩
  have e1:y.q.headD ⟨#[]⟩=k:=by rw[hk];rfl
  have e2:y.q.drop 1=t:=by rw[hk];rfl
  rw[e1,e2];have hw2:=hw.ghost hk;have hg:=Aii (c:=c) (x:=⟨C6 y.s k,t⟩) hw2.sn;obtain⟨c1,c3⟩:=Afm (k:=k) hw.sn;have c0:=Dm (k:=k) hw.sn 1;have hkq:k∈y.q:=by rw[hk];exact .head _
  have hno:(k,(1:Int))∉y.s:=λhx=>hw.hotq _ hx rfl hkq;rw[if_neg hno] at c0;have hlen:Dj ⟨C6 y.s k,t⟩+1=Dj y:=by
   unfold Dj;simp only;rw[hk,List.length_cons];omega
  refine⟨⟨hw2.fp,h.c1,h.c2,?_,hg.2.2.2 (by omega),?_⟩,(hm k).1 (BF.2 (.inl hkq)),λz=>?_,?_⟩
  ·rw[hg.2.2.1];simp only;omega
  ·rw[hg.2.1];have:=h.len;omega
  ·rw[hg.1,<- hm z,BF,BF,hk];have hn:=hw.qn;rw[hk,List.nodup_cons] at hn;simp only[ES,List.mem_cons];constructor
   ·rintro(hz|(⟨hz,hz2⟩|⟨hz,_⟩))
    ·exact⟨.inl (.inr hz),λhzk=>hn.1 (hzk ▸ hz)⟩
    ·exact⟨.inr hz,hz2⟩
    ·cases hz
   ·rintro⟨(rfl|hz)|hz,hne⟩
    ·exact absurd rfl hne
    ·exact .inl hz
    ·exact .inr (.inl ⟨hz,hne⟩)
  ·rw[hg.2.1];omega
 unfold CX;rw[if_neg hp];refine⟨rfl,?_⟩;simp only;unfold R4;split
 ·rename_i hq;have hpos:0<AF x.s 1:=by unfold Dj at hp;rw[hq] at hp;simp at hp;omega
  obtain⟨j,hj,e0,w1,w2,w3,w4,w5⟩:=MC h.w hpos;have hh:=h.hots;exact hE _ w1 (by omega) w2 w3 (by unfold D4;rw[e0];simp)
 ·rename_i hq;exact hE x h.w h.hots (λz=>Iff.rfl) rfl hq
theorem JQ(h1:1<=c):0<=D5 c/\D5 c<c:=by unfold D5;omega
theorem R2(h:Om c x)(hz:k.size<64):Om c (Ga c x k).2/\A8q (Cm x) (Cm (Ga c x k).2) k (Ga c x k).1.1 (Ga c x k).1.2:=by
 have hc1:=h.c1;have hmp:=JQ hc1;have hlen:=h.len;unfold Ga;split
 ·rename_i h1;dsimp only;have hk:k∈Cm x:=by
   rcases h1 with h1|h1
   ·exact BF.2 (.inr ((DP h.w.sn (by decide)).1 h1))
   ·exact BF.2 (.inl h1.1)
  obtain⟨w1,w2,w3,w4,w5⟩:=MD h.w hz (c:=c) hmp.1 h.hots;obtain⟨p1,p2,p3⟩:=LU (EB c x k);rw[if_pos hk] at w3;have hg:=h.ghs;refine⟨⟨w1.pr,h.c1,h.c2,by rw[p2];exact w4,by omega,by rw[p1];omega⟩,⟨by simp[hk],by simp,by simp,by simp,λ_=>rfl,λy=>?_⟩⟩
  rw[JT,w2];simp
 ·rename_i h1;split
  ·rename_i hq;dsimp only;have hk:k∈Cm x:=BF.2 (.inl hq);have hno:(k,(1:Int))∉x.s:=λhx=>h.w.hotq _ hx rfl hq;obtain⟨w2,w4,w3,w5⟩:=Jw h.w hno;obtain⟨p1,p2,p3⟩:=LU (CG x k);rw[if_pos hk] at w3;have hg:=h.ghs;refine⟨⟨(h.w.chill hz).pr,h.c1,h.c2,by rw[p2,w4];exact h.hots,by omega,by rw[p1];omega⟩,⟨by simp[hk],by simp,by simp,by simp,λ_=>rfl,λy=>?_⟩⟩
   rw[JT,w2];simp
  ·rename_i hq;have hno:(k,(1:Int))∉x.s:=λhx=>h1 (.inl ((DP h.w.sn (by decide)).2 hx));have hk:k∉Cm x:=λhx=>(BF.1 hx).elim hq hno;have hR:∃g y,HW c x=(g,y)/\Om c y/\(Dj y:Int)<c/\(∀z∈g,z∈Cm x)/\g.length<=1/\(∀z,z∈Cm y↔z∈Cm x/\z∉g):=by
    unfold HW;split
    ·rename_i hl;obtain⟨_,he⟩:=UL h (by omega);exact⟨_,_,rfl,he.ok,by have:=he.len;omega,λz hz=>by rw[List.mem_singleton] at hz;subst hz;exact he.sub,by simp,λz=>by rw[he.mem,List.mem_singleton]⟩
    ·rename_i hl;exact⟨_,_,rfl,h,by omega,by simp,by simp,by simp⟩
   obtain⟨g,y,e0,hy,hl,g1,g2,g3⟩:=hR;rw[e0];simp only;have hky:k∉Cm y:=λhx=>hk ((g3 k).1 hx).1;have hnoy:(k,(1:Int))∉y.s:=λhx=>hky (BF.2 (.inr hx));have hN:LW (SS c y k)/\(∀z,z∈Cm (SS c y k)↔z∈Cm y\/z=k)/\Dj (SS c y k)=Dj y+1/\(AF (SS c y k).s 1:Int)<=D5 c:=by
    unfold SS;split
    ·obtain⟨w1,w2,w3,w4,w5⟩:=MD hy.w hz (c:=c) hmp.1 hy.hots;rw[if_neg hky] at w3;exact⟨w1,w2,by omega,w4⟩
    ·obtain⟨w2,w4,w3,w5⟩:=Jw hy.w hnoy;rw[if_neg hky] at w3;exact⟨hy.w.chill hz,w2,by omega,by rw[w4];exact hy.hots⟩
   obtain⟨n1,n2,n3,n4⟩:=hN;obtain⟨f1,f2,f3,f4⟩:=Aii (c:=c) n1.sn;refine⟨⟨n1.fp,h.c1,h.c2,by rw[f3];exact n4,f4 (by omega),by rw[f2];omega⟩,⟨by simp[hk],g1,g2,λhx=>hk (g1 k hx),λh=>(by cases h),λz=>?_⟩⟩
   rw[f1,n2,g3]
theorem A9a(h:LW x):(decide (JO x.s k=1) || decide (k∈x.q))=decide (k∈Cm x):=by
 rw[Bool.eq_iff_iff];simp only[Bool.or_eq_true,decide_eq_true_eq];rw[BF,DP h.sn (by decide)];constructor
 ·rintro(h|h)
  ·exact .inr h
  ·exact .inl h
 ·rintro(h|h)
  ·exact .inr h
  ·exact .inl h
theorem UN(h:Om c x)(hz:k.size<64):Om c (Gb c x k).2/\(Gb c x k).1=decide (k∉Cm x/\((Cm x).length:Int)<c)/\((Gb c x k).1=true->∀z,z∈Cm (Gb c x k).2↔z∈Cm x\/z=k)/\((Gb c x k).1=false->(Gb c x k).2=x):=by
 have hc1:=h.c1;have hmp:=JQ hc1;have hlen:=h.len;have hrl:=Jy x;unfold Gb;split
 ·rename_i h1;refine⟨h,?_,λh=>by (cases h),λ_=>rfl⟩;symm;rw[decide_eq_false_iff_not,BF];rintro⟨h2,h3⟩;rcases h1 with h1|h1|h1
  ·exact h2 (.inr ((DP h.w.sn (by decide)).1 h1))
  ·exact h2 (.inl h1)
  ·omega
 ·rename_i h1;have hno:(k,(1:Int))∉x.s:=λhx=>h1 (.inl ((DP h.w.sn (by decide)).2 hx));have hk:k∉Cm x:=λhx=>by
   rcases BF.1 hx with hx|hx
   ·exact h1 (.inr (.inl hx))
   ·exact hno hx
  have hl:(Dj x:Int)<c:=by
   have:¬(Dj x:Int)=c:=λhx=>h1 (.inr (.inr hx));omega
  have hg:=h.ghs;dsimp only;split
  ·obtain⟨w1,w2,w3,w4,w5⟩:=MD h.w hz (c:=c) hmp.1 h.hots;rw[if_neg hk] at w3;obtain⟨p1,p2,p3⟩:=LU (EB c x k);refine⟨⟨w1.pr,h.c1,h.c2,by rw[p2];exact w4,by omega,by rw[p1];omega⟩,?_,λ_ z=>by rw[JT,w2],λh=>by cases h⟩
   symm;rw[decide_eq_true_eq];exact⟨hk,by omega⟩
  ·obtain⟨w2,w4,w3,w5⟩:=Jw h.w hno;rw[if_neg hk] at w3;obtain⟨p1,p2,p3⟩:=LU (CG x k);refine⟨⟨(h.w.chill hz).pr,h.c1,h.c2,by rw[p2,w4];exact h.hots,by omega,by rw[p1];omega⟩,?_,λ_ z=>by rw[JT,w2],λh=>by cases h⟩
   symm;rw[decide_eq_true_eq];exact⟨hk,by omega⟩
theorem Aa0(h:Om c x):Om c (LY x k).2/\(LY x k).1=decide (k∈Cm x)/\((LY x k).1=true->(∀z,z∈Cm (LY x k).2↔z∈Cm x/\z≠k)/\(k,(3:Int))∉(LY x k).2.s)/\((LY x k).1=false->(LY x k).2=x):=by
 have hc1:=h.c1;have hlen:=h.len;unfold LY;split
 ·rename_i h1;dsimp only;have hk:k∈Cm x:=by
   rcases h1 with h1|h1
   ·exact BF.2 (.inr ((DP h.w.sn (by decide)).1 h1))
   ·exact BF.2 (.inl h1)
  have hw:=h.w.rem k;obtain⟨p1,p2,p3⟩:=LU ⟨BR x.s k,Aq x.q k⟩;have c1:=Dm (k:=k) h.w.sn 1;have c3:=Dm (k:=k) h.w.sn 3;have hh:=h.hots;have hg:=h.ghs;have hq:=BM x.q k;refine⟨⟨hw.pr,h.c1,h.c2,by rw[p2];simp only;omega,by simp only at p3;omega,?_⟩,by simp[hk],λ_=>⟨λz=>?_,λhx=>?_⟩,λh=>by cases h⟩
  ·rw[p1];unfold Dj at hlen ⊢;simp only;omega
  ·rw[JT,BF,BF];simp only[AT,C8];constructor
   ·rintro(h|h)
    ·exact⟨.inl h.1,h.2⟩
    ·exact⟨.inr h.1,h.2⟩
   ·rintro⟨h|h,h2⟩
    ·exact .inl ⟨h,h2⟩
    ·exact .inr ⟨h,h2⟩
  ·have:=(ER _).subset hx;exact(C8.1 this).2 rfl
 ·rename_i h1;refine⟨h,?_,λh=>by (cases h),λ_=>rfl⟩;symm;rw[decide_eq_false_iff_not,BF];rintro(h2|h2)
  ·exact h1 (.inr h2)
  ·exact h1 (.inl ((DP h.w.sn (by decide)).2 h2))
theorem A9b(h1:1<=c)(h2:c<=1024):Om c Gc:=by
 have:=JQ h1;exact⟨⟨by simp[Gc,Bm],by simp[Gc],by simp[Gc],by simp[Gc],by simp[Gc],by simp[Gc],by simp[Gc],by simp[Gc]⟩,h1,h2,by simp only[Gc,AF,List.countP_nil];omega,by simp only[Gc,AF,List.countP_nil];omega,by simp only[Gc,Dj,AF,List.countP_nil,List.length_nil];omega⟩
end
end Go.Hb
namespace Go.Hb
abbrev Eg:=List (Nat×BA)
def Bc(row:Eg)(k:BA):Int:=((row.find? λe=>decide (e.2=k)).map λe=>(e.1:Int)).getD 0
def D8(row:Eg)(k:BA):Eg:=row.filter λe=>decide (e.2≠k)
theorem H4(row:Eg)(k:BA):(D8 row k).map (·.2)=Aq (row.map (·.2)) k:=by unfold D8 Aq;rw[List.filter_map];rfl
theorem II{row:Eg}{k:BA}(h:k∉row.map (·.2)):Bc row k=0:=by
 unfold Bc;have:(row.find? λe=>decide (e.2=k))=none:=by
  rw[List.find?_eq_none];intro e he;simp only[decide_eq_true_eq];intro hk;exact h (List.mem_map.2 ⟨e,he,hk⟩)
 rw[this];rfl
theorem Ml{row:Eg}{k key:BA}(h:k≠key):Bc (D8 row key) k=Bc row k:=by
 unfold Bc D8;rw[List.find?_filter];congr 2;apply congrFun;apply congrArg;funext e
 by_cases hk:e.2=k
 ·simp[hk,h]
 ·simp[hk]
theorem Vn{row:Eg}{key:BA}:Bc (D8 row key) key=0:=II (by rw[H4];exact λh=>(AT.1 h).2 rfl)
theorem SX{row:Eg}{k key:BA}{h:Nat}(hk:k≠key):Bc (row++[(h,key)]) k=Bc row k:=by
 unfold Bc;rw[List.find?_append];have:([(h,key)].find? λe=>decide (e.2=k))=none:=by simp[Ne.symm hk]
 rw[this,Option.or_none]
theorem Af7{row:Eg}{key:BA}{h:Nat}(hk:key∉row.map (·.2)):Bc (row++[(h,key)]) key=(h:Int):=by
 unfold Bc;rw[List.find?_append];have:(row.find? λe=>decide (e.2=key))=none:=by
  rw[List.find?_eq_none];intro e he;simp only[decide_eq_true_eq];intro h2;exact hk (List.mem_map.2 ⟨e,he,h2⟩)
 rw[this];simp
theorem Auo{row:Eg}{k:BA}(hn:(row.map (·.2)).Nodup){i:Nat}{e:Nat×BA}(h:row[i]? = some e)(hk:e.2=k):Bc row k=(e.1:Int):=by
 induction row generalizing i with
 | nil=>simp at h
 | cons a row ih=>
  rw[List.map_cons,List.nodup_cons] at hn;cases i with
  | zero=>
   simp only[List.getElem?_cons_zero,Option.some.injEq] at h;subst h;unfold Bc;rw[List.find?_cons_of_pos (by simpa using hk)];rfl
  | succ i=>
   simp only[List.getElem?_cons_succ] at h;have hne:a.2≠k:=λha=>hn.1 (List.mem_map.2 ⟨e,List.mem_of_getElem? h,by rw[hk,ha]⟩);have:=ih hn.2 h;unfold Bc at this ⊢;rw[List.find?_cons_of_neg (by simpa using hne)];exact this
theorem Aji{row:Eg}{k:BA}(hn:(row.map (·.2)).Nodup){i:Nat}{e:Nat×BA}(h:row[i]? = some e)(hk:e.2=k):row.eraseIdx i=D8 row k:=by
 induction row generalizing i with
 | nil=>simp at h
 | cons a row ih=>
  rw[List.map_cons,List.nodup_cons] at hn;cases i with
  | zero=>
   simp only[List.getElem?_cons_zero,Option.some.injEq] at h;subst h;have h1:D8 row k=row:=by
    unfold D8;rw[List.filter_eq_self];intro x hx;exact decide_eq_true λhxk=>hn.1 (List.mem_map.2 ⟨x,hx,by rw[hxk,hk]⟩)
   unfold D8;rw[List.filter_cons_of_neg (by simpa using hk)];exact h1.symm
  | succ i=>
   simp only[List.getElem?_cons_succ] at h;have hne:a.2≠k:=λha=>hn.1 (List.mem_map.2 ⟨e,List.mem_of_getElem? h,by rw[hk,ha]⟩);have:=ih hn.2 h;unfold D8 at this ⊢;rw[List.filter_cons_of_pos (by simpa using hne),List.eraseIdx_cons_succ,this]
theorem Am6{row:Eg}{k:BA}(h:k∉row.map (·.2)):D8 row k=row:=by
 unfold D8;rw[List.filter_eq_self];intro x hx;exact decide_eq_true λhxk=>h (List.mem_map.2 ⟨x,hx,hxk⟩)
theorem A71{row:Eg}{k:BA}(hn:(row.map (·.2)).Nodup)(hh:(row.map (·.1)).Nodup)(hp:∀e∈row,0<e.1) :
  (match JX row (Bc row k) with|some i=>row.eraseIdx i|none=>row)=D8 row k/\((JX row (Bc row k)).isSome=decide (k∈row.map (·.2))):=by
 by_cases hk:k∈row.map (·.2)
 ·obtain⟨e,he,hek⟩:=List.mem_map.1 hk;obtain⟨i,hi,hie⟩:=List.mem_iff_getElem.1 he;have h1:row[i]? = some e:=by rw[List.getElem?_eq_getElem hi,hie]
  have h2:=Auo hn h1 hek;have h3:=KU hh h1;rw[h2,h3];exact⟨Aji hn h1 hek,by simp[hk]⟩
 ·rw[II hk];have:JX row 0=none:=by
   rw[Abl];intro e he;have:=hp e he;omega
  rw[this];exact⟨(Am6 hk).symm,by simp[hk]⟩
theorem JU{W w:World}{M:List HP}{b:Nat}{row:Eg}{free:List Nat}(h:Ab W w (lst .s b row free::M)):(row.map (·.1)).Nodup/\∀e∈row,0<e.1:=by
 refine⟨Ia h,λe he=>?_⟩;obtain⟨s,f,ls,hi,_⟩:=EI h;have h1:e.1∈(Ge Value.string row).map (·.1):=by rw[Sf];exact List.mem_map.2 ⟨e,he,rfl⟩
 exact((hi.all e.1).1 (.inl h1)).1
abbrev LE:=Int×Int×Int
def lK(S:SL)(q:List BA)(k:BA):Int:=if k∈Bm S then JO S k else if k∈q then 2 else 0
abbrev LM:=List (BA×LE)
def lG(m:LM)(k:BA):LE:=(AC m k).getD (0,0,0)
theorem A7c{m:LM}(hn:(m.map (·.1)).Nodup)(key:BA)(n:LE)(k:BA):lG (CE m key n) k=if k=key then n else lG m k:=by
 have hput:∀x,(x,lG (CE m key n) x)=(x,lG (CE m key n) x):=λ_=>rfl;unfold lG;have hnd:((CE m key n).map (·.1)).Nodup:=by
  unfold CE;split
  ·rw[MJ];exact hn
  ·rename_i h;rw[List.map_cons,List.nodup_cons];refine⟨λhm=>?_,hn⟩;obtain⟨e,he,hek⟩:=List.mem_map.1 hm;exact BY.1 h e he hek
 by_cases hk:k=key
 ·subst hk;rw[if_pos rfl];have:AC (CE m k n) k=some n:=by
   rw[Ck hnd];unfold CE;split
   ·rename_i u hu;unfold Fg;exact List.mem_map.2 ⟨(k,u),(Ck hn).1 hu,by simp⟩
   ·exact .head _
  rw[this];rfl
 ·rw[if_neg hk];congr 1;cases hg:AC m k with
  | none=>
   rw[BY] at hg ⊢;intro e he;unfold CE at he;split at he
   ·unfold Fg at he;obtain⟨a,ha,rfl⟩:=List.mem_map.1 he;split
    ·exact Ne.symm hk
    ·exact hg a ha
   ·rcases List.mem_cons.1 he with rfl|he
    ·exact Ne.symm hk
    ·exact hg e he
  | some v=>
   rw[Ck hnd];have hm:=(Ck hn).1 hg;unfold CE;split
   ·unfold Fg;exact List.mem_map.2 ⟨(k,v),hm,by simp[hk]⟩
   ·exact .tail _ hm
theorem Afx{m:LM}(hn:(m.map (·.1)).Nodup)(key:BA)(n:LE):((CE m key n).map (·.1)).Nodup:=by
 unfold CE;split
 ·rw[MJ];exact hn
 ·rename_i h;rw[List.map_cons,List.nodup_cons];refine⟨λhm=>?_,hn⟩;obtain⟨e,he,hek⟩:=List.mem_map.1 hm;exact BY.1 h e he hek
theorem A7b{m:LM}(hn:(m.map (·.1)).Nodup)(key:BA)(k:BA):lG (Cr m key) k=if k=key then (0,0,0) else lG m k:=by
 unfold lG;have hnd:((Cr m key).map (·.1)).Nodup:=hn.sublist (List.filter_sublist.map _)
 by_cases hk:k=key
 ·subst hk;rw[if_pos rfl];have:AC (Cr m k) k=none:=by
   rw[BY];intro e he;simpa using(List.mem_filter.1 he).2
  rw[this];rfl
 ·rw[if_neg hk];congr 1;cases hg:AC m k with
  | none=>
   rw[BY] at hg ⊢;intro e he;exact hg e (List.mem_filter.1 he).1
  | some v=>
   rw[Ck hnd];exact List.mem_filter.2 ⟨(Ck hn).1 hg,by simpa using hk⟩
def R8(m:LM)(key:BA)(n:LE):LM:=if n.1=0 then Cr m key else CE m key n
structure LX(N:Nat)(x:BE)(sr:Eg)(sf:List Nat)(qr:Eg)(qf:List Nat)(m:LM):Prop where
 w:LW x
 sk:sr.map (·.2)=Bm x.s
 qk:qr.map (·.2)=x.q
 ent:∀k,lG m k=(lK x.s x.q k,Bc sr k,Bc qr k)
 mn:(m.map (·.1)).Nodup
 msm:∀e∈m,e.1.size<4611686018427387904
 ns:sr.length+sf.length<=N
 nq:qr.length+qf.length<=N
 nz:∀e∈m,e.2.1≠0
def SI(N:Nat)(x:BE):Prop:=x.s.length+1<=N/\x.q.length+1<=N
section
variable{N:Nat}{x y:BE}{sr sr' qr qr':Eg}{sf sf' qf qf':List Nat}{m:LM}{key:BA}
theorem Di:∀{a b:List BA},a.Nodup->(∀k∈a,k∈b)->a.length<=b.length
 | [],_,_,_=>by simp
 | k::a,b,hn,hs=>by
  rw[List.nodup_cons] at hn;have h1:∀j∈a,j∈Aq b k:=λj hj=>AT.2 ⟨hs j (.tail _ hj),λh=>hn.1 (by rw[<- h];exact hj)⟩
  have h2:=Di hn.2 h1;have h3:(Aq b k).length<b.length:=List.length_filter_lt_length_iff_exists.2 ⟨k,hs k (.head _),by simp⟩;simp only[List.length_cons];omega
theorem LX.nm(h:LX N x sr sf qr qf m):m.length<=N+N:=by
 have h1:(m.map (·.1)).length<=(sr.map (·.2)++qr.map (·.2)).length:=by
  refine Di h.mn λk hk=>?_;obtain⟨e,he,rfl⟩:=List.mem_map.1 hk;have h2:lG m e.1=e.2:=by unfold lG;rw[(Ck h.mn).2 he];rfl
  have h3:=h.nz e he;rw[<- h2,h.ent] at h3;simp only at h3;rw[List.mem_append,h.sk,h.qk];unfold lK at h3
  by_cases a:e.1∈Bm x.s
  ·exact .inl a
  ·rw[if_neg a] at h3
   by_cases b:e.1∈x.q
   ·exact .inr b
   ·rw[if_neg b] at h3;exact absurd rfl h3
 have:=h.ns;have:=h.nq
 simp only[List.length_map,List.length_append] at h1;omega
theorem LX.upd(h:LX N x sr sf qr qf m)(hw:LW y)(hsk:sr'.map (·.2)=Bm y.s)(hqk:qr'.map (·.2)=y.q)(hz:key.size<64){n:LE}{N':Nat}
  (h1:∀k,k≠key->lK y.s y.q k=lK x.s x.q k/\Bc sr' k=Bc sr k/\Bc qr' k=Bc qr k) (h2:n=(lK y.s y.q key,Bc sr' key,Bc qr' key)) (h0:n.1=0->n=(0,0,0))
  (ns:sr'.length+sf'.length<=N') (nq:qr'.length+qf'.length<=N'):LX N' y sr' sf' qr' qf' (R8 m key n):=by
 unfold R8;split
 ·rename_i hn0;refine⟨hw,hsk,hqk,λk=>?_,h.mn.sublist (List.filter_sublist.map _),J2 (P:=λk=>k.size<4611686018427387904) h.msm,ns,nq,λe he=>h.nz e (List.mem_filter.1 he).1⟩;rw[A7b h.mn];split
  ·rename_i hk;rw[hk,<- h2,h0 hn0]
  ·rename_i hk;rw[h.ent,(h1 k hk).1,(h1 k hk).2.1,(h1 k hk).2.2]
 ·refine⟨hw,hsk,hqk,λk=>?_,Afx h.mn _ _,UV (P:=λk=>k.size<4611686018427387904) h.msm (by omega),ns,nq,λe he=>?_⟩;rotate_left
  ·unfold CE at he;split at he
   ·unfold Fg at he;obtain⟨a,ha,rfl⟩:=List.mem_map.1 he;split
    ·assumption
    ·exact h.nz a ha
   ·rcases List.mem_cons.1 he with rfl|he
    ·assumption
    ·exact h.nz e he
  rw[A7c h.mn];split
  ·rename_i hk;rw[hk,<- h2]
  ·rename_i hk;rw[h.ent,(h1 k hk).1,(h1 k hk).2.1,(h1 k hk).2.2]
theorem R5{S:SL}{k:BA}(hk:k≠key):JO (BR S key) k=JO S k:=by
 unfold JO BR;rw[List.find?_filter];congr 2;apply congrFun;apply congrArg;funext e
 by_cases h:e.1=k
 ·simp[h,hk]
 ·simp[h]
theorem Aax{S:SL}{k:BA}{i:Int}(hk:k≠key):JO (S++[(key,i)]) k=JO S k:=by
 unfold JO;rw[List.find?_append];have:([(key,i)].find? λe=>decide (e.1=k))=none:=by simp[Ne.symm hk]
 rw[this,Option.or_none]
theorem WT{S:SL}{k:BA}(hk:k≠key):JO (C6 S key) k=JO S k:=by
 unfold JO C6;rw[List.find?_map]
 induction S with
 | nil=>rfl
 | cons a S ih=>
  by_cases ha:a.1=k
  ·rw[List.find?_cons_of_pos (by simp[ha,hk]),List.find?_cons_of_pos (by simpa using ha)];simp[ha,hk]
  ·rw[List.find?_cons_of_neg,List.find?_cons_of_neg (by simpa using ha)]
   ·exact ih
   ·simp only[Function.comp];split
    ·simpa using Ne.symm hk
    ·simpa using ha
theorem SQ{S:SL}{k:BA}(hk:k≠key):k∈Bm (BR S key)↔k∈Bm S:=by rw[E1,AT];exact⟨λh=>h.1,λh=>⟨h,hk⟩⟩
theorem Afp{S:SL}{i:Int}:Bm (S++[(key,i)])=Bm S++[key]:=by simp[Bm]
theorem Ath{S S':SL}{q q':List BA}{k:BA}(h1:k∈Bm S'↔k∈Bm S)(h2:JO S' k=JO S k)(h3:k∈q'↔k∈q):lK S' q' k=lK S q k:=by
 unfold lK
 by_cases a:k∈Bm S
 ·rw[if_pos a,if_pos (h1.2 a),h2]
 ·rw[if_neg a,if_neg (λh=>a (h1.1 h))]
  by_cases b:k∈q
  ·rw[if_pos b,if_pos (h3.2 b)]
  ·rw[if_neg b,if_neg (λh=>b (h3.1 h))]
theorem A18(S:SL)(i:Int):JO (HX S key i) key=i:=by
 unfold HX JO;rw[List.find?_append];have:(BR S key).find? (λe=>decide (e.1=key))=none:=by
  rw[List.find?_eq_none];intro e he;simpa using(C8.1 he).2
 rw[this];simp
theorem JP(S:SL)(i:Int):Bm (HX S key i)=Aq (Bm S) key++[key]:=by unfold HX;rw[Afp,E1]
theorem WV(S:SL)(q:List BA)(i:Int):lK (HX S key i) q key=i:=by
 unfold lK;rw[if_pos (by rw[JP];simp),A18]
theorem UM{S:SL}{q q':List BA}{i:Int}{k:BA}(hk:k≠key)(h3:k∈q'↔k∈q):lK (HX S key i) q' k=lK S q k:=
 Ath (by
  rw[JP,List.mem_append,List.mem_singleton,AT];constructor
  ·exact λh=>h.elim (λh=>h.1) (λh=>absurd h hk)
  ·exact λh=>.inl ⟨h,hk⟩) (by unfold HX;rw[Aax hk,R5 hk]) h3
theorem MF{S:SL}{q q':List BA}{k:BA}(hk:k≠key)(h3:k∈q'↔k∈q):lK (BR S key) q' k=lK S q k:=Ath (SQ hk) (R5 hk) h3
theorem KJ(S:SL)(q:List BA):lK (BR S key) q key=if key∈q then 2 else 0:=by
 unfold lK;rw[if_neg (by rw[E1];exact λh=>(AT.1 h).2 rfl)]
theorem G0{q:List BA}{k:BA}(hk:k≠key):k∈Aq q key↔k∈q:=by rw[AT];exact⟨λh=>h.1,λh=>⟨h,hk⟩⟩
theorem Oh{q:List BA}{k:BA}(hk:k≠key):k∈q++[key]↔k∈q:=by
 rw[List.mem_append,List.mem_singleton];exact⟨λh=>h.elim id λh=>absurd h hk,.inl⟩
theorem Ags(row:Eg)(k:BA):k∉(D8 row k).map (·.2):=by rw[H4];exact λh=>(AT.1 h).2 rfl
theorem ME(h:LW x)(k:BA):lK x.s x.q k=1↔(k,(1:Int))∈x.s:=by
 unfold lK
 by_cases a:k∈Bm x.s
 ·rw[if_pos a];exact DP h.sn (by decide)
 ·rw[if_neg a];have hno:(k,(1:Int))∉x.s:=λhm=>a (List.mem_map.2 ⟨_,hm,rfl⟩);constructor
  ·intro h;split at h <;> omega
  ·intro h;exact absurd h hno
theorem LS(h:LW x)(k:BA):lK x.s x.q k=3↔(k,(3:Int))∈x.s:=by
 unfold lK
 by_cases a:k∈Bm x.s
 ·rw[if_pos a];exact DP h.sn (by decide)
 ·rw[if_neg a];have hno:(k,(3:Int))∉x.s:=λhm=>a (List.mem_map.2 ⟨_,hm,rfl⟩);constructor
  ·intro h;split at h <;> omega
  ·intro h;exact absurd h hno
theorem KK(h:LW x)(k:BA):lK x.s x.q k=2↔k∈x.q:=by
 unfold lK
 by_cases a:k∈Bm x.s
 ·rw[if_pos a,DP h.sn (by decide)];constructor
  ·intro h2;exact h.coldq _ h2 rfl
  ·intro hq;obtain⟨e,he,rfl⟩:=List.mem_map.1 a;rcases h.kinds e he with h1|h1|h1
   ·exact absurd hq (h.hotq e he h1)
   ·rw[<- h1];exact he
   ·exact absurd hq (h.ghq e he h1)
 ·rw[if_neg a];constructor
  ·intro h;split at h
   ·rename_i hq;exact hq
   ·omega
  ·intro h;rw[if_pos h]
theorem Ati(h:LW x)(k:BA):lK x.s x.q k=0\/lK x.s x.q k=1\/lK x.s x.q k=2\/lK x.s x.q k=3:=by
 unfold lK
 by_cases a:k∈Bm x.s
 ·rw[if_pos a];obtain⟨e,he,rfl⟩:=List.mem_map.1 a;have:JO x.s e.1=e.2:=(DP h.sn (by rcases h.kinds e he with h1|h1|h1 <;> omega)).2 he
  rw[this];rcases h.kinds e he with h1|h1|h1 <;> simp[h1]
 ·rw[if_neg a];split <;> simp
theorem HV(S:SL)(k:BA):BR (BR S k) k=BR S k:=R7 (by rw[E1];exact λh=>(AT.1 h).2 rfl)
theorem Aay(S:SL)(k:BA)(i:Int):BR (HX S k i) k=BR S k:=by
 have h1:BR (HX S k i) k=BR (BR S k) k++BR [(k,i)] k:=by unfold HX BR;rw[List.filter_append]
 rw[h1,HV];simp[BR]
theorem R6(S:SL)(k:BA):BR (C6 S k) k=BR S k:=by
 unfold BR C6
 induction S with
 | nil=>rfl
 | cons a S ih=>
  rw[List.map_cons]
  by_cases h:a.1=k
  ·rw[if_pos h,List.filter_cons_of_neg (by simp),List.filter_cons_of_neg (by simpa using h),ih]
  ·rw[if_neg h,List.filter_cons_of_pos (by simpa using h),List.filter_cons_of_pos (by simpa using h),ih]
theorem A4w(hx:LW x)(hy:LW y)(h:BR y.s key=BR x.s key) :
  (AF x.s 1:Int)+(if lK x.s x.q key=1 then -1 else 0)+(if lK y.s y.q key=1 then 1 else 0)=(AF y.s 1:Int)/\(AF x.s 3:Int)+(if lK x.s x.q key=3 then -1 else 0)+(if lK y.s y.q key=3 then 1 else 0)=(AF y.s 3:Int):=by
 have a1:=Dm (k:=key) hx.sn 1;have a3:=Dm (k:=key) hx.sn 3;have b1:=Dm (k:=key) hy.sn 1;have b3:=Dm (k:=key) hy.sn 3;rw[h] at b1 b3;simp only[ME hx,LS hx,ME hy,LS hy];constructor
 ·split <;> split <;> simp_all <;> omega
 ·split <;> split <;> simp_all <;> omega
structure Im(row:Eg)(free:List Nat)(key:BA)(row':Eg)(free':List Nat):Prop where
 keys:row'.map (·.2)=Aq (row.map (·.2)) key
 ne:∀k,k≠key->Bc row' k=Bc row k
 at0:Bc row' key=0
 len:row'.length+free'.length<=row.length+free.length
structure Io(row:Eg)(free:List Nat)(key:BA)(row':Eg)(free':List Nat):Prop where
 keys:row'.map (·.2)=Aq (row.map (·.2)) key++[key]
 ne:∀k,k≠key->Bc row' k=Bc row k
 len:row'.length+free'.length<=max (row.length+free.length) (row.length+1)
end
abbrev LXs:=(Nat×Nat×Nat)×(Eg×List Nat×Eg×List Nat×LM)
def A41(c:Int)(s:Nat×Nat×Nat)(h g:Int):List Value:=[.i c,.i (D5 c),pq s.1 0,pq s.2.1 0,pq s.2.2 0,.i h,.i g]
abbrev eB(b:Nat)(c:Int)(sb qb xb:Nat)(h g:Int):HP:=blk b [.i c,.i (D5 c),pq sb 0,pq qb 0,pq xb 0,.i h,.i g]
def lirR(b:Nat)(c:Int)(N:Nat)(x:BE):HP:=Ks λ(z:LXs)=>F6 (LX N x z.2.1 z.2.2.1 z.2.2.2.1 z.2.2.2.2.1 z.2.2.2.2.2)
 (AO [blk b (A41 c z.1 (AF x.s 1) (AF x.s 3)),lst .s z.1.1 z.2.1 z.2.2.1,lst .s z.1.2.1 z.2.2.2.1 z.2.2.2.2.1,ixr Rec.iii z.1.2.2 0 z.2.2.2.2.2])
section
variable{W w:World}{M L:List HP}{b:Nat}{c:Int}{N:Nat}{x:BE}
instance At.lirR:At (lirR b c N x::L) b (lirR b c N x) (λx=>x::L):=⟨DU⟩
theorem Cz(h:Ab W w (lirR b c N x::M)):∃(sb qb xb:Nat) (sr:Eg) (sf:List Nat) (qr:Eg) (qf:List Nat) (m:LM),LX N x sr sf qr qf m /\
  Ab W w (blk b [.i c,.i (D5 c),pq sb 0,pq qb 0,pq xb 0,.i (AF x.s 1),.i (AF x.s 3)]::lst .s sb sr sf::lst .s qb qr qf::ixr Rec.iii xb 0 m::M):=by
 obtain⟨⟨⟨sb,qb,xb⟩,⟨sr,sf,qr,qf,m⟩⟩,h⟩:=h.openE;obtain⟨hi,h⟩:=h.openA;exact⟨sb,qb,xb,sr,sf,qr,qf,m,hi,h.openL⟩
theorem CH{sb qb xb:Nat}{sr:Eg}{sf:List Nat}{qr:Eg}{qf:List Nat}{m:LM}{h1 h3:Int}(hi:LX N x sr sf qr qf m)(e1:h1=AF x.s 1)(e3:h3=AF x.s 3)
  (h:Ab W w (blk b [.i c,.i (D5 c),pq sb 0,pq qb 0,pq xb 0,.i h1,.i h3]::lst .s sb sr sf::lst .s qb qr qf::ixr Rec.iii xb 0 m::M)) :
  Ab W w (lirR b c N x::M):=by
 subst e1 e3;exact Ab.shutE ((sb,qb,xb),(sr,sf,qr,qf,m)) (Ab.shutA hi (Ab.shutL (Ps:=[_,_,_,_]) h))
theorem LX.more{N':Nat}{sr:Eg}{sf:List Nat}{qr:Eg}{qf:List Nat}{m:LM}(h:LX N x sr sf qr qf m)(hN:N<=N'):LX N' x sr sf qr qf m:=
 ⟨h.w,h.sk,h.qk,h.ent,h.mn,h.msm,Nat.le_trans h.ns hN,Nat.le_trans h.nq hN,h.nz⟩
theorem EH{N':Nat}(h:Ab W w (lirR b c N x::M))(hN:N<=N'):Ab W w (lirR b c N' x::M):=by
 obtain⟨sb,qb,xb,sr,sf,qr,qf,m,hi,h⟩:=Cz h;exact CH (hi.more hN) rfl rfl h
theorem RE(h:Ab W w (lirR b c N x::M)):LW x/\x.s.length<=N/\x.q.length<=N:=by
 obtain⟨sb,qb,xb,sr,sf,qr,qf,m,hi,h⟩:=Cz h;have h1:=congrArg List.length hi.sk;have h2:=congrArg List.length hi.qk;have:=hi.ns;have:=hi.nq
 simp only[List.length_map,Bm] at h1 h2;exact⟨hi.w,by omega,by omega⟩
end
end Go.Hb
namespace Go.Proofs
open Go.Shelf
def Tryz.lays137_ren:Go.Shelf.Ren:=⟨fun|137=>157|217=>191|266=>212|n=>n,fun|9=>9|5=>5|3=>3|n=>n,fun|n=>n⟩
theorem Tryz.lays137:Go.Proofs.Lays.n137 Tryz.prog Tryz.lays137_ren:={
 mixed:=by kernel_rfl
 f137:=Tryz.func157.trans (congrArg some (by kernel_rfl))
 f217:=Tryz.func191.trans (congrArg some (by kernel_rfl))
 f266:=Tryz.func212.trans (congrArg some (by kernel_rfl))
 t3:=Tryz.underlying3
 a3:=Tryz.isAgg3
 z3:=Tryz.sizeOf3
 v3:=Tryz.zeroValue3
 t5:=Tryz.underlying5
 a5:=Tryz.isAgg5
 z5:=Tryz.sizeOf5
 v5:=Tryz.zeroValue5
 t9:=Tryz.underlying9
 a9:=Tryz.isAgg9
 z9:=Tryz.sizeOf9
 v9:=Tryz.zeroValue9 }
open Go.RowKit in
theorem Tryz.strings_IndexByte(s:ByteArray)(c:Int)(w:World) :
  Calls Tryz.prog 157 #[.string s,.int .u8 c] w λe w'=>e = .returned (.int .i64 (Lib.indexByte s.data.toList c.toNat.toUInt8))/\w'=w:=Any.strings_IndexByte Tryz.lays137 s c w
def Tryz.lays190_ren:Go.Shelf.Ren:=⟨fun|190=>112|125=>150|258=>149|128=>182|129=>183|302=>173|303=>174|304=>175|305=>176|306=>177|307=>178|308=>179|309=>180|310=>181|333=>202|329=>203|330=>204|334=>205|335=>206|336=>207|344=>213|n=>n,fun|31=>36|9=>9|3=>3|46=>222|0=>0|51=>145|53=>138|4=>4|183=>252|182=>251|131=>98|5=>5|218=>310|222=>152|228=>337|229=>338|n=>n,fun|n=>n⟩
theorem Tryz.lays190:Go.Proofs.Lays.n190 Tryz.prog Tryz.lays190_ren:={
 mixed:=by kernel_rfl
 f125:=Tryz.func150.trans (congrArg some (by kernel_rfl))
 f128:=Tryz.func182.trans (congrArg some (by kernel_rfl))
 f129:=Tryz.func183.trans (congrArg some (by kernel_rfl))
 f190:=Tryz.func112.trans (congrArg some (by kernel_rfl))
 f258:=Tryz.func149.trans (congrArg some (by kernel_rfl))
 f302:=Tryz.func173.trans (congrArg some (by kernel_rfl))
 f303:=Tryz.func174.trans (congrArg some (by kernel_rfl))
 f304:=Tryz.func175.trans (congrArg some (by kernel_rfl))
 f305:=Tryz.func176.trans (congrArg some (by kernel_rfl))
 f306:=Tryz.func177.trans (congrArg some (by kernel_rfl))
 f307:=Tryz.func178.trans (congrArg some (by kernel_rfl))
 f308:=Tryz.func179.trans (congrArg some (by kernel_rfl))
 f309:=Tryz.func180.trans (congrArg some (by kernel_rfl))
 f310:=Tryz.func181.trans (congrArg some (by kernel_rfl))
 f329:=Tryz.func203.trans (congrArg some (by kernel_rfl))
 f330:=Tryz.func204.trans (congrArg some (by kernel_rfl))
 f333:=Tryz.func202.trans (congrArg some (by kernel_rfl))
 f334:=Tryz.func205.trans (congrArg some (by kernel_rfl))
 f335:=Tryz.func206.trans (congrArg some (by kernel_rfl))
 f336:=Tryz.func207.trans (congrArg some (by kernel_rfl))
 f344:=Tryz.func213.trans (congrArg some (by kernel_rfl))
 t0:=Tryz.underlying0
 a0:=Tryz.isAgg0
 z0:=Tryz.sizeOf0
 v0:=Tryz.zeroValue0
 t3:=Tryz.underlying3
 a3:=Tryz.isAgg3
 z3:=Tryz.sizeOf3
 v3:=Tryz.zeroValue3
 t4:=Tryz.underlying4
 a4:=Tryz.isAgg4
 z4:=Tryz.sizeOf4
 v4:=Tryz.zeroValue4
 t5:=Tryz.underlying5
 a5:=Tryz.isAgg5
 z5:=Tryz.sizeOf5
 v5:=Tryz.zeroValue5
 t9:=Tryz.underlying9
 a9:=Tryz.isAgg9
 z9:=Tryz.sizeOf9
 v9:=Tryz.zeroValue9
 t31:=Tryz.underlying36
 a31:=Tryz.isAgg36
 z31:=Tryz.sizeOf36
 v31:=Tryz.zeroValue36
 t46:=Tryz.underlying222
 a46:=Tryz.isAgg222
 z46:=Tryz.sizeOf222
 v46:=Tryz.zeroValue222
 t51:=Tryz.underlying145
 a51:=Tryz.isAgg145
 z51:=Tryz.sizeOf145
 v51:=Tryz.zeroValue145
 t53:=Tryz.underlying138
 a53:=Tryz.isAgg138
 z53:=Tryz.sizeOf138
 v53:=Tryz.zeroValue138
 t131:=Tryz.underlying98
 a131:=Tryz.isAgg98
 z131:=Tryz.sizeOf98
 v131:=Tryz.zeroValue98
 t182:=Tryz.underlying251
 a182:=Tryz.isAgg251
 z182:=Tryz.sizeOf251
 v182:=Tryz.zeroValue251
 t183:=Tryz.underlying252
 a183:=Tryz.isAgg252
 z183:=Tryz.sizeOf252
 v183:=Tryz.zeroValue252
 t218:=Tryz.underlying310
 a218:=Tryz.isAgg310
 z218:=Tryz.sizeOf310
 v218:=Tryz.zeroValue310
 t222:=Tryz.underlying152
 a222:=Tryz.isAgg152
 z222:=Tryz.sizeOf152
 v222:=Tryz.zeroValue152
 t228:=Tryz.underlying337
 a228:=Tryz.isAgg337
 z228:=Tryz.sizeOf337
 v228:=Tryz.zeroValue337
 t229:=Tryz.underlying338
 a229:=Tryz.isAgg338
 z229:=Tryz.sizeOf338
 v229:=Tryz.zeroValue338 }
open Go.Sort Go.RowKit in
theorem Tryz.slices_Sort_string(blk off cap:Nat)(ss:List (List UInt8))(w:World)(hH:Holds encStr w blk off ss.toArray)(hblk:blk<w.heap.size)(hsz:ss.length<4611686018427387904) :
  Calls Tryz.prog 112 #[.slice (some ⟨blk,off,none⟩) ss.length cap] w λe w'=>
   e = .returned (.tuple #[])/\∃n os,w'=grow (putRow encStr (Sort.ahead w n) blk off (ss.mergeSort λx y=>decide (x<=y)).toArray) os:=Any.slices_Sort_string Tryz.lays190 blk off cap ss w hH hblk hsz
open Go.RowKit Go.Sort in
theorem Tryz.slices_Sort_string_none(p:Option Addr)(cap:Nat)(w:World) :
  Calls Tryz.prog 112 #[.slice p 0 cap] w λe w'=>e = .returned (.tuple #[])/\w'=w:=Any.slices_Sort_string_none Tryz.lays190 p cap w
end Go.Proofs
namespace Go.Proofs.YtjipofkjmmpjdaaGreat
open Go.Hb
theorem A3c{W w:World}{L:List HP}{F:HP->List HP}{s:Sl}{keys:List BA}(h:Ab W w L)[hA:Km L s (recs Rec.str s keys) F](hk:keys.length<4611686018427387904) :
  Calls PR 112 #[.slice s.a s.n s.c] w λe w'=>e = .returned (.tuple #[])/\Ab W w' (F (recs Rec.str s (Fz keys))):=
 Al6 (hA:=hA) (λblk off cap ss w hH hb hs=>Tryz.slices_Sort_string blk off cap ss w hH hb hs) (λcap w=>Tryz.slices_Sort_string_none none cap w) h hk
end Go.Proofs.YtjipofkjmmpjdaaGreat
namespace Go.Hb
instance {s:Int} {k:BA} {x0:Int} {x1:Int} {x2:Int}:Ln (CS Rec.iii) [.i s,.s k,.i x0,.i x1,.i x2] ⟨s,k,(x0,x1,x2)⟩:=⟨rfl⟩
end Go.Hb
namespace Go.Proofs.YtjipofkjmmpjdaaGreat
open Go.Hb Go.IntWalk
section
variable{W w:World}{L M:List HP}{F:HP->List HP}{b:Nat}{seed:Int}{m:List (BA×(Int×Int×Int))}{s:Sl}{ps:List (Pl (Int×Int×Int))}{n1 u1:Int}
theorem FT{st:BA->Nat}{k:BA}(hst:st=A4 seed ps.length)(hz:k.size<4611686018427387904)(hl:0<ps.length/\ps.length<4611686018427387904)(hstop:∃e,e<ps.length/\BU ps ((st k+e) % ps.length)=0)
  (hs:Ab W w (blk b [.int .u64 seed,.l s.a s.n s.c,.i n1,.i u1]::recs (CS Rec.iii) s ps::M)) :
  Calls PR 292 #[pq b 0,.s k] w λe w'=>e = .returned (.tuple #[.i ((AQ st ps k).1:Int),.b (AQ st ps k).2])/\Ab W w' (blk b [.int .u64 seed,.l s.a s.n s.c,.i n1,.i u1]::recs (CS Rec.iii) s ps::M):=by
 refine c1 (cw ⟨mixed,Tryz.func292,rfl⟩ Aqm ?_);have hn:=(BV (s:=s) hs Gv.pos).1;refine Ao [blk b [.int .u64 seed,.l s.a s.n s.c,.i n1,.i u1]] hs λw hs=>?_
 repeat (first|with_reducible refine Aa ?_|((with_reducible refine AX ?_);first|refine Am ?_|fail)|fail)
 refine An (Hm hs hz) λe w ⟨he,hs⟩=>⟨_,he,?_⟩
 repeat (first|((with_reducible refine AA ?_);first|refine Ae hs ?_|fail)|fail)
 refine An (GR (n:=s.n) hs (GJ _ _).1 (by omega) (by omega)) λe w ⟨he,hs⟩=>⟨_,he,?_⟩;have e9:(FB seed k).toNat % s.n=A4 seed ps.length k:=by rw[hn,Kd]
 rw[e9];have loop:∀(f:Nat)(free:Option Nat)(i:Nat)(w:World),i<ps.length->(∃e,e<f/\BU ps ((i+e) % ps.length)=0)->Ab W w (blk b [.int .u64 seed,.l s.a s.n s.c,.i n1,.i u1]::recs (CS Rec.iii) s ps::M) ->
   PG By (λv w'=>v = .tuple #[.i ((AJ ps k f free i).1:Int),.b (AJ ps k f free i).2]/\Ab W w' (blk b [.int .u64 seed,.l s.a s.n s.c,.i n1,.i u1]::recs (CS Rec.iii) s ps::M)) f (some ⟨b,0,none⟩) k (M8 free) (i:Int) w:=by
  intro f
  induction f with
  | zero=>intro free i w hi ⟨e,he,_⟩;omega
  | succ f ih=>
   intro free i w hi hstop hs;have hm:(i+1) % ps.length<ps.length:=Nat.mod_lt _ hl.1;have next:BU ps i≠0->∃e',e'<f/\BU ps (((i+1) % ps.length+e') % ps.length)=0:=by
    obtain⟨e,he,hz0⟩:=hstop;intro hne;cases e with
    | zero=>rw[Nat.add_zero,Nat.mod_eq_of_lt hi] at hz0;exact absurd hz0 hne
    | succ e=>exact⟨e,by omega,by rw[Ew];exact hz0⟩
   have hwr:Int.tmod (IntKind.wrap .i64 ((i:Int)+1)) (s.n:Int)=(((i+1) % ps.length:Nat):Int):=by
    rw[i64_in _ (by omega),hn,Int.tmod_eq_emod_of_nonneg (by omega)];simp
   have j4:∀(free':Option Nat)(w:World),BU ps i≠0->Ab W w (blk b [.int .u64 seed,.l s.a s.n s.c,.i n1,.i u1]::recs (CS Rec.iii) s ps::M)->AJ ps k (f+1) free i=AJ ps k f free' ((i+1) % ps.length) ->
     Wp By (λv w'=>v = .tuple #[.i ((AJ ps k (f+1) free i).1:Int),.b (AJ ps k (f+1) free i).2]/\Ab W w' (blk b [.int .u64 seed,.l s.a s.n s.c,.i n1,.i u1]::recs (CS Rec.iii) s ps::M)) f (some ⟨b,0,none⟩) k (M8 free') (i:Int) w:=by
    intro free' w hne hs he;refine jw Ze ?_;rw[he]
    repeat (first|with_reducible refine Aa ?_|((with_reducible refine Ax ?_);first|refine Ag hs ?_|fail)|((with_reducible refine Bx ?_);first|refine AW ?_|fail)|fail)
    rw[hwr];exact ih free' _ w hm (next hne) hs
   rw[Zg];have hcast:((i:Int)).toNat=i:=Int.toNat_natCast i
   repeat (first|with_reducible refine Aa ?_|((with_reducible refine Ax ?_);first|refine Ag hs ?_|refine Bb hs ?_|fail)|((with_reducible refine AM ?_);first|refine AK hs λb_ o_ hs=>?_|fail)|fail)
   rw[hcast];have ei:(ps.getD i default).is_=BU ps i:=rfl;have ek:(ps.getD i default).key=Ed ps i:=rfl;rw[ei];have j2:∀(t:Bool)(w:World)(b1 o1:Nat),t=decide (BU ps i=2/\Ed ps i=k)->Ab W w (blk b [.int .u64 seed,.l s.a s.n s.c,.i n1,.i u1]::reca (CS Rec.iii) b1 o1 s ps::M) ->
     Wn By (λv w'=>v = .tuple #[.i ((AJ ps k (f+1) free i).1:Int),.b (AJ ps k (f+1) free i).2]/\Ab W w' (blk b [.int .u64 seed,.l s.a s.n s.c,.i n1,.i u1]::recs (CS Rec.iii) s ps::M)) f (some ⟨b,0,none⟩) k (M8 free) (i:Int) b1 (o1+i*5) t w:=by
    intro t w b1 o1 ht hs;refine jw Zc ?_;rw[ht]
    with_reducible refine Cd (λh1=>?_) (λh1=>?_)
    ·have e1:AJ ps k (f+1) free i=(i,true):=by rw[AJ,if_pos h1]
     rw[e1];exact⟨rfl,by exact Ab.fin hs⟩
    ·repeat (first|with_reducible refine Aa ?_|((with_reducible refine Ax ?_);first|refine Bb hs ?_|fail)|fail)
     rw[ei];have j3:∀(t:Bool)(w:World),t=decide (BU ps i=1/\free=none)->Ab W w (blk b [.int .u64 seed,.l s.a s.n s.c,.i n1,.i u1]::reca (CS Rec.iii) b1 o1 s ps::M) ->
       Wo By (λv w'=>v = .tuple #[.i ((AJ ps k (f+1) free i).1:Int),.b (AJ ps k (f+1) free i).2]/\Ab W w' (blk b [.int .u64 seed,.l s.a s.n s.c,.i n1,.i u1]::recs (CS Rec.iii) s ps::M)) f (some ⟨b,0,none⟩) k (M8 free) (i:Int) b1 (o1+i*5) t w:=by
      intro t w ht hs;refine jw Zd ?_;rw[ht]
      with_reducible refine Cd (λh2=>?_) (λh2=>?_)
      ·exact j4 (some i) w (by rw[h2.1];decide) (by exact Ab.fin hs) (by rw[AJ,if_neg h1,if_pos h2])
      ·repeat (first|with_reducible refine Aa ?_|((with_reducible refine Ax ?_);first|refine Bb hs ?_|fail)|fail)
       rw[ei];have j5:∀(t:Bool)(w:World),t=decide (BU ps i=0/\free=none)->Ab W w (blk b [.int .u64 seed,.l s.a s.n s.c,.i n1,.i u1]::reca (CS Rec.iii) b1 o1 s ps::M) ->
         Wq By (λv w'=>v = .tuple #[.i ((AJ ps k (f+1) free i).1:Int),.b (AJ ps k (f+1) free i).2]/\Ab W w' (blk b [.int .u64 seed,.l s.a s.n s.c,.i n1,.i u1]::recs (CS Rec.iii) s ps::M)) f (some ⟨b,0,none⟩) k (M8 free) (i:Int) b1 (o1+i*5) t w:=by
        intro t w ht hs;refine jw Zf ?_;rw[ht]
        with_reducible refine Cd (λh3=>?_) (λh3=>?_)
        ·have e1:AJ ps k (f+1) free i=(i,false):=by rw[AJ,if_neg h1,if_neg h2,if_pos h3.1,h3.2];rfl
         rw[e1];exact⟨rfl,by exact Ab.fin hs⟩
        ·repeat (first|with_reducible refine Aa ?_|((with_reducible refine Ax ?_);first|refine Bb hs ?_|fail)|fail)
         rw[ei]
         with_reducible refine Be (λh4=>?_) (λh4=>?_)
         ·have e1:AJ ps k (f+1) free i=(free.getD i,false):=by rw[AJ,if_neg h1,if_neg h2,if_pos h4]
          rw[e1];cases free with
          | none=>exact absurd ⟨h4,rfl⟩ h3
          | some j=>exact⟨rfl,by exact Ab.fin hs⟩
         ·exact j4 free w h4 (by exact Ab.fin hs) (by rw[AJ,if_neg h1,if_neg h2,if_neg h4])
       with_reducible refine Be (λh3=>?_) (λh3=>?_)
       ·exact j5 _ w (by simp[h3,Hl]) (by exact Ab.fin hs)
       ·exact j5 _ w (by simp[h3]) (by exact Ab.fin hs)
     with_reducible refine Be (λh2=>?_) (λh2=>?_)
     ·exact j3 _ w (by simp[h2,Hl]) (by exact Ab.fin hs)
     ·exact j3 _ w (by simp[h2]) (by exact Ab.fin hs)
   with_reducible refine Be (λh1=>?_) (λh1=>?_)
   ·repeat (first|with_reducible refine Aa ?_|((with_reducible refine Ax ?_);first|refine BG hs ?_|fail)|fail)
    rw[ek];refine j2 _ w _ _ ?_ (by exact Ab.fin hs);rw[HE];simp[h1]
   ·refine j2 _ w _ _ ?_ (by exact Ab.fin hs);simp[h1]
 subst hst;have hl2:=loop ps.length none (A4 seed ps.length k) w (Ds hl.1 k) hstop hs;rw[show M8 none = -1 from rfl] at hl2;unfold AQ;refine⟨ps.length,?_⟩;exact hl2
theorem Kr{k:BA}{v:(Int×Int×Int)}{j:Nat}(hj:j<ps.length)(hb:ps.length<4611686018427387904)(hu:u1=(AD ps:Int))(hn1:0<=n1/\n1<4611686018427387904)(hs:Ab W w (blk b [.int .u64 seed,.l s.a s.n s.c,.i n1,.i u1]::recs (CS Rec.iii) s ps::M)) :
  Calls PR 298 #[pq b 0,.i (j:Int),.s k,.agg #[.i (v).1,.i (v).2.1,.i (v).2.2]] w λe w'=>e = .returned (.tuple #[])/\Ab W w' (blk b [.int .u64 seed,.l s.a s.n s.c,.i (n1+1),.i (AD (ps.set j ⟨2,k,v⟩):Int)]::recs (CS Rec.iii) s (ps.set j ⟨2,k,v⟩)::M):=by
 refine c1 (cw ⟨mixed,Tryz.func298,rfl⟩ Aqs ?_);refine Ah hs λbv w hs=>?_;have hn:=(BV (s:=s) hs Gv.pos).1;have hle:AD ps<=ps.length:=List.countP_le_length;rw[BO hj _ (by show(2:Int)≠0;decide)]
 repeat (first|with_reducible refine Aa ?_|((with_reducible refine Ax ?_);first|refine Ag hs ?_|refine Bb hs ?_|fail)|((with_reducible refine AM ?_);first|refine AK hs λb_ o_ hs=>?_|fail)|fail)
 simp only[Int.toNat_natCast];have ei:(ps.getD j default).is_=BU ps j:=rfl;rw[ei]
 with_reducible refine Be (λh1=>?_) (λh1=>?_)
 ·repeat (first|with_reducible refine Aa ?_|((with_reducible refine Ax ?_);first|refine Ag hs ?_|fail)|((with_reducible refine AS ?_);first|refine A0 hs λw hs=>?_|fail)|fail)
  refine jw N5 ?_
  repeat (first|with_reducible refine Aa ?_|((with_reducible refine Ax ?_);first|refine Ag hs ?_|fail)|((with_reducible refine AS ?_);first|refine A0 hs λw hs=>?_|refine Bk hs λw hs=>?_|fail)|((with_reducible refine AM ?_);first|refine BT hs ?_|fail)|((with_reducible refine AX ?_);first|refine Am ?_|fail)|((with_reducible refine AA ?_);first|refine A9 hs ?_|fail)|((with_reducible refine AZ ?_);first|refine As hs λw hs=>?_|fail)|fail)
  rw[i64_in (n1+1) (by omega),hu,i64_in _ (by omega)] at hs;simp only[Int.toNat_natCast] at hs;rw[if_pos h1];exact⟨rfl,by exact Ab.fin hs⟩
 ·refine jw N5 ?_
  repeat (first|with_reducible refine Aa ?_|((with_reducible refine Ax ?_);first|refine Ag hs ?_|fail)|((with_reducible refine AS ?_);first|refine A0 hs λw hs=>?_|refine Bk hs λw hs=>?_|fail)|((with_reducible refine AM ?_);first|refine BT hs ?_|fail)|((with_reducible refine AX ?_);first|refine Am ?_|fail)|((with_reducible refine AA ?_);first|refine A9 hs ?_|fail)|((with_reducible refine AZ ?_);first|refine As hs λw hs=>?_|fail)|fail)
  rw[i64_in (n1+1) (by omega),hu] at hs;simp only[Int.toNat_natCast] at hs;rw[if_neg h1,Nat.add_zero];exact⟨rfl,by exact Ab.fin hs⟩
theorem Q8{st:BA->Nat}(hi:C2 st ps m)(hkz:∀e∈m,e.1.size<4611686018427387904)(hm:m.length<1000000000)(hs:Ab W w (blk b [.int .u64 seed,.l s.a s.n s.c,.i (m.length:Int),.i u1]::recs (CS Rec.iii) s ps::M)) :
  Calls PR 299 #[pq b 0] w λe w'=>e = .returned (.tuple #[])/\Ab W w' (ixr Rec.iii b seed m::M):=by
 refine c1 (cw ⟨mixed,Tryz.func299,rfl⟩ Aqt ?_);have hn:=(BV (s:=s) hs Gv.pos).1;have hsmall:=hi.small;obtain⟨N,hN⟩:∃N:Nat,N=max 8 (4*(m.length+1)):=⟨_,rfl⟩;have e1:(if (IntKind.wrap .i64 ((4:Int)*(IntKind.wrap .i64 ((m.length:Int)+(1:Int)))))>(8:Int) then (IntKind.wrap .i64 ((4:Int)*(IntKind.wrap .i64 ((m.length:Int)+(1:Int))))) else (8:Int))=(N:Int):=by
  rw[i64_in ((m.length:Int)+1) (by omega),i64_in _ (by omega)];split <;> omega
 repeat (first|with_reducible refine Aa ?_|((with_reducible refine Ax ?_);first|refine Ag hs ?_|fail)|fail)
 rw[e1];refine E2 (sz:=5) hs rfl (by omega) (by omega) (by omega) (by omega) λs2 w hn2 _ _ hs=>?_;rw[Int.toNat_natCast] at hs hn2;have hs:Ab W w (recs (CS Rec.iii) s2 (List.replicate N ⟨0,Af,((0,0,0):Int×Int×Int)⟩)::blk b [.int .u64 seed,.l s.a s.n s.c,.i (m.length:Int),.i u1]::recs (CS Rec.iii) s ps::M):=by
  have e:=Ey (CS Rec.iii) ⟨0,Af,((0,0,0):Int×Int×Int)⟩ N;unfold recs;rw[<- e];exact hs
 repeat (first|with_reducible refine Aa ?_|((with_reducible refine AS ?_);first|refine A0 hs λw hs=>?_|fail)|fail)
 have hinv:=C2.new (st:=A4 seed N) (n:=N) (z:=(⟨0,Af,((0,0,0):Int×Int×Int)⟩:Pl (Int×Int×Int))) rfl (by omega) (by omega) (Ds (by omega));have hdist:(Bd ps).map (·.1) |>.Nodup:=(hi.perm.map (·.1)).nodup_iff.2 hi.nodup
 have hlen:(Bd ps).length=m.length:=hi.perm.length_eq;have loop:∀(f i:Nat)(w:World)(ps2:List (Pl (Int×Int×Int)))(mi:List (BA×(Int×Int×Int))),i+f=ps.length->ps2.length=N->C2 (A4 seed N) ps2 mi->mi.Perm (Bd (ps.take i))->AD ps2<=mi.length ->
   Ab W w (blk b [.int .u64 seed,.l s2.a s2.n s2.c,.i (mi.length:Int),.i (AD ps2:Int)]::recs (CS Rec.iii) s2 ps2::recs (CS Rec.iii) s ps::M) ->
   LB By (λv w'=>v = .tuple #[]/\Ab W w' (ixr Rec.iii b seed m::M)) (f+1) (some ⟨b,0,none⟩) s (s.n:Int) (i:Int) w:=by
  intro f
  induction f with
  | zero=>
   intro i w ps2 mi hif hpl hiv hp hu hs;rw[N6];refine Ac (decide_eq_false (by omega)) ⟨rfl,?_⟩;rw[List.take_of_length_le (by omega)] at hp;have hpm:=hp.trans hi.perm;refine Bz s2 (ps:=ps2) (n:=(mi.length:Int)) ?_ ?_ (by rw[hpm.length_eq]) rfl (by exact Ab.fin hs)
   ·rw[hpl];exact hiv.perm' hpm
   ·rw[hpl];have:=hpm.length_eq;omega
  | succ f ih=>
   intro i w ps2 mi hif hpl hiv hp hu hs;rw[N6];refine Ak (decide_eq_true (by omega)) ?_
   repeat (first|((with_reducible refine Ax ?_);first|refine Ag hs ?_|refine Bb hs ?_|refine BG hs ?_|refine Cn hs ?_|refine Cv hs ?_|refine C7 hs ?_|fail)|((with_reducible refine AS ?_);first|refine A0 hs λw hs=>?_|fail)|((with_reducible refine AM ?_);first|refine AK hs λb_ o_ hs=>?_|fail)|((with_reducible refine Bf ?_);first|refine Ah hs λb_ w hs=>?_|fail)|fail)
   simp only[Int.toNat_natCast] at hs ⊢;have hil:i<ps.length:=by omega
   have hft:Bd (ps.take (i+1))=Bd (ps.take i)++EU (ps.getD i default):=by
    rw[CA hil,Cg];simp[Bd]
   with_reducible refine Be (λh1=>?_) (λh1=>?_)
   ·have hop:EU (ps.getD i default)=[((ps.getD i default).key,(ps.getD i default).v)]:=Gd h1;rw[hop] at hft;have hsub:(Bd (ps.take (i+1))).Sublist (Bd ps):=by
     conv=>rhs;rw[<- List.take_append_drop (i+1) ps,Cg]
     exact List.sublist_append_left _ _
    have hmem:((ps.getD i default).key,(ps.getD i default).v)∈m:=hi.perm.subset (hsub.subset (by rw[hft];simp));have hnd:=hdist.sublist (hsub.map (·.1));rw[hft,List.map_append] at hnd;have hno:AC mi (ps.getD i default).key=none:=by
     rw[BY];intro e he hk;rw[List.nodup_append] at hnd;exact hnd.2.2 _ (List.mem_map_of_mem (f:=(·.1)) (hp.subset he)) _ (by simp) hk
    have hlt:mi.length+1<=m.length:=by
     have:=hsub.length_le;rw[hft,List.length_append,<- hp.length_eq] at this;simp only[List.length_cons,List.length_nil] at this;omega
    repeat (first|((with_reducible refine Ax ?_);first|refine Ag hs ?_|fail)|fail)
    have hs:Ab W w (blk b [.int .u64 seed,.l s2.a s2.n s2.c,.i (mi.length:Int),.i (AD ps2:Int)]::recs (CS Rec.iii) s2 ps2::blk b_ [.i (ps.getD i default).is_,.s (ps.getD i default).key,.i (ps.getD i default).v.1,.i (ps.getD i default).v.2.1,.i (ps.getD i default).v.2.2]::recs (CS Rec.iii) s ps::M):=by exact Ab.fin hs
    refine AH (FT (st:=A4 seed N) (by rw[hpl]) (hkz _ hmem) (by omega) (hiv.stop _) hs) λe w ⟨he,hs⟩=>⟨_,_,he,?_⟩;have hfm:(AQ (A4 seed N) ps2 (ps.getD i default).key).2=false:=by
     cases hb:(AQ (A4 seed N) ps2 (ps.getD i default).key).2 with
     | false=>rfl
     | true=>have:=(hiv.hit hb).2.2;rw[hno] at this;cases this
    obtain⟨hj,hj2,_,hjr⟩:=hiv.miss hfm
    repeat (first|((with_reducible refine Ax ?_);first|refine Ag hs ?_|fail)|fail)
    refine Ar (Kr (v:=(ps.getD i default).v) hj (by omega) rfl (by omega) hs) λe w ⟨he,hs⟩=>⟨he,?_⟩;rw[i64_in _ (by omega)];have hus:=BO hj (⟨2,(ps.getD i default).key,(ps.getD i default).v⟩:Pl (Int×Int×Int)) (by show(2:Int)≠0;decide)
    have hus2:AD (ps2.set (AQ (A4 seed N) ps2 (ps.getD i default).key).1 ⟨2,(ps.getD i default).key,(ps.getD i default).v⟩)<=AD ps2+1:=by rw[hus];split <;> omega
    refine ih (i+1) w _ (((ps.getD i default).key,(ps.getD i default).v)::mi) (by omega) (by rw[List.length_set];exact hpl) (hiv.add hj hj2 hno hjr (by omega)) ?_ (by simp only[List.length_cons];omega) ?_
    ·rw[hft];exact((List.Perm.cons _ hp).trans (List.perm_append_comm (l₁:=[_])))
    ·simp only[List.length_cons,Int.natCast_add];exact Ab.fin hs
   ·have hop:EU (ps.getD i default)=[]:=Ie h1;rw[hop,List.append_nil] at hft;rw[i64_in _ (by omega)];exact ih (i+1) w ps2 mi (by omega) hpl hiv (by rw[hft];exact hp) hu (by exact Ab.fin hs)
 refine⟨ps.length+1,?_⟩;refine loop ps.length 0 w (List.replicate N ⟨0,Af,((0,0,0):Int×Int×Int)⟩) [] (by omega) (by simp) hinv (by simp[Bd]) ?_ ?_
 ·have:AD (List.replicate N (⟨0,Af,((0,0,0):Int×Int×Int)⟩:Pl (Int×Int×Int)))=0:=by
   unfold AD;rw[List.countP_eq_zero];intro a ha;rw[List.eq_of_mem_replicate ha];simp
  rw[this];exact Nat.zero_le _
 ·have:AD (List.replicate N (⟨0,Af,((0,0,0):Int×Int×Int)⟩:Pl (Int×Int×Int)))=0:=by
   unfold AD;rw[List.countP_eq_zero];intro a ha;rw[List.eq_of_mem_replicate ha];simp
  rw[this];exact Ab.fin hs
end
section
variable{W w:World}{L M:List HP}{F:HP->List HP}{b:Nat}{seed:Int}{m:List (BA×(Int×Int×Int))}{k:BA}
theorem Ajg(hs:Ab W w L):Calls PR 185 #[.int .u64 seed] w λe w'=>∃b,e = .returned (pq b 0)/\Ab W w' (ixr Rec.iii b seed []::L):=by
 refine(cw ⟨mixed,Tryz.func185,rfl⟩ Apc (Q:=λv w'=>∃b,v=pq b 0/\Ab W w' (ixr Rec.iii b seed []::L)) ?_).mono λe w' ⟨v,he,b,hv,hs⟩=>⟨b,by rw[he,hv],hs⟩;refine E2 (sz:=5) hs rfl (by omega) (by omega) (by omega) (by omega) λs2 w hn2 _ _ hs=>?_;have hs:Ab W w (recs (CS Rec.iii) s2 (List.replicate 8 ⟨0,Af,((0,0,0):Int×Int×Int)⟩)::L):=hs
 repeat (first|((with_reducible refine Bf ?_);first|refine Ah hs λb_ w hs=>?_|fail)|fail)
 refine⟨_,rfl,Bz s2 (ps:=List.replicate 8 ⟨0,Af,((0,0,0):Int×Int×Int)⟩) (n:=0) (u:=0) (C2.new (n:=8) rfl (by omega) (by omega) (Ds (by simp))) (by decide +revert) rfl rfl (by exact Ab.fin hs)⟩
theorem D1(h:Ab W w L)[hA:At L b (ixr Rec.iii b seed m) F](hz:k.size<4611686018427387904):Calls PR 282 #[pq b 0,.s k] w λe w'=>e = .returned (.tuple #[.agg #[.i ((AC m k).getD ((0,0,0):Int×Int×Int)).1,.i ((AC m k).getD ((0,0,0):Int×Int×Int)).2.1,.i ((AC m k).getD ((0,0,0):Int×Int×Int)).2.2],.b (AC m k).isSome])/\Ab W w' (F (ixr Rec.iii b seed m)):=by
 refine At.call1 (hA:=hA) h λM hs=>?_;clear h hA;refine c1 (cw ⟨mixed,Tryz.func282,rfl⟩ Aqc ?_);refine Ah hs λbz w hs=>?_;have hs:Ab W w (ixr Rec.iii b seed m::blk bz [.i (0:Int),.i (0:Int),.i (0:Int)]::M):=by exact Ab.fin hs
 refine Ak rfl ?_;obtain⟨s,ps,hi,h2,hn,hs⟩:=Db hs;have hsm:=hi.small;have hbg:=hi.big;refine AH (FT (st:=A4 seed ps.length) rfl hz (by omega) (hi.stop _) hs) λe w ⟨he,hs⟩=>⟨_,_,he,?_⟩;refine Al (λhb=>?_) (λhb=>?_)
 ·obtain⟨hj,_,hg⟩:=hi.hit hb;rw[hg]
  repeat (first|with_reducible refine Aa ?_|((with_reducible refine Ax ?_);first|refine Ag hs ?_|refine BG hs ?_|refine Cn hs ?_|refine Cv hs ?_|fail)|((with_reducible refine AS ?_);first|refine A0 hs λw hs=>?_|fail)|((with_reducible refine AM ?_);first|refine AK hs λb_ o_ hs=>?_|fail)|fail)
  simp only[Int.toNat_natCast];exact⟨rfl,Bz s hi h2 rfl rfl (by exact Ab.fin hs)⟩
 ·rw[(hi.miss hb).2.2.1];refine jw YZ ?_
  repeat (first|((with_reducible refine Ax ?_);first|refine Ag hs ?_|fail)|((with_reducible refine AS ?_);first|refine A0 hs λw hs=>?_|fail)|((with_reducible refine Bf ?_);first|refine Ah hs λb_ w hs=>?_|fail)|fail)
  exact⟨rfl,Bz s hi h2 rfl rfl (by exact Ab.fin hs)⟩
theorem Ajh(h:Ab W w L)[hA:At L b (ixr Rec.iii b seed m) F]{v:(Int×Int×Int)}(hz:k.size<4611686018427387904)(hkz:∀e∈m,e.1.size<4611686018427387904)(hm:m.length<900000000):Calls PR 297 #[pq b 0,.s k,.agg #[.i (v).1,.i (v).2.1,.i (v).2.2]] w λe w'=>e = .returned (.b (AC m k).isNone)/\Ab W w' (F (ixr Rec.iii b seed (CE m k v))):=by
 refine At.call1 (hA:=hA) h λM hs=>?_;clear h hA;refine c1 (cw ⟨mixed,Tryz.func297,rfl⟩ Aqr ?_);refine Ah hs λbv w hs=>?_;have hs:Ab W w (ixr Rec.iii b seed m::blk bv [.i v.1,.i v.2.1,.i v.2.2]::M):=by exact Ab.fin hs
 refine Ac rfl ?_;obtain⟨s,ps,hi,h2,hn,hs⟩:=Db hs;have hsm:=hi.small;have hbg:=hi.big;refine AH (FT (st:=A4 seed ps.length) rfl hz (by omega) (hi.stop _) hs) λe w ⟨he,hs⟩=>⟨_,_,he,?_⟩;refine Al (λhb=>?_) (λhb=>?_)
 ·obtain⟨hj,hit,hg⟩:=hi.hit hb;have hp:CE m k v=Fg m k v:=by unfold CE;rw[hg]
  rw[hg,hp]
  repeat (first|with_reducible refine Aa ?_|((with_reducible refine Ax ?_);first|refine Ag hs ?_|fail)|((with_reducible refine AM ?_);first|refine AK hs λb_ o_ hs=>?_|fail)|((with_reducible refine AX ?_);first|refine Am ?_|fail)|((with_reducible refine AA ?_);first|refine A9 hs ?_|fail)|((with_reducible refine AZ ?_);first|refine As hs λw hs=>?_|fail)|fail)
  simp only[Int.toNat_natCast];refine Xw (vs:=[.i v.1,.i v.2.1,.i v.2.2]) (pre:=[.i (ps.getD (AQ (A4 seed ps.length) ps k).1 default).is_,.s (ps.getD (AQ (A4 seed ps.length) ps k).1 default).key]) (mid:=[.i (ps.getD (AQ (A4 seed ps.length) ps k).1 default).v.1,.i (ps.getD (AQ (A4 seed ps.length) ps k).1 default).v.2.1,.i (ps.getD (AQ (A4 seed ps.length) ps k).1 default).v.2.2]) (tl:=[]) (a':={ ps.getD (AQ (A4 seed ps.length) ps k).1 default with v:=v }) (i:=(AQ (A4 seed ps.length) ps k).1) (j:=2) (n:=5) hs rfl hj rfl rfl rfl rfl λw hs=>?_
  have hset:=hi.set (v:=v) hj hit;have hus:AD (ps.set (AQ (A4 seed ps.length) ps k).1 { ps.getD (AQ (A4 seed ps.length) ps k).1 default with v:=v })=AD ps:=by
   rw[BO hj _ (by show BU ps _≠0;rw[hit.1];decide),if_neg (by rw[hit.1];decide)];rfl
  refine⟨rfl,Bz s (n:=(m.length:Int)) (u:=(AD ps:Int)) (by rw[List.length_set];exact hset) (by rw[hus,List.length_set];exact h2) (by simp[Fg]) (by rw[hus]) (by exact Ab.fin hs)⟩
 ·obtain⟨hj,hj2,hg,hr⟩:=hi.miss hb;have hp:CE m k v=(k,v)::m:=by unfold CE;rw[hg]
  rw[hg,hp]
  repeat (first|((with_reducible refine Ax ?_);first|refine Ag hs ?_|fail)|fail)
  refine Ar (Kr (v:=v) hj (by omega) rfl (by omega) hs) λe w ⟨he,hs⟩=>⟨he,?_⟩;have hus:=BO hj (⟨2,k,v⟩:Pl (Int×Int×Int)) (by show(2:Int)≠0;decide)
  have hus2:AD (ps.set (AQ (A4 seed ps.length) ps k).1 ⟨2,k,v⟩)<=AD ps+1:=by rw[hus];split <;> omega
  have hadd:=hi.add (v:=v) hj hj2 hg hr (by omega);have hsl:(ps.set (AQ (A4 seed ps.length) ps k).1 ⟨2,k,v⟩).length=ps.length:=by simp
  generalize hps2:ps.set (AQ (A4 seed ps.length) ps k).1 ⟨2,k,v⟩=ps2 at hs hus2 hadd hsl
  repeat (first|with_reducible refine Aa ?_|((with_reducible refine Ax ?_);first|refine Ag hs ?_|fail)|((with_reducible refine AX ?_);first|refine Am ?_|fail)|((with_reducible refine AA ?_);first|refine A9 hs ?_|fail)|((with_reducible refine AZ ?_);first|refine As hs λw hs=>?_|fail)|fail)
  rw[i64_in _ (by omega),hn]
  with_reducible refine Bg (λh9=>?_) (λh9=>?_)
  ·have hkz2:∀e∈(k,v)::m,e.1.size<4611686018427387904:=by
    intro e he;rcases List.mem_cons.1 he with rfl|he
    ·exact hz
    ·exact hkz e he
   have hs2:Ab W w (blk b [.int .u64 seed,.l s.a s.n s.c,.i (((k,v)::m).length:Int),.i (AD ps2:Int)]::recs (CS Rec.iii) s ps2::M):=by
    simp only[List.length_cons,Int.natCast_add];exact Ab.fin hs
   refine Ar (Q8 hadd hkz2 (by simp;omega) hs2) λe w ⟨he,hs⟩=>⟨he,?_⟩;exact⟨rfl,hs⟩
  ·exact⟨rfl,Bz s (n:=(m.length:Int)+1) (by rw[hsl];exact hadd) (by omega) (by simp) rfl (by exact Ab.fin hs)⟩
theorem VF(h:Ab W w L)[hA:At L b (ixr Rec.iii b seed m) F](hz:k.size<4611686018427387904)(hm:m.length<900000000):Calls PR 296 #[pq b 0,.s k] w λe w'=>e = .returned (.tuple #[.agg #[.i ((AC m k).getD ((0,0,0):Int×Int×Int)).1,.i ((AC m k).getD ((0,0,0):Int×Int×Int)).2.1,.i ((AC m k).getD ((0,0,0):Int×Int×Int)).2.2],.b (AC m k).isSome])/\Ab W w' (F (ixr Rec.iii b seed (Cr m k))):=by
 refine At.call1 (hA:=hA) h λM hs=>?_;clear h hA;refine c1 (cw ⟨mixed,Tryz.func296,rfl⟩ Aqq ?_);refine Ah hs λb1 w hs=>?_;refine(D1 hs hz).mono λe w ⟨he,hs⟩=>⟨_,_,_,_,he,?_⟩
 repeat (first|((with_reducible refine AS ?_);first|refine A0 hs λw hs=>?_|fail)|((with_reducible refine Bf ?_);first|refine Ah hs λb_ w hs=>?_|fail)|fail)
 have hs:Ab W w (ixr Rec.iii b seed m::blk b_ [.i ((AC m k).getD ((0,0,0):Int×Int×Int)).1,.i ((AC m k).getD ((0,0,0):Int×Int×Int)).2.1,.i ((AC m k).getD ((0,0,0):Int×Int×Int)).2.2]::blk b1 [.i (0:Int),.i (0:Int),.i (0:Int)]::M):=by exact Ab.fin hs
 refine Cp (λv hg=>?_) (λhg=>?_)
 ·obtain⟨s,ps,hi,h2,hn,hs⟩:=Db hs;have hsm:=hi.small;have hbg:=hi.big;refine AH (FT (st:=A4 seed ps.length) rfl hz (by omega) (hi.stop _) hs) λe w ⟨he,hs⟩=>⟨_,_,he,?_⟩;have hb:(AQ (A4 seed ps.length) ps k).2=true:=by
   cases hb:(AQ (A4 seed ps.length) ps k).2 with
   | true=>rfl
   | false=>have:=(hi.miss hb).2.2.1;rw[hg] at this;cases this
  obtain⟨hj,hit,_⟩:=hi.hit hb
  repeat (first|with_reducible refine Aa ?_|((with_reducible refine Ax ?_);first|refine Ag hs ?_|fail)|((with_reducible refine AS ?_);first|refine A0 hs λw hs=>?_|refine Bk hs λw hs=>?_|fail)|((with_reducible refine AM ?_);first|refine AK hs λb_ o_ hs=>?_|fail)|fail)
  rw[i64_in _ (by omega)] at hs;simp only[Int.toNat_natCast] at hs;have hdel:=hi.del (z:=(⟨1,Af,((0,0,0):Int×Int×Int)⟩:Pl (Int×Int×Int))) hj hit rfl;have hus:AD (ps.set (AQ (A4 seed ps.length) ps k).1 (⟨1,Af,((0,0,0):Int×Int×Int)⟩:Pl (Int×Int×Int)))=AD ps:=by
   rw[BO hj _ (by show(1:Int)≠0;decide),if_neg (by rw[hit.1];decide)];rfl
  have hl:=Mb hi.nodup hg;refine⟨by trivial,Bz s (n:=(m.length:Int)-1) (u:=(AD ps:Int)) (by rw[List.length_set];exact hdel) (by rw[hus,List.length_set];exact h2) (by omega) (by rw[hus]) (by exact Ab.fin hs)⟩
 ·have:Cr m k=m:=by
   unfold Cr;rw[List.filter_eq_self];intro e he;simpa using BY.1 hg e he
  rw[this]
  repeat (first|((with_reducible refine Ax ?_);first|refine Ag hs ?_|fail)|((with_reducible refine AS ?_);first|refine A0 hs λw hs=>?_|fail)|fail)
  exact⟨by trivial,by exact Ab.fin hs⟩
end
end Go.Proofs.YtjipofkjmmpjdaaGreat
