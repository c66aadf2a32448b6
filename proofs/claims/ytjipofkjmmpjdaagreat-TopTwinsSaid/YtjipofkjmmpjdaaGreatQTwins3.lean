import Derived.ProofKit
import Derived.OpenShut
import Derived.JoinedOf
import Derived.ChangeSame
import Derived.SizedLaws
import Derived.ChangeArms
import Derived.ChangeMaps5
import Derived.Lib.Strings
import Derived.Test.YtjipofkjmmpjdaaGreatChecked
import Derived.Conc.LoneSelect
import Derived.KernelRfl
import Derived.Laws.Rows
import Derived.Shelf.Small.Strs
import Derived.Shelf.Strings.Search1
import Derived.Shelf.Sort.Plain
import Derived.Shelf.Bits.Mul64
import Derived.Shelf.Slices.In.SortNone
import Derived.Test.YtjipofkjmmpjdaaGreatProg
import Derived.IntWalk
import Derived.Sort.EncStr
import Derived.Sort.Grow
import Derived.Sort.Walk0
import Derived.Test.YtjipofkjmmpjdaaGreatQTwins2
set_option linter.unusedVariables false
set_option linter.unusedSimpArgs false
set_option linter.unnecessarySimpa false
set_option linter.unusedSectionVars false
set_option maxRecDepth 100000
open Go.Proofs.Tryz
open List (mem_map getElem?_map map_set perm_middle getD_eq_getElem?_getD getElem?_eq_getElem append_assoc length_append length_take length_set mapM_cons mem_range mem_flatMap mem_append_right mem_append_left range length_eq_zero_iff getElem?_cons_zero mem_append drop_drop mem_iff_getElem drop_zero map_cons map_map flatten_cons take_append_drop map_congr_left mem_of_getElem? mem_cons getElem_mem getElem?_append_left getElem?_append_right append_nil getElem?_set_self set_cons_succ set_cons_zero size_toArray length_nil getElem?_set_ne perm_append_comm countP_cons length_cons getElem?_set mem_singleton nodup_cons mem_map_of_mem mem_cons_of_mem map_id filter_eq_self filter_sublist map_append nodup_append filter_append replicate length_map lt_irrefl pairwise_cons le_refl cons_append drop_sublist eq_nil_or_concat getLastD_eq_getLast? map_drop map_take mem_flatten)
open Go.IntKind (wrap signed)
open Int (toNat_natCast tmod)
open Nat (add_mul one_mul mul_le_mul_right min_eq_left le_trans one_pos mod_lt lt_of_lt_of_le add_zero mod_eq_of_lt)
open Option (bind_eq_bind pure_def bind_eq_some_iff map_eq_some_iff map_some isNone isSome_eq_false_iff isNone_iff_eq_none isSome_iff_exists)
open Array (toList_inj getElem?_modify ext_getElem? getElem?_mapIdx size_modify toArray_toList size_map)
open Bool (and_eq_true not_eq_eq_eq_not and_eq_false_iff)
namespace Go.Hb
structure Ap(α:Type) where
 sz:Nat
 cells:α->List Value
 len:∀a,(cells a).length=sz
def Ap.int(k:IntKind):Ap Int:=⟨1,λn=>[.int k n],λ_=>rfl⟩
def Ap.str:Ap BA:=⟨1,λs=>[.s s],λ_=>rfl⟩
def Ap.ptr:Ap Nat:=⟨1,λb=>[pq b 0],λ_=>rfl⟩
def Ap.flat{a:Type}(E:Ap a)(rows:List a):List Value:=(rows.map E.cells).flatten
section
variable{α:Type}{E:Ap α}
theorem Ap.rows(E:Ap α){rows:List α}:∀r∈rows.map E.cells,r.length=E.sz:=by
 intro r a;simp only[mem_map] at a;obtain⟨l,_,rfl⟩:=a;exact E.len l
theorem Ap.flat_length(E:Ap α)(rows:List α):(E.flat rows).length=rows.length*E.sz:=by
 unfold Ap.flat;rw[Ab0 E.rows];simp
theorem Ap.flat_get{rows:List α}{i j:Nat}{a:α}(h:rows[i]? = some a)(b:j<E.sz):(E.flat rows)[i*E.sz+j]? = (E.cells a)[j]?:=by
 unfold Ap.flat;rw[Hb.flat_get E.rows b,getElem?_map,h];rfl
theorem Ap.flat_set{rows:List α}{i j:Nat}{a a':α}{v:Value}(h:rows[i]? = some a)(b:j<E.sz)(c:(E.cells a).set j v=E.cells a'):(E.flat rows).set (i*E.sz+j) v=E.flat (rows.set i a'):=by
 unfold Ap.flat;rw[Hb.flat_set (r:=E.cells a) E.rows b<|by rw[getElem?_map,h];rfl,c,map_set]
theorem Ap.flat_append(E:Ap α)(r1 r2:List α):E.flat (r1++r2)=E.flat r1++E.flat r2:=by simp[Ap.flat]
theorem Ap.flat_one(E:Ap α)(a:α):E.flat [a]=E.cells a:=by simp[Ap.flat]
theorem Ap.flat_nil(E:Ap α):E.flat []=[]:=rfl
end
def recs{a:Type}(E:Ap a)(s:Sl)(rows:List a):HP:=Lp E.sz s (E.flat rows)
def reca{c:Type}(E:Ap c)(b o:Nat)(s:Sl)(rows:List c):HP:=λh=>s.a=some ⟨b,o,none⟩/\recs E s rows h
class At(L:List HP)(b:Nat)(p:outParam HP)(F:outParam (HP->List HP)):Prop where
 pos:∃M,L.Perm (p::M)/\∀x,(F x).Perm (x::M)
class K5(L:List HP)(s:Sl)(p:outParam HP)(F:outParam (HP->List HP)):Prop where
 pos:∃M,L.Perm (p::M)/\∀x,(F x).Perm (x::M)
class AtO(L:List HP)(W:outParam World):Prop where
 pos:∃M,L.Perm (old W::M)
section
variable{L:List HP}{F:HP->List HP}{p c:HP}{b:Nat}{s:Sl}{W W0 w:World}
instance (priority:=low) At.there [h:At L b p F]:At (c::L) b p (λx=>c::F x):=⟨by
 obtain⟨M,a,d⟩:=h.pos;exact⟨c::M,(List.Perm.cons c a).trans<|List.Perm.swap _ _ _,λx=>(List.Perm.cons c<|d x).trans<|List.Perm.swap _ _ _⟩⟩
instance (priority:=low) K5.there [h:K5 L s p F]:K5 (c::L) s p (λx=>c::F x):=⟨by
 obtain⟨M,a,b⟩:=h.pos;exact⟨c::M,(List.Perm.cons c a).trans<|List.Perm.swap _ _ _,λx=>(List.Perm.cons c<|b x).trans<|List.Perm.swap _ _ _⟩⟩
instance AtO.here:AtO (old W::L) W:=⟨L,List.Perm.refl _⟩
theorem E7:∃M,(p::L).Perm (p::M)/\∀x,((λx=>x::L) x).Perm (x::M):=⟨L,List.Perm.refl _,λ_=>List.Perm.refl _⟩
instance At.blk{cs:List Value}:At (blk b cs::L) b (blk b cs) (λx=>x::L):=⟨E7⟩
instance At.reca{a:Type}{E:Ap a}{o:Nat}{rows:List a}:At (reca E b o s rows::L) b (reca E b o s rows) (λx=>x::L):=⟨E7⟩
instance K5.recs{a:Type}{E:Ap a}{rows:List a}:K5 (recs E s rows::L) s (recs E s rows) (λx=>x::L):=⟨E7⟩
instance K5.reca{a:Type}{E:Ap a}{b o:Nat}{rows:List a}:K5 (Hb.reca E b o s rows::L) s (Hb.reca E b o s rows) (λx=>x::L):=⟨E7⟩
theorem At.turn{p':HP}[hA:At L b p F](h:Ab W0 w L)(a:∀g,p g->p' g):Ab W0 w (F p'):=by
 obtain⟨M,c,d⟩:=hA.pos;have e:=h.perm c;exact(e.turn (q:=0) rfl a).perm (d p').symm
theorem At.call1{P:Program}{f:FuncId}{args:Array Value}{a:Ending}{p':HP}[hA:At L b p F](h:Ab W0 w L)
  (c:∀M,Ab W0 w (p::M)->Ai P f args w λe w'=>e=a/\Ab W0 w' (p'::M)):Ai P f args w λe w'=>e=a/\Ab W0 w' (F p'):=by
 obtain⟨M,d,g⟩:=hA.pos;exact(c M<|h.perm d).mono λe w' ⟨i,hs⟩=>⟨i,hs.perm (g p').symm⟩
theorem At.one[hA:At L b p F](h:Ab W0 w L){C:Prop}(a:∀M,Ab W0 w (p::M)->(∀w' p',Ab W0 w' (p'::M)->Ab W0 w' (F p'))->C):C:=by
 obtain⟨M,c,d⟩:=hA.pos;exact a M (h.perm c) λw' p' h=>h.perm (d p').symm
theorem At.oneX[hA:At L b p F](h:Ab W0 w L){C:Prop}(a:∀M,Ab W0 w (p::M)->(∀w' p' (X:List HP),Ab W0 w' (p'::(X++M))->Ab W0 w' (X++F p'))->C):C:=by
 obtain⟨M,c,d⟩:=hA.pos;exact a M (h.perm c) λw' p' X h=>h.perm ((perm_middle.symm).trans<|List.Perm.append_left X (d p').symm)
theorem K5.one[hA:K5 L s p F](h:Ab W0 w L){C:Prop}(a:∀M,Ab W0 w (p::M)->(∀w' p',Ab W0 w' (p'::M)->Ab W0 w' (F p'))->C):C:=by
 obtain⟨M,b,c⟩:=hA.pos;exact a M (h.perm b) λw' p' h=>h.perm (c p').symm
class Ak5(cs:List Value)(o:Nat)(v:Value)(cs':outParam (List Value)):Prop where
 eq:cs.set o v=cs'
 lt:o<cs.length
instance Ak5.zero{x v:Value}{l:List Value}:Ak5 (x::l) 0 v (v::l):=⟨rfl,by simp⟩
instance Ak5.succ{x v:Value}{l a:List Value}{n:Nat}[h:Ak5 l n v a]:Ak5 (x::l) (n+1) v (x::a):=⟨by rw[<- h.eq];rfl,by have:=h.lt;simp;omega⟩
theorem Af{k:CK}{o:Nat}{cs:List Value}{x:k.ty}{K:k.ty->WP}(h:Ab W0 w L)[hA:At L b (Hb.blk b cs) F](a:K x w)(hc:cs[o]? = some (k.val x):=by exact rfl)(c:k ≠ .any:=by simp):ld k b o K w:=
 At.one (hA:=hA) h λ_ h _=>Bck 0 h rfl hc a c
theorem A4{o:Nat}{cs a:List Value}{v:Value}{K:WP}(h:Ab W0 w L)[hA:At L b (Hb.blk b cs) F][c:Ak5 cs o v a](d:∀w',Ab W0 w' (F<|Hb.blk b a)->K w'):st b o v K w:=
 At.one (hA:=hA) h λ_ h e=>Jf 0 h rfl c.lt λw' f=>d w' (e _ _<|by rw[<- c.eq];exact f)
theorem Au{k:CK}{o:Nat}{cs:List Value}{x:k.ty}{K:k.ty->WP}[hA:At L b (Hb.blk b cs) F](a:K x w)(hc:cs[o]? = some (k.val x):=by exact rfl):TK (λw'=>Ab W0 w' L) k b o K w:=
 HF x (λw' h=>At.one (hA:=hA) h λ_ h _=>(h.cell (q:=0) rfl).trans hc) a
theorem AI{K:(World->Prop)->WP}(h:Ab W0 w L)(b:∀a,Ab W0 a L->K (λw'=>Ab W0 w' L) a):A5 K w:=Zb (λw'=>Ab W0 w' L) h.drew (b _ h.drew)
section
variable{α:Type}[Inhabited α]{E:Ap α}{rows:List α}
theorem BE(h:Ab W0 w L)[hA:K5 L s (Hb.recs E s rows) F](a:0<E.sz:=by decide):s.n=rows.length/\s.n<=s.c:=
 K5.one (hA:=hA) h λ_ h _=>by
  have:=IY (q:=0) h rfl;rw[Ap.flat_length] at this;exact⟨(Nat.eq_of_mul_eq_mul_right a this.1).symm,this.2⟩
theorem BO{i:Int}{K:Nat->Nat->WP}(h:Ab W0 w L)[hA:K5 L s (Hb.recs E s rows) F]
  (c:∀b o,Ab W0 w (F<|Hb.reca E b o s rows)->K b o w) (d:0<=i:=by first|omega|(simp only[List.length_set,List.length_append,List.length_cons,List.length_nil,List.length_take,List.length_drop,List.length_map,Int.toNat_natCast] <;> omega)|fail) (e:i<(s.n:Int):=by first|omega|(simp only[List.length_set,List.length_append,List.length_cons,List.length_nil,List.length_take,List.length_drop,List.length_map,Int.toNat_natCast] <;> omega)|fail):CU s.a s.n i K w:=
 K5.one (hA:=hA) h λ_ h f=>A9s 0 h rfl d e λb o g=>c b o (f _ _<|h.turn (q:=0) rfl λ_ j=>⟨g,j⟩)
theorem Ia{b o:Nat}{i:Int}{K:Nat->Nat->WP}(h:Ab W0 w L)[hA:K5 L s (Hb.reca E b o s rows) F](c:K b o w)(d:0<=i:=by first|omega|(simp only[List.length_set,List.length_append,List.length_cons,List.length_nil,List.length_take,List.length_drop,List.length_map,Int.toNat_natCast] <;> omega)|fail)(e:i<(s.n:Int):=by first|omega|(simp only[List.length_set,List.length_append,List.length_cons,List.length_nil,List.length_take,List.length_drop,List.length_map,Int.toNat_natCast] <;> omega)|fail):CU s.a s.n i K w:=
 K5.one (hA:=hA) h λ_ h _=>⟨b,o,h.pure (q:=0) rfl λ_ f=>f.1,⟨d,e⟩,c⟩
theorem Wh{b o i j:Nat}{a:α}{M:List HP}(h:Ab W0 w (Hb.reca E b o s rows::M))(hi:rows[i]? = some a)(d:j<E.sz):w.cell? ⟨b,o+(i*E.sz+j),none⟩=(E.cells a)[j]?:=by
 have e:s.a=some ⟨b,o,none⟩:=h.pure (q:=0) rfl λ_ c=>c.1;have f:=h.turn (q:=0) (p':=Hb.recs E s rows) rfl λ_ c=>c.2;have g:=(List.getElem?_eq_some_iff.1 hi).1;have:=Tf (q:=0) (j:=i*E.sz+j) f rfl e (by rw[Ap.flat_length];calc _<i*E.sz+E.sz:=by omega
  _=(i+1)*E.sz:=by rw[add_mul,one_mul]
  _<=_:=mul_le_mul_right _ (by omega))
 rw[this,Ap.flat_get hi d]
theorem getD_some{i:Nat}(h:i<rows.length):rows[i]? = some (rows.getD i default):=by
 rw[getD_eq_getElem?_getD,getElem?_eq_getElem h];rfl
theorem Avs{b o i j p:Nat}{k:CK}{x:k.ty}{K:k.ty->WP}(h:Ab W0 w L)[hA:At L b (Hb.reca E b o s rows) F](a:p=o+(i*E.sz+j))(hi:i<rows.length)
  (hc:(E.cells<|rows.getD i default)[j]? = some (k.val x)) (c:K x w) (d:k ≠ .any:=by simp):ld k b p K w:=by
 subst a;refine At.one (hA:=hA) h λ_ h _=>Mm ?_ d c;rw[Wh h (getD_some hi)<|by rw[<- E.len (rows.getD i default)];exact(List.getElem?_eq_some_iff.1 hc).1,hc]
class Aeh{α:Type}(E:Ap α)(a:α)(j:Nat)(v:Value)(a':outParam α):Prop where
 eq:(E.cells a).set j v=E.cells a'
 lt:j<E.sz
theorem Ba4{b o i j p:Nat}{v:Value}{a':α}{K:WP}(h:Ab W0 w L)[hA:At L b (Hb.reca E b o s rows) F](f:p=o+(i*E.sz+j))(hi:i<rows.length)
  (g:(E.cells<|rows.getD i default).set j v=E.cells a') (k:j<E.sz) (l:∀w',Ab W0 w' (F<|Hb.reca E b o s<|rows.set i a')->K w'):st b p v K w:=by
 subst f;refine At.one (hA:=hA) h λM h m=>?_;have d:s.a=some ⟨b,o,none⟩:=h.pure (q:=0) rfl λ_ c=>c.1;have n:=h.turn (q:=0) (p':=Hb.recs E s rows) rfl λ_ c=>c.2;refine Ba5 (q:=0) (j:=i*E.sz+j) n rfl d rfl (by rw[Ap.flat_length];calc _<i*E.sz+E.sz:=by omega
  _=(i+1)*E.sz:=by rw[add_mul,one_mul]
  _<=_:=mul_le_mul_right _ (by omega)) λw' e=>l w' (m _ _ ?_)
 rw[Ap.flat_set (getD_some hi) k g] at e;exact e.turn (q:=0) rfl λ_ c=>⟨d,c⟩
theorem A57{b o i:Nat}{a':α}{K:WP}(h:Ab W0 w L)[hA:At L b (Hb.reca E b o s rows) F](hi:i<rows.length)
  (r:∀w',Ab W0 w' (F<|Hb.reca E b o s<|rows.set i a')->K w'):T7 (E.cells a') b (o+i*E.sz) K w:=by
 refine At.one (hA:=hA) h λM h t=>?_;have j:s.a=some ⟨b,o,none⟩:=h.pure (q:=0) rfl λ_ d=>d.1;have u:=h.turn (q:=0) (p':=Hb.recs E s rows) rfl λ_ d=>d.2;obtain⟨pre,tl,p,v,x,y,f⟩:=u.openS (q:=0) rfl j;have f:Ab W0 w (Hb.blk b (pre++E.flat rows++tl)::M):=f;have c:rows=rows.take i++rows[i]::rows.drop (i+1):=by simp
 have e:rows.set i a'=rows.take i++a'::rows.drop (i+1):=by
  rw[List.set_eq_take_append_cons_drop,if_pos hi]
 have k:pre++E.flat rows++tl=(pre++E.flat (rows.take i))++E.cells rows[i]++(E.flat (rows.drop<|i+1)++tl):=by
  have l:E.flat rows=E.flat (rows.take i)++(E.cells rows[i]++E.flat (rows.drop<|i+1)):=by
   have h:=congrArg E.flat c;rw[Ap.flat_append] at h;exact h
  rw[l];simp only[append_assoc]
 have m:pre++E.flat (rows.set i a')++tl=(pre++E.flat (rows.take i))++E.cells a'++(E.flat (rows.drop<|i+1)++tl):=by
  rw[e];simp[Ap.flat]
 rw[k] at f;have n:(pre++E.flat (rows.take i)).length=o+i*E.sz:=by
  rw[length_append,p,Ap.flat_length,length_take,min_eq_left<|by omega]
 rw[<- n];refine QX 0 (E.cells a') w _ _ _ _ K f rfl (by rw[E.len,E.len]) λw' g=>r w' (t _ _ ?_);have g:Ab W0 w' (Hb.blk b (pre++E.flat (rows.take i)++E.cells a'++(E.flat (rows.drop<|i+1)++tl))::M):=g;rw[<- m] at g;have z:=g.shutS (q:=0) (s:=s) (sz:=E.sz) rfl j p (by rw[Ap.flat_length,length_set,<- Ap.flat_length];exact v) x y
 exact z.turn (q:=0) rfl λ_ d=>⟨j,d⟩
theorem Ag9{b o i p:Nat}{vs:List Value}{a':α}{K a:WP}(h:Ab W0 w L)[hA:At L b (Hb.reca E b o s rows) F](hi:i<rows.length)(c:E.cells a'=vs)(d:p=o+i*E.sz)
  (e:∀w',Ab W0 w' (F<|Hb.reca E b o s<|rows.set i a')->K w') (f:T7 vs b p K=a):a w:=by
 subst d f c;exact A57 (hA:=hA) h hi e
theorem D3{ty d:Nat}{z:List Value}{b:Nat}{cs:List Value}{a:α}{n:Nat}{K:Sl->WP}{k:HP->List HP}(h:Ab W0 w L)[hA:K5 L s (Hb.recs E s rows) F][hB:At L b (Hb.blk b cs) k](f:E.cells a=cs)(l:n=E.sz)
  (g:Mv cs=true) (m:z.length=E.sz) (c:0<E.sz) (i:(rows.length+1)*d<=140737488355328)
  (o:∀s' w',s'.n=rows.length+1->Ab W0 w' (F<|Hb.recs E s'<|rows++[a])->K s' w'):Bl ty E.sz d z s 1 (λw=>H3 w (some ⟨b,0,none⟩) n) K w:=by
 have e:H3 w (some ⟨b,0,none⟩) n=some (E.cells a):=by
  refine At.one (hA:=hB) h λ_ h _=>?_;rw[f];exact Bak 0 h rfl (by rw[l,<- f,E.len])
 have p:=(BE (hA:=hA) h c).1;refine K5.one (hA:=hA) h λ_ h q=>?_;refine Ao1 0 (cs:=E.flat rows) (vs:=E.cells a) h rfl e (by rw[f];exact g) (by rw[E.len];omega) m (by rw[p];exact i) c λs' w' r t _ j=>o s' w' (by omega) (q _ _ ?_)
 rw[<- Ap.flat_one E a,<- Ap.flat_append] at j;exact j
theorem GA{ty b:Nat}{z:List Value}{new:List α}{n:Nat}{K:Sl->WP}{g:World->Option (List Value)}(h:Ab W0 w L)[hA:K5 L s (Hb.recs E s rows) F](c:g w=some (E.flat new))(f:n=new.length)
  (d:Mv (E.flat new)=true) (j:z.length=E.sz) (a:0<E.sz) (e:(rows.length+new.length)*b<=140737488355328)
  (k:∀s' w',s'.n=rows.length+new.length->Ab W0 w' (F<|Hb.recs E s'<|rows++new)->K s' w'):Bl ty E.sz b z s n g K w:=by
 have l:=(BE (hA:=hA) h a).1;refine K5.one (hA:=hA) h λ_ h m=>?_;refine Ao1 0 (cs:=E.flat rows) (vs:=E.flat new) h rfl c d (by rw[Ap.flat_length,f]) j (by rw[l,f];exact e) a λs' w' o p _ i=>k s' w' (by omega) (m _ _ ?_)
 rw[<- Ap.flat_append] at i;exact i
end
theorem Ab.shut(s:Sl){d:Type}{E:Ap d}{b o:Nat}{rows:List d}(h:Ab W0 w L)[hA:K5 L s (Hb.reca E b o s rows) F]:Ab W0 w (F<|Hb.recs E s rows):=
 K5.one (hA:=hA) h λM h a=>a _ _ (h.turn (q:=0) rfl λ_ c=>c.2)
inductive Aeg:List HP->HP->List HP->Prop where
 | here {p:HP} {L:List HP}:Aeg (p::L) p L
 | hereA {α:Type} {E:Ap α} {b o:Nat} {s:Sl} {rows:List α} {L:List HP}:Aeg (Hb.reca E b o s rows::L) (recs E s rows) L
 | there {p c:HP} {L M:List HP}:Aeg L p M->Aeg (c::L) p (c::M)
theorem Aeg.stars{L M:List HP}{p:HP}(h:Aeg L p M):∀{g:L2},stars L g->stars (p::M) g:=by
 induction h with
 | here=>exact λh=>h
 | hereA=>exact λ⟨f,i,a,b,c,d,e⟩=>⟨f,i,a,b,c,d.2,e⟩
 | there _ j=>exact λ⟨f,i,a,b,c,d,e⟩=>Th ⟨f,i,a,b,c,d,j e⟩
inductive TV:List HP->List HP->Prop where
 | nil:TV [] []
 | refl (L:List HP):TV L L
 | any (L:List HP):TV L []
 | cons {p:HP} {L M:List HP}:TV L M->TV (p::L) (p::M)
 | reca {α:Type} {E:Ap α} {b o:Nat} {s:Sl} {rows:List α} {L M:List HP}:TV L M->TV (Hb.reca E b o s rows::L) (recs E s rows::M)
 | drop {p:HP} {L M:List HP}:TV L M->TV (p::L) M
 | pull {p:HP} {L L' M:List HP}:Aeg L p L'->TV L' M->TV L (p::M)
theorem TV.stars{L M:List HP}(h:TV L M):∀{g:L2},stars L g->stars M g:=by
 induction h with
 | nil=>exact λh=>h
 | refl L=>exact λh=>h
 | any L=>exact λ_=>trivial
 | cons _ f=>exact λ⟨i,j,a,b,c,d,e⟩=>⟨i,j,a,b,c,d,f e⟩
 | reca _ f=>exact λ⟨i,j,a,b,c,d,e⟩=>⟨i,j,a,b,c,d.2,f e⟩
 | drop _ f=>exact λ⟨i,j,a,b,c,d,e⟩=>Lr (f e) b
 | pull k _ f=>
  intro g h;obtain⟨i,j,a,b,c,d,e⟩:=k.stars h;exact⟨i,j,a,b,c,d,f e⟩
theorem Ab.imp{M:List HP}(h:Ab W0 w L)(hi:TV L M):Ab W0 w M:=⟨h.os,h.out,hi.stars h.st⟩
theorem Ab.fin{M:List HP}(h:Ab W0 w L)(hi:TV L M:=by first|exact .refl _|((repeat (first|refine .cons ?_|refine .reca ?_|(apply TV.pull;focus ((first|exact .there .here|exact .there .hereA|exact .there (.there .here)|exact .there (.there .hereA)|exact .there (.there<|.there .here)|exact .there (.there<|.there .hereA)|exact .there (.there<|.there<|.there .here)|exact .there (.there<|.there<|.there .hereA)|exact .there (.there<|.there<|.there<|.there .here)|exact .there (.there<|.there<|.there<|.there .hereA)|exact .there (.there<|.there<|.there<|.there<|.there .here)|exact .there (.there<|.there<|.there<|.there<|.there .hereA)|exact .there (.there<|.there<|.there<|.there<|.there<|.there .here)|exact .there (.there<|.there<|.there<|.there<|.there<|.there .hereA)|exact .there (.there<|.there<|.there<|.there<|.there<|.there<|.there .here)|exact .there (.there<|.there<|.there<|.there<|.there<|.there<|.there .hereA)|exact .there (.there<|.there<|.there<|.there<|.there<|.there<|.there<|.there .here)|exact .there (.there<|.there<|.there<|.there<|.there<|.there<|.there<|.there .hereA)|exact .there (.there<|.there<|.there<|.there<|.there<|.there<|.there<|.there<|.there .here)|exact .there (.there<|.there<|.there<|.there<|.there<|.there<|.there<|.there<|.there .hereA)|exact .there (.there<|.there<|.there<|.there<|.there<|.there<|.there<|.there<|.there<|.there .here)|exact .there (.there<|.there<|.there<|.there<|.there<|.there<|.there<|.there<|.there<|.there .hereA)|exact .there (.there<|.there<|.there<|.there<|.there<|.there<|.there<|.there<|.there<|.there<|.there .here)|exact .there (.there<|.there<|.there<|.there<|.there<|.there<|.there<|.there<|.there<|.there<|.there .hereA))))|refine .drop ?_));first|exact .any _|exact .refl _|fail)|fail):Ab W0 w M:=h.imp hi
theorem Ag{M:List HP}{K:WP}(h:Ab W0 w L)(a:K w)(hi:TV L M:=by first|exact .refl _|((repeat (first|refine .cons ?_|refine .reca ?_|(apply TV.pull;focus ((first|exact .there .here|exact .there .hereA|exact .there (.there .here)|exact .there (.there .hereA)|exact .there (.there<|.there .here)|exact .there (.there<|.there .hereA)|exact .there (.there<|.there<|.there .here)|exact .there (.there<|.there<|.there .hereA)|exact .there (.there<|.there<|.there<|.there .here)|exact .there (.there<|.there<|.there<|.there .hereA)|exact .there (.there<|.there<|.there<|.there<|.there .here)|exact .there (.there<|.there<|.there<|.there<|.there .hereA)|exact .there (.there<|.there<|.there<|.there<|.there<|.there .here)|exact .there (.there<|.there<|.there<|.there<|.there<|.there .hereA)|exact .there (.there<|.there<|.there<|.there<|.there<|.there<|.there .here)|exact .there (.there<|.there<|.there<|.there<|.there<|.there<|.there .hereA)|exact .there (.there<|.there<|.there<|.there<|.there<|.there<|.there<|.there .here)|exact .there (.there<|.there<|.there<|.there<|.there<|.there<|.there<|.there .hereA)|exact .there (.there<|.there<|.there<|.there<|.there<|.there<|.there<|.there<|.there .here)|exact .there (.there<|.there<|.there<|.there<|.there<|.there<|.there<|.there<|.there .hereA)|exact .there (.there<|.there<|.there<|.there<|.there<|.there<|.there<|.there<|.there<|.there .here)|exact .there (.there<|.there<|.there<|.there<|.there<|.there<|.there<|.there<|.there<|.there .hereA)|exact .there (.there<|.there<|.there<|.there<|.there<|.there<|.there<|.there<|.there<|.there<|.there .here)|exact .there (.there<|.there<|.there<|.there<|.there<|.there<|.there<|.there<|.there<|.there<|.there .hereA))))|refine .drop ?_));first|exact .any _|exact .refl _|fail)|fail):Al true (λw'=>Ab W0 w' M) K w:=BJ (h.imp hi) a
theorem An(M:List HP){K:(World->Prop)->WP}(h:Ab W0 w L)(b:∀a,Ab W0 a L->K (λw'=>Ab W0 w' M) a)(hi:TV L M:=by first|exact .refl _|((repeat (first|refine .cons ?_|refine .reca ?_|(apply TV.pull;focus ((first|exact .there .here|exact .there .hereA|exact .there (.there .here)|exact .there (.there .hereA)|exact .there (.there<|.there .here)|exact .there (.there<|.there .hereA)|exact .there (.there<|.there<|.there .here)|exact .there (.there<|.there<|.there .hereA)|exact .there (.there<|.there<|.there<|.there .here)|exact .there (.there<|.there<|.there<|.there .hereA)|exact .there (.there<|.there<|.there<|.there<|.there .here)|exact .there (.there<|.there<|.there<|.there<|.there .hereA)|exact .there (.there<|.there<|.there<|.there<|.there<|.there .here)|exact .there (.there<|.there<|.there<|.there<|.there<|.there .hereA)|exact .there (.there<|.there<|.there<|.there<|.there<|.there<|.there .here)|exact .there (.there<|.there<|.there<|.there<|.there<|.there<|.there .hereA)|exact .there (.there<|.there<|.there<|.there<|.there<|.there<|.there<|.there .here)|exact .there (.there<|.there<|.there<|.there<|.there<|.there<|.there<|.there .hereA)|exact .there (.there<|.there<|.there<|.there<|.there<|.there<|.there<|.there<|.there .here)|exact .there (.there<|.there<|.there<|.there<|.there<|.there<|.there<|.there<|.there .hereA)|exact .there (.there<|.there<|.there<|.there<|.there<|.there<|.there<|.there<|.there<|.there .here)|exact .there (.there<|.there<|.there<|.there<|.there<|.there<|.there<|.there<|.there<|.there .hereA)|exact .there (.there<|.there<|.there<|.there<|.there<|.there<|.there<|.there<|.there<|.there<|.there .here)|exact .there (.there<|.there<|.there<|.there<|.there<|.there<|.there<|.there<|.there<|.there<|.there .hereA))))|refine .drop ?_));first|exact .any _|exact .refl _|fail)|fail):A5 K w:=Zb (λw'=>Ab W0 w' M) (h.imp hi).drew (b _ h.drew)
theorem ML{c:Prop}{K:WP}(a:K w)(hc:c:=by first|omega|(simp only[List.length_set,List.length_append,List.length_cons,List.length_nil,List.length_take,List.length_drop,List.length_map,Int.toNat_natCast] <;> omega)|fail):AV c K w:=A1 hc a
def AN(Ps:List HP):HP:=λh=>stars Ps h
theorem Ab.openL:∀{Ps M:List HP},Ab W0 w (AN Ps::M)->Ab W0 w (Ps++M)
 | [],_,h=>h.drop
 | p::Ps,M,h=>by
  have a:Ab W0 w (p::AN Ps::M):=Ab.split (p:=p) (q:=AN Ps) h;have b:=(a.perm<|List.Perm.swap _ _ _);exact(Ab.openL_aux b)
where Ab.openL_aux {p:HP} {Ps M:List HP} (h:Ab W0 w (AN Ps::p::M)):Ab W0 w (p::Ps++M):=
 (Ab.openL h).perm perm_middle
theorem Ab.shutL:∀{Ps M:List HP},Ab W0 w (Ps++M)->Ab W0 w (AN Ps::M)
 | [],M,h=>⟨h.os,h.out,λ_=>none,D4 w,(λ_ _ a=>by cases a),EY.refl _,λ_=>.inl rfl,trivial,h.st⟩
 | p::Ps,M,h=>by
  have b:Ab W0 w (Ps++(p::M)):=h.perm perm_middle.symm;exact Ab.join (p:=p) (q:=AN Ps) ((Ab.shutL b).perm<|List.Perm.swap _ _ _)
def Ly{a:Type}(p:a->HP):HP:=λh=>∃x,p x h
def Fs(c:Prop)(p:HP):HP:=λh=>c/\p h
theorem Ab.openE{a:Type}{p:a->HP}{M:List HP}(h:Ab W0 w (Ly p::M)):∃x,Ab W0 w (p x::M):=Ab.ex (q:=0) h rfl
theorem Ab.shutE{b:Type}{p:b->HP}{M:List HP}(x:b)(h:Ab W0 w (p x::M)):Ab W0 w (Ly p::M):=h.turn (q:=0) rfl λ_ a=>⟨x,a⟩
theorem Ab.openA{c:Prop}{p:HP}{M:List HP}(h:Ab W0 w (Fs c p::M)):c/\Ab W0 w (p::M):=⟨h.pure (q:=0) rfl λ_ a=>a.1,h.turn (q:=0) rfl λ_ a=>a.2⟩
theorem Ab.shutA{c:Prop}{p:HP}{M:List HP}(hc:c)(h:Ab W0 w (p::M)):Ab W0 w (Fs c p::M):=h.turn (q:=0) rfl λ_ a=>⟨hc,a⟩
end
end Go.Hb
namespace Go.Hb
open Go.ChangeShapes Go.WideShapes
structure Be(W W':World):Prop where
 os:W'.os=W.os
 out:W'.output=W.output
 heap:∀(b:Nat)(o:Obj),W.heap[b]? = some o->W'.heap[b]? = some o
theorem Ab.kept{W w:World}{q:Nat}{L:List HP}(h:Ab W w L)(hq:L[q]? = some (old W)):Be W w:=by
 obtain⟨g,hg,ho⟩:=h.get hq;exact⟨h.os,h.out,λb o hb=>hg _ _ (ho _ _ hb)⟩
theorem Ab.begin(W:World):Ab W W [old W]:=
 ⟨rfl,rfl,D4 W,λ_=>none,EY.refl _,(λ_ _ a=>by cases a),λ_=>.inr rfl,EY.refl _,trivial⟩
section
variable{H:Type}{enc:TypeId×Value->H}{P:Program}{W W':World}
theorem Be.cell(c:Be W W'){a:Addr}{v:Value}(h:W.cell? a=some v):W'.cell? a=some v:=by
 unfold World.cell? at h ⊢;cases b:W.heap[a.block]? with
 | none=>rw[b] at h;cases h
 | some o=>rw[c.heap _ _ b];rw[b] at h;exact h
theorem G3{k m:Type}{f g:k->Option m}:∀{l:List k}{xs:List m},l.mapM f=some xs->(∀i∈l,∀y∈xs,f i=some y->g i=some y)->l.mapM g=some xs
 | [],xs,h,_=>by simpa using h
 | a::l,xs,h,c=>by
  simp only[mapM_cons,bind_eq_bind,pure_def,bind_eq_some_iff] at h;obtain⟨y,d,ys,b,e⟩:=h;cases e;simp only[mapM_cons,bind_eq_bind,pure_def,bind_eq_some_iff];exact⟨y,c a (.head _) y (.head _) d,ys,G3 b<|λi hi z j=>c i (.tail _ hi) z<|.tail _ j,rfl⟩
theorem Ael(b:Be W W'){base:Nat}{a:Addr}{n:Nat}{cs:List Value}(h:W.cells? base a n=some cs):W'.cells? base a n=some cs:=by
 unfold World.cells? at h ⊢;split at h
 ·rename_i c;rw[if_pos c];exact G3 h λi _ y _ d=>b.cell d
 ·cases h
def JL(P:Program):Nat->TypeId->Bool
 | 0,_=>false
 | d+1,t=>match P.underlying t with
  | some .bool|some (.int _)|some .string=>true
  | some (.struct fs)=>fs.toList.all λf=>JL P d f.type
  | some (.array _ e)=>JL P d e
  | some (.slice e)=>!Nat.beq (P.cellsOf e) 0 && JL P d e
  | _=>false
theorem A5a{a:Addr}{n:Nat}(b:0<n):∃p∈MemPlace.row a n,p.block=a.block:=by
 refine⟨MemPlace.cell a.block a.off,?_,rfl⟩;unfold MemPlace.row;simp only[mem_map,mem_range];exact⟨0,b,by simp[MemPlace.cell]⟩
theorem Aok(X:Be W W'){sp:Nat->Bool}:∀(d b:Nat)(t:TypeId)(cs:List Value)(x:DataW H×List MemPlace),JL P d t=true ->
  DataW.trod enc P W 0 (λ_=>true) true b t cs=some x->(∀p∈x.2,sp p.block=true)->DataW.trod enc P W' 0 sp true b t cs=some x:=by
 intro d
 induction d with
 | zero=>intro b t cs x h;cases h
 | succ d C=>
  intro b t cs x o h hs;cases b with
  | zero=>cases h
  | succ b=>
   unfold JL at o;cases J:P.underlying t with
   | none=>rw[J] at o;cases o
   | some Y=>
   rw[J] at o;unfold DataW.trod at h ⊢;rw[J] at h ⊢;cases Y <;> try (cases o;done)
   case bool=>rcases cs with _|⟨v,_|_⟩ <;> first|exact h|(cases v <;> exact h)
   case int k=>rcases cs with _|⟨v,_|_⟩ <;> first|exact h|(cases v <;> exact h)
   case string=>rcases cs with _|⟨v,_|_⟩ <;> first|exact h|(cases v <;> exact h)
   case struct fs=>
    simp only at h ⊢;split at h
    ·rename_i K;rw[if_pos K];simp only[map_eq_some_iff] at h ⊢;obtain⟨xs,u,rfl⟩:=h;refine⟨xs,G3 u λf U y r w=>?_,rfl⟩;exact C b _ _ y (List.all_eq_true.1 o f U) w λp A=>hs p (mem_flatMap.2 ⟨y,r,A⟩)
    ·cases h
   case array n e=>
    simp only at h ⊢;split at h
    ·rename_i K;rw[if_pos K];simp only[map_eq_some_iff] at h ⊢;obtain⟨xs,u,rfl⟩:=h;refine⟨xs,G3 u λf U y r w=>?_,rfl⟩;exact C b _ _ y o w λp A=>hs p (mem_flatMap.2 ⟨y,r,A⟩)
    ·cases h
   case slice e=>
    simp only[and_eq_true,not_eq_eq_eq_not,Bool.not_true] at o;obtain⟨D,L⟩:=o;have E:P.cellsOf e≠0:=λI=>by rw[I] at D;cases D
    cases cs with
    | nil=>exact h
    | cons v cs=>
    cases cs with
    | cons _ _=>cases v <;> first|exact h|(rename_i M len cap;cases M <;> first|exact h|cases h|(cases len <;> cases cap <;> first|exact h|cases h))
    | nil=>
    cases v <;> first|exact h|skip
    rename_i M len cap;cases M with
    | none=>first|exact h|(cases len <;> cases cap <;> first|exact h|cases h)
    | some a=>
    simp only at h ⊢;split at h
    case isFalse=>cases h
    rename_i Z;rw[if_pos Z];simp only[if_true,bind_eq_some_iff,map_eq_some_iff] at h ⊢;obtain⟨m,N,g,F,rfl⟩:=h;have G:∀(O:List (DataW H×List MemPlace))(i:Nat)(y:DataW H×List MemPlace),y∈O->(∀z∈O,∀p∈z.2,sp p.block=true) ->
      (W.cells? 0 (a.add<|i*P.cellsOf e)<|P.cellsOf e).bind (DataW.trod enc P W 0 (λ_=>true) true b e)=some y ->
      (W'.cells? 0 (a.add<|i*P.cellsOf e)<|P.cellsOf e).bind (DataW.trod enc P W' 0 sp true b e)=some y:=by
     intro O i y r B h;simp only[bind_eq_some_iff] at h ⊢;obtain⟨c,hc,hd⟩:=h;exact⟨c,Ael X hc,C b e c y L hd<|B y r⟩
    have s:∀z∈m++g,∀p∈z.2,sp p.block=true:=λz B p o=>hs p (mem_append_right _<|mem_flatMap.2 ⟨z,B,o⟩);refine⟨m,G3 N λi _ y r h=>G m i y r (λz B=>s z<|mem_append_left _ B) h,g,?_,rfl⟩;have aa:g.length=cap-len:=by
     have:∀{l:List Nat}{f:Nat->Option (DataW H×List MemPlace)}{xs},l.mapM f=some xs->xs.length=l.length:=by
      intro l
      induction l with
      | nil=>intro f xs h;simp at h;subst h;rfl
      | cons i l C=>
       intro f xs h;simp only[mapM_cons,bind_eq_bind,pure_def,bind_eq_some_iff] at h;obtain⟨y,_,ys,Q,hx⟩:=h;cases hx;simp[C Q]
     simpa using this F
    have q:(range<|cap-len).mapM (λj=>(W'.cells? 0 (a.add<|(len+j)*P.cellsOf e)<|P.cellsOf e).bind<|DataW.trod enc P W' 0 sp true b e)=some g:=
     G3 F λj _ y r h=>G g (len+j) y r (λz B=>s z<|mem_append_right _ B) h
    by_cases I:(m.length+g.length)*P.cellsOf e=0
    ·have R:g=[]:=by
      rcases Nat.mul_eq_zero.1 I with V|V
      ·exact length_eq_zero_iff.1 (by omega)
      ·exact absurd V E
     split
     ·exact q
     ·rw[R]
    ·have S:sp a.block=true:=by
      obtain⟨p,o,T⟩:=A5a (a:=a) (Nat.pos_of_ne_zero I);rw[<- T];exact hs p (mem_append_left _ o)
     rw[if_pos S];exact q
theorem MI(f:Be W W'){sp:Nat->Bool}:∀{ts:List TypeId}{vs:List Value}{ds:List (DataW H)}{ps:List MemPlace},(ts.all λt=>JL P 9 t)=true ->
  DataW.TrodAll enc P W 0 (λ_=>true) true ts vs ds ps->(∀p∈ps,sp p.block=true)->DataW.TrodAll enc P W' 0 sp true ts vs ds ps
 | [],[],[],_,_,h,_=>h
 | t::ts,v::vs,d::ds,_,b,⟨p,q,⟨a,g⟩,i,c⟩,hs=>by
  subst c;simp only[List.all_cons,and_eq_true] at b;exact⟨p,q,⟨a,Aok f 9 a t _ _ b.1 g λx e=>hs x<|mem_append_left _ e⟩,MI f b.2 i λx e=>hs x<|mem_append_right _ e,rfl⟩
 | [],_::_,_,_,_,h,_=>h.elim
 | [],[],_::_,_,_,h,_=>h.elim
 | _::_,[],_,_,_,h,_=>h.elim
 | _::_,_::_,[],_,_,h,_=>h.elim
theorem Avp{f:Func}{s:ChangeSpec}{l:TypeId}{args:Array Value}{ds b:List (DataW H)}{a:List MemPlace}(m:s.vars=[])(e:f.resultTypes=#[l])(r:P.underlying l=some .bool)
  (g:(f.params.toList.all λt=>JL P 9 t)=true) (n:DataW.Whole enc P f.params.toList s.vars false W args.toList ds b a)
  (hs:(s.fn H<|ds++b).results=[.lit<|.bool true]/\(s.fn H<|ds++b).args=ds/\(s.fn H<|ds++b).vars=[]) (d:Be W W') :
  s.post enc P f false true false false W args (.bool true) W':=by
 have c:=n;obtain⟨p,q,hA,j,rfl,w,y⟩:=n;have k:b=[]/\q=[]:=by
  rw[m] at j;cases b with
  | nil=>exact⟨rfl,j⟩
  | cons _ _=>exact j.elim
 obtain⟨rfl,rfl⟩:=k;refine⟨ds,[],p++[],[],p,[],c,?_,?_,?_,?_,λh=>by cases h⟩
 ·rw[hs.1,e];exact⟨[],[],⟨1,by simp[DataW.trod,Value.cells,r]⟩,rfl,rfl⟩
 ·rw[hs.2.1];exact MI d g hA λx u=>by simpa using c.lt x (by simpa using u)
 ·rw[hs.2.2,m];rfl
 ·refine⟨d.os,d.out,λi hi=>?_⟩;have o:W.heap[i]? = some W.heap[i]:=by simp[hi]
  have v:=d.heap i _ o;rw[o,v];cases W.heap[i] <;> first|exact⟨rfl,rfl,rfl,λ_ _=>rfl⟩|exact .inr ⟨rfl,rfl⟩|rfl
end
end Go.Hb
namespace Go.Hb
open Go.ChangeShapes Go.WideShapes Go.RowKit
def okV:CK->Value->Prop
 | .int k,v=>∃n,v = .int k n/\(Lit.int k n).wf=true
 | .bool,v=>∃b,v = .bool b
 | .str,v=>∃s,v = .string s/\s.size<=reachBytes
 | _,_=>False
def Ew:List CK->List Value->Prop
 | [],[]=>True
 | k::ks,v::vs=>okV k v/\Ew ks vs
 | _,_=>False
theorem Ns:∀{ks:List CK}{vs:List Value},Ew ks vs->vs.length=ks.length
 | [],[],_=>rfl
 | _::_,_::_,h=>by simp[Ns h.2]
theorem IM:∀{ks ls:List CK}{vs a:List Value},Ew ks vs->Ew ls a->Ew (ks++ls) (vs++a)
 | [],_,[],_,_,h=>h
 | _::_,_,_::_,_,h,b=>⟨h.1,IM h.2 b⟩
theorem VT{ks:List CK}:∀{n:Nat}{rows:List (List Value)},rows.length=n->(∀r∈rows,Ew ks r)->Ew (A5s ks n) rows.flatten
 | 0,[],_,_=>trivial
 | n+1,r::rows,h,a=>IM (a r<|.head _) (VT (by simpa using h) λx b=>a x<|.tail _ b)
def Abx(P:Program)(a:TypeId->Option (List CK)):Nat->List Field->Option (List CK)
 | _,[]=>some []
 | o,f::fs=>if f.offset=o then match a f.type with
  | some ks=>if ks.length=P.cellsOf f.type then (Abx P a (o+ks.length) fs).map (ks ++ ·) else none
  | none=>none else none
def V4(P:Program):Nat->TypeId->Option (List CK)
 | 0,_=>none
 | d+1,t=>match P.underlying t with
  | some .bool=>some [.bool]
  | some (.int k)=>some [.int k]
  | some .string=>some [.str]
  | some (.struct fs)=>match Abx P (V4 P d) 0 fs.toList with
   | some ks=>if ks.length=P.cellsOf t then some ks else none
   | none=>none
  | some (.array n e)=>match V4 P d e with
   | some ks=>if ks.length=P.cellsOf e/\n*ks.length=P.cellsOf t then some (A5s ks n) else none
   | none=>none
  | _=>none
section
variable{H:Type}{enc:TypeId×Value->H}{P:Program}{W:World}{sp:Nat->Bool}{held:Bool}{base:Nat}
theorem Aco{g i:Type}{f:g->Option i}:∀{l:List g}{xs:List i},l.mapM f=some xs->∀a∈l,∃y,f a=some y
 | [],_,_,_,h=>by cases h
 | a::l,xs,h,b,c=>by
  simp only[mapM_cons,bind_eq_bind,pure_def,bind_eq_some_iff] at h;obtain⟨y,e,ys,d,_⟩:=h;cases c with
  | head=>exact⟨y,e⟩
  | tail _ c=>exact Aco d b c
theorem Mr{g j:Type}{f:g->Option j}:∀{l:List g}{xs:List j}{i:Nat}{a:g},l.mapM f=some xs->l[i]? = some a->∃y,xs[i]? = some y/\f a=some y
 | [],_,_,_,_,h=>by simp at h
 | b::l,xs,i,a,h,hi=>by
  simp only[mapM_cons,bind_eq_bind,pure_def,bind_eq_some_iff] at h;obtain⟨y,d,ys,c,e⟩:=h;cases e;cases i with
  | zero=>simp only[getElem?_cons_zero,Option.some.injEq] at hi;subst hi;exact⟨y,rfl,d⟩
  | succ i=>exact Mr (l:=l) (i:=i) c (by simpa using hi)
def Je(P:Program)(t:TypeId)(d:DataW H):Prop:=∀n∈d.weights P t,n<=reachBytes
theorem JJ{e:TypeId}:∀{ds:List (DataW H)}{d:DataW H}{n:Nat},d∈ds->n∈d.weights P e->n∈DataW.weightsAll P e ds
 | [],_,_,h,_=>by cases h
 | x::ds,d,n,h,a=>by
  simp only[DataW.weightsAll,mem_append];cases h with
  | head=>exact .inl a
  | tail _ h=>exact .inr (JJ h a)
theorem light_each{ts:List TypeId}{ds:List (DataW H)}(h:∀n∈DataW.weightsEach P ts ds,n<=reachBytes){j:Nat}{t:TypeId}{d:DataW H}(a:ts[j]? = some t)(b:ds[j]? = some d):Je P t d:=λn c=>
 h n (DataW.weights_mem_each a b n c)
theorem Nk{e:TypeId}{ds:List (DataW H)}(h:∀n∈DataW.weightsAll P e ds,n<=reachBytes){d:DataW H}(a:d∈ds):Je P e d:=λn b=>h n (JJ a b)
theorem Aby{c:TypeId->Option (List CK)}{cs:List Value}(b:∀t ks d,c t=some ks->(∃a x,DataW.trod enc P W base sp held a t d=some x/\Je P t x.1)->Ew ks d) :
  ∀(fs:List Field)(o:Nat)(ks:List CK),Abx P c o fs=some ks->(∀f∈fs,∃a x,DataW.trod enc P W base sp held a f.type ((cs.drop f.offset).take<|P.cellsOf f.type)=some x/\Je P f.type x.1) ->
   Ew ks ((cs.drop o).take ks.length)
 | [],o,ks,h,_=>by simp only[Abx,Option.some.injEq] at h;subst h;simp[Ew]
 | f::fs,o,ks,h,e=>by
  simp only[Abx] at h;split at h
  case isFalse=>cases h
  rename_i j;split at h
  case h_2=>cases h
  rename_i l k;split at h
  case isFalse=>cases h
  rename_i n;simp only[map_eq_some_iff] at h;obtain⟨m,p,rfl⟩:=h;have i:=b _ _ _ k (e f<|.head _);have q:=Aby b fs _ _ p λg r=>e g (.tail _ r);rw[j,<- n] at i;have:(cs.drop o).take (l++m).length=(cs.drop o).take l.length++(cs.drop<|o+l.length).take m.length:=by
   rw[length_append,List.take_add,drop_drop]
  rw[this];exact IM i q
theorem Abz:∀(d:Nat)(t:TypeId)(ks:List CK)(f:List Value),V4 P d t=some ks->(∃a x,DataW.trod enc P W base sp held a t f=some x/\Je P t x.1)->Ew ks f:=by
 intro d
 induction d with
 | zero=>intro t ks f h;cases h
 | succ d z=>
  intro t ks f h ⟨a,x,c,q⟩;unfold V4 at h;cases o:P.underlying t with
  | none=>rw[o] at h;cases h
  | some F=>
  rw[o] at h;cases F <;> try (cases h;done)
  case bool=>
   cases h;obtain⟨b,rfl,_⟩:=DataW.trod_bool o c;exact⟨⟨b,rfl⟩,trivial⟩
  case int k=>
   cases h;obtain⟨n,rfl,_,D⟩:=DataW.trod_int o c;exact⟨⟨n,rfl,D⟩,trivial⟩
  case string=>
   cases h;obtain⟨s,rfl,rfl,D⟩:=DataW.trod_string o c;have:=q s.data.toList.length (by simp[DataW.weights]);exact⟨⟨s,rfl,by simpa using this⟩,trivial⟩
  case struct fs=>
   simp only at h;split at h
   case h_2=>cases h
   rename_i l A;split at h
   case isFalse=>cases h
   rename_i r;cases h;cases a with
   | zero=>cases c
   | succ a=>
   unfold DataW.trod at c;rw[o] at c;simp only at c;split at c
   case isFalse=>cases c
   rename_i p;simp only[map_eq_some_iff] at c;obtain⟨xs,u,rfl⟩:=c;have g:∀n∈DataW.weightsEach P (fs.toList.map (·.type)) (xs.map (·.1)),n<=reachBytes:=λn r=>q n (by simp only[DataW.weights,o];exact r)
   have:=Aby (enc:=enc) (W:=W) (sp:=sp) (held:=held) (base:=base) (cs:=f) z fs.toList 0 _ A λf G=>by
    obtain⟨i,hi,w⟩:=mem_iff_getElem.1 G;obtain⟨y,B,m⟩:=Mr u (getElem?_eq_getElem hi);rw[w] at m;exact⟨a,y,m,light_each g (j:=i) (by rw[getElem?_map,getElem?_eq_getElem hi,w];rfl)<|by rw[getElem?_map,B];rfl⟩
   rw[drop_zero,List.take_of_length_le<|by omega] at this;exact this
  case array n e=>
   simp only at h;split at h
   case h_2=>cases h
   rename_i l A;split at h
   case isFalse=>cases h
   rename_i r;cases h;cases a with
   | zero=>cases c
   | succ a=>
   unfold DataW.trod at c;rw[o] at c;simp only at c;split at c
   case isFalse=>cases c
   rename_i p;simp only[map_eq_some_iff] at c;obtain⟨xs,u,rfl⟩:=c;have g:∀n∈DataW.weightsAll P e (xs.map (·.1)),n<=reachBytes:=λn r=>q n (by simp only[DataW.weights,o];exact r)
   have v:f=((range n).map λi=>(f.drop<|i*P.cellsOf e).take<|P.cellsOf e).flatten:=by
    have:∀(n:Nat)(f:List Value),f.length=n*P.cellsOf e->f=((range n).map λi=>(f.drop<|i*P.cellsOf e).take<|P.cellsOf e).flatten:=by
     intro n
     induction n with
     | zero=>intro f h;simpa using h
     | succ n z=>
      intro f h;rw[List.range_succ_eq_map];simp only[map_cons,map_map,flatten_cons,Nat.zero_mul,drop_zero]
      conv=>lhs;rw[<- take_append_drop (P.cellsOf e) f]
      congr 1;rw[z (f.drop<|P.cellsOf e)<|by simp[h,add_mul]];congr 1;apply map_congr_left;intro i _;simp only[Function.comp,drop_drop,Nat.succ_mul];rw[Nat.add_comm]
    exact this n f (by rw[p,<- r.2,r.1])
   rw[v];refine VT (by simp) λr E=>?_;simp only[mem_map] at E;obtain⟨i,hi,rfl⟩:=E;obtain⟨j,H,C⟩:=mem_iff_getElem.1 hi;obtain⟨y,B,m⟩:=Mr u (getElem?_eq_getElem H);rw[C] at m;exact z _ _ _ A ⟨a,y,m,Nk g<|mem_map.2 ⟨y,mem_of_getElem? B,rfl⟩⟩
theorem open_slc{t e:TypeId}{v:Value}{d:DataW H}{ps:List MemPlace}{ks:List CK}{r:Reach}{b0:Nat}(F:P.underlying t=some (.slice e))(Q:V4 P 9 e=some ks)(R:P.cellsOf e=ks.length)(S:0<ks.length)
  (q:Value.okWide P W r b0 t v) (hd:DataW.Trod enc P W base sp held t v d ps) (G:Je P t d) :
  ∃(s:Sl) (rows:List (List Value)),v = .slice s.a s.n s.c/\s.n=rows.length/\s.n*P.bytesOf e<=reachBytes/\Ahu W ks.length s rows.flatten/\∀x∈rows,Ew ks x:=by
 obtain⟨a,len,cap,rfl⟩:=okWide_slice F q;obtain⟨Z,I⟩:=hd;rcases DataW.trod_slice F I with⟨h,_⟩|⟨a',aa,ab,k,C,n,rfl,h,J,_,ad,ae,af,D,_,_⟩
 ·simp only[Value.cells,List.cons.injEq,Value.slice.injEq,and_true] at h;obtain⟨rfl,rfl,rfl⟩:=h;exact⟨⟨none,0,0⟩,[],rfl,rfl,by simp,⟨by simp,.inl ⟨rfl,rfl⟩⟩,λ_ A=>by cases A⟩
 ·simp only[Value.cells,List.cons.injEq,Value.slice.injEq,and_true] at h;obtain⟨rfl,rfl,rfl⟩:=h;simp only[Prod.mk.injEq] at J;obtain⟨rfl,rfl⟩:=J;have T:(k.length+C.length)*P.bytesOf e<=reachBytes:=by
   have:=G ((k.length+C.length)*P.bytesOf e) (by simp[DataW.weights,F]);exact this
  have U:∀y∈k,Je P e y.1:=λy K=>Nk (P:=P) (e:=e) (ds:=k.map (·.1)) (λn hn=>G n<|by simp only[DataW.weights,F,mem_cons,mem_append];exact .inr (.inl hn)) (mem_map.2 ⟨y,K,rfl⟩);have u:a'.spot=none:=by
   simp only[Value.okWide,F,Cell.okWide,Cell.ok] at q;exact q.2.2.2.1
  obtain⟨b,o,ac⟩:=a';simp only at u;subst u;have L:∀i,i<len->∃c,W.cells? base (Addr.add ⟨b,o,none⟩<|i*P.cellsOf e) (P.cellsOf e)=some c/\Ew ks c:=by
   intro i hi;have z:=D i hi;rw[getElem?_eq_getElem<|by omega] at z;simp only[bind_eq_some_iff] at z;obtain⟨c,hc,A⟩:=z;exact⟨c,hc,Abz 9 e ks c Q ⟨_,_,A,U _<|getElem_mem _⟩⟩
  have w:∀i,∃c,i<len->W.cells? base (Addr.add ⟨b,o,none⟩<|i*P.cellsOf e) (P.cellsOf e)=some c/\Ew ks c:=by
   intro i
   by_cases hi:i<len
   ·obtain⟨c,hc⟩:=L i hi;exact⟨c,λ_=>hc⟩
   ·exact⟨[],λh=>absurd h hi⟩
  let f:Nat->List Value:=λi=>Classical.choose (w i);have I:∀i,i<len->W.cells? base (Addr.add ⟨b,o,none⟩<|i*P.cellsOf e) (P.cellsOf e)=some (f i)/\Ew ks (f i):=λi hi=>Classical.choose_spec (w i) hi;have M:∀j,Addr.add ⟨b,o,none⟩ j=⟨b,o+j,none⟩:=by
   intro j;unfold Addr.add;split
   ·simp_all
   ·rfl
  have B:∀(i n:Nat)(c:List Value),W.cells? base ⟨b,i,none⟩ n=some c->c.length=n/\∀j,j<n->W.cell? ⟨b,i+j,none⟩=c[j]?:=by
   intro i n c h;unfold World.cells? at h;have h:(range n).mapM (λE=>W.cell?<|Addr.add ⟨b,i,none⟩ E)=some c:=by
    by_cases hb:base<=b
    ·rwa [if_pos hb] at h
    ·rw[if_neg hb] at h;cases h
   have:∀(l:List Nat)(c:List Value),l.mapM (λE=>W.cell?<|Addr.add ⟨b,i,none⟩ E)=some c->c.length=l.length/\∀j (m:j<l.length),W.cell? (Addr.add ⟨b,i,none⟩ l[j])=c[j]?:=by
    intro l
    induction l with
    | nil=>intro c h;simp only[List.mapM_nil,pure_def,Option.some.injEq] at h;subst h;exact⟨rfl,λj m=>by simp at m⟩
    | cons x l N=>
     intro c h;simp only[mapM_cons,bind_eq_bind,pure_def,bind_eq_some_iff] at h;obtain⟨y,K,ys,V,hc⟩:=h;cases hc;obtain⟨z,O⟩:=N ys V;refine⟨by simp[z],λj m=>?_⟩;cases j with
     | zero=>simpa using K
     | succ j=>simpa using O j (by simpa using m)
   obtain⟨z,O⟩:=this _ _ h;refine⟨by simpa using z,λj m=>?_⟩;have:=O j (by simpa using m);simp only[List.getElem_range] at this;rw[<- this];unfold Addr.add;split
   ·simp_all
   ·rfl
  refine⟨⟨some ⟨b,o,none⟩,len,cap⟩,(range len).map f,rfl,by simp,by simp only;exact le_trans (mul_le_mul_right _<|by omega) T,⟨?_,.inr ⟨b,o,rfl,?_⟩⟩,?_⟩
  ·simp only;have:∀(l:List (List Value)),(∀x∈l,x.length=ks.length)->l.flatten.length=l.length*ks.length:=by
    intro l
    induction l with
    | nil=>simp
    | cons x l N=>intro h;simp[N λy K=>h y<|.tail _ K,h x<|.head _,add_mul,Nat.add_comm]
   rw[this]
   ·simp
   ·intro x A;simp only[mem_map,mem_range] at A;obtain⟨i,hi,rfl⟩:=A;exact Ns (I i hi).2
  ·have:∀(n:Nat)(g:Nat->List Value)(p:Nat),(∀i,i<n->(g i).length=ks.length/\∀j,j<ks.length->W.cell? ⟨b,p+i*ks.length+j,none⟩=(g i)[j]?) ->
     ∀j,j<((range n).map g).flatten.length->W.cell? ⟨b,p+j,none⟩=((range n).map g).flatten[j]?:=by
    intro n
    induction n with
    | zero=>intro g p _ j m;simp at m
    | succ n N=>
     intro g p h j m;have hr:(range<|n+1).map g=g 0::(range n).map (g ∘ Nat.succ):=by
      rw[List.range_succ_eq_map];simp
     rw[hr] at m ⊢;simp only[flatten_cons] at m ⊢;obtain⟨h0,X⟩:=h 0 (by omega)
     by_cases Y:j<ks.length
     ·rw[getElem?_append_left<|by omega];simpa using X j Y
     ·rw[getElem?_append_right<|by omega];have:=N (g ∘ Nat.succ) (p+ks.length) (λi hi=>by
       obtain⟨a1,a2⟩:=h (i+1) (by omega);refine⟨a1,λj m=>?_⟩;have:=a2 j m;show _=(g<|i+1)[j]?;rw[<- this];congr 2;rw[add_mul];omega) (j-ks.length) (by simp at m ⊢;omega)
      rw[h0,<- this];congr 2;omega
   refine this len f o λi hi=>?_;obtain⟨z,O⟩:=I i hi;rw[M,R] at z;obtain⟨h3,h4⟩:=B _ _ _ z;exact⟨h3,h4⟩
  ·intro x A;simp only[mem_map,mem_range] at A;obtain⟨i,hi,rfl⟩:=A;exact(I i hi).2
end
theorem law_lifted{H:Type}{enc:TypeId×Value->H}{C:Checked}{o:Os}{f:FuncId}{g:Func}{s:ChangeSpec}{b:List PathCond}{E:TypeId}
  (r:ownKnob C.prog.godebug=none) (c:o.Started) (h:C.prog.inits.idxOf? f=none) (u:C.prog.funcs[f]? = some g)
  (d:∃(w:World) (tape:Tape) (i:Input),w.os=o/\(w.forCall tape i).Shaped C.prog/\i.vars=[]/\Input.okWide C.prog (w.forCall tape i) .any w.heap.size f i /\
   s.pre6 enc C.prog g b false (w.forCall tape i).memory i.args/\({}:Assume).holds C.prog (lone (Frame.enter C.prog f i.args .normal) [] (w.forCall tape i)))
  (x:s.vars=[]) (y:g.resultTypes=#[E]) (K:C.prog.underlying E=some .bool) (z:(g.params.toList.all λt=>JL C.prog 9 t)=true)
  (a:∀(W:World)(base:Nat)(args:Array Value)(ds:List (DataW H))(p:List MemPlace),
   (∀(j:Nat) t v,g.params[j]? = some t->args[j]? = some v->Value.okWide C.prog W .any base t v) ->
   DataW.TrodAll enc C.prog W 0 (λ_=>true) true g.params.toList args.toList ds p ->
   (∀n∈DataW.weightsEach C.prog g.params.toList ds,n<=reachBytes) ->
   ((s.fn H ds).results=[.lit<|.bool true]/\(s.fn H ds).args=ds/\(s.fn H ds).vars=[]) /\
   Calls C.prog f args W λe F=>e = .returned (.bool true)/\Be W F) :
  ReturnsInHanded {} C o f .any (s.pre6 enc C.prog g b false) (s.post enc C.prog g false true false false):=by
 refine returnsInHanded_of_change_sized r c h u d ?_;intro W base args ds G m k I _ l _;have A:=I;obtain⟨p,q,hA,J,rfl,_,_⟩:=I;have B:G=[]:=by
  rw[x] at J;cases G with
  | nil=>rfl
  | cons _ _=>exact J.elim
 subst B;have D:s.plain.varTypes C.prog=[]:=by
  unfold DataSpec.varTypes;rw[show s.plain.vars=s.vars from rfl,x];rfl
 obtain⟨L,M⟩:=a W base args ds p k hA (by
  intro n N;rw[D,append_nil,append_nil] at l;simpa using List.all_eq_true.1 l n N)
 refine M.mono λe F ⟨O,P⟩=>⟨_,O,?_⟩;exact Avp x y K z A (by simpa using L) P
end Go.Hb
namespace Go.Hb
theorem A7{k:CK}{b o:Nat}{K:k.ty->WP}{w:World}(h:ld k b o K w):ld k b o K w:=h
theorem Cm{k:CK}{b o:Nat}{S:World->Prop}{K:k.ty->WP}{w:World}(h:TK S k b o K w):TK S k b o K w:=h
theorem Bv{b o:Nat}{v:Value}{K:WP}{w:World}(h:st b o v K w):st b o v K w:=h
theorem BI{a:OA}{n:Nat}{i:Int}{K:Nat->Nat->WP}{w:World}(h:CU a n i K w):CU a n i K w:=h
theorem Dd{cs:List Value}{T:TypeId}{K:Nat->WP}{w:World}(h:Az cs T K w):Az cs T K w:=h
theorem Bk{b:Bool}{S:World->Prop}{K:WP}{w:World}(h:Al b S K w):Al b S K w:=h
theorem RY{c:Prop}{K:WP}{w:World}(h:AV c K w):AV c K w:=h
theorem E0{K:(World->Prop)->WP}{w:World}(h:A5 K w):A5 K w:=h
def Ap.nat:Ap Nat:=⟨1,λn=>[.i (n:Int)],λ_=>rfl⟩
section
variable{L:List HP}{F:HP->List HP}{b:Nat}{s:Sl}{W W0 w:World}
variable{α:Type}[Inhabited α]{E:Ap α}{rows:List α}
section
variable{o i n j1 j2 j3 j4 j5:Nat}{k:CK}{x:k.ty}{K:k.ty->WP}
theorem Cx(h:Ab W0 w L)[hA:At L b (reca E b o s rows) F](a:K x w)(hi:i<rows.length:=by first|omega|(simp only[List.length_set,List.length_append,List.length_cons,List.length_nil,List.length_take,List.length_drop,List.length_map,Int.toNat_natCast] <;> omega)|fail)(hc:(E.cells<|rows.getD i default)[0]? = some (k.val x):=by exact rfl)(c:n=E.sz:=by exact rfl)(d:k ≠ .any:=by simp):ld k b (o+i*n) K w:=
 Avs (hA:=hA) h (by rw[c];rfl) hi hc a d
theorem Fy(h:Ab W0 w L)[hA:At L b (reca E b o s rows) F](a:K x w)(hi:i<rows.length:=by first|omega|(simp only[List.length_set,List.length_append,List.length_cons,List.length_nil,List.length_take,List.length_drop,List.length_map,Int.toNat_natCast] <;> omega)|fail)(hc:(E.cells<|rows.getD i default)[j1]? = some (k.val x):=by exact rfl)(c:n=E.sz:=by exact rfl)(d:k ≠ .any:=by simp):ld k b (o+i*n+j1) K w:=
 Avs (hA:=hA) h (by rw[c];omega) hi hc a d
theorem O1(h:Ab W0 w L)[hA:At L b (reca E b o s rows) F](a:K x w)(hi:i<rows.length:=by first|omega|(simp only[List.length_set,List.length_append,List.length_cons,List.length_nil,List.length_take,List.length_drop,List.length_map,Int.toNat_natCast] <;> omega)|fail)(hc:(E.cells<|rows.getD i default)[j1+j2]? = some (k.val x):=by exact rfl)(c:n=E.sz:=by exact rfl)(d:k ≠ .any:=by simp):ld k b (o+i*n+j1+j2) K w:=
 Avs (hA:=hA) h (by rw[c];omega) hi hc a d
theorem Acg(h:Ab W0 w L)[hA:At L b (reca E b o s rows) F](a:K x w)(hi:i<rows.length:=by first|omega|(simp only[List.length_set,List.length_append,List.length_cons,List.length_nil,List.length_take,List.length_drop,List.length_map,Int.toNat_natCast] <;> omega)|fail)(hc:(E.cells<|rows.getD i default)[j1+j2+j3]? = some (k.val x):=by exact rfl)(c:n=E.sz:=by exact rfl)(d:k ≠ .any:=by simp):ld k b (o+i*n+j1+j2+j3) K w:=
 Avs (hA:=hA) h (by rw[c];omega) hi hc a d
theorem Bcl(h:Ab W0 w L)[hA:At L b (reca E b o s rows) F](a:K x w)(hi:i<rows.length:=by first|omega|(simp only[List.length_set,List.length_append,List.length_cons,List.length_nil,List.length_take,List.length_drop,List.length_map,Int.toNat_natCast] <;> omega)|fail)(hc:(E.cells<|rows.getD i default)[j1+j2+j3+j4]? = some (k.val x):=by exact rfl)(c:n=E.sz:=by exact rfl)(d:k ≠ .any:=by simp):ld k b (o+i*n+j1+j2+j3+j4) K w:=
 Avs (hA:=hA) h (by rw[c];omega) hi hc a d
theorem Avq{e:List HP}{f:HP->List HP}{c:List α}{w':World}{p j:Nat}(h:Ab W0 w' e)[hB:At e b (reca E b o s c) f][hA:K5 L s (recs E s rows) F](g:p=o+(i*E.sz+j))(hi:i<rows.length)(hc:(E.cells<|rows.getD i default)[j]? = some (k.val x))(l:K x w) :
  TK (λw'=>Ab W0 w' L) k b p K w:=by
 have m:s.a=some ⟨b,o,none⟩:=At.one (hA:=hB) h λ_ h _=>h.pure (q:=0) rfl λ_ d=>d.1;subst g;refine HF x (λw' h=>K5.one (hA:=hA) h λ_ h _=>?_) l;have n:=h.turn (q:=0) (p':=reca E b o s rows) rfl λ_ d=>⟨m,d⟩;exact(Wh n (getD_some hi)<|by rw[<- E.len (rows.getD i default)];exact(List.getElem?_eq_some_iff.1 hc).1).trans hc
theorem Ajv{c:List HP}{d:HP->List HP}{a:List α}{w':World}(h:Ab W0 w' c)[hB:At c b (reca E b o s a) d][hA:K5 L s (recs E s rows) F](e:K x w)(hi:i<rows.length:=by first|omega|(simp only[List.length_set,List.length_append,List.length_cons,List.length_nil,List.length_take,List.length_drop,List.length_map,Int.toNat_natCast] <;> omega)|fail)(hc:(E.cells<|rows.getD i default)[0]? = some (k.val x):=by exact rfl)(f:n=E.sz:=by exact rfl) :
  TK (λw'=>Ab W0 w' L) k b (o+i*n) K w:=Avq (hA:=hA) (hB:=hB) h (j:=0) (by rw[f];rfl) hi hc e
theorem A43{c:List HP}{d:HP->List HP}{a:List α}{w':World}(h:Ab W0 w' c)[hB:At c b (reca E b o s a) d][hA:K5 L s (recs E s rows) F](e:K x w)(hi:i<rows.length:=by first|omega|(simp only[List.length_set,List.length_append,List.length_cons,List.length_nil,List.length_take,List.length_drop,List.length_map,Int.toNat_natCast] <;> omega)|fail)(hc:(E.cells<|rows.getD i default)[j1]? = some (k.val x):=by exact rfl)(f:n=E.sz:=by exact rfl) :
  TK (λw'=>Ab W0 w' L) k b (o+i*n+j1) K w:=Avq (hA:=hA) (hB:=hB) h (j:=j1) (by rw[f];omega) hi hc e
end
section
variable{o i n j1 j2 j3:Nat}{v:Value}{a':α}{K:WP}
theorem A7e(h:Ab W0 w L)[hA:At L b (reca E b o s rows) F][a:Aeh E (rows.getD i default) 0 v a']
  (c:∀w',Ab W0 w' (F<|reca E b o s<|rows.set i a')->K w') (hi:i<rows.length:=by first|omega|(simp only[List.length_set,List.length_append,List.length_cons,List.length_nil,List.length_take,List.length_drop,List.length_map,Int.toNat_natCast] <;> omega)|fail) (d:n=E.sz:=by exact rfl):st b (o+i*n) v K w:=
 Ba4 (hA:=hA) h (by rw[d];rfl) hi a.eq a.lt c
theorem Axh(h:Ab W0 w L)[hA:At L b (reca E b o s rows) F][a:Aeh E (rows.getD i default) j1 v a']
  (c:∀w',Ab W0 w' (F<|reca E b o s<|rows.set i a')->K w') (hi:i<rows.length:=by first|omega|(simp only[List.length_set,List.length_append,List.length_cons,List.length_nil,List.length_take,List.length_drop,List.length_map,Int.toNat_natCast] <;> omega)|fail) (d:n=E.sz:=by exact rfl):st b (o+i*n+j1) v K w:=
 Ba4 (hA:=hA) h (by rw[d];omega) hi a.eq a.lt c
end
class N2{α:Type}(E:Ap α)(vs:List Value)(a:outParam α):Prop where
 eq:E.cells a=vs
section
variable{o i n:Nat}{a':α}{K:WP}
theorem Y7{a c d:Value}(h:Ab W0 w L)[hA:At L b (reca E b o s rows) F][hR:N2 E [a,c,d] a']
  (e:∀w',Ab W0 w' (F<|reca E b o s<|rows.set i a')->K w') (hi:i<rows.length:=by first|omega|(simp only[List.length_set,List.length_append,List.length_cons,List.length_nil,List.length_take,List.length_drop,List.length_map,Int.toNat_natCast] <;> omega)|fail) (f:n=E.sz:=by exact rfl):st b (o+i*n) a (st b (o+i*n+1) c<|st b (o+i*n+1+1) d<|K) w:=
 Ag9 (hA:=hA) h hi hR.eq (by rw[f]) e rfl
theorem Gx{a c d e:Value}(h:Ab W0 w L)[hA:At L b (reca E b o s rows) F][hR:N2 E [a,c,d,e] a']
  (f:∀w',Ab W0 w' (F<|reca E b o s<|rows.set i a')->K w') (hi:i<rows.length:=by first|omega|(simp only[List.length_set,List.length_append,List.length_cons,List.length_nil,List.length_take,List.length_drop,List.length_map,Int.toNat_natCast] <;> omega)|fail) (g:n=E.sz:=by exact rfl):st b (o+i*n) a (st b (o+i*n+1) c<|st b (o+i*n+1+1) d<|st b (o+i*n+1+1+1) e<|K) w:=
 Ag9 (hA:=hA) h hi hR.eq (by rw[g]) f rfl
theorem Y8{a c d e f:Value}(h:Ab W0 w L)[hA:At L b (reca E b o s rows) F][hR:N2 E [a,c,d,e,f] a']
  (g:∀w',Ab W0 w' (F<|reca E b o s<|rows.set i a')->K w') (hi:i<rows.length:=by first|omega|(simp only[List.length_set,List.length_append,List.length_cons,List.length_nil,List.length_take,List.length_drop,List.length_map,Int.toNat_natCast] <;> omega)|fail) (j:n=E.sz:=by exact rfl):st b (o+i*n) a (st b (o+i*n+1) c<|st b (o+i*n+1+1) d<|st b (o+i*n+1+1+1) e<|st b (o+i*n+1+1+1+1) f<|K) w:=
 Ag9 (hA:=hA) h hi hR.eq (by rw[j]) g rfl
end
instance Aeh.int{k:IntKind}{a n:Int}:Aeh (Ap.int k) a 0 (.int k n) n:=⟨rfl,one_pos⟩
theorem Ao0(b o k:Nat):Addr.add ⟨b,o,none⟩ k=⟨b,o+k,none⟩:=by
 unfold Addr.add;split
 ·simp_all
 ·rfl
theorem Bb4{lo hi c:Nat}{a:OA}(h:Ab W0 w L)[hA:K5 L s (recs E s rows) F](r:a=Jk s.a lo c E.sz)(t:lo<=hi)(u:hi<=rows.length)(hc:c=s.c)(f:0<E.sz) :
  Ab W0 w (F<|recs E ⟨a,hi-lo,c-lo⟩<|(rows.drop lo).take<|hi-lo):=by
 have z:=BE (hA:=hA) h f;refine K5.one (hA:=hA) h λM h v=>v _ _ (h.turn (q:=0) rfl λg x=>?_);subst r hc;obtain⟨⟨A,B⟩,y⟩:=x;refine⟨⟨?_,?_⟩,?_⟩
 ·rw[Ap.flat_length];simp only[length_take,List.length_drop];congr 1;omega
 ·simp only;omega
 rcases y with⟨i,l,k⟩|⟨b,o,pre,tl,i,l,k,C⟩
 ·left;refine⟨?_,?_,?_⟩
  ·simp only;unfold Jk;split
   ·exact i
   ·rw[i];rfl
  ·simp only;omega
  ·simp only;omega
 ·right;have d:rows=rows.take lo++((rows.drop lo).take (hi-lo)++rows.drop hi):=by
   conv=>lhs;rw[<- take_append_drop lo rows]
   congr 1
   conv=>lhs;rw[<- take_append_drop (hi-lo) (rows.drop lo)]
   rw[drop_drop];congr 2;omega
  have m:E.flat rows=E.flat (rows.take lo)++(E.flat ((rows.drop lo).take<|hi-lo)++E.flat (rows.drop hi)):=by
   rw[<- Ap.flat_append,<- Ap.flat_append];exact congrArg E.flat d
  have e:(s.c-lo-(hi-lo))*E.sz<=(E.flat (rows.drop hi)++tl).length:=by
   rw[length_append,Ap.flat_length,List.length_drop];have:(s.c-lo-(hi-lo))*E.sz=(rows.length-hi)*E.sz+(s.c-s.n)*E.sz:=by rw[<- add_mul];congr 1;omega
   omega
  by_cases p:s.c=lo
  ·
   have j:lo=hi:=by omega
   have D:rows.length=lo:=by omega
   refine⟨b,o,pre,E.flat rows++tl,?_,l,?_,?_⟩
   ·show Jk s.a lo s.c E.sz=_;unfold Jk;rw[if_pos p];exact i
   ·have:(rows.drop lo).take (hi-lo)=[]:=by rw[j,Nat.sub_self,List.take_zero]
    show Hb.blk b (pre++E.flat ((rows.drop lo).take<|hi-lo)++(E.flat rows++tl)) g;rw[this,Ap.flat_nil,append_nil,<- append_assoc];exact k
   ·have:s.c-lo-(hi-lo)=0:=by omega
    show(s.c-lo-(hi-lo))*E.sz<=_;rw[this,Nat.zero_mul];exact Nat.zero_le _
  ·refine⟨b,o+lo*E.sz,pre++E.flat (rows.take lo),E.flat (rows.drop hi)++tl,?_,?_,?_,e⟩
   ·show Jk s.a lo s.c E.sz=_;unfold Jk;rw[if_neg p,i]
    simp only[map_some,Option.some.injEq];exact Ao0 _ _ _
   ·rw[length_append,l,Ap.flat_length,length_take,min_eq_left<|by omega]
   ·show Hb.blk b (pre++E.flat (rows.take lo)++E.flat ((rows.drop lo).take<|hi-lo)++(E.flat (rows.drop hi)++tl)) g;rw[m] at k;simpa[append_assoc] using k
end
end Go.Hb
namespace Go.Hb
class BZ(W:World)(s:Sl){α:outParam Type}(E:outParam (Ap α))(rows:outParam (List α)):Prop where
 len:s.n=rows.length
 at_:(s.a=none/\s.n=0)\/∃b o,s.a=some ⟨b,o,none⟩/\∀i j a,rows[i]? = some a->j<E.sz->W.cell? ⟨b,o+(i*E.sz+j),none⟩=(E.cells a)[j]?
theorem BZ.of{W:World}{s:Sl}{m:Type}{E:Ap m}{rows:List m}(c:0<E.sz)(h:Ahu W E.sz s (E.flat rows)):BZ W s E rows:=by
 have f:s.n=rows.length:=by
  have:=h.1;rw[Ap.flat_length] at this;exact(Nat.eq_of_mul_eq_mul_right c this).symm
 refine⟨f,?_⟩;rcases h.2 with d|⟨b,o,d,g⟩
 ·exact .inl d
 ·refine .inr ⟨b,o,d,λi j a e k=>?_⟩;have l:=(List.getElem?_eq_some_iff.1 e).1;rw[g (i*E.sz+j) (by rw[Ap.flat_length];calc _<i*E.sz+E.sz:=by omega
   _=(i+1)*E.sz:=by rw[add_mul,one_mul]
   _<=_:=mul_le_mul_right _ (by omega)),Ap.flat_get e k]
class TA(W0:World)(L:List HP)(s:Sl){α:outParam Type}(E:outParam (Ap α))(rows:outParam (List α)):Prop where
 rd:∀w,Ab W0 w L->BZ w s E rows
section
variable{L:List HP}{F:HP->List HP}{b:Nat}{s:Sl}{W W0 w:World}
section
variable{α:Type}{E:Ap α}{rows:List α}
class HQ{α:Type}(E:Ap α):Prop where
 pos:0<E.sz
instance {k:IntKind}:HQ (Ap.int k):=⟨one_pos⟩
instance:HQ Ap.str:=⟨one_pos⟩
instance:HQ Ap.nat:=⟨one_pos⟩
instance TA.recs[hA:K5 L s (recs E s rows) F][c:HQ E]:TA W0 L s E rows:=⟨λw h=>by
 refine K5.one (hA:=hA) h λM h _=>BZ.of c.pos ?_;refine⟨(IY (q:=0) h rfl).1,?_⟩;obtain⟨g,i,⟨j,k⟩,d⟩:=h.get (q:=0) rfl;rcases d with⟨a,e,_⟩|⟨b,o,pre,tl,a,_⟩
 ·exact .inl ⟨a,e⟩
 ·exact .inr ⟨b,o,a,λj f=>Tf (q:=0) h rfl a f⟩⟩
instance TA.old[hA:AtO L W][d:BZ W s E rows]:TA W0 L s E rows:=⟨λw h=>by
 obtain⟨M,g⟩:=hA.pos;have k:=h.perm g;refine⟨d.len,?_⟩;rcases d.at_ with c|⟨b,o,c,l⟩
 ·exact .inl c
 ·refine .inr ⟨b,o,c,λi j a m e=>?_⟩;have f:=l i j a m e;rw[getElem?_eq_getElem<|by rw[E.len];exact e] at f ⊢
  exact k.cell_old (q:=0) rfl f⟩
theorem BS(h:Ab W0 w L)[hR:TA W0 L s E rows]:s.n=rows.length:=(hR.rd w h).len
theorem CO{i:Int}{K:Nat->Nat->WP}(h:Ab W0 w L)[hR:TA W0 L s E rows](d:∀b o,s.a=some ⟨b,o,none⟩->K b o w)(e:0<=i:=by first|omega|(simp only[List.length_set,List.length_append,List.length_cons,List.length_nil,List.length_take,List.length_drop,List.length_map,Int.toNat_natCast] <;> omega)|fail)(f:i<(s.n:Int):=by first|omega|(simp only[List.length_set,List.length_append,List.length_cons,List.length_nil,List.length_take,List.length_drop,List.length_map,Int.toNat_natCast] <;> omega)|fail):CU s.a s.n i K w:=by
 rcases(hR.rd w h).at_ with⟨_,c⟩|⟨b,o,c,_⟩
 ·omega
 ·exact⟨b,o,c,⟨e,f⟩,d b o c⟩
theorem GT(h:Ab W0 w L)[hR:TA W0 L s E rows]:H3 w s.a (s.n*E.sz)=some (E.flat rows):=by
 have e:=hR.rd w h;rw[e.len];rcases e.at_ with⟨f,g⟩|⟨b,o,f,g⟩
 ·have:rows=[]:=length_eq_zero_iff.1 (by rw[<- e.len];exact g);rw[f,this];rfl
 ·rw[f,<- Ap.flat_length];refine Yz (E.flat rows) o λj i=>?_;rw[Ap.flat_length] at i;have c:0<E.sz:=Nat.pos_of_ne_zero λh=>by rw[h] at i;omega
  have m:=Nat.div_add_mod j E.sz;have hi:j / E.sz<rows.length:=(Nat.div_lt_iff_lt_mul c).2 i;have k:=mod_lt j c;have l:=g (j / E.sz) (j % E.sz) rows[j / E.sz] (getElem?_eq_getElem hi) k;have d:j / E.sz*E.sz+j % E.sz=j:=by rw[Nat.mul_comm];exact m
  rw[d] at l;rw[l,<- Ap.flat_get (getElem?_eq_getElem hi) k,d]
end
section
variable{α:Type}[Inhabited α]{E:Ap α}{rows:List α}
theorem A5r{b o i j:Nat}(hR:BZ w s E rows)(c:s.a=some ⟨b,o,none⟩)(hi:i<rows.length)(e:j<E.sz):w.cell? ⟨b,o+(i*E.sz+j),none⟩=(E.cells<|rows.getD i default)[j]?:=by
 rcases hR.at_ with⟨d,_⟩|⟨b',g,d,f⟩
 ·rw[d] at c;cases c
 ·rw[d] at c;cases c
  exact f i j _ (getD_some hi) e
theorem A63{b o i j p:Nat}{k:CK}{x:k.ty}{K:k.ty->WP}(c:s.a=some ⟨b,o,none⟩)(h:Ab W0 w L)[hR:TA W0 L s E rows](d:p=o+(i*E.sz+j))(hi:i<rows.length)
  (hc:(E.cells<|rows.getD i default)[j]? = some (k.val x)) (e:K x w) (f:k ≠ .any:=by simp):ld k b p K w:=by
 subst d;exact Mm ((A5r (hR.rd w h) c hi<|by rw[<- E.len (rows.getD i default)];exact(List.getElem?_eq_some_iff.1 hc).1).trans hc) f e
section
variable{o i n j1 j2 j3 j4:Nat}{k:CK}{x:k.ty}{K:k.ty->WP}
theorem Dh(c:s.a=some ⟨b,o,none⟩)(h:Ab W0 w L)[hR:TA W0 L s E rows](d:K x w)(hi:i<rows.length:=by first|omega|(simp only[List.length_set,List.length_append,List.length_cons,List.length_nil,List.length_take,List.length_drop,List.length_map,Int.toNat_natCast] <;> omega)|fail)(hc:(E.cells<|rows.getD i default)[0]? = some (k.val x):=by exact rfl)(e:n=E.sz:=by exact rfl)(f:k ≠ .any:=by simp):ld k b (o+i*n) K w:=
 A63 (hR:=hR) c h (j:=0) (by rw[e];rfl) hi hc d f
theorem Agm(c:s.a=some ⟨b,o,none⟩)(h:Ab W0 w L)[hR:TA W0 L s E rows](d:K x w)(hi:i<rows.length:=by first|omega|(simp only[List.length_set,List.length_append,List.length_cons,List.length_nil,List.length_take,List.length_drop,List.length_map,Int.toNat_natCast] <;> omega)|fail)(hc:(E.cells<|rows.getD i default)[j1]? = some (k.val x):=by exact rfl)(e:n=E.sz:=by exact rfl)(f:k ≠ .any:=by simp):ld k b (o+i*n+j1) K w:=
 A63 (hR:=hR) c h (j:=j1) (by rw[e];omega) hi hc d f
end
end
end
section
variable{L:List HP}{F:HP->List HP}{b:Nat}{s:Sl}{W W0 w:World}{α:Type}{E:Ap α}{rows:List α}
theorem Ab.blkS{cs:List Value}{n:Nat}(E:Ap α)(rows:List α)[hA:At L b (blk b cs) F](h:Ab W0 w L)(hc:E.flat rows=cs)(a:rows.length=n):Ab W0 w (F<|Hb.recs E ⟨some ⟨b,0,none⟩,n,n⟩ rows):=
 At.turn (hA:=hA) h λg c=>by
  subst hc a;exact⟨⟨by rw[Ap.flat_length],Nat.le_refl _⟩,.inr ⟨b,0,[],[],rfl,rfl,by simpa using c,by simp⟩⟩
theorem Ab.nilR(E:Ap α)(h:Ab W0 w L):Ab W0 w (Hb.recs E ⟨none,0,0⟩ []::L):=Bdm h
end
class OkR{α:Type}(E:Ap α):Prop where
 ok:∀a,Mv (E.cells a)=true
theorem S9:∀{a b:List Value},Mv a=true->Mv b=true->Mv (a++b)=true
 | [],_,_,h=>h
 | v::a,b,h,c=>by cases v <;> first|exact S9 (a:=a) h c|cases h
theorem Dt{b:Type}{E:Ap b}[h:OkR E]:∀(rows:List b),Mv (E.flat rows)=true
 | []=>rfl
 | a::rows=>S9 (h.ok a) (Dt rows)
instance:OkR Ap.str:=⟨λ_=>rfl⟩
instance {k:IntKind}:OkR (Ap.int k):=⟨λ_=>rfl⟩
theorem CC{a:Type}[Inhabited a]{l:List a}{i:Nat}(h:i<l.length):l.take (i+1)=l.take i++[l.getD i default]:=by
 rw[List.take_add_one,getD_eq_getElem?_getD,getElem?_eq_getElem h];rfl
theorem Y5(a b:BA):sEq a b=decide (a=b):=by
 unfold sEq;rw[Bool.eq_iff_iff,beq_iff_eq,decide_eq_true_eq,ByteArray.toList_eq,ByteArray.toList_eq];constructor
 ·intro h;exact ByteArray.ext (toList_inj.1 h)
 ·rintro rfl;rfl
section
variable{K M:WP}{w:World}{a b:Int}
theorem D5(c:a<b->K w)(d:¬a<b->M w):Aj (decide<|a<b) K M w:=As (λh=>c<|of_decide_eq_true h) λh=>d (of_decide_eq_false h)
theorem A4u(c:b<a->K w)(d:¬b<a->M w):Aj (decide<|a>b) K M w:=As (λh=>c<|of_decide_eq_true h) λh=>d (of_decide_eq_false h)
theorem Cc(c:a=b->K w)(d:¬a=b->M w):Aj (a==b) K M w:=As (λh=>c<|by simpa using h) λh=>d (by simpa using h)
theorem A4v(c:¬a=b->K w)(d:a=b->M w):Aj (a != b) K M w:=As (λh=>c<|by simpa using h) λh=>d (by simpa using h)
theorem EH{c:Prop}[Decidable c](a:c->K w)(b:¬c->M w):Aj (decide c) K M w:=As (λh=>a<|of_decide_eq_true h) λh=>b (of_decide_eq_false h)
theorem Mc{c:Type}{o:Option c}(a:∀x,o=some x->K w)(b:o=none->M w):Aj o.isSome K M w:=by
 cases o with
 | none=>exact b rfl
 | some x=>exact a x rfl
end
end Go.Hb
namespace Go.Hb
def DO(b:Nat)(o:Obj):HP:=λh=>h b=some o
section
variable{W0 w:World}{L M:List HP}{b:Nat}
theorem Ab.swapC{w':World}{o f:Obj}(h:Ab W0 w (DO b o::L))(j:w'.os=w.os)(k:w'.output=w.output)(l:w'.heap[b]? = some f)(m:∀x y,x≠b->w.heap[x]? = some y->w'.heap[x]? = some y) :
  Ab W0 w' (DO b f::L):=by
 obtain⟨i,n,q,g,hc,e,p⟩:=h.st;refine⟨j.trans h.os,k.trans h.out,λx=>if x=b then some f else none,n,λx y d=>?_,λx y d=>?_,λx=>?_,by simp[DO],p⟩
 ·simp only at d;split at d
  ·rename_i a;subst a;cases d;exact l
  ·cases d
 ·have a:x≠b:=by
   intro a;subst a
   rcases hc x with c|c
   ·have e:i x=some o:=e;rw[e] at c;cases c
   ·rw[d] at c;cases c
  exact m x y a (g _ _ d)
 ·simp only
  by_cases a:x=b
  ·subst a;rcases hc x with c|c
   ·have e:i x=some o:=e;rw[e] at c;cases c
   ·exact .inr c
  ·left;rw[if_neg a]
theorem Ab.allocC{o:Obj}(h:Ab W0 w L):Ab W0 (w.alloc o) (DO w.heap.size o::L):=by
 have c:EY (D4 w) (D4<|w.alloc o):=by
  intro x y b;simp only[D4,World.alloc,Array.getElem?_push] at b ⊢;have d:x<w.heap.size:=(Array.getElem?_eq_some_iff.1 b).1;rw[if_neg<|by omega];exact b
 refine⟨h.os,h.out,λx=>if x=w.heap.size then some o else none,D4 w,λx y b=>?_,c,λx=>?_,by simp[DO],h.st⟩
 ·simp only at b;split at b
  ·rename_i a;subst a;cases b;show(w.heap.push _)[w.heap.size]? = _;simp
  ·cases b
 ·simp only
  by_cases a:x=w.heap.size
  ·right;subst a;simp[D4]
  ·left;rw[if_neg a]
theorem Ab.objC{o:Obj}(h:Ab W0 w (DO b o::M)):w.heap[b]? = some o:=by
 obtain⟨g,a,c⟩:=h.get (q:=0) rfl;exact a _ _ c
def chn(c cap:Nat)(buf:List Value):HP:=Ly λ(z:Nat×Nat)=>DO c (.chan cap buf.toArray false z.1 z.2 false)
theorem L7{c cap:Nat}{buf:List Value}(h:Ab W0 w (chn c cap buf::M)):∃s r,Ab W0 w (DO c (.chan cap buf.toArray false s r false)::M):=by
 obtain⟨⟨s,r⟩,h⟩:=h.openE;exact⟨s,r,h⟩
theorem Eb{c cap s r:Nat}{buf:List Value}(h:Ab W0 w (DO c (.chan cap buf.toArray false s r false)::M)):Ab W0 w (chn c cap buf::M):=Ab.shutE (s,r) h
end
end Go.Hb
namespace Go.Hb
section
variable{W0 w:World}{L M:List HP}{b:Nat}
theorem PF{c cap s r s' r':Nat}{B B':Array Value}(h:Ab W0 w (DO c (.chan cap B false s r false)::M)):Ab W0 (w.setChan c cap B' false s' r' false) (DO c (.chan cap B' false s' r' false)::M):=by
 have b:=h.objC;have a:c<w.heap.size:=(Array.getElem?_eq_some_iff.1 b).1;refine h.swapC rfl rfl ?_ (λx y d e=>?_)
 ·simp[World.setChan,a]
 ·simp only[World.setChan];rw[Array.getElem?_setIfInBounds_ne<|Ne.symm d];exact e
end
end Go.Hb
namespace Go.Proofs.YtjipofkjmmpjdaaGreat
open Go.Conc Go.RowKit Go.Hb
set_option maxRecDepth 100000 in
theorem Awe{b o:Nat}(w:World)(h:w.cell? ⟨b,o+4,none⟩=some (.bool true)):Calls PR 200 #[pq b o] w λe w'=>e = .returned (.bool true)/\w'=w:=by
 refine calls_of_loneTo λcs=>?_;have e:Frame.enter PR 200 #[pq b o] .normal=(base 200).at ⟨#[pq b o,undef,undef,undef,undef,undef,undef,undef,undef,undef,undef,undef,undef,undef,undef,undef,undef,undef,undef,undef,undef,undef,undef,undef,undef],[]⟩ [.code<|f200.body.getD .skip]:=by
  simp[Frame.enter,Frame.at,func200,base,f200]
 rw[e];refine LoneTo.goes (n:=18) ?_;simp only[f200,Option.getD_some]
 s_c stepG_seq
 s_reg
 s_op
 s_c stepG_region_end
 s_c stepG_seq
 s_c stepG_seq
 s_reg
 s_op
 s_op
 s_op
 s_op
 s_c stepG_region_end
 s_cond true
 s_c stepG_seq
 s_reg
 s_op
 s_c stepG_region_end
 s_c stepG_ret'
 s_stop
 refine LoneTo.done ⟨.returned<|.bool true,_,rfl,⟨rfl,?_⟩,rfl,rfl,rfl,rfl,_,func200,by simp[results,f200,Frame.at]⟩;rfl
set_option maxRecDepth 100000 in
theorem Anc{b o c cap s r:Nat}{tm:Bool}(w:World)(h:w.cell? ⟨b,o+4,none⟩=some (.bool false))(a:w.cell? ⟨b,o,none⟩=some (.chan<|some c))(hc:w.heap[c]? = some (.chan cap #[] false s r tm)):Calls PR 200 #[pq b o] w λe w'=>e = .returned (.bool false)/\w'=w:=by
 refine calls_of_loneTo λcs=>?_;have e:Frame.enter PR 200 #[pq b o] .normal=(base 200).at ⟨#[pq b o,undef,undef,undef,undef,undef,undef,undef,undef,undef,undef,undef,undef,undef,undef,undef,undef,undef,undef,undef,undef,undef,undef,undef,undef],[]⟩ [.code<|f200.body.getD .skip]:=by
  simp[Frame.enter,Frame.at,func200,base,f200]
 rw[e];refine LoneTo.goes (n:=24) ?_;simp only[f200,Option.getD_some]
 s_c stepG_seq
 s_reg
 s_op
 s_c stepG_region_end
 s_c stepG_seq
 s_c stepG_seq
 s_reg
 s_op
 s_op
 s_op
 s_op
 s_c stepG_region_end
 s_cond false
 s_c stepG_skip
 s_c stepG_seq
 s_c stepG_seq
 s_reg
 s_op
 s_op
 s_op
 s_op
 s_c stepG_region_end
 s_c stepG_seq
 s_reg
 s_stop
 refine LoneTo.step (step_lone_select_default (c:=c) (z:=(.agg #[.i 0,.string ⟨#[]⟩,.i 0])) (cap:=cap) (s:=s) (r:=r) (tm:=tm) (stepG_comm (cases:=#[rcase c<|.agg #[.i 0,.string ⟨#[]⟩,.i 0]]) (blocking:=false) (shape:=.select) (w':=w) rfl rfl (by decide)<|by simp[go_sem,execOp,rcase,Act.eval]) hc) ?_;rw[Frame.finish_at]
 walk_nrm
 refine LoneTo.goes (n:=18) ?_
 s_op
 s_op
 s_c stepG_region_end
 s_c stepG_block
 s_cond false
 s_c stepG_skip
 s_c stepG_inBlock
 s_c stepG_seq
 s_reg
 s_op
 s_op
 s_op
 s_op
 s_op
 s_c stepG_region_end
 s_c stepG_ret'
 s_stop
 refine LoneTo.done ⟨.returned<|.bool false,_,rfl,⟨rfl,?_⟩,rfl,rfl,rfl,rfl,_,func200,by simp[results,f200,Frame.at]⟩;rfl
def MG(cs:List Value)(o:Nat)(k:Int)(key:BA)(n:Int):List Value:=(((cs.set (o+1)<|.i k).set (o+1+1)<|.string key).set (o+1+1+1)<|.i n).set (o+4) (.bool true)
set_option maxRecDepth 100000 in
theorem Ane{W w:World}{L:List HP}{b o c cap s r:Nat}{k n:Int}{key:BA}{cs buf:List Value}(K:o+5<=cs.length)(h:cs[o+4]? = some (.bool false))(u:cs[o]? = some (.chan<|some c))
  (hs:Ab W w (DO c (.chan cap (.agg #[.i k,.string key,.i n]::buf).toArray false s r false)::blk b cs::L)):Calls PR 200 #[pq b o] w λe w'=>e = .returned (.bool true)/\Ab W w' (DO c (.chan cap buf.toArray false s (r+1) false)::blk b (MG cs o k key n)::L):=by
 have hc:=hs.objC;have h:=(hs.cell (q:=1) rfl).trans h;have u:=(hs.cell (q:=1) rfl).trans u;have a:=PF (s':=s) (r':=r+1) (B':=buf.toArray) hs;generalize p:w.setChan c cap buf.toArray false s (r+1) false=x at *;have y:x.cell? ⟨b,o+1,none⟩=some cs[o+1]:=(a.cell (q:=1) rfl).trans (getElem?_eq_getElem<|by omega);have A:=a.frozen (q:=1) (b:=b) (o:=o+1) rfl (by omega);have d:=a.set (q:=1) (b:=b) (o:=o+1) (v:=.i k) rfl;have B:=(d.cell (q:=1) rfl).trans (getElem?_eq_getElem<|show o+1+1<_ by simp;omega)
 have C:=d.frozen (q:=1) (b:=b) (o:=o+1+1) rfl (by simp;omega);have f:=d.set (q:=1) (b:=b) (o:=o+1+1) (v:=.string key) rfl;have D:=(f.cell (q:=1) rfl).trans (getElem?_eq_getElem<|show o+1+2<_ by simp;omega)
 have E:=f.frozen (q:=1) (b:=b) (o:=o+1+2) rfl (by simp;omega);have g:=f.set (q:=1) (b:=b) (o:=o+1+2) (v:=.i n) rfl;have F:=(g.cell (q:=1) rfl).trans (getElem?_eq_getElem<|show o+4<_ by simp;omega)
 have G:=g.frozen (q:=1) (b:=b) (o:=o+4) rfl (by simp;omega);have j:=g.set (q:=1) (b:=b) (o:=o+4) (v:=.bool true) rfl;obtain⟨t,l⟩:∃t,(((x.setCell ⟨b,o+1,none⟩<|.i k).setCell ⟨b,o+1+1,none⟩<|.string key).setCell ⟨b,o+1+2,none⟩<|.i n).setCell ⟨b,o+4,none⟩ (.bool true)=t:=⟨_,rfl⟩;rw[l] at j;have H:t.cell? ⟨b,o+4,none⟩=some (.bool true):=(j.cell (q:=1) (o:=o+4) rfl).trans (by rw[getElem?_set_self<|by simp;omega])
 have I:(Value.agg #[.i k,.string key,.i n]::buf).toArray.extract 1 (Value.agg #[.i k,.string key,.i n]::buf).toArray.size=buf.toArray:=by simp
 refine calls_of_loneTo λJ=>?_;have e:Frame.enter PR 200 #[pq b o] .normal=(base 200).at ⟨#[pq b o,undef,undef,undef,undef,undef,undef,undef,undef,undef,undef,undef,undef,undef,undef,undef,undef,undef,undef,undef,undef,undef,undef,undef,undef],[]⟩ [.code<|f200.body.getD .skip]:=by
  simp[Frame.enter,Frame.at,func200,base,f200]
 rw[e];clear e;refine LoneTo.goes (n:=24) ?_;simp only[f200,Option.getD_some]
 s_c stepG_seq
 s_reg
 s_op
 s_c stepG_region_end
 s_c stepG_seq
 s_c stepG_seq
 s_reg
 s_op
 s_op
 s_op
 s_op
 s_c stepG_region_end
 s_cond false
 s_c stepG_skip
 s_c stepG_seq
 s_c stepG_seq
 s_reg
 s_op
 s_op
 s_op
 s_op
 s_c stepG_region_end
 s_c stepG_seq
 s_reg
 s_stop
 refine LoneTo.step (step_lone_select_recv_buf (c:=c) (z:=(.agg #[.i 0,.string ⟨#[]⟩,.i 0])) (stepG_comm (cases:=#[rcase c<|.agg #[.i 0,.string ⟨#[]⟩,.i 0]]) (blocking:=false) (shape:=.select) (w':=w) rfl rfl (by decide)<|by simp[go_sem,execOp,rcase,Act.eval]) hc<|by simp) ?_;rw[Frame.finish_at,I,p]
 walk_nrm
 refine LoneTo.goes (n:=34) ?_
 s_op
 s_op
 s_c stepG_region_end
 s_c stepG_block
 s_cond true
 s_c stepG_seq
 s_reg
 s_op
 s_op
 s_op
 s_op
 s_op
 s_c stepG_region_end
 s_reg
 s_op
 s_op
 s_op
 s_op
 clear l
 s_c stepG_region_end
 s_c stepG_inBlock
 s_c stepG_seq
 s_reg
 s_op
 s_op
 s_op
 s_op
 s_op
 s_c stepG_region_end
 s_c stepG_ret'
 s_stop
 have m:=j;simp only[set_cons_succ,set_cons_zero] at m;clear hs a d f g j y B D F A C E G H;refine LoneTo.done ⟨.returned<|.bool true,_,rfl,⟨rfl,by unfold MG;exact m⟩,rfl,rfl,rfl,rfl,_,func200,?_⟩
 simp[results,f200,Frame.at]
set_option maxRecDepth 100000 in
theorem Ahq{W w:World}{L:List HP}{b o c cap s r:Nat}{kd n:Int}{key:BA}{cs buf:List Value}(p:10<cs.length)(g:cs[o]? = some (.chan<|some c))(h:cs[10]? = some (.i n))(j:buf.length<cap)
  (hs:Ab W w (DO c (.chan cap buf.toArray false s r false)::blk b cs::L)):Calls PR 122 #[pq b 0,pq b o,.i kd,.string key] w λe w'=>e = .returned (.bool true)/\Ab W w' (DO c (.chan cap (buf++[Value.agg #[.i kd,.string key,.i n]]).toArray false (s+1) r false)::blk b (cs.set 10<|.i<|wrap .i64<|n+1)::L):=by
 have hc:=hs.objC;have g:=(hs.cell (q:=1) rfl).trans g;have k:=(hs.cell (q:=1) rfl).trans h;have a:=PF (s':=s+1) (r':=r) (B':=(buf++[Value.agg #[.i kd,.string key,.i n]]).toArray) hs;have l:buf.toArray.push (Value.agg #[.i kd,.string key,.i n])=(buf++[Value.agg #[.i kd,.string key,.i n]]).toArray:=by simp
 generalize d:w.setChan c cap (buf++[Value.agg #[.i kd,.string key,.i n]]).toArray false (s+1) r false=t at *;have u:=(a.cell (q:=1) rfl).trans h;have x:=a.frozen (q:=1) (b:=b) (o:=10) rfl (by omega);have f:=a.set (q:=1) (b:=b) (o:=10) (v:=.i (wrap .i64<|n+1)) rfl;refine calls_of_loneTo λm=>?_;have e:Frame.enter PR 122 #[pq b 0,pq b o,.i kd,.string key] .normal=(base 122).at ⟨#[pq b 0,pq b o,.i kd,.string key,undef,undef,undef,undef,undef,undef,undef,undef,undef,undef,undef,undef,undef,undef,undef,undef,undef,undef,undef,undef,undef,undef,undef,undef,undef,undef,undef],[]⟩ [.code<|f122.body.getD .skip]:=by
  simp[Frame.enter,Frame.at,func122,base,f122]
 rw[e];clear e;refine LoneTo.goes (n:=24) ?_;simp only[f122,Option.getD_some]
 s_c stepG_seq
 s_reg
 s_op
 s_c stepG_region_end
 s_c stepG_seq
 s_c stepG_seq
 s_reg
 s_op
 s_op
 s_op
 s_op
 s_c stepG_region_end
 s_reg
 s_op
 s_op
 s_op
 s_op
 s_op
 s_op
 s_op
 s_op
 s_c stepG_region_end
 s_c stepG_seq
 s_reg
 s_stop
 refine LoneTo.step (step_lone_select_send_room (c:=c) (v:=(Value.agg #[.i kd,.string key,.i n])) (z':=(.agg #[.i 0,.string ⟨#[]⟩,.i 0])) (stepG_comm (cases:=#[scase c (Value.agg #[.i kd,.string key,.i n])<|.agg #[.i 0,.string ⟨#[]⟩,.i 0]]) (blocking:=false) (shape:=.select) (w':=w) rfl rfl (by decide)<|by simp[go_sem,execOp,scase,Act.eval]) hc<|by simpa using j) ?_;rw[Frame.finish_at,l,d]
 walk_nrm
 refine LoneTo.goes (n:=30) ?_
 s_op
 s_op
 s_c stepG_region_end
 s_c stepG_block
 s_cond true
 s_c stepG_seq
 s_reg
 s_op
 s_op
 s_op
 s_op
 s_op
 s_op
 s_op
 s_op
 s_c stepG_region_end
 s_c stepG_seq
 s_reg
 s_op
 s_c stepG_region_end
 s_c stepG_ret'
 s_stop
 refine LoneTo.done ⟨.returned<|.bool true,_,rfl,⟨rfl,f⟩,rfl,rfl,rfl,rfl,_,func122,?_⟩;simp[results,f122,Frame.at]
set_option maxRecDepth 100000 in
theorem Ahp{W w:World}{L:List HP}{b o c cap s r:Nat}{kd n:Int}{key:BA}{cs buf:List Value}(a:cs[o]? = some (.chan<|some c))(d:cs[10]? = some (.i n))(f:cap<=buf.length)
  (hs:Ab W w (DO c (.chan cap buf.toArray false s r false)::blk b cs::L)):Calls PR 122 #[pq b 0,pq b o,.i kd,.string key] w λe w'=>e = .returned (.bool false)/\w'=w:=by
 have hc:=hs.objC;have a:=(hs.cell (q:=1) rfl).trans a;have g:=(hs.cell (q:=1) rfl).trans d;refine calls_of_loneTo λh=>?_;have e:Frame.enter PR 122 #[pq b 0,pq b o,.i kd,.string key] .normal=(base 122).at ⟨#[pq b 0,pq b o,.i kd,.string key,undef,undef,undef,undef,undef,undef,undef,undef,undef,undef,undef,undef,undef,undef,undef,undef,undef,undef,undef,undef,undef,undef,undef,undef,undef,undef,undef],[]⟩ [.code<|f122.body.getD .skip]:=by
  simp[Frame.enter,Frame.at,func122,base,f122]
 rw[e];clear e;refine LoneTo.goes (n:=24) ?_;simp only[f122,Option.getD_some]
 s_c stepG_seq
 s_reg
 s_op
 s_c stepG_region_end
 s_c stepG_seq
 s_c stepG_seq
 s_reg
 s_op
 s_op
 s_op
 s_op
 s_c stepG_region_end
 s_reg
 s_op
 s_op
 s_op
 s_op
 s_op
 s_op
 s_op
 s_op
 s_c stepG_region_end
 s_c stepG_seq
 s_reg
 s_stop
 refine LoneTo.step (step_lone_select_send_full (c:=c) (v:=(Value.agg #[.i kd,.string key,.i n])) (z':=(.agg #[.i 0,.string ⟨#[]⟩,.i 0])) (stepG_comm (cases:=#[scase c (Value.agg #[.i kd,.string key,.i n])<|.agg #[.i 0,.string ⟨#[]⟩,.i 0]]) (blocking:=false) (shape:=.select) (w':=w) rfl rfl (by decide)<|by simp[go_sem,execOp,scase,Act.eval]) hc<|by simpa using f) ?_;rw[Frame.finish_at]
 walk_nrm
 refine LoneTo.goes (n:=30) ?_
 s_op
 s_op
 s_c stepG_region_end
 s_c stepG_block
 s_cond false
 s_c stepG_seq
 s_reg
 s_op
 s_c stepG_region_end
 s_c stepG_ret'
 s_stop
 refine LoneTo.done ⟨.returned<|.bool false,_,rfl,⟨rfl,rfl⟩,rfl,rfl,rfl,rfl,_,func122,?_⟩;simp[results,f122,Frame.at]
end Go.Proofs.YtjipofkjmmpjdaaGreat
namespace Go.Proofs
open Go.Shelf
def Tryz.lays137_ren:Go.Shelf.Ren:=⟨fun|137=>157|217=>191|266=>212|n=>n,fun|9=>9|5=>5|3=>3|n=>n,fun|n=>n⟩
theorem Tryz.lays137:Go.Proofs.Lays.n137 Tryz.prog Tryz.lays137_ren:={
 mixed:=by kernel_rfl
 f137:=func157.trans (congrArg some<|by kernel_rfl)
 f217:=func191.trans (congrArg some<|by kernel_rfl)
 f266:=func212.trans (congrArg some<|by kernel_rfl)
 t3:=Tryz.underlying3
 a3:=Tryz.isAgg3
 z3:=Tryz.sizeOf3
 v3:=Tryz.zeroValue3
 t5:=Tryz.underlying5
 a5:=Tryz.isAgg5
 z5:=Tryz.sizeOf5
 v5:=Tryz.zeroValue5
 t9:=Tryz.underlying9
 a9:=Tryz.isAgg9
 z9:=Tryz.sizeOf9
 v9:=Tryz.zeroValue9 }
open Go.RowKit in
theorem Tryz.strings_IndexByte(s:ByteArray)(c:Int)(w:World) :
  Calls Tryz.prog 157 #[.string s,.int .u8 c] w λe w'=>e = .returned (.int .i64<|Lib.indexByte s.data.toList c.toNat.toUInt8)/\w'=w:=Any.strings_IndexByte Tryz.lays137 s c w
def Tryz.lays190_ren:Go.Shelf.Ren:=⟨fun|190=>112|125=>150|258=>149|128=>182|129=>183|302=>173|303=>174|304=>175|305=>176|306=>177|307=>178|308=>179|309=>180|310=>181|333=>202|329=>203|330=>204|334=>205|335=>206|336=>207|344=>213|n=>n,fun|31=>36|9=>9|3=>3|46=>222|0=>0|51=>145|53=>138|4=>4|183=>252|182=>251|131=>98|5=>5|218=>310|222=>152|228=>337|229=>338|n=>n,fun|n=>n⟩
theorem Tryz.lays190:Go.Proofs.Lays.n190 Tryz.prog Tryz.lays190_ren:={
 mixed:=by kernel_rfl
 f125:=func150.trans (congrArg some<|by kernel_rfl)
 f128:=func182.trans (congrArg some<|by kernel_rfl)
 f129:=func183.trans (congrArg some<|by kernel_rfl)
 f190:=func112.trans (congrArg some<|by kernel_rfl)
 f258:=func149.trans (congrArg some<|by kernel_rfl)
 f302:=func173.trans (congrArg some<|by kernel_rfl)
 f303:=func174.trans (congrArg some<|by kernel_rfl)
 f304:=func175.trans (congrArg some<|by kernel_rfl)
 f305:=func176.trans (congrArg some<|by kernel_rfl)
 f306:=func177.trans (congrArg some<|by kernel_rfl)
 f307:=func178.trans (congrArg some<|by kernel_rfl)
 f308:=func179.trans (congrArg some<|by kernel_rfl)
 f309:=func180.trans (congrArg some<|by kernel_rfl)
 f310:=func181.trans (congrArg some<|by kernel_rfl)
 f329:=func203.trans (congrArg some<|by kernel_rfl)
 f330:=func204.trans (congrArg some<|by kernel_rfl)
 f333:=func202.trans (congrArg some<|by kernel_rfl)
 f334:=func205.trans (congrArg some<|by kernel_rfl)
 f335:=func206.trans (congrArg some<|by kernel_rfl)
 f336:=func207.trans (congrArg some<|by kernel_rfl)
 f344:=func213.trans (congrArg some<|by kernel_rfl)
 t0:=Tryz.underlying0
 a0:=Tryz.isAgg0
 z0:=Tryz.sizeOf0
 v0:=Tryz.zeroValue0
 t3:=Tryz.underlying3
 a3:=Tryz.isAgg3
 z3:=Tryz.sizeOf3
 v3:=Tryz.zeroValue3
 t4:=Tryz.underlying4
 a4:=Tryz.isAgg4
 z4:=Tryz.sizeOf4
 v4:=Tryz.zeroValue4
 t5:=Tryz.underlying5
 a5:=Tryz.isAgg5
 z5:=Tryz.sizeOf5
 v5:=Tryz.zeroValue5
 t9:=Tryz.underlying9
 a9:=Tryz.isAgg9
 z9:=Tryz.sizeOf9
 v9:=Tryz.zeroValue9
 t31:=Tryz.underlying36
 a31:=Tryz.isAgg36
 z31:=Tryz.sizeOf36
 v31:=Tryz.zeroValue36
 t46:=Tryz.underlying222
 a46:=Tryz.isAgg222
 z46:=Tryz.sizeOf222
 v46:=Tryz.zeroValue222
 t51:=Tryz.underlying145
 a51:=Tryz.isAgg145
 z51:=Tryz.sizeOf145
 v51:=Tryz.zeroValue145
 t53:=Tryz.underlying138
 a53:=Tryz.isAgg138
 z53:=Tryz.sizeOf138
 v53:=Tryz.zeroValue138
 t131:=Tryz.underlying98
 a131:=Tryz.isAgg98
 z131:=Tryz.sizeOf98
 v131:=Tryz.zeroValue98
 t182:=Tryz.underlying251
 a182:=Tryz.isAgg251
 z182:=Tryz.sizeOf251
 v182:=Tryz.zeroValue251
 t183:=Tryz.underlying252
 a183:=Tryz.isAgg252
 z183:=Tryz.sizeOf252
 v183:=Tryz.zeroValue252
 t218:=Tryz.underlying310
 a218:=Tryz.isAgg310
 z218:=Tryz.sizeOf310
 v218:=Tryz.zeroValue310
 t222:=Tryz.underlying152
 a222:=Tryz.isAgg152
 z222:=Tryz.sizeOf152
 v222:=Tryz.zeroValue152
 t228:=Tryz.underlying337
 a228:=Tryz.isAgg337
 z228:=Tryz.sizeOf337
 v228:=Tryz.zeroValue337
 t229:=Tryz.underlying338
 a229:=Tryz.isAgg338
 z229:=Tryz.sizeOf338
 v229:=Tryz.zeroValue338 }
open Go.Sort Go.RowKit in
theorem Tryz.slices_Sort_string(a b cap:Nat)(c:List (List UInt8))(w:World)(g:Holds encStr w a b c.toArray)(d:a<w.heap.size)(f:c.length<4611686018427387904) :
  Calls Tryz.prog 112 #[.slice (some ⟨a,b,none⟩) c.length cap] w λe w'=>
   e = .returned (.tuple #[])/\∃n h,w'=grow (putRow encStr (Sort.ahead w n) a b (c.mergeSort λx y=>decide<|x<=y).toArray) h:=Any.slices_Sort_string Tryz.lays190 a b cap c w g d f
open Go.RowKit Go.Sort in
theorem Tryz.slices_Sort_string_none(p:Option Addr)(cap:Nat)(w:World) :
  Calls Tryz.prog 112 #[.slice p 0 cap] w λe w'=>e = .returned (.tuple #[])/\w'=w:=Any.slices_Sort_string_none Tryz.lays190 p cap w
end Go.Proofs
namespace Go.Hb
open Go.Sort Go.Proofs
section
variable{m:Mp}{wv wr wv' wr':World}
theorem Sm.setRow(hs:Sm m wv wr){b b':Nat}(u:m.f b=some b'){cs cs2 ds ds2:Array Value}{T T' T2:TypeId}{fr g fr2:Nat×Nat}(hc:wv.heap[b]? = some (.cells cs T fr))(L:wr.heap[b']? = some (.cells ds T' g))
  (d:∀x,wv'.heap[x]? = if x=b then some (.cells cs2 T fr) else wv.heap[x]?) (j:wv'.heap.size=wv.heap.size) (B:wr'.heap[b']? = some (.cells ds2 T2 fr2)) (k:∀x,x≠b'->x<wr.heap.size->wr'.heap[x]? = wr.heap[x]?) (c:wr.heap.size<=wr'.heap.size)
  (h1:cs2.size=cs.size) (h2:ds2.size=ds.size) (l:∀i,i<ds.size->Ph g i=false->Ph fr2 i=false) (M:∀i:Nat,(cs2[i]? = cs[i]? /\ ds2[i]? = ds[i]?)\/∃v r,cs2[i]? = some v/\ds2[i]? = some r/\VF m v r)
  (I:Aji (.cells cs T fr)) (N:wr'.os=wr.os/\wr'.output=wr.output):Sm m wv' wr'/\St m wv wr m wv' wr':=by
 have n:∀{x:Nat}{p:Obj},wv'.heap[x]? = some p->live p=true->∃q,wv.heap[x]? = some q/\live q=true:=λ{x p} a w=>by
  rw[d] at a
  by_cases e:x=b
  ·subst e;exact⟨_,hc,rfl⟩
  ·rw[if_neg e] at a;exact⟨_,a,w⟩
 refine⟨⟨λx=>by rw[j];exact hs.dom x,λx h=>by rw[j];exact hs.gdom x h,λx y h=>lt_of_lt_of_le (hs.rng x y h) c,λx p a w=>?_,hs.gl,λx y z p q a O o P=>?_⟩,⟨.refl m,c,λx a Q=>?_,λx C=>.inl ?_,λ_ _ h=>.inl h,N⟩⟩
 ·rw[d] at a
  by_cases e:x=b
  ·subst e;rw[if_pos rfl] at a;cases a;obtain⟨b2,o',J,K,R⟩:=hs.obj x _ hc rfl;rw[u] at J;cases J
   rw[L] at K;cases K
   cases R with
   | cells g1 S U V W=>
    refine⟨b',_,u,B,.cells (by omega) (λi v hi=>?_) (λi hi A=>l i (by omega)<|U i (by omega) A) (λcv cr e D=>?_) λD=>by have:=W D;omega⟩
    ·rcases M i with⟨E,s⟩|⟨v',r,E,s,X⟩
     ·rw[E] at hi;obtain⟨r,t,F⟩:=S i v hi;exact⟨r,by rw[s];exact t,F⟩
     ·rw[E] at hi;cases hi
      exact⟨r,s,.inr X⟩
    ·obtain⟨k1,k2,Y,Z,k5⟩:=V cv cr e D;exact⟨by omega,by omega,Y,Z,λi hi=>l i (by omega)<|k5 i<|by omega⟩
  ·rw[if_neg e] at a;obtain⟨y,q,t,F,h9⟩:=hs.obj x p a w;refine⟨y,q,t,?_,h9⟩;rw[k y (λs=>e ?_)<|hs.rng _ _ t]
   ·exact F
   ·subst s;exact hs.inj _ _ _ _ _ a w hc rfl t u
 ·obtain⟨p',G,lp⟩:=n a O;obtain⟨q',H,lq⟩:=n o P;exact hs.inj _ _ _ _ _ G lp H lq
 ·refine k x (λe=>?_) a;subst e;exact Q ⟨b,_,hc,I,u⟩
 ·obtain⟨y,p,o,hp,A⟩:=C;rw[d] at o
  by_cases e:y=b
  ·subst e;exact⟨y,_,hc,I,A⟩
  ·rw[if_neg e] at o;exact⟨y,p,o,hp,A⟩
theorem Yg{w:World}{a x:Nat}{f:Array Value->Array Value}{cs:Array Value}{T:TypeId}{fr:Nat×Nat}(h:w.heap[a]? = some (.cells cs T fr)):(mapBlock w a f).heap[x]? = if x=a then some (.cells (f cs) T fr) else w.heap[x]?:=by
 simp only[mapBlock,getElem?_modify]
 by_cases b:a=x
 ·subst b;simp[h,onCells]
 ·rw[if_neg b,if_neg<|λe=>b e.symm]
theorem Rb{R:Value->Value->Prop}{a b:Array Value}{v:Value}(h:AT R a.toList b.toList)(c:a=#[v]):∃r,b=#[r]/\R v r:=by
 subst c
 match d:b.toList,h with
 | [r],.cons h .nil=>exact⟨r,by rw[<- toList_inj,d],h⟩
theorem Ale{P:Program}{f:FuncId}{a:Array Value}{R:Ending->World->Prop}{v:Value}(c:Cq v=true)(hR:R (.returned v) wv)(h:∀m b wr,AT (VR m) a.toList b.toList->Sm m wv wr->Calls P f b wr λe w'=>e = .returned v/\w'=wr):BF P f a wv R:=λm b wr d hs=>
 (h m b wr d hs).mono λj wr' ⟨g,i⟩=>by subst i;exact⟨_,wv,m,v,v,hR,rfl,g,VR.ofAtom c,hs,.refl⟩
theorem Axa{R:Ending->World->Prop}{a:Array Value}(h:A7d a wv R):BF Tryz.prog 112 a wv R:=by
 rcases h with⟨c,rfl,h⟩|⟨b,o,c,e,rfl,H,hb,X,h⟩
 ·intro m Y wr I hs;obtain⟨r,rfl,J⟩:=Rb I rfl;obtain rfl:=J.atom rfl;exact(Tryz.slices_Sort_string_none none c wr).mono λZ wr' ⟨F,f⟩=>by subst f;exact⟨_,wv,m,_,_,h,rfl,F,.tup .nil,hs,.refl⟩
 ·intro m Y wr I hs;obtain⟨r,rfl,J⟩:=Rb I rfl;rcases J.slice with⟨K,_⟩|⟨b2,o2,b',c',K,q,hc,rfl⟩
  ·cases K
  ·cases K;have s:(e.mergeSort λx y=>decide<|x<=y).toArray.size=e.length:=by simp
   have L:Holds encStr wr b' o e.toArray:=λj hj=>by
    obtain⟨M,t⟩:=H j hj;obtain⟨cs,T,fr,g,G⟩:=HU M;obtain⟨b3,o',u,v,N⟩:=hs.obj b _ g rfl;rw[q] at u;cases u
    cases N with
    | cells g1 O U g4 g5=>
     obtain⟨V,z,l⟩:=O _ _ G;have:V=encStr (e.toArray)[j]!:=(VR.one<|.flat<|l.resolve_left<|by simp[encStr,isU]).atom rfl;subst this;exact⟨by rw[EE v];exact z,by rw[G0 v];rw[G0 g] at t;exact U _ (Array.getElem?_eq_some_iff.1 G).1 t⟩
   refine(Tryz.slices_Sort_string b' o c' e wr L (hs.rng _ _ q) X).mono λZ wr' ⟨F,n,W,f⟩=>?_;have d:∀(w:World) x,x<w.heap.size->(grow w W).heap[x]? = w.heap[x]?:=λw x p=>by
    simp only[grow];rw[Array.getElem?_append_left p]
   have A:∀(w:World),w.heap.size<=(grow w W).heap.size:=λw=>by simp[grow]
   by_cases h0:e.length=0
   ·have P:e=[]:=length_eq_zero_iff.1 h0;subst P;have e1:∀w:World,putRow encStr w b o (([]:List (List UInt8)).mergeSort λx y=>decide<|x<=y).toArray=w:=λw=>mapBlock_id _ _ _ λc _ _ _=>by
     apply ext_getElem?;intro k;simp only[putCells,getElem?_mapIdx,List.mergeSort_nil,size_toArray,length_nil,add_zero];cases c[k]? with
     | none=>rfl
     | some x=>simp only[map_some];rw[if_neg<|by omega]
    have e2:∀w:World,putRow encStr w b' o (([]:List (List UInt8)).mergeSort λx y=>decide<|x<=y).toArray=w:=λw=>mapBlock_id _ _ _ λc _ _ _=>by
     apply ext_getElem?;intro k;simp only[putCells,getElem?_mapIdx,List.mergeSort_nil,size_toArray,length_nil,add_zero];cases c[k]? with
     | none=>rfl
     | some x=>simp only[map_some];rw[if_neg<|by omega]
    rw[e1] at h;rw[e2] at f;have B:wr'.heap.size>=wr.heap.size:=by rw[f];exact A (Go.Sort.ahead wr n)
    have C:∀x,x<wr.heap.size->wr'.heap[x]? = wr.heap[x]?:=λx p=>by rw[f];exact d (Go.Sort.ahead wr n) x p
    exact⟨_,wv,m,_,_,h,rfl,F,.tup .nil,hs.real B λ_ _ y _ _ hf=>C y<|hs.rng _ _ hf,⟨.refl m,B,λx p _=>C x p,λ_ h=>.inl h,λ_ _ h=>.inl h,by rw[f];exact⟨rfl,rfl⟩⟩⟩
   ·obtain⟨M,t⟩:=H 0 (by simp;omega);obtain⟨cs,T,fr,g,G⟩:=HU M;obtain⟨b3,o',u,v,N⟩:=hs.obj b _ g rfl;rw[q] at u;cases u
    cases N with
    | @cells _ ds _ T' _ D g1 O U g4 g5=>
     have hA:(Go.Sort.ahead wr n).heap[b']? = some (.cells ds T' D):=v;have Q:b'<(putRow encStr (Go.Sort.ahead wr n) b' o (e.mergeSort λx y=>decide<|x<=y).toArray).heap.size:=by
      simp only[putRow,mapBlock,size_modify];exact hs.rng _ _ q
     have E:wr.heap.size<=wr'.heap.size:=by
      rw[f];refine le_trans ?_ (A _);simp only[putRow,mapBlock,size_modify];exact Nat.le_refl _
     have key:=hs.setRow (wv':=putRow encStr wv b o (e.mergeSort λx y=>decide<|x<=y).toArray) (wr':=wr') q g v (λx=>Yg g) (by simp[putRow,mapBlock]) (ds2:=putCells encStr o (e.mergeSort λx y=>decide<|x<=y).toArray ds) (T2:=T') (fr2:=D)
      (by rw[f,d _ _ Q];unfold putRow;rw[Yg hA,if_pos rfl]) (λx p S=>by
       rw[f,d _ _<|by simp only[putRow,mapBlock,size_modify];exact S];unfold putRow;rw[Yg hA,if_neg p];rfl) E (by simp[putCells]) (by simp[putCells]) (λ_ _ h=>h) (λi=>?_) ⟨o+0,(Array.getElem?_eq_some_iff.1 G).1,by rw[G0 g] at t;exact t⟩ (by rw[f];exact⟨rfl,rfl⟩)
     ·exact⟨_,_,m,_,_,h,rfl,F,.tup .nil,key.1,key.2⟩
     ·by_cases hi:o<=i/\i<o+(e.mergeSort λx y=>decide<|x<=y).toArray.size
      ·right;obtain⟨z,_⟩:=H (i-o) (by rw[s] at hi;simp;omega)
       rw[show o+(i-o)=i by omega,EE g] at z;obtain⟨V,l,_⟩:=O _ _ z;refine⟨encStr (e.mergeSort λx y=>decide<|x<=y).toArray[i-o]!,_,?_,?_,.atom rfl⟩
       ·simp only[putCells,getElem?_mapIdx,z,map_some];rw[if_pos hi]
       ·simp only[putCells,getElem?_mapIdx,l,map_some];rw[if_pos hi]
      ·left;constructor
       ·simp only[putCells,getElem?_mapIdx];cases cs[i]? with
        | none=>rfl
        | some _=>simp only[map_some];rw[if_neg hi]
       ·simp only[putCells,getElem?_mapIdx];cases ds[i]? with
        | none=>rfl
        | some _=>simp only[map_some];rw[if_neg hi]
theorem Amp{R:Ending->World->Prop}{s:BA}{c:Int}(h:R (.returned<|.i<|Lib.indexByte s.data.toList c.toNat.toUInt8) wv):BF Tryz.prog 157 #[.s s,.int .u8 c] wv R:=by
 refine Ale rfl h λm b wr d hs=>?_;have:b=#[.s s,.int .u8 c]:=by
  match a:b.toList,d with
  | [r,r2],.cons e (.cons f .nil)=>
   rw[e.str] at a;rw[f.int] at a;rw[<- toList_inj,a]
 subst this;exact Tryz.strings_IndexByte s c wr
end
end Go.Hb
namespace Go.Hb
open Go.Proofs Go.Proofs.YtjipofkjmmpjdaaGreat
section
variable{m:Mp}{wv wr wv' wr':World}
theorem Sm.setTwo(hs:Sm m wv wr){b b' c D:Nat}(E:m.f b=some b')(j:m.f c=some D){cs cs2 ds ds2 buf buf2 buf2':Array Value}{T T' T2:TypeId}{fr G fr2:Nat×Nat}{cap s r s2 r2:Nat}
  (k:wv.heap[b]? = some (.cells cs T fr)) (l:wv.heap[c]? = some (.chan cap buf false s r false)) (W:wr.heap[b']? = some (.cells ds T' G))
  (H:∀x,wv'.heap[x]? = if x=b then some (.cells cs2 T fr) else if x=c then some (.chan cap buf2 false s2 r2 false) else wv.heap[x]?) (t:wv'.heap.size=wv.heap.size)
  (I:wr'.heap[b']? = some (.cells ds2 T2 fr2)) (J:wr'.heap[D]? = some (.chan cap buf2' false s2 r2 false)) (Q:∀x,x≠b'->x≠D->x<wr.heap.size->wr'.heap[x]? = wr.heap[x]?) (g:wr.heap.size<=wr'.heap.size)
  (h1:cs2.size=cs.size) (h2:ds2.size=ds.size) (u:∀i,i<ds.size->Ph fr2 i=false) (X:∀i:Nat,(cs2[i]? = cs[i]? /\ ds2[i]? = ds[i]?)\/∃v r,cs2[i]? = some v/\ds2[i]? = some r/\VF m v r)
  (w:AT (VG m) buf2.toList buf2'.toList) (R:Aji (.cells cs T fr)) (Y:wr'.os=wr.os/\wr'.output=wr.output):Sm m wv' wr'/\St m wv wr m wv' wr':=by
 have Z:b≠c:=λe=>by subst e;rw[k] at l;cases l
 have A:∀{x:Nat}{p:Obj},wv'.heap[x]? = some p->live p=true->∃q,wv.heap[x]? = some q/\live q=true:=λ{x p} a B=>by
  rw[H] at a
  by_cases e:x=b
  ·subst e;exact⟨_,k,rfl⟩
  ·rw[if_neg e] at a
   by_cases d:x=c
   ·subst d;exact⟨_,l,rfl⟩
   ·rw[if_neg d] at a;exact⟨_,a,B⟩
 refine⟨⟨λx=>by rw[t];exact hs.dom x,λx h=>by rw[t];exact hs.gdom x h,λx y h=>lt_of_lt_of_le (hs.rng x y h) g,λx p a B=>?_,hs.gl,λx y z p q a lx n ly=>?_⟩,⟨.refl m,g,λx a S=>?_,λx K=>.inl ?_,λ_ _ h=>.inl h,Y⟩⟩
 ·rw[H] at a
  by_cases e:x=b
  ·subst e;rw[if_pos rfl] at a;cases a;obtain⟨b2,o',U,V,h6⟩:=hs.obj x _ k rfl;rw[E] at U;cases U
   rw[W] at V;cases V
   cases h6 with
   | cells g1 g2 g3 g4 g5=>
    refine⟨b',_,E,I,.cells (by omega) (λi v hi=>?_) (λi hi F=>u i<|by omega) (λcv cr e L=>?_) λL=>by have:=g5 L;omega⟩
    ·rcases X i with⟨M,d⟩|⟨v',r,M,d,C⟩
     ·rw[M] at hi;obtain⟨r,o,N⟩:=g2 i v hi;exact⟨r,by rw[d];exact o,N⟩
     ·rw[M] at hi;cases hi
      exact⟨r,d,.inr C⟩
    ·obtain⟨k1,k2,k3,k4,k5⟩:=g4 cv cr e L;exact⟨by omega,by omega,k3,k4,λi hi=>u i<|by omega⟩
  ·rw[if_neg e] at a
   by_cases d:x=c
   ·subst d;rw[if_pos rfl] at a;cases a;exact⟨D,_,j,J,.chan w⟩
   ·rw[if_neg d] at a;obtain⟨y,q,o,N,h9⟩:=hs.obj x p a B;refine⟨y,q,o,?_,h9⟩;rw[Q y (λC=>e ?_) (λC=>d ?_)<|hs.rng _ _ o]
    ·exact N
    ·subst C;exact hs.inj _ _ _ _ _ a B k rfl o E
    ·subst C;exact hs.inj _ _ _ _ _ a B l rfl o j
 ·obtain⟨p',O,lp⟩:=A a lx;obtain⟨q',P,lq⟩:=A n ly;exact hs.inj _ _ _ _ _ O lp P lq
 ·refine Q x (λe=>?_) (λe=>?_) a
  ·subst e;exact S ⟨b,_,k,R,E⟩
  ·subst e;exact S ⟨c,_,l,trivial,j⟩
 ·obtain⟨y,p,n,hp,F⟩:=K;rw[H] at n
  by_cases e:y=b
  ·subst e;exact⟨y,_,k,R,F⟩
  ·rw[if_neg e] at n
   by_cases d:y=c
   ·subst d;exact⟨y,_,l,trivial,F⟩
   ·rw[if_neg d] at n;exact⟨y,p,n,hp,F⟩
def A7b(w:World)(b c:Nat):HP:=λh=>∀x,x≠b->x≠c->h x=w.heap[x]?
theorem Adg{w:World}{b c:Nat}{cs:List Value}{T lo hi:Nat}{o:Obj}(a:b≠c)(d:w.heap[b]? = some (.cells cs.toArray T (lo,hi)))(f:∀i,i<cs.length->¬(lo<=i/\i<hi))(hc:w.heap[c]? = some o) :
  Ab w w [DO c o,blk b cs,A7b w b c]:=by
 refine⟨rfl,rfl,λx=>if x=c then some o else none,λx=>if x=c then none else w.heap[x]?,λx y h=>?_,λx y h=>?_,λx=>?_,by simp[DO],?_⟩
 ·simp only at h;split at h
  ·rename_i e;subst e;cases h;exact hc
  ·cases h
 ·simp only at h;split at h
  ·cases h
  ·exact h
 ·simp only
  by_cases e:x=c
  ·right;rw[if_pos e]
  ·left;rw[if_neg e]
 ·refine⟨λx=>if x=b then some (.cells cs.toArray T (lo,hi)) else none,λx=>if x=b\/x=c then none else w.heap[x]?,λx y h=>?_,λx y h=>?_,λx=>?_,⟨T,lo,hi,by simp,f⟩,?_⟩
  ·simp only at h ⊢;split at h
   ·rename_i e;subst e;cases h;rw[if_neg a];exact d
   ·cases h
  ·simp only at h ⊢;split at h
   ·cases h
   ·rename_i e;rw[if_neg<|λg=>e<|.inr g];exact h
  ·simp only
   by_cases e:x=b
   ·right;rw[if_pos<|.inl e]
   ·left;rw[if_neg e]
  ·exact⟨_,λ_=>none,EY.refl _,(λ_ _ h=>by cases h),(λ_=>.inr rfl),λx j k=>by simp only;rw[if_neg<|λe=>e.elim j k],trivial⟩
theorem Adf{w w':World}{b c:Nat}{cs:List Value}{o:Obj}(h:Ab w w' [DO c o,blk b cs,A7b w b c])(u:b<w.heap.size)(hc:c<w.heap.size) :
  w'.heap[c]? = some o/\(∃T lo hi,w'.heap[b]? = some (.cells cs.toArray T (lo,hi))/\∀i,i<cs.length->¬(lo<=i/\i<hi))/\(∀x,x≠b->x≠c->x<w.heap.size->w'.heap[x]? = w.heap[x]?)/\w.heap.size<=w'.heap.size:=by
 have l:=h.objC;obtain⟨v,a,T,lo,hi,d,f⟩:=h.get (q:=1) rfl;obtain⟨y,g,s⟩:=h.get (q:=2) rfl;have m:∀x,x≠b->x≠c->x<w.heap.size->w'.heap[x]? = w.heap[x]?:=λx j k t=>by
  have e:=s x j k;rw[Array.getElem?_eq_getElem t] at e ⊢;exact g _ _ e
 refine⟨l,⟨T,lo,hi,a _ _ d,f⟩,m,?_⟩;cases z:w.heap.size with
 | zero=>omega
 | succ n=>
  by_cases p:n=b
  ·subst p;have:=BX (a _ _ d);omega
  ·by_cases r:n=c
   ·subst r;have:=BX l;omega
   ·have e:=m n p r (by omega);rw[Array.getElem?_eq_getElem (by omega:n<w.heap.size)] at e;have:=BX e;omega
end
end Go.Hb
namespace Go.Hb
open Go.Proofs Go.Proofs.YtjipofkjmmpjdaaGreat
section
variable{m:Mp}{wv wr:World}{R:Ending->World->Prop}{a:Array Value}
theorem VF.chanI{c:Nat}{r:Value}(h:VF m (.chan<|some c) r):∃a,m.f c=some a/\r = .chan (some a):=by
 cases h with
 | atom h=>simp[Cq] at h
 | chn h=>exact⟨_,h,rfl⟩
theorem Ap2{k n:Int}{key:BA}{x:Value}(h:VG m (.agg #[.i k,.s key,.i n]) x):x = .agg #[.i k,.s key,.i n]:=by
 obtain⟨a,rfl,hc⟩:=(VR.one h).agg
 match b:a.toList,hc with
 | [x,y,z],.cons c (.cons d<|.cons e .nil)=>
  rw[c.int,(VR.one<|.flat d).str,e.int] at b;congr 1;rw[<- toList_inj,b]
theorem YQ(hs:Sm m wv wr){b b':Nat}{cs:List Value}{T lo hi:Nat}(q:m.f b=some b')(s:wv.heap[b]? = some (.cells cs.toArray T (lo,hi)))(t:∀i,i<cs.length->¬(lo<=i/\i<hi)) :
  ∃(ds:Array Value) (T' c d:Nat),wr.heap[b']? = some (.cells ds T' (c,d))/\cs.length<=ds.size/\(∀(i:Nat) v,cs[i]? = some v->∃r,ds[i]? = some r/\VU m v r)/\(∀i,i<ds.size->¬(c<=i/\i<d)):=by
 obtain⟨b2,A,n,k,j⟩:=hs.obj b _ s rfl;rw[q] at n;cases n
 cases j with
 | @cells _ ds _ T' _ a u w x y z=>
  have l:∀i,i<ds.size->Ph a i=false:=λi hi=>by
   cases o:m.g b with
   | none=>
    have:=z o;refine x i (by omega) ?_;have:=t i (by simp at this;omega)
    simp only[Ph,and_eq_false_iff,decide_eq_false_iff_not]
    by_cases h:lo<=i
    ·right;intro k;exact this ⟨h,k⟩
    ·left;exact h
   | some p=>obtain⟨cv,cr,e⟩:=p;exact(y cv cr e o).2.2.2.2 i hi
  refine⟨ds,T',a.1,a.2,k,by simpa using u,λi v hi=>w i v<|by simpa using hi,λi hi h=>?_⟩;have:=l i hi;simp only[Ph,and_eq_false_iff,decide_eq_false_iff_not] at this;rcases this with j|j
  ·exact j h.1
  ·exact j h.2
theorem A6d{l:List Value}{o:Nat}{k n:Int}{key:BA}(g:o+5<=l.length)(i:Nat):(∃v,Cq v=true/\∀a:List Value,o+5<=a.length->(MG a o k key n)[i]? = some v)\/∀a:List Value,(MG a o k key n)[i]? = a[i]?:=by
 unfold MG
 by_cases c:i=o+4
 ·subst c;exact .inl ⟨.bool true,rfl,λa b=>by rw[getElem?_set_self<|by simp;omega]⟩
 ·by_cases d:i=o+1+1+1
  ·subst d;exact .inl ⟨.i n,rfl,λa b=>by rw[getElem?_set_ne<|by omega,getElem?_set_self<|by simp;omega]⟩
  ·by_cases e:i=o+1+1
   ·subst e;exact .inl ⟨.s key,rfl,λa b=>by rw[getElem?_set_ne<|by omega,getElem?_set_ne<|by omega,getElem?_set_self<|by simp;omega]⟩
   ·by_cases f:i=o+1
    ·subst f;exact .inl ⟨.i k,rfl,λa b=>by rw[getElem?_set_ne<|by omega,getElem?_set_ne<|by omega,getElem?_set_ne<|by omega,getElem?_set_self<|by omega]⟩
    ·exact .inr λa=>by rw[getElem?_set_ne<|by omega,getElem?_set_ne<|by omega,getElem?_set_ne<|by omega,getElem?_set_ne<|by omega]
theorem IW{w:World}{c x cap s r:Nat}{B:Array Value}(hc:c<w.heap.size):(w.setChan c cap B false s r false).heap[x]? = if x=c then some (.chan cap B false s r false) else w.heap[x]?:=by
 simp only[World.setChan]
 by_cases a:x=c
 ·subst a;rw[if_pos rfl,Array.getElem?_setIfInBounds_self_of_lt hc]
 ·rw[if_neg a,Array.getElem?_setIfInBounds_ne<|Ne.symm a]
theorem MB{w:World}{c cap s r:Nat}{B:Array Value}:(w.setChan c cap B false s r false).heap.size=w.heap.size:=by simp[World.setChan]
theorem Awf(h:Awc a wv R):BF Tryz.prog 200 a wv R:=by
 obtain⟨b,o,rfl,h⟩:=h;intro m ar wr Z hs;obtain⟨r,rfl,hr⟩:=Rb Z rfl;rcases hr.ptr with⟨p,_⟩|⟨b2,o2,b',p,u,rfl⟩
 ·cases p
 cases p;rcases h with⟨p,hR⟩|⟨c,cap,s,F,p,q,h⟩
 ·obtain⟨v',q,l⟩:=hs.cellAt p u;obtain rfl:=(VR.one<|.flat l).boolV;exact(Awe wr q).mono λQ wr' ⟨y,G⟩=>by subst G;exact⟨_,wv,m,_,_,hR,rfl,y,VR.ofAtom rfl,hs,.refl⟩
 obtain⟨v',S,k2⟩:=hs.cellAt p u;obtain rfl:=(VR.one<|.flat k2).boolV;obtain⟨v2,U,k4⟩:=hs.cellAt q u;obtain⟨H,j,rfl⟩:=k4.chanI;rcases h with⟨l,hR⟩|⟨k,n,key,buf,cs,T,lo,hi,l,w,V,W,hR⟩
 ·obtain⟨c2,o',z,A,I⟩:=hs.obj c _ l rfl;rw[j] at z;cases z
  cases I with
  | @chan _ _ _ _ f _ _ J=>
   have:f=#[]:=by
    have:=J.len;simp at this;exact this
   subst this;exact(Anc wr S U A).mono λQ wr' ⟨y,G⟩=>by subst G;exact⟨_,wv,m,_,_,hR,rfl,y,VR.ofAtom rfl,hs,.refl⟩
 ·obtain⟨c2,o',z,A,I⟩:=hs.obj c _ l rfl;rw[j] at z;cases z
  cases I with
  | @chan _ _ _ _ f _ _ J=>
   obtain⟨rs,B,t⟩:∃rs,f=(Value.agg #[.i k,.s key,.i n]::rs).toArray/\AT (VG m) buf rs:=by
    match hl:f.toList,J with
    | x::rs,.cons hx t=>exact⟨rs,by rw[<- Ap2 hx,<- hl,toArray_toList],t⟩
   subst B;obtain⟨ds,T',aa,ab,C,d2,d3,d4⟩:=YQ hs u w V;have K:b'≠H:=λe=>by subst e;rw[C] at A;cases A
   have d:=Adg (b:=b') (c:=H) (cs:=ds.toList) (o:=.chan cap (Value.agg #[.i k,.s key,.i n]::rs).toArray false s F false) K (by rw[toArray_toList];exact C) (λi hi=>d4 i<|by simpa using hi) A;have D:o+5<=ds.toList.length:=by simp;omega
   refine(Ane (b:=b') (o:=o) (c:=H) (cs:=ds.toList) D (by have:=S;rw[EE C] at this;simpa using this) (by have:=U;rw[EE C] at this;simpa using this) d).mono λQ wr' ⟨y,d⟩=>?_;obtain⟨e1,⟨T2,L,ac,e2,e3⟩,e4,e5⟩:=Adf d (hs.rng _ _ u) (hs.rng _ _ j);have E:=BX l;have ad:=BX w;have M:b≠c:=λe=>by subst e;rw[l] at w;cases w
   have X:(wv.setChan c cap buf.toArray false s (F+1) false).heap[b]? = some (.cells cs.toArray T (lo,hi)):=by rw[IW E,if_neg M];exact w
   have N:=BV (x:=b) (o:=o+1) (v:=.i k) X;rw[if_pos rfl] at N;have O:=BV (x:=b) (o:=o+1+1) (v:=.s key) N;rw[if_pos rfl] at O;have Y:=BV (x:=b) (o:=o+1+2) (v:=.i n) O;rw[if_pos rfl] at Y;have P:((((cs.toArray.setIfInBounds (o+1)<|.i k).setIfInBounds (o+1+1)<|.s key).setIfInBounds (o+1+2)<|.i n).setIfInBounds (o+4)<|.b true)=(MG cs o k key n).toArray:=by simp[MG]
   have key:=hs.setTwo (wv':=((((wv.setChan c cap buf.toArray false s (F+1) false).setCell ⟨b,o+1,none⟩<|.i k).setCell ⟨b,o+1+1,none⟩<|.s key).setCell ⟨b,o+1+2,none⟩<|.i n).setCell ⟨b,o+4,none⟩ (.b true)) (wr':=wr') u j
    (cs2:=(MG cs o k key n).toArray) (buf2:=buf.toArray) (s2:=s) (r2:=F+1) w l C (λx=>by
     rw[BV Y,P]
     by_cases e:x=b
     ·rw[if_pos e,if_pos e]
     ·rw[if_neg e,if_neg e,BV O,if_neg e,BV N,if_neg e,BV X,if_neg e,IW E]) (by simp only[D9,MB])
    (ds2:=(MG ds.toList o k key n).toArray) (buf2':=rs.toArray) e2 e1 e4 e5 (by simp[MG]) (by simp[MG]) (λi hi=>by
     have:=e3 i (by simp[MG];exact hi);simp only[Ph,and_eq_false_iff,decide_eq_false_iff_not]
     by_cases h:L<=i
     ·right;intro q;exact this ⟨h,q⟩
     ·left;exact h) (λi=>by
     rcases A6d (k:=k) (n:=n) (key:=key) W i with⟨v,hv,g⟩|g
     ·exact .inr ⟨v,v,by simpa using g cs W,by simpa using g ds.toList D,.atom hv⟩
     ·exact .inl ⟨by simpa using g cs,by simpa using g ds.toList⟩) (by simpa using t) ⟨o,by simp;omega,by
     have:=V o (by omega);simp only[Ph,and_eq_false_iff,decide_eq_false_iff_not]
     by_cases h:lo<=o
     ·right;intro q;exact this ⟨h,q⟩
     ·left;exact h⟩ ⟨d.os,d.out⟩
   exact⟨_,_,m,_,_,hR,rfl,y,VR.ofAtom rfl,key.1,key.2⟩
theorem Ax6(h:Ax5 a wv R):BF Tryz.prog 122 a wv R:=by
 obtain⟨b,o,kd,n,key,c,cap,s,G,buf,cs,T,lo,hi,rfl,J,q,H,r,X,h⟩:=h;intro m K wr L hs;obtain⟨b',k,M⟩:∃b',m.f b=some b'/\K=#[.p<|some ⟨b',0,none⟩,.p<|some ⟨b',o,none⟩,.i kd,.s key]:=by
  obtain⟨x,y,z,u,N⟩:∃x y z u,K.toList=[x,y,z,u]:=by
   have J:=L.len
   match K.toList,J with
   | [x,y,z,u],_=>exact⟨x,y,z,u,rfl⟩
  rw[N] at L
  match L with
  | .cons t (.cons v<|.cons O<|.cons P .nil)=>
   rcases t.ptr with⟨e,_⟩|⟨_,_,b1,e,k,t⟩
   ·cases e
   cases e;rcases v.ptr with⟨e,_⟩|⟨_,_,b2,e,w,v⟩
   ·cases e
   cases e;rw[k] at w;cases w
   rw[t,v,O.int,P.str] at N;exact⟨b1,k,by rw[<- toList_inj,N]⟩
 subst M;obtain⟨v2,k3,k4⟩:=hs.cellAt J k;obtain⟨I,l,rfl⟩:=k4.chanI;obtain⟨v3,k5,k6⟩:=hs.cellAt q k;obtain rfl:=(VR.one<|.flat k6).int;obtain⟨c2,o',Y,A,g3⟩:=hs.obj c _ H rfl;rw[l] at Y;cases Y
 cases g3 with
 | @chan _ _ _ _ g _ _ B=>
  have B:AT (VG m) buf g.toList:=by simpa using B
  have A:wr.heap[I]? = some (.chan cap g.toList.toArray false s G false):=by rw[toArray_toList];exact A
  obtain⟨ds,T',aa,ab,C,d2,d3,d4⟩:=YQ hs k r X;have Q:b'≠I:=λe=>by subst e;rw[C] at A;cases A
  have d:=Adg (b:=b') (c:=I) (cs:=ds.toList) Q (by rw[toArray_toList];exact C) (λi hi=>d4 i<|by simpa using hi) A;have D:ds.toList[o]? = some (.chan<|some I):=by have:=k3;rw[EE C] at this;simpa using this
  have E:ds.toList[10]? = some (.i n):=by have:=k5;rw[EE C] at this;simpa using this
  rcases h with⟨S,hR⟩|⟨S,hR⟩
  ·exact(Ahp (kd:=kd) (key:=key) D E (by rw[B.len];exact S) d).mono λer wr' ⟨U,hw⟩=>by subst hw;exact⟨_,wv,m,_,_,hR,rfl,U,VR.ofAtom rfl,hs,.refl⟩
  ·have j:10<cs.length:=by
    have:=q;rw[EE r] at this;have:=(Array.getElem?_eq_some_iff.1 this).1;simpa using this
   refine(Ahq (kd:=kd) (key:=key) (by simp;omega) D E (by rw[B.len];exact S) d).mono λer wr' ⟨U,d⟩=>?_;obtain⟨t,⟨T2,V,ac,v,O⟩,P,e5⟩:=Adf d (hs.rng _ _ k) (hs.rng _ _ l);have F:=BX H;have W:b≠c:=λe=>by subst e;rw[H] at r;cases r
   have w1:(wv.setChan c cap (buf++[Value.agg #[.i kd,.s key,.i n]]).toArray false (s+1) G false).heap[b]? = some (.cells cs.toArray T (lo,hi)):=by rw[IW F,if_neg W];exact r
   have key:=hs.setTwo (wv':=(wv.setChan c cap (buf++[Value.agg #[.i kd,.s key,.i n]]).toArray false (s+1) G false).setCell ⟨b,10,none⟩ (.i<|wrap .i64<|n+1)) (wr':=wr') k l
    (cs2:=cs.toArray.setIfInBounds 10 (.i<|wrap .i64<|n+1)) (buf2:=(buf++[Value.agg #[.i kd,.s key,.i n]]).toArray) (s2:=s+1) (r2:=G) r H C (λx=>by
     rw[BV w1]
     by_cases e:x=b
     ·rw[if_pos e,if_pos e]
     ·rw[if_neg e,if_neg e,IW F]) (by simp only[D9,MB])
    (ds2:=(ds.toList.set 10<|.i<|wrap .i64<|n+1).toArray) (buf2':=(g.toList++[Value.agg #[.i kd,.s key,.i n]]).toArray) v t P e5 (by simp) (by simp) (λi hi=>by
     have:=O i (by simp;exact hi);simp only[Ph,and_eq_false_iff,decide_eq_false_iff_not]
     by_cases h:V<=i
     ·right;intro q;exact this ⟨h,q⟩
     ·left;exact h) (λi=>by
     by_cases hi:i=10
     ·subst hi;refine .inr ⟨.i<|wrap .i64<|n+1,.i<|wrap .i64<|n+1,?_,?_,.atom rfl⟩
      ·rw[Array.getElem?_setIfInBounds_self_of_lt<|by simpa using j]
      ·rw[List.getElem?_toArray,getElem?_set_self<|by simp;omega]
     ·refine .inl ⟨?_,?_⟩
      ·rw[Array.getElem?_setIfInBounds_ne<|Ne.symm hi]
      ·rw[List.getElem?_toArray,getElem?_set_ne<|Ne.symm hi,Array.getElem?_toList]) (by simpa using B.app (.cons (.agg<|AT.self (R:=VF m) λv Z=>.atom<|by simp at Z;rcases Z with rfl|rfl|rfl <;> rfl) .nil)) ⟨10,by simpa using j,by
     have:=X 10 j;simp only[Ph,and_eq_false_iff,decide_eq_false_iff_not]
     by_cases h:lo<=10
     ·right;intro q;exact this ⟨h,q⟩
     ·left;exact h⟩ ⟨d.os,d.out⟩
   exact⟨_,_,m,_,_,hR,rfl,U,VR.ofAtom rfl,key.1,key.2⟩
theorem Awi{P:Program}{f:FuncId}(h:Aj5 P f a wv R):BF P f a wv R:=by
 obtain⟨rfl,h⟩:=h;rcases h with⟨rfl,s,c,rfl,h⟩|⟨rfl,h⟩|⟨rfl,h⟩|⟨rfl,h⟩
 ·exact Amp h
 ·exact Axa h
 ·exact Awf h
 ·exact Ax6 h
end
end Go.Hb
namespace Go.Hb
open Go.Proofs Go.Proofs.YtjipofkjmmpjdaaGreat
section
variable{m:Mp}{wv wr:World}
theorem Ahy{n:Int}{w w':World}{v:Value}(c:0<=n)(e:n<=256)(h:(Instr.makeChan 182<|.i n).run Tryz.prog w = .ok v w'):v = .chan (some w.heap.size)/\w'=w.alloc (.chan n.toNat #[] false 0 0 false):=by
 have a:∃i,Tryz.prog.info? 184=some i/\i.bytes=32:=by
  have h:(Tryz.prog.info? 184).map (·.bytes)=some 32:=by kernel_rfl
  obtain⟨i,hi,a⟩:=map_eq_some_iff.1 h;exact⟨i,hi,a⟩
 obtain⟨i,hi,a⟩:=a;obtain⟨k,rfl⟩:=Int.eq_ofNat_of_zero_le c;have b:Tryz.prog.underlying 182=some (.chan .both 184):=by kernel_rfl
 have d:=Go.Conc.run_makeChan (P:=Tryz.prog) (w:=w) (t:=182) b hi .i64 k (by omega) (by rw[a];omega);rw[d] at h;cases h;exact⟨rfl,by simp⟩
theorem L6{n:Int}{w:World}(c:0<=n)(e:n<=256):(Instr.makeChan 182<|.i n).run Tryz.prog w = .ok (.chan<|some w.heap.size) (w.alloc<|.chan n.toNat #[] false 0 0 false):=by
 have a:∃i,Tryz.prog.info? 184=some i/\i.bytes=32:=by
  have h:(Tryz.prog.info? 184).map (·.bytes)=some 32:=by kernel_rfl
  obtain⟨i,hi,a⟩:=map_eq_some_iff.1 h;exact⟨i,hi,a⟩
 obtain⟨i,hi,a⟩:=a;obtain⟨k,rfl⟩:=Int.eq_ofNat_of_zero_le c;have b:Tryz.prog.underlying 182=some (.chan .both 184):=by kernel_rfl
 have d:=Go.Conc.run_makeChan (P:=Tryz.prog) (w:=w) (t:=182) b hi .i64 k (by omega) (by rw[a];omega);rw[d];simp
theorem Kn(hs:Sm m wv wr){n r:Nat}(g:wr.heap[r]? = some (.chan n #[] false 0 0 false))(c:∀b,m.f b≠some r){e:Mp}{a wr0:World}(d:wr0.heap.size<=r)(h:St e a wr0 m wv wr) :
  Sm (m.push wv.heap.size r none) (wv.alloc<|.chan n #[] false 0 0 false) wr/\St e a wr0 (m.push wv.heap.size r none) (wv.alloc<|.chan n #[] false 0 0 false) wr:=Wa hs g (.chan .nil) c d h
theorem A5h{x y:Int}{Q:VW}(h:@Aw (extOf BF) AU Tryz.prog J0 f75 [.i x,.i y] Q wv):BF Tryz.prog 75 #[.i x,.i y] wv λe w'=>∃v,e = .returned v/\Q v w':=by
 intro m R wr T hs;have E:R=#[.i x,.i y]:=by
  match F:R.toList,T with
  | [r,r2],.cons w (.cons t .nil)=>
   rw[w.int] at F;rw[t.int] at F;rw[<- toList_inj,F]
 subst E;have l:∀{r:Value}{wv' wr':World}{a:Mp}{v:Value},Q v wv'->VR a v r->Sm a wv' wr'->St m wv wr a wv' wr'->∃(e:Ending) (wv':World) (a:Mp) (v:Value),(∃v,e = .returned v/\Q v wv')/\e = .returned v/\VR a v r/\Sm a wv' wr'/\St m wv wr a wv' wr':=
  λw t z B=>⟨_,_,_,_,⟨_,rfl,w⟩,rfl,t,z,B⟩
 have t:@Aw Bn AU Tryz.prog J0 f75 [.i x,.i y] (λr wr'=>∃(e:Ending) (wv':World) (a:Mp) (v:Value),(∃v,e = .returned v/\Q v wv')/\e = .returned v/\VR a v r/\Sm a wv' wr'/\St m wv wr a wv' wr') wr:=by
  rw[A6p] at h;rw[A5o];have u:VR m (.tuple #[.p none,.i 1]) (.tuple #[.p none,.i 1]):=.tup (.cons (.flat<|.atom rfl)<|.cons (.flat<|.atom rfl) .nil);cases w:decide (x<0) with
  | true=>rw[w] at h;exact l h u hs .refl
  | false=>
   rw[w] at h;cases t:decide (x>256) with
   | true=>rw[t] at h;exact l h u hs .refl
   | false=>
    rw[t] at h;cases z:decide (y<1) with
    | true=>rw[z] at h;exact l h u hs .refl
    | false=>
     rw[z] at h;cases B:decide (y>256) with
     | true=>rw[B] at h;exact l h u hs .refl
     | false=>
      rw[B] at h;have w:=of_decide_eq_false w;have t:=of_decide_eq_false t;have z:=of_decide_eq_false z;have B:=of_decide_eq_false B;have h:Tx BF AU Q ((.i x)::(.i y)::us 26 []) wv:=h;rw[Ahn] at h;refine jw (k:=8) Ag0 ?_;obtain⟨S,_,w1,U,w2,V,h⟩:=h;obtain⟨_,rfl⟩:=Ahy (by omega) (by omega) U;obtain⟨_,rfl⟩:=Ahy (by omega) (by omega) V;have q:Sm m wv.drew wr.drew:=hs.drew;have C:St m wv wr m wv.drew wr.drew:=.drew;have A:∀{a:Mp}{wr':World}{c d:Nat},a.f wv.heap.size=some c->a.f (wv.heap.size+1)=some d->Sm a ((wv.drew.alloc<|.chan x.toNat #[] false 0 0 false).alloc<|.chan y.toNat #[] false 0 0 false) wr'->St m wv wr a ((wv.drew.alloc<|.chan x.toNat #[] false 0 0 false).alloc<|.chan y.toNat #[] false 0 0 false) wr' ->
        Az [.chan<|some c,.i (0:Int),.s Ae,.i (0:Int),.b false,.chan<|some d,.i (0:Int),.s Ae,.i (0:Int),.b false,.i (0:Int),.i (0:Int)] 188 (λb=>
         (λr wr'=>∃(e:Ending) (wv':World) (a:Mp) (v:Value),(∃v,e = .returned v/\Q v wv')/\e = .returned v/\VR a v r/\Sm a wv' wr'/\St m wv wr a wv' wr') (.tuple #[pq b 0,.i (0:Int)])) wr':=by
       intro a wr' c d hc W G H;have X:(wv.drew.alloc<|.chan x.toNat #[] false 0 0 false).heap.size=wv.heap.size+1:=Bp;have I:wv.drew.heap.size=wv.heap.size:=rfl;have h:Az [.chan<|some wv.heap.size,.i (0:Int),.s Ae,.i (0:Int),.b false,.chan<|some<|wv.heap.size+1,.i (0:Int),.s Ae,.i (0:Int),.b false,.i (0:Int),.i (0:Int)] 188 (λJ=>
         Q (.tuple #[pq J 0,.i (0:Int)])) ((wv.drew.alloc<|.chan x.toNat #[] false 0 0 false).alloc<|.chan y.toNat #[] false 0 0 false):=by rw[<- X];exact h
       have g:∀{v:Value},Cq v=true->VF a v v:=λh=>.atom h;refine Akp G (cs:=[.chan<|some wv.heap.size,.i (0:Int),.s Ae,.i (0:Int),.b false,.chan<|some<|wv.heap.size+1,.i (0:Int),.s Ae,.i (0:Int),.b false,.i (0:Int),.i (0:Int)])
        (.cons (.chn hc)<|.cons (g rfl)<|.cons (g rfl)<|.cons (g rfl)<|.cons (g rfl)<|.cons (.chn W)<|.cons (g rfl)<|.cons (g rfl)<|.cons (g rfl)<|.cons (g rfl)<|.cons (g rfl)<|.cons (g rfl) .nil) h λm2 b b' Y Z hk j hg K L=>?_
       exact l hk (.tup<|.cons (.flat<|.ptr j)<|.cons (.flat<|.atom rfl) .nil) K (H.trans L)
      have I:wv.drew.heap.size=wv.heap.size:=rfl;have r4:wr.drew.heap.size=wr.heap.size:=rfl;refine⟨λ_=>True,trivial,⟨_,L6 (by omega)<|by omega,_,L6 (by omega)<|by omega,?_⟩,⟨_,L6 (by omega)<|by omega,_,L6 (by omega)<|by omega,?_⟩⟩
      ·obtain⟨M,t1⟩:=Ku (o:=.chan x.toNat #[] false 0 0 false) q;have ex:(wr.drew.alloc<|.chan x.toNat #[] false 0 0 false).heap.size=wr.heap.size+1:=Bp;obtain⟨s2,t2⟩:=Kn M (r:=wr.drew.heap.size) (n:=x.toNat) En (λb j=>by have:=q.rng _ _ j;omega) (wr0:=wr) (show wr.heap.size<=wr.drew.heap.size from Nat.le_refl _) (C.trans t1)
       obtain⟨D,N⟩:=Ku (o:=.chan y.toNat #[] false 0 0 false) s2;obtain⟨O,P⟩:=Kn D (r:=(wr.drew.alloc<|.chan x.toNat #[] false 0 0 false).heap.size) (n:=y.toNat) En (λb j=>by have:=s2.rng _ _ j;omega) (by omega) (t2.trans N)
       refine A (c:=wr.drew.heap.size) (d:=(wr.drew.alloc<|.chan x.toNat #[] false 0 0 false).heap.size) ?_ ?_ O P
       ·exact(Mp.push_le (D.none_at<|Nat.le_refl _) _ _<|by rw[I];exact Mp.push_at).1
       ·have:(wv.drew.alloc<|.chan x.toNat #[] false 0 0 false).heap.size=wv.heap.size+1:=Bp;rw[this];exact Mp.push_at
      ·obtain⟨M,t1⟩:=Ku (o:=.chan y.toNat #[] false 0 0 false) q;have ey:(wr.drew.alloc<|.chan y.toNat #[] false 0 0 false).heap.size=wr.heap.size+1:=Bp;obtain⟨s2,t2⟩:=Ku (o:=.chan x.toNat #[] false 0 0 false) M;obtain⟨D,N⟩:=Kn s2 (r:=(wr.drew.alloc<|.chan y.toNat #[] false 0 0 false).heap.size) (n:=x.toNat) En (λb j=>by have:=q.rng _ _ j;omega) (by omega) (C.trans<|t1.trans t2)
       obtain⟨O,P⟩:=Kn D (r:=wr.drew.heap.size) (n:=y.toNat) (by rw[CX<|by omega];exact En) (λb j=>by
        by_cases e:b=wv.drew.heap.size
        ·subst e;rw[Mp.push_at] at j;have:=Option.some.inj j;omega
        ·simp only[Mp.push,if_neg e] at j;have:=q.rng _ _ j;omega) (wr0:=wr) (show wr.heap.size<=wr.drew.heap.size from Nat.le_refl _) N
       refine A (c:=(wr.drew.alloc<|.chan y.toNat #[] false 0 0 false).heap.size) (d:=wr.drew.heap.size) ?_ ?_ O P
       ·exact(Mp.push_le (D.none_at<|Nat.le_refl _) _ _<|by rw[I];exact Mp.push_at).1
       ·have:(wv.drew.alloc<|.chan x.toNat #[] false 0 0 false).heap.size=wv.heap.size+1:=Bp;rw[this];exact Mp.push_at
 have z:=F9 mixed func75 rfl t;exact z.mono λer wr' ⟨r,he,e,wv',a,v,k1,k3,k4,k5,k6⟩=>⟨e,wv',a,v,r,k1,k3,he,k4,k5,k6⟩
end
end Go.Hb
namespace Go.Hb
open Go.Proofs Go.Proofs.YtjipofkjmmpjdaaGreat
def QS(m:Mp)(wv wr:World)(Q:VW):VW:=λr wr'=>∃(e:Ending) (wv':World) (a:Mp) (v:Value),(∃v,e = .returned v/\Q v wv')/\e = .returned v/\VR a v r/\Sm a wv' wr'/\St m wv wr a wv' wr'
section
variable{m:Mp}{wv wr:World}{S:World->Prop}
theorem QS.mk{m a:Mp}{wv wr wv' wr':World}{Q:VW}{v r:Value}(b:Q v wv')(c:VR a v r)(d:Sm a wv' wr')(e:St m wv wr a wv' wr'):QS m wv wr Q r wr':=⟨_,_,_,_,⟨_,rfl,b⟩,rfl,c,d,e⟩
theorem JS(d:S wv)(hs:Sm m wv wr){k:CK}{b b' o:Nat}(e:m.f b=some b'){K a:k.ty->WP}(h:TK S k b o K wv)(g:∀x y,K x wv->CR k m x y->a y wr)(i:Nr k=true:=by rfl):TK (HA m S) k b' o a wr:=by
 obtain⟨x,j,h⟩:=h;obtain⟨r,c,l⟩:=Ahc d hs (.refl m) e j (S8 i);obtain⟨y,rfl⟩:=c.ck;exact⟨y,l,g x y h c⟩
theorem Jg{b o b':Nat}{K a:Nat->Nat->WP}(h:Ac (some ⟨b,o,none⟩) K wv)(c:K b o wv->a b' o wr):Ac (some ⟨b',o,none⟩) a wr:=by
 obtain⟨_,_,e,h⟩:=h;cases e;exact⟨_,_,rfl,c h⟩
theorem CR.int{m:Mp}{x y:Int}(h:CR (.int .i64) m x y):y=x:=by
 have a:=VF.int (h:=h);exact(Value.int.inj a).2
theorem Ayk{e0:OA}{key:BA}{Q:VW}(h:@Aw (extOf BF) AU Tryz.prog DR f246 [.p e0,.s key] Q wv):BF Tryz.prog 246 #[.p e0,.s key] wv λe w'=>∃v,e = .returned v/\Q v w':=by
 intro m ar wr ha hs;obtain⟨e0',he,har⟩:∃e0',VR m (.p e0) (.p e0')/\ar=#[.p e0',.s key]:=by
  match hl:ar.toList,ha with
  | [r,r2],.cons h1 (.cons h2 .nil)=>
   rw[h2.str] at hl;rcases h1.ptr with⟨_,h⟩|⟨_,_,_,_,_,h⟩
   ·rw[h] at hl h1;exact⟨_,h1,by rw[<- toList_inj,hl]⟩
   ·rw[h] at hl h1;exact⟨_,h1,by rw[<- toList_inj,hl]⟩
 subst har;have h2:@Aw Bn AU Tryz.prog DR f246 [.p e0',.s key] (QS m wv wr Q) wr:=by
  rw[Ax3] at h;rw[Awm];rcases he.ptr with⟨rfl,h1⟩|⟨b,o,b',rfl,hb,h1⟩
  ·cases h1;exact QS.mk h (.tup (.cons (.flat (.atom rfl)) (.cons (.flat (.atom rfl)) .nil))) hs .refl
  cases h1;have j2:∀{m1:Mp}{wv1 wr1:World}{g g':Sl},Sm m1 wv1 wr1->St m wv wr m1 wv1 wr1->CR .slc m1 g g'->H8 BF AU Q (some ⟨b,o,none⟩) key g wv1->H2 AU (QS m wv wr Q) (some ⟨b',o,none⟩) key g' wr1:=by
   intro m1 wv1 wr1 g g' hs1 ht1 hg h;have h:N0 BF AU Q ((pq b o)::(.s key)::us 4 ((.l g.a g.n g.c)::us 93 [])) wv1:=h;rw[Ad5] at h;refine jw (k:=40) Ac8 ?_;refine Jg h λh=>?_;refine KI hs1 (ht1.le _ _ hb).1 _ _ h λm2 x wv2 xr wr2 h hx hs2 ht2=>?_;refine KI hs2 (ht2.le _ _ (ht1.le _ _ hb).1).1 _ _ h λm3 p wv3 pr wr3 h hp hs3 ht3=>?_;refine YE hs3 (.cons (.one (.agg (.cons (hx.up ht3.le) (.cons hp .nil)))) (.cons (VR.ofAtom rfl) (.cons (VR.ofAtom rfl) .nil))) h λm4 wv4 wr4 h hs4 ht4=>?_;exact QS.mk h (.tup (.cons (.flat (.atom rfl)) (.cons (.flat (hg.up (ht2.le.trans (ht3.le.trans ht4.le)))) .nil))) hs4 (ht1.trans (ht2.trans (ht3.trans ht4)))
  have tail:∀(c:Prop)(v:Int)(bb:Bool){m2:Mp}{wv2 wr2:World},(AV c<| Ac (some ⟨b,o,none⟩) λb1 o1=>st b1 (o1+3) (.i v)<| @call1 (extOf BF) .slc Tryz.prog 259 [pq b o,.b bb] λg=>H8 BF AU Q (some ⟨b,o,none⟩) key g) wv2->Sm m2 wv2 wr2->St m wv wr m2 wv2 wr2 ->
    (AV c<| Ac (some ⟨b',o,none⟩) λb1 o1=>st b1 (o1+3) (.i v)<| @call1 Bn .slc Tryz.prog 259 [.p (some ⟨b',o,none⟩),.b bb] λg=>H2 AU (QS m wv wr Q) (some ⟨b',o,none⟩) key g) wr2:=by
   intro c v bb m2 wv2 wr2 h hs2 ht2;refine⟨h.1,Jg h.2 λh=>?_⟩;refine Axi hs2 (ht2.le _ _ hb).1 (.atom rfl) h λwv3 wr3 h hs3 ht3=>?_;have hb3:=(ht3.le _ _ (ht2.le _ _ hb).1).1;refine Jb hs3 (.cons (.one (.flat (.ptr hb3))) (.cons (VR.ofAtom rfl) .nil)) (by simp) h λm4 g g' wv4 wr4 h hg hs4 ht4=>?_;exact j2 hs4 (ht2.trans (ht3.trans ht4)) hg h
  have j1:∀{m1:Mp}{wv1 wr1:World}{t16:Int}{t26:Bool},Sm m1 wv1 wr1->St m wv wr m1 wv1 wr1->YH BF AU Q (some ⟨b,o,none⟩) key t16 t26 wv1->Yw AU (QS m wv wr Q) (some ⟨b',o,none⟩) key t16 t26 wr1:=by
   intro m1 wv1 wr1 t16 t26 hs1 ht1 h;have hb1:=(ht1.le _ _ hb).1;have h:Nz BF AU Q ((pq b o)::(.s key)::us 14 ((.i t16)::us 9 ((.b t26)::us 73 []))) wv1:=h;rw[Ad4] at h;refine jw (k:=24) Ac7 ?_;cases t26 with
   | true=>
    refine Jg h λh=>?_;refine KI hs1 hb1 _ _ h λm2 x wv2 xr wr2 h hx hs2 ht2=>?_;refine KI hs2 (ht2.le _ _ hb1).1 _ _ h λm3 p wv3 pr wr3 h hp hs3 ht3=>?_;refine YE hs3 (.cons (.one (.agg (.cons (hx.up ht3.le) (.cons hp .nil)))) (.cons (VR.ofAtom rfl) (.cons (VR.ofAtom rfl) .nil))) h λm4 wv4 wr4 h hs4 ht4=>?_;exact QS.mk h (.tup (.cons (.flat (.atom rfl)) (.cons (.flat (.atom rfl)) .nil))) hs4 (ht1.trans (ht2.trans (ht3.trans ht4)))
   | false=>
    cases c2:(t16==(2:Int)) with
    | true=>
     rw[c2] at h;obtain⟨S,hS,h⟩:=h;have hsd:=hs1.drew;refine⟨HA m1 S,⟨m1,_,.refl m1,hS,hsd⟩,?_⟩;refine Jg h λh=>JS hS hsd hb1 h λx12 y12 h e12=>?_;obtain rfl:=e12.int;refine Jg h λh=>JS hS hsd hb1 h λx15 y15 h e15=>?_;obtain rfl:=e15.int;refine Jg h λh=>JS hS hsd hb1 h λx18 y18 h e18=>JS hS hsd hb1 h λx19 y19 h e19=>?_;refine Jg h λh=>JS hS hsd hb1 h λx22 y22 h e22=>JS hS hsd hb1 h λx23 y23 h e23=>?_;exact Acy hS (.refl m1) hsd (A:=#[.l x18.a x18.n x18.c,.p x19]) (B:=#[.l x22.a x22.n x22.c,.p x23]) (.cons e18 (.cons e19 .nil)) (.cons e22 (.cons e23 .nil)) h λm' x y wv' wr' h hs' ht'=>tail _ _ _ h hs' (ht1.trans (St.drew.trans ht'))
    | false=>
     rw[c2] at h;cases c3:(t16==(3:Int)) with
     | true=>
      rw[c3] at h;obtain⟨S,hS,h⟩:=h;have hsd:=hs1.drew;refine⟨HA m1 S,⟨m1,_,.refl m1,hS,hsd⟩,?_⟩;refine Jg h λh=>JS hS hsd hb1 h λx50 y50 h e50=>?_;obtain rfl:=e50.int;refine Jg h λh=>JS hS hsd hb1 h λx53 y53 h e53=>JS hS hsd hb1 h λx54 y54 h e54=>?_;refine Jg h λh=>JS hS hsd hb1 h λx57 y57 h e57=>JS hS hsd hb1 h λx58 y58 h e58=>?_;exact Acy hS (.refl m1) hsd (A:=#[.l x53.a x53.n x53.c,.p x54]) (B:=#[.l x57.a x57.n x57.c,.p x58]) (.cons e53 (.cons e54 .nil)) (.cons e57 (.cons e58 .nil)) h λm' x y wv' wr' h hs' ht'=>tail _ _ _ h hs' (ht1.trans (St.drew.trans ht'))
     | false=>
      rw[c3] at h;refine Jb hs1 (.cons (.one (.flat (.ptr hb1))) .nil) (by simp) h λm2 g g' wv2 wr2 h hg hs2 ht2=>?_;have hb2:=(ht2.le _ _ hb1).1;refine Jg h λh=>?_;refine KI hs2 hb2 _ _ h λm3 x wv3 xr wr3 h hx hs3 ht3=>?_;refine KI hs3 (ht3.le _ _ hb2).1 _ _ h λm4 p wv4 pr wr4 h hp hs4 ht4=>?_;refine YE hs4 (.cons (.one (.agg (.cons (hx.up ht4.le) (.cons hp .nil)))) (.cons (VR.ofAtom rfl) (.cons (VR.ofAtom rfl) .nil))) h λm5 wv5 wr5 h hs5 ht5=>?_;exact QS.mk h (.tup (.cons (.flat (.atom rfl)) (.cons (.flat (hg.up (ht3.le.trans (ht4.le.trans ht5.le)))) .nil))) hs5 (ht1.trans (ht2.trans (ht3.trans (ht4.trans ht5))))
  refine Jg h λh=>?_;refine KI hs hb _ _ h λm2 x wv2 xr wr2 h hx hs2 ht2=>?_;refine KI hs2 (ht2.le _ _ hb).1 _ _ h λm3 p wv3 pr wr3 h hp hs3 ht3=>?_;refine Jb hs3 (.cons (.one (.agg (.cons (hx.up ht3.le) (.cons hp .nil)))) (.cons (VR.ofAtom rfl) .nil)) (by simp) h λm4 y y' wv4 wr4 h hy hs4 ht4=>?_;obtain rfl:=hy.int;have ht:=ht2.trans (ht3.trans ht4);cases c0:(y'==(0:Int)) with
  | true=>rw[c0] at h;exact j1 hs4 ht h
  | false=>rw[c0] at h;exact j1 hs4 ht h
 have h3:=F9 mixed func246 rfl h2;exact h3.mono λer wr' ⟨r,he,e,wv',m',v,k1,k3,k4,k5,k6⟩=>⟨e,wv',m',v,r,k1,k3,he,k4,k5,k6⟩
theorem Za:PD V0 BF where
 mono _ _ _ _ _ _ hR h:=Ald hR h
 body P f kp fn args w Q ho h:=by
  obtain⟨b,c,d,a⟩:=ho;rcases a with a|⟨rfl,rfl,rfl,rfl,x,y,rfl⟩|⟨rfl,rfl,rfl,rfl,e,k,rfl⟩
  ·exact Alc b c d a h
  ·exact A5h h
  ·exact Ayk h
 prim _ _ _ _ _ h:=Awi h
theorem GD{P:Program}{f:FuncId}{a:Array Value}{w:World}{R:Ending->World->Prop}(h:Ai P f a w R):BF P f a w R:=h BF Za
end
end Go.Hb
namespace Go.Hb
def YZ(v:Value):Value:=if Cq v=true then v else unk
def Bb3:Obj->Obj
 | .cells cs T _=>.cells (cs.map YZ) T (0,cs.size+1)
 | _=>.map #[] 0
def Eu(W:World):World:={ W with heap:=W.heap.map Bb3 }
def idM(W:World):Mp:=⟨λb=>if b<W.heap.size then some b else none,λ_=>none⟩
section
variable{W wv wr wv' wr':World}{m m':Mp}{P:Program}{f:FuncId}{a:Array Value}{R:Ending->World->Prop}
theorem Ajm{x y:Nat}(h:(idM W).f x=some y):y=x/\x<W.heap.size:=by
 unfold idM at h;dsimp only at h;split at h
 ·cases h;exact⟨rfl,by assumption⟩
 ·cases h
theorem Avb{x:Nat}(h:x<W.heap.size):(idM W).f x=some x:=by unfold idM;dsimp only;rw[if_pos h]
theorem Ahz{x:Nat}{p:Obj}(h:(Eu W).heap[x]? = some p):p = .map #[] 0\/∃cs T fr,W.heap[x]? = some (.cells cs T fr)/\p = .cells (cs.map YZ) T (0,cs.size+1):=by
 simp only[Eu,Array.getElem?_map,map_eq_some_iff] at h;obtain⟨q,a,rfl⟩:=h;cases q with
 | cells cs T fr=>exact .inr ⟨cs,T,fr,a,rfl⟩
 | _=>exact .inl rfl
theorem Gq(x:Nat):¬Wt (idM W) (Eu W) x:=λ⟨y,p,b,a,d⟩=>by
 rcases Ahz b with rfl|⟨cs,T,fr,_,rfl⟩
 ·exact a
 ·obtain⟨i,hi,c⟩:=a;simp only[size_map] at hi;simp only[Ph,and_eq_false_iff,decide_eq_false_iff_not] at c;omega
theorem W7:Sm (idM W) (Eu W) W where
 dom x:=by
  rw[show(Eu W).heap.size=W.heap.size by simp[Eu]];unfold idM;dsimp only;split
  ·simp;assumption
  ·simp;omega
 gdom x hx:=by cases hx
 rng x y hf:=by obtain⟨rfl,h⟩:=Ajm hf;exact h
 gl x cv cr e a:=by cases a
 inj b1 b2 b' o1 o2 _ _ _ _ h1 h2:=by rw[<- (Ajm h1).1,<- (Ajm h2).1]
 obj x p hx hl:=by
  rcases Ahz hx with rfl|⟨cs,T,fr,b,rfl⟩
  ·cases hl
  refine⟨x,_,Avb (Array.getElem?_eq_some_iff.1 b).1,b,.cells (by simp) (λi v hi=>?_) (λi hi c=>?_) (λ_ _ _ a=>by cases a) λ_=>by simp⟩
  ·simp only[Array.getElem?_map,map_eq_some_iff] at hi;obtain⟨u,d,rfl⟩:=hi;refine⟨u,d,?_⟩;unfold YZ;split
   ·exact .inr (.atom<|by assumption)
   ·exact .inl rfl
  ·simp only[size_map] at hi;simp only[Ph,and_eq_false_iff,decide_eq_false_iff_not] at c;omega
theorem Alb{b o:Nat}{v:Value}(h:W.cell? ⟨b,o,none⟩=some v)(a:Cq v=true):(Eu W).cell? ⟨b,o,none⟩=some v:=by
 obtain⟨cs,T,fr,c,hc⟩:=HU h;have d:(Eu W).heap[b]? = some (.cells (cs.map YZ) T (0,cs.size+1)):=by
  simp only[Eu,Array.getElem?_map,c,map_some];rfl
 rw[EE d,Array.getElem?_map,hc,map_some];unfold YZ;rw[if_pos a]
theorem Rl{m:Type}{E:Ap m}{s:Sl}{rows:List m}(c:BZ W s E rows)(f:∀a,∀v∈E.cells a,Cq v=true):BZ (Eu W) s E rows:=by
 refine⟨c.len,?_⟩;rcases c.at_ with h|⟨b,o,g,k⟩
 ·exact .inl h
 ·refine .inr ⟨b,o,g,λi j a l d=>?_⟩;have e:=k i j a l d;rw[getElem?_eq_getElem<|by rw[E.len];exact d] at e ⊢
  exact Alb e (f a _<|getElem_mem _)
theorem Ah0{s:Sl}(h:s.a=none\/∃b o,s.a=some ⟨b,o,none⟩/\b<W.heap.size):VF (idM W) (.l s.a s.n s.c) (.l s.a s.n s.c):=by
 rcases h with h|⟨b,o,h,d⟩
 ·rw[h];exact .atom rfl
 ·rw[h];exact .slc (Avb d) rfl
theorem Be.big{w w':World}(h:Be w w'):w.heap.size<=w'.heap.size:=by
 cases b:w.heap.size with
 | zero=>omega
 | succ n=>
  have a:w.heap[n]? = some (w.heap[n]'(by omega)):=Array.getElem?_eq_getElem (by omega);have:=BX (h.heap _ _ a);omega
theorem Be.trans{w w' b:World}(h:Be w w')(a:Be w' b):Be w b:=⟨a.os.trans h.os,a.out.trans h.out,λb o c=>a.heap _ _<|h.heap _ _ c⟩
theorem Be.refl{w:World}:Be w w:=⟨rfl,rfl,λ_ _ h=>h⟩
theorem Sm.kept(hs:Sm m wv wr)(h:Be wr wr'):Sm m wv wr':=hs.real h.big λb o b' c d b=>by
 have a:=hs.rng _ _ b;rw[Array.getElem?_eq_getElem a];exact h.heap _ _ (Array.getElem?_eq_getElem a)
theorem St.kept(h:St m wv wr m' wv' wr')(a:Be W wr)(e:∀b',Wt m wv b'->W.heap.size<=b'):Be W wr':=
 ⟨h.env.1.trans a.os,h.env.2.trans a.out,λb o c=>by
  have d:=a.heap b o c;have g:=BX c;rw[h.frame b (BX d) λf=>by have:=e b f;omega];exact d⟩
theorem MU(j:Ai P f a (Eu W) R)(g:Be W wr)(k:AT (VR<|idM W) a.toList a.toList) :
  Calls P f a wr λi wr1=>∃l wv' v r,R (.returned v) wv'/\i = .returned r/\VR l v r/\Be W wr1:=
 (GD j (idM W) a wr k<|W7.kept g).mono λi wr1 ⟨e,wv',b,v,r1,hR,c,d,m,n,t1⟩=>by
  subst c;exact⟨b,wv',v,r1,hR,d,m,t1.kept g λb' h=>absurd h<|Gq b'⟩
theorem SK{s s':Sl}{l:List BA}(hs:Sm m wv wr)(e:BZ wv s Ap.str l)(k:VF m (.l s.a s.n s.c) (.l s'.a s'.n s'.c)):BZ wr s' Ap.str l:=by
 obtain⟨p,q,r⟩:=s';rcases k.slcI with⟨f,h⟩|⟨b,o,b',B,f,t,hc,h⟩
 ·cases h;rcases e.at_ with d|⟨b,o,d,_⟩
  ·exact⟨e.len,.inl ⟨rfl,d.2⟩⟩
  ·rw[f] at d;cases d
 ·cases h;refine⟨e.len,?_⟩;rcases e.at_ with d|⟨b2,C,d,u⟩
  ·rw[f] at d;cases d.1
  ·rw[f] at d;cases d
   refine .inr ⟨b',o,rfl,λi j a v w=>?_⟩;have x:=u i j a v w;have g:j=0:=by have:Ap.str.sz=1:=rfl;omega
   subst g;have y:wv.cell? ⟨b,o+(i*Ap.str.sz+0),none⟩=some (.s a):=x;obtain⟨D,z,A⟩:=hs.cellAt y t;rw[z,(VR.one<|.flat A).str];rfl
end
end Go.Hb
namespace Go.Hb
structure Tw(W:World)(m1 m2:Mp)(wv wr:World):Prop where
 s1:Sm m1 wv wr
 s2:Sm m2 wv wr
 d1:∀b',Wt m1 wv b'->∀x,m2.f x≠some b'
 d2:∀b',Wt m2 wv b'->∀x,m1.f x≠some b'
 k1:∀b',Wt m1 wv b'->W.heap.size<=b'
 k2:∀b',Wt m2 wv b'->W.heap.size<=b'
 big:W.heap.size<=wr.heap.size
 kept:Be W wr
section
variable{W wv wr wv' wr':World}{m m' m1 m2 m1' m2':Mp}{P:Program}{f:FuncId}{a ar1 ar2:Array Value}{R:Ending->World->Prop}
theorem Aku(r:Ai P f a wv R)(h:Tw W m1 m2 wv wr)(H:AT (VR m1) a.toList ar1.toList)(I:AT (VR m2) a.toList ar2.toList) :
  Calls P f ar1 wr λt wr1=>∃c wv' v r1,R (.returned v) wv'/\t = .returned r1/\VR c v r1/\m1.le c/\Be W wr1 /\
   Calls P f ar2 wr1 λt m=>∃i r2,t = .returned r2/\VR i v r2/\m2.le i/\Tw W c i wv' m:=by
 obtain⟨Q,S,hR,r⟩:=Ri GS r;have r:=r (λe w=>e=Q/\w=S) ⟨rfl,rfl⟩;refine(GD r m1 ar1 wr H h.s1).mono λt wr1 ⟨e,wv',c,v,r1,⟨J,d⟩,n,p,T,l,t1⟩=>?_;subst J;subst d;subst n
 have j:=t1.kept h.kept h.k1;refine⟨c,wv',v,r1,hR,p,T,t1.le,j,?_⟩;have K:Sm m2 wv wr1:=h.s2.real t1.big λb o b' U V u=>t1.frame b' (h.s2.rng _ _ u) λd=>h.d1 b' d b u;refine(GD r m2 ar2 wr1 I K).mono λt m ⟨e,A,i,Y,r2,⟨J,d⟩,n,p,L,M,t2⟩=>?_;subst d;subst n
 cases J;have b1:=h.s1.rng;have b2:=h.s2.rng
 have X:∀b',Wt m1 wv b'->∃x,m1.f x=some b':=λb' ⟨b,o,_,_,B⟩=>⟨b,B⟩;have q:∀b',Wt m2 wv b'->∃x,m2.f x=some b':=λb' ⟨b,o,_,_,B⟩=>⟨b,B⟩;have C:∀b',Wt c A b'->∃x,c.f x=some b':=λb' ⟨b,o,_,_,B⟩=>⟨b,B⟩;have k:∀x b',c.f x=some b'->¬Wt m2 wv b':=λx b' s d=>by
  rcases t1.new x b' s with g|g|g
  ·exact h.d2 b' d x g
  ·obtain⟨y,D⟩:=q b' d;exact h.d1 b' g y D
  ·obtain⟨y,D⟩:=q b' d;have:=b2 _ _ D;omega
 have N:Sm c A m:=l.real t2.big λb o b' U V u=>t2.frame b' (l.rng _ _ u) (k b b' u);refine⟨i,r2,p,L,t2.le,N,M,λb' d x s=>?_,λb' d x s=>?_,λb' d=>?_,λb' d=>?_,le_trans h.big<|le_trans t1.big t2.big,t2.kept j h.k2⟩
 ·obtain⟨y,D⟩:=C b' d;have O:=l.rng _ _ D;have E:∀z,m2.f z≠some b':=λz F=>by
   rcases t1.grow b' d with g|g
   ·exact h.d1 b' g z F
   ·have:=b2 _ _ F;omega
  rcases t2.new x b' s with G|G|G
  ·exact E x G
  ·obtain⟨z,F⟩:=q b' G;exact E z F
  ·omega
 ·have O:=l.rng _ _ s;rcases t2.grow b' d with g|g
  ·exact k x b' s g
  ·omega
 ·rcases t1.grow b' d with g|g
  ·exact h.k1 b' g
  ·exact le_trans h.big g
 ·rcases t2.grow b' d with g|g
  ·exact h.k2 b' g
  ·exact le_trans h.big (le_trans t1.big g)
theorem Tw.keep(h:Tw W m1 m2 wv wr)(a:Be wr wr'):Tw W m1 m2 wv wr':=⟨h.s1.kept a,h.s2.kept a,h.d1,h.d2,h.k1,h.k2,le_trans h.big a.big,h.kept.trans a⟩
theorem Axz(r:Ai P f a (Eu W) R)(A:Be W wr)(K:AT (VR<|idM W) a.toList a.toList) :
  Calls P f a wr λs wr1=>∃g wv' v r1,R (.returned v) wv'/\s = .returned r1/\VR g v r1/\Be W wr1 /\
   ∀c,Be wr1 c->Calls P f a c λs m=>∃k r2,s = .returned r2/\VR g v r1/\VR k v r2/\Tw W g k wv' m:=by
 obtain⟨N,O,hR,r⟩:=Ri GS r;have r:=r (λe w=>e=N/\w=O) ⟨rfl,rfl⟩;refine(GD r (idM W) a wr K<|W7.kept A).mono λs wr1 ⟨e,wv',g,v,r1,⟨B,C⟩,n,q,L,D,t1⟩=>?_;subst B;subst C;subst n
 have b:=t1.kept A λb' h=>absurd h (Gq b');refine⟨g,wv',v,r1,hR,q,L,b,λc l=>?_⟩;have i:Sm g wv' c:=D.kept l;refine(GD r (idM W) a c K<|W7.kept<|b.trans l).mono λs m ⟨e,E,k,U,r2,⟨B,F⟩,n,q,G,H,t2⟩=>?_;subst F;subst n
 cases B;have I:Sm g E m:=i.real t2.big λb o b' V X Q=>t2.frame b' (i.rng _ _ Q) (Gq b');have t:=b.big;have u:=l.big;have M:=A.big
 refine⟨k,r2,q,L,G,I,H,λb' d x J=>?_,λb' d x J=>?_,λb' d=>?_,λb' d=>?_,le_trans t<|le_trans u t2.big,t2.kept (b.trans l) λb' h=>absurd h<|Gq b'⟩
 ·rcases t1.grow b' d with j|j
  ·exact Gq _ j
  ·obtain⟨y,p,_,_,S⟩:=d;have T:=i.rng _ _ S;rcases t2.new x b' J with z|z|z
   ·have:=(Ajm z);omega
   ·exact Gq _ z
   ·omega
 ·rcases t2.grow b' d with j|j
  ·exact Gq _ j
  ·have:=i.rng _ _ J;omega
 ·rcases t1.grow b' d with j|j
  ·exact absurd j (Gq _)
  ·omega
 ·rcases t2.grow b' d with j|j
  ·exact absurd j (Gq _)
  ·omega
end
end Go.Hb
namespace Go.Hb
structure Pl(V:Type) where
 is_:Int
 key:BA
 v:V
instance {V:Type} [Inhabited V]:Inhabited (Pl V):=⟨⟨0,⟨#[]⟩,default⟩⟩
def C7{V:Type}(a:Ap V):Ap (Pl V):=⟨2+a.sz,λp=>.i p.is_::.s p.key::a.cells p.v,λp=>by simp[a.len];omega⟩
instance {V:Type} {a:Ap V}:HQ (C7 a):=⟨by show 0<2+_;omega⟩
section
variable{V:Type}[Inhabited V]
def B0(ps:List (Pl V))(i:Nat):Int:=(ps.getD i default).is_
def DT(ps:List (Pl V))(i:Nat):BA:=(ps.getD i default).key
def AF(ps:List (Pl V))(k:BA):Nat->Option Nat->Nat->Nat×Bool
 | 0,_,i=>(i,false)
 | f+1,free,i=>
  if B0 ps i=2/\DT ps i=k then (i,true)
  else if B0 ps i=1/\free=none then AF ps k f (some i) ((i+1) % ps.length)
  else if B0 ps i=0 then (free.getD i,false)
  else AF ps k f free ((i+1) % ps.length)
def V6(ps:List (Pl V))(k:BA)(i:Nat):Prop:=B0 ps i=2/\DT ps i=k
theorem Ej(i e n:Nat):((i+1) % n+e) % n=(i+(e+1)) % n:=by
 rw[Nat.mod_add_mod];congr 1;omega
theorem KT(ps:List (Pl V))(k:BA):∀(f:Nat)(free:Option Nat)(i:Nat),i<ps.length->(AF ps k f free i).2=true->V6 ps k (AF ps k f free i).1/\(AF ps k f free i).1<ps.length
 | 0,_,_,_,h=>by simp[AF] at h
 | f+1,free,i,hi,h=>by
  have c:(i+1) % ps.length<ps.length:=mod_lt _ (by omega);unfold AF at h ⊢;split at h
  ·rename_i a;rw[if_pos a];exact⟨a,hi⟩
  ·rename_i a;rw[if_neg a]
   split at h
   ·rename_i b;rw[if_pos b];exact KT ps k f _ _ c h
   ·rename_i b;rw[if_neg b]
    split at h
    ·simp at h
    ·rename_i d;rw[if_neg d];exact KT ps k f _ _ c h
theorem J1(ps:List (Pl V))(k:BA):∀(f:Nat)(free:Option Nat)(i:Nat),i<ps.length->(∃e,e<f/\B0 ps ((i+e) % ps.length)=0)->(AF ps k f free i).2=false ->
  ∃d,B0 ps ((i+d) % ps.length)=0/\(∀e,e<d->B0 ps ((i+e) % ps.length)≠0/\¬V6 ps k ((i+e) % ps.length)) /\
   (∀j,free=some j->(AF ps k f free i).1=j)/\(free=none->∃e,e<=d/\(AF ps k f free i).1=(i+e) % ps.length/\B0 ps ((i+e) % ps.length)≠2)
 | 0,_,_,_,⟨e,l,_⟩,_=>by omega
 | f+1,free,i,hi,⟨e,l,n⟩,h=>by
  have t:(i+1) % ps.length<ps.length:=mod_lt _ (by omega);have a:(i+0) % ps.length=i:=by rw[add_zero,mod_eq_of_lt hi]
  have next:B0 ps i≠0->∃u,u<f/\B0 ps (((i+1) % ps.length+u) % ps.length)=0:=by
   intro o;cases e with
   | zero=>rw[a] at n;exact absurd n o
   | succ e=>exact⟨e,by omega,by rw[Ej];exact n⟩
  unfold AF at h ⊢;split at h
  ·simp at h
  rename_i p;rw[if_neg p];split at h
  ·rename_i b;rw[if_pos b];obtain⟨d,g,q,r,v⟩:=J1 ps k f (some i) _ t (next (by rw[b.1];decide)) h
   refine⟨d+1,by rw[Ej] at g;exact g,λe l=>?_,λj m=>(by rw[b.2] at m;cases m),λ_=>?_⟩
   ·cases e with
    | zero=>rw[a];exact⟨by rw[b.1];decide,p⟩
    | succ e=>have:=q e (by omega);rw[Ej] at this;exact this
   ·exact⟨0,by omega,by rw[a];exact r i rfl,by rw[a,b.1];decide⟩
  ·rename_i b;rw[if_neg b];split at h
   ·rename_i c;rw[if_pos c];refine⟨0,by rw[a];exact c,λe l=>by omega,λj m=>by rw[m];rfl,λs=>⟨0,by omega,by rw[s,a];rfl,by rw[a,c];decide⟩⟩
   ·rename_i c;rw[if_neg c];obtain⟨d,g,q,r,v⟩:=J1 ps k f free _ t (next c) h;refine⟨d+1,by rw[Ej] at g;exact g,λe l=>?_,r,λs=>?_⟩
    ·cases e with
     | zero=>rw[a];exact⟨c,p⟩
     | succ e=>have:=q e (by omega);rw[Ej] at this;exact this
    ·obtain⟨e,y,x,w⟩:=v s;exact⟨e+1,by omega,by rw[x,Ej],by rw[Ej] at w;exact w⟩
def EU(p:Pl V):List (BA×V):=if p.is_=2 then [(p.key,p.v)] else []
theorem Ga{p:Pl V}(h:p.is_=2):EU p=[(p.key,p.v)]:=if_pos h
theorem Io{p:Pl V}(h:p.is_≠2):EU p=[]:=if_neg h
def AS(ps:List (Pl V)):List (BA×V):=ps.flatMap EU
theorem BH(a b:List (Pl V)):AS (a++b)=AS a++AS b:=by simp[AS]
theorem Tg{a:Type}[Inhabited a]{l:List a}{i:Nat}(h:i<l.length):l=l.take i++l.getD i default::l.drop (i+1):=by
 rw[getD_eq_getElem?_getD,getElem?_eq_getElem h];simp
theorem Nx{b:Type}{l:List b}{i:Nat}(h:i<l.length)(a:b):l.set i a=l.take i++a::l.drop (i+1):=by
 rw[List.set_eq_take_append_cons_drop,if_pos h]
theorem RL{ps:List (Pl V)}{i:Nat}(h:i<ps.length):(AS ps).Perm (EU (ps.getD i default)++AS (ps.take i++ps.drop (i+1))):=by
 have:AS ps=AS (ps.take i)++(EU (ps.getD i default)++AS (ps.drop<|i+1)):=by
  conv=>lhs;rw[Tg h]
  rw[BH];rfl
 rw[this,BH];rw[<- append_assoc,<- append_assoc];exact List.Perm.append_right _ perm_append_comm
theorem MZ{ps:List (Pl V)}{i:Nat}(h:i<ps.length)(p:Pl V):(AS<|ps.set i p).Perm (EU p++AS (ps.take i++ps.drop (i+1))):=by
 have:AS (ps.set i p)=AS (ps.take i)++(EU p++AS (ps.drop<|i+1)):=by
  rw[Nx h,BH];rfl
 rw[this,BH];rw[<- append_assoc,<- append_assoc];exact List.Perm.append_right _ perm_append_comm
def A9(ps:List (Pl V)):Nat:=ps.countP λp=>decide (p.is_≠0)
theorem Bu{ps:List (Pl V)}{i:Nat}(h:i<ps.length)(p:Pl V)(a:p.is_≠0):A9 (ps.set i p)=A9 ps+(if B0 ps i=0 then 1 else 0):=by
 have b:A9 ps=A9 (ps.take i)+((if B0 ps i=0 then 0 else 1)+A9 (ps.drop<|i+1)):=by
  conv=>lhs;rw[Tg h]
  unfold A9 B0;rw[List.countP_append,countP_cons]
  by_cases c:(ps.getD i default).is_=0 <;> simp[c] <;> omega
 have d:A9 (ps.set i p)=A9 (ps.take i)+(1+A9 (ps.drop<|i+1)):=by
  rw[Nx h];unfold A9;rw[List.countP_append,countP_cons];simp[a];omega
 rw[b,d];split <;> omega
theorem Ad3{ps:List (Pl V)}(h:A9 ps<ps.length):∃i,i<ps.length/\B0 ps i=0:=by
 unfold A9 at h
 induction ps with
 | nil=>simp at h
 | cons p ps b=>
  by_cases a:p.is_=0
  ·exact⟨0,by simp,a⟩
  ·rw[countP_cons,if_pos<|by simp[a]] at h;simp only[length_cons] at h;obtain⟨i,hi,c⟩:=b (by omega);exact⟨i+1,by simpa using hi,c⟩
theorem RR{ps:List (Pl V)}{i j:Nat}(h:i<ps.length)(p:Pl V):B0 (ps.set i p) j=if j=i then p.is_ else B0 ps j:=by
 unfold B0;rw[getD_eq_getElem?_getD,getElem?_set,getD_eq_getElem?_getD]
 by_cases e:i=j
 ·subst e;simp[h]
 ·rw[if_neg e,if_neg<|Ne.symm e]
theorem V9{ps:List (Pl V)}{i j:Nat}(h:i<ps.length)(p:Pl V):DT (ps.set i p) j=if j=i then p.key else DT ps j:=by
 unfold DT;rw[getD_eq_getElem?_getD,getElem?_set,getD_eq_getElem?_getD]
 by_cases e:i=j
 ·subst e;simp[h]
 ·rw[if_neg e,if_neg<|Ne.symm e]
structure Cj(st:BA->Nat)(ps:List (Pl V))(m:List (BA×V)):Prop where
 big:8<=ps.length
 small:ps.length<4611686018427387904
 start:∀k,st k<ps.length
 perm:(AS ps).Perm m
 nodup:(m.map (·.1)).Nodup
 reach:∀i,i<ps.length->B0 ps i=2->∃e,i=(st (DT ps i)+e) % ps.length/\∀e',e'<e->B0 ps ((st (DT ps i)+e') % ps.length)≠0
 room:A9 ps<ps.length
section
variable{st:BA->Nat}{ps:List (Pl V)}{m:List (BA×V)}
theorem Cj.stop(h:Cj st ps m)(k:BA):∃e,e<ps.length/\B0 ps ((st k+e) % ps.length)=0:=by
 obtain⟨i,hi,a⟩:=Ad3 h.room;have hs:=h.start k
 by_cases b:st k<=i
 ·exact⟨i-st k,by omega,by rw[show st k+(i-st k)=i by omega,mod_eq_of_lt hi];exact a⟩
 ·refine⟨i+ps.length-st k,by omega,?_⟩;rw[show st k+(i+ps.length-st k)=i+ps.length by omega,Nat.add_mod_right,mod_eq_of_lt hi];exact a
def AK(st:BA->Nat)(ps:List (Pl V))(k:BA):Nat×Bool:=AF ps k ps.length none (st k)
theorem Av2{i:Nat}(hi:i<ps.length)(a:B0 ps i=2):(DT ps i,(ps.getD i default).v)∈AS ps:=by
 refine(RL hi).symm.subset ?_;have:EU (ps.getD i default)=[(DT ps i,(ps.getD i default).v)]:=Ga a;rw[this];simp
theorem Au5{e:BA×V}(h:e∈AS ps):∃i,i<ps.length/\B0 ps i=2/\DT ps i=e.1/\(ps.getD i default).v=e.2:=by
 unfold AS at h;rw[mem_flatMap] at h;obtain⟨p,c,a⟩:=h;obtain⟨i,hi,rfl⟩:=mem_iff_getElem.1 c;unfold EU at a;split at a
 ·rename_i d;simp only[mem_singleton] at a;have b:ps.getD i default=ps[i]:=by rw[getD_eq_getElem?_getD,getElem?_eq_getElem hi];rfl
  refine⟨i,hi,by unfold B0;rw[b];exact d,by unfold DT;rw[b,a],by rw[b,a]⟩
 ·cases a
def AH(m:List (BA×V))(k:BA):Option V:=(m.find? λe=>decide<|e.1=k).map (·.2)
theorem BM{k:BA}{v:V}(a:(m.map (·.1)).Nodup):AH m k=some v↔(k,v)∈m:=by
 unfold AH
 induction m with
 | nil=>simp
 | cons e m c=>
  simp only[map_cons,nodup_cons] at a;rw[List.find?_cons]
  by_cases b:e.1=k
  ·subst b;simp only[decide_true,map_some,Option.some.injEq];constructor
   ·rintro rfl;simp
   ·intro h;rcases mem_cons.1 h with h|h
    ·exact(congrArg Prod.snd h).symm
    ·exact absurd (mem_map_of_mem (f:=(·.1)) h) a.1
  ·simp only[b,decide_false];rw[c a.2];constructor
   ·exact λh=>mem_cons_of_mem _ h
   ·intro h;rcases mem_cons.1 h with h|h
    ·subst h;exact absurd rfl b
    ·exact h
theorem BC{k:BA}:AH m k=none↔∀e∈m,e.1≠k:=by
 unfold AH;simp
theorem Am8{a:List (BA×V)}(d:(m.map (·.1)).Nodup)(b:m.Perm a)(k:BA):AH m k=AH a k:=by
 have c:(a.map (·.1)).Nodup:=(b.map _).nodup_iff.1 d;cases h:AH m k with
 | some v=>exact((BM c).2 (b.subset<|(BM d).1 h)).symm
 | none=>exact(BC.2 λe f=>BC.1 h e<|b.symm.subset f).symm
theorem Cj.hit(h:Cj st ps m){k:BA}(c:(AK st ps k).2=true):(AK st ps k).1<ps.length/\V6 ps k (AK st ps k).1/\AH m k=some (ps.getD (AK st ps k).1 default).v:=by
 obtain⟨a,b⟩:=KT ps k ps.length none (st k) (h.start k) c;refine⟨b,a,(BM h.nodup).2 ?_⟩;have:=Av2 (i:=(AK st ps k).1) b a.1;rw[show DT ps (AK st ps k).1=k from a.2] at this;exact h.perm.subset this
theorem Cj.miss(h:Cj st ps m){k:BA}(s:(AK st ps k).2=false):(AK st ps k).1<ps.length/\B0 ps (AK st ps k).1≠2/\AH m k=none /\
  ∃e,(AK st ps k).1=(st k+e) % ps.length/\∀c,c<e->B0 ps ((st k+c) % ps.length)≠0:=by
 obtain⟨d,f,o,_,t⟩:=J1 ps k ps.length none (st k) (h.start k) (h.stop k) s;obtain⟨e,A,u,v⟩:=t rfl;have w:0<ps.length:=by have:=h.big;omega
 have b:(AK st ps k).1=(st k+e) % ps.length:=u;refine⟨by rw[b];exact mod_lt _ w,by rw[b];exact v,?_,e,b,λc y=>(o c<|by omega).1⟩
 rw[BC];intro x z p;obtain⟨i,hi,g,q,_⟩:=Au5 (h.perm.symm.subset z);obtain⟨a,j,r⟩:=h.reach i hi g;rw[q,p] at j r
 by_cases l:d<a
 ·exact r d l f
 ·by_cases n:d=a
  ·subst n;rw[<- j,g] at f;cases f
  ·have:=(o a<|by omega).2;rw[<- j] at this;exact this ⟨g,by rw[q,p]⟩
def Fm(m:List (BA×V))(k:BA)(v:V):List (BA×V):=m.map λe=>if e.1=k then (k,v) else e
def BU(m:List (BA×V))(k:BA):List (BA×V):=m.filter λe=>decide (e.1≠k)
def Cw(m:List (BA×V))(k:BA)(v:V):List (BA×V):=match AH m k with
 | some _=>Fm m k v
 | none=>(k,v)::m
theorem Nn(m:List (BA×V))(k:BA)(v:V):(Fm m k v).map (·.1)=m.map (·.1):=by
 unfold Fm;rw[map_map];apply map_congr_left;intro e _;simp only[Function.comp];split
 ·rename_i h;exact h.symm
 ·rfl
theorem Ac3{j:Nat}{k:BA}(c:j<ps.length)(a:V6 ps k j)(d:(AS ps).Perm m):((k,(ps.getD j default).v)::AS (ps.take j++ps.drop (j+1))).Perm m:=by
 have b:=(RL c).symm.trans d;have:EU (ps.getD j default)=[(k,(ps.getD j default).v)]:=by rw[<- a.2];exact Ga a.1
 rw[this] at b;exact b
theorem Cj.set(h:Cj st ps m){k:BA}{v:V}{j:Nat}(b:j<ps.length)(a:V6 ps k j):Cj st (ps.set j { ps.getD j default with v:=v }) (Fm m k v):=by
 have l:=Ac3 b a h.perm;have n:=(l.map (·.1)).nodup_iff.2 h.nodup;simp only[map_cons,nodup_cons] at n;have c:(AS<|ps.set j { ps.getD j default with v:=v }).Perm ((k,v)::AS (ps.take j++ps.drop (j+1))):=by
  have:=MZ b { ps.getD j default with v:=v };have e:EU { ps.getD j default with v:=v }=[(k,v)]:=by rw[<- a.2];exact Ga (p:={ ps.getD j default with v:=v }) a.1
  rw[e] at this;exact this
 have q:(Fm m k v).Perm ((k,v)::AS (ps.take j++ps.drop (j+1))):=by
  have r:(Fm m k v).Perm (Fm ((k,(ps.getD j default).v)::AS (ps.take j++ps.drop (j+1))) k v):=(l.map _).symm;refine r.trans ?_;unfold Fm;rw[map_cons,if_pos rfl];rw[map_congr_left (g:=id)<|λe s=>?_,map_id];rw[if_neg];rfl
  intro f;exact n.1 (by rw[<- f];exact mem_map_of_mem s)
 have hi:∀x,B0 (ps.set j { ps.getD j default with v:=v }) x=B0 ps x:=by
  intro x;rw[RR b];split
  ·rename_i e;subst e;rfl
  ·rfl
 have f:∀x,DT (ps.set j { ps.getD j default with v:=v }) x=DT ps x:=by
  intro x;rw[V9 b];split
  ·rename_i e;subst e;rfl
  ·rfl
 refine⟨by rw[length_set];exact h.big,by rw[length_set];exact h.small,by rw[length_set];exact h.start,c.trans q.symm,by rw[Nn];exact h.nodup,?_,?_⟩
 ·intro i d o;rw[length_set] at d ⊢;rw[hi] at o;simp only[hi,f];exact h.reach i d o
 ·rw[Bu b _<|by show B0 ps j≠0;rw[a.1];decide,length_set,if_neg<|by rw[a.1];decide];exact h.room
theorem Wg{p:Pl V}{j:Nat}(h:Cj st ps m)(g:j<ps.length)(n:p.is_≠0)(d:p.is_=2->∃e,j=(st p.key+e) % ps.length/\∀a,a<e->B0 ps ((st p.key+a) % ps.length)≠0) :
  ∀i,i<(ps.set j p).length->B0 (ps.set j p) i=2->∃e,i=(st (DT (ps.set j p) i)+e) % (ps.set j p).length/\∀a,a<e->B0 (ps.set j p) ((st (DT (ps.set j p) i)+a) % (ps.set j p).length)≠0:=by
 intro i hi f;rw[length_set] at hi ⊢;have b:∀x,B0 ps x≠0->B0 (ps.set j p) x≠0:=by
  intro x o;rw[RR g];split
  ·exact n
  ·exact o
 rw[RR g] at f;rw[V9 g]
 by_cases e:i=j
 ·subst e;rw[if_pos rfl] at f ⊢;obtain⟨e,k,l⟩:=d f;exact⟨e,k,λa c=>b _<|l a c⟩
 ·rw[if_neg e] at f ⊢;obtain⟨e,k,l⟩:=h.reach i hi f;exact⟨e,k,λa c=>b _<|l a c⟩
theorem Cj.add(h:Cj st ps m){k:BA}{v:V}{j:Nat}(b:j<ps.length)(n:B0 ps j≠2)(c:AH m k=none)
  (o:∃e,j=(st k+e) % ps.length/\∀f,f<e->B0 ps ((st k+f) % ps.length)≠0) (d:A9 ps+1<ps.length):Cj st (ps.set j ⟨2,k,v⟩) ((k,v)::m):=by
 have a:(AS<|ps.set j ⟨2,k,v⟩).Perm ((k,v)::m):=by
  have g:=MZ b (⟨2,k,v⟩:Pl V);have i:=(RL b).symm.trans h.perm;have p:EU (⟨2,k,v⟩:Pl V)=[(k,v)]:=rfl;have q:EU (ps.getD j default)=[]:=Io n;rw[p] at g;rw[q,List.nil_append] at i;exact g.trans (List.Perm.cons _ i)
 refine⟨by rw[length_set];exact h.big,by rw[length_set];exact h.small,by rw[length_set];exact h.start,a,?_,Wg h b (by show(2:Int)≠0;decide)<|λ_=>o,?_⟩
 ·rw[map_cons,nodup_cons];refine⟨λl=>?_,h.nodup⟩;rw[mem_map] at l;obtain⟨e,r,s⟩:=l;exact BC.1 c e r s
 ·rw[Bu b _<|by show(2:Int)≠0;decide,length_set];split <;> omega
theorem Cj.del(h:Cj st ps m){k:BA}{z:Pl V}{j:Nat}(hj:j<ps.length)(hit:V6 ps k j)(hz:z.is_=1):Cj st (ps.set j z) (BU m k):=by
 have h0:=Ac3 hj hit h.perm;have hn:=(h0.map (·.1)).nodup_iff.2 h.nodup;simp only[map_cons,nodup_cons] at hn;have hset:(AS (ps.set j z)).Perm (AS (ps.take j++ps.drop (j+1))):=by
  have:=MZ hj z;have e:EU z=[]:=by unfold EU;rw[if_neg (by rw[hz];decide)]
  rw[e] at this;exact this
 have hm:(BU m k).Perm (AS (ps.take j++ps.drop (j+1))):=by
  have h1:(BU m k).Perm (BU ((k,(ps.getD j default).v)::AS (ps.take j++ps.drop (j+1))) k):=(h0.filter _).symm;refine h1.trans ?_;unfold BU;rw[List.filter_cons_of_neg (by simp)];rw[filter_eq_self.2];intro e he;simp only[ne_eq,decide_not,not_eq_eq_eq_not,Bool.not_true,decide_eq_false_iff_not];intro hk;exact hn.1 (by rw[<- hk];exact mem_map_of_mem he)
 refine⟨by rw[length_set];exact h.big,by rw[length_set];exact h.small,by rw[length_set];exact h.start,hset.trans hm.symm,?_,Wg h hj (by rw[hz];decide) (λh2=>by rw[hz] at h2;cases h2),?_⟩
 ·exact(List.Nodup.sublist ((filter_sublist).map _) h.nodup)
 ·rw[Bu hj _ (by rw[hz];decide),length_set,if_neg (by rw[hit.1];decide)];exact h.room
theorem Mo(c:(m.map (·.1)).Nodup){k:BA}{v:V}(h:AH m k=some v):(BU m k).length+1=m.length:=by
 have f:=(BM c).1 h;obtain⟨a,b,rfl⟩:=List.append_of_mem f;unfold BU;simp only[map_append,map_cons] at c;rw[nodup_append] at c;simp only[nodup_cons] at c;rw[filter_append,List.filter_cons_of_neg<|by simp,filter_eq_self.2,filter_eq_self.2]
 ·simp;omega
 ·intro e d;simp only[ne_eq,decide_not,not_eq_eq_eq_not,Bool.not_true,decide_eq_false_iff_not];rintro rfl;exact c.2.1.1 (mem_map_of_mem d)
 ·intro e d;simp only[ne_eq,decide_not,not_eq_eq_eq_not,Bool.not_true,decide_eq_false_iff_not];rintro rfl;exact c.2.2 _ (mem_map_of_mem d) e.1 (by simp) rfl
theorem Cj.new{n:Nat}{z:Pl V}(c:z.is_=0)(f:8<=n)(g:n<4611686018427387904)(d:∀k,st k<n):Cj st (replicate n z) []:=by
 have h:A9 (replicate n z)=0:=by
  unfold A9;rw[List.countP_eq_zero]
  intro a e;rw[List.eq_of_mem_replicate e];simp[c]
 refine⟨by simpa using f,by simpa using g,by simpa using d,?_,by simp,?_,by rw[h];simp;omega⟩
 ·have:AS (replicate n z)=[]:=by
   unfold AS;rw[List.flatMap_eq_nil_iff]
   intro a e;rw[List.eq_of_mem_replicate e];unfold EU;rw[if_neg<|by rw[c];decide]
  rw[this]
 ·intro i hi b;rw[List.length_replicate] at hi;unfold B0 at b;rw[getD_eq_getElem?_getD,getElem?_eq_getElem<|by simpa using hi] at b;simp only[List.getElem_replicate,Option.getD_some,c] at b;cases b
end
end
end Go.Hb
namespace Go.Hb
def Agw(x0:Int):Int:=
 (bits .xor .u64 (wrap .u64<|(bits .xor .u64 (wrap .u64<|(bits .xor .u64 x0<|CV .u64 x0 (30:Int))*(13787848793156543929:Int))<|CV .u64 (wrap .u64<|(bits .xor .u64 x0<|CV .u64 x0 (30:Int))*(13787848793156543929:Int)) (27:Int))*(10723151780598845931:Int))<|CV .u64 (wrap .u64<|(bits .xor .u64 (wrap .u64<|(bits .xor .u64 x0<|CV .u64 x0 (30:Int))*(13787848793156543929:Int))<|CV .u64 (wrap .u64<|(bits .xor .u64 x0<|CV .u64 x0 (30:Int))*(13787848793156543929:Int)) (27:Int))*(10723151780598845931:Int)) (31:Int))
theorem Ajy(x:Int):0<=Agw x/\Agw x<=18446744073709551615:=by
 have h:(Lit.int .u64<|Agw x).wf=true:=wf_bits _ _ _ _;generalize Agw x=n at h;simpa[Lit.wf,IntKind.min,IntKind.max,signed,IntKind.bits] using h
def RP(s:BA):Nat->Nat->Int->Int
 | 0,_,h=>h
 | m+1,i,h=>RP s m (i+1) (Agw<|wrap .u64<|(bits .xor .u64 h<|wrap .u64<|Bc s i)+(11400714819323198485:Int))
def Ab5(a:Int)(s:BA):Int:=RP s s.size 0 (Agw<|bits .xor .u64 a<|wrap .u64 (s.size:Int))
noncomputable def Fw(a:Int)(s:BA):Int:=Classical.choose (⟨Ab5 a s,rfl⟩:∃x,x=Ab5 a s)
theorem Ab4(a:Int)(s:BA):Fw a s=Ab5 a s:=Classical.choose_spec (⟨Ab5 a s,rfl⟩:∃x,x=Ab5 a s)
theorem V5(s:BA):∀(m i:Nat)(h:Int),(0<=h/\h<=18446744073709551615)->0<=RP s m i h/\RP s m i h<=18446744073709551615
 | 0,_,_,h=>h
 | m+1,i,_,_=>V5 s m (i+1) _ (Ajy _)
theorem GH(a:Int)(s:BA):0<=Fw a s/\Fw a s<=18446744073709551615:=by
 rw[Ab4];exact V5 s _ _ _ (Ajy _)
noncomputable def A2(a:Int)(n:Nat)(k:BA):Nat:=(Fw a k).toNat % n
theorem Kw(a:Int)(n:Nat)(k:BA):(Fw a k).toNat % n=A2 a n k:=by unfold A2;rfl
theorem CY{a:Int}{n:Nat}(h:0<n)(k:BA):A2 a n k<n:=mod_lt _ h
def Ap.ii:Ap (Int×Int):=⟨2,λv=>[.i v.1,.i v.2],λ_=>rfl⟩
def Ap.iii:Ap (Int×Int×Int):=⟨3,λv=>[.i v.1,.i v.2.1,.i v.2.2],λ_=>rfl⟩
def Ap.si:Ap (BA×Int):=⟨2,λv=>[.s v.1,.i v.2],λ_=>rfl⟩
def MY:Option Nat->Int
 | some j=>(j:Int)
 | none=>-1
theorem Hk(f:Option Nat):MY f<0↔f=none:=by
 cases f with
 | none=>simp[MY]
 | some j=>simp[MY]
section
variable{V:Type}[Inhabited V]
noncomputable def ixr(e:Ap V)(b:Nat)(d:Int)(m:List (BA×V)):HP:=
 Ly λ(x:Sl×List (Pl V))=>Fs (Cj (A2 d x.2.length) x.2 m/\2*A9 x.2<=x.2.length)
  (AN [blk b [.int .u64 d,.l x.1.a x.1.n x.1.c,.i (m.length:Int),.i (A9 x.2:Int)],recs (C7 e) x.1 x.2])
variable{RV:Ap V}{b:Nat}{seed:Int}{m:List (BA×V)}{W w:World}{M L:List HP}
instance At.ixr:At (ixr RV b seed m::L) b (ixr RV b seed m) (λx=>x::L):=⟨E7⟩
theorem CG(h:Ab W w (ixr RV b seed m::M)):∃(s:Sl) (ps:List (Pl V)),Cj (A2 seed ps.length) ps m/\2*A9 ps<=ps.length/\s.n=ps.length /\
  Ab W w (blk b [.int .u64 seed,.l s.a s.n s.c,.i (m.length:Int),.i (A9 ps:Int)]::recs (C7 RV) s ps::M):=by
 obtain⟨⟨s,ps⟩,h⟩:=h.openE;obtain⟨⟨d,e⟩,h⟩:=h.openA;have h:=h.openL;have h:Ab W w (blk b [.int .u64 seed,.l s.a s.n s.c,.i (m.length:Int),.i (A9 ps:Int)]::recs (C7 RV) s ps::M):=h;exact⟨s,ps,d,e,(BE (s:=s) h<|HQ.pos).1,h⟩
theorem Bd(s:Sl){ps:List (Pl V)}{n u:Int}(d:Cj (A2 seed ps.length) ps m)(e:2*A9 ps<=ps.length)(f:n=m.length)(g:u=A9 ps)
  (h:Ab W w (blk b [.int .u64 seed,.l s.a s.n s.c,.i n,.i u]::recs (C7 RV) s ps::M)):Ab W w (ixr RV b seed m::M):=by
 subst f g;exact Ab.shutE (s,ps) (Ab.shutA ⟨d,e⟩<|Ab.shutL (Ps:=[_,_]) h)
theorem Cj.perm'{st:BA->Nat}{ps:List (Pl V)}{m a:List (BA×V)}(h:Cj st ps m)(b:m.Perm a):Cj st ps a:=
 ⟨h.big,h.small,h.start,h.perm.trans b,(b.map _).nodup_iff.1 h.nodup,h.reach,h.room⟩
theorem Avg{a:List (BA×V)}(c:m.Perm a)(h:Ab W w (ixr RV b seed m::M)):Ab W w (ixr RV b seed a::M):=by
 obtain⟨s,ps,d,e,_,h⟩:=CG h;exact Bd s (d.perm' c) e (by rw[c.length_eq]) rfl h
theorem Amr(h:Ab W w (ixr RV b seed m::M)):(m.map (·.1)).Nodup:=by
 obtain⟨s,ps,a,_⟩:=CG h;exact a.nodup
theorem El{a:Type}(E:Ap a)(z:a):∀n,CH (E.cells z) n=E.flat (replicate n z)
 | 0=>rfl
 | n+1=>by rw[CH,El E z n,List.replicate_succ];rfl
theorem YC{J:Type}[Inhabited J]{E:Ap J}{b o i n j:Nat}{s:Sl}{rows:List J}{F:HP->List HP}{vs pre mid tl:List Value}{a':J}{K:WP}(h:Ab W w L)[hA:At L b (reca E b o s rows) F](k:n=E.sz)(hi:i<rows.length)
  (u:E.cells (rows.getD i default)=pre++mid++tl) (v:pre.length=j) (x:mid.length=vs.length) (l:E.cells a'=pre++vs++tl) (y:∀w',Ab W w' (F<|reca E b o s<|rows.set i a')->K w'):T7 vs b (o+i*n+j) K w:=by
 subst k v;refine At.one (hA:=hA) h λM h z=>?_;have d:s.a=some ⟨b,o,none⟩:=h.pure (q:=0) rfl λ_ e=>e.1;have A:=h.turn (q:=0) (p':=recs E s rows) rfl λ_ e=>e.2;obtain⟨pr,c,t,B,k,C,f⟩:=A.openS (q:=0) rfl d;have f:Ab W w (blk b (pr++E.flat rows++c)::M):=f;have D:rows=rows.take i++rows.getD i default::rows.drop (i+1):=Tg hi;have m:E.flat rows=E.flat (rows.take i)++(E.cells (rows.getD i default)++E.flat (rows.drop<|i+1)):=by
  have h:=congrArg E.flat D;rw[Ap.flat_append] at h;exact h
 have p:E.flat (rows.set i a')=E.flat (rows.take i)++(E.cells a'++E.flat (rows.drop<|i+1)):=by
  rw[Nx hi,Ap.flat_append];rfl
 rw[m,u] at f;have G:pr++(E.flat (rows.take i)++(pre++mid++tl++E.flat (rows.drop<|i+1)))++c=(pr++E.flat (rows.take i)++pre)++mid++(tl++E.flat (rows.drop<|i+1)++c):=by simp only[append_assoc]
 have H:pr++(E.flat (rows.take i)++(pre++vs++tl++E.flat (rows.drop<|i+1)))++c=(pr++E.flat (rows.take i)++pre)++vs++(tl++E.flat (rows.drop<|i+1)++c):=by simp only[append_assoc]
 rw[G] at f;have r:(pr++E.flat (rows.take i)++pre).length=o+i*E.sz+pre.length:=by
  rw[length_append,length_append,t,Ap.flat_length,length_take,min_eq_left<|by omega]
 rw[<- r];refine QX 0 vs w _ _ mid _ K f rfl x λw' g=>y w' (z _ _ ?_);have g:Ab W w' (blk b ((pr++E.flat (rows.take i)++pre)++vs++(tl++E.flat (rows.drop<|i+1)++c))::M):=g;rw[<- H,<- l,<- p] at g;have I:=g.shutS (q:=0) (s:=s) (sz:=E.sz) rfl d t (by rw[Ap.flat_length,length_set,<- Ap.flat_length];exact B) k C
 exact I.turn (q:=0) rfl λ_ e=>⟨d,e⟩
end
end Go.Hb
namespace Go.Hb
open Go.Sort Go.Proofs
section
variable{W0 w w':World}{L M:List HP}{F:HP->List HP}{b:Nat}
theorem Ab.write{cs d:List Value}(h:Ab W0 w (blk b cs::M))(m:w'.os=w.os)(n:w'.output=w.output)(f:∀x o,x≠b->w.heap[x]? = some o->w'.heap[x]? = some o)
  (p:∀T fr,w.heap[b]? = some (.cells cs.toArray T fr)->w'.heap[b]? = some (.cells d.toArray T fr)) (v:d.length=cs.length):Ab W0 w' (blk b d::M):=by
 obtain⟨z,q,r,j,hc,⟨T,lo,hi,k,s⟩,t⟩:=h.st;have l:w.heap[b]? = some (.cells cs.toArray T (lo,hi)):=r _ _ k;have g:=p _ _ l;refine⟨by rw[m];exact h.os,by rw[n];exact h.out,λx=>if x=b then some (.cells d.toArray T (lo,hi)) else none,q,λx y e=>?_,λx y e=>?_,λx=>?_,⟨T,lo,hi,by simp,λi u=>s i<|by omega⟩,t⟩
 ·simp only at e;split at e
  ·rename_i a;subst a;cases e;exact g
  ·cases e
 ·have a:x≠b:=by
   intro a;subst a
   rcases hc x with c|c
   ·rw[k] at c;cases c
   ·rw[e] at c;cases c
  exact f x y a (j _ _ e)
 ·simp only
  by_cases a:x=b
  ·subst a;rcases hc x with c|c
   ·rw[k] at c;cases c
   ·exact .inr c
  ·left;rw[if_neg a]
def HL(k:BA):List UInt8:=k.data.toList
def txB(l:List UInt8):BA:=⟨l.toArray⟩
theorem Akv(k:BA):txB (HL k)=k:=by unfold txB HL;simp
theorem A7j(l:List UInt8):HL (txB l)=l:=by unfold txB HL;simp
def Fq(l:List BA):List BA:=((l.map HL).mergeSort λx y=>decide<|x<=y).map txB
theorem Amo(l:List (List UInt8)):Ap.str.flat (l.map txB)=l.map encStr:=by
 unfold Ap.flat Ap.str
 induction l with
 | nil=>rfl
 | cons x l a=>simp only[map_cons,flatten_cons];rw[a];rfl
theorem A5l{pre cs tl:List Value}{d:List (List UInt8)}(b:d.length=cs.length):putCells encStr pre.length d.toArray (pre++cs++tl).toArray=(pre++d.map encStr++tl).toArray:=by
 unfold putCells;apply ext_getElem?;intro i;simp only[getElem?_mapIdx,List.getElem?_toArray,size_toArray]
 by_cases a:i<pre.length
 ·rw[getElem?_append_left<|by simp;omega,getElem?_append_left a,getElem?_append_left<|by simp;omega,getElem?_append_left a,getElem?_eq_getElem a];simp only[map_some];rw[if_neg<|by omega]
 ·by_cases c:i<pre.length+cs.length
  ·rw[getElem?_append_left<|by simp;omega,getElem?_append_right<|by omega,getElem?_append_left<|by simp;omega,getElem?_append_right<|by omega,getElem?_eq_getElem<|by omega,getElem?_map,getElem?_eq_getElem<|by omega];simp only[map_some];rw[if_pos<|by omega,getElem!_pos _ _<|by simp;omega]
   simp
  ·rw[getElem?_append_right<|by simp;omega,getElem?_append_right<|by simp;omega];simp only[length_append,length_map,b];cases tl[i-(pre.length+cs.length)]? with
   | none=>rfl
   | some v=>simp only[map_some];rw[if_neg<|by omega]
theorem An8{P:Program}{f:FuncId}{s:Sl}{keys:List BA}
  (hC:∀(blk off cap:Nat)(ss:List (List UInt8))(w:World),Holds encStr w blk off ss.toArray->blk<w.heap.size->ss.length<4611686018427387904 ->
   Ai P f #[.l (some ⟨blk,off,none⟩) ss.length cap] w λe w'=>e = .returned (.tuple #[])/\∃n os,w'=grow (putRow encStr (Sort.ahead w n) blk off (ss.mergeSort λx y=>decide (x<=y)).toArray) os)
  (hN:∀(cap:Nat)(w:World),Ai P f #[.l none 0 cap] w λe w'=>e = .returned (.tuple #[])/\w'=w)
  (h:Ab W0 w L) [hA:K5 L s (recs Ap.str s keys) F] (hk:keys.length<4611686018427387904):Ai P f #[.l s.a s.n s.c] w λe w'=>e = .returned (.tuple #[])/\Ab W0 w' (F (recs Ap.str s (Fq keys))):=by
 have hn:=(BE (hA:=hA) h).1;refine K5.one (hA:=hA) h λM h hb=>?_;obtain⟨g,_,⟨h1,h2⟩,h3⟩:=h.get (q:=0) rfl;have hsl:(Fq keys).length=keys.length:=by simp[Fq]
 rcases h3 with⟨ha,hn0,_⟩|⟨b,o,pre0,tl0,ha,_⟩
 ·have hk0:keys=[]:=length_eq_zero_iff.1 (by omega);subst hk0;rw[ha,hn0];exact(hN _ w).mono λe w' ⟨he,hw⟩=>⟨he,by subst hw;rw[show Fq []=[] by simp[Fq]];exact hb _ _ h⟩
 ·obtain⟨pre,tl,hp,hl,hsn,ht,h4⟩:=Ab.openS (q:=0) h rfl ha;subst hp;have h4:Ab W0 w (blk b (pre++Ap.str.flat keys++tl)::M):=h4;have hfl:(Ap.str.flat keys).length=keys.length:=by rw[Ap.flat_length];simp[Ap.str]
  have hblk:b<w.heap.size:=by
   obtain⟨g,hg,T,lo,hi,hb0,_⟩:=h4.get (q:=0) rfl;exact(Array.getElem?_eq_some_iff.1 (hg _ _ hb0)).1
  have hH:Holds encStr w b pre.length (keys.map HL).toArray:=by
   intro j hj;have hj:j<keys.length:=by simpa using hj
   refine⟨?_,h4.frozen (q:=0) rfl (by simp[hfl];omega)⟩;rw[h4.cell (q:=0) rfl,append_assoc,getElem?_append_right (by omega),getElem?_append_left (by rw[hfl];omega)]
   have:=Ap.flat_get (E:=Ap.str) (rows:=keys) (i:=j) (j:=0) (getElem?_eq_getElem hj) (by decide);have hj2:j*Ap.str.sz+0=j:=by show j*1+0=j;omega
   rw[hj2] at this;rw[Nat.add_sub_cancel_left,this,getElem!_pos _ _ (by simpa using hj)];simp only[List.getElem_toArray,List.getElem_map];show some (Value.string keys[j])=some (Value.string (txB (HL keys[j])));rw[Akv]
  rw[ha,hn,<- length_map (f:=HL)];refine(hC b pre.length s.c (keys.map HL) w hH hblk (by simpa using hk)).mono λe w' ⟨he,n,os,hw⟩=>⟨he,?_⟩;have hd:((keys.map HL).mergeSort λx y=>decide (x<=y)).length=(Ap.str.flat keys).length:=by simp[hfl]
  have h5:Ab W0 w' (blk b (pre++((keys.map HL).mergeSort λx y=>decide (x<=y)).map encStr++tl)::M):=by
   subst hw;refine Ab.write h4 rfl rfl (λx o hx ho=>?_) (λT fr hT=>?_) (by simp[hfl])
   ·unfold grow putRow mapBlock;simp only[Sort.ahead];have hlt:=(Array.getElem?_eq_some_iff.1 ho).1;rw[Array.getElem?_append_left (by simpa using hlt),getElem?_modify,if_neg (Ne.symm hx)];exact ho
   ·unfold grow putRow mapBlock;simp only[Sort.ahead];rw[Array.getElem?_append_left (by simpa using hblk),getElem?_modify,if_pos rfl,hT];simp only[map_some,onCells];rw[A5l hd]
  rw[<- Amo] at h5;have h6:=h5.shutS (q:=0) (s:=s) (sz:=1) rfl ha rfl (by show(Ap.str.flat (Fq keys)).length=_;rw[Ap.flat_length,hsl,hn];rfl) hsn ht
  exact hb _ _ h6
end
theorem Awy(a b:BA):sLt a b=decide (HL a<HL b):=by
 unfold sLt HL;rw[ByteArray.toList_eq,ByteArray.toList_eq,bytesLess_eq]
theorem Akw{a b:BA}(h:HL a=HL b):a=b:=by
 rw[<- Akv a,<- Akv b,h]
def EL(l:List BA):Prop:=l.Pairwise λa b=>HL a<HL b
theorem EL.nodup{l:List BA}(h:EL l):l.Nodup:=by
 refine List.Pairwise.imp (λ{a b} c=>?_) h;rintro rfl;exact absurd c (lt_irrefl _)
theorem GQ:∀{l d:List BA},l.Pairwise (λa b=>HL a<=HL b)->d.Pairwise (λa b=>HL a<=HL b)->l.Perm d->l=d
 | [],d,_,_,c=>(List.nil_perm.1 c).symm
 | a::l,[],_,_,c=>absurd c.symm (by simp)
 | a::l,b::d,h,e,c=>by
  simp only[pairwise_cons] at h e;have f:HL a=HL b:=by
   have g:b∈a::l:=c.symm.subset (by simp);have i:a∈b::d:=c.subset (by simp);have j:HL a<=HL b:=by
    rcases mem_cons.1 g with rfl|g
    ·exact le_refl _
    ·exact h.1 b g
   have k:HL b<=HL a:=by
    rcases mem_cons.1 i with rfl|i
    ·exact le_refl _
    ·exact e.1 a i
   exact List.le_antisymm j k
  have:=Akw f;subst this;rw[GQ h.2 e.2<|List.Perm.cons_inv c]
theorem Lq(l:List BA):(Fq l).Perm l:=by
 unfold Fq;have:=(List.mergeSort_perm (l.map HL) λx y=>decide<|x<=y).map txB;refine this.trans ?_;have e:(l.map HL).map txB=l:=by
  rw[map_map];conv=>rhs;rw[<- map_id l]
  exact map_congr_left λa _=>Akv a
 rw[e]
theorem IZ(l:List BA):(Fq l).Pairwise λa b=>HL a<=HL b:=by
 unfold Fq;rw[List.pairwise_map];have:=List.pairwise_mergeSort (le:=λx y:List UInt8=>decide<|x<=y) (λa b c d e=>by simp only[decide_eq_true_eq] at *;exact List.le_trans d e) (λa b=>by simp only[Bool.or_eq_true,decide_eq_true_eq];exact List.le_total a b) (l.map HL)
 refine List.Pairwise.imp (λ{a b} h=>?_) this;rw[A7j,A7j];simpa using h
theorem EL.le{l:List BA}(h:EL l):l.Pairwise λa b=>HL a<=HL b:=List.Pairwise.imp (λ{a b} h=>List.le_of_lt h) h
theorem Aw9{l r:List BA}(a:l.Perm r)(b:EL r):Fq l=r:=GQ (IZ l) b.le ((Lq l).trans a)
end Go.Hb
namespace Go.Hb
section
variable{V:Type}[Inhabited V]
def TY:List (BA×V)->BA->Nat×Bool
 | [],_=>(0,false)
 | e::r,k=>if sLt e.1 k then ((TY r k).1+1,(TY r k).2) else (0,decide<|e.1=k)
def Ce(m:List (BA×V)):Prop:=EL (m.map (·.1))
theorem Ce.nodup{m:List (BA×V)}(h:Ce m):(m.map (·.1)).Nodup:=EL.nodup h
theorem Ce.tail{e:BA×V}{m:List (BA×V)}(h:Ce (e::m)):Ce m:=by
 unfold Ce EL at h ⊢;simp only[map_cons,pairwise_cons] at h;exact h.2
theorem Ju:∀{m:List (BA×V)}{k:BA},(TY m k).2=true->∃v,m[(TY m k).1]? = some (k,v)
 | [],_,h=>by cases h
 | e::r,k,h=>by
  unfold TY at h ⊢;split at h
  ·rename_i a;rw[if_pos a];obtain⟨v,b⟩:=Ju h;exact⟨v,by simpa using b⟩
  ·rename_i a;rw[if_neg a];simp only[decide_eq_true_eq] at h;exact⟨e.2,by simp[<- h]⟩
theorem Am7{a k:BA}(b:sLt a k=false)(c:a≠k):HL k<HL a:=by
 rw[Awy] at b;have d:HL k<=HL a:=by simpa using b
 rcases List.le_iff_lt_or_eq.1 d with h|h
 ·exact h
 ·exact absurd (Akw h).symm c
theorem JY:∀{m:List (BA×V)}{k:BA},Ce m->(TY m k).2=false->(∀e∈m,e.1≠k)/\∀v,Ce (m.take (TY m k).1++(k,v)::m.drop (TY m k).1)
 | [],_,_,_=>⟨(λ_ h=>by cases h),λv=>by simp[Ce,EL,TY]⟩
 | e::r,k,c,h=>by
  unfold TY at h ⊢;split at h
  ·rename_i f;rw[if_pos f];obtain⟨j,l⟩:=JY c.tail h;have b:HL e.1<HL k:=by rw[Awy] at f;simpa using f
   refine⟨λx a=>?_,λv=>?_⟩
   ·rcases mem_cons.1 a with rfl|a
    ·intro g;rw[g] at b;exact absurd b (lt_irrefl _)
    ·exact j x a
   ·have i:=l v;unfold Ce EL at i c ⊢;simp only[List.take_succ_cons,List.drop_succ_cons,cons_append,map_cons,pairwise_cons] at c ⊢;refine⟨λx a=>?_,i⟩;simp only[map_append,map_cons,mem_append,mem_cons] at a;rcases a with a|a|a
    ·exact c.1 x (((List.take_sublist _ _).map _).subset a)
    ·rw[a];exact b
    ·exact c.1 x (((drop_sublist _ _).map _).subset a)
  ·rename_i f;rw[if_neg f];simp only[decide_eq_false_iff_not] at h;have b:=Am7 (by simpa using f) h;have d:∀x∈(e::r).map (·.1),HL k<HL x:=by
    intro x a;rw[map_cons,mem_cons] at a;rcases a with rfl|a
    ·exact b
    ·unfold Ce EL at c;simp only[map_cons,pairwise_cons] at c;exact List.lt_trans b (c.1 x a)
   refine⟨λx a g=>?_,λv=>?_⟩
   ·have:=d x.1 (mem_map_of_mem a);rw[g] at this;exact absurd this (lt_irrefl _)
   ·show Ce ((k,v)::e::r);unfold Ce EL at c ⊢;rw[map_cons,pairwise_cons];exact⟨d,c⟩
theorem Ajx{m:List (BA×V)}{k:BA}(a:Ce m):AH m k=if (TY m k).2 then (m[(TY m k).1]?).map (·.2) else none:=by
 cases h:(TY m k).2 with
 | true=>
  obtain⟨v,b⟩:=Ju h;rw[b];exact(BM a.nodup).2 (mem_of_getElem? b)
 | false=>exact BC.2 (JY a h).1
theorem Yh{m:List (BA×V)}{i:Nat}{k:BA}{v u:V}(h:m[i]? = some (k,v)):(m.set i (k,u)).map (·.1)=m.map (·.1):=by
 obtain⟨a,b⟩:=List.getElem?_eq_some_iff.1 h;rw[map_set];apply List.ext_getElem?;intro j;rw[getElem?_set];split
 ·rename_i h;subst h;simp[a,b]
 ·rfl
theorem Awr{m:List (BA×V)}{i:Nat}{k:BA}{v u:V}(a:Ce m)(h:m[i]? = some (k,v)):Ce (m.set i (k,u)):=by
 unfold Ce;rw[Yh h];exact a
theorem Adp{m:List (BA×V)}{i:Nat}{k:BA}{v u:V}(f:(m.map (·.1)).Nodup)(h:m[i]? = some (k,v)):m.set i (k,u)=Fm m k u:=by
 obtain⟨a,b⟩:=List.getElem?_eq_some_iff.1 h;unfold Fm;apply List.ext_getElem?;intro j;rw[getElem?_set,getElem?_map]
 by_cases e:i=j
 ·subst e;simp[a,b]
 ·rw[if_neg e];cases g:m[j]? with
  | none=>rfl
  | some x=>
   simp only[map_some];rw[if_neg];intro l;obtain⟨c,d⟩:=List.getElem?_eq_some_iff.1 g;have:(m.map (·.1))[i]? = (m.map (·.1))[j]?:=by simp[a,c,b,d,l]
   exact e ((List.getElem?_inj (by simpa using a) f).1 this)
theorem HD{m:List (BA×V)}{i:Nat}{k:BA}{v:V}(a:(m.map (·.1)).Nodup)(h:m[i]? = some (k,v)):m.eraseIdx i=BU m k:=by
 obtain⟨d,b⟩:=List.getElem?_eq_some_iff.1 h;have hs:m=m.take i++(k,v)::m.drop (i+1):=by rw[<- b];simp
 rw[List.eraseIdx_eq_take_drop_succ];unfold BU
 conv=>rhs;rw[hs]
 rw[hs] at a;simp only[map_append,map_cons] at a;rw[nodup_append] at a;simp only[nodup_cons] at a;rw[filter_append,List.filter_cons_of_neg<|by simp,filter_eq_self.2,filter_eq_self.2]
 ·intro e c;simp only[ne_eq,decide_not,not_eq_eq_eq_not,Bool.not_true,decide_eq_false_iff_not];rintro rfl;exact a.2.1.1 (mem_map_of_mem c)
 ·intro e c;simp only[ne_eq,decide_not,not_eq_eq_eq_not,Bool.not_true,decide_eq_false_iff_not];rintro rfl;exact a.2.2 _ (mem_map_of_mem c) e.1 (by simp) rfl
def Ip(m:List (BA×V))(k:BA)(v:V):List (BA×V):=if (TY m k).2 then m.set (TY m k).1 (k,v) else m.take (TY m k).1++(k,v)::m.drop (TY m k).1
theorem Kq{m:List (BA×V)}{k:BA}{v:V}(a:Ce m):Ce (Ip m k v):=by
 unfold Ip;split
 ·rename_i h;obtain⟨u,b⟩:=Ju h;exact Awr a b
 ·rename_i h;exact(JY a<|by simpa using h).2 v
theorem Kp{m:List (BA×V)}{k:BA}{v:V}(a:Ce m):(Ip m k v).Perm (Cw m k v):=by
 unfold Ip Cw;cases h:(TY m k).2 with
 | true=>
  obtain⟨u,c⟩:=Ju h;have b:AH m k=some u:=by rw[Ajx a,h,c];rfl
  rw[b];simp only[if_true];rw[Adp a.nodup c]
 | false=>
  have b:AH m k=none:=by rw[Ajx a,h];rfl
  rw[b];simp only[Bool.false_eq_true,if_false];refine perm_middle.trans ?_;rw[take_append_drop]
def FD(m:List (BA×V))(k:BA):List (BA×V):=if (TY m k).2 then m.eraseIdx (TY m k).1 else m
theorem FQ{m:List (BA×V)}{k:BA}(a:Ce m):FD m k=BU m k:=by
 unfold FD;split
 ·rename_i h;obtain⟨u,b⟩:=Ju h;exact HD a.nodup b
 ·rename_i h;have:=(JY a<|by simpa using h).1;unfold BU;rw[filter_eq_self.2];intro e c;simpa using this e c
theorem Nv{m:List (BA×V)}{k:BA}(a:Ce m):Ce (FD m k):=by
 rw[FQ a];unfold Ce EL BU at *;exact List.Pairwise.sublist ((filter_sublist).map _) a
theorem VJ{m a:List (BA×V)}{k:BA}(b:m.Perm a):(BU m k).Perm (BU a k):=b.filter _
theorem VK{m:List (BA×V)}{k:BA}{v:V}{P:BA->Prop}(hm:∀e∈m,P e.1)(hk:P k):∀e∈Cw m k v,P e.1:=by
 unfold Cw;cases AH m k with
 | none=>
  intro e he;rcases mem_cons.1 he with rfl|he
  ·exact hk
  ·exact hm e he
 | some u=>
  intro e he;unfold Fm at he;rw[mem_map] at he;obtain⟨x,hx,rfl⟩:=he;split
  ·exact hk
  ·exact hm x hx
theorem JH{m:List (BA×V)}{k:BA}{P:BA->Prop}(hm:∀e∈m,P e.1):∀e∈BU m k,P e.1:=λe he=>hm e (List.mem_filter.1 he).1
theorem A49(m:List (BA×V))(k:BA):(BU m k).length<=m.length:=List.length_filter_le _ _
end
end Go.Hb
namespace Go.Hb
theorem V8{ls:List Lk}{h:Nat}{l:Lk}(a:h<ls.length):DF (ls.set h l)=upd (DF ls) h (l.v,l.there):=by
 funext x;unfold DF upd;rw[Fl a];split <;> rfl
theorem RN{ls:List Lk}{l:Lk}(x:Nat):(ls++[l]).getD x default=if x=ls.length then l else ls.getD x default:=by
 rw[getD_eq_getElem?_getD,getD_eq_getElem?_getD];rcases Nat.lt_trichotomy x ls.length with h|h|h
 ·rw[getElem?_append_left h,if_neg<|by omega]
 ·subst h;rw[if_pos rfl,getElem?_append_right<|by omega];simp
 ·rw[getElem?_append_right<|by omega,if_neg<|by omega,List.getElem?_eq_none<|by simp;omega,List.getElem?_eq_none<|by omega]
theorem Ams{ls:List Lk}{l:Lk}:DF (ls++[l])=upd (DF ls) ls.length (l.v,l.there):=by
 funext x;unfold DF upd;rw[RN];split <;> rfl
theorem Awa{ls:List Lk}{h:Nat}{l:Lk}(a:h<ls.length):Er (ls.set h l)=upd (Er ls) h l.next:=by
 funext x;unfold Er upd;rw[Fl a];split <;> rfl
theorem Awk{ls:List Lk}{h:Nat}{l:Lk}(a:h<ls.length):Es (ls.set h l)=upd (Es ls) h l.prev:=by
 funext x;unfold Es upd;rw[Fl a];split <;> rfl
theorem A98{ls:List Lk}{l:Lk}:Er (ls++[l])=upd (Er ls) ls.length l.next:=by
 funext x;unfold Er upd;rw[RN];split <;> rfl
theorem Bad{ls:List Lk}{l:Lk}:Es (ls++[l])=upd (Es ls) ls.length l.prev:=by
 funext x;unfold Es upd;rw[RN];split <;> rfl
theorem Ea.upd_out{f g:Nat->Nat}{c:List Nat}{h a b:Nat}(hs:Ea f g c)(e:h∉0::c):Ea (upd f h a) (upd g h b) c:=by
 refine E4.mono hs (λx i=>Bt ?_) (λy d=>Bt ?_)
 ·rintro rfl;rw[show(0::(c++[0]))=(0::c)++[0] by simp,List.dropLast_concat] at i;exact e i
 ·rintro rfl;simp only[List.tail_cons,mem_append,mem_singleton] at d;rcases d with d|d
  ·exact e (mem_cons_of_mem _ d)
  ·exact e (by rw[d];exact List.mem_cons_self)
def Wu(cap:Nat)(free:List Nat):Nat:=free.getLastD cap
def H7(ls:List Lk)(free:List Nat)(v:Value):List Lk:=if free=[] then ls++[⟨v,0,0,true⟩] else ls.set (free.getLastD 0) ⟨v,0,0,true⟩
def TJ(ls:List Lk)(h p x:Nat):List Lk:=Fp (Fo (Fo (Fp ls h p) h x) p h) x h
def Hq(ls:List Lk)(h:Nat):List Lk:=Fp (Fo ls (Es ls h)<|Er ls h) (Er ls h) (Es ls h)
theorem Ace(ls:List Lk)(h p x:Nat):(TJ ls h p x).length=ls.length:=by simp[TJ,C6,BW]
theorem A41{ls:List Lk}{h p x:Nat}(a:h<ls.length)(b:p<ls.length)(c:x<ls.length):Er (TJ ls h p x)=upd (upd (Er ls) h x) p h:=by
 unfold TJ;rw[Ld<|by rw[BW,BW,C6];exact c,Lc<|by rw[BW,C6];exact b,Lc<|by rw[C6];exact a,Ld a]
theorem A42{ls:List Lk}{h p x:Nat}(a:h<ls.length)(b:p<ls.length)(c:x<ls.length):Es (TJ ls h p x)=upd (upd (Es ls) h p) x h:=by
 unfold TJ;rw[Li<|by rw[BW,BW,C6];exact c,Lh<|by rw[BW,C6];exact b,Lh<|by rw[C6];exact a,Li a]
theorem Amy{ls:List Lk}{h p x:Nat}(a:h<ls.length)(b:p<ls.length)(c:x<ls.length):DF (TJ ls h p x)=DF ls:=by
 unfold TJ;rw[IH<|by rw[BW,BW,C6];exact c,IG<|by rw[BW,C6];exact b,IG<|by rw[C6];exact a,IH a]
theorem VH(ls:List Lk)(h:Nat):(Hq ls h).length=ls.length:=by simp[Hq,C6,BW]
theorem Avy{ls:List Lk}{h:Nat}(a:Es ls h<ls.length)(b:Er ls h<ls.length):Er (Hq ls h)=upd (Er ls) (Es ls h) (Er ls h):=by
 unfold Hq;rw[Ld<|by rw[BW];exact b,Lc a]
theorem Avz{ls:List Lk}{h:Nat}(a:Es ls h<ls.length)(b:Er ls h<ls.length):Es (Hq ls h)=upd (Es ls) (Er ls h) (Es ls h):=by
 unfold Hq;rw[Li<|by rw[BW];exact b,Lh a]
theorem Ago{ls:List Lk}{h:Nat}(a:Es ls h<ls.length)(b:Er ls h<ls.length):DF (Hq ls h)=DF ls:=by
 unfold Hq;rw[IH<|by rw[BW];exact b,IG a]
end Go.Hb
namespace Go.Hb
structure Aoy(ls:List Lk)(free:List Nat)(row:List (Nat×Value))(v:Value)(h:Nat)(ls1:List Lk)(free1:List Nat):Prop where
 pos:0<h
 lt:h<ls1.length
 le:ls.length<=ls1.length
 out:h∉row.map (·.1)
 kept:DF ls1=upd (DF ls) h (v,true)
 nx:Er ls1=upd (Er ls) h 0
 pv:Es ls1=upd (Es ls) h 0
 all:∀x,(x∈row.map (·.1)\/x=h\/x∈free1)↔(0<x/\x<ls1.length)
 nodup:(row.map (·.1)++h::free1).Nodup
 sub:∀x∈free1,x∈free
theorem Ab3{l:List Nat}(a:l≠[])(d:Nat):l.dropLast++[l.getLastD d]=l:=by
 rcases eq_nil_or_concat l with rfl|⟨m,x,rfl⟩
 ·exact absurd rfl a
 ·simp[getLastD_eq_getLast?]
theorem JW.take{ls:List Lk}{free:List Nat}{row:List (Nat×Value)}(hi:JW ls free row)(v:Value):Aoy ls free row v (Wu ls.length free) (H7 ls free v) free.dropLast:=by
 by_cases k:free=[]
 ·subst k;have e:H7 ls [] v=ls++[⟨v,0,0,true⟩]:=by simp[H7]
  have l:Wu ls.length []=ls.length:=rfl;rw[e,l];have c:ls.length∉row.map (·.1):=λh=>by
   have:=(hi.all _).1 (.inl h);omega
  refine⟨hi.pos,by simp,by simp,c,Ams,A98,Bad,λx=>?_,?_,λx i=>by simpa using i⟩
  ·have:=hi.all x;simp only[List.dropLast_nil,List.not_mem_nil,or_false,length_append,length_cons,length_nil] at this ⊢;constructor
   ·rintro(h|h)
    ·have:=this.1 h;omega
    ·have:=hi.pos;omega
   ·intro h
    by_cases i:x=ls.length
    ·exact .inr i
    ·exact .inl (this.2 (by omega))
  ·have:=hi.nodup;simp only[append_nil,List.dropLast_nil] at this ⊢;rw[nodup_append];exact⟨this,by simp,λa n b d=>by simp at d;subst d;rintro rfl;exact c n⟩
 ·have a:=Ab3 k 0;have l:Wu ls.length free=free.getLastD 0:=by
   unfold Wu;rcases eq_nil_or_concat free with rfl|⟨m,x,rfl⟩
   ·exact absurd rfl k
   ·simp[getLastD_eq_getLast?]
  have e:H7 ls free v=ls.set (free.getLastD 0) ⟨v,0,0,true⟩:=by simp[H7,k]
  rw[e,l];generalize free.getLastD 0=h at *;have j:h∈free:=by rw[<- a];simp
  have d:=(hi.all h).1 (.inr j);have g:=hi.nodup;rw[<- a] at g;have f:=g;simp only[nodup_append] at f;have c:h∉row.map (·.1):=λo=>f.2.2 h o h (by simp) rfl;refine⟨d.1,by simpa using d.2,by simp,c,V8 d.2,Awa d.2,Awk d.2,λx=>?_,?_,λx i=>(List.dropLast_sublist _).subset i⟩
  ·have:=hi.all x;rw[<- a] at this;simp only[mem_append,mem_singleton,length_set] at this ⊢;rw[<- this];constructor
   ·rintro(h|h|h)
    ·exact .inl h
    ·exact .inr (.inr h)
    ·exact .inr (.inl h)
   ·rintro(h|h|h)
    ·exact .inl h
    ·exact .inr (.inr h)
    ·exact .inr (.inl h)
  ·refine(List.Perm.nodup_iff ?_).1 g;exact List.Perm.append_left _ (perm_append_comm (l₁:=free.dropLast) (l₂:=[h]))
theorem JW.bound{ls:List Lk}{free:List Nat}{row:List (Nat×Value)}(hi:JW ls free row){x:Nat}(a:x∈0::row.map (·.1)):x<ls.length:=by
 rcases mem_cons.1 a with rfl|a
 ·exact hi.pos
 ·exact((hi.all x).1 (.inl a)).2
theorem JW.nodup0{ls:List Lk}{free:List Nat}{row:List (Nat×Value)}(hi:JW ls free row):(0::row.map (·.1)).Nodup:=by
 rw[nodup_cons];refine⟨λa=>?_,(nodup_append.1 hi.nodup).1⟩;have:=(hi.all 0).1 (.inl a);omega
theorem VL{l:List Nat}:l.headD 0∈0::l:=by cases l <;> simp
theorem Np{l:List Nat}:l.getLastD 0∈0::l:=by
 rcases eq_nil_or_concat l with rfl|⟨m,x,rfl⟩
 ·simp
 ·simp[getLastD_eq_getLast?]
theorem JW.lay{ls:List Lk}{free:List Nat}{r1 r2:List (Nat×Value)}(hi:JW ls free (r1++r2)){v:Value}{h:Nat}{d:List Lk}{f:List Nat}(b:Aoy ls free (r1++r2) v h d f) :
  JW (TJ d h ((r1.map (·.1)).getLastD 0)<|(r2.map (·.1)).headD 0) f (r1++(h,v)::r2):=by
 have m:(r1.map (·.1)).getLastD 0<d.length:=by
  have j:(r1.map (·.1)).getLastD 0∈0::(r1++r2).map (·.1):=by
   have:=Np (l:=r1.map (·.1));simp only[map_append,mem_cons,mem_append] at this ⊢;rcases this with h|h
   ·exact .inl h
   ·exact .inr (.inl h)
  exact lt_of_lt_of_le (hi.bound j) b.le
 have n:(r2.map (·.1)).headD 0<d.length:=by
  have j:(r2.map (·.1)).headD 0∈0::(r1++r2).map (·.1):=by
   have:=VL (l:=r2.map (·.1));simp only[map_append,mem_cons,mem_append] at this ⊢;rcases this with h|h
   ·exact .inl h
   ·exact .inr (.inr h)
  exact lt_of_lt_of_le (hi.bound j) b.le
 have o:=Amy b.lt m n;have g:h∉0::(r1++r2).map (·.1):=by
  rw[mem_cons];rintro(q|q)
  ·have:=b.pos;omega
  ·exact b.out q
 refine⟨by rw[Ace];have:=b.lt;omega,λx=>?_,?_,?_,?_,?_,?_⟩
 ·rw[Ace,<- b.all x];simp only[map_append,map_cons,mem_append,mem_cons];constructor
  ·rintro((a|a|a)|a)
   ·exact .inl (.inl a)
   ·exact .inr (.inl a)
   ·exact .inl (.inr a)
   ·exact .inr (.inr a)
  ·rintro((a|a)|a|a)
   ·exact .inl (.inl a)
   ·exact .inl (.inr<|.inr a)
   ·exact .inl (.inr<|.inl a)
   ·exact .inr a
 ·have:=b.nodup;simp only[map_append,map_cons] at this ⊢;refine(List.Perm.nodup_iff ?_).1 this;simp only[append_assoc,cons_append];refine List.Perm.append_left _ ?_;exact perm_middle
 ·have hs:=hi.stands;simp only[map_append,map_cons] at hs g ⊢;have r:=hi.nodup0;simp only[map_append] at r;have j:Ea (Er d) (Es d) (r1.map (·.1)++r2.map (·.1)):=by
   rw[b.nx,b.pv];exact hs.upd_out g
  rw[A41 b.lt m n,A42 b.lt m n];exact Aha j g r
 ·intro e c;rw[o,b.kept];simp only[mem_append,mem_cons] at c
  by_cases i:e.1=h
  ·rcases c with c|c|c
   ·exact absurd (by rw[<- i];exact mem_map_of_mem (mem_append_left _ c)) b.out
   ·subst c;exact Gd _ _ _
   ·exact absurd (by rw[<- i];exact mem_map_of_mem (mem_append_right _ c)) b.out
  ·rw[Bt i];refine hi.vals e ?_;rcases c with c|c|c
   ·exact mem_append_left _ c
   ·subst c;exact absurd rfl i
   ·exact mem_append_right _ c
 ·intro x k;rw[o,b.kept];have p:x≠h:=by
   rintro rfl;have:=(nodup_append.1 b.nodup).2.1;simp only[nodup_cons] at this;exact this.1 k
  rw[Bt p];exact hi.gone x (b.sub x k)
 ·rw[o,b.kept,Bt (by have:=b.pos;omega)];exact hi.zero
end Go.Hb
namespace Go.Hb
def lkR:Ap Lk:=⟨4,Lk.cells,λ_=>rfl⟩
instance Lk.of0{v:Value}{t:Bool}:N2 lkR [v,.i (0:Int),.i (0:Int),.b t] ⟨v,0,0,t⟩:=⟨rfl⟩
instance Lk.setP{a:Lk}{p:Nat}:Aeh lkR a 1 (.i (p:Int)) { a with prev:=p }:=⟨rfl,by decide⟩
instance Lk.setN{a:Lk}{p:Nat}:Aeh lkR a 2 (.i (p:Int)) { a with next:=p }:=⟨rfl,by decide⟩
theorem JW.len{ls:List Lk}{free:List Nat}{row:List (Nat×Value)}(hi:JW ls free row):ls.length=row.length+free.length+1:=by
 have a:(row.map (·.1)++free).Perm ((range ls.length).drop 1):=by
  refine(List.perm_ext_iff_of_nodup hi.nodup ?_).2 λx=>?_
  ·exact(List.nodup_range).sublist (drop_sublist _ _)
  ·rw[mem_append,hi.all x];constructor
   ·intro h;rw[mem_iff_getElem];exact⟨x-1,by simp;omega,by simp;omega⟩
   ·intro h;rw[mem_iff_getElem] at h;obtain⟨i,hi,rfl⟩:=h;simp at hi ⊢;omega
 have:=a.length_eq;simp at this;have:=hi.pos;omega
def Gb{T:Type}(mk:T->Value)(row:List (Nat×T)):List (Nat×Value):=row.map λe=>(e.1,mk e.2)
theorem SN{T:Type}(mk:T->Value)(row:List (Nat×T)):(Gb mk row).map (·.1)=row.map (·.1):=by simp[Gb]
theorem Awu{T:Type}(mk:T->Value)(row:List (Nat×T)):(Gb mk row).length=row.length:=by simp[Gb]
def lst{T:Type}(mk:T->Value)(b:Nat)(row:List (Nat×T))(free:List Nat):HP:=
 Ly λ(x:Sl×Sl×List Lk)=>Fs (JW x.2.2 free<|Gb mk row) (AN [blk b [.l x.1.a x.1.n x.1.c,.l x.2.1.a x.2.1.n x.2.1.c,.i (row.length:Int)],recs lkR x.1 x.2.2,recs Ap.nat x.2.1 free])
section
variable{T:Type}{mk:T->Value}{b:Nat}{row:List (Nat×T)}{free:List Nat}{W w:World}{M:List HP}
instance At.lst{L:List HP}:At (lst mk b row free::L) b (lst mk b row free) (λx=>x::L):=⟨E7⟩
theorem E9(h:Ab W w (lst mk b row free::M)):∃(s f:Sl) (ls:List Lk),JW ls free (Gb mk row)/\(s.n=ls.length/\f.n=free.length/\ls.length=row.length+free.length+1) /\
  Ab W w (blk b [.l s.a s.n s.c,.l f.a f.n f.c,.i (row.length:Int)]::recs lkR s ls::recs Ap.nat f free::M):=by
 obtain⟨⟨s,f,ls⟩,h⟩:=h.openE;obtain⟨hi,h⟩:=h.openA;have h:=h.openL;have h:Ab W w (blk b [.l s.a s.n s.c,.l f.a f.n f.c,.i (row.length:Int)]::recs lkR s ls::recs Ap.nat f free::M):=h;refine⟨s,f,ls,hi,⟨(h.pure (q:=1) rfl λg d=>?_),(h.pure (q:=2) rfl λg d=>?_),?_⟩,h⟩
 ·have:=d.1.1;rw[Ap.flat_length] at this;exact(Nat.eq_of_mul_eq_mul_right (by decide:0<4) this).symm
 ·have:=d.1.1;rw[Ap.flat_length] at this;exact(Nat.eq_of_mul_eq_mul_right (by decide:0<1) this).symm
 ·have:=hi.len;rw[Awu] at this;exact this
theorem Eh(s f:Sl){ls:List Lk}{n:Int}(hi:JW ls free (Gb mk row))(d:n=row.length)
  (h:Ab W w (blk b [.l s.a s.n s.c,.l f.a f.n f.c,.i n]::recs lkR s ls::recs Ap.nat f free::M)):Ab W w (lst mk b row free::M):=by
 subst d;exact Ab.shutE (s,f,ls) (Ab.shutA hi<|Ab.shutL (Ps:=[_,_,_]) h)
def Lz{T:Type}(row:List (Nat×T))(free:List Nat):Nat:=free.getLastD (row.length+free.length+1)
end
end Go.Hb
namespace Go.Hb
section
variable{T:Type}
def Ko(row:List (Nat×T))(h:Int):Option Nat:=row.findIdx? λe=>decide ((e.1:Int)=h)
def AY(row:List (Nat×T))(i:Nat):Nat:=(row.map (·.1)).getD i 0
def IT(row:List (Nat×T))(h:Int):Nat:=match Ko row h with
 | some i=>AY row (i+1)
 | none=>0
theorem M2{row:List (Nat×T)}{h:Int}{i:Nat}(b:Ko row h=some i):∃e,row[i]? = some e/\(e.1:Int)=h/\row=row.take i++e::row.drop (i+1)/\i<row.length:=by
 unfold Ko at b;rw[List.findIdx?_eq_some_iff_getElem] at b;obtain⟨a,c,_⟩:=b;exact⟨row[i],getElem?_eq_getElem a,of_decide_eq_true c,by simp,a⟩
theorem Adb{row:List (Nat×T)}{h:Int}:Ko row h=none↔∀e∈row,(e.1:Int)≠h:=by
 unfold Ko;rw[List.findIdx?_eq_none_iff];simp
theorem A5p{U:Type}(f:Nat×T->Nat×U)(a:∀e,(f e).1=e.1)(row:List (Nat×T))(h:Int):Ko (row.map f) h=Ko row h:=by
 unfold Ko;rw[List.findIdx?_map];congr 1;funext e;simp[a]
theorem Lj{row:List (Nat×T)}(b:(row.map (·.1)).Nodup){i:Nat}{e:Nat×T}(h:row[i]? = some e):Ko row (e.1:Int)=some i:=by
 obtain⟨a,rfl⟩:=List.getElem?_eq_some_iff.1 h;unfold Ko;rw[List.findIdx?_eq_some_iff_getElem];refine⟨a,by simp,λj c=>?_⟩;rw[decide_eq_true_eq];intro d;have:(row.map (·.1))[j]? = (row.map (·.1))[i]?:=by
  rw[getElem?_map,getElem?_map,getElem?_eq_getElem a,getElem?_eq_getElem<|by omega];simp only[map_some,Option.some.injEq];omega
 have:=(List.getElem?_inj (by simp;omega) b).1 this;omega
end
section
variable{ls:List Lk}{free:List Nat}{row:List (Nat×Value)}
theorem JW.at_row(hi:JW ls free row){h:Nat}(b:0<h)(c:h<ls.length)(d:(ls.getD h default).there=true):∃i,Ko row (h:Int)=some i:=by
 rcases(hi.all h).2 ⟨b,c⟩ with a|f
 ·cases g:Ko row (h:Int) with
  | some i=>exact⟨i,rfl⟩
  | none=>
   rw[mem_map] at a;obtain⟨e,j,rfl⟩:=a;exact absurd rfl (Adb.1 g e j)
 ·have:=hi.gone h f;unfold DF at this;simp only at this;rw[d] at this;cases this
theorem JW.row_at(hi:JW ls free row){h:Int}{i:Nat}(e:Ko row h=some i):∃(k:Nat) (v:Value),h=(k:Int)/\row[i]? = some (k,v)/\0<k/\k<ls.length/\(ls.getD k default).there=true/\(ls.getD k default).v=v/\row=row.take i++(k,v)::row.drop (i+1) /\
  Er ls k=AY row (i+1)/\Es ls k=(if i=0 then 0 else AY row (i-1)):=by
 obtain⟨⟨k,v⟩,f,g,hs,j⟩:=M2 e;have c:(k,v)∈row:=by rw[hs];simp
 have d:=(hi.all k).1 (.inl<|mem_map.2 ⟨_,c,rfl⟩);have b:=hi.vals _ c;unfold DF at b;simp only[Prod.mk.injEq] at b;have a:=hi.stands;rw[hs] at a;simp only[map_append,map_cons] at a;have:=Kv a;refine⟨k,v,g.symm,f,d.1,d.2,b.2,b.1,hs,?_,?_⟩
 ·rw[this.1];unfold AY
  rw[map_drop];rw[getD_eq_getElem?_getD,List.headD_eq_head?_getD,List.head?_drop]
 ·rw[this.2];rcases i with _|i
  ·simp
  ·simp only[Nat.add_eq_zero_iff,Nat.one_ne_zero,and_false,if_false,Nat.add_sub_cancel];unfold AY;rw[getLastD_eq_getLast?,map_take,List.getLast?_eq_getElem?,getD_eq_getElem?_getD,length_take,length_map,min_eq_left<|by omega];rw[List.getElem?_take_of_lt<|by omega];rfl
theorem JW.has(hi:JW ls free row)(h:Int):(decide (h>0) && (decide (h<(ls.length:Int)) && (ls.getD h.toNat default).there))=(Ko row h).isSome:=by
 cases a:Ko row h with
 | some i=>
  obtain⟨k,v,rfl,_,e,f,d,_⟩:=hi.row_at a;simp only[Option.isSome_some,and_eq_true,decide_eq_true_eq,toNat_natCast];exact⟨by omega,by omega,d⟩
 | none=>
  simp only[Option.isSome_none];cases b:(decide (h>0) && (decide (h<(ls.length:Int)) && (ls.getD h.toNat default).there)) with
  | false=>rfl
  | true=>
   simp only[and_eq_true,decide_eq_true_eq] at b;obtain⟨i,c⟩:=hi.at_row (h:=h.toNat) (by omega) (by omega) b.2.2;rw[show((h.toNat:Nat):Int)=h by omega,a] at c;cases c
theorem JW.front(hi:JW ls free row):Er ls 0=AY row 0:=by
 rw[Y9 hi.stands];unfold AY;cases row <;> rfl
theorem JW.lift(hi:JW ls free row){i k:Nat}{v:Value}(hs:row=row.take i++(k,v)::row.drop (i+1))(d:Es ls k<ls.length)(e:Er ls k<ls.length) :
  Ea (Er<|Hq ls k) (Es<|Hq ls k) ((row.take i++row.drop (i+1)).map (·.1)):=by
 have a:=hi.stands;have c:=hi.nodup0;rw[hs] at a c;simp only[map_append,map_cons] at a c ⊢;have b:=Kv a;rw[Avy d e,Avz d e];have:=Adx a c;rw[b.1,b.2];exact this
theorem Anb{b c:List Nat}{x:Nat}(h:(b++x::c).Nodup):x∉b++c/\(b++c).Nodup:=by
 have:=(perm_middle (a:=x) (l₁:=b) (l₂:=c)).nodup_iff.1 h;simpa using nodup_cons.1 this
theorem JW.remove(hi:JW ls free row){i k:Nat}{v z:Value}(hs:row=row.take i++(k,v)::row.drop (i+1))(A:0<k)(u:k<ls.length)(r:Es ls k<ls.length)(s:Er ls k<ls.length) :
  JW ((Hq ls k).set k ⟨z,0,0,false⟩) (free++[k]) (row.eraseIdx i):=by
 have w:row.eraseIdx i=row.take i++row.drop (i+1):=List.eraseIdx_eq_take_drop_succ ..;have o:=hi.lift hs r s;rw[w];have g:=hi.nodup;rw[hs] at g;simp only[map_append,map_cons,append_assoc,cons_append] at g;obtain⟨c,j⟩:=Anb g;have l:=VH ls k;have d:k∉(row.take i++row.drop (i+1)).map (·.1):=by
  simp only[map_append,mem_append,not_or] at c ⊢;exact⟨c.1,c.2.1⟩
 have m:k∉free:=by simp only[mem_append,not_or] at c;exact c.2.2
 have a:DF ((Hq ls k).set k ⟨z,0,0,false⟩)=upd (DF ls) k (z,false):=by
  rw[V8<|by omega,Ago r s]
 refine⟨by simp[l];omega,λx=>?_,?_,?_,?_,?_,?_⟩
 ·have:=hi.all x;rw[hs] at this;simp only[map_append,map_cons,mem_append,mem_cons,length_set,l,mem_singleton,List.not_mem_nil,or_false] at this ⊢;rw[<- this];constructor
  ·rintro((h|h)|h|h)
   ·exact .inl (.inl h)
   ·exact .inl (.inr<|.inr h)
   ·exact .inr h
   ·exact .inl (.inr<|.inl h)
  ·rintro((h|h|h)|h)
   ·exact .inl (.inl h)
   ·exact .inr (.inr h)
   ·exact .inl (.inr h)
   ·exact .inr (.inl h)
 ·rw[<- append_assoc];have:((row.take i++row.drop (i+1)).map (·.1)++free).Nodup:=by simpa using j
  rw[nodup_append];refine⟨this,by simp,λa y b t=>?_⟩;simp only[mem_singleton] at t;subst t;rintro rfl;rcases mem_append.1 y with h|h
  ·exact d h
  ·exact m h
 ·rw[Awa<|by omega,Awk<|by omega];refine o.upd_out ?_;rw[mem_cons,not_or];exact⟨by omega,d⟩
 ·intro e n;rw[a];have p:e.1≠k:=by
   rintro rfl;exact d (mem_map_of_mem n)
  rw[Bt p];refine hi.vals e ?_;rw[hs];rcases mem_append.1 n with h|h
  ·exact mem_append_left _ h
  ·exact mem_append_right _ (mem_cons_of_mem _ h)
 ·intro h n;rw[a];rcases mem_append.1 n with f|f
  ·have q:h≠k:=by rintro rfl;exact m f
   rw[Bt q];exact hi.gone h f
  ·simp only[mem_singleton] at f;subst f;rw[Gd]
 ·rw[a,Bt<|by omega];exact hi.zero
end
section
variable{T:Type}{mk:T->Value}
def FE(row:List (Nat×T))(h:Int):Option T:=match Ko row h with
 | some i=>(row[i]?).map (·.2)
 | none=>none
theorem Wd(row:List (Nat×T))(h:Int):Ko (Gb mk row) h=Ko row h:=A5p (λe=>(e.1,mk e.2)) (λ_=>rfl) row h
theorem SO(row:List (Nat×T))(i:Nat):AY (Gb mk row) i=AY row i:=by unfold AY;rw[SN]
theorem Ag4(row:List (Nat×T))(i:Nat):Gb mk (row.eraseIdx i)=(Gb mk row).eraseIdx i:=by
 simp only[Gb,List.eraseIdx_eq_take_drop_succ,map_append,map_take,map_drop]
theorem Awv{row:List (Nat×T)}{i k:Nat}{v:Value}{z:T}(b:Ko row (k:Int)=some i)(h:(Gb mk row)[i]? = some (k,v)):v=mk ((FE row k).getD z):=by
 unfold Gb at h;unfold FE;rw[getElem?_map] at h;rw[b];simp only[];cases a:row[i]? with
 | none=>rw[a] at h;cases h
 | some e=>rw[a] at h;simp at h;simp[h]
end
section
variable{ls:List Lk}{free:List Nat}{row:List (Nat×Value)}
theorem JW.next_lt(hi:JW ls free row){i k:Nat}{v:Value}(hs:row=row.take i++(k,v)::row.drop (i+1)):Er ls k<ls.length:=by
 have a:=hi.stands;have b:=hi.bound (x:=((row.drop<|i+1).map (·.1)).headD 0) (by
  rcases mem_cons.1 (VL (l:=(row.drop<|i+1).map (·.1))) with h|h
  ·exact mem_cons.2 (.inl h)
  ·exact mem_cons_of_mem _ (((drop_sublist _ _).map _).subset h))
 rw[hs] at a;simp only[map_append,map_cons] at a;rw[(Kv a).1];exact b
theorem JW.prev_lt(hi:JW ls free row){i k:Nat}{v:Value}(hs:row=row.take i++(k,v)::row.drop (i+1)):Es ls k<ls.length:=by
 have a:=hi.stands;have b:=hi.bound (x:=((row.take i).map (·.1)).getLastD 0) (by
  rcases mem_cons.1 (Np (l:=(row.take i).map (·.1))) with h|h
  ·exact mem_cons.2 (.inl h)
  ·exact mem_cons_of_mem _ (((List.take_sublist _ _).map _).subset h))
 rw[hs] at a;simp only[map_append,map_cons] at a;rw[(Kv a).2];exact b
end
theorem A4t(z:Value):JW [⟨z,0,0,false⟩] [] []:=by
 refine⟨by simp,λh=>?_,by simp,⟨rfl,rfl,trivial⟩,λe a=>by simp at a,λh b=>by simp at b,rfl⟩;simp;omega
end Go.Hb
namespace Go.Hb
theorem LB{a b:Type}(f:a->b)(l:List a)(i:Nat):(l.eraseIdx i).map f=(l.map f).eraseIdx i:=by
 simp only[List.eraseIdx_eq_take_drop_succ,map_append,map_take,map_drop]
def Aq(ks:List BA)(k:BA):List BA:=ks.filter λx=>decide (x≠k)
def TE(ks:List BA)(k:BA):Bool:=ks.any λx=>decide (x=k)
theorem HY{ks:List BA}{k:BA}:TE ks k=true↔k∈ks:=by simp[TE]
instance Bdj{k:BA}{l:List BA}:Decidable (k∈l):=decidable_of_iff (TE l k=true) HY
theorem Gr(l:List BA)(k:BA):TE l k=decide (k∈l):=by rw[Bool.eq_iff_iff,HY,decide_eq_true_eq]
theorem Ma{ks:List BA}{k:BA}:TE ks k=false↔k∉ks:=by rw[<- HY];simp
theorem Ax{ks:List BA}{k:BA}(h:k∉ks):Aq ks k=ks:=by
 unfold Aq;rw[filter_eq_self];intro x a;exact decide_eq_true λb=>h (b ▸ a)
theorem AO{ks:List BA}{k x:BA}:x∈Aq ks k↔x∈ks/\x≠k:=by simp[Aq]
theorem Bq(ks:List BA)(k:BA):(Aq ks k).length<=ks.length:=List.length_filter_le _ _
theorem Fa{ks:List BA}{k:BA}(h:ks.Nodup):(Aq ks k).Nodup:=h.sublist filter_sublist
theorem Acn{V:Type}[Inhabited V](m:List (BA×V))(k:BA):(BU m k).map (·.1)=Aq (m.map (·.1)) k:=by
 unfold BU Aq;rw[List.filter_map];rfl
def A4q(room:Int)(ks:List BA)(k:BA):List BA:=if ((Aq ks k++[k]).length:Int)<=room then Aq ks k++[k] else (Aq ks k++[k]).drop 1
def Ajj(room:Int)(ks:List BA)(k:BA):BA:=if ((Aq ks k++[k]).length:Int)<=room then ⟨#[]⟩ else (Aq ks k++[k]).headD ⟨#[]⟩
def Ab2(room:Int)(ks:List BA)(k:BA):Bool:=!decide (((Aq ks k++[k]).length:Int)<=room)
theorem RM{ks:List BA}{k:BA}(h:ks.Nodup):(Aq ks k++[k]).Nodup:=by
 rw[nodup_append];refine⟨Fa h,by simp,λa c b a=>?_⟩;rw[mem_singleton] at a;subst a;exact(AO.1 c).2
theorem KU{k:BA}{t:List BA}(h:(k::t).Nodup):Aq (k::t) k=t:=by
 have:Aq (k::t) k=Aq t k:=by simp[Aq]
 rw[this,Ax (nodup_cons.1 h).1]
def M7(row:List (Nat×BA)):List (BA×Int):=row.map λe=>(e.2,(e.1:Int))
theorem Ir(row:List (Nat×BA)):(M7 row).map (·.1)=row.map (·.2):=by simp[M7]
structure HO(ks:List BA)(row:List (Nat×BA))(m:List (BA×Int)):Prop where
 keys:row.map (·.2)=ks
 nd:ks.Nodup
 perm:m.Perm (M7 row)
 small:∀k∈ks,k.size<4611686018427387904
section
variable{ks:List BA}{row:List (Nat×BA)}{m:List (BA×Int)}{k:BA}
theorem HO.mnd(hi:HO ks row m):(m.map (·.1)).Nodup:=by
 have:=(hi.perm.map (·.1)).nodup_iff.2 (by rw[Ir,hi.keys];exact hi.nd);exact this
theorem HO.has(hi:HO ks row m):(AH m k).isSome=TE ks k:=by
 have b:∀x,x∈m.map (·.1)↔x∈ks:=λx=>by rw[(hi.perm.map (·.1)).mem_iff,Ir,hi.keys]
 cases c:AH m k with
 | none=>
  have:=BC.1 c;have a:k∉ks:=by
   rw[<- b,mem_map];rintro⟨e,d,rfl⟩;exact this e d rfl
  rw[Ma.2 a];rfl
 | some v=>
  have:=(BM hi.mnd).1 c;have a:k∈ks:=(b k).1 (mem_map.2 ⟨_,this,rfl⟩);rw[HY.2 a];rfl
theorem HO.small_m(hi:HO ks row m):∀e∈m,e.1.size<4611686018427387904:=λe a=>by
 refine hi.small _ ?_;rw[<- hi.keys,<- Ir,<- (hi.perm.map (·.1)).mem_iff];exact mem_map.2 ⟨e,a,rfl⟩
theorem HO.len(hi:HO ks row m):m.length=row.length/\ks.length=row.length:=by
 constructor
 ·rw[hi.perm.length_eq];simp[M7]
 ·rw[<- hi.keys];simp
theorem HO.miss(hi:HO ks row m)(a:AH m k=none):k∉ks/\Aq ks k=ks/\HO ks row (BU m k):=by
 have b:k∉ks:=by have:=hi.has (k:=k);rw[a] at this;exact Ma.1 this.symm
 refine⟨b,Ax b,hi.keys,hi.nd,?_,hi.small⟩;have:BU m k=m:=by
  unfold BU;rw[filter_eq_self];intro e c;exact decide_eq_true (BC.1 a e c)
 rw[this];exact hi.perm
theorem HO.hit(hi:HO ks row m){h:Int}(j:AH m k=some h)(l:(row.map (·.1)).Nodup):∃i,Ko row h=some i/\HO (Aq ks k) (row.eraseIdx i) (BU m k):=by
 have n:(k,h)∈M7 row:=hi.perm.mem_iff.1 ((BM hi.mnd).1 j);obtain⟨i,a,b⟩:=mem_iff_getElem.1 n;have d:(M7 row)[i]? = some (k,h):=by rw[getElem?_eq_getElem a,b]
 have e:i<row.length:=by simpa[M7] using a
 have o:(row[i].2,(row[i].1:Int))=(k,h):=by rw[<- b];simp[M7]
 have f:((M7 row).map (·.1)).Nodup:=by rw[Ir,hi.keys];exact hi.nd
 have c:=HD f d;have g:M7 (row.eraseIdx i)=BU (M7 row) k:=by rw[<- c];exact LB _ _ _
 refine⟨i,?_,?_,Fa hi.nd,?_,λx p=>hi.small x (AO.1 p).1⟩
 ·have:=Lj l (getElem?_eq_getElem e);have q:(row[i].1:Int)=h:=congrArg Prod.snd o;rw[q] at this;exact this
 ·rw[<- Ir,g,Acn,Ir,hi.keys]
 ·rw[g];exact VJ hi.perm
theorem HO.push(hi:HO ks row m)(c:k∉ks)(e:k.size<4611686018427387904)(h:Nat):HO (ks++[k]) (row++[(h,k)]) (Cw m k (h:Int)):=by
 have f:AH m k=none:=by
  have:=hi.has (k:=k);rw[Ma.2 c] at this;simpa using this
 refine⟨by simp[hi.keys],?_,?_,λx a=>?_⟩
 ·rw[nodup_append];refine⟨hi.nd,by simp,λa g b d=>?_⟩;rw[mem_singleton] at d;subst d;rintro rfl;exact c g
 ·have i:Cw m k (h:Int)=(k,(h:Int))::m:=by unfold Cw;rw[f]
  have j:M7 (row++[(h,k)])=M7 row++[(k,(h:Int))]:=by simp[M7]
  rw[i,j];exact(hi.perm.cons _).trans (List.perm_append_singleton _ _).symm
 ·rw[mem_append,mem_singleton] at a;rcases a with a|rfl
  ·exact hi.small x a
  ·exact e
end
section
variable{W w:World}{M L:List HP}{b:Nat}{room:Int}{N:Nat}{ks:List BA}
theorem Ii{T:Type}{mk:T->Value}{row:List (Nat×T)}{free:List Nat}(h:Ab W w (lst mk b row free::M)):(row.map (·.1)).Nodup:=by
 obtain⟨s,f,ls,hi,_⟩:=E9 h;have:=hi.nodup;rw[SN] at this;exact(nodup_append.1 this).1
abbrev GX:Type:=Nat×Nat×List (Nat×BA)×List Nat×List (BA×Int)
def ghR(b:Nat)(room:Int)(N:Nat)(ks:List BA):HP:=Ly λ(x:GX)=>Fs (HO ks x.2.2.1 x.2.2.2.2/\x.2.2.1.length+x.2.2.2.1.length<=N)
 (AN [blk b [.i room,pq x.1 0,pq x.2.1 0],lst .s x.1 x.2.2.1 x.2.2.2.1,ixr (Ap.int .i64) x.2.1 0 x.2.2.2.2])
instance At.ghR:At (ghR b room N ks::L) b (ghR b room N ks) (λx=>x::L):=⟨E7⟩
theorem Mb(h:Ab W w (ghR b room N ks::M)):∃(lb xb:Nat) (row:List (Nat×BA)) (free:List Nat) (m:List (BA×Int)),HO ks row m/\row.length+free.length<=N /\
  Ab W w (blk b [.i room,pq lb 0,pq xb 0]::lst .s lb row free::ixr (Ap.int .i64) xb 0 m::M):=by
 obtain⟨⟨lb,xb,row,free,m⟩,h⟩:=h.openE;obtain⟨hi,h⟩:=h.openA;exact⟨lb,xb,row,free,m,hi.1,hi.2,h.openL⟩
theorem Kf{lb xb:Nat}{row:List (Nat×BA)}{free:List Nat}{m:List (BA×Int)}(hi:HO ks row m)(a:row.length+free.length<=N)
  (h:Ab W w (blk b [.i room,pq lb 0,pq xb 0]::lst .s lb row free::ixr (Ap.int .i64) xb 0 m::M)):Ab W w (ghR b room N ks::M):=
 Ab.shutE (lb,xb,row,free,m) (Ab.shutA ⟨hi,a⟩<|Ab.shutL (Ps:=[_,_,_]) h)
theorem Au7(h:Ab W w (ghR b room N ks::M)):ks.Nodup/\ks.length<=N/\∀k∈ks,k.size<4611686018427387904:=by
 obtain⟨lb,xb,row,free,m,hi,a,_⟩:=Mb h;exact⟨hi.nd,by have:=hi.len;omega,hi.small⟩
def Aen(room:Int):Int:=if (1024:Int)<(if (1:Int)>room then (1:Int) else room) then (1024:Int) else (if (1:Int)>room then (1:Int) else room)
end
end Go.Hb
namespace Go.Hb
structure Bbu(R S:List BA)(k:BA)(hit:Bool)(g:List BA):Prop where
 hits:hit=decide (k∈R)
 sub:∀x∈g,x∈R
 le1:g.length<=1
 no:k∉g
 calm:hit=true->g=[]
 mem:∀x,x∈S↔(x∈R/\x∉g)\/x=k
theorem De{a b:List BA}(c:a.Nodup)(d:b.Nodup)(h:∀x,x∈a↔x∈b):a.Perm b:=(List.perm_ext_iff_of_nodup c d).2 h
section
variable{R S:List BA}{k:BA}{hit:Bool}{g:List BA}
theorem C4{l:List BA}(a:l.Nodup)(c:k∈l):l.Perm (k::Aq l k):=by
 refine De a (nodup_cons.2 ⟨λh=>(AO.1 h).2 rfl,Fa a⟩) λx=>?_;rw[mem_cons,AO];constructor
 ·intro h
  by_cases b:x=k
  ·exact .inl b
  ·exact .inr ⟨h,b⟩
 ·rintro(rfl|h)
  ·exact c
  ·exact h.1
end
end Go.Hb
namespace Go.Hb
class Wy(b:Bool)(p q:outParam Prop):Prop where
 t:b=true->p
 f:b=false->q
instance Wy.dec{p:Prop}[Decidable p]:Wy (decide p) p (¬p):=⟨of_decide_eq_true,of_decide_eq_false⟩
instance Wy.ndec{p:Prop}[Decidable p]:Wy (!decide p) (¬p) p:=⟨λh=>by simpa using h,λh=>by simpa using h⟩
instance Wy.eqI{a b:Int}:Wy (a==b) (a=b) (¬a=b):=⟨λh=>by simpa using h,λh=>by simpa using h⟩
instance Wy.neI{a b:Int}:Wy (a != b) (¬a=b) (a=b):=⟨λh=>by simpa using h,λh=>by simpa using h⟩
theorem A3{w:World}{b:Bool}{p q:Prop}{K M:WP}[h:Wy b p q](a:p->K w)(c:q->M w):Aj b K M w:=As (λe=>a<|h.t e) λe=>c (h.f e)
theorem AP{L:Nat->WP}{w:World}(m:Nat)(h:L m w):Em L w:=⟨m,h⟩
abbrev BL:=List BA
structure DC(c:Int)(R:BL):Prop where
 nd:R.Nodup
 small:∀k∈R,k.size<64
 room:(R.length:Int)<=c
 c1:1<=c
 c2:c<=1024
structure Fh(c:Int)(R:BL)(k:BA)(hit:Bool)(g S:BL):Prop where
 acc:Bbu R S k hit g
 ok:DC c S
 calm:(R.length:Int)<c->g=[]
structure Dz(c:Int)(R:BL)(k:BA)(yes:Bool)(S:BL):Prop where
 says:yes=decide (k∉R/\(R.length:Int)<c)
 mem:∀x,x∈S↔x∈R\/(yes=true/\x=k)
 ok:DC c S
structure Gf(c:Int)(R:BL)(k:BA)(yes:Bool)(S:BL):Prop where
 says:yes=decide (k∈R)
 mem:∀x,x∈S↔x∈R/\x≠k
 ok:DC c S
structure Hc(c:Int)(R:BL)(k:BA)(yes:Bool)(S:BL):Prop where
 says:yes=decide (0<R.length)
 of:yes=true->k∈R
 mem:∀x,x∈S↔x∈R/\¬(yes=true/\x=k)
 ok:DC c S
def MP(c:Int)(R g S:BL):Prop:=(g=[]/\S=R/\(R.length:Int)<c)\/(∃x,g=[x]/\Hc c R x true S/\¬(R.length:Int)<c)
section
variable{c:Int}{R S T g:BL}{k x:BA}
theorem DC.perm(h:DC c R)(a:S.Perm R):DC c S:=⟨a.nodup_iff.2 h.nd,λk b=>h.small k<|a.mem_iff.1 b,by rw[a.length_eq];exact h.room,h.c1,h.c2⟩
theorem DC.nil(a:1<=c)(b:c<=1024):DC c []:=⟨by simp,by simp,by simp;omega,a,b⟩
theorem Lg(hR:R.Nodup)(c:S.Nodup)(d:k∈R)(a:∀x,x∈S↔x∈R/\x≠k):R.Perm (k::S):=
 De hR (nodup_cons.2 ⟨λh=>((a k).1 h).2 rfl,c⟩) λx=>by
  rw[mem_cons,a];constructor
  ·intro h
   by_cases b:x=k
   ·exact .inl b
   ·exact .inr ⟨h,b⟩
  ·rintro(rfl|h)
   ·exact d
   ·exact h.1
theorem Hc.mem'(h:Hc c R k true S)(y:BA):y∈S↔y∈R/\y≠k:=by rw[h.mem];simp
theorem Hc.perm(h:Hc c R k true S)(hR:DC c R):R.Perm (k::S):=Lg hR.nd h.ok.nd (h.of rfl) h.mem'
theorem Hc.of_perm(hR:DC c R)(b:R.Perm (k::S)):Hc c R k true S:=by
 have e:=b.nodup_iff.1 hR.nd;have f:=b.length_eq;have h:=hR.room;simp only[length_cons] at f;refine⟨(decide_eq_true<|by omega).symm,λ_=>b.mem_iff.2<|.head _,λx=>?_,(nodup_cons.1 e).2,λy g=>hR.small y<|b.mem_iff.2<|.tail _ g,by omega,hR.c1,hR.c2⟩;rw[b.mem_iff,mem_cons];constructor
 ·intro a;exact⟨.inr a,λd=>(nodup_cons.1 e).1 (d.2 ▸ a)⟩
 ·rintro⟨a|a,d⟩
  ·exact absurd ⟨rfl,a⟩ d
  ·exact a
theorem Hc.none(hR:DC c R)(a:R.length=0){z:BA}:Hc c R z false R:=⟨(decide_eq_false<|by omega).symm,by simp,by simp,hR⟩
theorem Fh.same(hR:DC c R)(a:k∈R)(b:S.Perm R):Fh c R k true [] S:=
 ⟨⟨(decide_eq_true a).symm,by simp,by simp,by simp,λ_=>rfl,λx=>by
  rw[b.mem_iff];constructor
  ·intro h;exact .inl ⟨h,by simp⟩
  ·rintro(h|rfl)
   ·exact h.1
   ·exact a⟩,hR.perm b,λ_=>rfl⟩
theorem Fh.miss(hR:DC c R)(f:k∉R)(l:k.size<64)(h:MP c R g S)(a:T.Perm (k::S)):Fh c R k false g T:=by
 have b:=(decide_eq_false f).symm;rcases h with⟨rfl,rfl,m⟩|⟨x,rfl,d,m⟩
 ·refine⟨⟨b,by simp,by simp,by simp,(λh=>by cases h),λy=>?_⟩,⟨a.nodup_iff.2<|nodup_cons.2 ⟨f,hR.nd⟩,λy e=>?_,by rw[a.length_eq];simp only[length_cons];omega,hR.c1,hR.c2⟩,λ_=>rfl⟩
  ·rw[a.mem_iff,mem_cons];constructor
   ·rintro(h|h)
    ·exact .inr h
    ·exact .inl ⟨h,by simp⟩
   ·rintro(h|h)
    ·exact .inr h.1
    ·exact .inl h
  ·rcases mem_cons.1 (a.mem_iff.1 e) with h|h
   ·exact h ▸ l
   ·exact hR.small _ h
 ·have n:=d.of rfl;have i:k∉S:=λh=>f ((d.mem' k).1 h).1;have j:=(d.perm hR).length_eq;have o:=hR.room;simp only[length_cons] at j;refine⟨⟨b,λy e=>by rw[mem_singleton] at e;exact e ▸ n,by simp,λh=>f<|by rw[mem_singleton] at h;exact h ▸ n,(λh=>by cases h),λy=>?_⟩,⟨a.nodup_iff.2<|nodup_cons.2 ⟨i,d.ok.nd⟩,λy e=>?_,by rw[a.length_eq];simp only[length_cons];omega,hR.c1,hR.c2⟩,λh=>absurd h m⟩
  ·rw[a.mem_iff,mem_cons,d.mem',mem_singleton];constructor
   ·rintro(h|h)
    ·exact .inr h
    ·exact .inl h
   ·rintro(h|h)
    ·exact .inr h
    ·exact .inl h
  ·rcases mem_cons.1 (a.mem_iff.1 e) with h|h
   ·exact h ▸ l
   ·exact d.ok.small _ h
theorem Dz.no(hR:DC c R)(h:¬(k∉R/\(R.length:Int)<c)):Dz c R k false R:=⟨(decide_eq_false h).symm,by simp,hR⟩
theorem Dz.yes(hR:DC c R)(d:k.size<64)(b:k∉R)(e:(R.length:Int)<c)(a:S.Perm (k::R)):Dz c R k true S:=by
 refine⟨(decide_eq_true ⟨b,e⟩).symm,λx=>?_,a.nodup_iff.2<|nodup_cons.2 ⟨b,hR.nd⟩,λy f=>?_,by rw[a.length_eq];simp only[length_cons];omega,hR.c1,hR.c2⟩
 ·rw[a.mem_iff,mem_cons];constructor
  ·rintro(h|h)
   ·exact .inr ⟨rfl,h⟩
   ·exact .inl h
  ·rintro(h|h)
   ·exact .inr h
   ·exact .inl h.2
 ·rcases mem_cons.1 (a.mem_iff.1 f) with h|h
  ·exact h ▸ d
  ·exact hR.small _ h
theorem Gf.no(hR:DC c R)(h:k∉R):Gf c R k false R:=⟨(decide_eq_false h).symm,λx=>⟨λa=>⟨a,λe=>h<|e ▸ a⟩,λa=>a.1⟩,hR⟩
theorem Gf.yes(hR:DC c R)(h:k∈R)(b:R.Perm (k::S)):Gf c R k true S:=by
 have a:=Hc.of_perm hR b;exact⟨(decide_eq_true h).symm,a.mem',a.ok⟩
theorem FA(a b:BL)(k:BA):Aq (a++b) k=Aq a k++Aq b k:=filter_append ..
theorem Gf.cut2{i a:BL}(hR:DC c (i++a))(h:k∈i++a):Gf c (i++a) k true (Aq i k++Aq a k):=by
 rw[<- FA];exact Gf.yes hR h (C4 hR.nd h)
theorem Gf.cut3{i a p:BL}(hR:DC c (i++(a++p)))(h:k∈i++(a++p)):Gf c (i++(a++p)) k true (Aq i k++(Aq a k++Aq p k)):=by
 rw[<- FA,<- FA];exact Gf.yes hR h (C4 hR.nd h)
theorem D8{i a:BL}:((i++[k])++a).Perm (k::(i++a)):=by
 rw[append_assoc];exact perm_middle
theorem EV{i a:BL}:(i++(a++[k])).Perm (k::(i++a)):=by
 rw[<- append_assoc];exact perm_append_comm
end
abbrev Bh(P:Program)(f:FuncId)(args:Array Value)(w:World)(Q:VW):Prop:=Ai P f args w λe w'=>∃v,e = .returned v/\Q v w'
section
variable{P:Program}{f:FuncId}{args:List Value}{w:World}{Q:VW}
theorem Bf{K:WP}(a:Bh P f args.toArray w Q)(hR:∀v w',Q v w'->v = .tuple #[]/\K w'):HT P f args K w:=
 Av a λe w' ⟨v,b,h⟩=>by obtain⟨c,h⟩:=hR v w' h;exact⟨by rw[b,c],h⟩
theorem Ah{k:CK}{K:k.ty->WP}(a:Bh P f args.toArray w Q)(hR:∀v w',Q v w'->∃x,v=k.val x/\K x w'):call1 k P f args K w:=
 Ao a λe w' ⟨v,b,h⟩=>by obtain⟨x,c,h⟩:=hR v w' h;exact⟨x,by rw[b,c],h⟩
theorem AM{k l:CK}{K:k.ty->l.ty->WP}(a:Bh P f args.toArray w Q)(hR:∀v w',Q v w'->∃x y,v = .tuple #[k.val x,l.val y]/\K x y w'):GC k l P f args K w:=
 AJ a λe w' ⟨v,b,h⟩=>by obtain⟨x,y,c,h⟩:=hR v w' h;exact⟨x,y,by rw[b,c],h⟩
theorem Bh.mono{R:VW}{a:Array Value}(h:Bh P f a w Q)(b:∀v w',Q v w'->R v w'):Bh P f a w R:=Ai.mono h λe w' ⟨v,c,h⟩=>⟨v,c,b v w' h⟩
end
def Ba(r:Int):Int:=max 1 (min r 1024)
theorem ED(r:Int):1<=Ba r/\Ba r<=1024:=by unfold Ba;omega
def Ck(l:BL):BA:=l.headD ⟨#[]⟩
theorem BT{l:BL}(a:l.Nodup)(h:0<l.length):Aq l (Ck l)=l.drop 1:=by
 cases l with
 | nil=>simp at h
 | cons x t=>exact KU a
theorem XX{l:BL}(h:0<l.length):l.getD (Int.toNat 0) default=Ck l:=by
 cases l with
 | nil=>simp at h
 | cons a l=>rfl
theorem HZ{b:Type}{d:b}{S:List b}{j:Nat}(a:j<S.length):S.getD j d∈S:=by
 rw[getD_eq_getElem?_getD,getElem?_eq_getElem a];exact getElem_mem _
instance (priority:=low) TA.cons {W0:World} {L:List HP} {p:HP} {s:Sl} {α:Type} {E:Ap α} {rows:List α} [h:TA W0 L s E rows]:TA W0 (p::L) s E rows:=⟨λw hs=>h.rd w hs.drop⟩
end Go.Hb
namespace Go.Proofs.YtjipofkjmmpjdaaGreat
open Go.Hb Go.IntWalk
section
variable{w:World}{a b:Sl}{l:List BA}
theorem _root_.Go.Hb.Be.drew{w w':World}(h:Be w w'):Be w w'.drew:=⟨h.os,h.out,h.heap⟩
theorem IQ{w w':World}{s:Sl}{m:Type}{E:Ap m}{rows:List m}(c:BZ w s E rows)(f:Be w w'):BZ w' s E rows:=by
 refine⟨c.len,?_⟩;rcases c.at_ with h|⟨b,o,g,k⟩
 ·exact .inl h
 ·refine .inr ⟨b,o,g,λi j a l d=>?_⟩;have e:=k i j a l d;rw[getElem?_eq_getElem<|by rw[E.len];exact d] at e ⊢
  exact f.cell e
theorem Adc{s:Sl}{i:Nat}(c:BZ w s Ap.str l)(hi:i<l.length):∃b o,s.a=some ⟨b,o,none⟩/\w.cell? ⟨b,o+i*1,none⟩=some (.s l[i]):=by
 rcases c.at_ with h|⟨b,o,d,e⟩
 ·have:=c.len;omega
 ·exact⟨b,o,d,e i 0 l[i] (getElem?_eq_getElem hi) one_pos⟩
theorem A5q(g:BZ w a Ap.str l)(o:BZ w b Ap.str l)(C:l.length<4611686018427387904):Calls PR 23 #[.l a.a a.n a.c,.l b.a b.n b.c] w λe w'=>e = .returned (.b true)/\Be w w':=by
 have h:@Aw Bn AU PR SF f23 [.l a.a a.n a.c,.l b.a b.n b.c] (λv w'=>v = .b true/\Be w w') w:=by
  rw[A5m];have p:a.n=b.n:=by rw[g.len,o.len]
  refine Ad (by rw[p];simp) ?_;have j:∀(f i:Nat)(m:World),i+f=l.length->Be w m->Yv AU (λv w'=>v = .b true/\Be w w') (f+1) a b (i:Int) m:=by
   intro f
   induction f with
   | zero=>
    intro i m hi d;rw[SG];refine Ad (decide_eq_false<|by rw[g.len];omega) ?_
    unfold Awl AU;rw[Agz];exact⟨rfl,d⟩
   | succ f q=>
    intro i m hi d;rw[SG];refine Am (decide_eq_true<|by rw[g.len];omega) ?_
    obtain⟨r,s,t,u⟩:=Adc (i:=i) g (by omega);obtain⟨y,z,b1,b2⟩:=Adc (i:=i) o (by omega);refine⟨Be w,d.drew,⟨r,s,t,⟨by omega,by rw[g.len];omega⟩,l[i],λw' h=>h.cell u,y,z,b1,⟨by omega,by rw[o.len];omega⟩,?_⟩⟩
    refine Mm (k:=.str) (x:=l[i]) (d.drew.cell b2) (by simp) ⟨d.drew,Ad (by simp[sEq]) ?_⟩;rw[show wrap .i64 ((i:Int)+1)=((i+1:Nat):Int) by rw[i64_in _<|by omega];omega]
    exact q (i+1) _ (by omega) d.drew
  exact AP _ (j l.length 0 w (by omega) .refl)
 exact(F9 mixed func23 rfl h).mono λe w' ⟨v,A,B,d⟩=>⟨by rw[A,B],d⟩
theorem Anp{e:Int}{h:Bool}{x:BA}(k:BZ w a Ap.str l)(m:BZ w b Ap.str l)(o:l.length<4611686018427387904) :
  Calls PR 25 #[.agg #[.i e,.b h,.s x,.l a.a a.n a.c],.agg #[.i e,.b h,.s x,.l b.a b.n b.c]] w λe w'=>e = .returned (.b true)/\Be w w':=by
 have h:@Aw Bn AU PR Ay f25 [.agg #[.i e,.b h,.s x,.l a.a a.n a.c],.agg #[.i e,.b h,.s x,.l b.a b.n b.c]] (λv w'=>v = .b true/\Be w w') w:=by
  rw[A5n];have hs:=Ab.begin w;refine Ak hs λb1 j hs=>Ak hs λb2 j hs=>?_;refine Af hs (Af hs ?_);refine Am (by simp) (Af hs<|Af hs ?_);refine Am (by simp) (Af hs<|Af hs ?_);refine Am (by simp[sEq]) (Af (x:=a) hs<|Af (x:=b) hs ?_);have d:Be w j:=hs.kept (q:=2) rfl;exact(A5q (IQ k d) (IQ m d) o).mono λe w' ⟨f,g⟩=>⟨true,f,rfl,d.trans g⟩
 exact(F9 mixed func25 rfl h).mono λe w' ⟨v,f,p,d⟩=>⟨by rw[f,p],d⟩
end
end Go.Proofs.YtjipofkjmmpjdaaGreat
namespace Go.Proofs.YtjipofkjmmpjdaaGreat
open Go.Hb
theorem Awd{a:Array Value}{w:World}{R:Ending->World->Prop}(h:Awc a w R):Ai PR 200 a w R:=λC b=>b.prim _ _ _ _ _ ⟨rfl,.inr<|.inr<|.inl ⟨rfl,h⟩⟩
theorem A7n{a:Array Value}{w:World}{R:Ending->World->Prop}(h:Ax5 a w R):Ai PR 122 a w R:=λC b=>b.prim _ _ _ _ _ ⟨rfl,.inr<|.inr<|.inr ⟨rfl,h⟩⟩
theorem VX{b o:Nat}(w:World)(h:w.cell? ⟨b,o+4,none⟩=some (.b true)):Ai PR 200 #[pq b o] w λe w'=>e = .returned (.b true)/\w'=w:=Awd ⟨b,o,rfl,.inl ⟨h,rfl,rfl⟩⟩
theorem SA{b o c cap s r:Nat}(w:World)(h:w.cell? ⟨b,o+4,none⟩=some (.b false))(a:w.cell? ⟨b,o,none⟩=some (.chan<|some c))(hc:w.heap[c]? = some (.chan cap #[] false s r false)) :
  Ai PR 200 #[pq b o] w λe w'=>e = .returned (.b false)/\w'=w:=Awd ⟨b,o,rfl,.inr ⟨c,cap,s,r,h,a,.inl ⟨hc,rfl,rfl⟩⟩⟩
theorem SB{W w:World}{L:List HP}{b o c cap s r:Nat}{k n:Int}{key:BA}{cs buf:List Value}(p:o+5<=cs.length)(h:cs[o+4]? = some (.b false))(d:cs[o]? = some (.chan<|some c))
  (hs:Ab W w (DO c (.chan cap (.agg #[.i k,.s key,.i n]::buf).toArray false s r false)::blk b cs::L)):Ai PR 200 #[pq b o] w λe w'=>e = .returned (.b true)/\Ab W w' (DO c (.chan cap buf.toArray false s (r+1) false)::blk b (MG cs o k key n)::L):=by
 have hc:=hs.objC;have h:=(hs.cell (q:=1) rfl).trans h;have d:=(hs.cell (q:=1) rfl).trans d;obtain⟨g,t,T,lo,hi,u,x⟩:=hs.get (q:=1) rfl;have f:=PF (s':=s) (r':=r+1) (B':=buf.toArray) hs;have j:=f.set (q:=1) (b:=b) (o:=o+1) (v:=.i k) rfl;have l:=j.set (q:=1) (b:=b) (o:=o+1+1) (v:=.s key) rfl;have m:=l.set (q:=1) (b:=b) (o:=o+1+2) (v:=.i n) rfl;have a:=m.set (q:=1) (b:=b) (o:=o+4) (v:=.bool true) rfl;simp only[set_cons_succ,set_cons_zero] at a;exact Awd ⟨b,o,rfl,.inr ⟨c,cap,s,r,h,d,.inr ⟨k,n,key,buf,cs,T,lo,hi,hc,t _ _ u,x,p,rfl,by unfold MG;exact a⟩⟩⟩
theorem Pb{W w:World}{L:List HP}{b o c cap s r:Nat}{kd n:Int}{key:BA}{cs buf:List Value}(t:10<cs.length)(a:cs[o]? = some (.chan<|some c))(j:cs[10]? = some (.i n))(k:buf.length<cap)
  (hs:Ab W w (DO c (.chan cap buf.toArray false s r false)::blk b cs::L)):Ai PR 122 #[pq b 0,pq b o,.i kd,.s key] w λe w'=>e = .returned (.b true) /\
   Ab W w' (DO c (.chan cap (buf++[Value.agg #[.i kd,.s key,.i n]]).toArray false (s+1) r false)::blk b (cs.set 10<|.i<|wrap .i64<|n+1)::L):=by
 have hc:=hs.objC;have a:=(hs.cell (q:=1) rfl).trans a;have d:=(hs.cell (q:=1) rfl).trans j;obtain⟨g,l,T,lo,hi,m,p⟩:=hs.get (q:=1) rfl;have f:=PF (s':=s+1) (r':=r) (B':=(buf++[Value.agg #[.i kd,.s key,.i n]]).toArray) hs;have h:=f.set (q:=1) (b:=b) (o:=10) (v:=.i (wrap .i64<|n+1)) rfl;exact A7n ⟨b,o,kd,n,key,c,cap,s,r,buf,cs,T,lo,hi,rfl,a,d,hc,l _ _ m,p,.inr ⟨k,rfl,h⟩⟩
theorem Pa{W w:World}{L:List HP}{b o c cap s r:Nat}{kd n:Int}{key:BA}{cs buf:List Value}(a:cs[o]? = some (.chan<|some c))(f:cs[10]? = some (.i n))(h:cap<=buf.length)
  (hs:Ab W w (DO c (.chan cap buf.toArray false s r false)::blk b cs::L)):Ai PR 122 #[pq b 0,pq b o,.i kd,.s key] w λe w'=>e = .returned (.b false)/\w'=w:=by
 have hc:=hs.objC;have a:=(hs.cell (q:=1) rfl).trans a;have d:=(hs.cell (q:=1) rfl).trans f;obtain⟨g,j,T,lo,hi,k,l⟩:=hs.get (q:=1) rfl;exact A7n ⟨b,o,kd,n,key,c,cap,s,r,buf,cs,T,lo,hi,rfl,a,d,hc,j _ _ k,l,.inl ⟨h,rfl,rfl⟩⟩
end Go.Proofs.YtjipofkjmmpjdaaGreat
namespace Go.Hb
abbrev W1:=List (Nat×BA)
def P8(j:Nat)(row:W1):List (BA×(Int×Int)):=row.map λe=>(e.2,((j:Int),(e.1:Int)))
def Dw:Nat->List W1->List (BA×(Int×Int))
 | _,[]=>[]
 | j,r::rs=>P8 j r++Dw (j+1) rs
def CP(rs:List W1):List (List BA):=rs.map λr=>r.map (·.2)
theorem JN(j:Nat)(r:W1):(P8 j r).map (·.1)=r.map (·.2):=by simp[P8]
theorem DJ:∀(rs:List W1)(j:Nat),(Dw j rs).map (·.1)=(CP rs).flatten
 | [],_=>rfl
 | r::rs,j=>by
  have a:=DJ rs (j+1);simp only[Dw,CP,map_append,map_cons,flatten_cons,JN] at a ⊢;rw[a]
theorem VM{k:BA}{p:Int×Int}:∀{rs:List W1}{j:Nat},(k,p)∈Dw j rs->∃(a:Nat) (row:W1) (i:Nat) (e:Nat×BA),rs[a]? = some row/\row[i]? = some e/\e.2=k/\p=(((j+a:Nat):Int),(e.1:Int))
 | [],_,h=>by cases h
 | r::rs,j,h=>by
  rw[Dw,mem_append] at h;rcases h with h|h
  ·simp only[P8,mem_map] at h;obtain⟨e,b,h⟩:=h;obtain⟨i,hi,rfl⟩:=mem_iff_getElem.1 b;cases h;exact⟨0,r,i,r[i],rfl,getElem?_eq_getElem hi,rfl,rfl⟩
  ·obtain⟨a,row,i,e,c,d,f,g⟩:=VM h;refine⟨a+1,row,i,e,by simpa using c,d,f,?_⟩;rw[g];congr 2;omega
theorem OH{V:Type}[Inhabited V](a b:List (BA×V))(k:BA):BU (a++b) k=BU a k++BU b k:=by unfold BU;rw[filter_append]
theorem Su{V:Type}[Inhabited V]{m:List (BA×V)}{k:BA}(h:k∉m.map (·.1)):BU m k=m:=by
 unfold BU;rw[filter_eq_self];intro e a;exact decide_eq_true λb=>h (mem_map.2 ⟨e,a,b⟩)
theorem OU{k:BA}:∀{rs:List W1}{j c i:Nat}{row:W1}{e:Nat×BA},((Dw j rs).map (·.1)).Nodup->rs[c]? = some row->row[i]? = some e->e.2=k ->
  Dw j (rs.set c<|row.eraseIdx i)=BU (Dw j rs) k/\CP (rs.set c<|row.eraseIdx i)=(CP rs).map λr=>Aq r k
 | [],_,_,_,_,_,_,h,_,_=>by simp at h
 | r::rs,j,c,i,row,e,o,g,hi,l=>by
  rw[Dw,map_append,nodup_append] at o;obtain⟨p,q,s⟩:=o;have a:∀x,x∈r.map (·.2)->x∈(CP rs).flatten->False:=λx f d=>by
   rw[<- JN j] at f;rw[<- DJ rs (j+1)] at d;exact s x f x d rfl
  cases c with
  | zero=>
   simp only[getElem?_cons_zero,Option.some.injEq] at g;subst g;have f:(P8 j r)[i]? = some (k,((j:Int),(e.1:Int))):=by unfold P8;rw[getElem?_map,hi,<- l];rfl
   have d:P8 j (r.eraseIdx i)=BU (P8 j r) k:=by rw[<- HD p f];exact LB _ _ _
   have n:k∈r.map (·.2):=by rw[<- l];exact mem_map.2 ⟨e,mem_of_getElem? hi,rfl⟩
   have b:k∉(CP rs).flatten:=λh=>a k n h;have t:BU (Dw (j+1) rs) k=Dw (j+1) rs:=Su (by rw[DJ];exact b)
   constructor
   ·rw[set_cons_zero,Dw,Dw,OH,d,t]
   ·have u:(r.eraseIdx i).map (·.2)=Aq (r.map (·.2)) k:=by
     rw[<- JN j,d,Acn,JN]
    have v:(CP rs).map (λr=>Aq r k)=CP rs:=by
     conv=>rhs;rw[<- map_id (CP rs)]
     refine map_congr_left λx w=>Ax λh=>b (mem_flatten.2 ⟨x,w,h⟩)
    show(r.eraseIdx i).map (·.2)::CP rs=Aq (r.map (·.2)) k::(CP rs).map λr=>Aq r k;rw[u,v]
  | succ c=>
   simp only[List.getElem?_cons_succ] at g;obtain⟨f,d⟩:=OU (j:=j+1) q g hi l;have n:k∈(CP rs).flatten:=by
    refine mem_flatten.2 ⟨row.map (·.2),?_,by rw[<- l];exact mem_map.2 ⟨e,mem_of_getElem? hi,rfl⟩⟩;exact mem_map.2 ⟨row,mem_of_getElem? g,rfl⟩
   have b:k∉r.map (·.2):=λh=>a k h n;constructor
   ·rw[set_cons_succ,Dw,Dw,OH,f,Su (m:=P8 j r)<|by rw[JN];exact b]
   ·show r.map (·.2)::CP (rs.set c<|row.eraseIdx i)=Aq (r.map (·.2)) k::(CP rs).map λr=>Aq r k;rw[d,Ax b]
theorem SQ{k:BA}{h:Nat}:∀{rs:List W1}{j a:Nat}{row:W1},rs[a]? = some row->(Dw j<|rs.set a<|row++[(h,k)]).Perm ((k,(((j+a:Nat):Int),(h:Int)))::Dw j rs)
 | [],_,_,_,h=>by simp at h
 | r::rs,j,a,row,b=>by
  cases a with
  | zero=>
   simp only[getElem?_cons_zero,Option.some.injEq] at b;subst b;rw[set_cons_zero,Dw,Dw];have:P8 j (r++[(h,k)])=P8 j r++[(k,(((j+0:Nat):Int),(h:Int)))]:=by simp[P8]
   rw[this];exact((List.perm_append_singleton _ _).append_right _)
  | succ a=>
   simp only[List.getElem?_cons_succ] at b;rw[set_cons_succ,Dw,Dw];have c:=SQ (k:=k) (h:=h) (j:=j+1) b;rw[show j+1+a=j+(a+1) by omega] at c;exact(c.append_left _).trans perm_middle
structure Ez(K:List (List BA))(rs:List W1)(m:List (BA×(Int×Int))):Prop where
 keys:CP rs=K
 nd:K.flatten.Nodup
 perm:m.Perm (Dw 0 rs)
 small:∀k∈K.flatten,k.size<64
def E3(K:List (List BA))(k:BA):Int:=match K.findIdx? λr=>TE r k with
 | some j=>(j:Int)
 | none=>-1
def DI(K:List (List BA))(k:BA):List (List BA):=K.map λr=>Aq r k
def D2(K:List (List BA))(j:Nat)(k:BA):List (List BA):=(DI K k).set j ((DI K k).getD j []++[k])
section
variable{K:List (List BA)}{rs:List W1}{m:List (BA×(Int×Int))}{k:BA}
theorem Ez.mnd(hi:Ez K rs m):(m.map (·.1)).Nodup:=by
 rw[(hi.perm.map (·.1)).nodup_iff,DJ,hi.keys];exact hi.nd
theorem Ez.small_m(hi:Ez K rs m):∀e∈m,e.1.size<4611686018427387904:=λe a=>by
 refine Nat.lt_trans (hi.small _ ?_) (by decide);rw[<- hi.keys,<- DJ rs 0,<- (hi.perm.map (·.1)).mem_iff];exact mem_map.2 ⟨e,a,rfl⟩
theorem Ez.klen(hi:Ez K rs m):K.length=rs.length:=by rw[<- hi.keys];simp[CP]
theorem Ez.mlen(hi:Ez K rs m):m.length=K.flatten.length:=by
 have:=(hi.perm.map (·.1)).length_eq;rw[DJ,hi.keys] at this;simpa using this
theorem Ez.row(hi:Ez K rs m){j:Nat}{row:W1}(h:rs[j]? = some row):K[j]? = some (row.map (·.2)):=by
 rw[<- hi.keys];unfold CP;rw[getElem?_map,h];rfl
theorem Ez.none_iff(hi:Ez K rs m):AH m k=none↔k∉K.flatten:=by
 rw[<- hi.keys,<- DJ rs 0,<- (hi.perm.map (·.1)).mem_iff,BC];constructor
 ·intro h a;obtain⟨e,b,rfl⟩:=mem_map.1 a;exact h e b rfl
 ·intro h e b a;exact h (mem_map.2 ⟨e,b,a⟩)
theorem Ez.miss(hi:Ez K rs m)(d:AH m k=none):k∉K.flatten/\DI K k=K/\E3 K k = -1/\Ez K rs (BU m k):=by
 have a:=hi.none_iff.1 d;have c:∀r∈K,k∉r:=λr b h=>a (mem_flatten.2 ⟨r,b,h⟩);refine⟨a,?_,?_,?_⟩
 ·unfold DI
  conv=>rhs;rw[<- map_id K]
  exact map_congr_left λx e=>Ax (c x e)
 ·unfold E3;have:K.findIdx? (λr=>TE r k)=none:=by
   rw[List.findIdx?_eq_none_iff];intro r b;exact Ma.2 (c r b)
  rw[this]
 ·have:BU m k=m:=Su (by rw[(hi.perm.map (·.1)).mem_iff,DJ,hi.keys];exact a);rw[this];exact hi
theorem Ez.at_row(hi:Ez K rs m){p:Int×Int}(a:AH m k=some p):∃(j:Nat) (row:W1) (i:Nat) (e:Nat×BA),rs[j]? = some row/\row[i]? = some e/\e.2=k/\p=((j:Int),(e.1:Int)):=by
 have b:(k,p)∈Dw 0 rs:=hi.perm.mem_iff.1 ((BM hi.mnd).1 a);obtain⟨j,row,i,e,c,d,f,g⟩:=VM b;exact⟨j,row,i,e,c,d,f,by rw[g,Nat.zero_add]⟩
theorem Agy{K:List (List BA)}(g:K.flatten.Nodup){i j:Nat}{a b:List BA}(l:K[i]? = some a)(m:K[j]? = some b)(d:k∈a)(e:k∈b):i=j:=by
 have c:=(List.pairwise_flatten.1 g).2;rw[List.pairwise_iff_getElem] at c;obtain⟨hi,rfl⟩:=List.getElem?_eq_some_iff.1 l;obtain⟨f,rfl⟩:=List.getElem?_eq_some_iff.1 m;rcases Nat.lt_trichotomy i j with h|h|h
 ·exact absurd rfl (c i j hi f h k d k e)
 ·exact h
 ·exact absurd rfl (c j i f hi h k e k d)
theorem Ez.where_eq(hi:Ez K rs m){p:Int×Int}(f:AH m k=some p):p.1=E3 K k:=by
 obtain⟨j,row,i,e,g,h,l,rfl⟩:=hi.at_row f;have c:=hi.row g;have d:k∈row.map (·.2):=by rw[<- l];exact mem_map.2 ⟨e,mem_of_getElem? h,rfl⟩
 have:K.findIdx? (λr=>TE r k)=some j:=by
  rw[List.findIdx?_eq_some_iff_getElem];obtain⟨n,a⟩:=List.getElem?_eq_some_iff.1 c;refine⟨n,by rw[a];exact HY.2 d,λx o=>?_⟩
  rw[HY];intro b;have:=Agy hi.nd (getElem?_eq_getElem<|show x<K.length by omega) c b d;omega
 unfold E3;rw[this]
theorem Ez.hit(hi:Ez K rs m){p:Int×Int}(n:AH m k=some p)(o:∀row∈rs,(row.map (·.1)).Nodup):∃(j:Nat) (row:W1) (i:Nat),p.1=(j:Int)/\rs[j]? = some row/\Ko row p.2=some i/\i<row.length /\
  Ez (DI K k) (rs.set j<|row.eraseIdx i) (BU m k):=by
 obtain⟨j,row,i,e,b,c,q,rfl⟩:=hi.at_row n;have a:((Dw 0 rs).map (·.1)).Nodup:=by rw[DJ,hi.keys];exact hi.nd
 obtain⟨g,h⟩:=OU a b c q;refine⟨j,row,i,rfl,b,Lj (o row<|mem_of_getElem? b) c,(List.getElem?_eq_some_iff.1 c).1,?_,?_,?_,?_⟩
 ·rw[h,hi.keys];rfl
 ·rw[<- show CP (rs.set j<|row.eraseIdx i)=DI K k by rw[h,hi.keys];rfl,<- DJ _ 0,g];exact a.sublist ((filter_sublist (p:=λe=>decide<|e.1≠k) (l:=Dw 0 rs)).map (·.1))
 ·rw[g];exact VJ hi.perm
 ·intro x d;obtain⟨r,s,d⟩:=mem_flatten.1 d;obtain⟨t,f,rfl⟩:=mem_map.1 s;exact hi.small x (mem_flatten.2 ⟨t,f,(AO.1 d).1⟩)
theorem KF{b:Type}:∀{l:List (List b)}{j:Nat}{r:List b}{x:b},l[j]? = some r->((l.set j<|r++[x]).flatten).Perm (x::l.flatten)
 | [],_,_,_,h=>by simp at h
 | a::l,0,r,x,h=>by
  simp only[getElem?_cons_zero,Option.some.injEq] at h;subst h;rw[set_cons_zero,flatten_cons,flatten_cons];exact(List.perm_append_singleton _ _).append_right _
 | a::l,j+1,r,x,h=>by
  simp only[List.getElem?_cons_succ] at h;rw[set_cons_succ,flatten_cons,flatten_cons];exact((KF h).append_left _).trans perm_middle
theorem Ez.push(hi:Ez K rs m)(c:k∉K.flatten)(g:k.size<64){j:Nat}{row:W1}(d:rs[j]? = some row)(h:Nat) :
  Ez (K.set j<|K.getD j []++[k]) (rs.set j<|row++[(h,k)]) (Cw m k ((j:Int),(h:Int))):=by
 have e:=hi.row d;have b:K.getD j []=row.map (·.2):=by rw[getD_eq_getElem?_getD,e];rfl
 have f:=KF (x:=k) e;rw[b];refine⟨?_,?_,?_,?_⟩
 ·rw[<- hi.keys];unfold CP;rw[map_set];simp
 ·rw[f.nodup_iff,nodup_cons];exact⟨c,hi.nd⟩
 ·have i:=hi.none_iff.2 c;have l:Cw m k ((j:Int),(h:Int))=(k,((j:Int),(h:Int)))::m:=by unfold Cw;rw[i]
  rw[l];have:=SQ (k:=k) (h:=h) (j:=0) d;rw[Nat.zero_add] at this;exact(hi.perm.cons _).trans this.symm
 ·intro x a;rw[f.mem_iff,mem_cons] at a;rcases a with rfl|a
  ·exact g
  ·exact hi.small x a
theorem Ano(K:List (List BA))(k:BA):k∉(DI K k).flatten:=by
 intro h;obtain⟨r,a,h⟩:=mem_flatten.1 h;obtain⟨b,_,rfl⟩:=mem_map.1 a;exact(AO.1 h).2 rfl
end
abbrev HR:=Nat×W1×List Nat
def Fc(x:HR):HP:=lst .s x.1 x.2.1 x.2.2
def rowsC(s:Sl)(xb:Nat)(N:Nat)(K:List (List BA)):HP:=Ly λ(x:List HR×List (BA×(Int×Int)))=>
 Fs (Ez K (x.1.map (·.2.1)) x.2/\∀y∈x.1,y.2.1.length+y.2.2.length<=N)
  (A55 (recs Ap.ptr s<|x.1.map (·.1))<|A55 (ixr Ap.ii xb 0 x.2)<|AN<|x.1.map Fc)
section
variable{W w:World}{M L:List HP}{xb N:Nat}{s:Sl}{K:List (List BA)}
instance At.rowsC:At (rowsC s xb N K::L) xb (rowsC s xb N K) (λx=>x::L):=⟨E7⟩
theorem Anv(h:Ab W w (rowsC s xb N K::M)):∃(xs:List HR) (m:List (BA×(Int×Int))),Ez K (xs.map (·.2.1)) m/\(∀y∈xs,y.2.1.length+y.2.2.length<=N)/\s.n=xs.length /\
  Ab W w (recs Ap.ptr s (xs.map (·.1))::ixr Ap.ii xb 0 m::(xs.map Fc++M)):=by
 obtain⟨⟨xs,m⟩,h⟩:=h.openE;obtain⟨⟨b,c⟩,h⟩:=h.openA;have h:=h.split;have d:=(h.perm<|List.Perm.swap _ _ _).split;have e:Ab W w (AN (xs.map Fc)::recs Ap.ptr s (xs.map (·.1))::ixr Ap.ii xb 0 m::M):=by
  refine d.perm ?_;exact((List.Perm.swap _ _ _).trans<|(List.Perm.swap _ _ _).cons _).trans (List.Perm.refl _) |>.trans (by
   first|exact List.Perm.refl _|exact(List.Perm.swap _ _ _).trans ((List.Perm.swap _ _ _).cons _)|exact(List.Perm.swap _ _ _).cons _)
 have f:=e.openL;have a:Ab W w (recs Ap.ptr s (xs.map (·.1))::ixr Ap.ii xb 0 m::(xs.map Fc++M)):=by
  refine f.perm ?_;exact perm_middle.trans (perm_middle.cons _)
 refine⟨xs,m,b,c,?_,a⟩;have:=(BE (s:=s) a<|by decide).1;simpa using this
theorem Anw{xs:List HR}{m:List (BA×(Int×Int))}(hi:Ez K (xs.map (·.2.1)) m)(a:∀y∈xs,y.2.1.length+y.2.2.length<=N)
  (h:Ab W w (recs Ap.ptr s (xs.map (·.1))::ixr Ap.ii xb 0 m::(xs.map Fc++M))):Ab W w (rowsC s xb N K::M):=by
 refine Ab.shutE (xs,m) (Ab.shutA ⟨hi,a⟩ ?_);refine Ab.join ?_;have b:Ab W w (xs.map Fc++(recs Ap.ptr s (xs.map (·.1))::ixr Ap.ii xb 0 m::M)):=
  h.perm (perm_middle.trans<|perm_middle.cons _).symm
 have c:=Ab.shutL b;have d:Ab W w (ixr Ap.ii xb 0 m::AN (xs.map Fc)::recs Ap.ptr s (xs.map (·.1))::M):=by
  refine c.perm ?_;exact((List.Perm.swap _ _ _).cons _).trans (List.Perm.swap _ _ _)
 exact(d.join).perm (List.Perm.swap _ _ _)
theorem Gu(h:Ab W w (rowsC s xb N K::M)):∃(xs:List HR) (m:List (BA×(Int×Int))),Ez K (xs.map (·.2.1)) m/\(∀y∈xs,y.2.1.length+y.2.2.length<=N)/\s.n=xs.length /\
  Ab W w (recs Ap.ptr s (xs.map (·.1))::ixr Ap.ii xb 0 m::AN (xs.map Fc)::M):=by
 obtain⟨xs,m,a,b,c,h⟩:=Anv h;refine⟨xs,m,a,b,c,?_⟩;have d:=Ab.shutL (h.perm (perm_middle.trans<|perm_middle.cons _).symm);exact d.perm ((List.Perm.swap _ _ _).trans<|(List.Perm.swap _ _ _).cons _)
theorem FR{xs:List HR}{m:List (BA×(Int×Int))}(hi:Ez K (xs.map (·.2.1)) m)(a:∀y∈xs,y.2.1.length+y.2.2.length<=N)
  (h:Ab W w (recs Ap.ptr s (xs.map (·.1))::ixr Ap.ii xb 0 m::AN (xs.map Fc)::M)):Ab W w (rowsC s xb N K::M):=by
 refine Anw hi a ?_;have b:Ab W w (AN (xs.map Fc)::recs Ap.ptr s (xs.map (·.1))::ixr Ap.ii xb 0 m::M):=h.perm (((List.Perm.swap _ _ _).cons _).trans<|List.Perm.swap _ _ _);exact(b.openL).perm (perm_middle.trans<|perm_middle.cons _)
theorem HS{xs:List HR}{j:Nat}{x:HR}(b:xs[j]? = some x)(h:Ab W w (AN (xs.map Fc)::M)):Ab W w (lst .s x.1 x.2.1 x.2.2::AN ((xs.eraseIdx j).map Fc)::M):=by
 obtain⟨c,rfl⟩:=List.getElem?_eq_some_iff.1 b;have a:=h.openL.perm (((EM c).map Fc).append_right M).symm;rw[map_cons,cons_append] at a;exact(Ab.shutL<|a.perm perm_middle.symm).perm (List.Perm.swap _ _ _)
theorem Rc{xs:List HR}{j:Nat}{x:HR}{r:W1}{f:List Nat}(c:xs[j]? = some x)(h:Ab W w (lst .s x.1 r f::AN ((xs.eraseIdx j).map Fc)::M)):Ab W w (AN ((xs.set j (x.1,r,f)).map Fc)::M):=by
 obtain⟨d,rfl⟩:=List.getElem?_eq_some_iff.1 c;have a:j<(xs.set j (xs[j].1,r,f)).length:=by simpa using d
 have b:=((EM a).map Fc).append_right M;rw[List.getElem_set_self,List.eraseIdx_set_eq] at b;refine Ab.shutL (Ab.perm ?_ b);rw[map_cons,cons_append];exact((h.perm<|List.Perm.swap _ _ _).openL).perm perm_middle
theorem Tc{b:Type}{l:List b}{j:Nat}{x:b}(h:l[j]? = some x):l.set j x=l:=by
 obtain⟨a,rfl⟩:=List.getElem?_eq_some_iff.1 h;exact List.set_getElem_self a
theorem MS{xs:List HR}{j:Nat}{x:HR}(a:xs[j]? = some x)(h:Ab W w (lst .s x.1 x.2.1 x.2.2::AN ((xs.eraseIdx j).map Fc)::M)):Ab W w (AN (xs.map Fc)::M):=by
 have:=Rc a h
 rwa [Tc a] at this
theorem KH:∀{xs:List HR},(∀y∈xs,y.2.1.length+y.2.2.length<=N)->(CP<|xs.map (·.2.1)).flatten.length<=xs.length*N
 | [],_=>by simp[CP]
 | y::xs,h=>by
  have a:=KH (xs:=xs) λz b=>h z (.tail _ b);have c:=h y (.head _);simp only[CP,map_cons,flatten_cons,length_append,length_map,length_cons] at a ⊢;rw[Nat.succ_mul];omega
theorem Ez.mlenR{xs:List HR}{m:List (BA×(Int×Int))}(hi:Ez K (xs.map (·.2.1)) m)(c:∀y∈xs,y.2.1.length+y.2.2.length<=N)(d:K.length<=4):m.length<=4*N/\xs.length=K.length:=by
 have f:=hi.mlen;have a:=KH c;have e:=hi.klen;rw[hi.keys] at a;have b:xs.length=K.length:=by simpa using e.symm
 have g:=mul_le_mul_right N d;rw[b] at a;exact⟨by omega,b⟩
theorem J3{xs:List HR}{j:Nat}{x:HR}(a:xs[j]? = some x):(xs.map (·.1)).getD j default=x.1:=by
 rw[getD_eq_getElem?_getD,getElem?_map,a];rfl
end
end Go.Hb
namespace Go.Proofs.YtjipofkjmmpjdaaGreat
open Go.Hb
theorem c1{P:Program}{f:FuncId}{args:Array Value}{w:World}{a:Value}{S:World->Prop}(h:Ai P f args w λe w'=>∃v,e = .returned v/\(v=a/\S w')) :
  Ai P f args w λe w'=>e = .returned a/\S w':=h.mono λ_ _ ⟨_,b,c,hs⟩=>⟨by rw[b,c],hs⟩
end Go.Proofs.YtjipofkjmmpjdaaGreat
namespace Go.Proofs.YtjipofkjmmpjdaaGreat
open Go.Hb Go.IntWalk
section
variable{W w:World}{L:List HP}
theorem Av3(hs:Ab W w L){x:Int}:Ai PR 156 #[.int .u64 x] w λe w'=>e = .returned (.int .u64<|Agw x)/\Ab W w' L:=by
 refine c1 (cw ⟨mixed,func156,rfl⟩ Ard ?_);exact⟨by decide,by decide,by decide,rfl,hs⟩
theorem Hl(hs:Ab W w L){a:Int}{s:BA}(f:s.size<4611686018427387904):Ai PR 117 #[.int .u64 a,.s s] w λe w'=>e = .returned (.int .u64<|Fw a s)/\Ab W w' L:=by
 refine c1 (cw ⟨mixed,func117,rfl⟩ Aqg ?_);refine Ao (Av3 hs) λe w ⟨c,hs⟩=>⟨_,c,?_⟩;have b:∀(m i:Nat)(h:Int)(w:World),i+m=s.size->Ab W w L->PT AU (λv w'=>v = .int .u64 (RP s m i h)/\Ab W w' L) (m+1) s h (s.size:Int) (i:Int) w:=by
  intro m
  induction m with
  | zero=>
   intro i h w hi hs;rw[ND];refine Ad (decide_eq_false<|by omega) ?_;refine jw Zq ?_;exact⟨rfl,hs⟩
  | succ m d=>
   intro i h w hi hs;rw[ND];refine Am (decide_eq_true<|by omega) (A1 (by omega) ?_);refine Ao (Av3 hs) λe w ⟨c,hs⟩=>⟨_,c,?_⟩;rw[i64_in _<|by omega];exact d (i+1) _ w (by omega) hs
 rw[Ab4];refine⟨s.size+1,?_⟩;exact b s.size 0 _ w (by omega) hs
theorem GR(hs:Ab W w L){h:Int}{n:Nat}(a:0<=h)(b:0<n)(d:n<4611686018427387904):Ai PR 116 #[.int .u64 h,.i (n:Int)] w λe w'=>e = .returned (.i ((h.toNat % n:Nat):Int))/\Ab W w' L:=by
 refine c1 (cw ⟨mixed,func116,rfl⟩ Aqf ?_);refine Ad (decide_eq_false<|by omega) ?_;rw[u64_in _<|by omega];refine A1 (by omega) ⟨?_,hs⟩;rw[Int.tmod_eq_emod_of_nonneg a];have c:h % (n:Int)=((h.toNat % n:Nat):Int):=by
  rw[Int.natCast_emod,Int.toNat_of_nonneg a]
 have:=mod_lt h.toNat b;rw[c,i64_in _<|by omega]
end
end Go.Proofs.YtjipofkjmmpjdaaGreat
namespace Go.Proofs.YtjipofkjmmpjdaaGreat
open Go.Hb
def QZ(c:Jn->(VW)->EW)(d:Jn)(Q:VW)(a b:Nat):WP:=d 12 (c d Q ) (us 4 ((pq a b)::us 22 []))
def Jq(c:Jn->(VW)->Nat->EW)(d:Jn)(Q:VW)(m1:Nat)(x0:OA)(b:BA)(a e:Int):WP:=d 8 (c d Q m1) ((.p x0)::(.s b)::us 4 ((.i a)::(.i e)::us 71 []))
def Jr(c:Jn->(VW)->Nat->EW)(h:Jn)(Q:VW)(m1:Nat)(x0:OA)(d:BA)(a j:Int)(e f:Nat)(g:Bool):WP:=h 22 (c h Q m1) ((.p x0)::(.s d)::us 4 ((.i a)::(.i j)::(pq e f)::us 52 ((.b g)::us 17 [])))
def Jp(c:Jn->(VW)->Nat->EW)(h:Jn)(Q:VW)(m1:Nat)(x0:OA)(d:BA)(a j:Int)(e f:Nat)(g:Bool):WP:=h 18 (c h Q m1) ((.p x0)::(.s d)::us 4 ((.i a)::(.i j)::(pq e f)::us 41 ((.b g)::us 28 [])))
def Jo(c:Jn->(VW)->Nat->EW)(h:Jn)(Q:VW)(m1:Nat)(x0:OA)(d:BA)(a j:Int)(e f:Nat)(g:Bool):WP:=h 14 (c h Q m1) ((.p x0)::(.s d)::us 4 ((.i a)::(.i j)::(pq e f)::us 26 ((.b g)::us 43 [])))
def N3(c:Jn->(VW)->EW)(e:Jn)(Q:VW)(x0:OA)(f:Int)(a:BA)(b d:Nat):WP:=e 8 (c e Q ) ((.p x0)::(.i f)::(.s a)::us 4 ((pq b d)::us 32 []))
def YP(c:Jn->(VW)->EW)(a:Jn)(Q:VW)(b:Int):WP:=a 16 (c a Q ) (us 5 ((.i b)::us 18 []))
def YO(c:Jn->(VW)->EW)(d:Jn)(Q:VW)(b:Sl):WP:=d 16 (c d Q ) (us 5 ((.l b.a b.n b.c)::us 18 []))
def Ra(c:Jn->(VW)->EW)(f:Jn)(Q:VW)(a b d e:Nat):WP:=f 14 (c f Q ) (us 2 ((pq a b)::(pq d e)::us 13 []))
structure RwF where
 i_new:Nat
 new_fn:Func
 new_kp:KP
 i_get:Nat
 get_fn:Func
 get_kp:KP
 i_put:Nat
 put_fn:Func
 put_kp:KP
 i_del:Nat
 del_fn:Func
 del_kp:KP
 i_find:Nat
 find_fn:Func
 find_kp:KP
 i_lays:Nat
 lays_fn:Func
 lays_kp:KP
 i_grows:Nat
 grows_fn:Func
 grows_kp:KP
 i_where:Nat
 where_fn:Func
 where_kp:KP
 i_push:Nat
 push_fn:Func
 push_kp:KP
 i_many:Nat
 many_fn:Func
 many_kp:KP
 i_keys:Nat
 keys_fn:Func
 keys_kp:KP
 i_drop:Nat
 drop_fn:Func
 drop_kp:KP
 i_oldest:Nat
 oldest_fn:Func
 oldest_kp:KP
 i_newRows:Nat
 newRows_fn:Func
 newRows_kp:KP
 (p1 p2 p3 p4:Nat)
 get_j1_c:Jn->(VW)->EW
 find_j4_c:Jn->(VW)->Nat->EW
 find_j5_c:Jn->(VW)->Nat->EW
 find_j3_c:Jn->(VW)->Nat->EW
 find_j2_c:Jn->(VW)->Nat->EW
 find_l1:Jn->(VW)->Nat->OA->BA->Int->Int->WP
 lays_j1_c:Jn->(VW)->EW
 grows_l1:Jn->(VW)->Nat->OA->Sl->Int->Int->WP
 many_j2_c:Jn->(VW)->EW
 many_l1:Jn->(VW)->Nat->Nat->Nat->Int->Sl->Int->Int->WP
 keys_j2_c:Jn->(VW)->EW
 keys_l1:Jn->(VW)->Nat->Nat->Nat->Sl->Sl->Int->Int->WP
 newRows_j2_c:Jn->(VW)->EW
 newRows_l1:Jn->(VW)->Nat->Nat->Nat->Nat->Nat->Int->Int->WP
 new_ok:Jm PR i_new new_fn
 new_so:CW PR new_kp (AC new_fn)=true
 new_raw:∀{jn:Jn}{seed0:Int}{Q:VW},Aw jn PR new_kp new_fn [.int .u64 seed0] Q=(
 Ij p1 40 [.i (0:Int),.s Ae,.i (0:Int),.i (0:Int)] (8:Int) (8:Int) λs_1=>
 Az [.int .u64 seed0,.l s_1.a s_1.n s_1.c,.i (0:Int),.i (0:Int)] p2 λb_2=>
 Q (pq b_2 0))
 get_ok:Jm PR i_get get_fn
 get_so:CW PR get_kp (AC get_fn)=true
 get_j1_raw:∀{jn:Jn}{Q:VW}{t4_b t4_o:Nat},get_j1_c jn Q  (us 4 ((pq t4_b t4_o)::us 22 []))=(
 Az [.i (0:Int),.i (0:Int)] p3 λb_13=>
 A0 b_13 0 λx_14=>
 A0 b_13 1 λx_15=>
 st t4_b t4_o (.i x_14)<|
 st t4_b (t4_o+1) (.i x_15)<|
 A0 t4_b t4_o λx_16=>
 A0 t4_b (t4_o+1) λx_17=>
 Q (.tuple #[.agg #[.i x_16,.i x_17],.b false]))
 get_raw:∀{jn:Jn}{x0:OA}{key1:BA}{Q:VW},Aw jn PR get_kp get_fn [.p x0,.s key1] Q=(
 Az [.i (0:Int),.i (0:Int)] p3 λb_1=>
 Aj (!isNone x0) (
 Gk i_find [.p x0,.s key1] λx_2 x_3=>
 Aj x_3 (
 Ac x0 λb_4 o_5=>
 Bb b_4 (o_5+1) λx_6=>
 CU x_6.a x_6.n x_2 λb_7 o_8=>
 A0 b_7 ((o_8+(x_2).toNat*4)+2) λx_9=>
 A0 b_7 (((o_8+(x_2).toNat*4)+2)+1) λx_10=>
 st b_1 0 (.i x_9)<|
 st b_1 1 (.i x_10)<|
 A0 b_1 0 λx_11=>
 A0 b_1 1 λx_12=>
 Q (.tuple #[.agg #[.i x_11,.i x_12],.b true])) (
 QZ get_j1_c jn Q  b_1 0)) (
 QZ get_j1_c jn Q  b_1 0))
 put_ok:Jm PR i_put put_fn
 put_so:CW PR put_kp (AC put_fn)=true
 put_raw:∀{jn:Jn}{x0:OA}{key1:BA}{v2_0 v2_1:Int}{Q:VW},Aw jn PR put_kp put_fn [.p x0,.s key1,.agg #[.i v2_0,.i v2_1]] Q=(
 Az [.i v2_0,.i v2_1] p3 λb_1=>
 Aj (isNone x0) (
 Q (.b false)) (
 Gk i_find [.p x0,.s key1] λx_2 x_3=>
 Aj x_3 (
 A5 λS=>
 Ac x0 λb_4 o_5=>
 Fg S b_4 (o_5+1) λx_6=>
 A0 b_1 0 λx_7=>
 A0 b_1 1 λx_8=>
 Al true S<|
 CU x_6.a x_6.n x_2 λb_9 o_10=>
 st b_9 ((o_10+(x_2).toNat*4)+2) (.i x_7)<|
 st b_9 (((o_10+(x_2).toNat*4)+2)+1) (.i x_8)<|
 Q (.b false)) (
 A0 b_1 0 λx_11=>
 A0 b_1 1 λx_12=>
 wz i_lays [.p x0,.i x_2,.s key1,.agg #[.i x_11,.i x_12]]<|
 A5 λS=>
 Ac x0 λb_13 o_14=>
 Dj S b_13 (o_14+3) λx_15=>
 Ac x0 λb_16 o_17=>
 Bb b_16 (o_17+1) λx_18=>
 Al true S<|
 Aj (decide ((wrap .i64 ((2:Int)*x_15))>(x_18.n:Int))) (
 wz i_grows [.p x0]<|
 Q (.b true)) (
 Q (.b true)))))
 del_ok:Jm PR i_del del_fn
 del_so:CW PR del_kp (AC del_fn)=true
 del_raw:∀{jn:Jn}{x0:OA}{key1:BA}{Q:VW},Aw jn PR del_kp del_fn [.p x0,.s key1] Q=(
 Az [.i (0:Int),.i (0:Int)] p3 λb_1=>
 λw=>Ai PR i_get #[.p x0,.s key1] w λe w'=>∃x_2:Int,∃x_3:Int,∃x_4:Bool,e = .returned (.tuple #[.agg #[.i x_2,.i x_3],.b x_4])/\(
 Az [.i (0:Int),.i (0:Int)] p3 λb_5=>
 st b_5 0 (.i x_2)<|
 st b_5 1 (.i x_3)<|
 Aj x_4 (
 Gk i_find [.p x0,.s key1] λx_6 x_7=>
 Ac x0 λb_8 o_9=>
 Bb b_8 (o_9+1) λx_10=>
 CU x_10.a x_10.n x_6 λb_11 o_12=>
 st b_11 (o_12+(x_6).toNat*4) (.i (1:Int))<|
 st b_11 ((o_12+(x_6).toNat*4)+1) (.s Ae)<|
 st b_11 (((o_12+(x_6).toNat*4)+1)+1) (.i (0:Int))<|
 st b_11 ((((o_12+(x_6).toNat*4)+1)+1)+1) (.i (0:Int))<|
 Ac x0 λb_13 o_14=>
 A0 b_13 (o_14+2) λx_15=>
 Ac x0 λb_16 o_17=>
 st b_16 (o_17+2) (.i (wrap .i64 (x_15-(1:Int))))<|
 A0 b_5 0 λx_18=>
 A0 b_5 1 λx_19=>
 st b_1 0 (.i x_18)<|
 st b_1 1 (.i x_19)<|
 A0 b_1 0 λx_20=>
 A0 b_1 1 λx_21=>
 Q (.tuple #[.agg #[.i x_20,.i x_21],.b x_4])) (
 A0 b_5 0 λx_22=>
 A0 b_5 1 λx_23=>
 st b_1 0 (.i x_22)<|
 st b_1 1 (.i x_23)<|
 A0 b_1 0 λx_24=>
 A0 b_1 1 λx_25=>
 Q (.tuple #[.agg #[.i x_24,.i x_25],.b x_4]))) w')
 find_ok:Jm PR i_find find_fn
 find_so:CW PR find_kp (AC find_fn)=true
 find_j4_raw:∀{jn:Jn}{Q:VW}{m1:Nat}{x0:OA}{key1:BA}{free6 i7:Int},find_j4_c jn Q m1 ((.p x0)::(.s key1)::us 4 ((.i free6)::(.i i7)::us 71 []))=(
 Ac x0 λb_23 o_24=>
 Bb b_23 (o_24+1) λx_25=>
 AV ((x_25.n:Int)≠0)<|
 find_l1 jn Q  m1 x0 key1 free6 (tmod (wrap .i64 (i7+(1:Int))) (x_25.n:Int)))
 find_j5_raw:∀{jn:Jn}{Q:VW}{m1:Nat}{x0:OA}{key1:BA}{free6 i7:Int}{p8_b p8_o:Nat}{t61:Bool},find_j5_c jn Q m1 ((.p x0)::(.s key1)::us 4 ((.i free6)::(.i i7)::(pq p8_b p8_o)::us 52 ((.b t61)::us 17 [])))=(
 Aj t61 (
 Q (.tuple #[.i i7,.b false])) (
 Ac (some ⟨p8_b,p8_o,none⟩) λb_29 o_30=>
 A0 b_29 o_30 λx_31=>
 Aj (x_31==(0:Int)) (
 Q (.tuple #[.i free6,.b false])) (
 Jq find_j4_c jn Q m1 x0 key1 free6 i7)))
 find_j3_raw:∀{jn:Jn}{Q:VW}{m1:Nat}{x0:OA}{key1:BA}{free6 i7:Int}{p8_b p8_o:Nat}{t50:Bool},find_j3_c jn Q m1 ((.p x0)::(.s key1)::us 4 ((.i free6)::(.i i7)::(pq p8_b p8_o)::us 41 ((.b t50)::us 28 [])))=(
 Aj t50 (
 Jq find_j4_c jn Q m1 x0 key1 i7 i7) (
 Ac (some ⟨p8_b,p8_o,none⟩) λb_26 o_27=>
 A0 b_26 o_27 λx_28=>
 Aj (x_28==(0:Int)) (
 Jr find_j5_c jn Q m1 x0 key1 free6 i7 p8_b p8_o (decide (free6<(0:Int)))) (
 Jr find_j5_c jn Q m1 x0 key1 free6 i7 p8_b p8_o false)))
 find_j2_raw:∀{jn:Jn}{Q:VW}{m1:Nat}{x0:OA}{key1:BA}{free6 i7:Int}{p8_b p8_o:Nat}{t35:Bool},find_j2_c jn Q m1 ((.p x0)::(.s key1)::us 4 ((.i free6)::(.i i7)::(pq p8_b p8_o)::us 26 ((.b t35)::us 43 [])))=(
 Aj t35 (
 Q (.tuple #[.i i7,.b true])) (
 Ac (some ⟨p8_b,p8_o,none⟩) λb_20 o_21=>
 A0 b_20 o_21 λx_22=>
 Aj (x_22==(1:Int)) (
 Jp find_j3_c jn Q m1 x0 key1 free6 i7 p8_b p8_o (decide (free6<(0:Int)))) (
 Jp find_j3_c jn Q m1 x0 key1 free6 i7 p8_b p8_o false)))
 find_l1_raw:∀{jn:Jn}{Q:VW}{m1:Nat}{x0:OA}{key1:BA}{free6 i7:Int},find_l1 jn Q  (m1+1) x0 key1 free6 i7=(
 Ac x0 λb_9 o_10=>
 Bb b_9 (o_10+1) λx_11=>
 CU x_11.a x_11.n i7 λb_12 o_13=>
 Ac (some ⟨b_12,(o_13+(i7).toNat*4),none⟩) λb_14 o_15=>
 A0 b_14 o_15 λx_16=>
 Aj (x_16==(2:Int)) (
 Ac (some ⟨b_12,(o_13+(i7).toNat*4),none⟩) λb_17 o_18=>
 Ci b_17 (o_18+1) λx_19=>
 Jo find_j2_c jn Q m1 x0 key1 free6 i7 b_12 (o_13+(i7).toNat*4) (sEq x_19 key1)) (
 Jo find_j2_c jn Q m1 x0 key1 free6 i7 b_12 (o_13+(i7).toNat*4) false))
 find_raw:∀{jn:Jn}{x0:OA}{key1:BA}{Q:VW},Aw jn PR find_kp find_fn [.p x0,.s key1] Q=(
 A5 λS=>
 Ac x0 λb_1 o_2=>
 wLu S b_1 o_2 λx_3=>
 Ac x0 λb_4 o_5=>
 Fg S b_4 (o_5+1) λx_6=>
 wcu 117 [.int .u64 x_3,.s key1] λx_7=>
 Al true S<|
 Bw 116 [.int .u64 x_7,.i (x_6.n:Int)] λx_8=>
 Em λm=>find_l1 jn Q  m x0 key1 (-1:Int) x_8)
 lays_ok:Jm PR i_lays lays_fn
 lays_so:CW PR lays_kp (AC lays_fn)=true
 lays_j1_raw:∀{jn:Jn}{Q:VW}{x0:OA}{i1:Int}{key2:BA}{v7_b v7_o:Nat},lays_j1_c jn Q  ((.p x0)::(.i i1)::(.s key2)::us 4 ((pq v7_b v7_o)::us 32 []))=(
 A5 λS=>
 Ac x0 λb_13 o_14=>
 Fg S b_13 (o_14+1) λx_15=>
 A0 v7_b v7_o λx_16=>
 A0 v7_b (v7_o+1) λx_17=>
 Al true S<|
 CU x_15.a x_15.n i1 λb_18 o_19=>
 st b_18 (o_19+(i1).toNat*4) (.i (2:Int))<|
 st b_18 ((o_19+(i1).toNat*4)+1) (.s key2)<|
 st b_18 (((o_19+(i1).toNat*4)+1)+1) (.i x_16)<|
 st b_18 ((((o_19+(i1).toNat*4)+1)+1)+1) (.i x_17)<|
 Ac x0 λb_20 o_21=>
 A0 b_20 (o_21+2) λx_22=>
 Ac x0 λb_23 o_24=>
 st b_23 (o_24+2) (.i (wrap .i64 (x_22+(1:Int))))<|
 Q (.tuple #[]))
 lays_raw:∀{jn:Jn}{x0:OA}{i1:Int}{key2:BA}{v3_0 v3_1:Int}{Q:VW},Aw jn PR lays_kp lays_fn [.p x0,.i i1,.s key2,.agg #[.i v3_0,.i v3_1]] Q=(
 Az [.i v3_0,.i v3_1] p3 λb_1=>
 Ac x0 λb_2 o_3=>
 Bb b_2 (o_3+1) λx_4=>
 CU x_4.a x_4.n i1 λb_5 o_6=>
 A0 b_5 (o_6+(i1).toNat*4) λx_7=>
 Aj (x_7==(0:Int)) (
 Ac x0 λb_8 o_9=>
 A0 b_8 (o_9+3) λx_10=>
 Ac x0 λb_11 o_12=>
 st b_11 (o_12+3) (.i (wrap .i64 (x_10+(1:Int))))<|
 N3 lays_j1_c jn Q  x0 i1 key2 b_1 0) (
 N3 lays_j1_c jn Q  x0 i1 key2 b_1 0))
 grows_ok:Jm PR i_grows grows_fn
 grows_so:CW PR grows_kp (AC grows_fn)=true
 grows_l1_raw:∀{jn:Jn}{Q:VW}{m1:Nat}{x0:OA}{t28:Sl}{t29 t30:Int},grows_l1 jn Q  (m1+1) x0 t28 t29 t30=(
 Aj (decide (t30<t29)) (
 CU t28.a t28.n t30 λb_14 o_15=>
 A0 b_14 (o_15+(t30).toNat*4) λx_16=>
 Ci b_14 ((o_15+(t30).toNat*4)+1) λx_17=>
 A0 b_14 (((o_15+(t30).toNat*4)+1)+1) λx_18=>
 A0 b_14 ((((o_15+(t30).toNat*4)+1)+1)+1) λx_19=>
 Az [.i (0:Int),.s Ae,.i (0:Int),.i (0:Int)] p1 λb_20=>
 st b_20 0 (.i x_16)<|
 st b_20 1 (.s x_17)<|
 st b_20 2 (.i x_18)<|
 st b_20 3 (.i x_19)<|
 A0 b_20 0 λx_21=>
 Aj (x_21==(2:Int)) (
 Ci b_20 1 λx_22=>
 Gk i_find [.p x0,.s x_22] λx_23 x_24=>
 Ci b_20 1 λx_25=>
 A0 b_20 2 λx_26=>
 A0 b_20 3 λx_27=>
 wz i_lays [.p x0,.i x_23,.s x_25,.agg #[.i x_26,.i x_27]]<|
 grows_l1 jn Q  m1 x0 t28 t29 (wrap .i64 (t30+(1:Int)))) (
 grows_l1 jn Q  m1 x0 t28 t29 (wrap .i64 (t30+(1:Int))))) (
 Q (.tuple #[])))
 grows_raw:∀{jn:Jn}{x0:OA}{Q:VW},Aw jn PR grows_kp grows_fn [.p x0] Q=(
 Ac x0 λb_1 o_2=>
 Bb b_1 (o_2+1) λx_3=>
 Ac x0 λb_4 o_5=>
 A0 b_4 (o_5+2) λx_6=>
 Ij p1 40 [.i (0:Int),.s Ae,.i (0:Int),.i (0:Int)] (if (wrap .i64 ((4:Int)*(wrap .i64 (x_6+(1:Int)))))>(8:Int) then (wrap .i64 ((4:Int)*(wrap .i64 (x_6+(1:Int))))) else (8:Int)) (if (wrap .i64 ((4:Int)*(wrap .i64 (x_6+(1:Int)))))>(8:Int) then (wrap .i64 ((4:Int)*(wrap .i64 (x_6+(1:Int))))) else (8:Int)) λs_7=>
 Ac x0 λb_8 o_9=>
 st b_8 (o_9+1) (.l s_7.a s_7.n s_7.c)<|
 Ac x0 λb_10 o_11=>
 st b_10 (o_11+2) (.i (0:Int))<|
 Ac x0 λb_12 o_13=>
 st b_12 (o_13+3) (.i (0:Int))<|
 Em λm=>grows_l1 jn Q  m x0 x_3 (x_3.n:Int) (0:Int))
 where_ok:Jm PR i_where where_fn
 where_so:CW PR where_kp (AC where_fn)=true
 where_raw:∀{jn:Jn}{r0_0:Sl}{r0_1:OA}{key1:BA}{Q:VW},Aw jn PR where_kp where_fn [.agg #[.l r0_0.a r0_0.n r0_0.c,.p r0_1],.s key1] Q=(
 Az [.l r0_0.a r0_0.n r0_0.c,.p r0_1] p4 λb_1=>
 Bo b_1 1 λx_2=>
 λw=>Ai PR i_get #[.p x_2,.s key1] w λe w'=>∃x_3:Int,∃x_4:Int,∃x_5:Bool,e = .returned (.tuple #[.agg #[.i x_3,.i x_4],.b x_5])/\(
 Az [.i (0:Int),.i (0:Int)] p3 λb_6=>
 st b_6 0 (.i x_3)<|
 st b_6 1 (.i x_4)<|
 Aj (!x_5) (
 Q (.i (-1:Int))) (
 A0 b_6 0 λx_7=>
 Q (.i x_7))) w')
 push_ok:Jm PR i_push push_fn
 push_so:CW PR push_kp (AC push_fn)=true
 push_raw:∀{jn:Jn}{r0_0:Sl}{r0_1:OA}{row1:Int}{key2:BA}{Q:VW},Aw jn PR push_kp push_fn [.agg #[.l r0_0.a r0_0.n r0_0.c,.p r0_1],.i row1,.s key2] Q=(
 Az [.l r0_0.a r0_0.n r0_0.c,.p r0_1] p4 λb_1=>
 Bb b_1 0 λx_2=>
 Bo b_1 1 λx_3=>
 wz i_drop [.agg #[.l x_2.a x_2.n x_2.c,.p x_3],.s key2]<|
 A5 λS=>
 EK S b_1 1 λx_4=>
 Bb b_1 0 λx_5=>
 Al true S<|
 CU x_5.a x_5.n row1 λb_6 o_7=>
 Bo b_6 (o_7+(row1).toNat*1) λx_8=>
 Al true S<|
 Bw 162 [.p x_8,.s key2] λx_9=>
 Al true S<|
 Ey i_put [.p x_4,.s key2,.agg #[.i row1,.i x_9]] λx_10=>
 Q (.tuple #[]))
 many_ok:Jm PR i_many many_fn
 many_so:CW PR many_kp (AC many_fn)=true
 many_j2_raw:∀{jn:Jn}{Q:VW}{n5:Int},many_j2_c jn Q  (us 5 ((.i n5)::us 18 []))=(
 Q (.i n5))
 many_l1_raw:∀{jn:Jn}{Q:VW}{m1:Nat}{r2_b r2_o:Nat}{n5:Int}{t8:Sl}{t9 t10:Int},many_l1 jn Q  (m1+1) r2_b r2_o n5 t8 t9 t10=(
 Aj (decide (t10<t9)) (
 CU t8.a t8.n t10 λb_2 o_3=>
 A0 b_2 (o_3+(t10).toNat*1) λx_4=>
 Bb r2_b r2_o λx_5=>
 CU x_5.a x_5.n x_4 λb_6 o_7=>
 Bo b_6 (o_7+(x_4).toNat*1) λx_8=>
 Bw 163 [.p x_8] λx_9=>
 many_l1 jn Q  m1 r2_b r2_o (wrap .i64 (n5+x_9)) t8 t9 (wrap .i64 (t10+(1:Int)))) (
 YP many_j2_c jn Q  n5))
 many_raw:∀{jn:Jn}{r0_0:Sl}{r0_1:OA}{of1:Sl}{Q:VW},Aw jn PR many_kp many_fn [.agg #[.l r0_0.a r0_0.n r0_0.c,.p r0_1],.l of1.a of1.n of1.c] Q=(
 Az [.l r0_0.a r0_0.n r0_0.c,.p r0_1] p4 λb_1=>
 Em λm=>many_l1 jn Q  m b_1 0 (0:Int) of1 (of1.n:Int) (0:Int))
 keys_ok:Jm PR i_keys keys_fn
 keys_so:CW PR keys_kp (AC keys_fn)=true
 keys_j2_raw:∀{jn:Jn}{Q:VW}{l5:Sl},keys_j2_c jn Q  (us 5 ((.l l5.a l5.n l5.c)::us 18 []))=(
 Q (.l l5.a l5.n l5.c))
 keys_l1_raw:∀{jn:Jn}{Q:VW}{m1:Nat}{r2_b r2_o:Nat}{l5 t8:Sl}{t9 t10:Int},keys_l1 jn Q  (m1+1) r2_b r2_o l5 t8 t9 t10=(
 Aj (decide (t10<t9)) (
 CU t8.a t8.n t10 λb_2 o_3=>
 A0 b_2 (o_3+(t10).toNat*1) λx_4=>
 Bb r2_b r2_o λx_5=>
 CU x_5.a x_5.n x_4 λb_6 o_7=>
 Bo b_6 (o_7+(x_4).toNat*1) λx_8=>
 GW 244 [.p x_8] λx_9=>
 Bl 9 1 16 [.s Ae] ⟨l5.a,l5.n,l5.c⟩ x_9.n (λw=>H3 w x_9.a (x_9.n*1)) λs_10=>
 keys_l1 jn Q  m1 r2_b r2_o s_10 t8 t9 (wrap .i64 (t10+(1:Int)))) (
 YO keys_j2_c jn Q  l5))
 keys_raw:∀{jn:Jn}{r0_0:Sl}{r0_1:OA}{of1:Sl}{Q:VW},Aw jn PR keys_kp keys_fn [.agg #[.l r0_0.a r0_0.n r0_0.c,.p r0_1],.l of1.a of1.n of1.c] Q=(
 Az [.l r0_0.a r0_0.n r0_0.c,.p r0_1] p4 λb_1=>
 Em λm=>keys_l1 jn Q  m b_1 0 ⟨(none:OA),0,0⟩ of1 (of1.n:Int) (0:Int))
 drop_ok:Jm PR i_drop drop_fn
 drop_so:CW PR drop_kp (AC drop_fn)=true
 drop_raw:∀{jn:Jn}{r0_0:Sl}{r0_1:OA}{key1:BA}{Q:VW},Aw jn PR drop_kp drop_fn [.agg #[.l r0_0.a r0_0.n r0_0.c,.p r0_1],.s key1] Q=(
 Az [.l r0_0.a r0_0.n r0_0.c,.p r0_1] p4 λb_1=>
 Bo b_1 1 λx_2=>
 λw=>Ai PR i_del #[.p x_2,.s key1] w λe w'=>∃x_3:Int,∃x_4:Int,∃x_5:Bool,e = .returned (.tuple #[.agg #[.i x_3,.i x_4],.b x_5])/\(
 Az [.i (0:Int),.i (0:Int)] p3 λb_6=>
 st b_6 0 (.i x_3)<|
 st b_6 1 (.i x_4)<|
 Aj x_5 (
 A5 λS=>
 Fg S b_1 0 λx_7=>
 Dj S b_6 0 λx_8=>
 CU x_7.a x_7.n x_8 λb_9 o_10=>
 EK S b_9 (o_10+(x_8).toNat*1) λx_11=>
 A0 b_6 1 λx_12=>
 Al true S<|
 Fv 160 [.p x_11,.i x_12] λx_13 x_14=>
 Q (.tuple #[])) (
 Q (.tuple #[]))) w')
 oldest_ok:Jm PR i_oldest oldest_fn
 oldest_so:CW PR oldest_kp (AC oldest_fn)=true
 oldest_raw:∀{jn:Jn}{r0_0:Sl}{r0_1:OA}{row1:Int}{Q:VW},Aw jn PR oldest_kp oldest_fn [.agg #[.l r0_0.a r0_0.n r0_0.c,.p r0_1],.i row1] Q=(
 Az [.l r0_0.a r0_0.n r0_0.c,.p r0_1] p4 λb_1=>
 A5 λS=>
 Fg S b_1 0 λx_2=>
 CU x_2.a x_2.n row1 λb_3 o_4=>
 EK S b_3 (o_4+(row1).toNat*1) λx_5=>
 Bb b_1 0 λx_6=>
 Al true S<|
 CU x_6.a x_6.n row1 λb_7 o_8=>
 Bo b_7 (o_8+(row1).toNat*1) λx_9=>
 Al true S<|
 Bw 165 [.p x_9] λx_10=>
 Al true S<|
 Fv 164 [.p x_5,.i x_10] λx_11 x_12=>
 Q (.s x_11))
 newRows_ok:Jm PR i_newRows newRows_fn
 newRows_so:CW PR newRows_kp (AC newRows_fn)=true
 newRows_j2_raw:∀{jn:Jn}{Q:VW}{t2_b t2_o r3_b r3_o:Nat},newRows_j2_c jn Q  (us 2 ((pq t2_b t2_o)::(pq r3_b r3_o)::us 13 []))=(
 Bb r3_b r3_o λx_8=>
 Bo r3_b (r3_o+1) λx_9=>
 st t2_b t2_o (.l x_8.a x_8.n x_8.c)<|
 st t2_b (t2_o+1) (.p x_9)<|
 Bb t2_b t2_o λx_10=>
 Bo t2_b (t2_o+1) λx_11=>
 Q (.agg #[.l x_10.a x_10.n x_10.c,.p x_11]))
 newRows_l1_raw:∀{jn:Jn}{Q:VW}{m1:Nat}{t2_b t2_o r3_b r3_o:Nat}{t6 t7:Int},newRows_l1 jn Q  (m1+1) t2_b t2_o r3_b r3_o t6 t7=(
 Aj (decide (t7<t6)) (
 A5 λS=>
 Fg S r3_b r3_o λx_4=>
 L1 171 [] λx_5=>
 Al true S<|
 Az [.p x_5] 235 λb_6=>
 Al true S<|
 Bl 235 1 8 [.p (none:OA)] ⟨x_4.a,x_4.n,x_4.c⟩ 1 (λw=>H3 w (some ⟨b_6,0,none⟩) (1*1)) λs_7=>
 st r3_b r3_o (.l s_7.a s_7.n s_7.c)<|
 newRows_l1 jn Q  m1 t2_b t2_o r3_b r3_o t6 (wrap .i64 (t7+(1:Int)))) (
 Ra newRows_j2_c jn Q  t2_b t2_o r3_b r3_o))
 newRows_raw:∀{jn:Jn}{n0:Int}{Q:VW},Aw jn PR newRows_kp newRows_fn [.i n0] Q=(
 Az [.l (none:OA) 0 0,.p (none:OA)] p4 λb_1=>
 L1 i_new [.int .u64 (0:Int)] λx_2=>
 Az [.l (none:OA) 0 0,.p (none:OA)] p4 λb_3=>
 st b_3 0 (.l (none:OA) 0 0)<|
 st b_3 1 (.p x_2)<|
 Em λm=>newRows_l1 jn Q  m b_1 0 b_3 0 n0 (0:Int))
end Go.Proofs.YtjipofkjmmpjdaaGreat
namespace Go.Hb
instance {s:Int} {k:BA} {x0:Int} {x1:Int}:N2 (C7 Ap.ii) [.i s,.s k,.i x0,.i x1] ⟨s,k,(x0,x1)⟩:=⟨rfl⟩
end Go.Hb
namespace Go.Proofs.YtjipofkjmmpjdaaGreat
open Go.Hb Go.IntWalk
section
variable(R:RwF){W w:World}{L M:List HP}{F:HP->List HP}{b:Nat}{seed:Int}{m:List (BA×(Int×Int))}{s:Sl}{ps:List (Pl (Int×Int))}{n1 u1:Int}
theorem FP{st:BA->Nat}{k:BA}(E:st=A2 seed ps.length)(O:k.size<4611686018427387904)(G:0<ps.length/\ps.length<4611686018427387904)(g:∃e,e<ps.length/\B0 ps ((st k+e) % ps.length)=0)
  (hs:Ab W w (blk b [.int .u64 seed,.l s.a s.n s.c,.i n1,.i u1]::recs (C7 Ap.ii) s ps::M)) :
  Ai PR R.i_find #[pq b 0,.s k] w λe w'=>e = .returned (.tuple #[.i ((AK st ps k).1:Int),.b (AK st ps k).2])/\Ab W w' (blk b [.int .u64 seed,.l s.a s.n s.c,.i n1,.i u1]::recs (C7 Ap.ii) s ps::M):=by
 refine c1 (cw (hs:=R.find_so) R.find_ok R.find_raw ?_);have H:=(BE (s:=s) hs HQ.pos).1;refine An [blk b [.int .u64 seed,.l s.a s.n s.c,.i n1,.i u1]] hs λw hs=>?_
 repeat (first|with_reducible refine Aa ?_|((with_reducible refine Cm ?_);first|refine Au ?_|fail)|fail)
 refine Ao (Hl hs O) λe w ⟨p,hs⟩=>⟨_,p,?_⟩
 repeat (first|((with_reducible refine Bk ?_);first|refine Ag hs ?_|fail)|fail)
 refine Ao (GR (n:=s.n) hs (GH _ _).1 (by omega) (by omega)) λe w ⟨p,hs⟩=>⟨_,p,?_⟩;have P:(Fw seed k).toNat % s.n=A2 seed ps.length k:=by rw[H,Kw]
 rw[P];have y:∀(f:Nat)(free:Option Nat)(i:Nat)(w:World),i<ps.length->(∃e,e<f/\B0 ps ((i+e) % ps.length)=0)->Ab W w (blk b [.int .u64 seed,.l s.a s.n s.c,.i n1,.i u1]::recs (C7 Ap.ii) s ps::M) ->
   R.find_l1 AU (λv w'=>v = .tuple #[.i ((AF ps k f free i).1:Int),.b (AF ps k f free i).2]/\Ab W w' (blk b [.int .u64 seed,.l s.a s.n s.c,.i n1,.i u1]::recs (C7 Ap.ii) s ps::M)) f (some ⟨b,0,none⟩) k (MY free) (i:Int) w:=by
  intro f
  induction f with
  | zero=>intro free i w hi ⟨e,p,_⟩;omega
  | succ f Q=>
   intro free i w hi g hs;have S:(i+1) % ps.length<ps.length:=mod_lt _ G.1;have next:B0 ps i≠0->∃I,I<f/\B0 ps (((i+1) % ps.length+I) % ps.length)=0:=by
    obtain⟨e,p,q⟩:=g;intro r;cases e with
    | zero=>rw[add_zero,mod_eq_of_lt hi] at q;exact absurd q r
    | succ e=>exact⟨e,by omega,by rw[Ej];exact q⟩
   have F:tmod (wrap .i64<|(i:Int)+1) (s.n:Int)=(((i+1) % ps.length:Nat):Int):=by
    rw[i64_in _<|by omega,H,Int.tmod_eq_emod_of_nonneg<|by omega];simp
   have J:∀(d:Option Nat)(w:World),B0 ps i≠0->Ab W w (blk b [.int .u64 seed,.l s.a s.n s.c,.i n1,.i u1]::recs (C7 Ap.ii) s ps::M)->AF ps k (f+1) free i=AF ps k f d ((i+1) % ps.length) ->
     Jq R.find_j4_c AU (λv w'=>v = .tuple #[.i ((AF ps k (f+1) free i).1:Int),.b (AF ps k (f+1) free i).2]/\Ab W w' (blk b [.int .u64 seed,.l s.a s.n s.c,.i n1,.i u1]::recs (C7 Ap.ii) s ps::M)) f (some ⟨b,0,none⟩) k (MY d) (i:Int) w:=by
    intro d w r hs p;refine jw R.find_j4_raw ?_;rw[p]
    repeat (first|with_reducible refine Aa ?_|((with_reducible refine A7 ?_);first|refine Af hs ?_|fail)|((with_reducible refine RY ?_);first|refine ML ?_|fail)|fail)
    rw[F];exact Q d _ w S (next r) hs
   rw[R.find_l1_raw];have u:((i:Int)).toNat=i:=toNat_natCast i
   repeat (first|with_reducible refine Aa ?_|((with_reducible refine A7 ?_);first|refine Af hs ?_|refine Cx hs ?_|fail)|((with_reducible refine BI ?_);first|refine BO hs λU V hs=>?_|fail)|fail)
   rw[u];have D:(ps.getD i default).is_=B0 ps i:=rfl;have T:(ps.getD i default).key=DT ps i:=rfl;rw[D];have K:∀(t:Bool)(w:World)(b1 x:Nat),t=decide (B0 ps i=2/\DT ps i=k)->Ab W w (blk b [.int .u64 seed,.l s.a s.n s.c,.i n1,.i u1]::reca (C7 Ap.ii) b1 x s ps::M) ->
     Jo R.find_j2_c AU (λv w'=>v = .tuple #[.i ((AF ps k (f+1) free i).1:Int),.b (AF ps k (f+1) free i).2]/\Ab W w' (blk b [.int .u64 seed,.l s.a s.n s.c,.i n1,.i u1]::recs (C7 Ap.ii) s ps::M)) f (some ⟨b,0,none⟩) k (MY free) (i:Int) b1 (x+i*4) t w:=by
    intro t w b1 x z hs;refine jw R.find_j2_raw ?_;rw[z]
    with_reducible refine EH (λh=>?_) (λh=>?_)
    ·have A:AF ps k (f+1) free i=(i,true):=by rw[AF,if_pos h]
     rw[A];exact⟨rfl,by exact Ab.fin hs⟩
    ·repeat (first|with_reducible refine Aa ?_|((with_reducible refine A7 ?_);first|refine Cx hs ?_|fail)|fail)
     rw[D];have L:∀(t:Bool)(w:World),t=decide (B0 ps i=1/\free=none)->Ab W w (blk b [.int .u64 seed,.l s.a s.n s.c,.i n1,.i u1]::reca (C7 Ap.ii) b1 x s ps::M) ->
       Jp R.find_j3_c AU (λv w'=>v = .tuple #[.i ((AF ps k (f+1) free i).1:Int),.b (AF ps k (f+1) free i).2]/\Ab W w' (blk b [.int .u64 seed,.l s.a s.n s.c,.i n1,.i u1]::recs (C7 Ap.ii) s ps::M)) f (some ⟨b,0,none⟩) k (MY free) (i:Int) b1 (x+i*4) t w:=by
      intro t w z hs;refine jw R.find_j3_raw ?_;rw[z]
      with_reducible refine EH (λm=>?_) (λm=>?_)
      ·exact J (some i) w (by rw[m.1];decide) (by exact Ab.fin hs) (by rw[AF,if_neg h,if_pos m])
      ·repeat (first|with_reducible refine Aa ?_|((with_reducible refine A7 ?_);first|refine Cx hs ?_|fail)|fail)
       rw[D];have N:∀(t:Bool)(w:World),t=decide (B0 ps i=0/\free=none)->Ab W w (blk b [.int .u64 seed,.l s.a s.n s.c,.i n1,.i u1]::reca (C7 Ap.ii) b1 x s ps::M) ->
         Jr R.find_j5_c AU (λv w'=>v = .tuple #[.i ((AF ps k (f+1) free i).1:Int),.b (AF ps k (f+1) free i).2]/\Ab W w' (blk b [.int .u64 seed,.l s.a s.n s.c,.i n1,.i u1]::recs (C7 Ap.ii) s ps::M)) f (some ⟨b,0,none⟩) k (MY free) (i:Int) b1 (x+i*4) t w:=by
        intro t w z hs;refine jw R.find_j5_raw ?_;rw[z]
        with_reducible refine EH (λo=>?_) (λo=>?_)
        ·have A:AF ps k (f+1) free i=(i,false):=by rw[AF,if_neg h,if_neg m,if_pos o.1,o.2];rfl
         rw[A];exact⟨rfl,by exact Ab.fin hs⟩
        ·repeat (first|with_reducible refine Aa ?_|((with_reducible refine A7 ?_);first|refine Cx hs ?_|fail)|fail)
         rw[D]
         with_reducible refine Cc (λB=>?_) (λB=>?_)
         ·have A:AF ps k (f+1) free i=(free.getD i,false):=by rw[AF,if_neg h,if_neg m,if_pos B]
          rw[A];cases free with
          | none=>exact absurd ⟨B,rfl⟩ o
          | some j=>exact⟨rfl,by exact Ab.fin hs⟩
         ·exact J free w B (by exact Ab.fin hs) (by rw[AF,if_neg h,if_neg m,if_neg B])
       with_reducible refine Cc (λo=>?_) (λo=>?_)
       ·exact N _ w (by simp[o,Hk]) (by exact Ab.fin hs)
       ·exact N _ w (by simp[o]) (by exact Ab.fin hs)
     with_reducible refine Cc (λm=>?_) (λm=>?_)
     ·exact L _ w (by simp[m,Hk]) (by exact Ab.fin hs)
     ·exact L _ w (by simp[m]) (by exact Ab.fin hs)
   with_reducible refine Cc (λh=>?_) (λh=>?_)
   ·repeat (first|with_reducible refine Aa ?_|((with_reducible refine A7 ?_);first|refine Fy hs ?_|fail)|fail)
    rw[T];refine K _ w _ _ ?_ (by exact Ab.fin hs);rw[Y5];simp[h]
   ·refine K _ w _ _ ?_ (by exact Ab.fin hs);simp[h]
 subst E;have C:=y ps.length none (A2 seed ps.length k) w (CY G.1 k) g hs;rw[show MY none = -1 from rfl] at C;unfold AK;refine⟨ps.length,?_⟩;exact C
theorem KG{k:BA}{v:(Int×Int)}{j:Nat}(g:j<ps.length)(p:ps.length<4611686018427387904)(f:u1=(A9 ps:Int))(h:0<=n1/\n1<4611686018427387904)(hs:Ab W w (blk b [.int .u64 seed,.l s.a s.n s.c,.i n1,.i u1]::recs (C7 Ap.ii) s ps::M)) :
  Ai PR R.i_lays #[pq b 0,.i (j:Int),.s k,.agg #[.i (v).1,.i (v).2]] w λe w'=>e = .returned (.tuple #[])/\Ab W w' (blk b [.int .u64 seed,.l s.a s.n s.c,.i<|n1+1,.i (A9 (ps.set j ⟨2,k,v⟩):Int)]::recs (C7 Ap.ii) s (ps.set j ⟨2,k,v⟩)::M):=by
 refine c1 (cw (hs:=R.lays_so) R.lays_ok R.lays_raw ?_);refine Ak hs λq w hs=>?_;have r:=(BE (s:=s) hs HQ.pos).1;have m:A9 ps<=ps.length:=List.countP_le_length;rw[Bu g _<|by show(2:Int)≠0;decide]
 repeat (first|with_reducible refine Aa ?_|((with_reducible refine A7 ?_);first|refine Af hs ?_|refine Cx hs ?_|fail)|((with_reducible refine BI ?_);first|refine BO hs λt u hs=>?_|fail)|fail)
 simp only[toNat_natCast];have o:(ps.getD j default).is_=B0 ps j:=rfl;rw[o]
 with_reducible refine Cc (λd=>?_) (λd=>?_)
 ·repeat (first|with_reducible refine Aa ?_|((with_reducible refine A7 ?_);first|refine Af hs ?_|fail)|((with_reducible refine Bv ?_);first|refine A4 hs λw hs=>?_|fail)|fail)
  refine jw R.lays_j1_raw ?_
  repeat (first|with_reducible refine Aa ?_|((with_reducible refine A7 ?_);first|refine Af hs ?_|fail)|((with_reducible refine Bv ?_);first|refine A4 hs λw hs=>?_|refine Gx hs λw hs=>?_|fail)|((with_reducible refine BI ?_);first|refine Ia hs ?_|fail)|((with_reducible refine Cm ?_);first|refine Au ?_|fail)|((with_reducible refine Bk ?_);first|refine BJ hs ?_|fail)|((with_reducible refine E0 ?_);first|refine AI hs λw hs=>?_|fail)|fail)
  rw[i64_in (n1+1)<|by omega,f,i64_in _<|by omega] at hs;simp only[toNat_natCast] at hs;rw[if_pos d];exact⟨rfl,by exact Ab.fin hs⟩
 ·refine jw R.lays_j1_raw ?_
  repeat (first|with_reducible refine Aa ?_|((with_reducible refine A7 ?_);first|refine Af hs ?_|fail)|((with_reducible refine Bv ?_);first|refine A4 hs λw hs=>?_|refine Gx hs λw hs=>?_|fail)|((with_reducible refine BI ?_);first|refine Ia hs ?_|fail)|((with_reducible refine Cm ?_);first|refine Au ?_|fail)|((with_reducible refine Bk ?_);first|refine BJ hs ?_|fail)|((with_reducible refine E0 ?_);first|refine AI hs λw hs=>?_|fail)|fail)
  rw[i64_in (n1+1)<|by omega,f] at hs;simp only[toNat_natCast] at hs;rw[if_neg d,add_zero];exact⟨rfl,by exact Ab.fin hs⟩
theorem SD{st:BA->Nat}(hi:Cj st ps m)(E:∀e∈m,e.1.size<4611686018427387904)(hm:m.length<1000000000)(hs:Ab W w (blk b [.int .u64 seed,.l s.a s.n s.c,.i (m.length:Int),.i u1]::recs (C7 Ap.ii) s ps::M)) :
  Ai PR R.i_grows #[pq b 0] w λe w'=>e = .returned (.tuple #[])/\Ab W w' (ixr Ap.ii b seed m::M):=by
 refine c1 (cw (hs:=R.grows_so) R.grows_ok R.grows_raw ?_);have hn:=(BE (s:=s) hs HQ.pos).1;have D:=hi.small;obtain⟨N,hN⟩:∃N:Nat,N=max 8 (4*(m.length+1)):=⟨_,rfl⟩;have Y:(if (wrap .i64<|(4:Int)*(wrap .i64<|(m.length:Int)+(1:Int)))>(8:Int) then (wrap .i64<|(4:Int)*(wrap .i64<|(m.length:Int)+(1:Int))) else (8:Int))=(N:Int):=by
  rw[i64_in ((m.length:Int)+1)<|by omega,i64_in _<|by omega];split <;> omega
 repeat (first|with_reducible refine Aa ?_|((with_reducible refine A7 ?_);first|refine Af hs ?_|fail)|fail)
 rw[Y];refine EJ (sz:=4) hs rfl (by omega) (by omega) (by omega) (by omega) λs2 w F _ _ hs=>?_;rw[toNat_natCast] at hs F;have hs:Ab W w (recs (C7 Ap.ii) s2 (replicate N ⟨0,Ae,((0,0):Int×Int)⟩)::blk b [.int .u64 seed,.l s.a s.n s.c,.i (m.length:Int),.i u1]::recs (C7 Ap.ii) s ps::M):=by
  have e:=El (C7 Ap.ii) ⟨0,Ae,((0,0):Int×Int)⟩ N;unfold recs;rw[<- e];exact hs
 repeat (first|with_reducible refine Aa ?_|((with_reducible refine Bv ?_);first|refine A4 hs λw hs=>?_|fail)|fail)
 have x:=Cj.new (st:=A2 seed N) (n:=N) (z:=(⟨0,Ae,((0,0):Int×Int)⟩:Pl (Int×Int))) rfl (by omega) (by omega) (CY<|by omega);have p:(AS ps).map (·.1) |>.Nodup:=(hi.perm.map (·.1)).nodup_iff.2 hi.nodup
 have S:(AS ps).length=m.length:=hi.perm.length_eq;have y:∀(f i:Nat)(w:World)(d:List (Pl<|Int×Int))(k:List (BA×(Int×Int))),i+f=ps.length->d.length=N->Cj (A2 seed N) d k->k.Perm (AS<|ps.take i)->A9 d<=k.length ->
   Ab W w (blk b [.int .u64 seed,.l s2.a s2.n s2.c,.i (k.length:Int),.i (A9 d:Int)]::recs (C7 Ap.ii) s2 d::recs (C7 Ap.ii) s ps::M) ->
   R.grows_l1 AU (λv w'=>v = .tuple #[]/\Ab W w' (ixr Ap.ii b seed m::M)) (f+1) (some ⟨b,0,none⟩) s (s.n:Int) (i:Int) w:=by
  intro f
  induction f with
  | zero=>
   intro i w d k G j g q T hs;rw[R.grows_l1_raw];refine Ad (decide_eq_false<|by omega) ⟨rfl,?_⟩;rw[List.take_of_length_le<|by omega] at q;have r:=q.trans hi.perm;refine Bd s2 (ps:=d) (n:=(k.length:Int)) ?_ ?_ (by rw[r.length_eq]) rfl (by exact Ab.fin hs)
   ·rw[j];exact g.perm' r
   ·rw[j];have:=r.length_eq;omega
  | succ f U=>
   intro i w d k G j g q T hs;rw[R.grows_l1_raw];refine Am (decide_eq_true<|by omega) ?_
   repeat (first|((with_reducible refine A7 ?_);first|refine Af hs ?_|refine Cx hs ?_|refine Fy hs ?_|refine O1 hs ?_|refine Acg hs ?_|fail)|((with_reducible refine Bv ?_);first|refine A4 hs λw hs=>?_|fail)|((with_reducible refine BI ?_);first|refine BO hs λV o_ hs=>?_|fail)|((with_reducible refine Dd ?_);first|refine Ak hs λV w hs=>?_|fail)|fail)
   simp only[toNat_natCast] at hs ⊢;have H:i<ps.length:=by omega
   have h:AS (ps.take<|i+1)=AS (ps.take i)++EU (ps.getD i default):=by
    rw[CC H,BH];simp[AS]
   with_reducible refine Cc (λI=>?_) (λI=>?_)
   ·have t:EU (ps.getD i default)=[((ps.getD i default).key,(ps.getD i default).v)]:=Ga I;rw[t] at h;have o:(AS<|ps.take<|i+1).Sublist (AS ps):=by
     conv=>rhs;rw[<- take_append_drop (i+1) ps,BH]
     exact List.sublist_append_left _ _
    have A:((ps.getD i default).key,(ps.getD i default).v)∈m:=hi.perm.subset (o.subset<|by rw[h];simp);have u:=p.sublist (o.map (·.1));rw[h,map_append] at u;have B:AH k (ps.getD i default).key=none:=by
     rw[BC];intro e C Z;rw[nodup_append] at u;exact u.2.2 _ (mem_map_of_mem (f:=(·.1))<|q.subset C) _ (by simp) Z
    have aa:k.length+1<=m.length:=by
     have:=o.length_le;rw[h,length_append,<- q.length_eq] at this;simp only[length_cons,length_nil] at this;omega
    repeat (first|((with_reducible refine A7 ?_);first|refine Af hs ?_|fail)|fail)
    have hs:Ab W w (blk b [.int .u64 seed,.l s2.a s2.n s2.c,.i (k.length:Int),.i (A9 d:Int)]::recs (C7 Ap.ii) s2 d::blk V [.i (ps.getD i default).is_,.s (ps.getD i default).key,.i (ps.getD i default).v.1,.i (ps.getD i default).v.2]::recs (C7 Ap.ii) s ps::M):=by exact Ab.fin hs
    refine AJ (FP R (st:=A2 seed N) (by rw[j]) (E _ A) (by omega) (g.stop _) hs) λe w ⟨C,hs⟩=>⟨_,_,C,?_⟩;have J:(AK (A2 seed N) d (ps.getD i default).key).2=false:=by
     cases hb:(AK (A2 seed N) d (ps.getD i default).key).2 with
     | false=>rfl
     | true=>have:=(g.hit hb).2.2;rw[B] at this;cases this
    obtain⟨K,L,_,O⟩:=g.miss J
    repeat (first|((with_reducible refine A7 ?_);first|refine Af hs ?_|fail)|fail)
    refine Av (KG R (v:=(ps.getD i default).v) K (by omega) rfl (by omega) hs) λe w ⟨C,hs⟩=>⟨C,?_⟩;rw[i64_in _<|by omega];have P:=Bu K (⟨2,(ps.getD i default).key,(ps.getD i default).v⟩:Pl (Int×Int)) (by show(2:Int)≠0;decide)
    have X:A9 (d.set (AK (A2 seed N) d (ps.getD i default).key).1 ⟨2,(ps.getD i default).key,(ps.getD i default).v⟩)<=A9 d+1:=by rw[P];split <;> omega
    refine U (i+1) w _ (((ps.getD i default).key,(ps.getD i default).v)::k) (by omega) (by rw[length_set];exact j) (g.add K L B O<|by omega) ?_ (by simp only[length_cons];omega) ?_
    ·rw[h];exact((List.Perm.cons _ q).trans<|perm_append_comm (l₁:=[_]))
    ·simp only[length_cons,Int.natCast_add];exact Ab.fin hs
   ·have t:EU (ps.getD i default)=[]:=Io I;rw[t,append_nil] at h;rw[i64_in _<|by omega];exact U (i+1) w d k (by omega) j g (by rw[h];exact q) T (by exact Ab.fin hs)
 refine⟨ps.length+1,?_⟩;refine y ps.length 0 w (replicate N ⟨0,Ae,((0,0):Int×Int)⟩) [] (by omega) (by simp) x (by simp[AS]) ?_ ?_
 ·have:A9 (replicate N (⟨0,Ae,((0,0):Int×Int)⟩:Pl (Int×Int)))=0:=by
   unfold A9;rw[List.countP_eq_zero];intro a Q;rw[List.eq_of_mem_replicate Q];simp
  rw[this];exact Nat.zero_le _
 ·have:A9 (replicate N (⟨0,Ae,((0,0):Int×Int)⟩:Pl (Int×Int)))=0:=by
   unfold A9;rw[List.countP_eq_zero];intro a Q;rw[List.eq_of_mem_replicate Q];simp
  rw[this];exact Ab.fin hs
end
section
variable(R:RwF){W w:World}{L M:List HP}{F:HP->List HP}{b:Nat}{seed:Int}{m:List (BA×(Int×Int))}{k:BA}
theorem Anf(hs:Ab W w L):Ai PR R.i_new #[.int .u64 seed] w λe w'=>∃b,e = .returned (pq b 0)/\Ab W w' (ixr Ap.ii b seed []::L):=by
 refine(cw (hs:=R.new_so) R.new_ok R.new_raw (Q:=λv w'=>∃b,v=pq b 0/\Ab W w' (ixr Ap.ii b seed []::L)) ?_).mono λe w' ⟨v,a,b,c,hs⟩=>⟨b,by rw[a,c],hs⟩;refine EJ (sz:=4) hs rfl (by omega) (by omega) (by omega) (by omega) λs2 w d _ _ hs=>?_;have hs:Ab W w (recs (C7 Ap.ii) s2 (replicate 8 ⟨0,Ae,((0,0):Int×Int)⟩)::L):=hs
 repeat (first|((with_reducible refine Dd ?_);first|refine Ak hs λf w hs=>?_|fail)|fail)
 refine⟨_,rfl,Bd s2 (ps:=replicate 8 ⟨0,Ae,((0,0):Int×Int)⟩) (n:=0) (u:=0) (Cj.new (n:=8) rfl (by omega) (by omega)<|CY<|by simp) (by decide +revert) rfl rfl<|by exact Ab.fin hs⟩
theorem VY(h:Ab W w L)[hA:At L b (ixr Ap.ii b seed m) F](d:k.size<4611686018427387904):Ai PR R.i_get #[pq b 0,.s k] w λe w'=>e = .returned (.tuple #[.agg #[.i ((AH m k).getD ((0,0):Int×Int)).1,.i ((AH m k).getD ((0,0):Int×Int)).2],.b (AH m k).isSome])/\Ab W w' (F<|ixr Ap.ii b seed m):=by
 refine At.call1 (hA:=hA) h λM hs=>?_;clear h hA;refine c1 (cw (hs:=R.get_so) R.get_ok R.get_raw ?_);refine Ak hs λf w hs=>?_;have hs:Ab W w (ixr Ap.ii b seed m::blk f [.i (0:Int),.i (0:Int)]::M):=by exact Ab.fin hs
 refine Am rfl ?_;obtain⟨s,ps,hi,c,p,hs⟩:=CG hs;have g:=hi.small;have j:=hi.big;refine AJ (FP R (st:=A2 seed ps.length) rfl d (by omega) (hi.stop _) hs) λe w ⟨l,hs⟩=>⟨_,_,l,?_⟩;refine As (λa=>?_) (λa=>?_)
 ·obtain⟨q,_,n⟩:=hi.hit a;rw[n]
  repeat (first|with_reducible refine Aa ?_|((with_reducible refine A7 ?_);first|refine Af hs ?_|refine Fy hs ?_|refine O1 hs ?_|fail)|((with_reducible refine Bv ?_);first|refine A4 hs λw hs=>?_|fail)|((with_reducible refine BI ?_);first|refine BO hs λo r hs=>?_|fail)|fail)
  simp only[toNat_natCast];exact⟨rfl,Bd s hi c rfl rfl<|by exact Ab.fin hs⟩
 ·rw[(hi.miss a).2.2.1];refine jw R.get_j1_raw ?_
  repeat (first|((with_reducible refine A7 ?_);first|refine Af hs ?_|fail)|((with_reducible refine Bv ?_);first|refine A4 hs λw hs=>?_|fail)|((with_reducible refine Dd ?_);first|refine Ak hs λo w hs=>?_|fail)|fail)
  exact⟨rfl,Bd s hi c rfl rfl<|by exact Ab.fin hs⟩
theorem Ang(h:Ab W w L)[hA:At L b (ixr Ap.ii b seed m) F]{v:(Int×Int)}(G:k.size<4611686018427387904)(A:∀e∈m,e.1.size<4611686018427387904)(S:m.length<900000000):Ai PR R.i_put #[pq b 0,.s k,.agg #[.i (v).1,.i (v).2]] w λe w'=>e = .returned (.b (AH m k).isNone)/\Ab W w' (F<|ixr Ap.ii b seed<|Cw m k v):=by
 refine At.call1 (hA:=hA) h λM hs=>?_;clear h hA;refine c1 (cw (hs:=R.put_so) R.put_ok R.put_raw ?_);refine Ak hs λI w hs=>?_;have hs:Ab W w (ixr Ap.ii b seed m::blk I [.i v.1,.i v.2]::M):=by exact Ab.fin hs
 refine Ad rfl ?_;obtain⟨s,ps,hi,J,K,hs⟩:=CG hs;have N:=hi.small;have O:=hi.big;refine AJ (FP R (st:=A2 seed ps.length) rfl G (by omega) (hi.stop _) hs) λe w ⟨f,hs⟩=>⟨_,_,f,?_⟩;refine As (λB=>?_) (λB=>?_)
 ·obtain⟨o,p,q⟩:=hi.hit B;have C:Cw m k v=Fm m k v:=by unfold Cw;rw[q]
  rw[q,C]
  repeat (first|with_reducible refine Aa ?_|((with_reducible refine A7 ?_);first|refine Af hs ?_|fail)|((with_reducible refine BI ?_);first|refine BO hs λT U hs=>?_|fail)|((with_reducible refine Cm ?_);first|refine Au ?_|fail)|((with_reducible refine Bk ?_);first|refine BJ hs ?_|fail)|((with_reducible refine E0 ?_);first|refine AI hs λw hs=>?_|fail)|fail)
  simp only[toNat_natCast];refine YC (vs:=[.i v.1,.i v.2]) (pre:=[.i (ps.getD (AK (A2 seed ps.length) ps k).1 default).is_,.s (ps.getD (AK (A2 seed ps.length) ps k).1 default).key]) (mid:=[.i (ps.getD (AK (A2 seed ps.length) ps k).1 default).v.1,.i (ps.getD (AK (A2 seed ps.length) ps k).1 default).v.2]) (tl:=[]) (a':={ ps.getD (AK (A2 seed ps.length) ps k).1 default with v:=v }) (i:=(AK (A2 seed ps.length) ps k).1) (j:=2) (n:=4) hs rfl o rfl rfl rfl rfl λw hs=>?_;have r:=hi.set (v:=v) o p;have g:A9 (ps.set (AK (A2 seed ps.length) ps k).1 { ps.getD (AK (A2 seed ps.length) ps k).1 default with v:=v })=A9 ps:=by
   rw[Bu o _<|by show B0 ps _≠0;rw[p.1];decide,if_neg<|by rw[p.1];decide];rfl
  refine⟨rfl,Bd s (n:=(m.length:Int)) (u:=(A9 ps:Int)) (by rw[length_set];exact r) (by rw[g,length_set];exact J) (by simp[Fm]) (by rw[g])<|by exact Ab.fin hs⟩
 ·obtain⟨o,D,q,P⟩:=hi.miss B;have C:Cw m k v=(k,v)::m:=by unfold Cw;rw[q]
  rw[q,C]
  repeat (first|((with_reducible refine A7 ?_);first|refine Af hs ?_|fail)|fail)
  refine Av (KG R (v:=v) o (by omega) rfl (by omega) hs) λe w ⟨f,hs⟩=>⟨f,?_⟩;have g:=Bu o (⟨2,k,v⟩:Pl (Int×Int)) (by show(2:Int)≠0;decide)
  have t:A9 (ps.set (AK (A2 seed ps.length) ps k).1 ⟨2,k,v⟩)<=A9 ps+1:=by rw[g];split <;> omega
  have d:=hi.add (v:=v) o D q P (by omega);have x:(ps.set (AK (A2 seed ps.length) ps k).1 ⟨2,k,v⟩).length=ps.length:=by simp
  generalize H:ps.set (AK (A2 seed ps.length) ps k).1 ⟨2,k,v⟩=y at hs t d x
  repeat (first|with_reducible refine Aa ?_|((with_reducible refine A7 ?_);first|refine Af hs ?_|fail)|((with_reducible refine Cm ?_);first|refine Au ?_|fail)|((with_reducible refine Bk ?_);first|refine BJ hs ?_|fail)|((with_reducible refine E0 ?_);first|refine AI hs λw hs=>?_|fail)|fail)
  rw[i64_in _<|by omega,K]
  with_reducible refine D5 (λQ=>?_) (λQ=>?_)
  ·have z:∀e∈(k,v)::m,e.1.size<4611686018427387904:=by
    intro e f;rcases mem_cons.1 f with rfl|f
    ·exact G
    ·exact A e f
   have E:Ab W w (blk b [.int .u64 seed,.l s.a s.n s.c,.i (((k,v)::m).length:Int),.i (A9 y:Int)]::recs (C7 Ap.ii) s y::M):=by
    simp only[length_cons,Int.natCast_add];exact Ab.fin hs
   refine Av (SD R d z (by simp;omega) E) λe w ⟨f,hs⟩=>⟨f,?_⟩;exact⟨rfl,hs⟩
  ·exact⟨rfl,Bd s (n:=(m.length:Int)+1) (by rw[x];exact d) (by omega) (by simp) rfl<|by exact Ab.fin hs⟩
theorem Yt(h:Ab W w L)[hA:At L b (ixr Ap.ii b seed m) F](l:k.size<4611686018427387904)(v:m.length<900000000):Ai PR R.i_del #[pq b 0,.s k] w λe w'=>e = .returned (.tuple #[.agg #[.i ((AH m k).getD ((0,0):Int×Int)).1,.i ((AH m k).getD ((0,0):Int×Int)).2],.b (AH m k).isSome])/\Ab W w' (F<|ixr Ap.ii b seed<|BU m k):=by
 refine At.call1 (hA:=hA) h λM hs=>?_;clear h hA;refine c1 (cw (hs:=R.del_so) R.del_ok R.del_raw ?_);refine Ak hs λb1 w hs=>?_;refine(VY R hs l).mono λe w ⟨a,hs⟩=>⟨_,_,_,a,?_⟩
 repeat (first|((with_reducible refine Bv ?_);first|refine A4 hs λw hs=>?_|fail)|((with_reducible refine Dd ?_);first|refine Ak hs λo w hs=>?_|fail)|fail)
 have hs:Ab W w (ixr Ap.ii b seed m::blk o [.i ((AH m k).getD ((0,0):Int×Int)).1,.i ((AH m k).getD ((0,0):Int×Int)).2]::blk b1 [.i (0:Int),.i (0:Int)]::M):=by exact Ab.fin hs
 refine Mc (λv g=>?_) (λg=>?_)
 ·obtain⟨s,ps,hi,q,x,hs⟩:=CG hs;have r:=hi.small;have t:=hi.big;refine AJ (FP R (st:=A2 seed ps.length) rfl l (by omega) (hi.stop _) hs) λe w ⟨a,hs⟩=>⟨_,_,a,?_⟩;have j:(AK (A2 seed ps.length) ps k).2=true:=by
   cases j:(AK (A2 seed ps.length) ps k).2 with
   | true=>rfl
   | false=>have:=(hi.miss j).2.2.1;rw[g] at this;cases this
  obtain⟨p,c,_⟩:=hi.hit j
  repeat (first|with_reducible refine Aa ?_|((with_reducible refine A7 ?_);first|refine Af hs ?_|fail)|((with_reducible refine Bv ?_);first|refine A4 hs λw hs=>?_|refine Gx hs λw hs=>?_|fail)|((with_reducible refine BI ?_);first|refine BO hs λo y hs=>?_|fail)|fail)
  rw[i64_in _<|by omega] at hs;simp only[toNat_natCast] at hs;have d:=hi.del (z:=(⟨1,Ae,((0,0):Int×Int)⟩:Pl (Int×Int))) p c rfl;have f:A9 (ps.set (AK (A2 seed ps.length) ps k).1 (⟨1,Ae,((0,0):Int×Int)⟩:Pl (Int×Int)))=A9 ps:=by
   rw[Bu p _<|by show(1:Int)≠0;decide,if_neg<|by rw[c.1];decide];rfl
  have A:=Mo hi.nodup g;refine⟨by trivial,Bd s (n:=(m.length:Int)-1) (u:=(A9 ps:Int)) (by rw[length_set];exact d) (by rw[f,length_set];exact q) (by omega) (by rw[f])<|by exact Ab.fin hs⟩
 ·have:BU m k=m:=by
   unfold BU;rw[filter_eq_self];intro e a;simpa using BC.1 g e a
  rw[this]
  repeat (first|((with_reducible refine A7 ?_);first|refine Af hs ?_|fail)|((with_reducible refine Bv ?_);first|refine A4 hs λw hs=>?_|fail)|fail)
  exact⟨by trivial,by exact Ab.fin hs⟩
end
end Go.Proofs.YtjipofkjmmpjdaaGreat
namespace Go.Proofs.YtjipofkjmmpjdaaGreat
open Go.Hb Go.IntWalk
theorem DK{P:Program}{f:FuncId}{args:Array Value}{w:World}{a:Value}{S:World->Prop}(h:Ai P f args w λe w'=>∃v,e = .returned v/\(v=a/\S w')) :
  Ai P f args w λe w'=>e = .returned a/\S w':=h.mono λ_ _ ⟨_,b,c,hs⟩=>⟨by rw[b,c],hs⟩
section
variable{W w:World}{L M:List HP}{F:HP->List HP}{b:Nat}{row:List (Nat×BA)}{free:List Nat}
theorem Tl{s f:Sl}{n:Int}{ls:List Lk}{fr:List Nat}{h p x:Nat}(d:h<ls.length)(g:p<ls.length)(j:x<ls.length)(hs:Ab W w (blk b [.l s.a s.n s.c,.l f.a f.n f.c,.i n]::recs lkR s ls::recs Ap.nat f fr::M)) :
  Ai PR 198 #[pq b 0,.i (h:Int),.i (p:Int),.i (x:Int)] w λe w'=>e = .returned (.tuple #[])/\Ab W w' (blk b [.l s.a s.n s.c,.l f.a f.n f.c,.i n]::recs lkR s (TJ ls h p x)::recs Ap.nat f fr::M):=by
 refine DK (cw ⟨mixed,func198,rfl⟩ Ar2 ?_);have k:=(BE (s:=s) hs).1
 repeat (first|with_reducible refine Aa ?_|((with_reducible refine A7 ?_);first|refine Af hs ?_|fail)|((with_reducible refine Bv ?_);first|refine Axh hs λw hs=>?_|fail)|((with_reducible refine BI ?_);first|refine BO hs λm o hs=>?_|refine Ia hs ?_|fail)|((with_reducible refine Cm ?_);first|refine Au ?_|fail)|((with_reducible refine Bk ?_);first|refine BJ hs ?_|fail)|((with_reducible refine E0 ?_);first|refine AI hs λw hs=>?_|fail)|fail)
 try simp only[toNat_natCast] at hs
 refine⟨rfl,?_⟩;exact Ab.fin hs
theorem PC{s f:Sl}{n:Int}{ls:List Lk}{fr:List Nat}{h:Nat}(m:h<ls.length)(d:Es ls h<ls.length)(g:Er ls h<ls.length)(hs:Ab W w (blk b [.l s.a s.n s.c,.l f.a f.n f.c,.i n]::recs lkR s ls::recs Ap.nat f fr::M)) :
  Ai PR 194 #[pq b 0,.i (h:Int)] w λe w'=>e = .returned (.tuple #[])/\Ab W w' (blk b [.l s.a s.n s.c,.l f.a f.n f.c,.i n]::recs lkR s (Hq ls h)::recs Ap.nat f fr::M):=by
 refine DK (cw ⟨mixed,func194,rfl⟩ Ary ?_);have o:=(BE (s:=s) hs).1;have d:(ls.getD (h:Int).toNat default).prev<ls.length:=d;have g:(ls.getD (h:Int).toNat default).next<ls.length:=g
 have j:(ls.getD h default).prev<ls.length:=d;have k:(ls.getD h default).next<ls.length:=g
 repeat (first|with_reducible refine Aa ?_|((with_reducible refine A7 ?_);first|refine Af hs ?_|refine Fy hs ?_|fail)|((with_reducible refine Bv ?_);first|refine Axh hs λw hs=>?_|fail)|((with_reducible refine BI ?_);first|refine BO hs λp q hs=>?_|refine Ia hs ?_|fail)|((with_reducible refine Cm ?_);first|refine Au ?_|refine A43 hs ?_|fail)|((with_reducible refine Bk ?_);first|refine BJ hs ?_|refine Ag hs ?_|fail)|((with_reducible refine E0 ?_);first|refine AI hs λw hs=>?_|fail)|fail)
 try simp only[toNat_natCast] at hs
 refine⟨rfl,?_⟩;exact Ab.fin hs
theorem Tk(h:Ab W w L)[hA:At L b (lst .s b row free) F]{x:Int}:Ai PR 199 #[pq b 0,.i x] w λe w'=>e = .returned (.b (Ko row x).isSome)/\Ab W w' (F<|lst .s b (row)<|free):=by
 refine At.call1 (hA:=hA) h λM hs=>?_;clear h hA;refine DK (cw ⟨mixed,func199,rfl⟩ Ar3 ?_);obtain⟨s,f,ls,hi,⟨g,l,m⟩,hs⟩:=E9 hs;have d:=hi.has x;rw[Wd] at d;rw[<- g] at d;rw[<- d];refine Am rfl ?_;refine As (λa=>?_) (λa=>⟨by simp only[a,Bool.false_and],Eh s f hi rfl hs⟩)
 repeat (first|with_reducible refine Aa ?_|((with_reducible refine A7 ?_);first|refine Af hs ?_|fail)|fail)
 refine As (λc=>?_) (λc=>⟨by simp only[a,c,Bool.false_and,Bool.and_false],Eh s f hi rfl hs⟩);have j:=of_decide_eq_true a;have k:=of_decide_eq_true c
 repeat (first|with_reducible refine Aa ?_|((with_reducible refine A7 ?_);first|refine Af hs ?_|refine Fy hs ?_|fail)|((with_reducible refine BI ?_);first|refine BO hs λn o hs=>?_|fail)|fail)
 refine⟨by simp only[a,c,Bool.true_and],Eh s f hi rfl ?_⟩;exact Ab.fin hs
theorem FI(h:Ab W w L)[hA:At L b (lst .s b row free) F]{x:Int}:Ai PR 164 #[pq b 0,.i x] w λe w'=>e = .returned (.tuple #[.s<|(FE row x).getD Ae,.b (Ko row x).isSome])/\Ab W w' (F<|lst .s b (row)<|free):=by
 refine At.call1 (hA:=hA) h λM hs=>?_;clear h hA;refine DK (cw ⟨mixed,func164,rfl⟩ Arl ?_);refine Ao (Tk hs) λe w ⟨g,hs⟩=>⟨_,g,?_⟩;refine As (λa=>?_) (λa=>?_)
 ·simp only[Bool.not_eq_true',isSome_eq_false_iff,isNone_iff_eq_none] at a;rw[FE,a];exact⟨rfl,hs⟩
 ·simp only[Bool.not_eq_false',isSome_iff_exists] at a;obtain⟨i,a⟩:=a;obtain⟨s,f,ls,hi,⟨l,m,n⟩,hs⟩:=E9 hs;obtain⟨k,v,rfl,c,o,j,p,d,q,_⟩:=hi.row_at (i:=i) (by rw[Wd];exact a)
  have d:(ls.getD k default).v = .s ((FE row k).getD Ae):=by rw[d];exact Awv a c
  repeat (first|with_reducible refine Aa ?_|((with_reducible refine A7 ?_);first|refine Af hs ?_|fail)|((with_reducible refine BI ?_);first|refine BO hs λr t hs=>?_|fail)|fail)
  refine Cx (x:=(FE row k).getD Ae) hs ?_ (hc:=by rw[toNat_natCast];simp only[lkR,Lk.cells,getElem?_cons_zero];rw[d];rfl);rw[a];refine⟨rfl,Eh s f hi rfl ?_⟩;exact Ab.fin hs
theorem Tm{v:BA}(D:row.length+free.length<1099511627776)(hs:Ab W w (lst .s b row free::M)) :
  Ai PR 197 #[pq b 0,.s v] w λe w'=>e = .returned (.i (Lz row free:Int))/\∃(s f:Sl) (ls h:List Lk),JW ls free (Gb .s row)/\s.n=h.length/\Aoy ls free (Gb .s row) (.s v) (Lz row free) h free.dropLast /\
   Ab W w' (blk b [.l s.a s.n s.c,.l f.a f.n f.c,.i<|(row.length:Int)+1]::recs lkR s h::recs Ap.nat f free.dropLast::M):=by
 refine DK (cw ⟨mixed,func197,rfl⟩ Ar1 ?_);obtain⟨s,f,ls,hi,⟨p,E,z⟩,hs⟩:=E9 hs;have k:=hi.take (.s v);have A:Wu ls.length free=Lz row free:=by unfold Wu Lz;rw[z]
 rw[A] at k
 repeat (first|with_reducible refine Aa ?_|((with_reducible refine A7 ?_);first|refine Af hs ?_|fail)|fail)
 rw[E];refine As (λo=>?_) (λo=>?_)
 ·simp only[gt_iff_lt,decide_eq_true_eq] at o;have g:free≠[]:=by rintro rfl;simp at o
  have F:=(BE (s:=f) hs).2;have q:wrap .i64 ((free.length:Int)-1)=((free.length-1:Nat):Int):=by rw[i64_in _<|by omega];omega
  simp only[q,toNat_natCast]
  repeat (first|with_reducible refine Aa ?_|((with_reducible refine A7 ?_);first|refine Af hs ?_|refine Cx hs ?_|fail)|((with_reducible refine Bv ?_);first|refine A4 hs λw hs=>?_|fail)|((with_reducible refine BI ?_);first|refine BO hs λr B hs=>?_|fail)|((with_reducible refine RY ?_);first|refine ML ?_|fail)|fail)
  have hs:=Bb4 (s:=f) (lo:=0) (hi:=free.length-1) (c:=f.c) (hs.shut f) rfl (by omega) (by omega) rfl (by decide);refine jw NT ?_;have j:free.getD (free.length-1) default=Lz row free:=by
   rw[Lz,getLastD_eq_getLast?,List.getLast?_eq_getElem?,getD_eq_getElem?_getD,getElem?_eq_getElem<|by omega];rfl
  simp only[j] at hs ⊢;rw[drop_zero,Nat.sub_zero,<- List.dropLast_eq_take] at hs;have G:=k.lt;have C:Lz row free<ls.length:=by
   have:=k.lt;unfold H7 at this;rw[if_neg g,length_set] at this;exact this
  repeat (first|with_reducible refine Aa ?_|((with_reducible refine A7 ?_);first|refine Af hs ?_|fail)|((with_reducible refine Bv ?_);first|refine A4 hs λw hs=>?_|refine Gx hs λw hs=>?_|fail)|((with_reducible refine BI ?_);first|refine BO hs λr B hs=>?_|fail)|fail)
  rw[i64_in _<|by omega] at hs;simp only[toNat_natCast] at hs;refine⟨by trivial,s,⟨Jk f.a 0 f.c 1,free.length-1,f.c⟩,ls,H7 ls free<|.s v,hi,?_,k,?_⟩
  ·rw[H7,if_neg g,length_set];exact p
  ·have d:ls.set (Lz row free) ⟨.s v,0,0,true⟩=H7 ls free (.s v):=by
    unfold H7 Lz;rw[if_neg g]
    congr 1;rcases eq_nil_or_concat free with rfl|⟨m,x,rfl⟩
    ·exact absurd rfl g
    ·simp[getLastD_eq_getLast?]
   rw[d] at hs;exact Ab.fin hs
 ·simp only[gt_iff_lt,decide_eq_false_iff_not] at o;have t:free=[]:=length_eq_zero_iff.1 (by omega);subst t;have H:=p
  repeat (first|with_reducible refine Aa ?_|((with_reducible refine A7 ?_);first|refine Af hs ?_|fail)|((with_reducible refine Dd ?_);first|refine Ak hs λr w hs=>?_|fail)|fail)
  refine D3 (s:=s) (a:=(⟨.s Ae,0,0,false⟩:Lk)) hs rfl rfl rfl rfl (by decide) (by rw[z];simp only[length_nil];simp only[length_nil] at D;omega) λs2 w u hs=>?_
  repeat (first|with_reducible refine Aa ?_|((with_reducible refine Bv ?_);first|refine A4 hs λw hs=>?_|fail)|fail)
  refine jw NT ?_;rw[p]
  repeat (first|with_reducible refine Aa ?_|((with_reducible refine A7 ?_);first|refine Af hs ?_|fail)|((with_reducible refine Bv ?_);first|refine A4 hs λw hs=>?_|refine Gx hs λw hs=>?_|fail)|((with_reducible refine BI ?_);first|refine BO hs λr B hs=>?_|fail)|fail)
  rw[i64_in _<|by omega] at hs;simp only[toNat_natCast] at hs;have y:(ls.length:Int)=(Lz row []:Int):=by rw[<- A];rfl
  refine⟨by rw[y],s2,f,ls,H7 ls [] (.s v),hi,?_,k,?_⟩
  ·simp[H7,u]
  ·have d:(ls++[(⟨.s Ae,0,0,false⟩:Lk)]).set ls.length ⟨.s v,0,0,true⟩=H7 ls [] (.s v):=by
    simp[H7]
   rw[d] at hs;exact Ab.fin hs
theorem Gj(h:Ab W w L)[hA:At L b (lst .s b row free) F]{v:BA}(l:row.length+free.length<1099511627776):Ai PR 162 #[pq b 0,.s v] w λe w'=>e = .returned (.i (Lz row free:Int))/\Ab W w' (F<|lst .s b (row++[(Lz row free,v)])<|free.dropLast):=by
 refine At.call1 (hA:=hA) h λM hs=>?_;clear h hA;refine DK (cw ⟨mixed,func162,rfl⟩ Arj ?_);refine Ad rfl ?_;refine Ao (Tm l hs) λe w ⟨d,s,f,ls,a,hi,n,c,hs⟩=>⟨_,d,?_⟩;have j:=c.le;have k:=hi.pos;have g:=c.lt
 repeat (first|with_reducible refine Aa ?_|((with_reducible refine A7 ?_);first|refine Af hs ?_|refine Fy hs ?_|fail)|((with_reducible refine BI ?_);first|refine BO hs λo p hs=>?_|fail)|fail)
 have m:(a.getD (0:Int).toNat default).prev=((Gb .s row).map (·.1)).getLastD 0:=by
  show Es a 0=_;rw[c.pv,Bt (by have:=c.pos;omega),Adw hi.stands]
 rw[m];have q:((Gb .s row).map (·.1)).getLastD 0<ls.length:=hi.bound Np;refine Av (Tl (x:=0) g (by omega) (by omega)<|hs.shut s) λe w ⟨d,hs⟩=>⟨d,?_⟩;refine⟨rfl,Eh s f ?_ (by simp) hs⟩;have:=JW.lay (r1:=Gb .s row) (r2:=[]) (by rw[append_nil];exact hi) (by rw[append_nil];exact c)
 rw[show Gb .s (row++[(Lz row free,v)])=Gb .s row++[(Lz row free,.s v)] by simp[Gb]];exact this
theorem HK(h:Ab W w L)[hA:At L b (lst .s b row free) F]{x:Int}(B:row.length+free.length<1099511627776):Ai PR 160 #[pq b 0,.i x] w λe w'=>e = .returned (.tuple #[.s<|(FE row x).getD Ae,.b (Ko row x).isSome])/\Ab W w' (F<|lst .s b (match Ko row x with|some i=>row.eraseIdx i|none=>row)<|match Ko row x with|some i=>free++[x.toNat]|none=>free):=by
 refine At.call1 (hA:=hA) h λM hs=>?_;clear h hA;refine DK (cw ⟨mixed,func160,rfl⟩ Arh ?_);refine AJ (FI hs) λe w ⟨l,hs⟩=>⟨_,_,l,?_⟩;refine As (λc=>?_) (λc=>?_)
 ·simp only[isSome_iff_exists] at c;obtain⟨i,c⟩:=c;obtain⟨s,f,ls,hi,⟨C,D,E⟩,hs⟩:=E9 hs;obtain⟨k,v,rfl,p,q,j,G,H,d,r,t⟩:=hi.row_at (i:=i) (by rw[Wd];exact c)
  have m:=hi.next_lt d;have o:=hi.prev_lt d;refine Av (PC j o m hs) λe w ⟨l,hs⟩=>⟨l,?_⟩;have u:=VH ls k
  repeat (first|with_reducible refine Aa ?_|((with_reducible refine A7 ?_);first|refine Af hs ?_|fail)|((with_reducible refine Bv ?_);first|refine Gx hs λw hs=>?_|fail)|((with_reducible refine BI ?_);first|refine BO hs λy I hs=>?_|fail)|((with_reducible refine Dd ?_);first|refine Ak hs λy w hs=>?_|fail)|fail)
  refine D3 (s:=f) (a:=k) hs rfl rfl rfl rfl (by decide) (by omega) λz w A hs=>?_
  repeat (first|with_reducible refine Aa ?_|((with_reducible refine A7 ?_);first|refine Af hs ?_|fail)|((with_reducible refine Bv ?_);first|refine A4 hs λw hs=>?_|fail)|fail)
  rw[i64_in _<|by omega] at hs;simp only[toNat_natCast] at hs;rw[c];have g:i<row.length:=by
   obtain⟨_,_,_,_,g⟩:=M2 c;exact g
  refine⟨rfl,Eh s z (n:=(row.length:Int)-1) (ls:=(Hq ls k).set k ⟨.s Ae,0,0,false⟩) ?_ (by rw[List.length_eraseIdx,if_pos g];omega) (by exact Ab.fin hs)⟩;rw[Ag4];exact hi.remove d q j o m
 ·simp only[isSome_eq_false_iff,isNone_iff_eq_none] at c;rw[c];exact⟨rfl,hs⟩
theorem Et(h:Ab W w L)[hA:At L b (lst .s b row free) F]:Ai PR 165 #[pq b 0] w λe w'=>e = .returned (.i ((AY row 0:Nat):Int))/\Ab W w' (F<|lst .s b (row)<|free):=by
 refine At.call1 (hA:=hA) h λM hs=>?_;clear h hA;refine DK (cw ⟨mixed,func165,rfl⟩ Arm ?_);refine Ad rfl ?_;obtain⟨s,f,ls,hi,⟨c,d,g⟩,hs⟩:=E9 hs;have a:=hi.pos
 repeat (first|with_reducible refine Aa ?_|((with_reducible refine A7 ?_);first|refine Af hs ?_|refine Fy hs ?_|fail)|((with_reducible refine BI ?_);first|refine BO hs λj k hs=>?_|fail)|fail)
 refine⟨?_,Eh s f hi rfl<|by exact Ab.fin hs⟩;congr 2;have:=hi.front;rw[SO] at this;exact this
theorem OX(h:Ab W w L)[hA:At L b (lst .s b row free) F]{x:Int}:Ai PR 245 #[pq b 0,.i x] w λe w'=>e = .returned (.i (IT row x:Int))/\Ab W w' (F<|lst .s b (row)<|free):=by
 refine At.call1 (hA:=hA) h λM hs=>?_;clear h hA;refine DK (cw ⟨mixed,func245,rfl⟩ Ar5 ?_);refine Ao (Tk hs) λe w ⟨d,hs⟩=>⟨_,d,?_⟩;refine As (λa=>?_) (λa=>?_)
 ·simp only[Bool.not_eq_true',isSome_eq_false_iff,isNone_iff_eq_none] at a;refine⟨by simp only[IT,a];rfl,hs⟩
 ·simp only[Bool.not_eq_false',isSome_iff_exists] at a;obtain⟨i,a⟩:=a;obtain⟨s,f,ls,hi,⟨n,o,p⟩,hs⟩:=E9 hs;obtain⟨k,q,rfl,g,r,j,t,u,l,c,m⟩:=hi.row_at (i:=i) (by rw[Wd];exact a)
  repeat (first|with_reducible refine Aa ?_|((with_reducible refine A7 ?_);first|refine Af hs ?_|refine Fy hs ?_|fail)|((with_reducible refine BI ?_);first|refine BO hs λv y hs=>?_|fail)|fail)
  refine⟨?_,Eh s f hi rfl<|by exact Ab.fin hs⟩;rw[toNat_natCast];congr 2;rw[SO] at c;simp only[IT,a];exact c
theorem FJ(h:Ab W w L)[hA:At L b (lst .s b row free) F]:Ai PR 163 #[pq b 0] w λe w'=>e = .returned (.i (row.length:Int))/\Ab W w' (F<|lst .s b (row)<|free):=by
 refine At.call1 (hA:=hA) h λM hs=>?_;clear h hA;refine DK (cw ⟨mixed,func163,rfl⟩ Ark ?_);refine Ad rfl ?_;obtain⟨s,f,ls,hi,⟨a,c,d⟩,hs⟩:=E9 hs
 repeat (first|with_reducible refine Aa ?_|((with_reducible refine A7 ?_);first|refine Af hs ?_|fail)|fail)
 exact⟨rfl,Eh s f hi rfl hs⟩
theorem Ja(hs:Ab W w L):Ai PR 171 #[] w λe w'=>∃b,e = .returned (pq b 0)/\Ab W w' (lst .s b [] []::L):=by
 refine(cw ⟨mixed,func171,rfl⟩ Arr (Q:=λv w'=>∃b,v=pq b 0/\Ab W w' (lst .s b [] []::L)) ?_).mono λe w' ⟨v,a,b,c,hs⟩=>⟨b,by rw[a,c],hs⟩;refine EJ (sz:=4) hs rfl (by omega) (by omega) (by omega) (by omega) λs w d _ _ hs=>?_;have hs:Ab W w (recs lkR s [⟨.s Ae,0,0,false⟩]::L):=hs;have hs:=Ab.nilR Ap.nat hs
 repeat (first|((with_reducible refine Dd ?_);first|refine Ak hs λf w hs=>?_|fail)|fail)
 refine⟨_,rfl,Eh s ⟨none,0,0⟩ (ls:=[⟨.s Ae,0,0,false⟩]) (n:=0) ?_ rfl (by exact Ab.fin hs)⟩;exact A4t _
theorem PB{Q:VW}(G:row.length+free.length<1099511627776)
  (t:∀w (m:Sl),Ab W w (recs (Ap.str) m (row.map (·.2))::lst .s b row free::M)->Q (.l m.a m.n m.c) w) :
  ∀(m i:Nat)(w:World)(d:Sl),i+m=row.length->Ab W w (recs (Ap.str) d ((row.take i).map (·.2))::lst .s b row free::M) ->
  Ql AU Q (m+1) (some ⟨b,0,none⟩) d (AY row i:Int) w:=by
 intro m
 induction m with
 | zero=>
  intro i w d hi hs;rw[NU];have e:AY row i=0:=by unfold AY;rw[getD_eq_getElem?_getD,List.getElem?_eq_none<|by simp;omega];rfl
  rw[e];refine Ad rfl ?_;refine jw ZM ?_;rw[List.take_of_length_le<|by omega] at hs;exact t w d hs
 | succ m u=>
  intro i w d hi hs;rw[NU];have hs:=(hs.perm<|List.Perm.swap _ _ _);obtain⟨s,f,ls,h,⟨H,I,J⟩,hs⟩:=E9 hs;have g:i<row.length:=by omega
  have j:Ko row (AY row i:Int)=some i:=by
   have:=Lj (row:=Gb .s row) (nodup_append.1 h.nodup).1 (i:=i) (e:=(row[i].1,.s row[i].2)) (by simp[Gb,g]);rw[Wd] at this;rw[show AY row i=row[i].1 by unfold AY;rw[getD_eq_getElem?_getD,getElem?_map,getElem?_eq_getElem g];rfl]
   exact this
  obtain⟨k,v,p,o,y,z,K,A,B,_⟩:=h.row_at (i:=i) (by rw[Wd];exact j);have p:AY row i=k:=by omega
  have q:v = .s (row.getD i default).2:=by
   simp only[Gb,getElem?_map,getElem?_eq_getElem g,map_some,Option.some.injEq,Prod.mk.injEq] at o;rw[<- o.2,getD_eq_getElem?_getD,getElem?_eq_getElem g];rfl
  refine Am (by rw[p];simp;omega) ?_;rw[p] at j ⊢
  repeat (first|with_reducible refine Aa ?_|((with_reducible refine A7 ?_);first|refine Af hs ?_|fail)|((with_reducible refine BI ?_);first|refine BO hs λC L hs=>?_|fail)|fail)
  refine Cx (x:=(row.getD i default).2) hs ?_ (hc:=by rw[toNat_natCast];simp only[lkR,Lk.cells,getElem?_cons_zero];rw[A,q];rfl)
  repeat (first|((with_reducible refine Dd ?_);first|refine Ak hs λC w hs=>?_|fail)|fail)
  have hs:=hs.shut s;refine D3 (s:=d) (a:=(row.getD i default).2) hs rfl rfl rfl rfl (by decide) (by simp;omega) λr w D hs=>?_
  have hs:Ab W w (lst .s b row free::recs (Ap.str) r (List.map (·.2) (List.take i row)++[(row.getD i default).2])::M):=Eh s f h rfl (by exact Ab.fin hs);have e:(row.take i).map (·.2)++[(row.getD i default).2]=(row.take<|i+1).map (·.2):=by
   rw[CC<|by omega,map_append];rfl
  rw[e] at hs;refine Ao (OX hs) λe w ⟨E,hs⟩=>⟨_,E,?_⟩;have F:IT row (k:Int)=AY row (i+1):=by unfold IT;rw[j]
  rw[F];exact u (i+1) w r (by omega) (hs.perm<|List.Perm.swap _ _ _)
theorem Lt(h:Ab W w L)[hA:At L b (lst .s b row free) F](f:row.length+free.length<1099511627776):Ai PR 244 #[pq b 0] w λe w'=>∃m:Sl,e = .returned (.l m.a m.n m.c)/\Ab W w' (recs (Ap.str) m (row.map (·.2))::F (lst .s b row free)):=by
 refine At.oneX (hA:=hA) h λM hs g=>?_;refine(cw ⟨mixed,func244,rfl⟩ Ar4 (Q:=λv w'=>∃m:Sl,v = .l m.a m.n m.c/\Ab W w' (lst .s b row free::recs (Ap.str) m (row.map (·.2))::M)) ?_).mono λe w' ⟨v,d,m,i,hs⟩=>⟨m,by rw[d,i],?_⟩
 ·skip;refine Ao (Et hs) λe w ⟨d,hs⟩=>⟨_,d,?_⟩;have hs:=Ab.nilR (Ap.str) hs;have j:=PB (row:=row) (free:=free) (M:=M) (b:=b) (Q:=λv w'=>∃m:Sl,v = .l m.a m.n m.c/\Ab W w' (lst .s b row free::recs (Ap.str) m (row.map (·.2))::M)) f
   (λw m hs=>⟨m,rfl,hs.perm<|List.Perm.swap _ _ _⟩) row.length 0 w ⟨none,0,0⟩ (by omega) hs
  exact⟨_,j⟩
 ·exact g _ _ [recs (Ap.str) m<|row.map (·.2)] hs
end
end Go.Proofs.YtjipofkjmmpjdaaGreat
