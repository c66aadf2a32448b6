import Derived.IntWalk
import Derived.Lib.Mul64
import Derived.Laws.Bits64b
import Derived.Test.YtjipofkjmmpjdaaGreatQTwins3
set_option linter.unusedVariables false
set_option linter.unusedSimpArgs false
set_option linter.unnecessarySimpa false
set_option linter.unusedSectionVars false
set_option maxRecDepth 100000
open Go.Proofs.Tryz
open List (map_cons length_append replicate mem_map getElem?_map mem_of_getElem? map_set length_cons length_nil getElem?_eq_getElem getD_eq_getElem?_getD length length_map take_of_length_le map_map map_id map_append append_assoc nodup_cons findIdx?_cons nodup_append mem_append_left mem_append_right mem_append perm_middle length_drop perm_append_comm mem_singleton filter_eq_self dropWhile_cons filter_cons_of_neg countP_cons mem_cons filter_cons_of_pos find?_eq_none filter_sublist mem_filter countP_nil find?_append getElem?_cons_zero find?_cons_of_pos find?_cons_of_neg countP_le_length length_set length_eq_zero_iff find?)
open Go.IntKind (wrap u64 wrap_u64 i64)
open Int (toNat_natCast natCast_add tdiv tdiv_eq_ediv_of_nonneg tmod add_zero)
open Nat (le_trans le_refl mod_lt)
open Option (map_some or_none)
namespace Go.Hb
def BD(K:List (List BA))(js:List Nat):Nat:=(js.map λj=>(K.getD j []).length).sum
def F0(K:List (List BA))(js:List Nat):List BA:=(js.map λj=>K.getD j []).flatten
theorem Wf{K:List (List BA)}{js:List Nat}{j:Nat}(h:j<js.length):BD K (js.take<|j+1)=BD K (js.take j)+(K.getD (js.getD j default) []).length:=by
 unfold BD;rw[CC h];simp
theorem Ag1{K:List (List BA)}{js:List Nat}{j:Nat}(h:j<js.length):F0 K (js.take<|j+1)=F0 K (js.take j)++K.getD (js.getD j default) []:=by
 unfold F0;rw[CC h];simp
theorem Anm(K:List (List BA))(js:List Nat):(F0 K js).length=BD K js:=by
 unfold F0 BD;induction js with
 | nil=>rfl
 | cons a l b=>rw[map_cons,List.flatten_cons,length_append,b,map_cons,List.sum_cons]
theorem Wm:∀(n j:Nat),Dw j (replicate n [])=[]
 | 0,_=>rfl
 | n+1,j=>by rw[List.replicate_succ,Dw,Wm n<|j+1];rfl
theorem Awq(n:Nat):Ez (replicate n []) (replicate n []) []:=by
 have h:(replicate n ([]:List BA)).flatten=[]:=List.flatten_replicate_nil;refine⟨by simp[CP],by rw[h];simp,by rw[Wm],by rw[h];simp⟩
end Go.Hb
namespace Go.Proofs.YtjipofkjmmpjdaaGreat
open Go.Hb Go.IntWalk
section
variable(R:RwF){W w:World}{L M:List HP}{F:HP->List HP}{xb N:Nat}{s:Sl}{K:List (List BA)}{key:BA}
theorem Ei(h:Ab W w L)[hA:At L xb (rowsC s xb N K) F](j:key.size<64):Ai PR R.i_where #[.agg #[.l s.a s.n s.c,pq xb 0],.s key] w λe w'=>e = .returned (.i<|E3 K key)/\Ab W w' (F<|rowsC s xb N K):=by
 refine At.call1 (hA:=hA) h λM hs=>?_;clear h hA;refine c1 (cw (hs:=R.where_so) R.where_ok R.where_raw ?_);obtain⟨xs,m,hi,b,k,hs⟩:=Gu hs
 repeat (first|((with_reducible refine A7 ?_);first|refine Af hs ?_|fail)|with_reducible refine Ak hs λd w hs=>?_|fail)
 refine(VY R hs<|by omega).mono λe w ⟨g,hs⟩=>⟨_,_,_,g,?_⟩;cases f:AH m key with
 | none=>
  repeat (first|((with_reducible refine Bv ?_);first|refine A4 hs λw hs=>?_|fail)|with_reducible refine Ak hs λd w hs=>?_|fail)
  refine Am rfl ?_;rw[(hi.miss f).2.2.1];exact⟨rfl,FR hi b<|by exact Ab.fin hs⟩
 | some p=>
  repeat (first|((with_reducible refine Bv ?_);first|refine A4 hs λw hs=>?_|fail)|with_reducible refine Ak hs λd w hs=>?_|fail)
  refine Ad rfl ?_
  repeat (first|((with_reducible refine A7 ?_);first|refine Af hs ?_|fail)|fail)
  have:=hi.where_eq f;exact⟨by rw[<- this];rfl,FR hi b<|by exact Ab.fin hs⟩
theorem Cg(h:Ab W w L)[hA:At L xb (rowsC s xb N K) F](O:key.size<64)(P:N<100000000)(C:K.length<=4):Ai PR R.i_drop #[.agg #[.l s.a s.n s.c,pq xb 0],.s key] w λe w'=>e = .returned (.tuple #[])/\Ab W w' (F<|rowsC s xb N<|DI K key):=by
 refine At.call1 (hA:=hA) h λM hs=>?_;clear h hA;refine c1 (cw (hs:=R.drop_so) R.drop_ok R.drop_raw ?_);obtain⟨xs,m,hi,d,Q,hs⟩:=Gu hs;obtain⟨S,D⟩:=hi.mlenR d C
 repeat (first|((with_reducible refine A7 ?_);first|refine Af hs ?_|fail)|with_reducible refine Ak hs λk w hs=>?_|fail)
 refine(Yt R hs (by omega)<|by omega).mono λe w ⟨o,hs⟩=>⟨_,_,_,o,?_⟩;cases A:AH m key with
 | none=>
  repeat (first|((with_reducible refine Bv ?_);first|refine A4 hs λw hs=>?_|fail)|with_reducible refine Ak hs λk w hs=>?_|fail)
  refine Ad rfl ?_;obtain⟨_,f,_,B⟩:=hi.miss A;rw[f];exact⟨rfl,FR B d<|by exact Ab.fin hs⟩
 | some p=>
  repeat (first|((with_reducible refine Bv ?_);first|refine A4 hs λw hs=>?_|fail)|with_reducible refine Ak hs λk w hs=>?_|fail)
  refine Am rfl ?_;have q:∀row∈xs.map (·.2.1),(row.map (·.1)).Nodup:=by
   intro row E;obtain⟨x,b,rfl⟩:=mem_map.1 E;obtain⟨j,G⟩:=List.mem_iff_getElem?.1 b;have r:Ab W w (AN (xs.map Fc)::M):=by exact Ab.fin hs
   exact Ii (HS G r)
  obtain⟨j,row,i,r,f,H,B,I⟩:=hi.hit A q;obtain⟨x,b,t⟩:∃x,xs[j]? = some x/\x.2.1=row:=by
   rw[getElem?_map] at f;cases b:xs[j]? with
   | none=>rw[b] at f;cases f
   | some x=>rw[b] at f;exact⟨x,rfl,by simpa using f⟩
  have J:j<xs.length:=(List.getElem?_eq_some_iff.1 b).1;have u:((some p).getD ((0,0):Int×Int)).1=(j:Int):=r;have v:((some p).getD ((0,0):Int×Int)).2=p.2:=rfl;rw[u,v] at hs;refine AI hs λw hs=>?_;refine Au (x:=s) ?_;refine Au ?_;refine BO hs λk T hs=>?_;refine Ajv hs ?_;refine Af hs ?_;refine Ag hs ?_;rw[toNat_natCast,J3 b];have U:=d x (mem_of_getElem? b);have hs:=HS (M:=ixr Ap.ii xb 0 (BU m key)::recs Ap.ptr s (xs.map (·.1))::M) b (by exact Ab.fin hs);refine AJ (HK hs (by omega) (x:=p.2)) λe w ⟨o,hs⟩=>⟨_,_,o,?_⟩
  subst t;rw[H] at hs;simp only at hs;have hs:=Rc b hs;have g:(xs.set j (x.1,x.2.1.eraseIdx i,x.2.2++[(p.2).toNat])).map (·.1)=xs.map (·.1):=by
   rw[map_set];refine Tc ?_;rw[getElem?_map,b];rfl
  refine⟨rfl,FR (xs:=xs.set j (x.1,x.2.1.eraseIdx i,x.2.2++[(p.2).toNat])) (m:=BU m key) ?_ ?_ ?_⟩
  ·rw[map_set];exact I
  ·intro y z;rcases List.mem_or_eq_of_mem_set z with z|rfl
   ·exact d y z
   ·simp only[List.length_eraseIdx,length_append,length_cons,length_nil];split <;> omega
  ·rw[g];exact Ab.fin hs
theorem QR{xs:List HR}{j:Nat}(a:j<xs.length):∃x,xs[j]? = some x:=⟨_,getElem?_eq_getElem a⟩
theorem Ks{N':Nat}(h:Ab W w (rowsC s xb N K::M))(b:N<=N'):Ab W w (rowsC s xb N' K::M):=by
 obtain⟨xs,m,hi,a,d,h⟩:=Gu h;exact FR hi (λy c=>le_trans (a y c) b) h
theorem Adi(h:Ab W w (rowsC s xb N K::M)):∀j,(K.getD j []).length<=N:=by
 obtain⟨xs,m,hi,a,c,h⟩:=Gu h;intro j;rw[getD_eq_getElem?_getD];cases b:xs[j]? with
 | none=>
  have:K[j]? = none:=by rw[List.getElem?_eq_none_iff] at b ⊢;have:=hi.klen;simp at this;omega
  rw[this];simp
 | some x=>
  have:K[j]? = some (x.2.1.map (·.2)):=hi.row (by rw[getElem?_map,b];rfl);rw[this];have:=a x (mem_of_getElem? b);simp;omega
theorem FG(h:Ab W w L)[hA:At L xb (rowsC s xb N K) F]{j:Nat}(D:j<K.length)(p:key.size<64)(t:N<100000000)(u:K.length<=4)(z:(K.getD j []).length<N):Ai PR R.i_push #[.agg #[.l s.a s.n s.c,pq xb 0],.i (j:Int),.s key] w λe w'=>e = .returned (.tuple #[])/\Ab W w' (F<|rowsC s xb N<|D2 K j key):=by
 refine At.call1 (hA:=hA) h λM hs=>?_;clear h hA;refine c1 (cw (hs:=R.push_so) R.push_ok R.push_raw ?_);refine Ak hs λb1 w hs=>?_
 repeat (first|((with_reducible refine A7 ?_);first|refine Af hs ?_|fail)|fail)
 refine Av (Cg R hs p t u) λe w ⟨g,hs⟩=>⟨g,?_⟩;have hs:Ab W w (rowsC s xb N (DI K key)::blk b1 [.l s.a s.n s.c,pq xb 0]::M):=by exact Ab.fin hs
 have A:(DI K key).length=K.length:=by unfold DI;simp
 obtain⟨xs,m,hi,b,E,hs⟩:=Gu hs;obtain⟨G,B⟩:=hi.mlenR b (by omega);obtain⟨x,d⟩:=QR (xs:=xs) (j:=j) (by omega);have z:=b x (mem_of_getElem? d);refine An [blk b1 [.l s.a s.n s.c,pq xb 0]] hs λw hs=>?_;refine Au ?_;refine Af (x:=s) hs ?_;refine Ag hs ?_;refine BO hs λH I hs=>?_;refine Cx hs ?_;refine Ag hs ?_;rw[toNat_natCast,J3 d];have hs:=HS (M:=recs Ap.ptr s (xs.map (·.1))::ixr Ap.ii xb 0 m::blk b1 [.l s.a s.n s.c,pq xb 0]::M) d (by exact Ab.fin hs);refine Ao (Gj hs (by omega) (v:=key)) λe w ⟨g,hs⟩=>⟨_,g,?_⟩
 have hs:=Rc d hs;refine Ag hs ?_;refine Ao (Ang R hs (v:=((j:Int),(Lz x.2.1 x.2.2:Int))) (by omega) hi.small_m<|by omega) λe w ⟨g,hs⟩=>⟨_,g,?_⟩;have k:(xs.set j (x.1,x.2.1++[(Lz x.2.1 x.2.2,key)],x.2.2.dropLast)).map (·.1)=xs.map (·.1):=by
  rw[map_set];refine Tc ?_;rw[getElem?_map,d];rfl
 refine⟨rfl,FR (xs:=xs.set j (x.1,x.2.1++[(Lz x.2.1 x.2.2,key)],x.2.2.dropLast)) (m:=Cw m key ((j:Int),(Lz x.2.1 x.2.2:Int))) ?_ ?_ ?_⟩
 ·rw[map_set];exact hi.push (Ano K key) p (by rw[getElem?_map,d];rfl) _
 ·intro y o;rcases List.mem_or_eq_of_mem_set o with o|rfl
  ·exact b y o
  ·have J:x.2.1.length<=(K.getD j []).length:=by
    have f:=hi.row (j:=j) (row:=x.2.1) (by rw[getElem?_map,d];rfl);unfold DI at f;rw[getElem?_map] at f;rw[getD_eq_getElem?_getD];cases q:K[j]? with
    | none=>rw[q] at f;cases f
    | some r=>
     rw[q] at f;have C:(Aq r key).length=(x.2.1.map (·.2)).length:=congrArg length (Option.some.inj f);have O:=Bq r key;rw[length_map] at C;show x.2.1.length<=r.length;omega
   simp only[length_append,List.length_dropLast,length_cons,length_nil];omega
 ·rw[k];exact Ab.fin hs
theorem BB(h:Ab W w L)[hA:At L xb (rowsC s xb N K) F]{j:Nat}(t:j<K.length)(o:K.length<=4):Ai PR R.i_oldest #[.agg #[.l s.a s.n s.c,pq xb 0],.i (j:Int)] w λe w'=>e = .returned (.s<|Ck<|K.getD j [])/\Ab W w' (F<|rowsC s xb N K):=by
 refine At.call1 (hA:=hA) h λM hs=>?_;clear h hA;refine c1 (cw (hs:=R.oldest_so) R.oldest_ok R.oldest_raw ?_);refine Ak hs λb1 w hs=>?_;have hs:Ab W w (rowsC s xb N K::blk b1 [.l s.a s.n s.c,pq xb 0]::M):=by exact Ab.fin hs
 obtain⟨xs,m,hi,b,u,hs⟩:=Gu hs;have p:xs.length=K.length:=(hi.mlenR b o).2;obtain⟨x,f⟩:=QR (xs:=xs) (j:=j) (by omega);refine An [blk b1 [.l s.a s.n s.c,pq xb 0],recs Ap.ptr s<|xs.map (·.1)] hs λw hs=>?_;refine Au (x:=s) ?_;refine BO hs λv y hs=>?_;refine Ajv hs ?_;refine Af (x:=s) hs ?_;refine Ag hs ?_;refine Ia hs ?_;refine Cx hs ?_;refine Ag hs ?_;rw[toNat_natCast,J3 f];have hs:=HS (M:=recs Ap.ptr s (xs.map (·.1))::ixr Ap.ii xb 0 m::blk b1 [.l s.a s.n s.c,pq xb 0]::M) f (by exact Ab.fin hs)
 refine Ao (Et hs) λe w ⟨g,hs⟩=>⟨_,g,?_⟩;refine Ag hs ?_;have d:=Ii hs;refine AJ (FI hs) λe w ⟨g,hs⟩=>⟨_,_,g,?_⟩;have hs:=MS f hs;have k:K.getD j []=x.2.1.map (·.2):=by
  rw[getD_eq_getElem?_getD,hi.row (j:=j) (row:=x.2.1)<|by rw[getElem?_map,f];rfl];rfl
 have q:(FE x.2.1 ((AY x.2.1 0:Nat):Int)).getD Ae=Ck (K.getD j []):=by
  rw[k];cases r:x.2.1 with
  | nil=>rfl
  | cons a l=>
   rw[r] at d;have:Ko (a::l) ((AY (a::l) 0:Nat):Int)=some 0:=Lj d rfl;unfold FE;rw[this];rfl
 exact⟨by rw[q],FR hi b<|by exact Ab.fin hs⟩
theorem Anu{o:Sl}{js:List Nat}(hs:Ab W w (rowsC s xb N K::recs Ap.nat o js::M))(B:∀i,i<js.length->js.getD i default<K.length)(L:N<100000000)(C:K.length<=4)(O:js.length<=4) :
  Ai PR R.i_many #[.agg #[.l s.a s.n s.c,pq xb 0],.l o.a o.n o.c] w λe w'=>e = .returned (.i (BD K js:Int))/\Ab W w' (rowsC s xb N K::recs Ap.nat o js::M):=by
 refine c1 (cw (hs:=R.many_so) R.many_ok R.many_raw ?_);refine Ak hs λb1 w hs=>?_;have p:=Adi (w:=w) (W:=W) (M:=recs Ap.nat o js::M) (s:=s) (xb:=xb) (N:=N) (K:=K) (by exact Ab.fin hs);have z:=BS (s:=o) (rows:=js) hs;have g:∀(f j:Nat)(w:World)(b:Int),j+f=js.length->b=(BD K (js.take j):Int)/\b<=j*N->Ab W w (blk b1 [.l s.a s.n s.c,pq xb 0]::rowsC s xb N K::recs Ap.nat o js::M) ->
   R.many_l1 AU (λv w'=>v = .i (BD K js:Int)/\Ab W w' (rowsC s xb N K::recs Ap.nat o js::M)) (f+1) b1 0 b o (o.n:Int) (j:Int) w:=by
  clear hs;intro f
  induction f with
  | zero=>
   intro j w b q d hs;rw[R.many_l1_raw];refine Ad (decide_eq_false<|by omega) ?_;refine jw R.many_j2_raw ?_;rw[take_of_length_le<|by omega] at d;exact⟨by rw[d.1],by exact Ab.fin hs⟩
  | succ f D=>
   intro j w b q d hs;rw[R.many_l1_raw];refine Am (decide_eq_true<|by omega) ?_;refine CO (rows:=js) hs λE F r=>?_;refine Dh (rows:=js) r hs ?_;refine Af (x:=s) hs ?_;rw[toNat_natCast];have G:=B j (by omega);have hs:Ab W w (rowsC s xb N K::blk b1 [.l s.a s.n s.c,pq xb 0]::recs Ap.nat o js::M):=by exact Ab.fin hs
   obtain⟨xs,m,hi,h,P,hs⟩:=Gu hs;have H:xs.length=K.length:=(hi.mlenR h C).2;obtain⟨x,k⟩:=QR (xs:=xs) (j:=js.getD j default) (by omega);refine BO hs λE F hs=>?_;refine Cx hs ?_;rw[toNat_natCast,J3 k];have hs:=HS (M:=recs Ap.ptr s (xs.map (·.1))::ixr Ap.ii xb 0 m::blk b1 [.l s.a s.n s.c,pq xb 0]::recs Ap.nat o js::M) k (by exact Ab.fin hs);refine Ao (FJ hs) λe w ⟨I,hs⟩=>⟨_,I,?_⟩;have hs:=MS k hs;have t:K.getD (js.getD j default) []=x.2.1.map (·.2):=by
    rw[getD_eq_getElem?_getD,hi.row (j:=js.getD j default) (row:=x.2.1)<|by rw[getElem?_map,k];rfl];rfl
   have u:=Wf (K:=K) (js:=js) (j:=j) (by omega);have J:=p (js.getD j default);rw[t,length_map] at u J;have hs:Ab W w (rowsC s xb N K::blk b1 [.l s.a s.n s.c,pq xb 0]::recs Ap.nat o js::M):=FR hi h (by exact Ab.fin hs);have A:(j:Int)*N<=4*N:=by exact_mod_cast Nat.mul_le_mul_right N (show j<=4 by omega)
   have y:((j+1:Nat):Int)*N=(j:Int)*N+N:=by rw[natCast_add,Int.add_mul];omega
   rw[show wrap .i64 ((j:Int)+1)=((j+1:Nat):Int) by rw[i64_in _<|by omega];omega,i64_in (b+_)<|by omega];exact D (j+1) w _ (by omega) ⟨by omega,by omega⟩ (by exact Ab.fin hs)
 refine AP (js.length+1) ?_;exact g js.length 0 w 0 (by omega) ⟨rfl,by omega⟩ (by exact Ab.fin hs)
theorem Ant{o:Sl}{js:List Nat}(hs:Ab W w (rowsC s xb N K::recs Ap.nat o js::M))(E:∀i,i<js.length->js.getD i default<K.length)(V:N<100000000)(F:K.length<=4)(X:js.length<=4) :
  Ai PR R.i_keys #[.agg #[.l s.a s.n s.c,pq xb 0],.l o.a o.n o.c] w λe w'=>∃l:Sl,e = .returned (.l l.a l.n l.c)/\Ab W w' (recs Ap.str l (F0 K js)::rowsC s xb N K::recs Ap.nat o js::M):=by
 refine(cw (hs:=R.keys_so) R.keys_ok R.keys_raw (Q:=λv w'=>∃l:Sl,v = .l l.a l.n l.c/\Ab W w' (recs Ap.str l (F0 K js)::rowsC s xb N K::recs Ap.nat o js::M)) ?_).mono λe w' ⟨v,r,l,G,hs⟩=>⟨l,by rw[r,G],hs⟩;refine Ak hs λb1 w hs=>?_;have t:=Adi (w:=w) (W:=W) (M:=recs Ap.nat o js::M) (s:=s) (xb:=xb) (N:=N) (K:=K) (by exact Ab.fin hs);have C:=BS (s:=o) (rows:=js) hs;have hs:=Ab.nilR Ap.str hs;have g:∀(f j:Nat)(w:World)(b:Sl),j+f=js.length->BD K (js.take j)<=j*N->Ab W w (recs Ap.str b (F0 K<|js.take j)::blk b1 [.l s.a s.n s.c,pq xb 0]::rowsC s xb N K::recs Ap.nat o js::M) ->
   R.keys_l1 AU (λv w'=>∃l:Sl,v = .l l.a l.n l.c/\Ab W w' (recs Ap.str l (F0 K js)::rowsC s xb N K::recs Ap.nat o js::M)) (f+1) b1 0 b o (o.n:Int) (j:Int) w:=by
  clear hs;intro f
  induction f with
  | zero=>
   intro j w b u h hs;rw[R.keys_l1_raw];refine Ad (decide_eq_false<|by omega) ?_;refine jw R.keys_j2_raw ?_;rw[take_of_length_le<|by omega] at hs;exact⟨b,rfl,by exact Ab.fin hs⟩
  | succ f H=>
   intro j w b u h hs;rw[R.keys_l1_raw];refine Am (decide_eq_true<|by omega) ?_;refine CO (rows:=js) hs λI J y=>?_;refine Dh (rows:=js) y hs ?_;refine Af (x:=s) hs ?_;rw[toNat_natCast];have L:=E j (by omega);have hs:Ab W w (rowsC s xb N K::recs Ap.str b (F0 K<|js.take j)::blk b1 [.l s.a s.n s.c,pq xb 0]::recs Ap.nat o js::M):=by exact Ab.fin hs
   obtain⟨xs,m,hi,d,Y,hs⟩:=Gu hs;have O:xs.length=K.length:=(hi.mlenR d F).2;obtain⟨x,k⟩:=QR (xs:=xs) (j:=js.getD j default) (by omega);have P:=d x (mem_of_getElem? k);refine BO hs λI J hs=>?_;refine Cx hs ?_;rw[toNat_natCast,J3 k];have hs:=HS (M:=recs Ap.ptr s (xs.map (·.1))::ixr Ap.ii xb 0 m::recs Ap.str b (F0 K<|js.take j)::blk b1 [.l s.a s.n s.c,pq xb 0]::recs Ap.nat o js::M) k (by exact Ab.fin hs);refine Ao (Lt hs<|by omega) λe w ⟨ks,r,hs⟩=>⟨_,r,?_⟩;have hs:=MS (M:=recs Ap.str ks (x.2.1.map (·.2))::recs Ap.ptr s (xs.map (·.1))::ixr Ap.ii xb 0 m::recs Ap.str b (F0 K<|js.take j)::blk b1 [.l s.a s.n s.c,pq xb 0]::recs Ap.nat o js::M) k (by exact Ab.fin hs)
   have p:K.getD (js.getD j default) []=x.2.1.map (·.2):=by
    rw[getD_eq_getElem?_getD,hi.row (j:=js.getD j default) (row:=x.2.1)<|by rw[getElem?_map,k];rfl];rfl
   have z:=Wf (K:=K) (js:=js) (j:=j) (by omega);have q:=Ag1 (K:=K) (js:=js) (j:=j) (by omega);have S:=Anm K (js.take j);have T:=t (js.getD j default);rw[p,length_map] at z T;rw[p] at q;have D:j*N<=4*N:=Nat.mul_le_mul_right N (show j<=4 by omega);have A:(j+1)*N=j*N+N:=Nat.succ_mul j N;have B:=BS (s:=ks) hs;have hs:Ab W w (rowsC s xb N K::recs Ap.str b (F0 K<|js.take j)::recs Ap.str ks (x.2.1.map (·.2))::blk b1 [.l s.a s.n s.c,pq xb 0]::recs Ap.nat o js::M):=FR hi d (by exact Ab.fin hs);refine GA (s:=b) (new:=x.2.1.map (λe:Nat×BA=>e.2)) hs (GT (s:=ks) hs) B (Dt _) rfl (by decide) (by rw[length_map];omega) λs2 w U hs=>?_
   rw[<- q] at hs;rw[show wrap .i64 ((j:Int)+1)=((j+1:Nat):Int) by rw[i64_in _<|by omega];omega]
   exact H (j+1) w s2 (by omega) (by omega) (by exact Ab.fin hs)
 refine AP (js.length+1) ?_;exact g js.length 0 w ⟨none,0,0⟩ (by omega) (by simp[BD]) (by exact Ab.fin hs)
theorem AX{o n:Nat}{cs:List Value}(js:List Nat){Q:Int->WP}(hs:Ab W w (blk o cs::rowsC s xb N K::M))(d:N<100000000){nr:Nat}(e:K.length=nr)(f:∀w,Ab W w (rowsC s xb N K::M)->Q (BD K js:Int) w)
  (hc:Ap.nat.flat js=cs:=by exact rfl) (g:js.length=n:=by exact rfl) (h:∀i,i<js.length->js.getD i default<nr:=by decide) (j:js.length<=4:=by decide) (m:nr<=4:=by decide) :
  call1 (.int .i64) PR R.i_many [.agg #[.l s.a s.n s.c,pq xb 0],.l (some ⟨o,0,none⟩) n n] Q w:=by
 have hs:=Ab.blkS (b:=o) (cs:=cs) Ap.nat js hs hc g;have hs:Ab W w (rowsC s xb N K::recs Ap.nat ⟨some ⟨o,0,none⟩,n,n⟩ js::M):=by exact Ab.fin hs
 exact Ao (Anu R (o:=⟨some ⟨o,0,none⟩,n,n⟩) (js:=js) hs (by rw[e];exact h) d (by omega) j) λe w ⟨k,hs⟩=>⟨_,k,f w<|by exact Ab.fin hs⟩
theorem QN{o n:Nat}{cs:List Value}(js:List Nat){Q:Sl->WP}(hs:Ab W w (blk o cs::rowsC s xb N K::M))(d:N<100000000){nr:Nat}(e:K.length=nr)(f:∀l w,Ab W w (recs Ap.str l (F0 K js)::rowsC s xb N K::M)->Q l w)
  (hc:Ap.nat.flat js=cs:=by exact rfl) (g:js.length=n:=by exact rfl) (h:∀i,i<js.length->js.getD i default<nr:=by decide) (j:js.length<=4:=by decide) (m:nr<=4:=by decide) :
  call1 .slc PR R.i_keys [.agg #[.l s.a s.n s.c,pq xb 0],.l (some ⟨o,0,none⟩) n n] Q w:=by
 have hs:=Ab.blkS (b:=o) (cs:=cs) Ap.nat js hs hc g;have hs:Ab W w (rowsC s xb N K::recs Ap.nat ⟨some ⟨o,0,none⟩,n,n⟩ js::M):=by exact Ab.fin hs
 exact Ao (Ant R (o:=⟨some ⟨o,0,none⟩,n,n⟩) (js:=js) hs (by rw[e];exact h) d (by omega) j) λe w ⟨l,k,hs⟩=>⟨l,k,f l w<|by exact Ab.fin hs⟩
theorem M9{nr:Nat}(r:nr<=4)(hs:Ab W w L):Ai PR R.i_newRows #[.i (nr:Int)] w λe w'=>∃(s:Sl) (xb:Nat),e = .returned (.agg #[.l s.a s.n s.c,pq xb 0])/\Ab W w' (rowsC s xb 0 (replicate nr [])::L):=by
 refine(cw (hs:=R.newRows_so) R.newRows_ok R.newRows_raw (Q:=λv w'=>∃(s:Sl) (xb:Nat),v = .agg #[.l s.a s.n s.c,pq xb 0]/\Ab W w' (rowsC s xb 0 (replicate nr [])::L)) ?_).mono λe w' ⟨v,h,s,xb,t,hs⟩=>⟨s,xb,by rw[h,t],hs⟩;refine Ak hs λb1 w hs=>?_;refine Ao (Anf R hs) λe w ⟨xb,h,hs⟩=>⟨_,h,?_⟩;refine Ak hs λo w hs=>?_;refine A4 hs λw hs=>?_;refine A4 hs λw hs=>?_;have hs:=Ab.nilR Ap.ptr hs;have hs:=Ab.shutL (Ps:=[]) hs;have k:∀(f j:Nat)(w:World)(d:Sl)(g:List Nat),j+f=nr->g.length=j->Ab W w (AN (g.map λb=>lst .s b [] [])::recs Ap.ptr d g::blk o [.l d.a d.n d.c,pq xb 0]::ixr Ap.ii xb 0 []::blk b1 [.l none 0 0,.p none]::L) ->
   R.newRows_l1 AU (λv w'=>∃(s:Sl) (xb:Nat),v = .agg #[.l s.a s.n s.c,pq xb 0]/\Ab W w' (rowsC s xb 0 (replicate nr [])::L)) (f+1) b1 0 o 0 (nr:Int) (j:Int) w:=by
  clear hs;intro f
  induction f with
  | zero=>
   intro j w d g q u hs;rw[R.newRows_l1_raw];refine Ad (decide_eq_false<|by omega) ?_;refine jw R.newRows_j2_raw ?_;refine Af (x:=d) hs ?_;refine Af hs ?_;refine A4 hs λw hs=>?_;refine A4 hs λw hs=>?_;refine Af (x:=d) hs ?_;refine Af hs ?_;refine⟨d,xb,rfl,?_⟩;have z:(g.map λb=>((b,[],[]):HR)).map (·.1)=g:=by rw[map_map];exact map_id _
   have A:(g.map λb=>((b,[],[]):HR)).map Fc=g.map λb=>lst .s b [] []:=by rw[map_map];rfl
   have B:(g.map λb=>((b,[],[]):HR)).map (·.2.1)=replicate nr []:=by
    rw[map_map,show nr=g.length by omega];exact List.map_const' ..
   refine FR (xs:=g.map λb=>(b,[],[])) (m:=[]) ?_ ?_ ?_
   ·rw[B];exact Awq nr
   ·intro y C;obtain⟨b,_,rfl⟩:=mem_map.1 C;exact le_refl _
   ·rw[z,A];exact Ab.fin hs
  | succ f D=>
   intro j w d g q u hs;rw[R.newRows_l1_raw];refine Am (decide_eq_true<|by omega) ?_;refine An [blk o [.l d.a d.n d.c,pq xb 0]] hs λw hs=>?_;refine Au (x:=d) ?_;refine Ao (Ja hs) λe w ⟨lb,h,hs⟩=>⟨_,h,?_⟩;refine Ag hs ?_;refine Ak hs λnb w hs=>?_;refine Ag hs ?_;refine D3 (s:=d) (a:=lb) hs rfl rfl rfl rfl (by decide) (by omega) λs2 w E hs=>?_;refine A4 hs λw hs=>?_;rw[show wrap .i64 ((j:Int)+1)=((j+1:Nat):Int) by rw[i64_in _<|by omega];omega]
   refine D (j+1) w s2 (g++[lb]) (by omega) (by simp;omega) ?_;have hs:Ab W w (AN (g.map λb=>lst .s b [] [])::lst .s lb [] []::recs Ap.ptr s2 (g++[lb])::blk o [.l s2.a s2.n s2.c,pq xb 0]::ixr Ap.ii xb 0 []::blk b1 [.l none 0 0,.p none]::L):=by exact Ab.fin hs
   rw[map_append];refine Ab.shutL ?_;have F:=hs.openL;rw[append_assoc];exact F
 refine AP (nr+1) ?_;exact k nr 0 w ⟨none,0,0⟩ [] (by omega) rfl (by exact Ab.fin hs)
end
end Go.Proofs.YtjipofkjmmpjdaaGreat
namespace Go.Hb
theorem EB:∀{a b:List BA},a.Nodup->(∀k∈a,k∈b)->a.length<=b.length
 | [],_,_,_=>by simp
 | k::a,b,c,hs=>by
  rw[nodup_cons] at c;have e:∀j∈a,j∈Aq b k:=λj d=>AO.2 ⟨hs j<|.tail _ d,λh=>c.1<|by rw[<- h];exact d⟩
  have f:=EB c.2 e;have g:(Aq b k).length<b.length:=List.length_filter_lt_length_iff_exists.2 ⟨k,hs k<|.head _,by simp⟩;simp only[length_cons];omega
section
variable{i o a:BL}{key:BA}{W w:World}{M:List HP}{s:Sl}{xb N:Nat}
theorem lt3{j:Nat}(h:j<3):j<[i,o,a].length:=h
theorem Bca:[i,o,a].flatten=i++(o++a):=by simp
theorem T0(i o a:BL)(key:BA):(E3 [i,o,a] key=0/\key∈i)\/(E3 [i,o,a] key=1/\key∉i/\key∈o)\/(E3 [i,o,a] key=2/\key∉i/\key∉o/\key∈a)\/(E3 [i,o,a] key = -1/\key∉i/\key∉o/\key∉a):=by
 unfold E3
 by_cases b:key∈i
 ·left;simp[findIdx?_cons,Gr,b]
 by_cases c:key∈o
 ·right;left;simp[findIdx?_cons,Gr,b,c]
 by_cases d:key∈a
 ·right;right;left;simp[findIdx?_cons,Gr,b,c,d]
 ·right;right;right;simp[findIdx?_cons,Gr,b,c,d]
theorem Y1{K:List BL}(h:Ab W w (rowsC s xb N K::M)):K.flatten.Nodup/\∀k∈K.flatten,k.size<64:=by
 obtain⟨xs,m,hi,_⟩:=Gu h;exact⟨hi.nd,hi.small⟩
structure Nd3(i o a:BL):Prop where
 ni:i.Nodup
 no:o.Nodup
 na:a.Nodup
 io:∀x∈i,x∉o/\x∉a
 oa:∀x∈o,x∉a
 small:∀x,x∈i\/x∈o\/x∈a->x.size<64
theorem nd3(h:Ab W w (rowsC s xb N [i,o,a]::M)):Nd3 i o a:=by
 obtain⟨c,d⟩:=Y1 h;rw[Bca] at c d;rw[nodup_append,nodup_append] at c;obtain⟨f,⟨g,j,k⟩,e⟩:=c;exact⟨f,g,j,λx b=>⟨λh=>e x b x (mem_append_left _ h) rfl,λh=>e x b x (mem_append_right _ h) rfl⟩,λx b h=>k x b x h rfl,λx b=>d x (by
  rcases b with h|h|h
  ·exact mem_append_left _ h
  ·exact mem_append_right _ (mem_append_left _ h)
  ·exact mem_append_right _ (mem_append_right _ h))⟩
theorem CN{l:BL}(h:0<l.length):Ck l∈l:=by
 cases l with
 | nil=>simp at h
 | cons x t=>exact .head _
theorem M5{r:Int}:(if (if (1024:Int)<r then (1024:Int) else r)>(1:Int) then (if (1024:Int)<r then (1024:Int) else r) else (1:Int))=Ba r:=by unfold Ba;split <;> split <;> omega
theorem MP.not{c:Int}{R g S:BL}{k:BA}(h:MP c R g S)(a:k∉R):k∉S:=by
 rcases h with⟨_,rfl,_⟩|⟨x,_,b,_⟩
 ·exact a
 ·exact λh=>a ((b.mem' k).1 h).1
end
end Go.Hb
namespace Go.Proofs.YtjipofkjmmpjdaaGreat
open Go.Hb
theorem Ac4(R:RwF){W w:World}{L:List HP}{F:HP->List HP}{s:Sl}{xb j:Nat}{i o a:BL}{key:BA}(h:Ab W w L)[hA:At L xb (rowsC s xb 5000 [i,o,a]) F](b:j<3)(d:key.size<64)(f:i.length+a.length<=1024/\o.length<=1024) :
  Ai PR R.i_push #[.agg #[.l s.a s.n s.c,pq xb 0],.i (j:Int),.s key] w λe w'=>e = .returned (.tuple #[])/\Ab W w' (F<|rowsC s xb 5000<|D2 [i,o,a] j key):=by
 refine FG R (hA:=hA) h b d (by decide) (show 3<=4 by decide) ?_
 match j,b with
 | 0,_=>show i.length<5000;omega
 | 1,_=>show o.length<5000;omega
 | 2,_=>show a.length<5000;omega
theorem IP(R:RwF){W w:World}{L:List HP}{F:HP->List HP}{s:Sl}{xb j:Nat}{K:List BL}{key:BA}(h:Ab W w L)[hA:At L xb (rowsC s xb 5000 K) F](f:j<3)(b:key.size<64)(d:(K.getD j []).length<5000)(g:K.length=3) :
  Ai PR R.i_push #[.agg #[.l s.a s.n s.c,pq xb 0],.i (j:Int),.s key] w λe w'=>e = .returned (.tuple #[])/\Ab W w' (F<|rowsC s xb 5000<|D2 K j key):=FG R (hA:=hA) h (by omega) b (by decide) (by omega) d
end Go.Proofs.YtjipofkjmmpjdaaGreat
namespace Go.Proofs.YtjipofkjmmpjdaaGreat
open Go.Hb
noncomputable def AZ:RwF where
 i_new:=208
 new_fn:=f208
 new_kp:=Aca
 i_get:=265
 get_fn:=f265
 get_kp:=EF
 i_put:=266
 put_fn:=f266
 put_kp:=Kb
 i_del:=267
 del_fn:=f267
 del_kp:=Aca
 i_find:=268
 find_fn:=f268
 find_kp:=AE
 i_lays:=269
 lays_fn:=f269
 lays_kp:=EG
 i_grows:=270
 grows_fn:=f270
 grows_kp:=DQ
 i_where:=256
 where_fn:=f256
 where_kp:=Aca
 i_push:=257
 push_fn:=f257
 push_kp:=Qo
 i_many:=258
 many_fn:=f258
 many_kp:=Bx
 i_keys:=262
 keys_fn:=f262
 keys_kp:=Bx
 i_drop:=263
 drop_fn:=f263
 drop_kp:=Qp
 i_oldest:=264
 oldest_fn:=f264
 oldest_kp:=Qq
 i_newRows:=184
 newRows_fn:=f184
 newRows_kp:=Dk
 p1:=374
 p2:=342
 p3:=317
 p4:=263
 new_ok:=⟨mixed,func208,rfl⟩
 new_so:=by kernel_rfl
 new_raw:=by intros;kernel_rfl
 get_j1_c:=Als
 get_ok:=⟨mixed,func265,rfl⟩
 get_so:=by kernel_rfl
 get_j1_raw:=by intros;kernel_rfl
 get_raw:=by intros;kernel_rfl
 put_ok:=⟨mixed,func266,rfl⟩
 put_so:=by kernel_rfl
 put_raw:=by intros;kernel_rfl
 del_ok:=⟨mixed,func267,rfl⟩
 del_so:=by kernel_rfl
 del_raw:=by intros;kernel_rfl
 find_j4_c:=Alw
 find_j5_c:=Alx
 find_j3_c:=Alv
 find_j2_c:=Alu
 find_l1:=A04
 find_ok:=⟨mixed,func268,rfl⟩
 find_so:=by kernel_rfl
 find_j4_raw:=by intros;kernel_rfl
 find_j5_raw:=by intros;kernel_rfl
 find_j3_raw:=by intros;kernel_rfl
 find_j2_raw:=by intros;kernel_rfl
 find_l1_raw:=by intros;kernel_rfl
 find_raw:=by intros;kernel_rfl
 lays_j1_c:=Aly
 lays_ok:=⟨mixed,func269,rfl⟩
 lays_so:=by kernel_rfl
 lays_j1_raw:=by intros;kernel_rfl
 lays_raw:=by intros;kernel_rfl
 grows_l1:=A06
 grows_ok:=⟨mixed,func270,rfl⟩
 grows_so:=by kernel_rfl
 grows_l1_raw:=by intros;kernel_rfl
 grows_raw:=by intros;kernel_rfl
 where_ok:=⟨mixed,func256,rfl⟩
 where_so:=by kernel_rfl
 where_raw:=by intros;kernel_rfl
 push_ok:=⟨mixed,func257,rfl⟩
 push_so:=by kernel_rfl
 push_raw:=by intros;kernel_rfl
 many_j2_c:=Alq
 many_l1:=A0z
 many_ok:=⟨mixed,func258,rfl⟩
 many_so:=by kernel_rfl
 many_j2_raw:=by intros;kernel_rfl
 many_l1_raw:=by intros;kernel_rfl
 many_raw:=by intros;kernel_rfl
 keys_j2_c:=Alr
 keys_l1:=A02
 keys_ok:=⟨mixed,func262,rfl⟩
 keys_so:=by kernel_rfl
 keys_j2_raw:=by intros;kernel_rfl
 keys_l1_raw:=by intros;kernel_rfl
 keys_raw:=by intros;kernel_rfl
 drop_ok:=⟨mixed,func263,rfl⟩
 drop_so:=by kernel_rfl
 drop_raw:=by intros;kernel_rfl
 oldest_ok:=⟨mixed,func264,rfl⟩
 oldest_so:=by kernel_rfl
 oldest_raw:=by intros;kernel_rfl
 newRows_j2_c:=Alm
 newRows_l1:=A0e
 newRows_ok:=⟨mixed,func184,rfl⟩
 newRows_so:=by kernel_rfl
 newRows_j2_raw:=by intros;kernel_rfl
 newRows_l1_raw:=by intros;kernel_rfl
 newRows_raw:=by intros;kernel_rfl
noncomputable def Cb:RwF where
 i_new:=209
 new_fn:=f209
 new_kp:=Aca
 i_get:=317
 get_fn:=f317
 get_kp:=EF
 i_put:=318
 put_fn:=f318
 put_kp:=Kb
 i_del:=319
 del_fn:=f319
 del_kp:=Aca
 i_find:=320
 find_fn:=f320
 find_kp:=AE
 i_lays:=321
 lays_fn:=f321
 lays_kp:=EG
 i_grows:=322
 grows_fn:=f322
 grows_kp:=DQ
 i_where:=310
 where_fn:=f310
 where_kp:=Aca
 i_push:=311
 push_fn:=f311
 push_kp:=Qo
 i_many:=314
 many_fn:=f314
 many_kp:=Bx
 i_keys:=316
 keys_fn:=f316
 keys_kp:=Bx
 i_drop:=312
 drop_fn:=f312
 drop_kp:=Qp
 i_oldest:=315
 oldest_fn:=f315
 oldest_kp:=Qq
 i_newRows:=186
 newRows_fn:=f186
 newRows_kp:=Dk
 p1:=396
 p2:=345
 p3:=323
 p4:=275
 new_ok:=⟨mixed,func209,rfl⟩
 new_so:=by kernel_rfl
 new_raw:=by intros;kernel_rfl
 get_j1_c:=Al1
 get_ok:=⟨mixed,func317,rfl⟩
 get_so:=by kernel_rfl
 get_j1_raw:=by intros;kernel_rfl
 get_raw:=by intros;kernel_rfl
 put_ok:=⟨mixed,func318,rfl⟩
 put_so:=by kernel_rfl
 put_raw:=by intros;kernel_rfl
 del_ok:=⟨mixed,func319,rfl⟩
 del_so:=by kernel_rfl
 del_raw:=by intros;kernel_rfl
 find_j4_c:=Al4
 find_j5_c:=Al5
 find_j3_c:=Al3
 find_j2_c:=Al2
 find_l1:=A1x
 find_ok:=⟨mixed,func320,rfl⟩
 find_so:=by kernel_rfl
 find_j4_raw:=by intros;kernel_rfl
 find_j5_raw:=by intros;kernel_rfl
 find_j3_raw:=by intros;kernel_rfl
 find_j2_raw:=by intros;kernel_rfl
 find_l1_raw:=by intros;kernel_rfl
 find_raw:=by intros;kernel_rfl
 lays_j1_c:=Al6
 lays_ok:=⟨mixed,func321,rfl⟩
 lays_so:=by kernel_rfl
 lays_j1_raw:=by intros;kernel_rfl
 lays_raw:=by intros;kernel_rfl
 grows_l1:=A1y
 grows_ok:=⟨mixed,func322,rfl⟩
 grows_so:=by kernel_rfl
 grows_l1_raw:=by intros;kernel_rfl
 grows_raw:=by intros;kernel_rfl
 where_ok:=⟨mixed,func310,rfl⟩
 where_so:=by kernel_rfl
 where_raw:=by intros;kernel_rfl
 push_ok:=⟨mixed,func311,rfl⟩
 push_so:=by kernel_rfl
 push_raw:=by intros;kernel_rfl
 many_j2_c:=Alz
 many_l1:=A1s
 many_ok:=⟨mixed,func314,rfl⟩
 many_so:=by kernel_rfl
 many_j2_raw:=by intros;kernel_rfl
 many_l1_raw:=by intros;kernel_rfl
 many_raw:=by intros;kernel_rfl
 keys_j2_c:=Al0
 keys_l1:=A1u
 keys_ok:=⟨mixed,func316,rfl⟩
 keys_so:=by kernel_rfl
 keys_j2_raw:=by intros;kernel_rfl
 keys_l1_raw:=by intros;kernel_rfl
 keys_raw:=by intros;kernel_rfl
 drop_ok:=⟨mixed,func312,rfl⟩
 drop_so:=by kernel_rfl
 drop_raw:=by intros;kernel_rfl
 oldest_ok:=⟨mixed,func315,rfl⟩
 oldest_so:=by kernel_rfl
 oldest_raw:=by intros;kernel_rfl
 newRows_j2_c:=Aln
 newRows_l1:=A0g
 newRows_ok:=⟨mixed,func186,rfl⟩
 newRows_so:=by kernel_rfl
 newRows_j2_raw:=by intros;kernel_rfl
 newRows_l1_raw:=by intros;kernel_rfl
 newRows_raw:=by intros;kernel_rfl
noncomputable def AG:RwF where
 i_new:=210
 new_fn:=f210
 new_kp:=Aca
 i_get:=346
 get_fn:=f346
 get_kp:=EF
 i_put:=347
 put_fn:=f347
 put_kp:=Kb
 i_del:=349
 del_fn:=f349
 del_kp:=Aca
 i_find:=357
 find_fn:=f357
 find_kp:=AE
 i_lays:=358
 lays_fn:=f358
 lays_kp:=EG
 i_grows:=359
 grows_fn:=f359
 grows_kp:=DQ
 i_where:=334
 where_fn:=f334
 where_kp:=Aca
 i_push:=335
 push_fn:=f335
 push_kp:=Qo
 i_many:=336
 many_fn:=f336
 many_kp:=Bx
 i_keys:=341
 keys_fn:=f341
 keys_kp:=Bx
 i_drop:=340
 drop_fn:=f340
 drop_kp:=Qp
 i_oldest:=337
 oldest_fn:=f337
 oldest_kp:=Qq
 i_newRows:=187
 newRows_fn:=f187
 newRows_kp:=Dk
 p1:=408
 p2:=348
 p3:=326
 p4:=281
 new_ok:=⟨mixed,func210,rfl⟩
 new_so:=by kernel_rfl
 new_raw:=by intros;kernel_rfl
 get_j1_c:=Al9
 get_ok:=⟨mixed,func346,rfl⟩
 get_so:=by kernel_rfl
 get_j1_raw:=by intros;kernel_rfl
 get_raw:=by intros;kernel_rfl
 put_ok:=⟨mixed,func347,rfl⟩
 put_so:=by kernel_rfl
 put_raw:=by intros;kernel_rfl
 del_ok:=⟨mixed,func349,rfl⟩
 del_so:=by kernel_rfl
 del_raw:=by intros;kernel_rfl
 find_j4_c:=Amc
 find_j5_c:=Amd
 find_j3_c:=Amb
 find_j2_c:=Ama
 find_l1:=A2s
 find_ok:=⟨mixed,func357,rfl⟩
 find_so:=by kernel_rfl
 find_j4_raw:=by intros;kernel_rfl
 find_j5_raw:=by intros;kernel_rfl
 find_j3_raw:=by intros;kernel_rfl
 find_j2_raw:=by intros;kernel_rfl
 find_l1_raw:=by intros;kernel_rfl
 find_raw:=by intros;kernel_rfl
 lays_j1_c:=Ame
 lays_ok:=⟨mixed,func358,rfl⟩
 lays_so:=by kernel_rfl
 lays_j1_raw:=by intros;kernel_rfl
 lays_raw:=by intros;kernel_rfl
 grows_l1:=A2t
 grows_ok:=⟨mixed,func359,rfl⟩
 grows_so:=by kernel_rfl
 grows_l1_raw:=by intros;kernel_rfl
 grows_raw:=by intros;kernel_rfl
 where_ok:=⟨mixed,func334,rfl⟩
 where_so:=by kernel_rfl
 where_raw:=by intros;kernel_rfl
 push_ok:=⟨mixed,func335,rfl⟩
 push_so:=by kernel_rfl
 push_raw:=by intros;kernel_rfl
 many_j2_c:=Al7
 many_l1:=A15
 many_ok:=⟨mixed,func336,rfl⟩
 many_so:=by kernel_rfl
 many_j2_raw:=by intros;kernel_rfl
 many_l1_raw:=by intros;kernel_rfl
 many_raw:=by intros;kernel_rfl
 keys_j2_c:=Al8
 keys_l1:=A2b
 keys_ok:=⟨mixed,func341,rfl⟩
 keys_so:=by kernel_rfl
 keys_j2_raw:=by intros;kernel_rfl
 keys_l1_raw:=by intros;kernel_rfl
 keys_raw:=by intros;kernel_rfl
 drop_ok:=⟨mixed,func340,rfl⟩
 drop_so:=by kernel_rfl
 drop_raw:=by intros;kernel_rfl
 oldest_ok:=⟨mixed,func337,rfl⟩
 oldest_so:=by kernel_rfl
 oldest_raw:=by intros;kernel_rfl
 newRows_j2_c:=Alo
 newRows_l1:=A0i
 newRows_ok:=⟨mixed,func187,rfl⟩
 newRows_so:=by kernel_rfl
 newRows_j2_raw:=by intros;kernel_rfl
 newRows_l1_raw:=by intros;kernel_rfl
 newRows_raw:=by intros;kernel_rfl
noncomputable def BG:RwF where
 i_new:=211
 new_fn:=f211
 new_kp:=Aca
 i_get:=377
 get_fn:=f377
 get_kp:=EF
 i_put:=382
 put_fn:=f382
 put_kp:=Kb
 i_del:=383
 del_fn:=f383
 del_kp:=Aca
 i_find:=381
 find_fn:=f381
 find_kp:=AE
 i_lays:=384
 lays_fn:=f384
 lays_kp:=EG
 i_grows:=385
 grows_fn:=f385
 grows_kp:=DQ
 i_where:=370
 where_fn:=f370
 where_kp:=Aca
 i_push:=378
 push_fn:=f378
 push_kp:=Qo
 i_many:=372
 many_fn:=f372
 many_kp:=Bx
 i_keys:=375
 keys_fn:=f375
 keys_kp:=Bx
 i_drop:=380
 drop_fn:=f380
 drop_kp:=Qp
 i_oldest:=379
 oldest_fn:=f379
 oldest_kp:=Qq
 i_newRows:=190
 newRows_fn:=f190
 newRows_kp:=Dk
 p1:=414
 p2:=351
 p3:=335
 p4:=291
 new_ok:=⟨mixed,func211,rfl⟩
 new_so:=by kernel_rfl
 new_raw:=by intros;kernel_rfl
 get_j1_c:=Amh
 get_ok:=⟨mixed,func377,rfl⟩
 get_so:=by kernel_rfl
 get_j1_raw:=by intros;kernel_rfl
 get_raw:=by intros;kernel_rfl
 put_ok:=⟨mixed,func382,rfl⟩
 put_so:=by kernel_rfl
 put_raw:=by intros;kernel_rfl
 del_ok:=⟨mixed,func383,rfl⟩
 del_so:=by kernel_rfl
 del_raw:=by intros;kernel_rfl
 find_j4_c:=Amk
 find_j5_c:=Aml
 find_j3_c:=Amj
 find_j2_c:=Ami
 find_l1:=A25
 find_ok:=⟨mixed,func381,rfl⟩
 find_so:=by kernel_rfl
 find_j4_raw:=by intros;kernel_rfl
 find_j5_raw:=by intros;kernel_rfl
 find_j3_raw:=by intros;kernel_rfl
 find_j2_raw:=by intros;kernel_rfl
 find_l1_raw:=by intros;kernel_rfl
 find_raw:=by intros;kernel_rfl
 lays_j1_c:=Amm
 lays_ok:=⟨mixed,func384,rfl⟩
 lays_so:=by kernel_rfl
 lays_j1_raw:=by intros;kernel_rfl
 lays_raw:=by intros;kernel_rfl
 grows_l1:=A26
 grows_ok:=⟨mixed,func385,rfl⟩
 grows_so:=by kernel_rfl
 grows_l1_raw:=by intros;kernel_rfl
 grows_raw:=by intros;kernel_rfl
 where_ok:=⟨mixed,func370,rfl⟩
 where_so:=by kernel_rfl
 where_raw:=by intros;kernel_rfl
 push_ok:=⟨mixed,func378,rfl⟩
 push_so:=by kernel_rfl
 push_raw:=by intros;kernel_rfl
 many_j2_c:=Amf
 many_l1:=A2z
 many_ok:=⟨mixed,func372,rfl⟩
 many_so:=by kernel_rfl
 many_j2_raw:=by intros;kernel_rfl
 many_l1_raw:=by intros;kernel_rfl
 many_raw:=by intros;kernel_rfl
 keys_j2_c:=Amg
 keys_l1:=A23
 keys_ok:=⟨mixed,func375,rfl⟩
 keys_so:=by kernel_rfl
 keys_j2_raw:=by intros;kernel_rfl
 keys_l1_raw:=by intros;kernel_rfl
 keys_raw:=by intros;kernel_rfl
 drop_ok:=⟨mixed,func380,rfl⟩
 drop_so:=by kernel_rfl
 drop_raw:=by intros;kernel_rfl
 oldest_ok:=⟨mixed,func379,rfl⟩
 oldest_so:=by kernel_rfl
 oldest_raw:=by intros;kernel_rfl
 newRows_j2_c:=Alp
 newRows_l1:=A0n
 newRows_ok:=⟨mixed,func190,rfl⟩
 newRows_so:=by kernel_rfl
 newRows_j2_raw:=by intros;kernel_rfl
 newRows_l1_raw:=by intros;kernel_rfl
 newRows_raw:=by intros;kernel_rfl
end Go.Proofs.YtjipofkjmmpjdaaGreat
namespace Go.Hb
open Go.Proofs.YtjipofkjmmpjdaaGreat
abbrev cA(b:Nat)(s:Sl)(xb:Nat)(c p:Int):HP:=blk b [.l s.a s.n s.c,pq xb 0,.i c,.i p]
structure AcI(c p:Int)(R t1 t2 b1 b2:BL):Prop where
 eq:R=t1++t2
 ok:DC c R
 p0:0<=p/\p<=c
 l1:(t1.length:Int)+b1.length<=c
 tot:([t1,t2,b1,b2].flatten.length:Int)<=2*c
def LA(b:Nat)(c:Int)(R:BL):HP:=Ly λ(z:(Sl×Nat×Int)×(BL×BL×BL×BL))=>Fs (AcI c z.1.2.2 R z.2.1 z.2.2.1 z.2.2.2.1 z.2.2.2.2)
 (AN [cA b z.1.1 z.1.2.1 c z.1.2.2,rowsC z.1.1 z.1.2.1 5000 [z.2.1,z.2.2.1,z.2.2.2.1,z.2.2.2.2]])
structure Nd4(t1 t2 b1 b2:BL):Prop where
 n1:t1.Nodup
 n2:t2.Nodup
 n3:b1.Nodup
 n4:b2.Nodup
 d1:∀x∈t1,x∉t2/\x∉b1/\x∉b2
 d2:∀x∈t2,x∉b1/\x∉b2
 d3:∀x∈b1,x∉b2
 small:∀x,x∈[t1,t2,b1,b2].flatten->x.size<64
section
variable{W w:World}{M L:List HP}{b:Nat}{c p:Int}{R t1 t2 b1 b2:BL}{s:Sl}{xb N:Nat}{k:BA}
theorem lt4{j:Nat}(h:j<4):j<[t1,t2,b1,b2].length:=h
theorem Au3:[t1,t2,b1,b2].flatten=t1++(t2++(b1++b2)):=by simp
theorem Do:[t1,t2,b1,b2].flatten.length=t1.length+t2.length+b1.length+b2.length:=by simp;omega
theorem La:k∈[t1,t2,b1,b2].flatten↔k∈t1\/k∈t2\/k∈b1\/k∈b2:=by simp
theorem nd4(h:Ab W w (rowsC s xb N [t1,t2,b1,b2]::M)):Nd4 t1 t2 b1 b2:=by
 obtain⟨c,d⟩:=Y1 h;have l:=d;rw[Au3] at c;rw[nodup_append,nodup_append,nodup_append] at c;obtain⟨f,⟨g,⟨i,j,k⟩,e⟩,b⟩:=c;exact⟨f,g,i,j,λx a=>⟨λh=>b x a x (by simp[h]) rfl,λh=>b x a x (by simp[h]) rfl,λh=>b x a x (by simp[h]) rfl⟩,λx a=>⟨λh=>e x a x (by simp[h]) rfl,λh=>e x a x (by simp[h]) rfl⟩,λx a h=>k x a x h rfl,d⟩
theorem Ax7(t1 t2 b1 b2:BL)(key:BA):(E3 [t1,t2,b1,b2] key=0/\key∈t1)\/(E3 [t1,t2,b1,b2] key=1/\key∉t1/\key∈t2)\/(E3 [t1,t2,b1,b2] key=2/\key∉t1/\key∉t2/\key∈b1)\/(E3 [t1,t2,b1,b2] key=3/\key∉t1/\key∉t2/\key∉b1/\key∈b2)\/(E3 [t1,t2,b1,b2] key = -1/\key∉t1/\key∉t2/\key∉b1/\key∉b2):=by
 unfold E3
 by_cases a:key∈t1
 ·left;simp[findIdx?_cons,Gr,a]
 by_cases b:key∈t2
 ·right;left;simp[findIdx?_cons,Gr,a,b]
 by_cases c:key∈b1
 ·right;right;left;simp[findIdx?_cons,Gr,a,b,c]
 by_cases d:key∈b2
 ·right;right;right;left;simp[findIdx?_cons,Gr,a,b,c,d]
 ·right;right;right;right;simp[findIdx?_cons,Gr,a,b,c,d]
theorem E5(h:Ab W w (LA b c R::M)):∃(s:Sl) (xb:Nat) (p:Int) (t1 t2 b1 b2:BL),AcI c p R t1 t2 b1 b2/\Ab W w (cA b s xb c p::rowsC s xb 5000 [t1,t2,b1,b2]::M):=by
 obtain⟨⟨⟨s,xb,p⟩,⟨t1,t2,b1,b2⟩⟩,h⟩:=h.openE;obtain⟨a,h⟩:=h.openA;exact⟨s,xb,p,t1,t2,b1,b2,a,h.openL⟩
theorem Ec(a:AcI c p R t1 t2 b1 b2)(h:Ab W w (cA b s xb c p::rowsC s xb 5000 [t1,t2,b1,b2]::M)):Ab W w (LA b c R::M):=
 Ab.shutE ((s,xb,p),(t1,t2,b1,b2)) (Ab.shutA a<|Ab.shutL (Ps:=[_,_]) h)
theorem WG(h:Ab W w (LA b c R::M)):DC c R:=by
 obtain⟨s,xb,p,t1,t2,b1,b2,a,_⟩:=E5 h;exact a.ok
theorem Ay5(h:Ab W w (LA b c R::M)):w.cell? ⟨b,2,none⟩=some (.i c):=by
 obtain⟨s,xb,p,t1,t2,b1,b2,_,h⟩:=E5 h;exact h.cell (q:=0) rfl
theorem AcI.num(h:AcI c p R t1 t2 b1 b2):(R.length=t1.length+t2.length/\(R.length:Int)<=c)/\(1<=c/\c<=1024)/\(t1.length:Int)+b1.length<=c/\(t1.length:Int)+t2.length+b1.length+b2.length<=2*c:=by
 have b:=h.ok.room;have d:=h.ok.c1;have e:=h.ok.c2;have f:=h.l1;have a:=h.tot
 rw[Do] at a;have g:R.length=t1.length+t2.length:=by rw[h.eq];simp
 omega
theorem Ad0(a b:Nat):tdiv (a:Int) (b:Int)=((a / b:Nat):Int):=by rw[tdiv_eq_ediv_of_nonneg<|by omega];rfl
theorem Bcy{a b N:Nat}{p c:Int}(d:a<=N)(e:N<100000000)(f:0<=p/\p<=1024) :
  (if (wrap .i64<|p+(if (wrap .i64<|tdiv (a:Int) (b:Int))>(1:Int) then (wrap .i64<|tdiv (a:Int) (b:Int)) else (1:Int)))<c then (wrap .i64<|p+(if (wrap .i64<|tdiv (a:Int) (b:Int))>(1:Int) then (wrap .i64<|tdiv (a:Int) (b:Int)) else (1:Int))) else c)=min c (p+max 1 ((a / b:Nat):Int)):=by
 have g:a / b<=a:=Nat.div_le_self a b;rw[Ad0];generalize a / b=q at *;rw[Go.IntWalk.i64_in (q:Int)<|by omega,Go.IntWalk.i64_in _<|by split <;> omega]
 split <;> split <;> omega
theorem Ayw{a b N:Nat}{p:Int}(c:a<=N)(d:N<100000000)(e:0<=p/\p<=1024) :
  (if (wrap .i64<|p-(if (wrap .i64<|tdiv (a:Int) (b:Int))>(1:Int) then (wrap .i64<|tdiv (a:Int) (b:Int)) else (1:Int)))>(0:Int) then (wrap .i64<|p-(if (wrap .i64<|tdiv (a:Int) (b:Int))>(1:Int) then (wrap .i64<|tdiv (a:Int) (b:Int)) else (1:Int))) else (0:Int))=max 0 (p-max 1 ((a / b:Nat):Int)):=by
 have f:a / b<=a:=Nat.div_le_self a b;rw[Ad0];generalize a / b=q at *;rw[Go.IntWalk.i64_in (q:Int)<|by omega,Go.IntWalk.i64_in _<|by split <;> omega]
 split <;> split <;> omega
theorem GG{l:BL}(h:k∉l):Aq l k=l:=Ax h
theorem Ac2{a d:BL}(h:∀x,@List.count _ instBEqOfDecidableEq x a = @List.count _ instBEqOfDecidableEq x d):a.Perm d:=(@List.perm_iff_count _ instBEqOfDecidableEq _ a d).2 h
theorem sl1{w:World}(nb:Nat)(hs:Ab W w (blk nb [.s k]::L)):Ab W w (recs Ap.str ⟨some ⟨nb,0,none⟩,1,1⟩ [k]::L):=Ab.blkS (b:=nb) (cs:=[.s k]) (n:=1) Ap.str [k] hs rfl rfl
end
end Go.Hb
namespace Go.Proofs.YtjipofkjmmpjdaaGreat
open Go.Hb Go.IntWalk
section
variable{W w:World}{L M:List HP}{b xb:Nat}{c p:Int}{R t1 t2 b1 b2:BL}{key:BA}{s:Sl}
theorem A7s(hs:Ab W w L){r:Int}:Bh PR 151 #[.i r] w λv w'=>∃b,v=pq b 0/\Ab W w' (LA b (Ba r) []::L):=by
 refine cw ⟨mixed,func151,rfl⟩ Aq8 ?_;refine(M9 AZ (nr:=4) (by decide) hs).mono λe w ⟨s,xb,c,hs⟩=>⟨s,_,c,?_⟩;refine Ak hs λb w hs=>⟨b,rfl,?_⟩;rw[M5] at hs;have hs:Ab W w (rowsC s xb 0 [[],[],[],[]]::blk b _::L):=hs.perm (List.Perm.swap _ _ _);have hs:=(Ks (N':=5000) hs<|by omega).perm (List.Perm.swap _ _ _);have a:=ED r;exact Ec (t1:=[]) (t2:=[]) (b1:=[]) (b2:=[]) ⟨rfl,DC.nil a.1 a.2,by omega,by simp only[length_nil];omega,by rw[Do];simp only[length_nil];omega⟩ hs
theorem Ayj(hs:Ab W w (LA b c R::M)):Bh PR 254 #[pq b 0] w λv w'=>v = .i c/\Ab W w' (LA b c R::M):=by
 refine cw ⟨mixed,func254,rfl⟩ Ase ?_;obtain⟨s,xb,p,t1,t2,b1,b2,a,hs⟩:=E5 hs;refine Ad rfl (Aa<|Af hs ?_);exact⟨rfl,Ec a hs⟩
theorem Aej(hs:Ab W w (LA b c R::M)):Bh PR 251 #[pq b 0] w λv w'=>v = .i (R.length:Int)/\Ab W w' (LA b c R::M):=by
 refine cw ⟨mixed,func251,rfl⟩ Asa ?_;obtain⟨s,xb,p,t1,t2,b1,b2,a,hs⟩:=E5 hs;refine Ad rfl (Aa<|Af (x:=s) hs<|Af hs ?_);refine Ak hs λnb w hs=>?_;refine AX AZ (nr:=4) (K:=[t1,t2,b1,b2]) [0,1] (M:=cA b s xb c p::M) (by exact Ab.fin hs) (by omega) rfl λw hs=>?_;refine⟨?_,Ec a<|by exact Ab.fin hs⟩;rw[a.eq];simp[BD]
theorem Aei(i:key.size<64)(hs:Ab W w (LA b c R::M)):Bh PR 249 #[pq b 0,.s key] w λv w'=>v = .b (decide<|key∈R)/\Ab W w' (LA b c R::M):=by
 refine cw ⟨mixed,func249,rfl⟩ Ar8 ?_;obtain⟨s,xb,p,t1,t2,b1,b2,f,hs⟩:=E5 hs;refine Ad rfl (Aa<|Af (x:=s) hs<|Af hs ?_);refine Ao (Ei AZ (K:=[t1,t2,b1,b2]) hs i) λe w ⟨j,hs⟩=>⟨_,j,?_⟩;have e:∀t:Bool,(t=true↔key∈t1\/key∈t2)->Value.bool t = .b (decide<|key∈R):=λt k=>by
  congr 1;rw[Bool.eq_iff_iff,k,f.eq,decide_eq_true_eq,mem_append]
 rcases Ax7 t1 t2 b1 b2 key with⟨h,a⟩|⟨h,a,d⟩|⟨h,a,d,g⟩|⟨h,a,d,g⟩|⟨h,a,d,g⟩ <;> rw[h]
 ·exact Am rfl ⟨e _<|by simp[a],Ec f hs⟩
 all_goals exact Ad rfl ⟨e _<|by simp[a,d],Ec f hs⟩
theorem Ayh(hs:Ab W w (LA b c R::M)):Bh PR 250 #[pq b 0] w λv w'=>∃(l:Sl) (ks:BL),v = .l l.a l.n l.c/\ks.Perm R/\Ab W w' (LA b c R::recs Ap.str l ks::M):=by
 refine cw ⟨mixed,func250,rfl⟩ Ar9 ?_;obtain⟨s,xb,p,t1,t2,b1,b2,d,hs⟩:=E5 hs;refine Ad rfl (Aa<|Af (x:=s) hs<|Af hs ?_);refine Ak hs λnb w hs=>?_;refine QN AZ (nr:=4) (K:=[t1,t2,b1,b2]) [0,1] (M:=cA b s xb c p::M) (by exact Ab.fin hs) (by omega) rfl λl w hs=>?_;refine⟨l,_,rfl,?_,Ec d<|by exact Ab.fin hs⟩;rw[d.eq];simp[F0]
def N1(W:World)(M:List HP)(b xb:Nat)(s:Sl)(c p:Int)(E:BL->BL->BL->BL->BL->Prop):VW:=λv w'=>∃(l:Sl) (g t1 t2 b1 b2:BL),v = .l l.a l.n l.c/\E g t1 t2 b1 b2/\Ab W w' (cA b s xb c p::rowsC s xb 5000 [t1,t2,b1,b2]::recs Ap.str l g::M)
theorem YR(hs:Ab W w (cA b s xb c p::rowsC s xb 5000 [t1,t2,b1,b2]::M)){first:Bool}(hf:first=true->0<t1.length)(hg:first=false->0<t2.length)(hl:b1.length<5000/\b2.length<5000) :
  Bh PR 261 #[pq b 0,.b first] w (N1 W M b xb s c p λg u1 u2 d1 d2=>(∃x,g=[x]/\(t1++t2).Perm (x::(u1++u2)))/\[u1,u2,d1,d2].flatten.Perm [t1,t2,b1,b2].flatten/\u1.length+d1.length=t1.length+b1.length):=by
 refine cw ⟨mixed,func261,rfl⟩ Ash ?_;have hnd:=nd4 (t1:=t1) (t2:=t2) (b1:=b1) (b2:=b2) (M:=cA b s xb c p::M) (by exact Ab.fin hs);have j:∀(fr to:Nat)(u1 u2 d1 d2:BL),fr<4->to<4->([t1,t2,b1,b2].getD to []).length<5000->(Ck ([t1,t2,b1,b2].getD fr []))∈[t1,t2,b1,b2].flatten->D2 [t1,t2,b1,b2] to (Ck ([t1,t2,b1,b2].getD fr []))=[u1,u2,d1,d2] ->
   (t1++t2).Perm (Ck ([t1,t2,b1,b2].getD fr [])::(u1++u2))->[u1,u2,d1,d2].flatten.Perm [t1,t2,b1,b2].flatten->u1.length+d1.length=t1.length+b1.length ->
   Xh AU (N1 W M b xb s c p λg u1 u2 d1 d2=>(∃x,g=[x]/\(t1++t2).Perm (x::(u1++u2)))/\[u1,u2,d1,d2].flatten.Perm [t1,t2,b1,b2].flatten/\u1.length+d1.length=t1.length+b1.length) (some ⟨b,0,none⟩) (fr:Int) (to:Int) w:=by
  intro fr to u1 u2 d1 d2 h1 h2 h3 h4 h5 h6 h7 h8;refine jw ZS ?_;refine Aa (Af (x:=s) hs (Af hs ?_));refine Ao (BB AZ (K:=[t1,t2,b1,b2]) (j:=fr) hs h1 (le_refl 4)) λe w ⟨he,hs⟩=>⟨_,he,?_⟩;refine Aa (Af (x:=s) hs (Af hs ?_));refine Av (FG AZ (K:=[t1,t2,b1,b2]) (j:=to) hs h2 (hnd.small _ h4) (by omega) (le_refl 4) h3) λe w ⟨he,hs⟩=>⟨he,?_⟩;rw[h5] at hs;refine Ak hs λnb w hs=>?_;have hs:=sl1 nb hs;exact⟨⟨some ⟨nb,0,none⟩,1,1⟩,_,u1,u2,d1,d2,rfl,⟨⟨_,rfl,h6⟩,h7,h8⟩,by exact Ab.fin hs⟩
 cases first with
 | true=>
  refine Am rfl ?_;have h0:=hf rfl;have hm:=CN h0;have e0:[t1,t2,b1,b2].getD 0 []=t1:=rfl;have e1:D2 [t1,t2,b1,b2] 2 (Ck t1)=[t1.drop 1,t2,b1++[Ck t1],b2]:=by
   show[Aq t1 _,Aq t2 _,Aq b1 _++[_],Aq b2 _]=_;rw[BT hnd.n1 h0,GG (hnd.d1 _ hm).1,GG (hnd.d1 _ hm).2.1,GG (hnd.d1 _ hm).2.2]
  have h:=j 0 2 (t1.drop 1) t2 (b1++[Ck t1]) b2 (by decide) (by decide) hl.1;rw[e0] at h;clear j;refine h (La.2 (.inl hm)) e1 ?_ ?_ ?_ <;> (cases t1 with
   | nil=>simp at h0
   | cons x l=>first|exact List.Perm.refl _|exact Ac2 (λy=>by simp[Ck,List.count_append,List.count_cons];omega)|(simp[Ck];omega))
 | false=>
  refine Ad rfl ?_;have h0:=hg rfl;have hm:=CN h0;have e0:[t1,t2,b1,b2].getD 1 []=t2:=rfl;have e1:D2 [t1,t2,b1,b2] 3 (Ck t2)=[t1,t2.drop 1,b1,b2++[Ck t2]]:=by
   show[Aq t1 _,Aq t2 _,Aq b1 _,Aq b2 _++[_]]=_;rw[BT hnd.n2 h0,GG (λh=>(hnd.d1 _ h).1 hm),GG (hnd.d2 _ hm).1,GG (hnd.d2 _ hm).2]
  have h:=j 1 3 t1 (t2.drop 1) b1 (b2++[Ck t2]) (by decide) (by decide) hl.2;rw[e0] at h;clear j;refine h (La.2 (.inr (.inl hm))) e1 ?_ ?_ rfl <;> (cases t2 with
   | nil=>simp at h0
   | cons x l=>exact Ac2 (λy=>by simp[Ck,List.count_append,List.count_cons];omega))
theorem N5(hs:Ab W w (cA b s xb c p::rowsC s xb 5000 [t1,t2,b1,b2]::M))(hR:DC c (t1++t2))(D:b1.length<5000/\b2.length<5000){f:Bool} :
  Bh PR 259 #[pq b 0,.b f] w (N1 W M b xb s c p λg e k m t=>MP c (t1++t2) g (e++k)/\[e,k,m,t].flatten.Perm [t1,t2,b1,b2].flatten/\e.length+m.length=t1.length+b1.length):=by
 refine cw ⟨mixed,func259,rfl⟩ Asf ?_;have hc:=hR.c1;have u:(t1++t2).length=t1.length+t2.length:=by simp
 have E:(BD [t1,t2,b1,b2] [0]:Int)=t1.length:=by simp[BD]
 have F:(BD [t1,t2,b1,b2] [1]:Int)=t2.length:=by simp[BD]
 have G:(BD [t1,t2,b1,b2] [0,1]:Int)=t1.length+t2.length:=by simp[BD]
 refine An [cA b s xb c p] hs λw hs=>?_;refine Aa (Au (x:=s)<|Au<|Aa<|Au ?_);refine Ak hs λnb w hs=>Ag hs ?_;refine AX AZ (nr:=4) (K:=[t1,t2,b1,b2]) [0,1] (M:=cA b s xb c p::M) (by exact Ab.fin hs) (by omega) rfl λw hs=>?_;refine Ag hs ?_;have hs:Ab W w (cA b s xb c p::rowsC s xb 5000 [t1,t2,b1,b2]::M):=by exact Ab.fin hs
 rw[G]
 with_reducible refine A3 (λH=>?_) (λH=>?_)
 ·exact⟨⟨none,0,0⟩,[],t1,t2,b1,b2,rfl,⟨.inl ⟨rfl,rfl,by rw[u];omega⟩,List.Perm.refl _,rfl⟩,(Ab.nilR Ap.str hs).perm (perm_middle (l₁:=[_,_])).symm⟩
 have d:∀(w:World)(first:Bool),(first=true->0<t1.length)->(first=false->0<t2.length)->Ab W w (cA b s xb c p::rowsC s xb 5000 [t1,t2,b1,b2]::M) ->
   (call1 .slc PR 261 [pq b 0,.b first] λx=>(N1 W M b xb s c p λg e k m t=>MP c (t1++t2) g (e++k)/\[e,k,m,t].flatten.Perm [t1,t2,b1,b2].flatten/\e.length+m.length=t1.length+b1.length)<|.l x.a x.n x.c) w:=by
  clear hs;intro w first I A hs
  refine Ah (YR hs I A D) λv w ⟨l,g,e,k,m,t,J,⟨⟨x,A,L⟩,B,C⟩,hs⟩=>⟨l,J,?_⟩;exact⟨l,g,e,k,m,t,rfl,⟨.inr ⟨x,A,Hc.of_perm hR L,by rw[u];omega⟩,B,C⟩,hs⟩
 refine Aa (Af (x:=s) hs<|Af hs ?_);refine Ak hs λnb w hs=>?_;refine AX AZ (nr:=4) (K:=[t1,t2,b1,b2]) [0] (M:=cA b s xb c p::M) (by exact Ab.fin hs) (by omega) rfl λw hs=>?_;have hs:Ab W w (cA b s xb c p::rowsC s xb 5000 [t1,t2,b1,b2]::M):=by exact Ab.fin hs
 rw[E];have o:∀(w:World),0<t1.length->Ab W w (cA b s xb c p::rowsC s xb 5000 [t1,t2,b1,b2]::M)->(Ac (some ⟨b,0,none⟩) λq r=>
   ld .slc q r λ(j:Sl)=>
   ld .ptr q (r+1) λ(v:OA)=>
   Az [.i (1:Int)] 3 λy=>
   call1 (.int .i64) PR 258 [.agg #[.l j.a j.n j.c,.p v],.l (some ⟨y,0,none⟩) 1 1] λ(z:Int)=>
   call1 .slc PR 261 [pq b 0,.b<|z==(0:Int)] λx=>(N1 W M b xb s c p λg e k m t=>MP c (t1++t2) g (e++k)/\[e,k,m,t].flatten.Perm [t1,t2,b1,b2].flatten/\e.length+m.length=t1.length+b1.length)<|.l x.a x.n x.c) w:=by
  clear hs;intro w N hs;refine Aa (Af (x:=s) hs<|Af hs ?_);refine Ak hs λnb w hs=>?_;refine AX AZ (nr:=4) (K:=[t1,t2,b1,b2]) [1] (M:=cA b s xb c p::M) (by exact Ab.fin hs) (by omega) rfl λw hs=>?_;rw[F];exact d w _ (λ_=>N) (λh=>by have:¬(t2.length:Int)=0:=(by simpa using h);omega) (by exact Ab.fin hs)
 with_reducible refine A3 (λO=>?_) (λO=>?_)
 ·refine Aa (Af hs ?_)
  with_reducible refine A3 (λB=>?_) (λB=>?_)
  ·exact d w true (λ_=>by omega) (λh=>by cases h) hs
  ·refine Aa (Af hs ?_)
   with_reducible refine A3 (λC=>?_) (λC=>?_)
   ·cases f with
    | true=>exact Am rfl (d w true (λ_=>by omega) (λh=>by cases h) hs)
    | false=>exact Ad rfl (o w (by omega) hs)
   ·exact o w (by omega) hs
 ·exact d w false (λh=>by cases h) (λ_=>by omega) hs
theorem Ao2(hs:Ab W w (LA b c R::M)):Bh PR 247 #[pq b 0] w λv w'=>∃x d S,v = .tuple #[.s x,.b d]/\Hc c R x d S/\Ab W w' (LA b c S::M):=by
 refine cw ⟨mixed,func247,rfl⟩ Ar7 ?_;refine Ah (Aej hs) λv w ⟨o,hs⟩=>⟨_,o,?_⟩;have y:=WG hs
 with_reducible refine A3 (λB=>?_) (λB=>?_)
 ·exact⟨_,_,_,rfl,Hc.none y<|by omega,hs⟩
 obtain⟨s,xb,p,t1,t2,b1,b2,m,hs⟩:=E5 hs;have L:=m.num;have C:(BD [t1,t2,b1,b2] [0]:Int)=t1.length:=by simp[BD]
 have D:(BD [t1,t2,b1,b2] [1]:Int)=t2.length:=by simp[BD]
 have e:∀(w:World)(first:Bool),(first=true->0<t1.length)->(first=false->0<t2.length)->Ab W w (cA b s xb c p::rowsC s xb 5000 [t1,t2,b1,b2]::M) ->
   (call1 .slc PR 261 [pq b 0,.b first] λx=>
    CU x.a x.n (0:Int) λf i=>
    ld .str f (i+((0:Int)).toNat*1) λ(j:BA)=>λw'=>∃x d S,(Value.tuple #[.s j,.b true]) = .tuple #[.s x,.b d]/\Hc c R x d S/\Ab W w' (LA b c S::M)) w:=by
  clear hs;intro w first F q hs
  refine Ah (YR hs F q<|by omega) λv w ⟨l,g,z,A,G,H,o,⟨⟨x,q,I⟩,r,N⟩,hs⟩=>⟨l,o,?_⟩;subst q;have k:Hc c R x true (z++A):=Hc.of_perm y (by rw[m.eq];exact I)
  have t:=BS (s:=l) (E:=Ap.str) (rows:=[x]) hs;simp only[length_cons,length_nil] at t;refine CO (s:=l) (E:=Ap.str) (rows:=[x]) hs λO P u=>?_;refine Dh u hs ?_;exact⟨x,_,_,rfl,k,Ec (t1:=z) (t2:=A) (b1:=G) (b2:=H) (s:=s) (xb:=xb) ⟨rfl,k.ok,m.p0,by omega,by rw[r.length_eq];exact m.tot⟩<|by exact Ab.fin hs⟩
 refine Aa (Af (x:=s) hs<|Af hs ?_);refine Ak hs λnb w hs=>?_;refine AX AZ (nr:=4) (K:=[t1,t2,b1,b2]) [0] (M:=cA b s xb c p::M) (by exact Ab.fin hs) (by omega) rfl λw hs=>?_;have hs:Ab W w (cA b s xb c p::rowsC s xb 5000 [t1,t2,b1,b2]::M):=by exact Ab.fin hs
 rw[C]
 with_reducible refine A3 (λJ=>?_) (λJ=>?_)
 ·refine Aa (Af hs ?_)
  with_reducible refine A3 (λr=>?_) (λr=>?_)
  ·exact e w true (λ_=>by omega) (λh=>by cases h) hs
  ·refine Aa (Af (x:=s) hs<|Af hs ?_);refine Ak hs λnb w hs=>?_;refine AX AZ (nr:=4) (K:=[t1,t2,b1,b2]) [1] (M:=cA b s xb c p::M) (by exact Ab.fin hs) (by omega) rfl λw hs=>?_;rw[D];exact e w _ (λ_=>by omega) (λh=>by have:¬(t2.length:Int)=0:=(by simpa using h);omega) (by exact Ab.fin hs)
 ·exact e w false (λh=>by cases h) (λ_=>by omega) hs
theorem Bdb(a:Nd4 t1 t2 b1 b2):(DI [t1,t2,b1,b2] key).flatten=Aq [t1,t2,b1,b2].flatten key:=by
 show[Aq t1 key,Aq t2 key,Aq b1 key,Aq b2 key].flatten=_;rw[Au3,Au3,FA,FA,FA]
theorem A7h(a:Nd4 t1 t2 b1 b2)(c:0<b1.length):DI [t1,t2,b1,b2] (Ck b1)=[t1,t2,b1.drop 1,b2]:=by
 have b:=CN c;show[Aq t1 _,Aq t2 _,Aq b1 _,Aq b2 _]=_;rw[BT a.n3 c,GG<|λh=>(a.d1 _ h).2.1 b,GG<|λh=>(a.d2 _ h).1 b,GG<|a.d3 _ b]
theorem A7i(a:Nd4 t1 t2 b1 b2)(c:0<b2.length):DI [t1,t2,b1,b2] (Ck b2)=[t1,t2,b1,b2.drop 1]:=by
 have b:=CN c;show[Aq t1 _,Aq t2 _,Aq b1 _,Aq b2 _]=_;rw[BT a.n4 c,GG<|λh=>(a.d1 _ h).2.2 b,GG<|λh=>(a.d2 _ h).2 b,GG<|λh=>a.d3 _ h b]
theorem Rn{l:BL}{x:BA}(h:x∈l.drop 1):x∈l:=List.mem_of_mem_drop h
def Aef(c:Int)(t1 t2 b1 b2:BL)(g a b d e:BL):Prop:=MP c (t1++t2) g (a++b)/\(∀x,x∈[a,b,d,e].flatten->x∈[t1,t2,b1,b2].flatten)/\(a.length:Int)+d.length<c/\([a,b,d,e].flatten.length:Int)<2*c
theorem Ao3(hs:Ab W w (cA b s xb c p::rowsC s xb 5000 [t1,t2,b1,b2]::M))(hi:AcI c p (t1++t2) t1 t2 b1 b2) :
  Bh PR 260 #[pq b 0] w (N1 W M b xb s c p<|Aef c t1 t2 b1 b2):=by
 refine cw ⟨mixed,func260,rfl⟩ Asg ?_;have P:=hi.num;have F:(BD [t1,t2,b1,b2] [0]:Int)=t1.length:=by simp[BD]
 have z:(BD [t1,t2,b1,b2] [0,2]:Int)=t1.length+b1.length:=by simp[BD]
 have A:(BD [t1,t2,b1,b2] [0,1,2,3]:Int)=t1.length+t2.length+b1.length+b2.length:=by simp[BD];omega
 have d:=nd4 (t1:=t1) (t2:=t2) (b1:=b1) (b2:=b2) (M:=cA b s xb c p::M) (by exact Ab.fin hs);have i:∀(w:World)(k q:BL),(∀x∈k,x∈b1)->(∀x∈q,x∈b2)->(t1.length:Int)+k.length<c->(t1.length:Int)+t2.length+k.length+q.length<2*c->Ab W w (cA b s xb c p::rowsC s xb 5000 [t1,t2,k,q]::M) ->
   (call1 .slc PR 259 [pq b 0,.b false] λx=>(N1 W M b xb s c p<|Aef c t1 t2 b1 b2)<|.l x.a x.n x.c) w:=by
  clear hs;intro w k q m r B Q hs;refine Ah (N5 hs hi.ok<|by omega) λv w ⟨l,g,G,H,I,J,L,⟨N,C,R⟩,hs⟩=>⟨l,L,?_⟩;refine⟨l,g,G,H,I,J,rfl,⟨N,λx o=>?_,by omega,by rw[C.length_eq,Do];omega⟩,hs⟩
  rcases La.1 (C.mem_iff.1 o) with h|h|h|h
  ·exact La.2 (.inl h)
  ·exact La.2 (.inr<|.inl h)
  ·exact La.2 (.inr<|.inr<|.inl<|m _ h)
  ·exact La.2 (.inr<|.inr<|.inr<|r _ h)
 have D:∀(w:World)(t:Bool),(t=true->c<=(t1.length:Int)+b1.length/\(t1.length:Int)<c)->(t=false->c<=(t1.length:Int)+b1.length->c<=(t1.length:Int))->Ab W w (cA b s xb c p::rowsC s xb 5000 [t1,t2,b1,b2]::M) ->
   Xf AU (N1 W M b xb s c p<|Aef c t1 t2 b1 b2) (some ⟨b,0,none⟩) t w:=by
  clear hs;intro w t E v hs;refine jw ZR ?_;cases t with
  | true=>
   have E:=E rfl;have f:0<b1.length:=by omega
   refine Am rfl ?_;refine An [cA b s xb c p] hs λw hs=>?_;refine Aa (Au (x:=s)<|Au<|Aa<|Af (x:=s) hs<|Af hs<|Ag hs ?_);refine Ao (BB AZ (K:=[t1,t2,b1,b2]) (j:=2) hs (lt4<|by decide)<|le_refl 4) λe w ⟨e,hs⟩=>⟨_,e,Ag hs ?_⟩;refine Av (Cg AZ (K:=[t1,t2,b1,b2]) (key:=Ck b1) hs (d.small _<|La.2<|.inr<|.inr<|.inl<|CN f) (by omega)<|le_refl 4) λe w ⟨e,hs⟩=>⟨e,?_⟩;rw[A7h d f] at hs;exact i w _ _ (λx h=>Rn h) (λx h=>h) (by rw[length_drop];omega) (by rw[length_drop];omega) hs
  | false=>
   have v:=v rfl;refine Ad rfl ?_;refine An [cA b s xb c p] hs λw hs=>?_;refine Aa (Au (x:=s)<|Au<|Aa<|Au ?_);refine Ak hs λnb w hs=>Ag hs ?_;refine AX AZ (nr:=4) (K:=[t1,t2,b1,b2]) [0,2] (M:=cA b s xb c p::M) (by exact Ab.fin hs) (by omega) rfl λw hs=>Ag hs ?_;have hs:Ab W w (cA b s xb c p::rowsC s xb 5000 [t1,t2,b1,b2]::M):=by exact Ab.fin hs
   rw[z]
   with_reducible refine A3 (λm=>?_) (λm=>?_)
   ·have r:=v (by omega);have f:0<t1.length:=by omega
    have u:=CN f;refine Aa (Af (x:=s) hs<|Af hs ?_);refine Ao (BB AZ (K:=[t1,t2,b1,b2]) (j:=0) hs (lt4<|by decide)<|le_refl 4) λe w ⟨e,hs⟩=>⟨_,e,?_⟩;refine Aa (Af (x:=s) hs<|Af hs ?_);refine Av (Cg AZ (K:=[t1,t2,b1,b2]) (key:=Ck t1) hs (d.small _<|La.2<|.inl u) (by omega)<|le_refl 4) λe w ⟨e,hs⟩=>⟨e,?_⟩;have O:DI [t1,t2,b1,b2] (Ck t1)=[t1.drop 1,t2,b1,b2]:=by
     show[Aq t1 _,Aq t2 _,Aq b1 _,Aq b2 _]=_;rw[BT d.n1 f,GG (d.d1 _ u).1,GG (d.d1 _ u).2.1,GG (d.d1 _ u).2.2]
    rw[O] at hs;refine Ak hs λnb w hs=>?_;have hs:=sl1 nb hs;have y:Hc c (t1++t2) (Ck t1) true (t1.drop 1++t2):=Hc.of_perm hi.ok (by
     cases t1 with
     | nil=>simp at f
     | cons x l=>exact List.Perm.refl _)
    refine⟨⟨some ⟨nb,0,none⟩,1,1⟩,_,t1.drop 1,t2,b1,b2,rfl,⟨.inr ⟨_,rfl,y,by rw[length_append];omega⟩,λx o=>?_,by rw[length_drop];omega,by rw[Do,length_drop];omega⟩,by exact Ab.fin hs⟩;rcases La.1 o with h|h
    ·exact La.2 (.inl<|Rn h)
    ·exact La.2 (.inr h)
   refine An [cA b s xb c p] hs λw hs=>?_;refine Aa (Au (x:=s)<|Au<|Aa<|Au ?_);refine Ak hs λnb w hs=>Ag hs ?_;refine AX AZ (nr:=4) (K:=[t1,t2,b1,b2]) [0,1,2,3] (M:=cA b s xb c p::M) (by exact Ab.fin hs) (by omega) rfl λw hs=>Ag hs ?_;have hs:Ab W w (cA b s xb c p::rowsC s xb 5000 [t1,t2,b1,b2]::M):=by exact Ab.fin hs
   rw[A]
   with_reducible refine A3 (λr=>?_) (λr=>?_)
   ·refine⟨⟨none,0,0⟩,[],t1,t2,b1,b2,rfl,⟨.inl ⟨rfl,rfl,by rw[length_append];omega⟩,λx o=>o,by omega,by rw[Do];omega⟩,(Ab.nilR Ap.str hs).perm (perm_middle (l₁:=[_,_])).symm⟩
   refine An [cA b s xb c p] hs λw hs=>?_;refine Aa (Au (x:=s)<|Au<|Aa<|Au ?_);refine Ak hs λnb w hs=>Ag hs ?_;refine AX AZ (nr:=4) (K:=[t1,t2,b1,b2]) [0,1,2,3] (M:=cA b s xb c p::M) (by exact Ab.fin hs) (by omega) rfl λw hs=>Ag hs ?_;have hs:Ab W w (cA b s xb c p::rowsC s xb 5000 [t1,t2,b1,b2]::M):=by exact Ab.fin hs
   rw[A,i64_in (2*c)<|by omega]
   with_reducible refine A3 (λB=>?_) (λB=>?_)
   ·have f:0<b2.length:=by omega
    refine An [cA b s xb c p] hs λw hs=>?_;refine Aa (Au (x:=s)<|Au<|Aa<|Af (x:=s) hs<|Af hs<|Ag hs ?_);refine Ao (BB AZ (K:=[t1,t2,b1,b2]) (j:=3) hs (lt4<|by decide)<|le_refl 4) λe w ⟨e,hs⟩=>⟨_,e,Ag hs ?_⟩;refine Av (Cg AZ (K:=[t1,t2,b1,b2]) (key:=Ck b2) hs (d.small _<|La.2<|.inr<|.inr<|.inr<|CN f) (by omega)<|le_refl 4) λe w ⟨e,hs⟩=>⟨e,?_⟩;rw[A7i d f] at hs;exact i w _ _ (λx h=>h) (λx h=>Rn h) (by omega) (by rw[length_drop];omega) hs
   ·exact i w _ _ (λx h=>h) (λx h=>h) (by omega) (by omega) hs
 refine An [cA b s xb c p] hs λw hs=>?_;refine Aa (Au (x:=s)<|Au<|Aa<|Au ?_);refine Ak hs λnb w hs=>Ag hs ?_;refine AX AZ (nr:=4) (K:=[t1,t2,b1,b2]) [0,2] (M:=cA b s xb c p::M) (by exact Ab.fin hs) (by omega) rfl λw hs=>Ag hs ?_;have hs:Ab W w (cA b s xb c p::rowsC s xb 5000 [t1,t2,b1,b2]::M):=by exact Ab.fin hs
 rw[z]
 with_reducible refine A3 (λm=>?_) (λm=>?_)
 ·refine Aa (Au (x:=s)<|Au<|Aa<|Au ?_);refine Ak hs λnb w hs=>Ag hs ?_;refine AX AZ (nr:=4) (K:=[t1,t2,b1,b2]) [0] (M:=cA b s xb c p::M) (by exact Ab.fin hs) (by omega) rfl λw hs=>Ag hs ?_;rw[F];exact D w _ (λh=>⟨by omega,of_decide_eq_true h⟩) (λh _=>by have:=of_decide_eq_false h;omega) (by exact Ab.fin hs)
 ·exact Ag hs (Ag hs<|D w false (λh=>by cases h) (λ_ h=>by omega) hs)
theorem YS(hs:Ab W w (cA b s xb c p::rowsC s xb 5000 [t1,t2,b1,b2]::M))(g:key.size<64)(h:key∈[t1,t2,b1,b2].flatten)(k:t2.length<5000)(m:0<=p/\p<=c)(u:(t1.length:Int)+b1.length<=c)(v:([t1,t2,b1,b2].flatten.length:Int)<=2*c)(o:DC c (Aq t1 key++(Aq t2 key++[key]))) :
  Ai PR 257 #[.agg #[.l s.a s.n s.c,pq xb 0],.i (1:Int),.s key] w λe w'=>e = .returned (.tuple #[])/\Ab W w' (LA b c (Aq t1 key++(Aq t2 key++[key]))::M):=by
 have d:=nd4 (t1:=t1) (t2:=t2) (b1:=b1) (b2:=b2) (M:=cA b s xb c p::M) (by exact Ab.fin hs);have q:=(Y1 (K:=[t1,t2,b1,b2]) (s:=s) (xb:=xb) (N:=5000) (M:=cA b s xb c p::M) (W:=W) (w:=w)<|by exact Ab.fin hs).1;refine(FG AZ (K:=[t1,t2,b1,b2]) (j:=1) hs (lt4<|by decide) g (by omega) (le_refl 4) k).mono λe w ⟨r,hs⟩=>⟨r,?_⟩;refine Ec (t1:=Aq t1 key) (t2:=Aq t2 key++[key]) (b1:=Aq b1 key) (b2:=Aq b2 key) ⟨rfl,o,m,?_,?_⟩ hs
 ·have f:=Bq t1 key;have t:=Bq b1 key;omega
 ·have f:=(C4 q h).length_eq;rw[<- Bdb d] at f;have t:(DI [t1,t2,b1,b2] key).flatten.length=(Aq t1 key).length+(Aq t2 key).length+(Aq b1 key).length+(Aq b2 key).length:=Do;rw[Do,length_append];simp only[length_cons,length_nil] at *;omega
theorem Ade{c:Int}{R g S:BL}(h:MP c R g S)(a:DC c R):S.length<=1024:=by
 have d:=a.room;have e:=a.c2
 rcases h with⟨_,rfl,_⟩|⟨x,_,b,_⟩
 ·omega
 ·have:=b.ok.room;omega
abbrev Ak1(W:World)(M:List HP)(b:Nat)(c:Int)(R:BL)(key:BA):VW:=λv w'=>∃(d:Bool) (l:Sl) (g S:BL),v = .tuple #[.b d,.l l.a l.n l.c]/\Fh c R key d g S/\Ab W w' (LA b c S::recs Ap.str l g::M)
theorem Bby{l:Sl}{g:BL}(hs:Ab W w (cA b s xb c p::rowsC s xb 5000 [t1,t2,b1,b2]::recs Ap.str l g::M))(f:key.size<64)(i:DC c R)(d:key∉R)(a:MP c R g (t1++t2))(k:key∈[t1,t2,b1,b2].flatten)(m:0<=p/\p<=c)(n:(t1.length:Int)+b1.length<=c)(o:([t1,t2,b1,b2].flatten.length:Int)<=2*c) :
  FN AU (Ak1 W M b c R key) (some ⟨b,0,none⟩) key l w:=by
 refine jw ZN ?_;have e:=a.not d;have q:key∉t1:=λh=>e (mem_append_left _ h);have r:key∉t2:=λh=>e (mem_append_right _ h);have j:=Fh.miss i d f a (T:=Aq t1 key++(Aq t2 key++[key])) (by rw[GG q,GG r];exact EV)
 have t:=Ade a i;rw[length_append] at t;refine Aa (Af (x:=s) hs<|Af hs ?_);refine Av (YS hs f k (by omega) m n o j.ok) λe w ⟨u,hs⟩=>⟨u,?_⟩;exact⟨false,l,g,_,rfl,j,hs⟩
theorem Ak6(hz:key.size<64)(hs:Ab W w (LA b c R::M)):Bh PR 246 #[pq b 0,.s key] w (Ak1 W M b c R key):=by
 refine cwD (hs:=.inr ⟨rfl,rfl,rfl,rfl,_,_,rfl⟩) ⟨mixed,func246,rfl⟩ Ar6 ?_;have h0:=E5 hs;clear hs;obtain⟨s,xb,p,t1,t2,b1,b2,h1,hs⟩:=h0;have hn:=h1.num;have hk:=h1.ok;have hp:=h1.p0;have htot:=h1.tot;have hl1:=h1.l1;obtain rfl:=h1.eq;refine Ad rfl (Aa (Af (x:=s) hs (Af hs ?_)));refine Ao (Ei AZ (K:=[t1,t2,b1,b2]) hs hz) λe w ⟨he,hs⟩=>⟨_,he,?_⟩;have hit:∀(w:World)(i:Int)(t:Bool),key∈t1++t2->t=true->Ab W w (cA b s xb c p::rowsC s xb 5000 [t1,t2,b1,b2]::M)->Xe AU (Ak1 W M b c (t1++t2) key) (some ⟨b,0,none⟩) key i t w:=by
  clear hs;rintro w i _ hm rfl hs;refine jw Hf ?_;have ha:=Fh.same (S:=Aq t1 key++(Aq t2 key++[key])) hk hm (by
   rw[<- append_assoc,<- FA];exact perm_append_comm.trans (C4 hk.nd hm).symm)
  refine Am rfl (Aa (Af (x:=s) hs (Af hs ?_)));refine Av (YS hs hz (by rcases mem_append.1 hm with h|h <;> simp[h]) (by omega) hp hl1 htot ha.ok) λe w ⟨he,hs⟩=>⟨he,?_⟩
  exact⟨true,⟨none,0,0⟩,[],_,rfl,ha,(Ab.nilR Ap.str hs).perm (List.Perm.swap _ _ _)⟩
 have bcase:∀(w:World)(q:Int)(again:Bool),0<=q/\q<=c->key∉t1++t2->key∈[t1,t2,b1,b2].flatten->Ab W w (cA b s xb c q::rowsC s xb 5000 [t1,t2,b1,b2]::M) ->
   (call1 .slc PR 259 [pq b 0,.b again] λ(x:Sl)=>FN AU (Ak1 W M b c (t1++t2) key) (some ⟨b,0,none⟩) key x) w:=by
  clear hs;intro w q again hq hno hm hs;refine Ah (N5 hs hk (by omega)) λv w ⟨l,g,u1,u2,d1,d2,hv,⟨h5,h6,h7⟩,hs⟩=>⟨l,hv,?_⟩;exact Bby hs hz hk hno h5 (h6.mem_iff.2 hm) hq (by omega) (by rw[h6.length_eq];exact htot)
 rcases Ax7 t1 t2 b1 b2 key with⟨h,h4⟩|⟨h,h4,h5⟩|⟨h,h4,h5,h6⟩|⟨h,h4,h5,h6,h7⟩|⟨h,h4,h5,h6,h7⟩ <;> rw[h]
 ·exact Am rfl (hit w _ _ (mem_append_left _ h4) rfl hs)
 ·exact Ad rfl (hit w _ _ (mem_append_right _ h5) rfl hs)
 ·refine Ad rfl ?_;refine jw Hf ?_;refine Ad rfl (Am rfl ?_);have h0:0<b1.length:=List.length_pos_of_mem h6;have cont:∀(w:World)(m n:Int),m=(BD [t1,t2,b1,b2] [3]:Int)->n=(BD [t1,t2,b1,b2] [2]:Int)->Ab W w (cA b s xb c p::rowsC s xb 5000 [t1,t2,b1,b2]::M)->(AV (n≠0)<| Ac (some ⟨b,0,none⟩) λb_28 o_29=>
    st b_28 (o_29+3) (.i (if (wrap .i64 (p+(if (wrap .i64 (tdiv m n))>(1:Int) then (wrap .i64 (tdiv m n)) else (1:Int))))<c then (wrap .i64 (p+(if (wrap .i64 (tdiv m n))>(1:Int) then (wrap .i64 (tdiv m n)) else (1:Int)))) else c))<|
    call1 .slc PR 259 [pq b 0,.b false] λ(x_30:Sl)=>
    FN AU (Ak1 W M b c (t1++t2) key) (some ⟨b,0,none⟩) key x_30) w:=by
   clear hs;intro w m n hm hn2 hs;have e2:n=(b1.length:Int):=by rw[hn2];simp[BD]
   have e3:m=(b2.length:Int):=by rw[hm];simp[BD]
   subst e2 e3;refine A1 (by omega) (Aa ?_);refine A4 hs λw hs=>?_;rw[Bcy (N:=5000) (by omega) (by omega) (by omega)] at hs;exact bcase w _ false (by omega) (by simp[h4,h5]) (by simp[h6]) hs
  refine An [cA b s xb c p] hs λw hs=>?_;refine Aa (Au (Aa (Au (Aa (Au (x:=s) (Au (Aa (Au (x:=s) (Au ?_)))))))));refine Re (Ak hs λb3 w hs=>Ag hs (Re ?_));refine AX AZ (nr:=4) (K:=[t1,t2,b1,b2]) [3] (M:=cA b s xb c p::M) (by exact Ab.fin hs) (by omega) rfl λw hs=>Ag hs ?_;refine Ak hs λnb w hs=>Ag hs ?_;refine AX AZ (nr:=4) (K:=[t1,t2,b1,b2]) [2] (M:=cA b s xb c p::M) (by exact Ab.fin hs) (by omega) rfl λw hs=>Ag hs ?_;exact cont w _ _ rfl rfl (by exact Ab.fin hs)
 ·refine Ad rfl ?_;refine jw Hf ?_;refine Ad rfl (Ad rfl (Am rfl ?_));have h0:0<b2.length:=List.length_pos_of_mem h7;have cont:∀(w:World)(m n:Int),m=(BD [t1,t2,b1,b2] [2]:Int)->n=(BD [t1,t2,b1,b2] [3]:Int)->Ab W w (cA b s xb c p::rowsC s xb 5000 [t1,t2,b1,b2]::M)->(AV (n≠0)<| Ac (some ⟨b,0,none⟩) λb_28 o_29=>
    st b_28 (o_29+3) (.i (if (wrap .i64 (p-(if (wrap .i64 (tdiv m n))>(1:Int) then (wrap .i64 (tdiv m n)) else (1:Int))))>(0:Int) then (wrap .i64 (p-(if (wrap .i64 (tdiv m n))>(1:Int) then (wrap .i64 (tdiv m n)) else (1:Int)))) else (0:Int)))<|
    call1 .slc PR 259 [pq b 0,.b true] λ(x_30:Sl)=>
    FN AU (Ak1 W M b c (t1++t2) key) (some ⟨b,0,none⟩) key x_30) w:=by
   clear hs;intro w m n hm hn2 hs;have e2:n=(b2.length:Int):=by rw[hn2];simp[BD]
   have e3:m=(b1.length:Int):=by rw[hm];simp[BD]
   subst e2 e3;refine A1 (by omega) (Aa ?_);refine A4 hs λw hs=>?_;rw[Ayw (N:=5000) (by omega) (by omega) (by omega)] at hs;exact bcase w _ true (by omega) (by simp[h4,h5]) (by simp[h7]) hs
  refine An [cA b s xb c p] hs λw hs=>?_;refine Aa (Au (Aa (Au (x:=s) (Au (Aa (Au (x:=s) (Au ?_)))))));refine Re (Ak hs λb3 w hs=>Ag hs (Re ?_));refine AX AZ (nr:=4) (K:=[t1,t2,b1,b2]) [2] (M:=cA b s xb c p::M) (by exact Ab.fin hs) (by omega) rfl λw hs=>Ag hs ?_;refine Ak hs λnb w hs=>Ag hs ?_;refine AX AZ (nr:=4) (K:=[t1,t2,b1,b2]) [3] (M:=cA b s xb c p::M) (by exact Ab.fin hs) (by omega) rfl λw hs=>Ag hs ?_;exact cont w _ _ rfl rfl (by exact Ab.fin hs)
 ·refine Ad rfl ?_;refine jw Hf ?_;refine Ad rfl (Ad rfl (Ad rfl ?_));have hno:key∉t1++t2:=by simp[h4,h5]
  refine Ah (Ao3 hs h1) λv w ⟨l,g,u1,u2,d1,d2,hv,⟨h8,h9,h10,h11⟩,hs⟩=>⟨l,hv,?_⟩;have hkn:key∉[u1,u2,d1,d2].flatten:=λhm=>by
   have:=h9 _ hm;simp[h4,h5,h6,h7] at this
  rw[Do] at h11;have hll:=Ade h8 hk;rw[length_append] at hll;refine Aa (Af (x:=s) hs (Af hs ?_));refine Av (FG AZ (K:=[u1,u2,d1,d2]) (j:=0) hs (lt4 (by decide)) hz (by omega) (le_refl 4) (show u1.length<5000 by omega)) λe w ⟨he,hs⟩=>⟨he,?_⟩;have e1:D2 [u1,u2,d1,d2] 0 key=[u1++[key],u2,d1,d2]:=by
   show[Aq u1 _++[_],Aq u2 _,Aq d1 _,Aq d2 _]=_;rw[GG λh=>hkn (by simp[h]),GG λh=>hkn (by simp[h]),GG λh=>hkn (by simp[h]),GG λh=>hkn (by simp[h])]
  rw[e1] at hs;have ha:=Fh.miss hk hno hz h8 (T:=(u1++[key])++u2) D8;exact⟨false,l,g,_,rfl,ha,Ec ⟨rfl,ha.ok,hp,by simp only[length_append,length_cons,length_nil];omega,by rw[Do];simp only[length_append,length_cons,length_nil];omega⟩ hs⟩
theorem Ayi(hz:key.size<64)(hs:Ab W w (LA b c R::M)):Bh PR 252 #[pq b 0,.s key] w λv w'=>∃(yes:Bool) (S:BL),v = .b yes/\Dz c R key yes S/\Ab W w' (LA b c S::M):=by
 refine cw ⟨mixed,func252,rfl⟩ Asc ?_;have hk:=WG hs;have hr:=hk.room;refine An [LA b c R] hs λw hs=>?_;refine Ad rfl ?_;refine Ah (Aei hz hs) λv w ⟨hv,hs⟩=>⟨_,hv,Ag hs ?_⟩
 with_reducible refine A3 (λh1=>?_) (λh1=>?_)
 ·exact Ag hs ⟨false,R,rfl,Dz.no hk (λh=>h.1 h1),hs⟩
 refine Aa ?_;refine HF (k:=.int .i64) c (λw' h=>Ay5 h) ?_;refine Ah (Aej hs) λv w ⟨hv,hs⟩=>⟨_,hv,Ag hs ?_⟩
 with_reducible refine A3 (λh2=>?_) (λh2=>?_)
 ·exact⟨false,R,rfl,Dz.no hk (λh=>by omega),hs⟩
 refine jw ZO ?_;obtain⟨s,xb,p,t1,t2,b1,b2,h3,hs⟩:=E5 hs;have hn:=h3.num;have htot:=h3.tot;have hp:=h3.p0;refine Aa (Af (x:=s) hs (Af hs ?_));refine Av (FG AZ (K:=[t1,t2,b1,b2]) (j:=0) hs (lt4 (by decide)) hz (by omega) (le_refl 4) (show t1.length<5000 by omega)) λe w ⟨he,hs⟩=>⟨he,?_⟩;have hs:Ab W w (cA b s xb c p::rowsC s xb 5000 [Aq t1 key++[key],Aq t2 key,Aq b1 key,Aq b2 key]::M):=hs;have n1:key∉t1:=λh=>h1 (by rw[h3.eq];exact mem_append_left _ h)
 have n2:key∉t2:=λh=>h1 (by rw[h3.eq];exact mem_append_right _ h);rw[GG n1,GG n2] at hs;have hl:=Dz.yes hk hz h1 (by omega) (S:=(t1++[key])++t2) (by rw[h3.eq];exact D8)
 have hrm:=hl.ok.room;have a3:=Bq b1 key;have a4:=Bq b2 key;have e1:(t1++[key]).length=t1.length+1:=by simp
 rw[length_append] at hrm;generalize t1++[key]=u1 at *;generalize Aq b1 key=d1 at *;generalize Aq b2 key=d2 at *;have loop2:∀(f:Nat)(w:World)(d1 d2:BL),((u1.length:Int)+t2.length+d1.length+d2.length-2*c).toNat=f->((u1.length:Int)+d1.length<=c)->d1.length<=1024->d2.length<=4096->Ab W w (cA b s xb c p::rowsC s xb 5000 [u1,t2,d1,d2]::M) ->
   Qn AU (λv w'=>∃(yes:Bool) (S:BL),v = .b yes/\Dz c R key yes S/\Ab W w' (LA b c S::M)) (f+1) (some ⟨b,0,none⟩) w:=by
  clear hs;intro f
  induction f with
  | zero=>
   intro w d1 d2 hf hl1 hd1 hd2 hs;rw[NW];have e4:(BD [u1,t2,d1,d2] [0,1,2,3]:Int)=u1.length+t2.length+d1.length+d2.length:=by simp[BD];omega
   refine An [cA b s xb c p] hs λw hs=>?_;refine Aa (Au (x:=s) (Au (Aa (Au ?_))));refine Ak hs λnb w hs=>Ag hs ?_;refine AX AZ (nr:=4) (K:=[u1,t2,d1,d2]) [0,1,2,3] (M:=cA b s xb c p::M) (by exact Ab.fin hs) (by omega) rfl λw hs=>Ag hs ?_;rw[e4,i64_in (2*c) (by omega)];refine Ad (decide_eq_false (by omega)) ?_;refine jw ZQ ?_;exact⟨true,_,rfl,hl,Ec (t1:=u1) (t2:=t2) (b1:=d1) (b2:=d2) (s:=s) (xb:=xb) ⟨rfl,hl.ok,hp,by omega,by rw[Do];omega⟩ (by exact Ab.fin hs)⟩
  | succ f ih=>
   intro w d1 d2 hf hl1 hd1 hd2 hs;rw[NW];have hnd:=nd4 (t1:=u1) (t2:=t2) (b1:=d1) (b2:=d2) (M:=cA b s xb c p::M) (by exact Ab.fin hs);have h0:0<d2.length:=by omega
   have e4:(BD [u1,t2,d1,d2] [0,1,2,3]:Int)=u1.length+t2.length+d1.length+d2.length:=by simp[BD];omega
   refine An [cA b s xb c p] hs λw hs=>?_;refine Aa (Au (x:=s) (Au (Aa (Au ?_))));refine Ak hs λnb w hs=>Ag hs ?_;refine AX AZ (nr:=4) (K:=[u1,t2,d1,d2]) [0,1,2,3] (M:=cA b s xb c p::M) (by exact Ab.fin hs) (by omega) rfl λw hs=>Ag hs ?_;rw[e4,i64_in (2*c) (by omega)];refine Am (decide_eq_true (by omega)) ?_;have hs:Ab W w (cA b s xb c p::rowsC s xb 5000 [u1,t2,d1,d2]::M):=by exact Ab.fin hs
   refine An [cA b s xb c p] hs λw hs=>?_;refine Aa (Au (x:=s) (Au (Aa (Af (x:=s) hs (Af hs (Ag hs ?_))))));refine Ao (BB AZ (K:=[u1,t2,d1,d2]) (j:=3) hs (lt4 (by decide)) (le_refl 4)) λe w ⟨he,hs⟩=>⟨_,he,Ag hs ?_⟩;refine Av (Cg AZ (K:=[u1,t2,d1,d2]) (key:=Ck d2) hs (hnd.small _ (La.2 (.inr (.inr (.inr (CN h0)))))) (by omega) (le_refl 4)) λe w ⟨he,hs⟩=>⟨he,?_⟩;rw[A7i hnd h0] at hs;exact ih w _ _ (by rw[length_drop];omega) hl1 hd1 (by rw[length_drop];omega) hs
 have loop1:∀(f:Nat)(w:World)(d1:BL),((u1.length:Int)+d1.length-c).toNat=f->d1.length<=1024->Ab W w (cA b s xb c p::rowsC s xb 5000 [u1,t2,d1,d2]::M) ->
   Qm AU (λv w'=>∃(yes:Bool) (S:BL),v = .b yes/\Dz c R key yes S/\Ab W w' (LA b c S::M)) (f+1) (some ⟨b,0,none⟩) w:=by
  clear hs;intro f
  induction f with
  | zero=>
   intro w d1 hf hd1 hs;rw[NV];have e2:(BD [u1,t2,d1,d2] [0,2]:Int)=u1.length+d1.length:=by simp[BD]
   refine An [cA b s xb c p] hs λw hs=>?_;refine Aa (Au (x:=s) (Au (Aa (Au ?_))));refine Ak hs λnb w hs=>Ag hs ?_;refine AX AZ (nr:=4) (K:=[u1,t2,d1,d2]) [0,2] (M:=cA b s xb c p::M) (by exact Ab.fin hs) (by omega) rfl λw hs=>Ag hs ?_;rw[e2];refine Ad (decide_eq_false (by omega)) ?_;refine jw ZP ?_;exact AP _ (loop2 _ w d1 d2 rfl (by omega) hd1 (by omega) (by exact Ab.fin hs))
  | succ f ih=>
   intro w d1 hf hd1 hs;rw[NV];have hnd:=nd4 (t1:=u1) (t2:=t2) (b1:=d1) (b2:=d2) (M:=cA b s xb c p::M) (by exact Ab.fin hs);have h0:0<d1.length:=by omega
   have e2:(BD [u1,t2,d1,d2] [0,2]:Int)=u1.length+d1.length:=by simp[BD]
   refine An [cA b s xb c p] hs λw hs=>?_;refine Aa (Au (x:=s) (Au (Aa (Au ?_))));refine Ak hs λnb w hs=>Ag hs ?_;refine AX AZ (nr:=4) (K:=[u1,t2,d1,d2]) [0,2] (M:=cA b s xb c p::M) (by exact Ab.fin hs) (by omega) rfl λw hs=>Ag hs ?_;rw[e2];refine Am (decide_eq_true (by omega)) ?_;have hs:Ab W w (cA b s xb c p::rowsC s xb 5000 [u1,t2,d1,d2]::M):=by exact Ab.fin hs
   refine An [cA b s xb c p] hs λw hs=>?_;refine Aa (Au (x:=s) (Au (Aa (Af (x:=s) hs (Af hs (Ag hs ?_))))));refine Ao (BB AZ (K:=[u1,t2,d1,d2]) (j:=2) hs (lt4 (by decide)) (le_refl 4)) λe w ⟨he,hs⟩=>⟨_,he,Ag hs ?_⟩;refine Av (Cg AZ (K:=[u1,t2,d1,d2]) (key:=Ck d1) hs (hnd.small _ (La.2 (.inr (.inr (.inl (CN h0)))))) (by omega) (le_refl 4)) λe w ⟨he,hs⟩=>⟨he,?_⟩;rw[A7h hnd h0] at hs;exact ih w _ (by rw[length_drop];omega) (by rw[length_drop];omega) hs
 exact AP _ (loop1 _ w d1 rfl (by omega) hs)
theorem Ak7(hz:key.size<64)(hs:Ab W w (LA b c R::M)):Bh PR 253 #[pq b 0,.s key] w λv w'=>∃(yes:Bool) (S:BL),v = .b yes/\Gf c R key yes S/\Ab W w' (LA b c S::M):=by
 refine cw ⟨mixed,func253,rfl⟩ Asd ?_;have hk:=WG hs;refine Ah (Aei hz hs) λv w ⟨hv,hs⟩=>⟨_,hv,?_⟩
 by_cases h1:key∈R
 ·refine Ad (by rw[decide_eq_true h1];rfl) ?_;obtain⟨s,xb,p,t1,t2,b1,b2,h3,hs⟩:=E5 hs;have hn:=h3.num;refine Aa (Af (x:=s) hs (Af hs ?_));refine Av (Cg AZ (K:=[t1,t2,b1,b2]) hs hz (by omega) (le_refl 4)) λe w ⟨he,hs⟩=>⟨he,?_⟩;rw[h3.eq] at hk h1;have hr:=Gf.cut2 hk h1;rw[<- h3.eq] at hr;have a1:=Bq t1 key;have a2:=Bq t2 key;have a3:=Bq b1 key;have a4:=Bq b2 key;exact⟨true,_,rfl,hr,Ec (t1:=Aq t1 key) (t2:=Aq t2 key) (b1:=Aq b1 key) (b2:=Aq b2 key) ⟨rfl,hr.ok,h3.p0,by omega,by rw[Do];omega⟩ hs⟩
 ·refine Am (by rw[decide_eq_false h1];rfl) ⟨false,R,rfl,Gf.no hk h1,hs⟩
end
end Go.Proofs.YtjipofkjmmpjdaaGreat
namespace Go.Hb
abbrev SL:=List (BA×Int)
instance Bc3{e:BA×Int}{S:SL}:Decidable (e∈S):=decidable_of_iff (S.any (λx=>decide<|x=e)=true) (by simp)
structure Bi where
 s:SL
 q:List BA
def AW(S:SL):List BA:=S.map (·.1)
def AB(S:SL)(i:Int):Nat:=S.countP λe=>decide (e.2=i)
def C5(S:SL)(i:Int):List BA:=(S.filter λe=>decide<|e.2=i).map (·.1)
def Kh(S:SL)(k:BA):Int:=((S.find? λe=>decide<|e.1=k).map (·.2)).getD 0
def Bz(S:SL)(k:BA):SL:=S.filter λe=>decide (e.1≠k)
def If(S:SL)(k:BA)(i:Int):SL:=Bz S k++[(k,i)]
def E2(S:SL):SL:=S.dropWhile λe=>decide (e.2≠1)
def CS(S:SL)(i:Int):Option BA:=(S.find? λe=>decide<|e.2=i).map (·.1)
def Cn(S:SL)(k:BA):SL:=S.map λe=>if e.1=k then (k,3) else e
def Dq(c:Int):Int:=c-max 1 (c / 10)
def Nf(x:Bi):Bi:=match CS x.s 1 with
 | some k=>⟨Bz x.s k,x.q++[k]⟩
 | none=>x
def Dp(x:Bi):Bi:=⟨E2 (Nf x).s,(Nf x).q⟩
def CT(S:SL):Nat->SL
 | 0=>S
 | n+1=>match CS S 3 with
  | some k=>CT (Bz S k) n
  | none=>S
def II(c:Int)(S:SL):SL:=CT S ((AB S 3:Int)-c).toNat
def DN(x:Bi)(k:BA):Bi:=⟨If x.s k 1,Aq x.q k⟩
def E1(c:Int)(x:Bi)(k:BA):Bi:=if Dq c<(AB (DN x k).s 1:Int) then Dp (DN x k) else DN x k
def Ct(x:Bi)(k:BA):Bi:=⟨If x.s k 2,Aq x.q k++[k]⟩
def CL(x:Bi):Nat:=x.q.length+AB x.s 1
def lPr(x:Bi):Bi:=⟨E2 x.s,x.q⟩
def lFp(c:Int)(x:Bi):Bi:=⟨E2<|II c x.s,x.q⟩
def Sc(x:Bi):Bi:=if x.q=[] then Dp x else x
def CE(c:Int)(x:Bi):(BA×Bool)×Bi:=
 if CL x=0 then ((⟨#[]⟩,false),x) else (((Sc x).q.headD ⟨#[]⟩,true),lFp c ⟨Cn (Sc x).s<|(Sc x).q.headD ⟨#[]⟩,(Sc x).q.drop 1⟩)
def Ie(c:Int)(x:Bi):List BA×Bi:=if c<=(CL x:Int) then ([(CE c x).1.1],(CE c x).2) else ([],x)
def TI(c:Int)(y:Bi)(k:BA):Bi:=if (AB y.s 1:Int)<Dq c\/Kh y.s k=3 then E1 c y k else Ct y k
def FV(c:Int)(x:Bi)(k:BA):(Bool×List BA)×Bi:=
 if Kh x.s k=1\/(k∈x.q/\Kh x.s k=2) then ((true,[]),lPr<|E1 c x k)
 else if k∈x.q then ((true,[]),lPr<|Ct x k)
 else ((false,(Ie c x).1),lFp c<|TI c (Ie c x).2 k)
def BP(x:Bi):List BA:=x.q++C5 x.s 1
def FW(c:Int)(x:Bi)(k:BA):Bool×Bi:=
 if Kh x.s k=1\/k∈x.q\/(CL x:Int)=c then (false,x)
 else (true,lPr<|if (AB x.s 1:Int)<Dq c then E1 c x k else Ct x k)
def Mj(x:Bi)(k:BA):Bool×Bi:=if Kh x.s k=1\/k∈x.q then (true,lPr ⟨Bz x.s k,Aq x.q k⟩) else (false,x)
def FY:Bi:=⟨[],[]⟩
structure LW(x:Bi):Prop where
 sn:(AW x.s).Nodup
 qn:x.q.Nodup
 kinds:∀e∈x.s,e.2=1\/e.2=2\/e.2=3
 hotq:∀e∈x.s,e.2=1->e.1∉x.q
 ghq:∀e∈x.s,e.2=3->e.1∉x.q
 coldq:∀e∈x.s,e.2=2->e.1∈x.q
 ssm:∀e∈x.s,e.1.size<64
 qsm:∀k∈x.q,k.size<64
structure Pd(c:Int)(x:Bi):Prop where
 w:LW x
 c1:1<=c
 c2:c<=1024
 hots:(AB x.s 1:Int)<=Dq c
 ghs:(AB x.s 3:Int)<=c
 len:(CL x:Int)<=c
section
variable{S:SL}{x:Bi}{k:BA}{c:Int}{i:Int}
theorem Co{e:BA×Int}:e∈Bz S k↔e∈S/\e.1≠k:=by simp[Bz]
theorem DG{e:BA×Int}:e∈If S k i↔(e∈S/\e.1≠k)\/e=(k,i):=by unfold If;rw[mem_append,Co,mem_singleton]
theorem Ep(S:SL)(k:BA):AW (Bz S k)=Aq (AW S) k:=by unfold AW Bz Aq;rw[List.filter_map];rfl
theorem Sf(h:k∉AW S):Bz S k=S:=by
 unfold Bz;rw[filter_eq_self];intro e a;exact decide_eq_true λb=>h (mem_map.2 ⟨e,a,b⟩)
theorem IJ(h:(AW S).Nodup):(AW<|Bz S k).Nodup:=by rw[Ep];exact Fa h
theorem Sj(h:(AW S).Nodup):(AW<|If S k i).Nodup:=by
 unfold If;have:AW (Bz S k++[(k,i)])=Aq (AW S) k++[k]:=by rw[<- Ep];simp[AW]
 rw[this];exact RM h
theorem Hp(S:SL)(k:BA):AW (Cn S k)=AW S:=by
 unfold AW Cn;rw[map_map];refine List.map_congr_left λe _=>?_;simp only[Function.comp];split
 ·rename_i h;exact h.symm
 ·rfl
theorem ES{e:BA×Int}:e∈Cn S k↔(e∈S/\e.1≠k)\/(e=(k,3)/\k∈AW S):=by
 unfold Cn AW;simp only[mem_map];constructor
 ·rintro⟨a,b,rfl⟩;split
  ·rename_i h;exact .inr ⟨rfl,a,b,h⟩
  ·rename_i h;exact .inl ⟨b,h⟩
 ·rintro(⟨c,d⟩|⟨rfl,a,b,f⟩)
  ·exact⟨e,c,by rw[if_neg d]⟩
  ·exact⟨a,b,by rw[if_pos f]⟩
theorem Nq{a b:Int}(h:(AW S).Nodup)(d:(k,a)∈S)(e:(k,b)∈S):a=b:=by
 have f:AH S k=some a:=(BM h).2 d;have c:AH S k=some b:=(BM h).2 e;rw[f] at c;exact Option.some.inj c
theorem D6(h:(AW S).Nodup)(hi:i≠0):Kh S k=i↔(k,i)∈S:=by
 rw[<- BM (m:=S) h];unfold Kh AH;cases a:(S.find? λe=>decide<|e.1=k) with
 | none=>
  simp only[Option.map_none,Option.getD_none];constructor
  ·intro h;exact absurd h.symm hi
  ·intro h;cases h
 | some e=>simp
theorem EP(S:SL):(E2 S).Sublist S:=List.dropWhile_sublist _
theorem FB(S:SL):AB (E2 S) 1=AB S 1:=by
 induction S with
 | nil=>rfl
 | cons a S c=>
  unfold E2;rw[dropWhile_cons];split
  ·rename_i b;simp only[ne_eq,decide_not,Bool.not_eq_eq_eq_not,Bool.not_true,decide_eq_false_iff_not] at b;show AB (E2 S) 1=_;rw[c];unfold AB;rw[List.countP_cons_of_neg<|by simpa using b]
  ·rfl
theorem Mi(S:SL):C5 (E2 S) 1=C5 S 1:=by
 induction S with
 | nil=>rfl
 | cons a S c=>
  unfold E2;rw[dropWhile_cons];split
  ·rename_i b;simp only[ne_eq,decide_not,Bool.not_eq_eq_eq_not,Bool.not_true,decide_eq_false_iff_not] at b;show C5 (E2 S) 1=_;rw[c];unfold C5;rw[filter_cons_of_neg<|by simpa using b]
  ·rfl
theorem Sb{T:SL}(h:T.Sublist S)(i:Int):AB T i<=AB S i:=h.countP_le
theorem CQ(h:(AW S).Nodup)(i:Int):AB (Bz S k) i+(if (k,i)∈S then 1 else 0)=AB S i:=by
 induction S with
 | nil=>rfl
 | cons a S e=>
  unfold AW at h;rw[map_cons,nodup_cons] at h;have e:=e h.2;unfold Bz AB at e ⊢
  by_cases c:a.1=k
  ·have d:∀j,(k,j)∉S:=λj f=>h.1 (mem_map.2 ⟨_,f,c.symm⟩);rw[filter_cons_of_neg<|by simpa using c,countP_cons];rw[if_neg<|d i] at e;have b:(k,i)∈a::S↔a.2=i:=by
    rw[mem_cons];constructor
    ·rintro(h|h)
     ·rw[<- h]
     ·exact absurd h (d i)
    ·intro g;left;rw[<- c,<- g]
   simp only[b,decide_eq_true_eq];omega
  ·rw[filter_cons_of_pos<|by simpa using c,countP_cons,countP_cons];have b:(k,i)∈a::S↔(k,i)∈S:=by
    rw[mem_cons];constructor
    ·rintro(h|h)
     ·exact absurd (by rw[<- h]) c
     ·exact h
    ·exact .inr
   simp only[b];omega
theorem Md(j:Int):AB (If S k i) j=AB (Bz S k) j+(if i=j then 1 else 0):=by
 unfold If AB;rw[List.countP_append,countP_cons];simp
theorem Agg(h:(AW S).Nodup):AB (Cn S k) 1=AB (Bz S k) 1/\AB (Cn S k) 3<=AB S 3+1:=by
 induction S with
 | nil=>exact⟨rfl,by simp[AB,Cn]⟩
 | cons a S i=>
  unfold AW at h;rw[map_cons,nodup_cons] at h;obtain⟨d,j⟩:=i h.2
  by_cases b:a.1=k
  ·have c:k∉S.map (·.1):=by rw[<- b];exact h.1
   have l:Cn S k=S:=by
    unfold Cn
    conv=>rhs;rw[<- map_id S]
    refine List.map_congr_left λe m=>?_;rw[if_neg<|λn=>c<|mem_map.2 ⟨e,m,n⟩];rfl
   have o:Bz S k=S:=Sf c;have f:Cn (a::S) k=(k,3)::S:=by
    show(if a.1=k then (k,3) else a)::Cn S k=_;rw[if_pos b,l]
   have g:Bz (a::S) k=S:=by
    have:Bz (a::S) k=Bz S k:=by unfold Bz;rw[filter_cons_of_neg<|by simpa using b]
    rw[this,o]
   rw[f,g];unfold AB;rw[countP_cons,countP_cons,countP_cons];simp
  ·have f:Cn (a::S) k=a::Cn S k:=by
    show(if a.1=k then (k,3) else a)::Cn S k=_;rw[if_neg b]
   have g:Bz (a::S) k=a::Bz S k:=by
    unfold Bz;rw[filter_cons_of_pos<|by simpa using b]
   rw[f,g];unfold AB at *;constructor
   ·rw[countP_cons,countP_cons,d]
   ·rw[countP_cons,countP_cons];omega
theorem GI(h:CS S i=some k):(k,i)∈S:=by
 unfold CS at h;cases a:(S.find? λe=>decide<|e.2=i) with
 | none=>rw[a] at h;cases h
 | some e=>
  rw[a] at h;simp only[map_some,Option.some.injEq] at h;have c:=List.mem_of_find?_eq_some a;have b:=List.find?_some a;simp only[decide_eq_true_eq] at b;rw[<- h,<- b];exact c
theorem Ho:CS S i=none↔AB S i=0:=by
 unfold CS AB;rw[Option.map_eq_none_iff,find?_eq_none,List.countP_eq_zero]
theorem Mf:∀(n:Nat)(S:SL),(CT S n).Sublist S
 | 0,S=>List.Sublist.refl _
 | n+1,S=>by
  unfold CT;split
  ·exact(Mf n _).trans filter_sublist
  ·exact List.Sublist.refl _
theorem Me:∀(n:Nat)(S:SL),(AW S).Nodup->AB (CT S n) 3=AB S 3-n/\(∀e∈S,e.2≠3->e∈CT S n)
 | 0,S,_=>⟨by simp[CT],λe a _=>a⟩
 | n+1,S,h=>by
  unfold CT;split
  ·rename_i k c;have f:=GI c;have g:=CQ (k:=k) h 3;rw[if_pos f] at g;obtain⟨j,i⟩:=Me n (Bz S k) (IJ h);refine⟨by omega,λe a b=>i e (Co.2 ⟨a,λd=>?_⟩) b⟩;have:e.2=3:=Nq (k:=k) h (by rw[<- d];exact a) f
   exact b this
  ·rename_i c;have:=Ho.1 c;exact⟨by omega,λe a _=>a⟩
theorem JB:∀(n:Nat)(S:SL),(AW S).Nodup->C5 (CT S n) 1=C5 S 1/\AB (CT S n) 1=AB S 1
 | 0,S,_=>⟨rfl,rfl⟩
 | n+1,S,h=>by
  unfold CT;split
  ·rename_i k g;have i:=GI g;obtain⟨j,l⟩:=JB n (Bz S k) (IJ h);have b:∀e∈S,e.2=1->e.1≠k:=λe c a d=>by
    have:e.2=3:=Nq (k:=k) h (by rw[<- d];exact c) i;omega
   have f:(Bz S k).filter (λe=>decide<|e.2=1)=S.filter (λe=>decide<|e.2=1):=by
    unfold Bz;rw[List.filter_filter];refine List.filter_congr λe c=>?_
    by_cases a:e.2=1
    ·simp[a,b e c a]
    ·simp[a]
   rw[j,l];unfold C5 AB;rw[f,List.countP_eq_length_filter,List.countP_eq_length_filter,f];exact⟨rfl,rfl⟩
  ·exact⟨rfl,rfl⟩
theorem Si:k∈C5 S i↔(k,i)∈S:=by
 unfold C5;simp only[mem_map,mem_filter,decide_eq_true_eq];constructor
 ·rintro⟨e,⟨a,b⟩,rfl⟩;rw[<- b];exact a
 ·intro h;exact⟨_,⟨h,rfl⟩,rfl⟩
theorem Agk(S:SL)(i:Int):(C5 S i).length=AB S i:=by unfold C5 AB;rw[length_map,List.countP_eq_length_filter]
theorem Bj:k∈BP x↔k∈x.q\/(k,1)∈x.s:=by unfold BP;rw[mem_append,Si]
theorem JC(x:Bi):(BP x).length=CL x:=by unfold BP CL;rw[length_append,Agk]
theorem LW.res_nd(h:LW x):(BP x).Nodup:=by
 unfold BP;rw[nodup_append];refine⟨h.qn,?_,λa c b d a=>?_⟩
 ·exact h.sn.sublist (filter_sublist.map _)
 ·subst a;exact h.hotq _ (Si.1 d) rfl c
theorem LW.heat(h:LW x)(f:k.size<64):LW (DN x k):=by
 refine⟨Sj h.sn,Fa h.qn,λe a=>?_,λe a b=>?_,λe a b=>?_,λe a b=>?_,λe a=>?_,λy g=>h.qsm y (AO.1 g).1⟩
 ·rcases DG.1 a with⟨a,_⟩|rfl
  ·exact h.kinds e a
  ·exact .inl rfl
 ·rcases DG.1 a with⟨a,d⟩|rfl
  ·exact λc=>h.hotq e a b (AO.1 c).1
  ·exact λc=>(AO.1 c).2 rfl
 ·rcases DG.1 a with⟨a,d⟩|rfl
  ·exact λc=>h.ghq e a b (AO.1 c).1
  ·cases b
 ·rcases DG.1 a with⟨a,d⟩|rfl
  ·exact AO.2 ⟨h.coldq e a b,d⟩
  ·cases b
 ·rcases DG.1 a with⟨a,d⟩|rfl
  ·exact h.ssm e a
  ·exact f
theorem LW.chill(h:LW x)(g:k.size<64):LW (Ct x k):=by
 refine⟨Sj h.sn,RM h.qn,λe a=>?_,λe a c=>?_,λe a c=>?_,λe a c=>?_,λe a=>?_,λy d=>?_⟩
 ·rcases DG.1 a with⟨a,_⟩|rfl
  ·exact h.kinds e a
  ·exact .inr (.inl rfl)
 ·rcases DG.1 a with⟨a,f⟩|rfl
  ·intro b;rcases mem_append.1 b with b|b
   ·exact h.hotq e a c (AO.1 b).1
   ·exact f (mem_singleton.1 b)
  ·cases c
 ·rcases DG.1 a with⟨a,f⟩|rfl
  ·intro b;rcases mem_append.1 b with b|b
   ·exact h.ghq e a c (AO.1 b).1
   ·exact f (mem_singleton.1 b)
  ·cases c
 ·rcases DG.1 a with⟨a,f⟩|rfl
  ·exact mem_append_left _ (AO.2 ⟨h.coldq e a c,f⟩)
  ·exact mem_append_right _ (mem_singleton.2 rfl)
 ·rcases DG.1 a with⟨a,f⟩|rfl
  ·exact h.ssm e a
  ·exact g
 ·rcases mem_append.1 d with d|d
  ·exact h.qsm y (AO.1 d).1
  ·rw[mem_singleton] at d;subst d;exact g
theorem LW.sub(h:LW x){T:SL}(b:T.Sublist x.s):LW ⟨T,x.q⟩:=
 ⟨h.sn.sublist<|b.map _,h.qn,λe a=>h.kinds e<|b.subset a,λe a=>h.hotq e<|b.subset a,λe a=>h.ghq e<|b.subset a,λe a=>h.coldq e<|b.subset a,λe a=>h.ssm e<|b.subset a,h.qsm⟩
theorem LW.cool(h:LW x)(j:(k,1)∈x.s):LW ⟨Bz x.s k,x.q++[k]⟩:=by
 have m:=h.hotq _ j rfl;refine⟨IJ h.sn,?_,λe a=>h.kinds e (Co.1 a).1,λe a g c=>?_,λe a g c=>?_,λe a g=>mem_append_left _<|h.coldq e (Co.1 a).1 g,λe a=>h.ssm e (Co.1 a).1,λy f=>?_⟩
 ·rw[nodup_append];exact⟨h.qn,by simp,λa n b l i=>by rw[mem_singleton] at l;subst l;exact m (i ▸ n)⟩
 ·rcases mem_append.1 c with d|d
  ·exact h.hotq e (Co.1 a).1 g d
  ·exact(Co.1 a).2 (mem_singleton.1 d)
 ·rcases mem_append.1 c with d|d
  ·exact h.ghq e (Co.1 a).1 g d
  ·exact(Co.1 a).2 (mem_singleton.1 d)
 ·rcases mem_append.1 f with f|f
  ·exact h.qsm y f
  ·rw[mem_singleton] at f;subst f;exact h.ssm _ j
theorem LW.ghost{t:List BA}(h:LW x)(f:x.q=k::t):LW ⟨Cn x.s k,t⟩:=by
 have i:=h.qn;rw[f,nodup_cons] at i;have b:∀y∈t,y∈x.q:=λy j=>by rw[f];exact .tail _ j
 refine⟨by rw[Hp];exact h.sn,i.2,λe a=>?_,λe a c=>?_,λe a c=>?_,λe a c=>?_,λe a=>?_,λy j=>h.qsm y<|b y j⟩
 ·rcases ES.1 a with⟨a,_⟩|⟨rfl,_⟩
  ·exact h.kinds e a
  ·exact .inr (.inr rfl)
 ·rcases ES.1 a with⟨a,g⟩|⟨rfl,_⟩
  ·exact λd=>h.hotq e a c (b _ d)
  ·cases c
 ·rcases ES.1 a with⟨a,g⟩|⟨rfl,_⟩
  ·exact λd=>h.ghq e a c (b _ d)
  ·exact i.1
 ·rcases ES.1 a with⟨a,g⟩|⟨rfl,_⟩
  ·have:=h.coldq e a c;rw[f] at this;rcases mem_cons.1 this with d|d
   ·exact absurd d g
   ·exact d
  ·cases c
 ·rcases ES.1 a with⟨a,g⟩|⟨rfl,_⟩
  ·exact h.ssm e a
  ·exact h.qsm k (by rw[f];exact .head _)
theorem LW.rem(h:LW x)(k:BA):LW ⟨Bz x.s k,Aq x.q k⟩:=
 ⟨IJ h.sn,Fa h.qn,λe a=>h.kinds e (Co.1 a).1,λe a b c=>h.hotq e (Co.1 a).1 b (AO.1 c).1,λe a b c=>h.ghq e (Co.1 a).1 b (AO.1 c).1,
  λe a b=>AO.2 ⟨h.coldq e (Co.1 a).1 b,(Co.1 a).2⟩,λe a=>h.ssm e (Co.1 a).1,λy d=>h.qsm y (AO.1 d).1⟩
theorem Kk(x:Bi):BP (lPr x)=BP x:=by unfold BP lPr;rw[Mi]
theorem Mh(x:Bi):CL (lPr x)=CL x/\AB (lPr x).s 1=AB x.s 1/\AB (lPr x).s 3<=AB x.s 3:=by
 refine⟨?_,FB _,Sb (EP _) 3⟩;unfold CL lPr;rw[FB]
theorem Ajt(h:(AW x.s).Nodup):BP (lFp c x)=BP x/\CL (lFp c x)=CL x/\AB (lFp c x).s 1=AB x.s 1/\(0<=c->(AB (lFp c x).s 3:Int)<=c):=by
 obtain⟨b,a⟩:=JB ((AB x.s 3:Int)-c).toNat x.s h;obtain⟨e,_⟩:=Me ((AB x.s 3:Int)-c).toNat x.s h;have d:=Sb (EP<|II c x.s) 3;refine⟨?_,?_,?_,λhc=>?_⟩
 ·unfold BP lFp;rw[Mi];unfold II;rw[b]
 ·unfold CL lFp;rw[FB];unfold II;rw[a]
 ·unfold lFp;rw[FB];unfold II;rw[a]
 ·unfold lFp;unfold II at d ⊢;simp only;omega
theorem LW.fp(h:LW x):LW (lFp c x):=h.sub ((EP _).trans<|Mf _ _)
theorem LW.pr(h:LW x):LW (lPr x):=h.sub (EP _)
theorem Ng(h:LW x)(i:0<AB x.s 1):∃k,(k,1)∈x.s/\Nf x=⟨Bz x.s k,x.q++[k]⟩/\LW (Dp x)/\(∀y,y∈BP (Dp x)↔y∈BP x)/\CL (Dp x)=CL x/\AB (Dp x).s 1+1=AB x.s 1/\AB (Dp x).s 3<=AB x.s 3:=by
 cases c:CS x.s 1 with
 | none=>have:=Ho.1 c;omega
 | some k=>
  have b:=GI c;have a:Nf x=⟨Bz x.s k,x.q++[k]⟩:=by unfold Nf;rw[c]
  have e:=h.cool b;have f:=CQ (k:=k) h.sn 1;rw[if_pos b] at f;have g:=CQ (k:=k) h.sn 3;have j:=Sb (EP<|Bz x.s k) 3;refine⟨k,b,a,?_,λy=>?_,?_,?_,?_⟩
  ·unfold Dp;rw[a];exact e.sub (EP _)
  ·have:BP (Dp x)=BP ⟨Bz x.s k,x.q++[k]⟩:=by unfold Dp;rw[a];exact Kk ⟨Bz x.s k,x.q++[k]⟩
   rw[this,Bj,Bj];simp only[mem_append,mem_singleton,Co];constructor
   ·rintro((h|rfl)|h)
    ·exact .inl h
    ·exact .inr b
    ·exact .inr h.1
   ·rintro(h|h)
    ·exact .inl (.inl h)
    ·by_cases d:y=k
     ·exact .inl (.inr d)
     ·exact .inr ⟨h,d⟩
  ·unfold Dp CL;rw[a];simp only[FB,length_append,length_cons,length_nil];omega
  ·unfold Dp;rw[a];simp only[FB];omega
  ·unfold Dp;rw[a];simp only;split at g <;> omega
theorem Agh(h:LW x):(∀y,y∈BP (DN x k)↔y∈BP x\/y=k)/\AB (DN x k).s 1+(if (k,1)∈x.s then 1 else 0)=AB x.s 1+1/\CL (DN x k)+(if k∈BP x then 1 else 0)=CL x+1/\AB (DN x k).s 3<=AB x.s 3:=by
 have c:=CQ (k:=k) h.sn 1;have i:=CQ (k:=k) h.sn 3;have e:AB (DN x k).s 1=AB (Bz x.s k) 1+1:=by unfold DN;simp only;rw[Md];simp
 have j:AB (DN x k).s 3=AB (Bz x.s k) 3:=by unfold DN;simp only;rw[Md];simp
 refine⟨λy=>?_,by omega,?_,by omega⟩
 ·rw[Bj,Bj];unfold DN;simp only[AO,DG];constructor
  ·rintro(h|(h|h))
   ·exact .inl (.inl h.1)
   ·exact .inl (.inr h.1)
   ·exact .inr (by cases h;rfl)
  ·rintro(h|rfl)
   ·by_cases d:y=k
    ·subst d;exact .inr (.inr rfl)
    ·rcases h with h|h
     ·exact .inl ⟨h,d⟩
     ·exact .inr (.inl ⟨h,d⟩)
   ·exact .inr (.inr rfl)
 ·unfold CL;rw[e];have f:(DN x k).q=Aq x.q k:=rfl;rw[f]
  by_cases b:k∈x.q
  ·have g:=(C4 h.qn b).length_eq;simp only[length_cons] at g;rw[if_pos<|Bj.2<|.inl b];rw[if_neg<|λa=>h.hotq _ a rfl b] at c;omega
  ·rw[Ax b]
   by_cases a:(k,1)∈x.s
   ·rw[if_pos<|Bj.2<|.inr a];rw[if_pos a] at c;omega
   ·rw[if_neg<|λh=>(Bj.1 h).elim b a];rw[if_neg a] at c;omega
theorem Nh(h:LW x)(d:k.size<64)(m:0<=Dq c)(n:(AB x.s 1:Int)<=Dq c):LW (E1 c x k)/\(∀y,y∈BP (E1 c x k)↔y∈BP x\/y=k) /\
  CL (E1 c x k)+(if k∈BP x then 1 else 0)=CL x+1/\(AB (E1 c x k).s 1:Int)<=Dq c/\AB (E1 c x k).s 3<=AB x.s 3:=by
 obtain⟨a,e,f,g⟩:=Agh h (k:=k);have b:=h.heat (k:=k) d;unfold E1;split
 ·rename_i hc;obtain⟨j,o,p,i,l,q,r,t⟩:=Ng b (by omega);refine⟨i,λy=>(l y).trans<|a y,by omega,?_,by omega⟩;split at e <;> omega
 ·rename_i hc;exact⟨b,a,f,by omega,g⟩
theorem JA(h:LW x)(c:(k,1)∉x.s):(∀y,y∈BP (Ct x k)↔y∈BP x\/y=k)/\AB (Ct x k).s 1=AB x.s 1/\CL (Ct x k)+(if k∈BP x then 1 else 0)=CL x+1/\AB (Ct x k).s 3<=AB x.s 3:=by
 have d:=CQ (k:=k) h.sn 1;have i:=CQ (k:=k) h.sn 3;rw[if_neg c] at d;have e:AB (Ct x k).s 1=AB (Bz x.s k) 1:=by unfold Ct;simp only;rw[Md];simp
 have j:AB (Ct x k).s 3=AB (Bz x.s k) 3:=by unfold Ct;simp only;rw[Md];simp
 refine⟨λy=>?_,by omega,?_,by omega⟩
 ·rw[Bj,Bj];unfold Ct;simp only[mem_append,mem_singleton,AO,DG];constructor
  ·rintro((h|h)|(h|h))
   ·exact .inl (.inl h.1)
   ·exact .inr h
   ·exact .inl (.inr h.1)
   ·cases h
  ·rintro(h|rfl)
   ·by_cases b:y=k
    ·exact .inl (.inr b)
    ·rcases h with h|h
     ·exact .inl (.inl ⟨h,b⟩)
     ·exact .inr (.inl ⟨h,b⟩)
   ·exact .inl (.inr rfl)
 ·unfold CL;rw[e];have f:(Ct x k).q=Aq x.q k++[k]:=rfl;rw[f,length_append];simp only[length_cons,length_nil]
  by_cases a:k∈x.q
  ·have g:=(C4 h.qn a).length_eq;simp only[length_cons] at g;rw[if_pos<|Bj.2<|.inl a];omega
  ·rw[Ax a,if_neg<|λh=>(Bj.1 h).elim a c];omega
structure LEv(c:Int)(x y:Bi)(k:BA):Prop where
 ok:Pd c y
 sub:k∈BP x
 mem:∀z,z∈BP y↔z∈BP x/\z≠k
 len:CL y+1=CL x
theorem VA(h:Pd c x)(n:CL x≠0):(CE c x).1.2=true/\LEv c x (CE c x).2 (CE c x).1.1:=by
 have D:=h.c1;have v:∀y:Bi,LW y->(AB y.s 1:Int)<=Dq c->(∀z,z∈BP y↔z∈BP x)->CL y=CL x->y.q≠[]->LEv c x (lFp c ⟨Cn y.s<|y.q.headD ⟨#[]⟩,y.q.drop 1⟩) (y.q.headD ⟨#[]⟩):=by
  intro y d E A M e;obtain⟨k,t,b⟩:∃k t,y.q=k::t:=by
   cases o:y.q with
   | nil=>exact absurd o e
   | cons k t=>exact⟨k,t,rfl⟩
  have F:y.q.headD ⟨#[]⟩=k:=by rw[b];rfl
  have G:y.q.drop 1=t:=by rw[b];rfl
  rw[F,G];have f:=d.ghost b;have g:=Ajt (c:=c) (x:=⟨Cn y.s k,t⟩) f.sn;obtain⟨c1,c3⟩:=Agg (k:=k) d.sn;have c0:=CQ (k:=k) d.sn 1;have i:k∈y.q:=by rw[b];exact .head _
  have p:(k,(1:Int))∉y.s:=λH=>d.hotq _ H rfl i;rw[if_neg p] at c0;have B:CL ⟨Cn y.s k,t⟩+1=CL y:=by
   unfold CL;simp only;rw[b,length_cons];omega
  refine⟨⟨f.fp,h.c1,h.c2,?_,g.2.2.2<|by omega,?_⟩,(A k).1 (Bj.2<|.inl i),λz=>?_,?_⟩
  ·rw[g.2.2.1];simp only;omega
  ·rw[g.2.1];have:=h.len;omega
  ·rw[g.1,<- A z,Bj,Bj,b];have C:=d.qn;rw[b,nodup_cons] at C;simp only[ES,mem_cons];constructor
   ·rintro(a|(⟨a,r⟩|⟨a,_⟩))
    ·exact⟨.inl<|.inr a,λu=>C.1<|u ▸ a⟩
    ·exact⟨.inr a,r⟩
    ·cases a
   ·rintro⟨(rfl|a)|a,l⟩
    ·exact absurd rfl l
    ·exact .inl a
    ·exact .inr (.inl ⟨a,l⟩)
  ·rw[g.2.1];omega
 unfold CE;rw[if_neg n];refine⟨rfl,?_⟩;simp only;unfold Sc;split
 ·rename_i e;have m:0<AB x.s 1:=by unfold CL at n;rw[e] at n;simp at n;omega
  obtain⟨j,N,I,J,K,L,O,P⟩:=Ng h.w m;have E:=h.hots;exact v _ J (by omega) K L (by unfold Dp;rw[I];simp)
 ·rename_i e;exact v x h.w h.hots (λz=>Iff.rfl) rfl e
theorem Kj(a:1<=c):0<=Dq c/\Dq c<c:=by unfold Dq;omega
theorem Sa(h:Pd c x)(d:k.size<64):Pd c (FV c x k).2/\Bbu (BP x) (BP (FV c x k).2) k (FV c x k).1.1 (FV c x k).1.2:=by
 have t:=h.c1;have n:=Kj t;have C:=h.len;unfold FV;split
 ·rename_i e;dsimp only;have b:k∈BP x:=by
   rcases e with e|e
   ·exact Bj.2 (.inr<|(D6 h.w.sn<|by decide).1 e)
   ·exact Bj.2 (.inl e.1)
  obtain⟨u,f,i,j,v⟩:=Nh h.w d (c:=c) n.1 h.hots;obtain⟨A,B,H⟩:=Mh (E1 c x k);rw[if_pos b] at i;have I:=h.ghs;refine⟨⟨u.pr,h.c1,h.c2,by rw[B];exact j,by omega,by rw[A];omega⟩,⟨by simp[b],by simp,by simp,by simp,λ_=>rfl,λy=>?_⟩⟩
  rw[Kk,f];simp
 ·rename_i e;split
  ·rename_i q;dsimp only;have b:k∈BP x:=Bj.2 (.inl q);have l:(k,(1:Int))∉x.s:=λa=>h.w.hotq _ a rfl q;obtain⟨f,j,i,v⟩:=JA h.w l;obtain⟨A,B,H⟩:=Mh (Ct x k);rw[if_pos b] at i;have I:=h.ghs;refine⟨⟨(h.w.chill d).pr,h.c1,h.c2,by rw[B,j];exact h.hots,by omega,by rw[A];omega⟩,⟨by simp[b],by simp,by simp,by simp,λ_=>rfl,λy=>?_⟩⟩
   rw[Kk,f];simp
  ·rename_i q;have l:(k,(1:Int))∉x.s:=λa=>e (.inl<|(D6 h.w.sn<|by decide).2 a);have b:k∉BP x:=λa=>(Bj.1 a).elim q l;have hR:∃g y,Ie c x=(g,y)/\Pd c y/\(CL y:Int)<c/\(∀z∈g,z∈BP x)/\g.length<=1/\(∀z,z∈BP y↔z∈BP x/\z∉g):=by
    unfold Ie;split
    ·rename_i D;obtain⟨_,r⟩:=VA h (by omega);exact⟨_,_,rfl,r.ok,by have:=r.len;omega,λz d=>by rw[mem_singleton] at d;subst d;exact r.sub,by simp,λz=>by rw[r.mem,mem_singleton]⟩
    ·rename_i D;exact⟨_,_,rfl,h,by omega,by simp,by simp,by simp⟩
   obtain⟨g,y,J,o,D,E,K,F⟩:=hR;rw[J];simp only;have m:k∉BP y:=λa=>b ((F k).1 a).1;have p:(k,(1:Int))∉y.s:=λa=>m (Bj.2<|.inr a);have L:LW (TI c y k)/\(∀z,z∈BP (TI c y k)↔z∈BP y\/z=k)/\CL (TI c y k)=CL y+1/\(AB (TI c y k).s 1:Int)<=Dq c:=by
    unfold TI;split
    ·obtain⟨u,f,i,j,v⟩:=Nh o.w d (c:=c) n.1 o.hots;rw[if_neg m] at i;exact⟨u,f,by omega,j⟩
    ·obtain⟨f,j,i,v⟩:=JA o.w p;rw[if_neg m] at i;exact⟨o.w.chill d,f,by omega,by rw[j];exact o.hots⟩
   obtain⟨G,M,S,N⟩:=L;obtain⟨O,P,Q,R⟩:=Ajt (c:=c) G.sn;refine⟨⟨G.fp,h.c1,h.c2,by rw[Q];exact N,R<|by omega,by rw[P];omega⟩,⟨by simp[b],E,K,λa=>b<|E k a,λh=>(by cases h),λz=>?_⟩⟩
   rw[O,M,F]
theorem Bch(h:LW x):(decide (Kh x.s k=1) || decide (k∈x.q))=decide (k∈BP x):=by
 rw[Bool.eq_iff_iff];simp only[Bool.or_eq_true,decide_eq_true_eq];rw[Bj,D6 h.sn<|by decide];constructor
 ·rintro(h|h)
  ·exact .inr h
  ·exact .inl h
 ·rintro(h|h)
  ·exact .inr h
  ·exact .inl h
theorem VC(h:Pd c x)(o:k.size<64):Pd c (FW c x k).2/\(FW c x k).1=decide (k∉BP x/\((BP x).length:Int)<c)/\((FW c x k).1=true->∀z,z∈BP (FW c x k).2↔z∈BP x\/z=k)/\((FW c x k).1=false->(FW c x k).2=x):=by
 have f:=h.c1;have g:=Kj f;have p:=h.len;have r:=JC x;unfold FW;split
 ·rename_i a;refine⟨h,?_,λh=>by (cases h),λ_=>rfl⟩;symm;rw[decide_eq_false_iff_not,Bj];rintro⟨q,y⟩;rcases a with a|a|a
  ·exact q (.inr<|(D6 h.w.sn<|by decide).1 a)
  ·exact q (.inl a)
  ·omega
 ·rename_i a;have d:(k,(1:Int))∉x.s:=λb=>a (.inl<|(D6 h.w.sn<|by decide).2 b);have e:k∉BP x:=λb=>by
   rcases Bj.1 b with b|b
   ·exact a (.inr<|.inl b)
   ·exact d b
  have A:(CL x:Int)<c:=by
   have:¬(CL x:Int)=c:=λb=>a (.inr<|.inr b);omega
  have B:=h.ghs;dsimp only;split
  ·obtain⟨t,i,j,l,u⟩:=Nh h.w o (c:=c) g.1 h.hots;rw[if_neg e] at j;obtain⟨m,n,v⟩:=Mh (E1 c x k);refine⟨⟨t.pr,h.c1,h.c2,by rw[n];exact l,by omega,by rw[m];omega⟩,?_,λ_ z=>by rw[Kk,i],λh=>by cases h⟩
   symm;rw[decide_eq_true_eq];exact⟨e,by omega⟩
  ·obtain⟨i,l,j,u⟩:=JA h.w d;rw[if_neg e] at j;obtain⟨m,n,v⟩:=Mh (Ct x k);refine⟨⟨(h.w.chill o).pr,h.c1,h.c2,by rw[n,l];exact h.hots,by omega,by rw[m];omega⟩,?_,λ_ z=>by rw[Kk,i],λh=>by cases h⟩
   symm;rw[decide_eq_true_eq];exact⟨e,by omega⟩
theorem Acb(h:Pd c x):Pd c (Mj x k).2/\(Mj x k).1=decide (k∈BP x)/\((Mj x k).1=true->(∀z,z∈BP (Mj x k).2↔z∈BP x/\z≠k)/\(k,(3:Int))∉(Mj x k).2.s)/\((Mj x k).1=false->(Mj x k).2=x):=by
 have e:=h.c1;have d:=h.len;unfold Mj;split
 ·rename_i a;dsimp only;have f:k∈BP x:=by
   rcases a with a|a
   ·exact Bj.2 (.inr<|(D6 h.w.sn<|by decide).1 a)
   ·exact Bj.2 (.inl a)
  have g:=h.w.rem k;obtain⟨i,j,l⟩:=Mh ⟨Bz x.s k,Aq x.q k⟩;have c1:=CQ (k:=k) h.w.sn 1;have c3:=CQ (k:=k) h.w.sn 3;have n:=h.hots;have o:=h.ghs;have p:=Bq x.q k;refine⟨⟨g.pr,h.c1,h.c2,by rw[j];simp only;omega,by simp only at l;omega,?_⟩,by simp[f],λ_=>⟨λz=>?_,λm=>?_⟩,λh=>by cases h⟩
  ·rw[i];unfold CL at d ⊢;simp only;omega
  ·rw[Kk,Bj,Bj];simp only[AO,Co];constructor
   ·rintro(h|h)
    ·exact⟨.inl h.1,h.2⟩
    ·exact⟨.inr h.1,h.2⟩
   ·rintro⟨h|h,b⟩
    ·exact .inl ⟨h,b⟩
    ·exact .inr ⟨h,b⟩
  ·have:=(EP _).subset m;exact(Co.1 this).2 rfl
 ·rename_i a;refine⟨h,?_,λh=>by (cases h),λ_=>rfl⟩;symm;rw[decide_eq_false_iff_not,Bj];rintro(b|b)
  ·exact a (.inr b)
  ·exact a (.inl<|(D6 h.w.sn<|by decide).2 b)
theorem Bci(a:1<=c)(b:c<=1024):Pd c FY:=by
 have:=Kj a;exact⟨⟨by simp[FY,AW],by simp[FY],by simp[FY],by simp[FY],by simp[FY],by simp[FY],by simp[FY],by simp[FY]⟩,a,b,by simp only[FY,AB,countP_nil];omega,by simp only[FY,AB,countP_nil];omega,by simp only[FY,CL,AB,countP_nil,length_nil];omega⟩
end
end Go.Hb
namespace Go.Hb
abbrev DY:=List (Nat×BA)
def AQ(row:DY)(k:BA):Int:=((row.find? λe=>decide<|e.2=k).map λe=>(e.1:Int)).getD 0
def Dv(row:DY)(k:BA):DY:=row.filter λe=>decide (e.2≠k)
theorem H4(row:DY)(k:BA):(Dv row k).map (·.2)=Aq (row.map (·.2)) k:=by unfold Dv Aq;rw[List.filter_map];rfl
theorem IS{row:DY}{k:BA}(h:k∉row.map (·.2)):AQ row k=0:=by
 unfold AQ;have:(row.find? λe=>decide<|e.2=k)=none:=by
  rw[find?_eq_none];intro e a;simp only[decide_eq_true_eq];intro b;exact h (mem_map.2 ⟨e,a,b⟩)
 rw[this];rfl
theorem M6{row:DY}{k key:BA}(h:k≠key):AQ (Dv row key) k=AQ row k:=by
 unfold AQ Dv;rw[List.find?_filter];congr 2;apply congrFun;apply congrArg;funext e
 by_cases a:e.2=k
 ·simp[a,h]
 ·simp[a]
theorem Wj{row:DY}{key:BA}:AQ (Dv row key) key=0:=IS (by rw[H4];exact λh=>(AO.1 h).2 rfl)
theorem TO{row:DY}{k key:BA}{h:Nat}(a:k≠key):AQ (row++[(h,key)]) k=AQ row k:=by
 unfold AQ;rw[find?_append];have:([(h,key)].find? λe=>decide<|e.2=k)=none:=by simp[Ne.symm a]
 rw[this,or_none]
theorem Ag3{row:DY}{key:BA}{h:Nat}(a:key∉row.map (·.2)):AQ (row++[(h,key)]) key=(h:Int):=by
 unfold AQ;rw[find?_append];have:(row.find? λe=>decide<|e.2=key)=none:=by
  rw[find?_eq_none];intro e b;simp only[decide_eq_true_eq];intro c;exact a (mem_map.2 ⟨e,b,c⟩)
 rw[this];simp
theorem Awt{row:DY}{k:BA}(b:(row.map (·.2)).Nodup){i:Nat}{e:Nat×BA}(h:row[i]? = some e)(d:e.2=k):AQ row k=(e.1:Int):=by
 induction row generalizing i with
 | nil=>simp at h
 | cons a row f=>
  rw[map_cons,nodup_cons] at b;cases i with
  | zero=>
   simp only[getElem?_cons_zero,Option.some.injEq] at h;subst h;unfold AQ;rw[find?_cons_of_pos<|by simpa using d];rfl
  | succ i=>
   simp only[List.getElem?_cons_succ] at h;have c:a.2≠k:=λg=>b.1 (mem_map.2 ⟨e,mem_of_getElem? h,by rw[d,g]⟩);have:=f b.2 h;unfold AQ at this ⊢;rw[find?_cons_of_neg<|by simpa using c];exact this
theorem All{row:DY}{k:BA}(b:(row.map (·.2)).Nodup){i:Nat}{e:Nat×BA}(h:row[i]? = some e)(c:e.2=k):row.eraseIdx i=Dv row k:=by
 induction row generalizing i with
 | nil=>simp at h
 | cons a row g=>
  rw[map_cons,nodup_cons] at b;cases i with
  | zero=>
   simp only[getElem?_cons_zero,Option.some.injEq] at h;subst h;have j:Dv row k=row:=by
    unfold Dv;rw[filter_eq_self];intro x l;exact decide_eq_true λd=>b.1 (mem_map.2 ⟨x,l,by rw[d,c]⟩)
   unfold Dv;rw[filter_cons_of_neg<|by simpa using c];exact j.symm
  | succ i=>
   simp only[List.getElem?_cons_succ] at h;have f:a.2≠k:=λm=>b.1 (mem_map.2 ⟨e,mem_of_getElem? h,by rw[c,m]⟩);have:=g b.2 h;unfold Dv at this ⊢;rw[filter_cons_of_pos<|by simpa using f,List.eraseIdx_cons_succ,this]
theorem Apc{row:DY}{k:BA}(h:k∉row.map (·.2)):Dv row k=row:=by
 unfold Dv;rw[filter_eq_self];intro x b;exact decide_eq_true λa=>h (mem_map.2 ⟨x,b,a⟩)
theorem Ban{row:DY}{k:BA}(g:(row.map (·.2)).Nodup)(h:(row.map (·.1)).Nodup)(j:∀e∈row,0<e.1) :
  (match Ko row (AQ row k) with|some i=>row.eraseIdx i|none=>row)=Dv row k/\((Ko row<|AQ row k).isSome=decide (k∈row.map (·.2))):=by
 by_cases a:k∈row.map (·.2)
 ·obtain⟨e,c,b⟩:=mem_map.1 a;obtain⟨i,hi,d⟩:=List.mem_iff_getElem.1 c;have f:row[i]? = some e:=by rw[getElem?_eq_getElem hi,d]
  have l:=Awt g f b;have m:=Lj h f;rw[l,m];exact⟨All g f b,by simp[a]⟩
 ·rw[IS a];have:Ko row 0=none:=by
   rw[Adb];intro e c;have:=j e c;omega
  rw[this];exact⟨(Apc a).symm,by simp[a]⟩
theorem Kl{W w:World}{M:List HP}{b:Nat}{row:DY}{free:List Nat}(h:Ab W w (lst .s b row free::M)):(row.map (·.1)).Nodup/\∀e∈row,0<e.1:=by
 refine⟨Ii h,λe a=>?_⟩;obtain⟨s,f,ls,hi,_⟩:=E9 h;have c:e.1∈(Gb Value.string row).map (·.1):=by rw[SN];exact mem_map.2 ⟨e,a,rfl⟩
 exact((hi.all e.1).1 (.inl c)).1
abbrev LE:=Int×Int×Int
def lK(S:SL)(q:List BA)(k:BA):Int:=if k∈AW S then Kh S k else if k∈q then 2 else 0
abbrev LM:=List (BA×LE)
def lG(m:LM)(k:BA):LE:=(AH m k).getD (0,0,0)
theorem A9z{m:LM}(f:(m.map (·.1)).Nodup)(key:BA)(n:LE)(k:BA):lG (Cw m key n) k=if k=key then n else lG m k:=by
 have l:∀x,(x,lG (Cw m key n) x)=(x,lG (Cw m key n) x):=λ_=>rfl;unfold lG;have c:((Cw m key n).map (·.1)).Nodup:=by
  unfold Cw;split
  ·rw[Nn];exact f
  ·rename_i h;rw[map_cons,nodup_cons];refine⟨λg=>?_,f⟩;obtain⟨e,b,j⟩:=mem_map.1 g;exact BC.1 h e b j
 by_cases d:k=key
 ·subst d;rw[if_pos rfl];have:AH (Cw m k n) k=some n:=by
   rw[BM c];unfold Cw;split
   ·rename_i u o;unfold Fm;exact mem_map.2 ⟨(k,u),(BM f).1 o,by simp⟩
   ·exact .head _
  rw[this];rfl
 ·rw[if_neg d];congr 1;cases i:AH m k with
  | none=>
   rw[BC] at i ⊢;intro e b;unfold Cw at b;split at b
   ·unfold Fm at b;obtain⟨a,p,rfl⟩:=mem_map.1 b;split
    ·exact Ne.symm d
    ·exact i a p
   ·rcases mem_cons.1 b with rfl|b
    ·exact Ne.symm d
    ·exact i e b
  | some v=>
   rw[BM c];have g:=(BM f).1 i;unfold Cw;split
   ·unfold Fm;exact mem_map.2 ⟨(k,v),g,by simp[d]⟩
   ·exact .tail _ g
theorem Ags{m:LM}(b:(m.map (·.1)).Nodup)(key:BA)(n:LE):((Cw m key n).map (·.1)).Nodup:=by
 unfold Cw;split
 ·rw[Nn];exact b
 ·rename_i h;rw[map_cons,nodup_cons];refine⟨λc=>?_,b⟩;obtain⟨e,d,a⟩:=mem_map.1 c;exact BC.1 h e d a
theorem A9y{m:LM}(f:(m.map (·.1)).Nodup)(key:BA)(k:BA):lG (BU m key) k=if k=key then (0,0,0) else lG m k:=by
 unfold lG;have a:((BU m key).map (·.1)).Nodup:=f.sublist (filter_sublist.map _)
 by_cases b:k=key
 ·subst b;rw[if_pos rfl];have:AH (BU m k) k=none:=by
   rw[BC];intro e c;simpa using(mem_filter.1 c).2
  rw[this];rfl
 ·rw[if_neg b];congr 1;cases d:AH m k with
  | none=>
   rw[BC] at d ⊢;intro e c;exact d e (mem_filter.1 c).1
  | some v=>
   rw[BM a];exact mem_filter.2 ⟨(BM f).1 d,by simpa using b⟩
def Sg(m:LM)(key:BA)(n:LE):LM:=if n.1=0 then BU m key else Cw m key n
structure LX(N:Nat)(x:Bi)(sr:DY)(sf:List Nat)(qr:DY)(qf:List Nat)(m:LM):Prop where
 w:LW x
 sk:sr.map (·.2)=AW x.s
 qk:qr.map (·.2)=x.q
 ent:∀k,lG m k=(lK x.s x.q k,AQ sr k,AQ qr k)
 mn:(m.map (·.1)).Nodup
 msm:∀e∈m,e.1.size<4611686018427387904
 ns:sr.length+sf.length<=N
 nq:qr.length+qf.length<=N
 nz:∀e∈m,e.2.1≠0
def T9(N:Nat)(x:Bi):Prop:=x.s.length+1<=N/\x.q.length+1<=N
section
variable{N:Nat}{x y:Bi}{sr sr' qr qr':DY}{sf sf' qf qf':List Nat}{m:LM}{key:BA}
theorem EC:∀{a b:List BA},a.Nodup->(∀k∈a,k∈b)->a.length<=b.length
 | [],_,_,_=>by simp
 | k::a,b,c,hs=>by
  rw[nodup_cons] at c;have e:∀j∈a,j∈Aq b k:=λj d=>AO.2 ⟨hs j<|.tail _ d,λh=>c.1<|by rw[<- h];exact d⟩
  have f:=EC c.2 e;have g:(Aq b k).length<b.length:=List.length_filter_lt_length_iff_exists.2 ⟨k,hs k<|.head _,by simp⟩;simp only[length_cons];omega
theorem LX.nm(h:LX N x sr sf qr qf m):m.length<=N+N:=by
 have f:(m.map (·.1)).length<=(sr.map (·.2)++qr.map (·.2)).length:=by
  refine EC h.mn λk g=>?_;obtain⟨e,d,rfl⟩:=mem_map.1 g;have i:lG m e.1=e.2:=by unfold lG;rw[(BM h.mn).2 d];rfl
  have c:=h.nz e d;rw[<- i,h.ent] at c;simp only at c;rw[mem_append,h.sk,h.qk];unfold lK at c
  by_cases a:e.1∈AW x.s
  ·exact .inl a
  ·rw[if_neg a] at c
   by_cases b:e.1∈x.q
   ·exact .inr b
   ·rw[if_neg b] at c;exact absurd rfl c
 have:=h.ns;have:=h.nq
 simp only[length_map,length_append] at f;omega
theorem LX.upd(h:LX N x sr sf qr qf m)(j:LW y)(f:sr'.map (·.2)=AW y.s)(g:qr'.map (·.2)=y.q)(u:key.size<64){n:LE}{N':Nat}
  (d:∀k,k≠key->lK y.s y.q k=lK x.s x.q k/\AQ sr' k=AQ sr k/\AQ qr' k=AQ qr k) (l:n=(lK y.s y.q key,AQ sr' key,AQ qr' key)) (r:n.1=0->n=(0,0,0))
  (o:sr'.length+sf'.length<=N') (p:qr'.length+qf'.length<=N'):LX N' y sr' sf' qr' qf' (Sg m key n):=by
 unfold Sg;split
 ·rename_i i;refine⟨j,f,g,λk=>?_,h.mn.sublist<|filter_sublist.map _,JH (P:=λk=>k.size<4611686018427387904) h.msm,o,p,λe c=>h.nz e (mem_filter.1 c).1⟩;rw[A9y h.mn];split
  ·rename_i b;rw[b,<- l,r i]
  ·rename_i b;rw[h.ent,(d k b).1,(d k b).2.1,(d k b).2.2]
 ·refine⟨j,f,g,λk=>?_,Ags h.mn _ _,VK (P:=λk=>k.size<4611686018427387904) h.msm<|by omega,o,p,λe c=>?_⟩;rotate_left
  ·unfold Cw at c;split at c
   ·unfold Fm at c;obtain⟨a,t,rfl⟩:=mem_map.1 c;split
    ·assumption
    ·exact h.nz a t
   ·rcases mem_cons.1 c with rfl|c
    ·assumption
    ·exact h.nz e c
  rw[A9z h.mn];split
  ·rename_i b;rw[b,<- l]
  ·rename_i b;rw[h.ent,(d k b).1,(d k b).2.1,(d k b).2.2]
theorem Sd{S:SL}{k:BA}(a:k≠key):Kh (Bz S key) k=Kh S k:=by
 unfold Kh Bz;rw[List.find?_filter];congr 2;apply congrFun;apply congrArg;funext e
 by_cases h:e.1=k
 ·simp[h,a]
 ·simp[h]
theorem Ab8{S:SL}{k:BA}{i:Int}(a:k≠key):Kh (S++[(key,i)]) k=Kh S k:=by
 unfold Kh;rw[find?_append];have:([(key,i)].find? λe=>decide<|e.1=k)=none:=by simp[Ne.symm a]
 rw[this,or_none]
theorem Yc{S:SL}{k:BA}(c:k≠key):Kh (Cn S key) k=Kh S k:=by
 unfold Kh Cn;rw[List.find?_map]
 induction S with
 | nil=>rfl
 | cons a S d=>
  by_cases b:a.1=k
  ·rw[find?_cons_of_pos<|by simp[b,c],find?_cons_of_pos<|by simpa using b];simp[b,c]
  ·rw[find?_cons_of_neg,find?_cons_of_neg<|by simpa using b]
   ·exact d
   ·simp only[Function.comp];split
    ·simpa using Ne.symm c
    ·simpa using b
theorem TG{S:SL}{k:BA}(a:k≠key):k∈AW (Bz S key)↔k∈AW S:=by rw[Ep,AO];exact⟨λh=>h.1,λh=>⟨h,a⟩⟩
theorem Agj{S:SL}{i:Int}:AW (S++[(key,i)])=AW S++[key]:=by simp[AW]
theorem Avm{S c:SL}{q d:List BA}{k:BA}(e:k∈AW c↔k∈AW S)(g:Kh c k=Kh S k)(f:k∈d↔k∈q):lK c d k=lK S q k:=by
 unfold lK
 by_cases a:k∈AW S
 ·rw[if_pos a,if_pos<|e.2 a,g]
 ·rw[if_neg a,if_neg<|λh=>a<|e.1 h]
  by_cases b:k∈q
  ·rw[if_pos b,if_pos<|f.2 b]
  ·rw[if_neg b,if_neg<|λh=>b<|f.1 h]
theorem A40(S:SL)(i:Int):Kh (If S key i) key=i:=by
 unfold If Kh;rw[find?_append];have:(Bz S key).find? (λe=>decide<|e.1=key)=none:=by
  rw[find?_eq_none];intro e a;simpa using(Co.1 a).2
 rw[this];simp
theorem Ki(S:SL)(i:Int):AW (If S key i)=Aq (AW S) key++[key]:=by unfold If;rw[Agj,Ep]
theorem Ye(S:SL)(q:List BA)(i:Int):lK (If S key i) q key=i:=by
 unfold lK;rw[if_pos<|by rw[Ki];simp,A40]
theorem VB{S:SL}{q b:List BA}{i:Int}{k:BA}(a:k≠key)(c:k∈b↔k∈q):lK (If S key i) b k=lK S q k:=
 Avm (by
  rw[Ki,mem_append,mem_singleton,AO];constructor
  ·exact λh=>h.elim (λh=>h.1) (λh=>absurd h a)
  ·exact λh=>.inl ⟨h,a⟩) (by unfold If;rw[Ab8 a,Sd a]) c
theorem Nj{S:SL}{q a:List BA}{k:BA}(b:k≠key)(c:k∈a↔k∈q):lK (Bz S key) a k=lK S q k:=Avm (TG b) (Sd b) c
theorem KY(S:SL)(q:List BA):lK (Bz S key) q key=if key∈q then 2 else 0:=by
 unfold lK;rw[if_neg<|by rw[Ep];exact λh=>(AO.1 h).2 rfl]
theorem Gs{q:List BA}{k:BA}(a:k≠key):k∈Aq q key↔k∈q:=by rw[AO];exact⟨λh=>h.1,λh=>⟨h,a⟩⟩
theorem OW{q:List BA}{k:BA}(a:k≠key):k∈q++[key]↔k∈q:=by
 rw[mem_append,mem_singleton];exact⟨λh=>h.elim id λh=>absurd h a,.inl⟩
theorem Ah1(row:DY)(k:BA):k∉(Dv row k).map (·.2):=by rw[H4];exact λh=>(AO.1 h).2 rfl
theorem Ni(h:LW x)(k:BA):lK x.s x.q k=1↔(k,(1:Int))∈x.s:=by
 unfold lK
 by_cases a:k∈AW x.s
 ·rw[if_pos a];exact D6 h.sn (by decide)
 ·rw[if_neg a];have b:(k,(1:Int))∉x.s:=λc=>a (mem_map.2 ⟨_,c,rfl⟩);constructor
  ·intro h;split at h <;> omega
  ·intro h;exact absurd h b
theorem Mg(h:LW x)(k:BA):lK x.s x.q k=3↔(k,(3:Int))∈x.s:=by
 unfold lK
 by_cases a:k∈AW x.s
 ·rw[if_pos a];exact D6 h.sn (by decide)
 ·rw[if_neg a];have b:(k,(3:Int))∉x.s:=λc=>a (mem_map.2 ⟨_,c,rfl⟩);constructor
  ·intro h;split at h <;> omega
  ·intro h;exact absurd h b
theorem KZ(h:LW x)(k:BA):lK x.s x.q k=2↔k∈x.q:=by
 unfold lK
 by_cases a:k∈AW x.s
 ·rw[if_pos a,D6 h.sn<|by decide];constructor
  ·intro f;exact h.coldq _ f rfl
  ·intro c;obtain⟨e,d,rfl⟩:=mem_map.1 a;rcases h.kinds e d with b|b|b
   ·exact absurd c (h.hotq e d b)
   ·rw[<- b];exact d
   ·exact absurd c (h.ghq e d b)
 ·rw[if_neg a];constructor
  ·intro h;split at h
   ·rename_i c;exact c
   ·omega
  ·intro h;rw[if_pos h]
theorem Avn(h:LW x)(k:BA):lK x.s x.q k=0\/lK x.s x.q k=1\/lK x.s x.q k=2\/lK x.s x.q k=3:=by
 unfold lK
 by_cases a:k∈AW x.s
 ·rw[if_pos a];obtain⟨e,c,rfl⟩:=mem_map.1 a;have:Kh x.s e.1=e.2:=(D6 h.sn<|by rcases h.kinds e c with b|b|b <;> omega).2 c
  rw[this];rcases h.kinds e c with b|b|b <;> simp[b]
 ·rw[if_neg a];split <;> simp
theorem Ic(S:SL)(k:BA):Bz (Bz S k) k=Bz S k:=Sf (by rw[Ep];exact λh=>(AO.1 h).2 rfl)
theorem Ab9(S:SL)(k:BA)(i:Int):Bz (If S k i) k=Bz S k:=by
 have a:Bz (If S k i) k=Bz (Bz S k) k++Bz [(k,i)] k:=by unfold If Bz;rw[List.filter_append]
 rw[a,Ic];simp[Bz]
theorem Se(S:SL)(k:BA):Bz (Cn S k) k=Bz S k:=by
 unfold Bz Cn
 induction S with
 | nil=>rfl
 | cons a S b=>
  rw[map_cons]
  by_cases h:a.1=k
  ·rw[if_pos h,filter_cons_of_neg<|by simp,filter_cons_of_neg<|by simpa using h,b]
  ·rw[if_neg h,filter_cons_of_pos<|by simpa using h,filter_cons_of_pos<|by simpa using h,b]
theorem A7x(a:LW x)(b:LW y)(h:Bz y.s key=Bz x.s key) :
  (AB x.s 1:Int)+(if lK x.s x.q key=1 then -1 else 0)+(if lK y.s y.q key=1 then 1 else 0)=(AB y.s 1:Int)/\(AB x.s 3:Int)+(if lK x.s x.q key=3 then -1 else 0)+(if lK y.s y.q key=3 then 1 else 0)=(AB y.s 3:Int):=by
 have d:=CQ (k:=key) a.sn 1;have e:=CQ (k:=key) a.sn 3;have b1:=CQ (k:=key) b.sn 1;have c:=CQ (k:=key) b.sn 3;rw[h] at b1 c;simp only[Ni a,Mg a,Ni b,Mg b];constructor
 ·split <;> split <;> simp_all <;> omega
 ·split <;> split <;> simp_all <;> omega
structure Iy(row:DY)(free:List Nat)(key:BA)(row':DY)(free':List Nat):Prop where
 keys:row'.map (·.2)=Aq (row.map (·.2)) key
 ne:∀k,k≠key->AQ row' k=AQ row k
 at0:AQ row' key=0
 len:row'.length+free'.length<=row.length+free.length
structure Iz(row:DY)(free:List Nat)(key:BA)(row':DY)(free':List Nat):Prop where
 keys:row'.map (·.2)=Aq (row.map (·.2)) key++[key]
 ne:∀k,k≠key->AQ row' k=AQ row k
 len:row'.length+free'.length<=max (row.length+free.length) (row.length+1)
end
abbrev LXs:=(Nat×Nat×Nat)×(DY×List Nat×DY×List Nat×LM)
def A8c(c:Int)(s:Nat×Nat×Nat)(h g:Int):List Value:=[.i c,.i<|Dq c,pq s.1 0,pq s.2.1 0,pq s.2.2 0,.i h,.i g]
abbrev eB(b:Nat)(c:Int)(sb qb xb:Nat)(h g:Int):HP:=blk b [.i c,.i<|Dq c,pq sb 0,pq qb 0,pq xb 0,.i h,.i g]
def lirR(b:Nat)(c:Int)(N:Nat)(x:Bi):HP:=Ly λ(z:LXs)=>Fs (LX N x z.2.1 z.2.2.1 z.2.2.2.1 z.2.2.2.2.1 z.2.2.2.2.2)
 (AN [blk b<|A8c c z.1 (AB x.s 1)<|AB x.s 3,lst .s z.1.1 z.2.1 z.2.2.1,lst .s z.1.2.1 z.2.2.2.1 z.2.2.2.2.1,ixr Ap.iii z.1.2.2 0 z.2.2.2.2.2])
section
variable{W w:World}{M L:List HP}{b:Nat}{c:Int}{N:Nat}{x:Bi}
instance At.lirR:At (lirR b c N x::L) b (lirR b c N x) (λx=>x::L):=⟨E7⟩
theorem Cf(h:Ab W w (lirR b c N x::M)):∃(sb qb xb:Nat) (sr:DY) (sf:List Nat) (qr:DY) (qf:List Nat) (m:LM),LX N x sr sf qr qf m /\
  Ab W w (blk b [.i c,.i<|Dq c,pq sb 0,pq qb 0,pq xb 0,.i<|AB x.s 1,.i<|AB x.s 3]::lst .s sb sr sf::lst .s qb qr qf::ixr Ap.iii xb 0 m::M):=by
 obtain⟨⟨⟨sb,qb,xb⟩,⟨sr,sf,qr,qf,m⟩⟩,h⟩:=h.openE;obtain⟨hi,h⟩:=h.openA;exact⟨sb,qb,xb,sr,sf,qr,qf,m,hi,h.openL⟩
theorem Cu{sb qb xb:Nat}{sr:DY}{sf:List Nat}{qr:DY}{qf:List Nat}{m:LM}{a d:Int}(hi:LX N x sr sf qr qf m)(e:a=AB x.s 1)(f:d=AB x.s 3)
  (h:Ab W w (blk b [.i c,.i<|Dq c,pq sb 0,pq qb 0,pq xb 0,.i a,.i d]::lst .s sb sr sf::lst .s qb qr qf::ixr Ap.iii xb 0 m::M)) :
  Ab W w (lirR b c N x::M):=by
 subst e f;exact Ab.shutE ((sb,qb,xb),(sr,sf,qr,qf,m)) (Ab.shutA hi<|Ab.shutL (Ps:=[_,_,_,_]) h)
theorem LX.more{N':Nat}{sr:DY}{sf:List Nat}{qr:DY}{qf:List Nat}{m:LM}(h:LX N x sr sf qr qf m)(a:N<=N'):LX N' x sr sf qr qf m:=
 ⟨h.w,h.sk,h.qk,h.ent,h.mn,h.msm,le_trans h.ns a,le_trans h.nq a,h.nz⟩
theorem E8{N':Nat}(h:Ab W w (lirR b c N x::M))(a:N<=N'):Ab W w (lirR b c N' x::M):=by
 obtain⟨sb,qb,xb,sr,sf,qr,qf,m,hi,h⟩:=Cf h;exact Cu (hi.more a) rfl rfl h
theorem Sp(h:Ab W w (lirR b c N x::M)):LW x/\x.s.length<=N/\x.q.length<=N:=by
 obtain⟨sb,qb,xb,sr,sf,qr,qf,m,hi,h⟩:=Cf h;have a:=congrArg length hi.sk;have d:=congrArg length hi.qk;have:=hi.ns;have:=hi.nq
 simp only[length_map,AW] at a d;exact⟨hi.w,by omega,by omega⟩
end
end Go.Hb
namespace Go.Proofs.YtjipofkjmmpjdaaGreat
open Go.Hb
theorem A51{W w:World}{L:List HP}{F:HP->List HP}{s:Sl}{b:List BA}(h:Ab W w L)[hA:K5 L s (recs Ap.str s b) F](i:b.length<4611686018427387904) :
  Ai PR 112 #[.slice s.a s.n s.c] w λe w'=>e = .returned (.tuple #[])/\Ab W w' (F<|recs Ap.str s<|Fq b):=
 An8 (hA:=hA) (λd f cap j w k l hs=>λC g=>g.prim _ _ _ _ _ ⟨rfl,.inr<|.inl ⟨rfl,.inr ⟨d,f,cap,j,rfl,k,l,hs,rfl,0,#[],by simp[Go.Sort.grow,Go.Sort.ahead];rfl⟩⟩⟩) (λcap w=>λC g=>g.prim _ _ _ _ _ ⟨rfl,.inr<|.inl ⟨rfl,.inl ⟨cap,rfl,rfl,rfl⟩⟩⟩) h i
end Go.Proofs.YtjipofkjmmpjdaaGreat
namespace Go.Hb
instance {s:Int} {k:BA} {x0:Int} {x1:Int} {x2:Int}:N2 (C7 Ap.iii) [.i s,.s k,.i x0,.i x1,.i x2] ⟨s,k,(x0,x1,x2)⟩:=⟨rfl⟩
end Go.Hb
namespace Go.Proofs.YtjipofkjmmpjdaaGreat
open Go.Hb Go.IntWalk
section
variable{W w:World}{L M:List HP}{F:HP->List HP}{b:Nat}{seed:Int}{m:List (BA×(Int×Int×Int))}{s:Sl}{ps:List (Pl (Int×Int×Int))}{n1 u1:Int}
theorem FL{st:BA->Nat}{k:BA}(E:st=A2 seed ps.length)(O:k.size<4611686018427387904)(G:0<ps.length/\ps.length<4611686018427387904)(g:∃e,e<ps.length/\B0 ps ((st k+e) % ps.length)=0)
  (hs:Ab W w (blk b [.int .u64 seed,.l s.a s.n s.c,.i n1,.i u1]::recs (C7 Ap.iii) s ps::M)) :
  Ai PR 292 #[pq b 0,.s k] w λe w'=>e = .returned (.tuple #[.i ((AK st ps k).1:Int),.b (AK st ps k).2])/\Ab W w' (blk b [.int .u64 seed,.l s.a s.n s.c,.i n1,.i u1]::recs (C7 Ap.iii) s ps::M):=by
 refine c1 (cw ⟨mixed,func292,rfl⟩ As4 ?_);have H:=(BE (s:=s) hs HQ.pos).1;refine An [blk b [.int .u64 seed,.l s.a s.n s.c,.i n1,.i u1]] hs λw hs=>?_
 repeat (first|with_reducible refine Aa ?_|((with_reducible refine Cm ?_);first|refine Au ?_|fail)|fail)
 refine Ao (Hl hs O) λe w ⟨p,hs⟩=>⟨_,p,?_⟩
 repeat (first|((with_reducible refine Bk ?_);first|refine Ag hs ?_|fail)|fail)
 refine Ao (GR (n:=s.n) hs (GH _ _).1 (by omega) (by omega)) λe w ⟨p,hs⟩=>⟨_,p,?_⟩;have P:(Fw seed k).toNat % s.n=A2 seed ps.length k:=by rw[H,Kw]
 rw[P];have y:∀(f:Nat)(free:Option Nat)(i:Nat)(w:World),i<ps.length->(∃e,e<f/\B0 ps ((i+e) % ps.length)=0)->Ab W w (blk b [.int .u64 seed,.l s.a s.n s.c,.i n1,.i u1]::recs (C7 Ap.iii) s ps::M) ->
   Qy AU (λv w'=>v = .tuple #[.i ((AF ps k f free i).1:Int),.b (AF ps k f free i).2]/\Ab W w' (blk b [.int .u64 seed,.l s.a s.n s.c,.i n1,.i u1]::recs (C7 Ap.iii) s ps::M)) f (some ⟨b,0,none⟩) k (MY free) (i:Int) w:=by
  intro f
  induction f with
  | zero=>intro free i w hi ⟨e,p,_⟩;omega
  | succ f Q=>
   intro free i w hi g hs;have R:(i+1) % ps.length<ps.length:=mod_lt _ G.1;have next:B0 ps i≠0->∃I,I<f/\B0 ps (((i+1) % ps.length+I) % ps.length)=0:=by
    obtain⟨e,p,q⟩:=g;intro r;cases e with
    | zero=>rw[Nat.add_zero,Nat.mod_eq_of_lt hi] at q;exact absurd q r
    | succ e=>exact⟨e,by omega,by rw[Ej];exact q⟩
   have F:tmod (wrap .i64<|(i:Int)+1) (s.n:Int)=(((i+1) % ps.length:Nat):Int):=by
    rw[i64_in _<|by omega,H,Int.tmod_eq_emod_of_nonneg<|by omega];simp
   have J:∀(d:Option Nat)(w:World),B0 ps i≠0->Ab W w (blk b [.int .u64 seed,.l s.a s.n s.c,.i n1,.i u1]::recs (C7 Ap.iii) s ps::M)->AF ps k (f+1) free i=AF ps k f d ((i+1) % ps.length) ->
     Xv AU (λv w'=>v = .tuple #[.i ((AF ps k (f+1) free i).1:Int),.b (AF ps k (f+1) free i).2]/\Ab W w' (blk b [.int .u64 seed,.l s.a s.n s.c,.i n1,.i u1]::recs (C7 Ap.iii) s ps::M)) f (some ⟨b,0,none⟩) k (MY d) (i:Int) w:=by
    intro d w r hs p;refine jw Aah ?_;rw[p]
    repeat (first|with_reducible refine Aa ?_|((with_reducible refine A7 ?_);first|refine Af hs ?_|fail)|((with_reducible refine RY ?_);first|refine ML ?_|fail)|fail)
    rw[F];exact Q d _ w R (next r) hs
   rw[Aaj];have u:((i:Int)).toNat=i:=toNat_natCast i
   repeat (first|with_reducible refine Aa ?_|((with_reducible refine A7 ?_);first|refine Af hs ?_|refine Cx hs ?_|fail)|((with_reducible refine BI ?_);first|refine BO hs λT U hs=>?_|fail)|fail)
   rw[u];have D:(ps.getD i default).is_=B0 ps i:=rfl;have S:(ps.getD i default).key=DT ps i:=rfl;rw[D];have K:∀(t:Bool)(w:World)(b1 x:Nat),t=decide (B0 ps i=2/\DT ps i=k)->Ab W w (blk b [.int .u64 seed,.l s.a s.n s.c,.i n1,.i u1]::reca (C7 Ap.iii) b1 x s ps::M) ->
     Xt AU (λv w'=>v = .tuple #[.i ((AF ps k (f+1) free i).1:Int),.b (AF ps k (f+1) free i).2]/\Ab W w' (blk b [.int .u64 seed,.l s.a s.n s.c,.i n1,.i u1]::recs (C7 Ap.iii) s ps::M)) f (some ⟨b,0,none⟩) k (MY free) (i:Int) b1 (x+i*5) t w:=by
    intro t w b1 x z hs;refine jw Aaf ?_;rw[z]
    with_reducible refine EH (λh=>?_) (λh=>?_)
    ·have A:AF ps k (f+1) free i=(i,true):=by rw[AF,if_pos h]
     rw[A];exact⟨rfl,by exact Ab.fin hs⟩
    ·repeat (first|with_reducible refine Aa ?_|((with_reducible refine A7 ?_);first|refine Cx hs ?_|fail)|fail)
     rw[D];have L:∀(t:Bool)(w:World),t=decide (B0 ps i=1/\free=none)->Ab W w (blk b [.int .u64 seed,.l s.a s.n s.c,.i n1,.i u1]::reca (C7 Ap.iii) b1 x s ps::M) ->
       Xu AU (λv w'=>v = .tuple #[.i ((AF ps k (f+1) free i).1:Int),.b (AF ps k (f+1) free i).2]/\Ab W w' (blk b [.int .u64 seed,.l s.a s.n s.c,.i n1,.i u1]::recs (C7 Ap.iii) s ps::M)) f (some ⟨b,0,none⟩) k (MY free) (i:Int) b1 (x+i*5) t w:=by
      intro t w z hs;refine jw Aag ?_;rw[z]
      with_reducible refine EH (λm=>?_) (λm=>?_)
      ·exact J (some i) w (by rw[m.1];decide) (by exact Ab.fin hs) (by rw[AF,if_neg h,if_pos m])
      ·repeat (first|with_reducible refine Aa ?_|((with_reducible refine A7 ?_);first|refine Cx hs ?_|fail)|fail)
       rw[D];have N:∀(t:Bool)(w:World),t=decide (B0 ps i=0/\free=none)->Ab W w (blk b [.int .u64 seed,.l s.a s.n s.c,.i n1,.i u1]::reca (C7 Ap.iii) b1 x s ps::M) ->
         Xw AU (λv w'=>v = .tuple #[.i ((AF ps k (f+1) free i).1:Int),.b (AF ps k (f+1) free i).2]/\Ab W w' (blk b [.int .u64 seed,.l s.a s.n s.c,.i n1,.i u1]::recs (C7 Ap.iii) s ps::M)) f (some ⟨b,0,none⟩) k (MY free) (i:Int) b1 (x+i*5) t w:=by
        intro t w z hs;refine jw Aai ?_;rw[z]
        with_reducible refine EH (λo=>?_) (λo=>?_)
        ·have A:AF ps k (f+1) free i=(i,false):=by rw[AF,if_neg h,if_neg m,if_pos o.1,o.2];rfl
         rw[A];exact⟨rfl,by exact Ab.fin hs⟩
        ·repeat (first|with_reducible refine Aa ?_|((with_reducible refine A7 ?_);first|refine Cx hs ?_|fail)|fail)
         rw[D]
         with_reducible refine Cc (λB=>?_) (λB=>?_)
         ·have A:AF ps k (f+1) free i=(free.getD i,false):=by rw[AF,if_neg h,if_neg m,if_pos B]
          rw[A];cases free with
          | none=>exact absurd ⟨B,rfl⟩ o
          | some j=>exact⟨rfl,by exact Ab.fin hs⟩
         ·exact J free w B (by exact Ab.fin hs) (by rw[AF,if_neg h,if_neg m,if_neg B])
       with_reducible refine Cc (λo=>?_) (λo=>?_)
       ·exact N _ w (by simp[o,Hk]) (by exact Ab.fin hs)
       ·exact N _ w (by simp[o]) (by exact Ab.fin hs)
     with_reducible refine Cc (λm=>?_) (λm=>?_)
     ·exact L _ w (by simp[m,Hk]) (by exact Ab.fin hs)
     ·exact L _ w (by simp[m]) (by exact Ab.fin hs)
   with_reducible refine Cc (λh=>?_) (λh=>?_)
   ·repeat (first|with_reducible refine Aa ?_|((with_reducible refine A7 ?_);first|refine Fy hs ?_|fail)|fail)
    rw[S];refine K _ w _ _ ?_ (by exact Ab.fin hs);rw[Y5];simp[h]
   ·refine K _ w _ _ ?_ (by exact Ab.fin hs);simp[h]
 subst E;have C:=y ps.length none (A2 seed ps.length k) w (CY G.1 k) g hs;rw[show MY none = -1 from rfl] at C;unfold AK;refine⟨ps.length,?_⟩;exact C
theorem K8{k:BA}{v:(Int×Int×Int)}{j:Nat}(g:j<ps.length)(p:ps.length<4611686018427387904)(f:u1=(A9 ps:Int))(h:0<=n1/\n1<4611686018427387904)(hs:Ab W w (blk b [.int .u64 seed,.l s.a s.n s.c,.i n1,.i u1]::recs (C7 Ap.iii) s ps::M)) :
  Ai PR 298 #[pq b 0,.i (j:Int),.s k,.agg #[.i (v).1,.i (v).2.1,.i (v).2.2]] w λe w'=>e = .returned (.tuple #[])/\Ab W w' (blk b [.int .u64 seed,.l s.a s.n s.c,.i<|n1+1,.i (A9 (ps.set j ⟨2,k,v⟩):Int)]::recs (C7 Ap.iii) s (ps.set j ⟨2,k,v⟩)::M):=by
 refine c1 (cw ⟨mixed,func298,rfl⟩ Ata ?_);refine Ak hs λq w hs=>?_;have r:=(BE (s:=s) hs HQ.pos).1;have m:A9 ps<=ps.length:=countP_le_length;rw[Bu g _<|by show(2:Int)≠0;decide]
 repeat (first|with_reducible refine Aa ?_|((with_reducible refine A7 ?_);first|refine Af hs ?_|refine Cx hs ?_|fail)|((with_reducible refine BI ?_);first|refine BO hs λt u hs=>?_|fail)|fail)
 simp only[toNat_natCast];have o:(ps.getD j default).is_=B0 ps j:=rfl;rw[o]
 with_reducible refine Cc (λd=>?_) (λd=>?_)
 ·repeat (first|with_reducible refine Aa ?_|((with_reducible refine A7 ?_);first|refine Af hs ?_|fail)|((with_reducible refine Bv ?_);first|refine A4 hs λw hs=>?_|fail)|fail)
  refine jw Oc ?_
  repeat (first|with_reducible refine Aa ?_|((with_reducible refine A7 ?_);first|refine Af hs ?_|fail)|((with_reducible refine Bv ?_);first|refine A4 hs λw hs=>?_|refine Y8 hs λw hs=>?_|fail)|((with_reducible refine BI ?_);first|refine Ia hs ?_|fail)|((with_reducible refine Cm ?_);first|refine Au ?_|fail)|((with_reducible refine Bk ?_);first|refine BJ hs ?_|fail)|((with_reducible refine E0 ?_);first|refine AI hs λw hs=>?_|fail)|fail)
  rw[i64_in (n1+1)<|by omega,f,i64_in _<|by omega] at hs;simp only[toNat_natCast] at hs;rw[if_pos d];exact⟨rfl,by exact Ab.fin hs⟩
 ·refine jw Oc ?_
  repeat (first|with_reducible refine Aa ?_|((with_reducible refine A7 ?_);first|refine Af hs ?_|fail)|((with_reducible refine Bv ?_);first|refine A4 hs λw hs=>?_|refine Y8 hs λw hs=>?_|fail)|((with_reducible refine BI ?_);first|refine Ia hs ?_|fail)|((with_reducible refine Cm ?_);first|refine Au ?_|fail)|((with_reducible refine Bk ?_);first|refine BJ hs ?_|fail)|((with_reducible refine E0 ?_);first|refine AI hs λw hs=>?_|fail)|fail)
  rw[i64_in (n1+1)<|by omega,f] at hs;simp only[toNat_natCast] at hs;rw[if_neg d,Nat.add_zero];exact⟨rfl,by exact Ab.fin hs⟩
theorem Rt{st:BA->Nat}(hi:Cj st ps m)(E:∀e∈m,e.1.size<4611686018427387904)(hm:m.length<1000000000)(hs:Ab W w (blk b [.int .u64 seed,.l s.a s.n s.c,.i (m.length:Int),.i u1]::recs (C7 Ap.iii) s ps::M)) :
  Ai PR 299 #[pq b 0] w λe w'=>e = .returned (.tuple #[])/\Ab W w' (ixr Ap.iii b seed m::M):=by
 refine c1 (cw ⟨mixed,func299,rfl⟩ Atb ?_);have hn:=(BE (s:=s) hs HQ.pos).1;have D:=hi.small;obtain⟨N,hN⟩:∃N:Nat,N=max 8 (4*(m.length+1)):=⟨_,rfl⟩;have X:(if (wrap .i64<|(4:Int)*(wrap .i64<|(m.length:Int)+(1:Int)))>(8:Int) then (wrap .i64<|(4:Int)*(wrap .i64<|(m.length:Int)+(1:Int))) else (8:Int))=(N:Int):=by
  rw[i64_in ((m.length:Int)+1)<|by omega,i64_in _<|by omega];split <;> omega
 repeat (first|with_reducible refine Aa ?_|((with_reducible refine A7 ?_);first|refine Af hs ?_|fail)|fail)
 rw[X];refine EJ (sz:=5) hs rfl (by omega) (by omega) (by omega) (by omega) λs2 w F _ _ hs=>?_;rw[toNat_natCast] at hs F;have hs:Ab W w (recs (C7 Ap.iii) s2 (replicate N ⟨0,Ae,((0,0,0):Int×Int×Int)⟩)::blk b [.int .u64 seed,.l s.a s.n s.c,.i (m.length:Int),.i u1]::recs (C7 Ap.iii) s ps::M):=by
  have e:=El (C7 Ap.iii) ⟨0,Ae,((0,0,0):Int×Int×Int)⟩ N;unfold recs;rw[<- e];exact hs
 repeat (first|with_reducible refine Aa ?_|((with_reducible refine Bv ?_);first|refine A4 hs λw hs=>?_|fail)|fail)
 have x:=Cj.new (st:=A2 seed N) (n:=N) (z:=(⟨0,Ae,((0,0,0):Int×Int×Int)⟩:Pl (Int×Int×Int))) rfl (by omega) (by omega) (CY<|by omega);have p:(AS ps).map (·.1) |>.Nodup:=(hi.perm.map (·.1)).nodup_iff.2 hi.nodup
 have R:(AS ps).length=m.length:=hi.perm.length_eq;have y:∀(f i:Nat)(w:World)(d:List (Pl<|Int×Int×Int))(k:List (BA×(Int×Int×Int))),i+f=ps.length->d.length=N->Cj (A2 seed N) d k->k.Perm (AS<|ps.take i)->A9 d<=k.length ->
   Ab W w (blk b [.int .u64 seed,.l s2.a s2.n s2.c,.i (k.length:Int),.i (A9 d:Int)]::recs (C7 Ap.iii) s2 d::recs (C7 Ap.iii) s ps::M) ->
   LR AU (λv w'=>v = .tuple #[]/\Ab W w' (ixr Ap.iii b seed m::M)) (f+1) (some ⟨b,0,none⟩) s (s.n:Int) (i:Int) w:=by
  intro f
  induction f with
  | zero=>
   intro i w d k G j g q S hs;rw[Od];refine Ad (decide_eq_false<|by omega) ⟨rfl,?_⟩;rw[take_of_length_le<|by omega] at q;have r:=q.trans hi.perm;refine Bd s2 (ps:=d) (n:=(k.length:Int)) ?_ ?_ (by rw[r.length_eq]) rfl (by exact Ab.fin hs)
   ·rw[j];exact g.perm' r
   ·rw[j];have:=r.length_eq;omega
  | succ f T=>
   intro i w d k G j g q S hs;rw[Od];refine Am (decide_eq_true<|by omega) ?_
   repeat (first|((with_reducible refine A7 ?_);first|refine Af hs ?_|refine Cx hs ?_|refine Fy hs ?_|refine O1 hs ?_|refine Acg hs ?_|refine Bcl hs ?_|fail)|((with_reducible refine Bv ?_);first|refine A4 hs λw hs=>?_|fail)|((with_reducible refine BI ?_);first|refine BO hs λU o_ hs=>?_|fail)|((with_reducible refine Dd ?_);first|refine Ak hs λU w hs=>?_|fail)|fail)
   simp only[toNat_natCast] at hs ⊢;have H:i<ps.length:=by omega
   have h:AS (ps.take<|i+1)=AS (ps.take i)++EU (ps.getD i default):=by
    rw[CC H,BH];simp[AS]
   with_reducible refine Cc (λI=>?_) (λI=>?_)
   ·have t:EU (ps.getD i default)=[((ps.getD i default).key,(ps.getD i default).v)]:=Ga I;rw[t] at h;have o:(AS<|ps.take<|i+1).Sublist (AS ps):=by
     conv=>rhs;rw[<- List.take_append_drop (i+1) ps,BH]
     exact List.sublist_append_left _ _
    have A:((ps.getD i default).key,(ps.getD i default).v)∈m:=hi.perm.subset (o.subset<|by rw[h];simp);have u:=p.sublist (o.map (·.1));rw[h,map_append] at u;have B:AH k (ps.getD i default).key=none:=by
     rw[BC];intro e C Y;rw[nodup_append] at u;exact u.2.2 _ (List.mem_map_of_mem (f:=(·.1))<|q.subset C) _ (by simp) Y
    have Z:k.length+1<=m.length:=by
     have:=o.length_le;rw[h,length_append,<- q.length_eq] at this;simp only[length_cons,length_nil] at this;omega
    repeat (first|((with_reducible refine A7 ?_);first|refine Af hs ?_|fail)|fail)
    have hs:Ab W w (blk b [.int .u64 seed,.l s2.a s2.n s2.c,.i (k.length:Int),.i (A9 d:Int)]::recs (C7 Ap.iii) s2 d::blk U [.i (ps.getD i default).is_,.s (ps.getD i default).key,.i (ps.getD i default).v.1,.i (ps.getD i default).v.2.1,.i (ps.getD i default).v.2.2]::recs (C7 Ap.iii) s ps::M):=by exact Ab.fin hs
    refine AJ (FL (st:=A2 seed N) (by rw[j]) (E _ A) (by omega) (g.stop _) hs) λe w ⟨C,hs⟩=>⟨_,_,C,?_⟩;have J:(AK (A2 seed N) d (ps.getD i default).key).2=false:=by
     cases hb:(AK (A2 seed N) d (ps.getD i default).key).2 with
     | false=>rfl
     | true=>have:=(g.hit hb).2.2;rw[B] at this;cases this
    obtain⟨K,L,_,O⟩:=g.miss J
    repeat (first|((with_reducible refine A7 ?_);first|refine Af hs ?_|fail)|fail)
    refine Av (K8 (v:=(ps.getD i default).v) K (by omega) rfl (by omega) hs) λe w ⟨C,hs⟩=>⟨C,?_⟩;rw[i64_in _<|by omega];have P:=Bu K (⟨2,(ps.getD i default).key,(ps.getD i default).v⟩:Pl (Int×Int×Int)) (by show(2:Int)≠0;decide)
    have V:A9 (d.set (AK (A2 seed N) d (ps.getD i default).key).1 ⟨2,(ps.getD i default).key,(ps.getD i default).v⟩)<=A9 d+1:=by rw[P];split <;> omega
    refine T (i+1) w _ (((ps.getD i default).key,(ps.getD i default).v)::k) (by omega) (by rw[length_set];exact j) (g.add K L B O<|by omega) ?_ (by simp only[length_cons];omega) ?_
    ·rw[h];exact((List.Perm.cons _ q).trans<|perm_append_comm (l₁:=[_]))
    ·simp only[length_cons,natCast_add];exact Ab.fin hs
   ·have t:EU (ps.getD i default)=[]:=Io I;rw[t,List.append_nil] at h;rw[i64_in _<|by omega];exact T (i+1) w d k (by omega) j g (by rw[h];exact q) S (by exact Ab.fin hs)
 refine⟨ps.length+1,?_⟩;refine y ps.length 0 w (replicate N ⟨0,Ae,((0,0,0):Int×Int×Int)⟩) [] (by omega) (by simp) x (by simp[AS]) ?_ ?_
 ·have:A9 (replicate N (⟨0,Ae,((0,0,0):Int×Int×Int)⟩:Pl (Int×Int×Int)))=0:=by
   unfold A9;rw[List.countP_eq_zero];intro a Q;rw[List.eq_of_mem_replicate Q];simp
  rw[this];exact Nat.zero_le _
 ·have:A9 (replicate N (⟨0,Ae,((0,0,0):Int×Int×Int)⟩:Pl (Int×Int×Int)))=0:=by
   unfold A9;rw[List.countP_eq_zero];intro a Q;rw[List.eq_of_mem_replicate Q];simp
  rw[this];exact Ab.fin hs
end
section
variable{W w:World}{L M:List HP}{F:HP->List HP}{b:Nat}{seed:Int}{m:List (BA×(Int×Int×Int))}{k:BA}
theorem Alj(hs:Ab W w L):Ai PR 185 #[.int .u64 seed] w λe w'=>∃b,e = .returned (pq b 0)/\Ab W w' (ixr Ap.iii b seed []::L):=by
 refine(cw ⟨mixed,func185,rfl⟩ Art (Q:=λv w'=>∃b,v=pq b 0/\Ab W w' (ixr Ap.iii b seed []::L)) ?_).mono λe w' ⟨v,a,b,c,hs⟩=>⟨b,by rw[a,c],hs⟩;refine EJ (sz:=5) hs rfl (by omega) (by omega) (by omega) (by omega) λs2 w d _ _ hs=>?_;have hs:Ab W w (recs (C7 Ap.iii) s2 (replicate 8 ⟨0,Ae,((0,0,0):Int×Int×Int)⟩)::L):=hs
 repeat (first|((with_reducible refine Dd ?_);first|refine Ak hs λf w hs=>?_|fail)|fail)
 refine⟨_,rfl,Bd s2 (ps:=replicate 8 ⟨0,Ae,((0,0,0):Int×Int×Int)⟩) (n:=0) (u:=0) (Cj.new (n:=8) rfl (by omega) (by omega)<|CY<|by simp) (by decide +revert) rfl rfl<|by exact Ab.fin hs⟩
theorem Dn(h:Ab W w L)[hA:At L b (ixr Ap.iii b seed m) F](d:k.size<4611686018427387904):Ai PR 282 #[pq b 0,.s k] w λe w'=>e = .returned (.tuple #[.agg #[.i ((AH m k).getD ((0,0,0):Int×Int×Int)).1,.i ((AH m k).getD ((0,0,0):Int×Int×Int)).2.1,.i ((AH m k).getD ((0,0,0):Int×Int×Int)).2.2],.b (AH m k).isSome])/\Ab W w' (F<|ixr Ap.iii b seed m):=by
 refine At.call1 (hA:=hA) h λM hs=>?_;clear h hA;refine c1 (cw ⟨mixed,func282,rfl⟩ Asu ?_);refine Ak hs λf w hs=>?_;have hs:Ab W w (ixr Ap.iii b seed m::blk f [.i (0:Int),.i (0:Int),.i (0:Int)]::M):=by exact Ab.fin hs
 refine Am rfl ?_;obtain⟨s,ps,hi,c,p,hs⟩:=CG hs;have g:=hi.small;have j:=hi.big;refine AJ (FL (st:=A2 seed ps.length) rfl d (by omega) (hi.stop _) hs) λe w ⟨l,hs⟩=>⟨_,_,l,?_⟩;refine As (λa=>?_) (λa=>?_)
 ·obtain⟨q,_,n⟩:=hi.hit a;rw[n]
  repeat (first|with_reducible refine Aa ?_|((with_reducible refine A7 ?_);first|refine Af hs ?_|refine Fy hs ?_|refine O1 hs ?_|refine Acg hs ?_|fail)|((with_reducible refine Bv ?_);first|refine A4 hs λw hs=>?_|fail)|((with_reducible refine BI ?_);first|refine BO hs λo r hs=>?_|fail)|fail)
  simp only[toNat_natCast];exact⟨rfl,Bd s hi c rfl rfl<|by exact Ab.fin hs⟩
 ·rw[(hi.miss a).2.2.1];refine jw Aac ?_
  repeat (first|((with_reducible refine A7 ?_);first|refine Af hs ?_|fail)|((with_reducible refine Bv ?_);first|refine A4 hs λw hs=>?_|fail)|((with_reducible refine Dd ?_);first|refine Ak hs λo w hs=>?_|fail)|fail)
  exact⟨rfl,Bd s hi c rfl rfl<|by exact Ab.fin hs⟩
theorem Alk(h:Ab W w L)[hA:At L b (ixr Ap.iii b seed m) F]{v:(Int×Int×Int)}(G:k.size<4611686018427387904)(A:∀e∈m,e.1.size<4611686018427387904)(R:m.length<900000000):Ai PR 297 #[pq b 0,.s k,.agg #[.i (v).1,.i (v).2.1,.i (v).2.2]] w λe w'=>e = .returned (.b (AH m k).isNone)/\Ab W w' (F<|ixr Ap.iii b seed<|Cw m k v):=by
 refine At.call1 (hA:=hA) h λM hs=>?_;clear h hA;refine c1 (cw ⟨mixed,func297,rfl⟩ As9 ?_);refine Ak hs λI w hs=>?_;have hs:Ab W w (ixr Ap.iii b seed m::blk I [.i v.1,.i v.2.1,.i v.2.2]::M):=by exact Ab.fin hs
 refine Ad rfl ?_;obtain⟨s,ps,hi,J,K,hs⟩:=CG hs;have N:=hi.small;have O:=hi.big;refine AJ (FL (st:=A2 seed ps.length) rfl G (by omega) (hi.stop _) hs) λe w ⟨f,hs⟩=>⟨_,_,f,?_⟩;refine As (λB=>?_) (λB=>?_)
 ·obtain⟨o,p,q⟩:=hi.hit B;have C:Cw m k v=Fm m k v:=by unfold Cw;rw[q]
  rw[q,C]
  repeat (first|with_reducible refine Aa ?_|((with_reducible refine A7 ?_);first|refine Af hs ?_|fail)|((with_reducible refine BI ?_);first|refine BO hs λS T hs=>?_|fail)|((with_reducible refine Cm ?_);first|refine Au ?_|fail)|((with_reducible refine Bk ?_);first|refine BJ hs ?_|fail)|((with_reducible refine E0 ?_);first|refine AI hs λw hs=>?_|fail)|fail)
  simp only[toNat_natCast];refine YC (vs:=[.i v.1,.i v.2.1,.i v.2.2]) (pre:=[.i (ps.getD (AK (A2 seed ps.length) ps k).1 default).is_,.s (ps.getD (AK (A2 seed ps.length) ps k).1 default).key]) (mid:=[.i (ps.getD (AK (A2 seed ps.length) ps k).1 default).v.1,.i (ps.getD (AK (A2 seed ps.length) ps k).1 default).v.2.1,.i (ps.getD (AK (A2 seed ps.length) ps k).1 default).v.2.2]) (tl:=[]) (a':={ ps.getD (AK (A2 seed ps.length) ps k).1 default with v:=v }) (i:=(AK (A2 seed ps.length) ps k).1) (j:=2) (n:=5) hs rfl o rfl rfl rfl rfl λw hs=>?_
  have r:=hi.set (v:=v) o p;have g:A9 (ps.set (AK (A2 seed ps.length) ps k).1 { ps.getD (AK (A2 seed ps.length) ps k).1 default with v:=v })=A9 ps:=by
   rw[Bu o _<|by show B0 ps _≠0;rw[p.1];decide,if_neg<|by rw[p.1];decide];rfl
  refine⟨rfl,Bd s (n:=(m.length:Int)) (u:=(A9 ps:Int)) (by rw[length_set];exact r) (by rw[g,length_set];exact J) (by simp[Fm]) (by rw[g])<|by exact Ab.fin hs⟩
 ·obtain⟨o,D,q,P⟩:=hi.miss B;have C:Cw m k v=(k,v)::m:=by unfold Cw;rw[q]
  rw[q,C]
  repeat (first|((with_reducible refine A7 ?_);first|refine Af hs ?_|fail)|fail)
  refine Av (K8 (v:=v) o (by omega) rfl (by omega) hs) λe w ⟨f,hs⟩=>⟨f,?_⟩;have g:=Bu o (⟨2,k,v⟩:Pl (Int×Int×Int)) (by show(2:Int)≠0;decide)
  have t:A9 (ps.set (AK (A2 seed ps.length) ps k).1 ⟨2,k,v⟩)<=A9 ps+1:=by rw[g];split <;> omega
  have d:=hi.add (v:=v) o D q P (by omega);have x:(ps.set (AK (A2 seed ps.length) ps k).1 ⟨2,k,v⟩).length=ps.length:=by simp
  generalize H:ps.set (AK (A2 seed ps.length) ps k).1 ⟨2,k,v⟩=y at hs t d x
  repeat (first|with_reducible refine Aa ?_|((with_reducible refine A7 ?_);first|refine Af hs ?_|fail)|((with_reducible refine Cm ?_);first|refine Au ?_|fail)|((with_reducible refine Bk ?_);first|refine BJ hs ?_|fail)|((with_reducible refine E0 ?_);first|refine AI hs λw hs=>?_|fail)|fail)
  rw[i64_in _<|by omega,K]
  with_reducible refine D5 (λQ=>?_) (λQ=>?_)
  ·have z:∀e∈(k,v)::m,e.1.size<4611686018427387904:=by
    intro e f;rcases mem_cons.1 f with rfl|f
    ·exact G
    ·exact A e f
   have E:Ab W w (blk b [.int .u64 seed,.l s.a s.n s.c,.i (((k,v)::m).length:Int),.i (A9 y:Int)]::recs (C7 Ap.iii) s y::M):=by
    simp only[length_cons,natCast_add];exact Ab.fin hs
   refine Av (Rt d z (by simp;omega) E) λe w ⟨f,hs⟩=>⟨f,?_⟩;exact⟨rfl,hs⟩
  ·exact⟨rfl,Bd s (n:=(m.length:Int)+1) (by rw[x];exact d) (by omega) (by simp) rfl<|by exact Ab.fin hs⟩
theorem WJ(h:Ab W w L)[hA:At L b (ixr Ap.iii b seed m) F](l:k.size<4611686018427387904)(v:m.length<900000000):Ai PR 296 #[pq b 0,.s k] w λe w'=>e = .returned (.tuple #[.agg #[.i ((AH m k).getD ((0,0,0):Int×Int×Int)).1,.i ((AH m k).getD ((0,0,0):Int×Int×Int)).2.1,.i ((AH m k).getD ((0,0,0):Int×Int×Int)).2.2],.b (AH m k).isSome])/\Ab W w' (F<|ixr Ap.iii b seed<|BU m k):=by
 refine At.call1 (hA:=hA) h λM hs=>?_;clear h hA;refine c1 (cw ⟨mixed,func296,rfl⟩ As8 ?_);refine Ak hs λb1 w hs=>?_;refine(Dn hs l).mono λe w ⟨a,hs⟩=>⟨_,_,_,_,a,?_⟩
 repeat (first|((with_reducible refine Bv ?_);first|refine A4 hs λw hs=>?_|fail)|((with_reducible refine Dd ?_);first|refine Ak hs λo w hs=>?_|fail)|fail)
 have hs:Ab W w (ixr Ap.iii b seed m::blk o [.i ((AH m k).getD ((0,0,0):Int×Int×Int)).1,.i ((AH m k).getD ((0,0,0):Int×Int×Int)).2.1,.i ((AH m k).getD ((0,0,0):Int×Int×Int)).2.2]::blk b1 [.i (0:Int),.i (0:Int),.i (0:Int)]::M):=by exact Ab.fin hs
 refine Mc (λv g=>?_) (λg=>?_)
 ·obtain⟨s,ps,hi,q,x,hs⟩:=CG hs;have r:=hi.small;have t:=hi.big;refine AJ (FL (st:=A2 seed ps.length) rfl l (by omega) (hi.stop _) hs) λe w ⟨a,hs⟩=>⟨_,_,a,?_⟩;have j:(AK (A2 seed ps.length) ps k).2=true:=by
   cases j:(AK (A2 seed ps.length) ps k).2 with
   | true=>rfl
   | false=>have:=(hi.miss j).2.2.1;rw[g] at this;cases this
  obtain⟨p,c,_⟩:=hi.hit j
  repeat (first|with_reducible refine Aa ?_|((with_reducible refine A7 ?_);first|refine Af hs ?_|fail)|((with_reducible refine Bv ?_);first|refine A4 hs λw hs=>?_|refine Y8 hs λw hs=>?_|fail)|((with_reducible refine BI ?_);first|refine BO hs λo y hs=>?_|fail)|fail)
  rw[i64_in _<|by omega] at hs;simp only[toNat_natCast] at hs;have d:=hi.del (z:=(⟨1,Ae,((0,0,0):Int×Int×Int)⟩:Pl (Int×Int×Int))) p c rfl;have f:A9 (ps.set (AK (A2 seed ps.length) ps k).1 (⟨1,Ae,((0,0,0):Int×Int×Int)⟩:Pl (Int×Int×Int)))=A9 ps:=by
   rw[Bu p _<|by show(1:Int)≠0;decide,if_neg<|by rw[c.1];decide];rfl
  have A:=Mo hi.nodup g;refine⟨by trivial,Bd s (n:=(m.length:Int)-1) (u:=(A9 ps:Int)) (by rw[length_set];exact d) (by rw[f,length_set];exact q) (by omega) (by rw[f])<|by exact Ab.fin hs⟩
 ·have:BU m k=m:=by
   unfold BU;rw[filter_eq_self];intro e a;simpa using BC.1 g e a
  rw[this]
  repeat (first|((with_reducible refine A7 ?_);first|refine Af hs ?_|fail)|((with_reducible refine Bv ?_);first|refine A4 hs λw hs=>?_|fail)|fail)
  exact⟨by trivial,by exact Ab.fin hs⟩
end
end Go.Proofs.YtjipofkjmmpjdaaGreat
namespace Go.Proofs.YtjipofkjmmpjdaaGreat
open Go.Hb Go.IntWalk
section
variable{W w:World}{L M:List HP}{F:HP->List HP}{b nb:Nat}{c:Int}{N N':Nat}{x y:Bi}{sb qb xb:Nat}{row sr sr' qr qr':DY}{free sf sf' qf qf':List Nat}{m:LM}{key:BA}{h g i:Int}
theorem FF(h:Ab W w L)[hA:At L b (lst .s b row free) F]{x:Int}(j:row.length+free.length<1099511627776)(l:(row.map (·.2)).Nodup)(m:x=AQ row key) :
  Ai PR 160 #[pq b 0,.i x] w λe w'=>(∃v o,e = .returned (.tuple #[.s v,.b o]))/\∃f,Iy row free key (Dv row key) f/\Ab W w' (F<|lst .s b (Dv row key) f):=by
 refine At.one (hA:=hA) h λM hs g=>?_;obtain⟨n,p⟩:=Kl hs;have hR:=(Ban (k:=key) l n p).1;refine(HK hs j (x:=x)).mono λe w' ⟨q,hs⟩=>⟨⟨_,_,q⟩,?_⟩;subst m;cases a:Ko row (AQ row key) with
 | none=>
  simp only[a] at hs hR;rw[hR] at hs;exact⟨_,⟨H4 row key,λk c=>M6 c,Wj,by rw[<- hR];omega⟩,g _ _ hs⟩
 | some i=>
  simp only[a] at hs hR;rw[hR] at hs;obtain⟨_,_,_,_,d⟩:=M2 a;refine⟨_,⟨H4 row key,λk c=>M6 c,Wj,?_⟩,g _ _ hs⟩;rw[<- hR,List.length_eraseIdx,if_pos d];simp;omega
theorem M8(h:Ab W w L)[hA:At L b (lst .s b row free) F](f:row.length+free.length<1099511627776)(c:key∉row.map (·.2)) :
  Ai PR 162 #[pq b 0,.s key] w λe w'=>∃a d,e = .returned (.i<|AQ a key)/\Iz row free key a d/\Ab W w' (F<|lst .s b a d):=by
 refine(Gj h f).mono λe w' ⟨g,hs⟩=>⟨_,_,?_,⟨?_,λk h=>TO h,?_⟩,hs⟩
 ·rw[g,Ag3 c]
 ·rw[Ax c];simp
 ·simp;omega
theorem Wl{b:DY}{a:List Nat}(c:Iy row free key b a)(d:Iz b a key sr' sf'):Iz row free key sr' sf':=by
 refine⟨?_,λk e=>by rw[d.ne k e,c.ne k e],by
  have i:=c.len;have j:=d.len;have f:=congrArg length c.keys;have g:=Bq (row.map (·.2)) key
  simp only[length_map] at f g;omega⟩
 rw[d.keys,c.keys,Ax<|λh=>(AO.1 h).2 rfl]
theorem OE{s q:Int}(hs:Ab W w (blk nb [.i i,.i s,.i q]::eB b c sb qb xb h g::lst .s sb sr sf::M))(l:sr.length+sf.length<1000000000)(f:(sr.map (·.2)).Nodup)(j:s=AQ sr key) :
  Ai PR 293 #[pq b 0,pq nb 0,.s key] w λe w'=>e = .returned (.tuple #[])/\∃a sf',Iz sr sf key a sf'/\Ab W w' (blk nb [.i i,.i<|AQ a key,.i q]::eB b c sb qb xb h g::lst .s sb a sf'::M):=by
 refine c1 (cw ⟨mixed,func293,rfl⟩ As5 ?_)
 repeat (first|with_reducible refine Aa ?_|((with_reducible refine A7 ?_);first|refine Af hs ?_|fail)|((with_reducible refine Cm ?_);first|refine Au ?_|fail)|((with_reducible refine Bk ?_);first|refine BJ hs ?_|fail)|with_reducible refine AI hs λw hs=>?_|fail)
 refine AJ (FF hs (by omega) f j) λe w ⟨⟨_,_,d⟩,m,hc,hs⟩=>⟨_,_,d,?_⟩;have n:=hc.len
 repeat (first|with_reducible refine Aa ?_|((with_reducible refine A7 ?_);first|refine Af hs ?_|fail)|fail)
 refine Ao (M8 (key:=key) hs (by omega)<|Ah1 _ _) λe w ⟨a,sf',d,k,hs⟩=>⟨_,d,?_⟩
 repeat (first|with_reducible refine Aa ?_|((with_reducible refine Bv ?_);first|refine A4 hs λw hs=>?_|fail)|fail)
 exact⟨rfl,a,sf',Wl hc k,by exact Ab.fin hs⟩
theorem OD{s q:Int}(hs:Ab W w (blk nb [.i i,.i s,.i q]::eB b c sb qb xb h g::lst .s qb qr qf::M))(m:qr.length+qf.length<1000000000)(j:(qr.map (·.2)).Nodup)(k:q=AQ qr key) :
  Ai PR 291 #[pq b 0,pq nb 0,.s key] w λe w'=>e = .returned (.tuple #[])/\∃a d,Iz qr qf key a d/\Ab W w' (blk nb [.i i,.i s,.i<|AQ a key]::eB b c sb qb xb h g::lst .s qb a d::M):=by
 refine c1 (cw ⟨mixed,func291,rfl⟩ As3 ?_)
 repeat (first|with_reducible refine Aa ?_|((with_reducible refine A7 ?_);first|refine Af hs ?_|fail)|((with_reducible refine Cm ?_);first|refine Au ?_|fail)|((with_reducible refine Bk ?_);first|refine BJ hs ?_|fail)|with_reducible refine AI hs λw hs=>?_|fail)
 refine AJ (FF hs (by omega) j k) λe w ⟨⟨_,_,f⟩,n,hc,hs⟩=>⟨_,_,f,?_⟩;have o:=hc.len
 repeat (first|with_reducible refine Aa ?_|((with_reducible refine A7 ?_);first|refine Af hs ?_|fail)|fail)
 refine Ao (M8 (key:=key) hs (by omega)<|Ah1 _ _) λe w ⟨a,d,f,l,hs⟩=>⟨_,f,?_⟩
 repeat (first|with_reducible refine Aa ?_|((with_reducible refine Bv ?_);first|refine A4 hs λw hs=>?_|fail)|fail)
 exact⟨rfl,a,d,Wl hc l,by exact Ab.fin hs⟩
theorem GM{s q:Int}(hs:Ab W w (blk nb [.i i,.i s,.i q]::eB b c sb qb xb h g::lst .s qb qr qf::M))(l:qr.length+qf.length<1000000000)(d:(qr.map (·.2)).Nodup)(f:q=AQ qr key) :
  Ai PR 287 #[pq b 0,pq nb 0] w λe w'=>e = .returned (.tuple #[])/\∃a,Iy qr qf key (Dv qr key) a/\Ab W w' (blk nb [.i i,.i s,.i 0]::eB b c sb qb xb h g::lst .s qb (Dv qr key) a::M):=by
 refine c1 (cw ⟨mixed,func287,rfl⟩ Asz ?_)
 repeat (first|with_reducible refine Aa ?_|((with_reducible refine A7 ?_);first|refine Af hs ?_|fail)|((with_reducible refine Cm ?_);first|refine Au ?_|fail)|((with_reducible refine Bk ?_);first|refine BJ hs ?_|fail)|with_reducible refine AI hs λw hs=>?_|fail)
 refine AJ (FF hs (by omega) d f) λe w ⟨⟨_,_,j⟩,k,hc,hs⟩=>⟨_,_,j,?_⟩
 repeat (first|with_reducible refine Aa ?_|((with_reducible refine Bv ?_);first|refine A4 hs λw hs=>?_|fail)|fail)
 exact⟨rfl,k,hc,by exact Ab.fin hs⟩
theorem JE{d a:Int}(hs:Ab W w (eB b c sb qb xb h g::M))(k:-1099511627776<h/\h<1099511627776)(l:-1099511627776<g/\g<1099511627776)(m:-1<=a/\a<=1) :
  Ai PR 295 #[pq b 0,.i d,.i a] w λe w'=>e = .returned (.tuple #[])/\Ab W w' (eB b c sb qb xb (h+(if d=1 then a else 0)) (g+(if d=3 then a else 0))::M):=by
 refine c1 (cw ⟨mixed,func295,rfl⟩ As7 ?_)
 with_reducible refine A3 (λf=>?_) (λf=>?_)
 ·subst f
  repeat (first|with_reducible refine Aa ?_|((with_reducible refine A7 ?_);first|refine Af hs ?_|fail)|((with_reducible refine Bv ?_);first|refine A4 hs λw hs=>?_|fail)|fail)
  rw[i64_in _<|by omega] at hs;simp only[if_true,show ¬((1:Int)=3) by decide,if_false,add_zero,true_and];exact Ab.fin hs
 ·with_reducible refine A3 (λj=>?_) (λj=>?_)
  ·subst j
   repeat (first|with_reducible refine Aa ?_|((with_reducible refine A7 ?_);first|refine Af hs ?_|fail)|((with_reducible refine Bv ?_);first|refine A4 hs λw hs=>?_|fail)|fail)
   rw[i64_in _<|by omega] at hs;simp only[if_true,show ¬((3:Int)=1) by decide,if_false,add_zero,true_and];exact Ab.fin hs
  ·rw[if_neg f,if_neg j,add_zero,add_zero];exact⟨rfl,hs⟩
theorem D1{n:LE}(hi:LX N x sr sf qr qf m)(j:LX N' y sr' sf' qr' qf' (Sg m key n))(C:key.size<64)(hc:Bz y.s key=Bz x.s key)(t:n.1=lK y.s y.q key)(D:N<400000000)
  (hs:Ab W w (eB b c sb qb xb ((AB x.s 1:Int)) ((AB x.s 3:Int))::lst .s sb sr' sf'::lst .s qb qr' qf'::ixr Ap.iii xb 0 m::M)) :
  Ai PR 288 #[pq b 0,.s key,.agg #[.i n.1,.i n.2.1,.i n.2.2]] w λe w'=>e = .returned (.tuple #[])/\Ab W w' (lirR b c N' y::M):=by
 refine c1 (cw ⟨mixed,func288,rfl⟩ As0 ?_);have u:((AH m key).getD ((0,0,0):Int×Int×Int)).1=lK x.s x.q key:=by have:=hi.ent key;unfold lG at this;rw[this]
 have z:=hi.nm;have A:AB x.s 1<=N/\AB x.s 3<=N:=by
  have B:=congrArg length hi.sk;have:=hi.ns;simp only[length_map,AW] at B;have a:=countP_le_length (p:=λe:BA×Int=>decide<|e.2=1) (l:=x.s);have d:=countP_le_length (p:=λe:BA×Int=>decide<|e.2=3) (l:=x.s);unfold AB;omega
 obtain⟨o,r⟩:=A7x hi.w j.w hc;refine Ak hs λnb w hs=>?_
 repeat (first|with_reducible refine Aa ?_|((with_reducible refine A7 ?_);first|refine Af hs ?_|fail)|fail)
 refine(Dn hs<|by omega).mono λe w ⟨f,hs⟩=>⟨_,_,_,_,f,?_⟩;rw[u]
 repeat (first|((with_reducible refine A7 ?_);first|refine Af hs ?_|fail)|((with_reducible refine Bv ?_);first|refine A4 hs λw hs=>?_|fail)|with_reducible refine Ak hs λE w hs=>?_|fail)
 refine Av (JE (W:=W) (c:=c) (sb:=sb) (qb:=qb) (xb:=xb) (h:=(AB x.s 1:Int)) (g:=(AB x.s 3:Int)) (by exact Ab.fin hs) (by omega) (by omega) (by decide) (M:=blk nb [.i n.1,.i n.2.1,.i n.2.2]::lst .s sb sr' sf'::lst .s qb qr' qf'::ixr Ap.iii xb 0 m::M)) λe w ⟨f,hs⟩=>⟨f,?_⟩
 repeat (first|((with_reducible refine A7 ?_);first|refine Af hs ?_|fail)|fail)
 refine Av (JE hs (by split <;> omega) (by split <;> omega)<|by decide) λe w ⟨f,hs⟩=>⟨f,?_⟩;rw[<- t] at o r;rw[o,r] at hs
 repeat (first|((with_reducible refine A7 ?_);first|refine Af hs ?_|fail)|fail)
 with_reducible refine A3 (λk=>?_) (λk=>?_)
 ·repeat (first|with_reducible refine Aa ?_|((with_reducible refine A7 ?_);first|refine Af hs ?_|fail)|fail)
  refine(WJ hs (by omega)<|by omega).mono λe w ⟨f,hs⟩=>⟨_,_,_,_,f,?_⟩;have:Sg m key n=BU m key:=if_pos k;rw[this] at j;exact⟨rfl,Cu j rfl rfl<|by exact Ab.fin hs⟩
 ·repeat (first|with_reducible refine Aa ?_|((with_reducible refine A7 ?_);first|refine Af hs ?_|fail)|((with_reducible refine Cm ?_);first|refine Au ?_|fail)|((with_reducible refine Bk ?_);first|refine BJ hs ?_|fail)|with_reducible refine AI hs λw hs=>?_|fail)
  refine Ao (Alk (v:=n) hs (by omega) hi.msm<|by omega) λe w ⟨f,hs⟩=>⟨_,f,?_⟩;have:Sg m key n=Cw m key n:=if_neg k;rw[this] at j;exact⟨rfl,Cu j rfl rfl<|by exact Ab.fin hs⟩
end
end Go.Proofs.YtjipofkjmmpjdaaGreat
namespace Go.Hb
theorem OT{T:Type}{row:List (Nat×T)}{i:Nat}(h:i<row.length):AY row i=row[i].1:=by
 unfold AY;rw[getD_eq_getElem?_getD,getElem?_map,getElem?_eq_getElem h];rfl
theorem We{T:Type}{row:List (Nat×T)}(a:(row.map (·.1)).Nodup){i:Nat}(h:i<row.length):Ko row (AY row i:Int)=some i:=by
 rw[OT h];exact Lj a (getElem?_eq_getElem h)
theorem TP{T:Type}{row:List (Nat×T)}(a:(row.map (·.1)).Nodup){i:Nat}(h:i<row.length):IT row (AY row i:Int)=AY row (i+1):=by
 unfold IT;rw[We a h]
theorem TQ{T:Type}{row:List (Nat×T)}{i:Nat}(h:row.length<=i):AY row i=0:=by
 unfold AY;rw[getD_eq_getElem?_getD,List.getElem?_eq_none<|by simpa using h];rfl
theorem IU{T:Type}{row:List (Nat×T)}(a:(row.map (·.1)).Nodup){i:Nat}(h:i<row.length):FE row (AY row i:Int)=some row[i].2:=by
 unfold FE;rw[We a h];simp[h]
theorem Wk{row:DY}{k:BA}(b:∀e∈row,0<e.1)(h:k∈row.map (·.2)):AQ row k≠0:=by
 unfold AQ;cases a:(row.find? λe=>decide<|e.2=k) with
 | none=>
  rw[find?_eq_none] at a;obtain⟨e,c,d⟩:=mem_map.1 h;exact absurd (by simpa using d) (a e c)
 | some e=>
  have:=b e (List.mem_of_find?_eq_some a);simp;omega
def TH(m:LM)(f:Option BA):BA×LE:=match f with
 | some k=>(k,lG m k)
 | none=>(⟨#[]⟩,(0,0,0))
section
variable{N:Nat}{x y:Bi}{sr sr' qr qr':DY}{sf sf' qf qf':List Nat}{m:LM}{key:BA}
theorem LX.snd(h:LX N x sr sf qr qf m):(sr.map (·.2)).Nodup/\(qr.map (·.2)).Nodup:=⟨by rw[h.sk];exact h.w.sn,by rw[h.qk];exact h.w.qn⟩
theorem LX.q0(h:LX N x sr sf qr qf m)(a:key∉x.q):AQ qr key=0:=IS (by rw[h.qk];exact a)
theorem LX.s0(h:LX N x sr sf qr qf m)(a:key∉AW x.s):AQ sr key=0:=IS (by rw[h.sk];exact a)
theorem Avl(h:LW x){e:BA×Int}(a:e∈x.s):lK x.s x.q e.1=e.2:=by
 have:e.1∈AW x.s:=mem_map.2 ⟨_,a,rfl⟩;unfold lK;rw[if_pos this];exact(D6 h.sn<|by rcases h.kinds _ a with h|h|h <;> omega).2 a
theorem LX.lift(h:LX N x sr sf qr qf m){e:Int}(g:(key,e)∈x.s)(d:e≠1)(hc:Iy sr sf key sr' sf') :
  LX N ⟨Bz x.s key,x.q⟩ sr' sf' qr qf (Sg m key (if lK x.s x.q key=3 then 0 else lK x.s x.q key,0,AQ qr key))/\(if lK x.s x.q key=3 then 0 else lK x.s x.q key)=lK (Bz x.s key) x.q key:=by
 have c:(if lK x.s x.q key=3 then 0 else lK x.s x.q key)=lK (Bz x.s key) x.q key:=by
  rw[KY]
  by_cases b:key∈x.q
  ·rw[(KZ h.w key).2 b,if_pos b];rfl
  ·have j:lK x.s x.q key≠2:=λc=>b ((KZ h.w key).1 c);have l:lK x.s x.q key≠1:=λn=>d (Nq h.w.sn g<|(Ni h.w key).1 n);rw[if_neg b];rcases Avn h.w key with a|a|a|a
   ·rw[a];rfl
   ·exact absurd a l
   ·exact absurd a j
   ·rw[a];rfl
 refine⟨?_,c⟩;have o:=hc.len;have p:=h.ns
 refine h.upd (y:=⟨Bz x.s key,x.q⟩) (key:=key) (h.w.sub filter_sublist) (by rw[hc.keys,h.sk];exact(Ep _ _).symm) h.qk (h.w.ssm _ g) (λk i=>⟨Nj i Iff.rfl,hc.ne k i,rfl⟩) (by rw[c,hc.at0]) (λf=>?_) (by omega) h.nq;simp only at f;rw[c,KY] at f;have b:key∉x.q:=λb=>by rw[if_pos b] at f;omega
 rw[c,KY,if_neg b,h.q0 b]
theorem LX.heat(h:LX N x sr sf qr qf m)(d:T9 N x)(c:key.size<64)(b:Iz sr sf key sr' sf')(hc:Iy qr qf key qr' qf'):LX N (DN x key) sr' sf' qr' qf' (Sg m key (1,AQ sr' key,0)):=by
 have g:sr.length=x.s.length:=by have:=congrArg length h.sk;simpa[AW] using this
 have i:qr.length=x.q.length:=by have:=congrArg length h.qk;simpa using this
 obtain⟨j,l⟩:=d;have n:=hc.len;have o:=h.ns;have e:=b.len;have p:=h.nq
 refine h.upd (h.w.heat c) (by rw[b.keys,h.sk];exact(Ki _ _).symm) (by rw[hc.keys,h.qk];rfl) c (λk a=>⟨VB a<|Gs a,b.ne k a,hc.ne k a⟩) ?_ (λf=>?_) (by omega) (by omega)
 ·rw[hc.at0];unfold DN;simp only;rw[Ye]
 ·simp at f
theorem LX.chill(h:LX N x sr sf qr qf m)(d:T9 N x)(c:key.size<64)(b:Iz sr sf key sr' sf')(hc:Iz qr qf key qr' qf'):LX N (Ct x key) sr' sf' qr' qf' (Sg m key (2,AQ sr' key,AQ qr' key)):=by
 have g:sr.length=x.s.length:=by have:=congrArg length h.sk;simpa[AW] using this
 have i:qr.length=x.q.length:=by have:=congrArg length h.qk;simpa using this
 obtain⟨j,l⟩:=d;have n:=hc.len;have o:=h.ns;have e:=b.len;have p:=h.nq
 refine h.upd (h.w.chill c) (by rw[b.keys,h.sk];exact(Ki _ _).symm) (by rw[hc.keys,h.qk];rfl) c (λk a=>⟨VB a<|(OW a).trans<|Gs a,b.ne k a,hc.ne k a⟩) ?_ (λf=>?_) (by omega) (by omega)
 ·unfold Ct;simp only;rw[Ye]
 ·simp at f
theorem LX.cool(h:LX N x sr sf qr qf m)(f:x.q.length+1<=N)(b:(key,(1:Int))∈x.s)(hc:Iy sr sf key sr' sf')(c:Iz qr qf key qr' qf'):LX N ⟨Bz x.s key,x.q++[key]⟩ sr' sf' qr' qf' (Sg m key (2,0,AQ qr' key)):=by
 have g:sr.length=x.s.length:=by have:=congrArg length h.sk;simpa[AW] using this
 have i:qr.length=x.q.length:=by have:=congrArg length h.qk;simpa using this
 have j:=hc.len;have l:=h.ns;have d:=c.len;have n:=h.nq
 refine h.upd (h.w.cool b) (by rw[hc.keys,h.sk];exact(Ep _ _).symm) (by rw[c.keys,h.qk,Ax<|h.w.hotq _ b rfl]) (h.w.ssm _ b) (λk a=>⟨Nj a<|OW a,hc.ne k a,c.ne k a⟩) ?_ (λe=>?_) (by omega) (by omega)
 ·rw[KY,hc.at0,if_pos<|by simp]
 ·simp at e
theorem LX.ghost(h:LX N x sr sf qr qf m){t:List BA}(b:x.q=key::t)(c:∀e∈sr,0<e.1)(hc:Iy qr qf key qr' qf') :
  LX N ⟨Cn x.s key,t⟩ sr sf qr' qf' (Sg m key (if AQ sr key=0 then 0 else 3,AQ sr key,0))/\(if AQ sr key=0 then (0:Int) else 3)=lK (Cn x.s key) t key:=by
 have o:=hc.len;have p:=h.ns;have r:=h.nq
 have f:=h.w.qn;rw[b,nodup_cons] at f;have g:(if AQ sr key=0 then (0:Int) else 3)=lK (Cn x.s key) t key:=by
  have n:=h.w.ghost b
  by_cases a:key∈AW x.s
  ·have:AQ sr key≠0:=Wk c (by rw[h.sk];exact a);rw[if_neg this];exact((Mg (x:=⟨Cn x.s key,t⟩) n key).2 (ES.2<|.inr ⟨rfl,a⟩)).symm
  ·rw[if_pos<|h.s0 a];unfold lK;rw[if_neg<|by rw[Hp];exact a,if_neg f.1]
 refine⟨?_,g⟩;have i:Aq x.q key=t:=by rw[b];exact KU (by rw[<- b];exact h.w.qn)
 refine h.upd (h.w.ghost b) (by rw[h.sk,Hp]) (by rw[hc.keys,h.qk,i]) (h.w.qsm _<|by rw[b];exact .head _) (λk d=>⟨Avm (by rw[Hp]) (Yc d) ?_,rfl,hc.ne k d⟩) (by rw[g,hc.at0]) (λj=>?_) (by omega) (by omega)
 ·rw[<- i];exact Gs d
 ·simp only at j ⊢;split at j
  ·rename_i l;rw[if_pos l,l]
  ·omega
theorem LX.rem(h:LX N x sr sf qr qf m)(c:key.size<64)(hc:Iy sr sf key sr' sf')(a:Iy qr qf key qr' qf'):LX N ⟨Bz x.s key,Aq x.q key⟩ sr' sf' qr' qf' (Sg m key (0,0,0)):=by
 have e:=hc.len;have f:=h.ns;have d:=a.len;have g:=h.nq
 refine h.upd (h.w.rem key) (by rw[hc.keys,h.sk];exact(Ep _ _).symm) (by rw[a.keys,h.qk]) c (λk b=>⟨Nj b<|Gs b,hc.ne k b,a.ne k b⟩) ?_ (λ_=>rfl) (by omega) (by omega);rw[KY,hc.at0,a.at0,if_neg<|λh=>(AO.1 h).2 rfl]
end
end Go.Hb
namespace Go.Proofs.YtjipofkjmmpjdaaGreat
open Go.Hb Go.IntWalk
section
variable{W w:World}{L M:List HP}{F:HP->List HP}{b nb tb:Nat}{c:Int}{N N':Nat}{x y:Bi}{sb qb xb:Nat}{row sr sr' qr qr':DY}{free sf sf' qf qf':List Nat}{m:LM}{key:BA}{h g i:Int}
theorem Nl{Q:VW}(hi:LX N x sr sf qr qf m)(A:(sr.map (·.1)).Nodup)(E:∀e∈sr,0<e.1)
  (B:∀w,Ab W w (eB b c sb qb xb h g::lst .s sb sr sf::lst .s qb qr qf::ixr Ap.iii xb 0 m::M) ->
   Q (.tuple #[.s (TH m<|CS x.s i).1,.agg #[.i (TH m<|CS x.s i).2.1,.i (TH m<|CS x.s i).2.2.1,.i (TH m<|CS x.s i).2.2.2]]) w) :
  ∀(d j:Nat)(w:World),j+d=sr.length->CS (x.s.drop j) i=CS x.s i ->
   Ab W w (blk tb [.i 0,.i 0,.i 0]::eB b c sb qb xb h g::lst .s sb sr sf::lst .s qb qr qf::ixr Ap.iii xb 0 m::M) ->
   Qx AU Q (d+1) (some ⟨b,0,none⟩) i tb 0 (AY sr j:Int) w:=by
 have C:sr.length=x.s.length:=by have:=congrArg length hi.sk;simpa[AW] using this
 intro d
 induction d with
 | zero=>
  intro j w F v hs;rw[Ob,TQ<|by omega]
  with_reducible refine A3 (λn=>?_) (λn=>?_)
  ·exact absurd rfl n
  refine jw Aae ?_;have e:CS x.s i=none:=by rw[<- v,List.drop_eq_nil_of_le<|by omega];rfl
  repeat (first|((with_reducible refine A7 ?_);first|refine Af hs ?_|fail)|((with_reducible refine Bv ?_);first|refine A4 hs λw hs=>?_|fail)|fail)
  have:=B w (by exact Ab.fin hs);rw[e] at this;exact this
 | succ d G=>
  intro j w F v hs;rw[Ob];have f:j<sr.length:=by omega
  have k:j<x.s.length:=by omega
  have y:=OT f;have D:=E _ (List.getElem_mem f);refine Am (by rw[y];simp;omega) ?_
  repeat (first|with_reducible refine Aa ?_|((with_reducible refine A7 ?_);first|refine Af hs ?_|fail)|fail)
  refine AJ (FI hs) λe w ⟨r,hs⟩=>⟨_,_,r,?_⟩;rw[IU A f];rw[Option.getD_some];have t:sr[j].2=x.s[j].1:=by
   have:=congrArg (λl:List BA=>l[j]?) hi.sk;simp only[AW,getElem?_map,getElem?_eq_getElem f,getElem?_eq_getElem k,map_some,Option.some.injEq] at this;exact this
  have o:x.s[j]∈x.s:=List.getElem_mem k;have I:=hi.w.ssm _ o;have z:lK x.s x.q x.s[j].1=x.s[j].2:=Avl hi.w o;have p:x.s.drop j=x.s[j]::x.s.drop (j+1):=List.drop_eq_getElem_cons k;have a:CS x.s i=if x.s[j].2=i then some x.s[j].1 else CS (x.s.drop<|j+1) i:=by
   rw[<- v,p];unfold CS
   by_cases h:x.s[j].2=i
   ·rw[if_pos h,find?_cons_of_pos<|by simpa using h];rfl
   ·rw[if_neg h,find?_cons_of_neg<|by simpa using h]
  rw[t]
  repeat (first|with_reducible refine Aa ?_|((with_reducible refine A7 ?_);first|refine Af hs ?_|fail)|fail)
  refine(Dn hs<|by omega).mono λe w ⟨r,hs⟩=>⟨_,_,_,_,r,?_⟩;have H:(AH m x.s[j].1).getD ((0,0,0):Int×Int×Int)=lG m x.s[j].1:=rfl;rw[H];have u:(lG m x.s[j].1).1=x.s[j].2:=by rw[hi.ent];exact z
  repeat (first|((with_reducible refine A7 ?_);first|refine Af hs ?_|fail)|((with_reducible refine Bv ?_);first|refine A4 hs λw hs=>?_|fail)|with_reducible refine Ak hs λJ w hs=>?_|fail)
  with_reducible refine A3 (λn=>?_) (λn=>?_)
  ·rw[u] at n;rw[if_pos n] at a
   repeat (first|((with_reducible refine A7 ?_);first|refine Af hs ?_|fail)|((with_reducible refine Bv ?_);first|refine A4 hs λw hs=>?_|fail)|with_reducible refine AI hs λw hs=>?_|fail)
   have:=B w (by exact Ab.fin hs);rw[a] at this;exact this
  ·rw[u] at n;rw[if_neg n] at a
   repeat (first|with_reducible refine Aa ?_|((with_reducible refine A7 ?_);first|refine Af hs ?_|fail)|fail)
   refine Ao (OX hs) λe w ⟨r,hs⟩=>⟨_,r,?_⟩;rw[TP A f];exact G (j+1) w (by omega) a.symm (by exact Ab.fin hs)
theorem JF(hi:LX N x sr sf qr qf m)(hs:Ab W w (eB b c sb qb xb h g::lst .s sb sr sf::lst .s qb qr qf::ixr Ap.iii xb 0 m::M)) :
  Ai PR 290 #[pq b 0,.i i] w λe w'=>e = .returned (.tuple #[.s (TH m<|CS x.s i).1,.agg #[.i (TH m<|CS x.s i).2.1,.i (TH m<|CS x.s i).2.2.1,.i (TH m<|CS x.s i).2.2.2]]) /\
   Ab W w' (eB b c sb qb xb h g::lst .s sb sr sf::lst .s qb qr qf::ixr Ap.iii xb 0 m::M):=by
 obtain⟨a,d⟩:=Kl (b:=sb) (row:=sr) (free:=sf) (M:=eB b c sb qb xb h g::lst .s qb qr qf::ixr Ap.iii xb 0 m::M) (by exact Ab.fin hs);refine c1 (cw ⟨mixed,func290,rfl⟩ As2 ?_);refine Ak hs λtb w hs=>?_
 repeat (first|with_reducible refine Aa ?_|((with_reducible refine A7 ?_);first|refine Af hs ?_|fail)|fail)
 refine Ao (Et hs) λe w ⟨f,hs⟩=>⟨_,f,?_⟩;refine AP (sr.length+1) ?_;exact Nl hi a d (λw hs=>⟨rfl,hs⟩) sr.length 0 w (by omega) rfl (by exact Ab.fin hs)
theorem KE(hi:LX N x sr sf qr qf m){e:Int}(a:(key,e)∈x.s)(g:e≠1)(j:N<400000000)
  (hs:Ab W w (eB b c sb qb xb ((AB x.s 1:Int)) ((AB x.s 3:Int))::lst .s sb sr sf::lst .s qb qr qf::ixr Ap.iii xb 0 m::M)) :
  Ai PR 294 #[pq b 0,.agg #[.i (lG m key).1,.i (lG m key).2.1,.i (lG m key).2.2],.s key] w λe w'=>e = .returned (.tuple #[])/\Ab W w' (lirR b c N ⟨Bz x.s key,x.q⟩::M):=by
 refine c1 (cw ⟨mixed,func294,rfl⟩ As6 ?_);rw[hi.ent];have l:=hi.ns;have k:key.size<64:=hi.w.ssm _ a;refine Ak hs λnb w hs=>?_
 repeat (first|with_reducible refine Aa ?_|((with_reducible refine A7 ?_);first|refine Af hs ?_|fail)|((with_reducible refine Cm ?_);first|refine Au ?_|fail)|((with_reducible refine Bk ?_);first|refine BJ hs ?_|fail)|with_reducible refine AI hs λw hs=>?_|fail)
 refine AJ (FF hs (by omega) hi.snd.1 rfl) λe w ⟨⟨_,_,a⟩,o,hc,hs⟩=>⟨_,_,a,?_⟩;obtain⟨d,f⟩:=hi.lift (sf':=o) ‹(key,_)∈x.s› g hc
 repeat (first|((with_reducible refine A7 ?_);first|refine Af hs ?_|fail)|((with_reducible refine Bv ?_);first|refine A4 hs λw hs=>?_|fail)|fail)
 with_reducible refine A3 (λh=>?_) (λh=>?_)
 ·rw[if_pos h] at d f
  repeat (first|((with_reducible refine A7 ?_);first|refine Af hs ?_|fail)|((with_reducible refine Bv ?_);first|refine A4 hs λw hs=>?_|fail)|fail)
  refine Av (D1 (W:=W) (M:=M) (c:=c) (b:=b) (n:=(0,0,AQ qr key)) hi d k (Ic _ _) f j<|by exact Ab.fin hs) λe w ⟨a,hs⟩=>⟨a,?_⟩;exact⟨rfl,hs⟩
 ·rw[if_neg h] at d f
  repeat (first|((with_reducible refine A7 ?_);first|refine Af hs ?_|fail)|fail)
  refine Av (D1 (W:=W) (M:=M) (c:=c) (b:=b) (n:=(lK x.s x.q key,0,AQ qr key)) hi d k (Ic _ _) f j<|by exact Ab.fin hs) λe w ⟨a,hs⟩=>⟨a,?_⟩;exact⟨rfl,hs⟩
theorem Amv{k:BA×Int}{t:SL}(h:(AW (k::t)).Nodup):Bz (k::t) k.1=t:=by
 have a:Bz (k::t) k.1=Bz t k.1:=by unfold Bz;rw[filter_cons_of_neg<|by simp]
 rw[a];exact Sf (by unfold AW at h;rw[map_cons,nodup_cons] at h;exact h.1)
theorem Nm(u:N<400000000):∀(d:Nat)(S:SL)(w:World),S.length=d->Ab W w (lirR b c N ⟨S,y.q⟩::M)->Qt AU (λv w'=>v = .tuple #[]/\Ab W w' (lirR b c N ⟨E2 S,y.q⟩::M)) (d+1) (some ⟨b,0,none⟩) w:=by
 intro d
 induction d with
 | zero=>
  intro S w i hs;have x:S=[]:=length_eq_zero_iff.1 i;subst x;obtain⟨sb,qb,xb,sr,sf,qr,qf,m,hi,hs⟩:=Cf hs;have z:sr=[]:=by have:=hi.sk;simpa[AW] using this
  subst z;rw[NY]
  repeat (first|with_reducible refine Aa ?_|((with_reducible refine A7 ?_);first|refine Af hs ?_|fail)|fail)
  refine Ao (FJ hs) λe w ⟨g,hs⟩=>⟨_,g,?_⟩;refine Ad rfl ?_;exact⟨rfl,Cu hi rfl rfl<|by exact Ab.fin hs⟩
 | succ d A=>
  intro S w i hs;obtain⟨a,t,o⟩:∃a t,S=a::t:=by
   cases S with
   | nil=>simp at i
   | cons a t=>exact⟨a,t,rfl⟩
  subst o;obtain⟨sb,qb,xb,sr,sf,qr,qf,m,hi,hs⟩:=Cf hs;obtain⟨B,E⟩:=Kl (b:=sb) (row:=sr) (free:=sf) (M:=eB b c sb qb xb ((AB (a::t) 1:Int)) ((AB (a::t) 3:Int))::lst .s qb qr qf::ixr Ap.iii xb 0 m::M) (by exact Ab.fin hs);have r:sr.length=d+1:=by have:=congrArg length hi.sk;rw[<- i];simpa[AW] using this
  rw[NY]
  repeat (first|with_reducible refine Aa ?_|((with_reducible refine A7 ?_);first|refine Af hs ?_|fail)|fail)
  refine Ao (FJ hs) λe w ⟨g,hs⟩=>⟨_,g,?_⟩;refine Am (decide_eq_true<|by omega) ?_;refine An [eB b c sb qb xb ((AB (a::t) 1:Int))<|(AB (a::t) 3:Int)] hs λw hs=>?_
  repeat (first|with_reducible refine Aa ?_|((with_reducible refine A7 ?_);first|refine Af hs ?_|fail)|((with_reducible refine Cm ?_);first|refine Au ?_|fail)|((with_reducible refine Bk ?_);first|refine Ag hs ?_|fail)|fail)
  refine Ao (Et hs) λe w ⟨g,hs⟩=>⟨_,g,?_⟩
  repeat (first|((with_reducible refine Bk ?_);first|refine Ag hs ?_|fail)|fail)
  refine AJ (FI hs) λe w ⟨g,hs⟩=>⟨_,_,g,?_⟩;have j:0<sr.length:=by omega
  rw[IU B j];rw[Option.getD_some];have k:sr[0].2=a.1:=by
   have:=congrArg (λl:List BA=>l[0]?) hi.sk;simp only[AW,getElem?_map,getElem?_eq_getElem j,getElem?_cons_zero,map_some,Option.some.injEq] at this;exact this
  have f:(a.1,a.2)∈a::t:=.head _;have F:a.1.size<64:=hi.w.ssm _ f;have C:a.2=1\/a.2=2\/a.2=3:=hi.w.kinds _ f;have n:(lG m a.1).1=a.2:=by
   rw[hi.ent];exact Avl (e:=(a.1,a.2)) hi.w f
  rw[k]
  repeat (first|with_reducible refine Aa ?_|((with_reducible refine A7 ?_);first|refine Af hs ?_|fail)|fail)
  refine(Dn hs<|by omega).mono λe w ⟨g,hs⟩=>⟨_,_,_,_,g,?_⟩;have D:(AH m a.1).getD ((0,0,0):Int×Int×Int)=lG m a.1:=rfl;rw[D]
  repeat (first|((with_reducible refine A7 ?_);first|refine Af hs ?_|fail)|((with_reducible refine Bv ?_);first|refine A4 hs λw hs=>?_|fail)|with_reducible refine Ak hs λG w hs=>?_|fail)
  with_reducible refine A3 (λh=>?_) (λh=>?_)
  ·rw[n] at h;have p:E2 (a::t)=a::t:=by unfold E2;rw[dropWhile_cons,if_neg<|by simp[h]]
   rw[p];exact⟨rfl,Cu hi rfl rfl<|by exact Ab.fin hs⟩
  ·rw[n] at h;have p:E2 (a::t)=E2 t:=by unfold E2;rw[dropWhile_cons,if_pos<|by simp[h]]
   rw[p]
   repeat (first|((with_reducible refine A7 ?_);first|refine Af hs ?_|fail)|fail)
   refine Av (KE (W:=W) (M:=M) (c:=c) (b:=b) hi f h u<|by exact Ab.fin hs) λe w ⟨g,hs⟩=>⟨g,?_⟩;rw[show Bz (a::t) a.1=t from Amv hi.w.sn] at hs;exact A t w (by simpa using i) hs
theorem Ca(a:N<400000000)(hs:Ab W w (lirR b c N x::M)):Ai PR 284 #[pq b 0] w λe w'=>e = .returned (.tuple #[])/\Ab W w' (lirR b c N (lPr x)::M):=by
 refine c1 (cw ⟨mixed,func284,rfl⟩ Asw ?_);refine AP (x.s.length+1) ?_;exact Nm (y:=x) a x.s.length x.s w rfl hs
theorem Mn(j:N<400000000):∀(d:Nat)(S:SL)(w:World),((AB S 3:Int)-c).toNat=d->0<=c->Ab W w (lirR b c N ⟨S,y.q⟩::M)->Qu AU (λv w'=>v = .tuple #[]/\Ab W w' (lirR b c N ⟨CT S d,y.q⟩::M)) (d+1) (some ⟨b,0,none⟩) w:=by
 intro d
 induction d with
 | zero=>
  intro S w l hc hs;obtain⟨sb,qb,xb,sr,sf,qr,qf,m,hi,hs⟩:=Cf hs;rw[NZ]
  repeat (first|with_reducible refine Aa ?_|((with_reducible refine A7 ?_);first|refine Af hs ?_|fail)|((with_reducible refine Cm ?_);first|refine Au ?_|fail)|((with_reducible refine Bk ?_);first|refine BJ hs ?_|fail)|with_reducible refine AI hs λw hs=>?_|fail)
  refine Ad (decide_eq_false<|by simp only;omega) ?_;exact⟨rfl,Cu hi rfl rfl<|by exact Ab.fin hs⟩
 | succ d n=>
  intro S w l hc hs;obtain⟨sb,qb,xb,sr,sf,qr,qf,m,hi,hs⟩:=Cf hs;rw[NZ]
  repeat (first|with_reducible refine Aa ?_|((with_reducible refine A7 ?_);first|refine Af hs ?_|fail)|((with_reducible refine Cm ?_);first|refine Au ?_|fail)|((with_reducible refine Bk ?_);first|refine BJ hs ?_|fail)|with_reducible refine AI hs λw hs=>?_|fail)
  refine Am (decide_eq_true<|by simp only;omega) ?_;refine(JF (W:=W) (M:=M) (c:=c) (b:=b) (sb:=sb) (qb:=qb) (xb:=xb) (h:=(AB S 1:Int)) (g:=(AB S 3:Int)) (i:=3) hi<|by exact Ab.fin hs).mono λe w ⟨a,hs⟩=>⟨_,_,_,_,a,?_⟩;cases e:CS S 3 with
  | none=>have:=Ho.1 e;omega
  | some k=>
   have f:=GI e;have o:CT S (d+1)=CT (Bz S k) d:=by rw[CT,e]
   rw[o];rw[show TH m (some k)=(k,lG m k) from rfl]
   repeat (first|((with_reducible refine A7 ?_);first|refine Af hs ?_|fail)|((with_reducible refine Bv ?_);first|refine A4 hs λw hs=>?_|fail)|with_reducible refine Ak hs λr w hs=>?_|fail)
   refine Av (KE (W:=W) (M:=M) (c:=c) (b:=b) hi f (by decide) j<|by exact Ab.fin hs) λe w ⟨a,hs⟩=>⟨a,?_⟩;have p:=CQ (k:=k) hi.w.sn 3;simp only[if_pos f] at p;exact n (Bz S k) w (by omega) hc hs
theorem EI(a:N<400000000)(hc:0<=c)(hs:Ab W w (lirR b c N x::M)):Ai PR 286 #[pq b 0] w λe w'=>e = .returned (.tuple #[])/\Ab W w' (lirR b c N ⟨II c x.s,x.q⟩::M):=by
 refine c1 (cw ⟨mixed,func286,rfl⟩ Asy ?_);refine AP (((AB x.s 3:Int)-c).toNat + 1) ?_;exact Mn (y:=x) a _ x.s w rfl hc hs
theorem KD(o:x.q.length+1<=N)(B:N<300000000)(C:0<AB x.s 1)(hs:Ab W w (lirR b c N x::M)):Ai PR 281 #[pq b 0] w λe w'=>e = .returned (.tuple #[])/\Ab W w' (lirR b c N (Dp x)::M):=by
 refine c1 (cw ⟨mixed,func281,rfl⟩ Ast ?_);obtain⟨sb,qb,xb,sr,sf,qr,qf,m,hi,hs⟩:=Cf hs;have p:=hi.ns;have r:=hi.nq;refine(JF (W:=W) (M:=M) (c:=c) (b:=b) (sb:=sb) (qb:=qb) (xb:=xb) (h:=(AB x.s 1:Int)) (g:=(AB x.s 3:Int)) (i:=1) hi<|by exact Ab.fin hs).mono λe w ⟨a,hs⟩=>⟨_,_,_,_,a,?_⟩;cases d:CS x.s 1 with
 | none=>have:=Ho.1 d;omega
 | some k=>
  have l:=GI d;have t:k.size<64:=hi.w.ssm _ l;rw[show TH m (some k)=(k,lG m k) from rfl,hi.ent];refine Ak hs λnb w hs=>?_
  repeat (first|with_reducible refine Aa ?_|((with_reducible refine A7 ?_);first|refine Af hs ?_|fail)|((with_reducible refine Bv ?_);first|refine A4 hs λw hs=>?_|fail)|((with_reducible refine Cm ?_);first|refine Au ?_|fail)|((with_reducible refine Bk ?_);first|refine BJ hs ?_|fail)|with_reducible refine AI hs λw hs=>?_|fail)
  refine AJ (FF hs (by omega) hi.snd.1 rfl) λe w ⟨⟨_,_,a⟩,u,hc,hs⟩=>⟨_,_,a,?_⟩
  repeat (first|((with_reducible refine Bv ?_);first|refine A4 hs λw hs=>?_|fail)|fail)
  refine Av (OD (W:=W) (M:=lst .s sb (Dv sr k) u::ixr Ap.iii xb 0 m::M) (c:=c) (b:=b) (nb:=nb) (sb:=sb) (qb:=qb) (xb:=xb) (h:=(AB x.s 1:Int)) (g:=(AB x.s 3:Int)) (i:=2) (s:=0) (q:=AQ qr k) (key:=k) (qr:=qr) (qf:=qf) (by exact Ab.fin hs) (by omega) hi.snd.2 rfl) λe w ⟨a,f,v,j,hs⟩=>⟨a,?_⟩
  repeat (first|((with_reducible refine A7 ?_);first|refine Af hs ?_|fail)|fail)
  have y:=hi.cool o l hc j;have z:(2:Int)=lK (Bz x.s k) (x.q++[k]) k:=by rw[KY,if_pos<|by simp]
  refine Av (D1 (W:=W) (M:=M) (c:=c) (b:=b) (n:=(2,0,AQ f k)) hi y t (Ic _ _) z (by omega)<|by exact Ab.fin hs) λe w ⟨a,hs⟩=>⟨a,?_⟩;refine Av (Ca (by omega) hs) λe w ⟨a,hs⟩=>⟨a,?_⟩;have A:Dp x=lPr ⟨Bz x.s k,x.q++[k]⟩:=by unfold Dp Nf lPr;rw[d]
  rw[A];exact⟨rfl,hs⟩
theorem HH(hi:LX N x sr sf qr qf m)(j:key.size<64)(z:0<=Dq c)(k:T9 N x)(A:N<200000000){n:LE}(l:n.2=(AQ sr key,AQ qr key))
  (hs:Ab W w (eB b c sb qb xb ((AB x.s 1:Int)) ((AB x.s 3:Int))::lst .s sb sr sf::lst .s qb qr qf::ixr Ap.iii xb 0 m::M)) :
  Ai PR 283 #[pq b 0,.agg #[.i n.1,.i n.2.1,.i n.2.2],.s key] w λe w'=>e = .returned (.tuple #[])/\Ab W w' (lirR b c N (E1 c x key)::M):=by
 refine c1 (cw ⟨mixed,func283,rfl⟩ Asv ?_);rw[l];have o:=hi.ns;have p:=hi.nq;refine Ak hs λnb w hs=>?_
 repeat (first|((with_reducible refine Bv ?_);first|refine A4 hs λw hs=>?_|fail)|fail)
 refine Av (OE (W:=W) (M:=lst .s qb qr qf::ixr Ap.iii xb 0 m::M) (c:=c) (b:=b) (nb:=nb) (sb:=sb) (qb:=qb) (xb:=xb) (h:=(AB x.s 1:Int)) (g:=(AB x.s 3:Int)) (i:=1) (s:=AQ sr key) (q:=AQ qr key) (key:=key) (sr:=sr) (sf:=sf) (by exact Ab.fin hs) (by omega) hi.snd.1 rfl) λe w ⟨a,d,sf',r,hs⟩=>⟨a,?_⟩;refine Av (GM (W:=W) (M:=lst .s sb d sf'::ixr Ap.iii xb 0 m::M) (c:=c) (b:=b) (nb:=nb) (sb:=sb) (qb:=qb) (xb:=xb) (h:=(AB x.s 1:Int)) (g:=(AB x.s 3:Int)) (i:=1) (s:=AQ d key) (q:=AQ qr key) (key:=key) (qr:=qr) (qf:=qf) (by exact Ab.fin hs) (by omega) hi.snd.2 rfl) λe w ⟨a,t,hc,hs⟩=>⟨a,?_⟩
 repeat (first|((with_reducible refine A7 ?_);first|refine Af hs ?_|fail)|fail)
 have u:=hi.heat k j r hc;have v:(1:Int)=lK (If x.s key 1) (Aq x.q key) key:=(Ye _ _ _).symm;refine Av (D1 (W:=W) (M:=M) (c:=c) (b:=b) (n:=(1,AQ d key,0)) hi u j (Ab9 _ _ _) v (by omega)<|by exact Ab.fin hs) λe w ⟨a,hs⟩=>⟨a,?_⟩;obtain⟨sb,qb,xb,sr,sf,qr,qf,m,hi,hs⟩:=Cf hs
 repeat (first|with_reducible refine Aa ?_|((with_reducible refine A7 ?_);first|refine Af hs ?_|fail)|((with_reducible refine Cm ?_);first|refine Au ?_|fail)|((with_reducible refine Bk ?_);first|refine BJ hs ?_|fail)|with_reducible refine AI hs λw hs=>?_|fail)
 have f:(DN x key).q.length+1<=N:=by
  have B:=Bq x.q key;have C:=k.2
  show(Aq x.q key).length+1<=N;omega
 unfold E1
 with_reducible refine A3 (λy=>?_) (λy=>?_)
 ·rw[if_pos<|by omega];refine Av (KD (W:=W) (M:=M) (b:=b) (c:=c) (N:=N) (x:=DN x key) f (by omega) (by omega)<|Cu hi rfl rfl<|by exact Ab.fin hs) λe w ⟨a,hs⟩=>⟨a,?_⟩;exact⟨rfl,hs⟩
 ·rw[if_neg<|by omega];exact⟨rfl,E8 (Cu hi rfl rfl<|by exact Ab.fin hs)<|by omega⟩
theorem GK(hi:LX N x sr sf qr qf m)(j:key.size<64)(k:T9 N x)(y:N<200000000){n:LE}(l:n.2=(AQ sr key,AQ qr key))
  (hs:Ab W w (eB b c sb qb xb ((AB x.s 1:Int)) ((AB x.s 3:Int))::lst .s sb sr sf::lst .s qb qr qf::ixr Ap.iii xb 0 m::M)) :
  Ai PR 285 #[pq b 0,.agg #[.i n.1,.i n.2.1,.i n.2.2],.s key] w λe w'=>e = .returned (.tuple #[])/\Ab W w' (lirR b c N (Ct x key)::M):=by
 refine c1 (cw ⟨mixed,func285,rfl⟩ Asx ?_);rw[l];have o:=hi.ns;have p:=hi.nq;refine Ak hs λnb w hs=>?_
 repeat (first|((with_reducible refine Bv ?_);first|refine A4 hs λw hs=>?_|fail)|fail)
 refine Av (OE (W:=W) (M:=lst .s qb qr qf::ixr Ap.iii xb 0 m::M) (c:=c) (b:=b) (nb:=nb) (sb:=sb) (qb:=qb) (xb:=xb) (h:=(AB x.s 1:Int)) (g:=(AB x.s 3:Int)) (i:=2) (s:=AQ sr key) (q:=AQ qr key) (key:=key) (sr:=sr) (sf:=sf) (by exact Ab.fin hs) (by omega) hi.snd.1 rfl) λe w ⟨d,a,sf',r,hs⟩=>⟨d,?_⟩;refine Av (OD (W:=W) (M:=lst .s sb a sf'::ixr Ap.iii xb 0 m::M) (c:=c) (b:=b) (nb:=nb) (sb:=sb) (qb:=qb) (xb:=xb) (h:=(AB x.s 1:Int)) (g:=(AB x.s 3:Int)) (i:=2) (s:=AQ a key) (q:=AQ qr key) (key:=key) (qr:=qr) (qf:=qf) (by exact Ab.fin hs) (by omega) hi.snd.2 rfl) λe w ⟨d,f,t,hc,hs⟩=>⟨d,?_⟩
 repeat (first|((with_reducible refine A7 ?_);first|refine Af hs ?_|fail)|fail)
 have u:=hi.chill k j r hc;have v:(2:Int)=lK (If x.s key 2) (Aq x.q key++[key]) key:=(Ye _ _ _).symm;refine Av (D1 (W:=W) (M:=M) (c:=c) (b:=b) (n:=(2,AQ a key,AQ f key)) hi u j (Ab9 _ _ _) v (by omega)<|by exact Ab.fin hs) λe w ⟨d,hs⟩=>⟨d,?_⟩;exact⟨rfl,E8 hs<|by omega⟩
end
end Go.Proofs.YtjipofkjmmpjdaaGreat
namespace Go.Hb
theorem Yd{x:Bi}(h:LW x)(k:BA):Kh x.s k=1↔lK x.s x.q k=1:=by rw[Ni h,D6 h.sn<|by decide]
theorem Amu{x:Bi}(h:LW x)(k:BA):Kh x.s k=3↔lK x.s x.q k=3:=by rw[Mg h,D6 h.sn<|by decide]
theorem Aju{x:Bi}(h:LW x){k:BA}(d:k∈x.q):Kh x.s k=2↔k∈AW x.s:=by
 rw[D6 h.sn<|by decide];constructor
 ·intro c;exact mem_map.2 ⟨_,c,rfl⟩
 ·intro c;obtain⟨e,b,rfl⟩:=mem_map.1 c;rcases h.kinds e b with a|a|a
  ·exact absurd d (h.hotq e b a)
  ·rw[<- a];exact b
  ·exact absurd d (h.ghq e b a)
theorem Ajs(S:SL)(i:Int):AB S i<=S.length:=countP_le_length
end Go.Hb
namespace Go.Proofs.YtjipofkjmmpjdaaGreat
open Go.Hb Go.IntWalk
section
variable{W w:World}{L M:List HP}{F:HP->List HP}{b nb tb:Nat}{c:Int}{N N':Nat}{x y:Bi}{sb qb xb:Nat}{row sr sr' qr qr':DY}{free sf sf' qf qf':List Nat}{m:LM}{key:BA}{h g i:Int}
theorem A47(h:Ab W w (lirR b c N x::M)):w.cell? ⟨b,0,none⟩=some (.i c):=by
 obtain⟨sb,qb,xb,sr,sf,qr,qf,m,hi,h⟩:=Cf h;exact h.cell (q:=0) rfl
theorem Am6(hs:Ab W w L)[hA:At L b (lirR b c N x) F]:Ai PR 279 #[pq b 0] w λe w'=>e = .returned (.i c)/\Ab W w' (F<|lirR b c N x):=by
 refine At.call1 (hA:=hA) hs λM hs=>?_;clear hA;refine c1 (cw ⟨mixed,func279,rfl⟩ Asr ?_);obtain⟨sb,qb,xb,sr,sf,qr,qf,m,hi,hs⟩:=Cf hs;refine Ad rfl ?_
 repeat (first|with_reducible refine Aa ?_|((with_reducible refine A7 ?_);first|refine Af hs ?_|fail)|fail)
 exact⟨rfl,Cu hi rfl rfl<|by exact Ab.fin hs⟩
theorem OC(hi:LX N x sr sf qr qf m)(j:N<400000000)(hs:Ab W w (eB b c sb qb xb ((AB x.s 1:Int)) ((AB x.s 3:Int))::lst .s sb sr sf::lst .s qb qr qf::ixr Ap.iii xb 0 m::M)) :
  Ai PR 276 #[pq b 0] w λe w'=>e = .returned (.i (CL x:Int))/\Ab W w' (eB b c sb qb xb ((AB x.s 1:Int)) ((AB x.s 3:Int))::lst .s sb sr sf::lst .s qb qr qf::ixr Ap.iii xb 0 m::M):=by
 refine c1 (cw ⟨mixed,func276,rfl⟩ Aso ?_);have k:=Ajs x.s 1;have a:=hi.ns;have d:=hi.nq;have f:qr.length=x.q.length:=by have:=congrArg length hi.qk;simpa using this
 have g:sr.length=x.s.length:=by have:=congrArg length hi.sk;simpa[AW] using this
 refine Ad rfl ?_;refine An [eB b c sb qb xb ((AB x.s 1:Int))<|(AB x.s 3:Int)] hs λw hs=>?_
 repeat (first|with_reducible refine Aa ?_|((with_reducible refine Cm ?_);first|refine Au ?_|fail)|fail)
 refine Ao (FJ hs) λe w ⟨h,hs⟩=>⟨_,h,?_⟩
 repeat (first|((with_reducible refine Bk ?_);first|refine Ag hs ?_|fail)|fail)
 rw[i64_in _<|by omega,f];exact⟨rfl,by exact Ab.fin hs⟩
theorem Ss(hs:Ab W w L)[hA:At L b (lirR b c N x) F](a:N<400000000):Ai PR 276 #[pq b 0] w λe w'=>e = .returned (.i (CL x:Int))/\Ab W w' (F<|lirR b c N x):=by
 refine At.call1 (hA:=hA) hs λM hs=>?_;obtain⟨sb,qb,xb,sr,sf,qr,qf,m,hi,hs⟩:=Cf hs;exact(OC hi a hs).mono λe w ⟨d,hs⟩=>⟨d,Cu hi rfl rfl hs⟩
theorem Sr(hs:Ab W w L)[hA:At L b (lirR b c N x) F](g:key.size<64):Ai PR 274 #[pq b 0,.s key] w λe w'=>e = .returned (.b<|decide<|key∈BP x)/\Ab W w' (F<|lirR b c N x):=by
 refine At.call1 (hA:=hA) hs λM hs=>?_;clear hA;refine c1 (cw ⟨mixed,func274,rfl⟩ Asm ?_);obtain⟨sb,qb,xb,sr,sf,qr,qf,m,hi,hs⟩:=Cf hs;refine Ad rfl ?_
 repeat (first|with_reducible refine Aa ?_|((with_reducible refine A7 ?_);first|refine Af hs ?_|fail)|fail)
 refine(Dn hs<|by omega).mono λe w ⟨d,hs⟩=>⟨_,_,_,_,d,?_⟩;have f:(AH m key).getD ((0,0,0):Int×Int×Int)=lG m key:=rfl;rw[f,hi.ent]
 repeat (first|((with_reducible refine A7 ?_);first|refine Af hs ?_|fail)|((with_reducible refine Bv ?_);first|refine A4 hs λw hs=>?_|fail)|with_reducible refine Ak hs λi w hs=>?_|fail)
 with_reducible refine A3 (λa=>?_) (λa=>?_)
 ·have:key∈BP x:=Bj.2 (.inr<|(Ni hi.w key).1 a);rw[decide_eq_true this];exact⟨rfl,Cu hi rfl rfl<|by exact Ab.fin hs⟩
 ·repeat (first|((with_reducible refine A7 ?_);first|refine Af hs ?_|fail)|fail)
  have:(lK x.s x.q key==2)=decide (key∈BP x):=by
   rw[Bool.eq_iff_iff,beq_iff_eq,decide_eq_true_eq,KZ hi.w,Bj];exact⟨.inl,λh=>h.elim id λh=>absurd ((Ni hi.w key).2 h) a⟩
  rw[this];exact⟨rfl,Cu hi rfl rfl<|by exact Ab.fin hs⟩
theorem Acm(hs:Ab W w L)[hA:At L b (lirR b c N x) F](j:key.size<64)(A:N<200000000):Ai PR 278 #[pq b 0,.s key] w λe w'=>e = .returned (.b (Mj x key).1)/\Ab W w' (F<|lirR b c N (Mj x key).2):=by
 refine At.call1 (hA:=hA) hs λM hs=>?_;clear hA;refine c1 (cw ⟨mixed,func278,rfl⟩ Asq ?_);refine Ao (Sr hs j) λe w ⟨f,hs⟩=>⟨_,f,?_⟩;have d:=Bch (Sp hs).1 (k:=key)
 by_cases p:key∈BP x
 ·rw[decide_eq_true p] at d ⊢;have a:Kh x.s key=1\/key∈x.q:=by simpa using d
  refine Ad rfl ?_;obtain⟨sb,qb,xb,sr,sf,qr,qf,m,hi,hs⟩:=Cf hs;have r:=hi.ns;have t:=hi.nq
  repeat (first|with_reducible refine Aa ?_|((with_reducible refine A7 ?_);first|refine Af hs ?_|fail)|fail)
  refine(Dn hs<|by omega).mono λe w ⟨f,hs⟩=>⟨_,_,_,_,f,?_⟩;have u:(AH m key).getD ((0,0,0):Int×Int×Int)=lG m key:=rfl;rw[u,hi.ent];refine Ak hs λnb w hs=>?_
  repeat (first|with_reducible refine Aa ?_|((with_reducible refine A7 ?_);first|refine Af hs ?_|fail)|((with_reducible refine Bv ?_);first|refine A4 hs λw hs=>?_|fail)|((with_reducible refine Cm ?_);first|refine Au ?_|fail)|((with_reducible refine Bk ?_);first|refine BJ hs ?_|fail)|with_reducible refine AI hs λw hs=>?_|fail)
  refine AJ (FF (key:=key) hs (by omega) hi.snd.1 rfl) λe w ⟨⟨_,_,f⟩,v,hc,hs⟩=>⟨_,_,f,?_⟩;refine Av (GM (W:=W) (M:=lst .s sb (Dv sr key) v::ixr Ap.iii xb 0 m::M) (c:=c) (b:=b) (nb:=nb) (sb:=sb) (qb:=qb) (xb:=xb) (h:=(AB x.s 1:Int)) (g:=(AB x.s 3:Int)) (i:=lK x.s x.q key) (s:=AQ sr key) (q:=AQ qr key) (key:=key) (qr:=qr) (qf:=qf) (by exact Ab.fin hs) (by omega) hi.snd.2 rfl) λe w ⟨f,y,l,hs⟩=>⟨f,?_⟩;have z:=hi.rem j hc l;have o:(0:Int)=lK (Bz x.s key) (Aq x.q key) key:=by rw[KY,if_neg<|λh=>(AO.1 h).2 rfl]
  refine Av (D1 (W:=W) (M:=M) (c:=c) (b:=b) (n:=(0,0,0)) hi z j (Ic _ _) o (by omega)<|by exact Ab.fin hs) λe w ⟨f,hs⟩=>⟨f,?_⟩;refine Av (Ca (by omega) hs) λe w ⟨f,hs⟩=>⟨f,?_⟩;unfold Mj;rw[if_pos a];exact⟨rfl,hs⟩
 ·rw[decide_eq_false p] at d ⊢;have a:¬(Kh x.s key=1\/key∈x.q):=by simpa using d
  refine Am rfl ?_;unfold Mj;rw[if_neg a];exact⟨rfl,hs⟩
theorem Am5(hs:Ab W w L)[hA:At L b (lirR b c N x) F](i:key.size<64)(t:0<=Dq c)(o:T9 N x)(v:N<200000000):Ai PR 277 #[pq b 0,.s key] w λe w'=>e = .returned (.b (FW c x key).1)/\Ab W w' (F<|lirR b c N (FW c x key).2):=by
 refine At.call1 (hA:=hA) hs λM hs=>?_;clear hA;refine c1 (cw ⟨mixed,func277,rfl⟩ Asp ?_);have d:=Bch (Sp hs).1 (k:=key);have p:(CL x:Int)<=2*N:=by
  have y:=Sp hs;have z:=Ajs x.s 1;unfold CL;omega
 refine An [lirR b c N x] hs λw hs=>?_;refine Ad rfl ?_;refine Ao (Sr hs i) λe w ⟨f,hs⟩=>⟨_,f,?_⟩;refine Ag hs ?_
 by_cases r:key∈BP x
 ·rw[decide_eq_true r] at d ⊢;have a:Kh x.s key=1\/key∈x.q:=by simpa using d
  refine Am rfl ?_;refine Ag hs ?_;have g:FW c x key=(false,x):=by unfold FW;rw[if_pos<|a.elim .inl λh=>.inr<|.inl h]
  rw[g];exact⟨rfl,E8 hs<|by omega⟩
 ·rw[decide_eq_false r] at d ⊢;have a:¬(Kh x.s key=1\/key∈x.q):=by simpa using d
  refine Ad rfl ?_;refine Aa ?_;refine HF (k:=.int .i64) c (λw' h=>A47 h) ?_;refine Ao (Ss hs<|by omega) λe w ⟨f,hs⟩=>⟨_,f,?_⟩;refine Ag hs ?_
  with_reducible refine A3 (λj=>?_) (λj=>?_)
  ·have g:FW c x key=(false,x):=by unfold FW;rw[if_pos<|.inr<|.inr j]
   rw[g];exact⟨rfl,E8 hs<|by omega⟩
  ·have g:FW c x key=(true,lPr<|if (AB x.s 1:Int)<Dq c then E1 c x key else Ct x key):=by unfold FW;rw[if_neg<|λh=>h.elim (λh=>a<|.inl h) λh=>h.elim (λh=>a<|.inr h) j]
   rw[g];refine jw ZZ ?_;obtain⟨sb,qb,xb,sr,sf,qr,qf,m,hi,hs⟩:=Cf hs
   repeat (first|with_reducible refine Aa ?_|((with_reducible refine A7 ?_);first|refine Af hs ?_|fail)|fail)
   refine(Dn hs<|by omega).mono λe w ⟨f,hs⟩=>⟨_,_,_,_,f,?_⟩;have u:(AH m key).getD ((0,0,0):Int×Int×Int)=lG m key:=rfl;rw[u]
   repeat (first|with_reducible refine Aa ?_|((with_reducible refine A7 ?_);first|refine Af hs ?_|fail)|((with_reducible refine Bv ?_);first|refine A4 hs λw hs=>?_|fail)|with_reducible refine Ak hs λA w hs=>?_|((with_reducible refine Cm ?_);first|refine Au ?_|fail)|((with_reducible refine Bk ?_);first|refine BJ hs ?_|fail)|with_reducible refine AI hs λw hs=>?_|fail)
   with_reducible refine A3 (λl=>?_) (λl=>?_)
   ·rw[if_pos l]
    repeat (first|((with_reducible refine A7 ?_);first|refine Af hs ?_|fail)|fail)
    refine Av (HH (W:=W) (M:=M) (c:=c) (b:=b) hi i t o (by omega) (n:=lG m key) (by rw[hi.ent])<|by exact Ab.fin hs) λe w ⟨f,hs⟩=>⟨f,?_⟩;refine Av (Ca (by omega) hs) λe w ⟨f,hs⟩=>⟨f,?_⟩;exact⟨rfl,hs⟩
   ·rw[if_neg l]
    repeat (first|((with_reducible refine A7 ?_);first|refine Af hs ?_|fail)|fail)
    refine Av (GK (W:=W) (M:=M) (c:=c) (b:=b) hi i o (by omega) (n:=lG m key) (by rw[hi.ent])<|by exact Ab.fin hs) λe w ⟨f,hs⟩=>⟨f,?_⟩;refine Av (Ca (by omega) hs) λe w ⟨f,hs⟩=>⟨f,?_⟩;exact⟨rfl,hs⟩
theorem KC{d:BA}{t:List BA}(k:x.q=d::t)(hc:0<=c)(F:N<200000000)(hs:Ab W w (lirR b c N x::M)) :
  Xn AU (λv w'=>v = .tuple #[.s d,.b true]/\Ab W w' (lirR b c N (lFp c ⟨Cn x.s d,t⟩)::M)) (some ⟨b,0,none⟩) w:=by
 refine jw ZY ?_;obtain⟨sb,qb,xb,sr,sf,qr,qf,m,hi,hs⟩:=Cf hs;have A:=hi.nq;obtain⟨B,r⟩:=Kl (b:=sb) (row:=sr) (free:=sf) (M:=eB b c sb qb xb ((AB x.s 1:Int)) ((AB x.s 3:Int))::lst .s qb qr qf::ixr Ap.iii xb 0 m::M) (by exact Ab.fin hs);obtain⟨C,G⟩:=Kl (b:=qb) (row:=qr) (free:=qf) (M:=eB b c sb qb xb ((AB x.s 1:Int)) ((AB x.s 3:Int))::lst .s sb sr sf::ixr Ap.iii xb 0 m::M) (by exact Ab.fin hs);have e:qr.length=x.q.length:=by have:=congrArg length hi.qk;simpa using this
 have f:0<qr.length:=by rw[e,k];simp
 have j:qr[0].2=d:=by
  have:=congrArg (λl:List BA=>l[0]?) hi.qk;rw[k] at this;simp only[getElem?_map,getElem?_eq_getElem f,getElem?_cons_zero,map_some,Option.some.injEq] at this;exact this
 have z:d.size<64:=hi.w.qsm _ (by rw[k];exact .head _);refine An [eB b c sb qb xb ((AB x.s 1:Int))<|(AB x.s 3:Int)] hs λw hs=>?_
 repeat (first|with_reducible refine Aa ?_|((with_reducible refine A7 ?_);first|refine Af hs ?_|fail)|((with_reducible refine Cm ?_);first|refine Au ?_|fail)|((with_reducible refine Bk ?_);first|refine Ag hs ?_|fail)|fail)
 refine Ao (Et hs) λe w ⟨a,hs⟩=>⟨_,a,?_⟩
 repeat (first|((with_reducible refine Bk ?_);first|refine Ag hs ?_|fail)|fail)
 refine AJ (FI hs) λe w ⟨a,hs⟩=>⟨_,_,a,?_⟩;rw[IU C f];rw[Option.getD_some,j]
 repeat (first|with_reducible refine Aa ?_|((with_reducible refine A7 ?_);first|refine Af hs ?_|fail)|fail)
 refine(Dn hs<|by omega).mono λe w ⟨a,hs⟩=>⟨_,_,_,_,a,?_⟩;have D:(AH m d).getD ((0,0,0):Int×Int×Int)=lG m d:=rfl;rw[D,hi.ent];refine Ak hs λnb w hs=>?_
 repeat (first|((with_reducible refine Bv ?_);first|refine A4 hs λw hs=>?_|fail)|fail)
 refine Av (GM (W:=W) (M:=lst .s sb sr sf::ixr Ap.iii xb 0 m::M) (c:=c) (b:=b) (nb:=nb) (sb:=sb) (qb:=qb) (xb:=xb) (h:=(AB x.s 1:Int)) (g:=(AB x.s 3:Int)) (i:=lK x.s x.q d) (s:=AQ sr d) (q:=AQ qr d) (key:=d) (qr:=qr) (qf:=qf) (by exact Ab.fin hs) (by omega) hi.snd.2 rfl) λe w ⟨a,E,u,hs⟩=>⟨a,?_⟩;obtain⟨o,p⟩:=hi.ghost k r u
 repeat (first|((with_reducible refine A7 ?_);first|refine Af hs ?_|fail)|((with_reducible refine Bv ?_);first|refine A4 hs λw hs=>?_|fail)|fail)
 with_reducible refine A3 (λy=>?_) (λy=>?_)
 ·rw[if_pos y] at o p
  repeat (first|((with_reducible refine Bv ?_);first|refine A4 hs λw hs=>?_|fail)|fail)
  refine jw NX ?_
  repeat (first|((with_reducible refine A7 ?_);first|refine Af hs ?_|fail)|fail)
  refine Av (D1 (W:=W) (M:=M) (c:=c) (b:=b) (n:=(0,AQ sr d,0)) hi o z (Se _ _) p (by omega)<|by exact Ab.fin hs) λe w ⟨a,hs⟩=>⟨a,?_⟩;refine Av (EI (by omega) hc hs) λe w ⟨a,hs⟩=>⟨a,?_⟩;refine Av (Ca (by omega) hs) λe w ⟨a,hs⟩=>⟨a,?_⟩;exact⟨rfl,hs⟩
 ·rw[if_neg y] at o p;refine jw NX ?_
  repeat (first|((with_reducible refine A7 ?_);first|refine Af hs ?_|fail)|fail)
  refine Av (D1 (W:=W) (M:=M) (c:=c) (b:=b) (n:=(3,AQ sr d,0)) hi o z (Se _ _) p (by omega)<|by exact Ab.fin hs) λe w ⟨a,hs⟩=>⟨a,?_⟩;refine Av (EI (by omega) hc hs) λe w ⟨a,hs⟩=>⟨a,?_⟩;refine Av (Ca (by omega) hs) λe w ⟨a,hs⟩=>⟨a,?_⟩;exact⟨rfl,hs⟩
theorem Sq(hs:Ab W w L)[hA:At L b (lirR b c N x) F](hc:0<=c)(p:T9 N x)(z:N<190000000):Ai PR 272 #[pq b 0] w λe w'=>e = .returned (.tuple #[.s (CE c x).1.1,.b (CE c x).1.2])/\Ab W w' (F<|lirR b c N (CE c x).2):=by
 refine At.call1 (hA:=hA) hs λM hs=>?_;clear hA;refine c1 (cw ⟨mixed,func272,rfl⟩ Asl ?_);have r:=(Sp hs).1;refine Ao (Ss hs<|by omega) λe w ⟨d,hs⟩=>⟨_,d,?_⟩
 with_reducible refine A3 (λg=>?_) (λg=>?_)
 ·have i:CE c x=((⟨#[]⟩,false),x):=by unfold CE;rw[if_pos<|by omega]
  rw[i];exact⟨rfl,E8 hs<|by omega⟩
 ·have i:CE c x=(((Sc x).q.headD ⟨#[]⟩,true),lFp c ⟨Cn (Sc x).s<|(Sc x).q.headD ⟨#[]⟩,(Sc x).q.drop 1⟩):=by unfold CE;rw[if_neg<|by omega]
  obtain⟨sb,qb,xb,sr,sf,qr,qf,m,hi,hs⟩:=Cf hs;have u:qr.length=x.q.length:=by have:=congrArg length hi.qk;simpa using this
  repeat (first|with_reducible refine Aa ?_|((with_reducible refine A7 ?_);first|refine Af hs ?_|fail)|fail)
  refine Ao (FJ hs) λe w ⟨d,hs⟩=>⟨_,d,?_⟩;rw[i]
  with_reducible refine A3 (λf=>?_) (λf=>?_)
  ·have a:x.q=[]:=length_eq_zero_iff.1 (by omega);have n:0<AB x.s 1:=by unfold CL at g;rw[a] at g;simp at g;omega
   refine Av (KD (W:=W) (M:=M) (b:=b) (c:=c) (N:=N) (x:=x) p.2 (by omega) n<|Cu hi rfl rfl<|by exact Ab.fin hs) λe w ⟨d,hs⟩=>⟨d,?_⟩;have j:Sc x=Dp x:=if_pos a;obtain⟨k,l,v,_⟩:=Ng r n;have o:(Dp x).q=k::[]:=by unfold Dp;rw[v,a];rfl
   have:=KC o hc (by omega) hs;rw[j,o];exact this
  ·have a:x.q≠[]:=λh=>f (by rw[u,h];rfl);obtain⟨k,t,l⟩:∃k t,x.q=k::t:=by
    cases y:x.q with
    | nil=>exact absurd y a
    | cons k t=>exact⟨k,t,rfl⟩
   have j:Sc x=x:=if_neg a;have:=KC (W:=W) (M:=M) (b:=b) (N:=N) l hc (by omega) (E8 (Cu hi rfl rfl<|by exact Ab.fin hs)<|by omega);rw[j,l];exact this
theorem JD{sl:Sl}{Q:VW}(j:∀w',Ab W w' (lirR b c N (lFp c<|TI c y key)::M)->Q (.tuple #[.b false,.l sl.a sl.n sl.c]) w')(hi:LX N y sr sf qr qf m)(o:key.size<64)(q:0<=Dq c)(hc:0<=c)(p:T9 N y)(r:N<200000000)
  (hs:Ab W w (blk nb [.i (lG m key).1,.i (lG m key).2.1,.i (lG m key).2.2]::eB b c sb qb xb ((AB y.s 1:Int)) ((AB y.s 3:Int))::lst .s sb sr sf::lst .s qb qr qf::ixr Ap.iii xb 0 m::M)) :
  Xl AU Q (some ⟨b,0,none⟩) key nb 0 sl w:=by
 have g:∀(t:Bool)(w:World),t=decide ((AB y.s 1:Int)<Dq c\/Kh y.s key=3)->Ab W w (blk nb [.i (lG m key).1,.i (lG m key).2.1,.i (lG m key).2.2]::eB b c sb qb xb ((AB y.s 1:Int)) ((AB y.s 3:Int))::lst .s sb sr sf::lst .s qb qr qf::ixr Ap.iii xb 0 m::M) ->
   Xm AU Q (some ⟨b,0,none⟩) key nb 0 sl t w:=by
  intro t w f hs;refine jw ZX ?_;refine As (λe=>?_) (λe=>?_)
  ·rw[e] at f;have k:TI c y key=E1 c y key:=if_pos (of_decide_eq_true f.symm);rw[k] at j
   repeat (first|((with_reducible refine A7 ?_);first|refine Af hs ?_|fail)|fail)
   refine Av (HH (W:=W) (M:=M) (c:=c) (b:=b) hi o q p (by omega) (n:=lG m key) (by rw[hi.ent])<|by exact Ab.fin hs) λe w ⟨d,hs⟩=>⟨d,?_⟩;refine Av (EI (by omega) hc hs) λe w ⟨d,hs⟩=>⟨d,?_⟩;refine Av (Ca (by omega) hs) λe w ⟨d,hs⟩=>⟨d,?_⟩;exact j _ hs
  ·rw[e] at f;have k:TI c y key=Ct y key:=if_neg (of_decide_eq_false f.symm);rw[k] at j
   repeat (first|((with_reducible refine A7 ?_);first|refine Af hs ?_|fail)|fail)
   refine Av (GK (W:=W) (M:=M) (c:=c) (b:=b) hi o p (by omega) (n:=lG m key) (by rw[hi.ent])<|by exact Ab.fin hs) λe w ⟨d,hs⟩=>⟨d,?_⟩;refine Av (EI (by omega) hc hs) λe w ⟨d,hs⟩=>⟨d,?_⟩;refine Av (Ca (by omega) hs) λe w ⟨d,hs⟩=>⟨d,?_⟩;exact j _ hs
 refine jw ZW ?_
 repeat (first|with_reducible refine Aa ?_|((with_reducible refine A7 ?_);first|refine Af hs ?_|fail)|((with_reducible refine Cm ?_);first|refine Au ?_|fail)|((with_reducible refine Bk ?_);first|refine BJ hs ?_|fail)|with_reducible refine AI hs λw hs=>?_|fail)
 with_reducible refine A3 (λe=>?_) (λe=>?_)
 ·have f:true=decide ((AB y.s 1:Int)<Dq c\/Kh y.s key=3):=by rw[decide_eq_true<|Or.inl e]
  with_reducible refine g true w f ?_
  exact Ab.fin hs
 ·repeat (first|((with_reducible refine A7 ?_);first|refine Af hs ?_|fail)|fail)
  refine g _ w ?_ (by exact Ab.fin hs);rw[Bool.eq_iff_iff,beq_iff_eq,decide_eq_true_eq,hi.ent,Amu hi.w];exact⟨.inr,λh=>h.elim (λh=>absurd h e) id⟩
theorem Ack(hs:Ab W w L)[hA:At L b (lirR b c N x) F](A:key.size<64)(E:0<=Dq c)(hc:0<=c)(B:T9 N x)(r:T9 N (Ie c x).2)(S:N<180000000) :
  Ai PR 271 #[pq b 0,.s key] w λe w'=>∃l:Sl,e = .returned (.tuple #[.b (FV c x key).1.1,.l l.a l.n l.c])/\Ab W w' (recs Ap.str l (FV c x key).1.2::F (lirR b c N (FV c x key).2)):=by
 refine At.oneX (hA:=hA) hs λM hs u=>?_;refine(cw ⟨mixed,func271,rfl⟩ Asj (Q:=λv w'=>∃l:Sl,v = .tuple #[.b (FV c x key).1.1,.l l.a l.n l.c]/\Ab W w' (lirR b c N (FV c x key).2::recs Ap.str l (FV c x key).1.2::M)) ?_).mono λe w' ⟨v,d,l,J,hs⟩=>⟨l,by rw[d,J],u _ _ [recs Ap.str l (FV c x key).1.2] hs⟩;clear u hA;have f:=(Sp hs).1;obtain⟨sb,qb,xb,sr,sf,qr,qf,m,hi,hs⟩:=Cf hs;obtain⟨K,G⟩:=Kl (b:=sb) (row:=sr) (free:=sf) (M:=eB b c sb qb xb ((AB x.s 1:Int)) ((AB x.s 3:Int))::lst .s qb qr qf::ixr Ap.iii xb 0 m::M) (by exact Ab.fin hs);have y:=hi.ent key
 refine Ad rfl ?_
 repeat (first|with_reducible refine Aa ?_|((with_reducible refine A7 ?_);first|refine Af hs ?_|fail)|fail)
 refine(Dn hs<|by omega).mono λe w ⟨d,hs⟩=>⟨_,_,_,_,d,?_⟩;have H:(AH m key).getD ((0,0,0):Int×Int×Int)=lG m key:=rfl;rw[H];refine Ak hs λnb w hs=>?_;have o:∀(t:Bool)(w:World),t=decide (Kh x.s key=1\/(key∈x.q/\Kh x.s key=2))->Ab W w (blk nb [.i (lG m key).1,.i (lG m key).2.1,.i (lG m key).2.2]::eB b c sb qb xb ((AB x.s 1:Int)) ((AB x.s 3:Int))::lst .s sb sr sf::lst .s qb qr qf::ixr Ap.iii xb 0 m::M) ->
   Qs AU (λv w'=>∃l:Sl,v = .tuple #[.b (FV c x key).1.1,.l l.a l.n l.c]/\Ab W w' (lirR b c N (FV c x key).2::recs Ap.str l (FV c x key).1.2::M)) (some ⟨b,0,none⟩) key nb 0 t w:=by
  clear hs;intro t w p hs;refine jw ZU ?_;refine As (λg=>?_) (λg=>?_)
  ·rw[g] at p;have z:FV c x key=((true,[]),lPr<|E1 c x key):=if_pos (of_decide_eq_true p.symm);rw[z]
   repeat (first|((with_reducible refine A7 ?_);first|refine Af hs ?_|fail)|fail)
   refine Av (HH (W:=W) (M:=M) (c:=c) (b:=b) hi A E B (by omega) (n:=lG m key) (by rw[hi.ent])<|by exact Ab.fin hs) λe w ⟨d,hs⟩=>⟨d,?_⟩;refine Av (Ca (by omega) hs) λe w ⟨d,hs⟩=>⟨d,?_⟩;exact⟨⟨none,0,0⟩,rfl,(Ab.nilR Ap.str<|E8 hs<|by omega).perm<|List.Perm.swap _ _ _⟩
  ·rw[g] at p;have p:=of_decide_eq_false p.symm
   repeat (first|((with_reducible refine A7 ?_);first|refine Af hs ?_|fail)|fail)
   with_reducible refine A3 (λj=>?_) (λj=>?_)
   ·rw[y] at j;have k:=(KZ f key).1 j;have z:FV c x key=((true,[]),lPr<|Ct x key):=by unfold FV;rw[if_neg p,if_pos k]
    rw[z]
    repeat (first|((with_reducible refine A7 ?_);first|refine Af hs ?_|fail)|fail)
    refine Av (GK (W:=W) (M:=M) (c:=c) (b:=b) hi A B (by omega) (n:=lG m key) (by rw[hi.ent])<|by exact Ab.fin hs) λe w ⟨d,hs⟩=>⟨d,?_⟩;refine Av (Ca (by omega) hs) λe w ⟨d,hs⟩=>⟨d,?_⟩;exact⟨⟨none,0,0⟩,rfl,(Ab.nilR Ap.str<|E8 hs<|by omega).perm<|List.Perm.swap _ _ _⟩
   ·rw[y] at j;have k:key∉x.q:=λk=>j ((KZ f key).2 k);have z:FV c x key=((false,(Ie c x).1),lFp c<|TI c (Ie c x).2 key):=by unfold FV;rw[if_neg p,if_neg k]
    rw[z];refine jw ZV ?_;refine An [eB b c sb qb xb ((AB x.s 1:Int))<|(AB x.s 3:Int)] hs λw hs=>?_
    repeat (first|with_reducible refine Aa ?_|((with_reducible refine Cm ?_);first|refine Au ?_|fail)|fail)
    refine Ao (OC (W:=W) (M:=blk nb [.i (lG m key).1,.i (lG m key).2.1,.i (lG m key).2.2]::M) (b:=b) (c:=c) (sb:=sb) (qb:=qb) (xb:=xb) hi (by omega)<|by exact Ab.fin hs) λe w ⟨d,hs⟩=>⟨_,d,?_⟩
    repeat (first|((with_reducible refine Bk ?_);first|refine Ag hs ?_|fail)|fail)
    with_reducible refine A3 (λO=>?_) (λO=>?_)
    ·have C:Ie c x=([(CE c x).1.1],(CE c x).2):=if_pos (by omega);rw[C];refine AJ (Sq (Cu hi rfl rfl hs) hc B<|by omega) λe w ⟨d,hs⟩=>⟨_,_,d,?_⟩
     repeat (first|with_reducible refine Ak hs λT w hs=>?_|fail)
     have hs:=Ab.nilR Ap.str hs;refine D3 (s:=⟨none,0,0⟩) (a:=(CE c x).1.1) hs rfl rfl rfl rfl (by decide) (by simp) λD w P hs=>?_;have hs:Ab W w (lirR b c N (CE c x).2::recs Ap.str D [(CE c x).1.1]::blk nb [.i (lG m key).1,.i (lG m key).2.1,.i (lG m key).2.2]::M):=by exact Ab.fin hs
     obtain⟨sb,qb,xb,sr,sf,qr,qf,m2,I,hs⟩:=Cf hs
     repeat (first|with_reducible refine Aa ?_|((with_reducible refine A7 ?_);first|refine Af hs ?_|fail)|fail)
     refine(Dn hs<|by omega).mono λe w ⟨d,hs⟩=>⟨_,_,_,_,d,?_⟩;have H:(AH m2 key).getD ((0,0,0):Int×Int×Int)=lG m2 key:=rfl;rw[H]
     repeat (first|((with_reducible refine Bv ?_);first|refine A4 hs λw hs=>?_|fail)|fail)
     refine JD (W:=W) (M:=recs Ap.str D [(CE c x).1.1]::M) (sl:=D) (b:=b) (nb:=nb) (w:=w) (c:=c) (sb:=sb) (qb:=qb) (xb:=xb) (λw hs=>⟨D,rfl,by exact Ab.fin hs⟩) I A E hc (by rw[C] at r;exact r) (by omega) ?_;exact Ab.fin hs
    ·have C:Ie c x=([],x):=if_neg (by omega);rw[C];have hs:=Ab.nilR Ap.str hs;refine JD (W:=W) (M:=recs Ap.str ⟨none,0,0⟩ []::M) (sl:=⟨none,0,0⟩) (b:=b) (nb:=nb) (w:=w) (c:=c) (sb:=sb) (qb:=qb) (xb:=xb) (λw hs=>⟨⟨none,0,0⟩,rfl,(E8 hs<|by omega).perm<|.refl _⟩) hi A E hc B (by omega) ?_;exact Ab.fin hs
 repeat (first|((with_reducible refine A7 ?_);first|refine Af hs ?_|fail)|((with_reducible refine Bv ?_);first|refine A4 hs λw hs=>?_|fail)|fail)
 rw[y]
 with_reducible refine A3 (λg=>?_) (λg=>?_)
 ·refine o _ w ?_ (by exact Ab.fin hs);rw[g,decide_eq_true<|.inl<|(Yd f key).2 g];rfl
 ·repeat (first|((with_reducible refine A7 ?_);first|refine Af hs ?_|fail)|fail)
  rw[y]
  with_reducible refine A3 (λj=>?_) (λj=>?_)
  ·have k:=(KZ f key).1 j
   repeat (first|((with_reducible refine A7 ?_);first|refine Af hs ?_|fail)|fail)
   refine o _ w ?_ (by exact Ab.fin hs);rw[y,Bool.eq_iff_iff,bne_iff_ne,decide_eq_true_eq];constructor
   ·intro h;exact .inr ⟨k,(Aju f k).2 (Classical.byContradiction λR=>h<|hi.s0 R)⟩
   ·rintro(h|h)
    ·exact absurd ((Yd f key).1 h) g
    ·exact Wk G (by rw[hi.sk];exact(Aju f k).1 h.2)
  ·with_reducible refine o false w ?_ ?_
   rotate_left
   ·exact Ab.fin hs
   symm;rw[decide_eq_false_iff_not];rintro(h|h)
   ·exact g ((Yd f key).1 h)
   ·exact j ((KZ f key).2 h.1)
end
end Go.Proofs.YtjipofkjmmpjdaaGreat
namespace Go.Hb
theorem Acd{S:SL}{i:Int}{j:Nat}(a:j<S.length):C5 (S.take<|j+1) i=C5 (S.take j) i++(if (S.getD j default).2=i then [(S.getD j default).1] else []):=by
 unfold C5;rw[CC a,List.filter_append,map_append];congr 1;rw[List.filter_cons];split <;> split <;> simp_all
theorem Amx(S:SL)(i:Int)(j:Nat):(C5 (S.take j) i).length<=j:=by
 unfold C5;rw[length_map];exact le_trans (List.length_filter_le _ _) (by simp;omega)
theorem Amw(S:SL)(i:Int):(C5 S i).length<=S.length:=by unfold C5;rw[length_map];exact List.length_filter_le _ _
theorem Agi{S:SL}{j:Nat}(a:j<S.length):(AW S).getD j default=(S.getD j default).1:=by
 unfold AW;rw[getD_eq_getElem?_getD,getD_eq_getElem?_getD,getElem?_map,getElem?_eq_getElem a];rfl
end Go.Hb
namespace Go.Proofs.YtjipofkjmmpjdaaGreat
open Go.Hb Go.IntWalk
section
variable{W w:World}{L M:List HP}{F:HP->List HP}{b nb tb:Nat}{c:Int}{N N':Nat}{x y:Bi}{sb qb xb:Nat}{m:LM}{key:BA}{h g i:Int}
theorem Agp(h:Ab W w L)[hA:At L b (lirR b c N x) F](H:N<400000000):Ai PR 289 #[pq b 0,.i i] w λe w'=>∃l:Sl,e = .returned (.l l.a l.n l.c)/\Ab W w' (recs Ap.str l (C5 x.s i)::F (lirR b c N x)):=by
 refine At.oneX (hA:=hA) h λM hs t=>?_;refine(cw ⟨mixed,func289,rfl⟩ As1 (Q:=λv w'=>∃l:Sl,v = .l l.a l.n l.c/\Ab W w' (lirR b c N x::recs Ap.str l (C5 x.s i)::M)) ?_).mono λe w' ⟨v,o,l,z,hs⟩=>⟨l,by rw[o,z],t _ _ [recs Ap.str l<|C5 x.s i] hs⟩;clear t hA;have I:=Sp hs;obtain⟨sb,qb,xb,sr,sf,qr,qf,m,hi,hs⟩:=Cf hs;have A:=hi.ns;have B:=hi.nq
 repeat (first|with_reducible refine Aa ?_|((with_reducible refine A7 ?_);first|refine Af hs ?_|fail)|fail)
 refine(Lt hs<|by omega).mono λe w ⟨ks,o,hs⟩=>⟨_,o,?_⟩;rw[hi.sk] at hs;have J:=BS (s:=ks) hs;have C:(AW x.s).length=x.s.length:=by simp[AW]
 have hs:=Ab.nilR Ap.str hs;have p:∀(f j:Nat)(w:World)(d:Sl),j+f=x.s.length->Ab W w (recs Ap.str d (C5 (x.s.take j) i)::recs Ap.str ks (AW x.s)::eB b c sb qb xb ((AB x.s 1:Int)) ((AB x.s 3:Int))::lst .s sb sr sf::lst .s qb qr qf::ixr Ap.iii xb 0 m::M) ->
   LP AU (λv w'=>∃l:Sl,v = .l l.a l.n l.c/\Ab W w' (lirR b c N x::recs Ap.str l (C5 x.s i)::M)) (f+1) (some ⟨b,0,none⟩) i d ks (ks.n:Int) (j:Int) w:=by
  clear hs;intro f
  induction f with
  | zero=>
   intro j w d q hs;rw[Oa];refine Ad (decide_eq_false<|by omega) ?_;refine jw Aad ?_;rw[take_of_length_le<|by omega] at hs;exact⟨d,rfl,Cu hi rfl rfl<|by exact Ab.fin hs⟩
  | succ f u=>
   intro j w d q hs;rw[Oa];refine Am (decide_eq_true<|by omega) ?_
   repeat (first|with_reducible refine Aa ?_|((with_reducible refine A7 ?_);first|refine Af hs ?_|refine Cx hs ?_|fail)|((with_reducible refine BI ?_);first|refine BO hs λy K hs=>?_|fail)|fail)
   rw[toNat_natCast,Agi<|by omega];have k:x.s.getD j default∈x.s:=HZ (by omega);have D:=hi.w.ssm _ k;have O:=Amx x.s i j;have g:=Acd (i:=i) (S:=x.s) (j:=j) (by omega);skip;refine(Dn hs<|by omega).mono λe w ⟨o,hs⟩=>⟨_,_,_,_,o,?_⟩;have E:(AH m (x.s.getD j default).1).getD ((0,0,0):Int×Int×Int)=lG m (x.s.getD j default).1:=rfl;rw[E,hi.ent,Avl hi.w k]
   repeat (first|((with_reducible refine A7 ?_);first|refine Af hs ?_|fail)|((with_reducible refine Bv ?_);first|refine A4 hs λw hs=>?_|fail)|with_reducible refine Ak hs λy w hs=>?_|fail)
   with_reducible refine A3 (λr=>?_) (λr=>?_)
   ·rw[if_pos r] at g
    repeat (first|with_reducible refine Ak hs λy w hs=>?_|fail)
    refine D3 (s:=d) (a:=(x.s.getD j default).1) hs rfl rfl rfl rfl (by decide) (by omega) λs2 w G hs=>?_;rw[<- g] at hs;rw[show wrap .i64 ((j:Int)+1)=((j+1:Nat):Int) by rw[i64_in _<|by omega];omega]
    exact u (j+1) w s2 (by omega) (by exact Ab.fin hs)
   ·rw[if_neg r,List.append_nil] at g;rw[<- g] at hs;rw[show wrap .i64 ((j:Int)+1)=((j+1:Nat):Int) by rw[i64_in _<|by omega];omega]
    exact u (j+1) w d (by omega) (by exact Ab.fin hs)
 refine AP (x.s.length+1) ?_;exact p x.s.length 0 w ⟨none,0,0⟩ (by omega) (by exact Ab.fin hs)
theorem Am4(h:Ab W w L)[hA:At L b (lirR b c N x) F](j:N<400000000):Ai PR 275 #[pq b 0] w λe w'=>∃l:Sl,e = .returned (.l l.a l.n l.c)/\Ab W w' (recs Ap.str l (BP x)::F (lirR b c N x)):=by
 refine At.oneX (hA:=hA) h λM hs g=>?_;refine(cw ⟨mixed,func275,rfl⟩ Asn (Q:=λv w'=>∃l:Sl,v = .l l.a l.n l.c/\Ab W w' (lirR b c N x::recs Ap.str l (BP x)::M)) ?_).mono λe w' ⟨v,d,l,k,hs⟩=>⟨l,by rw[d,k],g _ _ [recs Ap.str l<|BP x] hs⟩;clear g hA;refine Ad rfl ?_;have r:=Sp hs;have t:=Amw x.s 1;obtain⟨sb,qb,xb,sr,sf,qr,qf,m,hi,hs⟩:=Cf hs;have o:=hi.nq
 repeat (first|with_reducible refine Aa ?_|((with_reducible refine A7 ?_);first|refine Af hs ?_|fail)|fail)
 refine(Lt hs<|by omega).mono λe w ⟨ks,d,hs⟩=>⟨_,d,?_⟩;rw[hi.qk] at hs;have hs:Ab W w (lirR b c N x::recs Ap.str ks x.q::M):=Cu hi rfl rfl (by exact Ab.fin hs);refine(Agp hs j).mono λe w ⟨i,d,hs⟩=>⟨_,d,?_⟩;have f:=BS (s:=i) hs;refine GA (s:=ks) (new:=C5 x.s 1) hs (GT (s:=i) hs) f (Dt _) rfl (by decide) (by omega) λs2 w p hs=>?_;exact⟨s2,rfl,by exact Ab.fin hs⟩
theorem Acl(hs:Ab W w L){r:Int}:Ai PR 152 #[.i r] w λe w'=>∃b,e = .returned (pq b 0)/\Ab W w' (lirR b (Ba r) 0 FY::L):=by
 refine(cw ⟨mixed,func152,rfl⟩ Aq9 (Q:=λv w'=>∃b,v=pq b 0/\Ab W w' (lirR b (Ba r) 0 FY::L)) ?_).mono λe w' ⟨v,a,b,d,hs⟩=>⟨b,by rw[a,d],hs⟩;refine A1 (by decide) ?_;refine(Ja hs).mono λe w ⟨sb,a,hs⟩=>⟨_,a,?_⟩;refine(Ja hs).mono λe w ⟨qb,a,hs⟩=>⟨_,a,?_⟩;refine(Alj hs).mono λe w ⟨xb,a,hs⟩=>⟨_,a,?_⟩;refine Ak hs λb w hs=>?_;refine⟨b,rfl,?_⟩;have f:(if (if (1024:Int)<r then (1024:Int) else r)>(1:Int) then (if (1024:Int)<r then (1024:Int) else r) else (1:Int))=Ba r:=by unfold Ba;split <;> split <;> omega
 rw[f] at hs;have j:1<=Ba r/\Ba r<=1024:=by unfold Ba;omega
 have g:tdiv (Ba r) 10=Ba r / 10:=by rw[tdiv_eq_ediv_of_nonneg<|by omega]
 have h:wrap .i64 (Ba r-(if (wrap .i64<|tdiv (Ba r) (10:Int))>(1:Int) then (wrap .i64<|tdiv (Ba r) (10:Int)) else (1:Int)))=Dq (Ba r):=by
  rw[g,i64_in (Ba r / 10)<|by omega,i64_in _<|by split <;> omega];unfold Dq;split <;> omega
 rw[h] at hs;have hi:LX 0 FY [] [] [] [] ([]:LM):=⟨(Bci (c:=1) (by decide)<|by decide).w,rfl,rfl,λk=>by simp[lG,AH,lK,FY,AW,AQ],by simp,by simp,by simp,by simp,by simp⟩;exact Cu hi rfl rfl (by exact Ab.fin hs)
end
end Go.Proofs.YtjipofkjmmpjdaaGreat
namespace Go.Hb
def Rs(b:Nat)(c:Int)(R:BL):HP:=Ly λ(x:Bi)=>Fs (R=BP x/\Pd c x) (lirR b c 5000 x)
section
variable{W w:World}{M L:List HP}{b:Nat}{c:Int}{R:BL}{k:BA}{x:Bi}
theorem Fj(h:Ab W w (Rs b c R::M)):∃x:Bi,R=BP x/\Pd c x/\Ab W w (lirR b c 5000 x::M):=by
 obtain⟨x,h⟩:=h.openE;obtain⟨a,h⟩:=h.openA;exact⟨x,a.1,a.2,h⟩
theorem Fk{x:Bi}(a:Pd c x)(h:Ab W w (lirR b c 5000 x::M)):Ab W w (Rs b c (BP x)::M):=Ab.shutE x (Ab.shutA ⟨rfl,a⟩ h)
theorem Pd.small(h:Pd c x):x.s.length<=4096/\x.q.length<=1024:=by
 have b:=h.len;have i:=h.ghs;have l:=h.hots;have m:=h.c2
 have n:(x.q.length:Int)<=c:=by unfold CL at b;omega
 have f:AB x.s 2<=x.q.length:=by
  have:((x.s.filter λe=>decide<|e.2=2).map (·.1)).length<=x.q.length:=by
   refine EC (h.w.sn.sublist<|filter_sublist.map _) λk d=>?_;obtain⟨e,g,rfl⟩:=mem_map.1 d;obtain⟨b,i⟩:=mem_filter.1 g;exact h.w.coldq e b (by simpa using i)
  rw[length_map,<- List.countP_eq_length_filter] at this;exact this
 have j:x.s.length<=AB x.s 1+AB x.s 2+AB x.s 3:=by
  have:∀S:SL,(∀e∈S,e.2=1\/e.2=2\/e.2=3)->S.length<=AB S 1+AB S 2+AB S 3:=by
   intro S;unfold AB
   induction S with
   | nil=>intro _;simp
   | cons a t k=>
    intro d;have b:=k λe g=>d e (.tail _ g);simp only[countP_cons,length_cons];rcases d a (.head _) with h|h|h <;> simp[h] <;> omega
  exact this x.s h.w.kinds
 have o:=Kj h.c1;unfold CL at b;omega
theorem Pd.fit(h:Pd c x):T9 5000 x:=by have:=h.small;exact⟨by omega,by omega⟩
theorem Pd.most(h:Pd c x):0<=Dq c:=by have:=h.c1;unfold Dq;omega
theorem Pd.eok{x:Bi}(h:Pd c x):DC c (BP x):=⟨h.w.res_nd,λk b=>by
 rcases mem_append.1 b with a|a
 ·exact h.w.qsm k a
 ·unfold C5 at a;obtain⟨e,d,rfl⟩:=mem_map.1 a;exact h.w.ssm e (mem_filter.1 d).1,by rw[JC];exact h.len,h.c1,h.c2⟩
theorem Amt{x:Bi}(h:(CL x:Int)<c):(FV c x k).1.2=[]:=by
 have e:(Ie c x).1=[]:=by unfold Ie;rw[if_neg<|by omega]
 unfold FV;split
 ·rfl
 ·split
  ·rfl
  ·exact e
theorem KX{x:Bi}(b:Pd c x):Pd c (CE c x).2/\Hc c (BP x) (CE c x).1.1 (CE c x).1.2 (BP (CE c x).2):=by
 by_cases d:CL x=0
 ·have e:CE c x=((⟨#[]⟩,false),x):=if_pos d;rw[e];exact⟨b,Hc.none b.eok<|by rw[JC];exact d⟩
 ·obtain⟨f,a⟩:=VA b d;refine⟨a.ok,?_⟩;rw[f];exact⟨(decide_eq_true<|List.length_pos_of_mem a.sub).symm,λ_=>a.sub,λz=>by rw[a.mem];simp,a.ok.eok⟩
theorem A8d(h:Ab W w (Rs b c R::M)):DC c R:=by
 obtain⟨x,rfl,a,h⟩:=Fj h;exact a.eok
theorem Avo(a:Pd c x):Pd c (Ie c x).2:=by
 unfold Ie;split
 ·exact(KX a).1
 ·exact a
end
end Go.Hb
namespace Go.Proofs.YtjipofkjmmpjdaaGreat
open Go.Hb Go.IntWalk
section
variable{W w:World}{L M:List HP}{b:Nat}{c:Int}{R:BL}{key:BA}
theorem A94(hs:Ab W w L){r:Int}:Bh PR 152 #[.i r] w λv w'=>∃b,v=pq b 0/\Ab W w' (Rs b (Ba r) []::L):=by
 refine Ai.mono (Acl (r:=r) hs) λe w' ⟨b,c,hs⟩=>⟨_,c,b,rfl,?_⟩;have a:=ED r;exact Fk (x:=FY) (Bci a.1 a.2) (E8 hs<|by omega)
theorem A46(hs:Ab W w (Rs b c R::M)):Bh PR 279 #[pq b 0] w λv w'=>v = .i c/\Ab W w' (Rs b c R::M):=by
 obtain⟨x,rfl,a,hs⟩:=Fj hs;exact Ai.mono (Am6 hs) λe w' ⟨d,hs⟩=>⟨_,d,rfl,Fk a hs⟩
theorem A93(hs:Ab W w (Rs b c R::M)):Bh PR 276 #[pq b 0] w λv w'=>v = .i (R.length:Int)/\Ab W w' (Rs b c R::M):=by
 obtain⟨x,rfl,a,hs⟩:=Fj hs;exact Ai.mono (Ss hs<|by omega) λe w' ⟨d,hs⟩=>⟨_,d,by rw[JC],Fk a hs⟩
theorem A92(a:key.size<64)(hs:Ab W w (Rs b c R::M)):Bh PR 274 #[pq b 0,.s key] w λv w'=>v = .b (decide<|key∈R)/\Ab W w' (Rs b c R::M):=by
 obtain⟨x,rfl,d,hs⟩:=Fj hs;exact Ai.mono (Sr hs a) λe w' ⟨e,hs⟩=>⟨_,e,rfl,Fk d hs⟩
theorem A44(hs:Ab W w (Rs b c R::M)):Bh PR 275 #[pq b 0] w λv w'=>∃(l:Sl) (ks:BL),v = .l l.a l.n l.c/\ks.Perm R/\Ab W w' (Rs b c R::recs Ap.str l ks::M):=by
 obtain⟨x,rfl,d,hs⟩:=Fj hs;refine Ai.mono (Am4 hs<|by omega) λe w' ⟨l,e,hs⟩=>⟨_,e,l,_,rfl,List.Perm.refl _,?_⟩;have hs:Ab W w' (lirR b c 5000 x::recs Ap.str l (BP x)::M):=by exact Ab.fin hs
 have hs:=Fk d hs;exact Ab.fin hs
theorem Am2(f:key.size<64)(hs:Ab W w (Rs b c R::M)):Bh PR 271 #[pq b 0,.s key] w λv w'=>∃(e:Bool) (l:Sl) (g S:BL),v = .tuple #[.b e,.l l.a l.n l.c]/\Fh c R key e g S/\Ab W w' (Rs b c S::recs Ap.str l g::M):=by
 obtain⟨x,rfl,d,hs⟩:=Fj hs;refine Ai.mono (Ack (key:=key) hs f d.most (by have:=d.c1;omega) d.fit (Avo d).fit<|by omega) λe w' ⟨l,i,hs⟩=>⟨_,i,_,l,(FV c x key).1.2,BP (FV c x key).2,rfl,?_,?_⟩
 ·exact⟨(Sa d f).2,(Sa d f).1.eok,λh=>Amt<|by rw[<- JC];exact h⟩
 ·have hs:Ab W w' (lirR b c 5000 (FV c x key).2::recs Ap.str l (FV c x key).1.2::M):=by exact Ab.fin hs
  have hs:=Fk (Sa d f).1 hs;exact Ab.fin hs
theorem A45(hz:key.size<64)(hs:Ab W w (Rs b c R::M)):Bh PR 277 #[pq b 0,.s key] w λv w'=>∃(yes:Bool) (S:BL),v = .b yes/\Dz c R key yes S/\Ab W w' (Rs b c S::M):=by
 obtain⟨x,rfl,hx,hs⟩:=Fj hs;refine Ai.mono (Am5 hs hz hx.most hx.fit (by omega)) λe w' ⟨he,hs⟩=>⟨_,he,_,BP (FW c x key).2,rfl,?_,Fk (VC hx hz).1 hs⟩;obtain⟨h1,h2,h3,h4⟩:=VC (k:=key) hx hz;refine⟨h2,λz=>?_,h1.eok⟩;cases ho:(FW c x key).1 with
 | true=>rw[h3 ho];simp
 | false=>rw[h4 ho];simp
theorem Am3(j:key.size<64)(hs:Ab W w (Rs b c R::M)):Bh PR 278 #[pq b 0,.s key] w λv w'=>∃(a:Bool) (S:BL),v = .b a/\Gf c R key a S/\Ab W w' (Rs b c S::M):=by
 obtain⟨x,rfl,i,hs⟩:=Fj hs;refine Ai.mono (Acm hs j<|by omega) λe w' ⟨l,hs⟩=>⟨_,l,_,BP (Mj x key).2,rfl,?_,Fk (Acb i).1 hs⟩;obtain⟨m,d,n,o⟩:=Acb (k:=key) i;refine⟨d,λz=>?_,m.eok⟩;cases f:(Mj x key).1 with
 | true=>exact(n f).1 z
 | false=>
  rw[f] at d;have g:key∉BP x:=of_decide_eq_false d.symm;rw[o f];exact⟨λh=>⟨h,λe=>g<|e ▸ h⟩,λh=>h.1⟩
theorem Avx(hs:Ab W w (Rs b c R::M)):Bh PR 272 #[pq b 0] w λv w'=>∃x a S,v = .tuple #[.s x,.b a]/\Hc c R x a S/\Ab W w' (Rs b c S::M):=by
 obtain⟨x,rfl,d,hs⟩:=Fj hs;refine Ai.mono (Sq hs (by have:=d.c1;omega) d.fit<|by omega) λe w' ⟨e,hs⟩=>⟨_,e,_,_,BP (CE c x).2,rfl,?_,Fk (KX d).1 hs⟩
 exact(KX d).2
end
end Go.Proofs.YtjipofkjmmpjdaaGreat
namespace Go.Hb
open Go.Proofs.YtjipofkjmmpjdaaGreat
abbrev cT(b:Nat)(s:Sl)(xb:Nat)(c d e:Int):HP:=blk b [.l s.a s.n s.c,pq xb 0,.i c,.i d,.i e]
def Lx(b:Nat)(c:Int)(R:BL):HP:=Ly λ(z:(Sl×Nat×Int×Int)×(BL×BL×BL))=>Fs ((R=z.2.1++z.2.2.2/\DC c R)/\(0<=z.1.2.2.1/\0<=z.1.2.2.2/\z.1.2.2.2<=1024)/\z.2.2.1.length<=1024)
 (AN [cT b z.1.1 z.1.2.1 c z.1.2.2.1 z.1.2.2.2,rowsC z.1.1 z.1.2.1 5000 [z.2.1,z.2.2.1,z.2.2.2]])
section
variable{W w:World}{M L:List HP}{b:Nat}{c:Int}{R:BL}
theorem DE(h:Ab W w (Lx b c R::M)):∃(s:Sl) (xb:Nat) (e d:Int) (i o a:BL),(R=i++a/\DC c R)/\(0<=e/\0<=d/\d<=1024)/\o.length<=1024/\Ab W w (cT b s xb c e d::rowsC s xb 5000 [i,o,a]::M):=by
 obtain⟨⟨⟨s,xb,e,d⟩,⟨i,o,a⟩⟩,h⟩:=h.openE;obtain⟨⟨f,g,j⟩,h⟩:=h.openA;exact⟨s,xb,e,d,i,o,a,f,g,j,h.openL⟩
theorem Cl{s:Sl}{xb:Nat}{e d:Int}{i o a:BL}(f:R=i++a/\DC c R)(g:0<=e/\0<=d/\d<=1024)(j:o.length<=1024)(h:Ab W w (cT b s xb c e d::rowsC s xb 5000 [i,o,a]::M)):Ab W w (Lx b c R::M):=
 Ab.shutE ((s,xb,e,d),(i,o,a)) (Ab.shutA ⟨f,g,j⟩<|Ab.shutL (Ps:=[_,_]) h)
theorem Rr(h:Ab W w (Lx b c R::M)):DC c R:=by
 obtain⟨s,xb,e,f,i,o,a,d,_⟩:=DE h;exact d.2
theorem Ah7(h:Ab W w (Lx b c R::M)):w.cell? ⟨b,2,none⟩=some (.i c):=by
 obtain⟨s,xb,d,e,i,o,a,_,_,_,h⟩:=DE h;exact h.cell (q:=0) rfl
theorem MJ{i a:BL}(h:R=i++a/\DC c R):i.length+a.length<=1024/\(i.length+a.length:Int)<=c/\R.length=i.length+a.length:=by
 have b:=h.2.room;have d:=h.2.c2
 have e:R.length=i.length+a.length:=by rw[h.1];simp
 omega
end
end Go.Hb
namespace Go.Proofs.YtjipofkjmmpjdaaGreat
open Go.Hb Go.IntWalk
section
variable{W w:World}{L M:List HP}{b:Nat}{c:Int}{R:BL}{key:BA}
theorem Bbh(hs:Ab W w L){r:Int}:Bh PR 153 #[.i r] w λv w'=>∃b,v=pq b 0/\Ab W w' (Lx b (Ba r) []::L):=by
 refine cw ⟨mixed,func153,rfl⟩ Ara ?_;refine(M9 Cb (nr:=3) (by decide) hs).mono λe w ⟨s,xb,c,hs⟩=>⟨s,_,c,?_⟩;refine A1 (by decide) (A1 (by decide) ?_);refine Ak hs λb w hs=>⟨b,rfl,?_⟩;rw[M5] at hs;have hs:Ab W w (rowsC s xb 0 [[],[],[]]::blk b _::L):=hs.perm (List.Perm.swap _ _ _);have hs:=(Ks (N':=5000) hs<|by omega).perm (List.Perm.swap _ _ _);have d:=ED r;refine Cl (i:=[]) (o:=[]) (a:=[]) ⟨rfl,DC.nil (ED r).1 (ED r).2⟩ ⟨?_,?_,?_⟩ (by simp) hs
 ·split <;> omega
 ·split <;> omega
 ·rw[tdiv_eq_ediv_of_nonneg<|by omega,i64_in _<|by omega];split <;> omega
theorem A6h(hs:Ab W w (Lx b c R::M)):Bh PR 308 #[pq b 0] w λv w'=>v = .i c/\Ab W w' (Lx b c R::M):=by
 refine cw ⟨mixed,func308,rfl⟩ Atk ?_;obtain⟨s,xb,g,h,i,o,a,d,e,f,hs⟩:=DE hs;refine Ad rfl (Aa<|Af hs ?_);exact⟨rfl,Cl d e f hs⟩
theorem YG(hs:Ab W w (Lx b c R::M)):Bh PR 305 #[pq b 0] w λv w'=>v = .i (R.length:Int)/\Ab W w' (Lx b c R::M):=by
 refine cw ⟨mixed,func305,rfl⟩ Ath ?_;obtain⟨s,xb,e,f,i,o,a,d,g,h,hs⟩:=DE hs;refine Ad rfl (Aa<|Af (x:=s) hs<|Af hs ?_);refine Ak hs λnb w hs=>?_;refine AX Cb (nr:=3) (K:=[i,o,a]) [0,2] (M:=cT b s xb c e f::M) (by exact Ab.fin hs) (by omega) rfl λw hs=>?_;refine⟨?_,Cl d g h<|by exact Ab.fin hs⟩;rw[d.1];simp[BD]
theorem Ahk(n:key.size<64)(hs:Ab W w (Lx b c R::M)):Bh PR 303 #[pq b 0,.s key] w λv w'=>v = .b (decide<|key∈R)/\Ab W w' (Lx b c R::M):=by
 refine cw ⟨mixed,func303,rfl⟩ Atf ?_;obtain⟨s,xb,p,q,i,o,a,f,g,j,hs⟩:=DE hs;refine Ad rfl (Aa<|Af (x:=s) hs<|Af hs ?_);refine Ao (Ei Cb (K:=[i,o,a]) hs n) λe w ⟨r,hs⟩=>⟨_,r,?_⟩;have k:=nd3 (i:=i) (o:=o) (a:=a) (M:=cT b s xb c p q::M) (by exact Ab.fin hs);have e:∀t:Bool,(t=true↔key∈i\/key∈a)->Value.bool t = .b (decide<|key∈R):=λt u=>by
  congr 1;rw[Bool.eq_iff_iff,u,f.1,decide_eq_true_eq,mem_append]
 rcases T0 i o a key with⟨h,d⟩|⟨h,d,l⟩|⟨h,d,l,m⟩|⟨h,d,l,m⟩ <;> rw[h]
 ·exact Am rfl ⟨e _<|by simp[d],Cl f g j hs⟩
 ·exact Ad rfl ⟨e _ (by have:=k.oa _ l;simp[d,this]),Cl f g j hs⟩
 ·exact Ad rfl ⟨e _<|by simp[m],Cl f g j hs⟩
 ·exact Ad rfl ⟨e _<|by simp[d,m],Cl f g j hs⟩
theorem A6f(hs:Ab W w (Lx b c R::M)):Bh PR 304 #[pq b 0] w λv w'=>∃(l:Sl) (ks:BL),v = .l l.a l.n l.c/\ks.Perm R/\Ab W w' (Lx b c R::recs Ap.str l ks::M):=by
 refine cw ⟨mixed,func304,rfl⟩ Atg ?_;obtain⟨s,xb,e,f,i,o,a,d,g,h,hs⟩:=DE hs;refine Ad rfl (Aa<|Af (x:=s) hs<|Af hs ?_);refine Ak hs λnb w hs=>?_;refine QN Cb (nr:=3) (K:=[i,o,a]) [0,2] (M:=cT b s xb c e f::M) (by exact Ab.fin hs) (by omega) rfl λl w hs=>?_;refine⟨l,_,rfl,?_,Cl d g h<|by exact Ab.fin hs⟩;rw[d.1];simp[F0]
theorem Ad2(hs:Ab W w (Lx b c R::M)):Bh PR 301 #[pq b 0] w λv w'=>∃x e S,v = .tuple #[.s x,.b e]/\Hc c R x e S/\Ab W w' (Lx b c S::M):=by
 refine cw ⟨mixed,func301,rfl⟩ Ate ?_;refine Ah (YG hs) λv w ⟨F,hs⟩=>⟨_,F,?_⟩;have A:=Rr hs
 with_reducible refine A3 (λn=>?_) (λn=>?_)
 ·exact⟨_,_,_,rfl,Hc.none A<|by omega,hs⟩
 obtain⟨s,xb,g,k,i,o,a,z,B,G,hs⟩:=DE hs;have d:=nd3 (i:=i) (o:=o) (a:=a) (M:=cT b s xb c g k::M) (by exact Ab.fin hs);have H:R.length=i.length+a.length:=by rw[z.1];simp
 have D:∀(w:World)(t:Bool),(t=true->0<a.length)->(t=false->0<i.length)->Ab W w (cT b s xb c g k::rowsC s xb 5000 [i,o,a]::M) ->
   Xx AU (λv w'=>∃x e S,v = .tuple #[.s x,.b e]/\Hc c R x e S/\Ab W w' (Lx b c S::M)) (some ⟨b,0,none⟩) t w:=by
  clear hs;intro w t I J hs;refine jw Aak ?_;cases t with
  | true=>
   have n:=I rfl;have p:=CN n;refine Am rfl (Aa<|Af (x:=s) hs<|Af hs ?_);refine Ao (BB Cb (K:=[i,o,a]) (j:=2) hs (lt3<|by decide)<|show 3<=4 by decide) λe w ⟨q,hs⟩=>⟨_,q,?_⟩;refine Aa (Af (x:=s) hs<|Af hs ?_);refine Av (Cg Cb (K:=[i,o,a]) (key:=Ck a) hs (d.small _<|.inr<|.inr p) (by omega)<|show 3<=4 by decide) λe w ⟨q,hs⟩=>⟨q,?_⟩;have r:DI [i,o,a] (Ck a)=[i,o,a.drop 1]:=by
    show[Aq i _,Aq o _,Aq a _]=_;rw[Ax λh=>(d.io _ h).2 p,Ax λh=>d.oa _ h p,BT d.na n]
   rw[r] at hs;have f:Hc c R (Ck a) true (i++a.drop 1):=Hc.of_perm A (by
    rw[z.1];cases a with
    | nil=>simp at n
    | cons x l=>exact perm_middle)
   exact⟨_,_,_,rfl,f,Cl (o:=o) ⟨rfl,f.ok⟩ B (by omega) hs⟩
  | false=>
   have n:=J rfl;have p:=CN n;refine Ad rfl ?_;refine jw Aal ?_;refine Aa (Af (x:=s) hs<|Af hs ?_);refine Ao (BB Cb (K:=[i,o,a]) (j:=0) hs (lt3<|by decide)<|show 3<=4 by decide) λe w ⟨q,hs⟩=>⟨_,q,?_⟩;refine Aa (Af (x:=s) hs<|Af hs ?_);refine Av (Ac4 Cb (j:=1) (key:=Ck i) hs (by decide) (d.small _<|.inl p) ⟨(MJ z).1,G⟩) λe w ⟨q,hs⟩=>⟨q,?_⟩;have r:D2 [i,o,a] 1 (Ck i)=[i.drop 1,o++[Ck i],a]:=by
    show[Aq i _,Aq o _++[_],Aq a _]=_;rw[Ax (d.io _ p).2,Ax (d.io _ p).1,BT d.ni n]
   rw[r] at hs;have f:Hc c R (Ck i) true (i.drop 1++a):=Hc.of_perm A (by
    rw[z.1];cases i with
    | nil=>simp at n
    | cons x l=>exact List.Perm.refl _)
   generalize o++[Ck i]=o at hs;have u:∀(m:Nat)(o:BL)(w:World),o.length=m->Ab W w (cT b s xb c g k::rowsC s xb 5000 [i.drop 1,o,a]::M) ->
     Qz AU (λv w'=>∃x e S,v = .tuple #[.s x,.b e]/\Hc c R x e S/\Ab W w' (Lx b c S::M)) (m+1) (some ⟨b,0,none⟩) (Ck i) w:=by
    clear hs;intro m
    induction m with
    | zero=>
     intro o w E hs;rw[Of];refine An [cT b s xb c g k] hs λw hs=>?_;refine Aa (Au (x:=s)<|Au<|Aa<|Au ?_);refine Ak hs λnb w hs=>Ag hs ?_;refine AX Cb (nr:=3) (K:=[i.drop 1,o,a]) [1] (M:=cT b s xb c g k::M) (by exact Ab.fin hs) (by omega) rfl λw hs=>?_;refine Ag hs ?_;have y:(BD [i.drop 1,o,a] [1]:Int)=0:=by simp[BD,E]
     rw[y];refine Ad (decide_eq_false<|by omega) ?_;refine jw Oe ?_;exact⟨_,_,_,rfl,f,Cl (o:=o) ⟨rfl,f.ok⟩ B (by omega)<|by exact Ab.fin hs⟩
    | succ m L=>
     intro o w E hs;rw[Of];refine An [cT b s xb c g k] hs λw hs=>?_;refine Aa (Au (x:=s)<|Au<|Aa<|Au ?_);refine Ak hs λnb w hs=>Ag hs ?_;refine AX Cb (nr:=3) (K:=[i.drop 1,o,a]) [1] (M:=cT b s xb c g k::M) (by exact Ab.fin hs) (by omega) rfl λw hs=>?_;refine Ag hs ?_;have hs:Ab W w (cT b s xb c g k::rowsC s xb 5000 [i.drop 1,o,a]::M):=by exact Ab.fin hs
     refine As (λ_=>?_) (λC=>?_)
     ·refine An [cT b s xb c g k] hs λw hs=>?_;refine Aa (Au (x:=s)<|Au<|Aa<|Af (x:=s) hs<|Af hs<|Ag hs ?_);refine Ao (BB Cb (K:=[i.drop 1,o,a]) (j:=1) hs (lt3<|by decide)<|show 3<=4 by decide) λe w ⟨q,hs⟩=>⟨_,q,Ag hs ?_⟩;have d:=nd3 (i:=i.drop 1) (o:=o) (a:=a) (M:=cT b s xb c g k::M) (by exact Ab.fin hs);have n:0<o.length:=by omega
      have p:=CN n;refine Av (Cg Cb (K:=[i.drop 1,o,a]) (key:=Ck o) hs (d.small _<|.inr<|.inl p) (by omega)<|show 3<=4 by decide) λe w ⟨q,hs⟩=>⟨q,?_⟩;have r:DI [i.drop 1,o,a] (Ck o)=[i.drop 1,o.drop 1,a]:=by
       show[Aq _ _,Aq o _,Aq a _]=_;rw[Ax λh=>(d.io _ h).1 p,Ax<|d.oa _ p,BT d.no n]
      rw[r] at hs;exact L (o.drop 1) w (by rw[length_drop];omega) hs
     ·refine jw Oe ?_;have C:=of_decide_eq_false C;have y:(BD [i.drop 1,o,a] [1]:Int)=o.length:=by simp[BD]
      rw[y] at C;exact⟨_,_,_,rfl,f,Cl (o:=o) ⟨rfl,f.ok⟩ B (by omega) hs⟩
   exact AP _ (u o.length o w rfl hs)
 refine An [cT b s xb c g k] hs λw hs=>?_;refine Aa (Au (x:=s)<|Au<|Aa<|Au ?_);refine Ak hs λnb w hs=>Ag hs ?_;refine AX Cb (nr:=3) (K:=[i,o,a]) [0] (M:=cT b s xb c g k::M) (by exact Ab.fin hs) (by omega) rfl λw hs=>?_;refine Ag hs ?_;have hs:Ab W w (cT b s xb c g k::rowsC s xb 5000 [i,o,a]::M):=by exact Ab.fin hs
 have N:(BD [i,o,a] [0]:Int)=i.length:=by simp[BD]
 rw[N]
 with_reducible refine A3 (λO=>?_) (λO=>?_)
 ·refine Aa (Au (x:=s)<|Au ?_);refine Ak hs λnb w hs=>Ag hs ?_;refine AX Cb (nr:=3) (K:=[i,o,a]) [2] (M:=cT b s xb c g k::M) (by exact Ab.fin hs) (by omega) rfl λw hs=>?_;have y:(BD [i,o,a] [2]:Int)=a.length:=by simp[BD]
  rw[y];exact D w _ (λh=>by have:=of_decide_eq_true h;omega) (λh=>by have:=of_decide_eq_false h;omega) (by exact Ab.fin hs)
 ·exact Ag hs (D w false (λh=>by cases h) (λ_=>by omega) hs)
theorem OZ(hs:Ab W w (Lx b c R::M)):Bh PR 313 #[pq b 0] w λv w'=>∃(l:Sl) (g S:BL),v = .l l.a l.n l.c/\MP c R g S/\Ab W w' (Lx b c S::recs Ap.str l g::M):=by
 refine cw ⟨mixed,func313,rfl⟩ Atl ?_;have j:=Rr hs;have m:=j.c1;refine An [Lx b c R] hs λw hs=>?_;refine Aa ?_;refine HF (k:=.int .i64) c (λw' h=>Ah7 h) ?_;refine Ah (YG hs) λv w ⟨e,hs⟩=>⟨_,e,Ag hs ?_⟩
 with_reducible refine A3 (λf=>?_) (λf=>?_)
 ·exact⟨⟨none,0,0⟩,[],R,rfl,.inl ⟨rfl,rfl,f⟩,(Ab.nilR Ap.str<|hs).perm<|List.Perm.swap _ _ _⟩
 ·refine AM (Ad2 hs) λv w ⟨x,i,S,e,d,hs⟩=>⟨_,_,e,?_⟩;have o:i=true:=by rw[d.says];exact decide_eq_true (by omega)
  subst o;refine Ak hs λnb w hs=>?_;have hs:=Ab.blkS (b:=nb) (cs:=[.s x]) (n:=1) Ap.str [x] hs rfl rfl;exact⟨⟨some ⟨nb,0,none⟩,1,1⟩,[x],S,rfl,.inr ⟨x,rfl,d,f⟩,by exact Ab.fin hs⟩
theorem Aoi(hz:key.size<64)(hs:Ab W w (Lx b c R::M)):Bh PR 300 #[pq b 0,.s key] w λv w'=>∃(hit:Bool) (l:Sl) (g S:BL),v = .tuple #[.b hit,.l l.a l.n l.c]/\Fh c R key hit g S/\Ab W w' (Lx b c S::recs Ap.str l g::M):=by
 refine cw ⟨mixed,func300,rfl⟩ Atc ?_;obtain⟨s,xb,ki,ko,i,o,a,h1,h2,h3,hs⟩:=DE hs;have hk:=h1.2;refine Ad rfl (Aa (Af (x:=s) hs (Af hs ?_)));refine Ao (Ei Cb (K:=[i,o,a]) hs hz) λe w ⟨he,hs⟩=>⟨_,he,?_⟩;have hnd:=nd3 (i:=i) (o:=o) (a:=a) (M:=cT b s xb c ki ko::M) (by exact Ab.fin hs);rcases T0 i o a key with⟨h,h4⟩|⟨h,h4,h5⟩|⟨h,h4,h5,h6⟩|⟨h,h4,h5,h6⟩ <;> rw[h]
 ·refine Ad rfl (Am rfl ?_);have ha:=Fh.same hk (by rw[h1.1];exact mem_append_left _ h4) (List.Perm.refl R)
  exact⟨true,⟨none,0,0⟩,[],_,rfl,ha,(Ab.nilR Ap.str (Cl h1 h2 h3 hs)).perm (List.Perm.swap _ _ _)⟩
 ·refine Ad rfl (Ad rfl (Am rfl ?_));have hno:key∉R:=by rw[h1.1,mem_append];exact λh=>h.elim h4 (hnd.oa _ h5)
  refine Aa (Af (x:=s) hs (Af hs ?_));refine Av (Cg Cb (K:=[i,o,a]) hs hz (by omega) (show 3<=4 by decide)) λe w ⟨he,hs⟩=>⟨he,?_⟩;have e1:DI [i,o,a] key=[i,Aq o key,a]:=by
   show[Aq i _,Aq o _,Aq a _]=_;rw[Ax h4,Ax (hnd.oa _ h5)]
  rw[e1] at hs;have hs:=Cl h1 h2 (by have:=Bq o key;omega) hs
  refine Ah (OZ hs) λv w ⟨l,g,S,hv,hrec,hs⟩=>⟨_,hv,?_⟩;clear h1 h2 h3 hnd h4 h5 e1;obtain⟨s,xb,ki,ko,i,o,a,h1,h2,h3,hs⟩:=DE hs;refine Aa (Af (x:=s) hs (Af hs ?_));refine Av (Ac4 Cb (j:=2) hs (by decide) hz ⟨(MJ h1).1,h3⟩) λe w ⟨he,hs⟩=>⟨he,?_⟩;have hnS:=hrec.not hno;have e1:D2 [i,o,a] 2 key=[i,Aq o key,a++[key]]:=by
   show[Aq i _,Aq o _,Aq a _++[_]]=_;rw[Ax (show key∉i from λh=>hnS (by rw[h1.1];exact mem_append_left _ h)),Ax (show key∉a from λh=>hnS (by rw[h1.1];exact mem_append_right _ h))]
  rw[e1] at hs;have ha:=Fh.miss hk hno hz hrec (T:=i++(a++[key])) (by rw[h1.1];exact EV)
  exact⟨false,l,g,_,rfl,ha,Cl ⟨rfl,ha.ok⟩ h2 (by have:=Bq o key;omega) hs⟩
 ·refine Am rfl (Aa (Af (x:=s) hs (Af hs ?_)));refine Av (Ac4 Cb (j:=2) hs (by decide) hz ⟨(MJ h1).1,h3⟩) λe w ⟨he,hs⟩=>⟨he,?_⟩;have e1:D2 [i,o,a] 2 key=[i,o,Aq a key++[key]]:=by
   show[Aq i _,Aq o _,Aq a _++[_]]=_;rw[Ax h4,Ax h5]
  rw[e1] at hs;have ha:=Fh.same (S:=i++(Aq a key++[key])) hk (by rw[h1.1];exact mem_append_right _ h6) (by
   rw[h1.1];exact List.Perm.append_left _ (perm_append_comm.trans (C4 hnd.na h6).symm))
  exact⟨true,⟨none,0,0⟩,[],_,rfl,ha,(Ab.nilR Ap.str (Cl ⟨rfl,ha.ok⟩ h2 h3 hs)).perm (List.Perm.swap _ _ _)⟩
 ·refine Ad rfl (Ad rfl (Ad rfl ?_));have hno:key∉R:=by rw[h1.1,mem_append];exact λh=>h.elim h4 h6
  have hs:=Cl h1 h2 h3 hs;refine Ah (OZ hs) λv w ⟨l,g,S,hv,hrec,hs⟩=>⟨_,hv,?_⟩;clear h1 h2 h3 hnd h4 h5 h6;obtain⟨s,xb,ki,ko,i,o,a,h1,h2,h3,hs⟩:=DE hs;refine Aa (Af (x:=s) hs (Af hs ?_));refine Av (Ac4 Cb (j:=0) hs (by decide) hz ⟨(MJ h1).1,h3⟩) λe w ⟨he,hs⟩=>⟨he,?_⟩;have hnS:=hrec.not hno;have e1:D2 [i,o,a] 0 key=[i++[key],Aq o key,a]:=by
   show[Aq i _++[_],Aq o _,Aq a _]=_;rw[Ax (show key∉i from λh=>hnS (by rw[h1.1];exact mem_append_left _ h)),Ax (show key∉a from λh=>hnS (by rw[h1.1];exact mem_append_right _ h))]
  rw[e1] at hs;have ha:=Fh.miss hk hno hz hrec (T:=(i++[key])++a) (by rw[h1.1];exact D8)
  exact⟨false,l,g,_,rfl,ha,Cl ⟨rfl,ha.ok⟩ h2 (by have:=Bq o key;omega) hs⟩
theorem A6g(hz:key.size<64)(hs:Ab W w (Lx b c R::M)):Bh PR 306 #[pq b 0,.s key] w λv w'=>∃(yes:Bool) (S:BL),v = .b yes/\Dz c R key yes S/\Ab W w' (Lx b c S::M):=by
 refine cw ⟨mixed,func306,rfl⟩ Ati ?_;have hk:=Rr hs;have hr:=hk.room;refine An [Lx b c R] hs λw hs=>?_;refine Ad rfl ?_;refine Ah (Ahk hz hs) λv w ⟨hv,hs⟩=>⟨_,hv,Ag hs ?_⟩
 with_reducible refine A3 (λh1=>?_) (λh1=>?_)
 ·exact Ag hs ⟨false,R,rfl,Dz.no hk (λh=>h.1 h1),hs⟩
 refine Aa ?_;refine HF (k:=.int .i64) c (λw' h=>Ah7 h) ?_;refine Ah (YG hs) λv w ⟨hv,hs⟩=>⟨_,hv,Ag hs ?_⟩
 with_reducible refine A3 (λh2=>?_) (λh2=>?_)
 ·exact⟨false,R,rfl,Dz.no hk (λh=>by omega),hs⟩
 refine jw Aam ?_;obtain⟨s,xb,ki,ko,i,o,a,h3,h4,h5,hs⟩:=DE hs;refine Aa (Af (x:=s) hs (Af hs ?_));refine Av (Ac4 Cb (j:=2) hs (by decide) hz ⟨(MJ h3).1,h5⟩) λe w ⟨he,hs⟩=>⟨he,?_⟩;have e1:D2 [i,o,a] 2 key=[i,Aq o key,a++[key]]:=by
  show[Aq i _,Aq o _,Aq a _++[_]]=_;rw[Ax (show key∉i from λh=>h1 (by rw[h3.1];exact mem_append_left _ h)),Ax (show key∉a from λh=>h1 (by rw[h3.1];exact mem_append_right _ h))]
 rw[e1] at hs;have hl:=Dz.yes hk hz h1 (by omega) (S:=i++(a++[key])) (by rw[h3.1];exact EV)
 exact⟨true,_,rfl,hl,Cl ⟨rfl,hl.ok⟩ h4 (by have:=Bq o key;omega) hs⟩
theorem Aoj(hz:key.size<64)(hs:Ab W w (Lx b c R::M)):Bh PR 307 #[pq b 0,.s key] w λv w'=>∃(yes:Bool) (S:BL),v = .b yes/\Gf c R key yes S/\Ab W w' (Lx b c S::M):=by
 refine cw ⟨mixed,func307,rfl⟩ Atj ?_;have hk:=Rr hs;refine Ah (Ahk hz hs) λv w ⟨hv,hs⟩=>⟨_,hv,?_⟩
 by_cases h1:key∈R
 ·refine Ad (by rw[decide_eq_true h1];rfl) ?_;obtain⟨s,xb,ki,ko,i,o,a,h3,h4,h5,hs⟩:=DE hs;refine Aa (Af (x:=s) hs (Af hs ?_));refine Av (Cg Cb (K:=[i,o,a]) hs hz (by omega) (show 3<=4 by decide)) λe w ⟨he,hs⟩=>⟨he,?_⟩;rw[h3.1] at hk h1;have hr:=Gf.cut2 hk h1;rw[<- h3.1] at hr;exact⟨true,_,rfl,hr,Cl (i:=Aq i key) (o:=Aq o key) (a:=Aq a key) ⟨rfl,hr.ok⟩ h4 (by have:=Bq o key;omega) hs⟩
 ·refine Am (by rw[decide_eq_false h1];rfl) ⟨false,R,rfl,Gf.no hk h1,hs⟩
end
end Go.Proofs.YtjipofkjmmpjdaaGreat
namespace Go.Proofs.YtjipofkjmmpjdaaGreat
open Go.Hb Go.IntWalk
theorem Pc{a:Nat}(b:a<18446744073709551616):u64.wrap (a:Int)=(a:Int):=by rw[wrap_u64];omega
theorem A7o(a:Nat):u64.wrap (a:Int)=((a % 18446744073709551616:Nat):Int):=by rw[wrap_u64];omega
theorem Akh(a:Nat):CV .u64 (a:Int) 32=((a / 4294967296:Nat):Int):=by
 show(a:Int).fdiv (2 ^ 32)=_;rw[Int.fdiv_eq_ediv_of_nonneg _<|by decide];rfl
theorem Agt{a:Nat}(b:a<18446744073709551616):bits .and .u64 (a:Int) 4294967295=((a % 4294967296:Nat):Int):=by
 have h:=bits_and_u64_nat a 4294967295 b (by omega);have e:a &&& 4294967295=a % 4294967296:=Nat.and_two_pow_sub_one_eq_mod a 32;rw[e] at h;exact h
theorem Bdk(a b:Nat):(a:Int)*(b:Int)=((a*b:Nat):Int):=(Int.natCast_mul a b).symm
theorem A7r(a b:Nat):(a:Int)+(b:Int)=((a+b:Nat):Int):=(natCast_add a b).symm
def F4(n lo hi:Int):Int:=if hi<(if lo>n then lo else n) then hi else (if lo>n then lo else n)
def Bc9(a b:Int):Int:=if (1099511627776:Int)<F4 a 0 1099511627776+F4 b 0 1099511627776 then 1099511627776 else F4 a 0 1099511627776+F4 b 0 1099511627776
def Ft(n a:Int):Int:=if n>=a then n else n+1
section
variable{W w:World}{M:List HP}
theorem Da(h:Ab W w M)(n lo hi:Int):Ai PR 72 #[.i n,.i lo,.i hi] w λe w'=>e = .returned (.i<|F4 n lo hi)/\Ab W w' M:=by
 refine c1 (cw ⟨mixed,func72,rfl⟩ A3y ?_);exact⟨rfl,h⟩
theorem Eo(n:Int){lo hi:Int}(h:lo<=hi):lo<=F4 n lo hi/\F4 n lo hi<=hi:=by
 unfold F4;split <;> split at * <;> omega
theorem MQ(h:Ab W w M)(a b:Int):Ai PR 45 #[.i a,.i b] w λe w'=>e = .returned (.i<|Bc9 a b)/\Ab W w' M:=by
 refine c1 (cw ⟨mixed,func45,rfl⟩ A3b ?_);refine Ao (Da h _ _ _) λe w ⟨c,h⟩=>⟨_,c,?_⟩;refine Ao (Da h _ _ _) λe w ⟨c,h⟩=>⟨_,c,?_⟩;have d:=Eo a (lo:=0) (hi:=1099511627776) (by omega);have f:=Eo b (lo:=0) (hi:=1099511627776) (by omega);rw[i64_in _<|by omega];exact⟨rfl,h⟩
theorem J6(h:Ab W w M){a b:Int}(c:b<=9223372036854775807)(d:-9223372036854775808<=a):Ai PR 119 #[.i a,.i b] w λe w'=>e = .returned (.i<|Ft a b)/\Ab W w' M:=by
 refine c1 (cw ⟨mixed,func119,rfl⟩ Aqi ?_);unfold Ft;refine As (λhc=>?_) (λhc=>?_) <;> simp only[decide_eq_true_eq,decide_eq_false_iff_not] at hc
 ·rw[if_pos hc];exact⟨rfl,h⟩
 ·rw[if_neg hc,i64_in _<|by omega];exact⟨rfl,h⟩
theorem Av4(h:Ab W w M){x y:Nat}(j:x<18446744073709551616)(k:y<18446744073709551616):Ai PR 169 #[.int .u64 x,.int .u64 y] w λe w'=>
  e = .returned (.tuple #[.int .u64 ((x*y / 18446744073709551616:Nat):Int),.int .u64 ((x*y % 18446744073709551616:Nat):Int)])/\Ab W w' M:=by
 refine c1 (cw ⟨mixed,func169,rfl⟩ Arq ?_);refine A1 (by omega) (A1 (by omega)<|A1 (by omega)<|A1 (by omega)<|A1 (by omega) ?_);refine⟨?_,h⟩;obtain⟨m,l,n,c⟩:=Lib.mul64_hi x y j k;have p:=Lib.half_mul_le (a:=x / 4294967296) (b:=y / 4294967296) (by omega) (by omega);have q:=Lib.half_mul_le (a:=x / 4294967296) (b:=y % 4294967296) (by omega) (by omega);have r:=Lib.half_mul_le (a:=x % 4294967296) (b:=y / 4294967296) (by omega) (by omega);have d:x / 4294967296*(y / 4294967296)<18446744073709551616:=by omega
 have f:x / 4294967296*(y % 4294967296)<18446744073709551616:=by omega
 have g:x % 4294967296*(y / 4294967296)<18446744073709551616:=by omega
 have i:x / 4294967296*(y / 4294967296)+(x / 4294967296*(y % 4294967296)+x % 4294967296*(y % 4294967296) / 4294967296) / 4294967296<18446744073709551616:=by omega
 have o:x / 4294967296*(y / 4294967296)+(x / 4294967296*(y % 4294967296)+x % 4294967296*(y % 4294967296) / 4294967296) / 4294967296+((x / 4294967296*(y % 4294967296)+x % 4294967296*(y % 4294967296) / 4294967296) % 4294967296+x % 4294967296*(y / 4294967296)) / 4294967296<18446744073709551616:=by omega
 rw[Agt j,Agt k,Akh,Akh];simp only[Bdk,A7r,Pc m,Pc f,Akh,Pc l,Agt l,Pc g,Pc n,Pc d,Pc i,Pc o,A7o<|x*y];rw[c]
end
end Go.Proofs.YtjipofkjmmpjdaaGreat
namespace Go.Hb
abbrev cK(b n:Nat)(s:Sl)(m:Int):HP:=blk b [.i (n:Int),.l s.a s.n s.c,.i m]
def H5(b:Nat):HP:=Ly λ(z:Nat×Sl×List Int×Int)=>Fs (z.2.2.1.length=2*z.1/\8<=z.1/\z.1<=4096) (AN [cK b z.1 z.2.1 z.2.2.2,recs (Ap.int .u8) z.2.1 z.2.2.1])
def HN(b:Nat):HP:=Ly λ(z:Sl×List Int)=>Fs (1<=z.2.length/\z.2.length<=4096) (AN [blk b [.l z.1.a z.1.n z.1.c],recs (Ap.int .u64) z.1 z.2])
def Agb(l:List Int):List Value:=l.map (Value.int .i64)
theorem Avd{l:List Int}{i:Nat}{x:Int}:(Agb l).set i (.i x)=Agb (l.set i x):=by unfold Agb;rw[map_set]
theorem JV{k:IntKind}:∀n,CH [.int k (0:Int)] n=(Ap.int k).flat (replicate n 0)
 | 0=>rfl
 | n+1=>by
  rw[List.replicate_succ];show[Value.int k (0:Int)]++CH [.int k (0:Int)] n=_;rw[JV n];rfl
section
variable{W w:World}{M L:List HP}{b n:Nat}
theorem QW(h:Ab W w (H5 b::M)):∃(n:Nat) (s:Sl) (l:List Int) (m:Int),(l.length=2*n/\8<=n/\n<=4096)/\s.n=l.length/\Ab W w (cK b n s m::recs (Ap.int .u8) s l::M):=by
 obtain⟨⟨n,s,l,m⟩,h⟩:=h.openE;obtain⟨a,h⟩:=h.openA;have h:=h.openL;have h:Ab W w (cK b n s m::recs (Ap.int .u8) s l::M):=h;exact⟨n,s,l,m,a,(BE (s:=s) h).1,h⟩
theorem IX{s:Sl}{l:List Int}{m:Int}(a:l.length=2*n/\8<=n/\n<=4096)(h:Ab W w (cK b n s m::recs (Ap.int .u8) s l::M)):Ab W w (H5 b::M):=Ab.shutE (n,s,l,m) (Ab.shutA a<|Ab.shutL (Ps:=[_,_]) h)
theorem WB(h:Ab W w (HN b::M)):∃(s:Sl) (l:List Int),(1<=l.length/\l.length<=4096)/\s.n=l.length/\Ab W w (blk b [.l s.a s.n s.c]::recs (Ap.int .u64) s l::M):=by
 obtain⟨⟨s,l⟩,h⟩:=h.openE;obtain⟨d,h⟩:=h.openA;have h:=h.openL;have h:Ab W w (blk b [.l s.a s.n s.c]::recs (Ap.int .u64) s l::M):=h;exact⟨s,l,d,(BE (s:=s) h).1,h⟩
theorem L8{s:Sl}{l:List Int}(d:1<=l.length/\l.length<=4096)(h:Ab W w (blk b [.l s.a s.n s.c]::recs (Ap.int .u64) s l::M)):Ab W w (HN b::M):=Ab.shutE (s,l) (Ab.shutA d<|Ab.shutL (Ps:=[_,_]) h)
theorem Apa{k:IntKind}{o:Nat}{s:Sl}{K:WP}:∀(n i:Nat)(l:List Int)(w:World),i+n=l.length->Ab W w (reca (Ap.int k) b o s l::M)->(∀(a:List Int)(w':World),a.length=l.length->Ab W w' (reca (Ap.int k) b o s a::M)->K w')->T7 (CH [.int k (0:Int)] n) b (o+i) K w
 | 0,i,l,w,hi,hs,c=>c l w rfl hs
 | n+1,i,l,w,hi,hs,c=>by
  show st b (o+i) (.int k 0) (T7 (CH [.int k (0:Int)] n) b (o+i+1) K) w;refine Ba4 (i:=i) (j:=0) (a':=(0:Int)) hs (by show o+i=o+(i*1+0);omega) (by omega) rfl Nat.one_pos λw hs=>?_
  rw[Nat.add_assoc];exact Apa n (i+1) _ w (by rw[length_set];omega) hs λa w' d hs=>c a w' (by rw[d,length_set]) hs
end
end Go.Hb
namespace Go.Proofs.YtjipofkjmmpjdaaGreat
open Go.Hb Go.IntWalk
section
variable{W w:World}{L M:List HP}{b n:Nat}{s:Sl}{l:List Int}{m:Int}{key:BA}
theorem Bbx(x:Int):∃y:Nat,bits .and .i64 x 15=(y:Int)/\y<=15:=by
 have b:(BitVec.ofInt 64 (15:Int)).toNat=15:=rfl;have a:(BitVec.ofInt 64 x &&& BitVec.ofInt 64 15).toNat<=15:=by
  rw[BitVec.toNat_and,b];exact Nat.and_le_right
 refine⟨_,?_,a⟩;show i64.wrap ((BitVec.ofInt 64 x &&& BitVec.ofInt 64 15).toNat:Int)=_;exact i64_in _ (by omega)
theorem Bcu(hs:Ab W w L){r:Int}:Bh PR 188 #[.i r] w λv w'=>∃b,v=pq b 0/\Ab W w' (H5 b::L):=by
 refine cw ⟨mixed,func188,rfl⟩ Aru ?_;have hc:=Eo r (lo:=1) (hi:=1024) (by decide);have a:∀(f n:Nat)(w:World),1024<=n+f->8<=n->n<=2048->Ab W w L->Qh AU (λv w'=>∃b,v=pq b 0/\Ab W w' (H5 b::L)) (f+1) r (n:Int) w:=by
  clear hs;intro f
  induction f with
  | zero=>
   intro n w g c h hs;rw[NP];refine Ao (Da hs _ _ _) λe w ⟨d,hs⟩=>⟨_,d,?_⟩;refine Ad (decide_eq_false<|by omega) ?_;refine jw NO ?_;refine A1 (by decide) ?_;rw[i64_in ((4:Int)*n)<|by omega,tdiv_eq_ediv_of_nonneg<|by omega,i64_in _<|by omega];refine EJ (sz:=1) hs rfl (by omega) (by omega) (by omega) (by omega) λs w e _ _ hs=>?_;rw[JV] at hs;have hs:Ab W w (recs (Ap.int .u8) s (replicate (4*(n:Int) / 2).toNat 0)::L):=hs;refine Ak hs λb w hs=>?_;exact⟨b,rfl,IX ⟨by rw[List.length_replicate];omega,c,by omega⟩ hs⟩
  | succ f j=>
   intro n w g c h hs;rw[NP];refine Ao (Da hs _ _ _) λe w ⟨d,hs⟩=>⟨_,d,?_⟩
   with_reducible refine A3 (λk=>?_) (λk=>?_)
   ·rw[i64_in _<|by omega,show(n:Int)*2=((2*n:Nat):Int) by omega];exact j (2*n) w (by omega) (by omega) (by omega) hs
   ·refine jw NO ?_;refine A1 (by decide) ?_;rw[i64_in ((4:Int)*n)<|by omega,tdiv_eq_ediv_of_nonneg<|by omega,i64_in _<|by omega];refine EJ (sz:=1) hs rfl (by omega) (by omega) (by omega) (by omega) λs w e _ _ hs=>?_;rw[JV] at hs;have hs:Ab W w (recs (Ap.int .u8) s (replicate (4*(n:Int) / 2).toNat 0)::L):=hs;refine Ak hs λb w hs=>?_;exact⟨b,rfl,IX ⟨by rw[List.length_replicate];omega,c,by omega⟩ hs⟩
 exact AP _ (a 1016 8 w (by omega) (by omega) (by omega) hs)
theorem Aw5{i:Nat}(f:l.length=2*n/\8<=n/\n<=4096)(hi:i<4*n)(hs:Ab W w (cK b n s m::recs (Ap.int .u8) s l::M)):Bh PR 354 #[pq b 0,.i (i:Int)] w λv w'=>∃y:Nat,v = .i (y:Int)/\y<=15/\Ab W w' (cK b n s m::recs (Ap.int .u8) s l::M):=by
 refine cw ⟨mixed,func354,rfl⟩ Aua ?_;have g:=BS (s:=s) (E:=Ap.int .u8) (rows:=l) hs;refine Aa (Af (x:=s) hs<|A1 (by decide) ?_);rw[tdiv_eq_ediv_of_nonneg<|by omega,i64_in _<|by omega,show(i:Int) / 2=((i / 2:Nat):Int) by omega];refine CO (s:=s) (E:=Ap.int .u8) (rows:=l) hs λh j c=>?_;refine Dh (s:=s) (E:=Ap.int .u8) (rows:=l) c hs ?_ (hc:=rfl);have a:tmod (i:Int) 2=((i % 2:Nat):Int):=rfl;refine A1 (by decide) (A1 ?_ ?_)
 ·rw[a,i64_in _<|by omega];omega
 obtain⟨y,e,d⟩:=Bbx (wrap .i64<|CV .u8 (l.getD ((i / 2:Nat):Int).toNat default)<|wrap .i64<|(tmod (i:Int) 2)*4);exact⟨y,by rw[<- e],d,hs⟩
theorem Aw6{i:Nat}{e:Int}(f:l.length=2*n/\8<=n/\n<=4096)(hi:i<4*n)(hs:Ab W w (cK b n s m::recs (Ap.int .u8) s l::M)):Bh PR 355 #[pq b 0,.i (i:Int),.i e] w λv w'=>v = .tuple #[]/\∃c:List Int,c.length=l.length/\Ab W w' (cK b n s m::recs (Ap.int .u8) s c::M):=by
 refine cw ⟨mixed,func355,rfl⟩ Aub ?_;have g:=BS (s:=s) (E:=Ap.int .u8) (rows:=l) hs;have a:tmod (i:Int) 2=((i % 2:Nat):Int):=rfl;have d:(0:Int)<=wrap .i64 ((tmod (i:Int) 2)*4):=by rw[a,i64_in _<|by omega];omega
 refine A1 (by decide) ?_;refine An [cK b n s m] hs λw hs=>?_;refine Aa (Au (x:=s)<|A1 (by decide)<|Aa<|A1 (by decide)<|A1 d<|A1 d ?_);refine Af (x:=s) hs (Ag hs ?_);rw[tdiv_eq_ediv_of_nonneg<|by omega,i64_in _<|by omega,show(i:Int) / 2=((i / 2:Nat):Int) by omega];refine BO (s:=s) hs λh j hs=>?_;refine Cx hs (Ag hs ?_);refine Ia hs ?_;refine A7e hs λw hs=>?_;have hs:=Ab.shut s hs;exact⟨rfl,_,length_set,hs⟩
theorem Wr(B:l.length=2*n/\8<=n/\n<=4096)(C:key.size<64)(hs:Ab W w (cK b n s m::M)):Bh PR 353 #[pq b 0,.s key] w λv w'=>∃x y z u:Nat,v = .agg #[.i (x:Int),.i (y:Int),.i (z:Int),.i (u:Int)] /\
  (x<4*n/\y<4*n/\z<4*n/\u<4*n)/\Ab W w' (cK b n s m::M):=by
 refine cw ⟨mixed,func353,rfl⟩ At9 ?_;refine Ak hs λtb w hs=>?_;refine Ak hs λlb w hs=>?_;have c:∀(f i:Nat)(xs:List Int)(w:World),i+f=4->xs.length=4->(∀x∈xs,0<=x/\x<4*n)->Ab W w (blk lb (Agb xs)::blk tb (Agb [0,0,0,0])::cK b n s m::M) ->
   QD AU (λv w'=>∃x y z u:Nat,v = .agg #[.i (x:Int),.i (y:Int),.i (z:Int),.i (u:Int)]/\(x<4*n/\y<4*n/\z<4*n/\u<4*n)/\Ab W w' (cK b n s m::M)) (f+1) (some ⟨b,0,none⟩) key tb 0 lb 0 (i:Int) w:=by
  clear hs;intro f
  induction f with
  | zero=>
   intro i xs w hi d a hs;rw[Ot];refine Ad (decide_eq_false<|by omega) ?_;refine jw Aa0 ?_;obtain⟨x,y,z,u,rfl⟩:∃x y z u,xs=[x,y,z,u]:=by
    match xs,d with
    | [x,y,z,u],_=>exact⟨x,y,z,u,rfl⟩
   have hs:Ab W w (blk lb [.i x,.i y,.i z,.i u]::blk tb [.i 0,.i 0,.i 0,.i 0]::cK b n s m::M):=hs
   iterate 4 refine Af hs ?_
   iterate 4 refine A4 hs λw hs=>?_
   iterate 4 refine Af hs ?_
   have o:=a x (by simp);have p:=a y (by simp);have q:=a z (by simp);have g:=a u (by simp)
   refine⟨x.toNat,y.toNat,z.toNat,u.toNat,?_,⟨by omega,by omega,by omega,by omega⟩,by exact Ab.fin hs⟩;rw[Int.toNat_of_nonneg o.1,Int.toNat_of_nonneg p.1,Int.toNat_of_nonneg q.1,Int.toNat_of_nonneg g.1]
  | succ f t=>
   intro i xs w hi d a hs;rw[Ot];refine Am (decide_eq_true<|by omega) ?_;refine An [cK b n s m] hs λw hs=>?_;refine Aa (Au<|Aa<|Au ?_);refine Ao (Hl hs<|by omega) λe w ⟨j,hs⟩=>⟨_,j,Ag hs ?_⟩;refine Ao (GR (n:=n) hs (GH _ _).1 (by omega) (by omega)) λe w ⟨j,hs⟩=>⟨_,j,Ag hs ?_⟩;refine A1 (by omega) ?_;have A:=mod_lt (Fw (wrap .u64<|wrap .i64<|(i:Int)+1) key).toNat (show n>0 by omega);generalize (Fw (wrap .u64<|wrap .i64<|(i:Int)+1) key).toNat % n=r at A
   have g:i=0\/i=1\/i=2\/i=3:=by omega
   have D:0<=(i:Int)*n/\(i:Int)*n<=3*n:=by rcases g with rfl|rfl|rfl|rfl <;> omega
   rw[i64_in ((i:Int)*n)<|by omega,i64_in _<|by omega,i64_in ((i:Int)+1)<|by omega];refine Jf 0 (cs:=Agb xs) hs rfl (by unfold Agb;simp;omega) λw hs=>?_
   have e:0+((i:Int)).toNat*1=i:=by omega
   rw[e,Avd] at hs;refine t (i+1) (xs.set i<|(i:Int)*n+r) w (by omega) (by simpa using d) (λx k=>?_) hs;rcases List.mem_or_eq_of_mem_set k with h|h
   ·exact a x h
   ·subst h;omega
 exact AP _ (c 4 0 [0,0,0,0] w (by omega) rfl (by simp;omega) (by exact Ab.fin hs))
theorem Bcq{x y z u:Nat}{i:Nat}(hi:i<4):∃k:Nat,([.i (x:Int),.i (y:Int),.i (z:Int),.i (u:Int)]:List Value)[((i:Nat):Int).toNat]? = some (.i (k:Int))/\(k=x\/k=y\/k=z\/k=u):=by
 match i,hi with
 | 0,_=>exact⟨x,rfl,.inl rfl⟩
 | 1,_=>exact⟨y,rfl,.inr<|.inl rfl⟩
 | 2,_=>exact⟨z,rfl,.inr<|.inr<|.inl rfl⟩
 | 3,_=>exact⟨u,rfl,.inr<|.inr<|.inr rfl⟩
theorem Adt(g:key.size<64)(hs:Ab W w (H5 b::M)):Bh PR 352 #[pq b 0,.s key] w λv w'=>∃y:Int,v = .i y/\Ab W w' (H5 b::M):=by
 refine cw ⟨mixed,func352,rfl⟩ At8 ?_;obtain⟨n,s,l,m,d,h,hs⟩:=QW hs;refine Ad rfl ?_;refine Ai.mono (Wr d g hs) λe w ⟨v,j,x,y,z,u,e,r,hs⟩=>⟨x,y,z,u,by rw[j,e],?_⟩;have c:∀(f i:Nat)(a:Int)(w:World),i+f=4->Ab W w (cK b n s m::recs (Ap.int .u8) s l::M) ->
   QB AU (λv w'=>∃y:Int,v = .i y/\Ab W w' (H5 b::M)) (f+1) (some ⟨b,0,none⟩) a x y z u (i:Int) w:=by
  clear hs;intro f
  induction f with
  | zero=>
   intro i a w hi hs;rw[Oq];refine Ad (decide_eq_false<|by omega) ?_;refine jw Aaz ?_;exact⟨_,rfl,IX d hs⟩
  | succ f o=>
   intro i a w hi hs;rw[Oq];refine Am (decide_eq_true<|by omega) (A1 (by omega) ?_);obtain⟨k,p,q⟩:=Bcq (x:=x) (y:=y) (z:=z) (u:=u) (i:=i) (by omega);refine⟨_,p,rfl,?_⟩;refine Ah (Aw5 d (by omega) hs) λv w ⟨y,e,_,hs⟩=>⟨_,e,?_⟩;rw[i64_in _<|by omega];exact o (i+1) _ w (by omega) hs
 exact AP _ (c 4 0 15 w (by omega) hs)
theorem Aw3(hs:Ab W w (H5 b::M)):Bh PR 356 #[pq b 0] w λv w'=>v = .tuple #[]/\Ab W w' (H5 b::M):=by
 refine cw ⟨mixed,func356,rfl⟩ Auc ?_;obtain⟨n,s,l,m,a,d,hs⟩:=QW hs;refine Ad rfl (Aa<|Af hs ?_);rw[i64_in _<|by omega];have c:∀(f i:Nat)(l:List Int)(w:World),i+f=4*n->(l.length=2*n/\8<=n/\n<=4096)->Ab W w (cK b n s m::recs (Ap.int .u8) s l::M) ->
   QF AU (λv w'=>v = .tuple #[]/\Ab W w' (H5 b::M)) (f+1) (some ⟨b,0,none⟩) (4*(n:Int)) (i:Int) w:=by
  clear hs a d;intro f
  induction f with
  | zero=>
   intro i l w hi a hs;rw[Ou];refine Ad (decide_eq_false<|by omega) ?_;refine jw Aa1 ?_;refine Aa (Af hs<|A1 (by decide)<|Aa<|A4 hs λw hs=>?_);exact⟨rfl,IX a hs⟩
  | succ f g=>
   intro i l w hi a hs;rw[Ou];refine Am (decide_eq_true<|by omega) ?_;refine Ah (Aw5 a (by omega) hs) λv w ⟨y,e,_,hs⟩=>⟨_,e,A1 (by decide) ?_⟩;refine Bf (Aw6 a (by omega) hs) λv w ⟨e,h,j,hs⟩=>⟨e,?_⟩;rw[i64_in ((i:Int)+1)<|by omega];exact g (i+1) h w (by omega) ⟨by omega,a.2⟩ hs
 exact AP _ (c (4*n) 0 l w (by omega) a hs)
theorem Bav(hz:key.size<64)(hs:Ab W w (H5 b::M)):Bh PR 344 #[pq b 0,.s key] w λv w'=>v = .tuple #[]/\Ab W w' (H5 b::M):=by
 refine cw ⟨mixed,func344,rfl⟩ At2 ?_;refine Ad rfl ?_;refine Ah (Adt hz hs) λv w ⟨low,hv,hs⟩=>⟨_,hv,?_⟩;refine As (λ_=>⟨rfl,hs⟩) (λ_=>?_);obtain⟨n,s,l,m,hl,hsn,hs⟩:=QW hs;refine Ai.mono (Wr hl hz hs) λe w ⟨v,he,x,y,z,u,hv,hb,hs⟩=>⟨x,y,z,u,by rw[he,hv],?_⟩;have loop:∀(f i:Nat)(l:List Int)(w:World),i+f=4->(l.length=2*n/\8<=n/\n<=4096)->Ab W w (cK b n s m::recs (Ap.int .u8) s l::M) ->
   LU AU (λv w'=>v = .tuple #[]/\Ab W w' (H5 b::M)) (f+1) (some ⟨b,0,none⟩) low x y z u (i:Int) w:=by
  clear hs hl hsn;intro f
  induction f with
  | zero=>
   intro i l w hi hl hs;rw[On];refine Ad (decide_eq_false (by omega)) ?_;refine jw Aaw ?_;refine Aa (Af hs (Aa (A4 hs λw hs=>?_)));refine An [cK b n s (wrap .i64 (m+1))] hs λw hs=>?_;refine Aa (Au (Aa (Af hs (Ag hs ?_))));refine As (λ_=>?_) (λ_=>⟨rfl,IX hl hs⟩);exact Bf (Aw3 (IX hl hs)) λv w ⟨hv,hs⟩=>⟨hv,rfl,hs⟩
  | succ f ih=>
   intro i l w hi hl hs;rw[On];refine Am (decide_eq_true (by omega)) (A1 (by omega) ?_);obtain⟨k,hk,hk2⟩:=Bcq (x:=x) (y:=y) (z:=z) (u:=u) (i:=i) (by omega);refine⟨_,hk,rfl,?_⟩;refine Ah (Aw5 hl (by omega) hs) λv w ⟨y,hv,hy,hs⟩=>⟨_,hv,?_⟩;rw[i64_in ((i:Int)+1) (by omega)];refine As (λ_=>?_) (λ_=>ih (i+1) l w (by omega) hl hs);refine Ao (J6 hs (b:=15) (by decide) (by omega)) λe w ⟨he,hs⟩=>⟨_,he,?_⟩;refine Bf (Aw6 hl (by omega) hs) λv w ⟨hv,l',hl',hs⟩=>⟨hv,?_⟩;exact ih (i+1) l' w (by omega) ⟨by omega,hl.2⟩ hs
 exact AP _ (loop 4 0 l w (by omega) hl hs)
theorem Aw4(hs:Ab W w (H5 b::M)):Bh PR 343 #[pq b 0] w λv w'=>∃y:Int,v = .i y/\Ab W w' (H5 b::M):=by
 refine cw ⟨mixed,func343,rfl⟩ At1 ?_;obtain⟨n,s,l,m,a,c,hs⟩:=QW hs;refine Ad rfl (Aa<|Af hs ?_);exact⟨_,rfl,IX a hs⟩
theorem A7z(hs:Ab W w L){r:Int}:Bh PR 189 #[.i r] w λv w'=>∃b,v=pq b 0/\Ab W w' (HN b::L):=by
 refine cw ⟨mixed,func189,rfl⟩ Arv ?_;have hc:=Eo r (lo:=1) (hi:=1024) (by decide);have fin:∀(n:Nat)(w:World),1<=n->n<=2048->Ab W w L->Ail AU (λv w'=>∃b,v=pq b 0/\Ab W w' (HN b::L)) (n:Int) w:=by
  clear hs;intro n w h1 hn hs;refine jw ZF ?_;refine A1 (by decide) ?_;rw[i64_in ((8:Int)*n) (by omega),tdiv_eq_ediv_of_nonneg (by omega),i64_in _ (by omega)];obtain⟨k,hk,hk1⟩:∃k:Int,(if 8*(n:Int) / 64>1 then 8*(n:Int) / 64 else 1)=k/\1<=k/\k<=4096:=⟨_,rfl,by split <;> omega⟩
  rw[hk];refine EJ (sz:=1) hs rfl (by omega) (by omega) (by omega) (by omega) λs w hn2 _ _ hs=>?_;rw[JV] at hs;have hs:Ab W w (recs (Ap.int .u64) s (replicate k.toNat 0)::L):=hs;refine Ak hs λb w hs=>?_;exact⟨b,rfl,L8 (by rw[List.length_replicate];omega) hs⟩
 have loop:∀(f n:Nat)(w:World),1024<=n+f->1<=n->n<=2048->Ab W w L->Qi AU (λv w'=>∃b,v=pq b 0/\Ab W w' (HN b::L)) (f+1) r (n:Int) w:=by
  clear hs;intro f
  induction f with
  | zero=>
   intro n w hf h8 hn hs;rw[NQ];refine Ao (Da hs _ _ _) λe w ⟨he,hs⟩=>⟨_,he,?_⟩;exact Ad (decide_eq_false (by omega)) (fin n w h8 hn hs)
  | succ f ih=>
   intro n w hf h8 hn hs;rw[NQ];refine Ao (Da hs _ _ _) λe w ⟨he,hs⟩=>⟨_,he,?_⟩
   with_reducible refine A3 (λh1=>?_) (λh1=>?_)
   ·rw[i64_in _ (by omega),show(n:Int)*2=((2*n:Nat):Int) by omega];exact ih (2*n) w (by omega) (by omega) (by omega) hs
   ·exact fin n w h8 hn hs
 exact AP _ (loop 1023 1 w (by omega) (by omega) (by omega) hs)
theorem Apg{i:Int}(h:1<=l.length/\l.length<=4096)(f:s.n=l.length)(j:key.size<64)(hs:Ab W w (blk b [.l s.a s.n s.c]::M)):Bh PR 351 #[pq b 0,.i i,.s key] w λv w'=>∃(x:Nat) (y:Int),v = .tuple #[.i (x:Int),.int .u64 y]/\x<l.length/\Ab W w' (blk b [.l s.a s.n s.c]::M):=by
 refine cw ⟨mixed,func351,rfl⟩ At7 ?_;refine An [blk b [.l s.a s.n s.c]] hs λw hs=>?_;refine Aa (Au (x:=s) ?_);refine Ao (Hl hs<|by omega) λe w ⟨e,hs⟩=>⟨_,e,Ag hs ?_⟩;rw[i64_in ((64:Int)*(s.n:Int))<|by omega,show(64:Int)*(s.n:Int)=((64*s.n:Nat):Int) by omega];refine Ao (GR (n:=64*s.n) hs (GH _ _).1 (by omega) (by omega)) λe w ⟨e,hs⟩=>⟨_,e,?_⟩;have g:=mod_lt (Fw (wrap .u64<|wrap .i64<|11+i) key).toNat (show 64*s.n>0 by omega);generalize (Fw (wrap .u64<|wrap .i64<|11+i) key).toNat % (64*s.n)=r at g
 refine An [] hs λw hs=>?_;have d:tmod (r:Int) 64=((r % 64:Nat):Int):=rfl;refine A1 (by decide) (A1 (by decide)<|A1 (by rw[d];omega) ?_)
 rw[tdiv_eq_ediv_of_nonneg<|by omega,i64_in _<|by omega,show(r:Int) / 64=((r / 64:Nat):Int) by omega];exact⟨r / 64,_,rfl,by omega,hs⟩
theorem Apf(j:key.size<64)(hs:Ab W w (HN b::M)):Bh PR 350 #[pq b 0,.s key] w λv w'=>∃t:Bool,v = .b t/\Ab W w' (HN b::M):=by
 refine cw ⟨mixed,func350,rfl⟩ At6 ?_;refine Ad rfl ?_;obtain⟨s,l,e,g,hs⟩:=WB hs;have d:∀(f i:Nat)(w:World),i+f=3->Ab W w (blk b [.l s.a s.n s.c]::recs (Ap.int .u64) s l::M) ->
   Q9 AU (λv w'=>∃t:Bool,v = .b t/\Ab W w' (HN b::M)) (f+1) (some ⟨b,0,none⟩) key (i:Int) w:=by
  clear hs;intro f
  induction f with
  | zero=>
   intro i w hi hs;rw[Oo];refine Ad (decide_eq_false<|by omega) ?_;refine jw Aay ?_;exact⟨_,rfl,L8 e hs⟩
  | succ f k=>
   intro i w hi hs;rw[Oo];refine Am (decide_eq_true<|by omega) ?_;refine AM (Apg e g j hs) λv w ⟨x,y,m,o,hs⟩=>⟨_,_,m,?_⟩;refine Aa (Af (x:=s) hs ?_);refine CO (s:=s) (E:=Ap.int .u64) (rows:=l) hs λp q h=>?_;refine Dh (s:=s) (E:=Ap.int .u64) (rows:=l) h hs ?_ (hc:=rfl);rw[i64_in ((i:Int)+1)<|by omega];exact As (λ_=>⟨_,rfl,L8 e hs⟩) (λ_=>k (i+1) w (by omega) hs)
 exact AP _ (d 3 0 w (by omega) hs)
theorem A7y(j:key.size<64)(hs:Ab W w (HN b::M)):Bh PR 342 #[pq b 0,.s key] w λv w'=>∃t:Bool,v = .b t/\Ab W w' (HN b::M):=by
 refine cw ⟨mixed,func342,rfl⟩ At0 ?_;refine Ad rfl ?_;refine Ah (Apf j hs) λv w ⟨t,h,hs⟩=>⟨_,h,?_⟩;obtain⟨s,l,e,d,hs⟩:=WB hs;have g:∀(f i:Nat)(l:List Int)(w:World),i+f=3->(1<=l.length/\l.length<=4096)->s.n=l.length->Ab W w (blk b [.l s.a s.n s.c]::recs (Ap.int .u64) s l::M) ->
   Q6 AU (λv w'=>∃t:Bool,v = .b t/\Ab W w' (HN b::M)) (f+1) (some ⟨b,0,none⟩) key t (i:Int) w:=by
  clear hs e d;intro f
  induction f with
  | zero=>
   intro i l w hi e d hs;rw[Om];refine Ad (decide_eq_false<|by omega) ?_;refine jw Aav ?_;exact⟨_,rfl,L8 e hs⟩
  | succ f k=>
   intro i l w hi e d hs;rw[Om];refine Am (decide_eq_true<|by omega) ?_;refine AM (Apg e d j hs) λv w ⟨x,y,h,m,hs⟩=>⟨_,_,h,?_⟩;refine Aa (Af (x:=s) hs ?_);refine BO (s:=s) hs λo p hs=>?_;refine Cx hs ?_;refine Ia hs ?_;refine A7e hs λw hs=>?_;have hs:=Ab.shut s hs;rw[i64_in ((i:Int)+1)<|by omega];exact k (i+1) _ w (by omega) (by rw[length_set];exact e) (by rw[length_set];exact d) hs
 exact AP _ (g 3 0 l w (by omega) e d hs)
theorem Ape(hs:Ab W w (HN b::M)):Bh PR 345 #[pq b 0] w λv w'=>v = .tuple #[]/\Ab W w' (HN b::M):=by
 refine cw ⟨mixed,func345,rfl⟩ At3 ?_;refine Am rfl ?_;obtain⟨s,l,o,e,hs⟩:=WB hs;refine Aa (Af (x:=s) hs ?_);obtain⟨b1,d,f,hs⟩:∃b1 d,s.a=some ⟨b1,d,none⟩/\Ab W w (reca (Ap.int .u64) b1 d s l::blk b [.l s.a s.n s.c]::M):=by
  have h:CU s.a s.n (0:Int) (λb1 d w=>s.a=some ⟨b1,d,none⟩/\Ab W w (reca (Ap.int .u64) b1 d s l::blk b [.l s.a s.n s.c]::M)) w:=by
   refine BO (s:=s) hs λg i hs=>?_;have hs:Ab W w (reca (Ap.int .u64) g i s l::blk b [.l s.a s.n s.c]::M):=hs.perm (List.Perm.swap _ _ _);exact⟨hs.pure (q:=0) rfl λ_ j=>j.1,hs⟩
  obtain⟨b1,d,_,_,h⟩:=h;exact⟨b1,d,h⟩
 have k:Mv (CH [.int .u64 (0:Int)] s.n)=true:=by rw[JV];exact Dt _
 unfold Ayt;rw[k,f];show T7 (CH [.int .u64 (0:Int)] s.n) b1 (d+0) _ w;refine Apa s.n 0 l w (by omega) hs λp w' m hs=>?_;have hs:=(hs.perm<|List.Perm.swap _ _ _).shut s;exact⟨rfl,L8 (s:=s) (by omega) hs⟩
end
end Go.Proofs.YtjipofkjmmpjdaaGreat
namespace Go.Hb
open Go.Proofs.YtjipofkjmmpjdaaGreat
abbrev cY(b:Nat)(s:Sl)(xb:Nat)(c d e pr:Int)(f g:Nat):HP:=blk b [.l s.a s.n s.c,pq xb 0,.i c,.i d,.i e,.i pr,pq f 0,pq g 0]
def T8(b:Nat)(c d e:Int)(i a p:BL):HP:=Ly λ(z:Sl×Nat×Int×Nat×Nat)=>Fs (0<=z.2.2.1) (AN [cY b z.1 z.2.1 c d e z.2.2.1 z.2.2.2.1 z.2.2.2.2,rowsC z.1 z.2.1 5000 [i,a,p],H5 z.2.2.2.1,HN z.2.2.2.2])
structure TW(c wd mn:Int)(R i a p:BL):Prop where
 eq:R=i++(a++p)
 ok:DC c R
 w1:1<=wd
 mn0:0<=mn
 sum:wd+mn=c
 win:(i.length:Int)<=wd
 main:(a.length:Int)+p.length<=mn
def N7(b:Nat)(c:Int)(R:BL):HP:=Ly λ(z:(Int×Int)×(BL×BL×BL))=>Fs (TW c z.1.1 z.1.2 R z.2.1 z.2.2.1 z.2.2.2) (T8 b c z.1.1 z.1.2 z.2.1 z.2.2.1 z.2.2.2)
section
variable{W w:World}{M L:List HP}{b:Nat}{c wd mn:Int}{R i a p:BL}
theorem C0(h:Ab W w (T8 b c wd mn i a p::M)):∃(s:Sl) (xb:Nat) (pr:Int) (d e:Nat),0<=pr/\Ab W w (cY b s xb c wd mn pr d e::rowsC s xb 5000 [i,a,p]::H5 d::HN e::M):=by
 obtain⟨⟨s,xb,pr,d,e⟩,h⟩:=h.openE;obtain⟨f,h⟩:=h.openA;exact⟨s,xb,pr,d,e,f,h.openL⟩
theorem Bm{s:Sl}{xb d e:Nat}{pr:Int}(f:0<=pr)(h:Ab W w (cY b s xb c wd mn pr d e::rowsC s xb 5000 [i,a,p]::H5 d::HN e::M)):Ab W w (T8 b c wd mn i a p::M):=
 Ab.shutE (s,xb,pr,d,e) (Ab.shutA f<|Ab.shutL (Ps:=[_,_,_,_]) h)
theorem E6(h:Ab W w (N7 b c R::M)):∃(d e:Int) (i a p:BL),TW c d e R i a p/\Ab W w (T8 b c d e i a p::M):=by
 obtain⟨⟨⟨d,e⟩,⟨i,a,p⟩⟩,h⟩:=h.openE;obtain⟨f,h⟩:=h.openA;exact⟨d,e,i,a,p,f,h⟩
theorem CF(d:TW c wd mn R i a p)(h:Ab W w (T8 b c wd mn i a p::M)):Ab W w (N7 b c R::M):=Ab.shutE ((wd,mn),(i,a,p)) (Ab.shutA d h)
theorem WL(h:Ab W w (N7 b c R::M)):DC c R:=by
 obtain⟨e,f,i,a,p,d,_⟩:=E6 h;exact d.ok
theorem Bbj(h:Ab W w (T8 b c wd mn i a p::M)):w.cell? ⟨b,2,none⟩=some (.i c):=by
 obtain⟨s,xb,pr,d,e,_,h⟩:=C0 h;exact h.cell (q:=0) rfl
theorem Aza(h:Ab W w (N7 b c R::M)):w.cell? ⟨b,2,none⟩=some (.i c):=by
 obtain⟨d,e,i,a,p,_,h⟩:=E6 h;exact Bbj h
theorem Akx(h:Ab W w (T8 b c wd mn i a p::M)):Nd3 i a p:=by
 obtain⟨s,xb,pr,d,e,_,h⟩:=C0 h;exact nd3 (M:=H5 d::HN e::M) h.drop
theorem TW.len(h:TW c wd mn R i a p):R.length=i.length+(a.length+p.length)/\c<=1024:=by
 rw[h.eq];simp;exact h.ok.c2
end
end Go.Hb
namespace Go.Proofs.YtjipofkjmmpjdaaGreat
open Go.Hb Go.IntWalk
section
variable{W w:World}{L M:List HP}{b:Nat}{c wd mn:Int}{R i a p:BL}{key:BA}
theorem Bbi(hs:Ab W w L){r:Int}:Bh PR 154 #[.i r] w λv w'=>∃b,v=pq b 0/\Ab W w' (N7 b (Ba r) []::L):=by
 refine cw ⟨mixed,func154,rfl⟩ Arb ?_;refine A1 (by decide) ?_;refine(M9 AG (nr:=3) (by decide) hs).mono λe w ⟨s,xb,f,hs⟩=>⟨s,_,f,?_⟩;have hs:=Ks (N':=5000) hs (by omega);refine A1 (by decide) ?_;have e:=ED r;rw[M5];refine Ah (Bcu hs) λv w ⟨j,a,hs⟩=>⟨_,a,?_⟩;refine Ah (A7z hs) λv w ⟨k,a,hs⟩=>⟨_,a,?_⟩;refine Ak hs λb w hs=>⟨b,rfl,?_⟩;have g:replicate 3 ([]:BL)=[[],[],[]]:=rfl;rw[g,tdiv_eq_ediv_of_nonneg<|by omega,i64_in (Ba r / 8)<|by omega] at hs;obtain⟨q,h,c⟩:∃q:Int,(if Ba r / 8>1 then Ba r / 8 else 1)=q/\1<=q/\q<=Ba r:=⟨_,rfl,by split <;> omega⟩
 rw[h,i64_in (Ba r-q)<|by omega,i64_in ((Ba r-q)*4)<|by omega,tdiv_eq_ediv_of_nonneg<|by omega,i64_in _<|by omega] at hs;have d:TW (Ba r) q (Ba r-q) [] [] [] []:=⟨rfl,DC.nil e.1 e.2,c.1,by omega,by omega,by simp;omega,by simp;omega⟩
 exact CF d (Bm (pr:=(Ba r-q)*4 / 5) (by omega)<|by exact Ab.fin hs)
theorem A6m(hs:Ab W w (N7 b c R::M)):Bh PR 331 #[pq b 0] w λv w'=>v = .i c/\Ab W w' (N7 b c R::M):=by
 refine cw ⟨mixed,func331,rfl⟩ Atw ?_;obtain⟨f,g,i,a,p,d,hs⟩:=E6 hs;obtain⟨s,xb,pr,h,j,e,hs⟩:=C0 hs;refine Ad rfl (Aa<|Af hs ?_);exact⟨rfl,CF d<|Bm e hs⟩
theorem Ahm(hs:Ab W w (N7 b c R::M)):Bh PR 328 #[pq b 0] w λv w'=>v = .i (R.length:Int)/\Ab W w' (N7 b c R::M):=by
 refine cw ⟨mixed,func328,rfl⟩ Att ?_;obtain⟨g,h,i,a,p,d,hs⟩:=E6 hs;obtain⟨s,xb,pr,e,f,j,hs⟩:=C0 hs;refine Ad rfl (Aa<|Af (x:=s) hs<|Af hs ?_);refine Ak hs λnb w hs=>?_;refine AX AG (nr:=3) (K:=[i,a,p]) [0,1,2] (M:=cY b s xb c g h pr e f::H5 e::HN f::M) (by exact Ab.fin hs) (by omega) rfl λw hs=>?_;refine⟨?_,CF d<|Bm j<|by exact Ab.fin hs⟩;rw[d.len.1];simp[BD]
theorem Ahl(l:key.size<64)(hs:Ab W w (N7 b c R::M)):Bh PR 326 #[pq b 0,.s key] w λv w'=>v = .b (decide<|key∈R)/\Ab W w' (N7 b c R::M):=by
 refine cw ⟨mixed,func326,rfl⟩ Atr ?_;obtain⟨o,q,i,a,p,d,hs⟩:=E6 hs;obtain⟨s,xb,pr,r,u,g,hs⟩:=C0 hs;refine Ad rfl (Aa<|Af (x:=s) hs<|Af hs ?_);refine Ao (Ei AG (K:=[i,a,p]) hs l) λe w ⟨m,hs⟩=>⟨_,m,?_⟩;have e:∀t:Bool,(t=true↔key∈i\/key∈a\/key∈p)->Value.bool t = .b (decide<|key∈R):=λt n=>by
  congr 1;rw[Bool.eq_iff_iff,n,d.eq,decide_eq_true_eq,mem_append,mem_append]
 rcases T0 i a p key with⟨h,f⟩|⟨h,f,j⟩|⟨h,f,j,k⟩|⟨h,f,j,k⟩ <;> rw[h]
 ·exact Am rfl ⟨e _<|by simp[f],CF d<|Bm g hs⟩
 ·exact Ad rfl (Am rfl ⟨e _<|by simp[j],CF d<|Bm g hs⟩)
 ·exact Ad rfl (Ad rfl ⟨e _<|by simp[k],CF d<|Bm g hs⟩)
 ·exact Ad rfl (Ad rfl ⟨e _<|by simp[f,j,k],CF d<|Bm g hs⟩)
theorem A6k(hs:Ab W w (N7 b c R::M)):Bh PR 327 #[pq b 0] w λv w'=>∃(l:Sl) (ks:BL),v = .l l.a l.n l.c/\ks.Perm R/\Ab W w' (N7 b c R::recs Ap.str l ks::M):=by
 refine cw ⟨mixed,func327,rfl⟩ Ats ?_;obtain⟨g,h,i,a,p,d,hs⟩:=E6 hs;obtain⟨s,xb,pr,e,f,j,hs⟩:=C0 hs;refine Ad rfl (Aa<|Af (x:=s) hs<|Af hs ?_);refine Ak hs λnb w hs=>?_;refine QN AG (nr:=3) (K:=[i,a,p]) [0,1,2] (M:=cY b s xb c g h pr e f::H5 e::HN f::M) (by exact Ab.fin hs) (by omega) rfl λl w hs=>?_;refine⟨l,_,rfl,?_,CF d<|Bm j<|by exact Ab.fin hs⟩;rw[d.eq];simp[F0]
theorem Wv(hs:Ab W w (T8 b c wd mn i a p::M)):Bh PR 339 #[pq b 0] w λv w'=>
  ((v = .tuple #[.i 1,.b true]/\0<a.length)\/(v = .tuple #[.i 2,.b true]/\a=[]/\0<p.length)\/(v = .tuple #[.i 0,.b false]/\a=[]/\p=[]))/\Ab W w' (T8 b c wd mn i a p::M):=by
 refine cw ⟨mixed,func339,rfl⟩ Atz ?_;obtain⟨s,xb,pr,d,e,h,hs⟩:=C0 hs;refine Ak hs λf w hs=>?_;have hs:=Ab.blkS (b:=f) (cs:=[.i 1,.i 2]) (n:=2) Ap.nat [1,2] hs rfl rfl;have hs:Ab W w (recs Ap.nat ⟨some ⟨f,0,none⟩,2,2⟩ [1,2]::cY b s xb c wd mn pr d e::rowsC s xb 5000 [i,a,p]::H5 d::HN e::M):=hs;refine AP 3 ?_;rw[Jz];refine Am rfl ?_;refine CO (s:=⟨some ⟨f,0,none⟩,2,2⟩) (rows:=[1,2]) hs λm o g=>?_;refine Dh (rows:=[1,2]) g hs ?_ (k:=.int .i64) (x:=(1:Int)) (hc:=rfl);refine Aa (Af (x:=s) hs<|Af hs ?_);refine Ak hs λnb w hs=>?_
 refine AX AG (nr:=3) (K:=[i,a,p]) [1] (M:=recs Ap.nat ⟨some ⟨f,0,none⟩,2,2⟩ [1,2]::cY b s xb c wd mn pr d e::H5 d::HN e::M) (by exact Ab.fin hs) (by omega) rfl λw hs=>?_;have j:(BD [i,a,p] [1]:Int)=a.length:=by simp[BD]
 rw[j]
 with_reducible refine A3 (λq=>?_) (λq=>?_)
 ·exact⟨.inl ⟨rfl,by omega⟩,Bm h<|by exact Ab.fin hs⟩
 have l:a=[]:=length_eq_zero_iff.1 (by omega);have hs:Ab W w (recs Ap.nat ⟨some ⟨f,0,none⟩,2,2⟩ [1,2]::cY b s xb c wd mn pr d e::rowsC s xb 5000 [i,a,p]::H5 d::HN e::M):=by exact Ab.fin hs
 rw[i64_in ((0:Int)+1)<|by omega,Jz];refine Am rfl ?_;refine CO (s:=⟨some ⟨f,0,none⟩,2,2⟩) (rows:=[1,2]) hs λm o g=>?_;refine Dh (rows:=[1,2]) g hs ?_ (k:=.int .i64) (x:=(2:Int)) (hc:=rfl);refine Aa (Af (x:=s) hs<|Af hs ?_);refine Ak hs λnb w hs=>?_;refine AX AG (nr:=3) (K:=[i,a,p]) [2] (M:=recs Ap.nat ⟨some ⟨f,0,none⟩,2,2⟩ [1,2]::cY b s xb c wd mn pr d e::H5 d::HN e::M) (by exact Ab.fin hs) (by omega) rfl λw hs=>?_;have j:(BD [i,a,p] [2]:Int)=p.length:=by simp[BD]
 rw[j]
 with_reducible refine A3 (λr=>?_) (λr=>?_)
 ·exact⟨.inr<|.inl ⟨rfl,l,by omega⟩,Bm h<|by exact Ab.fin hs⟩
 rw[i64_in ((0:Int)+1+1)<|by omega,Jz];refine Ad rfl ?_;refine jw Aau ?_;exact⟨.inr<|.inr ⟨rfl,l,length_eq_zero_iff.1<|by omega⟩,Bm h<|by exact Ab.fin hs⟩
theorem Aoo{s:Sl}{xb d e:Nat}{pr:Int}(g:key.size<64)(hs:Ab W w (cY b s xb c wd mn pr d e::rowsC s xb 5000 [i,a,p]::H5 d::HN e::M)):Bh PR 348 #[pq b 0,.s key] w λv w'=>∃y:Int,v = .i y/\Ab W w' (cY b s xb c wd mn pr d e::rowsC s xb 5000 [i,a,p]::H5 d::HN e::M):=by
 refine cw ⟨mixed,func348,rfl⟩ At4 ?_;refine Aa (Af hs ?_);have hs:Ab W w (H5 d::cY b s xb c wd mn pr d e::rowsC s xb 5000 [i,a,p]::HN e::M):=by exact Ab.fin hs
 refine Ah (Adt g hs) λv w ⟨y,f,hs⟩=>⟨_,f,?_⟩;refine Aa (Af hs ?_);have hs:Ab W w (HN e::cY b s xb c wd mn pr d e::rowsC s xb 5000 [i,a,p]::H5 d::M):=by exact Ab.fin hs
 refine Ah (Apf g hs) λv w ⟨t,f,hs⟩=>⟨_,f,?_⟩;have hs:Ab W w (cY b s xb c wd mn pr d e::rowsC s xb 5000 [i,a,p]::H5 d::HN e::M):=by exact Ab.fin hs
 exact As (λ_=>⟨_,rfl,hs⟩) (λ_=>⟨_,rfl,hs⟩)
theorem Ax2(h:key.size<64)(hs:Ab W w (T8 b c wd mn i a p::M)):Bh PR 333 #[pq b 0,.s key] w λv w'=>v = .tuple #[]/\Ab W w' (T8 b c wd mn i a p::M):=by
 refine cw ⟨mixed,func333,rfl⟩ Atx ?_;obtain⟨s,xb,pr,e,f,g,hs⟩:=C0 hs;refine Aa (Af hs ?_);have hs:Ab W w (HN f::cY b s xb c wd mn pr e f::rowsC s xb 5000 [i,a,p]::H5 e::M):=by exact Ab.fin hs
 refine Ah (A7y h hs) λv w ⟨t,d,hs⟩=>⟨_,d,?_⟩;refine As (λ_=>⟨rfl,Bm g<|by exact Ab.fin hs⟩) (λ_=>?_);refine Aa (Af hs ?_);have hs:Ab W w (H5 e::cY b s xb c wd mn pr e f::rowsC s xb 5000 [i,a,p]::HN f::M):=by exact Ab.fin hs
 refine Ah (Aw4 hs) λv w ⟨y,d,hs⟩=>⟨_,d,Aa<|Af hs ?_⟩;refine Bf (Bav h hs) λv w ⟨d,hs⟩=>⟨d,Aa<|Af hs ?_⟩;refine Ah (Aw4 hs) λv w ⟨y,d,hs⟩=>⟨_,d,?_⟩;refine As (λ_=>?_) (λ_=>⟨rfl,Bm g<|by exact Ab.fin hs⟩);refine Aa (Af hs ?_);have hs:Ab W w (HN f::cY b s xb c wd mn pr e f::rowsC s xb 5000 [i,a,p]::H5 e::M):=by exact Ab.fin hs
 exact Bf (Ape hs) λv w ⟨d,hs⟩=>⟨d,rfl,Bm g<|by exact Ab.fin hs⟩
theorem Ax1(hs:Ab W w (N7 b c R::M)):Bh PR 324 #[pq b 0] w λv w'=>∃x f S,v = .tuple #[.s x,.b f]/\Hc c R x f S/\Ab W w' (N7 b c S::M):=by
 refine cw ⟨mixed,func324,rfl⟩ Atq ?_;refine Ah (Ahm hs) λv w ⟨u,hs⟩=>⟨_,u,?_⟩;have Q:=WL hs
 with_reducible refine A3 (λe=>?_) (λe=>?_)
 ·exact⟨_,_,_,rfl,Hc.none Q<|by omega,hs⟩
 obtain⟨T,U,i,a,p,m,hs⟩:=E6 hs;have H:=m.len;have d:=Akx hs;have y:∀(j:Nat)(q:BL)(G a' p':BL)(w:World),j<3->[i,a,p].getD j []=q->0<q.length->(Ck q).size<64->DI [i,a,p] (Ck q)=[G,a',p']->R.Perm (Ck q::(G++(a'++p')))->G.length<=i.length->a'.length+p'.length<=a.length+p.length->Ab W w (T8 b c T U i a p::M) ->
   Ac (some ⟨b,0,none⟩) (λA B=>ld .slc A B λ(z:Sl)=>ld .ptr A (B+1) λ(I:OA)=>call1 .str PR 337 [.agg #[.l z.a z.n z.c,.p I],.i (j:Int)] λ(C:BA)=>Ac (some ⟨b,0,none⟩) λD r=>ld .slc D r λ(g:Sl)=>ld .ptr D (r+1) λ(E:OA)=>HT PR 340 [.agg #[.l g.a g.n g.c,.p E],.s C]<|
    (λw'=>∃x f S,(Value.tuple #[.s C,.b true]) = .tuple #[.s x,.b f]/\Hc c R x f S/\Ab W w' (N7 b c S::M))) w:=by
  clear hs;intro j q G a' p' w V J e X Y L Z aa hs;obtain⟨s,xb,pr,kb,db,N,hs⟩:=C0 hs;refine Aa (Af (x:=s) hs<|Af hs ?_);refine Ao (BB AG (K:=[i,a,p]) (j:=j) hs (lt3 V)<|show 3<=4 by decide) λe w ⟨O,hs⟩=>⟨_,O,?_⟩;rw[J];refine Aa (Af (x:=s) hs<|Af hs ?_);refine Av (Cg AG (K:=[i,a,p]) (key:=Ck q) hs X (by omega)<|show 3<=4 by decide) λe w ⟨O,hs⟩=>⟨O,?_⟩;rw[Y] at hs;have F:=Hc.of_perm Q L;have hw:=m.win;have o:=m.main
  exact⟨_,_,_,rfl,F,CF ⟨rfl,F.ok,m.w1,m.mn0,m.sum,by omega,by omega⟩<|Bm N hs⟩
 have k:∀q:BL,0<q.length->q=Ck q::q.drop 1:=λq J=>by
  cases q with
  | nil=>simp at J
  | cons x t=>rfl
 refine AM (Wv hs) λv w ⟨h,hs⟩=>?_;rcases h with⟨u,e⟩|⟨u,P,e⟩|⟨u,P,N⟩
 ·have o:=CN e;refine⟨_,_,u,y 1 a i (a.drop 1) p w (by decide) rfl e (d.small _<|.inr<|.inl o) ?_ ?_ (le_refl _) (by simp) hs⟩
  ·show[Aq i _,Aq a _,Aq p _]=_;rw[Ax λh=>(d.io _ h).1 o,BT d.no e,Ax<|d.oa _ o]
  ·rw[m.eq]
   conv=>lhs;rw[k a e]
   exact perm_middle
 ·have o:=CN e;subst P;refine⟨_,_,u,y 2 p i [] (p.drop 1) w (by decide) rfl e (d.small _<|.inr<|.inr o) ?_ ?_ (le_refl _) (by simp) hs⟩
  ·show[Aq i _,[],Aq p _]=_;rw[Ax λh=>(d.io _ h).2 o,BT d.na e]
  ·rw[m.eq]
   conv=>lhs;rw[k p e]
   exact perm_middle
 ·subst P;subst N
  have e:0<i.length:=by simp at H;omega
  have o:=CN e;refine⟨_,_,u,y 0 i (i.drop 1) [] [] w (by decide) rfl e (d.small _<|.inl o) ?_ ?_ (by simp) (le_refl _) hs⟩
  ·show[Aq i _,[],[]]=_;rw[BT d.ni e]
  ·rw[m.eq]
   conv=>lhs;rw[k i e]
   exact List.Perm.refl _
theorem A6l(hz:key.size<64)(hs:Ab W w (N7 b c R::M)):Bh PR 329 #[pq b 0,.s key] w λv w'=>∃(yes:Bool) (S:BL),v = .b yes/\Dz c R key yes S/\Ab W w' (N7 b c S::M):=by
 refine cw ⟨mixed,func329,rfl⟩ Atu ?_;have hk:=WL hs;have hr:=hk.room;refine An [N7 b c R] hs λw hs=>?_;refine Ad rfl ?_;refine Ah (Ahl hz hs) λv w ⟨hv,hs⟩=>⟨_,hv,Ag hs ?_⟩
 with_reducible refine A3 (λh1=>?_) (λh1=>?_)
 ·exact Ag hs ⟨false,R,rfl,Dz.no hk (λh=>h.1 h1),hs⟩
 refine Aa (HF (k:=.int .i64) c (λw' h=>Aza h) ?_);refine Ah (Ahm hs) λv w ⟨hv,hs⟩=>⟨_,hv,Ag hs ?_⟩
 with_reducible refine A3 (λh2=>?_) (λh2=>?_)
 ·exact⟨false,R,rfl,Dz.no hk (λh=>by omega),hs⟩
 refine jw Aas ?_;obtain⟨wd,mn,i,a,p,h3,hs⟩:=E6 hs;have hll:=h3.len;have hsum:=h3.sum;have hw:=h3.win;have hm:=h3.main
 have hni:key∉i:=λh=>h1 (by rw[h3.eq];exact mem_append_left _ h);have hna:key∉a:=λh=>h1 (by rw[h3.eq];exact mem_append_right _ (mem_append_left _ h))
 have hnp:key∉p:=λh=>h1 (by rw[h3.eq];exact mem_append_right _ (mem_append_right _ h));obtain⟨s,xb,pr,kb,db,hp,hs⟩:=C0 hs;refine An [cY b s xb c wd mn pr kb db] hs λw hs=>?_;refine Aa (Au (x:=s) (Au (Aa (Au ?_))));refine Ak hs λnb w hs=>Ag hs ?_;refine AX AG (nr:=3) (K:=[i,a,p]) [1,2] (M:=cY b s xb c wd mn pr kb db::H5 kb::HN db::M) (by exact Ab.fin hs) (by omega) rfl λw hs=>?_;refine Ag hs ?_;have e1:(BD [i,a,p] [1,2]:Int)=a.length+p.length:=by simp[BD]
 rw[e1];have hs:Ab W w (cY b s xb c wd mn pr kb db::rowsC s xb 5000 [i,a,p]::H5 kb::HN db::M):=by exact Ab.fin hs
 with_reducible refine A3 (λh5=>?_) (λh5=>?_)
 ·refine Aa (Af (x:=s) hs (Af hs ?_));refine Av (IP AG (K:=[i,a,p]) (j:=1) hs (by decide) hz (show a.length<5000 by omega) rfl) λe w ⟨he,hs⟩=>⟨he,?_⟩;have e2:D2 [i,a,p] 1 key=[i,a++[key],p]:=by
   show[Aq i _,Aq a _++[_],Aq p _]=_;rw[Ax hni,Ax hna,Ax hnp]
  rw[e2] at hs;have hl:=Dz.yes hk hz h1 (by omega) (S:=i++((a++[key])++p)) (by rw[h3.eq];exact(List.Perm.append_left i D8).trans perm_middle)
  exact⟨true,_,rfl,hl,CF ⟨rfl,hl.ok,h3.w1,h3.mn0,hsum,hw,by simp;omega⟩ (Bm hp hs)⟩
 ·refine Aa (Af (x:=s) hs (Af hs ?_));refine Av (IP AG (K:=[i,a,p]) (j:=0) hs (by decide) hz (show i.length<5000 by omega) rfl) λe w ⟨he,hs⟩=>⟨he,?_⟩;have e2:D2 [i,a,p] 0 key=[i++[key],a,p]:=by
   show[Aq i _++[_],Aq a _,Aq p _]=_;rw[Ax hni,Ax hna,Ax hnp]
  rw[e2] at hs;have hl:=Dz.yes hk hz h1 (by omega) (S:=(i++[key])++(a++p)) (by rw[h3.eq];exact D8)
  exact⟨true,_,rfl,hl,CF ⟨rfl,hl.ok,h3.w1,h3.mn0,hsum,by simp;omega,hm⟩ (Bm hp hs)⟩
theorem Aom(k:key.size<64)(hs:Ab W w (N7 b c R::M)):Bh PR 330 #[pq b 0,.s key] w λv w'=>∃(e:Bool) (S:BL),v = .b e/\Gf c R key e S/\Ab W w' (N7 b c S::M):=by
 refine cw ⟨mixed,func330,rfl⟩ Atv ?_;have h:=WL hs;refine Ah (Ahl k hs) λv w ⟨l,hs⟩=>⟨_,l,?_⟩
 by_cases f:key∈R
 ·refine Ad (by rw[decide_eq_true f];rfl) ?_;obtain⟨o,q,i,a,p,d,hs⟩:=E6 hs;obtain⟨s,xb,pr,r,t,m,hs⟩:=C0 hs;refine Aa (Af (x:=s) hs<|Af hs ?_);refine Av (Cg AG (K:=[i,a,p]) hs k (by omega)<|show 3<=4 by decide) λe w ⟨n,hs⟩=>⟨n,?_⟩;have g:=d.eq;rw[g] at h f;have j:=Gf.cut3 h f;rw[<- g] at j;have u:=Bq i key;have y:=Bq a key;have z:=Bq p key
  have A:=d.win;have B:=d.main
  exact⟨true,_,rfl,j,CF (i:=Aq i key) (a:=Aq a key) (p:=Aq p key) ⟨rfl,j.ok,d.w1,d.mn0,d.sum,by omega,by omega⟩<|Bm m hs⟩
 ·refine Am (by rw[decide_eq_false f];rfl) ⟨false,R,rfl,Gf.no h f,hs⟩
abbrev AdQ(b:Nat)(c e d:Int)(i a p:BL)(W:World)(M:List HP):VW:=λv w'=>∃(l:Sl) (g a' p':BL),v = .l l.a l.n l.c/\(a'.length:Int)+p'.length<=d /\
 ((g=[]/\(a.length:Int)+p.length<d/\(i++(a++p)).Perm (i.drop 1++(a'++p')))\/(∃x,g=[x]/\¬(a.length:Int)+p.length<d/\(x=Ck i\/x∈a\/x∈p)/\(i++(a++p)).Perm (x::(i.drop 1++(a'++p')))))/\Ab W w' (T8 b c e d (i.drop 1) a' p'::recs Ap.str l g::M)
theorem Aon(h0:0<i.length)(hl:i.length+(a.length+p.length)<=1025)(hm:(a.length:Int)+p.length<=mn)(hs:Ab W w (T8 b c wd mn i a p::M)):Bh PR 338 #[pq b 0] w (AdQ b c wd mn i a p W M):=by
 refine cw ⟨mixed,func338,rfl⟩ Aty ?_;have hnd:=Akx hs;have hmi:=CN h0;have hzi:=hnd.small _ (.inl hmi);have hdec:∀q:BL,0<q.length->q=Ck q::q.drop 1:=λq hq=>by
  cases q with
  | nil=>simp at hq
  | cons x t=>rfl
 have hni:Ck i∉i.drop 1:=by
  have:=hnd.ni;rw[hdec i h0] at this;exact(nodup_cons.1 this).1
 obtain⟨s,xb,pr,kb,db,hp,hs⟩:=C0 hs;refine Aa (Af (x:=s) hs (Af hs ?_));refine Ao (BB AG (K:=[i,a,p]) (j:=0) hs (lt3 (by decide)) (show 3<=4 by decide)) λe w ⟨he,hs⟩=>⟨Ck i,he,?_⟩;have hs:=Bm (i:=i) (a:=a) (p:=p) hp hs;have j1t:∀(row:Int)(w:World),¬(a.length:Int)+p.length<mn->Ab W w (T8 b c wd mn i a p::M)->Q2 AU (AdQ b c wd mn i a p W M) (some ⟨b,0,none⟩) (Ck i) row true w:=by
  clear hs;intro row w hfull hs;refine jw Ol ?_;refine Am rfl ?_;obtain⟨s,xb,pr,kb,db,hp,hs⟩:=C0 hs;refine Aa (Af (x:=s) hs (Af hs ?_));refine Av (Cg AG (K:=[i,a,p]) (key:=Ck i) hs hzi (by omega) (show 3<=4 by decide)) λe w ⟨he,hs⟩=>⟨he,?_⟩;have e1:DI [i,a,p] (Ck i)=[i.drop 1,a,p]:=by
   show[Aq i _,Aq a _,Aq p _]=_;rw[BT hnd.ni h0,Ax (hnd.io _ hmi).1,Ax (hnd.io _ hmi).2]
  rw[e1] at hs;refine Ak hs λnb w hs=>?_;have hs:=Ab.blkS (b:=nb) (cs:=[.s (Ck i)]) (n:=1) Ap.str [Ck i] hs rfl rfl;refine⟨⟨some ⟨nb,0,none⟩,1,1⟩,[Ck i],a,p,rfl,hm,.inr ⟨_,rfl,hfull,.inl rfl,?_⟩,?_⟩
  ·conv=>lhs;rw[hdec i h0]
   exact List.Perm.refl _
  ·have hs:=Bm (i:=i.drop 1) (a:=a) (p:=p) (M:=recs Ap.str ⟨some ⟨nb,0,none⟩,1,1⟩ [Ck i]::M) hp (by exact Ab.fin hs);exact hs
 have j1f:∀(j:Nat)(q:BL)(a' p':BL)(w:World),j<3->[i,a,p].getD j []=q->0<q.length->(Ck q∈a\/Ck q∈p)->DI [i,a,p] (Ck q)=[i,a',p']->(a++p).Perm (Ck q::(a'++p'))->¬(a.length:Int)+p.length<mn->Ab W w (T8 b c wd mn i a p::M) ->
   Q2 AU (AdQ b c wd mn i a p W M) (some ⟨b,0,none⟩) (Ck i) (j:Int) false w:=by
  clear hs;intro j q a' p' w hj hq hq0 hqm e1 hpm hfull hs;refine jw Ol ?_;refine Ad rfl ?_;refine jw Aat ?_;have hpl:=hpm.length_eq;simp only[length_append,length_cons] at hpl;obtain⟨s,xb,pr,kb,db,hp,hs⟩:=C0 hs;refine Aa (Af (x:=s) hs (Af hs ?_));refine Ao (BB AG (K:=[i,a,p]) (j:=j) hs (lt3 hj) (show 3<=4 by decide)) λe w ⟨he,hs⟩=>⟨_,he,?_⟩;rw[hq];refine Aa (Af (x:=s) hs (Af hs ?_));refine Av (Cg AG (K:=[i,a,p]) (key:=Ck q) hs (hnd.small _ (.inr hqm)) (by omega) (show 3<=4 by decide)) λe w ⟨he,hs⟩=>⟨he,?_⟩
  rw[e1] at hs;refine Aa (Af (x:=s) hs (Af hs ?_));have hna:Ck i∉a'/\Ck i∉p':=by
   have h:Ck i∉a++p:=λh=>(mem_append.1 h).elim (hnd.io _ hmi).1 (hnd.io _ hmi).2;exact⟨λh2=>h (hpm.mem_iff.2 (.tail _ (mem_append_left _ h2))),λh2=>h (hpm.mem_iff.2 (.tail _ (mem_append_right _ h2)))⟩
  refine Av (IP AG (K:=[i,a',p']) (j:=1) (key:=Ck i) hs (by decide) hzi (show a'.length<5000 by omega) rfl) λe w ⟨he,hs⟩=>⟨he,?_⟩;have e2:D2 [i,a',p'] 1 (Ck i)=[i.drop 1,a'++[Ck i],p']:=by
   show[Aq i _,Aq a' _++[_],Aq p' _]=_;rw[BT hnd.ni h0,Ax hna.1,Ax hna.2]
  rw[e2] at hs;refine Ak hs λnb w hs=>?_;have hs:=Ab.blkS (b:=nb) (cs:=[.s (Ck q)]) (n:=1) Ap.str [Ck q] hs rfl rfl;refine⟨⟨some ⟨nb,0,none⟩,1,1⟩,[Ck q],a'++[Ck i],p',rfl,by simp;omega,.inr ⟨_,rfl,hfull,.inr hqm,?_⟩,?_⟩
  ·have h1:(i++(a++p)).Perm (Ck q::(i++(a'++p'))):=(List.Perm.append_left i hpm).trans perm_middle;refine h1.trans (List.Perm.cons _ ?_)
   conv=>lhs;rw[hdec i h0]
   refine List.Perm.trans ?_ (perm_middle.symm.trans (List.Perm.append_left _ D8.symm));exact List.Perm.refl _
  ·have hs:=Bm (i:=i.drop 1) (a:=a'++[Ck i]) (p:=p') (M:=recs Ap.str ⟨some ⟨nb,0,none⟩,1,1⟩ [Ck q]::M) hp (by exact Ab.fin hs);exact hs
 refine AM (Wv hs) λv w ⟨hvic,hs⟩=>?_;obtain⟨row,t,hv,hrow⟩:∃(j:Nat) (t:Bool),v = .tuple #[.i (j:Int),.b t]/\(t=true->∃(q a' p':BL),j<3/\[i,a,p].getD j []=q/\0<q.length/\(Ck q∈a\/Ck q∈p)/\DI [i,a,p] (Ck q)=[i,a',p']/\(a++p).Perm (Ck q::(a'++p'))):=by
  rcases hvic with⟨hv,h⟩|⟨hv,ha,h⟩|⟨hv,_,_⟩
  ·have hmq:=CN h;refine⟨1,true,hv,λ_=>⟨a,a.drop 1,p,by decide,rfl,h,.inl hmq,?_,?_⟩⟩
   ·show[Aq i _,Aq a _,Aq p _]=_;rw[Ax λh=>(hnd.io _ h).1 hmq,BT hnd.no h,Ax (hnd.oa _ hmq)]
   ·conv=>lhs;rw[hdec a h]
    exact List.Perm.refl _
  ·have hmq:=CN h;subst ha;refine⟨2,true,hv,λ_=>⟨p,[],p.drop 1,by decide,rfl,h,.inr hmq,?_,?_⟩⟩
   ·show[Aq i _,[],Aq p _]=_;rw[Ax λh=>(hnd.io _ h).2 hmq,BT hnd.na h]
   ·conv=>lhs;rw[hdec p h]
    exact List.Perm.refl _
  ·exact⟨0,false,hv,λh=>by cases h⟩
 clear hvic;refine⟨_,_,hv,?_⟩;obtain⟨s,xb,pr,kb,db,hp,hs⟩:=C0 hs;refine An [cY b s xb c wd mn pr kb db] hs λw hs=>?_;refine Aa (Au (x:=s) (Au (Aa (Au ?_))));refine Ak hs λnb w hs=>Ag hs ?_;refine AX AG (nr:=3) (K:=[i,a,p]) [1,2] (M:=cY b s xb c wd mn pr kb db::H5 kb::HN db::M) (by exact Ab.fin hs) (by omega) rfl λw hs=>?_;refine Ag hs ?_;have e1:(BD [i,a,p] [1,2]:Int)=a.length+p.length:=by simp[BD]
 rw[e1];have hs:Ab W w (cY b s xb c wd mn pr kb db::rowsC s xb 5000 [i,a,p]::H5 kb::HN db::M):=by exact Ab.fin hs
 with_reducible refine A3 (λhfull=>?_) (λhfull=>?_)
 ·refine Aa (Af (x:=s) hs (Af hs ?_));refine Av (IP AG (K:=[i,a,p]) (j:=1) (key:=Ck i) hs (by decide) hzi (show a.length<5000 by omega) rfl) λe w ⟨he,hs⟩=>⟨he,?_⟩;have e2:D2 [i,a,p] 1 (Ck i)=[i.drop 1,a++[Ck i],p]:=by
   show[Aq i _,Aq a _++[_],Aq p _]=_;rw[BT hnd.ni h0,Ax (hnd.io _ hmi).1,Ax (hnd.io _ hmi).2]
  rw[e2] at hs;refine⟨⟨none,0,0⟩,[],a++[Ck i],p,rfl,by simp;omega,.inl ⟨rfl,hfull,?_⟩,(Ab.nilR Ap.str (Bm hp hs)).perm (List.Perm.swap _ _ _)⟩
  conv=>lhs;rw[hdec i h0]
  exact perm_middle.symm.trans (List.Perm.append_left _ D8.symm)
 refine An [cY b s xb c wd mn pr kb db] hs λw hs=>?_;cases t with
 | false=>exact Am rfl (Ag hs (j1t _ w hfull (Bm hp hs)))
 | true=>
  obtain⟨q,a',p',hj,hq,hq0,hqm,e3,hpm⟩:=hrow rfl;refine Ad rfl (Aa (Au (x:=s) (Au ?_)));have keep:∀(w:World)(key:BA)(K:Int->WP),key.size<64->Ab W w (cY b s xb c wd mn pr kb db::rowsC s xb 5000 [i,a,p]::H5 kb::HN db::M)->(∀(y:Int)(w':World),Ab W w' (cY b s xb c wd mn pr kb db::rowsC s xb 5000 [i,a,p]::H5 kb::HN db::M)->K y w')->call1 (.int .i64) PR 348 [pq b 0,.s key] K w:=by
   clear hs;intro w key K hz hs hK;exact Ah (Aoo hz hs) λv w ⟨y,hv,hs⟩=>⟨_,hv,hK _ _ hs⟩
  refine keep w _ _ hzi hs λy1 w hs=>Ag hs ?_;refine Ao (BB AG (K:=[i,a,p]) (j:=row) hs (lt3 hj) (show 3<=4 by decide)) λe w ⟨he,hs⟩=>⟨_,he,?_⟩;rw[hq];refine keep w _ _ (hnd.small _ (.inr hqm)) hs λy2 w hs=>?_;have hs:=Bm (i:=i) (a:=a) (p:=p) hp hs;cases decide (y1<=y2) with
  | true=>exact j1t _ w hfull hs
  | false=>exact j1f row q a' p' w hj hq hq0 hqm e3 hpm hfull hs
abbrev AcQ(b:Nat)(c:Int)(R:BL)(key:BA)(W:World)(M:List HP):VW:=λv w'=>∃(d:Bool) (l:Sl) (g S:BL),v = .tuple #[.b d,.l l.a l.n l.c]/\Fh c R key d g S/\Ab W w' (N7 b c S::recs Ap.str l g::M)
theorem A6n(hR:DC c R)(y:key∈R)(m:1<=wd/\0<=mn/\wd+mn=c)(z:(i.length:Int)<=wd):∀(f:Nat)(a p:BL)(w:World),p.length=f->(a.length:Int)+p.length<=mn->R.Perm (i++(a++p))->Ab W w (T8 b c wd mn i a p::M) ->
  Q0 AU (AcQ b c R key W M) (f+1) (some ⟨b,0,none⟩) w:=by
 have B:=hR.c2;intro f
 induction f with
 | zero=>
  intro a p w A r g hs;rw[Oi];obtain⟨s,xb,pr,d,e,q,hs⟩:=C0 hs;refine An [cY b s xb c wd mn pr d e] hs λw hs=>?_;refine Aa (Au (x:=s)<|Au<|Aa<|Au ?_);refine Ak hs λnb w hs=>Ag hs ?_;refine AX AG (nr:=3) (K:=[i,a,p]) [2] (M:=cY b s xb c wd mn pr d e::H5 d::HN e::M) (by exact Ab.fin hs) (by omega) rfl λw hs=>?_;refine Ag hs ?_;have C:(BD [i,a,p] [2]:Int)=0:=by simp[BD,A]
  rw[C];refine Ad (decide_eq_false<|by omega) ?_;refine jw Oh ?_;have n:=Fh.same hR y g.symm;exact⟨true,⟨none,0,0⟩,[],_,rfl,n,(Ab.nilR Ap.str<|CF ⟨rfl,n.ok,m.1,m.2.1,m.2.2,z,r⟩<|Bm q<|by exact Ab.fin hs).perm<|List.Perm.swap _ _ _⟩
 | succ f D=>
  intro a p w A r g hs;rw[Oi];have k:=Akx hs;obtain⟨s,xb,pr,d,e,q,hs⟩:=C0 hs;refine An [cY b s xb c wd mn pr d e] hs λw hs=>?_;refine Aa (Au (x:=s)<|Au<|Aa<|Au ?_);refine Ak hs λnb w hs=>Ag hs ?_;refine AX AG (nr:=3) (K:=[i,a,p]) [2] (M:=cY b s xb c wd mn pr d e::H5 d::HN e::M) (by exact Ab.fin hs) (by omega) rfl λw hs=>?_;refine Ag hs ?_;have hs:Ab W w (cY b s xb c wd mn pr d e::rowsC s xb 5000 [i,a,p]::H5 d::HN e::M):=by exact Ab.fin hs
  refine As (λ_=>?_) (λ_=>?_)
  ·refine An [cY b s xb c wd mn pr d e] hs λw hs=>?_;refine Aa (Au (x:=s)<|Au<|Aa<|Af (x:=s) hs<|Af hs<|Ag hs ?_);refine Ao (BB AG (K:=[i,a,p]) (j:=2) hs (lt3<|by decide)<|show 3<=4 by decide) λe w ⟨u,hs⟩=>⟨Ck p,u,Ag hs ?_⟩;have v:0<p.length:=by omega
   have l:=CN v;refine Av (IP AG (K:=[i,a,p]) (j:=1) (key:=Ck p) hs (by decide) (k.small _<|.inr<|.inr l) (show a.length<5000 by omega) rfl) λe w ⟨u,hs⟩=>⟨u,?_⟩;have E:D2 [i,a,p] 1 (Ck p)=[i,a++[Ck p],p.drop 1]:=by
    show[Aq i _,Aq a _++[_],Aq p _]=_;rw[Ax λh=>(k.io _ h).2 l,Ax λh=>k.oa _ h l,BT k.na v]
   rw[E] at hs;refine D _ _ w (by rw[length_drop];omega) (by simp;omega) (g.trans<|List.Perm.append_left i ?_) (Bm q hs)
   have o:p=Ck p::p.drop 1:=by
    cases p with
    | nil=>simp at v
    | cons x t=>rfl
   conv=>lhs;rw[o]
   rw[append_assoc];exact List.Perm.refl _
  ·refine jw Oh ?_;have n:=Fh.same hR y g.symm;exact⟨true,⟨none,0,0⟩,[],_,rfl,n,(Ab.nilR Ap.str<|CF ⟨rfl,n.ok,m.1,m.2.1,m.2.2,z,r⟩<|Bm q hs).perm<|List.Perm.swap _ _ _⟩
theorem Aol(hz:key.size<64)(hs:Ab W w (N7 b c R::M)):Bh PR 323 #[pq b 0,.s key] w (AcQ b c R key W M):=by
 refine cw ⟨mixed,func323,rfl⟩ Atp ?_;refine Ad rfl ?_;obtain⟨wd,mn,i,a,p,h1,hs⟩:=E6 hs;have hk:=h1.ok;have hll:=h1.len;have hsum:=h1.sum;have hw:=h1.win;have hm:=h1.main;have hw1:=h1.w1;have hmn:=h1.mn0
 refine Bf (Ax2 hz hs) λv w ⟨hv,hs⟩=>⟨hv,?_⟩;have hnd:=Akx hs;obtain⟨s,xb,pr,kb,db,hp,hs⟩:=C0 hs;refine Aa (Af (x:=s) hs (Af hs ?_));refine Ao (Ei AG (K:=[i,a,p]) hs hz) λe w ⟨he,hs⟩=>⟨_,he,?_⟩;have j1:∀(w:World)(a' p':BL),key∈R->D2 [i,a,p] 2 key=[i,a',p']->(a'.length:Int)+p'.length<=mn->R.Perm (i++(a'++p'))->Ab W w (T8 b c wd mn i a p::M)->X0 AU (AcQ b c R key W M) (some ⟨b,0,none⟩) key true w:=by
  clear hs;intro w a' p' hkR e2 hm2 hp2 hs;refine jw Og ?_;refine Am rfl ?_;obtain⟨s,xb,pr,kb,db,hp,hs⟩:=C0 hs;refine Aa (Af (x:=s) hs (Af hs ?_));refine Av (IP AG (K:=[i,a,p]) (j:=2) (key:=key) hs (by decide) hz (show p.length<5000 by omega) rfl) λe w ⟨he,hs⟩=>⟨he,?_⟩;rw[e2] at hs;exact AP _ (A6n hk hkR ⟨hw1,hmn,hsum⟩ hw _ a' p' w rfl hm2 hp2 (Bm hp hs))
 rcases T0 i a p key with⟨h,h4⟩|⟨h,h4,h5⟩|⟨h,h4,h5,h6⟩|⟨h,h4,h5,h6⟩ <;> rw[h]
 ·refine Am rfl (Aa (Af (x:=s) hs (Af hs ?_)));refine Av (IP AG (K:=[i,a,p]) (j:=0) (key:=key) hs (by decide) hz (show i.length<5000 by omega) rfl) λe w ⟨he,hs⟩=>⟨he,?_⟩;have e2:D2 [i,a,p] 0 key=[Aq i key++[key],a,p]:=by
   show[Aq i _++[_],Aq a _,Aq p _]=_;rw[Ax (hnd.io _ h4).1,Ax (hnd.io _ h4).2]
  rw[e2] at hs;have hpi:(Aq i key++[key]).Perm i:=perm_append_comm.trans (C4 hnd.ni h4).symm;have hli:=hpi.length_eq;have ha:=Fh.same (S:=(Aq i key++[key])++(a++p)) hk (by rw[h1.eq];exact mem_append_left _ h4) (by rw[h1.eq];exact List.Perm.append_right _ hpi)
  exact⟨true,⟨none,0,0⟩,[],_,rfl,ha,(Ab.nilR Ap.str (CF ⟨rfl,ha.ok,hw1,hmn,hsum,by omega,hm⟩ (Bm hp hs))).perm (List.Perm.swap _ _ _)⟩
 ·refine Ad rfl (Am rfl ?_);have hg:=C4 hnd.no h5;have hgl:=hg.length_eq;rw[length_cons] at hgl;refine j1 w (Aq a key) (p++[key]) (by rw[h1.eq];simp[h5]) (by show[Aq i _,Aq a _,Aq p _++[_]]=_;rw[Ax h4,Ax (hnd.oa _ h5)]) (by simp;omega) ?_ (Bm hp hs)
  rw[h1.eq];exact List.Perm.append_left i ((List.Perm.append_right p hg).trans EV.symm)
 ·refine Ad rfl (Ad rfl ?_);have hg:=C4 hnd.na h6;have hgl:=hg.length_eq;rw[length_cons] at hgl;refine j1 w a (Aq p key++[key]) (by rw[h1.eq];simp[h6]) (by show[Aq i _,Aq a _,Aq p _++[_]]=_;rw[Ax h4,Ax h5]) (by simp;omega) ?_ (Bm hp hs)
  rw[h1.eq];exact List.Perm.append_left i (List.Perm.append_left a (hg.trans (List.perm_append_singleton _ _).symm))
 ·refine Ad rfl (Ad rfl ?_);refine jw Og ?_;refine Ad rfl ?_;refine jw Aaq ?_;have hno:key∉R:=by rw[h1.eq];simp[h4,h5,h6]
  refine Aa (Af (x:=s) hs (Af hs ?_));refine Av (IP AG (K:=[i,a,p]) (j:=0) (key:=key) hs (by decide) hz (show i.length<5000 by omega) rfl) λe w ⟨he,hs⟩=>⟨he,?_⟩;have e2:D2 [i,a,p] 0 key=[i++[key],a,p]:=by
   show[Aq i _++[_],Aq a _,Aq p _]=_;rw[Ax h4,Ax h5,Ax h6]
  rw[e2] at hs;have hs:=Bm (i:=i++[key]) (a:=a) (p:=p) hp hs;have hp0:((i++[key])++(a++p)).Perm (key::R):=by rw[h1.eq];exact D8
  have last:∀(w:World)(l:Sl)(g i' a' p' S:BL),MP c R g S->(i'++(a'++p')).Perm (key::S)->(i'.length:Int)<=wd->(a'.length:Int)+p'.length<=mn->Ab W w (T8 b c wd mn i' a' p'::recs Ap.str l g::M) ->
    Q1 AU (AcQ b c R key W M) 1 (some ⟨b,0,none⟩) l w:=by
   clear hs;intro w l g i' a' p' S hrec hpS hw' hm' hs;rw[Oj];obtain⟨s,xb,pr,kb,db,hp,hs⟩:=C0 hs;refine An [cY b s xb c wd mn pr kb db] hs λw hs=>?_;refine Aa (Au (x:=s) (Au (Aa (Au ?_))));refine Ak hs λnb w hs=>Ag hs ?_;refine AX AG (nr:=3) (K:=[i',a',p']) [0] (M:=cY b s xb c wd mn pr kb db::H5 kb::HN db::recs Ap.str l g::M) (by exact Ab.fin hs) (by omega) rfl λw hs=>?_;refine Ag hs ?_;have e1:(BD [i',a',p'] [0]:Int)=i'.length:=by simp[BD]
   rw[e1];refine Ad (decide_eq_false (by omega)) ?_;refine jw Aar ?_;have ha:=Fh.miss hk hno hz hrec hpS;exact⟨false,l,g,_,rfl,ha,CF ⟨rfl,ha.ok,hw1,hmn,hsum,hw',hm'⟩ (Bm hp (by exact Ab.fin hs))⟩
  by_cases hfull:(i.length:Int)<wd
  ·refine AP 1 (last w ⟨none,0,0⟩ [] (i++[key]) a p R (.inl ⟨rfl,rfl,by omega⟩) hp0 (by simp;omega) hm ((Ab.nilR Ap.str hs).perm (List.Perm.swap _ _ _)))
  refine AP 2 ?_;rw[Oj];have hs:=Ab.nilR Ap.str hs;have hs:Ab W w (T8 b c wd mn (i++[key]) a p::recs Ap.str ⟨none,0,0⟩ []::M):=hs.perm (List.Perm.swap _ _ _);obtain⟨s,xb,pr,kb,db,hp,hs⟩:=C0 hs;refine An [cY b s xb c wd mn pr kb db] hs λw hs=>?_;refine Aa (Au (x:=s) (Au (Aa (Au ?_))));refine Ak hs λnb w hs=>Ag hs ?_;refine AX AG (nr:=3) (K:=[i++[key],a,p]) [0] (M:=cY b s xb c wd mn pr kb db::H5 kb::HN db::recs Ap.str ⟨none,0,0⟩ []::M) (by exact Ab.fin hs) (by omega) rfl λw hs=>?_;refine Ag hs ?_
  have e1:(BD [i++[key],a,p] [0]:Int)=i.length+1:=by simp[BD]
  rw[e1];refine Am (decide_eq_true (by omega)) ?_;have hs:=Bm (i:=i++[key]) (a:=a) (p:=p) (M:=recs Ap.str ⟨none,0,0⟩ []::M) hp (by exact Ab.fin hs);refine Ah (Aon (by simp) (by simp;omega) hm hs) λv w ⟨l,g,a',p',hv,hm',hg,hs⟩=>⟨_,hv,?_⟩
  have hgl:g.length<=1:=by rcases hg with⟨rfl,_⟩|⟨x,rfl,_⟩ <;> simp
  have hs:Ab W w (recs Ap.str ⟨none,0,0⟩ []::recs Ap.str l g::T8 b c wd mn ((i++[key]).drop 1) a' p'::M):=by exact Ab.fin hs
  refine GA (s:=⟨none,0,0⟩) (new:=g) hs (GT (s:=l) (E:=Ap.str) (rows:=g) hs) (BS (s:=l) (E:=Ap.str) (rows:=g) hs) (Dt _) rfl (by decide) (by simp;omega) λs2 w hs2 hs=>?_;have hs:Ab W w (T8 b c wd mn ((i++[key]).drop 1) a' p'::recs Ap.str s2 g::M):=by
   rw[List.nil_append] at hs;exact Ab.fin hs
  have hi0:0<i.length:=by omega
  have hhd:Ck (i++[key])=Ck i:=by
   cases i with
   | nil=>simp at hi0
   | cons x t=>rfl
  have Lz:(((i++[key]).drop 1).length:Int)<=wd:=by simp;omega
  rcases hg with⟨rfl,hlt,hpm⟩|⟨x,rfl,hge,hx,hpm⟩
  ·exact last w s2 [] _ a' p' R (.inl ⟨rfl,rfl,by omega⟩) (hpm.symm.trans hp0) Lz hm' hs
  ·have hxR:x∈R:=by
    rw[h1.eq];rcases hx with h|h|h
    ·rw[hhd] at h;subst h;exact mem_append_left _ (CN hi0)
    ·simp[h]
    ·simp[h]
   have hpx:=C4 hk.nd hxR;have hev:=Hc.of_perm hk hpx;refine last w s2 [x] _ a' p' (Aq R x) (.inr ⟨x,rfl,hev,by omega⟩) ?_ Lz hm' hs;have h7:=hpm.symm.trans (hp0.trans ((List.Perm.cons key hpx).trans (List.Perm.swap x key _)));exact(List.perm_cons x).1 h7
end
end Go.Proofs.YtjipofkjmmpjdaaGreat
namespace Go.Hb
theorem G4{V:Type}(e:BA×V)(m:List (BA×V))(k:BA):AH (e::m) k=if e.1=k then some e.2 else AH m k:=by
 unfold AH
 by_cases h:e.1=k
 ·simp[find?,h]
 ·simp[find?,h]
theorem An1{V:Type}(m:List (BA×V))(k a:BA)(v:V):AH (Fm m k v) a=if k=a then (AH m a).map λ_=>v else AH m a:=by
 induction m with
 | nil=>simp[Fm,AH]
 | cons e m d=>
  have f:Fm (e::m) k v=(if e.1=k then (k,v) else e)::Fm m k v:=rfl;rw[f,G4,d,G4]
  by_cases c:e.1=k
  ·by_cases b:k=a
   ·simp[c,b]
   ·simp[c,b]
  ·by_cases b:k=a
   ·have g:e.1≠a:=λh=>c (h.trans b.symm);simp[b,g]
   ·simp[c,b]
theorem Wo{V:Type}(m:List (BA×V))(k a:BA)(v:V):AH (Cw m k v) a=if k=a then some v else AH m a:=by
 unfold Cw;split
 ·rename_i u b;rw[An1]
  by_cases h:k=a
  ·subst h;simp[b]
  ·simp[h]
 ·rw[G4]
theorem Wn{V:Type}(m:List (BA×V))(k x:BA):AH (BU m k) x=if k=x then none else AH m x:=by
 induction m with
 | nil=>simp[BU,AH]
 | cons e m f=>
  by_cases b:e.1=k
  ·have c:BU (e::m) k=BU m k:=by simp[BU,b]
   rw[c,f,G4]
   by_cases a:k=x
   ·simp[a]
   ·have d:e.1≠x:=λh=>a (b.symm.trans h);simp[a,d]
  ·have c:BU (e::m) k=e::BU m k:=by simp[BU,b]
   rw[c,G4,f,G4]
   by_cases a:k=x
   ·have d:e.1≠x:=λh=>b (h.trans a.symm);simp[a,d]
   ·simp[a]
end Go.Hb
