/- For every argument hoardtop.TopMoves returns true, and each argument reads behind the call as it read before. No condition. -/
import Derived.KernelRfl
import Derived.Test.YtjipofkjmmpjdaaGreatRows
import Derived.Test.YtjipofkjmmpjdaaGreatQMoves4
set_option linter.unusedVariables false
set_option linter.unusedSimpArgs false
set_option linter.unnecessarySimpa false
set_option linter.unusedSectionVars false
set_option maxRecDepth 100000
namespace Go.Hb
def okB(c:Int):Prop:=(97<=c/\c<=122)\/(65<=c/\c<=90)\/(48<=c/\c<=57)\/c=95\/c=45\/c=46\/c=47\/c=58
instance {c:Int}:Decidable (okB c):=by unfold okB;infer_instance
def E4(s:BA):Bool:=decide (1<=s.size/\s.size<=24/\∀j,j<s.size->okB (AU s j))
theorem Dg{s:BA}(h:E4 s=true):s.size<=24:=(of_decide_eq_true h).2.1
abbrev TT:=List (BA×(BA×Int))
structure Jy(r:TT):Prop where
 rise:BQ r
 small:∀e∈r,e.1.size<4611686018427387904
 ends:∀e∈r,0<=e.2.2
def ID(e now:Int):Bool:=decide (e≠0/\e<=now)
def EB(r:TT)(k:BA)(now:Int):BA×Bool:=match AE r k with
 | some v=>if ID v.2 now then (⟨#[]⟩,false) else (v.1,true)
 | none=>(⟨#[]⟩,false)
def Cm(r:TT)(now:Int):List BA:=(r.filter λe=>ID e.2.2 now).map (·.1)
def Fe(k v:BA)(now life:Int):Int:=if E4 k=false then 2 else if 64<(v.size:Int) then 3 else if now<0\/1125899906842624<now\/life<0\/1099511627776<life then 1 else 0
def FK(now life:Int):Int:=if 0<life then now+life else 0
def F5(r:TT)(k v:BA)(now life:Int):TT:=if Fe k v now life=0 then Ho r k (v,FK now life) else r
def L8(r:TT)(k v:BA)(now life:Int):Bool:=decide (Fe k v now life=0) && (AE r k).isNone
theorem HV{k v:BA}{now life:Int}(h:Fe k v now life=0):E4 k=true/\(v.size:Int)<=64/\0<=now/\now<=1125899906842624/\0<=life/\life<=1099511627776:=by
 unfold Fe at h;split at h
 ·omega
 ·rename_i h1;split at h
  ·omega
  ·split at h
   ·omega
   ·exact⟨by simpa using h1,by omega,by omega,by omega,by omega,by omega⟩
theorem I9{r:TT}{k:BA}{v:BA×Int}{e:BA×(BA×Int)}(hr:BQ r)(h:e∈Ho r k v):e∈r\/e=(k,v):=by
 have h2:=(IX (v:=v) hr).mem_iff.1 h;unfold Cj at h2;split at h2
 ·unfold E5 at h2;obtain⟨a,ha,h3⟩:=List.mem_map.1 h2;split at h3
  ·exact .inr h3.symm
  ·exact .inl (h3 ▸ ha)
 ·rcases List.mem_cons.1 h2 with h3|h3
  ·exact .inr h3
  ·exact .inl h3
theorem Jy.put{r:TT}(h:Jy r)(k v:BA)(now life:Int):Jy (F5 r k v now life):=by
 unfold F5;split
 ·rename_i he;obtain⟨h1,h2,h3,h4,h5,h6⟩:=HV he;have hk:=Dg h1;have hend:0<=FK now life:=by unfold FK;split <;> omega
  refine⟨Hp h.rise,λe he=>?_,λe he=>?_⟩
  ·rcases I9 h.rise he with he|rfl
   ·exact h.small e he
   ·simp only;omega
  ·rcases I9 h.rise he with he|rfl
   ·exact h.ends e he
   ·exact hend
 ·exact h
theorem Jy.del{r:TT}(h:Jy r)(k:BA):Jy (Ew r k):=by
 refine⟨L5 h.rise,λe he=>?_,λe he=>?_⟩
 ·rw[Fk h.rise] at he;exact h.small e (List.mem_filter.1 he).1
 ·rw[Fk h.rise] at he;exact h.ends e (List.mem_filter.1 he).1
theorem KM{r:TT}(h:Jy r)(k:BA):(Ew r k).length<=r.length:=by rw[Fk h.rise];exact Aw8 _ _
theorem Abo{r:TT}(h:BQ r):EA (r.map (·.1))=r.map (·.1):=Ap3 (List.Perm.refl _) h
def tabR(b:Nat)(r:TT):HP:=JU λ(xb:Nat)=>ED (Jy r) (AF [blk b [pq xb 0],ixr Rec.si xb 0 r])
section
variable{b:Nat}{m r:TT}{W w:World}{M L:List HP}
instance At.tabR:At (tabR b r::L) b (tabR b r) (λx=>x::L):=⟨DX⟩
theorem Fv(h:Ab W w (tabR b r::M)):∃xb,Jy r/\Ab W w (blk b [pq xb 0]::ixr Rec.si xb 0 r::M):=by
 obtain⟨xb,h⟩:=h.openE;obtain⟨hi,h⟩:=h.openA;exact⟨xb,hi,h.openL⟩
theorem DH{xb:Nat}(hi:Jy r)(h:Ab W w (blk b [pq xb 0]::ixr Rec.si xb 0 r::M)):Ab W w (tabR b r::M):=Ab.shutE xb (Ab.shutA hi (Ab.shutL (Ps:=[_,_]) h))
end
end Go.Hb
namespace Go.Proofs.YtjipofkjmmpjdaaGreat
open Go.Hb Go.IntWalk
section
variable{W w:World}{L M:List HP}{F:HP->List HP}{b:Nat}{m r:TT}{k v:BA}{now life:Int}
theorem MX(c:Nat)(hc:c<256):(Lib.indexByte CZ.data.toList ((c:Int)).toNat.toUInt8<0)↔¬((c:Int)=95\/(c:Int)=45\/(c:Int)=46\/(c:Int)=47\/(c:Int)=58):=by
 have h:∀c:Fin 256,(Lib.indexByte CZ.data.toList (((c.val:Nat):Int)).toNat.toUInt8<0)↔¬(((c.val:Nat):Int)=95\/((c.val:Nat):Int)=45\/((c.val:Nat):Int)=46\/((c.val:Nat):Int)=47\/((c.val:Nat):Int)=58):=by decide +kernel
 exact h ⟨c,hc⟩
theorem Aex(s:BA)(i:Nat):∃c:Nat,c<256/\AU s i=(c:Int):=⟨((s.data.toList[i]?).getD 0).toNat,UInt8.toNat_lt _,rfl⟩
theorem A1e(hs:Ab W w L){c:Int}{s:BA}:Calls PR 157 #[.s s,.int .u8 c] w λe w'=>e = .returned (.i (Lib.indexByte s.data.toList c.toNat.toUInt8))/\Ab W w' L:=by
 refine(Tryz.strings_IndexByte s c w).mono λe w' h=>?_;exact⟨h.1,by rw[h.2];exact hs⟩
theorem Ad6(hs:Ab W w L):Calls PR 118 #[.s k] w λe w'=>e = .returned (.b (E4 k))/\Ab W w' L:=by
 refine c1 (cw ⟨mixed,Tryz.func118,rfl⟩ Aja ?_)
 with_reducible refine Di (λh1=>?_) (λh1=>?_)
 ·have:E4 k=false:=decide_eq_false λh=>by omega
  exact⟨by rw[this],hs⟩
 with_reducible refine Di (λh2=>?_) (λh2=>?_)
 ·have:E4 k=false:=decide_eq_false λh=>by omega
  exact⟨by rw[this],hs⟩
 refine jw Wm ?_;have loop:∀(f i:Nat)(w:World),i+f=k.size->(∀j,j<i->okB (AU k j))->Ab W w L->Ct Be (λv w'=>v = .b (E4 k)/\Ab W w' L) (f+1) k (k.size:Int) (i:Int) w:=by
  intro f
  induction f with
  | zero=>
   intro i w hi hok hs;rw[LO];refine Ac (decide_eq_false (by omega)) ?_;refine jw Wn ?_;have:E4 k=true:=decide_eq_true ⟨by omega,by omega,λj hj=>hok j (by omega)⟩;exact⟨by rw[this],hs⟩
  | succ f ih=>
   intro i w hi hok hs;rw[LO];refine Ak (decide_eq_true (by omega)) (Aw (by omega) ?_);rw[Int.toNat_natCast];have next:∀w,okB (AU k i)->Ab W w L->Ct Be (λv w'=>v = .b (E4 k)/\Ab W w' L) (f+1) k (k.size:Int) (IntKind.wrap .i64 ((i:Int)+1)) w:=by
    intro w h hs;rw[i64_in _ (by omega)];refine ih (i+1) w (by omega) (λj hj=>?_) hs
    by_cases hji:j=i
    ·subst hji;exact h
    ·exact hok j (by omega)
   have bad:¬okB (AU k i)->E4 k=false:=λh=>decide_eq_false λh2=>h (h2.2.2 i (by omega));have look:∀(K1 K2:WP),K1=(λw'=>Value.bool false = .b (E4 k)/\Ab W w' L)->K2=(Ct Be (λv w'=>v = .b (E4 k)/\Ab W w' L) (f+1) k (k.size:Int) (IntKind.wrap .i64 ((i:Int)+1))) ->
     ¬(97<=AU k i/\AU k i<=122)->¬(65<=AU k i/\AU k i<=90)->¬(48<=AU k i/\AU k i<=57)->call1 (.int .i64) PR 157 [.s CZ,.int .u8 (AU k i)] (λ(x_1:Int)=>Aj (decide (x_1<(0:Int))) K1 K2) w:=by
    intro K1 K2 e1 e2 n1 n2 n3;subst e1 e2;refine Am (A1e hs) λe w ⟨he,hs⟩=>⟨_,he,?_⟩;obtain⟨c,hc,hb⟩:=Aex k i;have hx:=MX c hc;rw[<- hb] at hx
    with_reducible refine Di (λh5=>?_) (λh5=>?_)
    ·have h6:=hx.1 h5;refine⟨by rw[bad (by unfold okB;omega)],hs⟩
    ·refine next w ?_ hs
     have h6:¬ ¬_:=λh=>h5 (hx.2 h);unfold okB;omega
   generalize hbt:AU k i=c at *;have look:=λn1 n2 n3=>look _ _ rfl rfl n1 n2 n3;have next:=next w
   repeat' first
    | with_reducible refine Di (λh9=>?_) (λh9=>?_)
    | with_reducible refine Aws (λh9=>?_) (λh9=>?_)
   all_goals first
    | (with_reducible exact look (by omega) (by omega) (by omega))
    | (with_reducible exact next (by unfold okB;omega) hs)
 exact⟨k.size+1,loop k.size 0 w (by omega) (λj hj=>by omega) hs⟩
theorem Ael(hs:Ab W w L):Calls PR 77 #[] w λe w'=>∃b,e = .returned (pq b 0)/\Ab W w' (tabR b []::L):=by
 refine(cw ⟨mixed,Tryz.func77,rfl⟩ Av0 (Q:=λv w'=>∃b,v=pq b 0/\Ab W w' (tabR b []::L)) ?_).mono λe w' ⟨v,he,b,hv,hs⟩=>⟨b,by rw[he,hv],hs⟩;refine(Ah4 hs).mono λe w ⟨xb,he,hs⟩=>⟨_,he,?_⟩
 repeat (first|((with_reducible refine CC ?_);first|refine Ai hs λb_ w hs=>?_|fail)|fail)
 exact⟨_,rfl,DH (xb:=xb) ⟨by simp[BQ,DP],by simp,by simp⟩ hs⟩
set_option maxRecDepth 100000 in
theorem VC(h:Ab W w L)[hA:At L b (tabR b r) F](hm:r.length<800000000):Calls PR 89 #[pq b 0,.s k,.s v,.i now,.i life] w λe w'=>e = .returned (.tuple #[.b (L8 r k v now life),.i (Fe k v now life)])/\Ab W w' (F (tabR b (F5 r k v now life))):=by
 refine At.call1 (hA:=hA) h λM hs=>?_;clear h hA;refine c1 (cw ⟨mixed,Tryz.func89,rfl⟩ Awc ?_);refine Ac rfl ?_;have bad:∀(e:Int),e≠0->Fe k v now life=e->L8 r k v now life=false/\F5 r k v now life=r:=λe he h=>by
  unfold L8 F5;rw[h,if_neg he,decide_eq_false he];exact⟨rfl,rfl⟩
 refine Am (Ad6 hs) λe w ⟨he,hs⟩=>⟨_,he,?_⟩;refine Ap (λh1=>?_) (λh1=>?_)
 ·have h1:E4 k=false:=by simpa using h1
  have e1:Fe k v now life=2:=if_pos h1;obtain⟨b1,b2⟩:=bad 2 (by omega) e1;rw[b1,b2,e1];exact⟨rfl,hs⟩
 have h1:¬E4 k=false:=by simpa using h1
 with_reducible refine Di (λh2=>?_) (λh2=>?_)
 ·have e1:Fe k v now life=3:=by unfold Fe;rw[if_neg h1,if_pos (by omega)]
  obtain⟨b1,b2⟩:=bad 3 (by omega) e1;rw[b1,b2,e1];exact⟨rfl,hs⟩
 have e1:Fe k v now life=if now<0\/1125899906842624<now\/life<0\/1099511627776<life then 1 else 0:=by unfold Fe;rw[if_neg h1,if_neg (by omega)]
 have one:(now<0\/1125899906842624<now\/life<0\/1099511627776<life)->(Value.tuple #[.b false,.i 1] = .tuple #[.b (L8 r k v now life),.i (Fe k v now life)])/\Ab W w (tabR b (F5 r k v now life)::M):=by
  intro h;rw[if_pos h] at e1;obtain⟨b1,b2⟩:=bad 1 (by omega) e1;rw[b1,b2,e1];exact⟨rfl,hs⟩
 with_reducible refine Di (λh3=>?_) (λh3=>?_)
 ·exact one (.inl h3)
 with_reducible refine Di (λh4=>?_) (λh4=>?_)
 ·exact one (.inr (.inl h4))
 with_reducible refine Di (λh5=>?_) (λh5=>?_)
 ·exact one (.inr (.inr (.inl h5)))
 with_reducible refine Di (λh6=>?_) (λh6=>?_)
 ·exact one (.inr (.inr (.inr h6)))
 rw[if_neg (by omega)] at e1;have hkz:=Dg (s:=k) (by simpa using h1);have hok:=(Fv hs);obtain⟨xb,hi,hs⟩:=hok;have hput:=hi.put k v now life;have e2:F5 r k v now life=Ho r k (v,FK now life):=if_pos e1;have e3:L8 r k v now life=(AE r k).isNone:=by unfold L8;rw[e1];rfl
 rw[e2] at hput ⊢;rw[e3,e1];refine jw Aaj ?_;have j2:∀(vb:Nat)(w:World),Ab W w (blk vb [.s v,.i (FK now life)]::blk b [pq xb 0]::ixr Rec.si xb 0 r::M)->Aak Be (λv' w'=>v' = .tuple #[.b (AE r k).isNone,.i 0]/\Ab W w' (tabR b (Ho r k (v,FK now life))::M)) (some ⟨b,0,none⟩) k vb 0 w:=by
  intro vb w hs;refine jw Aal ?_
  repeat (first|with_reducible refine Aa ?_|((with_reducible refine A2 ?_);first|refine Ah hs ?_|fail)|((with_reducible refine BY ?_);first|refine Aq ?_|fail)|((with_reducible refine Bf ?_);first|refine AW hs ?_|fail)|((with_reducible refine DQ ?_);first|refine A9 hs λw hs=>?_|fail)|fail)
  refine Am (Ah5 (v:=(v,FK now life)) hs (by omega) hi.small (by omega)) λe w ⟨he,hs⟩=>⟨_,he,?_⟩;have hs:Ab W w (ixr Rec.si xb 0 (Cj r k (v,FK now life))::blk b [pq xb 0]::M):=by exact Ab.fin hs
  have hs:=Aoe (IX (v:=(v,FK now life)) hi.rise).symm hs;exact⟨rfl,DH hput (by exact Ab.fin hs)⟩
 unfold FK at j2 ⊢
 repeat (first|((with_reducible refine Bm ?_);first|refine A4 hs λw hs=>?_|fail)|((with_reducible refine CC ?_);first|refine Ai hs λb_ w hs=>?_|fail)|fail)
 with_reducible refine Di (λh7=>?_) (λh7=>?_)
 ·repeat (first|((with_reducible refine Bm ?_);first|refine A4 hs λw hs=>?_|fail)|fail)
  rw[i64_in _ (by omega)] at hs;rw[if_pos h7] at j2 ⊢;exact j2 _ w hs
 ·rw[if_neg h7] at j2 ⊢;exact j2 _ w hs
theorem Ad9(hs:Ab W w L){e0:Int}:Calls PR 121 #[.agg #[.s v,.i e0],.i now] w λe w'=>e = .returned (.b (ID e0 now))/\Ab W w' L:=by
 refine c1 (cw ⟨mixed,Tryz.func121,rfl⟩ Ajd ?_)
 repeat (first|((with_reducible refine A2 ?_);first|refine Ah hs ?_|fail)|((with_reducible refine CC ?_);first|refine Ai hs λb_ w hs=>?_|fail)|fail)
 with_reducible refine Awt (λh1=>?_) (λh1=>?_)
 ·repeat (first|((with_reducible refine A2 ?_);first|refine Ah hs ?_|fail)|fail)
  refine⟨?_,by exact Ab.fin hs⟩;congr 1;unfold ID;rw[Bool.eq_iff_iff,decide_eq_true_eq,decide_eq_true_eq];constructor
  ·intro h;exact⟨h1,h⟩
  ·intro h;exact h.2
 ·refine⟨?_,by exact Ab.fin hs⟩;congr 1;symm;unfold ID;rw[decide_eq_false_iff_not];omega
theorem Aej(h:Ab W w L)[hA:At L b (tabR b r) F](hz:k.size<4611686018427387904):Calls PR 85 #[pq b 0,.s k,.i now] w λe w'=>e = .returned (.tuple #[.s (EB r k now).1,.b (EB r k now).2])/\Ab W w' (F (tabR b r)):=by
 refine At.call1 (hA:=hA) h λM hs=>?_;clear h hA;refine c1 (cw ⟨mixed,Tryz.func85,rfl⟩ Av8 ?_);obtain⟨xb,hi,hs⟩:=Fv hs;refine Ac rfl ?_
 repeat (first|with_reducible refine Aa ?_|((with_reducible refine A2 ?_);first|refine Ah hs ?_|fail)|fail)
 refine(Jg hs hz).mono λe w ⟨he,hs⟩=>⟨_,_,_,he,?_⟩
 repeat (first|((with_reducible refine Bm ?_);first|refine A4 hs λw hs=>?_|fail)|((with_reducible refine CC ?_);first|refine Ai hs λb_ w hs=>?_|fail)|fail)
 unfold EB;cases hg:AE r k with
 | none=>
  rw[hg] at hs;exact Ak rfl ⟨rfl,DH hi (by exact Ab.fin hs)⟩
 | some x=>
  rw[hg] at hs;refine Ac rfl ?_;simp only[Option.getD_some] at hs
  repeat (first|((with_reducible refine A2 ?_);first|refine Ah hs ?_|fail)|fail)
  refine Am (Ad9 hs) λe w ⟨he,hs⟩=>⟨_,he,?_⟩;refine Ap (λh1=>?_) (λh1=>?_)
  ·simp only[h1,if_true];exact⟨rfl,DH hi (by exact Ab.fin hs)⟩
  ·repeat (first|((with_reducible refine A2 ?_);first|refine Ah hs ?_|fail)|fail)
   simp only[h1,Bool.false_eq_true,if_false];exact⟨trivial,DH hi (by exact Ab.fin hs)⟩
theorem Aek(h:Ab W w L)[hA:At L b (tabR b r) F](hz:k.size<4611686018427387904):Calls PR 90 #[pq b 0,.s k] w λe w'=>e = .returned (.b (AE r k).isSome)/\Ab W w' (F (tabR b r)):=by
 refine At.call1 (hA:=hA) h λM hs=>?_;clear h hA;refine c1 (cw ⟨mixed,Tryz.func90,rfl⟩ Awd ?_);obtain⟨xb,hi,hs⟩:=Fv hs;refine Ac rfl ?_
 repeat (first|with_reducible refine Aa ?_|((with_reducible refine A2 ?_);first|refine Ah hs ?_|fail)|fail)
 refine(Jg hs hz).mono λe w ⟨he,hs⟩=>⟨_,_,_,he,?_⟩
 repeat (first|((with_reducible refine Bm ?_);first|refine A4 hs λw hs=>?_|fail)|((with_reducible refine CC ?_);first|refine Ai hs λb_ w hs=>?_|fail)|fail)
 exact⟨rfl,DH hi (by exact Ab.fin hs)⟩
theorem QL(h:Ab W w L)[hA:At L b (tabR b r) F](hz:k.size<4611686018427387904)(hm:r.length<800000000):Calls PR 96 #[pq b 0,.s k] w λe w'=>e = .returned (.b (AE r k).isSome)/\Ab W w' (F (tabR b (Ew r k))):=by
 refine At.call1 (hA:=hA) h λM hs=>?_;clear h hA;refine c1 (cw ⟨mixed,Tryz.func96,rfl⟩ Awj ?_);obtain⟨xb,hi,hs⟩:=Fv hs;refine Ac rfl ?_
 repeat (first|with_reducible refine Aa ?_|((with_reducible refine A2 ?_);first|refine Ah hs ?_|fail)|fail)
 refine(VE hs hz (by omega)).mono λe w ⟨he,hs⟩=>⟨_,_,_,he,?_⟩
 repeat (first|((with_reducible refine Bm ?_);first|refine A4 hs λw hs=>?_|fail)|((with_reducible refine CC ?_);first|refine Ai hs λb_ w hs=>?_|fail)|fail)
 rw[<- Fk hi.rise] at hs;exact⟨rfl,DH (hi.del k) (by exact Ab.fin hs)⟩
theorem YY(h:Ab W w L)[hA:At L b (tabR b r) F](hm:r.length<800000000):Calls PR 41 #[pq b 0] w λe w'=>∃l:Sl,e = .returned (.l l.a l.n l.c)/\Ab W w' (recs Rec.str l (r.map (·.1))::F (tabR b r)):=by
 refine At.oneX (hA:=hA) h λM hs hb=>?_;refine(cw ⟨mixed,Tryz.func41,rfl⟩ Au7 (Q:=λv w'=>∃l:Sl,v = .l l.a l.n l.c/\Ab W w' (tabR b r::recs Rec.str l (r.map (·.1))::M)) ?_).mono λe w' ⟨v,he,l,hv,hs⟩=>⟨l,by rw[he,hv],?_⟩
 ·skip;obtain⟨xb,hi,hs⟩:=Fv hs;refine Ac rfl ?_
  repeat (first|with_reducible refine Aa ?_|((with_reducible refine A2 ?_);first|refine Ah hs ?_|fail)|fail)
  refine(Abz hs (by omega)).mono λe w ⟨l,he,hs⟩=>⟨_,he,?_⟩;rw[Abo hi.rise] at hs;exact⟨l,rfl,DH hi (by exact Ab.fin hs)⟩
 ·exact hb _ _ [recs Rec.str l (r.map (·.1))] hs
theorem Ax3(h:Ab W w L)[hA:At L b (tabR b r) F]:Calls PR 40 #[pq b 0] w λe w'=>e = .returned (.i (r.length:Int))/\Ab W w' (F (tabR b r)):=by
 refine At.call1 (hA:=hA) h λM hs=>?_;clear h hA;refine c1 (cw ⟨mixed,Tryz.func40,rfl⟩ Au6 ?_);obtain⟨xb,hi,hs⟩:=Fv hs;refine Ac rfl ?_
 repeat (first|with_reducible refine Aa ?_|((with_reducible refine A2 ?_);first|refine Ah hs ?_|fail)|fail)
 refine Am (Ah3 hs) λe w ⟨he,hs⟩=>⟨_,he,?_⟩;exact⟨rfl,DH hi (by exact Ab.fin hs)⟩
theorem A2l(h:Ab W w L)[hA:At L b (tabR b r) F]:Jy r:=At.one (hA:=hA) h λM hs _=>by
 obtain⟨xb,hi,hs⟩:=Fv hs;exact hi
theorem Ao0{r:TT}(h:Jy r){i:Nat}(hi:i<r.length):AE r (r.getD i default).1=some (r.getD i default).2:=by
 rw[Bz h.rise.nodup];rw[List.getD_eq_getElem?_getD,List.getElem?_eq_getElem hi];exact List.getElem_mem hi
theorem Aht{r:TT}{i:Nat}(hi:i<r.length):Cm (r.take (i+1)) now=Cm (r.take i) now++(if ID (r.getD i default).2.2 now then [(r.getD i default).1] else []):=by
 unfold Cm;rw[Cc hi,List.filter_append,List.map_append];congr 1;rw[List.filter_cons];split <;> rfl
theorem Ap6(r:TT)(i:Nat):(Cm (r.take i) now).length<=i:=by
 unfold Cm;rw[List.length_map];exact Nat.le_trans (List.length_filter_le _ _) (by simp;omega)
theorem Ax2(h:Ab W w L)[hA:At L b (tabR b r) F](hm:r.length<800000000):Calls PR 98 #[pq b 0,.i now] w λe w'=>∃l:Sl,e = .returned (.l l.a l.n l.c)/\Ab W w' (recs Rec.str l (Cm r now)::F (tabR b r)):=by
 refine At.oneX (hA:=hA) h λM hs hb=>?_;refine(cw ⟨mixed,Tryz.func98,rfl⟩ Awl (Q:=λv w'=>∃l:Sl,v = .l l.a l.n l.c/\Ab W w' (tabR b r::recs Rec.str l (Cm r now)::M)) ?_).mono λe w' ⟨v,he,l,hv,hs⟩=>⟨l,by rw[he,hv],?_⟩
 ·skip;refine(YY hs hm).mono λe w ⟨ks,he,hs⟩=>⟨_,he,?_⟩;have hn:=Bg (s:=ks) hs;rw[List.length_map] at hn;have hi:=A2l (b:=b) (r:=r) hs;have hs:=Ab.nilR Rec.str hs;have loop:∀(f i:Nat)(w:World)(acc:Sl),i+f=r.length->Ab W w (recs Rec.str acc (Cm (r.take i) now)::recs Rec.str ks (r.map (·.1))::tabR b r::M) ->
    P5 Be (λv w'=>∃l:Sl,v = .l l.a l.n l.c/\Ab W w' (tabR b r::recs Rec.str l (Cm r now)::M)) (f+1) (some ⟨b,0,none⟩) now acc ks (ks.n:Int) (i:Int) w:=by
   intro f
   induction f with
   | zero=>
    intro i w acc hif hs;rw[P7];refine Ac (decide_eq_false (by omega)) ?_;refine jw Aaq ?_;rw[List.take_of_length_le (by omega)] at hs;exact⟨acc,rfl,by exact Ab.fin hs⟩
   | succ f ih=>
    intro i w acc hif hs;rw[P7];refine Ak (decide_eq_true (by omega)) ?_;have hlk:(r.map (·.1)).length=r.length:=by simp
    repeat (first|with_reducible refine Aa ?_|((with_reducible refine A2 ?_);first|refine Ck hs ?_|fail)|((with_reducible refine BC ?_);first|refine BF hs λb_ o_ hs=>?_|fail)|fail)
    rw[Int.toNat_natCast];have hk:(r.map (·.1)).getD i default=(r.getD i default).1:=by
     rw[List.getD_eq_getElem?_getD,List.getD_eq_getElem?_getD,List.getElem?_map,List.getElem?_eq_getElem (by omega)];rfl
    rw[hk];have hmem:r.getD i default∈r:=by rw[List.getD_eq_getElem?_getD,List.getElem?_eq_getElem (by omega)];exact List.getElem_mem _
    have hsz:=hi.small _ hmem;have hg:=Ao0 hi (i:=i) (by omega);have JV:=Ap6 (now:=now) r i;have hds:=Aht (now:=now) (r:=r) (i:=i) (by omega);have hs:Ab W w (tabR b r::recs Rec.str acc (Cm (r.take i) now)::recs Rec.str ks (r.map (·.1))::M):=by exact Ab.fin hs
    obtain⟨xb,_,hs⟩:=Fv hs
    repeat (first|((with_reducible refine A2 ?_);first|refine Ah hs ?_|fail)|fail)
    refine(Jg hs hsz).mono λe w ⟨he,hs⟩=>⟨_,_,_,he,?_⟩
    repeat (first|((with_reducible refine A2 ?_);first|refine Ah hs ?_|fail)|((with_reducible refine Bm ?_);first|refine A4 hs λw hs=>?_|fail)|((with_reducible refine CC ?_);first|refine Ai hs λb_ w hs=>?_|fail)|fail)
    refine Am (Ad9 hs) λe w ⟨he,hs⟩=>⟨_,he,?_⟩;rw[hg,Option.getD_some];refine Ap (λh1=>?_) (λh1=>?_)
    ·repeat (first|((with_reducible refine CC ?_);first|refine Ai hs λb_ w hs=>?_|fail)|fail)
     refine CA (s:=acc) (a:=(r.getD i default).1) hs rfl rfl rfl rfl (by decide) (by omega) λs4 w hs4 hs=>?_;rw[i64_in _ (by omega)];refine ih (i+1) w s4 (by omega) ?_;rw[hds,h1];have hs:=DH (b:=b) (r:=r) (xb:=xb) (M:=recs Rec.str s4 (Cm (r.take i) now++[(r.getD i default).1])::recs Rec.str ks (r.map (·.1))::M) hi (by exact Ab.fin hs);exact Ab.fin hs
    ·rw[i64_in _ (by omega)];refine ih (i+1) w acc (by omega) ?_;rw[hds,h1];have hs:=DH (b:=b) (r:=r) (xb:=xb) (M:=recs Rec.str acc (Cm (r.take i) now)::recs Rec.str ks (r.map (·.1))::M) hi (by exact Ab.fin hs);simp only[Bool.false_eq_true,if_false,List.append_nil];exact Ab.fin hs
  refine⟨r.length+1,?_⟩;exact loop r.length 0 w ⟨none,0,0⟩ (by omega) hs
 ·exact hb _ _ [recs Rec.str l (Cm r now)] hs
end
end Go.Proofs.YtjipofkjmmpjdaaGreat
namespace Go.Hb
def kT(T:TT):BL:=T.map (·.1)
def AB(T:TT)(g:BL):TT:=g.foldl Ew T
section
variable{T:TT}{k x:BA}{v:BA×Int}{g:BL}{now:Int}
theorem Aaw:k∉kT T↔AE T k=none:=by
 rw[Bu];unfold kT;rw[List.mem_map];constructor
 ·intro h e he hk;exact h ⟨e,he,hk⟩
 ·rintro h ⟨e,he,hk⟩;exact h e he hk
theorem FS:k∈kT T↔(AE T k).isSome=true:=by
 by_cases hk:k∈kT T
 ·refine⟨λ_=>?_,λ_=>hk⟩;cases hg:AE T k with
  | none=>exact absurd hk (Aaw.2 hg)
  | some v=>rfl
 ·rw[Aaw.1 hk];exact⟨λh=>absurd h hk,λh=>by cases h⟩
theorem OG(h:BQ T):AE (Ew T k) x=if k=x then none else AE T x:=by rw[Fk h,T5]
theorem OH(h:BQ T):AE (Ho T k v) x=if k=x then some v else AE T x:=by
 have hn:((Ho T k v).map (·.1)).Nodup:=(Hp h).nodup;rw[Agv hn (IX h),T6]
theorem Aof(h:BQ T):x∈kT (Ew T k)↔x∈kT T/\x≠k:=by
 rw[FS,FS,OG h]
 by_cases hx:k=x
 ·subst hx;simp
 ·rw[if_neg hx];exact⟨λh=>⟨h,λe=>hx e.symm⟩,λh=>h.1⟩
theorem Aax(h:BQ T):x∈kT (Ho T k v)↔x∈kT T\/x=k:=by
 rw[FS,FS,OH h]
 by_cases hx:k=x
 ·subst hx;simp
 ·rw[if_neg hx];exact⟨.inl,λh=>h.elim id λe=>absurd e.symm hx⟩
theorem CH:∀{g:BL}{T:TT},Jy T->Jy (AB T g)
 | [],T,h=>h
 | k::g,T,h=>CH (g:=g) (h.del k)
theorem J0:∀{g:BL}{T:TT},Jy T->(AB T g).length<=T.length
 | [],T,h=>Nat.le_refl _
 | k::g,T,h=>Nat.le_trans (J0 (g:=g) (h.del k)) (KM h k)
theorem EU:∀{g:BL}{T:TT},BQ T->(x∈g->AE (AB T g) x=none)/\(x∉g->AE (AB T g) x=AE T x)
 | [],T,h=>⟨by simp,λ_=>rfl⟩
 | k::g,T,h=>by
  obtain⟨h1,h2⟩:=EU (g:=g) (T:=Ew T k) (L5 h);have e:AB T (k::g)=AB (Ew T k) g:=rfl;rw[e];refine⟨λhx=>?_,λhx=>?_⟩
  ·by_cases hg:x∈g
   ·exact h1 hg
   ·rw[h2 hg,OG h,if_pos];rcases List.mem_cons.1 hx with hx|hx
    ·exact hx.symm
    ·exact absurd hx hg
  ·rw[List.mem_cons,not_or] at hx;rw[h2 hx.2,OG h,if_neg λe=>hx.1 e.symm]
theorem EV(h:BQ T):x∈kT (AB T g)↔x∈kT T/\x∉g:=by
 obtain⟨h1,h2⟩:=EU (x:=x) (g:=g) h;rw[FS,FS];constructor
 ·intro hx;have hg:x∉g:=λhg=>by rw[h1 hg] at hx;cases hx
  exact⟨by rw[h2 hg] at hx;exact hx,hg⟩
 ·rintro⟨hx,hg⟩;rw[h2 hg];exact hx
theorem H1{P:BA->Prop}:∀{g:BL}{T:TT},BQ T->(∀e∈T,P e.1)->∀e∈AB T g,P e.1
 | [],T,_,h=>h
 | k::g,T,hr,h=>H1 (g:=g) (L5 hr) λe he=>by
  rw[Fk hr] at he;exact I5 h e he
theorem Ge{T S:TT}(h:AE T k=AE S k):EB T k now=EB S k now:=by unfold EB;rw[h]
def tOv(T:TT)(k:BA)(now:Int):Bool:=(AE T k).isSome && !(EB T k now).2
def Cb(T:TT)(k:BA)(now:Int):TT:=if tOv T k now then Ew T k else T
def CL(T:TT)(k:BA)(now:Int):BL:=if tOv T k now then [k] else []
theorem IZ(T:TT)(k:BA)(now:Int):Cb T k now=AB T (CL T k now):=by unfold Cb CL;split <;> rfl
theorem Ahk(h:Jy T):Jy (Cb T k now):=by rw[IZ];exact CH h
theorem Ahj(h:BQ T):EB (Cb T k now) k now=EB T k now:=by
 unfold Cb;split
 ·rename_i h2;unfold tOv at h2;rw[Bool.and_eq_true,Bool.not_eq_true'] at h2;have e1:AE (Ew T k) k=none:=by rw[OG h,if_pos rfl]
  have e2:EB (Ew T k) k now=(⟨#[]⟩,false):=by unfold EB;rw[e1]
  rw[e2];have h3:=h2.2;unfold EB at h3 ⊢;cases hg:AE T k with
  | none=>rfl
  | some v=>
   rw[hg] at h3;dsimp only at h3 ⊢;split
   ·rfl
   ·rename_i h4;rw[if_neg h4] at h3;cases h3
 ·rfl
end
def TG(c:Int):BL->List Ev->BL->Prop
 | R,[],K=>∀x,x∈R↔x∈K
 | R,e::l,K=>e.2.size<64/\∃R',Zh c R e R'/\TG c R' l K
section
variable{c:Int}{R S K K':BL}{e:Ev}{l:List Ev}{T:TT}{key:BA}
theorem Zh.congr(h:∀x,x∈R↔x∈S)(hs:Zh c R e K):Zh c S e K:=by
 refine⟨hs.1,λx=>?_⟩;rw[hs.2];split
 ·rw[h]
 ·split
  ·rw[h]
  ·exact h x
theorem TG.left(h:∀x,x∈R↔x∈S)(hs:TG c R l K):TG c S l K:=by
 cases l with
 | nil=>exact λx=>by rw[<- h];exact hs x
 | cons e l=>
  obtain⟨hz,R',h1,h2⟩:=hs;exact⟨hz,R',h1.congr h,h2⟩
theorem TG.right(h:∀x,x∈K↔x∈K'):∀{l:List Ev}{R:BL},TG c R l K->TG c R l K'
 | [],R,hs=>λx=>by rw[<- h];exact hs x
 | e::l,R,⟨hz,R',h1,h2⟩=>⟨hz,R',h1,TG.right h h2⟩
theorem TG.snoc(hz:e.2.size<64)(he:Zh c K e K'):∀{l:List Ev}{R:BL},TG c R l K->TG c R (l++[e]) K'
 | [],R,hs=>⟨hz,K',he.congr λx=>(hs x).symm,λ_=>Iff.rfl⟩
 | _::l,R,⟨hz2,R',h1,h2⟩=>⟨hz2,R',h1,TG.snoc hz he h2⟩
theorem Adx(ht:BQ T)(hz:∀e∈T,e.1.size<=40)(hl:(T.length:Int)<=c)(h1:1<=c)(h2:c<=1024):Dl c (kT T):=
 ⟨ht.nodup,λk hk=>by
  obtain⟨e,he,rfl⟩:=List.mem_map.1 hk;have:=hz e he;omega,by unfold kT;rw[List.length_map];exact hl,h1,h2⟩
theorem Zh.del(ht:Jy T)(hz:∀e∈T,e.1.size<=40)(hl:(T.length:Int)<=c)(h1:1<=c)(h2:c<=1024):Zh c (kT T) ((3:Int),key) (kT (Ew T key)):=
 ⟨Adx (ht.del key).rise (λe he=>by rw[Fk ht.rise] at he;exact I5 (P:=λk=>k.size<=40) hz e he) (by have:=KM ht key;omega) h1 h2,λx=>by
  rw[Aof ht.rise];simp⟩
theorem JK{v:BA×Int}(hr:BQ T)(hz:∀e∈T,e.1.size<=40)(hk:key.size<=40):∀e∈Ho T key v,e.1.size<=40:=λe he=>by
 rcases I9 hr he with h|h
 ·exact hz e h
 ·subst h;exact hk
theorem Zh.put{v:BA×Int}(ht:Jy T)(hz:∀e∈T,e.1.size<=40)(hk:key.size<=40)(hl:((Ho T key v).length:Int)<=c)(h1:1<=c)(h2:c<=1024):Zh c (kT T) ((2:Int),key) (kT (Ho T key v)):=
 ⟨Adx (Hp ht.rise) (JK ht.rise hz hk) hl h1 h2,λx=>by rw[Aax ht.rise];simp⟩
theorem Ag7{v:BA×Int}(ht:Jy T):(Ho T key v).length=T.length+(if key∈kT T then 0 else 1):=by
 have hp:=(IX (v:=v) (k:=key) ht.rise).length_eq;rw[hp];unfold Cj;cases hg:AE T key with
 | none=>
  have:key∉kT T:=Aaw.2 hg;rw[if_neg this];simp
 | some u=>
  have:key∈kT T:=FS.2 (by rw[hg];rfl);rw[if_pos this];unfold E5;simp
end
end Go.Hb
namespace Go.Hb
abbrev cD(b tb fb mb:Nat)(x0 x1 x2 x3 x4 x5:Int)(s:Sl):HP:=blk b [pq tb 0,pq fb 0,pq mb 0,.i x0,.i x1,.i x2,.i x3,.i x4,.i x5,.l s.a s.n s.c]
structure Ah8(x0 x1 x2 x3 x4 x5:Int):Prop where
 h0:0<=x0
 h1:0<=x1
 h2:0<=x2
 h3:0<=x3
 h4:0<=x4
 h5:0<=x5
structure MV(c:Int)(n:Nat)(T:TT)(l:List Ev)(R:BL)(evs:List Ev):Prop where
 tok:Jy T
 small:∀e∈T,e.1.size<=40
 len:(T.length:Int)<=c
 n:evs.length<=n
 sim:TG c R l (kT T)
def ON(b:Nat)(c:Int)(T:TT)(l:List Ev)(kd:Int)(o:Option Nat)(R:BL)(evs:List Ev):HP:=JU λ(z:(Nat×Nat×Nat×Sl)×(Int×Int×Int×Int×Int×Int))=>ED (Ah8 z.2.1 z.2.2.1 z.2.2.2.1 z.2.2.2.2.1 z.2.2.2.2.2.1 z.2.2.2.2.2.2)
 (AF [cD b z.1.1 z.1.2.1 z.1.2.2.1 z.2.1 z.2.2.1 z.2.2.2.1 z.2.2.2.2.1 z.2.2.2.2.2.1 z.2.2.2.2.2.2 z.1.2.2.2,tabR z.1.1 T,fd z.1.2.1 l,EC z.1.2.2.1 kd c R o,recs Fg z.1.2.2.2 evs])
def sd(b:Nat)(c:Int)(n:Nat)(T:TT)(kd:Int)(o:Option Nat):HP:=JU λ(z:List Ev×BL×List Ev)=>ED (MV c n T z.1 z.2.1 z.2.2) (ON b c T z.1 kd o z.2.1 z.2.2)
section
variable{W w:World}{M L:List HP}{b:Nat}{c:Int}{T:TT}{l evs:List Ev}{kd:Int}{o:Option Nat}{R:BL}{n:Nat}
theorem BI(h:Ab W w (ON b c T l kd o R evs::M)):∃(tb fb mb:Nat) (s:Sl) (x0 x1 x2 x3 x4 x5:Int),Ah8 x0 x1 x2 x3 x4 x5/\Ab W w (cD b tb fb mb x0 x1 x2 x3 x4 x5 s::tabR tb T::fd fb l::EC mb kd c R o::recs Fg s evs::M):=by
 obtain⟨⟨⟨tb,fb,mb,s⟩,⟨x0,x1,x2,x3,x4,x5⟩⟩,h⟩:=h.openE;obtain⟨hp,h⟩:=h.openA;exact⟨tb,fb,mb,s,x0,x1,x2,x3,x4,x5,hp,h.openL⟩
theorem Bd{tb fb mb:Nat}{s:Sl}{x0 x1 x2 x3 x4 x5:Int}(hc:Ah8 x0 x1 x2 x3 x4 x5)(h:Ab W w (cD b tb fb mb x0 x1 x2 x3 x4 x5 s::tabR tb T::fd fb l::EC mb kd c R o::recs Fg s evs::M)):Ab W w (ON b c T l kd o R evs::M):=
 Ab.shutE ((tb,fb,mb,s),(x0,x1,x2,x3,x4,x5)) (Ab.shutA hc (Ab.shutL (Ps:=[_,_,_,_,_]) h))
theorem Ep(h:Ab W w (ON b c T l kd o R evs::M)):Dl c R/\(0<=kd/\kd<5)/\∀n,o=some n->n<=R.length:=by
 obtain⟨tb,fb,mb,s,x0,x1,x2,x3,x4,x5,_,hs⟩:=BI h;have hs:Ab W w (EC mb kd c R o::M):=by exact Ab.fin hs
 exact⟨ML hs,Ayw hs,λn h=>Axe hs h⟩
theorem CP(h:Ab W w (sd b c n T kd o::M)):∃(l:List Ev) (R:BL) (evs:List Ev),MV c n T l R evs/\Ab W w (ON b c T l kd o R evs::M):=by
 obtain⟨⟨l,R,evs⟩,h⟩:=h.openE;obtain⟨hp,h⟩:=h.openA;exact⟨l,R,evs,hp,h⟩
theorem Cg(hi:MV c n T l R evs)(h:Ab W w (ON b c T l kd o R evs::M)):Ab W w (sd b c n T kd o::M):=Ab.shutE (l,R,evs) (Ab.shutA hi h)
instance:OkR Fg:=⟨λ_=>rfl⟩
theorem FF{a b:Int}(h:0<=a):0<=Go.Proofs.YtjipofkjmmpjdaaGreat.EE a b:=by unfold Go.Proofs.YtjipofkjmmpjdaaGreat.EE;split <;> omega
theorem Jj.trans{a b c:Option Nat}(h1:Jj a b)(h2:Jj b c):Jj a c:=by
 cases a <;> cases b <;> cases c <;> simp[Jj] at * <;> omega
def wrF(l:List Ev):List Ev:=l.filter λe=>decide (e.1≠1)
end
end Go.Hb
namespace Go.Proofs.YtjipofkjmmpjdaaGreat
open Go.Hb Go.IntWalk
section
variable{W w:World}{L M:List HP}{b:Nat}{c:Int}{T:TT}{l evs:List Ev}{kd:Int}{o:Option Nat}{R:BL}{n:Nat}{key val:BA}{now life:Int}
theorem GV{i:Nat}{cs:List Value}{x:Int}(hs:Ab W w (blk b cs::L))(hc:cs[i]? = some (.i x))(hx:0<=x):Calls PR 84 #[pq b i] w λe w'=>e = .returned (.tuple #[])/\Ab W w' (blk b (cs.set i (.i (EE x 1099511627776)))::L):=by
 refine c1 (cw ⟨mixed,Tryz.func84,rfl⟩ Av7 ?_);refine Aa (Ah hs ?_ (hc:=hc));refine Am (Iw hs (by omega) (by omega)) λe w ⟨he,hs⟩=>⟨_,he,?_⟩;have hlt:i<cs.length:=(List.getElem?_eq_some_iff.1 hc).1;exact Aa (HY 0 hs rfl hlt λw hs=>⟨rfl,hs⟩)
theorem OQ{sg:Sl}{g:BL}(ht:Jy T)(hl:T.length<1000000)(hg:g.length<1000000)(hz:∀x∈g,x.size<64)(hs:Ab W w (ON b c T l kd o R evs::recs Rec.str sg g::M)) :
  AZ PR 95 #[pq b 0,.l sg.a sg.n sg.c] w λv w'=>v = .tuple #[]/\Ab W w' (ON b c (AB T g) l kd o R evs::recs Rec.str sg g::M):=by
 refine cw ⟨mixed,Tryz.func95,rfl⟩ Awi ?_;have hn:=Bg (s:=sg) (E:=Rec.str) (rows:=g) hs;have loop:∀(f i:Nat)(w:World),i+f=g.length->Ab W w (ON b c (AB T (g.take i)) l kd o R evs::recs Rec.str sg g::M) ->
   P3 Be (λv w'=>v = .tuple #[]/\Ab W w' (ON b c (AB T g) l kd o R evs::recs Rec.str sg g::M)) (f+1) (some ⟨b,0,none⟩) sg (sg.n:Int) (i:Int) w:=by
  clear hs;intro f
  induction f with
  | zero=>
   intro i w hi hs;rw[P4];refine Ac (decide_eq_false (by omega)) ?_;rw[List.take_of_length_le (by omega)] at hs;exact⟨rfl,hs⟩
  | succ f ih=>
   intro i w hi hs;rw[P4];refine Ak (decide_eq_true (by omega)) ?_;obtain⟨tb,fb,mb,s,x0,x1,x2,x3,x4,x5,hc,hs⟩:=BI hs;refine BU (s:=sg) (E:=Rec.str) (rows:=g) hs λb_ o_ ha_=>?_;refine Cw (s:=sg) (E:=Rec.str) (rows:=g) ha_ hs ?_;rw[Int.toNat_natCast];refine Aa (Ah hs ?_);have ht2:Jy (AB T (g.take i)):=CH ht;have hl2:=J0 (g:=g.take i) ht;have e1:AB T (g.take (i+1))=Ew (AB T (g.take i)) (g.getD i default):=by
    unfold AB;rw[Cc (by omega),List.foldl_append];rfl
   have hz1:=hz _ (GZ (d:=default) (show i<g.length by omega));have hs:Ab W w (tabR tb (AB T (g.take i))::cD b tb fb mb x0 x1 x2 x3 x4 x5 s::fd fb l::EC mb kd c R o::recs Fg s evs::recs Rec.str sg g::M):=by exact Ab.fin hs
   refine Am (QL (k:=g.getD i default) hs (by omega) (by omega)) λe w ⟨he,hs⟩=>⟨_,he,?_⟩;rw[<- e1] at hs;have hs:Ab W w (cD b tb fb mb x0 x1 x2 x3 x4 x5 s::tabR tb (AB T (g.take (i+1)))::fd fb l::EC mb kd c R o::recs Fg s evs::recs Rec.str sg g::M):=by exact Ab.fin hs
   rw[show IntKind.wrap .i64 ((i:Int)+1)=((i+1:Nat):Int) by rw[i64_in _ (by omega)];omega];refine Ap (λ_=>?_) (λ_=>?_)
   ·refine Aa ?_;refine Ar (GV hs rfl hc.h3) λe w ⟨he,hs⟩=>⟨he,?_⟩;exact ih (i+1) w (by omega) (Bd ⟨hc.h0,hc.h1,hc.h2,FF hc.h3,hc.h4,hc.h5⟩ hs)
   ·exact ih (i+1) w (by omega) (Bd hc hs)
 exact AJ _ (loop g.length 0 w (by omega) hs)
theorem FO{K:BL}(ht:Jy T)(hl:T.length<1000000)(hn:evs.length<1000000000000)(hsim:TG c R l K)(hs:Ab W w (ON b c T l kd o R evs::M)) :
  AZ PR 93 #[pq b 0] w λv w'=>∃(m:Int) (S:BL) (o':Option Nat) (evs':List Ev),v = .i m/\(∀x,x∈S↔x∈K)/\Jj o' o/\evs'.length<=evs.length+520/\Ab W w' (ON b c T [] kd o' S evs'::M):=by
 refine cw ⟨mixed,Tryz.func93,rfl⟩ Awg ?_;obtain⟨tb,fb,mb,s,x0,x1,x2,x3,x4,x5,hc,hs⟩:=BI hs;refine Aa (Ah hs ?_);have hs:Ab W w (fd fb l::cD b tb fb mb x0 x1 x2 x3 x4 x5 s::tabR tb T::EC mb kd c R o::recs Fg s evs::M):=by exact Ab.fin hs
 refine Ag (An0 hs) λv w ⟨sl,D,hv,hf,hDz,hDl,hs⟩=>⟨_,hv,?_⟩;have hs:Ab W w (cD b tb fb mb x0 x1 x2 x3 x4 x5 s::tabR tb T::fd fb []::EC mb kd c R o::recs Fg s evs::recs Fg sl D::M):=by exact Ab.fin hs
 have hs:=Bd hc hs;have hsn:=Bg (s:=sl) (E:=Fg) (rows:=D) hs;have hf:wrF D=l:=hf;have loop:∀(f i:Nat)(w:World)(S:BL)(o':Option Nat),i+f=D.length->Jj o' o->TG c S (wrF (D.drop i)) K->Ab W w (ON b c T [] kd o' S evs::recs Fg sl D::M) ->
   UT Be (λv w'=>∃(m:Int) (S:BL) (o':Option Nat) (evs':List Ev),v = .i m/\(∀x,x∈S↔x∈K)/\Jj o' o/\evs'.length<=evs.length+520/\Ab W w' (ON b c T [] kd o' S evs'::M)) (f+1) (some ⟨b,0,none⟩) sl sl (sl.n:Int) (i:Int) w:=by
  clear hs;intro f
  induction f with
  | zero=>
   intro i w S o' hi ho hsim hs;rw[Pz];refine Ac (decide_eq_false (by omega)) ?_;refine jw Aan ?_;rw[List.drop_eq_nil_of_le (by omega)] at hsim;have hm:∀x,x∈S↔x∈K:=hsim;clear hc;obtain⟨tb,fb,mb,s,x0,x1,x2,x3,x4,x5,hc,hs⟩:=BI hs;refine Aa (Ah (x:=s) hs ?_);refine FP (s:=s) (E:=Fg) (new:=D) hs (Gc (s:=sl) hs) (Bg (s:=sl) (E:=Fg) hs) (CV _) rfl (by decide) (by omega) λs2 w hs2 hs=>?_;refine Aa (A4 hs λw hs=>?_);exact⟨_,S,o',evs++D,rfl,hm,ho,by rw[List.length_append];omega,Bd (s:=s2) hc (by exact Ab.fin hs)⟩
  | succ f ih=>
   intro i w S o' hi ho hsim hs;rw[Pz];refine Ak (decide_eq_true (by omega)) ?_;have hil:i<D.length:=by omega
   have hd:D.drop i=D.getD i default::D.drop (i+1):=by
    rw[List.drop_eq_getElem_cons hil,List.getD_eq_getElem?_getD,List.getElem?_eq_getElem hil];rfl
   rw[hd] at hsim;have hz:=hDz _ (GZ (d:=default) hil);have hkS:=(Ep hs).1;refine BU (s:=sl) (E:=Fg) (rows:=D) hs λb_ o_ ha_=>?_;refine Cw (s:=sl) (E:=Fg) (rows:=D) ha_ hs (Vl (s:=sl) (E:=Fg) (rows:=D) ha_ hs ?_ (hc:=rfl)) (hc:=rfl);rw[Int.toNat_natCast];generalize D.getD i default=ev at *;obtain⟨R',hev,hsim2⟩:∃R',Zh c S ev R'/\TG c R' (wrF (D.drop (i+1))) K:=by
    by_cases h1:ev.1=1
    ·have e1:wrF (ev::D.drop (i+1))=wrF (D.drop (i+1)):=by unfold wrF;rw[List.filter_cons_of_neg (by simp[h1])]
     rw[e1] at hsim;exact⟨S,⟨hkS,λx=>by rw[if_neg (by omega),if_neg (by omega)]⟩,hsim⟩
    ·have e1:wrF (ev::D.drop (i+1))=ev::wrF (D.drop (i+1)):=by unfold wrF;rw[List.filter_cons_of_pos (by simp[h1])]
     rw[e1] at hsim;obtain⟨_,R',h2,h3⟩:=hsim;exact⟨R',h2,h3⟩
   clear hc;obtain⟨tb,fb,mb,s,x0,x1,x2,x3,x4,x5,hc,hs⟩:=BI hs;refine Ai hs λnb w hs=>?_;refine A4 hs λw hs=>A4 hs λw hs=>?_;refine Al [cD b tb fb mb x0 x1 x2 x3 x4 x5 s] hs λw hs=>?_;refine Aa (Aq (Ah hs (Ah hs (Af hs ?_))));have hs:Ab W w (EC mb kd c S o'::cD b tb fb mb x0 x1 x2 x3 x4 x5 s::tabR tb T::fd fb []::recs Fg s evs::recs Fg sl D::M):=by exact Ab.fin hs
   refine Ag (Apa hz hev hs) λv w ⟨ge,S2,o2,hv,hm,ho2,hs⟩=>⟨_,hv,?_⟩;have hs:Ab W w (cD b tb fb mb x0 x1 x2 x3 x4 x5 s::tabR tb T::fd fb []::EC mb kd c S2 o2::recs Fg s evs::recs Rec.str ge []::recs Fg sl D::M):=by exact Ab.fin hs
   have hs:=Bd hc hs;refine AY (OQ ht hl (by simp) (by simp) hs) λv w ⟨hv,hs⟩=>⟨hv,?_⟩;have hs:Ab W w (ON b c T [] kd o2 S2 evs::recs Rec.str ge []::recs Fg sl D::M):=hs;rw[show IntKind.wrap .i64 ((i:Int)+1)=((i+1:Nat):Int) by rw[i64_in _ (by omega)];omega]
   exact ih (i+1) w S2 o2 (by omega) (ho2.trans ho) (hsim2.left λx=>(hm x).symm) (by exact Ab.fin hs)
 refine AJ _ (loop D.length 0 w R o (by omega) Jj.refl (by rw[List.drop_zero,hf];exact hsim) hs)
theorem Q9{kk:Int}(hkd:kk=2\/kk=3){K:BL}(ht:Jy T)(hl:T.length<1000000)(hn:evs.length<1000000000000)(hz:key.size<64)(hsim:TG c R l K)(hev:Zh c K (kk,key) (kT T))(hs:Ab W w (ON b c T l kd o R evs::M)) :
  AZ PR 92 #[pq b 0,.i kk,.s key] w λv w'=>v = .tuple #[]/\∃(l':List Ev) (S:BL) (o':Option Nat) (evs':List Ev),evs'.length<=evs.length+520/\TG c S l' (kT T)/\Jj o' o/\Ab W w' (ON b c T l' kd o' S evs'::M):=by
 refine cw ⟨mixed,Tryz.func92,rfl⟩ Awf ?_;obtain⟨tb,fb,mb,s,x0,x1,x2,x3,x4,x5,hc,hs⟩:=BI hs;refine Aa (Ah hs ?_);have hs:Ab W w (fd fb l::cD b tb fb mb x0 x1 x2 x3 x4 x5 s::tabR tb T::EC mb kd c R o::recs Fg s evs::M):=by exact Ab.fin hs
 refine Ag (Yf hkd hz hs) λv w h=>?_;rcases h with⟨hv,hs⟩|⟨_,hv,hs⟩
 ·refine⟨_,hv,Ac rfl ?_⟩;exact⟨rfl,l++[(kk,key)],R,o,evs,by omega,hsim.snoc hz hev,Jj.refl,Bd hc (by exact Ab.fin hs)⟩
 ·refine⟨_,hv,Ak rfl ?_⟩;have hs:Ab W w (ON b c T l kd o R evs::M):=Bd hc (by exact Ab.fin hs);refine Ag (FO ht hl hn hsim hs) λv w ⟨m,S,o',evs',hv,hm,ho,hle,hs⟩=>⟨_,hv,?_⟩;clear hc;obtain⟨tb,fb,mb,s,x0,x1,x2,x3,x4,x5,hc,hs⟩:=BI hs;refine Aa (Ah hs ?_);have hs:Ab W w (fd fb []::cD b tb fb mb x0 x1 x2 x3 x4 x5 s::tabR tb T::EC mb kd c S o'::recs Fg s evs'::M):=by exact Ab.fin hs
  refine Ag (Yf hkd hz hs) λv w h=>?_;rcases h with⟨hv,hs⟩|⟨h1,hv,hs⟩
  ·refine⟨_,hv,rfl,[(kk,key)],S,o',evs',hle,?_,ho,Bd hc (by exact Ab.fin hs)⟩;exact⟨hz,kT T,hev.congr λx=>(hm x).symm,λ_=>Iff.rfl⟩
  ·exact absurd rfl h1
theorem Z0:AB T [key]=Ew T key:=rfl
abbrev sdL(b:Nat)(c:Int)(n:Nat)(T:TT)(kd:Int)(o:Option Nat)(W w:World)(M:List HP):Prop:=∃o',Jj o' o/\Ab W w (sd b c n T kd o'::M)
theorem Acb{tb fb mb:Nat}{s:Sl}{x0 x1 x2 x3 x4 x5:Int}(hi:MV c n T l R evs)(hc:Ah8 x0 x1 x2 x3 x4 x5)(h:tOv T key now=false)(hs:Ab W w (cD b tb fb mb x0 x1 x2 x3 x4 x5 s::tabR tb T::fd fb l::EC mb kd c R o::recs Fg s evs::M)) :
  ∃s:Sl,Value.slice none 0 0 = .l s.a s.n s.c/\sdL b c (n+520) (Cb T key now) kd o W w (recs Rec.str s (CL T key now)::M):=by
 have e1:Cb T key now=T:=by unfold Cb;rw[h];rfl
 have e2:CL T key now=[]:=by unfold CL;rw[h];rfl
 rw[e1,e2];have hnn:=hi.n;have hs:=Cg (n:=n+520) ⟨hi.tok,hi.small,hi.len,by omega,hi.sim⟩ (Bd hc hs);have hs:=Ab.nilR Rec.str hs;exact⟨⟨none,0,0⟩,rfl,o,Jj.refl,by exact Ab.fin hs⟩
theorem Aq3(hi:MV c n T l R evs)(hn:n<900000000000)(hkz:key.size<=40)(hov:tOv T key now=true)(hs:Ab W w (ON b c T l kd o R evs::M)) :
  Anu Be (λv w'=>∃s:Sl,v = .l s.a s.n s.c/\sdL b c (n+520) (Cb T key now) kd o W w' (recs Rec.str s (CL T key now)::M)) (some ⟨b,0,none⟩) key w:=by
 have hkR:=(Ep hs).1;have hc1:=hkR.c1;have hc2:=hkR.c2;have hTl:=hi.len;have hnn:=hi.n
 refine jw Aaf ?_;have e1:Cb T key now=Ew T key:=by unfold Cb;rw[hov];rfl
 have e2:CL T key now=[key]:=by unfold CL;rw[hov];rfl
 rw[e1,e2];refine Ai hs λnb w hs=>?_;have hs:=Ab.blkS (b:=nb) (cs:=[.s key]) (n:=1) Rec.str [key] hs rfl rfl;have hs:Ab W w (ON b c T l kd o R evs::recs Rec.str ⟨some ⟨nb,0,none⟩,1,1⟩ [key]::M):=by exact Ab.fin hs
 refine AY (OQ (sg:=⟨some ⟨nb,0,none⟩,1,1⟩) (g:=[key]) hi.tok (by omega) (by simp) (by simp;omega) hs) λv w ⟨hv,hs⟩=>⟨hv,?_⟩;rw[Z0] at hs;have JV:=KM hi.tok key;have hsm:∀e∈Ew T key,e.1.size<=40:=λe he=>by rw[Fk hi.tok.rise] at he;exact I5 (P:=λk=>k.size<=40) hi.small e he
 have htk:=hi.tok.del key;have hev:=Zh.del (key:=key) hi.tok hi.small hi.len hc1 hc2;have hsi:=hi.sim;generalize Ew T key=T' at *;refine AY (Q9 (.inr rfl) htk (by omega) (by omega) (by omega) hsi hev hs) λv w ⟨hv,l',S,o',evs',hlen,hsim,ho,hs⟩=>⟨hv,?_⟩;refine Ai hs λnb2 w hs=>?_;have hs:=Ab.blkS (b:=nb2) (cs:=[.s key]) (n:=1) Rec.str [key] hs rfl rfl;have hs:Ab W w (ON b c T' l' kd o' S evs'::recs Rec.str ⟨some ⟨nb2,0,none⟩,1,1⟩ [key]::M):=by exact Ab.fin hs
 have hs:=Cg (n:=n+520) ⟨htk,hsm,by omega,by omega,hsim⟩ hs;exact⟨⟨some ⟨nb2,0,none⟩,1,1⟩,rfl,o',ho,hs⟩
theorem OP(hn:n<900000000000)(hkz:key.size<=40)(hs:Ab W w (sd b c n T kd o::M)):AZ PR 83 #[pq b 0,.s key,.i now] w λv w'=>∃s:Sl,v = .l s.a s.n s.c/\sdL b c (n+520) (Cb T key now) kd o W w' (recs Rec.str s (CL T key now)::M):=by
 refine cw ⟨mixed,Tryz.func83,rfl⟩ Av6 ?_;obtain⟨l,R,evs,hi,hs⟩:=CP hs;obtain⟨tb,fb,mb,s,x0,x1,x2,x3,x4,x5,hc,hs⟩:=BI hs;refine Aa (Ah hs ?_);refine AG (Aej (k:=key) (now:=now) hs (by omega)) λe w ⟨he,hs⟩=>⟨_,_,he,?_⟩;refine Ap (λh1=>?_) (λh1=>?_)
 ·exact Acb hi hc (by unfold tOv;rw[h1];simp) hs
 refine Aa (Ah hs ?_);refine Am (Aek (k:=key) hs (by omega)) λe w ⟨he,hs⟩=>⟨_,he,?_⟩;refine Ap (λh2=>?_) (λh2=>?_)
 ·exact Acb hi hc (by unfold tOv;rw[Bool.not_eq_true'] at h2;rw[h2];rfl) hs
 exact Aq3 hi hn hkz (by unfold tOv;rw[h1];simpa using h2) (Bd hc hs)
def Jk(key:BA)(now:Int):Int:=if E4 key=false then 2 else if now<0\/1125899906842624<now then 1 else 0
theorem YR(hs:Ab W w L):AZ PR 97 #[.i now] w λv w'=>v = .b (decide (0<=now/\now<=1125899906842624))/\Ab W w' L:=by
 refine cw ⟨mixed,Tryz.func97,rfl⟩ Awk ?_
 with_reducible refine Ay (λh1=>?_) (λh1=>?_)
 ·refine⟨?_,hs⟩;rw[decide_eq_decide.2 (show now<=1125899906842624↔(0<=now/\now<=1125899906842624) by omega)]
 ·exact⟨by rw[decide_eq_false (by omega)],hs⟩
theorem T7{r:Int}(hs:Ab W w L):AZ PR 74 #[.i r] w λv w'=>v = .b (decide (1<=r/\r<=1024))/\Ab W w' L:=by
 refine cw ⟨mixed,Tryz.func74,rfl⟩ Avx ?_
 with_reducible refine Ay (λh1=>?_) (λh1=>?_)
 ·refine⟨?_,hs⟩;rw[decide_eq_decide.2 (show r<=1024↔(1<=r/\r<=1024) by omega)]
 ·exact⟨by rw[decide_eq_false (by omega)],hs⟩
theorem YQ(hs:Ab W w L):AZ PR 82 #[pq b 0,.s key,.i now] w λv w'=>v = .i (Jk key now)/\Ab W w' L:=by
 refine cw ⟨mixed,Tryz.func82,rfl⟩ Av5 ?_;refine Ac rfl ?_;refine Am (Ad6 (k:=key) hs) λe w ⟨he,hs⟩=>⟨_,he,?_⟩;unfold Jk;cases hk:E4 key with
 | false=>exact Ak rfl ⟨rfl,hs⟩
 | true=>
  refine Ac rfl ?_;rw[if_neg (by simp)];refine Ag (YR hs) λv w ⟨hv,hs⟩=>⟨_,hv,?_⟩
  with_reducible refine Ay (λh1=>?_) (λh1=>?_)
  ·rw[if_pos (by omega)];exact⟨rfl,hs⟩
  ·rw[if_neg (by omega)];exact⟨rfl,hs⟩
theorem Vo(h:Jk key now=0):E4 key=true/\0<=now/\now<=1125899906842624:=by
 unfold Jk at h;split at h
 ·omega
 ·rename_i h1;split at h
  ·omega
  ·exact⟨by simpa using h1,by omega,by omega⟩
theorem Aoc{n':Nat}(h:MV c n T l R evs)(hn:n<=n'):MV c n' T l R evs:=⟨h.tok,h.small,h.len,by have:=h.n;omega,h.sim⟩
theorem FI{n':Nat}(hn:n<=n')(h:Ab W w (sd b c n T kd o::M)):Ab W w (sd b c n' T kd o::M):=by
 obtain⟨l,R,evs,hi,hs⟩:=CP h;exact Cg (Aoc hi hn) hs
structure Aqn(c:Int)(T:TT):Prop where
 tok:Jy T
 small:∀e∈T,e.1.size<=40
 len:(T.length:Int)<=c
 c1:1<=c
 c2:c<=1024
theorem Aef(h:Ab W w (sd b c n T kd o::M)):Aqn c T:=by
 obtain⟨l,R,evs,hi,hs⟩:=CP h;have hk:=(Ep hs).1;exact⟨hi.tok,hi.small,hi.len,hk.c1,hk.c2⟩
theorem A2c(hn:n<800000000000)(hs:Ab W w (sd b c n T kd o::M)):AZ PR 51 #[pq b 0,.s key,.i now] w λv w'=>
  (Jk key now≠0/\v = .tuple #[.s ⟨#[]⟩,.b false,.l none 0 0,.i (Jk key now)]/\Ab W w' (sd b c n T kd o::M)) \/
  (Jk key now=0/\∃s:Sl,v = .tuple #[.s (EB T key now).1,.b (EB T key now).2,.l s.a s.n s.c,.i 0]/\sdL b c (n+520) (Cb T key now) kd o W w' (recs Rec.str s (CL T key now)::M)):=by
 refine cw ⟨mixed,Tryz.func51,rfl⟩ Ave ?_;refine Ag (YQ hs) λv w ⟨hv,hs⟩=>⟨_,hv,?_⟩
 with_reducible refine Ay (λh0=>?_) (λh0=>?_)
 ·exact .inl ⟨h0,rfl,hs⟩
 obtain⟨hkey,hn0,hn1⟩:=Vo h0;have hkz:=Dg hkey;have hg:=Ahj (k:=key) (now:=now) (Aef hs).tok.rise;refine Ag (OP (by omega) (by omega) hs) λv w ⟨sg,hv,o',ho,hs⟩=>⟨_,hv,?_⟩;generalize CL T key now=gg at hs ⊢;generalize Cb T key now=T1 at hs hg ⊢;obtain⟨l,R,evs,hi,hs⟩:=CP hs;have hkR:=(Ep hs).1;have hc2:=hkR.c2;have hc1:=hkR.c1;have hTl:=hi.len;have hnn:=hi.n
 obtain⟨tb,fb,mb,s,x0,x1,x2,x3,x4,x5,hc,hs⟩:=BI hs;refine Aa ?_;refine Ar (GV hs rfl hc.h0) λe w ⟨he,hs⟩=>⟨he,?_⟩;have hs:Ab W w (cD b tb fb mb (EE x0 1099511627776) x1 x2 x3 x4 x5 s::tabR tb T1::fd fb l::EC mb kd c R o'::recs Fg s evs::recs Rec.str sg gg::M):=hs;refine Aa (Ah hs ?_);refine AG (Aej (k:=key) (now:=now) hs (by omega)) λe w ⟨he,hs⟩=>⟨_,_,he,?_⟩;rw[hg];refine Ap (λ_=>?_) (λ_=>?_)
 ·refine Aa ?_;refine Ar (GV hs rfl hc.h1) λe w ⟨he,hs⟩=>⟨he,?_⟩;have hs:Ab W w (cD b tb fb mb (EE x0 1099511627776) (EE x1 1099511627776) x2 x3 x4 x5 s::tabR tb T1::fd fb l::EC mb kd c R o'::recs Fg s evs::recs Rec.str sg gg::M):=hs;refine Aa (Ah hs ?_);have hs:Ab W w (fd fb l::cD b tb fb mb (EE x0 1099511627776) (EE x1 1099511627776) x2 x3 x4 x5 s::tabR tb T1::EC mb kd c R o'::recs Fg s evs::recs Rec.str sg gg::M):=by exact Ab.fin hs
  refine Ag (Awm (key:=key) (by omega) hs) λv w ⟨t,hv,hs⟩=>⟨_,hv,?_⟩;have hs:Ab W w (cD b tb fb mb (EE x0 1099511627776) (EE x1 1099511627776) x2 x3 x4 x5 s::tabR tb T1::fd fb l::EC mb kd c R o'::recs Fg s evs::recs Rec.str sg gg::M):=by exact Ab.fin hs
  refine Ap (λ_=>?_) (λ_=>?_)
  ·refine Aa ?_;refine Ar (GV hs rfl hc.h4) λe w ⟨he,hs⟩=>⟨he,?_⟩;exact .inr ⟨h0,sg,rfl,o',ho,Cg hi (Bd ⟨FF hc.h0,FF hc.h1,hc.h2,hc.h3,FF hc.h4,hc.h5⟩ hs)⟩
  ·exact .inr ⟨h0,sg,rfl,o',ho,Cg hi (Bd ⟨FF hc.h0,FF hc.h1,hc.h2,hc.h3,hc.h4,hc.h5⟩ hs)⟩
 ·exact .inr ⟨h0,sg,rfl,o',ho,Cg hi (Bd ⟨FF hc.h0,hc.h1,hc.h2,hc.h3,hc.h4,hc.h5⟩ hs)⟩
theorem Ahl(hn:n<800000000000)(hs:Ab W w (sd b c n T kd o::M)):AZ PR 54 #[pq b 0,.s key,.i now] w λv w'=>
  (Jk key now≠0/\v = .tuple #[.b false,.l none 0 0,.i (Jk key now)]/\Ab W w' (sd b c n T kd o::M)) \/
  (Jk key now=0/\∃s:Sl,v = .tuple #[.b (AE (Cb T key now) key).isSome,.l s.a s.n s.c,.i 0]/\sdL b c (n+1040) (Ew (Cb T key now) key) kd o W w' (recs Rec.str s (CL T key now)::M)):=by
 refine cw ⟨mixed,Tryz.func54,rfl⟩ Avi ?_;refine Ag (YQ hs) λv w ⟨hv,hs⟩=>⟨_,hv,?_⟩
 with_reducible refine Ay (λh0=>?_) (λh0=>?_)
 ·exact .inl ⟨h0,rfl,hs⟩
 obtain⟨hkey,hn0,hn1⟩:=Vo h0;have hkz:=Dg hkey;refine Ag (OP (by omega) (by omega) hs) λv w ⟨sg,hv,o',ho,hs⟩=>⟨_,hv,?_⟩;generalize CL T key now=gg at hs ⊢;generalize Cb T key now=T1 at hs ⊢;obtain⟨l,R,evs,hi,hs⟩:=CP hs;have hkR:=(Ep hs).1;have hc2:=hkR.c2;have hc1:=hkR.c1;have hTl:=hi.len;have hnn:=hi.n
 obtain⟨tb,fb,mb,s,x0,x1,x2,x3,x4,x5,hc,hs⟩:=BI hs;refine Aa (Ah hs ?_);refine Am (QL (k:=key) hs (by omega) (by omega)) λe w ⟨he,hs⟩=>⟨_,he,?_⟩;have JV:=KM hi.tok key;have hsm:∀e∈Ew T1 key,e.1.size<=40:=λe he=>by rw[Fk hi.tok.rise] at he;exact I5 (P:=λk=>k.size<=40) hi.small e he
 have htk:=hi.tok.del key;have hev:=Zh.del (key:=key) hi.tok hi.small hi.len hc1 hc2;refine Ap (λhp=>?_) (λhp=>?_)
 ·have hsi:=hi.sim;generalize Ew T1 key=T' at *;have hs:=Bd hc hs;refine AY (Q9 (.inr rfl) htk (by omega) (by omega) (by omega) hsi hev hs) λv w ⟨hv,l',S,o2,evs',hlen,hsim,ho2,hs⟩=>⟨hv,?_⟩;exact .inr ⟨h0,sg,rfl,o2,ho2.trans ho,Cg ⟨htk,hsm,by omega,by omega,hsim⟩ hs⟩
 ·have hno:key∉kT T1:=λh=>by rw[FS.1 h] at hp;cases hp
  have hsim:TG c R l (kT (Ew T1 key)):=hi.sim.right λx=>by
   rw[Aof hi.tok.rise];exact⟨λh=>⟨h,λe=>hno (e ▸ h)⟩,λh=>h.1⟩
  exact .inr ⟨h0,sg,rfl,o',ho,Cg ⟨htk,hsm,by omega,by omega,hsim⟩ (Bd hc hs)⟩
theorem Apw(hn:n<900000000000)(hs:Ab W w (sd b c n T kd o::M)):AZ PR 56 #[pq b 0] w λv w'=>∃m:Int,v = .i m/\sdL b c (n+520) T kd o W w' M:=by
 refine cw ⟨mixed,Tryz.func56,rfl⟩ Avk ?_;refine Ac rfl ?_;obtain⟨l,R,evs,hi,hs⟩:=CP hs;have hkR:=(Ep hs).1;have hc2:=hkR.c2;have hTl:=hi.len;have hnn:=hi.n
 refine Ag (FO hi.tok (by omega) (by omega) hi.sim hs) λv w ⟨m,S,o',evs',hv,hm,ho,hle,hs⟩=>⟨_,hv,m,rfl,o',ho,?_⟩;exact Cg (l:=[]) (R:=S) (evs:=evs') ⟨hi.tok,hi.small,hi.len,by omega,hm⟩ hs
theorem Axw(hn:n<900000000000)(hs:Ab W w (sd b c n T kd o::M)):AZ PR 57 #[pq b 0] w λv w'=>∃(x:BA) (t:Bool) (o':Option Nat),v = .tuple #[.s x,.b t]/\Jj o' o/\(∀m,o'=some m->m<=T.length)/\Ab W w' (sd b c (n+520) T kd (Hk o')::M):=by
 refine cw ⟨mixed,Tryz.func57,rfl⟩ Avl ?_;refine Ac rfl ?_;obtain⟨l,R,evs,hi,hs⟩:=CP hs;have hkR:=(Ep hs).1;have hc2:=hkR.c2;have hTl:=hi.len;have hnn:=hi.n
 refine Ag (FO hi.tok (by omega) (by omega) hi.sim hs) λv w ⟨m,S,o',evs',hv,hm,ho,_,hs⟩=>⟨_,hv,?_⟩;have hle:∀m,o'=some m->m<=T.length:=λm h=>by
  have h1:=(Ep hs).2.2 m h;have h2:=Ea (Ep hs).1.nd (λx hx=>(hm x).1 hx);unfold kT at h2;rw[List.length_map] at h2;omega
 obtain⟨tb,fb,mb,s,x0,x1,x2,x3,x4,x5,hc,hs⟩:=BI hs;refine Aa (Ah hs ?_);have hs:Ab W w (EC mb kd c S o'::cD b tb fb mb x0 x1 x2 x3 x4 x5 s::tabR tb T::fd fb []::recs Fg s evs'::M):=by exact Ab.fin hs
 refine AH (Axd hs) λv w ⟨x,t,S2,hv,hm2,hs⟩=>⟨_,_,hv,?_⟩;have hi2:MV c (n+520) T [] S2 evs':=⟨hi.tok,hi.small,hi.len,by omega,λx=>by rw[hm2,hm]⟩;have hs:Ab W w (cD b tb fb mb x0 x1 x2 x3 x4 x5 s::tabR tb T::fd fb []::EC mb kd c S2 (Hk o')::recs Fg s evs'::M):=by exact Ab.fin hs
 refine Ap (λ_=>?_) (λ_=>?_)
 ·refine Aa ?_;refine Ar (GV hs rfl hc.h5) λe w ⟨he,hs⟩=>⟨he,?_⟩;exact⟨x,t,o',rfl,ho,hle,Cg hi2 (Bd ⟨hc.h0,hc.h1,hc.h2,hc.h3,hc.h4,FF hc.h5⟩ hs)⟩
 ·exact⟨x,t,o',rfl,ho,hle,Cg hi2 (Bd hc hs)⟩
theorem Ahp{k:Int}(hk:0<=k/\k<5)(hn:n<900000000000)(hs:Ab W w (sd b c n T kd o::M)):AZ PR 104 #[pq b 0,.i k] w λv w'=>∃m:Int,v = .i m/\((k=kd/\Ab W w' (sd b c n T kd o::M))\/Ab W w' (sd b c (n+520) T k (some T.length)::M)):=by
 refine cw ⟨mixed,Tryz.func104,rfl⟩ Ai1 ?_;refine Ac rfl (Ac (decide_eq_false (by omega)) ?_);refine jw Wh ?_;refine Ac (decide_eq_false (by omega)) ?_;obtain⟨l,R,evs,hi,hs⟩:=CP hs;have hkR:=(Ep hs).1;have hc2:=hkR.c2;have hTl:=hi.len;have hnn:=hi.n
 obtain⟨tb,fb,mb,s,x0,x1,x2,x3,x4,x5,hc,hs⟩:=BI hs;refine Aa (Ah hs ?_);have hs:Ab W w (EC mb kd c R o::cD b tb fb mb x0 x1 x2 x3 x4 x5 s::tabR tb T::fd fb l::recs Fg s evs::M):=by exact Ab.fin hs
 refine Ag (Ad7 hs) λv w ⟨hv,hs⟩=>⟨_,hv,?_⟩;have hs:Ab W w (ON b c T l kd o R evs::M):=Bd hc (by exact Ab.fin hs);refine Ap (λh=>⟨8,rfl,.inl ⟨by simpa using h,Cg hi hs⟩⟩) (λ_=>?_);refine jw Wi ?_;refine Ag (FO hi.tok (by omega) (by omega) hi.sim hs) λv w ⟨m,S,o',evs',hv,hm,ho,hle,hs⟩=>⟨_,hv,?_⟩;clear hc;have hkS:=(Ep hs).1;obtain⟨tb,fb,mb,s,x0,x1,x2,x3,x4,x5,hc,hs⟩:=BI hs;refine Aa (Ah hs ?_);have hs:Ab W w (EC mb kd c S o'::cD b tb fb mb x0 x1 x2 x3 x4 x5 s::tabR tb T::fd fb []::recs Fg s evs'::M):=by exact Ab.fin hs
 refine Ag (Apb hk hs) λv w ⟨S2,hv,hm2,hs⟩=>⟨_,hv,?_⟩;have hk2:=ML hs;have hmT:∀x,x∈S2↔x∈kT T:=λx=>by rw[hm2,hm]
 have hl2:S2.length=T.length:=by
  have:=(CE hk2.nd hi.tok.rise.nodup hmT).length_eq;simpa using this
 rw[hl2] at hs;exact⟨0,rfl,.inr (Cg (l:=[]) (R:=S2) (evs:=evs') ⟨hi.tok,hi.small,hi.len,by omega,hmT⟩ (Bd hc (by exact Ab.fin hs)))⟩
theorem A2d{r k1 k2 k3:Int}(hs:Ab W w L):AZ PR 47 #[.i r,.i k1,.i k2,.i k3] w λv w'=>(((0<=k1/\k1<=256/\1<=k2/\k2<=256)/\0<=k3/\k3<5)/\∃b,v = .tuple #[pq b 0,.i 0]/\Ab W w' (sd b r 0 [] k3 none::L))\/(¬((1<=r/\r<=1024)/\(0<=k1/\k1<=256/\1<=k2/\k2<=256)/\0<=k3/\k3<5)/\∃e:Int,e≠0/\v = .tuple #[.p none,.i e]/\Ab W w' L):=by
 refine cw ⟨mixed,Tryz.func47,rfl⟩ Ava ?_;refine Ag (T7 hs) λv w ⟨hv,hs⟩=>⟨_,hv,?_⟩
 with_reducible refine Ay (λh1=>?_) (λh1=>?_)
 ·exact .inr ⟨by omega,1,by decide,rfl,hs⟩
 have hr:AT r=r:=by unfold AT;omega
 refine AH (A07 hs) λv w h=>?_;rcases h with⟨hwr,fb,hv,hs⟩|⟨hno,hv,hs⟩
 ·refine⟨_,_,hv,Ac rfl ?_⟩;refine AH (A1w hs) λv w h=>?_;rcases h with⟨hk3,mb,hv,hs⟩|⟨hno,hv,hs⟩
  ·refine⟨_,_,hv,Ac rfl ?_⟩;rw[hr] at hs;refine Am (Ael hs) λe w ⟨tb,he,hs⟩=>⟨_,he,?_⟩;have hs:=Ab.nilR Fg hs;refine Ai hs λb w hs=>?_;have hi:MV r 0 [] [] [] []:=⟨⟨by simp[BQ,DP],by simp,by simp⟩,by simp,by simp;omega,by simp,λx=>by simp[kT]⟩
   exact .inl ⟨⟨hwr,hk3⟩,b,rfl,Cg hi (Bd (tb:=tb) (fb:=fb) (mb:=mb) (s:=⟨none,0,0⟩) (x0:=0) (x1:=0) (x2:=0) (x3:=0) (x4:=0) (x5:=0) ⟨by decide,by decide,by decide,by decide,by decide,by decide⟩ (by exact Ab.fin hs))⟩
  ·exact⟨_,_,hv,Ak rfl (.inr ⟨by omega,4,by decide,rfl,hs.drop⟩)⟩
 ·exact⟨_,_,hv,Ak rfl (.inr ⟨by omega,1,by decide,rfl,hs⟩)⟩
theorem Aho{r:Int}(hr1:1<=r)(hr2:r<=1024)(hn:n<900000000000)(hs:Ab W w (sd b c n T kd o::M)):AZ PR 63 #[pq b 0,.i r] w λv w'=>∃(sl:Sl) (g:BL),v = .tuple #[.l sl.a sl.n sl.c,.i 0]/\g.Nodup/\(∀x∈g,x∈kT T)/\(g=[]\/((AB T g).length:Int)=r)/\Ab W w' (sd b r (n+520) (AB T g) kd none::recs Rec.str sl g::M):=by
 refine cw ⟨mixed,Tryz.func63,rfl⟩ Avr ?_;refine Ac rfl ?_;refine Ag (T7 hs) λv w ⟨hv,hs⟩=>⟨_,hv,?_⟩;refine Ac (by rw[decide_eq_true ⟨hr1,hr2⟩];rfl) ?_
 refine jw ZX ?_;obtain⟨l,R,evs,hi,hs⟩:=CP hs;have hkR:=(Ep hs).1;have hc2:=hkR.c2;have hc1:=hkR.c1;have hTl:=hi.len;have hnn:=hi.n
 have hrr:AT r=r:=by unfold AT;omega
 refine Ag (FO hi.tok (by omega) (by omega) hi.sim hs) λv w ⟨m,S,o',evs',hv,hm,ho,hle,hs⟩=>⟨_,hv,?_⟩;have hKok:=Adx hi.tok.rise hi.small hi.len hc1 hc2;obtain⟨tb,fb,mb,s,x0,x1,x2,x3,x4,x5,hc,hs⟩:=BI hs;refine Aa (Ah hs ?_);have hs:Ab W w (EC mb kd c S o'::cD b tb fb mb x0 x1 x2 x3 x4 x5 s::tabR tb T::fd fb []::recs Fg s evs'::M):=by exact Ab.fin hs
 refine Ag (Ag0 hs) λv w ⟨sl,g,S2,hv,hsub,hnd,hm2,hgl2,hs⟩=>⟨_,hv,?_⟩;rw[hrr] at hs hgl2;have hok2:=ML hs;have hs:Ab W w (ON b r T [] kd none S2 evs'::recs Rec.str sl g::M):=Bd hc (by exact Ab.fin hs);have hgT:∀x∈g,x∈kT T:=λx hx=>(hm x).1 (hsub x hx);have hgl:g.length<=T.length:=by
  have:=E6 hnd hgT;unfold kT at this;simpa using this
 refine AY (OQ hi.tok (by omega) (by omega) (λx hx=>hKok.small x (hgT x hx)) hs) λv w ⟨hv,hs⟩=>⟨hv,?_⟩;have hmT:∀x,x∈S2↔x∈kT (AB T g):=λx=>by rw[hm2,hm,EV hi.tok.rise]
 have htk:=CH (g:=g) hi.tok;have hl2:S2.length=(AB T g).length:=by
  have h1:=(CE hok2.nd htk.rise.nodup hmT).length_eq;simpa using h1
 have hlen:((AB T g).length:Int)<=r:=by
  have h2:=hok2.room;omega
 have hi2:MV r (n+520) (AB T g) [] S2 evs':=⟨htk,H1 (P:=λk=>k.size<=40) hi.tok.rise hi.small,hlen,by omega,hmT⟩;exact⟨sl,g,rfl,hnd,hgT,by rw[<- hl2];exact hgl2,Cg hi2 hs⟩
theorem Aei(h:Fe key val now life=0):F5 T key val now life=Ho T key (val,FK now life):=if_pos h
abbrev Ah9(b:Nat)(c:Int)(n:Nat)(T1:TT)(g0:BL)(kd:Int)(o:Option Nat)(key val:BA)(now life:Int)(W:World)(M:List HP):VW:=λv w'=>
 ∃(sl:Sl) (g:BL),v = .tuple #[.l sl.a sl.n sl.c,.i 0]/\g.Nodup/\(∀x∈g,x∈kT T1)/\key∉g/\sdL b c n (F5 (AB T1 g) key val now life) kd o W w' (recs Rec.str sl (g0++g)::M)
theorem A13{T1:TT}{g0:BL}{s0:Sl}{Q:VW}(hQ:∀v w,Ah9 b c (n+1041) T1 g0 kd o key val now life W M v w->Q v w)(he:Fe key val now life=0)(hn:n<700000000000)(hg0:g0.length<=1)(t:Bool)(ht:t=true->key∈kT T1\/(T1.length:Int)<c)(hf:t=false->key∉kT T1/\c<=(T1.length:Int))(hs:Ab W w (sd b c n T1 kd o::recs Rec.str s0 g0::M)) :
  UI Be Q (some ⟨b,0,none⟩) key val now life s0 t w:=by
 obtain⟨hkey,hv,hn0,hn1,hl0,hl1⟩:=HV he;have hkz:=Dg hkey;refine jw ZP ?_;obtain⟨l,R,evs,hi,hs⟩:=CP hs;have hkR:=(Ep hs).1;have hc2:=hkR.c2;have hc1:=hkR.c1;have hTl:=hi.len;have hnn:=hi.n
 cases t with
 | true=>
  refine Ak rfl ?_;obtain⟨tb,fb,mb,s,x0,x1,x2,x3,x4,x5,hc,hs⟩:=BI hs;refine Aa (Ah hs ?_);refine AG (VC (k:=key) (v:=val) (now:=now) (life:=life) hs (by omega)) λe w ⟨he2,hs⟩=>⟨_,_,he2,?_⟩;have htp:=Aei (T:=T1) he;have hlen:((Ho T1 key (val,FK now life)).length:Int)<=c:=by
   rw[Ag7 hi.tok];rcases ht rfl with h|h
   ·rw[if_pos h];omega
   ·split <;> omega
  have hev:Zh c (kT T1) ((2:Int),key) (kT (Ho T1 key (val,FK now life))):=Zh.put hi.tok hi.small (by omega) hlen hc1 hc2;have htk:=hi.tok.put key val now life;have hsm:=JK (v:=(val,FK now life)) hi.tok.rise hi.small (key:=key) (by omega);rw[<- htp] at hev hlen hsm;have hdel:AB T1 []=T1:=rfl;have hsi:=hi.sim;unfold Ah9 at hQ;generalize hT2:F5 T1 key val now life=T2 at *;have hs:=Bd hc hs;refine AY (Q9 (.inl rfl) htk (by omega) (by omega) (by omega) hsi hev hs) λv w ⟨hv,l',S,o',evs',hlen2,hsim,ho,hs⟩=>⟨hv,?_⟩;have hi2:MV c (n+1041) T2 l' S evs':=⟨htk,hsm,hlen,by omega,hsim⟩
  refine hQ _ _ ⟨s0,[],rfl,by simp,by simp,by simp,o',ho,?_⟩;rw[List.append_nil,hdel,hT2];exact Cg hi2 hs
 | false=>
  refine Ac rfl ?_;obtain⟨hno,hfull⟩:=hf rfl;refine jw ZQ ?_;refine Ag (FO hi.tok (by omega) (by omega) hi.sim hs) λv w ⟨m,S,o',evs',hv,hm,ho,hle,hs⟩=>⟨_,hv,?_⟩;obtain⟨tb,fb,mb,s,x0,x1,x2,x3,x4,x5,hc,hs⟩:=BI hs;refine Aa (Ah hs ?_);have hs:Ab W w (EC mb kd c S o'::cD b tb fb mb x0 x1 x2 x3 x4 x5 s::tabR tb T1::fd fb []::recs Fg s evs'::recs Rec.str s0 g0::M):=by exact Ab.fin hs
  refine Ag (Tk (key:=key) (by omega) hs) λv w ⟨sg,g,S2,o2,hv,hin,ho2,hs⟩=>⟨_,hv,?_⟩;have hgT:∀x∈g,x∈kT T1:=λx hx=>(hm x).1 (hin.sub x hx);have hgl:g.length<=T1.length:=by
   have:=E6 hin.nd hgT;unfold kT at this;simpa using this
  refine Aa (Ah (x:=s) hs ?_);refine Ai hs λnb w hs=>?_;refine CA (s:=s) (a:=(((2:Int),key):Ev)) hs rfl rfl rfl rfl (by decide) (by omega) λs5 w hs5 hs=>?_;refine Aa (A4 hs λw hs=>?_);have hs:Ab W w (ON b c T1 [] kd o2 S2 (evs'++[((2:Int),key)])::recs Rec.str sg g::recs Rec.str s0 g0::M):=Bd hc (by exact Ab.fin hs);have hKok:=Adx hi.tok.rise hi.small hi.len hc1 hc2;refine AY (OQ hi.tok (by omega) (by omega) (λx hx=>hKok.small x (hgT x hx)) hs) λv w ⟨hv,hs⟩=>⟨hv,?_⟩;have htk:=CH (g:=g) hi.tok;have JV:=J0 (g:=g) hi.tok
  have hsm:=H1 (P:=λk=>k.size<=40) (g:=g) hi.tok.rise hi.small;have hkd:∀x,x∈kT (AB T1 g)↔x∈kT T1/\x∉g:=λx=>EV hi.tok.rise;clear hc;obtain⟨tb,fb,mb,s,x0,x1,x2,x3,x4,x5,hc,hs⟩:=BI hs;refine Aa (Ah hs ?_);refine AG (VC (k:=key) (v:=val) (now:=now) (life:=life) hs (by omega)) λe w ⟨he2,hs⟩=>⟨_,_,he2,?_⟩;have htp:=Aei (T:=AB T1 g) he;have htk2:=htk.put key val now life;have hsm2:=JK (v:=(val,FK now life)) htk.rise hsm (key:=key) (by omega);have hmS:∀x,x∈S2↔x∈kT (Ho (AB T1 g) key (val,FK now life)):=λx=>by
   rw[Aax htk.rise,hkd,hin.mem,hm]
  have hlen2:((Ho (AB T1 g) key (val,FK now life)).length:Int)<=c:=by
   have h1:=(CE hin.ok.nd (Hp htk.rise).nodup hmS).length_eq;have h2:=hin.ok.room;simp only[List.length_map] at h1;omega
  rw[<- htp] at hmS hlen2 hsm2;unfold Ah9 at hQ;generalize hT2:F5 (AB T1 g) key val now life=T2 at *;have hs:=Bd hc hs;have hi2:MV c (n+1041) T2 [] S2 (evs'++[((2:Int),key)]):=⟨htk2,hsm2,hlen2,by simp;omega,hmS⟩
  have hs:=Cg hi2 hs;have hs:Ab W w (recs Rec.str s0 g0::recs Rec.str sg g::sd b c (n+1041) T2 kd o2::M):=by exact Ab.fin hs
  refine FP (s:=s0) (new:=g) hs (Gc (s:=sg) (E:=Rec.str) (rows:=g) hs) (Bg (s:=sg) (E:=Rec.str) (rows:=g) hs) (CV _) rfl (by decide) (by omega) λs6 w hs6 hs=>?_;have hs:Ab W w (recs Rec.str s6 (g0++g)::recs Rec.str sg g::sd b c (n+1041) T2 kd o2::M):=hs;refine hQ _ _ ⟨s6,g,rfl,hin.nd,hgT,hin.no,o2,ho2.trans ho,?_⟩;rw[hT2];exact Ab.fin hs
theorem A2e(hn:n<600000000000)(hs:Ab W w (sd b c n T kd o::M)):AZ PR 53 #[pq b 0,.s key,.s val,.i now,.i life] w λv w'=>
  (Fe key val now life≠0/\v = .tuple #[.l none 0 0,.i (Fe key val now life)]/\Ab W w' (sd b c n T kd o::M)) \/
  (Fe key val now life=0/\Ah9 b c (n+1561) (Cb T key now) (CL T key now) kd o key val now life W M v w'):=by
 refine cw ⟨mixed,Tryz.func53,rfl⟩ Avh ?_;refine Ac rfl ?_;refine Am (Ael hs) λe w ⟨tb0,he,hs⟩=>⟨_,he,?_⟩;refine AG (VC (k:=key) (v:=val) (now:=now) (life:=life) hs (by simp)) λe w ⟨he2,hs⟩=>⟨_,_,he2,?_⟩;have hs:Ab W w (sd b c n T kd o::M):=hs.drop
 with_reducible refine Ay (λhe=>?_) (λhe=>?_)
 ·exact .inl ⟨he,rfl,hs⟩
 obtain⟨hkey,_⟩:=HV he;have hkz:=Dg hkey;refine Ag (OP (now:=now) (by omega) (by omega) hs) λv w ⟨sg,hv,o',ho,hs⟩=>⟨_,hv,?_⟩;have hg1:(CL T key now).length<=1:=by unfold CL;split <;> simp
 generalize CL T key now=gg at hs hg1 ⊢;generalize Cb T key now=T1 at hs ⊢;obtain⟨l,R,evs,hi,hs⟩:=CP hs;have hkR:=(Ep hs).1;have hc2:=hkR.c2;have hTl:=hi.len
 obtain⟨tb,fb,mb,s,x0,x1,x2,x3,x4,x5,hc,hs⟩:=BI hs;refine Aa ?_;refine Ar (GV hs rfl hc.h2) λe w ⟨he3,hs⟩=>⟨he3,?_⟩;have hc':Ah8 x0 x1 (EE x2 1099511627776) x3 x4 x5:=⟨hc.h0,hc.h1,FF hc.h2,hc.h3,hc.h4,hc.h5⟩;have hs:Ab W w (cD b tb fb mb x0 x1 (EE x2 1099511627776) x3 x4 x5 s::tabR tb T1::fd fb l::EC mb kd c R o'::recs Fg s evs::recs Rec.str sg gg::M):=hs;have fin:∀(w:World)(t:Bool),(t=true->key∈kT T1\/(T1.length:Int)<c)->(t=false->key∉kT T1/\c<=(T1.length:Int))->Ab W w (cD b tb fb mb x0 x1 (EE x2 1099511627776) x3 x4 x5 s::tabR tb T1::fd fb l::EC mb kd c R o'::recs Fg s evs::recs Rec.str sg gg::M) ->
   UI Be (λv w'=>(Fe key val now life≠0/\v = .tuple #[.l none 0 0,.i (Fe key val now life)]/\Ab W w' (sd b c n T kd o::M))\/(Fe key val now life=0/\Ah9 b c (n+1561) T1 gg kd o key val now life W M v w')) (some ⟨b,0,none⟩) key val now life sg t w:=by
  clear hs;intro w t h1 h2 hs;refine A13 (n:=n+520) (o:=o') (λv w ⟨sl,g,a1,a2,a3,a4,o2,a5,a6⟩=>.inr ⟨he,sl,g,a1,a2,a3,a4,o2,a5.trans ho,a6⟩) he (by omega) hg1 t h1 h2 (Cg hi (Bd hc' hs))
 refine Al [cD b tb fb mb x0 x1 (EE x2 1099511627776) x3 x4 x5 s] hs λw hs=>?_;refine Aa (Ah hs (Af hs ?_));refine Am (Aek (k:=key) hs (by omega)) λe w ⟨he2,hs⟩=>⟨_,he2,Af hs ?_⟩;refine Ap (λh1=>?_) (λh1=>?_)
 ·refine Af hs ?_;exact fin w true (λ_=>.inl (FS.2 h1)) (λh=>by cases h) hs
 ·have hno:key∉kT T1:=λh=>by rw[FS.1 h] at h1;cases h1
  refine Aa (Aq (Aa (Aq ?_)));refine Am (Ax3 hs) λe w ⟨he2,hs⟩=>⟨_,he2,Af hs ?_⟩;have hs:Ab W w (EC mb kd c R o'::cD b tb fb mb x0 x1 (EE x2 1099511627776) x3 x4 x5 s::tabR tb T1::fd fb l::recs Fg s evs::recs Rec.str sg gg::M):=by exact Ab.fin hs
  refine Ag (Axc hs) λv w ⟨hv,hs⟩=>⟨_,hv,?_⟩;exact fin w _ (λh=>.inr (of_decide_eq_true h)) (λh=>⟨hno,by have:=of_decide_eq_false h;omega⟩) (by exact Ab.fin hs)
theorem Ap7{T:TT}(ht:BQ T){x:BA}(h:x∈Cm T now):tOv T x now=true:=by
 unfold Cm at h;obtain⟨e,he,rfl⟩:=List.mem_map.1 h;obtain⟨h1,h2⟩:=List.mem_filter.1 he;have hg:AE T e.1=some e.2:=(Bz ht.nodup).2 h1;unfold tOv EB;rw[hg];dsimp only;rw[h2];rfl
theorem Abu{T:TT}(ht:BQ T):(Cm T now).Nodup:=by
 unfold Cm;exact ht.nodup.sublist ((List.filter_sublist).map _)
theorem Ahu{T S:TT}{x:BA}(h:AE T x=AE S x):tOv T x now=tOv S x now:=by unfold tOv;rw[h,Ge h]
theorem Ahm(h0:0<=now)(h1:now<=1125899906842624)(hn:n<800000000000)(hs:Ab W w (sd b c n T kd o::M)):AZ PR 55 #[pq b 0,.i now] w λv w'=>∃sl:Sl,v = .l sl.a sl.n sl.c/\sdL b c (n+600000) (AB T (Cm T now)) kd o W w' (recs Rec.str sl (Cm T now)::M):=by
 refine cw ⟨mixed,Tryz.func55,rfl⟩ Avj ?_;refine Ac rfl ?_;refine Ag (YR hs) λv w ⟨hv,hs⟩=>⟨_,hv,?_⟩;refine Ac (by rw[decide_eq_true ⟨h0,h1⟩];rfl) ?_
 refine jw ZR ?_;have hok:=Aef hs;have hTl:=hok.len;have hc2:=hok.c2
 obtain⟨l,R,evs,hi,hs⟩:=CP hs;obtain⟨tb,fb,mb,s,x0,x1,x2,x3,x4,x5,hc,hs⟩:=BI hs;refine Aa (Ah hs ?_);have hs:Ab W w (tabR tb T::cD b tb fb mb x0 x1 x2 x3 x4 x5 s::fd fb l::EC mb kd c R o::recs Fg s evs::M):=by exact Ab.fin hs
 refine Am (Ax2 (now:=now) hs (by omega)) λe w ⟨sl,he,hs⟩=>⟨sl,he,?_⟩;have hs:Ab W w (cD b tb fb mb x0 x1 x2 x3 x4 x5 s::tabR tb T::fd fb l::EC mb kd c R o::recs Fg s evs::recs Rec.str sl (Cm T now)::M):=by exact Ab.fin hs
 have hs:=Cg hi (Bd hc hs);have hnd:=Abu (now:=now) hok.tok.rise;have hov:∀x∈Cm T now,tOv T x now=true:=λx hx=>Ap7 hok.tok.rise hx;have JV:(Cm T now).length<=T.length:=by unfold Cm;rw[List.length_map];exact List.length_filter_le _ _
 have hdz:∀x∈Cm T now,x.size<=40:=λx hx=>by
  unfold Cm at hx;obtain⟨e,he,rfl⟩:=List.mem_map.1 hx;exact hok.small e (List.mem_filter.1 he).1
 generalize Cm T now=D at *;have hsn:=Bg (s:=sl) (E:=Rec.str) (rows:=D) hs;have hs:=Ab.nilR Rec.str hs;have loop:∀(f i:Nat)(w:World)(acc:Sl)(o':Option Nat),i+f=D.length->Jj o' o->Ab W w (recs Rec.str acc (D.take i)::sd b c (n+i*520) (AB T (D.take i)) kd o'::recs Rec.str sl D::M) ->
   UK Be (λv w'=>∃sl:Sl,v = .l sl.a sl.n sl.c/\sdL b c (n+600000) (AB T D) kd o W w' (recs Rec.str sl D::M)) (f+1) (some ⟨b,0,none⟩) now acc sl (sl.n:Int) (i:Int) w:=by
  clear hs;intro f
  induction f with
  | zero=>
   intro i w acc o' hi ho hs;rw[Pq];refine Ac (decide_eq_false (by omega)) ?_;refine jw ZS ?_;rw[List.take_of_length_le (by omega)] at hs;have hs:Ab W w (sd b c (n+i*520) (AB T D) kd o'::recs Rec.str acc D::M):=by exact Ab.fin hs
   exact⟨acc,rfl,o',ho,FI (by omega) hs⟩
  | succ f ih=>
   intro i w acc o' hi ho hs;rw[Pq];refine Ak (decide_eq_true (by omega)) ?_;have hil:i<D.length:=by omega
   refine BU (s:=sl) (E:=Rec.str) (rows:=D) hs λb_ o_ ha_=>?_;refine Cw (s:=sl) (E:=Rec.str) (rows:=D) ha_ hs ?_;rw[Int.toNat_natCast];have hm:D.getD i default∈D:=GZ hil;have hno:D.getD i default∉D.take i:=by
    intro hin;have h2:=hnd;rw[<- List.take_append_drop i D,List.nodup_append] at h2;have hd:D.getD i default∈D.drop i:=by
     rw[List.getD_eq_getElem?_getD,List.getElem?_eq_getElem hil,List.drop_eq_getElem_cons hil];exact .head _
    exact h2.2.2 _ hin _ hd rfl
   have hg:AE (AB T (D.take i)) (D.getD i default)=AE T (D.getD i default):=(EU hok.tok.rise).2 hno;have ho2:tOv (AB T (D.take i)) (D.getD i default) now=true:=by rw[Ahu hg];exact hov _ hm
   have hs:Ab W w (sd b c (n+i*520) (AB T (D.take i)) kd o'::recs Rec.str acc (D.take i)::recs Rec.str sl D::M):=by exact Ab.fin hs
   refine Ag (OP (now:=now) (by omega) (hdz _ hm) hs) λv w ⟨s2,hv,o2,ho3,hs⟩=>⟨_,hv,?_⟩;have e1:Cb (AB T (D.take i)) (D.getD i default) now=AB T (D.take (i+1)):=by
    unfold Cb;rw[ho2,Cc hil];unfold AB;rw[List.foldl_append];rfl
   have e2:CL (AB T (D.take i)) (D.getD i default) now=[D.getD i default]:=by unfold CL;rw[ho2];rfl
   rw[e1,e2] at hs;rw[show IntKind.wrap .i64 ((i:Int)+1)=((i+1:Nat):Int) by rw[i64_in _ (by omega)];omega]
   have hs:Ab W w (recs Rec.str acc (D.take i)::recs Rec.str s2 [D.getD i default]::sd b c (n+i*520+520) (AB T (D.take (i+1))) kd o2::recs Rec.str sl D::M):=by exact Ab.fin hs
   refine FP (s:=acc) (new:=[D.getD i default]) hs (Gc (s:=s2) (E:=Rec.str) hs) (Bg (s:=s2) (E:=Rec.str) hs) (CV _) rfl (by decide) (by rw[List.length_take];simp;omega) λs6 w hs6 hs=>?_;rw[<- Cc hil] at hs;refine ih (i+1) w s6 o2 (by omega) (ho3.trans ho) ?_;rw[show n+(i+1)*520=n+i*520+520 by omega];exact Ab.fin hs
 exact AJ _ (loop D.length 0 w ⟨none,0,0⟩ o (by omega) Jj.refl (by rw[Nat.zero_mul,Nat.add_zero];exact hs))
theorem Aeg(hs:Ab W w (sd b c n T kd o::M)):AZ PR 21 #[pq b 0] w λv w'=>∃sl:Sl,v = .l sl.a sl.n sl.c/\Ab W w' (sd b c n T kd o::recs Rec.str sl (kT T)::M):=by
 refine cw ⟨mixed,Tryz.func21,rfl⟩ Aso ?_;have hok:=Aef hs;have hTl:=hok.len;have hc2:=hok.c2
 obtain⟨l,R,evs,hi,hs⟩:=CP hs;obtain⟨tb,fb,mb,s,x0,x1,x2,x3,x4,x5,hc,hs⟩:=BI hs;refine Ac rfl (Aa (Ah hs ?_));have hs:Ab W w (tabR tb T::cD b tb fb mb x0 x1 x2 x3 x4 x5 s::fd fb l::EC mb kd c R o::recs Fg s evs::M):=by exact Ab.fin hs
 refine Am (YY hs (by omega)) λe w ⟨sl,he,hs⟩=>⟨sl,he,sl,rfl,Cg hi (Bd (tb:=tb) (fb:=fb) (mb:=mb) (s:=s) hc ?_)⟩;have hs:Ab W w (recs Rec.str sl (kT T)::tabR tb T::cD b tb fb mb x0 x1 x2 x3 x4 x5 s::fd fb l::EC mb kd c R o::recs Fg s evs::M):=hs;exact Ab.fin hs
theorem Axv(hs:Ab W w (sd b c n T kd o::M)):AZ PR 24 #[pq b 0] w λv w'=>v = .i kd/\Ab W w' (sd b c n T kd o::M):=by
 refine cw ⟨mixed,Tryz.func24,rfl⟩ Ast ?_;obtain⟨l,R,evs,hi,hs⟩:=CP hs;obtain⟨tb,fb,mb,s,x0,x1,x2,x3,x4,x5,hc,hs⟩:=BI hs;refine Ac rfl (Aa (Ah hs ?_));have hs:Ab W w (EC mb kd c R o::cD b tb fb mb x0 x1 x2 x3 x4 x5 s::tabR tb T::fd fb l::recs Fg s evs::M):=by exact Ab.fin hs
 exact Ag (Ad7 hs) λv w ⟨hv,hs⟩=>⟨_,hv,rfl,Cg hi (Bd (s:=s) hc (by exact Ab.fin hs))⟩
theorem Ahn(hs:Ab W w (sd b c n T kd o::M)):AZ PR 22 #[pq b 0] w λv w'=>v = .b o.isSome/\Ab W w' (sd b c n T kd o::M):=by
 refine cw ⟨mixed,Tryz.func22,rfl⟩ Asp ?_;obtain⟨l,R,evs,hi,hs⟩:=CP hs;obtain⟨tb,fb,mb,s,x0,x1,x2,x3,x4,x5,hc,hs⟩:=BI hs;refine Ak rfl (Aa (Ah hs ?_));have hs:Ab W w (EC mb kd c R o::cD b tb fb mb x0 x1 x2 x3 x4 x5 s::tabR tb T::fd fb l::recs Fg s evs::M):=by exact Ab.fin hs
 exact Ag (Agz hs) λv w ⟨hv,hs⟩=>⟨_,hv,rfl,Cg hi (Bd (s:=s) hc (by exact Ab.fin hs))⟩
end
end Go.Proofs.YtjipofkjmmpjdaaGreat
namespace Go.Proofs.YtjipofkjmmpjdaaGreat
open Go.Hb Go.IntWalk
section
variable{W w:World}{L M:List HP}{F:HP->List HP}{b:Nat}{room:Int}{N:Nat}{ks:List BA}{k:BA}
theorem UZ(h:Ab W w L)[hA:At L b (ghR b room N ks) F](hz:k.size<4611686018427387904)(hb:N<800000000):Calls PR 124 #[pq b 0,.s k] w λe w'=>e = .returned (.b (QZ ks k))/\Ab W w' (F (ghR b room N (Ao ks k))):=by
 refine At.call1 (hA:=hA) h λM hs=>?_;clear h hA;refine c1 (cw ⟨mixed,Tryz.func124,rfl⟩ Ajf ?_);obtain⟨lb,xb,row,free,m,hi,hN,hs⟩:=K0 hs;have hl:=hi.len;have hhas:=hi.has (k:=k);refine Ac rfl ?_
 repeat (first|with_reducible refine Aa ?_|((with_reducible refine A2 ?_);first|refine Ah hs ?_|fail)|fail)
 refine AG (PE hs hz (by omega)) λe w ⟨he,hs⟩=>⟨_,_,he,?_⟩;cases hg:AE m k with
 | none=>
  rw[hg] at hhas;obtain⟨h1,h2,h3⟩:=hi.miss hg;refine Ac rfl ?_;rw[<- hhas,h2];exact⟨rfl,IP h3 hN (by exact Ab.fin hs)⟩
 | some x=>
  rw[hg] at hhas;have hnd:=Hg (mk:=.string) (b:=lb) (row:=row) (free:=free) (M:=blk b [.i room,pq lb 0,pq xb 0]::ixr (Rec.int .i64) xb 0 (BJ m k)::M) (by exact Ab.fin hs);obtain⟨i,h1,h2⟩:=hi.hit hg hnd;refine Ak rfl ?_
  repeat (first|with_reducible refine Aa ?_|((with_reducible refine A2 ?_);first|refine Ah hs ?_|fail)|fail)
  refine AG (GN hs (by omega)) λe w ⟨he,hs⟩=>⟨_,_,he,?_⟩;simp only[Option.getD_some,h1] at hs;rw[<- hhas];obtain⟨_,_,_,_,hlt⟩:=KL h1;refine⟨rfl,IP h2 ?_ (by exact Ab.fin hs)⟩;rw[List.length_eraseIdx,if_pos hlt];simp;omega
theorem A08(h:Ab W w L)[hA:At L b (ghR b room N ks) F](hz:k.size<4611686018427387904)(hb:N<700000000):Calls PR 126 #[pq b 0,.s k] w λe w'=>e = .returned (.tuple #[.s (Adu room ks k),.b (Yl room ks k)])/\Ab W w' (F (ghR b room (N+1) (Awn room ks k))):=by
 refine At.call1 (hA:=hA) h λM hs=>?_;clear h hA;refine c1 (cw ⟨mixed,Tryz.func126,rfl⟩ Ajh ?_);refine Ac rfl ?_;refine Am (UZ hs hz (by omega)) λe w ⟨he,hs⟩=>⟨_,he,?_⟩;obtain⟨lb,xb,row,free,m,hi,hN,hs⟩:=K0 hs;have hl:=hi.len;have hk:k∉Ao ks k:=λh=>(AK.1 h).2 rfl;refine Al [blk b [.i room,pq lb 0,pq xb 0]] hs λw hs=>?_
 repeat (first|with_reducible refine Aa ?_|((with_reducible refine A2 ?_);first|refine Ah hs ?_|fail)|((with_reducible refine BY ?_);first|refine Aq ?_|fail)|((with_reducible refine Bf ?_);first|refine Af hs ?_|fail)|fail)
 refine Am (F4 hs (by omega)) λe w ⟨he,hs⟩=>⟨_,he,?_⟩
 repeat (first|((with_reducible refine Bf ?_);first|refine Af hs ?_|fail)|fail)
 refine Am (Vd hs hz hi.small_m (by omega)) λe w ⟨he,hs⟩=>⟨_,he,?_⟩;have hi2:=hi.push hk hz (JV row free);have hN2:(row++[(JV row free,k)]).length+free.dropLast.length<=N+1:=by simp;omega
 refine Al [blk b [.i room,pq lb 0,pq xb 0]] hs λw hs=>?_
 repeat (first|with_reducible refine Aa ?_|((with_reducible refine BY ?_);first|refine Aq ?_|fail)|fail)
 refine Am (Fc hs) λe w ⟨he,hs⟩=>⟨_,he,?_⟩
 repeat (first|((with_reducible refine Bf ?_);first|refine Af hs ?_|fail)|fail)
 rw[show(row++[(JV row free,k)]).length=(Ao ks k++[k]).length by rw[hi2.len.2]];have hs:=IP (b:=b) (room:=room) (lb:=lb) (xb:=xb) (M:=M) hi2 hN2 (by exact Ab.fin hs);refine Ap (λh1=>?_) (λh1=>?_)
 ·have h1:=of_decide_eq_true h1;have e1:Awn room ks k=Ao ks k++[k]:=if_pos h1;have e2:Adu room ks k=Ae:=if_pos h1;have e3:Yl room ks k=false:=by unfold Yl;rw[decide_eq_true h1];rfl
  rw[e1,e2,e3];exact⟨rfl,hs⟩
 ·have h1:=of_decide_eq_false h1;have hnd:=(An7 hs).1;have hsm:=(An7 hs).2.2;obtain⟨x,t,hx⟩:∃x t,Ao ks k++[k]=x::t:=by
   cases hc:Ao ks k++[k] with
   | nil=>simp at hc
   | cons x t=>exact⟨x,t,rfl⟩
  have e1:Awn room ks k=t:=by unfold Awn;rw[if_neg h1,hx];rfl
  have e2:Adu room ks k=x:=by unfold Adu;rw[if_neg h1,hx];rfl
  have e3:Yl room ks k=true:=by unfold Yl;rw[decide_eq_false h1];rfl
  rw[e1,e2,e3];rw[hx] at hs hnd hsm;obtain⟨lb,xb,row,free,m,hi,hN,hs⟩:=K0 hs;refine Al [blk b [.i room,pq lb 0,pq xb 0]] hs λw hs=>?_
  repeat (first|with_reducible refine Aa ?_|((with_reducible refine A2 ?_);first|refine Ah hs ?_|fail)|((with_reducible refine BY ?_);first|refine Aq ?_|fail)|((with_reducible refine Bf ?_);first|refine Af hs ?_|fail)|fail)
  refine Am (DM hs) λe w ⟨he,hs⟩=>⟨_,he,?_⟩
  repeat (first|((with_reducible refine Bf ?_);first|refine Af hs ?_|fail)|fail)
  refine AG (Fb hs) λe w ⟨he,hs⟩=>⟨_,_,he,?_⟩;have hndr:=Hg (mk:=.string) (b:=lb) (row:=row) (free:=free) (M:=blk b [.i room,pq lb 0,pq xb 0]::ixr (Rec.int .i64) xb 0 m::M) (by exact Ab.fin hs);obtain⟨p,rest,hrow⟩:∃p rest,row=(p,x)::rest:=by
   have:=hi.keys;cases hc:row with
   | nil=>rw[hc] at this;cases this
   | cons e r=>
    rw[hc] at this;rw[List.map_cons,List.cons.injEq] at this;exact⟨e.1,r,by rw[<- this.1]⟩
  have hat:IW row ((AS row 0:Nat):Int)=some 0:=by
   have h0:AS row 0=p:=by rw[hrow];rfl
   rw[h0];exact JJ hndr (i:=0) (e:=(p,x)) (by rw[hrow];rfl)
  have hval:EY row ((AS row 0:Nat):Int)=some x:=by
   unfold EY;rw[hat,hrow];rfl
  rw[hval,hat];have hs:=IP (b:=b) (room:=room) (lb:=lb) (xb:=xb) (M:=M) hi hN (by exact Ab.fin hs);have hzx:x.size<4611686018427387904:=hsm x (by simp);refine Am (UZ hs hzx (by omega)) λe w ⟨he,hs⟩=>⟨_,he,?_⟩;simp only[Option.getD_some] at hs;rw[J6 hnd] at hs;exact⟨rfl,hs⟩
theorem A09(hs:Ab W w L){r:Int}:Calls PR 147 #[.i r] w λe w'=>∃b,e = .returned (pq b 0)/\Ab W w' (ghR b (Zw r) 0 []::L):=by
 refine(cw ⟨mixed,Tryz.func147,rfl⟩ Aj0 (Q:=λv w'=>∃b,v=pq b 0/\Ab W w' (ghR b (Zw r) 0 []::L)) ?_).mono λe w' ⟨v,he,b,hv,hs⟩=>⟨b,by rw[he,hv],hs⟩;refine Am (Dn hs _ _ _) λe w ⟨he,hs⟩=>⟨_,he,?_⟩;refine(HU hs).mono λe w ⟨lb,he,hs⟩=>⟨_,he,?_⟩;refine(Adv hs).mono λe w ⟨xb,he,hs⟩=>⟨_,he,?_⟩
 repeat (first|((with_reducible refine CC ?_);first|refine Ai hs λb_ w hs=>?_|fail)|fail)
 exact⟨_,rfl,IP (lb:=lb) (xb:=xb) (row:=[]) (free:=[]) (m:=[]) ⟨rfl,by simp,List.Perm.refl _,by simp⟩ (Nat.le_refl _) (by exact Ab.fin hs)⟩
end
end Go.Proofs.YtjipofkjmmpjdaaGreat
namespace Go.Hb
def VG(b n:Nat):HP:=JU λ(z:Int×BL)=>ghR b z.1 n z.2
def Gh(b:Nat):HP:=JU λ(z:Int×Int×Int)=>ED ((0<=z.1/\z.1<=16777216)/\0<=z.2.1/\0<=z.2.2) (blk b [.i z.1,.i z.2.1,.i z.2.2])
abbrev cW(b:Nat)(k:Int)(t e g:Nat)(x0 x1 x2 x3 x4 x5:Int):HP:=blk b [.i k,.iface t (pq e 0),pq g 0,.i x0,.i x1,.i x2,.i x3,.i x4,.i x5]
structure P6(x0 x1 x2 x3 x4 x5:Int):Prop where
 h0:0<=x0
 h1:0<=x1
 h2:0<=x2
 h3:0<=x3
 h4:0<=x4
 h5:0<=x5
def BM(b n:Nat):HP:=JU λ(z:(Int×Nat×Nat×Nat)×(Int×BL)×(Int×Int×Int×Int×Int×Int))=>ED (P6 z.2.2.1 z.2.2.2.1 z.2.2.2.2.1 z.2.2.2.2.2.1 z.2.2.2.2.2.2.1 z.2.2.2.2.2.2.2)
 (AF [cW b z.1.1 z.1.2.1 z.1.2.2.1 z.1.2.2.2 z.2.2.1 z.2.2.2.1 z.2.2.2.2.1 z.2.2.2.2.2.1 z.2.2.2.2.2.2.1 z.2.2.2.2.2.2.2,eg z.1.2.1 z.1.2.2.1 z.2.1.1 z.2.1.2,VG z.1.2.2.2 n])
def Rk(l:List Nat)(n:Nat):HP:=AF (l.map λb=>BM b n)
def E7(b n:Nat):HP:=JU λ(z:(Nat×Int)×List Nat)=>ED (z.2.length=5) (AF [blk b (pq z.1.1 0::.i z.1.2::z.2.map λq=>pq q 0),Gh z.1.1,Rk z.2 n])
section
variable{W w:World}{M L:List HP}{b n m:Nat}
theorem An9(hn:n<=m)(h:Ab W w (VG b n::M)):Ab W w (VG b m::M):=by
 obtain⟨⟨r,ks⟩,h⟩:=h.openE;obtain⟨lb,xb,row,free,mm,h1,h2,h⟩:=K0 h;exact Ab.shutE (r,ks) (IP h1 (by omega) h)
theorem YU(h:Ab W w (Gh b::M)):∃r a t:Int,((0<=r/\r<=16777216)/\0<=a/\0<=t)/\Ab W w (blk b [.i r,.i a,.i t]::M):=by
 obtain⟨⟨r,a,t⟩,h⟩:=h.openE;obtain⟨hp,h⟩:=h.openA;exact⟨r,a,t,hp,h⟩
theorem KX{r a t:Int}(hp:(0<=r/\r<=16777216)/\0<=a/\0<=t)(h:Ab W w (blk b [.i r,.i a,.i t]::M)):Ab W w (Gh b::M):=Ab.shutE (r,a,t) (Ab.shutA hp h)
theorem QA(h:Ab W w (BM b n::M)):∃(k:Int) (t e g:Nat) (c:Int) (R:BL) (x0 x1 x2 x3 x4 x5:Int),P6 x0 x1 x2 x3 x4 x5/\Ab W w (cW b k t e g x0 x1 x2 x3 x4 x5::eg t e c R::VG g n::M):=by
 obtain⟨⟨⟨k,t,e,g⟩,⟨c,R⟩,x0,x1,x2,x3,x4,x5⟩,h⟩:=h.openE;obtain⟨hp,h⟩:=h.openA;exact⟨k,t,e,g,c,R,x0,x1,x2,x3,x4,x5,hp,h.openL⟩
theorem IB{k:Int}{t e g:Nat}{c:Int}{R:BL}{x0 x1 x2 x3 x4 x5:Int}(hp:P6 x0 x1 x2 x3 x4 x5)(h:Ab W w (cW b k t e g x0 x1 x2 x3 x4 x5::eg t e c R::VG g n::M)):Ab W w (BM b n::M):=
 Ab.shutE ((k,t,e,g),(c,R),x0,x1,x2,x3,x4,x5) (Ab.shutA hp (Ab.shutL (Ps:=[_,_,_]) h))
theorem Gd(hn:n<=m)(h:Ab W w (BM b n::M)):Ab W w (BM b m::M):=by
 obtain⟨k,t,e,g,c,R,x0,x1,x2,x3,x4,x5,hp,hs⟩:=QA h;have hs:Ab W w (VG g n::cW b k t e g x0 x1 x2 x3 x4 x5::eg t e c R::M):=by exact Ab.fin hs
 have hs:=An9 hn hs;exact IB (c:=c) (R:=R) (t:=t) (e:=e) (g:=g) (k:=k) hp (by exact Ab.fin hs)
theorem KI(h:Ab W w (E7 b n::M)):∃(sb:Nat) (r:Int) (l:List Nat),l.length=5/\Ab W w (blk b (pq sb 0::.i r::l.map λq=>pq q 0)::Gh sb::Rk l n::M):=by
 obtain⟨⟨⟨sb,r⟩,l⟩,h⟩:=h.openE;obtain⟨hp,h⟩:=h.openA;exact⟨sb,r,l,hp,h.openL⟩
theorem KJ{sb:Nat}{r:Int}{l:List Nat}(hp:l.length=5)(h:Ab W w (blk b (pq sb 0::.i r::l.map λq=>pq q 0)::Gh sb::Rk l n::M)):Ab W w (E7 b n::M):=
 Ab.shutE ((sb,r),l) (Ab.shutA hp (Ab.shutL (Ps:=[_,_,_]) h))
end
end Go.Hb
namespace Go.Proofs.YtjipofkjmmpjdaaGreat
open Go.Hb Go.IntWalk
section
variable{W w:World}{L M:List HP}{b n:Nat}{key:BA}
theorem YP{l:List Value}{i:Nat}{x:Value}(h:l[i]? = some x):l.set i x=l:=by
 apply List.ext_getElem?;intro j
 by_cases hj:i=j
 ·subst hj;rw[List.getElem?_set_self (List.getElem?_eq_some_iff.1 h).1,h]
 ·rw[List.getElem?_set_ne hj]
theorem Ix{a b:Int}(h:0<=a):0<=EE a b:=by unfold EE;split <;> omega
theorem Aio{i:Nat}{cs:List Value}{x y z:Int}{hit gone:Bool}(hs:Ab W w (blk b cs::L))(h0:cs[i]? = some (.i x))(h1:cs[i+1]? = some (.i y))(h2:cs[i+2]? = some (.i z))(hx:0<=x)(hy:0<=y)(hz:0<=z) :
  Calls PR 125 #[pq b i,.b hit,.b gone] w λe w'=>e = .returned (.tuple #[])/\∃x' y' z':Int,(0<=x'/\0<=y'/\0<=z')/\Ab W w' (blk b (((cs.set i (.i x')).set (i+1) (.i y')).set (i+2) (.i z'))::L):=by
 refine(cw ⟨mixed,Tryz.func125,rfl⟩ Ajg (Q:=λv w'=>v = .tuple #[]/\∃x' y' z':Int,(0<=x'/\0<=y'/\0<=z')/\Ab W w' (blk b (((cs.set i (.i x')).set (i+1) (.i y')).set (i+2) (.i z'))::L)) ?_).mono λe w' ⟨v,he,hv,h⟩=>⟨by rw[he,hv],h⟩;have l0:=(List.getElem?_eq_some_iff.1 h0).1;have l1:=(List.getElem?_eq_some_iff.1 h1).1;have l2:=(List.getElem?_eq_some_iff.1 h2).1;refine Aa (Ah hs ?_ (hc:=h0));refine Am (Iw hs (by omega) (by omega)) λe w ⟨he,hs⟩=>⟨_,he,?_⟩;refine Aa (HY 0 hs rfl l0 λw hs=>?_);have hs:Ab W w (blk b (cs.set i (.i (EE x 1099511627776)))::L):=hs
 have hx':0<=EE x 1099511627776:=Ix hx;generalize EE x 1099511627776=x' at *;have g1:(cs.set i (.i x'))[i+1]? = some (.i y):=by rw[List.getElem?_set_ne (by omega)];exact h1
 have last:∀(w:World)(y':Int),0<=y'->Ab W w (blk b ((cs.set i (.i x')).set (i+1) (.i y'))::L)->TX Be (λv w'=>v = .tuple #[]/\∃x' y' z':Int,(0<=x'/\0<=y'/\0<=z')/\Ab W w' (blk b (((cs.set i (.i x')).set (i+1) (.i y')).set (i+2) (.i z'))::L)) (some ⟨b,i,none⟩) gone w:=by
  clear hs;intro w y' hy' hs;refine jw Wp ?_;have g2:((cs.set i (.i x')).set (i+1) (.i y'))[i+2]? = some (.i z):=by rw[List.getElem?_set_ne (by omega),List.getElem?_set_ne (by omega)];exact h2
  refine Ap (λ_=>?_) (λ_=>?_)
  ·refine Aa (Ah hs ?_ (hc:=g2));refine Am (Iw hs (by omega) (by omega)) λe w ⟨he,hs⟩=>⟨_,he,?_⟩;refine Aa (HY 0 hs rfl (by simp;omega) λw hs=>?_)
   exact⟨rfl,x',y',_,⟨hx',hy',Ix hz⟩,hs⟩
  ·refine⟨rfl,x',y',z,⟨hx',hy',hz⟩,?_⟩;rw[show((cs.set i (.i x')).set (i+1) (.i y')).set (i+2) (.i z)=(cs.set i (.i x')).set (i+1) (.i y') from YP g2];exact hs
 refine Ap (λ_=>?_) (λ_=>?_)
 ·refine Aa (Ah hs ?_ (hc:=g1));refine Am (Iw hs (by omega) (by omega)) λe w ⟨he,hs⟩=>⟨_,he,?_⟩;refine Aa (HY 0 hs rfl (by simp;omega) λw hs=>?_)
  exact last w _ (Ix hy) hs
 ·refine last w y hy ?_;rw[show(cs.set i (.i x')).set (i+1) (.i y)=cs.set i (.i x') from YP g1];exact hs
theorem A2h(hs:Ab W w L){r:Int}:AZ PR 73 #[.i r] w λv w'=>∃b,v=pq b 0/\Ab W w' (Gh b::L):=by
 refine cw ⟨mixed,Tryz.func73,rfl⟩ Avw ?_;refine Am (Dn hs _ _ _) λe w ⟨he,hs⟩=>⟨_,he,?_⟩;refine Ai hs λb w hs=>⟨b,rfl,KX ⟨FB r (by omega),by omega,by omega⟩ hs⟩
theorem Axx{c:Int}(hs:Ab W w (Gh b::M)):AZ PR 106 #[pq b 0,.i c] w λv w'=>∃x:Int,v = .i x/\Ab W w' (Gh b::M):=by
 refine cw ⟨mixed,Tryz.func106,rfl⟩ Ai3 ?_;refine Ac rfl ?_;obtain⟨r,a,t,hp,hs⟩:=YU hs;refine Al [blk b [.i r,.i a,.i t]] hs λw hs=>?_;refine Aa (Aq ?_);refine Am (Dn hs _ _ _) λe w ⟨he,hs⟩=>⟨_,he,Af hs ?_⟩;exact Aw (by decide) ⟨_,rfl,KX hp hs⟩
theorem Ap2(hz:key.size<64)(hs:Ab W w (Gh b::M)):AZ PR 87 #[pq b 0,.s key] w λv w'=>∃x:Bool,v = .b x/\Ab W w' (Gh b::M):=by
 refine cw ⟨mixed,Tryz.func87,rfl⟩ Awa ?_;refine Ac rfl ?_;obtain⟨r,a,t,hp,hs⟩:=YU hs;refine Aa (Ah hs ?_);refine Am (Iw hs (by omega) (by omega)) λe w ⟨he,hs⟩=>⟨_,he,?_⟩;refine Aa (A4 hs λw hs=>?_);refine Al [blk b [.i r,.i (EE a 1099511627776),.i t]] hs λw hs=>?_;refine Aa (Aq ?_);refine Am (Gs hs (by omega)) λe w ⟨he,hs⟩=>⟨_,he,Af hs ?_⟩;have hS:∀{x y:Int},AZ PR 123 #[.int .u64 x,.i y] w λv w'=>∃z:Bool,v = .b z/\Ab W w' (blk b [.i r,.i (EE a 1099511627776),.i t]::M):=by
  intro x y;refine cw ⟨mixed,Tryz.func123,rfl⟩ Aje ?_;exact Aw (by decide) ⟨_,rfl,hs⟩
 clear hs;refine Ag hS λv w ⟨x,hv,hs⟩=>⟨_,hv,?_⟩;have hp2:0<=EE a 1099511627776:=Ix hp.2.1;refine Ap (λ_=>⟨_,rfl,KX ⟨hp.1,hp2,hp.2.2⟩ hs⟩) (λ_=>?_);refine Aa (Ah hs ?_);refine Am (Iw hs (by omega) (by omega)) λe w ⟨he,hs⟩=>⟨_,he,?_⟩;refine Aa (A4 hs λw hs=>?_);exact⟨_,rfl,KX ⟨hp.1,hp2,Ix hp.2.2⟩ hs⟩
theorem QK{k r:Int}(hk:0<=k/\k<5)(hs:Ab W w L):AZ PR 107 #[.i k,.i r] w λv w'=>∃b,v = .tuple #[pq b 0,.i 0]/\Ab W w' (BM b 0::L):=by
 refine cw ⟨mixed,Tryz.func107,rfl⟩ Ai4 ?_;refine TQ hs (λh=>by omega) (λ_ _ t e w hs=>?_);refine Ac rfl ?_;refine Am (A09 hs) λe_ w ⟨g,he,hs⟩=>⟨_,he,?_⟩;have hs:Ab W w (VG g 0::eg t e (AT r) []::L):=Ab.shutE (Zw r,[]) hs;refine Ai hs λb w hs=>⟨b,rfl,IB (t:=t) (e:=e) (g:=g) (k:=k) (c:=AT r) (R:=[]) (x0:=0) (x1:=0) (x2:=0) (x3:=0) (x4:=0) (x5:=0) ⟨by decide,by decide,by decide,by decide,by decide,by decide⟩ (by exact Ab.fin hs)⟩
theorem An8(hb:n<600000000)(hz:key.size<64)(hs:Ab W w (VG b n::M)):AZ PR 124 #[pq b 0,.s key] w λv w'=>∃x:Bool,v = .b x/\Ab W w' (VG b n::M):=by
 obtain⟨⟨r,ks⟩,hs⟩:=hs.openE;exact Calls.mono (UZ (k:=key) hs (by omega) (by omega)) λe w ⟨he,hs⟩=>⟨_,he,_,rfl,Ab.shutE (r,_) hs⟩
theorem Awo(hb:n<600000000)(hz:key.size<64)(hs:Ab W w (VG b n::M)):AZ PR 126 #[pq b 0,.s key] w λv w'=>∃(x:BA) (y:Bool),v = .tuple #[.s x,.b y]/\Ab W w' (VG b (n+1)::M):=by
 obtain⟨⟨r,ks⟩,hs⟩:=hs.openE;exact Calls.mono (A08 (k:=key) hs (by omega) (by omega)) λe w ⟨he,hs⟩=>⟨_,he,_,_,rfl,Ab.shutE (r,_) hs⟩
theorem Hu(hb:n<600000000)(hz:key.size<64)(hs:Ab W w (BM b n::M)):AZ PR 88 #[pq b 0,.s key] w λv w'=>∃x:Bool,v = .b x/\Ab W w' (BM b (n+1)::M):=by
 refine cw ⟨mixed,Tryz.func88,rfl⟩ Awb ?_;refine Ac rfl ?_;obtain⟨k,t,e,g,c,R,x0,x1,x2,x3,x4,x5,hp,hs⟩:=QA hs;refine Aa (EK hs ?_);have hs:Ab W w (eg t e c R::cW b k t e g x0 x1 x2 x3 x4 x5::VG g n::M):=hs.perm (List.Perm.swap _ _ _);have hok:=Aiv hs;refine GW hz hs λf hf=>AH hf λv w ⟨hit,l,G,S,hv,ha,hs⟩=>⟨_,_,hv,?_⟩;have hle:=ha.acc.le1;have hGz:∀x∈G,x.size<64:=λx hx=>hok.small x (ha.acc.sub x hx);have hs:Ab W w (cW b k t e g x0 x1 x2 x3 x4 x5::eg t e c S::VG g n::recs Rec.str l G::M):=by exact Ab.fin hs
 have hll:=Bg (s:=l) (E:=Rec.str) (rows:=G) hs;have j1:∀(w:World)(back:Bool),Ab W w (cW b k t e g x0 x1 x2 x3 x4 x5::eg t e c S::VG g n::recs Rec.str l G::M)->Aag Be (λv w'=>∃x:Bool,v = .b x/\Ab W w' (BM b (n+1)::M)) (some ⟨b,0,none⟩) hit l back w:=by
  clear hs;intro w back hs;refine jw Aah ?_;refine Aa ?_;refine Ar (Aio (i:=0+3) hs rfl rfl rfl hp.h0 hp.h1 hp.h2) λe_ w ⟨he,y0,y1,y2,hy,hs⟩=>⟨he,?_⟩;have hs:Ab W w (cW b k t e g y0 y1 y2 x3 x4 x5::eg t e c S::VG g n::recs Rec.str l G::M):=hs;refine Aa ?_;refine Ar (Aio (i:=0+6) hs rfl rfl rfl hp.h3 hp.h4 hp.h5) λe_ w ⟨he,y3,y4,y5,hy2,hs⟩=>⟨he,?_⟩;have hs:Ab W w (cW b k t e g y0 y1 y2 y3 y4 y5::eg t e c S::VG g n::recs Rec.str l G::M):=hs;have hp2:P6 y0 y1 y2 y3 y4 y5:=⟨hy.1,hy.2.1,hy.2.2,hy2.1,hy2.2.1,hy2.2.2⟩;have hG:G=[]\/∃x,G=[x]:=by
   cases G with
   | nil=>exact .inl rfl
   | cons x t=>exact .inr ⟨x,by cases t with
    | nil=>rfl
    | cons y t=>simp at hle⟩
  rcases hG with hG|⟨x,hG⟩
  ·rw[hG] at hs hll;refine AJ 1 ?_;rw[J4];refine Ac (decide_eq_false (by simp at hll;omega)) ?_
   refine jw Px ?_;exact⟨_,rfl,Gd (Nat.le_succ n) (IB (t:=t) (e:=e) (g:=g) (k:=k) (c:=c) (R:=S) hp2 (by exact Ab.fin hs))⟩
  ·rw[hG] at hs hll hGz;have hl1:l.n=1:=by simpa using hll
   refine AJ 2 ?_;rw[J4];refine Ak (decide_eq_true (by omega)) ?_;refine BU (s:=l) (E:=Rec.str) (rows:=[x]) hs λb_ o_ ha_=>?_;refine Cw (s:=l) (E:=Rec.str) (rows:=[x]) ha_ hs ?_;refine Aa (Ah hs ?_);have hs:Ab W w (VG g n::cW b k t e g y0 y1 y2 y3 y4 y5::eg t e c S::recs Rec.str l [x]::M):=by exact Ab.fin hs
   refine AH (Awo (key:=x) hb (hGz x (.head _)) hs) λv w ⟨z1,z2,hv,hs⟩=>⟨_,_,hv,?_⟩;rw[J4];refine Ac (decide_eq_false ?_) ?_
   ·rw[show IntKind.wrap .i64 ((0:Int)+1)=1 from rfl];omega
   refine jw Px ?_;exact⟨_,rfl,IB (t:=t) (e:=e) (g:=g) (k:=k) (c:=c) (R:=S) hp2 (by exact Ab.fin hs)⟩
 refine Ap (λ_=>?_) (λ_=>j1 w false hs);refine Aa (Ah hs ?_);have hs:Ab W w (VG g n::cW b k t e g x0 x1 x2 x3 x4 x5::eg t e c S::recs Rec.str l G::M):=by exact Ab.fin hs
 refine Ag (An8 hb hz hs) λv w ⟨x,hv,hs⟩=>⟨_,hv,j1 w x (by exact Ab.fin hs)⟩
theorem IC(hs:Ab W w (BM b n::M)):AZ PR 103 #[pq b 0] w λv w'=>∃x y z:Int,v = .agg #[.i x,.i y,.i z]/\Ab W w' (BM b n::M):=by
 refine cw ⟨mixed,Tryz.func103,rfl⟩ Ai0 ?_;refine Ai hs λb1 w hs=>?_;refine Ac rfl ?_;have hs:Ab W w (BM b n::blk b1 [.i (0:Int),.i (0:Int),.i (0:Int)]::M):=hs.perm (List.Perm.swap _ _ _);obtain⟨k,t,e,g,c,R,x0,x1,x2,x3,x4,x5,hp,hs⟩:=QA hs;refine Aa (Ah hs (Ah hs (Ah hs ?_)));refine Ai hs λb2 w hs=>?_
 iterate 3 refine A4 hs λw hs=>?_
 refine Aa ?_
 iterate 3 refine A4 hs λw hs=>?_
 iterate 3 refine Ah hs ?_
 iterate 3 refine A4 hs λw hs=>?_
 iterate 3 refine Ah hs ?_
 exact⟨_,_,_,rfl,IB (t:=t) (e:=e) (g:=g) (k:=k) (c:=c) (R:=R) (x0:=0) (x1:=0) (x2:=0) ⟨by decide,by decide,by decide,hp.h3,hp.h4,hp.h5⟩ (by exact Ab.fin hs)⟩
theorem Tr(hb:n<600000000)(hz:key.size<64)(hs:Ab W w (E7 b n::M)):AZ PR 52 #[pq b 0,.s key] w λv w'=>∃x:Bool,v = .b x/\Ab W w' (E7 b (n+1)::M):=by
 refine cw ⟨mixed,Tryz.func52,rfl⟩ Avf ?_;refine Ac rfl ?_;obtain⟨sb,r,l,hl,hs⟩:=KI hs;obtain⟨q0,q1,q2,q3,q4,rfl⟩:∃a b c d e,l=[a,b,c,d,e]:=by
  match l,hl with
  | [a,b,c,d,e],_=>exact⟨a,b,c,d,e,rfl⟩
 have hs:=(show Ab W w (Rk [q0,q1,q2,q3,q4] n::blk b [pq sb 0,.i r,pq q0 0,pq q1 0,pq q2 0,pq q3 0,pq q4 0]::Gh sb::M) by exact Ab.fin hs).openL;have hs:Ab W w (BM q0 n::BM q1 n::BM q2 n::BM q3 n::BM q4 n::blk b [pq sb 0,.i r,pq q0 0,pq q1 0,pq q2 0,pq q3 0,pq q4 0]::Gh sb::M):=hs;have back:∀w m,n<=m->Ab W w (BM q0 m::BM q1 m::BM q2 m::BM q3 m::BM q4 m::blk b [pq sb 0,.i r,pq q0 0,pq q1 0,pq q2 0,pq q3 0,pq q4 0]::Gh sb::M)->Ab W w (E7 b m::M):=λw m _ hs=>by
  have hs:=Ab.shutL (Ps:=[BM q0 m,BM q1 m,BM q2 m,BM q3 m,BM q4 m]) hs;have hs:Ab W w (Rk [q0,q1,q2,q3,q4] m::blk b [pq sb 0,.i r,pq q0 0,pq q1 0,pq q2 0,pq q3 0,pq q4 0]::Gh sb::M):=hs;exact KJ (l:=[q0,q1,q2,q3,q4]) (r:=r) (sb:=sb) rfl (by exact Ab.fin hs)
 refine Aa (Ah hs ?_);have hs:Ab W w (Gh sb::BM q0 n::BM q1 n::BM q2 n::BM q3 n::BM q4 n::blk b [pq sb 0,.i r,pq q0 0,pq q1 0,pq q2 0,pq q3 0,pq q4 0]::M):=by exact Ab.fin hs
 refine Ag (Ap2 hz hs) λv w ⟨x,hv,hs⟩=>⟨_,hv,?_⟩;have hs:Ab W w (BM q0 n::BM q1 n::BM q2 n::BM q3 n::BM q4 n::blk b [pq sb 0,.i r,pq q0 0,pq q1 0,pq q2 0,pq q3 0,pq q4 0]::Gh sb::M):=by exact Ab.fin hs
 refine Ap (λ_=>⟨_,rfl,back w (n+1) (Nat.le_succ n) ?_⟩) (λ_=>?_)
 ·have hs:=Gd (Nat.le_succ n) hs;have hs:=Gd (Nat.le_succ n) (show Ab W w (BM q1 n::BM q2 n::BM q3 n::BM q4 n::BM q0 (n+1)::blk b [pq sb 0,.i r,pq q0 0,pq q1 0,pq q2 0,pq q3 0,pq q4 0]::Gh sb::M) by exact Ab.fin hs);have hs:=Gd (Nat.le_succ n) (show Ab W w (BM q2 n::BM q3 n::BM q4 n::BM q0 (n+1)::BM q1 (n+1)::blk b [pq sb 0,.i r,pq q0 0,pq q1 0,pq q2 0,pq q3 0,pq q4 0]::Gh sb::M) by exact Ab.fin hs)
  have hs:=Gd (Nat.le_succ n) (show Ab W w (BM q3 n::BM q4 n::BM q0 (n+1)::BM q1 (n+1)::BM q2 (n+1)::blk b [pq sb 0,.i r,pq q0 0,pq q1 0,pq q2 0,pq q3 0,pq q4 0]::Gh sb::M) by exact Ab.fin hs);have hs:=Gd (Nat.le_succ n) (show Ab W w (BM q4 n::BM q0 (n+1)::BM q1 (n+1)::BM q2 (n+1)::BM q3 (n+1)::blk b [pq sb 0,.i r,pq q0 0,pq q1 0,pq q2 0,pq q3 0,pq q4 0]::Gh sb::M) by exact Ab.fin hs)
  exact Ab.fin hs
 refine jw ZM ?_;refine Aa ?_
 iterate 5 refine Ah hs ?_
 refine AJ 6 ?_;rw[EP];refine Ak (by decide) (Aw (by decide) ⟨some ⟨q0,0,none⟩,rfl,rfl,?_⟩);have hs:Ab W w (BM q0 n::BM q1 n::BM q2 n::BM q3 n::BM q4 n::blk b [pq sb 0,.i r,pq q0 0,pq q1 0,pq q2 0,pq q3 0,pq q4 0]::Gh sb::M):=by exact Ab.fin hs
 refine Ag (Hu hb hz hs) λv w ⟨x,hv,hs⟩=>⟨_,hv,?_⟩;rw[show IntKind.wrap .i64 ((0:Int)+1)=1 from rfl];rw[EP];refine Ak (by decide) (Aw (by decide) ⟨some ⟨q1,0,none⟩,rfl,rfl,?_⟩);have hs:Ab W w (BM q1 n::BM q0 (n+1)::BM q2 n::BM q3 n::BM q4 n::blk b [pq sb 0,.i r,pq q0 0,pq q1 0,pq q2 0,pq q3 0,pq q4 0]::Gh sb::M):=by exact Ab.fin hs
 refine Ag (Hu hb hz hs) λv w ⟨x,hv,hs⟩=>⟨_,hv,?_⟩;rw[show IntKind.wrap .i64 ((1:Int)+1)=2 from rfl];rw[EP];refine Ak (by decide) (Aw (by decide) ⟨some ⟨q2,0,none⟩,rfl,rfl,?_⟩);have hs:Ab W w (BM q2 n::BM q0 (n+1)::BM q1 (n+1)::BM q3 n::BM q4 n::blk b [pq sb 0,.i r,pq q0 0,pq q1 0,pq q2 0,pq q3 0,pq q4 0]::Gh sb::M):=by exact Ab.fin hs
 refine Ag (Hu hb hz hs) λv w ⟨x,hv,hs⟩=>⟨_,hv,?_⟩;rw[show IntKind.wrap .i64 ((2:Int)+1)=3 from rfl];rw[EP];refine Ak (by decide) (Aw (by decide) ⟨some ⟨q3,0,none⟩,rfl,rfl,?_⟩);have hs:Ab W w (BM q3 n::BM q0 (n+1)::BM q1 (n+1)::BM q2 (n+1)::BM q4 n::blk b [pq sb 0,.i r,pq q0 0,pq q1 0,pq q2 0,pq q3 0,pq q4 0]::Gh sb::M):=by exact Ab.fin hs
 refine Ag (Hu hb hz hs) λv w ⟨x,hv,hs⟩=>⟨_,hv,?_⟩;rw[show IntKind.wrap .i64 ((3:Int)+1)=4 from rfl];rw[EP];refine Ak (by decide) (Aw (by decide) ⟨some ⟨q4,0,none⟩,rfl,rfl,?_⟩);have hs:Ab W w (BM q4 n::BM q0 (n+1)::BM q1 (n+1)::BM q2 (n+1)::BM q3 (n+1)::blk b [pq sb 0,.i r,pq q0 0,pq q1 0,pq q2 0,pq q3 0,pq q4 0]::Gh sb::M):=by exact Ab.fin hs
 refine Ag (Hu hb hz hs) λv w ⟨x,hv,hs⟩=>⟨_,hv,?_⟩;rw[show IntKind.wrap .i64 ((4:Int)+1)=5 from rfl];rw[EP];refine Ac (by decide) ?_;refine jw ZN ?_;exact⟨_,rfl,back w (n+1) (Nat.le_succ n) (by exact Ab.fin hs)⟩
theorem Apj(hs:Ab W w (E7 b n::M)):AZ PR 59 #[pq b 0] w λv w'=>∃g0 g1 g2 g3 g4 all:Int,v = .tuple #[.agg #[.i g0,.i g1,.i g2,.i g3,.i g4],.i all]/\Ab W w' (E7 b n::M):=by
 refine cw ⟨mixed,Tryz.func59,rfl⟩ Avn ?_;refine Ai hs λgb w hs=>?_;refine Ac rfl ?_;have hs:Ab W w (E7 b n::blk gb [.i (0:Int),.i (0:Int),.i (0:Int),.i (0:Int),.i (0:Int)]::M):=hs.perm (List.Perm.swap _ _ _);obtain⟨sb,r,l,hl,hs⟩:=KI hs;obtain⟨q0,q1,q2,q3,q4,rfl⟩:∃a b c d e,l=[a,b,c,d,e]:=by
  match l,hl with
  | [a,b,c,d,e],_=>exact⟨a,b,c,d,e,rfl⟩
 have hs:=(show Ab W w (Rk [q0,q1,q2,q3,q4] n::blk gb [.i (0:Int),.i (0:Int),.i (0:Int),.i (0:Int),.i (0:Int)]::blk b [pq sb 0,.i r,pq q0 0,pq q1 0,pq q2 0,pq q3 0,pq q4 0]::Gh sb::M) by exact Ab.fin hs).openL;have hs:Ab W w (BM q0 n::BM q1 n::BM q2 n::BM q3 n::BM q4 n::blk gb [.i (0:Int),.i (0:Int),.i (0:Int),.i (0:Int),.i (0:Int)]::blk b [pq sb 0,.i r,pq q0 0,pq q1 0,pq q2 0,pq q3 0,pq q4 0]::Gh sb::M):=hs
 refine Aa ?_
 iterate 5 refine Ah hs ?_
 refine AJ 6 ?_;rw[ER];refine Ak (by decide) (Aw (by decide) ⟨some ⟨q0,0,none⟩,rfl,rfl,?_⟩);have hs:Ab W w (BM q0 n::BM q1 n::BM q2 n::BM q3 n::BM q4 n::blk gb [.i (0:Int),.i (0:Int),.i (0:Int),.i (0:Int),.i (0:Int)]::blk b [pq sb 0,.i r,pq q0 0,pq q1 0,pq q2 0,pq q3 0,pq q4 0]::Gh sb::M):=by exact Ab.fin hs
 refine Calls.mono (IC hs) λe_ w ⟨v,he,z0,z0',y0,hv,hs⟩=>⟨z0,z0',y0,by rw[he,hv],?_⟩;refine Ai hs λnb w hs=>?_;refine A4 hs λw hs=>A4 hs λw hs=>A4 hs λw hs=>?_;refine Al [blk nb [.i z0,.i z0',.i y0]] hs λw hs=>?_;refine Aq (Aq (Aw (by decide) ?_));refine A4 (o:=0) hs λw hs=>Af hs ?_;rw[show IntKind.wrap .i64 ((0:Int)+1)=1 from rfl];rw[ER];refine Ak (by decide) (Aw (by decide) ⟨some ⟨q1,0,none⟩,rfl,rfl,?_⟩);have hs:Ab W w (BM q1 n::BM q0 n::BM q2 n::BM q3 n::BM q4 n::blk gb [.i y0,.i (0:Int),.i (0:Int),.i (0:Int),.i (0:Int)]::blk b [pq sb 0,.i r,pq q0 0,pq q1 0,pq q2 0,pq q3 0,pq q4 0]::Gh sb::M):=by exact Ab.fin hs
 refine Calls.mono (IC hs) λe_ w ⟨v,he,z1,z1',y1,hv,hs⟩=>⟨z1,z1',y1,by rw[he,hv],?_⟩;refine Ai hs λnb w hs=>?_;refine A4 hs λw hs=>A4 hs λw hs=>A4 hs λw hs=>?_;refine Al [blk nb [.i z1,.i z1',.i y1]] hs λw hs=>?_;refine Aq (Aq (Aw (by decide) ?_));refine A4 (o:=1) hs λw hs=>Af hs ?_;rw[show IntKind.wrap .i64 ((1:Int)+1)=2 from rfl];rw[ER];refine Ak (by decide) (Aw (by decide) ⟨some ⟨q2,0,none⟩,rfl,rfl,?_⟩);have hs:Ab W w (BM q2 n::BM q0 n::BM q1 n::BM q3 n::BM q4 n::blk gb [.i y0,.i y1,.i (0:Int),.i (0:Int),.i (0:Int)]::blk b [pq sb 0,.i r,pq q0 0,pq q1 0,pq q2 0,pq q3 0,pq q4 0]::Gh sb::M):=by exact Ab.fin hs
 refine Calls.mono (IC hs) λe_ w ⟨v,he,z2,z2',y2,hv,hs⟩=>⟨z2,z2',y2,by rw[he,hv],?_⟩;refine Ai hs λnb w hs=>?_;refine A4 hs λw hs=>A4 hs λw hs=>A4 hs λw hs=>?_;refine Al [blk nb [.i z2,.i z2',.i y2]] hs λw hs=>?_;refine Aq (Aq (Aw (by decide) ?_));refine A4 (o:=2) hs λw hs=>Af hs ?_;rw[show IntKind.wrap .i64 ((2:Int)+1)=3 from rfl];rw[ER];refine Ak (by decide) (Aw (by decide) ⟨some ⟨q3,0,none⟩,rfl,rfl,?_⟩);have hs:Ab W w (BM q3 n::BM q0 n::BM q1 n::BM q2 n::BM q4 n::blk gb [.i y0,.i y1,.i y2,.i (0:Int),.i (0:Int)]::blk b [pq sb 0,.i r,pq q0 0,pq q1 0,pq q2 0,pq q3 0,pq q4 0]::Gh sb::M):=by exact Ab.fin hs
 refine Calls.mono (IC hs) λe_ w ⟨v,he,z3,z3',y3,hv,hs⟩=>⟨z3,z3',y3,by rw[he,hv],?_⟩;refine Ai hs λnb w hs=>?_;refine A4 hs λw hs=>A4 hs λw hs=>A4 hs λw hs=>?_;refine Al [blk nb [.i z3,.i z3',.i y3]] hs λw hs=>?_;refine Aq (Aq (Aw (by decide) ?_));refine A4 (o:=3) hs λw hs=>Af hs ?_;rw[show IntKind.wrap .i64 ((3:Int)+1)=4 from rfl];rw[ER];refine Ak (by decide) (Aw (by decide) ⟨some ⟨q4,0,none⟩,rfl,rfl,?_⟩);have hs:Ab W w (BM q4 n::BM q0 n::BM q1 n::BM q2 n::BM q3 n::blk gb [.i y0,.i y1,.i y2,.i y3,.i (0:Int)]::blk b [pq sb 0,.i r,pq q0 0,pq q1 0,pq q2 0,pq q3 0,pq q4 0]::Gh sb::M):=by exact Ab.fin hs
 refine Calls.mono (IC hs) λe_ w ⟨v,he,z4,z4',y4,hv,hs⟩=>⟨z4,z4',y4,by rw[he,hv],?_⟩;refine Ai hs λnb w hs=>?_;refine A4 hs λw hs=>A4 hs λw hs=>A4 hs λw hs=>?_;refine Al [blk nb [.i z4,.i z4',.i y4]] hs λw hs=>?_;refine Aq (Aq (Aw (by decide) ?_));refine A4 (o:=4) hs λw hs=>Af hs ?_;rw[show IntKind.wrap .i64 ((4:Int)+1)=5 from rfl];rw[ER];refine Ac (by decide) ?_;refine jw ZV ?_
 iterate 5 refine Ah hs ?_
 iterate 5 refine A4 hs λw hs=>?_
 iterate 5 refine Ah hs ?_
 have hs:=Ab.shutL (Ps:=[BM q0 n,BM q1 n,BM q2 n,BM q3 n,BM q4 n]) (M:=blk b [pq sb 0,.i r,pq q0 0,pq q1 0,pq q2 0,pq q3 0,pq q4 0]::Gh sb::M) (by exact Ab.fin hs);have hs:Ab W w (Rk [q0,q1,q2,q3,q4] n::blk b [pq sb 0,.i r,pq q0 0,pq q1 0,pq q2 0,pq q3 0,pq q4 0]::Gh sb::M):=hs;exact⟨_,_,_,_,_,_,rfl,KJ (l:=[q0,q1,q2,q3,q4]) (r:=r) (sb:=sb) rfl (by exact Ab.fin hs)⟩
theorem Aea{sb:Nat}{r c:Int}{vs:List Value}(hv5:vs.length=5)(hs:Ab W w (blk b (pq sb 0::.i r::vs)::Gh sb::M)):AZ PR 64 #[pq b 0,.i c] w λv w'=>v = .tuple #[]/\Ab W w' (E7 b 0::M):=by
 refine cw ⟨mixed,Tryz.func64,rfl⟩ Avs ?_;refine Ac rfl ?_;obtain⟨v0,v1,v2,v3,v4,rfl⟩:∃a b c d e,vs=[a,b,c,d,e]:=by
  match vs,hv5 with
  | [a,b,c,d,e],_=>exact⟨a,b,c,d,e,rfl⟩
 refine Aa (Ah hs ?_);have hs:Ab W w (Gh sb::blk b [pq sb 0,.i r,v0,v1,v2,v3,v4]::M):=hs.perm (List.Perm.swap _ _ _);refine Ag (Axx hs) λv w ⟨x,hv,hs⟩=>⟨_,hv,?_⟩;refine Aa (A4 hs λw hs=>?_);refine AJ 6 ?_;rw[ES];refine Ak (by decide) ?_;have hs:Ab W w (blk b [pq sb 0,.i x,v0,v1,v2,v3,v4]::Gh sb::M):=by exact Ab.fin hs
 refine A9 hs λw hs=>Aa (Aa (Ah hs ?_));refine AH (QK (by decide) hs) λv w ⟨q0,hv,hs⟩=>⟨_,_,hv,Aw (by decide) ?_⟩;refine A4 (o:=2) hs λw hs=>?_;rw[show IntKind.wrap .i64 ((0:Int)+1)=1 from rfl];rw[ES];refine Ak (by decide) ?_;have hs:Ab W w (blk b [pq sb 0,.i x,pq q0 0,v1,v2,v3,v4]::BM q0 0::Gh sb::M):=by exact Ab.fin hs
 refine A9 hs λw hs=>Aa (Aa (Ah hs ?_));refine AH (QK (by decide) hs) λv w ⟨q1,hv,hs⟩=>⟨_,_,hv,Aw (by decide) ?_⟩;refine A4 (o:=3) hs λw hs=>?_;rw[show IntKind.wrap .i64 ((1:Int)+1)=2 from rfl];rw[ES];refine Ak (by decide) ?_;have hs:Ab W w (blk b [pq sb 0,.i x,pq q0 0,pq q1 0,v2,v3,v4]::BM q0 0::BM q1 0::Gh sb::M):=by exact Ab.fin hs
 refine A9 hs λw hs=>Aa (Aa (Ah hs ?_));refine AH (QK (by decide) hs) λv w ⟨q2,hv,hs⟩=>⟨_,_,hv,Aw (by decide) ?_⟩;refine A4 (o:=4) hs λw hs=>?_;rw[show IntKind.wrap .i64 ((2:Int)+1)=3 from rfl];rw[ES];refine Ak (by decide) ?_;have hs:Ab W w (blk b [pq sb 0,.i x,pq q0 0,pq q1 0,pq q2 0,v3,v4]::BM q0 0::BM q1 0::BM q2 0::Gh sb::M):=by exact Ab.fin hs
 refine A9 hs λw hs=>Aa (Aa (Ah hs ?_));refine AH (QK (by decide) hs) λv w ⟨q3,hv,hs⟩=>⟨_,_,hv,Aw (by decide) ?_⟩;refine A4 (o:=5) hs λw hs=>?_;rw[show IntKind.wrap .i64 ((3:Int)+1)=4 from rfl];rw[ES];refine Ak (by decide) ?_;have hs:Ab W w (blk b [pq sb 0,.i x,pq q0 0,pq q1 0,pq q2 0,pq q3 0,v4]::BM q0 0::BM q1 0::BM q2 0::BM q3 0::Gh sb::M):=by exact Ab.fin hs
 refine A9 hs λw hs=>Aa (Aa (Ah hs ?_));refine AH (QK (by decide) hs) λv w ⟨q4,hv,hs⟩=>⟨_,_,hv,Aw (by decide) ?_⟩;refine A4 (o:=6) hs λw hs=>?_;rw[show IntKind.wrap .i64 ((4:Int)+1)=5 from rfl];rw[ES];refine Ac (by decide) ?_;have hs:=Ab.shutL (Ps:=[BM q0 0,BM q1 0,BM q2 0,BM q3 0,BM q4 0]) (M:=blk b [pq sb 0,.i x,pq q0 0,pq q1 0,pq q2 0,pq q3 0,pq q4 0]::Gh sb::M) (by exact Ab.fin hs);have hs:Ab W w (Rk [q0,q1,q2,q3,q4] 0::blk b [pq sb 0,.i x,pq q0 0,pq q1 0,pq q2 0,pq q3 0,pq q4 0]::Gh sb::M):=hs
 exact⟨rfl,KJ (l:=[q0,q1,q2,q3,q4]) (r:=x) (sb:=sb) rfl (by exact Ab.fin hs)⟩
theorem Ag4{c:Int}(hs:Ab W w (E7 b n::M)):AZ PR 64 #[pq b 0,.i c] w λv w'=>v = .tuple #[]/\Ab W w' (E7 b 0::M):=by
 obtain⟨sb,r,l,hl,hs⟩:=KI hs;exact Aea (r:=r) (vs:=l.map λq=>pq q 0) (by simpa using hl) (by exact Ab.fin hs)
theorem A12{x c:Int}(hs:Ab W w L):AZ PR 46 #[.i x,.i c] w λv w'=>∃b,v=pq b 0/\Ab W w' (E7 b 0::L):=by
 refine cw ⟨mixed,Tryz.func46,rfl⟩ Au9 ?_;refine Ag (A2h hs) λv w ⟨sb,hv,hs⟩=>⟨_,hv,?_⟩;refine Ai hs λb w hs=>?_;refine AY (Aea (r:=0) (vs:=[.p none,.p none,.p none,.p none,.p none]) rfl hs) λv w ⟨hv,hs⟩=>⟨hv,b,rfl,hs⟩
end
end Go.Proofs.YtjipofkjmmpjdaaGreat
namespace Go.Proofs.YtjipofkjmmpjdaaGreat
open Go.Hb
section
variable(jn:Jn)(Q:VW)
abbrev M8:FuncId:=170
abbrev Iv:FuncId:=183
abbrev D8:FuncId:=201
def GJ:BA:=⟨#[0,1,2,2,3,3,3,3,4,4,4,4,4,4,4,4,5,5,5,5,5,5,5,5,5,5,5,5,5,5,5,5,6,6,6,6,6,6,6,6,6,6,6,6,6,6,6,6,6,6,6,6,6,6,6,6,6,6,6,6,6,6,6,6,7,7,7,7,7,7,7,7,7,7,7,7,7,7,7,7,7,7,7,7,7,7,7,7,7,7,7,7,7,7,7,7,7,7,7,7,7,7,7,7,7,7,7,7,7,7,7,7,7,7,7,7,7,7,7,7,7,7,7,7,7,7,7,7,8,8,8,8,8,8,8,8,8,8,8,8,8,8,8,8,8,8,8,8,8,8,8,8,8,8,8,8,8,8,8,8,8,8,8,8,8,8,8,8,8,8,8,8,8,8,8,8,8,8,8,8,8,8,8,8,8,8,8,8,8,8,8,8,8,8,8,8,8,8,8,8,8,8,8,8,8,8,8,8,8,8,8,8,8,8,8,8,8,8,8,8,8,8,8,8,8,8,8,8,8,8,8,8,8,8,8,8,8,8,8,8,8,8,8,8,8,8,8,8,8,8,8,8,8,8,8,8]⟩
def A1:KP:=⟨[(8,[0,1,2]),(12,[0,1,2]),(37,[2,8,9,10,11,13,14,15,16]),(38,[2,8,9,10,11,13,14,15,16]),(44,[2,8,9,10,11,13,14,15]),(51,[2,8,9,10,14,15,16,17,18]),(52,[2,8,9,10,14,15,16,17,18]),(58,[2,8,14,15,17,18])],[(6,[0,1,2,3,4,5,6,7])]⟩
def G0(y2:Int)(s8:Int)(un014:Int)(q115:Int)(un2117:Int)(q018:Int):WP:=jn 58 (λρ=>BD PR A1 jn (F0 (IE 18 [true]) (AQ Tryz.f170)) (Bi PR Tryz.f170 Q) A5 (Bi PR Tryz.f170 Q) ρ) (us 2 ((.int .u64 y2)::us 5 ((.int .u64 s8)::us 5 ((.int .u64 un014)::(.int .u64 q115)::us 1 ((.int .u64 un2117)::(.int .u64 q018)::us 116 [])))))
def Gz(m6:Nat)(y2:Int)(s8:Int)(yn19:Int)(yn010:Int)(un014:Int)(q115:Int)(rhat16:Int)(un2117:Int)(q018:Int):WP:=jn 52 (λρ=>BD PR A1 jn (F0 (IE 18 [false,false,false,true]) (AQ Tryz.f170)) (Ia PR A1 jn (F0 (IE 18 [false,false,false]) (AQ Tryz.f170)) (A6 2 (JN PR A1 jn (F0 (IE 18 [true]) (AQ Tryz.f170)) (Bi PR Tryz.f170 Q) A5 (Bi PR Tryz.f170 Q)) A5) (Bi PR Tryz.f170 Q) m6) (A6 2 (JN PR A1 jn (F0 (IE 18 [true]) (AQ Tryz.f170)) (Bi PR Tryz.f170 Q) A5 (Bi PR Tryz.f170 Q)) A5) (Bi PR Tryz.f170 Q) ρ) (us 2 ((.int .u64 y2)::us 5 ((.int .u64 s8)::(.int .u64 yn19)::(.int .u64 yn010)::us 3 ((.int .u64 un014)::(.int .u64 q115)::(.int .u64 rhat16)::(.int .u64 un2117)::(.int .u64 q018)::us 116 []))))
def G4(m6:Nat)(y2:Int)(s8:Int)(yn19:Int)(yn010:Int)(un014:Int)(q115:Int)(rhat16:Int)(un2117:Int)(q018:Int):WP:=CJ PR A1 jn (F0 (IE 18 [false,false,false]) (AQ Tryz.f170)) (A6 2 (JN PR A1 jn (F0 (IE 18 [true]) (AQ Tryz.f170)) (Bi PR Tryz.f170 Q) A5 (Bi PR Tryz.f170 Q)) A5) (Bi PR Tryz.f170 Q) m6 (us 2 ((.int .u64 y2)::us 5 ((.int .u64 s8)::(.int .u64 yn19)::(.int .u64 yn010)::us 3 ((.int .u64 un014)::(.int .u64 q115)::(.int .u64 rhat16)::(.int .u64 un2117)::(.int .u64 q018)::us 116 []))))
def Gy(y2:Int)(s8:Int)(yn19:Int)(yn010:Int)(un3211:Int)(un113:Int)(un014:Int)(q115:Int):WP:=jn 44 (λρ=>BD PR A1 jn (F0 (IE 14 [true]) (AQ Tryz.f170)) (Bi PR Tryz.f170 Q) A5 (Bi PR Tryz.f170 Q) ρ) (us 2 ((.int .u64 y2)::us 5 ((.int .u64 s8)::(.int .u64 yn19)::(.int .u64 yn010)::(.int .u64 un3211)::us 1 ((.int .u64 un113)::(.int .u64 un014)::(.int .u64 q115)::us 119 []))))
def Gx(m3:Nat)(y2:Int)(s8:Int)(yn19:Int)(yn010:Int)(un3211:Int)(un113:Int)(un014:Int)(q115:Int)(rhat16:Int):WP:=jn 38 (λρ=>BD PR A1 jn (F0 (IE 14 [false,false,false,true]) (AQ Tryz.f170)) (Ia PR A1 jn (F0 (IE 14 [false,false,false]) (AQ Tryz.f170)) (A6 0 (JN PR A1 jn (F0 (IE 14 [true]) (AQ Tryz.f170)) (Bi PR Tryz.f170 Q) A5 (Bi PR Tryz.f170 Q)) A5) (Bi PR Tryz.f170 Q) m3) (A6 0 (JN PR A1 jn (F0 (IE 14 [true]) (AQ Tryz.f170)) (Bi PR Tryz.f170 Q) A5 (Bi PR Tryz.f170 Q)) A5) (Bi PR Tryz.f170 Q) ρ) (us 2 ((.int .u64 y2)::us 5 ((.int .u64 s8)::(.int .u64 yn19)::(.int .u64 yn010)::(.int .u64 un3211)::us 1 ((.int .u64 un113)::(.int .u64 un014)::(.int .u64 q115)::(.int .u64 rhat16)::us 118 []))))
def G3(m3:Nat)(y2:Int)(s8:Int)(yn19:Int)(yn010:Int)(un3211:Int)(un113:Int)(un014:Int)(q115:Int)(rhat16:Int):WP:=CJ PR A1 jn (F0 (IE 14 [false,false,false]) (AQ Tryz.f170)) (A6 0 (JN PR A1 jn (F0 (IE 14 [true]) (AQ Tryz.f170)) (Bi PR Tryz.f170 Q) A5 (Bi PR Tryz.f170 Q)) A5) (Bi PR Tryz.f170 Q) m3 (us 2 ((.int .u64 y2)::us 5 ((.int .u64 s8)::(.int .u64 yn19)::(.int .u64 yn010)::(.int .u64 un3211)::us 1 ((.int .u64 un113)::(.int .u64 un014)::(.int .u64 q115)::(.int .u64 rhat16)::us 118 []))))
def MK(hi0:Int)(lo1:Int)(y2:Int):WP:=jn 12 (λρ=>BD PR A1 jn (F0 [true,true,true] (AQ Tryz.f170)) (Bi PR Tryz.f170 Q) A5 (Bi PR Tryz.f170 Q) ρ) ((.int .u64 hi0)::(.int .u64 lo1)::(.int .u64 y2)::us 132 [])
def MJ(hi0:Int)(lo1:Int)(y2:Int):WP:=jn 8 (λρ=>BD PR A1 jn (F0 [true,true] (AQ Tryz.f170)) (Bi PR Tryz.f170 Q) A5 (Bi PR Tryz.f170 Q) ρ) ((.int .u64 hi0)::(.int .u64 lo1)::(.int .u64 y2)::us 132 [])
def Y4(hi0:Int)(lo1:Int)(y2:Int)(Q:VW):WP:=Au Be PR A1 Tryz.f170 [.int .u64 hi0,.int .u64 lo1,.int .u64 y2] Q
def Cd:KP:=⟨[(10,[0,2]),(16,[0,2]),(22,[0,2])],[]⟩
def GB(x0:Int)(n2:Int):WP:=jn 22 (λρ=>BD PR Cd jn (F0 [true,true,true,true] (AQ Tryz.f183)) (Bi PR Tryz.f183 Q) A5 (Bi PR Tryz.f183 Q) ρ) ((.int .u64 x0)::us 1 ((.i n2)::us 22 []))
def GA(x0:Int)(n2:Int):WP:=jn 16 (λρ=>BD PR Cd jn (F0 [true,true,true] (AQ Tryz.f183)) (Bi PR Tryz.f183 Q) A5 (Bi PR Tryz.f183 Q) ρ) ((.int .u64 x0)::us 1 ((.i n2)::us 22 []))
def G8(x0:Int)(n2:Int):WP:=jn 10 (λρ=>BD PR Cd jn (F0 [true,true] (AQ Tryz.f183)) (Bi PR Tryz.f183 Q) A5 (Bi PR Tryz.f183 Q) ρ) ((.int .u64 x0)::us 1 ((.i n2)::us 22 []))
def Y5(x0:Int)(Q:VW):WP:=Au Be PR Cd Tryz.f183 [.int .u64 x0] Q
def G5(x0:Int)(Q:VW):WP:=Au Be PR Av Tryz.f201 [.int .u64 x0] Q
end
theorem Nl(jn:Jn)(Q:VW)(y2:Int)(s8:Int)(un014:Int)(q115:Int)(un2117:Int)(q018:Int):BD PR A1 jn (F0 (IE 18 [true]) (AQ Tryz.f170)) (Bi PR Tryz.f170 Q) A5 (Bi PR Tryz.f170 Q) (us 2 ((.int .u64 y2)::us 5 ((.int .u64 s8)::us 5 ((.int .u64 un014)::(.int .u64 q115)::us 1 ((.int .u64 un2117)::(.int .u64 q018)::us 116 [])))))=(AX ((0:Int)<=s8)<|Q (.tuple #[.int .u64 (IntKind.wrap .u64 ((IntKind.wrap .u64 (q115*4294967296))+q018)),.int .u64 (C7 .u64 (IntKind.wrap .u64 ((IntKind.wrap .u64 ((IntKind.wrap .u64 (un2117*4294967296))+un014))-(IntKind.wrap .u64 (q018*y2)))) s8)])):=by kernel_rfl
theorem Nk(Q:VW)(y2:Int)(s8:Int)(un014:Int)(q115:Int)(un2117:Int)(q018:Int):G0 Be Q y2 s8 un014 q115 un2117 q018=BD PR A1 Be (F0 (IE 18 [true]) (AQ Tryz.f170)) (Bi PR Tryz.f170 Q) A5 (Bi PR Tryz.f170 Q) (us 2 ((.int .u64 y2)::us 5 ((.int .u64 s8)::us 5 ((.int .u64 un014)::(.int .u64 q115)::us 1 ((.int .u64 un2117)::(.int .u64 q018)::us 116 []))))):=by kernel_rfl
theorem Nj(jn:Jn)(Q:VW)(m6:Nat)(y2:Int)(s8:Int)(yn19:Int)(yn010:Int)(un014:Int)(q115:Int)(rhat16:Int)(un2117:Int)(q018:Int):BD PR A1 jn (F0 (IE 18 [false,false,false,true]) (AQ Tryz.f170)) (Ia PR A1 jn (F0 (IE 18 [false,false,false]) (AQ Tryz.f170)) (A6 2 (JN PR A1 jn (F0 (IE 18 [true]) (AQ Tryz.f170)) (Bi PR Tryz.f170 Q) A5 (Bi PR Tryz.f170 Q)) A5) (Bi PR Tryz.f170 Q) m6) (A6 2 (JN PR A1 jn (F0 (IE 18 [true]) (AQ Tryz.f170)) (Bi PR Tryz.f170 Q) A5 (Bi PR Tryz.f170 Q)) A5) (Bi PR Tryz.f170 Q) (us 2 ((.int .u64 y2)::us 5 ((.int .u64 s8)::(.int .u64 yn19)::(.int .u64 yn010)::us 3 ((.int .u64 un014)::(.int .u64 q115)::(.int .u64 rhat16)::(.int .u64 un2117)::(.int .u64 q018)::us 116 []))))=(
 Aj (decide ((IntKind.wrap .u64 (rhat16+yn19))>=4294967296)) (G0 jn Q y2 s8 un014 q115 un2117 (IntKind.wrap .u64 (q018-1))) (G4 jn Q m6 y2 s8 yn19 yn010 un014 q115 (IntKind.wrap .u64 (rhat16+yn19)) un2117 (IntKind.wrap .u64 (q018-1)))):=by kernel_rfl
theorem Ni(Q:VW)(m6:Nat)(y2:Int)(s8:Int)(yn19:Int)(yn010:Int)(un014:Int)(q115:Int)(rhat16:Int)(un2117:Int)(q018:Int):Gz Be Q m6 y2 s8 yn19 yn010 un014 q115 rhat16 un2117 q018=BD PR A1 Be (F0 (IE 18 [false,false,false,true]) (AQ Tryz.f170)) (Ia PR A1 Be (F0 (IE 18 [false,false,false]) (AQ Tryz.f170)) (A6 2 (JN PR A1 Be (F0 (IE 18 [true]) (AQ Tryz.f170)) (Bi PR Tryz.f170 Q) A5 (Bi PR Tryz.f170 Q)) A5) (Bi PR Tryz.f170 Q) m6) (A6 2 (JN PR A1 Be (F0 (IE 18 [true]) (AQ Tryz.f170)) (Bi PR Tryz.f170 Q) A5 (Bi PR Tryz.f170 Q)) A5) (Bi PR Tryz.f170 Q) (us 2 ((.int .u64 y2)::us 5 ((.int .u64 s8)::(.int .u64 yn19)::(.int .u64 yn010)::us 3 ((.int .u64 un014)::(.int .u64 q115)::(.int .u64 rhat16)::(.int .u64 un2117)::(.int .u64 q018)::us 116 [])))):=by kernel_rfl
theorem Nn(jn:Jn)(Q:VW)(m6:Nat)(y2:Int)(s8:Int)(yn19:Int)(yn010:Int)(un014:Int)(q115:Int)(rhat16:Int)(un2117:Int)(q018:Int):G4 jn Q (m6+1) y2 s8 yn19 yn010 un014 q115 rhat16 un2117 q018=(Aj (decide (q018>=4294967296)) (Gz jn Q m6 y2 s8 yn19 yn010 un014 q115 rhat16 un2117 q018) (Aj (decide ((IntKind.wrap .u64 (q018*yn010))>(IntKind.wrap .u64 ((IntKind.wrap .u64 (4294967296*rhat16))+un014)))) (Gz jn Q m6 y2 s8 yn19 yn010 un014 q115 rhat16 un2117 q018) (G0 jn Q y2 s8 un014 q115 un2117 q018))):=by kernel_rfl
theorem Nh(jn:Jn)(Q:VW)(y2:Int)(s8:Int)(yn19:Int)(yn010:Int)(un3211:Int)(un113:Int)(un014:Int)(q115:Int):BD PR A1 jn (F0 (IE 14 [true]) (AQ Tryz.f170)) (Bi PR Tryz.f170 Q) A5 (Bi PR Tryz.f170 Q) (us 2 ((.int .u64 y2)::us 5 ((.int .u64 s8)::(.int .u64 yn19)::(.int .u64 yn010)::(.int .u64 un3211)::us 1 ((.int .u64 un113)::(.int .u64 un014)::(.int .u64 q115)::us 119 []))))=(AX (yn19≠0)<|D2 λm=>G4 jn Q m y2 s8 yn19 yn010 un014 q115 (IntKind.wrap .u64 ((IntKind.wrap .u64 ((IntKind.wrap .u64 ((IntKind.wrap .u64 (un3211*4294967296))+un113))-(IntKind.wrap .u64 (q115*y2))))-(IntKind.wrap .u64 ((IntKind.wrap .u64 (Int.tdiv (IntKind.wrap .u64 ((IntKind.wrap .u64 ((IntKind.wrap .u64 (un3211*4294967296))+un113))-(IntKind.wrap .u64 (q115*y2)))) yn19))*yn19)))) (IntKind.wrap .u64 ((IntKind.wrap .u64 ((IntKind.wrap .u64 (un3211*4294967296))+un113))-(IntKind.wrap .u64 (q115*y2)))) (IntKind.wrap .u64 (Int.tdiv (IntKind.wrap .u64 ((IntKind.wrap .u64 ((IntKind.wrap .u64 (un3211*4294967296))+un113))-(IntKind.wrap .u64 (q115*y2)))) yn19))):=by kernel_rfl
theorem Ng(Q:VW)(y2:Int)(s8:Int)(yn19:Int)(yn010:Int)(un3211:Int)(un113:Int)(un014:Int)(q115:Int):Gy Be Q y2 s8 yn19 yn010 un3211 un113 un014 q115=BD PR A1 Be (F0 (IE 14 [true]) (AQ Tryz.f170)) (Bi PR Tryz.f170 Q) A5 (Bi PR Tryz.f170 Q) (us 2 ((.int .u64 y2)::us 5 ((.int .u64 s8)::(.int .u64 yn19)::(.int .u64 yn010)::(.int .u64 un3211)::us 1 ((.int .u64 un113)::(.int .u64 un014)::(.int .u64 q115)::us 119 [])))):=by kernel_rfl
theorem Nf(jn:Jn)(Q:VW)(m3:Nat)(y2:Int)(s8:Int)(yn19:Int)(yn010:Int)(un3211:Int)(un113:Int)(un014:Int)(q115:Int)(rhat16:Int):BD PR A1 jn (F0 (IE 14 [false,false,false,true]) (AQ Tryz.f170)) (Ia PR A1 jn (F0 (IE 14 [false,false,false]) (AQ Tryz.f170)) (A6 0 (JN PR A1 jn (F0 (IE 14 [true]) (AQ Tryz.f170)) (Bi PR Tryz.f170 Q) A5 (Bi PR Tryz.f170 Q)) A5) (Bi PR Tryz.f170 Q) m3) (A6 0 (JN PR A1 jn (F0 (IE 14 [true]) (AQ Tryz.f170)) (Bi PR Tryz.f170 Q) A5 (Bi PR Tryz.f170 Q)) A5) (Bi PR Tryz.f170 Q) (us 2 ((.int .u64 y2)::us 5 ((.int .u64 s8)::(.int .u64 yn19)::(.int .u64 yn010)::(.int .u64 un3211)::us 1 ((.int .u64 un113)::(.int .u64 un014)::(.int .u64 q115)::(.int .u64 rhat16)::us 118 []))))=(
 Aj (decide ((IntKind.wrap .u64 (rhat16+yn19))>=4294967296)) (Gy jn Q y2 s8 yn19 yn010 un3211 un113 un014 (IntKind.wrap .u64 (q115-1))) (G3 jn Q m3 y2 s8 yn19 yn010 un3211 un113 un014 (IntKind.wrap .u64 (q115-1)) (IntKind.wrap .u64 (rhat16+yn19)))):=by kernel_rfl
theorem Nd(Q:VW)(m3:Nat)(y2:Int)(s8:Int)(yn19:Int)(yn010:Int)(un3211:Int)(un113:Int)(un014:Int)(q115:Int)(rhat16:Int):Gx Be Q m3 y2 s8 yn19 yn010 un3211 un113 un014 q115 rhat16=BD PR A1 Be (F0 (IE 14 [false,false,false,true]) (AQ Tryz.f170)) (Ia PR A1 Be (F0 (IE 14 [false,false,false]) (AQ Tryz.f170)) (A6 0 (JN PR A1 Be (F0 (IE 14 [true]) (AQ Tryz.f170)) (Bi PR Tryz.f170 Q) A5 (Bi PR Tryz.f170 Q)) A5) (Bi PR Tryz.f170 Q) m3) (A6 0 (JN PR A1 Be (F0 (IE 14 [true]) (AQ Tryz.f170)) (Bi PR Tryz.f170 Q) A5 (Bi PR Tryz.f170 Q)) A5) (Bi PR Tryz.f170 Q) (us 2 ((.int .u64 y2)::us 5 ((.int .u64 s8)::(.int .u64 yn19)::(.int .u64 yn010)::(.int .u64 un3211)::us 1 ((.int .u64 un113)::(.int .u64 un014)::(.int .u64 q115)::(.int .u64 rhat16)::us 118 [])))):=by kernel_rfl
theorem Nm(jn:Jn)(Q:VW)(m3:Nat)(y2:Int)(s8:Int)(yn19:Int)(yn010:Int)(un3211:Int)(un113:Int)(un014:Int)(q115:Int)(rhat16:Int):G3 jn Q (m3+1) y2 s8 yn19 yn010 un3211 un113 un014 q115 rhat16=(Aj (decide (q115>=4294967296)) (Gx jn Q m3 y2 s8 yn19 yn010 un3211 un113 un014 q115 rhat16) (Aj (decide ((IntKind.wrap .u64 (q115*yn010))>(IntKind.wrap .u64 ((IntKind.wrap .u64 (4294967296*rhat16))+un113)))) (Gx jn Q m3 y2 s8 yn19 yn010 un3211 un113 un014 q115 rhat16) (Gy jn Q y2 s8 yn19 yn010 un3211 un113 un014 q115))):=by kernel_rfl
theorem Nc(jn:Jn)(Q:VW)(hi0:Int)(lo1:Int)(y2:Int):BD PR A1 jn (F0 [true,true,true] (AQ Tryz.f170)) (Bi PR Tryz.f170 Q) A5 (Bi PR Tryz.f170 Q) ((.int .u64 hi0)::(.int .u64 lo1)::(.int .u64 y2)::us 132 [])=(Aj (hi0==0) (A3 λS=>AX (y2≠0)<|AX (y2≠0)<|Q (.tuple #[.int .u64 (IntKind.wrap .u64 (Int.tdiv lo1 y2)),.int .u64 (Int.tmod lo1 y2)])) (Bw D8 [.int .u64 y2] λX5=>AX ((0:Int)<=(IntKind.wrap .u64 X5))<|AX ((0:Int)<=(32:Int))<|AX ((0:Int)<=(IntKind.wrap .u64 X5))<|AX ((0:Int)<=(IntKind.wrap .u64 ((64:Int)-(IntKind.wrap .u64 X5))))<|AX ((0:Int)<=(IntKind.wrap .u64 X5))<|
 AX ((0:Int)<=(32:Int))<|AX ((C7 .u64 (GM .u64 y2 (IntKind.wrap .u64 X5)) (32:Int))≠0)<|D2 λm=>G3 jn Q m (GM .u64 y2 (IntKind.wrap .u64 X5)) (IntKind.wrap .u64 X5) (C7 .u64 (GM .u64 y2 (IntKind.wrap .u64 X5)) 32) (bits .and .u64 (GM .u64 y2 (IntKind.wrap .u64 X5)) 4294967295) (bits .or .u64 (GM .u64 hi0 (IntKind.wrap .u64 X5)) (C7 .u64 lo1 (IntKind.wrap .u64 (64-(IntKind.wrap .u64 X5))))) (C7 .u64 (GM .u64 lo1 (IntKind.wrap .u64 X5)) 32) (bits .and .u64 (GM .u64 lo1 (IntKind.wrap .u64 X5)) 4294967295) (IntKind.wrap .u64 (Int.tdiv (bits .or .u64 (GM .u64 hi0 (IntKind.wrap .u64 X5)) (C7 .u64 lo1 (IntKind.wrap .u64 (64-(IntKind.wrap .u64 X5))))) (C7 .u64 (GM .u64 y2 (IntKind.wrap .u64 X5)) 32))) (IntKind.wrap .u64 ((bits .or .u64 (GM .u64 hi0 (IntKind.wrap .u64 X5)) (C7 .u64 lo1 (IntKind.wrap .u64 (64-(IntKind.wrap .u64 X5)))))-(IntKind.wrap .u64 ((IntKind.wrap .u64 (Int.tdiv (bits .or .u64 (GM .u64 hi0 (IntKind.wrap .u64 X5)) (C7 .u64 lo1 (IntKind.wrap .u64 (64-(IntKind.wrap .u64 X5))))) (C7 .u64 (GM .u64 y2 (IntKind.wrap .u64 X5)) 32)))*(C7 .u64 (GM .u64 y2 (IntKind.wrap .u64 X5)) 32))))))):=by kernel_rfl
theorem Nb(Q:VW)(hi0:Int)(lo1:Int)(y2:Int):MK Be Q hi0 lo1 y2=BD PR A1 Be (F0 [true,true,true] (AQ Tryz.f170)) (Bi PR Tryz.f170 Q) A5 (Bi PR Tryz.f170 Q) ((.int .u64 hi0)::(.int .u64 lo1)::(.int .u64 y2)::us 132 []):=by kernel_rfl
theorem Na(jn:Jn)(Q:VW)(hi0:Int)(lo1:Int)(y2:Int):BD PR A1 jn (F0 [true,true] (AQ Tryz.f170)) (Bi PR Tryz.f170 Q) A5 (Bi PR Tryz.f170 Q) ((.int .u64 hi0)::(.int .u64 lo1)::(.int .u64 y2)::us 132 [])=(Aj (decide (y2<=hi0)) (MY 1 0 (C8) λ(t_3:TypeId)(v_4:Value)=>C8) (MK jn Q hi0 lo1 y2)):=by kernel_rfl
theorem MZ(Q:VW)(hi0:Int)(lo1:Int)(y2:Int):MJ Be Q hi0 lo1 y2=BD PR A1 Be (F0 [true,true] (AQ Tryz.f170)) (Bi PR Tryz.f170 Q) A5 (Bi PR Tryz.f170 Q) ((.int .u64 hi0)::(.int .u64 lo1)::(.int .u64 y2)::us 132 []):=by kernel_rfl
theorem Vq(jn:Jn)(hi0:Int)(lo1:Int)(y2:Int)(Q:VW):Au jn PR A1 Tryz.f170 [.int .u64 hi0,.int .u64 lo1,.int .u64 y2] Q=(Aj (y2==0) (MY 0 0 (C8) λ(t_1:TypeId)(v_2:Value)=>C8) (MJ jn Q hi0 lo1 y2)):=by kernel_rfl
theorem Vp(hi0:Int)(lo1:Int)(y2:Int)(Q:VW):Y4 hi0 lo1 y2 Q=Au Be PR A1 Tryz.f170 [.int .u64 hi0,.int .u64 lo1,.int .u64 y2] Q:=rfl
theorem Qh{hi0:Int}{lo1:Int}{y2:Int}{Q:VW}{w:World}(h:Y4 hi0 lo1 y2 Q w):Calls PR M8 #[.int .u64 hi0,.int .u64 lo1,.int .u64 y2] w λe w'=>∃v,e = .returned v/\Q v w':=
 HC mixed Tryz.func170 rfl h
theorem Nt(jn:Jn)(Q:VW)(x0:Int)(n2:Int):BD PR Cd jn (F0 [true,true,true,true] (AQ Tryz.f183)) (Bi PR Tryz.f183 Q) A5 (Bi PR Tryz.f183 Q) ((.int .u64 x0)::us 1 ((.i n2)::us 22 []))=(AX ((0:Int)<=(IntKind.wrap .u8 x0)/\(IntKind.wrap .u8 x0)<(GJ.size:Int))<|Q (.i (IntKind.wrap .i64 (n2+(IntKind.wrap .i64 (AU GJ ((IntKind.wrap .u8 x0)).toNat)))))):=by kernel_rfl
theorem Ns(Q:VW)(x0:Int)(n2:Int):GB Be Q x0 n2=BD PR Cd Be (F0 [true,true,true,true] (AQ Tryz.f183)) (Bi PR Tryz.f183 Q) A5 (Bi PR Tryz.f183 Q) ((.int .u64 x0)::us 1 ((.i n2)::us 22 [])):=by kernel_rfl
theorem Nr(jn:Jn)(Q:VW)(x0:Int)(n2:Int):BD PR Cd jn (F0 [true,true,true] (AQ Tryz.f183)) (Bi PR Tryz.f183 Q) A5 (Bi PR Tryz.f183 Q) ((.int .u64 x0)::us 1 ((.i n2)::us 22 []))=(Aj (decide (x0>=256)) (AX ((0:Int)<=(8:Int))<|GB jn Q (C7 .u64 x0 8) (IntKind.wrap .i64 (n2+8))) (GB jn Q x0 n2)):=by kernel_rfl
theorem Nq(Q:VW)(x0:Int)(n2:Int):GA Be Q x0 n2=BD PR Cd Be (F0 [true,true,true] (AQ Tryz.f183)) (Bi PR Tryz.f183 Q) A5 (Bi PR Tryz.f183 Q) ((.int .u64 x0)::us 1 ((.i n2)::us 22 [])):=by kernel_rfl
theorem Np(jn:Jn)(Q:VW)(x0:Int)(n2:Int):BD PR Cd jn (F0 [true,true] (AQ Tryz.f183)) (Bi PR Tryz.f183 Q) A5 (Bi PR Tryz.f183 Q) ((.int .u64 x0)::us 1 ((.i n2)::us 22 []))=(Aj (decide (x0>=65536)) (AX ((0:Int)<=(16:Int))<|GA jn Q (C7 .u64 x0 16) (IntKind.wrap .i64 (n2+16))) (GA jn Q x0 n2)):=by kernel_rfl
theorem No(Q:VW)(x0:Int)(n2:Int):G8 Be Q x0 n2=BD PR Cd Be (F0 [true,true] (AQ Tryz.f183)) (Bi PR Tryz.f183 Q) A5 (Bi PR Tryz.f183 Q) ((.int .u64 x0)::us 1 ((.i n2)::us 22 [])):=by kernel_rfl
theorem Vs(jn:Jn)(x0:Int)(Q:VW):Au jn PR Cd Tryz.f183 [.int .u64 x0] Q=(Aj (decide (x0>=4294967296)) (AX ((0:Int)<=(32:Int))<|G8 jn Q (C7 .u64 x0 32) 32) (G8 jn Q x0 0)):=by kernel_rfl
theorem Vr(x0:Int)(Q:VW):Y5 x0 Q=Au Be PR Cd Tryz.f183 [.int .u64 x0] Q:=rfl
theorem Qi{x0:Int}{Q:VW}{w:World}(h:Y5 x0 Q w):Calls PR Iv #[.int .u64 x0] w λe w'=>∃v,e = .returned v/\Q v w':=
 HC mixed Tryz.func183 rfl h
theorem Ic(jn:Jn)(x0:Int)(Q:VW):Au jn PR Av Tryz.f201 [.int .u64 x0] Q=(Bw Iv [.int .u64 x0] λX1=>Q (.i (IntKind.wrap .i64 (64-X1)))):=by kernel_rfl
theorem Ib(x0:Int)(Q:VW):G5 x0 Q=Au Be PR Av Tryz.f201 [.int .u64 x0] Q:=rfl
theorem Hi{x0:Int}{Q:VW}{w:World}(h:G5 x0 Q w):Calls PR D8 #[.int .u64 x0] w λe w'=>∃v,e = .returned v/\Q v w':=
 HC mixed Tryz.func201 rfl h
end Go.Proofs.YtjipofkjmmpjdaaGreat
namespace Go.Proofs.YtjipofkjmmpjdaaGreat
open Go.Hb Go.IntWalk
theorem A2f(a k:Nat)(hk:k<=64):C7 .u64 (a:Int) (k:Int)=((a / 2 ^ k:Nat):Int):=by
 unfold C7;have:min (k:Int).toNat (IntKind.bits .u64)=k:=by simp[IntKind.bits];omega
 rw[this,Int.fdiv_eq_ediv_of_nonneg _ (by exact_mod_cast Nat.zero_le _)];norm_cast
theorem A4p(a k:Nat)(hk:k<=64):GM .u64 (a:Int) (k:Int)=((a*2 ^ k % 18446744073709551616:Nat):Int):=by
 unfold GM;have:min (k:Int).toNat (IntKind.bits .u64)=k:=by simp[IntKind.bits];omega
 rw[this,<- Ay8];norm_cast
section
variable{W w:World}{M:List HP}
theorem Ago:∀x:Fin 256,x.val≠0->∃L:Nat,1<=L/\L<=8/\AU GJ x.val=(L:Int)/\2 ^ (L-1)<=x.val/\x.val<2 ^ L:=by
 have key:∀x:Fin 256,x.val≠0->1<=(AU GJ x.val).toNat/\(AU GJ x.val).toNat<=8/\AU GJ x.val=(((AU GJ x.val).toNat:Nat):Int) /\
   2 ^ ((AU GJ x.val).toNat-1)<=x.val/\x.val<2 ^ (AU GJ x.val).toNat:=by decide +kernel
 exact λx hx=>⟨_,key x hx⟩
def PJ(x L:Nat):Prop:=1<=L/\2 ^ (L-1)<=x/\x<2 ^ L
theorem PK{x L k:Nat}(h:PJ (x / 2 ^ k) L):PJ x (L+k):=by
 obtain⟨h0,h1,h2⟩:=h;refine⟨by omega,?_,?_⟩
 ·rw[Nat.le_div_iff_mul_le (Nat.two_pow_pos k),<- Nat.pow_add] at h1
  rwa [show L+k-1=L-1+k by omega]
 ·rw[Nat.div_lt_iff_lt_mul (Nat.two_pow_pos k),<- Nat.pow_add] at h2;exact h2
theorem Aou{Q:VW}{x n:Nat}(hx:x<256)(h0:x≠0)(hn:n<=56)(hQ:∀L:Nat,L<=8->PJ x L->Q (.i ((L+n:Nat):Int)) w):GB Be Q x n w:=by
 rw[Ns,Nt];have hw:IntKind.wrap .u8 (x:Int)=(x:Int):=u8_in _ (by omega);rw[hw];have hsz:GJ.size=256:=by decide +kernel
 refine Aw ⟨by omega,by rw[hsz];omega⟩ ?_;obtain⟨L,h1,h8,hb,ha,hc⟩:=Ago ⟨x,hx⟩ h0;simp only at hb ha hc;rw[Int.toNat_natCast,hb,i64_in (L:Int) (by omega),i64_in _ (by omega)];have:=hQ L h8 ⟨h1,ha,hc⟩
 rwa [show((L+n:Nat):Int)=(n:Int)+(L:Int) by omega] at this
theorem Aot{Q:VW}{x n:Nat}(hx:x<65536)(h0:x≠0)(hn:n<=48)(hQ:∀L:Nat,L<=16->PJ x L->Q (.i ((L+n:Nat):Int)) w):GA Be Q x n w:=by
 rw[Nq,Nr];refine Ap (λhc=>?_) (λhc=>?_) <;> simp only[decide_eq_true_eq,decide_eq_false_iff_not] at hc
 ·refine Aw (by omega) ?_;rw[show(8:Int)=((8:Nat):Int) by rfl,A2f x 8 (by omega),i64_in _ (by omega),Azb];refine Aou (by omega) (by omega) (by omega) λL hL hl=>?_;have:=hQ (L+8) (by omega) (PK hl)
  rwa [show L+8+n=L+(n+8) by omega] at this
 ·exact Aou (by omega) h0 (by omega) λL hL hl=>hQ L (by omega) hl
theorem Aos{Q:VW}{x n:Nat}(hx:x<4294967296)(h0:x≠0)(hn:n<=32)(hQ:∀L:Nat,L<=32->PJ x L->Q (.i ((L+n:Nat):Int)) w):G8 Be Q x n w:=by
 rw[No,Np];refine Ap (λhc=>?_) (λhc=>?_) <;> simp only[decide_eq_true_eq,decide_eq_false_iff_not] at hc
 ·refine Aw (by omega) ?_;rw[show(16:Int)=((16:Nat):Int) by rfl,A2f x 16 (by omega),i64_in _ (by omega),Azb];refine Aot (by omega) (by omega) (by omega) λL hL hl=>?_;have:=hQ (L+16) (by omega) (PK hl)
  rwa [show L+16+n=L+(n+16) by omega] at this
 ·exact Aot (by omega) h0 (by omega) λL hL hl=>hQ L (by omega) hl
theorem Aor(h:Ab W w M){x:Nat}(hx:x<18446744073709551616)(h0:x≠0):Calls PR Iv #[.int .u64 x] w λe w'=>∃L:Nat,(L<=64/\PJ x L)/\e = .returned (.i (L:Int))/\Ab W w' M:=by
 refine(Qi (Q:=λv w'=>∃L:Nat,(L<=64/\PJ x L)/\v = .i (L:Int)/\Ab W w' M) ?_).mono λe w' ⟨v,he,L,hl,hv,hs⟩=>⟨L,hl,by rw[he,hv],hs⟩;rw[Vr,Vs];refine Ap (λhc=>?_) (λhc=>?_) <;> simp only[decide_eq_true_eq,decide_eq_false_iff_not] at hc
 ·refine Aw (by omega) ?_;rw[show(32:Int)=((32:Nat):Int) by rfl,A2f x 32 (by omega)];refine Aos (by omega) (by omega) (by omega) λL hL hl=>?_;exact⟨L+32,⟨by omega,PK hl⟩,rfl,h⟩
 ·exact Aos (n:=0) (by omega) h0 (by omega) λL hL hl=>⟨L,⟨by omega,hl⟩,rfl,h⟩
theorem Aw7(h:Ab W w M){x:Nat}(hx:x<18446744073709551616)(h0:x≠0):Calls PR D8 #[.int .u64 x] w λe w'=>
  ∃s:Nat,(s<=63/\9223372036854775808<=x*2 ^ s/\x*2 ^ s<18446744073709551616)/\e = .returned (.i (s:Int))/\Ab W w' M:=by
 refine(Hi (Q:=λv w'=>∃s:Nat,(s<=63/\9223372036854775808<=x*2 ^ s/\x*2 ^ s<18446744073709551616)/\v = .i (s:Int)/\Ab W w' M) ?_).mono λe w' ⟨v,he,L,hl,hv,hs⟩=>⟨L,hl,by rw[he,hv],hs⟩;rw[Ib,Ic];refine Am (Aor h hx h0) λe w ⟨L,⟨hL,h1,h2,h3⟩,he,h⟩=>⟨_,he,?_⟩;rw[i64_in _ (by omega)];refine⟨64-L,⟨by omega,?_,?_⟩,by rw[show(64:Int)-(L:Int)=((64-L:Nat):Int) by omega],h⟩
 ·have:=Nat.mul_le_mul_right (2 ^ (64-L)) h2
  rwa [<- Nat.pow_add,show L-1+(64-L)=63 by omega] at this
 ·have:=Nat.mul_lt_mul_of_pos_right h3 (Nat.two_pow_pos (64-L))
  rwa [<- Nat.pow_add,show L+(64-L)=64 by omega] at this
def GP(x:Int):Prop:=0<=x/\x<18446744073709551616
theorem Gf(x:Int):GP (IntKind.wrap .u64 x):=by rw[IntKind.wrap_u64];unfold GP;omega
theorem GP.nat{x:Int}(h:GP x):∃n:Nat,x=(n:Int)/\n<18446744073709551616:=⟨x.toNat,by have:=h.1;omega,by have:=h.1;have:=h.2;omega⟩
section
variable{Q:VW}{S:World->Prop}{y2 s8 y1 y0 u3 u1 u0 q1 u2:Int}
theorem A4i(h1:1<=y1)(h2:y1<4294967296)(h8:0<=s8)(hQ:∀q r w,GP q->S w->Q (.tuple #[.int .u64 q,.int .u64 r]) w):∀(f:Nat)(rh q:Int)(w:World),0<=rh->rh<4294967296->4294967296<=rh+f->S w->G4 Be Q (f+1) y2 s8 y1 y0 u0 q1 rh u2 q w:=by
 have j8:∀q w,S w->G0 Be Q y2 s8 u0 q1 u2 q w:=by
  intro q w hS;rw[Nk,Nl];refine Aw h8 ?_;have hq:=λq r h=>hQ q r w h hS;refine hq _ _ ?_;exact Gf _
 intro f
 induction f with
 | zero=>intro rh q w h3 h4 h5 hS;omega
 | succ f ih=>
  intro rh q w h3 h4 h5 hS;rw[Nn];have j7:Gz Be Q (f+1) y2 s8 y1 y0 u0 q1 rh u2 q w:=by
   rw[Ni,Nj];have e1:IntKind.wrap .u64 (rh+y1)=rh+y1:=by rw[IntKind.wrap_u64];omega
   rw[e1];generalize IntKind.wrap .u64 (q-1)=q';refine Ap (λ_=>by with_reducible exact j8 q' w hS) (λh=>?_);have h:=of_decide_eq_false h;have g1:0<=rh+y1:=by omega
   have g2:rh+y1<4294967296:=by omega
   have g3:4294967296<=rh+y1+(f:Int):=by omega
   with_reducible exact ih (rh+y1) q' w g1 g2 g3 hS
  refine Ap (λ_=>by with_reducible exact j7) (λ_=>?_);exact Ap (λ_=>by with_reducible exact j7) (λ_=>by with_reducible exact j8 q w hS)
theorem Ay0{x y:Int}(hx:GP x)(h1:1<=y)(h2:y<4294967296):0<=IntKind.wrap .u64 (x-IntKind.wrap .u64 (IntKind.wrap .u64 (Int.tdiv x y)*y))/\IntKind.wrap .u64 (x-IntKind.wrap .u64 (IntKind.wrap .u64 (Int.tdiv x y)*y))<4294967296:=by
 obtain⟨h3,h4⟩:=hx;have e0:Int.tdiv x y=x / y:=Int.tdiv_eq_ediv_of_nonneg h3;have e1:y*(x / y)+x % y=x:=Int.mul_ediv_add_emod x y;have e2:=Int.emod_nonneg x (show y≠0 by omega);have e3:=Int.emod_lt_of_pos x (show 0<y by omega);have e4:0<=x / y:=Int.ediv_nonneg h3 (by omega);have e5:x / y<=x:=Int.ediv_le_self y h3;have e6:0<=y*(x / y):=Int.mul_nonneg (by omega) e4;rw[e0];have w1:IntKind.wrap .u64 (x / y)=x / y:=by rw[IntKind.wrap_u64];omega
 rw[w1,Int.mul_comm];generalize y*(x / y)=z at *;have w2:IntKind.wrap .u64 z=z:=by rw[IntKind.wrap_u64];omega
 rw[w2];have w3:IntKind.wrap .u64 (x-z)=x-z:=by rw[IntKind.wrap_u64];omega
 rw[w3];omega
theorem A3g(h1:1<=y1)(h2:y1<4294967296)(h8:0<=s8)(hQ:∀q r w,GP q->S w->Q (.tuple #[.int .u64 q,.int .u64 r]) w){w:World}(hS:S w):Gy Be Q y2 s8 y1 y0 u3 u1 u0 q1 w:=by
 rw[Ng,Nh];refine Aw (by omega) ?_;have h3:=Gf (IntKind.wrap .u64 (IntKind.wrap .u64 (u3*4294967296)+u1)-IntKind.wrap .u64 (q1*y2));have h4:=Ay0 h3 h1 h2;exact AJ _ (A4i h1 h2 h8 hQ 4294967296 _ _ w h4.1 h4.2 (by omega) hS)
theorem A4h(h1:1<=y1)(h2:y1<4294967296)(h8:0<=s8)(hQ:∀q r w,GP q->S w->Q (.tuple #[.int .u64 q,.int .u64 r]) w):∀(f:Nat)(rh q:Int)(w:World),0<=rh->rh<4294967296->4294967296<=rh+f->S w->G3 Be Q (f+1) y2 s8 y1 y0 u3 u1 u0 q rh w:=by
 intro f
 induction f with
 | zero=>intro rh q w h3 h4 h5 hS;omega
 | succ f ih=>
  intro rh q w h3 h4 h5 hS;rw[Nm];have j4:Gx Be Q (f+1) y2 s8 y1 y0 u3 u1 u0 q rh w:=by
   rw[Nd,Nf];have e1:IntKind.wrap .u64 (rh+y1)=rh+y1:=by rw[IntKind.wrap_u64];omega
   rw[e1];generalize IntKind.wrap .u64 (q-1)=q';have g1:0<=rh+y1:=by omega
   have g3:4294967296<=rh+y1+(f:Int):=by omega
   refine Ap (λ_=>by with_reducible exact A3g h1 h2 h8 hQ hS) (λh=>?_);have h:=of_decide_eq_false h;have g2:rh+y1<4294967296:=by omega
   with_reducible exact ih (rh+y1) q' w g1 g2 g3 hS
  refine Ap (λ_=>by with_reducible exact j4) (λ_=>?_);exact Ap (λ_=>by with_reducible exact j4) (λ_=>by with_reducible exact A3g h1 h2 h8 hQ hS)
end
theorem Aqw(hs:Ab W w M){hi lo y:Int}(h1:GP hi)(h2:GP lo)(h3:GP y)(hlt:hi<y):AZ PR M8 #[.int .u64 hi,.int .u64 lo,.int .u64 y] w λv w'=>∃q r:Int,v = .tuple #[.int .u64 q,.int .u64 r]/\GP q/\Ab W w' M:=by
 refine Qh ?_;rw[Vp,Vq];have hh:=h1.1;have hy:=h3.2
 refine Ac (by simp;omega) ?_;rw[MZ,Na];refine Ac (by simp;omega) ?_
 rw[Nb,Nc];refine Ap (λhc=>?_) (λhc=>?_)
 ·refine A9 hs λw hs=>?_;exact Aw (by omega) (Aw (by omega) ⟨_,_,rfl,Gf _,hs⟩)
 ·clear hy;obtain⟨y,rfl,hy⟩:=h3.nat;refine Am (Aw7 hs hy (by omega)) λe w ⟨s,⟨h63,hs1,hs2⟩,he,hs⟩=>⟨_,he,?_⟩;have ws:IntKind.wrap .u64 (s:Int)=(s:Int):=by rw[IntKind.wrap_u64];omega
  have ws2:IntKind.wrap .u64 ((64:Int)-(s:Int))=((64-s:Nat):Int):=by rw[IntKind.wrap_u64];omega
  rw[ws,ws2,A4p y s (by omega),Nat.mod_eq_of_lt hs2];generalize y*2 ^ s=Y at *;have e1:C7 .u64 (Y:Int) (32:Int)=((Y / 4294967296:Nat):Int):=Aeh Y;rw[e1];have hy1:1<=Y / 4294967296:=by omega
  refine Aw (by omega) (Aw (by omega) (Aw (by omega) (Aw (by omega) (Aw (by omega) (Aw (by omega) (Aw (by omega) ?_))))));have hsh:GP (bits .or .u64 (GM .u64 hi (s:Int)) (C7 .u64 lo (((64-s:Nat):Int)))):=by
   show GP (IntKind.wrap .u64 _);exact Gf _
  have h4:=Ay0 hsh (show(1:Int)<=((Y / 4294967296:Nat):Int) by omega) (show((Y / 4294967296:Nat):Int)<4294967296 by omega);refine AJ _ (A4h (S:=λw=>Ab W w M) (by omega) (by omega) (by omega) (λq r w hq hs=>⟨q,r,rfl,hq,hs⟩) 4294967296 _ _ w h4.1 h4.2 (by omega) hs)
theorem Aee(hs:Ab W w M){a b c:Int}(ha:GP a)(hb:GP b)(hc:GP c):AZ PR 143 #[.int .u64 a,.int .u64 b,.int .u64 c] w λv w'=>∃q:Int,v = .int .u64 q/\GP q/\Ab W w' M:=by
 refine cw ⟨mixed,Tryz.func143,rfl⟩ Ajw ?_;obtain⟨a,rfl,ha'⟩:=ha.nat;obtain⟨b,rfl,hb'⟩:=hb.nat;refine AG (Ao9 hs ha' hb') λe w ⟨he,hs⟩=>⟨_,_,he,?_⟩;have hx:GP ((a*b / 18446744073709551616:Nat):Int):=by
  have:a*b / 18446744073709551616<18446744073709551616:=by
   rw[Nat.div_lt_iff_lt_mul (by decide)];exact Nat.mul_lt_mul'' ha' hb'
  exact⟨by omega,by omega⟩
 have hy:GP ((a*b % 18446744073709551616:Nat):Int):=by
  have:=Nat.mod_lt (a*b) (show 0<18446744073709551616 by decide);exact⟨by omega,by omega⟩
 refine Ap (λ_=>⟨_,rfl,by unfold GP;omega,hs⟩) (λh=>?_);have h:=of_decide_eq_false h;refine AH (Aqw hs hx hy hc (by omega)) λv w ⟨q,r,hv,hq,hs⟩=>⟨_,_,hv,q,rfl,hq,hs⟩
theorem A3s(hs:Ab W w M){a b:Int}(ha:GP a)(hb:GP b):AZ PR 139 #[.int .u64 a,.int .u64 b] w λv w'=>∃q:Int,v = .int .u64 q/\GP q/\Ab W w' M:=by
 refine cw ⟨mixed,Tryz.func139,rfl⟩ Ajs ?_;exact Ag (Aee hs ha hb (by unfold GP;omega)) λv w ⟨q,hv,hq,hs⟩=>⟨_,hv,q,rfl,hq,hs⟩
end
end Go.Proofs.YtjipofkjmmpjdaaGreat
namespace Go.Hb
def Ce(l:List Int):List Value:=l.map (Value.int .u64)
theorem Eu{l:List Int}{i:Nat}(h:i<l.length):(Ce l)[i]? = some ((CK.int .u64).val (l.getD i 0)):=by
 unfold Ce;rw[List.getElem?_map,List.getElem?_eq_getElem h,List.getD_eq_getElem?_getD,List.getElem?_eq_getElem h];rfl
theorem Jf{l:List Int}{i:Nat}{x:Int}:(Ce l).set i (.int .u64 x)=Ce (l.set i x):=by unfold Ce;rw[List.map_set]
theorem Je(l:List Int):(Ce l).length=l.length:=by simp[Ce]
def Lb(l:List Int):List Value:=l.map (Value.int .i64)
theorem Aoa{l:List Int}{i:Nat}(h:i<l.length):(Lb l)[i]? = some ((CK.int .i64).val (l.getD i 0)):=by
 unfold Lb;rw[List.getElem?_map,List.getElem?_eq_getElem h,List.getD_eq_getElem?_getD,List.getElem?_eq_getElem h];rfl
theorem An2{l:List Int}(h:l.length=5):∃a b c d e,l=[a,b,c,d,e]:=by
 match l,h with
 | [a,b,c,d,e],_=>exact⟨a,b,c,d,e,rfl⟩
end Go.Hb
namespace Go.Proofs.YtjipofkjmmpjdaaGreat
open Go.Hb Go.IntWalk
structure U5(l:List Int):Prop where
 len:l.length=5
 all:∀x∈l,GP x
theorem Ay6:GP 0:=by unfold GP;omega
theorem U5.get{l:List Int}(h:U5 l){i:Nat}(hi:i<5):GP (l.getD i 0):=by
 have h5:=h.len;rw[List.getD_eq_getElem?_getD,List.getElem?_eq_getElem (by omega)];exact h.all _ (List.getElem_mem _)
theorem U5.set{l:List Int}(h:U5 l){i:Nat}{x:Int}(hx:GP x):U5 (l.set i x):=⟨by simp[h.len],λy hy=>by
 rcases List.mem_or_eq_of_mem_set hy with h1|h1
 ·exact h.all y h1
 ·exact h1 ▸ hx⟩
theorem U5.zero:U5 [0,0,0,0,0]:=⟨rfl,λx hx=>by simp at hx;subst hx;exact Ay6⟩
abbrev WQ(W:World)(L:List HP):VW:=λv w'=>∃a b c d e:Int,v = .agg #[.int .u64 a,.int .u64 b,.int .u64 c,.int .u64 d,.int .u64 e]/\U5 [a,b,c,d,e]/\Ab W w' L
theorem Iu{i:Nat}(h:i<100):IntKind.wrap .i64 ((i:Int)+1)=((i+1:Nat):Int):=by rw[i64_in _ (by omega)];omega
theorem SS(i:Nat):0+((i:Int)).toNat*1=i:=by omega
section
variable{W w:World}{L M:List HP}{a b c d e:Int}
theorem Ab1(hs:Ab W w L):AZ PR 142 #[.agg #[.int .u64 a,.int .u64 b,.int .u64 c,.int .u64 d,.int .u64 e]] w λv w'=>∃x:Int,v = .int .u64 x/\GP x/\Ab W w' L:=by
 refine cw ⟨mixed,Tryz.func142,rfl⟩ Ajv ?_;refine Ai hs λb1 w hs=>?_
 iterate 5 refine Ah hs ?_
 have loop:∀(f i:Nat)(y:Int),i+f=5->GP y->NI Be (λv w'=>∃x:Int,v = .int .u64 x/\GP x/\Ab W w' L) (f+1) y a b c d e (i:Int) w:=by
  intro f
  induction f with
  | zero=>
   intro i y hi hy;rw[LU];refine Ac (decide_eq_false (by omega)) ?_;refine jw Wy ?_;exact⟨_,rfl,hy,hs.drop⟩
  | succ f ih=>
   intro i y hi hy;rw[LU];refine Ak (decide_eq_true (by omega)) ?_;refine Aw (by omega) ?_;rw[Int.toNat_natCast,Iu (by omega)];refine⟨[a,b,c,d,e].getD i 0,Eu (l:=[a,b,c,d,e]) (show i<5 by omega),rfl,?_⟩
   with_reducible exact ih (i+1) _ (by omega) (Gf _)
 exact AJ _ (loop 5 0 0 (by omega) Ay6)
theorem A31(hs:Ab W w L):AZ PR 138 #[.agg #[.int .u64 a,.int .u64 b,.int .u64 c,.int .u64 d,.int .u64 e]] w λv w'=>∃t,v = .b t/\Ab W w' L:=by
 refine cw ⟨mixed,Tryz.func138,rfl⟩ Ajr ?_;refine Ai hs λb1 w hs=>?_
 iterate 5 refine Ah hs ?_
 have loop:∀(f i:Nat),i+f=5->ND Be (λv w'=>∃t,v = .b t/\Ab W w' L) (f+1) b1 0 a b c d e (i:Int) w:=by
  intro f
  induction f with
  | zero=>
   intro i hi;rw[LR];refine Ac (decide_eq_false (by omega)) ?_;refine jw Ww ?_
   iterate 5 refine Ah hs ?_
   exact Ag (Ab1 hs) λv w ⟨x,hv,_,hs⟩=>⟨_,hv,_,rfl,hs.drop⟩
  | succ f ih=>
   intro i hi;rw[LR];refine Ak (decide_eq_true (by omega)) ?_;refine Aw (by omega) ?_;rw[Int.toNat_natCast,Iu (by omega)];refine⟨[a,b,c,d,e].getD i 0,Eu (l:=[a,b,c,d,e]) (show i<5 by omega),rfl,?_⟩;refine Ap (λ_=>⟨_,rfl,hs.drop⟩) (λ_=>?_);refine Ap (λ_=>⟨_,rfl,hs.drop⟩) (λ_=>?_)
   with_reducible exact ih (i+1) (by omega)
 exact AJ _ (loop 5 0 (by omega))
theorem Ayg(hs:Ab W w L){x:Int}:AZ PR 101 #[.agg #[.int .u64 a,.int .u64 b,.int .u64 c,.int .u64 d,.int .u64 e],.int .u32 x] w λv w'=>∃t:Int,v = .i t/\(0<=t/\t<5)/\Ab W w' L:=by
 refine cw ⟨mixed,Tryz.func101,rfl⟩ Aiy ?_;refine Ai hs λb1 w hs=>?_
 iterate 5 refine Ah hs ?_
 have loop:∀(f i:Nat)(y:Int),i+f=5->N3 Be (λv w'=>∃t:Int,v = .i t/\(0<=t/\t<5)/\Ab W w' L) (f+1) x y a b c d e (i:Int) w:=by
  intro f
  induction f with
  | zero=>
   intro i y hi;rw[LJ];refine Ac (decide_eq_false (by omega)) ?_;refine jw Wg ?_;exact⟨_,rfl,by omega,hs.drop⟩
  | succ f ih=>
   intro i y hi;rw[LJ];refine Ak (decide_eq_true (by omega)) ?_;refine Aw (by omega) ?_;rw[Int.toNat_natCast,Iu (by omega)];refine⟨[a,b,c,d,e].getD i 0,Eu (l:=[a,b,c,d,e]) (show i<5 by omega),rfl,?_⟩;refine Ap (λ_=>⟨_,rfl,by omega,hs.drop⟩) (λ_=>?_)
   with_reducible exact ih (i+1) _ (by omega)
 exact AJ _ (loop 5 0 0 (by omega))
theorem Aye(hs:Ab W w L){k:Int}:AZ PR 140 #[.i k] w λv w'=>∃x:Int,v = .int .u64 x/\GP x/\Ab W w' L:=by
 refine cw ⟨mixed,Tryz.func140,rfl⟩ Ajt ?_;refine Am (Dn hs _ _ _) λe w ⟨he,hs⟩=>⟨_,he,?_⟩;have hk:=FB k (show(0:Int)<=15 by omega);generalize Hz k 0 15=n at *;have loop:∀(f i:Nat)(y:Int),(i:Int)+f=n->GP y->NG Be (λv w'=>∃x:Int,v = .int .u64 x/\GP x/\Ab W w' L) (f+1) y n (i:Int) w:=by
  intro f
  induction f with
  | zero=>
   intro i y hi hy;rw[LS];refine Ac (decide_eq_false (by omega)) ?_;refine jw Wx ?_;exact⟨_,rfl,hy,hs⟩
  | succ f ih=>
   intro i y hi hy;rw[LS];refine Ak (decide_eq_true (by omega)) ?_;refine Aw (by decide) ?_;rw[Iu (by omega)]
   with_reducible exact ih (i+1) _ (by omega) (Gf _)
 exact AJ _ (loop n.toNat 0 _ (by omega) (by unfold GP;omega))
theorem Ab2(hs:Ab W w L){g a:Int}:AZ PR 141 #[.i g,.i a] w λv w'=>∃x:Int,v = .i x/\Ab W w' L:=by
 refine cw ⟨mixed,Tryz.func141,rfl⟩ Aju ?_;refine Am (Dn hs _ _ _) λe w ⟨he,hs⟩=>⟨_,he,?_⟩;refine Am (Dn hs _ _ _) λe w ⟨he,hs⟩=>⟨_,he,?_⟩
 with_reducible refine Ay (λh1=>?_) (λh1=>?_)
 ·exact⟨_,rfl,hs⟩
 ·exact Aw h1 ⟨_,rfl,hs⟩
theorem Aeq(hu:U5 [a,b,c,d,e])(hs:Ab W w L):AZ PR 115 #[.agg #[.int .u64 a,.int .u64 b,.int .u64 c,.int .u64 d,.int .u64 e]] w (WQ W L):=by
 refine cw ⟨mixed,Tryz.func115,rfl⟩ Ai7 ?_;refine Ai hs λb1 w hs=>?_;refine Ai hs λb2 w hs=>?_;have hs:Ab W w (blk b2 (Ce [0,0,0,0,0])::blk b1 (Ce [a,b,c,d,e])::L):=hs;generalize [a,b,c,d,e]=xs at hs hu;have h5:=hu.len;have j2:∀(w:World)(mo:Nat),mo<5->Ab W w (blk b2 (Ce [0,0,0,0,0])::blk b1 (Ce xs)::L)->Acg Be (WQ W L) b1 0 b2 0 (mo:Int) w:=by
  clear hs;intro w mo hm hs;refine jw Wk ?_;rw[SS mo];have hs:Ab W w (blk b1 (Ce xs)::blk b2 (Ce [0,0,0,0,0])::L):=hs.perm (List.Perm.swap _ _ _);refine Al [blk b1 (Ce xs)] hs λw hs=>?_;refine Aw (by omega) ?_;refine Aq ?_ (hc:=Eu (by omega));obtain⟨x0,x1,x2,x3,x4,rfl⟩:=An2 h5;refine Ah (x:=x0) hs ?_;refine Ah (x:=x1) hs ?_;refine Ah (x:=x2) hs ?_;refine Ah (x:=x3) hs ?_;refine Ah (x:=x4) hs ?_;refine Af hs ?_;refine Ag (Ab1 hs) λv w ⟨z,hv,_,hs⟩=>⟨_,hv,Af hs ?_⟩;refine Aw (by omega) ?_;refine HY 0 (cs:=Ce [x0,x1,x2,x3,x4]) hs rfl (by rw[Je];omega) λw hs=>?_
  rw[Jf] at hs;have hu2:=hu.set (i:=mo) (Gf ([x0,x1,x2,x3,x4].getD mo 0+IntKind.wrap .u64 (4294967296-z)));generalize [x0,x1,x2,x3,x4].set mo _=ys at hs hu2;obtain⟨y0,y1,y2,y3,y4,rfl⟩:=An2 hu2.len;have hs:Ab W w (blk b1 [.int .u64 y0,.int .u64 y1,.int .u64 y2,.int .u64 y3,.int .u64 y4]::blk b2 [.int .u64 0,.int .u64 0,.int .u64 0,.int .u64 0,.int .u64 0]::L):=hs
  iterate 5 refine Ah hs ?_
  iterate 5 refine A4 hs λw hs=>?_
  iterate 5 refine Ah hs ?_
  exact⟨_,_,_,_,_,rfl,hu2,by exact Ab.fin hs⟩
 have loop:∀(f i mo:Nat)(w:World),i+f=5->mo<5->Ab W w (blk b2 (Ce [0,0,0,0,0])::blk b1 (Ce xs)::L)->Kg Be (WQ W L) (f+1) b1 0 b2 0 (mo:Int) (i:Int) w:=by
  clear hs;intro f
  induction f with
  | zero=>
   intro i mo w hi hm hs;rw[LL];refine Ac (decide_eq_false (by omega)) ?_;exact j2 w mo hm hs
  | succ f ih=>
   intro i mo w hi hm hs;rw[LL];refine Ak (decide_eq_true (by omega)) ?_;rw[SS i,SS mo,Iu (by omega)];refine Al [blk b1 (Ce xs)] hs λw hs=>?_;refine Aw (by omega) ?_;refine Aq ?_ (hc:=Eu (by omega));refine Aw (by omega) ?_;refine Ah hs ?_ (hc:=Eu (by omega));refine Af hs ?_;refine Ap (λ_=>?_) (λ_=>?_)
   ·with_reducible exact ih (i+1) i w (by omega) (by omega) hs
   ·with_reducible exact ih (i+1) mo w (by omega) hm hs
 exact AJ _ (loop 5 0 0 w (by omega) (by omega) hs)
theorem QN{f:FuncId}{args:Array Value}{K:Int->Int->Int->Int->Int->WP}(h:AZ PR f args w (WQ W L))(hK:∀(a b c d e:Int) w,U5 [a,b,c,d,e]->Ab W w L->K a b c d e w) :
  Calls PR f args w λe_ w'=>∃a b c d e:Int,e_ = .returned (.agg #[.int .u64 a,.int .u64 b,.int .u64 c,.int .u64 d,.int .u64 e])/\K a b c d e w':=
 Calls.mono h λe_ w' ⟨v,he,a,b,c,d,e,hv,hu,hs⟩=>⟨a,b,c,d,e,by rw[he,hv],hK a b c d e w' hu hs⟩
theorem Zf(hs:Ab W w L):AZ PR 79 #[] w (WQ W L):=by
 refine cw ⟨mixed,Tryz.func79,rfl⟩ Av2 ?_;refine Ai hs λb1 w hs=>?_;refine Ai hs λb2 w hs=>?_;have loop:∀(f i:Nat)(xs:List Int)(w:World),i+f=5->U5 xs->Ab W w (blk b2 (Ce xs)::blk b1 (Ce [0,0,0,0,0])::L) ->
   UP Be (WQ W L) (f+1) b1 0 b2 0 (i:Int) w:=by
  clear hs;intro f
  induction f with
  | zero=>
   intro i xs w hi hx hs;rw[Pv];refine Ac (decide_eq_false (by omega)) ?_;refine jw Aab ?_;obtain⟨x0,x1,x2,x3,x4,rfl⟩:=An2 hx.len;have hs:Ab W w (blk b2 [.int .u64 x0,.int .u64 x1,.int .u64 x2,.int .u64 x3,.int .u64 x4]::blk b1 [.int .u64 0,.int .u64 0,.int .u64 0,.int .u64 0,.int .u64 0]::L):=hs
   iterate 5 refine Ah hs ?_
   refine QN (Aeq hx hs) λy0 y1 y2 y3 y4 w hu hs=>?_
   iterate 5 refine A4 hs λw hs=>?_
   iterate 5 refine Ah hs ?_
   exact⟨_,_,_,_,_,rfl,hu,by exact Ab.fin hs⟩
  | succ f ih=>
   intro i xs w hi hx hs;rw[Pv];refine Ak (decide_eq_true (by omega)) ?_;refine Aw (by omega) ?_;have h5:=hx.len;rw[SS i,Iu (by omega)];refine HY 0 (cs:=Ce xs) hs rfl (by rw[Je];omega) λw hs=>?_
   rw[Jf] at hs;have hs:Ab W w (blk b2 (Ce (xs.set i 858993459))::blk b1 (Ce [0,0,0,0,0])::L):=hs
   with_reducible exact ih (i+1) _ w (by omega) (hx.set (by unfold GP;omega)) hs
 exact AJ _ (loop 5 0 [0,0,0,0,0] w (by omega) U5.zero hs)
theorem Ayf(hu:U5 [a,b,c,d,e])(hs:Ab W w L){g0 g1 g2 g3 g4 all:Int}:AZ PR 100 #[.agg #[.int .u64 a,.int .u64 b,.int .u64 c,.int .u64 d,.int .u64 e],.agg #[.i g0,.i g1,.i g2,.i g3,.i g4],.i all] w (WQ W L):=by
 refine cw ⟨mixed,Tryz.func100,rfl⟩ Aix ?_;refine Ai hs λb1 w hs=>?_;refine Ai hs λb2 w hs=>?_;refine Ai hs λb3 w hs=>?_
 iterate 5 refine Ah hs ?_
 refine Ag (A31 hs) λv w ⟨t,hv,hs⟩=>⟨_,hv,?_⟩;refine Ap (λ_=>?_) (λ_=>?_)
 ·refine QN (Zf hs) λy0 y1 y2 y3 y4 w hu hs=>?_
  iterate 5 refine A4 hs λw hs=>?_
  iterate 5 refine Ah hs ?_
  exact⟨_,_,_,_,_,rfl,hu,by exact Ab.fin hs⟩
 have hs:Ab W w (blk b1 (Ce [a,b,c,d,e])::blk b2 (Lb [g0,g1,g2,g3,g4])::blk b3 (Ce [0,0,0,0,0])::L):=by
  have hs:Ab W w (blk b3 (Ce [0,0,0,0,0])::blk b2 (Lb [g0,g1,g2,g3,g4])::blk b1 (Ce [a,b,c,d,e])::L):=hs;exact Ab.fin hs
 have hg:[g0,g1,g2,g3,g4].length=5:=rfl;generalize [g0,g1,g2,g3,g4]=gs at hs hg;generalize [a,b,c,d,e]=ws at hs hu;have l3:∀(f i:Nat)(xs:List Int)(t:Int)(w:World),i+f=5->U5 xs->GP t->Ab W w (blk b1 (Ce xs)::blk b2 (Lb gs)::blk b3 (Ce [0,0,0,0,0])::L)->N1 Be (WQ W L) (f+1) b1 0 b3 0 t (i:Int) w:=by
  clear hs;intro f
  induction f with
  | zero=>
   intro i xs t w hi hx ht hs;rw[LI];refine Ac (decide_eq_false (by omega)) ?_;refine jw Wf ?_;obtain⟨x0,x1,x2,x3,x4,rfl⟩:=An2 hx.len;have hs:Ab W w (blk b1 [.int .u64 x0,.int .u64 x1,.int .u64 x2,.int .u64 x3,.int .u64 x4]::blk b2 (Lb gs)::blk b3 [.int .u64 0,.int .u64 0,.int .u64 0,.int .u64 0,.int .u64 0]::L):=hs
   iterate 5 refine Ah hs ?_
   refine QN (Aeq hx hs) λy0 y1 y2 y3 y4 w hu hs=>?_
   iterate 5 refine A4 hs λw hs=>?_
   iterate 5 refine Ah hs ?_
   exact⟨_,_,_,_,_,rfl,hu,by exact Ab.fin hs⟩
  | succ f ih=>
   intro i xs t w hi hx ht hs;rw[LI];refine Ak (decide_eq_true (by omega)) ?_;have h5:=hx.len;rw[SS i,Iu (by omega)];refine Aw (by omega) ?_;refine Ah hs ?_ (hc:=Eu (by omega));refine Ag (Aee hs (hx.get (by omega)) (by unfold GP;omega) ht) λv w ⟨q,hv,hq,hs⟩=>⟨_,hv,?_⟩
   refine Aw (by omega) ?_;refine HY 0 (cs:=Ce xs) hs rfl (by rw[Je];omega) λw hs=>?_
   rw[Jf] at hs;have hq2:GP (if q>42949672 then q else 42949672):=by
    unfold GP at *;split <;> omega
   generalize (if q>42949672 then q else 42949672)=q2 at hs hq2;have hs:Ab W w (blk b1 (Ce (xs.set i q2))::blk b2 (Lb gs)::blk b3 (Ce [0,0,0,0,0])::L):=hs
   with_reducible exact ih (i+1) _ t w (by omega) (hx.set hq2) ht hs
 have l1:∀(f i:Nat)(xs:List Int)(w:World),i+f=5->U5 xs->Ab W w (blk b1 (Ce xs)::blk b2 (Lb gs)::blk b3 (Ce [0,0,0,0,0])::L)->N0 Be (WQ W L) (f+1) all b1 0 b2 0 b3 0 (i:Int) w:=by
  clear hs;intro f
  induction f with
  | zero=>
   intro i xs w hi hx hs;rw[LH];refine Ac (decide_eq_false (by omega)) ?_;refine jw We ?_;have hx0:=hx;obtain⟨x0,x1,x2,x3,x4,rfl⟩:=An2 hx.len;refine Ah (x:=x0) hs ?_;refine Ah (x:=x1) hs ?_;refine Ah (x:=x2) hs ?_;refine Ah (x:=x3) hs ?_;refine Ah (x:=x4) hs ?_;refine Ag (Ab1 hs) λv w ⟨z,hv,hz,hs⟩=>⟨_,hv,?_⟩;exact AJ _ (l3 5 0 _ z w (by omega) hx0 hz hs)
  | succ f ih=>
   intro i xs w hi hx hs;rw[LH];refine Ak (decide_eq_true (by omega)) ?_;have h5:=hx.len;rw[SS i,Iu (by omega)];refine Al [blk b1 (Ce xs)] hs λw hs=>?_;refine Aw (by omega) ?_;refine Aq ?_ (hc:=Eu (by omega));refine Aw (by omega) ?_;refine Ah hs ?_ (hc:=Aoa (by omega));refine Af hs ?_;refine Ag (Ab2 hs) λv w ⟨p,hv,hs⟩=>⟨_,hv,Af hs ?_⟩;refine Ag (Aye hs) λv w ⟨y,hv,hy,hs⟩=>⟨_,hv,Af hs ?_⟩;refine Ag (A3s hs (hx.get (by omega)) hy) λv w ⟨q,hv,hq,hs⟩=>⟨_,hv,?_⟩;refine Aw (by omega) ?_
   refine HY 0 (cs:=Ce xs) hs rfl (by rw[Je];omega) λw hs=>?_;rw[Jf] at hs;have hs:Ab W w (blk b1 (Ce (xs.set i q))::blk b2 (Lb gs)::blk b3 (Ce [0,0,0,0,0])::L):=hs
   with_reducible exact ih (i+1) _ w (by omega) (hx.set hq) hs
 exact AJ _ (l1 5 0 ws w (by omega) hu hs)
end
end Go.Proofs.YtjipofkjmmpjdaaGreat
namespace Go.Hb
open Go.Proofs.YtjipofkjmmpjdaaGreat
def tpe(b n:Nat):HP:=JU λ(z:Sl×List Int×Int)=>ED (0<=z.2.2/\z.2.2<=n) (AF [blk b [.l z.1.a z.1.n z.1.c,.i z.2.2],recs (Rec.int .u32) z.1 z.2.1])
abbrev cC(b:Nat)(cur hold:Int)(tb:Nat)(a0 a1 a2 a3 a4 kd nn:Int):HP:=blk b [.i cur,.i hold,pq tb 0,.int .u64 a0,.int .u64 a1,.int .u64 a2,.int .u64 a3,.int .u64 a4,.i kd,.i nn]
def Fo(b n:Nat):HP:=JU λ(z:(Int×Int×Nat)×(Int×Int×Int×Int×Int)×(Int×Int))=>ED (U5 [z.2.1.1,z.2.1.2.1,z.2.1.2.2.1,z.2.1.2.2.2.1,z.2.1.2.2.2.2]) (AF [cC b z.1.1 z.1.2.1 z.1.2.2 z.2.1.1 z.2.1.2.1 z.2.1.2.2.1 z.2.1.2.2.2.1 z.2.1.2.2.2.2 z.2.2.1 z.2.2.2,tpe z.1.2.2 n])
section
variable{W w:World}{M L:List HP}{b n:Nat}
theorem Za(h:Ab W w (tpe b n::M)):∃(s:Sl) (l:List Int) (k:Int),(0<=k/\k<=n)/\(s.n=l.length/\s.n<=s.c)/\Ab W w (blk b [.l s.a s.n s.c,.i k]::recs (Rec.int .u32) s l::M):=by
 obtain⟨⟨s,l,k⟩,h⟩:=h.openE;obtain⟨hp,h⟩:=h.openA;have h:=h.openL;have h:Ab W w (blk b [.l s.a s.n s.c,.i k]::recs (Rec.int .u32) s l::M):=h;exact⟨s,l,k,hp,Bx (s:=s) h,h⟩
theorem KY{s:Sl}{l:List Int}{k:Int}(hp:0<=k/\k<=n)(h:Ab W w (blk b [.l s.a s.n s.c,.i k]::recs (Rec.int .u32) s l::M)):Ab W w (tpe b n::M):=
 Ab.shutE (s,l,k) (Ab.shutA hp (Ab.shutL (Ps:=[_,_]) h))
theorem OY(h:Ab W w (Fo b n::M)):∃(cur hold:Int) (tb:Nat) (a0 a1 a2 a3 a4 kd nn:Int),U5 [a0,a1,a2,a3,a4]/\Ab W w (cC b cur hold tb a0 a1 a2 a3 a4 kd nn::tpe tb n::M):=by
 obtain⟨⟨⟨cur,hold,tb⟩,⟨a0,a1,a2,a3,a4⟩,kd,nn⟩,h⟩:=h.openE;obtain⟨hp,h⟩:=h.openA;exact⟨cur,hold,tb,a0,a1,a2,a3,a4,kd,nn,hp,h.openL⟩
theorem GU{cur hold:Int}{tb:Nat}{a0 a1 a2 a3 a4 kd nn:Int}(hu:U5 [a0,a1,a2,a3,a4])(h:Ab W w (cC b cur hold tb a0 a1 a2 a3 a4 kd nn::tpe tb n::M)):Ab W w (Fo b n::M):=
 Ab.shutE ((cur,hold,tb),(a0,a1,a2,a3,a4),kd,nn) (Ab.shutA hu (Ab.shutL (Ps:=[_,_]) h))
end
end Go.Hb
namespace Go.Proofs.YtjipofkjmmpjdaaGreat
open Go.Hb Go.IntWalk
section
variable{W w:World}{L M:List HP}{b n:Nat}
instance:OkR (Rec.int .u32):=⟨λ_=>rfl⟩
theorem Ax4(hb:n<1000000000000)(hs:Ab W w (tpe b n::M)):AZ PR 102 #[pq b 0] w λv w'=>∃x:Int,v = .int .u32 x/\Ab W w' (tpe b (n+1)::M):=by
 refine cw ⟨mixed,Tryz.func102,rfl⟩ Aiz ?_;obtain⟨s,l,k,hk,hsn,hs⟩:=Za hs;refine Ac rfl ?_;refine Aa (Ah hs ?_);rw[i64_in (k+1) (by omega)];refine Aa (A4 hs λw hs=>?_);refine Al [blk b [.l s.a s.n s.c,.i (k+1)]] hs λw hs=>?_;refine Aa (Aq (Aa (Ah (x:=s) hs (Af hs ?_))))
 with_reducible refine Ay (λh1=>?_) (λh1=>?_)
 ·exact⟨_,rfl,KY (by omega) hs⟩
 refine Al [blk b [.l s.a s.n s.c,.i (k+1)]] hs λw hs=>?_;refine Aa (Aq (x:=s) (Aa (Ah hs (Af hs ?_))));rw[i64_in (k+1-1) (by omega)];refine BU (s:=s) (E:=Rec.int .u32) (rows:=l) hs λb_ o_ ha_=>?_;refine Cw (s:=s) (E:=Rec.int .u32) (rows:=l) ha_ hs ?_;exact⟨_,rfl,KY (by omega) hs⟩
theorem Aqu{s:Sl}{ds:List Int}[hr:Lg W L s (Rec.int .u32) ds](hd:ds.length<1000000)(hs:Ab W w L):AZ PR 80 #[.l s.a s.n s.c] w λv w'=>∃(t:Sl) (l:List Int),v = .l t.a t.n t.c/\Ab W w' (recs (Rec.int .u32) t l::L):=by
 refine cw ⟨mixed,Tryz.func80,rfl⟩ Av3 ?_;refine Ap (λ_=>⟨⟨none,0,0⟩,[],rfl,Ab.nilR _ hs⟩) (λ_=>?_);refine Ai hs λnb w hs=>?_;have hs:=Ab.blkS (b:=nb) (cs:=[]) (n:=0) (Rec.int .u32) [] hs rfl rfl;refine FP (s:=⟨some ⟨nb,0,none⟩,0,0⟩) (E:=Rec.int .u32) (new:=ds) hs (Gc (s:=s) hs) (Bg (s:=s) (E:=Rec.int .u32) hs) (CV _) rfl (by decide) (by simp;omega) λs2 w hs2 hs=>?_
 exact⟨s2,_,rfl,hs⟩
theorem A2o{s:Sl}{ds:List Int}[hr:Lg W L s (Rec.int .u32) ds](hd:ds.length<1000000)(hs:Ab W w L):AZ PR 49 #[.l s.a s.n s.c] w λv w'=>∃b,v=pq b 0/\Ab W w' (tpe b 0::L):=by
 refine cw ⟨mixed,Tryz.func49,rfl⟩ Avc ?_;refine Ag (Aqu (s:=s) hd hs) λv w ⟨t,l,hv,hs⟩=>⟨t,hv,?_⟩;refine Ai hs λb w hs=>⟨b,rfl,KY (s:=t) (l:=l) (k:=0) (by omega) hs⟩
theorem Rs(hs:Ab W w L){k:Int}:AZ PR 78 #[.i k] w λv w'=>v = .b (decide (0<=k/\k<5))/\Ab W w' L:=by
 refine cw ⟨mixed,Tryz.func78,rfl⟩ Av1 ?_
 with_reducible refine Ay (λh1=>?_) (λh1=>?_)
 ·exact⟨by rw[decide_eq_decide.2 (show k<5↔(0<=k/\k<5) by omega)],hs⟩
 ·exact⟨by rw[decide_eq_false (by omega)],hs⟩
theorem Aze{k h:Int}{tb:Nat}(hs:Ab W w (tpe tb n::L)):AZ PR 48 #[.i k,.i h,pq tb 0] w λv w'=>(((0<=k/\k<5)/\1<=h/\h<=256)/\∃b,v = .tuple #[pq b 0,.i 0]/\Ab W w' (Fo b n::L))\/(¬((0<=k/\k<5)/\1<=h/\h<=256)/\∃e:Int,e≠0/\v = .tuple #[.p none,.i e]/\Ab W w' L):=by
 refine cw ⟨mixed,Tryz.func48,rfl⟩ Avb ?_;refine Ag (Rs hs) λv w ⟨hv,hs⟩=>⟨_,hv,?_⟩
 with_reducible refine Ay (λh1=>?_) (λh1=>?_)
 ·exact .inr ⟨λh=>h1 (by simpa using h.1),4,by decide,rfl,hs.drop⟩
 with_reducible refine Ay (λh2=>?_) (λh2=>?_)
 ·exact .inr ⟨by omega,1,by decide,rfl,hs.drop⟩
 with_reducible refine Ay (λh3=>?_) (λh3=>?_)
 ·exact .inr ⟨by omega,1,by decide,rfl,hs.drop⟩
 refine jw ZL ?_;refine QN (Zf hs) λa0 a1 a2 a3 a4 w hu hs=>?_;refine Ai hs λb w hs=>?_;exact .inl ⟨⟨by simpa using h1,by omega,by omega⟩,b,rfl,GU hu hs⟩
theorem VR{k:Int}(hs:Ab W w (Fo b n::M)):AZ PR 62 #[pq b 0,.i k] w λv w'=>∃m:Int,v = .i m/\(m=0↔(0<=k/\k<5))/\Ab W w' (Fo b n::M):=by
 refine cw ⟨mixed,Tryz.func62,rfl⟩ Avq ?_;refine Ac rfl ?_;refine Ag (Rs hs) λv w ⟨hv,hs⟩=>⟨_,hv,?_⟩
 with_reducible refine Ay (λh1=>?_) (λh1=>?_)
 ·exact⟨4,rfl,by have:¬(0<=k/\k<5):=h1;omega,hs⟩
 obtain⟨cur,hold,tb,a0,a1,a2,a3,a4,kd,nn,hu,hs⟩:=OY hs;refine Aa (A4 hs λw hs=>?_);refine Aa (A4 hs λw hs=>?_);refine Aa (A4 hs λw hs=>?_);exact⟨0,rfl,by simpa using h1,GU hu hs⟩
theorem Aij(hb:n<1000000000000){g0 g1 g2 g3 g4 all:Int}(hs:Ab W w (Fo b n::M)):AZ PR 58 #[pq b 0,.agg #[.i g0,.i g1,.i g2,.i g3,.i g4],.i all] w λv w'=>∃(k:Int) (t:Bool),v = .tuple #[.i k,.b t]/\(0<=k/\k<5)/\Ab W w' (Fo b (n+1)::M):=by
 refine cw ⟨mixed,Tryz.func58,rfl⟩ Avm ?_;refine Ai hs λb1 w hs=>?_;refine Ac rfl ?_;have hs:Ab W w (Fo b n::blk b1 [.i g0,.i g1,.i g2,.i g3,.i g4]::M):=hs.perm (List.Perm.swap _ _ _);obtain⟨cur,hold,tb,a0,a1,a2,a3,a4,kd,nn,hu,hs⟩:=OY hs;refine Al [cC b cur hold tb a0 a1 a2 a3 a4 kd nn] hs λw hs=>?_;refine Aa (Aq (Aq (Aq (Aq (Aq ?_)))))
 iterate 5 refine Ah hs ?_
 refine Af hs ?_;refine QN (Ayf hu hs) λa0 a1 a2 a3 a4 w hu hs=>?_;refine Aa ?_
 iterate 5 refine A4 hs λw hs=>?_
 refine Al [cC b cur hold tb a0 a1 a2 a3 a4 kd nn] hs λw hs=>?_;refine Aa (Aq (Aq (Aq (Aq (Aq (Aa (Ah hs (Af hs ?_))))))));have hs:Ab W w (tpe tb n::cC b cur hold tb a0 a1 a2 a3 a4 kd nn::M):=by exact Ab.fin hs
 refine Ag (Ax4 hb hs) λv w ⟨x,hv,hs⟩=>⟨_,hv,?_⟩;have hs:Ab W w (cC b cur hold tb a0 a1 a2 a3 a4 kd nn::tpe tb (n+1)::M):=hs.perm (List.Perm.swap _ _ _);refine Af hs ?_;refine Ag (Ayg hs) λv w ⟨t,hv,ht,hs⟩=>⟨_,hv,?_⟩;refine Aa (Ah hs ?_);have j1:∀(w:World)(nn:Int),Ab W w (cC b cur hold tb a0 a1 a2 a3 a4 t nn::tpe tb (n+1)::M)->ZT Be (λv w'=>∃(k:Int) (t:Bool),v = .tuple #[.i k,.b t]/\(0<=k/\k<5)/\Ab W w' (Fo b (n+1)::M)) (some ⟨b,0,none⟩) t w:=by
  clear hs;intro w nn hs;refine jw ZU ?_;refine Al [cC b cur hold tb a0 a1 a2 a3 a4 t nn] hs λw hs=>?_;refine Aa (Aq (Aa (Ah hs (Af hs ?_))));refine Ap (λ_=>⟨t,false,rfl,ht,GU hu hs⟩) (λ_=>?_);exact Ag (VR (GU hu hs)) λv w ⟨m,hv,_,hs⟩=>⟨_,hv,t,true,rfl,ht,hs⟩
 refine Ap (λ_=>?_) (λ_=>?_)
 ·refine Aa (A4 hs λw hs=>?_);refine Aa (A4 hs λw hs=>?_);exact⟨t,false,rfl,ht,GU hu hs⟩
 ·refine Aa (Ah hs ?_);refine Ap (λh2=>?_) (λ_=>?_)
  ·have h2:t=kd:=by simpa using h2
   subst h2;refine Aa (Ah hs ?_);refine Aa (A4 hs λw hs=>?_);exact j1 w _ hs
  ·refine Aa (A4 hs λw hs=>?_);refine Aa (A4 hs λw hs=>?_);exact j1 w _ hs
end
end Go.Proofs.YtjipofkjmmpjdaaGreat
namespace Go.Hb
instance:GG Rec.ptr:=⟨Nat.one_pos⟩
section
variable{α:Type}{f:α->HP}{l:List α}{i:Nat}{x:α}{W w:World}{M:List HP}
theorem KG(hi:i<l.length)(h:Ab W w (AF (l.map f)::M)):Ab W w (f l[i]::AF ((l.eraseIdx i).map f)::M):=by
 have h1:=h.openL;have hp:(l.map f).Perm (f l[i]::(l.eraseIdx i).map f):=(((Ei hi).map f).symm);have h2:=h1.perm (hp.append_right M);have h2:Ab W w (f l[i]::((l.eraseIdx i).map f++M)):=h2;have h3:=h2.perm (List.perm_middle (a:=f l[i]) (l₁:=(l.eraseIdx i).map f) (l₂:=M)).symm;have h4:=Ab.shutL h3;exact h4.perm (List.Perm.swap _ _ _)
theorem Apl(hi:i<l.length)(h:Ab W w (f x::AF ((l.eraseIdx i).map f)::M)):Ab W w (AF ((l.set i x).map f)::M):=by
 have h1:=(h.perm (List.Perm.swap _ _ _)).openL;have h2:Ab W w (f x::((l.eraseIdx i).map f++M)):=h1.perm List.perm_middle;have hs:i<(l.set i x).length:=by simpa using hi
 have hp:=(Ei hs).map f;have e1:(l.set i x)[i]=x:=by simp
 have e2:(l.set i x).eraseIdx i=l.eraseIdx i:=List.eraseIdx_set_eq;rw[e1,e2] at hp;exact Ab.shutL (h2.perm (hp.append_right M))
theorem Hn(hi:i<l.length)(h:Ab W w (f l[i]::AF ((l.eraseIdx i).map f)::M)):Ab W w (AF (l.map f)::M):=by
 have h1:=Apl hi h;rw[List.set_getElem_self] at h1;exact h1
theorem Gb(h:Ab W w (f x::AF (l.map f)::M)):Ab W w (AF ((l++[x]).map f)::M):=by
 have h1:=(h.perm (List.Perm.swap _ _ _)).openL;refine Ab.shutL ?_;rw[List.map_append,List.append_assoc];exact h1
theorem Hm(h:Ab W w M):Ab W w (AF (([]:List α).map f)::M):=Ab.shutL h
end
end Go.Hb
namespace Go.Hb
open Go.ChangeShapes Go.WideShapes Go.RowKit
section
variable{P:Program}{H:Type}{enc:TypeId×Value->H}{W:World}{sp:Nat->Bool}{held:Bool}{base:Nat}
theorem slc_cap{t e:TypeId}{d:DataW H}{ps:List MemPlace}{a:OA}{n c:Nat}(ht:P.underlying t=some (.slice e))(hd:DataW.Trod enc P W base sp held t (.slice a n c) d ps):n<=c:=by
 obtain⟨fuel,hf⟩:=hd;rcases DataW.trod_slice ht hf with⟨h,_⟩|⟨a',len',cap',elems,rest,n',rfl,h,hd',_,hlc,hcm,hel,hcell,_,_⟩
 ·simp only[Value.cells,List.cons.injEq,Value.slice.injEq,and_true] at h;omega
 ·simp only[Value.cells,List.cons.injEq,Value.slice.injEq,and_true] at h;omega
end
end Go.Hb
namespace Go.Hb
open Go.ChangeShapes Go.WideShapes Go.RowKit
structure Ans where
 err:Int
 hit:Bool
 val:BA
 sl:Sl
 gone:List BA
instance:Inhabited Ans:=⟨⟨0,false,⟨#[]⟩,⟨none,0,0⟩,[]⟩⟩
def Zp:Rec Ans:=⟨4,λa=>[.int .i64 a.err,.bool a.hit,.string a.val,.slice a.sl.a a.sl.n a.sl.c],λ_=>rfl⟩
def stF(P:Program)(t:TypeId):List (TypeId×Nat):=match P.underlying t with
 | some (.struct fs)=>fs.toList.map λf=>(f.type,f.offset)
 | _=>[]
section
variable{H:Type}{enc:TypeId×Value->H}{P:Program}{W:World}{sp:Nat->Bool}{held:Bool}{base:Nat}
theorem Zv{a:Addr}{n:Nat}{c:List Value}(h:W.cells? base a n=some c)(hn:0<n):a.spot=none:=by
 unfold World.cells? at h;have h:(List.range n).mapM (λi=>W.cell? (Addr.add a i))=some c:=by
  by_cases hb:base<=a.block
  ·rwa [if_pos hb] at h
  ·rw[if_neg hb] at h;cases h
 obtain⟨y,hy⟩:=Y3 h 0 (by simp[hn]);have ha:Addr.add a 0=a:=by simp[Addr.add]
 rw[ha] at hy;unfold World.cell? at hy;split at hy
 ·split at hy
  ·cases hy
  ·rename_i hs;cases hsp:a.spot <;> simp_all
 ·cases hy
theorem Li{b o j:Nat}:Addr.add ⟨b,o,none⟩ j=⟨b,o+j,none⟩:=by
 unfold Addr.add;split
 ·simp_all
 ·rfl
theorem Rr{b i n:Nat}{c:List Value}(h:W.cells? base ⟨b,i,none⟩ n=some c):c.length=n/\∀j,j<n->W.cell? ⟨b,i+j,none⟩=c[j]?:=by
 unfold World.cells? at h;have h:(List.range n).mapM (λi_1=>W.cell? (Addr.add ⟨b,i,none⟩ i_1))=some c:=by
  by_cases hb:base<=b
  ·rwa [if_pos hb] at h
  ·rw[if_neg hb] at h;cases h
 have:∀(l:List Nat)(c:List Value),l.mapM (λi_1=>W.cell? (Addr.add ⟨b,i,none⟩ i_1))=some c->c.length=l.length/\∀j (hj:j<l.length),W.cell? (Addr.add ⟨b,i,none⟩ l[j])=c[j]?:=by
  intro l
  induction l with
  | nil=>intro c h;simp only[List.mapM_nil,Option.pure_def,Option.some.injEq] at h;subst h;exact⟨rfl,λj hj=>by simp at hj⟩
  | cons x l ih=>
   intro c h;simp only[List.mapM_cons,Option.bind_eq_bind,Option.pure_def,Option.bind_eq_some_iff] at h;obtain⟨y,hy,ys,hys,hc⟩:=h;cases hc;obtain⟨h1,h2⟩:=ih ys hys;refine⟨by simp[h1],λj hj=>?_⟩;cases j with
   | zero=>simpa using hy
   | succ j=>simpa using h2 j (by simpa using hj)
 obtain⟨h1,h2⟩:=this _ _ h;refine⟨by simpa using h1,λj hj=>?_⟩;have:=h2 j (by simpa using hj);simp only[List.getElem_range] at this;rw[<- this,Li]
theorem Ap1{Q:List Value->Prop}{a:Addr}{m len cap:Nat}(hpos:0<m)(hrow:∀i,i<len->∃c,W.cells? base (a.add (i*m)) m=some c/\Q c) :
  ∃rows:List (List Value),rows.length=len/\(∀x∈rows,Q x)/\(len=0\/Ab4 W m ⟨some a,len,cap⟩ rows.flatten):=by
 by_cases h0:len=0
 ·exact⟨[],h0.symm,λ_ h=>(by cases h),.inl h0⟩
 obtain⟨c0,hc0,_⟩:=hrow 0 (by omega);have ha:Addr.add a (0*m)=a:=by simp[Addr.add]
 rw[ha] at hc0;have hspot:=Zv hc0 hpos;obtain⟨b,o,spot⟩:=a;simp only at hspot;subst hspot;have hrow2:∀i,∃c,i<len->W.cells? base (Addr.add ⟨b,o,none⟩ (i*m)) m=some c/\Q c:=by
  intro i
  by_cases hi:i<len
  ·obtain⟨c,hc⟩:=hrow i hi;exact⟨c,λ_=>hc⟩
  ·exact⟨[],λh=>absurd h hi⟩
 let f:Nat->List Value:=λi=>Classical.choose (hrow2 i);have hf:∀i,i<len->W.cells? base (Addr.add ⟨b,o,none⟩ (i*m)) m=some (f i)/\Q (f i):=λi hi=>Classical.choose_spec (hrow2 i) hi;refine⟨(List.range len).map f,by simp,?_,.inr ⟨?_,.inr ⟨b,o,rfl,?_⟩⟩⟩
 ·intro x hx;simp only[List.mem_map,List.mem_range] at hx;obtain⟨i,hi,rfl⟩:=hx;exact(hf i hi).2
 ·simp only;have:∀(l:List (List Value)),(∀x∈l,x.length=m)->l.flatten.length=l.length*m:=by
   intro l
   induction l with
   | nil=>simp
   | cons x l ih=>intro h;simp[ih λy hy=>h y (.tail _ hy),h x (.head _),Nat.add_mul,Nat.add_comm]
  rw[this]
  ·simp
  ·intro x hx;simp only[List.mem_map,List.mem_range] at hx;obtain⟨i,hi,rfl⟩:=hx;have h1:=(hf i hi).1;rw[Li] at h1;exact(Rr h1).1
 ·have:∀(n:Nat)(g:Nat->List Value)(p:Nat),(∀i,i<n->(g i).length=m/\∀j,j<m->W.cell? ⟨b,p+i*m+j,none⟩=(g i)[j]?) ->
    ∀j,j<((List.range n).map g).flatten.length->W.cell? ⟨b,p+j,none⟩=((List.range n).map g).flatten[j]?:=by
   intro n
   induction n with
   | zero=>intro g p _ j hj;simp at hj
   | succ n ih=>
    intro g p h j hj;have hr:(List.range (n+1)).map g=g 0::(List.range n).map (g ∘ Nat.succ):=by
     rw[List.range_succ_eq_map];simp
    rw[hr] at hj ⊢;simp only[List.flatten_cons] at hj ⊢;obtain⟨h0,h0'⟩:=h 0 (by omega)
    by_cases hj0:j<m
    ·rw[List.getElem?_append_left (by omega)];simpa using h0' j hj0
    ·rw[List.getElem?_append_right (by omega)];have:=ih (g ∘ Nat.succ) (p+m) (λi hi=>by
      obtain⟨a1,a2⟩:=h (i+1) (by omega);refine⟨a1,λj hj=>?_⟩;have:=a2 j hj;show _=(g (i+1))[j]?;rw[<- this];congr 2;rw[Nat.add_mul];omega) (j-m) (by simp at hj ⊢;omega)
     rw[h0,<- this];congr 2;omega
  refine this len f o λi hi=>?_;obtain⟨h1,h2⟩:=hf i hi;rw[Li] at h1;exact Rr h1
theorem Ax8{t:TypeId}{us:List Value}{x:DataW H×List MemPlace}{fuel:Nat}{fs:Array Field}(hu:P.underlying t=some (.struct fs))(hx:DataW.trod enc P W base sp held fuel t us=some x)(hlt:HX P t x.1) :
  us.length=P.cellsOf t/\∀p∈stF P t,∃fuel y,DataW.trod enc P W base sp held fuel p.1 ((us.drop p.2).take (P.cellsOf p.1))=some y/\HX P p.1 y.1:=by
 cases fuel with
 | zero=>cases hx
 | succ fuel=>
 unfold DataW.trod at hx;rw[hu] at hx;simp only at hx;split at hx
 case isFalse=>cases hx
 rename_i hlen;simp only[Option.map_eq_some_iff] at hx;obtain⟨xs,hxs,rfl⟩:=hx;have hlt':∀n∈DataW.weightsEach P (fs.toList.map (·.type)) (xs.map (·.1)),n<=reachBytes:=λn hn=>hlt n (by simp only[DataW.weights,hu];exact hn)
 refine⟨hlen,λp hp=>?_⟩;simp only[stF,hu,List.mem_map] at hp;obtain⟨f,hf,rfl⟩:=hp;obtain⟨i,hi,hfi⟩:=List.mem_iff_getElem.1 hf;obtain⟨y,hy,hfy⟩:=KE hxs (List.getElem?_eq_getElem hi);rw[hfi] at hfy;exact⟨fuel,y,hfy,light_each hlt' (j:=i) (by rw[List.getElem?_map,List.getElem?_eq_getElem hi,hfi];rfl) (by rw[List.getElem?_map,hy];rfl)⟩
end
end Go.Hb
namespace Go.Hb
structure JY where
 kind:Int
 key:BA
 val:BA
 n:Int
instance:Inhabited JY:=⟨⟨0,⟨#[]⟩,⟨#[]⟩,0⟩⟩
def opR:Rec JY:=⟨4,λo=>[.i o.kind,.s o.key,.s o.val,.i o.n],λ_=>rfl⟩
structure OpOk(o:JY):Prop where
 kind:okK .i64 o.kind
 key:Ayx o.key
 val:Ayx o.val
 n:okK .i64 o.n
theorem of_op(x:List Value)(h:DN [.int .i64,.str,.str,.int .i64] x):∃o,x=opR.cells o/\OpOk o:=by
 obtain⟨v0,v1,v2,v3,rfl⟩:∃v0 v1 v2 v3,x=[v0,v1,v2,v3]:=by
  have hl:=L4 h
  match x,hl with
  | [v0,v1,v2,v3],_=>exact⟨v0,v1,v2,v3,rfl⟩
 obtain⟨h0,h1,h2,h3,_⟩:=h;obtain⟨k0,rfl,g0⟩:=h0;obtain⟨k1,rfl,g1⟩:=h1;obtain⟨k2,rfl,g2⟩:=h2;obtain⟨k3,rfl,g3⟩:=h3;exact⟨⟨k0,k1,k2,k3⟩,rfl,g0,g1,g2,g3⟩
end Go.Hb
namespace Go.Hb
open Go.Proofs.YtjipofkjmmpjdaaGreat
noncomputable def By(m:Nat)(k:BA):Nat:=(EJ 31 k % (m:Int)).toNat
theorem KV{m:Nat}(h:1<=m)(k:BA):By m k<m:=by
 unfold By;have h1:=Int.emod_nonneg (EJ 31 k) (show(m:Int)≠0 by omega);have h2:=Int.emod_lt_of_pos (EJ 31 k) (show(0:Int)<m by omega);omega
abbrev Sh:=TT×Int×Option Nat
abbrev CO(rm:Int)(n:Nat)(z:Nat×Sh):HP:=sd z.1 rm n z.2.1 z.2.2.1 z.2.2.2
abbrev cB(b:Nat)(s:Sl)(p ch:Nat)(now:Int):HP:=blk b [.l s.a s.n s.c,pq p 0,pq ch 0,.i now]
structure CI(rm now:Int)(n:Nat):Prop where
 sh1:1<=n
 sh8:n<=8
 rm1:1<=rm
 rm2:rm<=1024
 now0:0<=now
 nowM:now<=1125899906842624
def Fy(b k:Nat)(rm now:Int)(X:List Sh):HP:=JU λ(z:Sl×Nat×Nat×List (Nat×Sh))=>ED (CI rm now X.length/\z.2.2.2.map (·.2)=X) (AF [cB b z.1 z.2.1 z.2.2.1 now,recs Rec.ptr z.1 (z.2.2.2.map (·.1)),E7 z.2.1 k,Fo z.2.2.1 k,AF (z.2.2.2.map (CO rm (600000*k)))])
abbrev rsV(e:Int)(h:Bool)(v:BA)(s:Sl):Value:=.agg #[.i e,.b h,.s v,.l s.a s.n s.c]
abbrev Zk(b:Nat)(e:Int)(h:Bool)(v:BA)(s:Sl):HP:=blk b [.i e,.b h,.s v,.l s.a s.n s.c]
abbrev FA(b:Nat)(o:JY):HP:=blk b [.i o.kind,.s o.key,.s o.val,.i o.n]
abbrev JW(b:Nat):HP:=blk b [.i 0,.b false,.s ⟨#[]⟩,.l none 0 0]
def swR(k:Int)(z z':Sh):Prop:=z'.1=z.1/\z'.2.1=k/\((k=z.2.1/\z'=z)\/z'.2.2=some z.1.length)
def exR(nw:Int)(z z':Sh):Prop:=z'.1=AB z.1 (Cm z.1 nw)/\z'.2.1=z.2.1/\Jj z'.2.2 z.2.2
def rsR(r:Int)(z:Sh)(g:BL)(z':Sh):Prop:=(g.Nodup/\∀x∈g,x∈kT z.1)/\(g=[]\/((AB z.1 g).length:Int)=r)/\z'=(AB z.1 g,z.2.1,none)
inductive F2 {α β:Type} (R:α->β->Prop):List α->List β->Prop
 | nil:F2 R [] []
 | cons {a b l m}:R a b->F2 R l m->F2 R (a::l) (b::m)
inductive F3 {α β γ:Type} (R:α->β->γ->Prop):List α->List β->List γ->Prop
 | nil:F3 R [] [] []
 | cons {a b c l m n}:R a b c->F3 R l m n->F3 R (a::l) (b::m) (c::n)
section
variable{α β γ:Type}{R:α->β->Prop}{S:α->β->γ->Prop}{l:List α}{m:List β}{n:List γ}{a:α}{b:β}{c:γ}{i:Nat}
theorem F2.len(h:F2 R l m):l.length=m.length:=by
 induction h with
 | nil=>rfl
 | cons _ _ ih=>simp[ih]
theorem F2.get(h:F2 R l m):∀{i:Nat}{a:α},l[i]? = some a->∃b,m[i]? = some b/\R a b:=by
 induction h with
 | nil=>intro i a h;simp at h
 | cons h _ ih=>
  intro i x hi;cases i with
  | zero=>simp at hi;subst hi;exact⟨_,rfl,h⟩
  | succ i=>simp at hi;simpa using ih hi
theorem F2.snoc(h:F2 R l m)(hr:R a b):F2 R (l++[a]) (m++[b]):=by
 induction h with
 | nil=>exact .cons hr .nil
 | cons h _ ih=>exact .cons h ih
theorem F3.snoc(h:F3 S l m n)(hr:S a b c):F3 S (l++[a]) (m++[b]) (n++[c]):=by
 induction h with
 | nil=>exact .cons hr .nil
 | cons h _ ih=>exact .cons h ih
theorem F3.len(h:F3 S l m n):l.length=m.length/\l.length=n.length:=by
 induction h with
 | nil=>exact⟨rfl,rfl⟩
 | cons _ _ ih=>simp[ih.1,<- ih.2]
theorem F3.get(h:F3 S l m n):∀{i:Nat}{a:α},l[i]? = some a->∃b c,m[i]? = some b/\n[i]? = some c/\S a b c:=by
 induction h with
 | nil=>intro i a h;simp at h
 | cons h _ ih=>
  intro i x hi;cases i with
  | zero=>simp at hi;subst hi;exact⟨_,_,rfl,rfl,h⟩
  | succ i=>simp at hi;simpa using ih hi
end
structure NoR(X:List Sh)(now:Int)(o:JY):Prop where
 n1:o.kind=1->Jk o.key now≠0
 n2:o.kind=2->Fe o.key o.val now o.n≠0
 n3:o.kind=3->Jk o.key now≠0
 n6:o.kind=6->¬(0<=o.n/\o.n<X.length)
 n8:o.kind=8->¬(0<=o.n/\o.n<5)
 n9:o.kind=9->¬(1<=o.n/\o.n<=1024)
inductive LA (rm now:Int) (X:List Sh) (o:JY):Int->Bool->BA->BL->Int->Int->List Sh->Prop
 | no {e:Int}:e≠0->NoR X now o->LA rm now X o e false ⟨#[]⟩ [] rm now X
 | get {T:TT} {kd:Int} {p q:Option Nat}:o.kind=1->Jk o.key now=0->X[By X.length o.key]? = some (T,kd,p)->Jj q p->LA rm now X o 0 (EB T o.key now).2 (EB T o.key now).1 (CL T o.key now) rm now (X.set (By X.length o.key) (Cb T o.key now,kd,q))
 | put {T:TT} {kd:Int} {p q:Option Nat} {g:BL}:o.kind=2->Fe o.key o.val now o.n=0->X[By X.length o.key]? = some (T,kd,p)->Jj q p->g.Nodup->(∀x∈g,x∈kT (Cb T o.key now))->o.key∉g->LA rm now X o 0 false ⟨#[]⟩ (CL T o.key now++g) rm now (X.set (By X.length o.key) (F5 (AB (Cb T o.key now) g) o.key o.val now o.n,kd,q))
 | del {T:TT} {kd:Int} {p q:Option Nat}:o.kind=3->Jk o.key now=0->X[By X.length o.key]? = some (T,kd,p)->Jj q p->LA rm now X o 0 (AE (Cb T o.key now) o.key).isSome ⟨#[]⟩ (CL T o.key now) rm now (X.set (By X.length o.key) (Ew (Cb T o.key now) o.key,kd,q))
 | tick {X':List Sh}:o.kind=4->0<=o.n->now+o.n<=1125899906842624->F2 (exR (now+o.n)) X X'->LA rm now X o 0 false ⟨#[]⟩ (X.map λz=>Cm z.1 (now+o.n)).flatten rm (now+o.n) X'
 | drain {h:Bool} {i:Nat} {T:TT} {kd:Int} {p q:Option Nat}:o.kind=5->o.n=i->X[i]? = some (T,kd,p)->Jj q p->LA rm now X o 0 h ⟨#[]⟩ [] rm now (X.set i (T,kd,q))
 | step {h:Bool} {v:BA} {i:Nat} {T:TT} {kd:Int} {p q:Option Nat}:o.kind=6->o.n=i->X[i]? = some (T,kd,p)->Jj q p->(∀m,q=some m->m<=T.length)->LA rm now X o 0 h v [] rm now (X.set i (T,kd,Hk q))
 | epoch {h:Bool} {v:BA} {X':List Sh} {k:Int}:o.kind=7->(0<=k/\k<5)->(X'=X\/F2 (swR k) X X')->LA rm now X o 0 h v [] rm now X'
 | force {X':List Sh}:o.kind=8->(0<=o.n/\o.n<5)->F2 (swR o.n) X X'->LA rm now X o 0 false ⟨#[]⟩ [] rm now X'
 | res {X':List Sh} {G:List BL}:o.kind=9->1<=o.n->o.n<=1024->F3 (rsR o.n) X G X'->LA rm now X o 0 false ⟨#[]⟩ G.flatten o.n now X'
abbrev Rl(b k:Nat)(rm now:Int)(X:List Sh)(o:JY)(W:World)(M:List HP):VW:=λv w'=>∃(e:Int) (h:Bool) (x:BA) (sl:Sl) (gone:BL) (rm' now':Int) (X':List Sh),v=rsV e h x sl/\LA rm now X o e h x gone rm' now' X'/\Ab W w' (Fy b (k+1) rm' now' X'::recs Rec.str sl gone::M)
theorem OW{α:Type}{W:World}{f g:α->HP}(hfg:∀(x:α)(w:World)(M:List HP),Ab W w (f x::M)->Ab W w (g x::M)):∀{l:List α}{w:World}{M:List HP},Ab W w (AF (l.map f)::M)->Ab W w (AF (l.map g)::M)
 | [],w,M,h=>h
 | x::l,w,M,h=>by
  have h1:Ab W w (f x::(l.map f++M)):=h.openL;have h2:=hfg x w _ h1;have h3:Ab W w (l.map f++g x::M):=h2.perm List.perm_middle.symm;have h5:=OW hfg (l:=l) (Ab.shutL h3);have h6:Ab W w (l.map g++g x::M):=h5.openL;have h7:Ab W w (g x::(l.map g++M)):=h6.perm List.perm_middle;exact Ab.shutL h7
section
variable{W w:World}{M L:List HP}{F:HP->List HP}{b k n m:Nat}{X:List Sh}{p ch:Nat}{sl:Sl}{Ls:List (Nat×Sh)}{rm now:Int}{o:JY}
theorem Apk(hn:n<=m)(hs:Ab W w (E7 b n::M)):Ab W w (E7 b m::M):=by
 obtain⟨sb,r,l,hl,hs⟩:=KI hs;have hs:Ab W w (Rk l n::blk b (pq sb 0::.i r::l.map λq=>pq q 0)::Gh sb::M):=by exact Ab.fin hs
 have hs:Ab W w (Rk l m::blk b (pq sb 0::.i r::l.map λq=>pq q 0)::Gh sb::M):=OW (λx w M hs=>Gd hn hs) hs;exact KJ hl (by exact Ab.fin hs)
theorem Ail(hn:n<=m)(hs:Ab W w (Fo b n::M)):Ab W w (Fo b m::M):=by
 obtain⟨cur,hold,tb,a0,a1,a2,a3,a4,kd,nn,hu,hs⟩:=OY hs;have hs:Ab W w (tpe tb n::cC b cur hold tb a0 a1 a2 a3 a4 kd nn::M):=by exact Ab.fin hs
 obtain⟨s,l,k,hk,_,hs⟩:=Za hs;have hs:Ab W w (tpe tb m::cC b cur hold tb a0 a1 a2 a3 a4 kd nn::M):=KY (s:=s) (l:=l) (k:=k) ⟨hk.1,by omega⟩ hs;exact GU hu (by exact Ab.fin hs)
theorem YN(hn:n<=m)(hs:Ab W w (AF (Ls.map (CO rm n))::M)):Ab W w (AF (Ls.map (CO rm m))::M):=OW (λx w M hs=>FI hn hs) hs
theorem Dm(h:Ab W w (Fy b k rm now X::M)):∃(sl:Sl) (p ch:Nat) (Ls:List (Nat×Sh)),CI rm now Ls.length/\Ls.map (·.2)=X/\Ls.length=X.length/\sl.n=Ls.length/\Ab W w (cB b sl p ch now::recs Rec.ptr sl (Ls.map (·.1))::E7 p k::Fo ch k::AF (Ls.map (CO rm (600000*k)))::M):=by
 obtain⟨⟨sl,p,ch,Ls⟩,h⟩:=h.openE;obtain⟨⟨hp,hX⟩,h⟩:=h.openA;have h:=h.openL;have h:Ab W w (cB b sl p ch now::recs Rec.ptr sl (Ls.map (·.1))::E7 p k::Fo ch k::AF (Ls.map (CO rm (600000*k)))::M):=h;have hl:=(Bx (s:=sl) h).1;rw[List.length_map] at hl;have h2:Ls.length=X.length:=by rw[<- hX,List.length_map]
 exact⟨sl,p,ch,Ls,h2 ▸ hp,hX,h2,hl,h⟩
theorem Ch{m1 m2 m3:Nat}(hp:CI rm now Ls.length)(hX:Ls.map (·.2)=X)(h1:m1<=k:=by omega)(h2:m2<=k:=by omega)(h3:m3<=600000*k:=by omega)(hs:Ab W w (cB b sl p ch now::recs Rec.ptr sl (Ls.map (·.1))::E7 p m1::Fo ch m2::AF (Ls.map (CO rm m3))::M)):Ab W w (Fy b k rm now X::M):=by
 have hs:Ab W w (E7 p m1::cB b sl p ch now::recs Rec.ptr sl (Ls.map (·.1))::Fo ch m2::AF (Ls.map (CO rm m3))::M):=by exact Ab.fin hs
 have hs:=Apk h1 hs;have hs:Ab W w (Fo ch m2::cB b sl p ch now::recs Rec.ptr sl (Ls.map (·.1))::E7 p k::AF (Ls.map (CO rm m3))::M):=by exact Ab.fin hs
 have hs:=Ail h2 hs;have hs:Ab W w (AF (Ls.map (CO rm m3))::cB b sl p ch now::recs Rec.ptr sl (Ls.map (·.1))::E7 p k::Fo ch k::M):=by exact Ab.fin hs
 have hs:=YN h3 hs;have hl:X.length=Ls.length:=by rw[<- hX,List.length_map]
 exact Ab.shutE (sl,p,ch,Ls) (Ab.shutA ⟨hl.symm ▸ hp,hX⟩ (Ab.shutL (Ps:=[_,_,_,_,_]) (by exact Ab.fin hs)))
theorem Jz(h:Ab W w (Fy b k rm now X::M)):CI rm now X.length/\∀z∈X,Aqn rm z.1/\(0<=z.2.1/\z.2.1<5):=by
 obtain⟨sl,p,ch,Ls,hi,rfl,hl,hn,hs⟩:=Dm h;refine⟨hl ▸ hi,λz hz=>?_⟩;obtain⟨y,hy,rfl⟩:=List.mem_map.1 hz;obtain⟨i,hil,rfl⟩:=List.mem_iff_getElem.1 hy;have hs:Ab W w (AF (Ls.map (CO rm (600000*k)))::cB b sl p ch now::recs Rec.ptr sl (Ls.map (·.1))::E7 p k::Fo ch k::M):=by exact Ab.fin hs
 have hs:=KG hil hs;refine⟨Aef hs,?_⟩;obtain⟨l,R,evs,hi,hs⟩:=CP hs;exact(Ep hs).2.1
theorem H2{e:Int}(he:e≠0)(hN:NoR X now o)(hs:Ab W w (Fy b (k+1) rm now X::M)):Rl b k rm now X o W M (rsV e false ⟨#[]⟩ ⟨none,0,0⟩) w:=
 ⟨e,false,⟨#[]⟩,⟨none,0,0⟩,[],rm,now,X,rfl,.no he hN,(Ab.nilR Rec.str hs).perm (List.Perm.swap _ _ _)⟩
theorem Nz{h:Bool}{x:BA}{X':List Sh}(hD:LA rm now X o 0 h x [] rm now X')(hs:Ab W w (Fy b (k+1) rm now X'::M)):Rl b k rm now X o W M (rsV 0 h x ⟨none,0,0⟩) w:=
 ⟨0,h,x,⟨none,0,0⟩,[],rm,now,X',rfl,hD,(Ab.nilR Rec.str hs).perm (List.Perm.swap _ _ _)⟩
theorem HM{rb:Nat}{v0 v1 v2 v3:Value}{K:Int->Bool->BA->Sl->WP}{e:Int}{h:Bool}{x:BA}{s:Sl}(hs:Ab W w L)[hA:At L rb (blk rb [v0,v1,v2,v3]) F](hQ:∀w',Ab W w' (F (Zk rb e h x s))->K e h x s w') :
  st rb 0 (.i e) (st rb 1 (.b h) (st rb 2 (.s x) (st rb 3 (.l s.a s.n s.c) (ld (.int .i64) rb 0 λa=>ld .bool rb 1 λb=>ld .str rb 2 λc=>ld .slc rb 3 λd=>K a b c d)))) w:=by
 refine At.one (hA:=hA) hs λM hs hb=>?_;refine A4 hs λw hs=>A4 hs λw hs=>A4 hs λw hs=>A4 hs λw hs=>?_;refine Ah hs (Ah hs (Ah hs (Ah (x:=s) hs ?_)));exact hQ w (hb _ _ hs)
theorem An6{i:Nat}(hi:i<Ls.length):(Ls.map λz:Nat×Sh=>z.1).getD i default=(Ls[i]).1:=by
 rw[List.getD_eq_getElem?_getD,List.getElem?_map,List.getElem?_eq_getElem hi];rfl
theorem SP{i:Int}{j:Nat}(e:i=(j:Int))(hi:j<Ls.length):(Rec.ptr.cells ((Ls.map λz:Nat×Sh=>z.1).getD i.toNat default))[0]? = some (CK.ptr.val (some ⟨(Ls[j]).1,0,none⟩)):=by
 subst e;rw[Int.toNat_natCast,An6 hi];rfl
theorem PB{pre:List (Nat×Sh)}{z:Nat×Sh}{rest:List (Nat×Sh)}(e:Ls=pre++z::rest):(Rec.ptr.cells ((Ls.map λz:Nat×Sh=>z.1).getD (Int.toNat (pre.length:Int)) default))[0]? = some (CK.ptr.val (some ⟨z.1,0,none⟩)):=by
 subst e;rw[Int.toNat_natCast,List.getD_eq_getElem?_getD,List.getElem?_map,List.getElem?_append_right (Nat.le_refl _),Nat.sub_self];rfl
theorem Vw{α:Type}{f:α->HP}{x:α}{l:List α}(h:Ab W w (AF ((x::l).map f)::M)):Ab W w (f x::AF (l.map f)::M):=KG (i:=0) (l:=x::l) (Nat.succ_pos _) h
variable{i:Nat}{y:Sh}
theorem KH(hi:i<Ls.length)(hn:n<=m)(h:Ab W w (AF (Ls.map (CO rm n))::M)):Ab W w (sd (Ls[i]).1 rm n (Ls[i]).2.1 (Ls[i]).2.2.1 (Ls[i]).2.2.2::AF ((Ls.eraseIdx i).map (CO rm m))::M):=by
 have hs:=KG hi h;have hs:=YN (m:=m) hn (hs.perm (List.Perm.swap _ _ _));exact hs.perm (List.Perm.swap _ _ _)
theorem Qt(hi:i<Ls.length)(hn:n<=m)(h:Ab W w (sd (Ls[i]).1 rm n y.1 y.2.1 y.2.2::AF ((Ls.eraseIdx i).map (CO rm m))::M)):Ab W w (AF ((Ls.set i ((Ls[i]).1,y)).map (CO rm m))::M):=
 Apl (f:=CO rm m) (x:=((Ls[i]).1,y)) hi (FI hn h)
theorem Axu(hi:i<Ls.length):(Ls.set i ((Ls[i]).1,y)).map (λz=>z.1)=Ls.map λz=>z.1:=by
 rw[List.map_set,<- List.getElem_map (λz:Nat×Sh=>z.1) (h:=by simpa using hi),List.set_getElem_self]
theorem Kb{m1 m2:Nat}(hp:CI rm now Ls.length)(hX:Ls.map (·.2)=X)(hi:i<Ls.length)(h1:m1<=k+1:=by omega)(h2:m2<=k+1:=by omega)(hs:Ab W w (AF ((Ls.set i ((Ls[i]).1,y)).map (CO rm (600000*(k+1))))::cB b sl p ch now::recs Rec.ptr sl (Ls.map λz=>z.1)::E7 p m1::Fo ch m2::M)):Ab W w (Fy b (k+1) rm now (X.set i y)::M):=by
 refine Ch (sl:=sl) (p:=p) (ch:=ch) (m1:=m1) (m2:=m2) (m3:=600000*(k+1)) (Ls:=Ls.set i ((Ls[i]).1,y)) (by rw[List.length_set];exact hp) (by rw[List.map_set,hX]) h1 h2 (Nat.le_refl _) ?_;rw[Axu hi];exact Ab.fin hs
end
end Go.Hb
namespace Go.Proofs.YtjipofkjmmpjdaaGreat
open Go.Hb Go.IntWalk
section
variable{W w:World}{L M:List HP}{b k n:Nat}{X:List Sh}{p ch:Nat}{sl:Sl}{Ls:List (Nat×Sh)}{rm now:Int}{o:JY}{key:BA}
theorem Apt{m:Nat}(hm:1<=m)(h8:m<=8)(hz:key.size<4611686018427387904)(hs:Ab W w L):AZ PR 81 #[.s key,.i (m:Int)] w λv w'=>v = .i (By m key:Int)/\Ab W w' L:=by
 refine cw ⟨mixed,Tryz.func81,rfl⟩ Av4 ?_;refine Am (Gs hs hz) λe w ⟨he,hs⟩=>⟨_,he,?_⟩;refine Am (Dn hs _ _ _) λe w ⟨he,hs⟩=>⟨_,he,?_⟩;have e:Hz (m:Int) 1 8=(m:Int):=by unfold Hz;rw[if_neg (show ¬(1:Int)>(m:Int) by omega),if_neg (by omega)]
 rw[e];have h0:0<=EJ 31 key:=by exact(FR 31 key).1
 refine Am (Ga hs h0 (by omega) (by omega)) λe w ⟨he,hs⟩=>⟨_,he,?_⟩;refine⟨?_,hs⟩;unfold By;obtain⟨a,ha⟩:=Int.eq_ofNat_of_zero_le h0;rw[ha];show Value.int .i64 (((Int.toNat (a:Int)) % m:Nat):Int)=_;rw[Int.toNat_natCast,<- Int.natCast_emod,Int.toNat_natCast]
theorem A1f(hl1:1<=Ls.length)(hl8:Ls.length<=8)(hn:sl.n=Ls.length)(hz:key.size<4611686018427387904)(hs:Ab W w (cB b sl p ch now::recs Rec.ptr sl (Ls.map (·.1))::M)):AZ PR 50 #[pq b 0,.s key] w λv w'=>v = .p (some ⟨(Ls[By Ls.length key]'(KV hl1 key)).1,0,none⟩)/\Ab W w' (cB b sl p ch now::recs Rec.ptr sl (Ls.map (·.1))::M):=by
 refine cw ⟨mixed,Tryz.func50,rfl⟩ Avd ?_;refine Al [cB b sl p ch now] hs λw hs=>?_;refine Aa (Aq (x:=sl) (Aa (Ah (x:=sl) hs (Af hs ?_))));rw[show((sl.n:Nat):Int)=(Ls.length:Int) by omega];refine Ag (Apt hl1 hl8 hz hs) λv w ⟨hv,hs⟩=>⟨_,hv,Af hs ?_⟩;have hlt:=KV hl1 key;have hlm:(Ls.map (·.1)).length=Ls.length:=by rw[List.length_map]
 refine BU (s:=sl) hs (λb_ o_ ha_=>?_);refine Cw (s:=sl) (rows:=Ls.map λz:Nat×Sh=>z.1) ha_ hs ?_ (k:=.ptr) (x:=some ⟨(Ls[By Ls.length key]'hlt).1,0,none⟩) (hc:=SP rfl hlt);exact⟨rfl,hs⟩
theorem Vf{i:Int}(hn:sl.n=Ls.length)(hs:Ab W w (cB b sl p ch now::recs Rec.ptr sl (Ls.map (·.1))::M)):AZ PR 19 #[pq b 0,.i i] w λv w'=>((¬(0<=i/\i<Ls.length)/\v = .p none)\/∃(j:Nat) (h:j<Ls.length),i=j/\v = .p (some ⟨(Ls[j]).1,0,none⟩))/\Ab W w' (cB b sl p ch now::recs Rec.ptr sl (Ls.map (·.1))::M):=by
 refine cw ⟨mixed,Tryz.func19,rfl⟩ Asn ?_;refine Ac rfl ?_
 with_reducible refine Ay (λh1=>?_) (λh1=>?_)
 ·exact⟨.inl ⟨by omega,rfl⟩,hs⟩
 refine Aa (Ah (x:=sl) hs ?_)
 with_reducible refine Ay (λh2=>?_) (λh2=>?_)
 ·exact⟨.inl ⟨by omega,rfl⟩,hs⟩
 obtain⟨j,hj⟩:∃j:Nat,i=(j:Int):=⟨i.toNat,by omega⟩;have hlt:j<Ls.length:=by omega
 refine jw Z7 ?_;have hlm:(Ls.map (·.1)).length=Ls.length:=by rw[List.length_map]
 refine Aa (Ah (x:=sl) hs ?_);refine BU (s:=sl) hs (λb_ o_ ha_=>?_);refine Cw (s:=sl) (rows:=Ls.map λz:Nat×Sh=>z.1) ha_ hs ?_ (k:=.ptr) (x:=some ⟨(Ls[j]'hlt).1,0,none⟩) (hc:=SP hj hlt);exact⟨.inr ⟨j,hlt,hj,rfl⟩,hs⟩
theorem Cc{α:Type}{l:List α}{i:Nat}(h:i<l.length):l.take (i+1)=l.take i++[l[i]]:=by rw[List.take_add_one,List.getElem?_eq_getElem h];rfl
theorem PN{kd:Int}(hk:0<=kd/\kd<5)(hb:n<800000000000)(hl:Ls.length<1000)(hn:sl.n=Ls.length)(hs:Ab W w (AF (Ls.map (CO rm n))::cB b sl p ch now::recs Rec.ptr sl (Ls.map λz=>z.1)::M)) :
  AZ PR 60 #[pq b 0,.i kd] w λv w'=>v = .tuple #[]/\∃Ls':List (Nat×Sh),(Ls'.map λz=>z.1)=(Ls.map λz=>z.1)/\F2 (swR kd) (Ls.map (·.2)) (Ls'.map (·.2))/\Ab W w' (AF (Ls'.map (CO rm (n+520)))::cB b sl p ch now::recs Rec.ptr sl (Ls.map λz=>z.1)::M):=by
 refine cw ⟨mixed,Tryz.func60,rfl⟩ Avo ?_;refine Aa (Ah (x:=sl) hs ?_);have hlm:(Ls.map (·.1)).length=Ls.length:=by rw[List.length_map]
 have loop:∀(pend pre pre':List (Nat×Sh))(w:World),Ls=pre++pend->(pre'.map λz=>z.1)=(pre.map λz=>z.1)->F2 (swR kd) (pre.map (·.2)) (pre'.map (·.2))->Ab W w (AF (pend.map (CO rm n))::AF (pre'.map (CO rm (n+520)))::cB b sl p ch now::recs Rec.ptr sl (Ls.map λz=>z.1)::M) ->
   UM Be (λv w'=>v = .tuple #[]/\∃Ls':List (Nat×Sh),(Ls'.map λz=>z.1)=(Ls.map λz=>z.1)/\F2 (swR kd) (Ls.map (·.2)) (Ls'.map (·.2))/\Ab W w' (AF (Ls'.map (CO rm (n+520)))::cB b sl p ch now::recs Rec.ptr sl (Ls.map λz=>z.1)::M)) (pend.length+1) kd sl (sl.n:Int) (pre.length:Int) w:=by
  clear hs;intro pend
  induction pend with
  | nil=>
   intro pre pre' w e h1 h2 hs;rw[List.append_nil] at e;subst e;rw[List.length_nil,Pr];refine Ac (decide_eq_false (by omega)) ?_;exact⟨rfl,pre',h1,h2,by exact Ab.fin hs⟩
  | cons z rest ih=>
   intro pre pre' w e h1 h2 hs;rw[List.length_cons,Pr];have hle:Ls.length=pre.length+(rest.length+1):=by rw[e];simp
   refine Ak (decide_eq_true (by omega)) ?_;refine BU (s:=sl) hs λb_ o_ ha_=>?_;refine Cw (s:=sl) (rows:=Ls.map λz:Nat×Sh=>z.1) ha_ hs ?_ (k:=.ptr) (x:=some ⟨z.1,0,none⟩) (hc:=PB e);have hs:=Vw hs;have e1:pre++[z]++rest=Ls:=by rw[e];simp
   refine Ag (Ahp hk (by omega) hs) λv w ⟨m,hv,hs⟩=>⟨_,hv,?_⟩;rw[show IntKind.wrap .i64 ((pre.length:Int)+1)=((pre++[z]).length:Int) by rw[i64_in _ (by omega)];simp]
   rcases hs with⟨hke,hs⟩|hs
   ·have hs:=FI (n':=n+520) (by omega) hs;have hs:Ab W w (CO rm (n+520) z::AF (pre'.map (CO rm (n+520)))::AF (rest.map (CO rm n))::cB b sl p ch now::recs Rec.ptr sl (Ls.map λz=>z.1)::M):=by exact Ab.fin hs
    have hs:=Gb hs;refine ih (pre++[z]) (pre'++[z]) w e1.symm (by simp[h1]) ?_ (by exact Ab.fin hs);rw[List.map_append,List.map_append];exact h2.snoc ⟨rfl,hke.symm,.inl ⟨hke,rfl⟩⟩
   ·have hs:Ab W w (CO rm (n+520) (z.1,z.2.1,kd,some z.2.1.length)::AF (pre'.map (CO rm (n+520)))::AF (rest.map (CO rm n))::cB b sl p ch now::recs Rec.ptr sl (Ls.map λz=>z.1)::M):=by exact Ab.fin hs
    have hs:=Gb hs;refine ih (pre++[z]) (pre'++[(z.1,z.2.1,kd,some z.2.1.length)]) w e1.symm (by simp[h1]) ?_ (by exact Ab.fin hs);rw[List.map_append,List.map_append];exact h2.snoc ⟨rfl,rfl,.inr rfl⟩
 have hs:=(Hm (f:=CO rm (n+520)) hs).perm (List.Perm.swap _ _ _);exact AJ _ (loop Ls [] [] w rfl rfl .nil hs)
end
end Go.Proofs.YtjipofkjmmpjdaaGreat
namespace Go.Proofs.YtjipofkjmmpjdaaGreat
open Go.Hb Go.IntWalk
section
variable{W w:World}{L M:List HP}{b k n:Nat}{X:List Sh}{p ch:Nat}{sl:Sl}{Ls:List (Nat×Sh)}{rm now:Int}{o:JY}{key:BA}
theorem Qg{i:Nat}(hi:i<Ls.length):(Ls.map (·.2))[i]? = some ((Ls[i]).2.1,(Ls[i]).2.2.1,(Ls[i]).2.2.2):=by rw[List.getElem?_map,List.getElem?_eq_getElem hi];rfl
theorem Awu(hk:o.kind=5)(hb:k<1000000)(hs:Ab W w (Fy b k rm now X::M)):AZ PR 32 #[pq b 0,.agg #[.i o.kind,.s o.key,.s o.val,.i o.n]] w (Rl b k rm now X o W M):=by
 refine cw ⟨mixed,Tryz.func32,rfl⟩ At2 ?_;refine Ai hs λb1 w hs=>Ai hs λb2 w hs=>?_;obtain⟨sl,p,ch,Ls,hi,hX,hl,hn,hs⟩:=Dm (b:=b) (k:=k) (rm:=rm) (now:=now) (X:=X) (M:=JW b2::FA b1 o::M) (by exact Ab.fin hs);refine Ah hs ?_;have hs:Ab W w (cB b sl p ch now::recs Rec.ptr sl (Ls.map (·.1))::AF (Ls.map (CO rm (600000*k)))::E7 p k::Fo ch k::JW b2::FA b1 o::M):=by exact Ab.fin hs
 refine Ag (Vf hn hs) λv w ⟨hv,hs⟩=>?_;rcases hv with⟨hno,hv⟩|⟨j,hj,hjn,hv⟩
 ·refine⟨_,hv,Ak rfl ?_⟩;refine HM (s:=⟨none,0,0⟩) hs λw hs=>?_;refine H2 (by decide) ⟨by omega,by omega,by omega,by omega,by omega,by omega⟩ ?_;exact Ch (sl:=sl) (p:=p) (ch:=ch) (m1:=k) (m2:=k) (m3:=600000*k) hi hX (by omega) (by omega) (by omega) (by exact Ab.fin hs)
 ·refine⟨_,hv,Ac rfl ?_⟩;have hs:Ab W w (AF (Ls.map (CO rm (600000*k)))::cB b sl p ch now::recs Rec.ptr sl (Ls.map λz=>z.1)::E7 p k::Fo ch k::JW b2::FA b1 o::M):=by exact Ab.fin hs
  have hs:=KH (m:=600000*(k+1)) hj (by omega) hs;refine Ag (Apw (by omega) hs) λv w ⟨m,hv,o',ho,hs⟩=>⟨_,hv,?_⟩;have hs:=Qt (y:=((Ls[j]).2.1,(Ls[j]).2.2.1,o')) hj (by omega) hs;refine HM (s:=⟨none,0,0⟩) hs λw hs=>?_;refine Nz (.drain hk hjn (by rw[<- hX];exact Qg hj) ho) ?_
  exact Kb (m1:=k) (m2:=k) hi hX hj (by omega) (by omega) (by exact Ab.fin hs)
theorem A1g(hk:o.kind=6)(hb:k<1000000)(hs:Ab W w (Fy b k rm now X::M)):AZ PR 33 #[pq b 0,.agg #[.i o.kind,.s o.key,.s o.val,.i o.n]] w (Rl b k rm now X o W M):=by
 refine cw ⟨mixed,Tryz.func33,rfl⟩ At8 ?_;refine Ai hs λb1 w hs=>Ai hs λb2 w hs=>?_;obtain⟨sl,p,ch,Ls,hi,hX,hl,hn,hs⟩:=Dm (b:=b) (k:=k) (rm:=rm) (now:=now) (X:=X) (M:=JW b2::FA b1 o::M) (by exact Ab.fin hs);refine Ah hs ?_;have hs:Ab W w (cB b sl p ch now::recs Rec.ptr sl (Ls.map (·.1))::AF (Ls.map (CO rm (600000*k)))::E7 p k::Fo ch k::JW b2::FA b1 o::M):=by exact Ab.fin hs
 refine Ag (Vf hn hs) λv w ⟨hv,hs⟩=>?_;rcases hv with⟨hno,hv⟩|⟨j,hj,hjn,hv⟩
 ·refine⟨_,hv,Ak rfl ?_⟩;refine HM (s:=⟨none,0,0⟩) hs λw hs=>?_;refine H2 (by decide) ⟨by omega,by omega,by omega,λ_=>by omega,by omega,by omega⟩ ?_;exact Ch (sl:=sl) (p:=p) (ch:=ch) (m1:=k) (m2:=k) (m3:=600000*k) hi hX (by omega) (by omega) (by omega) (by exact Ab.fin hs)
 ·refine⟨_,hv,Ac rfl ?_⟩;have hs:Ab W w (AF (Ls.map (CO rm (600000*k)))::cB b sl p ch now::recs Rec.ptr sl (Ls.map λz=>z.1)::E7 p k::Fo ch k::JW b2::FA b1 o::M):=by exact Ab.fin hs
  have hs:=KH (m:=600000*(k+1)) hj (by omega) hs;refine AH (Axw (by omega) hs) λv w ⟨x,t,o',hv,ho,hle,hs⟩=>⟨_,_,hv,?_⟩;have hs:=Qt (y:=((Ls[j]).2.1,(Ls[j]).2.2.1,Hk o')) hj (by omega) hs;refine A4 hs λw hs=>A4 hs λw hs=>?_;refine Ah hs (Ah hs (Ah hs (Ah (k:=.slc) (x:=(⟨none,0,0⟩:Sl)) hs ?_)));refine HM (s:=⟨none,0,0⟩) hs λw hs=>?_;refine Nz (.step hk hjn (by rw[<- hX];exact Qg hj) ho hle) ?_
  exact Kb (m1:=k) (m2:=k) hi hX hj (by omega) (by omega) (by exact Ab.fin hs)
theorem Aq2{kd:Int}(hs:Ab W w L):AZ PR 61 #[.i kd] w λv w'=>∃x:BA,v = .s x/\Ab W w' L:=by
 refine cw ⟨mixed,Tryz.func61,rfl⟩ Avp ?_;refine Ap (λ_=>⟨_,rfl,hs⟩) λ_=>?_;refine Ap (λ_=>⟨_,rfl,hs⟩) λ_=>?_;refine Ap (λ_=>⟨_,rfl,hs⟩) λ_=>?_;refine Ap (λ_=>⟨_,rfl,hs⟩) λ_=>?_;refine Ap (λ_=>⟨_,rfl,hs⟩) λ_=>⟨_,rfl,hs⟩
theorem Awv(hk:o.kind=7)(hb:k<1000000)(hs:Ab W w (Fy b k rm now X::M)):AZ PR 34 #[pq b 0,.agg #[.i o.kind,.s o.key,.s o.val,.i o.n]] w (Rl b k rm now X o W M):=by
 refine cw ⟨mixed,Tryz.func34,rfl⟩ Auf ?_;refine Ai hs λb1 w hs=>Ai hs λb2 w hs=>?_;obtain⟨sl,p,ch,Ls,hi,hX,hl,hn,hs⟩:=Dm (b:=b) (k:=k) (rm:=rm) (now:=now) (X:=X) (M:=JW b2::FA b1 o::M) (by exact Ab.fin hs);have h8:=hi.sh8;refine Al [cB b sl p ch now] hs λw hs=>?_;refine Aa (Aq (Aa (Ah hs (Af hs ?_))));have hs:Ab W w (E7 p k::cB b sl p ch now::recs Rec.ptr sl (Ls.map (·.1))::AF (Ls.map (CO rm (600000*k)))::Fo ch k::JW b2::FA b1 o::M):=by exact Ab.fin hs
 refine Calls.mono (Apj hs) λe_ w ⟨v,he,x0,x1,x2,x3,x4,a,hv,hs⟩=>⟨x0,x1,x2,x3,x4,a,by rw[he,hv],Af hs ?_⟩;have hs:Ab W w (Fo ch k::cB b sl p ch now::recs Rec.ptr sl (Ls.map λz=>z.1)::E7 p k::AF (Ls.map (CO rm (600000*k)))::JW b2::FA b1 o::M):=by exact Ab.fin hs
 refine AH (Aij (by omega) hs) λv w ⟨kd,t,hv,hkd,hs⟩=>⟨_,_,hv,?_⟩;have j1:∀(w:World)(X':List Sh),(X'=X\/F2 (swR kd) X X')->Ab W w (JW b2::Fy b (k+1) rm now X'::FA b1 o::M)->ZF Be (Rl b k rm now X o W M) b2 0 kd t w:=by
  clear hs;intro w X' hX' hs;refine jw ZG ?_;refine Ag (Aq2 hs) λv w ⟨x,hv,hs⟩=>⟨_,hv,?_⟩;refine HM (s:=⟨none,0,0⟩) hs λw hs=>?_;exact Nz (.epoch hk hkd hX') (by exact Ab.fin hs)
 refine Ap (λ_=>?_) (λ_=>?_)
 ·have hs:Ab W w (AF (Ls.map (CO rm (600000*k)))::cB b sl p ch now::recs Rec.ptr sl (Ls.map λz=>z.1)::E7 p k::Fo ch (k+1)::JW b2::FA b1 o::M):=by exact Ab.fin hs
  refine AY (PN hkd (by omega) (by omega) hn hs) λv w ⟨hv,Ls',h1,h2,hs⟩=>⟨hv,?_⟩;have hl':Ls'.length=Ls.length:=by have:=congrArg List.length h1;simpa using this
  rw[hX] at h2;refine j1 w (Ls'.map (·.2)) (.inr h2) ?_;have hs:=Ch (k:=k+1) (sl:=sl) (p:=p) (ch:=ch) (m1:=k) (m2:=k+1) (m3:=600000*k+520) (Ls:=Ls') (b:=b) (now:=now) (rm:=rm) (X:=Ls'.map (·.2)) (M:=JW b2::FA b1 o::M) (hl' ▸ hi) rfl (by omega) (by omega) (by omega) (by rw[h1];exact Ab.fin hs)
  exact Ab.fin hs
 ·refine j1 w X (.inl rfl) ?_;have hs:=Ch (k:=k+1) (sl:=sl) (p:=p) (ch:=ch) (m1:=k) (m2:=k+1) (m3:=600000*k) (Ls:=Ls) (b:=b) (now:=now) (rm:=rm) (X:=X) (M:=JW b2::FA b1 o::M) hi hX (by omega) (by omega) (by omega) (by exact Ab.fin hs);exact Ab.fin hs
theorem Aww(hk:o.kind=8)(hb:k<1000000)(hs:Ab W w (Fy b k rm now X::M)):AZ PR 35 #[pq b 0,.agg #[.i o.kind,.s o.key,.s o.val,.i o.n]] w (Rl b k rm now X o W M):=by
 refine cw ⟨mixed,Tryz.func35,rfl⟩ Aut ?_;refine Ai hs λb1 w hs=>Ai hs λb2 w hs=>?_;obtain⟨sl,p,ch,Ls,hi,hX,hl,hn,hs⟩:=Dm (b:=b) (k:=k) (rm:=rm) (now:=now) (X:=X) (M:=JW b2::FA b1 o::M) (by exact Ab.fin hs);have h8:=hi.sh8;refine Al [cB b sl p ch now] hs λw hs=>?_;refine Aa (Aq (Ah hs (Af hs ?_)));have hs:Ab W w (Fo ch k::cB b sl p ch now::recs Rec.ptr sl (Ls.map λz=>z.1)::E7 p k::AF (Ls.map (CO rm (600000*k)))::JW b2::FA b1 o::M):=by exact Ab.fin hs
 refine Ag (VR hs) λv w ⟨m,hv,hm,hs⟩=>⟨_,hv,?_⟩
 with_reducible refine Ay (λh0=>?_) (λh0=>?_)
 ·refine Ah hs ?_;have hkd:=hm.1 h0;have hs:Ab W w (AF (Ls.map (CO rm (600000*k)))::cB b sl p ch now::recs Rec.ptr sl (Ls.map λz=>z.1)::E7 p k::Fo ch k::JW b2::FA b1 o::M):=by exact Ab.fin hs
  refine AY (PN hkd (by omega) (by omega) hn hs) λv w ⟨hv,Ls',h1,h2,hs⟩=>⟨hv,?_⟩;have hl':Ls'.length=Ls.length:=by have:=congrArg List.length h1;simpa using this
  rw[hX] at h2;refine HM (s:=⟨none,0,0⟩) hs λw hs=>?_;rw[h0];refine Nz (.force hk hkd h2) ?_;exact Ch (k:=k+1) (sl:=sl) (p:=p) (ch:=ch) (m1:=k) (m2:=k) (m3:=600000*k+520) (Ls:=Ls') (hl' ▸ hi) rfl (by omega) (by omega) (by omega) (by rw[h1];exact Ab.fin hs)
 ·refine HM (s:=⟨none,0,0⟩) hs λw hs=>?_;refine H2 h0 ⟨by omega,by omega,by omega,by omega,λ_ h=>h0 (hm.2 h),by omega⟩ ?_;exact Ch (sl:=sl) (p:=p) (ch:=ch) (m1:=k) (m2:=k) (m3:=600000*k) hi hX (by omega) (by omega) (by omega) (by exact Ab.fin hs)
end
end Go.Proofs.YtjipofkjmmpjdaaGreat
namespace Go.Proofs.YtjipofkjmmpjdaaGreat
open Go.Hb Go.IntWalk
section
variable{W w:World}{L M:List HP}{b k n:Nat}{X:List Sh}{p ch:Nat}{sl:Sl}{Ls:List (Nat×Sh)}{rm now:Int}{o:JY}{key:BA}
theorem Aiu{T:TT}:(Cm T now).length<=T.length:=by
 unfold Cm;rw[List.length_map];exact List.length_filter_le _ _
theorem MB{α:Type}{c:Nat}:∀{L:List (List α)},(∀l∈L,l.length<=c)->L.flatten.length<=L.length*c
 | [],_=>by simp
 | l::L,h=>by
  have h1:=h l (by simp);have h2:=MB (L:=L) (c:=c) λx hx=>h x (by simp[hx]);simp only[List.flatten_cons,List.length_append,List.length_cons];rw[Nat.succ_mul];omega
theorem A1h(hk:o.kind=4)(hb:k<1000000)(hs:Ab W w (Fy b k rm now X::M)):AZ PR 31 #[pq b 0,.agg #[.i o.kind,.s o.key,.s o.val,.i o.n]] w (Rl b k rm now X o W M):=by
 refine cw ⟨mixed,Tryz.func31,rfl⟩ Atu ?_;have hok:=Jz hs;refine Ai hs λb1 w hs=>Ai hs λb2 w hs=>?_;obtain⟨sl,p,ch,Ls,hi,hX,hl,hn,hs⟩:=Dm (b:=b) (k:=k) (rm:=rm) (now:=now) (X:=X) (M:=JW b2::FA b1 o::M) (by exact Ab.fin hs);have h8:=hi.sh8;have hn0:=hi.now0;have hnM:=hi.nowM
 have hS:∀z∈Ls,z.2.1.length<=1024:=λz hz=>by
  have h:=(hok.2 z.2 (by rw[<- hX];exact List.mem_map_of_mem hz)).1;have h1:=h.len;have h2:=h.c2
  omega
 have j1:∀(w:World)(t:Bool),(t=false->0<=o.n/\now+o.n<=1125899906842624)->Ab W w (cB b sl p ch now::recs Rec.ptr sl (Ls.map λz=>z.1)::E7 p k::Fo ch k::AF (Ls.map (CO rm (600000*k)))::JW b2::FA b1 o::M) ->
   ZB Be (Rl b k rm now X o W M) (some ⟨b,0,none⟩) b1 0 b2 0 t w:=by
  clear hs;intro w t ht hs;refine jw ZC ?_;cases t with
  | true=>
   refine Ak rfl ?_;refine HM (s:=⟨none,0,0⟩) hs λw hs=>?_;refine H2 (by decide) ⟨by omega,by omega,by omega,by omega,by omega,by omega⟩ ?_;exact Ch (sl:=sl) (p:=p) (ch:=ch) (m1:=k) (m2:=k) (m3:=600000*k) hi hX (by omega) (by omega) (by omega) (by exact Ab.fin hs)
  | false=>
   refine Ac rfl ?_;obtain⟨h0,h1⟩:=ht rfl;refine jw ZD ?_;refine Al [cB b sl p ch now] hs λw hs=>?_;refine Aa (Aq (Ah hs (Af hs ?_)));refine Aa (A4 hs λw hs=>?_);rw[i64_in _ (by omega)] at hs;refine Aa (Ah (x:=sl) hs ?_);have hD:∀{X':List Sh},F2 (exR (now+o.n)) X X'->LA rm now X o 0 false ⟨#[]⟩ (X.map λz=>Cm z.1 (now+o.n)).flatten rm (now+o.n) X':=λh=>.tick hk h0 h1 h;have hn1:0<=now+o.n:=by omega
   generalize now+o.n=nw at hD hs h1 hn1;have hs:=Ab.nilR Rec.str hs;have hi':CI rm nw Ls.length:=⟨hi.sh1,hi.sh8,hi.rm1,hi.rm2,hn1,h1⟩;have loop:∀(pend pre pre':List (Nat×Sh))(w:World)(gs:Sl),Ls=pre++pend->(pre'.map λz=>z.1)=(pre.map λz=>z.1)->F2 (exR nw) (pre.map (·.2)) (pre'.map (·.2)) ->
     Ab W w (recs Rec.str gs (pre.map λz=>Cm z.2.1 nw).flatten::Zk b2 0 false ⟨#[]⟩ gs::FA b1 o::cB b sl p ch nw::recs Rec.ptr sl (Ls.map λz=>z.1)::E7 p k::Fo ch k::AF (pre'.map (CO rm (600000*(k+1))))::AF (pend.map (CO rm (600000*k)))::M) ->
     U6 Be (Rl b k rm now X o W M) (pend.length+1) (some ⟨b,0,none⟩) b2 0 sl (sl.n:Int) (pre.length:Int) w:=by
    clear hs;intro pend
    induction pend with
    | nil=>
     intro pre pre' w gs e g1 g2 hs;rw[List.append_nil] at e;rw[<- e] at g1 g2 hs;rw[<- e,List.length_nil,Pm];refine Ac (decide_eq_false (by omega)) ?_;refine jw ZE ?_;refine Ah hs (Ah hs (Ah hs (Ah (x:=gs) hs ?_)));refine HM (s:=gs) hs λw hs=>?_;have hl':pre'.length=Ls.length:=by have:=congrArg List.length g1;simpa using this
     rw[hX] at g2;have e3:(X.map λz=>Cm z.1 nw)=Ls.map λz=>Cm z.2.1 nw:=by rw[<- hX,List.map_map];rfl
     refine⟨0,false,⟨#[]⟩,gs,(X.map λz=>Cm z.1 nw).flatten,rm,nw,pre'.map (·.2),rfl,hD g2,?_⟩;refine Ch (k:=k+1) (sl:=sl) (p:=p) (ch:=ch) (m1:=k) (m2:=k) (m3:=600000*(k+1)) (Ls:=pre') (hl' ▸ hi') rfl (by omega) (by omega) (by omega) ?_;rw[g1,e3];exact Ab.fin hs
    | cons z rest ih=>
     intro pre pre' w gs e g1 g2 hs;rw[List.length_cons,Pm];have hle:Ls.length=pre.length+(rest.length+1):=by rw[e];simp
     have hlm:(Ls.map (·.1)).length=Ls.length:=by rw[List.length_map]
     refine Ak (decide_eq_true (by omega)) ?_;refine BU (s:=sl) hs λb_ o_ ha_=>?_;refine Cw (s:=sl) (rows:=Ls.map λz:Nat×Sh=>z.1) ha_ hs ?_ (k:=.ptr) (x:=some ⟨z.1,0,none⟩) (hc:=PB e);refine Al [Zk b2 0 false ⟨#[]⟩ gs,cB b sl p ch nw] hs λw hs=>?_;refine Aq (x:=gs) (Aa (Ah hs (Af hs ?_)));have hs:Ab W w (AF ((z::rest).map (CO rm (600000*k)))::recs Rec.str gs (pre.map λz=>Cm z.2.1 nw).flatten::Zk b2 0 false ⟨#[]⟩ gs::FA b1 o::cB b sl p ch nw::recs Rec.ptr sl (Ls.map λz=>z.1)::E7 p k::Fo ch k::AF (pre'.map (CO rm (600000*(k+1))))::M):=by exact Ab.fin hs
     have hs:=Vw hs;refine Ag (Ahm hn1 h1 (by omega) hs) λv w ⟨sg,hv,o',ho,hs⟩=>⟨_,hv,Af hs ?_⟩;have hz:=hS z (by rw[e];simp)
     have hd:=Aiu (T:=z.2.1) (now:=nw);have hfl:(pre.map λz=>Cm z.2.1 nw).flatten.length<=(pre.map λz=>Cm z.2.1 nw).length*1024:=MB λl hl=>by
      obtain⟨y,hy,rfl⟩:=List.mem_map.1 hl;have:=hS y (by rw[e];simp[hy])
      have:=Aiu (T:=y.2.1) (now:=nw);omega
     rw[List.length_map] at hfl;refine FP (s:=gs) (new:=Cm z.2.1 nw) hs (Gc (s:=sg) (E:=Rec.str) (rows:=Cm z.2.1 nw) hs) (Bg (s:=sg) (E:=Rec.str) (rows:=Cm z.2.1 nw) hs) (CV _) rfl (by decide) (by omega) λgs2 w hg2 hs=>?_;refine A4 hs λw hs=>?_;have hs:Ab W w (sd z.1 rm (600000*k+600000) (AB z.2.1 (Cm z.2.1 nw)) z.2.2.1 o'::AF (pre'.map (CO rm (600000*(k+1))))::recs Rec.str gs2 ((pre.map λz=>Cm z.2.1 nw).flatten++Cm z.2.1 nw)::Zk b2 0 false ⟨#[]⟩ gs2::FA b1 o::cB b sl p ch nw::recs Rec.ptr sl (Ls.map λz=>z.1)::E7 p k::Fo ch k::AF (rest.map (CO rm (600000*k)))::M):=by exact Ab.fin hs
     have hs:=FI (n':=600000*(k+1)) (by omega) hs;have hs:Ab W w (CO rm (600000*(k+1)) (z.1,AB z.2.1 (Cm z.2.1 nw),z.2.2.1,o')::AF (pre'.map (CO rm (600000*(k+1))))::recs Rec.str gs2 ((pre.map λz=>Cm z.2.1 nw).flatten++Cm z.2.1 nw)::Zk b2 0 false ⟨#[]⟩ gs2::FA b1 o::cB b sl p ch nw::recs Rec.ptr sl (Ls.map λz=>z.1)::E7 p k::Fo ch k::AF (rest.map (CO rm (600000*k)))::M):=hs;have hs:=Gb hs;have e1:(pre.map λz=>Cm z.2.1 nw).flatten++Cm z.2.1 nw=((pre++[z]).map λz=>Cm z.2.1 nw).flatten:=by simp
     rw[e1] at hs;rw[show IntKind.wrap .i64 ((pre.length:Int)+1)=((pre++[z]).length:Int) by rw[i64_in _ (by omega)];simp]
     refine ih (pre++[z]) (pre'++[(z.1,AB z.2.1 (Cm z.2.1 nw),z.2.2.1,o')]) w gs2 (by rw[e];simp) (by simp[g1]) ?_ (by exact Ab.fin hs);rw[List.map_append,List.map_append];exact g2.snoc ⟨rfl,rfl,ho⟩
   refine AJ _ (loop Ls [] [] w ⟨none,0,0⟩ rfl rfl .nil ?_);have hs:=Hm (f:=CO rm (600000*(k+1))) hs;exact(by exact Ab.fin hs:Ab W w (recs Rec.str ⟨none,0,0⟩ []::Zk b2 0 false ⟨#[]⟩ ⟨none,0,0⟩::FA b1 o::cB b sl p ch nw::recs Rec.ptr sl (Ls.map λz=>z.1)::E7 p k::Fo ch k::AF (([]:List (Nat×Sh)).map (CO rm (600000*(k+1))))::AF (Ls.map (CO rm (600000*k)))::M))
 refine Al [cB b sl p ch now,FA b1 o] hs λw hs=>?_;refine Ah hs (Af hs ?_);refine Ap (λh1=>?_) (λh1=>?_)
 ·exact Af hs (j1 w true (λh=>by cases h) hs)
 ·refine Aq (Aa (Ah hs (Af hs ?_)));refine j1 w _ (λh=>?_) hs;have h1:=of_decide_eq_false h1;have h2:=of_decide_eq_false h;rw[i64_in _ (by omega)] at h2;omega
theorem Aoi(hk:o.kind=9)(hb:k<1000000)(hs:Ab W w (Fy b k rm now X::M)):AZ PR 36 #[pq b 0,.agg #[.i o.kind,.s o.key,.s o.val,.i o.n]] w (Rl b k rm now X o W M):=by
 refine cw ⟨mixed,Tryz.func36,rfl⟩ Auw ?_;have hok:=Jz hs;refine Ai hs λb1 w hs=>Ai hs λb2 w hs=>?_;obtain⟨sl,p,ch,Ls,hi,hX,hl,hn,hs⟩:=Dm (b:=b) (k:=k) (rm:=rm) (now:=now) (X:=X) (M:=JW b2::FA b1 o::M) (by exact Ab.fin hs);have h8:=hi.sh8;have hn0:=hi.now0;have hnM:=hi.nowM
 have hS:∀z∈Ls,z.2.1.length<=1024:=λz hz=>by
  have h:=(hok.2 z.2 (by rw[<- hX];exact List.mem_map_of_mem hz)).1;have h1:=h.len;have h2:=h.c2
  omega
 have j1:∀(w:World)(t:Bool),(t=true->¬(1<=o.n/\o.n<=1024))->(t=false->1<=o.n/\o.n<=1024)->Ab W w (cB b sl p ch now::recs Rec.ptr sl (Ls.map λz=>z.1)::E7 p k::Fo ch k::AF (Ls.map (CO rm (600000*k)))::JW b2::FA b1 o::M) ->
   ZH Be (Rl b k rm now X o W M) (some ⟨b,0,none⟩) b1 0 b2 0 t w:=by
  clear hs;intro w t htt ht hs;refine jw ZI ?_;cases t with
  | true=>
   refine Ak rfl ?_;refine HM (s:=⟨none,0,0⟩) hs λw hs=>?_;refine H2 (by decide) ⟨by omega,by omega,by omega,by omega,by omega,λ_=>htt rfl⟩ ?_;exact Ch (sl:=sl) (p:=p) (ch:=ch) (m1:=k) (m2:=k) (m3:=600000*k) hi hX (by omega) (by omega) (by omega) (by exact Ab.fin hs)
  | false=>
   refine Ac rfl ?_;obtain⟨h0,h1⟩:=ht rfl;refine jw ZJ ?_;refine Aa (Ah (x:=sl) hs ?_);have hs:=Ab.nilR Rec.str hs;have hi':CI o.n now Ls.length:=⟨hi.sh1,hi.sh8,h0,h1,hi.now0,hi.nowM⟩;have loop:∀(pend pre pre':List (Nat×Sh))(G:List BL)(w:World)(gs:Sl),Ls=pre++pend->(pre'.map λz=>z.1)=(pre.map λz=>z.1)->F3 (rsR o.n) (pre.map (·.2)) G (pre'.map (·.2))->G.flatten.length<=pre.length*1024 ->
     Ab W w (recs Rec.str gs G.flatten::Zk b2 0 false ⟨#[]⟩ gs::FA b1 o::cB b sl p ch now::recs Rec.ptr sl (Ls.map λz=>z.1)::E7 p k::Fo ch k::AF (pre'.map (CO o.n (600000*(k+1))))::AF (pend.map (CO rm (600000*k)))::M) ->
     UD Be (Rl b k rm now X o W M) (pend.length+1) (some ⟨b,0,none⟩) b1 0 b2 0 sl (sl.n:Int) (pre.length:Int) w:=by
    clear hs;intro pend
    induction pend with
    | nil=>
     intro pre pre' G w gs e g1 g2 hfl hs;rw[List.append_nil] at e;rw[<- e] at g1 g2;rw[<- e,List.length_nil,Pn];refine Ac (decide_eq_false (by omega)) ?_;refine jw ZK ?_;refine Al [cB b sl p ch now,FA b1 o] hs λw hs=>?_;refine Aa (Aq (Aq (Aa (Ah (x:=sl) hs (Af hs ?_)))));have hs:Ab W w (E7 p k::recs Rec.str gs G.flatten::Zk b2 0 false ⟨#[]⟩ gs::FA b1 o::cB b sl p ch now::recs Rec.ptr sl (Ls.map λz=>z.1)::Fo ch k::AF (pre'.map (CO o.n (600000*(k+1))))::M):=by exact Ab.fin hs
     refine AY (Ag4 hs) λv w ⟨hv,hs⟩=>⟨hv,?_⟩;refine Ah hs (Ah hs (Ah hs (Ah (x:=gs) hs ?_)));refine HM (s:=gs) hs λw hs=>?_;have hl':pre'.length=Ls.length:=by have:=congrArg List.length g1;simpa using this
     rw[hX] at g2;refine⟨0,false,⟨#[]⟩,gs,G.flatten,o.n,now,pre'.map (·.2),rfl,.res hk h0 h1 g2,?_⟩;refine Ch (k:=k+1) (sl:=sl) (p:=p) (ch:=ch) (m1:=0) (m2:=k) (m3:=600000*(k+1)) (Ls:=pre') (hl' ▸ hi') rfl (by omega) (by omega) (by omega) ?_;rw[g1];exact Ab.fin hs
    | cons z rest ih=>
     intro pre pre' G w gs e g1 g2 hfl hs;rw[List.length_cons,Pn];have hle:Ls.length=pre.length+(rest.length+1):=by rw[e];simp
     have hlm:(Ls.map (·.1)).length=Ls.length:=by rw[List.length_map]
     refine Ak (decide_eq_true (by omega)) ?_;refine BU (s:=sl) hs λb_ o_ ha_=>?_;refine Cw (s:=sl) (rows:=Ls.map λz:Nat×Sh=>z.1) ha_ hs ?_ (k:=.ptr) (x:=some ⟨z.1,0,none⟩) (hc:=PB e);refine Ah hs ?_;have hs:Ab W w (AF ((z::rest).map (CO rm (600000*k)))::recs Rec.str gs G.flatten::Zk b2 0 false ⟨#[]⟩ gs::FA b1 o::cB b sl p ch now::recs Rec.ptr sl (Ls.map λz=>z.1)::E7 p k::Fo ch k::AF (pre'.map (CO o.n (600000*(k+1))))::M):=by exact Ab.fin hs
     have hs:=Vw hs;refine AH (Aho h0 h1 (by omega) hs) λv w ⟨sg,g,hv,hnd,hsub,hfull,hs⟩=>⟨_,_,hv,?_⟩;have hz:=hS z (by rw[e];simp)
     have hgl:g.length<=1024:=by
      have:=Ea hnd hsub;unfold kT at this;rw[List.length_map] at this;omega
     refine Ah (x:=gs) hs ?_;refine FP (s:=gs) (new:=g) hs (Gc (s:=sg) (E:=Rec.str) (rows:=g) hs) (Bg (s:=sg) (E:=Rec.str) (rows:=g) hs) (CV _) rfl (by decide) (by omega) λgs2 w hg2 hs=>?_;refine A4 hs λw hs=>?_;have hs:=FI (n':=600000*(k+1)) (by omega) hs;have hs:Ab W w (CO o.n (600000*(k+1)) (z.1,AB z.2.1 g,z.2.2.1,none)::AF (pre'.map (CO o.n (600000*(k+1))))::recs Rec.str gs2 (G.flatten++g)::Zk b2 0 false ⟨#[]⟩ gs2::FA b1 o::cB b sl p ch now::recs Rec.ptr sl (Ls.map λz=>z.1)::E7 p k::Fo ch k::AF (rest.map (CO rm (600000*k)))::M):=by exact Ab.fin hs
     have hs:=Gb hs;have e1:G.flatten++g=(G++[g]).flatten:=by simp
     rw[e1] at hs;rw[show IntKind.wrap .i64 ((pre.length:Int)+1)=((pre++[z]).length:Int) by rw[i64_in _ (by omega)];simp]
     refine ih (pre++[z]) (pre'++[(z.1,AB z.2.1 g,z.2.2.1,none)]) (G++[g]) w gs2 (by rw[e];simp) (by simp[g1]) ?_ (by rw[<- e1,List.length_append,List.length_append,List.length_singleton];omega) (by exact Ab.fin hs);rw[List.map_append,List.map_append];exact g2.snoc ⟨⟨hnd,hsub⟩,hfull,rfl⟩
   refine AJ _ (loop Ls [] [] [] w ⟨none,0,0⟩ rfl rfl .nil (by simp) ?_);have hs:=Hm (f:=CO o.n (600000*(k+1))) hs;exact(by exact Ab.fin hs:Ab W w (recs Rec.str ⟨none,0,0⟩ []::Zk b2 0 false ⟨#[]⟩ ⟨none,0,0⟩::FA b1 o::cB b sl p ch now::recs Rec.ptr sl (Ls.map λz=>z.1)::E7 p k::Fo ch k::AF (([]:List (Nat×Sh)).map (CO o.n (600000*(k+1))))::AF (Ls.map (CO rm (600000*k)))::M))
 refine Ah hs ?_;refine Ap (λh1=>?_) (λh1=>?_)
 ·have h1:=of_decide_eq_true h1;exact j1 w true (λ_=>by omega) (λh=>by cases h) hs
 ·refine Ah hs ?_;have h1:=of_decide_eq_false h1;refine j1 w _ (λh=>?_) (λh=>?_) hs
  ·have h2:=of_decide_eq_true h;omega
  ·have h2:=of_decide_eq_false h;omega
end
end Go.Proofs.YtjipofkjmmpjdaaGreat
namespace Go.Proofs.YtjipofkjmmpjdaaGreat
open Go.Hb Go.IntWalk
section
variable{W w:World}{L M:List HP}{b k n:Nat}{X:List Sh}{p ch:Nat}{sl:Sl}{Ls:List (Nat×Sh)}{rm now:Int}{o:JY}{key:BA}
theorem KB{W w:World}{L:List HP}{F:HP->List HP}{b o i:Nat}{cs:List Value}{f:FuncId}{N K:WP}{l:List (FuncId×WP)}(h:Ab W w L)[hA:At L b (Hb.blk b cs) F](hl:l[i]? = some (f,K))(hc:cs[o]? = some (.func (.func f) #[] #[]))(hK:K w):ldV b o N l w:=
 At.one (hA:=hA) h λ_ h _=>by unfold ldV;rw[(h.cell (q:=0) rfl).trans hc];exact⟨rfl,rfl,_,List.mem_of_getElem? hl,rfl,hK⟩
theorem A1m{W w:World}{L:List HP}{F:HP->List HP}{b o:Nat}{cs:List Value}{N:WP}{l:List (FuncId×WP)}(h:Ab W w L)[hA:At L b (Hb.blk b cs) F](hc:cs[o]? = some .nilFunc)(hN:N w):ldV b o N l w:=
 At.one (hA:=hA) h λ_ h _=>by unfold ldV;rw[(h.cell (q:=0) rfl).trans hc];exact hN
theorem HI{W w:World}{L:List HP}{F:HP->List HP}{b o i:Nat}{cs:List Value}{f:FuncId}{N K:WP}{l:List (FuncId×WP)}[hA:At L b (Hb.blk b cs) F](hl:l[i]? = some (f,K))(hc:cs[o]? = some (.func (.func f) #[] #[]))(hK:K w):A1n (λw'=>Ab W w' L) b o N l w:=
 .inr ⟨(f,K),List.mem_of_getElem? hl,λw' h=>At.one (hA:=hA) h λ_ h _=>(h.cell (q:=0) rfl).trans hc,hK⟩
abbrev fnB(b:Nat):HP:=blk b [.nilFunc,.func (.func 28) #[] #[],.func (.func 29) #[] #[],.func (.func 30) #[] #[],.func (.func 31) #[] #[],.func (.func 32) #[] #[],.func (.func 33) #[] #[],.func (.func 34) #[] #[],.func (.func 35) #[] #[],.func (.func 36) #[] #[]]
theorem A3i(hk:o.kind=1)(hz:o.key.size<4611686018427387904)(hb:k<1000000)(hs:Ab W w (Fy b k rm now X::M)):AZ PR 28 #[pq b 0,.agg #[.i o.kind,.s o.key,.s o.val,.i o.n]] w (Rl b k rm now X o W M):=by
 refine cw ⟨mixed,Tryz.func28,rfl⟩ Atf ?_;refine Ai hs λb1 w hs=>Ai hs λb2 w hs=>?_;obtain⟨sl,p,ch,Ls,hi,hX,hl,hn,hs⟩:=Dm (b:=b) (k:=k) (rm:=rm) (now:=now) (X:=X) (M:=JW b2::FA b1 o::M) (by exact Ab.fin hs);refine Al [cB b sl p ch now,FA b1 o] hs λw hs=>?_;refine Aq (Aq (Aa (Aq ?_)));refine Ag (A1f hi.sh1 hi.sh8 hn hz hs) λv w ⟨hv,hs⟩=>⟨_,hv,Af hs ?_⟩;have hj:=KV hi.sh1 o.key;have hat:X[By X.length o.key]? = some ((Ls[By Ls.length o.key]).2.1,(Ls[By Ls.length o.key]).2.2.1,(Ls[By Ls.length o.key]).2.2.2):=by rw[<- hl];have:=Qg hj;rw[hX] at this;exact this
 have hs:Ab W w (AF (Ls.map (CO rm (600000*k)))::cB b sl p ch now::recs Rec.ptr sl (Ls.map λz=>z.1)::E7 p k::Fo ch k::JW b2::FA b1 o::M):=by exact Ab.fin hs
 have hs:=KH (m:=600000*(k+1)) hj (by omega) hs;refine Calls.mono (A2c (key:=o.key) (now:=now) (by omega) hs) λe_ w ⟨v,he,h⟩=>?_;rcases h with⟨hne,hv,hs⟩|⟨h0,sg,hv,o',ho,hs⟩
 ·refine⟨_,_,⟨none,0,0⟩,_,by rw[he,hv],?_⟩;refine A4 hs λw hs=>A4 hs λw hs=>A4 hs λw hs=>A4 hs λw hs=>Ah hs ?_;refine Ac (by simpa using hne) ?_;refine Ah hs (Ah hs (Ah hs (Ah (k:=.slc) (x:=(⟨none,0,0⟩:Sl)) hs ?_)));refine HM (s:=⟨none,0,0⟩) hs λw hs=>?_;have hs:=Hn (f:=CO rm (600000*(k+1))) hj (FI (n':=600000*(k+1)) (by omega) (show Ab W w (sd (Ls[By Ls.length o.key]).1 rm (600000*k) (Ls[By Ls.length o.key]).2.1 (Ls[By Ls.length o.key]).2.2.1 (Ls[By Ls.length o.key]).2.2.2::AF ((Ls.eraseIdx (By Ls.length o.key)).map (CO rm (600000*(k+1))))::cB b sl p ch now::recs Rec.ptr sl (Ls.map λz=>z.1)::E7 p k::Fo ch k::M) by exact Ab.fin hs))
  refine H2 hne ⟨λ_=>hne,by omega,by omega,by omega,by omega,by omega⟩ ?_;exact Ch (sl:=sl) (p:=p) (ch:=ch) (m1:=k) (m2:=k) (m3:=600000*(k+1)) hi hX (by omega) (by omega) (by omega) (by exact Ab.fin hs)
 ·refine⟨_,_,sg,_,by rw[he,hv],?_⟩;refine A4 hs λw hs=>A4 hs λw hs=>A4 hs λw hs=>A4 hs λw hs=>Ah hs ?_;refine Ak rfl ?_;have hs:Ab W w (sd (Ls[By Ls.length o.key]).1 rm (600000*k+520) (Cb (Ls[By Ls.length o.key]).2.1 o.key now) (Ls[By Ls.length o.key]).2.2.1 o'::AF ((Ls.eraseIdx (By Ls.length o.key)).map (CO rm (600000*(k+1))))::cB b sl p ch now::recs Rec.ptr sl (Ls.map λz=>z.1)::E7 p k::Fo ch k::recs Rec.str sg (CL (Ls[By Ls.length o.key]).2.1 o.key now)::Zk b2 0 (EB (Ls[By Ls.length o.key]).2.1 o.key now).2 (EB (Ls[By Ls.length o.key]).2.1 o.key now).1 sg::FA b1 o::M):=by exact Ab.fin hs
  have hs:=Qt (y:=(Cb (Ls[By Ls.length o.key]).2.1 o.key now,(Ls[By Ls.length o.key]).2.2.1,o')) hj (by omega) hs;refine Al [cB b sl p ch now] hs λw hs=>?_;refine Aa (Aq (Ah hs (Af hs ?_)));have hk2:=Dg (Vo h0).1;have hs:Ab W w (E7 p k::AF ((Ls.set (By Ls.length o.key) ((Ls[By Ls.length o.key]).1,(Cb (Ls[By Ls.length o.key]).2.1 o.key now,(Ls[By Ls.length o.key]).2.2.1,o'))).map (CO rm (600000*(k+1))))::cB b sl p ch now::recs Rec.ptr sl (Ls.map λz=>z.1)::Fo ch k::recs Rec.str sg (CL (Ls[By Ls.length o.key]).2.1 o.key now)::Zk b2 0 (EB (Ls[By Ls.length o.key]).2.1 o.key now).2 (EB (Ls[By Ls.length o.key]).2.1 o.key now).1 sg::FA b1 o::M):=by exact Ab.fin hs
  refine Ag (Tr (by omega) (by omega) hs) λv w ⟨x,hv,hs⟩=>⟨_,hv,?_⟩;refine Ah hs (Ah hs (Ah hs (Ah (k:=.slc) (x:=sg) hs ?_)));refine HM (s:=sg) hs λw hs=>?_;refine⟨0,_,_,sg,_,rm,now,_,rfl,.get hk h0 hat ho,?_⟩;rw[<- hl];exact Kb (m1:=k+1) (m2:=k) (sl:=sl) (p:=p) (ch:=ch) hi hX hj (by omega) (by omega) (by exact Ab.fin hs)
theorem A3j(hk:o.kind=2)(hz:o.key.size<4611686018427387904)(hb:k<1000000)(hs:Ab W w (Fy b k rm now X::M)):AZ PR 29 #[pq b 0,.agg #[.i o.kind,.s o.key,.s o.val,.i o.n]] w (Rl b k rm now X o W M):=by
 refine cw ⟨mixed,Tryz.func29,rfl⟩ Atj ?_;refine Ai hs λb1 w hs=>Ai hs λb2 w hs=>?_;obtain⟨sl,p,ch,Ls,hi,hX,hl,hn,hs⟩:=Dm (b:=b) (k:=k) (rm:=rm) (now:=now) (X:=X) (M:=JW b2::FA b1 o::M) (by exact Ab.fin hs);refine Al [cB b sl p ch now,FA b1 o] hs λw hs=>?_;refine Aq (Aq (Aq (Aa (Aq (Aq ?_)))));refine Ag (A1f hi.sh1 hi.sh8 hn hz hs) λv w ⟨hv,hs⟩=>⟨_,hv,Af hs ?_⟩;have hj:=KV hi.sh1 o.key;have hat:X[By X.length o.key]? = some ((Ls[By Ls.length o.key]).2.1,(Ls[By Ls.length o.key]).2.2.1,(Ls[By Ls.length o.key]).2.2.2):=by rw[<- hl];have:=Qg hj;rw[hX] at this;exact this
 have hs:Ab W w (AF (Ls.map (CO rm (600000*k)))::cB b sl p ch now::recs Rec.ptr sl (Ls.map λz=>z.1)::E7 p k::Fo ch k::JW b2::FA b1 o::M):=by exact Ab.fin hs
 have hs:=KH (m:=600000*(k+1)) hj (by omega) hs;refine AH (A2e (key:=o.key) (val:=o.val) (now:=now) (life:=o.n) (by omega) hs) λv w h=>?_;rcases h with⟨hne,hv,hs⟩|⟨h0,sg,g,hv,hnd,hsub,hng,o',ho,hs⟩
 ·refine⟨⟨none,0,0⟩,_,hv,?_⟩;refine A4 hs λw hs=>A4 hs λw hs=>Ah hs ?_;refine Ac (by simpa using hne) ?_;refine Ah hs (Ah hs (Ah hs (Ah (k:=.slc) (x:=(⟨none,0,0⟩:Sl)) hs ?_)));refine HM (s:=⟨none,0,0⟩) hs λw hs=>?_;have hs:=Hn (f:=CO rm (600000*(k+1))) hj (FI (n':=600000*(k+1)) (by omega) (show Ab W w (sd (Ls[By Ls.length o.key]).1 rm (600000*k) (Ls[By Ls.length o.key]).2.1 (Ls[By Ls.length o.key]).2.2.1 (Ls[By Ls.length o.key]).2.2.2::AF ((Ls.eraseIdx (By Ls.length o.key)).map (CO rm (600000*(k+1))))::cB b sl p ch now::recs Rec.ptr sl (Ls.map λz=>z.1)::E7 p k::Fo ch k::M) by exact Ab.fin hs))
  refine H2 hne ⟨by omega,λ_=>hne,by omega,by omega,by omega,by omega⟩ ?_;exact Ch (sl:=sl) (p:=p) (ch:=ch) (m1:=k) (m2:=k) (m3:=600000*(k+1)) hi hX (by omega) (by omega) (by omega) (by exact Ab.fin hs)
 ·refine⟨sg,_,hv,?_⟩;refine A4 hs λw hs=>A4 hs λw hs=>Ah hs ?_;refine Ak rfl ?_;have hs:Ab W w (sd (Ls[By Ls.length o.key]).1 rm (600000*k+1561) (F5 (AB (Cb (Ls[By Ls.length o.key]).2.1 o.key now) g) o.key o.val now o.n) (Ls[By Ls.length o.key]).2.2.1 o'::AF ((Ls.eraseIdx (By Ls.length o.key)).map (CO rm (600000*(k+1))))::cB b sl p ch now::recs Rec.ptr sl (Ls.map λz=>z.1)::E7 p k::Fo ch k::recs Rec.str sg (CL (Ls[By Ls.length o.key]).2.1 o.key now++g)::Zk b2 0 false ⟨#[]⟩ sg::FA b1 o::M):=by exact Ab.fin hs
  have hs:=Qt (y:=(F5 (AB (Cb (Ls[By Ls.length o.key]).2.1 o.key now) g) o.key o.val now o.n,(Ls[By Ls.length o.key]).2.2.1,o')) hj (by omega) hs;refine Al [cB b sl p ch now] hs λw hs=>?_;refine Aa (Aq (Ah hs (Af hs ?_)));have hk2:=Dg (HV h0).1;have hs:Ab W w (E7 p k::AF ((Ls.set (By Ls.length o.key) ((Ls[By Ls.length o.key]).1,(F5 (AB (Cb (Ls[By Ls.length o.key]).2.1 o.key now) g) o.key o.val now o.n,(Ls[By Ls.length o.key]).2.2.1,o'))).map (CO rm (600000*(k+1))))::cB b sl p ch now::recs Rec.ptr sl (Ls.map λz=>z.1)::Fo ch k::recs Rec.str sg (CL (Ls[By Ls.length o.key]).2.1 o.key now++g)::Zk b2 0 false ⟨#[]⟩ sg::FA b1 o::M):=by exact Ab.fin hs
  refine Ag (Tr (by omega) (by omega) hs) λv w ⟨x,hv,hs⟩=>⟨_,hv,?_⟩;refine Ah hs (Ah hs (Ah hs (Ah (k:=.slc) (x:=sg) hs ?_)));refine HM (s:=sg) hs λw hs=>?_;refine⟨0,_,_,sg,_,rm,now,_,rfl,.put hk h0 hat ho hnd hsub hng,?_⟩;rw[<- hl];exact Kb (m1:=k+1) (m2:=k) (sl:=sl) (p:=p) (ch:=ch) hi hX hj (by omega) (by omega) (by exact Ab.fin hs)
theorem Aoh(hk:o.kind=3)(hz:o.key.size<4611686018427387904)(hb:k<1000000)(hs:Ab W w (Fy b k rm now X::M)):AZ PR 30 #[pq b 0,.agg #[.i o.kind,.s o.key,.s o.val,.i o.n]] w (Rl b k rm now X o W M):=by
 refine cw ⟨mixed,Tryz.func30,rfl⟩ Ato ?_;refine Ai hs λb1 w hs=>Ai hs λb2 w hs=>?_;obtain⟨sl,p,ch,Ls,hi,hX,hl,hn,hs⟩:=Dm (b:=b) (k:=k) (rm:=rm) (now:=now) (X:=X) (M:=JW b2::FA b1 o::M) (by exact Ab.fin hs);refine Al [cB b sl p ch now,FA b1 o] hs λw hs=>?_;refine Aq (Aq (Aa (Aq ?_)));refine Ag (A1f hi.sh1 hi.sh8 hn hz hs) λv w ⟨hv,hs⟩=>⟨_,hv,Af hs ?_⟩;have hj:=KV hi.sh1 o.key;have hat:X[By X.length o.key]? = some ((Ls[By Ls.length o.key]).2.1,(Ls[By Ls.length o.key]).2.2.1,(Ls[By Ls.length o.key]).2.2.2):=by rw[<- hl];have:=Qg hj;rw[hX] at this;exact this
 have hs:Ab W w (AF (Ls.map (CO rm (600000*k)))::cB b sl p ch now::recs Rec.ptr sl (Ls.map λz=>z.1)::E7 p k::Fo ch k::JW b2::FA b1 o::M):=by exact Ab.fin hs
 have hs:=KH (m:=600000*(k+1)) hj (by omega) hs;refine Calls.mono (Ahl (key:=o.key) (now:=now) (by omega) hs) λe_ w ⟨v,he,h⟩=>?_;rcases h with⟨hne,hv,hs⟩|⟨h0,sg,hv,o',ho,hs⟩
 ·refine⟨_,⟨none,0,0⟩,_,by rw[he,hv];rfl,?_⟩;refine A4 hs λw hs=>A4 hs λw hs=>A4 hs λw hs=>?_;refine Ah hs (Ah hs (Ah hs (Ah (k:=.slc) (x:=(⟨none,0,0⟩:Sl)) hs ?_)));refine HM (s:=⟨none,0,0⟩) hs λw hs=>?_;have hs:=Hn (f:=CO rm (600000*(k+1))) hj (FI (n':=600000*(k+1)) (by omega) (show Ab W w (sd (Ls[By Ls.length o.key]).1 rm (600000*k) (Ls[By Ls.length o.key]).2.1 (Ls[By Ls.length o.key]).2.2.1 (Ls[By Ls.length o.key]).2.2.2::AF ((Ls.eraseIdx (By Ls.length o.key)).map (CO rm (600000*(k+1))))::cB b sl p ch now::recs Rec.ptr sl (Ls.map λz=>z.1)::E7 p k::Fo ch k::M) by exact Ab.fin hs))
  refine H2 hne ⟨by omega,by omega,λ_=>hne,by omega,by omega,by omega⟩ ?_;exact Ch (sl:=sl) (p:=p) (ch:=ch) (m1:=k) (m2:=k) (m3:=600000*(k+1)) hi hX (by omega) (by omega) (by omega) (by exact Ab.fin hs)
 ·refine⟨_,sg,_,by rw[he,hv];rfl,?_⟩;refine A4 hs λw hs=>A4 hs λw hs=>A4 hs λw hs=>?_;refine Ah hs (Ah hs (Ah hs (Ah (k:=.slc) (x:=sg) hs ?_)));refine HM (s:=sg) hs λw hs=>?_;have hs:Ab W w (sd (Ls[By Ls.length o.key]).1 rm (600000*k+1040) (Ew (Cb (Ls[By Ls.length o.key]).2.1 o.key now) o.key) (Ls[By Ls.length o.key]).2.2.1 o'::AF ((Ls.eraseIdx (By Ls.length o.key)).map (CO rm (600000*(k+1))))::cB b sl p ch now::recs Rec.ptr sl (Ls.map λz=>z.1)::E7 p k::Fo ch k::recs Rec.str sg (CL (Ls[By Ls.length o.key]).2.1 o.key now)::M):=by exact Ab.fin hs
  have hs:=Qt (y:=(Ew (Cb (Ls[By Ls.length o.key]).2.1 o.key now) o.key,(Ls[By Ls.length o.key]).2.2.1,o')) hj (by omega) hs;refine⟨0,_,_,sg,_,rm,now,_,rfl,.del hk h0 hat ho,?_⟩;rw[<- hl];exact Kb (m1:=k) (m2:=k) (sl:=sl) (p:=p) (ch:=ch) hi hX hj (by omega) (by omega) (by exact Ab.fin hs)
theorem KN{P:Program}{f:FuncId}{args:Array Value}{rb:Nat}{v0 v1 v2 v3:Value}(hC:AZ P f args w (Rl b k rm now X o W (blk rb [v0,v1,v2,v3]::L))){K:Int->Bool->BA->Sl->WP}
  (hK:∀(e:Int)(h:Bool)(x:BA)(sl:Sl)(gone:BL)(rm' now':Int)(X':List Sh)(w':World),LA rm now X o e h x gone rm' now' X'->Ab W w' (Fy b (k+1) rm' now' X'::recs Rec.str sl gone::L)->K e h x sl w') :
  Calls P f args w λe w'=>∃(x:Int) (y:Bool) (z:BA) (t:Sl),e = .returned (.agg #[.i x,.b y,.s z,.l t.a t.n t.c])/\(st rb 0 (.i x) (st rb 1 (.b y) (st rb 2 (.s z) (st rb 3 (.l t.a t.n t.c) (ld (.int .i64) rb 0 λa=>ld .bool rb 1 λb=>ld .str rb 2 λc=>ld .slc rb 3 λd=>K a b c d)))) w'):=by
 refine Calls.mono hC λe_ w ⟨v,he,e,h,x,sl,gone,rm',now',X',hv,hD,hs⟩=>⟨e,h,x,sl,by rw[he,hv],?_⟩;exact HM hs λw hs=>hK e h x sl gone rm' now' X' w hD (by exact Ab.fin hs)
theorem Azj{b1 b2 b3:Nat}(hk:o.kind<=0\/10<=o.kind)(hs:Ab W w (fnB b3::JW b2::FA b1 o::Fy b k rm now X::M)):Ej Be (Rl b k rm now X o W M) (some ⟨b,0,none⟩) b1 0 b2 0 b3 0 true w:=by
 refine jw Ph ?_;refine Ak rfl ?_;refine HM (s:=⟨none,0,0⟩) hs λw hs=>?_;refine H2 (by decide) ⟨by omega,by omega,by omega,by omega,by omega,by omega⟩ ?_;obtain⟨sl,p,ch,Ls,hi,hX,hl,hn,hs⟩:=Dm (b:=b) (k:=k) (rm:=rm) (now:=now) (X:=X) (M:=M) (by exact Ab.fin hs);exact Ch (sl:=sl) (p:=p) (ch:=ch) (m1:=k) (m2:=k) (m3:=600000*k) hi hX (by omega) (by omega) (by omega) hs
theorem TM{b1 b2 b3:Nat}(hk:1<=o.kind/\o.kind<=9)(hz:o.key.size<4611686018427387904)(hb:k<1000000)(hs:Ab W w (fnB b3::JW b2::FA b1 o::Fy b k rm now X::M)):Ej Be (Rl b k rm now X o W M) (some ⟨b,0,none⟩) b1 0 b2 0 b3 0 false w:=by
 refine jw Ph ?_;refine Ac rfl ?_;refine jw Z6 ?_;refine Al [FA b1 o,fnB b3] hs λw hs=>?_;refine Aq (x:=o.kind) ?_;refine Aw (by omega) ?_;have hs:Ab W w (Fy b k rm now X::JW b2::fnB b3::FA b1 o::M):=by exact Ab.fin hs
 have hc:o.kind=1\/o.kind=2\/o.kind=3\/o.kind=4\/o.kind=5\/o.kind=6\/o.kind=7\/o.kind=8\/o.kind=9:=by omega
 rcases hc with h|h|h|h|h|h|h|h|h
 ·refine HI (i:=1) rfl (by rw[h];rfl) ?_;refine Ah hs (Ah hs (Ah hs (Ah hs (Af hs ?_))));exact KN (A3i h hz hb hs) λe h x sl gone rm' now' X' w hD hs=>⟨e,h,x,sl,gone,rm',now',X',rfl,hD,by exact Ab.fin hs⟩
 ·refine HI (i:=2) rfl (by rw[h];rfl) ?_;refine Ah hs (Ah hs (Ah hs (Ah hs (Af hs ?_))));exact KN (A3j h hz hb hs) λe h x sl gone rm' now' X' w hD hs=>⟨e,h,x,sl,gone,rm',now',X',rfl,hD,by exact Ab.fin hs⟩
 ·refine HI (i:=3) rfl (by rw[h];rfl) ?_;refine Ah hs (Ah hs (Ah hs (Ah hs (Af hs ?_))));exact KN (Aoh h hz hb hs) λe h x sl gone rm' now' X' w hD hs=>⟨e,h,x,sl,gone,rm',now',X',rfl,hD,by exact Ab.fin hs⟩
 ·refine HI (i:=4) rfl (by rw[h];rfl) ?_;refine Ah hs (Ah hs (Ah hs (Ah hs (Af hs ?_))));exact KN (A1h h hb hs) λe h x sl gone rm' now' X' w hD hs=>⟨e,h,x,sl,gone,rm',now',X',rfl,hD,by exact Ab.fin hs⟩
 ·refine HI (i:=5) rfl (by rw[h];rfl) ?_;refine Ah hs (Ah hs (Ah hs (Ah hs (Af hs ?_))));exact KN (Awu h hb hs) λe h x sl gone rm' now' X' w hD hs=>⟨e,h,x,sl,gone,rm',now',X',rfl,hD,by exact Ab.fin hs⟩
 ·refine HI (i:=6) rfl (by rw[h];rfl) ?_;refine Ah hs (Ah hs (Ah hs (Ah hs (Af hs ?_))));exact KN (A1g h hb hs) λe h x sl gone rm' now' X' w hD hs=>⟨e,h,x,sl,gone,rm',now',X',rfl,hD,by exact Ab.fin hs⟩
 ·refine HI (i:=7) rfl (by rw[h];rfl) ?_;refine Ah hs (Ah hs (Ah hs (Ah hs (Af hs ?_))));exact KN (Awv h hb hs) λe h x sl gone rm' now' X' w hD hs=>⟨e,h,x,sl,gone,rm',now',X',rfl,hD,by exact Ab.fin hs⟩
 ·refine HI (i:=8) rfl (by rw[h];rfl) ?_;refine Ah hs (Ah hs (Ah hs (Ah hs (Af hs ?_))));exact KN (Aww h hb hs) λe h x sl gone rm' now' X' w hD hs=>⟨e,h,x,sl,gone,rm',now',X',rfl,hD,by exact Ab.fin hs⟩
 ·refine HI (i:=9) rfl (by rw[h];rfl) ?_;refine Ah hs (Ah hs (Ah hs (Ah hs (Af hs ?_))));exact KN (Aoi h hb hs) λe h x sl gone rm' now' X' w hD hs=>⟨e,h,x,sl,gone,rm',now',X',rfl,hD,by exact Ab.fin hs⟩
theorem Aog(hz:o.key.size<4611686018427387904)(hb:k<1000000)(hs:Ab W w (Fy b k rm now X::M)):AZ PR 15 #[pq b 0,.agg #[.i o.kind,.s o.key,.s o.val,.i o.n]] w (Rl b k rm now X o W M):=by
 refine cw ⟨mixed,Tryz.func15,rfl⟩ Ar5 ?_;refine Ai hs λb1 w hs=>Ai hs λb2 w hs=>?_;refine Ac rfl ?_;refine Ai hs λb3 w hs=>?_
 iterate 10 refine A4 hs λw hs=>?_
 have hs:Ab W w (fnB b3::JW b2::FA b1 o::Fy b k rm now X::M):=hs;refine Ah hs ?_
 with_reducible refine Ay (λh1=>?_) (λh1=>?_)
 ·exact Azj (.inl (by omega)) hs
 refine Ah hs ?_
 with_reducible refine Ay (λh2=>?_) (λh2=>?_)
 ·exact Azj (.inr (by omega)) hs
 refine Ah (x:=o.kind) hs ?_;refine Aw (by omega) ?_;have hc:o.kind=0\/o.kind=1\/o.kind=2\/o.kind=3\/o.kind=4\/o.kind=5\/o.kind=6\/o.kind=7\/o.kind=8\/o.kind=9:=by omega
 rcases hc with h|h|h|h|h|h|h|h|h|h
 ·exact A1m hs (by rw[h];rfl) (Azj (.inl (by omega)) hs)
 ·exact KB (i:=1) hs rfl (by rw[h];rfl) (TM (by omega) hz hb hs)
 ·exact KB (i:=2) hs rfl (by rw[h];rfl) (TM (by omega) hz hb hs)
 ·exact KB (i:=3) hs rfl (by rw[h];rfl) (TM (by omega) hz hb hs)
 ·exact KB (i:=4) hs rfl (by rw[h];rfl) (TM (by omega) hz hb hs)
 ·exact KB (i:=5) hs rfl (by rw[h];rfl) (TM (by omega) hz hb hs)
 ·exact KB (i:=6) hs rfl (by rw[h];rfl) (TM (by omega) hz hb hs)
 ·exact KB (i:=7) hs rfl (by rw[h];rfl) (TM (by omega) hz hb hs)
 ·exact KB (i:=8) hs rfl (by rw[h];rfl) (TM (by omega) hz hb hs)
 ·exact KB (i:=9) hs rfl (by rw[h];rfl) (TM (by omega) hz hb hs)
end
end Go.Proofs.YtjipofkjmmpjdaaGreat
namespace Go.Hb
inductive QW (rm now:Int) (X:List Sh):List JY->List Ans->Int->Int->List Sh->Prop
 | nil:QW rm now X [] [] rm now X
 | snoc {os:List JY} {rs:List Ans} {rm1 now1 rm2 now2:Int} {X1 X2:List Sh} {o:JY} {a:Ans}:QW rm now X os rs rm1 now1 X1->LA rm1 now1 X1 o a.err a.hit a.val a.gone rm2 now2 X2->(∀z∈X2,Go.Proofs.YtjipofkjmmpjdaaGreat.Aqn rm2 z.1)->QW rm now X (os++[o]) (rs++[a]) rm2 now2 X2
abbrev gsl(a:Ans):HP:=recs Rec.str a.sl a.gone
theorem QW.len{rm now:Int}{X:List Sh}{os:List JY}{rs:List Ans}{rm1 now1:Int}{X1:List Sh}(h:QW rm now X os rs rm1 now1 X1):rs.length=os.length:=by
 induction h with
 | nil=>rfl
 | snoc _ _ _ ih=>simp[ih]
theorem Abi{W:World}{s:Sl}{α:Type}{E:Rec α}{rows:List α}{n c:Nat}(h:CG W s E rows)(hn:n<=rows.length):CG W ⟨Ht s.a 0 s.c E.sz,n,c⟩ E (rows.take n):=by
 refine⟨by simp;omega,?_⟩;have hl:=h.len;rcases h.at_ with⟨h1,h2⟩|⟨b,o,h1,h2⟩
 ·exact .inl ⟨by unfold Ht;rw[h1];simp,show n=0 by omega⟩
 ·refine .inr ⟨b,o,?_,λi j a ha hj=>?_⟩
  ·show Ht s.a 0 s.c E.sz=_;unfold Ht;rw[h1];split <;> simp[VK]
  ·rw[List.getElem?_take] at ha;split at ha
   ·exact h2 i j a ha hj
   ·cases ha
end Go.Hb
namespace Go.Proofs.YtjipofkjmmpjdaaGreat
open Go.Hb Go.IntWalk
section
variable{W w:World}{L M:List HP}{b k n sh:Nat}{X:List Sh}{p ch:Nat}{sl:Sl}{Ls:List (Nat×Sh)}{rm now:Int}{o:JY}{key:BA}{c0 c1 c2 c3 c4 c5 c6:Int}{tp:Sl}{tape:List Int}
abbrev cfB(b:Nat)(c0 c1 c2 c3 c4 c5 c6:Int)(tp:Sl):HP:=blk b [.i c0,.i c1,.i c2,.i c3,.i c4,.i c5,.i c6,.l tp.a tp.n tp.c]
def Aqj(c0 c1 c2 c3 c4 c5 c6:Int):Prop:=(1<=c0/\c0<=8)/\(1<=c1/\c1<=1024)/\(0<=c2/\c2<=256/\1<=c3/\c3<=256)/\(0<=c4/\c4<=16777216)/\(1<=c5/\c5<=256)/\0<=c6/\c6<5
abbrev Aql(c0 c1 c2 c3 c4 c5 c6:Int)(W:World)(L:List HP):VW:=λv w'=>(∃(b sh:Nat),c0=(sh:Int)/\v = .tuple #[pq b 0,.i 0]/\Ab W w' (Fy b 0 c1 0 (List.replicate sh ([],c6,none))::L))\/(¬Aqj c0 c1 c2 c3 c4 c5 c6/\∃e:Int,e≠0/\v = .tuple #[.p none,.i e]/\Ab W w' L)
theorem A1x[hr:Lg W L tp (Rec.int .u32) tape](ht:tape.length<=1000){b1 cb:Nat}(hsh:c0=(sh:Int))(h1:1<=sh)(h8:sh<=8)(hr1:1<=c1)(hr2:c1<=1024)(hT:Ls.map (·.2)=List.replicate sh ([],c6,none))(hs:Ab W w (blk cb [.l sl.a sl.n sl.c,pq p 0,.p none,.i 0]::E7 p 0::recs Rec.ptr sl (Ls.map λz=>z.1)::AF (Ls.map (CO c1 0))::cfB b1 c0 c1 c2 c3 c4 c5 c6 tp::L)) :
  Alj Be (Aql c0 c1 c2 c3 c4 c5 c6 W L) b1 0 cb 0 w:=by
 refine jw ZA ?_;refine Al [cfB b1 c0 c1 c2 c3 c4 c5 c6 tp] hs λw hs=>?_;refine Aq (Aq (Ah (x:=tp) hs (Af hs ?_)));refine Ag (A2o (s:=tp) (ds:=tape) (by omega) hs) λv w ⟨tb,hv,hs⟩=>⟨_,hv,Af hs ?_⟩;refine AH (Aze hs) λv w h=>?_;rcases h with⟨hok,q,hv,hs⟩|⟨hno,e,he,hv,hs⟩
 ·refine⟨_,_,hv,Ac rfl ?_⟩;refine Aa (A4 hs λw hs=>?_);have hl:Ls.length=sh:=by have:=congrArg List.length hT;simpa using this
  exact .inl ⟨cb,sh,hsh,rfl,Ch (sl:=sl) (p:=p) (ch:=q) (m1:=0) (m2:=0) (m3:=0) ⟨by omega,by omega,hr1,hr2,by omega,by omega⟩ hT (by omega) (by omega) (by omega) (by exact Ab.fin hs)⟩
 ·exact⟨_,_,hv,Ak (by simpa using he) (.inr ⟨λh=>hno ⟨h.2.2.2.2.2,h.2.2.2.2.1⟩,e,he,rfl,by exact Ab.fin hs⟩)⟩
theorem Ayt[hr:Lg W L tp (Rec.int .u32) tape](ht:tape.length<=1000)(hs:Ab W w L):AZ PR 27 #[.agg #[.i c0,.i c1,.i c2,.i c3,.i c4,.i c5,.i c6,.l tp.a tp.n tp.c]] w (Aql c0 c1 c2 c3 c4 c5 c6 W L):=by
 refine cw ⟨mixed,Tryz.func27,rfl⟩ Ata ?_;refine Ai hs λb1 w hs=>?_;have bad:¬Aqj c0 c1 c2 c3 c4 c5 c6->∀w:World,Ab W w (cfB b1 c0 c1 c2 c3 c4 c5 c6 tp::L)->Aql c0 c1 c2 c3 c4 c5 c6 W L (.tuple #[.p none,.i 1]) w:=λhn w hs=>.inr ⟨hn,1,by decide,rfl,hs.drop⟩;unfold Aqj at bad;refine Ah hs ?_
 with_reducible refine Ay (λh1=>?_) (λh1=>?_)
 ·exact bad (by omega) w hs
 refine Ah hs ?_
 with_reducible refine Ay (λh2=>?_) (λh2=>?_)
 ·exact bad (by omega) w hs
 refine Ah hs ?_
 with_reducible refine Ay (λh3=>?_) (λh3=>?_)
 ·exact bad (by omega) w hs
 refine Ah hs ?_
 with_reducible refine Ay (λh4=>?_) (λh4=>?_)
 ·exact bad (by omega) w hs
 refine Ah hs ?_
 with_reducible refine Ay (λh5=>?_) (λh5=>?_)
 ·exact bad (by omega) w hs
 refine Ah hs ?_
 with_reducible refine Ay (λh6=>?_) (λh6=>?_)
 ·exact bad (by omega) w hs
 obtain⟨sh,hsh⟩:∃sh:Nat,c0=(sh:Int):=⟨c0.toNat,by omega⟩;refine jw Z9 ?_;refine Ah hs (Ah hs (Ah hs ?_));refine Ag (A12 hs) λv w ⟨p,hv,hs⟩=>⟨_,hv,?_⟩;refine Ai hs λcb w hs=>?_;refine Ah hs ?_;have loop:∀(f i:Nat)(Ls:List (Nat×Sh))(sl:Sl)(w:World),i+f=sh->Ls.map (·.2)=List.replicate i ([],c6,none)->Ab W w (blk cb [.l sl.a sl.n sl.c,pq p 0,.p none,.i 0]::E7 p 0::recs Rec.ptr sl (Ls.map λz=>z.1)::AF (Ls.map (CO c1 0))::cfB b1 c0 c1 c2 c3 c4 c5 c6 tp::L) ->
   Ux Be (Aql c0 c1 c2 c3 c4 c5 c6 W L) (f+1) b1 0 cb 0 c0 (i:Int) w:=by
  clear hs;intro f
  induction f with
  | zero=>
   intro i Ls sl w hi hT hs;rw[Pk];refine Ac (decide_eq_false (by omega)) ?_;have hi:i=sh:=by omega
   subst hi;exact A1x ht hsh (by omega) (by omega) (by omega) (by omega) hT hs
  | succ f ih=>
   intro i Ls sl w hi hT hs;rw[Pk];refine Ak (decide_eq_true (by omega)) ?_
   iterate 4 refine Ah hs ?_
   refine AH (A2d hs) λv w h=>?_;rcases h with⟨hok,q,hv,hs⟩|⟨hno,e,he,hv,hs⟩
   ·refine⟨_,_,hv,Ac rfl ?_⟩;have hlen:Ls.length=i:=by have:=congrArg List.length hT;simpa using this
    refine Aa (Ah (x:=sl) hs ?_);refine Ai hs λnb w hs=>?_;refine CA (s:=sl) (a:=q) hs rfl rfl rfl rfl (by decide) (by rw[List.length_map];omega) λs5 w hs5 hs=>?_
    refine Aa (A4 hs λw hs=>?_);have hs:Ab W w (CO c1 0 (q,[],c6,none)::AF (Ls.map (CO c1 0))::blk cb [.l s5.a s5.n s5.c,pq p 0,.p none,.i 0]::E7 p 0::recs Rec.ptr s5 ((Ls.map λz=>z.1)++[q])::cfB b1 c0 c1 c2 c3 c4 c5 c6 tp::L):=by exact Ab.fin hs
    have hs:=Gb hs;rw[show(Ls.map λz=>z.1)++[q]=(Ls++[(q,(([]:TT),c6,(none:Option Nat)))]).map λz=>z.1 by simp] at hs;rw[show IntKind.wrap .i64 ((i:Int)+1)=((i+1:Nat):Int) by rw[i64_in _ (by omega)];omega]
    exact ih (i+1) (Ls++[(q,(([]:TT),c6,(none:Option Nat)))]) s5 w (by omega) (by rw[List.map_append,hT,List.replicate_succ'];rfl) (by exact Ab.fin hs)
   ·exact⟨_,_,hv,Ak (by simpa using he) (.inr ⟨λh=>hno ⟨h.2.1,h.2.2.1,h.2.2.2.2.2⟩,e,he,rfl,by exact Ab.fin hs⟩)⟩
 have hs:=Ab.nilR Rec.ptr hs;have hs:=Hm (f:=CO c1 0) hs;exact AJ _ (loop sh 0 [] ⟨none,0,0⟩ w (by omega) rfl (by exact Ab.fin hs))
theorem A3h{ops:List JY}[hr:Lg W M sl opR ops](hz:∀o∈ops,o.key.size<4611686018427387904)(hk:k+ops.length<900000)(hs:Ab W w (Fy b k rm now X::M)):AZ PR 14 #[pq b 0,.l sl.a sl.n sl.c] w λv w'=>∃(r9:Sl) (rs:List Ans) (rm' now':Int) (X':List Sh),v = .l r9.a r9.n r9.c/\QW rm now X ops rs rm' now' X'/\Ab W w' (Fy b (k+ops.length) rm' now' X'::recs Zp r9 rs::AF (rs.map gsl)::M):=by
 refine cw ⟨mixed,Tryz.func14,rfl⟩ Ar3 ?_;have e0:sl.n=ops.length:=Bg (L:=M) (rows:=ops) hs.drop;have loop:∀(f i:Nat)(rs:List Ans)(r9:Sl)(rm' now':Int)(X':List Sh)(w:World),i+f=ops.length->QW rm now X (ops.take i) rs rm' now' X'->Ab W w (Fy b (k+i) rm' now' X'::recs Zp r9 rs::AF (rs.map gsl)::M) ->
   Ua Be (λv w'=>∃(r9:Sl) (rs:List Ans) (rm' now':Int) (X':List Sh),v = .l r9.a r9.n r9.c/\QW rm now X ops rs rm' now' X'/\Ab W w' (Fy b (k+ops.length) rm' now' X'::recs Zp r9 rs::AF (rs.map gsl)::M)) (f+1) (some ⟨b,0,none⟩) r9 sl (sl.n:Int) (i:Int) w:=by
  clear hs;intro f
  induction f with
  | zero=>
   intro i rs r9 rm' now' X' w hi hR hs;rw[Pg];refine Ac (decide_eq_false (by omega)) ?_;refine jw Z5 ?_;have hi:i=ops.length:=by omega
   subst hi;rw[List.take_length] at hR;exact⟨r9,rs,rm',now',X',rfl,hR,hs⟩
  | succ f ih=>
   intro i rs r9 rm' now' X' w hi hR hs;rw[Pg];refine Ak (decide_eq_true (by omega)) ?_;refine BU (s:=sl) (E:=opR) (rows:=ops) hs λb_ o_ ha_=>?_;refine Cw (s:=sl) (E:=opR) (rows:=ops) ha_ hs (Vl (s:=sl) (E:=opR) (rows:=ops) ha_ hs (A1o (s:=sl) (E:=opR) (rows:=ops) ha_ hs (A1p (s:=sl) (E:=opR) (rows:=ops) ha_ hs ?_ (hc:=rfl)) (hc:=rfl)) (hc:=rfl)) (hc:=rfl);rw[Int.toNat_natCast];refine Ai hs λb7 w hs=>?_;refine A4 hs λw hs=>A4 hs λw hs=>A4 hs λw hs=>A4 hs λw hs=>?_;refine Ah hs (Ah hs (Ah hs (Ah hs ?_)));have hil:i<ops.length:=by omega
   have hmem:ops.getD i default∈ops:=by rw[List.getD_eq_getElem?_getD,List.getElem?_eq_getElem hil];exact List.getElem_mem hil
   have hs:Ab W w (Fy b (k+i) rm' now' X'::recs Zp r9 rs::AF (rs.map gsl)::M):=by exact Ab.fin hs
   refine Calls.mono (Aog (o:=ops.getD i default) (hz _ hmem) (by omega) hs) λe_ w ⟨v,he,e,h,x,sg,gone,rm2,now2,X2,hv,hD,hs⟩=>⟨e,h,x,sg,by rw[he,hv],?_⟩;have hok2:=Jz hs;refine Ai hs λnb w hs=>?_
   have hlen:=hR.len;rw[List.length_take] at hlen;refine CA (s:=r9) (a:=(⟨e,h,x,sg,gone⟩:Ans)) hs rfl rfl rfl rfl (by decide) (by omega) λs5 w hs5 hs=>?_;have hs:Ab W w (gsl ⟨e,h,x,sg,gone⟩::AF (rs.map gsl)::Fy b (k+i+1) rm2 now2 X2::recs Zp s5 (rs++[⟨e,h,x,sg,gone⟩])::M):=by exact Ab.fin hs
   have hs:=Gb hs;rw[show IntKind.wrap .i64 ((i:Int)+1)=((i+1:Nat):Int) by rw[i64_in _ (by omega)];omega]
   refine ih (i+1) _ s5 rm2 now2 X2 w (by omega) ?_ (by exact Ab.fin hs);rw[Cc hil];have e1:ops.getD i default=ops[i]:=by rw[List.getD_eq_getElem?_getD,List.getElem?_eq_getElem hil];rfl
   rw[<- e1];exact .snoc hR hD λz hz=>(hok2.2 z hz).1
 have hs:Ab W w (recs Zp ⟨none,0,0⟩ []::Fy b k rm now X::M):=Ab.nilR Zp hs;have hs:=Hm (f:=gsl) hs;exact AJ _ (loop ops.length 0 [] ⟨none,0,0⟩ rm now X w (by omega) .nil (by exact Ab.fin hs))
end
end Go.Proofs.YtjipofkjmmpjdaaGreat
namespace Go.Hb
open Go.Proofs.YtjipofkjmmpjdaaGreat
theorem Axi{rm now:Int}{X:List Sh}{o u:JY}{e:Int}{h:Bool}{x:BA}{g:BL}{rm1 now1:Int}{X1:List Sh}{e2:Int}{h2:Bool}{x2:BA}{g2:BL}{rm2 now2:Int}{X2:List Sh}
  (hX:∀z∈X,Aqn rm z.1) (k1:o.kind=2) (k2:u.kind=1) (hu:u.key=o.key) (ht:Fe o.key o.val now o.n=0) (hp:LA rm now X o e h x g rm1 now1 X1) (hg:LA rm1 now1 X1 u e2 h2 x2 g2 rm2 now2 X2):e=0/\e2=0/\h2=true/\x2=o.val:=by
 obtain⟨hk,hv,hn0,hn1,hl0,hl1⟩:=HV ht;have hm0:Jk u.key now=0:=by
  unfold Jk;rw[hu,if_neg (by rw[hk];simp),if_neg (by omega)]
 cases hp with
 | no he hN=>exact absurd ht (hN.n2 k1)
 | @put T kd p q g _ _ hT ho hnd hsub hng=>
  have hlt:=(List.getElem?_eq_some_iff.1 hT).1;have hok:=(hX _ (List.mem_of_getElem? hT)).tok;refine⟨rfl,?_⟩;cases hg with
  | no he hN=>exact absurd hm0 (hN.n1 k2)
  | @get T2 kd2 p2 q2 _ _ hT2 ho2=>
   refine⟨rfl,?_⟩;rw[List.length_set,hu,List.getElem?_set_self hlt] at hT2;simp only[Option.some.injEq,Prod.mk.injEq] at hT2;obtain⟨rfl,_,_⟩:=hT2;have hm:AE (F5 (AB (Cb T o.key now) g) o.key o.val now o.n) o.key=some (o.val,FK now o.n):=by
    unfold F5;rw[if_pos ht,OH (CH (Ahk hok)).rise,if_pos rfl]
   have hov:ID (FK now o.n) now=false:=by
    unfold ID FK;refine decide_eq_false λh=>?_;split at h <;> omega
   rw[hu];unfold EB;rw[hm];simp[hov]
  | put h1=>omega
  | del h1=>omega
  | tick h1=>omega
  | drain h1=>omega
  | step h1=>omega
  | epoch h1=>omega
  | force h1=>omega
  | res h1=>omega
 | get h1=>omega
 | del h1=>omega
 | tick h1=>omega
 | drain h1=>omega
 | step h1=>omega
 | epoch h1=>omega
 | force h1=>omega
 | res h1=>omega
end Go.Hb
namespace Go.Proofs.YtjipofkjmmpjdaaGreat
open Go.Hb Go.IntWalk
section
variable{W w:World}{L M:List HP}{s0 r9 tp:Sl}{ops:List JY}{rs:List Ans}{tape:List Int}{c0 c1 c2 c3 c4 c5 c6:Int}{b n:Nat}{rm now:Int}{X:List Sh}
theorem Aqc(hs:Ab W w L):AZ PR 10 #[.agg #[.i c0,.i c1,.i c2,.i c3,.i c4,.i c5,.i c6,.l tp.a tp.n tp.c]] w λv w'=>∃t:Bool,v = .b t/\(t=true->tp.n<=100/\c1<=64)/\Ab W w' L:=by
 refine cw ⟨mixed,Tryz.func10,rfl⟩ Are ?_;refine Ai hs λb1 w hs=>?_;refine Ah hs ?_
 with_reducible refine Ay (λh1=>?_) (λh1=>?_)
 rotate_left
 ·exact⟨false,rfl,(λh=>by cases h),hs.drop⟩
 refine Ah hs ?_
 with_reducible refine Ay (λh2=>?_) (λh2=>?_)
 rotate_left
 ·exact⟨false,rfl,(λh=>by cases h),hs.drop⟩
 refine Ah hs ?_
 with_reducible refine Ay (λh3=>?_) (λh3=>?_)
 rotate_left
 ·exact⟨false,rfl,(λh=>by cases h),hs.drop⟩
 refine Ah (x:=tp) hs ?_;exact⟨_,rfl,λh=>by have:=of_decide_eq_true h;omega,hs.drop⟩
def Aza(ops:List JY):Prop:=∀i,i<ops.length->i<150->(ops.getD i default).key.size<=40
set_option maxRecDepth 100000 in
theorem Aqa[hr:Lg W L s0 opR ops](hs:Ab W w L):AZ PR 9 #[.l s0.a s0.n s0.c] w λv w'=>∃b:Bool,v = .b b/\(b=false->Aza ops)/\Ab W w' L:=by
 refine cw ⟨mixed,Tryz.func9,rfl⟩ A06 ?_;obtain⟨N,hN⟩:∃N:Nat,N=151:=⟨_,rfl⟩;have loop:∀(m i:Nat)(w:World),i+m=N->(∀j,j<i->j<ops.length->(ops.getD j default).key.size<=40)->Ab W w L->Adt Be (λv w'=>∃b:Bool,v = .b b/\(b=false->Aza ops)/\Ab W w' L) (m+1) s0 (i:Int) w:=by
  intro m
  induction m with
  | zero=>
   intro i w hi hp hs;have hn:=Bg (s:=s0) hs;rw[SN]
   with_reducible refine Ay (λh1=>?_) (λh1=>?_)
   ·with_reducible refine Di (λh2=>absurd h2 (by omega)) (λh2=>?_)
    refine jw IM ?_;exact⟨_,rfl,λ_ j hj hj2=>hp j (by omega) hj,hs⟩
   ·refine jw IM ?_;exact⟨_,rfl,λ_ j hj hj2=>hp j (by omega) hj,hs⟩
  | succ m ih=>
   intro i w hi hp hs;have hn:=Bg (s:=s0) hs;rw[SN]
   with_reducible refine Ay (λh1=>?_) (λh1=>?_)
   ·with_reducible refine Ay (λh2=>?_) (λh2=>?_)
    ·refine jw Af9 ?_
     repeat (first|((with_reducible refine A2 ?_);first|refine Vl ha_ hs ?_|fail)|((with_reducible refine BC ?_);first|refine BU hs λb_ o_ ha_=>?_|fail)|fail)
     rw[Int.toNat_natCast]
     with_reducible refine Ay (λh3=>?_) (λh3=>?_)
     ·exact⟨_,rfl,(λh=>by cases h),hs⟩
     ·repeat (first|((with_reducible refine A2 ?_);first|refine Vl ha_ hs ?_|fail)|((with_reducible refine BC ?_);first|refine BU hs λb_ o_ ha_=>?_|fail)|fail)
      with_reducible refine Ay (λh4=>?_) (λh4=>?_)
      ·exact⟨_,rfl,(λh=>by cases h),hs⟩
      rw[i64_in _ (by omega)];refine ih (i+1) w (by omega) (λj hj hj2=>?_) hs
      by_cases hji:j=i
      ·subst hji;omega
      ·exact hp j (by omega) hj2
    ·refine jw IM ?_;exact⟨_,rfl,λ_ j hj hj2=>hp j (by omega) hj,hs⟩
   ·refine jw IM ?_;exact⟨_,rfl,λ_ j hj hj2=>hp j (by omega) hj,hs⟩
 refine⟨N+1,?_⟩;exact loop N 0 w (by omega) (λj hj=>by omega) hs
abbrev A4a(c0 c1 c6:Int)(W:World)(L:List HP):VW:=λv w'=>(∃(b sh:Nat),c0=(sh:Int)/\v = .tuple #[pq b 0,.b true]/\Ab W w' (Fy b 0 c1 0 (List.replicate sh ([],c6,none))::L))\/(v = .tuple #[.p none,.b false]/\Ab W w' L)
theorem Ap9[hr:Lg W L tp (Rec.int .u32) tape](ht:tape.length<=1000)(hs:Ab W w L):AZ PR 13 #[.agg #[.i c0,.i c1,.i c2,.i c3,.i c4,.i c5,.i c6,.l tp.a tp.n tp.c]] w (A4a c0 c1 c6 W L):=by
 refine cw ⟨mixed,Tryz.func13,rfl⟩ Aru ?_;refine Ai hs λb1 w hs=>?_
 iterate 7 refine Ah hs ?_
 refine Ah (x:=tp) hs ?_;refine AH (Ayt ht hs) λv w h=>?_;rcases h with⟨b,sh,hsh,hv,hs⟩|⟨hno,e,he,hv,hs⟩
 ·exact⟨_,_,hv,Ac rfl (.inl ⟨b,sh,hsh,rfl,by exact Ab.fin hs⟩)⟩
 ·exact⟨_,_,hv,Ak (by simpa using he) (.inr ⟨rfl,hs.drop⟩)⟩
theorem Aqb(hs:Ab W w L):AZ PR 12 #[] w λv w'=>v = .b true/\Ab W w' L:=by
 refine cw ⟨mixed,Tryz.func12,rfl⟩ Arp ?_;have hs:=Ab.nilR (Rec.int .u32) hs;refine AH (Ayt (tp:=⟨none,0,0⟩) (tape:=[]) (by simp) hs) λv w h=>?_;rcases h with⟨b,sh,hsh,hv,hs⟩|⟨hno,e,he,hv,hs⟩
 rotate_left
 ·exact absurd (by unfold Aqj;omega) hno
 refine⟨_,_,hv,Ac rfl (Ac rfl ?_)⟩;refine jw Z4 ?_;have hok:=Jz hs;refine Calls.mono (Aog (o:=⟨2,QF,QG,0⟩) (by decide) (by decide) hs) λe_ w ⟨v,he,e,h,x,sg,gone,rm2,now2,X2,hv,hD,hs⟩=>⟨e,h,x,sg,by rw[he,hv],?_⟩;refine Calls.mono (Aog (o:=⟨1,QF,⟨#[]⟩,0⟩) (by decide) (by decide) hs) λe_ w ⟨v,he,e2,h2,x2,sg2,gone2,rm3,now3,X3,hv,hD2,hs⟩=>⟨e2,h2,x2,sg2,by rw[he,hv],?_⟩;have hk:Fe QF QG 0 0=0:=by decide +kernel
 obtain⟨_,rfl,rfl,rfl⟩:=Axi (o:=⟨2,QF,QG,0⟩) (u:=⟨1,QF,⟨#[]⟩,0⟩) (λz hz=>(hok.2 z hz).1) rfl rfl rfl hk hD hD2;refine Ai hs λb1 w hs=>?_;refine A4 hs λw hs=>A4 hs λw hs=>A4 hs λw hs=>A4 hs λw hs=>?_;refine Ah hs (Ak rfl ?_);refine Ah hs ?_;refine Ak (show sEq QG QG=true by decide +kernel) ?_;exact Ah hs ⟨rfl,by exact Ab.fin hs⟩
end
end Go.Proofs.YtjipofkjmmpjdaaGreat
namespace Go.Hb
open Go.Proofs.YtjipofkjmmpjdaaGreat
section
variable{rm now rm' now':Int}{X X':List Sh}{o:JY}{e:Int}{h:Bool}{v:BA}{gone:BL}{key:BA}
theorem VU{T:TT}{g:BL}{k:BA}:Ew (AB T g) k=AB T (g++[k]):=by unfold AB;rw[List.foldl_append];rfl
theorem OO{i:Nat}{z z':Sh}{P:Sh->Sh->Prop}(hi:X[i]? = some z)(hp:P z z')(hs:∀y,P y y):(X.set i z').length=X.length/\∀(j:Nat)(y:Sh),X[j]? = some y->∃y',(X.set i z')[j]? = some y'/\P y y':=by
 have hlt:=(List.getElem?_eq_some_iff.1 hi).1;refine⟨by rw[List.length_set],λj y hj=>?_⟩
 by_cases hij:j=i
 ·subst hij;rw[hi] at hj;cases hj;exact⟨z',by rw[List.getElem?_set_self hlt],hp⟩
 ·exact⟨y,by rw[List.getElem?_set_ne (λh=>hij h.symm)];exact hj,hs y⟩
def A22(n:Nat)(now:Int)(o:JY)(i:Nat)(z z':Sh):Prop:=(∃g,z'.1=AB z.1 g)\/(o.kind=2/\i=By n o.key/\Fe o.key o.val now o.n=0/\∃g,z'.1=F5 (AB z.1 g) o.key o.val now o.n)
theorem LA.tab(hD:LA rm now X o e h v gone rm' now' X'):X'.length=X.length/\∀(i:Nat)(z:Sh),X[i]? = some z->∃z',X'[i]? = some z'/\A22 X.length now o i z z':=by
 have same:∀z:Sh,∃g,z.1=AB z.1 g:=λz=>⟨[],rfl⟩;cases hD with
 | no he hN=>exact⟨rfl,λi z hz=>⟨z,hz,.inl (same z)⟩⟩
 | @get T kd p q hk hm hT ho=>
  have h1:=OO (P:=λz z'=>∃g,z'.1=AB z.1 g) hT (z':=(Cb T o.key now,kd,q)) ⟨_,IZ T o.key now⟩ same;exact⟨h1.1,λi z hz=>by obtain⟨z',a,b⟩:=h1.2 i z hz;exact⟨z',a,.inl b⟩⟩
 | @put T kd p q g hk ht hT ho hnd hsub hng=>
  have hlt:=(List.getElem?_eq_some_iff.1 hT).1;refine⟨by rw[List.length_set],λi z hz=>?_⟩
  by_cases hij:i=By X.length o.key
  ·subst hij;rw[hT] at hz;cases hz;refine⟨_,List.getElem?_set_self hlt,.inr ⟨hk,rfl,ht,CL T o.key now++g,?_⟩⟩;show F5 (AB (Cb T o.key now) g) o.key o.val now o.n=_;rw[IZ];unfold AB;rw[List.foldl_append]
  ·exact⟨z,by rw[List.getElem?_set_ne (λh=>hij h.symm)];exact hz,.inl (same z)⟩
 | @del T kd p q hk hm hT ho=>
  have h1:=OO (P:=λz z'=>∃g,z'.1=AB z.1 g) hT (z':=(Ew (Cb T o.key now) o.key,kd,q)) ⟨_,by show Ew (Cb T o.key now) o.key=_;rw[IZ,VU]⟩ same;exact⟨h1.1,λi z hz=>by obtain⟨z',a,b⟩:=h1.2 i z hz;exact⟨z',a,.inl b⟩⟩
 | tick hk h0 h1 hF=>exact⟨hF.len.symm,λi z hz=>by obtain⟨z',a,b⟩:=hF.get hz;exact⟨z',a,.inl ⟨_,b.1⟩⟩⟩
 | @drain h i T kd p q hk hn hT ho=>
  have h1:=OO (P:=λz z'=>∃g,z'.1=AB z.1 g) hT (z':=(T,kd,q)) (same _) same;exact⟨h1.1,λi z hz=>by obtain⟨z',a,b⟩:=h1.2 i z hz;exact⟨z',a,.inl b⟩⟩
 | @step h v i T kd p q hk hn hT ho hle=>
  have h1:=OO (P:=λz z'=>∃g,z'.1=AB z.1 g) hT (z':=(T,kd,Hk q)) (same _) same;exact⟨h1.1,λi z hz=>by obtain⟨z',a,b⟩:=h1.2 i z hz;exact⟨z',a,.inl b⟩⟩
 | epoch hk hkd hF=>
  rcases hF with rfl|hF
  ·exact⟨rfl,λi z hz=>⟨z,hz,.inl (same z)⟩⟩
  ·exact⟨hF.len.symm,λi z hz=>by obtain⟨z',a,b⟩:=hF.get hz;exact⟨z',a,.inl ⟨[],b.1⟩⟩⟩
 | force hk hkd hF=>exact⟨hF.len.symm,λi z hz=>by obtain⟨z',a,b⟩:=hF.get hz;exact⟨z',a,.inl ⟨[],b.1⟩⟩⟩
 | res hk h1 h2 hF=>exact⟨hF.len.2.symm,λi z hz=>by obtain⟨g,z',a,c,b⟩:=hF.get hz;exact⟨z',c,.inl ⟨g,by rw[b.2.2]⟩⟩⟩
end
end Go.Hb
namespace Go.Proofs.YtjipofkjmmpjdaaGreat
open Go.Hb Go.IntWalk
section
variable{W w:World}{L M:List HP}{s0 tp:Sl}{ops:List JY}{b k:Nat}{rm now:Int}{X:List Sh}
theorem A2n{K:Sl->WP}[hr0:CG W s0 opR ops][hO:AtO M W](hc:s0.n<=s0.c)(hsz:Aza ops)(hs:Ab W w (Fy b 0 rm now X::M))
  (hK:∀(r9:Sl)(rs:List Ans)(n:Nat)(rm' now':Int)(X':List Sh)(w:World),n<=150->QW rm now X (ops.take n) rs rm' now' X'->Ab W w (Fy b n rm' now' X'::M)->K r9 w) :
  AX ((0:Int)<=(if (150:Int)<(s0.n:Int) then (150:Int) else (s0.n:Int))/\(if (150:Int)<(s0.n:Int) then (150:Int) else (s0.n:Int))<=(s0.c:Int)) (call1 .slc PR 14 [pq b 0,.l (Ht s0.a 0 s0.c 4) (((if (150:Int)<(s0.n:Int) then (150:Int) else (s0.n:Int))).toNat-0) (s0.c-0)] K) w:=by
 have e0:=hr0.len;obtain⟨n,hn,hn1,hn2⟩:∃n:Nat,(if (150:Int)<(s0.n:Int) then (150:Int) else (s0.n:Int))=(n:Int)/\n<=150/\n<=ops.length:=by
  by_cases h:(150:Int)<(s0.n:Int)
  ·exact⟨150,if_pos h,by omega,by omega⟩
  ·exact⟨s0.n,if_neg h,by omega,by omega⟩
 rw[hn];refine Aw (by omega) ?_;haveI:CG W ⟨Ht s0.a 0 s0.c 4,n,s0.c⟩ opR (ops.take n):=Abi hr0 hn2;have hlen:(ops.take n).length=n:=by rw[List.length_take];omega
 have hz:∀o∈ops.take n,o.key.size<4611686018427387904:=λo ho=>by
  obtain⟨i,hi,rfl⟩:=List.mem_iff_getElem.1 ho;have h1:=hsz i (by omega) (by omega);rw[List.getElem_take];rw[List.getD_eq_getElem?_getD,List.getElem?_eq_getElem (by omega)] at h1;have h1:(ops[i]).key.size<=40:=h1;omega
 rw[Int.toNat_natCast,Nat.sub_zero,Nat.sub_zero];refine Ag (A3h (sl:=⟨Ht s0.a 0 s0.c 4,n,s0.c⟩) (ops:=ops.take n) hz (by omega) hs) λv w ⟨r9,rs,rm1,now1,X1,hv,hR,hs⟩=>⟨r9,hv,?_⟩;rw[hlen,Nat.zero_add] at hs;exact hK r9 rs n rm1 now1 X1 w hn1 hR (by exact Ab.fin hs)
theorem kn{Q:World->Prop}(hs:Ab W w L)(hQ:∀w,Ab W w L->Q w):call1 .bool PR 12 [] (λx w'=>(Value.bool x = .b true/\Q w')) w:=Ag (Aqb hs) λv w ⟨hv,hs⟩=>⟨_,hv,rfl,hQ w hs⟩
end
end Go.Proofs.YtjipofkjmmpjdaaGreat
namespace Go.Proofs.YtjipofkjmmpjdaaGreat
open Go.Hb Go.IntWalk
section
variable{W w:World}{L M:List HP}{b k m:Nat}{rm now:Int}{X:List Sh}
abbrev shP(q k:Nat)(rm:Int)(z:Sh):HP:=sd q rm (600000*k) z.1 z.2.1 z.2.2
theorem Ab5{s:Nat}{z:Sh}{K:OA->WP}(hz:X[s]? = some z)(hs:Ab W w (Fy b k rm now X::M))
  (hK:∀(q:Nat)(R:List HP)(w:World),Ab W w (shP q k rm z::R)->(∀w,Ab W w (shP q k rm z::R)->Ab W w (Fy b k rm now X::M))->(∀w E,Ab W w (shP q k rm z::E::R)->Ab W w (Fy b k rm now X::E::M))->K (some ⟨q,0,none⟩) w) :
  call1 .ptr PR 19 [pq b 0,.i (s:Int)] K w:=by
 obtain⟨sl,p,ch,Ls,hi,hX,hl,hn,hs⟩:=Dm hs;have hlt:s<Ls.length:=by have:=(List.getElem?_eq_some_iff.1 hz).1;omega
 refine Ag (Vf hn hs) λv w ⟨hv,hs⟩=>?_;rcases hv with⟨hno,hv⟩|⟨j,hj,hjn,hv⟩
 ·exact absurd ⟨by omega,by omega⟩ hno
 have hjs:j=s:=by omega
 subst hjs;refine⟨_,hv,?_⟩;have hez:(Ls[j]).2=z:=by
  have h1:=hz;rw[<- hX,List.getElem?_map,List.getElem?_eq_getElem hj] at h1;simpa using h1
 subst hez;have hs:Ab W w (AF (Ls.map (CO rm (600000*k)))::cB b sl p ch now::recs Rec.ptr sl (Ls.map λz=>z.1)::E7 p k::Fo ch k::M):=by exact Ab.fin hs
 have hs:=KG hj hs;refine hK (Ls[j]).1 _ w hs (λw hs=>?_) (λw E hs=>?_)
 ·have hs:=Hn (f:=CO rm (600000*k)) hj hs;exact Ch (sl:=sl) (p:=p) (ch:=ch) (m1:=k) (m2:=k) (m3:=600000*k) hi hX (Nat.le_refl _) (Nat.le_refl _) (Nat.le_refl _) (by exact Ab.fin hs)
 ·have hs:=Hn (f:=CO rm (600000*k)) hj (hs.perm (List.Perm.cons _ (List.Perm.swap _ _ _)));exact Ch (sl:=sl) (p:=p) (ch:=ch) (m1:=k) (m2:=k) (m3:=600000*k) hi hX (Nat.le_refl _) (Nat.le_refl _) (Nat.le_refl _) (by exact Ab.fin hs)
theorem Aqo{x c:Int}{n:Nat}(hc:(BitVec.ofInt 64 c).toNat=n)(hn:n<=2000):∃y:Nat,bits .and .i64 x c=(y:Int)/\y<=n:=by
 have hle:(BitVec.ofInt 64 x &&& BitVec.ofInt 64 c).toNat<=n:=by
  rw[BitVec.toNat_and,hc];exact Nat.and_le_right
 refine⟨(BitVec.ofInt 64 x &&& BitVec.ofInt 64 c).toNat,?_,hle⟩;show IntKind.i64.wrap ((BitVec.ofInt 64 x &&& BitVec.ofInt 64 c).toNat:Int)=_;exact i64_in _ (by omega)
end
end Go.Proofs.YtjipofkjmmpjdaaGreat
namespace Go.Hb
open Go.Proofs.YtjipofkjmmpjdaaGreat
section
variable{rm now rm' now':Int}{X X':List Sh}{o:JY}{e:Int}{h:Bool}{v:BA}{gone:BL}{key:BA}
structure TE(now:Int)(X:List Sh):Prop where
 tok:∀z∈X,Jy z.1
 home:∀(i:Nat)(z:Sh),X[i]? = some z->∀key∈kT z.1,By X.length key=i
 good:∀z∈X,∀key∈kT z.1,E4 key=true/\(EB z.1 key now).2=true
theorem TE.new{n:Nat}{kd:Int}:TE now (List.replicate n ([],kd,none)):=⟨λz hz=>by rw[List.eq_of_mem_replicate hz];exact⟨by simp[BQ,DP],by simp,by simp⟩,λi z hz key hk=>by
 rw[List.eq_of_mem_replicate (List.mem_of_getElem? hz)] at hk;simp[kT] at hk,λz hz key hk=>by rw[List.eq_of_mem_replicate hz] at hk;simp[kT] at hk⟩
theorem LA.clock(hD:LA rm now X o e h v gone rm' now' X'):now'=now\/∀(i:Nat)(z:Sh),X[i]? = some z->∃z',X'[i]? = some z'/\z'.1=AB z.1 (Cm z.1 now'):=by
 cases hD with
 | tick hk h0 h1 hF=>exact .inr λi z hz=>by obtain⟨z',a,b⟩:=hF.get hz;exact⟨z',a,b.1⟩
 | _=>exact .inl rfl
theorem Aqy{T:TT}(ht:Jy T)(hk:key∈kT T)(hd:key∉Cm T now):(EB T key now).2=true:=by
 obtain⟨u,hu⟩:=Option.isSome_iff_exists.1 (FS.1 hk);unfold EB;rw[hu];have hm:=(Bz ht.rise.nodup).1 hu
 by_cases ho:ID u.2 now=true
 ·refine absurd ?_ hd;unfold Cm;exact List.mem_map.2 ⟨(key,u),List.mem_filter.2 ⟨hm,ho⟩,rfl⟩
 ·simp[ho]
theorem Axk{T:TT}{val:BA}{life:Int}(ht:Jy T)(he:Fe key val now life=0):Jy (F5 T key val now life):=by
 obtain⟨hk,_,h0,h1,h2,_⟩:=HV he;have hs:=Dg hk;unfold F5;rw[if_pos he];refine⟨Hp ht.rise,λe h=>?_,λe h=>?_⟩
 ·rcases I9 ht.rise h with h|rfl
  ·exact ht.small e h
  ·show key.size<_;omega
 ·rcases I9 ht.rise h with h|rfl
  ·exact ht.ends e h
  ·show 0<=FK now life;unfold FK;split <;> omega
theorem TE.next(hi:TE now X)(hD:LA rm now X o e h v gone rm' now' X'):TE now' X':=by
 obtain⟨hl,ht⟩:=hD.tab;have back:∀(i:Nat)(z':Sh),X'[i]? = some z'->∃z,X[i]? = some z/\A22 X.length now o i z z':=by
  intro i z' hz';have hlt:=(List.getElem?_eq_some_iff.1 hz').1;obtain⟨z2,h2,h3⟩:=ht i _ (List.getElem?_eq_getElem (by omega));rw[hz'] at h2;cases h2;exact⟨_,List.getElem?_eq_getElem (by omega),h3⟩
 have put:∀{T:TT}{x:BA},Jy T->Fe o.key o.val now o.n=0->x∈kT (F5 T o.key o.val now o.n)->(x=o.key/\E4 x=true/\(EB (F5 T o.key o.val now o.n) x now).2=true)\/(x≠o.key/\x∈kT T/\EB (F5 T o.key o.val now o.n) x now=EB T x now):=by
  intro T x hT he hx;obtain⟨hk,_,h0,h1,h2,_⟩:=HV he;have hov:ID (FK now o.n) now=false:=by
   unfold ID FK;refine decide_eq_false λh=>?_;split at h <;> omega
  unfold F5 at hx ⊢;rw[if_pos he] at hx ⊢
  by_cases hxk:x=o.key
  ·refine .inl ⟨hxk,by rw[hxk];exact hk,?_⟩;unfold EB;rw[OH hT.rise,if_pos hxk.symm];simp[hov]
  ·refine .inr ⟨hxk,?_,Ge (by rw[OH hT.rise,if_neg λh=>hxk h.symm])⟩;rcases(Aax hT.rise).1 hx with h|h
   ·exact h
   ·exact absurd h hxk
 refine⟨λz' hz'=>?_,λi z' hz' key hk=>?_,λz' hz' key hk=>?_⟩
 ·obtain⟨i,hil,rfl⟩:=List.mem_iff_getElem.1 hz';obtain⟨z,hz,hT⟩:=back i _ (List.getElem?_eq_getElem hil);have htk:=hi.tok z (List.mem_of_getElem? hz);rcases hT with⟨g,hg⟩|⟨_,_,he,g,hg⟩
  ·rw[hg];exact CH htk
  ·rw[hg];exact Axk (CH htk) he
 ·obtain⟨z,hz,hT⟩:=back i z' hz';have htk:=hi.tok z (List.mem_of_getElem? hz);rw[hl];rcases hT with⟨g,hg⟩|⟨_,hix,he,g,hg⟩
  ·rw[hg] at hk;exact hi.home i z hz key ((EV htk.rise).1 hk).1
  ·rw[hg] at hk;rcases put (CH htk) he hk with⟨h1,_⟩|⟨_,h2,_⟩
   ·rw[h1];exact hix.symm
   ·exact hi.home i z hz key ((EV htk.rise).1 h2).1
 ·obtain⟨i,hil,rfl⟩:=List.mem_iff_getElem.1 hz';obtain⟨z,hz,hT⟩:=back i _ (List.getElem?_eq_getElem hil);have hzm:=List.mem_of_getElem? hz;have htk:=hi.tok z hzm;rcases hD.clock with hn|hn
  ·subst hn;rcases hT with⟨g,hg⟩|⟨_,hix,he,g,hg⟩
   ·rw[hg] at hk ⊢;obtain⟨h1,h2⟩:=(EV htk.rise).1 hk;obtain⟨h3,h4⟩:=hi.good z hzm key h1;exact⟨h3,by rw[Ge ((EU htk.rise).2 h2)];exact h4⟩
   ·rw[hg] at hk ⊢;rcases put (CH htk) he hk with⟨_,h2,h3⟩|⟨_,h2,h3⟩
    ·exact⟨h2,h3⟩
    ·obtain⟨h1,h4⟩:=(EV htk.rise).1 h2;obtain⟨h5,h6⟩:=hi.good z hzm key h1;exact⟨h5,by rw[h3,Ge ((EU htk.rise).2 h4)];exact h6⟩
  ·obtain⟨z2,h2,h3⟩:=hn i z hz;rw[List.getElem?_eq_getElem hil] at h2;cases h2;rw[h3] at hk ⊢;obtain⟨h1,h4⟩:=(EV htk.rise).1 hk;exact⟨(hi.good z hzm key h1).1,by rw[Ge ((EU htk.rise).2 h4)];exact Aqy htk h1 h4⟩
theorem TE.run{os:List JY}{rs:List Ans}(hi:TE now X)(hR:QW rm now X os rs rm' now' X'):TE now' X'/\X'.length=X.length:=by
 induction hR with
 | nil=>exact⟨hi,rfl⟩
 | snoc _ hD _ ih=>exact⟨ih.1.next hD,by rw[hD.tab.1];exact ih.2⟩
def tabs(X:List Sh):List TT:=X.map (·.1)
end
end Go.Hb
namespace Go.Hb
open Go.Proofs.YtjipofkjmmpjdaaGreat
def YT:Rec Sl:=⟨1,λs=>[.l s.a s.n s.c],λ_=>rfl⟩
instance:Inhabited Sl:=⟨⟨none,0,0⟩⟩
instance:GG YT:=⟨Nat.one_pos⟩
abbrev kyH(p:Sl×BL):HP:=recs Rec.str p.1 p.2
section
variable{rm now rm' now':Int}{X X' Y:List Sh}{o:JY}{e:Int}{h:Bool}{v:BA}{gone:BL}{s:Nat}{z:Sh}{kd:Int}
theorem LA.step_inv(ho:o.kind=6)(hn:o.n=(s:Int))(hz:X[s]? = some z)(hD:LA rm now X o e h v gone rm' now' X'):∃q,Jj q z.2.2/\(∀m,q=some m->m<=z.1.length)/\rm'=rm/\now'=now/\X'=X.set s (z.1,z.2.1,Hk q):=by
 have hlt:=(List.getElem?_eq_some_iff.1 hz).1;cases hD with
 | no he hN=>exact absurd ⟨by omega,by omega⟩ (hN.n6 ho)
 | @step h v i T kd p q hk hn2 hT hoq hle=>
  have e1:i=s:=by omega
  subst e1;rw[hz] at hT;cases hT;exact⟨q,hoq,hle,rfl,rfl,rfl⟩
 | get h1=>omega
 | put h1=>omega
 | del h1=>omega
 | tick h1=>omega
 | drain h1=>omega
 | epoch h1=>omega
 | force h1=>omega
 | res h1=>omega
theorem LA.force_inv(ho:o.kind=8)(h5:0<=o.n/\o.n<5)(hD:LA rm now X o e h v gone rm' now' X'):F2 (swR o.n) X X'/\rm'=rm/\now'=now:=by
 cases hD with
 | no he hN=>exact absurd h5 (hN.n8 ho)
 | force hk h1 hF=>exact⟨hF,rfl,rfl⟩
 | get h1=>omega
 | put h1=>omega
 | del h1=>omega
 | tick h1=>omega
 | drain h1=>omega
 | epoch h1=>omega
 | step h1=>omega
 | res h1=>omega
theorem Ap8(hz:X[s]? = some z)(k:Int)(q:Option Nat):tabs (X.set s (z.1,k,q))=tabs X:=by
 obtain⟨hlt,he⟩:=List.getElem?_eq_some_iff.1 hz;unfold tabs;rw[List.map_set];refine List.ext_getElem (by simp) λj h1 h2=>?_;rw[List.getElem_set];split
 ·rename_i hj;subst hj;rw[List.getElem_map,he]
 ·rfl
theorem F2.tabs{k:Int}(hF:F2 (swR k) X X'):tabs X'=tabs X/\∀z∈X',z.2.1=k:=by
 induction hF with
 | nil=>exact⟨rfl,by simp⟩
 | cons hr _ ih=>
  refine⟨?_,?_⟩
  ·have h1:=ih.1;unfold Go.Hb.tabs at h1 ⊢;rw[List.map_cons,List.map_cons,h1,hr.1]
  ·intro z hz;rcases List.mem_cons.1 hz with rfl|hz
   ·exact hr.2.1
   ·exact ih.2 z hz
def Stp(j:Nat)(z:Sh):Prop:=j=0\/∀m,z.2.2=some m->m+j<=z.1.length
theorem Stp.next{j:Nat}{q:Option Nat}(hS:Stp j z)(ho:Jj q z.2.2)(hle:∀m,q=some m->m<=z.1.length):Stp (j+1) (z.1,z.2.1,Hk q):=by
 refine .inr λm hm=>?_;have hm:Hk q=some m:=hm;show m+(j+1)<=z.1.length;cases q with
 | none=>simp[Hk] at hm
 | some n=>
  cases n with
  | zero=>simp[Hk] at hm
  | succ n=>
   simp[Hk] at hm;subst hm;have h1:=hle _ rfl;rcases hS with rfl|hS
   ·omega
   ·cases hp:z.2.2 with
    | none=>rw[hp] at ho;exact ho.elim
    | some p=>
     rw[hp] at ho;have h2:=hS p hp;have ho:n+1<=p:=ho;omega
theorem Stp.done(hS:Stp (z.1.length+1) z):z.2.2.isSome=false:=by
 rcases hS with h|h
 ·omega
 ·cases hp:z.2.2 with
  | none=>rfl
  | some m=>have:=h m hp;omega
end
end Go.Hb
namespace Go.Proofs.YtjipofkjmmpjdaaGreat
open Go.Hb Go.IntWalk
section
variable{W w:World}{L M:List HP}{s0 s1 tp in10 a0 b0:Sl}{ops:List JY}{tos tape:List Int}{c0 c1 c2 c3 c4 c5 c6:Int}{b b1 k m2 m5 n:Nat}{rm now i9 kd:Int}{X:List Sh}{Q:VW}{r:BL}{P:List (Sl×BL)}
theorem Aqd[h1:Lg W L a0 Rec.str r][h2:Lg W L b0 Rec.str r](hr:r.length<1000000)(hs:Ab W w L):AZ PR 23 #[.l a0.a a0.n a0.c,.l b0.a b0.n b0.c] w λv w'=>v = .b true/\Ab W w' L:=by
 refine cw ⟨mixed,Tryz.func23,rfl⟩ Asq ?_;have e1:=Bg (s:=a0) (E:=Rec.str) (rows:=r) hs;have e2:=Bg (s:=b0) (E:=Rec.str) (rows:=r) hs;refine Ac (by rw[e1,e2];simp) ?_
 have loop:∀(f i:Nat)(w:World),i+f=r.length->Ab W w L->Un Be (λv w'=>v = .b true/\Ab W w' L) (f+1) a0 b0 (i:Int) w:=by
  intro f
  induction f with
  | zero=>
   intro i w hi hs;rw[Pi];refine Ac (decide_eq_false (by omega)) ?_;refine jw Z8 ?_;exact⟨rfl,hs⟩
  | succ f ih=>
   intro i w hi hs;rw[Pi];refine Ak (decide_eq_true (by omega)) ?_;refine A9 hs λw hs=>?_;refine BU (s:=a0) (E:=Rec.str) (rows:=r) hs λb_ o_ ha_=>?_;refine Vj (s:=a0) (E:=Rec.str) (rows:=r) ha_ ?_ (hc:=rfl);refine BU (s:=b0) (E:=Rec.str) (rows:=r) hs λb_ o_ hb_=>?_;refine Cw (s:=b0) (E:=Rec.str) (rows:=r) hb_ hs (AW hs ?_) (hc:=rfl);refine Ac (by rw[Q7];simp) ?_
   rw[show IntKind.wrap .i64 ((i:Int)+1)=((i+1:Nat):Int) by rw[i64_in _ (by omega)];omega];exact ih (i+1) w (by omega) hs
 exact AJ _ (loop r.length 0 w (by omega) hs)
abbrev inM(b1:Nat)(c0 c1 c2 c3 c4 c5 c6:Int)(tp in10:Sl)(P:List (Sl×BL))(W:World):List HP:=[recs YT in10 (P.map λp:Sl×BL=>p.1),AF (P.map kyH),cfB b1 c0 c1 c2 c3 c4 c5 c6 tp,old W]
structure PI(P:List (Sl×BL))(X:List Sh):Prop where
 len:P.length=X.length
 ns:∀p∈P,p.1.n=p.2.length
 keys:∀(i:Nat)(p:Sl×BL),P[i]? = some p->∃z,X[i]? = some z/\p.2=kT z.1
theorem PI.at_{i:Nat}{z:Sh}(h:PI P X)(hz:X[i]? = some z):∃(hi:i<P.length),(P[i]).2=kT z.1/\(P[i]).1.n=z.1.length:=by
 have hlt:=(List.getElem?_eq_some_iff.1 hz).1;have hi:i<P.length:=by have:=h.len;omega
 obtain⟨z',hz',hk⟩:=h.keys i _ (List.getElem?_eq_getElem hi);rw[hz] at hz';cases hz';refine⟨hi,hk,?_⟩;rw[h.ns _ (List.getElem_mem hi),hk];unfold kT;rw[List.length_map]
theorem PI.congr{X':List Sh}(h:PI P X)(ht:tabs X'=tabs X):PI P X':=by
 have hl:X'.length=X.length:=by have:=congrArg List.length ht;simpa[tabs] using this
 refine⟨by rw[h.len,hl],h.ns,λi p hp=>?_⟩;obtain⟨z,hz,hk⟩:=h.keys i p hp;have h1:=congrArg (·[i]?) ht;simp only[tabs,List.getElem?_map,hz,Option.map_some] at h1;cases hx:X'[i]? with
 | none=>rw[hx] at h1;simp at h1
 | some z'=>
  rw[hx] at h1;have h2:z'.1=z.1:=by simpa using h1
  exact⟨z',rfl,by rw[hk,h2]⟩
theorem UY{i:Nat}(hi:i<P.length):(YT.cells ((P.map λp:Sl×BL=>p.1).getD (Int.toNat (i:Int)) default))[0]? = some (CK.slc.val (P[i]).1):=by
 rw[Int.toNat_natCast,List.getD_eq_getElem?_getD,List.getElem?_map,List.getElem?_eq_getElem hi];rfl
theorem Ao8{s:Nat}(hk:∀z∈X,z.2.1=kd)(hPI:PI P X)(hs8:s<X.length)(hB:k<700000)
  (hJ:∀(k':Nat)(X':List Sh)(w:World),k'<=k+1025->tabs X'=tabs X->(∀z∈X',z.2.1=kd)->(∀z,X'[s]? = some z->z.2.2.isSome=false)->Ab W w (Fy b k' rm now X'::inM b1 c0 c1 c2 c3 c4 c5 c6 tp in10 P W)->Ant Be Q m2 m5 s1 b1 0 (some ⟨b,0,none⟩) i9 in10 (s:Int) w) :
  ∀(f j k':Nat)(X':List Sh)(w:World),j+f=(X[s]).1.length+1->k'=k+j->tabs X'=tabs X->(∀z∈X',z.2.1=kd)->(∀z,X'[s]? = some z->Stp j z)->Ab W w (Fy b k' rm now X'::inM b1 c0 c1 c2 c3 c4 c5 c6 tp in10 P W)->Adp Be Q m2 m5 (f+1) s1 b1 0 (some ⟨b,0,none⟩) i9 in10 (s:Int) (j:Int) w:=by
 obtain⟨hi,hpk,hpn⟩:=hPI.at_ (List.getElem?_eq_getElem hs8);intro f;have pre:∀(k':Nat)(X':List Sh)(w:World)(M:List HP),tabs X'=tabs X->Ab W w (Fy b k' rm now X'::M)->(X[s]).1.length<=1024/\∃z',X'[s]? = some z'/\z'.1=(X[s]).1:=by
  intro k' X' w M ht hs;have hok:=Jz hs;have h1:=congrArg (·[s]?) ht;simp only[tabs,List.getElem?_map,List.getElem?_eq_getElem hs8,Option.map_some] at h1;cases hx:X'[s]? with
  | none=>rw[hx] at h1;simp at h1
  | some z'=>
   rw[hx] at h1;have e:z'.1=(X[s]).1:=by simpa using h1
   have h2:=(hok.2 z' (List.mem_of_getElem? hx)).1;have h3:=h2.len;have h4:=h2.c2
   rw[e] at h3;exact⟨by omega,z',rfl,e⟩
 have hil:(P.map λp:Sl×BL=>p.1).length=P.length:=by rw[List.length_map]
 induction f with
 | zero=>
  intro j k' X' w hj hk' ht hkd hS hs;obtain⟨hle,z',hz',he'⟩:=pre _ _ _ _ ht hs;have hn:=Bg (s:=in10) (E:=YT) (rows:=P.map λp:Sl×BL=>p.1) hs;rw[SK];refine BU (s:=in10) (E:=YT) (rows:=P.map λp:Sl×BL=>p.1) hs λb_ o_ ha_=>?_;refine Cw (s:=in10) (E:=YT) (rows:=P.map λp:Sl×BL=>p.1) ha_ hs ?_ (k:=.slc) (x:=(P[s]).1) (hc:=UY hi);refine Ac (decide_eq_false (by omega)) ?_;refine hJ k' X' w (by omega) ht hkd (λz hz=>?_) hs;have h1:=hS z hz;rw[hz'] at hz;cases hz;rw[show j=z'.1.length+1 by rw[he'];omega] at h1
  exact h1.done
 | succ f ih=>
  intro j k' X' w hj hk' ht hkd hS hs;obtain⟨hle,z',hz',he'⟩:=pre _ _ _ _ ht hs;have hn:=Bg (s:=in10) (E:=YT) (rows:=P.map λp:Sl×BL=>p.1) hs;rw[SK];refine BU (s:=in10) (E:=YT) (rows:=P.map λp:Sl×BL=>p.1) hs λb_ o_ ha_=>?_;refine Cw (s:=in10) (E:=YT) (rows:=P.map λp:Sl×BL=>p.1) ha_ hs ?_ (k:=.slc) (x:=(P[s]).1) (hc:=UY hi);refine Ak (decide_eq_true (by omega)) ?_;refine Calls.mono (Aog (o:=⟨6,⟨#[]⟩,⟨#[]⟩,(s:Int)⟩) (show(ByteArray.mk #[]).size<4611686018427387904 by decide) (by omega) hs) λe_ w ⟨v,he,e,h,x,sg,gone,rm2,now2,X2,hv,hD,hs⟩=>⟨e,h,x,sg,by rw[he,hv],?_⟩
  obtain⟨q,hq1,hq2,e2,e3,e4⟩:=hD.step_inv (o:=⟨6,⟨#[]⟩,⟨#[]⟩,(s:Int)⟩) rfl rfl hz';rw[e2,e3] at hs;rw[show IntKind.wrap .i64 ((j:Int)+1)=((j+1:Nat):Int) by rw[i64_in _ (by omega)];omega]
  have hlt:=(List.getElem?_eq_some_iff.1 hz').1;refine ih (j+1) (k'+1) X2 w (by omega) (by omega) ?_ ?_ ?_ (by exact Ab.fin hs)
  ·rw[e4,Ap8 hz'];exact ht
  ·rw[e4];intro z hz;rcases List.mem_or_eq_of_mem_set hz with h1|rfl
   ·exact hkd z h1
   ·exact hkd z' (List.mem_of_getElem? hz')
  ·rw[e4];intro z hz;rw[List.getElem?_set_self hlt] at hz;cases hz;exact(hS z' hz').next hq1 hq2
end
end Go.Proofs.YtjipofkjmmpjdaaGreat
namespace Go.Proofs.YtjipofkjmmpjdaaGreat
open Go.Hb Go.IntWalk
section
variable{W w:World}{s0 s1 tp in10:Sl}{ops:List JY}{tos tape:List Int}{c0 c1 c2 c3 c4 c5 c6:Int}{b b1 k m2 m5 n i:Nat}{rm now kd:Int}{X:List Sh}{Q:VW}{P:List (Sl×BL)}
abbrev toK(tos:List Int)(i:Nat):Int:=Int.tmod (bits .and .i64 (tos.getD i default) 1023) 5
theorem A2m:0<=toK tos i/\toK tos i<5:=by
 obtain⟨y,hy,hy2⟩:=Aqo (x:=tos.getD i default) (c:=1023) (n:=1023) rfl (by decide);unfold toK;rw[hy,show Int.tmod (y:Int) 5=((y % 5:Nat):Int) from rfl];omega
theorem Ao4[hr1:CG W s1 (Rec.int .i64) tos]{s:Nat}{z:Sh}(hit:i<tos.length)(hz:X[s]? = some z)(hPI:PI P X)(hkd:z.2.1=toK tos i)(hmv:z.2.2.isSome=false)
  (hJ:∀w:World,Ab W w (Fy b k rm now X::inM b1 c0 c1 c2 c3 c4 c5 c6 tp in10 P W)->Ayn Be Q m2 m5 s1 b1 0 (some ⟨b,0,none⟩) (i:Int) in10 (s:Int) w)
  (hs:Ab W w (Fy b k rm now X::inM b1 c0 c1 c2 c3 c4 c5 c6 tp in10 P W)):Ant Be Q m2 m5 s1 b1 0 (some ⟨b,0,none⟩) (i:Int) in10 (s:Int) w:=by
 obtain⟨hi,hpk,hpn⟩:=hPI.at_ hz;have hil:(P.map λp:Sl×BL=>p.1).length=P.length:=by rw[List.length_map]
 have e1:=hr1.len;have hzl:z.1.length<=1024:=by
  have h2:=((Jz hs).2 z (List.mem_of_getElem? hz)).1;have h3:=h2.len;have h4:=h2.c2
  omega
 refine jw Af6 ?_;refine A9 hs λw hs=>?_;refine Ab5 hz hs λq R w hs back back1=>?_;refine AW (back w hs) ?_;refine Ag (Ahn hs) λv w ⟨hv,hs⟩=>⟨_,hv,?_⟩;have hs:=back w hs;refine AW hs ?_;refine Ac hmv ?_;have hn:=Bg (s:=in10) (E:=YT) (rows:=P.map λp:Sl×BL=>p.1) hs;refine BU (s:=in10) (E:=YT) (rows:=P.map λp:Sl×BL=>p.1) hs λb_ o_ ha_=>?_;refine Vj (s:=in10) (E:=YT) (rows:=P.map λp:Sl×BL=>p.1) ha_ ?_ (k:=.slc) (x:=(P[s]).1) (hc:=UY hi);refine Ab5 hz hs λq R w hs back back1=>?_;refine AW (back w hs) ?_
 refine Ag (Aeg hs) λv w ⟨sl,hv,hs⟩=>⟨sl,hv,?_⟩;have hs:=back1 w _ hs;refine AW (by exact Ab.fin hs) ?_;have hs:Ab W w (AF (P.map kyH)::recs Rec.str sl (kT z.1)::Fy b k rm now X::recs YT in10 (P.map λp:Sl×BL=>p.1)::cfB b1 c0 c1 c2 c3 c4 c5 c6 tp::[old W]):=by exact Ab.fin hs
 have hs:=KG hi hs;have hs:Ab W w (recs Rec.str (P[s]).1 (kT z.1)::AF ((P.eraseIdx s).map kyH)::recs Rec.str sl (kT z.1)::Fy b k rm now X::recs YT in10 (P.map λp:Sl×BL=>p.1)::cfB b1 c0 c1 c2 c3 c4 c5 c6 tp::[old W]):=by rw[<- hpk];rw[<- hpk] at hs;exact hs
 refine Ag (Aqd (r:=kT z.1) (by unfold kT;rw[List.length_map];omega) hs) λv w ⟨hv,hs⟩=>⟨_,hv,?_⟩;have hs:Ab W w (kyH P[s]::AF ((P.eraseIdx s).map kyH)::recs Rec.str sl (kT z.1)::Fy b k rm now X::recs YT in10 (P.map λp:Sl×BL=>p.1)::cfB b1 c0 c1 c2 c3 c4 c5 c6 tp::[old W]):=by rw[<- hpk] at hs ⊢;exact hs
 have hs:=Hn (f:=kyH) hi hs;have hs:Ab W w (Fy b k rm now X::inM b1 c0 c1 c2 c3 c4 c5 c6 tp in10 P W):=by exact Ab.fin hs
 refine AW hs (Ac rfl ?_);refine BU (s:=s1) (E:=Rec.int .i64) (rows:=tos) hs λb_ o_ hb_=>?_;refine Vj (s:=s1) (E:=Rec.int .i64) (rows:=tos) hb_ ?_ (hc:=rfl);refine Aw (by decide) ?_;refine Ab5 hz hs λq R w hs back back1=>?_;refine AW (back w hs) ?_;refine Ag (Axv hs) λv w ⟨hv,hs⟩=>⟨_,hv,?_⟩;have hs:=back w hs;refine AW hs (Ac ?_ (hJ w hs));rw[hkd,Int.toNat_natCast];show(toK tos i != toK tos i)=false;simp
theorem Ao7[hr1:CG W s1 (Rec.int .i64) tos](hit:i<tos.length)(hc0:c0=(X.length:Int))(h8:X.length<=8)(hPI:PI P X)(hB:k<600000)
  (hJ:∀(k':Nat)(X':List Sh)(w:World),k'<=k+9000->tabs X'=tabs X->Ab W w (Fy b k' rm now X'::inM b1 c0 c1 c2 c3 c4 c5 c6 tp in10 P W)->Ayo Be Q m2 s1 b1 0 (some ⟨b,0,none⟩) (i:Int) w) :
  ∀(f s k':Nat)(X':List Sh)(w:World),s+f=X.length->k'<=k+1025*s->tabs X'=tabs X->(∀z∈X',z.2.1=toK tos i)->Ab W w (Fy b k' rm now X'::inM b1 c0 c1 c2 c3 c4 c5 c6 tp in10 P W)->Ado Be Q m2 (f+1) s1 b1 0 (some ⟨b,0,none⟩) (i:Int) in10 (s:Int) w:=by
 intro f
 induction f with
 | zero=>
  intro s k' X' w hsf hk ht hkd hs;rw[SJ];refine Ah hs ?_;refine Ac (decide_eq_false (by omega)) ?_;exact hJ k' X' w (by omega) ht hs
 | succ f ih=>
  intro s k' X' w hsf hk ht hkd hs;rw[SJ];refine Ah hs ?_;refine Ak (decide_eq_true (by omega)) ?_;have hl:X'.length=X.length:=by have:=congrArg List.length ht;simpa[tabs] using this
  have hlt:s<X'.length:=by omega
  have hPI':=hPI.congr ht;refine AJ _ (Ao8 (k:=k') (kd:=toK tos i) hkd hPI' hlt (by omega) (λk2 X2 w hk2 ht2 hkd2 hmv hs=>?_) ((X'[s]).1.length+1) 0 k' X' w (by omega) (by omega) rfl hkd (λz _=>.inl rfl) hs);have hl2:X2.length=X'.length:=by have:=congrArg List.length ht2;simpa[tabs] using this
  have hlt2:s<X2.length:=by omega
  have hz2:=List.getElem?_eq_getElem hlt2;refine Ao4 hit hz2 (hPI'.congr ht2) (hkd2 _ (List.getElem_mem hlt2)) (hmv _ hz2) (λw hs=>?_) hs;refine jw Af7 ?_;rw[show IntKind.wrap .i64 ((s:Int)+1)=((s+1:Nat):Int) by rw[i64_in _ (by omega)];omega]
  exact ih (s+1) k2 X2 w (by omega) (by omega) (ht2.trans ht) hkd2 hs
theorem Ao6{i9:Int}(hc0:c0=(X.length:Int))(h8:X.length<=8)
  (hJ:∀(in10:Sl)(P:List (Sl×BL))(w:World),PI P X->Ab W w (Fy b k rm now X::inM b1 c0 c1 c2 c3 c4 c5 c6 tp in10 P W)->Aym Be Q m2 s1 b1 0 (some ⟨b,0,none⟩) i9 in10 w) :
  ∀(f s:Nat)(in10:Sl)(P:List (Sl×BL))(w:World),s+f=X.length->P.length=s->(∀p∈P,p.1.n=p.2.length)->(∀(i:Nat)(p:Sl×BL),P[i]? = some p->∃z,X[i]? = some z/\p.2=kT z.1)->Ab W w (Fy b k rm now X::inM b1 c0 c1 c2 c3 c4 c5 c6 tp in10 P W)->Adn Be Q m2 (f+1) s1 b1 0 (some ⟨b,0,none⟩) i9 in10 (s:Int) w:=by
 intro f
 induction f with
 | zero=>
  intro s in10 P w hsf hP hns hky hs;rw[SI];refine Ah hs ?_;refine Ac (decide_eq_false (by omega)) ?_;exact hJ in10 P w ⟨by omega,hns,hky⟩ hs
 | succ f ih=>
  intro s in10 P w hsf hP hns hky hs;rw[SI];refine Ah hs ?_;refine Ak (decide_eq_true (by omega)) ?_;have hlt:s<X.length:=by omega
  have hz:=List.getElem?_eq_getElem hlt;refine Ab5 hz hs λq R w hs back back1=>?_;refine Ag (Aeg hs) λv w ⟨sl,hv,hs⟩=>⟨sl,hv,?_⟩;have hs:=back1 w _ hs;have hsl:=Bg (s:=sl) (E:=Rec.str) (rows:=kT (X[s]).1) hs;refine Ai hs λnb w hs=>?_;refine CA (s:=in10) (a:=sl) hs rfl rfl rfl rfl (by decide) (by rw[List.length_map];omega) λs5 w hs5 hs=>?_
  have hs:Ab W w (kyH (sl,kT (X[s]).1)::AF (P.map kyH)::Fy b k rm now X::recs YT s5 ((P.map λp:Sl×BL=>p.1)++[sl])::cfB b1 c0 c1 c2 c3 c4 c5 c6 tp::[old W]):=by exact Ab.fin hs
  have hs:=Gb hs;rw[show(P.map λp:Sl×BL=>p.1)++[sl]=(P++[(sl,kT (X[s]).1)]).map λp:Sl×BL=>p.1 by simp] at hs;rw[show IntKind.wrap .i64 ((s:Int)+1)=((s+1:Nat):Int) by rw[i64_in _ (by omega)];omega]
  refine ih (s+1) s5 (P++[(sl,kT (X[s]).1)]) w (by omega) (by simp[hP]) (λp hp=>?_) (λi p hp=>?_) (by exact Ab.fin hs)
  ·rcases List.mem_append.1 hp with h|h
   ·exact hns p h
   ·rw[List.mem_singleton] at h;rw[h];exact hsl
  ·by_cases hi:i<P.length
   ·rw[List.getElem?_append_left hi] at hp;exact hky i p hp
   ·have hil:=(List.getElem?_eq_some_iff.1 hp).1;rw[List.length_append,List.length_singleton] at hil;have hie:i=P.length:=by omega
    subst hie;rw[List.getElem?_append_right (Nat.le_refl _),Nat.sub_self] at hp;cases hp;exact⟨X[s],by rw[hP];exact hz,rfl⟩
theorem Ao5[hr1:CG W s1 (Rec.int .i64) tos](h6:tos.length<=8){sh:Nat}(hc0:c0=(sh:Int)) :
  ∀(f i k:Nat)(rm now:Int)(X:List Sh)(w:World),i+f=tos.length->k<=200+20000*i->X.length=sh->Ab W w (Fy b k rm now X::cfB b1 c0 c1 c2 c3 c4 c5 c6 tp::[old W])->Adm Be (λv w'=>v = .b true/\Ab W w' [old W]) (f+1) s1 b1 0 (some ⟨b,0,none⟩) (i:Int) w:=by
 have e1:=hr1.len;intro f
 induction f with
 | zero=>
  intro i k rm now X w hif hk hl hs;rw[SH];refine Ac (decide_eq_false (by omega)) ?_;refine jw Aae ?_;exact kn hs λw hs=>hs.drop.drop
 | succ f ih=>
  intro i k rm now X w hif hk hl hs;have h8:=(Jz hs).1.sh8;rw[SH];refine Ak (decide_eq_true (by omega)) ?_;have hit:i<tos.length:=by omega
  have hs:=Ab.nilR YT hs;have hs:=Hm (f:=kyH) hs;refine AJ _ (Ao6 (c0:=c0) (X:=X) (by omega) h8 (λin10 P w hPI hs=>?_) X.length 0 ⟨none,0,0⟩ [] w (by omega) rfl (by simp) (by simp) (by exact Ab.fin hs));refine jw Af5 ?_;refine BU (s:=s1) (E:=Rec.int .i64) (rows:=tos) hs λb_ o_ ha_=>?_;refine Cw (s:=s1) (E:=Rec.int .i64) (rows:=tos) ha_ hs ?_ (hc:=rfl);rw[Int.toNat_natCast];refine Aw (by decide) ?_;refine Calls.mono (Aog (o:=⟨8,⟨#[]⟩,⟨#[]⟩,toK tos i⟩) (show(ByteArray.mk #[]).size<4611686018427387904 by decide) (by omega) hs) λe_ w ⟨v,he,e,h,x,sg,gone,rm2,now2,X2,hv,hD,hs⟩=>⟨e,h,x,sg,by rw[he,hv],?_⟩
  obtain⟨hF,e2,e3⟩:=hD.force_inv (o:=⟨8,⟨#[]⟩,⟨#[]⟩,toK tos i⟩) rfl A2m;obtain⟨ht,hkd⟩:=hF.tabs;have hl2:X2.length=X.length:=by have:=congrArg List.length ht;simpa[tabs] using this
  refine AJ _ (Ao7 (k:=k+1) (c0:=c0) (c1:=c1) (c2:=c2) (c3:=c3) (c4:=c4) (c5:=c5) (c6:=c6) (tp:=tp) (P:=P) (X:=X2) (rm:=rm2) (now:=now2) hit (by omega) (by omega) (hPI.congr ht) (by omega) (λk2 X3 w hk2 ht2 hs=>?_) X2.length 0 (k+1) X2 w (by omega) (by omega) rfl hkd (by exact Ab.fin hs));refine jw Af8 ?_;rw[show IntKind.wrap .i64 ((i:Int)+1)=((i+1:Nat):Int) by rw[i64_in _ (by omega)];omega]
  have hl3:X3.length=X2.length:=by have:=congrArg List.length ht2;simpa[tabs] using this
  exact ih (i+1) k2 rm2 now2 X3 w (by omega) (by omega) (by omega) (by exact Ab.fin hs)
theorem topmoves_walk[hr0:CG W s0 opR ops][hr1:CG W s1 (Rec.int .i64) tos][hrt:CG W tp (Rec.int .u32) tape](hc:s0.n<=s0.c) :
  Calls PR 7 #[.agg #[.i c0,.i c1,.i c2,.i c3,.i c4,.i c5,.i c6,.l tp.a tp.n tp.c],.l s0.a s0.n s0.c,.l s1.a s1.n s1.c] W λe w'=>e = .returned (.b true)/\Ie W w':=by
 have hs:=Ab.begin W;refine A1k (cw ⟨mixed,Tryz.func7,rfl⟩ A0w ?_);have et:=hrt.len;have e1:=hr1.len;refine Ai hs λb1 w hs=>?_;refine Ag (Aqa (s0:=s0) hs) λv w ⟨t,hv,hsz,hs⟩=>⟨_,hv,?_⟩;refine Ap (λh3=>⟨rfl,hs.drop⟩) (λh3=>?_)
 iterate 7 refine Ah hs ?_
 refine Ah (x:=tp) hs ?_;refine Ag (Aqc hs) λv w ⟨t,hv,ht,hs⟩=>⟨_,hv,?_⟩;refine Ap (λh5=>⟨rfl,hs.drop⟩) (λh5=>?_)
 with_reducible refine Ay (λh6=>?_) (λh6=>?_)
 ·exact⟨rfl,hs.drop⟩
 refine jw Af4 ?_
 iterate 7 refine Ah hs ?_
 refine Ah (x:=tp) hs ?_;have htp:=(ht (by simpa using h5)).1;refine AH (Ap9 (tape:=tape) (by omega) hs) λv w h=>?_;rcases h with⟨b,sh,hsh,hv,hs⟩|⟨hv,hs⟩
 rotate_left
 ·exact⟨_,_,hv,Ak rfl (kn hs λw hs=>hs.drop)⟩
 refine⟨_,_,hv,Ac rfl ?_⟩;refine A2n hc (hsz h3) hs λr9 rs n rm1 now1 X1 w hn hR hs=>?_;have hK:=(TE.new (now:=0) (n:=sh) (kd:=c6)).run hR;exact AJ _ (Ao5 (by omega) hsh tos.length 0 n rm1 now1 X1 w (by omega) (by omega) (by rw[hK.2,List.length_replicate]) hs)
end
end Go.Proofs.YtjipofkjmmpjdaaGreat
namespace Go.Hb
open Go.ChangeShapes Go.WideShapes Go.RowKit
section
variable{H:Type}{enc:TypeId×Value->H}{P:Program}{W:World}{sp:Nat->Bool}{held:Bool}{base:Nat}
theorem trod_int{t e:TypeId}{k:IntKind}{cs:List Value}{x:DataW H×List MemPlace}{fuel:Nat}{v:Value}{r:Reach}{b0:Nat}(hcs:cs=[v])(hok:Cell.okWide P W r b0 t v)(ht:P.underlying t=some (.slice e))(he:P.underlying e=some (.int k))(h1:P.cellsOf e=1)(hx:DataW.trod enc P W base sp held fuel t cs=some x)(hlt:HX P t x.1) :
  ∃(s:Sl) (l:List Int),v = .slice s.a s.n s.c/\CG W s (Rec.int k) l:=by
 rcases DataW.trod_slice ht hx with⟨h,_⟩|⟨a',len',cap',elems,rest,n,rfl,h,hd',_,hlc,hcm,hel,hcell,_,_⟩
 ·rw[hcs] at h;simp only[List.cons.injEq,and_true] at h;exact⟨⟨none,0,0⟩,[],h,⟨rfl,.inl ⟨rfl,rfl⟩⟩⟩
 ·subst hd';rw[hcs] at h;simp only[List.cons.injEq,and_true] at h;subst h;have hspot:a'.spot=none:=by
   simp only[ht,Cell.okWide,Cell.ok] at hok;exact hok.2.2.2.1
  have hle:∀y∈elems,HX P e y.1:=λy hy=>Lw (P:=P) (e:=e) (ds:=elems.map (·.1)) (λn hn=>hlt n (by simp only[DataW.weights,ht,List.mem_cons,List.mem_append];exact .inr (.inl hn))) (List.mem_map.2 ⟨y,hy,rfl⟩);obtain⟨rows,hr1,hr2,hr3⟩:=Ap1 (W:=W) (base:=base) (Q:=DN [.int k]) (a:=a') (m:=1) (len:=len') (cap:=cap') Nat.one_pos λi hi=>by
   have h2:=hcell i hi;rw[List.getElem?_eq_getElem (by omega)] at h2;simp only[Option.bind_eq_some_iff] at h2;obtain⟨c,hc,hx⟩:=h2;rw[h1] at hc;exact⟨c,hc,Yj 9 e _ c (by unfold SO;rw[he]) ⟨_,_,hx,hle _ (List.getElem_mem _)⟩⟩
  obtain⟨l,h3,h4,h5⟩:=Qz (Rec.int k) (okK k) of_ik hr2;refine⟨⟨some a',len',cap'⟩,l,rfl,?_⟩;rcases hr3 with h6|h6
  ·have:l=[]:=List.length_eq_zero_iff.1 (by omega);subst this;obtain⟨b,o,spot⟩:=a';simp only at hspot;subst hspot;exact⟨h6,.inr ⟨b,o,rfl,λi j a ha=>by simp at ha⟩⟩
  ·exact CG.of Nat.one_pos (by rw[<- h3];exact h6)
theorem open_cfg{t t0 t7 e7:TypeId}{v:Value}{d:DataW H}{ps:List MemPlace}{r:Reach}{b0:Nat}(ht:Ayr P t=true)(hfs:stF P t=[(t0,0),(t0,1),(t0,2),(t0,3),(t0,4),(t0,5),(t0,6),(t7,7)])
  (h0:P.underlying t0=some (.int .i64)) (h7:P.underlying t7=some (.slice e7)) (he:P.underlying e7=some (.int .u32)) (hce:P.cellsOf e7=1) (hc0:P.cellsOf t0=1) (hc7:P.cellsOf t7=1) (hct:P.cellsOf t=8) (hcell:P.cellTypes P.depth t=some [t0,t0,t0,t0,t0,t0,t0,t7])
  (hval:Value.okWide P W r b0 t v) (hd:DataW.Trod enc P W base sp held t v d ps) (hlt:HX P t d) :
  ∃(c0 c1 c2 c3 c4 c5 c6:Int) (s:Sl) (l:List Int),v = .agg #[.int .i64 c0,.int .i64 c1,.int .i64 c2,.int .i64 c3,.int .i64 c4,.int .i64 c5,.int .i64 c6,.slice s.a s.n s.c]/\okK .i64 c1/\CG W s (Rec.int .u32) l:=by
 obtain⟨fs,hu⟩:∃fs,P.underlying t=some (.struct fs):=by
  unfold Ayr at ht;split at ht
  ·exact⟨_,by assumption⟩
  ·cases ht
 simp only[Value.okWide,hu] at hval;obtain⟨cs,rfl,hsz,ts,hts,_,hcs⟩:=hval;rw[hcell] at hts;cases hts;obtain⟨fuel,hf⟩:=hd;obtain⟨hl,hp⟩:=Ax8 hu hf hlt;rw[hct] at hl hsz;rw[hfs] at hp;obtain⟨l,rfl⟩:∃l:List Value,cs=l.toArray:=⟨cs.toList,by simp⟩;have hl:l.length=8:=by simpa using hsz
 match l,hl with
 | [v0,v1,v2,v3,v4,v5,v6,v7],_=>
  obtain⟨f0,x0,e0,g0⟩:=hp (t0,0) (by simp);obtain⟨f1,x1,e1,g1⟩:=hp (t0,1) (by simp);obtain⟨f2,x2,e2,g2⟩:=hp (t0,2) (by simp);obtain⟨f3,x3,e3,g3⟩:=hp (t0,3) (by simp);obtain⟨f4,x4,e4,g4⟩:=hp (t0,4) (by simp);obtain⟨f5,x5,e5,g5⟩:=hp (t0,5) (by simp);obtain⟨f6,x6,e6,g6⟩:=hp (t0,6) (by simp);obtain⟨f7,x7,e7',g7⟩:=hp (t7,7) (by simp);simp only[Value.cells,hc0,hc7,List.drop_zero,List.drop_succ_cons,List.take_succ_cons,List.take_zero] at e0 e1 e2 e3 e4 e5 e6 e7';obtain⟨n0,k0,_,w0⟩:=DataW.trod_int h0 e0;obtain⟨n1,k1,_,w1⟩:=DataW.trod_int h0 e1;obtain⟨n2,k2,_,w2⟩:=DataW.trod_int h0 e2;obtain⟨n3,k3,_,w3⟩:=DataW.trod_int h0 e3
  obtain⟨n4,k4,_,w4⟩:=DataW.trod_int h0 e4;obtain⟨n5,k5,_,w5⟩:=DataW.trod_int h0 e5;obtain⟨n6,k6,_,w6⟩:=DataW.trod_int h0 e6;obtain⟨u,hu7,hok⟩:=hcs 7 v7 (by simp);have hu7:t7=u:=by simpa using hu7
  subst hu7;obtain⟨s,l,hv,hr⟩:=trod_int rfl hok h7 he hce e7' g7;simp only[List.cons.injEq,and_true] at k0 k1 k2 k3 k4 k5 k6;subst k0 k1 k2 k3 k4 k5 k6 hv;exact⟨n0,n1,n2,n3,n4,n5,n6,s,l,rfl,w1,hr⟩
end
end Go.Hb
namespace Go.Proofs.YtjipofkjmmpjdaaGreat
open Go.ChangeShapes Go.WideShapes Go.RowKit Go.ChangeMaps Go.Hb
set_option maxRecDepth 100000 in
theorem topMoves_lifted(os:Os)(started:os.Started)(H:Type)(enc:TypeId×Value->H) :
  ReturnsInHanded {} Tryz.checked os 7 .any (Rows.topMovesSpec.pre6 enc PR Tryz.f7 Rows.topMovesRow.domain false) (Rows.topMovesSpec.post enc PR Tryz.f7 false true false false):=by
 refine law_lifted (C:=Tryz.checked) (by kernel_rfl) started (by kernel_rfl) Tryz.func7
  (ChangeSpec.witness6 (enc:=enc) (C:=Tryz.checked) (s:=Rows.topMovesSpec) false ⟨#[],#[.agg #[.i 0,.i 0,.i 0,.i 0,.i 0,.i 0,.i 0,.l none 0 0],.l none 0 0,.l none 0 0],[]⟩ 8 (by kernel_rfl) (by kernel_rfl) (by kernel_rfl) (by kernel_rfl)) rfl rfl (by kernel_rfl) (by kernel_rfl) ?_
 intro W base args ds p hval hA hwt;obtain⟨v0,vs0,d0,ds0,p0,q0,hargs,rfl,rfl,h0,r0⟩:=trodAll_cons (ts:=[_,_]) hA;obtain⟨v1,vs1,d1,ds1,p1,q1,rfl,rfl,rfl,h1,r1⟩:=trodAll_cons r0;obtain⟨v2,vs2,d2,ds2,p2,q2,rfl,rfl,rfl,h2,r2⟩:=trodAll_cons r1;obtain⟨rfl,rfl,rfl⟩:=trodAll_nil r2;obtain rfl:args=#[v0,v1,v2]:=by cases args;simp_all
 obtain⟨c0_0,c0_1,c0_2,c0_3,c0_4,c0_5,c0_6,s0,l0,rfl,w0,hr0⟩:=open_cfg (t0:=3) (t7:=22) (e7:=145) (by kernel_rfl) (by kernel_rfl) (by kernel_rfl) (by kernel_rfl) (by kernel_rfl) (by kernel_rfl) (by kernel_rfl) (by kernel_rfl) (by kernel_rfl) (by kernel_rfl) (hval 0 _ v0 rfl rfl) h0 (light_each hwt (j:=0) rfl rfl);obtain⟨s1,rows1,rfl,hn1,hm1,hr1,ho1⟩:=open_slc (e:=41) (ks:=[.int .i64,.str,.str,.int .i64]) (by kernel_rfl) (by kernel_rfl) (by kernel_rfl) (by decide) (hval 1 _ v1 rfl rfl) h1 (light_each hwt (j:=1) rfl rfl);obtain⟨l1,hr1,hl1,hw1⟩:=arg_rec opR OpOk of_op (by decide) (by decide) hr1 ho1
 have hc1:l1.length*48<=reachBytes:=by rw[hl1,<- hn1];have e:Tryz.checked.prog.bytesOf 41=48:=(by kernel_rfl);rw[e] at hm1;exact hm1
 obtain⟨s2,rows2,rfl,hn2,hm2,hr2,ho2⟩:=open_slc (e:=3) (ks:=[.int .i64]) (by kernel_rfl) (by kernel_rfl) (by kernel_rfl) (by decide) (hval 2 _ v2 rfl rfl) h2 (light_each hwt (j:=2) rfl rfl);obtain⟨l2,hr2,hl2,hw2⟩:=arg_rec (Rec.int .i64) (okK .i64) of_ik (by decide) (by decide) hr2 ho2;have hc2:l2.length*8<=reachBytes:=by rw[hl2,<- hn2];have e:Tryz.checked.prog.bytesOf 3=8:=(by kernel_rfl);rw[e] at hm2;exact hm2
 exact⟨⟨rfl,rfl,rfl⟩,topmoves_walk (ops:=l1) (tos:=l2) (tape:=l0) (slc_cap (e:=41) (by kernel_rfl) h1)⟩
theorem topMoves_inPlace:Program.inPlace PR 7=Rows.topMovesRow.inPlace:=by kernel_rfl
theorem topMoves_unf:Program.unfollowed PR 7=true:=by kernel_rfl
theorem topMoves_rec:Program.recurses PR 7=true:=by unfold Program.recurses;rw[topMoves_unf];rfl
theorem topMoves_named:Program.varsNamed PR 7=Rows.topMovesRow.named:=by kernel_rfl
theorem topMoves_facts:joinedFacts PR 7 Tryz.f7 Rows.topMovesSpec Rows.topMovesRow=true:=by
 unfold joinedFacts;rw[topMoves_inPlace,topMoves_unf,topMoves_rec,topMoves_named];kernel_rfl
theorem topMoves:Rows.TopMovesSaid:=
 OpenClaim.holds_of_wide 7 Tryz.f7 rfl rfl rfl rfl rfl rfl rfl ⟨rfl,rfl,rfl,rfl,rfl⟩ rfl rfl rfl rfl rfl (by kernel_rfl) Tryz.func7 topMoves_facts
  (of_decide_eq_true (by kernel_rfl)) (by unfold Func.isWrapper;first|(rw[if_pos (by decide +kernel)];kernel_rfl)|(rw[if_neg (by decide +kernel)];exact⟨rfl,rfl⟩))
  (λos started H enc _=>topMoves_lifted os started H enc)
end Go.Proofs.YtjipofkjmmpjdaaGreat
