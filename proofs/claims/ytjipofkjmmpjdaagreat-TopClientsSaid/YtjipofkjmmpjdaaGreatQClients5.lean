import Derived.KernelRfl
import Derived.Test.YtjipofkjmmpjdaaGreatQClients4
set_option linter.unusedVariables false
set_option linter.unusedSimpArgs false
set_option linter.unnecessarySimpa false
set_option linter.unusedSectionVars false
set_option maxRecDepth 100000
namespace Go.Hb
instance {s:Int} {k:BA} {x0:BA} {x1:Int}:Ln (CS Rec.si) [.i s,.s k,.s x0,.i x1] ⟨s,k,(x0,x1)⟩:=⟨rfl⟩
end Go.Hb
namespace Go.Proofs.YtjipofkjmmpjdaaGreat
open Go.Hb Go.IntWalk
section
variable{W w:World}{L M:List HP}{F:HP->List HP}{b:Nat}{seed:Int}{m:List (BA×(BA×Int))}{s:Sl}{ps:List (Pl (BA×Int))}{n1 u1:Int}
theorem FZ{st:BA->Nat}{k:BA}(hst:st=A4 seed ps.length)(hz:k.size<4611686018427387904)(hl:0<ps.length/\ps.length<4611686018427387904)(hstop:∃e,e<ps.length/\BU ps ((st k+e) % ps.length)=0)
  (hs:Ab W w (blk b [.int .u64 seed,.l s.a s.n s.c,.i n1,.i u1]::recs (CS Rec.si) s ps::M)) :
  Calls PR 158 #[pq b 0,.s k] w λe w'=>e = .returned (.tuple #[.i ((AQ st ps k).1:Int),.b (AQ st ps k).2])/\Ab W w' (blk b [.int .u64 seed,.l s.a s.n s.c,.i n1,.i u1]::recs (CS Rec.si) s ps::M):=by
 refine c1 (cw ⟨mixed,Tryz.func158,rfl⟩ Aoy ?_);have hn:=(BV (s:=s) hs Gv.pos).1;refine Ao [blk b [.int .u64 seed,.l s.a s.n s.c,.i n1,.i u1]] hs λw hs=>?_
 repeat (first|with_reducible refine Aa ?_|((with_reducible refine AX ?_);first|refine Am ?_|fail)|fail)
 refine An (Hm hs hz) λe w ⟨he,hs⟩=>⟨_,he,?_⟩
 repeat (first|((with_reducible refine AA ?_);first|refine Ae hs ?_|fail)|fail)
 refine An (GR (n:=s.n) hs (GJ _ _).1 (by omega) (by omega)) λe w ⟨he,hs⟩=>⟨_,he,?_⟩;have e9:(FB seed k).toNat % s.n=A4 seed ps.length k:=by rw[hn,Kd]
 rw[e9];have loop:∀(f:Nat)(free:Option Nat)(i:Nat)(w:World),i<ps.length->(∃e,e<f/\BU ps ((i+e) % ps.length)=0)->Ab W w (blk b [.int .u64 seed,.l s.a s.n s.c,.i n1,.i u1]::recs (CS Rec.si) s ps::M) ->
   Pv By (λv w'=>v = .tuple #[.i ((AJ ps k f free i).1:Int),.b (AJ ps k f free i).2]/\Ab W w' (blk b [.int .u64 seed,.l s.a s.n s.c,.i n1,.i u1]::recs (CS Rec.si) s ps::M)) f (some ⟨b,0,none⟩) k (M8 free) (i:Int) w:=by
  intro f
  induction f with
  | zero=>intro free i w hi ⟨e,he,_⟩;omega
  | succ f ih=>
   intro free i w hi hstop hs;have hm:(i+1) % ps.length<ps.length:=Nat.mod_lt _ hl.1;have next:BU ps i≠0->∃e',e'<f/\BU ps (((i+1) % ps.length+e') % ps.length)=0:=by
    obtain⟨e,he,hz0⟩:=hstop;intro hne;cases e with
    | zero=>rw[Nat.add_zero,Nat.mod_eq_of_lt hi] at hz0;exact absurd hz0 hne
    | succ e=>exact⟨e,by omega,by rw[Ew];exact hz0⟩
   have hwr:Int.tmod (IntKind.wrap .i64 ((i:Int)+1)) (s.n:Int)=(((i+1) % ps.length:Nat):Int):=by
    rw[i64_in _ (by omega),hn,Int.tmod_eq_emod_of_nonneg (by omega)];simp
   have j4:∀(free':Option Nat)(w:World),BU ps i≠0->Ab W w (blk b [.int .u64 seed,.l s.a s.n s.c,.i n1,.i u1]::recs (CS Rec.si) s ps::M)->AJ ps k (f+1) free i=AJ ps k f free' ((i+1) % ps.length) ->
     VR By (λv w'=>v = .tuple #[.i ((AJ ps k (f+1) free i).1:Int),.b (AJ ps k (f+1) free i).2]/\Ab W w' (blk b [.int .u64 seed,.l s.a s.n s.c,.i n1,.i u1]::recs (CS Rec.si) s ps::M)) f (some ⟨b,0,none⟩) k (M8 free') (i:Int) w:=by
    intro free' w hne hs he;refine jw Y2 ?_;rw[he]
    repeat (first|with_reducible refine Aa ?_|((with_reducible refine Ax ?_);first|refine Ag hs ?_|fail)|((with_reducible refine Bx ?_);first|refine AW ?_|fail)|fail)
    rw[hwr];exact ih free' _ w hm (next hne) hs
   rw[Y4];have hcast:((i:Int)).toNat=i:=Int.toNat_natCast i
   repeat (first|with_reducible refine Aa ?_|((with_reducible refine Ax ?_);first|refine Ag hs ?_|refine Bb hs ?_|fail)|((with_reducible refine AM ?_);first|refine AK hs λb_ o_ hs=>?_|fail)|fail)
   rw[hcast];have ei:(ps.getD i default).is_=BU ps i:=rfl;have ek:(ps.getD i default).key=Ed ps i:=rfl;rw[ei];have j2:∀(t:Bool)(w:World)(b1 o1:Nat),t=decide (BU ps i=2/\Ed ps i=k)->Ab W w (blk b [.int .u64 seed,.l s.a s.n s.c,.i n1,.i u1]::reca (CS Rec.si) b1 o1 s ps::M) ->
     VP By (λv w'=>v = .tuple #[.i ((AJ ps k (f+1) free i).1:Int),.b (AJ ps k (f+1) free i).2]/\Ab W w' (blk b [.int .u64 seed,.l s.a s.n s.c,.i n1,.i u1]::recs (CS Rec.si) s ps::M)) f (some ⟨b,0,none⟩) k (M8 free) (i:Int) b1 (o1+i*4) t w:=by
    intro t w b1 o1 ht hs;refine jw Y0 ?_;rw[ht]
    with_reducible refine Cd (λh1=>?_) (λh1=>?_)
    ·have e1:AJ ps k (f+1) free i=(i,true):=by rw[AJ,if_pos h1]
     rw[e1];exact⟨rfl,by exact Ab.fin hs⟩
    ·repeat (first|with_reducible refine Aa ?_|((with_reducible refine Ax ?_);first|refine Bb hs ?_|fail)|fail)
     rw[ei];have j3:∀(t:Bool)(w:World),t=decide (BU ps i=1/\free=none)->Ab W w (blk b [.int .u64 seed,.l s.a s.n s.c,.i n1,.i u1]::reca (CS Rec.si) b1 o1 s ps::M) ->
       VQ By (λv w'=>v = .tuple #[.i ((AJ ps k (f+1) free i).1:Int),.b (AJ ps k (f+1) free i).2]/\Ab W w' (blk b [.int .u64 seed,.l s.a s.n s.c,.i n1,.i u1]::recs (CS Rec.si) s ps::M)) f (some ⟨b,0,none⟩) k (M8 free) (i:Int) b1 (o1+i*4) t w:=by
      intro t w ht hs;refine jw Y1 ?_;rw[ht]
      with_reducible refine Cd (λh2=>?_) (λh2=>?_)
      ·exact j4 (some i) w (by rw[h2.1];decide) (by exact Ab.fin hs) (by rw[AJ,if_neg h1,if_pos h2])
      ·repeat (first|with_reducible refine Aa ?_|((with_reducible refine Ax ?_);first|refine Bb hs ?_|fail)|fail)
       rw[ei];have j5:∀(t:Bool)(w:World),t=decide (BU ps i=0/\free=none)->Ab W w (blk b [.int .u64 seed,.l s.a s.n s.c,.i n1,.i u1]::reca (CS Rec.si) b1 o1 s ps::M) ->
         VS By (λv w'=>v = .tuple #[.i ((AJ ps k (f+1) free i).1:Int),.b (AJ ps k (f+1) free i).2]/\Ab W w' (blk b [.int .u64 seed,.l s.a s.n s.c,.i n1,.i u1]::recs (CS Rec.si) s ps::M)) f (some ⟨b,0,none⟩) k (M8 free) (i:Int) b1 (o1+i*4) t w:=by
        intro t w ht hs;refine jw Y3 ?_;rw[ht]
        with_reducible refine Cd (λh3=>?_) (λh3=>?_)
        ·have e1:AJ ps k (f+1) free i=(i,false):=by rw[AJ,if_neg h1,if_neg h2,if_pos h3.1,h3.2];rfl
         rw[e1];exact⟨rfl,by exact Ab.fin hs⟩
        ·repeat (first|with_reducible refine Aa ?_|((with_reducible refine Ax ?_);first|refine Bb hs ?_|fail)|fail)
         rw[ei]
         with_reducible refine Be (λh4=>?_) (λh4=>?_)
         ·have e1:AJ ps k (f+1) free i=(free.getD i,false):=by rw[AJ,if_neg h1,if_neg h2,if_pos h4]
          rw[e1];cases free with
          | none=>exact absurd ⟨h4,rfl⟩ h3
          | some j=>exact⟨rfl,by exact Ab.fin hs⟩
         ·exact j4 free w h4 (by exact Ab.fin hs) (by rw[AJ,if_neg h1,if_neg h2,if_neg h4])
       with_reducible refine Be (λh3=>?_) (λh3=>?_)
       ·exact j5 _ w (by simp[h3,Hl]) (by exact Ab.fin hs)
       ·exact j5 _ w (by simp[h3]) (by exact Ab.fin hs)
     with_reducible refine Be (λh2=>?_) (λh2=>?_)
     ·exact j3 _ w (by simp[h2,Hl]) (by exact Ab.fin hs)
     ·exact j3 _ w (by simp[h2]) (by exact Ab.fin hs)
   with_reducible refine Be (λh1=>?_) (λh1=>?_)
   ·repeat (first|with_reducible refine Aa ?_|((with_reducible refine Ax ?_);first|refine BG hs ?_|fail)|fail)
    rw[ek];refine j2 _ w _ _ ?_ (by exact Ab.fin hs);rw[HE];simp[h1]
   ·refine j2 _ w _ _ ?_ (by exact Ab.fin hs);simp[h1]
 subst hst;have hl2:=loop ps.length none (A4 seed ps.length k) w (Ds hl.1 k) hstop hs;rw[show M8 none = -1 from rfl] at hl2;unfold AQ;refine⟨ps.length,?_⟩;exact hl2
theorem K3{k:BA}{v:(BA×Int)}{j:Nat}(hj:j<ps.length)(hb:ps.length<4611686018427387904)(hu:u1=(AD ps:Int))(hn1:0<=n1/\n1<4611686018427387904)(hs:Ab W w (blk b [.int .u64 seed,.l s.a s.n s.c,.i n1,.i u1]::recs (CS Rec.si) s ps::M)) :
  Calls PR 166 #[pq b 0,.i (j:Int),.s k,.agg #[.s (v).1,.i (v).2]] w λe w'=>e = .returned (.tuple #[])/\Ab W w' (blk b [.int .u64 seed,.l s.a s.n s.c,.i (n1+1),.i (AD (ps.set j ⟨2,k,v⟩):Int)]::recs (CS Rec.si) s (ps.set j ⟨2,k,v⟩)::M):=by
 refine c1 (cw ⟨mixed,Tryz.func166,rfl⟩ Ao6 ?_);refine Ah hs λbv w hs=>?_;have hn:=(BV (s:=s) hs Gv.pos).1;have hle:AD ps<=ps.length:=List.countP_le_length;rw[BO hj _ (by show(2:Int)≠0;decide)]
 repeat (first|with_reducible refine Aa ?_|((with_reducible refine Ax ?_);first|refine Ag hs ?_|refine Bb hs ?_|fail)|((with_reducible refine AM ?_);first|refine AK hs λb_ o_ hs=>?_|fail)|fail)
 simp only[Int.toNat_natCast];have ei:(ps.getD j default).is_=BU ps j:=rfl;rw[ei]
 with_reducible refine Be (λh1=>?_) (λh1=>?_)
 ·repeat (first|with_reducible refine Aa ?_|((with_reducible refine Ax ?_);first|refine Ag hs ?_|fail)|((with_reducible refine AS ?_);first|refine A0 hs λw hs=>?_|fail)|fail)
  refine jw Np ?_
  repeat (first|with_reducible refine Aa ?_|((with_reducible refine Ax ?_);first|refine Ag hs ?_|fail)|((with_reducible refine AS ?_);first|refine A0 hs λw hs=>?_|refine Ba hs λw hs=>?_|fail)|((with_reducible refine AM ?_);first|refine BT hs ?_|fail)|((with_reducible refine AX ?_);first|refine Am ?_|fail)|((with_reducible refine AA ?_);first|refine A9 hs ?_|fail)|((with_reducible refine AZ ?_);first|refine As hs λw hs=>?_|fail)|fail)
  rw[i64_in (n1+1) (by omega),hu,i64_in _ (by omega)] at hs;simp only[Int.toNat_natCast] at hs;rw[if_pos h1];exact⟨rfl,by exact Ab.fin hs⟩
 ·refine jw Np ?_
  repeat (first|with_reducible refine Aa ?_|((with_reducible refine Ax ?_);first|refine Ag hs ?_|fail)|((with_reducible refine AS ?_);first|refine A0 hs λw hs=>?_|refine Ba hs λw hs=>?_|fail)|((with_reducible refine AM ?_);first|refine BT hs ?_|fail)|((with_reducible refine AX ?_);first|refine Am ?_|fail)|((with_reducible refine AA ?_);first|refine A9 hs ?_|fail)|((with_reducible refine AZ ?_);first|refine As hs λw hs=>?_|fail)|fail)
  rw[i64_in (n1+1) (by omega),hu] at hs;simp only[Int.toNat_natCast] at hs;rw[if_neg h1,Nat.add_zero];exact⟨rfl,by exact Ab.fin hs⟩
theorem S8{st:BA->Nat}(hi:C2 st ps m)(hkz:∀e∈m,e.1.size<4611686018427387904)(hm:m.length<1000000000)(hs:Ab W w (blk b [.int .u64 seed,.l s.a s.n s.c,.i (m.length:Int),.i u1]::recs (CS Rec.si) s ps::M)) :
  Calls PR 167 #[pq b 0] w λe w'=>e = .returned (.tuple #[])/\Ab W w' (ixr Rec.si b seed m::M):=by
 refine c1 (cw ⟨mixed,Tryz.func167,rfl⟩ Ao7 ?_);have hn:=(BV (s:=s) hs Gv.pos).1;have hsmall:=hi.small;obtain⟨N,hN⟩:∃N:Nat,N=max 8 (4*(m.length+1)):=⟨_,rfl⟩;have e1:(if (IntKind.wrap .i64 ((4:Int)*(IntKind.wrap .i64 ((m.length:Int)+(1:Int)))))>(8:Int) then (IntKind.wrap .i64 ((4:Int)*(IntKind.wrap .i64 ((m.length:Int)+(1:Int))))) else (8:Int))=(N:Int):=by
  rw[i64_in ((m.length:Int)+1) (by omega),i64_in _ (by omega)];split <;> omega
 repeat (first|with_reducible refine Aa ?_|((with_reducible refine Ax ?_);first|refine Ag hs ?_|fail)|fail)
 rw[e1];refine E2 (sz:=4) hs rfl (by omega) (by omega) (by omega) (by omega) λs2 w hn2 _ _ hs=>?_;rw[Int.toNat_natCast] at hs hn2;have hs:Ab W w (recs (CS Rec.si) s2 (List.replicate N ⟨0,Af,((Af,0):BA×Int)⟩)::blk b [.int .u64 seed,.l s.a s.n s.c,.i (m.length:Int),.i u1]::recs (CS Rec.si) s ps::M):=by
  have e:=Ey (CS Rec.si) ⟨0,Af,((Af,0):BA×Int)⟩ N;unfold recs;rw[<- e];exact hs
 repeat (first|with_reducible refine Aa ?_|((with_reducible refine AS ?_);first|refine A0 hs λw hs=>?_|fail)|fail)
 have hinv:=C2.new (st:=A4 seed N) (n:=N) (z:=(⟨0,Af,((Af,0):BA×Int)⟩:Pl (BA×Int))) rfl (by omega) (by omega) (Ds (by omega));have hdist:(Bd ps).map (·.1) |>.Nodup:=(hi.perm.map (·.1)).nodup_iff.2 hi.nodup
 have hlen:(Bd ps).length=m.length:=hi.perm.length_eq;have loop:∀(f i:Nat)(w:World)(ps2:List (Pl (BA×Int)))(mi:List (BA×(BA×Int))),i+f=ps.length->ps2.length=N->C2 (A4 seed N) ps2 mi->mi.Perm (Bd (ps.take i))->AD ps2<=mi.length ->
   Ab W w (blk b [.int .u64 seed,.l s2.a s2.n s2.c,.i (mi.length:Int),.i (AD ps2:Int)]::recs (CS Rec.si) s2 ps2::recs (CS Rec.si) s ps::M) ->
   L3 By (λv w'=>v = .tuple #[]/\Ab W w' (ixr Rec.si b seed m::M)) (f+1) (some ⟨b,0,none⟩) s (s.n:Int) (i:Int) w:=by
  intro f
  induction f with
  | zero=>
   intro i w ps2 mi hif hpl hiv hp hu hs;rw[Nq];refine Ac (decide_eq_false (by omega)) ⟨rfl,?_⟩;rw[List.take_of_length_le (by omega)] at hp;have hpm:=hp.trans hi.perm;refine Bz s2 (ps:=ps2) (n:=(mi.length:Int)) ?_ ?_ (by rw[hpm.length_eq]) rfl (by exact Ab.fin hs)
   ·rw[hpl];exact hiv.perm' hpm
   ·rw[hpl];have:=hpm.length_eq;omega
  | succ f ih=>
   intro i w ps2 mi hif hpl hiv hp hu hs;rw[Nq];refine Ak (decide_eq_true (by omega)) ?_
   repeat (first|((with_reducible refine Ax ?_);first|refine Ag hs ?_|refine Bb hs ?_|refine BG hs ?_|refine Cn hs ?_|refine Cv hs ?_|fail)|((with_reducible refine AS ?_);first|refine A0 hs λw hs=>?_|fail)|((with_reducible refine AM ?_);first|refine AK hs λb_ o_ hs=>?_|fail)|((with_reducible refine Bf ?_);first|refine Ah hs λb_ w hs=>?_|fail)|fail)
   simp only[Int.toNat_natCast] at hs ⊢;have hil:i<ps.length:=by omega
   have hft:Bd (ps.take (i+1))=Bd (ps.take i)++EU (ps.getD i default):=by
    rw[CA hil,Cg];simp[Bd]
   with_reducible refine Be (λh1=>?_) (λh1=>?_)
   ·have hop:EU (ps.getD i default)=[((ps.getD i default).key,(ps.getD i default).v)]:=Gd h1;rw[hop] at hft;have hsub:(Bd (ps.take (i+1))).Sublist (Bd ps):=by
     conv=>rhs;rw[<- List.take_append_drop (i+1) ps,Cg]
     exact List.sublist_append_left _ _
    have hmem:((ps.getD i default).key,(ps.getD i default).v)∈m:=hi.perm.subset (hsub.subset (by rw[hft];simp));have hnd:=hdist.sublist (hsub.map (·.1));rw[hft,List.map_append] at hnd;have hno:AC mi (ps.getD i default).key=none:=by
     rw[BY];intro e he hk;rw[List.nodup_append] at hnd;exact hnd.2.2 _ (List.mem_map_of_mem (f:=(·.1)) (hp.subset he)) _ (by simp) hk
    have hlt:mi.length+1<=m.length:=by
     have:=hsub.length_le;rw[hft,List.length_append,<- hp.length_eq] at this;simp only[List.length_cons,List.length_nil] at this;omega
    repeat (first|((with_reducible refine Ax ?_);first|refine Ag hs ?_|fail)|fail)
    have hs:Ab W w (blk b [.int .u64 seed,.l s2.a s2.n s2.c,.i (mi.length:Int),.i (AD ps2:Int)]::recs (CS Rec.si) s2 ps2::blk b_ [.i (ps.getD i default).is_,.s (ps.getD i default).key,.s (ps.getD i default).v.1,.i (ps.getD i default).v.2]::recs (CS Rec.si) s ps::M):=by exact Ab.fin hs
    refine AH (FZ (st:=A4 seed N) (by rw[hpl]) (hkz _ hmem) (by omega) (hiv.stop _) hs) λe w ⟨he,hs⟩=>⟨_,_,he,?_⟩;have hfm:(AQ (A4 seed N) ps2 (ps.getD i default).key).2=false:=by
     cases hb:(AQ (A4 seed N) ps2 (ps.getD i default).key).2 with
     | false=>rfl
     | true=>have:=(hiv.hit hb).2.2;rw[hno] at this;cases this
    obtain⟨hj,hj2,_,hjr⟩:=hiv.miss hfm
    repeat (first|((with_reducible refine Ax ?_);first|refine Ag hs ?_|fail)|fail)
    refine Ar (K3 (v:=(ps.getD i default).v) hj (by omega) rfl (by omega) hs) λe w ⟨he,hs⟩=>⟨he,?_⟩;rw[i64_in _ (by omega)];have hus:=BO hj (⟨2,(ps.getD i default).key,(ps.getD i default).v⟩:Pl (BA×Int)) (by show(2:Int)≠0;decide)
    have hus2:AD (ps2.set (AQ (A4 seed N) ps2 (ps.getD i default).key).1 ⟨2,(ps.getD i default).key,(ps.getD i default).v⟩)<=AD ps2+1:=by rw[hus];split <;> omega
    refine ih (i+1) w _ (((ps.getD i default).key,(ps.getD i default).v)::mi) (by omega) (by rw[List.length_set];exact hpl) (hiv.add hj hj2 hno hjr (by omega)) ?_ (by simp only[List.length_cons];omega) ?_
    ·rw[hft];exact((List.Perm.cons _ hp).trans (List.perm_append_comm (l₁:=[_])))
    ·simp only[List.length_cons,Int.natCast_add];exact Ab.fin hs
   ·have hop:EU (ps.getD i default)=[]:=Ie h1;rw[hop,List.append_nil] at hft;rw[i64_in _ (by omega)];exact ih (i+1) w ps2 mi (by omega) hpl hiv (by rw[hft];exact hp) hu (by exact Ab.fin hs)
 refine⟨ps.length+1,?_⟩;refine loop ps.length 0 w (List.replicate N ⟨0,Af,((Af,0):BA×Int)⟩) [] (by omega) (by simp) hinv (by simp[Bd]) ?_ ?_
 ·have:AD (List.replicate N (⟨0,Af,((Af,0):BA×Int)⟩:Pl (BA×Int)))=0:=by
   unfold AD;rw[List.countP_eq_zero];intro a ha;rw[List.eq_of_mem_replicate ha];simp
  rw[this];exact Nat.zero_le _
 ·have:AD (List.replicate N (⟨0,Af,((Af,0):BA×Int)⟩:Pl (BA×Int)))=0:=by
   unfold AD;rw[List.countP_eq_zero];intro a ha;rw[List.eq_of_mem_replicate ha];simp
  rw[this];exact Ab.fin hs
end
section
variable{W w:World}{L M:List HP}{F:HP->List HP}{b:Nat}{seed:Int}{m:List (BA×(BA×Int))}{k:BA}
theorem Amj(hs:Ab W w L):Calls PR 114 #[.int .u64 seed] w λe w'=>∃b,e = .returned (pq b 0)/\Ab W w' (ixr Rec.si b seed []::L):=by
 refine(cw ⟨mixed,Tryz.func114,rfl⟩ Ant (Q:=λv w'=>∃b,v=pq b 0/\Ab W w' (ixr Rec.si b seed []::L)) ?_).mono λe w' ⟨v,he,b,hv,hs⟩=>⟨b,by rw[he,hv],hs⟩;refine E2 (sz:=4) hs rfl (by omega) (by omega) (by omega) (by omega) λs2 w hn2 _ _ hs=>?_;have hs:Ab W w (recs (CS Rec.si) s2 (List.replicate 8 ⟨0,Af,((Af,0):BA×Int)⟩)::L):=hs
 repeat (first|((with_reducible refine Bf ?_);first|refine Ah hs λb_ w hs=>?_|fail)|fail)
 refine⟨_,rfl,Bz s2 (ps:=List.replicate 8 ⟨0,Af,((Af,0):BA×Int)⟩) (n:=0) (u:=0) (C2.new (n:=8) rfl (by omega) (by omega) (Ds (by simp))) (by decide +revert) rfl rfl (by exact Ab.fin hs)⟩
theorem Kh(h:Ab W w L)[hA:At L b (ixr Rec.si b seed m) F](hz:k.size<4611686018427387904):Calls PR 120 #[pq b 0,.s k] w λe w'=>e = .returned (.tuple #[.agg #[.s ((AC m k).getD ((Af,0):BA×Int)).1,.i ((AC m k).getD ((Af,0):BA×Int)).2],.b (AC m k).isSome])/\Ab W w' (F (ixr Rec.si b seed m)):=by
 refine At.call1 (hA:=hA) h λM hs=>?_;clear h hA;refine c1 (cw ⟨mixed,Tryz.func120,rfl⟩ An2 ?_);refine Ah hs λbz w hs=>?_;have hs:Ab W w (ixr Rec.si b seed m::blk bz [.s Af,.i (0:Int)]::M):=by exact Ab.fin hs
 refine Ak rfl ?_;obtain⟨s,ps,hi,h2,hn,hs⟩:=Db hs;have hsm:=hi.small;have hbg:=hi.big;refine AH (FZ (st:=A4 seed ps.length) rfl hz (by omega) (hi.stop _) hs) λe w ⟨he,hs⟩=>⟨_,_,he,?_⟩;refine Al (λhb=>?_) (λhb=>?_)
 ·obtain⟨hj,_,hg⟩:=hi.hit hb;rw[hg]
  repeat (first|with_reducible refine Aa ?_|((with_reducible refine Ax ?_);first|refine Ag hs ?_|refine BG hs ?_|refine Cn hs ?_|fail)|((with_reducible refine AS ?_);first|refine A0 hs λw hs=>?_|fail)|((with_reducible refine AM ?_);first|refine AK hs λb_ o_ hs=>?_|fail)|fail)
  simp only[Int.toNat_natCast];exact⟨rfl,Bz s hi h2 rfl rfl (by exact Ab.fin hs)⟩
 ·rw[(hi.miss hb).2.2.1];refine jw Ym ?_
  repeat (first|((with_reducible refine Ax ?_);first|refine Ag hs ?_|fail)|((with_reducible refine AS ?_);first|refine A0 hs λw hs=>?_|fail)|((with_reducible refine Bf ?_);first|refine Ah hs λb_ w hs=>?_|fail)|fail)
  exact⟨rfl,Bz s hi h2 rfl rfl (by exact Ab.fin hs)⟩
theorem Ami(h:Ab W w L)[hA:At L b (ixr Rec.si b seed m) F]:Calls PR 70 #[pq b 0] w λe w'=>e = .returned (.i (m.length:Int))/\Ab W w' (F (ixr Rec.si b seed m)):=by
 refine At.call1 (hA:=hA) h λM hs=>?_;clear h hA;refine c1 (cw ⟨mixed,Tryz.func70,rfl⟩ A03 ?_);refine Ac rfl ?_;obtain⟨s,ps,hi,h2,hn,hs⟩:=Db hs
 repeat (first|with_reducible refine Aa ?_|((with_reducible refine Ax ?_);first|refine Ag hs ?_|fail)|fail)
 exact⟨rfl,Bz s hi h2 rfl rfl hs⟩
theorem Amk(h:Ab W w L)[hA:At L b (ixr Rec.si b seed m) F]{v:(BA×Int)}(hz:k.size<4611686018427387904)(hkz:∀e∈m,e.1.size<4611686018427387904)(hm:m.length<900000000):Calls PR 127 #[pq b 0,.s k,.agg #[.s (v).1,.i (v).2]] w λe w'=>e = .returned (.b (AC m k).isNone)/\Ab W w' (F (ixr Rec.si b seed (CE m k v))):=by
 refine At.call1 (hA:=hA) h λM hs=>?_;clear h hA;refine c1 (cw ⟨mixed,Tryz.func127,rfl⟩ An8 ?_);refine Ah hs λbv w hs=>?_;have hs:Ab W w (ixr Rec.si b seed m::blk bv [.s v.1,.i v.2]::M):=by exact Ab.fin hs
 refine Ac rfl ?_;obtain⟨s,ps,hi,h2,hn,hs⟩:=Db hs;have hsm:=hi.small;have hbg:=hi.big;refine AH (FZ (st:=A4 seed ps.length) rfl hz (by omega) (hi.stop _) hs) λe w ⟨he,hs⟩=>⟨_,_,he,?_⟩;refine Al (λhb=>?_) (λhb=>?_)
 ·obtain⟨hj,hit,hg⟩:=hi.hit hb;have hp:CE m k v=Fg m k v:=by unfold CE;rw[hg]
  rw[hg,hp]
  repeat (first|with_reducible refine Aa ?_|((with_reducible refine Ax ?_);first|refine Ag hs ?_|fail)|((with_reducible refine AM ?_);first|refine AK hs λb_ o_ hs=>?_|fail)|((with_reducible refine AX ?_);first|refine Am ?_|fail)|((with_reducible refine AA ?_);first|refine A9 hs ?_|fail)|((with_reducible refine AZ ?_);first|refine As hs λw hs=>?_|fail)|fail)
  simp only[Int.toNat_natCast];refine Xw (vs:=[.s v.1,.i v.2]) (pre:=[.i (ps.getD (AQ (A4 seed ps.length) ps k).1 default).is_,.s (ps.getD (AQ (A4 seed ps.length) ps k).1 default).key]) (mid:=[.s (ps.getD (AQ (A4 seed ps.length) ps k).1 default).v.1,.i (ps.getD (AQ (A4 seed ps.length) ps k).1 default).v.2]) (tl:=[]) (a':={ ps.getD (AQ (A4 seed ps.length) ps k).1 default with v:=v }) (i:=(AQ (A4 seed ps.length) ps k).1) (j:=2) (n:=4) hs rfl hj rfl rfl rfl rfl λw hs=>?_;have hset:=hi.set (v:=v) hj hit;have hus:AD (ps.set (AQ (A4 seed ps.length) ps k).1 { ps.getD (AQ (A4 seed ps.length) ps k).1 default with v:=v })=AD ps:=by
   rw[BO hj _ (by show BU ps _≠0;rw[hit.1];decide),if_neg (by rw[hit.1];decide)];rfl
  refine⟨rfl,Bz s (n:=(m.length:Int)) (u:=(AD ps:Int)) (by rw[List.length_set];exact hset) (by rw[hus,List.length_set];exact h2) (by simp[Fg]) (by rw[hus]) (by exact Ab.fin hs)⟩
 ·obtain⟨hj,hj2,hg,hr⟩:=hi.miss hb;have hp:CE m k v=(k,v)::m:=by unfold CE;rw[hg]
  rw[hg,hp]
  repeat (first|((with_reducible refine Ax ?_);first|refine Ag hs ?_|fail)|fail)
  refine Ar (K3 (v:=v) hj (by omega) rfl (by omega) hs) λe w ⟨he,hs⟩=>⟨he,?_⟩;have hus:=BO hj (⟨2,k,v⟩:Pl (BA×Int)) (by show(2:Int)≠0;decide)
  have hus2:AD (ps.set (AQ (A4 seed ps.length) ps k).1 ⟨2,k,v⟩)<=AD ps+1:=by rw[hus];split <;> omega
  have hadd:=hi.add (v:=v) hj hj2 hg hr (by omega);have hsl:(ps.set (AQ (A4 seed ps.length) ps k).1 ⟨2,k,v⟩).length=ps.length:=by simp
  generalize hps2:ps.set (AQ (A4 seed ps.length) ps k).1 ⟨2,k,v⟩=ps2 at hs hus2 hadd hsl
  repeat (first|with_reducible refine Aa ?_|((with_reducible refine Ax ?_);first|refine Ag hs ?_|fail)|((with_reducible refine AX ?_);first|refine Am ?_|fail)|((with_reducible refine AA ?_);first|refine A9 hs ?_|fail)|((with_reducible refine AZ ?_);first|refine As hs λw hs=>?_|fail)|fail)
  rw[i64_in _ (by omega),hn]
  with_reducible refine Bg (λh9=>?_) (λh9=>?_)
  ·have hkz2:∀e∈(k,v)::m,e.1.size<4611686018427387904:=by
    intro e he;rcases List.mem_cons.1 he with rfl|he
    ·exact hz
    ·exact hkz e he
   have hs2:Ab W w (blk b [.int .u64 seed,.l s.a s.n s.c,.i (((k,v)::m).length:Int),.i (AD ps2:Int)]::recs (CS Rec.si) s ps2::M):=by
    simp only[List.length_cons,Int.natCast_add];exact Ab.fin hs
   refine Ar (S8 hadd hkz2 (by simp;omega) hs2) λe w ⟨he,hs⟩=>⟨he,?_⟩;exact⟨rfl,hs⟩
  ·exact⟨rfl,Bz s (n:=(m.length:Int)+1) (by rw[hsl];exact hadd) (by omega) (by simp) rfl (by exact Ab.fin hs)⟩
theorem X0(h:Ab W w L)[hA:At L b (ixr Rec.si b seed m) F](hz:k.size<4611686018427387904)(hm:m.length<900000000):Calls PR 136 #[pq b 0,.s k] w λe w'=>e = .returned (.tuple #[.agg #[.s ((AC m k).getD ((Af,0):BA×Int)).1,.i ((AC m k).getD ((Af,0):BA×Int)).2],.b (AC m k).isSome])/\Ab W w' (F (ixr Rec.si b seed (Cr m k))):=by
 refine At.call1 (hA:=hA) h λM hs=>?_;clear h hA;refine c1 (cw ⟨mixed,Tryz.func136,rfl⟩ Aof ?_);refine Ah hs λb1 w hs=>?_;refine(Kh hs hz).mono λe w ⟨he,hs⟩=>⟨_,_,_,he,?_⟩
 repeat (first|((with_reducible refine AS ?_);first|refine A0 hs λw hs=>?_|fail)|((with_reducible refine Bf ?_);first|refine Ah hs λb_ w hs=>?_|fail)|fail)
 have hs:Ab W w (ixr Rec.si b seed m::blk b_ [.s ((AC m k).getD ((Af,0):BA×Int)).1,.i ((AC m k).getD ((Af,0):BA×Int)).2]::blk b1 [.s Af,.i (0:Int)]::M):=by exact Ab.fin hs
 refine Cp (λv hg=>?_) (λhg=>?_)
 ·obtain⟨s,ps,hi,h2,hn,hs⟩:=Db hs;have hsm:=hi.small;have hbg:=hi.big;refine AH (FZ (st:=A4 seed ps.length) rfl hz (by omega) (hi.stop _) hs) λe w ⟨he,hs⟩=>⟨_,_,he,?_⟩;have hb:(AQ (A4 seed ps.length) ps k).2=true:=by
   cases hb:(AQ (A4 seed ps.length) ps k).2 with
   | true=>rfl
   | false=>have:=(hi.miss hb).2.2.1;rw[hg] at this;cases this
  obtain⟨hj,hit,_⟩:=hi.hit hb
  repeat (first|with_reducible refine Aa ?_|((with_reducible refine Ax ?_);first|refine Ag hs ?_|fail)|((with_reducible refine AS ?_);first|refine A0 hs λw hs=>?_|refine Ba hs λw hs=>?_|fail)|((with_reducible refine AM ?_);first|refine AK hs λb_ o_ hs=>?_|fail)|fail)
  rw[i64_in _ (by omega)] at hs;simp only[Int.toNat_natCast] at hs;have hdel:=hi.del (z:=(⟨1,Af,((Af,0):BA×Int)⟩:Pl (BA×Int))) hj hit rfl;have hus:AD (ps.set (AQ (A4 seed ps.length) ps k).1 (⟨1,Af,((Af,0):BA×Int)⟩:Pl (BA×Int)))=AD ps:=by
   rw[BO hj _ (by show(1:Int)≠0;decide),if_neg (by rw[hit.1];decide)];rfl
  have hl:=Mb hi.nodup hg;refine⟨by trivial,Bz s (n:=(m.length:Int)-1) (u:=(AD ps:Int)) (by rw[List.length_set];exact hdel) (by rw[hus,List.length_set];exact h2) (by omega) (by rw[hus]) (by exact Ab.fin hs)⟩
 ·have:Cr m k=m:=by
   unfold Cr;rw[List.filter_eq_self];intro e he;simpa using BY.1 hg e he
  rw[this]
  repeat (first|((with_reducible refine Ax ?_);first|refine Ag hs ?_|fail)|((with_reducible refine AS ?_);first|refine A0 hs λw hs=>?_|fail)|fail)
  exact⟨by trivial,by exact Ab.fin hs⟩
theorem Agk(h:Ab W w L)[hA:At L b (ixr Rec.si b seed m) F](hm:m.length<900000000):Calls PR 71 #[pq b 0] w λe w'=>∃l:Sl,e = .returned (.l l.a l.n l.c)/\Ab W w' (recs Rec.str l (Fz (m.map (·.1)))::F (ixr Rec.si b seed m)):=by
 refine At.oneX (hA:=hA) h λM hs hb=>?_;refine(cw ⟨mixed,Tryz.func71,rfl⟩ A04 (Q:=λv w'=>∃l:Sl,v = .l l.a l.n l.c/\Ab W w' (ixr Rec.si b seed m::recs Rec.str l (Fz (m.map (·.1)))::M)) ?_).mono λe w' ⟨v,he,l,hv,hs⟩=>⟨l,by rw[he,hv],?_⟩
 ·skip;refine Ac rfl ?_;obtain⟨s,ps,hi,h2,hn,hs⟩:=Db hs;have hsm:=hi.small;have hfl:(Bd ps).length=m.length:=hi.perm.length_eq
  repeat (first|with_reducible refine Aa ?_|((with_reducible refine Ax ?_);first|refine Ag hs ?_|fail)|fail)
  have hs:=Ab.nilR Rec.str hs;have loop:∀(f i:Nat)(w:World)(acc:Sl),i+f=ps.length->Ab W w (recs Rec.str acc ((Bd (ps.take i)).map (·.1))::blk b [.int .u64 seed,.l s.a s.n s.c,.i (m.length:Int),.i (AD ps:Int)]::recs (CS Rec.si) s ps::M) ->
    QW By (λv w'=>∃l:Sl,v = .l l.a l.n l.c/\Ab W w' (ixr Rec.si b seed m::recs Rec.str l (Fz (m.map (·.1)))::M)) (f+1) acc s (s.n:Int) (i:Int) w:=by
   intro f
   induction f with
   | zero=>
    intro i w acc hif hs;rw[QX];refine Ac (decide_eq_false (by omega)) ?_;refine jw Aey ?_;rw[List.take_of_length_le (by omega)] at hs;refine Ar (A3c (s:=acc) hs (by simp;omega)) λe w ⟨he,hs⟩=>⟨he,acc,rfl,?_⟩
    have e1:Fz ((Bd ps).map (·.1))=Fz (m.map (·.1)):=
     GQ (IP _) (IP _) ((KZ _).trans ((hi.perm.map _).trans (KZ _).symm))
    rw[e1] at hs;exact Bz s hi h2 rfl rfl (by exact Ab.fin hs)
   | succ f ih=>
    intro i w acc hif hs;have hil:i<ps.length:=by omega
    have hft:Bd (ps.take (i+1))=Bd (ps.take i)++EU (ps.getD i default):=by
     rw[CA hil,Cg];simp[Bd]
    have hle:(Bd (ps.take i)).length<=m.length:=by
     rw[<- hfl]
     conv=>rhs;rw[<- List.take_append_drop i ps,Cg]
     simp
    rw[QX];refine Ak (decide_eq_true (by omega)) ?_
    repeat (first|((with_reducible refine Ax ?_);first|refine Ag hs ?_|refine Bb hs ?_|refine BG hs ?_|refine Cn hs ?_|refine Cv hs ?_|fail)|((with_reducible refine AS ?_);first|refine A0 hs λw hs=>?_|fail)|((with_reducible refine AM ?_);first|refine AK hs λb_ o_ hs=>?_|fail)|((with_reducible refine Bf ?_);first|refine Ah hs λb_ w hs=>?_|fail)|fail)
    simp only[Int.toNat_natCast] at hs ⊢
    with_reducible refine Be (λh1=>?_) (λh1=>?_)
    ·have hop:EU (ps.getD i default)=[((ps.getD i default).key,(ps.getD i default).v)]:=Gd h1;rw[hop] at hft
     repeat (first|((with_reducible refine Ax ?_);first|refine Ag hs ?_|fail)|((with_reducible refine Bf ?_);first|refine Ah hs λb_ w hs=>?_|fail)|fail)
     refine Cf (s:=acc) (a:=(ps.getD i default).key) hs rfl rfl rfl rfl (by decide) (by simp;omega) λs4 w hs4 hs=>?_;rw[i64_in _ (by omega)];refine ih (i+1) w s4 (by omega) ?_;rw[hft,List.map_append];exact Ab.fin hs
    ·have hop:EU (ps.getD i default)=[]:=Ie h1;rw[hop,List.append_nil] at hft;rw[i64_in _ (by omega)];refine ih (i+1) w acc (by omega) ?_;rw[hft];exact Ab.fin hs
  refine⟨ps.length+1,?_⟩;exact loop ps.length 0 w ⟨none,0,0⟩ (by omega) hs
 ·exact hb _ _ [recs Rec.str l (Fz (m.map (·.1)))] hs
end
end Go.Proofs.YtjipofkjmmpjdaaGreat
namespace Go.Hb
theorem Sj{α:Type}(E:Rec α)(P:α->Prop){ks:List CK}(hks:∀x,E9 ks x->∃a,x=E.cells a/\P a):∀{rows:List (List Value)},(∀x∈rows,E9 ks x) ->
  ∃l:List α,rows.flatten=E.flat l/\l.length=rows.length/\∀a∈l,P a
 | [],_=>⟨[],rfl,rfl,λ_ h=>by cases h⟩
 | x::rows,h=>by
  obtain⟨l,h1,h2,h3⟩:=Sj E P hks (rows:=rows) λy hy=>h y (.tail _ hy);obtain⟨a,rfl,ha⟩:=hks x (h x (.head _));refine⟨a::l,?_,by simp[h2],λb hb=>?_⟩
  ·rw[List.flatten_cons,h1];rfl
  ·cases hb with
   | head=>exact ha
   | tail _ hb=>exact h3 b hb
def okK(k:IntKind)(n:Int):Prop:=(Lit.int k n).wf=true
def A4e(s:BA):Prop:=s.size<=reachBytes
theorem of_ik{k:IntKind}(x:List Value)(h:E9 [.int k] x):∃a,x=(Rec.int k).cells a/\okK k a:=by
 match x,h with
 | [v],⟨⟨s,hv,hw⟩,_⟩=>subst hv;exact⟨s,rfl,hw⟩
theorem arg_rec{α:Type}{W:World}{s:Sl}{ks:List CK}{rows:List (List Value)}(E:Rec α)(P:α->Prop)(hks:∀x,E9 ks x->∃a,x=E.cells a/\P a)(hpos:0<E.sz)(hsz:E.sz=ks.length)
  (hr:Agq W ks.length s rows.flatten) (ho:∀x∈rows,E9 ks x):∃l:List α,CO W s E l/\l.length=rows.length/\∀a∈l,P a:=by
 obtain⟨l,h1,h2,h3⟩:=Sj E P hks ho;refine⟨l,CO.of hpos ?_,h2,h3⟩;rw[<- h1,hsz];exact hr
def A38(P:Program)(t:TypeId):Bool:=match P.underlying t with
 | some (.struct _)=>true
 | _=>false
theorem Ab.keptO{W w:World}{L:List HP}[hA:AtO L W](h:Ab W w L):Ja W w:=by
 obtain⟨M,h1⟩:=hA.pos;exact(h.perm h1).kept (q:=0) rfl
theorem A7d{P:Program}{f:FuncId}{args:Array Value}{W:World}{v0:Value}(h:Calls P f args W λe w'=>∃v,e = .returned v/\(v=v0/\Ab W w' [old W])):Calls P f args W λe w'=>e = .returned v0/\Ja W w':=
 h.mono λ_ _ ⟨_,he,hv,hs⟩=>⟨by rw[he,hv],hs.keptO⟩
end Go.Hb
namespace Go.Hb
def okB(c:Int):Prop:=(97<=c/\c<=122)\/(65<=c/\c<=90)\/(48<=c/\c<=57)\/c=95\/c=45\/c=46\/c=47\/c=58
instance {c:Int}:Decidable (okB c):=by unfold okB;infer_instance
def D3(s:BA):Bool:=decide (1<=s.size/\s.size<=24/\∀j,j<s.size->okB (AG s j))
theorem Ep{s:BA}(h:D3 s=true):s.size<=24:=(of_decide_eq_true h).2.1
abbrev TT:=List (BA×(BA×Int))
def GW:Rec (BA×(BA×Int)):=⟨3,λe=>[.s e.1,.s e.2.1,.i e.2.2],λ_=>rfl⟩
instance:OkR GW:=⟨λ_=>rfl⟩
instance:Gv GW:=⟨by decide⟩
instance {k v:BA} {e:Int}:Ln GW [.s k,.s v,.i e] (k,(v,e)):=⟨rfl⟩
structure IV(r:TT):Prop where
 rise:Ci r
 small:∀e∈r,e.1.size<4611686018427387904
 ends:∀e∈r,0<=e.2.2
def JB(e now:Int):Bool:=decide (e≠0/\e<=now)
def Dy(r:TT)(k:BA)(now:Int):BA×Bool:=match AC r k with
 | some v=>if JB v.2 now then (⟨#[]⟩,false) else (v.1,true)
 | none=>(⟨#[]⟩,false)
def Cq(r:TT)(now:Int):List BA:=(r.filter λe=>JB e.2.2 now).map (·.1)
def E7(k v:BA)(now life:Int):Int:=if D3 k=false then 2 else if 64<(v.size:Int) then 3 else if now<0\/1125899906842624<now\/life<0\/1099511627776<life then 1 else 0
def GZ(now life:Int):Int:=if 0<life then now+life else 0
def EY(r:TT)(k v:BA)(now life:Int):TT:=if E7 k v now life=0 then G4 r k (v,GZ now life) else r
def Gp(r:TT)(k v:BA)(now life:Int):Bool:=decide (E7 k v now life=0) && (AC r k).isNone
theorem Ms{k v:BA}{now life:Int}(h:E7 k v now life=0):D3 k=true/\(v.size:Int)<=64/\0<=now/\now<=1125899906842624/\0<=life/\life<=1099511627776:=by
 unfold E7 at h;split at h
 ·omega
 ·rename_i h1;split at h
  ·omega
  ·split at h
   ·omega
   ·exact⟨by simpa using h1,by omega,by omega,by omega,by omega,by omega⟩
theorem Sb{r:TT}{k:BA}{v:BA×Int}{e:BA×(BA×Int)}(hr:Ci r)(h:e∈G4 r k v):e∈r\/e=(k,v):=by
 have h2:=(Ih (v:=v) hr).mem_iff.1 h;unfold CE at h2;split at h2
 ·unfold Fg at h2;obtain⟨a,ha,h3⟩:=List.mem_map.1 h2;split at h3
  ·exact .inr h3.symm
  ·exact .inl (h3 ▸ ha)
 ·rcases List.mem_cons.1 h2 with h3|h3
  ·exact .inr h3
  ·exact .inl h3
theorem Aui{r:TT}{k:BA}{v:BA×Int}(hr:Ci r):(G4 r k v).length<=r.length+1:=by
 rw[(Ih (v:=v) hr).length_eq];exact Aty _ _ _
theorem IV.put{r:TT}(h:IV r)(k v:BA)(now life:Int):IV (EY r k v now life):=by
 unfold EY;split
 ·rename_i he;obtain⟨h1,h2,h3,h4,h5,h6⟩:=Ms he;have hk:=Ep h1;have hend:0<=GZ now life:=by unfold GZ;split <;> omega
  refine⟨JY h.rise,λe he=>?_,λe he=>?_⟩
  ·rcases Sb h.rise he with he|rfl
   ·exact h.small e he
   ·simp only;omega
  ·rcases Sb h.rise he with he|rfl
   ·exact h.ends e he
   ·exact hend
 ·exact h
theorem Au8{r:TT}(h:IV r)(k v:BA)(now life:Int):(EY r k v now life).length<=r.length+1:=by
 unfold EY;split
 ·exact Aui h.rise
 ·omega
theorem IV.del{r:TT}(h:IV r)(k:BA):IV (CY r k):=by
 refine⟨MP h.rise,λe he=>?_,λe he=>?_⟩
 ·rw[FX h.rise] at he;exact h.small e (List.mem_filter.1 he).1
 ·rw[FX h.rise] at he;exact h.ends e (List.mem_filter.1 he).1
theorem Ig{r:TT}(h:IV r)(k:BA):(CY r k).length<=r.length:=by rw[FX h.rise];exact A2h _ _
theorem Agb{r:TT}(h:Ci r):Fz (r.map (·.1))=r.map (·.1):=Au4 (List.Perm.refl _) h
theorem Auj{e now:Int}(h:0<=e):(decide (e>0) && decide (e<=now))=JB e now:=by
 unfold JB;rw[Bool.eq_iff_iff];simp only[Bool.and_eq_true,decide_eq_true_eq];omega
def tabR(b:Nat)(r:TT):HP:=Ks λ(xb:Nat)=>F6 (IV r) (AO [blk b [pq xb 0],ixr Rec.si xb 0 r])
def rtR(b:Nat)(r:TT):HP:=Ks λ(s:Sl)=>AO [blk b [.l s.a s.n s.c],recs GW s r]
section
variable{b:Nat}{m r:TT}{W w:World}{M L:List HP}
instance At.tabR:At (tabR b r::L) b (tabR b r) (λx=>x::L):=⟨DU⟩
instance At.rtR:At (rtR b r::L) b (rtR b r) (λx=>x::L):=⟨DU⟩
theorem Ka(h:Ab W w (rtR b m::M)):∃s:Sl,(s.n=m.length/\s.n<=s.c)/\Ab W w (blk b [.l s.a s.n s.c]::recs GW s m::M):=by
 obtain⟨s,h⟩:=h.openE;have h:=h.openL;have h:Ab W w (blk b [.l s.a s.n s.c]::recs GW s m::M):=h;exact⟨s,BV (s:=s) h,h⟩
theorem Fw(s:Sl)(h:Ab W w (blk b [.l s.a s.n s.c]::recs GW s m::M)):Ab W w (rtR b m::M):=Ab.shutE s (Ab.shutL (Ps:=[_,_]) h)
theorem Gf(h:Ab W w (tabR b r::M)):∃xb,IV r/\Ab W w (blk b [pq xb 0]::ixr Rec.si xb 0 r::M):=by
 obtain⟨xb,h⟩:=h.openE;obtain⟨hi,h⟩:=h.openA;exact⟨xb,hi,h.openL⟩
theorem Ex{xb:Nat}(hi:IV r)(h:Ab W w (blk b [pq xb 0]::ixr Rec.si xb 0 r::M)):Ab W w (tabR b r::M):=Ab.shutE xb (Ab.shutA hi (Ab.shutL (Ps:=[_,_]) h))
end
end Go.Hb
namespace Go.Proofs.YtjipofkjmmpjdaaGreat
open Go.Hb Go.IntWalk
section
variable{W w:World}{L M:List HP}{F:HP->List HP}{b:Nat}{m r:TT}{k v:BA}{now life:Int}
theorem Oq(c:Nat)(hc:c<256):(Lib.indexByte DC.data.toList ((c:Int)).toNat.toUInt8<0)↔¬((c:Int)=95\/(c:Int)=45\/(c:Int)=46\/(c:Int)=47\/(c:Int)=58):=by
 have h:∀c:Fin 256,(Lib.indexByte DC.data.toList (((c.val:Nat):Int)).toNat.toUInt8<0)↔¬(((c.val:Nat):Int)=95\/((c.val:Nat):Int)=45\/((c.val:Nat):Int)=46\/((c.val:Nat):Int)=47\/((c.val:Nat):Int)=58):=by decide +kernel
 exact h ⟨c,hc⟩
theorem Ajd(s:BA)(i:Nat):∃c:Nat,c<256/\AG s i=(c:Int):=⟨((s.data.toList[i]?).getD 0).toNat,UInt8.toNat_lt _,rfl⟩
theorem A64(hs:Ab W w L){c:Int}{s:BA}:Calls PR 157 #[.s s,.int .u8 c] w λe w'=>e = .returned (.i (Lib.indexByte s.data.toList c.toNat.toUInt8))/\Ab W w' L:=by
 refine(Tryz.strings_IndexByte s c w).mono λe w' h=>?_;exact⟨h.1,by rw[h.2];exact hs⟩
theorem Ain(hs:Ab W w L):Calls PR 118 #[.s k] w λe w'=>e = .returned (.b (D3 k))/\Ab W w' L:=by
 refine c1 (cw ⟨mixed,Tryz.func118,rfl⟩ Anx ?_)
 with_reducible refine Bg (λh1=>?_) (λh1=>?_)
 ·have:D3 k=false:=decide_eq_false λh=>by omega
  exact⟨by rw[this],hs⟩
 with_reducible refine Bg (λh2=>?_) (λh2=>?_)
 ·have:D3 k=false:=decide_eq_false λh=>by omega
  exact⟨by rw[this],hs⟩
 refine jw Yh ?_;have loop:∀(f i:Nat)(w:World),i+f=k.size->(∀j,j<i->okB (AG k j))->Ab W w L->CU By (λv w'=>v = .b (D3 k)/\Ab W w' L) (f+1) k (k.size:Int) (i:Int) w:=by
  intro f
  induction f with
  | zero=>
   intro i w hi hok hs;rw[Ni];refine Ac (decide_eq_false (by omega)) ?_;refine jw Yi ?_;have:D3 k=true:=decide_eq_true ⟨by omega,by omega,λj hj=>hok j (by omega)⟩;exact⟨by rw[this],hs⟩
  | succ f ih=>
   intro i w hi hok hs;rw[Ni];refine Ak (decide_eq_true (by omega)) (Az (by omega) ?_);rw[Int.toNat_natCast];have next:∀w,okB (AG k i)->Ab W w L->CU By (λv w'=>v = .b (D3 k)/\Ab W w' L) (f+1) k (k.size:Int) (IntKind.wrap .i64 ((i:Int)+1)) w:=by
    intro w h hs;rw[i64_in _ (by omega)];refine ih (i+1) w (by omega) (λj hj=>?_) hs
    by_cases hji:j=i
    ·subst hji;exact h
    ·exact hok j (by omega)
   have bad:¬okB (AG k i)->D3 k=false:=λh=>decide_eq_false λh2=>h (h2.2.2 i (by omega));have look:∀(K1 K2:WP),K1=(λw'=>Value.bool false = .b (D3 k)/\Ab W w' L)->K2=(CU By (λv w'=>v = .b (D3 k)/\Ab W w' L) (f+1) k (k.size:Int) (IntKind.wrap .i64 ((i:Int)+1))) ->
     ¬(97<=AG k i/\AG k i<=122)->¬(65<=AG k i/\AG k i<=90)->¬(48<=AG k i/\AG k i<=57)->call1 (.int .i64) PR 157 [.s DC,.int .u8 (AG k i)] (λ(x_1:Int)=>Aj (decide (x_1<(0:Int))) K1 K2) w:=by
    intro K1 K2 e1 e2 n1 n2 n3;subst e1 e2;refine An (A64 hs) λe w ⟨he,hs⟩=>⟨_,he,?_⟩;obtain⟨c,hc,hb⟩:=Ajd k i;have hx:=Oq c hc;rw[<- hb] at hx
    with_reducible refine Bg (λh5=>?_) (λh5=>?_)
    ·have h6:=hx.1 h5;refine⟨by rw[bad (by unfold okB;omega)],hs⟩
    ·refine next w ?_ hs
     have h6:¬ ¬_:=λh=>h5 (hx.2 h);unfold okB;omega
   generalize hbt:AG k i=c at *;have look:=λn1 n2 n3=>look _ _ rfl rfl n1 n2 n3;have next:=next w
   repeat' first
    | with_reducible refine Bg (λh9=>?_) (λh9=>?_)
    | with_reducible refine De (λh9=>?_) (λh9=>?_)
   all_goals first
    | (with_reducible exact look (by omega) (by omega) (by omega))
    | (with_reducible exact next (by unfold okB;omega) hs)
 exact⟨k.size+1,loop k.size 0 w (by omega) (λj hj=>by omega) hs⟩
set_option maxHeartbeats 1000000 in
set_option maxRecDepth 100000 in
theorem A20(hs:Ab W w L):Calls PR 11 #[.s k] w λe w'=>e = .returned (.b (D3 k))/\Ab W w' L:=by
 refine c1 (cw ⟨mixed,Tryz.func11,rfl⟩ Awn ?_);have fin:∀w,(k.size<=24->∀j,j<k.size->okB (AG k j))->Ab W w L->Ac8 By (λv w'=>v = .b (D3 k)/\Ab W w' L) k w:=by
  intro w h hs;refine jw Ac9 ?_
  with_reducible refine CF (λh1=>?_) (λh1=>?_)
  ·refine⟨?_,hs⟩;congr 1;unfold D3;rw[Bool.eq_iff_iff,decide_eq_true_eq,decide_eq_true_eq];constructor
   ·intro h2;exact⟨by omega,by omega,h (by omega)⟩
   ·intro h2;omega
  ·have:D3 k=false:=decide_eq_false λh=>by omega
   exact⟨by rw[this],hs⟩
 obtain⟨N,hN⟩:∃N:Nat,N=25:=⟨_,rfl⟩;have loop:∀(f i:Nat)(w:World),i+f=N->(∀j,j<i->j<k.size->okB (AG k j))->Ab W w L->H9 By (λv w'=>v = .b (D3 k)/\Ab W w' L) (f+1) k (i:Int) w:=by
  intro f
  induction f with
  | zero=>
   intro i w hi hok hs;rw[QD]
   with_reducible refine Bg (λh1=>?_) (λh1=>?_)
   ·with_reducible refine CF (λh2=>absurd h2 (by omega)) (λh2=>?_)
    with_reducible exact fin w (λh j hj=>by omega) hs
   ·with_reducible exact fin w (λh j hj=>hok j (by omega) hj) hs
  | succ f ih=>
   intro i w hi hok hs;rw[QD]
   with_reducible refine Bg (λh1=>?_) (λh1=>?_)
   ·with_reducible refine CF (λh2=>?_) (λh2=>?_)
    ·refine jw Ac6 ?_;refine Az (by omega) ?_;rw[Int.toNat_natCast];have next:∀w,okB (AG k i)->Ab W w L->H9 By (λv w'=>v = .b (D3 k)/\Ab W w' L) (f+1) k (IntKind.wrap .i64 ((i:Int)+1)) w:=by
      intro w h hs;rw[i64_in _ (by omega)];refine ih (i+1) w (by omega) (λj hj hj2=>?_) hs
      by_cases hji:j=i
      ·subst hji;exact h
      ·exact hok j (by omega) hj2
     have bad:¬okB (AG k i)->D3 k=false:=λh=>decide_eq_false λh2=>h (h2.2.2 i (by omega));generalize hbt:AG k i=c at *;have j3:∀(t:Bool),t=decide ((97<=c/\c<=122)\/(65<=c/\c<=90)\/(48<=c/\c<=57))->Gm By (λv w'=>v = .b (D3 k)/\Ab W w' L) (f+1) k (i:Int) c t w:=by
      intro t ht;refine jw Ac7 ?_;rw[ht];have next:=next w
      with_reducible refine C5 (λh3=>?_) (λh3=>?_)
      ·repeat' first
        | with_reducible refine CW (λh9=>?_) (λh9=>?_)
       all_goals first
        | (with_reducible exact next (by unfold okB;omega) hs)
        | exact⟨by rw[bad (by unfold okB;omega)],hs⟩
      ·with_reducible exact next (by unfold okB;omega) hs
     repeat' first
      | with_reducible refine Dd (λh9=>?_) (λh9=>?_)
      | with_reducible refine CF (λh9=>?_) (λh9=>?_)
     all_goals
      with_reducible refine j3 _ ?_
      symm
      first
       | (rw[decide_eq_true_eq];omega)
       | (rw[decide_eq_false_iff_not];omega)
       | (rw[Bool.eq_iff_iff,decide_eq_true_eq,decide_eq_true_eq];omega)
    ·with_reducible exact fin w (λh j hj=>hok j (by omega) hj) hs
   ·with_reducible exact fin w (λh j hj=>hok j (by omega) hj) hs
 exact⟨N+1,loop N 0 w (by omega) (λj hj=>by omega) hs⟩
theorem Ai0(hs:Ab W w L):Calls PR 77 #[] w λe w'=>∃b,e = .returned (pq b 0)/\Ab W w' (tabR b []::L):=by
 refine(cw ⟨mixed,Tryz.func77,rfl⟩ A1a (Q:=λv w'=>∃b,v=pq b 0/\Ab W w' (tabR b []::L)) ?_).mono λe w' ⟨v,he,b,hv,hs⟩=>⟨b,by rw[he,hv],hs⟩;refine(Amj hs).mono λe w ⟨xb,he,hs⟩=>⟨_,he,?_⟩
 repeat (first|((with_reducible refine Bf ?_);first|refine Ah hs λb_ w hs=>?_|fail)|fail)
 exact⟨_,rfl,Ex (xb:=xb) ⟨by simp[Ci,Ei],by simp,by simp⟩ hs⟩
set_option maxRecDepth 100000 in
theorem Xx(h:Ab W w L)[hA:At L b (tabR b r) F](hm:r.length<800000000):Calls PR 89 #[pq b 0,.s k,.s v,.i now,.i life] w λe w'=>e = .returned (.tuple #[.b (Gp r k v now life),.i (E7 k v now life)])/\Ab W w' (F (tabR b (EY r k v now life))):=by
 refine At.call1 (hA:=hA) h λM hs=>?_;clear h hA;refine c1 (cw ⟨mixed,Tryz.func89,rfl⟩ A1m ?_);refine Ac rfl ?_;have bad:∀(e:Int),e≠0->E7 k v now life=e->Gp r k v now life=false/\EY r k v now life=r:=λe he h=>by
  unfold Gp EY;rw[h,if_neg he,decide_eq_false he];exact⟨rfl,rfl⟩
 refine An (Ain hs) λe w ⟨he,hs⟩=>⟨_,he,?_⟩;refine Al (λh1=>?_) (λh1=>?_)
 ·have h1:D3 k=false:=by simpa using h1
  have e1:E7 k v now life=2:=if_pos h1;obtain⟨b1,b2⟩:=bad 2 (by omega) e1;rw[b1,b2,e1];exact⟨rfl,hs⟩
 have h1:¬D3 k=false:=by simpa using h1
 with_reducible refine Bg (λh2=>?_) (λh2=>?_)
 ·have e1:E7 k v now life=3:=by unfold E7;rw[if_neg h1,if_pos (by omega)]
  obtain⟨b1,b2⟩:=bad 3 (by omega) e1;rw[b1,b2,e1];exact⟨rfl,hs⟩
 have e1:E7 k v now life=if now<0\/1125899906842624<now\/life<0\/1099511627776<life then 1 else 0:=by unfold E7;rw[if_neg h1,if_neg (by omega)]
 have one:(now<0\/1125899906842624<now\/life<0\/1099511627776<life)->(Value.tuple #[.b false,.i 1] = .tuple #[.b (Gp r k v now life),.i (E7 k v now life)])/\Ab W w (tabR b (EY r k v now life)::M):=by
  intro h;rw[if_pos h] at e1;obtain⟨b1,b2⟩:=bad 1 (by omega) e1;rw[b1,b2,e1];exact⟨rfl,hs⟩
 with_reducible refine Bg (λh3=>?_) (λh3=>?_)
 ·exact one (.inl h3)
 with_reducible refine Bg (λh4=>?_) (λh4=>?_)
 ·exact one (.inr (.inl h4))
 with_reducible refine Bg (λh5=>?_) (λh5=>?_)
 ·exact one (.inr (.inr (.inl h5)))
 with_reducible refine Bg (λh6=>?_) (λh6=>?_)
 ·exact one (.inr (.inr (.inr h6)))
 rw[if_neg (by omega)] at e1;have hkz:=Ep (s:=k) (by simpa using h1);have hok:=(Gf hs);obtain⟨xb,hi,hs⟩:=hok;have hput:=hi.put k v now life;have e2:EY r k v now life=G4 r k (v,GZ now life):=if_pos e1;have e3:Gp r k v now life=(AC r k).isNone:=by unfold Gp;rw[e1];rfl
 rw[e2] at hput ⊢;rw[e3,e1];refine jw Ae5 ?_;have j2:∀(vb:Nat)(w:World),Ab W w (blk vb [.s v,.i (GZ now life)]::blk b [pq xb 0]::ixr Rec.si xb 0 r::M)->Ae6 By (λv' w'=>v' = .tuple #[.b (AC r k).isNone,.i 0]/\Ab W w' (tabR b (G4 r k (v,GZ now life))::M)) (some ⟨b,0,none⟩) k vb 0 w:=by
  intro vb w hs;refine jw Ae7 ?_
  repeat (first|with_reducible refine Aa ?_|((with_reducible refine Ax ?_);first|refine Ag hs ?_|fail)|((with_reducible refine AX ?_);first|refine Am ?_|fail)|((with_reducible refine AA ?_);first|refine A9 hs ?_|fail)|((with_reducible refine AZ ?_);first|refine As hs λw hs=>?_|fail)|fail)
  refine An (Amk (v:=(v,GZ now life)) hs (by omega) hi.small (by omega)) λe w ⟨he,hs⟩=>⟨_,he,?_⟩;have hs:Ab W w (ixr Rec.si xb 0 (CE r k (v,GZ now life))::blk b [pq xb 0]::M):=by exact Ab.fin hs
  have hs:=As6 (Ih (v:=(v,GZ now life)) hi.rise).symm hs;exact⟨rfl,Ex hput (by exact Ab.fin hs)⟩
 unfold GZ at j2 ⊢
 repeat (first|((with_reducible refine AS ?_);first|refine A0 hs λw hs=>?_|fail)|((with_reducible refine Bf ?_);first|refine Ah hs λb_ w hs=>?_|fail)|fail)
 with_reducible refine Bg (λh7=>?_) (λh7=>?_)
 ·repeat (first|((with_reducible refine AS ?_);first|refine A0 hs λw hs=>?_|fail)|fail)
  rw[i64_in _ (by omega)] at hs;rw[if_pos h7] at j2 ⊢;exact j2 _ w hs
 ·rw[if_neg h7] at j2 ⊢;exact j2 _ w hs
theorem Aip(hs:Ab W w L){e0:Int}:Calls PR 121 #[.agg #[.s v,.i e0],.i now] w λe w'=>e = .returned (.b (JB e0 now))/\Ab W w' L:=by
 refine c1 (cw ⟨mixed,Tryz.func121,rfl⟩ An3 ?_)
 repeat (first|((with_reducible refine Ax ?_);first|refine Ag hs ?_|fail)|((with_reducible refine Bf ?_);first|refine Ah hs λb_ w hs=>?_|fail)|fail)
 with_reducible refine CW (λh1=>?_) (λh1=>?_)
 ·repeat (first|((with_reducible refine Ax ?_);first|refine Ag hs ?_|fail)|fail)
  refine⟨?_,by exact Ab.fin hs⟩;congr 1;unfold JB;rw[Bool.eq_iff_iff,decide_eq_true_eq,decide_eq_true_eq];constructor
  ·intro h;exact⟨h1,h⟩
  ·intro h;exact h.2
 ·refine⟨?_,by exact Ab.fin hs⟩;congr 1;symm;unfold JB;rw[decide_eq_false_iff_not];omega
theorem Aiy(h:Ab W w L)[hA:At L b (tabR b r) F](hz:k.size<4611686018427387904):Calls PR 85 #[pq b 0,.s k,.i now] w λe w'=>e = .returned (.tuple #[.s (Dy r k now).1,.b (Dy r k now).2])/\Ab W w' (F (tabR b r)):=by
 refine At.call1 (hA:=hA) h λM hs=>?_;clear h hA;refine c1 (cw ⟨mixed,Tryz.func85,rfl⟩ A1i ?_);obtain⟨xb,hi,hs⟩:=Gf hs;refine Ac rfl ?_
 repeat (first|with_reducible refine Aa ?_|((with_reducible refine Ax ?_);first|refine Ag hs ?_|fail)|fail)
 refine(Kh hs hz).mono λe w ⟨he,hs⟩=>⟨_,_,_,he,?_⟩
 repeat (first|((with_reducible refine AS ?_);first|refine A0 hs λw hs=>?_|fail)|((with_reducible refine Bf ?_);first|refine Ah hs λb_ w hs=>?_|fail)|fail)
 unfold Dy;cases hg:AC r k with
 | none=>
  rw[hg] at hs;exact Ak rfl ⟨rfl,Ex hi (by exact Ab.fin hs)⟩
 | some x=>
  rw[hg] at hs;refine Ac rfl ?_;simp only[Option.getD_some] at hs
  repeat (first|((with_reducible refine Ax ?_);first|refine Ag hs ?_|fail)|fail)
  refine An (Aip hs) λe w ⟨he,hs⟩=>⟨_,he,?_⟩;refine Al (λh1=>?_) (λh1=>?_)
  ·simp only[h1,if_true];exact⟨rfl,Ex hi (by exact Ab.fin hs)⟩
  ·repeat (first|((with_reducible refine Ax ?_);first|refine Ag hs ?_|fail)|fail)
   simp only[h1,Bool.false_eq_true,if_false];exact⟨trivial,Ex hi (by exact Ab.fin hs)⟩
theorem Aiz(h:Ab W w L)[hA:At L b (tabR b r) F](hz:k.size<4611686018427387904):Calls PR 90 #[pq b 0,.s k] w λe w'=>e = .returned (.b (AC r k).isSome)/\Ab W w' (F (tabR b r)):=by
 refine At.call1 (hA:=hA) h λM hs=>?_;clear h hA;refine c1 (cw ⟨mixed,Tryz.func90,rfl⟩ A1n ?_);obtain⟨xb,hi,hs⟩:=Gf hs;refine Ac rfl ?_
 repeat (first|with_reducible refine Aa ?_|((with_reducible refine Ax ?_);first|refine Ag hs ?_|fail)|fail)
 refine(Kh hs hz).mono λe w ⟨he,hs⟩=>⟨_,_,_,he,?_⟩
 repeat (first|((with_reducible refine AS ?_);first|refine A0 hs λw hs=>?_|fail)|((with_reducible refine Bf ?_);first|refine Ah hs λb_ w hs=>?_|fail)|fail)
 exact⟨rfl,Ex hi (by exact Ab.fin hs)⟩
theorem S7(h:Ab W w L)[hA:At L b (tabR b r) F](hz:k.size<4611686018427387904)(hm:r.length<800000000):Calls PR 96 #[pq b 0,.s k] w λe w'=>e = .returned (.b (AC r k).isSome)/\Ab W w' (F (tabR b (CY r k))):=by
 refine At.call1 (hA:=hA) h λM hs=>?_;clear h hA;refine c1 (cw ⟨mixed,Tryz.func96,rfl⟩ A1t ?_);obtain⟨xb,hi,hs⟩:=Gf hs;refine Ac rfl ?_
 repeat (first|with_reducible refine Aa ?_|((with_reducible refine Ax ?_);first|refine Ag hs ?_|fail)|fail)
 refine(X0 hs hz (by omega)).mono λe w ⟨he,hs⟩=>⟨_,_,_,he,?_⟩
 repeat (first|((with_reducible refine AS ?_);first|refine A0 hs λw hs=>?_|fail)|((with_reducible refine Bf ?_);first|refine Ah hs λb_ w hs=>?_|fail)|fail)
 rw[<- FX hi.rise] at hs;exact⟨rfl,Ex (hi.del k) (by exact Ab.fin hs)⟩
theorem Au9(h:Ab W w L)[hA:At L b (tabR b r) F](hm:r.length<800000000):Calls PR 41 #[pq b 0] w λe w'=>∃l:Sl,e = .returned (.l l.a l.n l.c)/\Ab W w' (recs Rec.str l (r.map (·.1))::F (tabR b r)):=by
 refine At.oneX (hA:=hA) h λM hs hb=>?_;refine(cw ⟨mixed,Tryz.func41,rfl⟩ A0c (Q:=λv w'=>∃l:Sl,v = .l l.a l.n l.c/\Ab W w' (tabR b r::recs Rec.str l (r.map (·.1))::M)) ?_).mono λe w' ⟨v,he,l,hv,hs⟩=>⟨l,by rw[he,hv],?_⟩
 ·skip;obtain⟨xb,hi,hs⟩:=Gf hs;refine Ac rfl ?_
  repeat (first|with_reducible refine Aa ?_|((with_reducible refine Ax ?_);first|refine Ag hs ?_|fail)|fail)
  refine(Agk hs (by omega)).mono λe w ⟨l,he,hs⟩=>⟨_,he,?_⟩;rw[Agb hi.rise] at hs;exact⟨l,rfl,Ex hi (by exact Ab.fin hs)⟩
 ·exact hb _ _ [recs Rec.str l (r.map (·.1))] hs
theorem A3h(h:Ab W w L)[hA:At L b (tabR b r) F]:Calls PR 40 #[pq b 0] w λe w'=>e = .returned (.i (r.length:Int))/\Ab W w' (F (tabR b r)):=by
 refine At.call1 (hA:=hA) h λM hs=>?_;clear h hA;refine c1 (cw ⟨mixed,Tryz.func40,rfl⟩ A0b ?_);obtain⟨xb,hi,hs⟩:=Gf hs;refine Ac rfl ?_
 repeat (first|with_reducible refine Aa ?_|((with_reducible refine Ax ?_);first|refine Ag hs ?_|fail)|fail)
 refine An (Ami hs) λe w ⟨he,hs⟩=>⟨_,he,?_⟩;exact⟨rfl,Ex hi (by exact Ab.fin hs)⟩
theorem A8e(h:Ab W w L)[hA:At L b (tabR b r) F]:IV r:=At.one (hA:=hA) h λM hs _=>by
 obtain⟨xb,hi,hs⟩:=Gf hs;exact hi
theorem Atx{r:TT}(h:IV r){i:Nat}(hi:i<r.length):AC r (r.getD i default).1=some (r.getD i default).2:=by
 rw[Ck h.rise.nodup];rw[List.getD_eq_getElem?_getD,List.getElem?_eq_getElem hi];exact List.getElem_mem hi
theorem Al9{r:TT}{i:Nat}(hi:i<r.length):Cq (r.take (i+1)) now=Cq (r.take i) now++(if JB (r.getD i default).2.2 now then [(r.getD i default).1] else []):=by
 unfold Cq;rw[CA hi,List.filter_append,List.map_append];congr 1;rw[List.filter_cons];split <;> rfl
theorem Au6(r:TT)(i:Nat):(Cq (r.take i) now).length<=i:=by
 unfold Cq;rw[List.length_map];exact Nat.le_trans (List.length_filter_le _ _) (by simp;omega)
theorem A3g(h:Ab W w L)[hA:At L b (tabR b r) F](hm:r.length<800000000):Calls PR 98 #[pq b 0,.i now] w λe w'=>∃l:Sl,e = .returned (.l l.a l.n l.c)/\Ab W w' (recs Rec.str l (Cq r now)::F (tabR b r)):=by
 refine At.oneX (hA:=hA) h λM hs hb=>?_;refine(cw ⟨mixed,Tryz.func98,rfl⟩ A1v (Q:=λv w'=>∃l:Sl,v = .l l.a l.n l.c/\Ab W w' (tabR b r::recs Rec.str l (Cq r now)::M)) ?_).mono λe w' ⟨v,he,l,hv,hs⟩=>⟨l,by rw[he,hv],?_⟩
 ·skip;refine(Au9 hs hm).mono λe w ⟨ks,he,hs⟩=>⟨_,he,?_⟩;have hn:=Bt (s:=ks) hs;rw[List.length_map] at hn;have hi:=A8e (b:=b) (r:=r) hs;have hs:=Ab.nilR Rec.str hs;have loop:∀(f i:Nat)(w:World)(acc:Sl),i+f=r.length->Ab W w (recs Rec.str acc (Cq (r.take i) now)::recs Rec.str ks (r.map (·.1))::tabR b r::M) ->
    Ri By (λv w'=>∃l:Sl,v = .l l.a l.n l.c/\Ab W w' (tabR b r::recs Rec.str l (Cq r now)::M)) (f+1) (some ⟨b,0,none⟩) now acc ks (ks.n:Int) (i:Int) w:=by
   intro f
   induction f with
   | zero=>
    intro i w acc hif hs;rw[Rj];refine Ac (decide_eq_false (by omega)) ?_;refine jw Afc ?_;rw[List.take_of_length_le (by omega)] at hs;exact⟨acc,rfl,by exact Ab.fin hs⟩
   | succ f ih=>
    intro i w acc hif hs;rw[Rj];refine Ak (decide_eq_true (by omega)) ?_;have hlk:(r.map (·.1)).length=r.length:=by simp
    repeat (first|with_reducible refine Aa ?_|((with_reducible refine Ax ?_);first|refine Bb hs ?_|fail)|((with_reducible refine AM ?_);first|refine AK hs λb_ o_ hs=>?_|fail)|fail)
    rw[Int.toNat_natCast];have hk:(r.map (·.1)).getD i default=(r.getD i default).1:=by
     rw[List.getD_eq_getElem?_getD,List.getD_eq_getElem?_getD,List.getElem?_map,List.getElem?_eq_getElem (by omega)];rfl
    rw[hk];have hmem:r.getD i default∈r:=by rw[List.getD_eq_getElem?_getD,List.getElem?_eq_getElem (by omega)];exact List.getElem_mem _
    have hsz:=hi.small _ hmem;have hg:=Atx hi (i:=i) (by omega);have Li:=Au6 (now:=now) r i;have hds:=Al9 (now:=now) (r:=r) (i:=i) (by omega);have hs:Ab W w (tabR b r::recs Rec.str acc (Cq (r.take i) now)::recs Rec.str ks (r.map (·.1))::M):=by exact Ab.fin hs
    obtain⟨xb,_,hs⟩:=Gf hs
    repeat (first|((with_reducible refine Ax ?_);first|refine Ag hs ?_|fail)|fail)
    refine(Kh hs hsz).mono λe w ⟨he,hs⟩=>⟨_,_,_,he,?_⟩
    repeat (first|((with_reducible refine Ax ?_);first|refine Ag hs ?_|fail)|((with_reducible refine AS ?_);first|refine A0 hs λw hs=>?_|fail)|((with_reducible refine Bf ?_);first|refine Ah hs λb_ w hs=>?_|fail)|fail)
    refine An (Aip hs) λe w ⟨he,hs⟩=>⟨_,he,?_⟩;rw[hg,Option.getD_some];refine Al (λh1=>?_) (λh1=>?_)
    ·repeat (first|((with_reducible refine Bf ?_);first|refine Ah hs λb_ w hs=>?_|fail)|fail)
     refine Cf (s:=acc) (a:=(r.getD i default).1) hs rfl rfl rfl rfl (by decide) (by omega) λs4 w hs4 hs=>?_;rw[i64_in _ (by omega)];refine ih (i+1) w s4 (by omega) ?_;rw[hds,h1];have hs:=Ex (b:=b) (r:=r) (xb:=xb) (M:=recs Rec.str s4 (Cq (r.take i) now++[(r.getD i default).1])::recs Rec.str ks (r.map (·.1))::M) hi (by exact Ab.fin hs);exact Ab.fin hs
    ·rw[i64_in _ (by omega)];refine ih (i+1) w acc (by omega) ?_;rw[hds,h1];have hs:=Ex (b:=b) (r:=r) (xb:=xb) (M:=recs Rec.str acc (Cq (r.take i) now)::recs Rec.str ks (r.map (·.1))::M) hi (by exact Ab.fin hs);simp only[Bool.false_eq_true,if_false,List.append_nil];exact Ab.fin hs
  refine⟨r.length+1,?_⟩;exact loop r.length 0 w ⟨none,0,0⟩ (by omega) hs
 ·exact hb _ _ [recs Rec.str l (Cq r now)] hs
theorem Amw{V:Type}[Inhabited V]{m:List (BA×V)}{i:Nat}(h:i<m.length):m.drop i=m.getD i default::m.drop (i+1):=by
 rw[List.getD_eq_getElem?_getD,List.getElem?_eq_getElem h];simp
theorem Xm(h:Ab W w L)[hA:At L b (rtR b m) F](hm:m.length<1000000000):Calls PR 111 #[pq b 0,.s k] w λe w'=>e = .returned (.tuple #[.i ((Iq m k).1:Int),.b (Iq m k).2])/\Ab W w' (F (rtR b m)):=by
 refine At.call1 (hA:=hA) h λM hs=>?_;clear h hA;refine c1 (cw ⟨mixed,Tryz.func111,rfl⟩ Anq ?_);obtain⟨s,⟨hn,hc⟩,hs⟩:=Ka hs;have loop:∀(f i:Nat)(w:World),i+f=m.length->i+(Iq (m.drop i) k).1=(Iq m k).1->(Iq (m.drop i) k).2=(Iq m k).2->Ab W w (blk b [.l s.a s.n s.c]::recs GW s m::M) ->
   Pf By (λv w'=>v = .tuple #[.i ((Iq m k).1:Int),.b (Iq m k).2]/\Ab W w' (rtR b m::M)) (f+1) (some ⟨b,0,none⟩) k (i:Int) w:=by
  intro f
  induction f with
  | zero=>
   intro i w hi h1 h2 hs;rw[Nf]
   repeat (first|with_reducible refine Aa ?_|((with_reducible refine Ax ?_);first|refine Ag hs ?_|fail)|fail)
   refine Ac (decide_eq_false (by omega)) ?_;refine jw Nd ?_
   repeat (first|with_reducible refine Aa ?_|((with_reducible refine Ax ?_);first|refine Ag hs ?_|fail)|((with_reducible refine AZ ?_);first|refine As hs λw hs=>?_|fail)|fail)
   refine Ac (decide_eq_false (by omega)) ?_;rw[List.drop_of_length_le (by omega)] at h1 h2;rw[<- h1,<- h2];exact⟨rfl,Fw s hs⟩
  | succ f ih=>
   intro i w hi h1 h2 hs;have hil:i<m.length:=by omega
   rw[Amw hil] at h1 h2;rw[Nf]
   repeat (first|with_reducible refine Aa ?_|((with_reducible refine Ax ?_);first|refine Ag hs ?_|fail)|fail)
   refine Ak (decide_eq_true (by omega)) ?_
   repeat (first|with_reducible refine Aa ?_|((with_reducible refine Ax ?_);first|refine Ag hs ?_|refine Bb hs ?_|fail)|((with_reducible refine AM ?_);first|refine AK hs λb_ o_ hs=>?_|fail)|fail)
   rw[Int.toNat_natCast];rw[Amv] at h1 h2;refine Al (λh3=>?_) (λh3=>?_)
   ·rw[if_pos h3] at h1 h2;rw[i64_in _ (by omega)];refine ih (i+1) w (by omega) (by simp only[] at h1;omega) (by simpa using h2) (by exact Ab.fin hs)
   ·rw[if_neg (by rw[h3];simp)] at h1 h2;refine jw Nd ?_
    repeat (first|with_reducible refine Aa ?_|((with_reducible refine Ax ?_);first|refine Ag hs ?_|fail)|((with_reducible refine AZ ?_);first|refine As hs λw hs=>?_|fail)|fail)
    refine Ak (decide_eq_true (by omega)) ?_
    repeat (first|with_reducible refine Aa ?_|((with_reducible refine Ax ?_);first|refine Ag hs ?_|refine Bb hs ?_|fail)|((with_reducible refine AM ?_);first|refine BT hs ?_|fail)|fail)
    rw[Int.toNat_natCast,HE];simp only[] at h1 h2;rw[<- h1,<- h2];exact⟨rfl,Fw s (by exact Ab.fin hs)⟩
 refine⟨m.length+1,?_⟩;exact loop m.length 0 w (by omega) (by simp) (by simp) hs
theorem Aun(hs:Ab W w L){e0:Int}(h0:0<=e0):Calls PR 148 #[.agg #[.s k,.s v,.i e0],.i now] w λe w'=>e = .returned (.b (JB e0 now))/\Ab W w' L:=by
 refine c1 (cw ⟨mixed,Tryz.func148,rfl⟩ Aor ?_);rw[<- Auj h0]
 repeat (first|((with_reducible refine Ax ?_);first|refine Ag hs ?_|fail)|((with_reducible refine Bf ?_);first|refine Ah hs λb_ w hs=>?_|fail)|fail)
 with_reducible refine Bg (λh1=>?_) (λh1=>?_)
 ·repeat (first|((with_reducible refine Ax ?_);first|refine Ag hs ?_|fail)|fail)
  rw[decide_eq_true h1];exact⟨rfl,by exact Ab.fin hs⟩
 ·rw[decide_eq_false h1];exact⟨rfl,by exact Ab.fin hs⟩
theorem A2u(h:Ab W w L)[hA:At L b (rtR b m) F](hr:Ci m)(hm:m.length<1000000000):Calls PR 110 #[pq b 0,.s k] w λe w'=>e = .returned (.b (AC m k).isSome)/\Ab W w' (F (rtR b m)):=by
 refine At.call1 (hA:=hA) h λM hs=>?_;clear h hA;refine c1 (cw ⟨mixed,Tryz.func110,rfl⟩ Anp ?_);rw[JV hr];refine AH (Xm hs hm) λe w ⟨he,hs⟩=>⟨_,_,he,?_⟩;refine⟨?_,hs⟩;cases h1:(Iq m k).2 with
 | false=>rfl
 | true=>
  obtain⟨v,hv⟩:=Fk h1;rw[hv];rfl
theorem Air(h:Ab W w L)[hA:At L b (rtR b m) F](hi:IV m)(hm:m.length<1000000000):Calls PR 108 #[pq b 0,.s k,.i now] w λe w'=>e = .returned (.tuple #[.s (Dy m k now).1,.b (Dy m k now).2])/\Ab W w' (F (rtR b m)):=by
 refine At.call1 (hA:=hA) h λM hs=>?_;clear h hA;refine c1 (cw ⟨mixed,Tryz.func108,rfl⟩ Ann ?_);unfold Dy;rw[JV hi.rise];refine AH (Xm hs hm) λe w ⟨he,hs⟩=>⟨_,_,he,?_⟩;refine Al (λh1=>?_) (λh1=>?_)
 ·simp only[Bool.not_eq_true'] at h1;rw[h1];exact⟨rfl,hs⟩
 ·simp only[Bool.not_eq_false'] at h1;rw[h1];obtain⟨v,hv⟩:=Fk h1;have hlt:=(List.getElem?_eq_some_iff.1 hv).1;have hmem:(k,v)∈m:=List.mem_of_getElem? hv;have hgd:m.getD (Iq m k).1 default=(k,v):=by rw[List.getD_eq_getElem?_getD,hv];rfl
  generalize (Iq m k).1=i at *;obtain⟨s,⟨hn,hc⟩,hs⟩:=Ka hs
  repeat (first|with_reducible refine Aa ?_|((with_reducible refine Ax ?_);first|refine Ag hs ?_|refine Bb hs ?_|refine BG hs ?_|refine Cn hs ?_|fail)|((with_reducible refine AM ?_);first|refine AK hs λb_ o_ hs=>?_|fail)|fail)
  rw[Int.toNat_natCast,hgd];refine An (Aun hs (hi.ends _ hmem)) λe w ⟨he,hs⟩=>⟨_,he,?_⟩;rw[hv];simp only[if_true,Option.map_some];refine Al (λh1=>?_) (λh1=>?_)
  ·simp only[h1,if_true];exact⟨rfl,Fw s (by exact Ab.fin hs)⟩
  ·refine jw Yc ?_
   repeat (first|with_reducible refine Aa ?_|((with_reducible refine Ax ?_);first|refine Ag hs ?_|refine BG hs ?_|fail)|((with_reducible refine AM ?_);first|refine BT hs ?_|fail)|fail)
   simp only[h1,Bool.false_eq_true,if_false];rw[Int.toNat_natCast,hgd];exact⟨rfl,Fw s (by exact Ab.fin hs)⟩
theorem Sa(h:Ab W w L)[hA:At L b (rtR b m) F](hr:Ci m)(hm:m.length<1000000000):Calls PR 67 #[pq b 0,.s k] w λe w'=>e = .returned (.b (AC m k).isSome)/\Ab W w' (F (rtR b (CY m k))):=by
 refine At.call1 (hA:=hA) h λM hs=>?_;clear h hA;refine c1 (cw ⟨mixed,Tryz.func67,rfl⟩ A00 ?_);rw[JV hr];unfold CY;refine AH (Xm hs hm) λe w ⟨he,hs⟩=>⟨_,_,he,?_⟩;have hle:=Acs m k;refine Al (λh1=>?_) (λh1=>?_)
 ·rw[h1];obtain⟨u,hu⟩:=Fk h1;have hlt:=(List.getElem?_eq_some_iff.1 hu).1;have hg:(m.getD (Iq m k).1 default)=(k,u):=by rw[List.getD_eq_getElem?_getD,hu];rfl
  generalize (Iq m k).1=i at *;obtain⟨s,⟨hn,hc⟩,hs⟩:=Ka hs;have hwr:IntKind.wrap .i64 ((i:Int)+1)=((i+1:Nat):Int):=by rw[i64_in _ (by omega)];omega
  repeat (first|with_reducible refine Aa ?_|((with_reducible refine Bf ?_);first|refine Ah hs λb_ w hs=>?_|fail)|((with_reducible refine AX ?_);first|refine Am ?_|fail)|((with_reducible refine AA ?_);first|refine Ae hs ?_|fail)|((with_reducible refine Bx ?_);first|refine AW ?_|fail)|((with_reducible refine AZ ?_);first|refine As hs λw hs=>?_|fail)|fail)
  simp only[hwr,Int.toNat_natCast];skip;refine Avl hs GW (rows:=[]) rfl rfl (new:=m.take i) (J7 (s:=s) (E:=GW) (rows:=m) (lo:=0) (c:=s.c) hs (k:=i) (by omega) (by omega) rfl) (by simp;omega) (Cx _) rfl (by decide) (by simp;omega) λs2 w hs2 hs=>?_
  simp only[List.nil_append,List.length_nil,List.length_take,Nat.zero_add] at hs2 hs
  repeat (first|((with_reducible refine AA ?_);first|refine Ae hs ?_|fail)|fail)
  refine DK (s:=s2) (new:=(m.drop (i+1)).take (m.length-(i+1))) hs (J7 (s:=s) (E:=GW) (rows:=m) (lo:=i+1) (c:=s.c) hs (k:=m.length-(i+1)) (by omega) (by omega) (by rw[hn];rfl)) (by simp;omega) (Cx _) rfl (by decide) (by simp;omega) λs3 w hs3 hs=>?_
  repeat (first|with_reducible refine Aa ?_|((with_reducible refine AS ?_);first|refine A0 hs λw hs=>?_|fail)|fail)
  have e:m.take i++(m.drop (i+1)).take (m.length-(i+1))=m.eraseIdx i:=by
   rw[List.eraseIdx_eq_take_drop_succ];congr 1;exact List.take_of_length_le (by simp)
  rw[e] at hs;refine⟨by rw[hu];simp,Fw s3 (by exact Ab.fin hs)⟩
 ·rw[h1];exact⟨rfl,hs⟩
set_option maxRecDepth 100000 in
theorem A2v(h:Ab W w L)[hA:At L b (rtR b m) F](hr:Ci m)(hm:m.length<800000000):Calls PR 68 #[pq b 0,.s k,.s v,.i now,.i life] w λe w'=>e = .returned (.tuple #[.b (Gp m k v now life),.i (E7 k v now life)])/\Ab W w' (F (rtR b (EY m k v now life))):=by
 refine At.call1 (hA:=hA) h λM hs=>?_;clear h hA;refine c1 (cw ⟨mixed,Tryz.func68,rfl⟩ A01 ?_);have bad:∀(e:Int),e≠0->E7 k v now life=e->Gp m k v now life=false/\EY m k v now life=m:=λe he h=>by
  unfold Gp EY;rw[h,if_neg he,decide_eq_false he];exact⟨rfl,rfl⟩
 refine An (A20 hs) λe w ⟨he,hs⟩=>⟨_,he,?_⟩;refine Al (λh1=>?_) (λh1=>?_)
 ·have h1:D3 k=false:=by simpa using h1
  have e1:E7 k v now life=2:=if_pos h1;obtain⟨b1,b2⟩:=bad 2 (by omega) e1;rw[b1,b2,e1];exact⟨rfl,hs⟩
 have h1:¬D3 k=false:=by simpa using h1
 with_reducible refine Bg (λh2=>?_) (λh2=>?_)
 ·have e1:E7 k v now life=3:=by unfold E7;rw[if_neg h1,if_pos (by omega)]
  obtain⟨b1,b2⟩:=bad 3 (by omega) e1;rw[b1,b2,e1];exact⟨rfl,hs⟩
 have e1:E7 k v now life=if now<0\/1125899906842624<now\/life<0\/1099511627776<life then 1 else 0:=by unfold E7;rw[if_neg h1,if_neg (by omega)]
 have one:(now<0\/1125899906842624<now\/life<0\/1099511627776<life)->(Value.tuple #[.b false,.i 1] = .tuple #[.b (Gp m k v now life),.i (E7 k v now life)])/\Ab W w (rtR b (EY m k v now life)::M):=by
  intro h;rw[if_pos h] at e1;obtain⟨b1,b2⟩:=bad 1 (by omega) e1;rw[b1,b2,e1];exact⟨rfl,hs⟩
 with_reducible refine Bg (λh3=>?_) (λh3=>?_)
 ·exact one (.inl h3)
 with_reducible refine Bg (λh4=>?_) (λh4=>?_)
 ·exact one (.inr (.inl h4))
 with_reducible refine Bg (λh5=>?_) (λh5=>?_)
 ·exact one (.inr (.inr (.inl h5)))
 with_reducible refine Bg (λh6=>?_) (λh6=>?_)
 ·exact one (.inr (.inr (.inr h6)))
 rw[if_neg (by omega)] at e1;have e2:EY m k v now life=G4 m k (v,GZ now life):=if_pos e1;have e3:Gp m k v now life=(AC m k).isNone:=by unfold Gp;rw[e1];rfl
 rw[e2,e3,e1];clear bad one e2 e3;refine jw Aet ?_;have j2:∀(eb:Nat)(e0:Int)(w:World),Ab W w (rtR b m::blk eb [.s k,.s v,.i e0]::M)->Aeu By (λv' w'=>v' = .tuple #[.b (AC m k).isNone,.i 0]/\Ab W w' (rtR b (G4 m k (v,e0))::M)) (some ⟨b,0,none⟩) k eb 0 w:=by
  intro eb e0 w hs;refine jw Aev ?_;rw[JV hr];unfold G4;refine AH (Xm hs (by omega)) λe w ⟨he,hs⟩=>⟨_,_,he,?_⟩;have hle:=Acs m k;refine Al (λh1=>?_) (λh1=>?_)
  ·rw[h1];obtain⟨u,hu⟩:=Fk h1;have hlt:=(List.getElem?_eq_some_iff.1 hu).1;obtain⟨s,⟨hn,hc⟩,hs⟩:=Ka hs
   repeat (first|with_reducible refine Aa ?_|((with_reducible refine Ax ?_);first|refine Ag hs ?_|fail)|((with_reducible refine AS ?_);first|refine Bi hs λw hs=>?_|fail)|((with_reducible refine AM ?_);first|refine AK hs λb_ o_ hs=>?_|fail)|((with_reducible refine AX ?_);first|refine Am ?_|fail)|((with_reducible refine AA ?_);first|refine A9 hs ?_|fail)|((with_reducible refine AZ ?_);first|refine As hs λw hs=>?_|fail)|fail)
   simp only[Int.toNat_natCast] at hs;refine⟨by rw[hu];rfl,Fw s (by exact Ab.fin hs)⟩
  ·rw[h1];generalize (Iq m k).1=i at *;obtain⟨s,⟨hn,hc⟩,hs⟩:=Ka hs;have e3:m.take i++[(k,(v,e0))]++(m.drop i).take (m.length-i)=m.take i++(k,(v,e0))::m.drop i:=by
    rw[List.take_of_length_le (l:=m.drop i) (by simp)];simp
   repeat (first|with_reducible refine Aa ?_|((with_reducible refine AX ?_);first|refine Am ?_|fail)|((with_reducible refine Bx ?_);first|refine AW ?_|fail)|((with_reducible refine AZ ?_);first|refine As hs λw hs=>?_|fail)|fail)
   simp only[Int.toNat_natCast];refine⟨?_,?_⟩
   ·refine Ah hs λb19 w hs=>?_
    repeat (first|((with_reducible refine AA ?_);first|refine Ae hs ?_|fail)|fail)
    refine⟨?_,?_⟩
    ·have hs:=Ab.blkS (b:=b19) (n:=0) GW [] hs rfl rfl;refine DK (s:=⟨some ⟨b19,0,none⟩,0,0⟩) (new:=m.take i) hs (J7 (s:=s) (E:=GW) (rows:=m) (lo:=0) (c:=s.c) hs (k:=i) (by omega) (by omega) rfl) (by simp;omega) (Cx _) rfl (by decide) (by simp;omega) λs2 w hs2 hs=>?_
     simp only[List.nil_append,List.length_nil,List.length_take,Nat.zero_add] at hs2 hs
     repeat (first|((with_reducible refine Bf ?_);first|refine Ah hs λb_ w hs=>?_|fail)|((with_reducible refine AA ?_);first|refine Ae hs ?_|fail)|fail)
     refine Cf (s:=s2) (a:=(k,(v,e0))) hs rfl rfl rfl rfl (by decide) (by simp;omega) λs3 w hs3 hs=>?_
     repeat (first|with_reducible refine Aa ?_|((with_reducible refine Ax ?_);first|refine Ag hs ?_|fail)|((with_reducible refine Bx ?_);first|refine AW ?_|fail)|fail)
     refine DK (s:=s3) (new:=(m.drop i).take (m.length-i)) hs (J7 (s:=s) (E:=GW) (rows:=m) (lo:=i) (c:=s.c) hs (k:=m.length-i) (by omega) (by omega) (by rw[hn];rfl)) (by simp;omega) (Cx _) rfl (by decide) (by simp;omega) λs9 w hs9 hs=>?_
     repeat (first|with_reducible refine Aa ?_|((with_reducible refine AS ?_);first|refine A0 hs λw hs=>?_|fail)|fail)
     rw[e3] at hs;exact⟨rfl,Fw s9 (by exact Ab.fin hs)⟩
    ·refine Ah hs λb29 w hs=>?_
     repeat (first|((with_reducible refine AA ?_);first|refine Ae hs ?_|fail)|fail)
     have hs:=Ab.blkS (b:=b19) (n:=0) GW [] hs rfl rfl;refine DK (s:=⟨some ⟨b19,0,none⟩,0,0⟩) (new:=m.take i) hs (J7 (s:=s) (E:=GW) (rows:=m) (lo:=0) (c:=s.c) hs (k:=i) (by omega) (by omega) rfl) (by simp;omega) (Cx _) rfl (by decide) (by simp;omega) λs2 w hs2 hs=>?_
     simp only[List.nil_append,List.length_nil,List.length_take,Nat.zero_add] at hs2 hs
     repeat (first|((with_reducible refine AA ?_);first|refine Ae hs ?_|fail)|fail)
     refine Cf (s:=s2) (a:=(k,(v,e0))) (b:=b29) hs rfl rfl rfl rfl (by decide) (by simp;omega) λs3 w hs3 hs=>?_
     repeat (first|with_reducible refine Aa ?_|((with_reducible refine Ax ?_);first|refine Ag hs ?_|fail)|((with_reducible refine Bx ?_);first|refine AW ?_|fail)|fail)
     refine DK (s:=s3) (new:=(m.drop i).take (m.length-i)) hs (J7 (s:=s) (E:=GW) (rows:=m) (lo:=i) (c:=s.c) hs (k:=m.length-i) (by omega) (by omega) (by rw[hn];rfl)) (by simp;omega) (Cx _) rfl (by decide) (by simp;omega) λs9 w hs9 hs=>?_
     repeat (first|with_reducible refine Aa ?_|((with_reducible refine AS ?_);first|refine A0 hs λw hs=>?_|fail)|fail)
     rw[e3] at hs;exact⟨rfl,Fw s9 (by exact Ab.fin hs)⟩
   ·refine Ah hs λb38 w hs=>?_
    iterate 1 (first|((with_reducible refine AA ?_);first|refine Ae hs ?_|fail)|fail)
    refine Ah hs λb39 w hs=>?_
    repeat (first|((with_reducible refine AA ?_);first|refine Ae hs ?_|fail)|fail)
    have hs:=Ab.blkS (b:=b39) (n:=0) GW [] hs rfl rfl;refine DK (s:=⟨some ⟨b39,0,none⟩,0,0⟩) (new:=m.take i) hs (J7 (s:=s) (E:=GW) (rows:=m) (lo:=0) (c:=s.c) hs (k:=i) (by omega) (by omega) rfl) (by simp;omega) (Cx _) rfl (by decide) (by simp;omega) λs2 w hs2 hs=>?_
    simp only[List.nil_append,List.length_nil,List.length_take,Nat.zero_add] at hs2 hs
    repeat (first|((with_reducible refine AA ?_);first|refine Ae hs ?_|fail)|fail)
    refine Cf (s:=s2) (a:=(k,(v,e0))) (b:=b38) hs rfl rfl rfl rfl (by decide) (by simp;omega) λs3 w hs3 hs=>?_
    repeat (first|with_reducible refine Aa ?_|((with_reducible refine Ax ?_);first|refine Ag hs ?_|fail)|((with_reducible refine Bx ?_);first|refine AW ?_|fail)|fail)
    refine DK (s:=s3) (new:=(m.drop i).take (m.length-i)) hs (J7 (s:=s) (E:=GW) (rows:=m) (lo:=i) (c:=s.c) hs (k:=m.length-i) (by omega) (by omega) (by rw[hn];rfl)) (by simp;omega) (Cx _) rfl (by decide) (by simp;omega) λs9 w hs9 hs=>?_
    repeat (first|with_reducible refine Aa ?_|((with_reducible refine AS ?_);first|refine A0 hs λw hs=>?_|fail)|fail)
    rw[e3] at hs;exact⟨rfl,Fw s9 (by exact Ab.fin hs)⟩
 unfold GZ
 repeat (first|((with_reducible refine AS ?_);first|refine A0 hs λw hs=>?_|fail)|((with_reducible refine Bf ?_);first|refine Ah hs λb_ w hs=>?_|fail)|fail)
 with_reducible refine Bg (λh7=>?_) (λh7=>?_)
 ·repeat (first|((with_reducible refine AS ?_);first|refine A0 hs λw hs=>?_|fail)|fail)
  rw[i64_in _ (by omega)] at hs;rw[if_pos h7];exact j2 _ _ w (by exact Ab.fin hs)
 ·rw[if_neg h7];exact j2 _ _ w (by exact Ab.fin hs)
end
end Go.Proofs.YtjipofkjmmpjdaaGreat
namespace Go.Hb
def kT(T:TT):BL:=T.map (·.1)
def A3(T:TT)(g:BL):TT:=g.foldl CY T
section
variable{T:TT}{k x:BA}{v:BA×Int}{g:BL}{now:Int}
theorem Afk:k∉kT T↔AC T k=none:=by
 rw[BY];unfold kT;rw[List.mem_map];constructor
 ·intro h e he hk;exact h ⟨e,he,hk⟩
 ·rintro h ⟨e,he,hk⟩;exact h e he hk
theorem Dx:k∈kT T↔(AC T k).isSome=true:=by
 by_cases hk:k∈kT T
 ·refine⟨λ_=>?_,λ_=>hk⟩;cases hg:AC T k with
  | none=>exact absurd hk (Afk.2 hg)
  | some v=>rfl
 ·rw[Afk.1 hk];exact⟨λh=>absurd h hk,λh=>by cases h⟩
theorem LK(h:Ci T):AC (CY T k) x=if k=x then none else AC T x:=by rw[FX h,Vs]
theorem LL(h:Ci T):AC (G4 T k v) x=if k=x then some v else AC T x:=by
 have hn:((G4 T k v).map (·.1)).Nodup:=(JY h).nodup;rw[Ak9 hn (Ih h),Vt]
theorem Atd(h:Ci T):x∈kT (CY T k)↔x∈kT T/\x≠k:=by
 rw[Dx,Dx,LK h]
 by_cases hx:k=x
 ·subst hx;simp
 ·rw[if_neg hx];exact⟨λh=>⟨h,λe=>hx e.symm⟩,λh=>h.1⟩
theorem Afl(h:Ci T):x∈kT (G4 T k v)↔x∈kT T\/x=k:=by
 rw[Dx,Dx,LL h]
 by_cases hx:k=x
 ·subst hx;simp
 ·rw[if_neg hx];exact⟨.inl,λh=>h.elim id λe=>absurd e.symm hx⟩
theorem CJ:∀{g:BL}{T:TT},IV T->IV (A3 T g)
 | [],T,h=>h
 | k::g,T,h=>CJ (g:=g) (h.del k)
theorem Iu:∀{g:BL}{T:TT},IV T->(A3 T g).length<=T.length
 | [],T,h=>Nat.le_refl _
 | k::g,T,h=>Nat.le_trans (Iu (g:=g) (h.del k)) (Ig h k)
theorem BC:∀{g:BL}{T:TT},Ci T->(x∈g->AC (A3 T g) x=none)/\(x∉g->AC (A3 T g) x=AC T x)
 | [],T,h=>⟨by simp,λ_=>rfl⟩
 | k::g,T,h=>by
  obtain⟨h1,h2⟩:=BC (g:=g) (T:=CY T k) (MP h);have e:A3 T (k::g)=A3 (CY T k) g:=rfl;rw[e];refine⟨λhx=>?_,λhx=>?_⟩
  ·by_cases hg:x∈g
   ·exact h1 hg
   ·rw[h2 hg,LK h,if_pos];rcases List.mem_cons.1 hx with hx|hx
    ·exact hx.symm
    ·exact absurd hx hg
  ·rw[List.mem_cons,not_or] at hx;rw[h2 hx.2,LK h,if_neg λe=>hx.1 e.symm]
theorem FK(h:Ci T):x∈kT (A3 T g)↔x∈kT T/\x∉g:=by
 obtain⟨h1,h2⟩:=BC (x:=x) (g:=g) h;rw[Dx,Dx];constructor
 ·intro hx;have hg:x∉g:=λhg=>by rw[h1 hg] at hx;cases hx
  exact⟨by rw[h2 hg] at hx;exact hx,hg⟩
 ·rintro⟨hx,hg⟩;rw[h2 hg];exact hx
theorem Gy{P:BA->Prop}:∀{g:BL}{T:TT},Ci T->(∀e∈T,P e.1)->∀e∈A3 T g,P e.1
 | [],T,_,h=>h
 | k::g,T,hr,h=>Gy (g:=g) (MP hr) λe he=>by
  rw[FX hr] at he;exact J2 h e he
theorem IR{T S:TT}(h:AC T k=AC S k):Dy T k now=Dy S k now:=by unfold Dy;rw[h]
theorem Au7(h:(Dy T k now).2=true):(AC T k).isSome=true:=by
 unfold Dy at h;cases hg:AC T k with
 | none=>rw[hg] at h;cases h
 | some v=>rfl
def OS(T:TT)(k:BA)(now:Int):Bool:=(AC T k).isSome && !(Dy T k now).2
def Cb(T:TT)(k:BA)(now:Int):TT:=if OS T k now then CY T k else T
def BS(T:TT)(k:BA)(now:Int):BL:=if OS T k now then [k] else []
theorem Fe(T:TT)(k:BA)(now:Int):Cb T k now=A3 T (BS T k now):=by unfold Cb BS;split <;> rfl
theorem HT(h:x∈BS T k now):x=k/\OS T k now=true:=by
 unfold BS at h;split at h
 ·rename_i h2;rw[List.mem_singleton] at h;exact⟨h,h2⟩
 ·simp at h
theorem Al1(h:IV T):IV (Cb T k now):=by rw[Fe];exact CJ h
theorem Al0(h:Ci T):Dy (Cb T k now) k now=Dy T k now:=by
 unfold Cb;split
 ·rename_i h2;unfold OS at h2;rw[Bool.and_eq_true,Bool.not_eq_true'] at h2;have e1:AC (CY T k) k=none:=by rw[LK h,if_pos rfl]
  have e2:Dy (CY T k) k now=(⟨#[]⟩,false):=by unfold Dy;rw[e1]
  rw[e2];have h3:=h2.2;unfold Dy at h3 ⊢;cases hg:AC T k with
  | none=>rfl
  | some v=>
   rw[hg] at h3;dsimp only at h3 ⊢;split
   ·rfl
   ·rename_i h4;rw[if_neg h4] at h3;cases h3
 ·rfl
end
def V4(c:Int):BL->List Ev->BL->Prop
 | R,[],K=>∀x,x∈R↔x∈K
 | R,e::l,K=>e.2.size<64/\∃R',EvS c R e R'/\V4 c R' l K
section
variable{c:Int}{R S K K':BL}{e:Ev}{l:List Ev}{T:TT}{key:BA}
theorem EvS.congr(h:∀x,x∈R↔x∈S)(hs:EvS c R e K):EvS c S e K:=by
 refine⟨hs.1,λx=>?_⟩;rw[hs.2];split
 ·rw[h]
 ·split
  ·rw[h]
  ·exact h x
theorem V4.left(h:∀x,x∈R↔x∈S)(hs:V4 c R l K):V4 c S l K:=by
 cases l with
 | nil=>exact λx=>by rw[<- h];exact hs x
 | cons e l=>
  obtain⟨hz,R',h1,h2⟩:=hs;exact⟨hz,R',h1.congr h,h2⟩
theorem V4.right(h:∀x,x∈K↔x∈K'):∀{l:List Ev}{R:BL},V4 c R l K->V4 c R l K'
 | [],R,hs=>λx=>by rw[<- h];exact hs x
 | e::l,R,⟨hz,R',h1,h2⟩=>⟨hz,R',h1,V4.right h h2⟩
theorem V4.snoc(hz:e.2.size<64)(he:EvS c K e K'):∀{l:List Ev}{R:BL},V4 c R l K->V4 c R (l++[e]) K'
 | [],R,hs=>⟨hz,K',he.congr λx=>(hs x).symm,λ_=>Iff.rfl⟩
 | _::l,R,⟨hz2,R',h1,h2⟩=>⟨hz2,R',h1,V4.snoc hz he h2⟩
theorem Aif(ht:Ci T)(hz:∀e∈T,e.1.size<=40)(hl:(T.length:Int)<=c)(h1:1<=c)(h2:c<=1024):DR c (kT T):=
 ⟨ht.nodup,λk hk=>by
  obtain⟨e,he,rfl⟩:=List.mem_map.1 hk;have:=hz e he;omega,by unfold kT;rw[List.length_map];exact hl,h1,h2⟩
theorem EvS.del(ht:IV T)(hz:∀e∈T,e.1.size<=40)(hl:(T.length:Int)<=c)(h1:1<=c)(h2:c<=1024):EvS c (kT T) ((3:Int),key) (kT (CY T key)):=
 ⟨Aif (ht.del key).rise (λe he=>by rw[FX ht.rise] at he;exact J2 (P:=λk=>k.size<=40) hz e he) (by have:=Ig ht key;omega) h1 h2,λx=>by
  rw[Atd ht.rise];simp⟩
theorem KV{v:BA×Int}(hr:Ci T)(hz:∀e∈T,e.1.size<=40)(hk:key.size<=40):∀e∈G4 T key v,e.1.size<=40:=λe he=>by
 rcases Sb hr he with h|h
 ·exact hz e h
 ·subst h;exact hk
theorem EvS.put{v:BA×Int}(ht:IV T)(hz:∀e∈T,e.1.size<=40)(hk:key.size<=40)(hl:((G4 T key v).length:Int)<=c)(h1:1<=c)(h2:c<=1024):EvS c (kT T) ((2:Int),key) (kT (G4 T key v)):=
 ⟨Aif (JY ht.rise) (KV ht.rise hz hk) hl h1 h2,λx=>by rw[Afl ht.rise];simp⟩
theorem Aln{v:BA×Int}(ht:IV T):(G4 T key v).length=T.length+(if key∈kT T then 0 else 1):=by
 have hp:=(Ih (v:=v) (k:=key) ht.rise).length_eq;rw[hp];unfold CE;cases hg:AC T key with
 | none=>
  have:key∉kT T:=Afk.2 hg;rw[if_neg this];simp
 | some u=>
  have:key∈kT T:=Dx.2 (by rw[hg];rfl);rw[if_pos this];unfold Fg;simp
end
end Go.Hb
namespace Go.Hb
abbrev cD(b tb fb mb:Nat)(x0 x1 x2 x3 x4 x5:Int)(s:Sl):HP:=blk b [pq tb 0,pq fb 0,pq mb 0,.i x0,.i x1,.i x2,.i x3,.i x4,.i x5,.l s.a s.n s.c]
structure Amn(x0 x1 x2 x3 x4 x5:Int):Prop where
 h0:0<=x0
 h1:0<=x1
 h2:0<=x2
 h3:0<=x3
 h4:0<=x4
 h5:0<=x5
structure On(c:Int)(n:Nat)(T:TT)(l:List Ev)(R:BL)(evs:List Ev):Prop where
 tok:IV T
 small:∀e∈T,e.1.size<=40
 len:(T.length:Int)<=c
 n:evs.length<=n
 sim:V4 c R l (kT T)
def Qo(b:Nat)(c:Int)(T:TT)(l:List Ev)(kd:Int)(o:Option Nat)(R:BL)(evs:List Ev):HP:=Ks λ(z:(Nat×Nat×Nat×Sl)×(Int×Int×Int×Int×Int×Int))=>F6 (Amn z.2.1 z.2.2.1 z.2.2.2.1 z.2.2.2.2.1 z.2.2.2.2.2.1 z.2.2.2.2.2.2)
 (AO [cD b z.1.1 z.1.2.1 z.1.2.2.1 z.2.1 z.2.2.1 z.2.2.2.1 z.2.2.2.2.1 z.2.2.2.2.2.1 z.2.2.2.2.2.2 z.1.2.2.2,tabR z.1.1 T,fd z.1.2.1 l,Gi z.1.2.2.1 kd c R o,recs Gr z.1.2.2.2 evs])
def sd(b:Nat)(c:Int)(n:Nat)(T:TT)(kd:Int)(o:Option Nat):HP:=Ks λ(z:List Ev×BL×List Ev)=>F6 (On c n T z.1 z.2.1 z.2.2) (Qo b c T z.1 kd o z.2.1 z.2.2)
section
variable{W w:World}{M L:List HP}{b:Nat}{c:Int}{T:TT}{l evs:List Ev}{kd:Int}{o:Option Nat}{R:BL}{n:Nat}
theorem C9(h:Ab W w (Qo b c T l kd o R evs::M)):∃(tb fb mb:Nat) (s:Sl) (x0 x1 x2 x3 x4 x5:Int),Amn x0 x1 x2 x3 x4 x5/\Ab W w (cD b tb fb mb x0 x1 x2 x3 x4 x5 s::tabR tb T::fd fb l::Gi mb kd c R o::recs Gr s evs::M):=by
 obtain⟨⟨⟨tb,fb,mb,s⟩,⟨x0,x1,x2,x3,x4,x5⟩⟩,h⟩:=h.openE;obtain⟨hp,h⟩:=h.openA;exact⟨tb,fb,mb,s,x0,x1,x2,x3,x4,x5,hp,h.openL⟩
theorem BX{tb fb mb:Nat}{s:Sl}{x0 x1 x2 x3 x4 x5:Int}(hc:Amn x0 x1 x2 x3 x4 x5)(h:Ab W w (cD b tb fb mb x0 x1 x2 x3 x4 x5 s::tabR tb T::fd fb l::Gi mb kd c R o::recs Gr s evs::M)):Ab W w (Qo b c T l kd o R evs::M):=
 Ab.shutE ((tb,fb,mb,s),(x0,x1,x2,x3,x4,x5)) (Ab.shutA hc (Ab.shutL (Ps:=[_,_,_,_,_]) h))
theorem EX(h:Ab W w (Qo b c T l kd o R evs::M)):DR c R/\(0<=kd/\kd<5)/\∀n,o=some n->n<=R.length:=by
 obtain⟨tb,fb,mb,s,x0,x1,x2,x3,x4,x5,_,hs⟩:=C9 h;have hs:Ab W w (Gi mb kd c R o::M):=by exact Ab.fin hs
 exact⟨Oc hs,A4d hs,λn h=>A2o hs h⟩
theorem E5(h:Ab W w (sd b c n T kd o::M)):∃(l:List Ev) (R:BL) (evs:List Ev),On c n T l R evs/\Ab W w (Qo b c T l kd o R evs::M):=by
 obtain⟨⟨l,R,evs⟩,h⟩:=h.openE;obtain⟨hp,h⟩:=h.openA;exact⟨l,R,evs,hp,h⟩
theorem Dg(hi:On c n T l R evs)(h:Ab W w (Qo b c T l kd o R evs::M)):Ab W w (sd b c n T kd o::M):=Ab.shutE (l,R,evs) (Ab.shutA hi h)
instance:OkR Gr:=⟨λ_=>rfl⟩
theorem G3{a b:Int}(h:0<=a):0<=Go.Proofs.YtjipofkjmmpjdaaGreat.F7 a b:=by unfold Go.Proofs.YtjipofkjmmpjdaaGreat.F7;split <;> omega
theorem K4.trans{a b c:Option Nat}(h1:K4 a b)(h2:K4 b c):K4 a c:=by
 cases a <;> cases b <;> cases c <;> simp[K4] at * <;> omega
def wrF(l:List Ev):List Ev:=l.filter λe=>decide (e.1≠1)
end
end Go.Hb
namespace Go.Proofs.YtjipofkjmmpjdaaGreat
open Go.Hb Go.IntWalk
section
variable{W w:World}{L M:List HP}{b:Nat}{c:Int}{T:TT}{l evs:List Ev}{kd:Int}{o:Option Nat}{R:BL}{n:Nat}{key val:BA}{now life:Int}
theorem HQ{i:Nat}{cs:List Value}{x:Int}(hs:Ab W w (blk b cs::L))(hc:cs[i]? = some (.i x))(hx:0<=x):Calls PR 84 #[pq b i] w λe w'=>e = .returned (.tuple #[])/\Ab W w' (blk b (cs.set i (.i (F7 x 1099511627776)))::L):=by
 refine c1 (cw ⟨mixed,Tryz.func84,rfl⟩ A1h ?_);refine Aa (Ag hs ?_ (hc:=hc));refine An (Jt hs (by omega) (by omega)) λe w ⟨he,hs⟩=>⟨_,he,?_⟩;have hlt:i<cs.length:=(List.getElem?_eq_some_iff.1 hc).1;exact Aa (IX 0 hs rfl hlt λw hs=>⟨rfl,hs⟩)
theorem Qr{sg:Sl}{g:BL}(ht:IV T)(hl:T.length<1000000)(hg:g.length<1000000)(hz:∀x∈g,x.size<64)(hs:Ab W w (Qo b c T l kd o R evs::recs Rec.str sg g::M)) :
  BB PR 95 #[pq b 0,.l sg.a sg.n sg.c] w λv w'=>v = .tuple #[]/\Ab W w' (Qo b c (A3 T g) l kd o R evs::recs Rec.str sg g::M):=by
 refine cw ⟨mixed,Tryz.func95,rfl⟩ A1s ?_;have hn:=Bt (s:=sg) (E:=Rec.str) (rows:=g) hs;have loop:∀(f i:Nat)(w:World),i+f=g.length->Ab W w (Qo b c (A3 T (g.take i)) l kd o R evs::recs Rec.str sg g::M) ->
   Rg By (λv w'=>v = .tuple #[]/\Ab W w' (Qo b c (A3 T g) l kd o R evs::recs Rec.str sg g::M)) (f+1) (some ⟨b,0,none⟩) sg (sg.n:Int) (i:Int) w:=by
  clear hs;intro f
  induction f with
  | zero=>
   intro i w hi hs;rw[Rh];refine Ac (decide_eq_false (by omega)) ?_;rw[List.take_of_length_le (by omega)] at hs;exact⟨rfl,hs⟩
  | succ f ih=>
   intro i w hi hs;rw[Rh];refine Ak (decide_eq_true (by omega)) ?_;obtain⟨tb,fb,mb,s,x0,x1,x2,x3,x4,x5,hc,hs⟩:=C9 hs;refine AB (s:=sg) (E:=Rec.str) (rows:=g) hs λb_ o_ ha_=>?_;refine AE (s:=sg) (E:=Rec.str) (rows:=g) ha_ hs ?_;rw[Int.toNat_natCast];refine Aa (Ag hs ?_);have ht2:IV (A3 T (g.take i)):=CJ ht;have hl2:=Iu (g:=g.take i) ht;have e1:A3 T (g.take (i+1))=CY (A3 T (g.take i)) (g.getD i default):=by
    unfold A3;rw[CA (by omega),List.foldl_append];rfl
   have hz1:=hz _ (GI (d:=default) (show i<g.length by omega));have hs:Ab W w (tabR tb (A3 T (g.take i))::cD b tb fb mb x0 x1 x2 x3 x4 x5 s::fd fb l::Gi mb kd c R o::recs Gr s evs::recs Rec.str sg g::M):=by exact Ab.fin hs
   refine An (S7 (k:=g.getD i default) hs (by omega) (by omega)) λe w ⟨he,hs⟩=>⟨_,he,?_⟩;rw[<- e1] at hs;have hs:Ab W w (cD b tb fb mb x0 x1 x2 x3 x4 x5 s::tabR tb (A3 T (g.take (i+1)))::fd fb l::Gi mb kd c R o::recs Gr s evs::recs Rec.str sg g::M):=by exact Ab.fin hs
   rw[show IntKind.wrap .i64 ((i:Int)+1)=((i+1:Nat):Int) by rw[i64_in _ (by omega)];omega];refine Al (λ_=>?_) (λ_=>?_)
   ·refine Aa ?_;refine Ar (HQ hs rfl hc.h3) λe w ⟨he,hs⟩=>⟨he,?_⟩;exact ih (i+1) w (by omega) (BX ⟨hc.h0,hc.h1,hc.h2,G3 hc.h3,hc.h4,hc.h5⟩ hs)
   ·exact ih (i+1) w (by omega) (BX hc hs)
 exact AR _ (loop g.length 0 w (by omega) hs)
theorem GG{K:BL}(ht:IV T)(hl:T.length<1000000)(hn:evs.length<1000000000000)(hsim:V4 c R l K)(hs:Ab W w (Qo b c T l kd o R evs::M)) :
  BB PR 93 #[pq b 0] w λv w'=>∃(m:Int) (S:BL) (o':Option Nat) (evs':List Ev),v = .i m/\(∀x,x∈S↔x∈K)/\K4 o' o/\evs'.length<=evs.length+520/\Ab W w' (Qo b c T [] kd o' S evs'::M):=by
 refine cw ⟨mixed,Tryz.func93,rfl⟩ A1q ?_;obtain⟨tb,fb,mb,s,x0,x1,x2,x3,x4,x5,hc,hs⟩:=C9 hs;refine Aa (Ag hs ?_);have hs:Ab W w (fd fb l::cD b tb fb mb x0 x1 x2 x3 x4 x5 s::tabR tb T::Gi mb kd c R o::recs Gr s evs::M):=by exact Ab.fin hs
 refine Ai (Asq hs) λv w ⟨sl,D,hv,hf,hDz,hDl,hs⟩=>⟨_,hv,?_⟩;have hs:Ab W w (cD b tb fb mb x0 x1 x2 x3 x4 x5 s::tabR tb T::fd fb []::Gi mb kd c R o::recs Gr s evs::recs Gr sl D::M):=by exact Ab.fin hs
 have hs:=BX hc hs;have hsn:=Bt (s:=sl) (E:=Gr) (rows:=D) hs;have hf:wrF D=l:=hf;have loop:∀(f i:Nat)(w:World)(S:BL)(o':Option Nat),i+f=D.length->K4 o' o->V4 c S (wrF (D.drop i)) K->Ab W w (Qo b c T [] kd o' S evs::recs Gr sl D::M) ->
   WG By (λv w'=>∃(m:Int) (S:BL) (o':Option Nat) (evs':List Ev),v = .i m/\(∀x,x∈S↔x∈K)/\K4 o' o/\evs'.length<=evs.length+520/\Ab W w' (Qo b c T [] kd o' S evs'::M)) (f+1) (some ⟨b,0,none⟩) sl sl (sl.n:Int) (i:Int) w:=by
  clear hs;intro f
  induction f with
  | zero=>
   intro i w S o' hi ho hsim hs;rw[Rb];refine Ac (decide_eq_false (by omega)) ?_;refine jw Ae9 ?_;rw[List.drop_eq_nil_of_le (by omega)] at hsim;have hm:∀x,x∈S↔x∈K:=hsim;clear hc;obtain⟨tb,fb,mb,s,x0,x1,x2,x3,x4,x5,hc,hs⟩:=C9 hs;refine Aa (Ag (x:=s) hs ?_);refine DK (s:=s) (E:=Gr) (new:=D) hs (GS (s:=sl) hs) (Bt (s:=sl) (E:=Gr) hs) (Cx _) rfl (by decide) (by omega) λs2 w hs2 hs=>?_;refine Aa (A0 hs λw hs=>?_);exact⟨_,S,o',evs++D,rfl,hm,ho,by rw[List.length_append];omega,BX (s:=s2) hc (by exact Ab.fin hs)⟩
  | succ f ih=>
   intro i w S o' hi ho hsim hs;rw[Rb];refine Ak (decide_eq_true (by omega)) ?_;have hil:i<D.length:=by omega
   have hd:D.drop i=D.getD i default::D.drop (i+1):=by
    rw[List.drop_eq_getElem_cons hil,List.getD_eq_getElem?_getD,List.getElem?_eq_getElem hil];rfl
   rw[hd] at hsim;have hz:=hDz _ (GI (d:=default) hil);have hkS:=(EX hs).1;refine AB (s:=sl) (E:=Gr) (rows:=D) hs λb_ o_ ha_=>?_;refine AE (s:=sl) (E:=Gr) (rows:=D) ha_ hs (BD (s:=sl) (E:=Gr) (rows:=D) ha_ hs ?_ (hc:=rfl)) (hc:=rfl);rw[Int.toNat_natCast];generalize D.getD i default=ev at *;obtain⟨R',hev,hsim2⟩:∃R',EvS c S ev R'/\V4 c R' (wrF (D.drop (i+1))) K:=by
    by_cases h1:ev.1=1
    ·have e1:wrF (ev::D.drop (i+1))=wrF (D.drop (i+1)):=by unfold wrF;rw[List.filter_cons_of_neg (by simp[h1])]
     rw[e1] at hsim;exact⟨S,⟨hkS,λx=>by rw[if_neg (by omega),if_neg (by omega)]⟩,hsim⟩
    ·have e1:wrF (ev::D.drop (i+1))=ev::wrF (D.drop (i+1)):=by unfold wrF;rw[List.filter_cons_of_pos (by simp[h1])]
     rw[e1] at hsim;obtain⟨_,R',h2,h3⟩:=hsim;exact⟨R',h2,h3⟩
   clear hc;obtain⟨tb,fb,mb,s,x0,x1,x2,x3,x4,x5,hc,hs⟩:=C9 hs;refine Ah hs λnb w hs=>?_;refine A0 hs λw hs=>A0 hs λw hs=>?_;refine Ao [cD b tb fb mb x0 x1 x2 x3 x4 x5 s] hs λw hs=>?_;refine Aa (Am (Ag hs (Ag hs (Ae hs ?_))));have hs:Ab W w (Gi mb kd c S o'::cD b tb fb mb x0 x1 x2 x3 x4 x5 s::tabR tb T::fd fb []::recs Gr s evs::recs Gr sl D::M):=by exact Ab.fin hs
   refine Ai (At3 hz hev hs) λv w ⟨ge,S2,o2,hv,hm,ho2,hs⟩=>⟨_,hv,?_⟩;have hs:Ab W w (cD b tb fb mb x0 x1 x2 x3 x4 x5 s::tabR tb T::fd fb []::Gi mb kd c S2 o2::recs Gr s evs::recs Rec.str ge []::recs Gr sl D::M):=by exact Ab.fin hs
   have hs:=BX hc hs;refine B0 (Qr ht hl (by simp) (by simp) hs) λv w ⟨hv,hs⟩=>⟨hv,?_⟩;have hs:Ab W w (Qo b c T [] kd o2 S2 evs::recs Rec.str ge []::recs Gr sl D::M):=hs;rw[show IntKind.wrap .i64 ((i:Int)+1)=((i+1:Nat):Int) by rw[i64_in _ (by omega)];omega]
   exact ih (i+1) w S2 o2 (by omega) (ho2.trans ho) (hsim2.left λx=>(hm x).symm) (by exact Ab.fin hs)
 refine AR _ (loop D.length 0 w R o (by omega) K4.refl (by rw[List.drop_zero,hf];exact hsim) hs)
theorem St{kk:Int}(hkd:kk=2\/kk=3){K:BL}(ht:IV T)(hl:T.length<1000000)(hn:evs.length<1000000000000)(hz:key.size<64)(hsim:V4 c R l K)(hev:EvS c K (kk,key) (kT T))(hs:Ab W w (Qo b c T l kd o R evs::M)) :
  BB PR 92 #[pq b 0,.i kk,.s key] w λv w'=>v = .tuple #[]/\∃(l':List Ev) (S:BL) (o':Option Nat) (evs':List Ev),evs'.length<=evs.length+520/\V4 c S l' (kT T)/\K4 o' o/\Ab W w' (Qo b c T l' kd o' S evs'::M):=by
 refine cw ⟨mixed,Tryz.func92,rfl⟩ A1p ?_;obtain⟨tb,fb,mb,s,x0,x1,x2,x3,x4,x5,hc,hs⟩:=C9 hs;refine Aa (Ag hs ?_);have hs:Ab W w (fd fb l::cD b tb fb mb x0 x1 x2 x3 x4 x5 s::tabR tb T::Gi mb kd c R o::recs Gr s evs::M):=by exact Ab.fin hs
 refine Ai (Aah hkd hz hs) λv w h=>?_;rcases h with⟨hv,hs⟩|⟨_,hv,hs⟩
 ·refine⟨_,hv,Ac rfl ?_⟩;exact⟨rfl,l++[(kk,key)],R,o,evs,by omega,hsim.snoc hz hev,K4.refl,BX hc (by exact Ab.fin hs)⟩
 ·refine⟨_,hv,Ak rfl ?_⟩;have hs:Ab W w (Qo b c T l kd o R evs::M):=BX hc (by exact Ab.fin hs);refine Ai (GG ht hl hn hsim hs) λv w ⟨m,S,o',evs',hv,hm,ho,hle,hs⟩=>⟨_,hv,?_⟩;clear hc;obtain⟨tb,fb,mb,s,x0,x1,x2,x3,x4,x5,hc,hs⟩:=C9 hs;refine Aa (Ag hs ?_);have hs:Ab W w (fd fb []::cD b tb fb mb x0 x1 x2 x3 x4 x5 s::tabR tb T::Gi mb kd c S o'::recs Gr s evs'::M):=by exact Ab.fin hs
  refine Ai (Aah hkd hz hs) λv w h=>?_;rcases h with⟨hv,hs⟩|⟨h1,hv,hs⟩
  ·refine⟨_,hv,rfl,[(kk,key)],S,o',evs',hle,?_,ho,BX hc (by exact Ab.fin hs)⟩;exact⟨hz,kT T,hev.congr λx=>(hm x).symm,λ_=>Iff.rfl⟩
  ·exact absurd rfl h1
theorem Ac2:A3 T [key]=CY T key:=rfl
abbrev sdL(b:Nat)(c:Int)(n:Nat)(T:TT)(kd:Int)(o:Option Nat)(W w:World)(M:List HP):Prop:=∃o',K4 o' o/\Ab W w (sd b c n T kd o'::M)
theorem Agw{tb fb mb:Nat}{s:Sl}{x0 x1 x2 x3 x4 x5:Int}(hi:On c n T l R evs)(hc:Amn x0 x1 x2 x3 x4 x5)(h:OS T key now=false)(hs:Ab W w (cD b tb fb mb x0 x1 x2 x3 x4 x5 s::tabR tb T::fd fb l::Gi mb kd c R o::recs Gr s evs::M)) :
  ∃s:Sl,Value.slice none 0 0 = .l s.a s.n s.c/\sdL b c (n+520) (Cb T key now) kd o W w (recs Rec.str s (BS T key now)::M):=by
 have e1:Cb T key now=T:=by unfold Cb;rw[h];rfl
 have e2:BS T key now=[]:=by unfold BS;rw[h];rfl
 rw[e1,e2];have hnn:=hi.n;have hs:=Dg (n:=n+520) ⟨hi.tok,hi.small,hi.len,by omega,hi.sim⟩ (BX hc hs);have hs:=Ab.nilR Rec.str hs;exact⟨⟨none,0,0⟩,rfl,o,K4.refl,by exact Ab.fin hs⟩
theorem Avz(hi:On c n T l R evs)(hn:n<900000000000)(hkz:key.size<=40)(hov:OS T key now=true)(hs:Ab W w (Qo b c T l kd o R evs::M)) :
  Asl By (λv w'=>∃s:Sl,v = .l s.a s.n s.c/\sdL b c (n+520) (Cb T key now) kd o W w' (recs Rec.str s (BS T key now)::M)) (some ⟨b,0,none⟩) key w:=by
 have hkR:=(EX hs).1;have hc1:=hkR.c1;have hc2:=hkR.c2;have hTl:=hi.len;have hnn:=hi.n
 refine jw Ae1 ?_;have e1:Cb T key now=CY T key:=by unfold Cb;rw[hov];rfl
 have e2:BS T key now=[key]:=by unfold BS;rw[hov];rfl
 rw[e1,e2];refine Ah hs λnb w hs=>?_;have hs:=Ab.blkS (b:=nb) (cs:=[.s key]) (n:=1) Rec.str [key] hs rfl rfl;have hs:Ab W w (Qo b c T l kd o R evs::recs Rec.str ⟨some ⟨nb,0,none⟩,1,1⟩ [key]::M):=by exact Ab.fin hs
 refine B0 (Qr (sg:=⟨some ⟨nb,0,none⟩,1,1⟩) (g:=[key]) hi.tok (by omega) (by simp) (by simp;omega) hs) λv w ⟨hv,hs⟩=>⟨hv,?_⟩;rw[Ac2] at hs;have Li:=Ig hi.tok key;have hsm:∀e∈CY T key,e.1.size<=40:=λe he=>by rw[FX hi.tok.rise] at he;exact J2 (P:=λk=>k.size<=40) hi.small e he
 have htk:=hi.tok.del key;have hev:=EvS.del (key:=key) hi.tok hi.small hi.len hc1 hc2;have hsi:=hi.sim;generalize CY T key=T' at *;refine B0 (St (.inr rfl) htk (by omega) (by omega) (by omega) hsi hev hs) λv w ⟨hv,l',S,o',evs',hlen,hsim,ho,hs⟩=>⟨hv,?_⟩;refine Ah hs λnb2 w hs=>?_;have hs:=Ab.blkS (b:=nb2) (cs:=[.s key]) (n:=1) Rec.str [key] hs rfl rfl;have hs:Ab W w (Qo b c T' l' kd o' S evs'::recs Rec.str ⟨some ⟨nb2,0,none⟩,1,1⟩ [key]::M):=by exact Ab.fin hs
 have hs:=Dg (n:=n+520) ⟨htk,hsm,by omega,by omega,hsim⟩ hs;exact⟨⟨some ⟨nb2,0,none⟩,1,1⟩,rfl,o',ho,hs⟩
theorem Qq(hn:n<900000000000)(hkz:key.size<=40)(hs:Ab W w (sd b c n T kd o::M)):BB PR 83 #[pq b 0,.s key,.i now] w λv w'=>∃s:Sl,v = .l s.a s.n s.c/\sdL b c (n+520) (Cb T key now) kd o W w' (recs Rec.str s (BS T key now)::M):=by
 refine cw ⟨mixed,Tryz.func83,rfl⟩ A1g ?_;obtain⟨l,R,evs,hi,hs⟩:=E5 hs;obtain⟨tb,fb,mb,s,x0,x1,x2,x3,x4,x5,hc,hs⟩:=C9 hs;refine Aa (Ag hs ?_);refine AH (Aiy (k:=key) (now:=now) hs (by omega)) λe w ⟨he,hs⟩=>⟨_,_,he,?_⟩;refine Al (λh1=>?_) (λh1=>?_)
 ·exact Agw hi hc (by unfold OS;rw[h1];simp) hs
 refine Aa (Ag hs ?_);refine An (Aiz (k:=key) hs (by omega)) λe w ⟨he,hs⟩=>⟨_,he,?_⟩;refine Al (λh2=>?_) (λh2=>?_)
 ·exact Agw hi hc (by unfold OS;rw[Bool.not_eq_true'] at h2;rw[h2];rfl) hs
 exact Avz hi hn hkz (by unfold OS;rw[h1];simpa using h2) (BX hc hs)
def Kk(key:BA)(now:Int):Int:=if D3 key=false then 2 else if now<0\/1125899906842624<now then 1 else 0
theorem Abx(hs:Ab W w L):BB PR 97 #[.i now] w λv w'=>v = .b (decide (0<=now/\now<=1125899906842624))/\Ab W w' L:=by
 refine cw ⟨mixed,Tryz.func97,rfl⟩ A1u ?_
 with_reducible refine A2 (λh1=>?_) (λh1=>?_)
 ·refine⟨?_,hs⟩;rw[decide_eq_decide.2 (show now<=1125899906842624↔(0<=now/\now<=1125899906842624) by omega)]
 ·exact⟨by rw[decide_eq_false (by omega)],hs⟩
theorem Vv{r:Int}(hs:Ab W w L):BB PR 74 #[.i r] w λv w'=>v = .b (decide (1<=r/\r<=1024))/\Ab W w' L:=by
 refine cw ⟨mixed,Tryz.func74,rfl⟩ A07 ?_
 with_reducible refine A2 (λh1=>?_) (λh1=>?_)
 ·refine⟨?_,hs⟩;rw[decide_eq_decide.2 (show r<=1024↔(1<=r/\r<=1024) by omega)]
 ·exact⟨by rw[decide_eq_false (by omega)],hs⟩
theorem Abw(hs:Ab W w L):BB PR 82 #[pq b 0,.s key,.i now] w λv w'=>v = .i (Kk key now)/\Ab W w' L:=by
 refine cw ⟨mixed,Tryz.func82,rfl⟩ A1f ?_;refine Ac rfl ?_;refine An (Ain (k:=key) hs) λe w ⟨he,hs⟩=>⟨_,he,?_⟩;unfold Kk;cases hk:D3 key with
 | false=>exact Ak rfl ⟨rfl,hs⟩
 | true=>
  refine Ac rfl ?_;rw[if_neg (by simp)];refine Ai (Abx hs) λv w ⟨hv,hs⟩=>⟨_,hv,?_⟩
  with_reducible refine A2 (λh1=>?_) (λh1=>?_)
  ·rw[if_pos (by omega)];exact⟨rfl,hs⟩
  ·rw[if_neg (by omega)];exact⟨rfl,hs⟩
theorem Xb(h:Kk key now=0):D3 key=true/\0<=now/\now<=1125899906842624:=by
 unfold Kk at h;split at h
 ·omega
 ·rename_i h1;split at h
  ·omega
  ·exact⟨by simpa using h1,by omega,by omega⟩
theorem As4{n':Nat}(h:On c n T l R evs)(hn:n<=n'):On c n' T l R evs:=⟨h.tok,h.small,h.len,by have:=h.n;omega,h.sim⟩
theorem GB{n':Nat}(hn:n<=n')(h:Ab W w (sd b c n T kd o::M)):Ab W w (sd b c n' T kd o::M):=by
 obtain⟨l,R,evs,hi,hs⟩:=E5 h;exact Dg (As4 hi hn) hs
structure Lo(c:Int)(T:TT):Prop where
 tok:IV T
 small:∀e∈T,e.1.size<=40
 len:(T.length:Int)<=c
 c1:1<=c
 c2:c<=1024
theorem Auw(h:Ab W w (sd b c n T kd o::M)):Lo c T:=by
 obtain⟨l,R,evs,hi,hs⟩:=E5 h;have hk:=(EX hs).1;exact⟨hi.tok,hi.small,hi.len,hk.c1,hk.c2⟩
theorem A74(hn:n<800000000000)(hs:Ab W w (sd b c n T kd o::M)):BB PR 51 #[pq b 0,.s key,.i now] w λv w'=>
  (Kk key now≠0/\v = .tuple #[.s ⟨#[]⟩,.b false,.l none 0 0,.i (Kk key now)]/\Ab W w' (sd b c n T kd o::M)) \/
  (Kk key now=0/\∃s:Sl,v = .tuple #[.s (Dy T key now).1,.b (Dy T key now).2,.l s.a s.n s.c,.i 0]/\sdL b c (n+520) (Cb T key now) kd o W w' (recs Rec.str s (BS T key now)::M)):=by
 refine cw ⟨mixed,Tryz.func51,rfl⟩ A0j ?_;refine Ai (Abw hs) λv w ⟨hv,hs⟩=>⟨_,hv,?_⟩
 with_reducible refine A2 (λh0=>?_) (λh0=>?_)
 ·exact .inl ⟨h0,rfl,hs⟩
 obtain⟨hkey,hn0,hn1⟩:=Xb h0;have hkz:=Ep hkey;have hg:=Al0 (k:=key) (now:=now) (Auw hs).tok.rise;refine Ai (Qq (by omega) (by omega) hs) λv w ⟨sg,hv,o',ho,hs⟩=>⟨_,hv,?_⟩;generalize BS T key now=gg at hs ⊢;generalize Cb T key now=T1 at hs hg ⊢;obtain⟨l,R,evs,hi,hs⟩:=E5 hs;have hkR:=(EX hs).1;have hc2:=hkR.c2;have hc1:=hkR.c1;have hTl:=hi.len;have hnn:=hi.n
 obtain⟨tb,fb,mb,s,x0,x1,x2,x3,x4,x5,hc,hs⟩:=C9 hs;refine Aa ?_;refine Ar (HQ hs rfl hc.h0) λe w ⟨he,hs⟩=>⟨he,?_⟩;have hs:Ab W w (cD b tb fb mb (F7 x0 1099511627776) x1 x2 x3 x4 x5 s::tabR tb T1::fd fb l::Gi mb kd c R o'::recs Gr s evs::recs Rec.str sg gg::M):=hs;refine Aa (Ag hs ?_);refine AH (Aiy (k:=key) (now:=now) hs (by omega)) λe w ⟨he,hs⟩=>⟨_,_,he,?_⟩;rw[hg];refine Al (λ_=>?_) (λ_=>?_)
 ·refine Aa ?_;refine Ar (HQ hs rfl hc.h1) λe w ⟨he,hs⟩=>⟨he,?_⟩;have hs:Ab W w (cD b tb fb mb (F7 x0 1099511627776) (F7 x1 1099511627776) x2 x3 x4 x5 s::tabR tb T1::fd fb l::Gi mb kd c R o'::recs Gr s evs::recs Rec.str sg gg::M):=hs;refine Aa (Ag hs ?_);have hs:Ab W w (fd fb l::cD b tb fb mb (F7 x0 1099511627776) (F7 x1 1099511627776) x2 x3 x4 x5 s::tabR tb T1::Gi mb kd c R o'::recs Gr s evs::recs Rec.str sg gg::M):=by exact Ab.fin hs
  refine Ai (A1w (key:=key) (by omega) hs) λv w ⟨t,hv,hs⟩=>⟨_,hv,?_⟩;have hs:Ab W w (cD b tb fb mb (F7 x0 1099511627776) (F7 x1 1099511627776) x2 x3 x4 x5 s::tabR tb T1::fd fb l::Gi mb kd c R o'::recs Gr s evs::recs Rec.str sg gg::M):=by exact Ab.fin hs
  refine Al (λ_=>?_) (λ_=>?_)
  ·refine Aa ?_;refine Ar (HQ hs rfl hc.h4) λe w ⟨he,hs⟩=>⟨he,?_⟩;exact .inr ⟨h0,sg,rfl,o',ho,Dg hi (BX ⟨G3 hc.h0,G3 hc.h1,hc.h2,hc.h3,G3 hc.h4,hc.h5⟩ hs)⟩
  ·exact .inr ⟨h0,sg,rfl,o',ho,Dg hi (BX ⟨G3 hc.h0,G3 hc.h1,hc.h2,hc.h3,hc.h4,hc.h5⟩ hs)⟩
 ·exact .inr ⟨h0,sg,rfl,o',ho,Dg hi (BX ⟨G3 hc.h0,hc.h1,hc.h2,hc.h3,hc.h4,hc.h5⟩ hs)⟩
theorem Al2(hn:n<800000000000)(hs:Ab W w (sd b c n T kd o::M)):BB PR 54 #[pq b 0,.s key,.i now] w λv w'=>
  (Kk key now≠0/\v = .tuple #[.b false,.l none 0 0,.i (Kk key now)]/\Ab W w' (sd b c n T kd o::M)) \/
  (Kk key now=0/\∃s:Sl,v = .tuple #[.b (AC (Cb T key now) key).isSome,.l s.a s.n s.c,.i 0]/\sdL b c (n+1040) (CY (Cb T key now) key) kd o W w' (recs Rec.str s (BS T key now)::M)):=by
 refine cw ⟨mixed,Tryz.func54,rfl⟩ A0n ?_;refine Ai (Abw hs) λv w ⟨hv,hs⟩=>⟨_,hv,?_⟩
 with_reducible refine A2 (λh0=>?_) (λh0=>?_)
 ·exact .inl ⟨h0,rfl,hs⟩
 obtain⟨hkey,hn0,hn1⟩:=Xb h0;have hkz:=Ep hkey;refine Ai (Qq (by omega) (by omega) hs) λv w ⟨sg,hv,o',ho,hs⟩=>⟨_,hv,?_⟩;generalize BS T key now=gg at hs ⊢;generalize Cb T key now=T1 at hs ⊢;obtain⟨l,R,evs,hi,hs⟩:=E5 hs;have hkR:=(EX hs).1;have hc2:=hkR.c2;have hc1:=hkR.c1;have hTl:=hi.len;have hnn:=hi.n
 obtain⟨tb,fb,mb,s,x0,x1,x2,x3,x4,x5,hc,hs⟩:=C9 hs;refine Aa (Ag hs ?_);refine An (S7 (k:=key) hs (by omega) (by omega)) λe w ⟨he,hs⟩=>⟨_,he,?_⟩;have Li:=Ig hi.tok key;have hsm:∀e∈CY T1 key,e.1.size<=40:=λe he=>by rw[FX hi.tok.rise] at he;exact J2 (P:=λk=>k.size<=40) hi.small e he
 have htk:=hi.tok.del key;have hev:=EvS.del (key:=key) hi.tok hi.small hi.len hc1 hc2;refine Al (λhp=>?_) (λhp=>?_)
 ·have hsi:=hi.sim;generalize CY T1 key=T' at *;have hs:=BX hc hs;refine B0 (St (.inr rfl) htk (by omega) (by omega) (by omega) hsi hev hs) λv w ⟨hv,l',S,o2,evs',hlen,hsim,ho2,hs⟩=>⟨hv,?_⟩;exact .inr ⟨h0,sg,rfl,o2,ho2.trans ho,Dg ⟨htk,hsm,by omega,by omega,hsim⟩ hs⟩
 ·have hno:key∉kT T1:=λh=>by rw[Dx.1 h] at hp;cases hp
  have hsim:V4 c R l (kT (CY T1 key)):=hi.sim.right λx=>by
   rw[Atd hi.tok.rise];exact⟨λh=>⟨h,λe=>hno (e ▸ h)⟩,λh=>h.1⟩
  exact .inr ⟨h0,sg,rfl,o',ho,Dg ⟨htk,hsm,by omega,by omega,hsim⟩ (BX hc hs)⟩
theorem Aux(hn:n<900000000000)(hs:Ab W w (sd b c n T kd o::M)):BB PR 56 #[pq b 0] w λv w'=>∃m:Int,v = .i m/\sdL b c (n+520) T kd o W w' M:=by
 refine cw ⟨mixed,Tryz.func56,rfl⟩ A0p ?_;refine Ac rfl ?_;obtain⟨l,R,evs,hi,hs⟩:=E5 hs;have hkR:=(EX hs).1;have hc2:=hkR.c2;have hTl:=hi.len;have hnn:=hi.n
 refine Ai (GG hi.tok (by omega) (by omega) hi.sim hs) λv w ⟨m,S,o',evs',hv,hm,ho,hle,hs⟩=>⟨_,hv,m,rfl,o',ho,?_⟩;exact Dg (l:=[]) (R:=S) (evs:=evs') ⟨hi.tok,hi.small,hi.len,by omega,hm⟩ hs
theorem A3a(hn:n<900000000000)(hs:Ab W w (sd b c n T kd o::M)):BB PR 57 #[pq b 0] w λv w'=>∃(x:BA) (t:Bool) (o':Option Nat),v = .tuple #[.s x,.b t]/\K4 o' o/\(∀m,o'=some m->m<=T.length)/\Ab W w' (sd b c (n+520) T kd (RU o')::M):=by
 refine cw ⟨mixed,Tryz.func57,rfl⟩ A0q ?_;refine Ac rfl ?_;obtain⟨l,R,evs,hi,hs⟩:=E5 hs;have hkR:=(EX hs).1;have hc2:=hkR.c2;have hTl:=hi.len;have hnn:=hi.n
 refine Ai (GG hi.tok (by omega) (by omega) hi.sim hs) λv w ⟨m,S,o',evs',hv,hm,ho,_,hs⟩=>⟨_,hv,?_⟩;have hle:∀m,o'=some m->m<=T.length:=λm h=>by
  have h1:=(EX hs).2.2 m h;have h2:=Di (EX hs).1.nd (λx hx=>(hm x).1 hx);unfold kT at h2;rw[List.length_map] at h2;omega
 obtain⟨tb,fb,mb,s,x0,x1,x2,x3,x4,x5,hc,hs⟩:=C9 hs;refine Aa (Ag hs ?_);have hs:Ab W w (Gi mb kd c S o'::cD b tb fb mb x0 x1 x2 x3 x4 x5 s::tabR tb T::fd fb []::recs Gr s evs'::M):=by exact Ab.fin hs
 refine AP (A2n hs) λv w ⟨x,t,S2,hv,hm2,hs⟩=>⟨_,_,hv,?_⟩;have hi2:On c (n+520) T [] S2 evs':=⟨hi.tok,hi.small,hi.len,by omega,λx=>by rw[hm2,hm]⟩;have hs:Ab W w (cD b tb fb mb x0 x1 x2 x3 x4 x5 s::tabR tb T::fd fb []::Gi mb kd c S2 (RU o')::recs Gr s evs'::M):=by exact Ab.fin hs
 refine Al (λ_=>?_) (λ_=>?_)
 ·refine Aa ?_;refine Ar (HQ hs rfl hc.h5) λe w ⟨he,hs⟩=>⟨he,?_⟩;exact⟨x,t,o',rfl,ho,hle,Dg hi2 (BX ⟨hc.h0,hc.h1,hc.h2,hc.h3,hc.h4,G3 hc.h5⟩ hs)⟩
 ·exact⟨x,t,o',rfl,ho,hle,Dg hi2 (BX hc hs)⟩
theorem Al5{k:Int}(hk:0<=k/\k<5)(hn:n<900000000000)(hs:Ab W w (sd b c n T kd o::M)):BB PR 104 #[pq b 0,.i k] w λv w'=>∃m:Int,v = .i m/\((k=kd/\Ab W w' (sd b c n T kd o::M))\/Ab W w' (sd b c (n+520) T k (some T.length)::M)):=by
 refine cw ⟨mixed,Tryz.func104,rfl⟩ Anj ?_;refine Ac rfl (Ac (decide_eq_false (by omega)) ?_);refine jw XZ ?_;refine Ac (decide_eq_false (by omega)) ?_;obtain⟨l,R,evs,hi,hs⟩:=E5 hs;have hkR:=(EX hs).1;have hc2:=hkR.c2;have hTl:=hi.len;have hnn:=hi.n
 obtain⟨tb,fb,mb,s,x0,x1,x2,x3,x4,x5,hc,hs⟩:=C9 hs;refine Aa (Ag hs ?_);have hs:Ab W w (Gi mb kd c R o::cD b tb fb mb x0 x1 x2 x3 x4 x5 s::tabR tb T::fd fb l::recs Gr s evs::M):=by exact Ab.fin hs
 refine Ai (A2k hs) λv w ⟨hv,hs⟩=>⟨_,hv,?_⟩;have hs:Ab W w (Qo b c T l kd o R evs::M):=BX hc (by exact Ab.fin hs);refine Al (λh=>⟨8,rfl,.inl ⟨by simpa using h,Dg hi hs⟩⟩) (λ_=>?_);refine jw Ya ?_;refine Ai (GG hi.tok (by omega) (by omega) hi.sim hs) λv w ⟨m,S,o',evs',hv,hm,ho,hle,hs⟩=>⟨_,hv,?_⟩;clear hc;have hkS:=(EX hs).1;obtain⟨tb,fb,mb,s,x0,x1,x2,x3,x4,x5,hc,hs⟩:=C9 hs;refine Aa (Ag hs ?_);have hs:Ab W w (Gi mb kd c S o'::cD b tb fb mb x0 x1 x2 x3 x4 x5 s::tabR tb T::fd fb []::recs Gr s evs'::M):=by exact Ab.fin hs
 refine Ai (At4 hk hs) λv w ⟨S2,hv,hm2,hs⟩=>⟨_,hv,?_⟩;have hk2:=Oc hs;have hmT:∀x,x∈S2↔x∈kT T:=λx=>by rw[hm2,hm]
 have hl2:S2.length=T.length:=by
  have:=(Dv hk2.nd hi.tok.rise.nodup hmT).length_eq;simpa using this
 rw[hl2] at hs;exact⟨0,rfl,.inr (Dg (l:=[]) (R:=S2) (evs:=evs') ⟨hi.tok,hi.small,hi.len,by omega,hmT⟩ (BX hc (by exact Ab.fin hs)))⟩
theorem A75{r k1 k2 k3:Int}(hs:Ab W w L):BB PR 47 #[.i r,.i k1,.i k2,.i k3] w λv w'=>(((0<=k1/\k1<=256/\1<=k2/\k2<=256)/\0<=k3/\k3<5)/\∃b,v = .tuple #[pq b 0,.i 0]/\Ab W w' (sd b r 0 [] k3 none::L))\/(¬((1<=r/\r<=1024)/\(0<=k1/\k1<=256/\1<=k2/\k2<=256)/\0<=k3/\k3<5)/\∃e:Int,e≠0/\v = .tuple #[.p none,.i e]/\Ab W w' L):=by
 refine cw ⟨mixed,Tryz.func47,rfl⟩ A0f ?_;refine Ai (Vv hs) λv w ⟨hv,hs⟩=>⟨_,hv,?_⟩
 with_reducible refine A2 (λh1=>?_) (λh1=>?_)
 ·exact .inr ⟨by omega,1,by decide,rfl,hs⟩
 have hr:Bv r=r:=by unfold Bv;omega
 refine AP (A6y hs) λv w h=>?_;rcases h with⟨hwr,fb,hv,hs⟩|⟨hno,hv,hs⟩
 ·refine⟨_,_,hv,Ac rfl ?_⟩;refine AP (A7n hs) λv w h=>?_;rcases h with⟨hk3,mb,hv,hs⟩|⟨hno,hv,hs⟩
  ·refine⟨_,_,hv,Ac rfl ?_⟩;rw[hr] at hs;refine An (Ai0 hs) λe w ⟨tb,he,hs⟩=>⟨_,he,?_⟩;have hs:=Ab.nilR Gr hs;refine Ah hs λb w hs=>?_;have hi:On r 0 [] [] [] []:=⟨⟨by simp[Ci,Ei],by simp,by simp⟩,by simp,by simp;omega,by simp,λx=>by simp[kT]⟩
   exact .inl ⟨⟨hwr,hk3⟩,b,rfl,Dg hi (BX (tb:=tb) (fb:=fb) (mb:=mb) (s:=⟨none,0,0⟩) (x0:=0) (x1:=0) (x2:=0) (x3:=0) (x4:=0) (x5:=0) ⟨by decide,by decide,by decide,by decide,by decide,by decide⟩ (by exact Ab.fin hs))⟩
  ·exact⟨_,_,hv,Ak rfl (.inr ⟨by omega,4,by decide,rfl,hs.drop⟩)⟩
 ·exact⟨_,_,hv,Ak rfl (.inr ⟨by omega,1,by decide,rfl,hs⟩)⟩
theorem Al4{r:Int}(hr1:1<=r)(hr2:r<=1024)(hn:n<900000000000)(hs:Ab W w (sd b c n T kd o::M)):BB PR 63 #[pq b 0,.i r] w λv w'=>∃(sl:Sl) (g:BL),v = .tuple #[.l sl.a sl.n sl.c,.i 0]/\g.Nodup/\(∀x∈g,x∈kT T)/\(g=[]\/((A3 T g).length:Int)=r)/\Ab W w' (sd b r (n+520) (A3 T g) kd none::recs Rec.str sl g::M):=by
 refine cw ⟨mixed,Tryz.func63,rfl⟩ A0w ?_;refine Ac rfl ?_;refine Ai (Vv hs) λv w ⟨hv,hs⟩=>⟨_,hv,?_⟩;refine Ac (by rw[decide_eq_true ⟨hr1,hr2⟩];rfl) ?_
 refine jw Aep ?_;obtain⟨l,R,evs,hi,hs⟩:=E5 hs;have hkR:=(EX hs).1;have hc2:=hkR.c2;have hc1:=hkR.c1;have hTl:=hi.len;have hnn:=hi.n
 have hrr:Bv r=r:=by unfold Bv;omega
 refine Ai (GG hi.tok (by omega) (by omega) hi.sim hs) λv w ⟨m,S,o',evs',hv,hm,ho,hle,hs⟩=>⟨_,hv,?_⟩;have hKok:=Aif hi.tok.rise hi.small hi.len hc1 hc2;obtain⟨tb,fb,mb,s,x0,x1,x2,x3,x4,x5,hc,hs⟩:=C9 hs;refine Aa (Ag hs ?_);have hs:Ab W w (Gi mb kd c S o'::cD b tb fb mb x0 x1 x2 x3 x4 x5 s::tabR tb T::fd fb []::recs Gr s evs'::M):=by exact Ab.fin hs
 refine Ai (Ald hs) λv w ⟨sl,g,S2,hv,hsub,hnd,hm2,hgl2,hs⟩=>⟨_,hv,?_⟩;rw[hrr] at hs hgl2;have hok2:=Oc hs;have hs:Ab W w (Qo b r T [] kd none S2 evs'::recs Rec.str sl g::M):=BX hc (by exact Ab.fin hs);have hgT:∀x∈g,x∈kT T:=λx hx=>(hm x).1 (hsub x hx);have hgl:g.length<=T.length:=by
  have:=Fv hnd hgT;unfold kT at this;simpa using this
 refine B0 (Qr hi.tok (by omega) (by omega) (λx hx=>hKok.small x (hgT x hx)) hs) λv w ⟨hv,hs⟩=>⟨hv,?_⟩;have hmT:∀x,x∈S2↔x∈kT (A3 T g):=λx=>by rw[hm2,hm,FK hi.tok.rise]
 have htk:=CJ (g:=g) hi.tok;have hl2:S2.length=(A3 T g).length:=by
  have h1:=(Dv hok2.nd htk.rise.nodup hmT).length_eq;simpa using h1
 have hlen:((A3 T g).length:Int)<=r:=by
  have h2:=hok2.room;omega
 have hi2:On r (n+520) (A3 T g) [] S2 evs':=⟨htk,Gy (P:=λk=>k.size<=40) hi.tok.rise hi.small,hlen,by omega,hmT⟩;exact⟨sl,g,rfl,hnd,hgT,by rw[<- hl2];exact hgl2,Dg hi2 hs⟩
theorem Qu(h:E7 key val now life=0):EY T key val now life=G4 T key (val,GZ now life):=if_pos h
abbrev Amp(b:Nat)(c:Int)(n:Nat)(T1:TT)(g0:BL)(kd:Int)(o:Option Nat)(key val:BA)(now life:Int)(W:World)(M:List HP):VW:=λv w'=>
 ∃(sl:Sl) (g:BL),v = .tuple #[.l sl.a sl.n sl.c,.i 0]/\g.Nodup/\(∀x∈g,x∈kT T1)/\key∉g/\sdL b c n (EY (A3 T1 g) key val now life) kd o W w' (recs Rec.str sl (g0++g)::M)
theorem A7v{T1:TT}{g0:BL}{s0:Sl}{Q:VW}(hQ:∀v w,Amp b c (n+1041) T1 g0 kd o key val now life W M v w->Q v w)(he:E7 key val now life=0)(hn:n<700000000000)(hg0:g0.length<=1)(t:Bool)(ht:t=true->key∈kT T1\/(T1.length:Int)<c)(hf:t=false->key∉kT T1/\c<=(T1.length:Int))(hs:Ab W w (sd b c n T1 kd o::recs Rec.str s0 g0::M)) :
  W7 By Q (some ⟨b,0,none⟩) key val now life s0 t w:=by
 obtain⟨hkey,hv,hn0,hn1,hl0,hl1⟩:=Ms he;have hkz:=Ep hkey;refine jw Aeh ?_;obtain⟨l,R,evs,hi,hs⟩:=E5 hs;have hkR:=(EX hs).1;have hc2:=hkR.c2;have hc1:=hkR.c1;have hTl:=hi.len;have hnn:=hi.n
 cases t with
 | true=>
  refine Ak rfl ?_;obtain⟨tb,fb,mb,s,x0,x1,x2,x3,x4,x5,hc,hs⟩:=C9 hs;refine Aa (Ag hs ?_);refine AH (Xx (k:=key) (v:=val) (now:=now) (life:=life) hs (by omega)) λe w ⟨he2,hs⟩=>⟨_,_,he2,?_⟩;have htp:=Qu (T:=T1) he;have hlen:((G4 T1 key (val,GZ now life)).length:Int)<=c:=by
   rw[Aln hi.tok];rcases ht rfl with h|h
   ·rw[if_pos h];omega
   ·split <;> omega
  have hev:EvS c (kT T1) ((2:Int),key) (kT (G4 T1 key (val,GZ now life))):=EvS.put hi.tok hi.small (by omega) hlen hc1 hc2;have htk:=hi.tok.put key val now life;have hsm:=KV (v:=(val,GZ now life)) hi.tok.rise hi.small (key:=key) (by omega);rw[<- htp] at hev hlen hsm;have hdel:A3 T1 []=T1:=rfl;have hsi:=hi.sim;unfold Amp at hQ;generalize hT2:EY T1 key val now life=T2 at *;have hs:=BX hc hs;refine B0 (St (.inl rfl) htk (by omega) (by omega) (by omega) hsi hev hs) λv w ⟨hv,l',S,o',evs',hlen2,hsim,ho,hs⟩=>⟨hv,?_⟩;have hi2:On c (n+1041) T2 l' S evs':=⟨htk,hsm,hlen,by omega,hsim⟩
  refine hQ _ _ ⟨s0,[],rfl,by simp,by simp,by simp,o',ho,?_⟩;rw[List.append_nil,hdel,hT2];exact Dg hi2 hs
 | false=>
  refine Ac rfl ?_;obtain⟨hno,hfull⟩:=hf rfl;refine jw Aei ?_;refine Ai (GG hi.tok (by omega) (by omega) hi.sim hs) λv w ⟨m,S,o',evs',hv,hm,ho,hle,hs⟩=>⟨_,hv,?_⟩;obtain⟨tb,fb,mb,s,x0,x1,x2,x3,x4,x5,hc,hs⟩:=C9 hs;refine Aa (Ag hs ?_);have hs:Ab W w (Gi mb kd c S o'::cD b tb fb mb x0 x1 x2 x3 x4 x5 s::tabR tb T1::fd fb []::recs Gr s evs'::recs Rec.str s0 g0::M):=by exact Ab.fin hs
  refine Ai (UZ (key:=key) (by omega) hs) λv w ⟨sg,g,S2,o2,hv,hin,ho2,hs⟩=>⟨_,hv,?_⟩;have hgT:∀x∈g,x∈kT T1:=λx hx=>(hm x).1 (hin.sub x hx);have hgl:g.length<=T1.length:=by
   have:=Fv hin.nd hgT;unfold kT at this;simpa using this
  refine Aa (Ag (x:=s) hs ?_);refine Ah hs λnb w hs=>?_;refine Cf (s:=s) (a:=(((2:Int),key):Ev)) hs rfl rfl rfl rfl (by decide) (by omega) λs5 w hs5 hs=>?_;refine Aa (A0 hs λw hs=>?_);have hs:Ab W w (Qo b c T1 [] kd o2 S2 (evs'++[((2:Int),key)])::recs Rec.str sg g::recs Rec.str s0 g0::M):=BX hc (by exact Ab.fin hs);have hKok:=Aif hi.tok.rise hi.small hi.len hc1 hc2;refine B0 (Qr hi.tok (by omega) (by omega) (λx hx=>hKok.small x (hgT x hx)) hs) λv w ⟨hv,hs⟩=>⟨hv,?_⟩;have htk:=CJ (g:=g) hi.tok;have Li:=Iu (g:=g) hi.tok
  have hsm:=Gy (P:=λk=>k.size<=40) (g:=g) hi.tok.rise hi.small;have hkd:∀x,x∈kT (A3 T1 g)↔x∈kT T1/\x∉g:=λx=>FK hi.tok.rise;clear hc;obtain⟨tb,fb,mb,s,x0,x1,x2,x3,x4,x5,hc,hs⟩:=C9 hs;refine Aa (Ag hs ?_);refine AH (Xx (k:=key) (v:=val) (now:=now) (life:=life) hs (by omega)) λe w ⟨he2,hs⟩=>⟨_,_,he2,?_⟩;have htp:=Qu (T:=A3 T1 g) he;have htk2:=htk.put key val now life;have hsm2:=KV (v:=(val,GZ now life)) htk.rise hsm (key:=key) (by omega);have hmS:∀x,x∈S2↔x∈kT (G4 (A3 T1 g) key (val,GZ now life)):=λx=>by
   rw[Afl htk.rise,hkd,hin.mem,hm]
  have hlen2:((G4 (A3 T1 g) key (val,GZ now life)).length:Int)<=c:=by
   have h1:=(Dv hin.ok.nd (JY htk.rise).nodup hmS).length_eq;have h2:=hin.ok.room;simp only[List.length_map] at h1;omega
  rw[<- htp] at hmS hlen2 hsm2;unfold Amp at hQ;generalize hT2:EY (A3 T1 g) key val now life=T2 at *;have hs:=BX hc hs;have hi2:On c (n+1041) T2 [] S2 (evs'++[((2:Int),key)]):=⟨htk2,hsm2,hlen2,by simp;omega,hmS⟩
  have hs:=Dg hi2 hs;have hs:Ab W w (recs Rec.str s0 g0::recs Rec.str sg g::sd b c (n+1041) T2 kd o2::M):=by exact Ab.fin hs
  refine DK (s:=s0) (new:=g) hs (GS (s:=sg) (E:=Rec.str) (rows:=g) hs) (Bt (s:=sg) (E:=Rec.str) (rows:=g) hs) (Cx _) rfl (by decide) (by omega) λs6 w hs6 hs=>?_;have hs:Ab W w (recs Rec.str s6 (g0++g)::recs Rec.str sg g::sd b c (n+1041) T2 kd o2::M):=hs;refine hQ _ _ ⟨s6,g,rfl,hin.nd,hgT,hin.no,o2,ho2.trans ho,?_⟩;rw[hT2];exact Ab.fin hs
theorem A76(hn:n<600000000000)(hs:Ab W w (sd b c n T kd o::M)):BB PR 53 #[pq b 0,.s key,.s val,.i now,.i life] w λv w'=>
  (E7 key val now life≠0/\v = .tuple #[.l none 0 0,.i (E7 key val now life)]/\Ab W w' (sd b c n T kd o::M)) \/
  (E7 key val now life=0/\Amp b c (n+1561) (Cb T key now) (BS T key now) kd o key val now life W M v w'):=by
 refine cw ⟨mixed,Tryz.func53,rfl⟩ A0m ?_;refine Ac rfl ?_;refine An (Ai0 hs) λe w ⟨tb0,he,hs⟩=>⟨_,he,?_⟩;refine AH (Xx (k:=key) (v:=val) (now:=now) (life:=life) hs (by simp)) λe w ⟨he2,hs⟩=>⟨_,_,he2,?_⟩;have hs:Ab W w (sd b c n T kd o::M):=hs.drop
 with_reducible refine A2 (λhe=>?_) (λhe=>?_)
 ·exact .inl ⟨he,rfl,hs⟩
 obtain⟨hkey,_⟩:=Ms he;have hkz:=Ep hkey;refine Ai (Qq (now:=now) (by omega) (by omega) hs) λv w ⟨sg,hv,o',ho,hs⟩=>⟨_,hv,?_⟩;have hg1:(BS T key now).length<=1:=by unfold BS;split <;> simp
 generalize BS T key now=gg at hs hg1 ⊢;generalize Cb T key now=T1 at hs ⊢;obtain⟨l,R,evs,hi,hs⟩:=E5 hs;have hkR:=(EX hs).1;have hc2:=hkR.c2;have hTl:=hi.len
 obtain⟨tb,fb,mb,s,x0,x1,x2,x3,x4,x5,hc,hs⟩:=C9 hs;refine Aa ?_;refine Ar (HQ hs rfl hc.h2) λe w ⟨he3,hs⟩=>⟨he3,?_⟩;have hc':Amn x0 x1 (F7 x2 1099511627776) x3 x4 x5:=⟨hc.h0,hc.h1,G3 hc.h2,hc.h3,hc.h4,hc.h5⟩;have hs:Ab W w (cD b tb fb mb x0 x1 (F7 x2 1099511627776) x3 x4 x5 s::tabR tb T1::fd fb l::Gi mb kd c R o'::recs Gr s evs::recs Rec.str sg gg::M):=hs;have fin:∀(w:World)(t:Bool),(t=true->key∈kT T1\/(T1.length:Int)<c)->(t=false->key∉kT T1/\c<=(T1.length:Int))->Ab W w (cD b tb fb mb x0 x1 (F7 x2 1099511627776) x3 x4 x5 s::tabR tb T1::fd fb l::Gi mb kd c R o'::recs Gr s evs::recs Rec.str sg gg::M) ->
   W7 By (λv w'=>(E7 key val now life≠0/\v = .tuple #[.l none 0 0,.i (E7 key val now life)]/\Ab W w' (sd b c n T kd o::M))\/(E7 key val now life=0/\Amp b c (n+1561) T1 gg kd o key val now life W M v w')) (some ⟨b,0,none⟩) key val now life sg t w:=by
  clear hs;intro w t h1 h2 hs;refine A7v (n:=n+520) (o:=o') (λv w ⟨sl,g,a1,a2,a3,a4,o2,a5,a6⟩=>.inr ⟨he,sl,g,a1,a2,a3,a4,o2,a5.trans ho,a6⟩) he (by omega) hg1 t h1 h2 (Dg hi (BX hc' hs))
 refine Ao [cD b tb fb mb x0 x1 (F7 x2 1099511627776) x3 x4 x5 s] hs λw hs=>?_;refine Aa (Ag hs (Ae hs ?_));refine An (Aiz (k:=key) hs (by omega)) λe w ⟨he2,hs⟩=>⟨_,he2,Ae hs ?_⟩;refine Al (λh1=>?_) (λh1=>?_)
 ·refine Ae hs ?_;exact fin w true (λ_=>.inl (Dx.2 h1)) (λh=>by cases h) hs
 ·have hno:key∉kT T1:=λh=>by rw[Dx.1 h] at h1;cases h1
  refine Aa (Am (Aa (Am ?_)));refine An (A3h hs) λe w ⟨he2,hs⟩=>⟨_,he2,Ae hs ?_⟩;have hs:Ab W w (Gi mb kd c R o'::cD b tb fb mb x0 x1 (F7 x2 1099511627776) x3 x4 x5 s::tabR tb T1::fd fb l::recs Gr s evs::recs Rec.str sg gg::M):=by exact Ab.fin hs
  refine Ai (A2m hs) λv w ⟨hv,hs⟩=>⟨_,hv,?_⟩;exact fin w _ (λh=>.inr (of_decide_eq_true h)) (λh=>⟨hno,by have:=of_decide_eq_false h;omega⟩) (by exact Ab.fin hs)
theorem Ab3{T:TT}(ht:Ci T){x:BA}(h:x∈Cq T now):OS T x now=true:=by
 unfold Cq at h;obtain⟨e,he,rfl⟩:=List.mem_map.1 h;obtain⟨h1,h2⟩:=List.mem_filter.1 he;have hg:AC T e.1=some e.2:=(Ck ht.nodup).2 h1;unfold OS Dy;rw[hg];dsimp only;rw[h2];rfl
theorem S6{T:TT}(ht:Ci T):(Cq T now).Nodup:=by
 unfold Cq;exact ht.nodup.sublist ((List.filter_sublist).map _)
theorem Vx{T S:TT}{x:BA}(h:AC T x=AC S x):OS T x now=OS S x now:=by unfold OS;rw[h,IR h]
theorem Al3(h0:0<=now)(h1:now<=1125899906842624)(hn:n<800000000000)(hs:Ab W w (sd b c n T kd o::M)):BB PR 55 #[pq b 0,.i now] w λv w'=>∃sl:Sl,v = .l sl.a sl.n sl.c/\sdL b c (n+600000) (A3 T (Cq T now)) kd o W w' (recs Rec.str sl (Cq T now)::M):=by
 refine cw ⟨mixed,Tryz.func55,rfl⟩ A0o ?_;refine Ac rfl ?_;refine Ai (Abx hs) λv w ⟨hv,hs⟩=>⟨_,hv,?_⟩;refine Ac (by rw[decide_eq_true ⟨h0,h1⟩];rfl) ?_
 refine jw Aej ?_;have hok:=Auw hs;have hTl:=hok.len;have hc2:=hok.c2
 obtain⟨l,R,evs,hi,hs⟩:=E5 hs;obtain⟨tb,fb,mb,s,x0,x1,x2,x3,x4,x5,hc,hs⟩:=C9 hs;refine Aa (Ag hs ?_);have hs:Ab W w (tabR tb T::cD b tb fb mb x0 x1 x2 x3 x4 x5 s::fd fb l::Gi mb kd c R o::recs Gr s evs::M):=by exact Ab.fin hs
 refine An (A3g (now:=now) hs (by omega)) λe w ⟨sl,he,hs⟩=>⟨sl,he,?_⟩;have hs:Ab W w (cD b tb fb mb x0 x1 x2 x3 x4 x5 s::tabR tb T::fd fb l::Gi mb kd c R o::recs Gr s evs::recs Rec.str sl (Cq T now)::M):=by exact Ab.fin hs
 have hs:=Dg hi (BX hc hs);have hnd:=S6 (now:=now) hok.tok.rise;have hov:∀x∈Cq T now,OS T x now=true:=λx hx=>Ab3 hok.tok.rise hx;have Li:(Cq T now).length<=T.length:=by unfold Cq;rw[List.length_map];exact List.length_filter_le _ _
 have hdz:∀x∈Cq T now,x.size<=40:=λx hx=>by
  unfold Cq at hx;obtain⟨e,he,rfl⟩:=List.mem_map.1 hx;exact hok.small e (List.mem_filter.1 he).1
 generalize Cq T now=D at *;have hsn:=Bt (s:=sl) (E:=Rec.str) (rows:=D) hs;have hs:=Ab.nilR Rec.str hs;have loop:∀(f i:Nat)(w:World)(acc:Sl)(o':Option Nat),i+f=D.length->K4 o' o->Ab W w (recs Rec.str acc (D.take i)::sd b c (n+i*520) (A3 T (D.take i)) kd o'::recs Rec.str sl D::M) ->
   W9 By (λv w'=>∃sl:Sl,v = .l sl.a sl.n sl.c/\sdL b c (n+600000) (A3 T D) kd o W w' (recs Rec.str sl D::M)) (f+1) (some ⟨b,0,none⟩) now acc sl (sl.n:Int) (i:Int) w:=by
  clear hs;intro f
  induction f with
  | zero=>
   intro i w acc o' hi ho hs;rw[QS];refine Ac (decide_eq_false (by omega)) ?_;refine jw Aek ?_;rw[List.take_of_length_le (by omega)] at hs;have hs:Ab W w (sd b c (n+i*520) (A3 T D) kd o'::recs Rec.str acc D::M):=by exact Ab.fin hs
   exact⟨acc,rfl,o',ho,GB (by omega) hs⟩
  | succ f ih=>
   intro i w acc o' hi ho hs;rw[QS];refine Ak (decide_eq_true (by omega)) ?_;have hil:i<D.length:=by omega
   refine AB (s:=sl) (E:=Rec.str) (rows:=D) hs λb_ o_ ha_=>?_;refine AE (s:=sl) (E:=Rec.str) (rows:=D) ha_ hs ?_;rw[Int.toNat_natCast];have hm:D.getD i default∈D:=GI hil;have hno:D.getD i default∉D.take i:=by
    intro hin;have h2:=hnd;rw[<- List.take_append_drop i D,List.nodup_append] at h2;have hd:D.getD i default∈D.drop i:=by
     rw[List.getD_eq_getElem?_getD,List.getElem?_eq_getElem hil,List.drop_eq_getElem_cons hil];exact .head _
    exact h2.2.2 _ hin _ hd rfl
   have hg:AC (A3 T (D.take i)) (D.getD i default)=AC T (D.getD i default):=(BC hok.tok.rise).2 hno;have ho2:OS (A3 T (D.take i)) (D.getD i default) now=true:=by rw[Vx hg];exact hov _ hm
   have hs:Ab W w (sd b c (n+i*520) (A3 T (D.take i)) kd o'::recs Rec.str acc (D.take i)::recs Rec.str sl D::M):=by exact Ab.fin hs
   refine Ai (Qq (now:=now) (by omega) (hdz _ hm) hs) λv w ⟨s2,hv,o2,ho3,hs⟩=>⟨_,hv,?_⟩;have e1:Cb (A3 T (D.take i)) (D.getD i default) now=A3 T (D.take (i+1)):=by
    unfold Cb;rw[ho2,CA hil];unfold A3;rw[List.foldl_append];rfl
   have e2:BS (A3 T (D.take i)) (D.getD i default) now=[D.getD i default]:=by unfold BS;rw[ho2];rfl
   rw[e1,e2] at hs;rw[show IntKind.wrap .i64 ((i:Int)+1)=((i+1:Nat):Int) by rw[i64_in _ (by omega)];omega]
   have hs:Ab W w (recs Rec.str acc (D.take i)::recs Rec.str s2 [D.getD i default]::sd b c (n+i*520+520) (A3 T (D.take (i+1))) kd o2::recs Rec.str sl D::M):=by exact Ab.fin hs
   refine DK (s:=acc) (new:=[D.getD i default]) hs (GS (s:=s2) (E:=Rec.str) hs) (Bt (s:=s2) (E:=Rec.str) hs) (Cx _) rfl (by decide) (by rw[List.length_take];simp;omega) λs6 w hs6 hs=>?_;rw[<- CA hil] at hs;refine ih (i+1) w s6 o2 (by omega) (ho3.trans ho) ?_;rw[show n+(i+1)*520=n+i*520+520 by omega];exact Ab.fin hs
 exact AR _ (loop D.length 0 w ⟨none,0,0⟩ o (by omega) K4.refl (by rw[Nat.zero_mul,Nat.add_zero];exact hs))
end
end Go.Proofs.YtjipofkjmmpjdaaGreat
namespace Go.Proofs.YtjipofkjmmpjdaaGreat
open Go.Hb Go.IntWalk
section
variable{W w:World}{L M:List HP}{F:HP->List HP}{b:Nat}{room:Int}{N:Nat}{ks:List BA}{k:BA}
theorem WL(h:Ab W w L)[hA:At L b (ghR b room N ks) F](hz:k.size<4611686018427387904)(hb:N<800000000):Calls PR 124 #[pq b 0,.s k] w λe w'=>e = .returned (.b (SO ks k))/\Ab W w' (F (ghR b room N (Aq ks k))):=by
 refine At.call1 (hA:=hA) h λM hs=>?_;clear h hA;refine c1 (cw ⟨mixed,Tryz.func124,rfl⟩ An5 ?_);obtain⟨lb,xb,row,free,m,hi,hN,hs⟩:=LN hs;have hl:=hi.len;have hhas:=hi.has (k:=k);refine Ac rfl ?_
 repeat (first|with_reducible refine Aa ?_|((with_reducible refine Ax ?_);first|refine Ag hs ?_|fail)|fail)
 refine AH (Rs hs hz (by omega)) λe w ⟨he,hs⟩=>⟨_,_,he,?_⟩;cases hg:AC m k with
 | none=>
  rw[hg] at hhas;obtain⟨h1,h2,h3⟩:=hi.miss hg;refine Ac rfl ?_;rw[<- hhas,h2];exact⟨rfl,JM h3 hN (by exact Ab.fin hs)⟩
 | some x=>
  rw[hg] at hhas;have hnd:=Ia (mk:=.string) (b:=lb) (row:=row) (free:=free) (M:=blk b [.i room,pq lb 0,pq xb 0]::ixr (Rec.int .i64) xb 0 (Cr m k)::M) (by exact Ab.fin hs);obtain⟨i,h1,h2⟩:=hi.hit hg hnd;refine Ak rfl ?_
  repeat (first|with_reducible refine Aa ?_|((with_reducible refine Ax ?_);first|refine Ag hs ?_|fail)|fail)
  refine AH (HG hs (by omega)) λe w ⟨he,hs⟩=>⟨_,_,he,?_⟩;simp only[Option.getD_some,h1] at hs;rw[<- hhas];obtain⟨_,_,_,_,hlt⟩:=Mi h1;refine⟨rfl,JM h2 ?_ (by exact Ab.fin hs)⟩;rw[List.length_eraseIdx,if_pos hlt];simp;omega
theorem A6z(h:Ab W w L)[hA:At L b (ghR b room N ks) F](hz:k.size<4611686018427387904)(hb:N<700000000):Calls PR 126 #[pq b 0,.s k] w λe w'=>e = .returned (.tuple #[.s (Ah9 room ks k),.b (Aan room ks k)])/\Ab W w' (F (ghR b room (N+1) (A1x room ks k))):=by
 refine At.call1 (hA:=hA) h λM hs=>?_;clear h hA;refine c1 (cw ⟨mixed,Tryz.func126,rfl⟩ An7 ?_);refine Ac rfl ?_;refine An (WL hs hz (by omega)) λe w ⟨he,hs⟩=>⟨_,he,?_⟩;obtain⟨lb,xb,row,free,m,hi,hN,hs⟩:=LN hs;have hl:=hi.len;have hk:k∉Aq ks k:=λh=>(AT.1 h).2 rfl;refine Ao [blk b [.i room,pq lb 0,pq xb 0]] hs λw hs=>?_
 repeat (first|with_reducible refine Aa ?_|((with_reducible refine Ax ?_);first|refine Ag hs ?_|fail)|((with_reducible refine AX ?_);first|refine Am ?_|fail)|((with_reducible refine AA ?_);first|refine Ae hs ?_|fail)|fail)
 refine An (Gn hs (by omega)) λe w ⟨he,hs⟩=>⟨_,he,?_⟩
 repeat (first|((with_reducible refine AA ?_);first|refine Ae hs ?_|fail)|fail)
 refine An (WR hs hz hi.small_m (by omega)) λe w ⟨he,hs⟩=>⟨_,he,?_⟩;have hi2:=hi.push hk hz (Li row free);have hN2:(row++[(Li row free,k)]).length+free.dropLast.length<=N+1:=by simp;omega
 refine Ao [blk b [.i room,pq lb 0,pq xb 0]] hs λw hs=>?_
 repeat (first|with_reducible refine Aa ?_|((with_reducible refine AX ?_);first|refine Am ?_|fail)|fail)
 refine An (FS hs) λe w ⟨he,hs⟩=>⟨_,he,?_⟩
 repeat (first|((with_reducible refine AA ?_);first|refine Ae hs ?_|fail)|fail)
 rw[show(row++[(Li row free,k)]).length=(Aq ks k++[k]).length by rw[hi2.len.2]];have hs:=JM (b:=b) (room:=room) (lb:=lb) (xb:=xb) (M:=M) hi2 hN2 (by exact Ab.fin hs);refine Al (λh1=>?_) (λh1=>?_)
 ·have h1:=of_decide_eq_true h1;have e1:A1x room ks k=Aq ks k++[k]:=if_pos h1;have e2:Ah9 room ks k=Af:=if_pos h1;have e3:Aan room ks k=false:=by unfold Aan;rw[decide_eq_true h1];rfl
  rw[e1,e2,e3];exact⟨rfl,hs⟩
 ·have h1:=of_decide_eq_false h1;have hnd:=(Asx hs).1;have hsm:=(Asx hs).2.2;obtain⟨x,t,hx⟩:∃x t,Aq ks k++[k]=x::t:=by
   cases hc:Aq ks k++[k] with
   | nil=>simp at hc
   | cons x t=>exact⟨x,t,rfl⟩
  have e1:A1x room ks k=t:=by unfold A1x;rw[if_neg h1,hx];rfl
  have e2:Ah9 room ks k=x:=by unfold Ah9;rw[if_neg h1,hx];rfl
  have e3:Aan room ks k=true:=by unfold Aan;rw[decide_eq_false h1];rfl
  rw[e1,e2,e3];rw[hx] at hs hnd hsm;obtain⟨lb,xb,row,free,m,hi,hN,hs⟩:=LN hs;refine Ao [blk b [.i room,pq lb 0,pq xb 0]] hs λw hs=>?_
  repeat (first|with_reducible refine Aa ?_|((with_reducible refine Ax ?_);first|refine Ag hs ?_|fail)|((with_reducible refine AX ?_);first|refine Am ?_|fail)|((with_reducible refine AA ?_);first|refine Ae hs ?_|fail)|fail)
  refine An (E6 hs) λe w ⟨he,hs⟩=>⟨_,he,?_⟩
  repeat (first|((with_reducible refine AA ?_);first|refine Ae hs ?_|fail)|fail)
  refine AH (FR hs) λe w ⟨he,hs⟩=>⟨_,_,he,?_⟩;have hndr:=Ia (mk:=.string) (b:=lb) (row:=row) (free:=free) (M:=blk b [.i room,pq lb 0,pq xb 0]::ixr (Rec.int .i64) xb 0 m::M) (by exact Ab.fin hs);obtain⟨p,rest,hrow⟩:∃p rest,row=(p,x)::rest:=by
   have:=hi.keys;cases hc:row with
   | nil=>rw[hc] at this;cases this
   | cons e r=>
    rw[hc] at this;rw[List.map_cons,List.cons.injEq] at this;exact⟨e.1,r,by rw[<- this.1]⟩
  have hat:JX row ((Bo row 0:Nat):Int)=some 0:=by
   have h0:Bo row 0=p:=by rw[hrow];rfl
   rw[h0];exact KU hndr (i:=0) (e:=(p,x)) (by rw[hrow];rfl)
  have hval:FO row ((Bo row 0:Nat):Int)=some x:=by
   unfold FO;rw[hat,hrow];rfl
  rw[hval,hat];have hs:=JM (b:=b) (room:=room) (lb:=lb) (xb:=xb) (M:=M) hi hN (by exact Ab.fin hs);have hzx:x.size<4611686018427387904:=hsm x (by simp);refine An (WL hs hzx (by omega)) λe w ⟨he,hs⟩=>⟨_,he,?_⟩;simp only[Option.getD_some] at hs;rw[KE hnd] at hs;exact⟨rfl,hs⟩
theorem A60(hs:Ab W w L){r:Int}:Calls PR 147 #[.i r] w λe w'=>∃b,e = .returned (pq b 0)/\Ab W w' (ghR b (Acy r) 0 []::L):=by
 refine(cw ⟨mixed,Tryz.func147,rfl⟩ Aoq (Q:=λv w'=>∃b,v=pq b 0/\Ab W w' (ghR b (Acy r) 0 []::L)) ?_).mono λe w' ⟨v,he,b,hv,hs⟩=>⟨b,by rw[he,hv],hs⟩;refine An (DS hs _ _ _) λe w ⟨he,hs⟩=>⟨_,he,?_⟩;refine(IQ hs).mono λe w ⟨lb,he,hs⟩=>⟨_,he,?_⟩;refine(Aib hs).mono λe w ⟨xb,he,hs⟩=>⟨_,he,?_⟩
 repeat (first|((with_reducible refine Bf ?_);first|refine Ah hs λb_ w hs=>?_|fail)|fail)
 exact⟨_,rfl,JM (lb:=lb) (xb:=xb) (row:=[]) (free:=[]) (m:=[]) ⟨rfl,by simp,List.Perm.refl _,by simp⟩ (Nat.le_refl _) (by exact Ab.fin hs)⟩
end
end Go.Proofs.YtjipofkjmmpjdaaGreat
namespace Go.Hb
def XB(b n:Nat):HP:=Ks λ(z:Int×BL)=>ghR b z.1 n z.2
def GY(b:Nat):HP:=Ks λ(z:Int×Int×Int)=>F6 ((0<=z.1/\z.1<=16777216)/\0<=z.2.1/\0<=z.2.2) (blk b [.i z.1,.i z.2.1,.i z.2.2])
abbrev cW(b:Nat)(k:Int)(t e g:Nat)(x0 x1 x2 x3 x4 x5:Int):HP:=blk b [.i k,.iface t (pq e 0),pq g 0,.i x0,.i x1,.i x2,.i x3,.i x4,.i x5]
structure P6(x0 x1 x2 x3 x4 x5:Int):Prop where
 h0:0<=x0
 h1:0<=x1
 h2:0<=x2
 h3:0<=x3
 h4:0<=x4
 h5:0<=x5
def Cu(b n:Nat):HP:=Ks λ(z:(Int×Nat×Nat×Nat)×(Int×BL)×(Int×Int×Int×Int×Int×Int))=>F6 (P6 z.2.2.1 z.2.2.2.1 z.2.2.2.2.1 z.2.2.2.2.2.1 z.2.2.2.2.2.2.1 z.2.2.2.2.2.2.2)
 (AO [cW b z.1.1 z.1.2.1 z.1.2.2.1 z.1.2.2.2 z.2.2.1 z.2.2.2.1 z.2.2.2.2.1 z.2.2.2.2.2.1 z.2.2.2.2.2.2.1 z.2.2.2.2.2.2.2,eg z.1.2.1 z.1.2.2.1 z.2.1.1 z.2.1.2,XB z.1.2.2.2 n])
def Ta(l:List Nat)(n:Nat):HP:=AO (l.map λb=>Cu b n)
def F4(b n:Nat):HP:=Ks λ(z:(Nat×Int)×List Nat)=>F6 (z.2.length=5) (AO [blk b (pq z.1.1 0::.i z.1.2::z.2.map λq=>pq q 0),GY z.1.1,Ta z.2 n])
section
variable{W w:World}{M L:List HP}{b n m:Nat}
theorem As1(hn:n<=m)(h:Ab W w (XB b n::M)):Ab W w (XB b m::M):=by
 obtain⟨⟨r,ks⟩,h⟩:=h.openE;obtain⟨lb,xb,row,free,mm,h1,h2,h⟩:=LN h;exact Ab.shutE (r,ks) (JM h1 (by omega) h)
theorem Abz(h:Ab W w (GY b::M)):∃r a t:Int,((0<=r/\r<=16777216)/\0<=a/\0<=t)/\Ab W w (blk b [.i r,.i a,.i t]::M):=by
 obtain⟨⟨r,a,t⟩,h⟩:=h.openE;obtain⟨hp,h⟩:=h.openA;exact⟨r,a,t,hp,h⟩
theorem Mr{r a t:Int}(hp:(0<=r/\r<=16777216)/\0<=a/\0<=t)(h:Ab W w (blk b [.i r,.i a,.i t]::M)):Ab W w (GY b::M):=Ab.shutE (r,a,t) (Ab.shutA hp h)
theorem Su(h:Ab W w (Cu b n::M)):∃(k:Int) (t e g:Nat) (c:Int) (R:BL) (x0 x1 x2 x3 x4 x5:Int),P6 x0 x1 x2 x3 x4 x5/\Ab W w (cW b k t e g x0 x1 x2 x3 x4 x5::eg t e c R::XB g n::M):=by
 obtain⟨⟨⟨k,t,e,g⟩,⟨c,R⟩,x0,x1,x2,x3,x4,x5⟩,h⟩:=h.openE;obtain⟨hp,h⟩:=h.openA;exact⟨k,t,e,g,c,R,x0,x1,x2,x3,x4,x5,hp,h.openL⟩
theorem J9{k:Int}{t e g:Nat}{c:Int}{R:BL}{x0 x1 x2 x3 x4 x5:Int}(hp:P6 x0 x1 x2 x3 x4 x5)(h:Ab W w (cW b k t e g x0 x1 x2 x3 x4 x5::eg t e c R::XB g n::M)):Ab W w (Cu b n::M):=
 Ab.shutE ((k,t,e,g),(c,R),x0,x1,x2,x3,x4,x5) (Ab.shutA hp (Ab.shutL (Ps:=[_,_,_]) h))
theorem GT(hn:n<=m)(h:Ab W w (Cu b n::M)):Ab W w (Cu b m::M):=by
 obtain⟨k,t,e,g,c,R,x0,x1,x2,x3,x4,x5,hp,hs⟩:=Su h;have hs:Ab W w (XB g n::cW b k t e g x0 x1 x2 x3 x4 x5::eg t e c R::M):=by exact Ab.fin hs
 have hs:=As1 hn hs;exact J9 (c:=c) (R:=R) (t:=t) (e:=e) (g:=g) (k:=k) hp (by exact Ab.fin hs)
theorem Mf(h:Ab W w (F4 b n::M)):∃(sb:Nat) (r:Int) (l:List Nat),l.length=5/\Ab W w (blk b (pq sb 0::.i r::l.map λq=>pq q 0)::GY sb::Ta l n::M):=by
 obtain⟨⟨⟨sb,r⟩,l⟩,h⟩:=h.openE;obtain⟨hp,h⟩:=h.openA;exact⟨sb,r,l,hp,h.openL⟩
theorem Mg{sb:Nat}{r:Int}{l:List Nat}(hp:l.length=5)(h:Ab W w (blk b (pq sb 0::.i r::l.map λq=>pq q 0)::GY sb::Ta l n::M)):Ab W w (F4 b n::M):=
 Ab.shutE ((sb,r),l) (Ab.shutA hp (Ab.shutL (Ps:=[_,_,_]) h))
end
end Go.Hb
namespace Go.Proofs.YtjipofkjmmpjdaaGreat
open Go.Hb Go.IntWalk
section
variable{W w:World}{L M:List HP}{b n:Nat}{key:BA}
theorem Abv{l:List Value}{i:Nat}{x:Value}(h:l[i]? = some x):l.set i x=l:=by
 apply List.ext_getElem?;intro j
 by_cases hj:i=j
 ·subst hj;rw[List.getElem?_set_self (List.getElem?_eq_some_iff.1 h).1,h]
 ·rw[List.getElem?_set_ne hj]
theorem Ju{a b:Int}(h:0<=a):0<=F7 a b:=by unfold F7;split <;> omega
theorem Am5{i:Nat}{cs:List Value}{x y z:Int}{hit gone:Bool}(hs:Ab W w (blk b cs::L))(h0:cs[i]? = some (.i x))(h1:cs[i+1]? = some (.i y))(h2:cs[i+2]? = some (.i z))(hx:0<=x)(hy:0<=y)(hz:0<=z) :
  Calls PR 125 #[pq b i,.b hit,.b gone] w λe w'=>e = .returned (.tuple #[])/\∃x' y' z':Int,(0<=x'/\0<=y'/\0<=z')/\Ab W w' (blk b (((cs.set i (.i x')).set (i+1) (.i y')).set (i+2) (.i z'))::L):=by
 refine(cw ⟨mixed,Tryz.func125,rfl⟩ An6 (Q:=λv w'=>v = .tuple #[]/\∃x' y' z':Int,(0<=x'/\0<=y'/\0<=z')/\Ab W w' (blk b (((cs.set i (.i x')).set (i+1) (.i y')).set (i+2) (.i z'))::L)) ?_).mono λe w' ⟨v,he,hv,h⟩=>⟨by rw[he,hv],h⟩;have l0:=(List.getElem?_eq_some_iff.1 h0).1;have l1:=(List.getElem?_eq_some_iff.1 h1).1;have l2:=(List.getElem?_eq_some_iff.1 h2).1;refine Aa (Ag hs ?_ (hc:=h0));refine An (Jt hs (by omega) (by omega)) λe w ⟨he,hs⟩=>⟨_,he,?_⟩;refine Aa (IX 0 hs rfl l0 λw hs=>?_);have hs:Ab W w (blk b (cs.set i (.i (F7 x 1099511627776)))::L):=hs
 have hx':0<=F7 x 1099511627776:=Ju hx;generalize F7 x 1099511627776=x' at *;have g1:(cs.set i (.i x'))[i+1]? = some (.i y):=by rw[List.getElem?_set_ne (by omega)];exact h1
 have last:∀(w:World)(y':Int),0<=y'->Ab W w (blk b ((cs.set i (.i x')).set (i+1) (.i y'))::L)->VK By (λv w'=>v = .tuple #[]/\∃x' y' z':Int,(0<=x'/\0<=y'/\0<=z')/\Ab W w' (blk b (((cs.set i (.i x')).set (i+1) (.i y')).set (i+2) (.i z'))::L)) (some ⟨b,i,none⟩) gone w:=by
  clear hs;intro w y' hy' hs;refine jw Yn ?_;have g2:((cs.set i (.i x')).set (i+1) (.i y'))[i+2]? = some (.i z):=by rw[List.getElem?_set_ne (by omega),List.getElem?_set_ne (by omega)];exact h2
  refine Al (λ_=>?_) (λ_=>?_)
  ·refine Aa (Ag hs ?_ (hc:=g2));refine An (Jt hs (by omega) (by omega)) λe w ⟨he,hs⟩=>⟨_,he,?_⟩;refine Aa (IX 0 hs rfl (by simp;omega) λw hs=>?_)
   exact⟨rfl,x',y',_,⟨hx',hy',Ju hz⟩,hs⟩
  ·refine⟨rfl,x',y',z,⟨hx',hy',hz⟩,?_⟩;rw[show((cs.set i (.i x')).set (i+1) (.i y')).set (i+2) (.i z)=(cs.set i (.i x')).set (i+1) (.i y') from Abv g2];exact hs
 refine Al (λ_=>?_) (λ_=>?_)
 ·refine Aa (Ag hs ?_ (hc:=g1));refine An (Jt hs (by omega) (by omega)) λe w ⟨he,hs⟩=>⟨_,he,?_⟩;refine Aa (IX 0 hs rfl (by simp;omega) λw hs=>?_)
  exact last w _ (Ju hy) hs
 ·refine last w y hy ?_;rw[show(cs.set i (.i x')).set (i+1) (.i y)=cs.set i (.i x') from Abv g1];exact hs
theorem A79(hs:Ab W w L){r:Int}:BB PR 73 #[.i r] w λv w'=>∃b,v=pq b 0/\Ab W w' (GY b::L):=by
 refine cw ⟨mixed,Tryz.func73,rfl⟩ A06 ?_;refine An (DS hs _ _ _) λe w ⟨he,hs⟩=>⟨_,he,?_⟩;refine Ah hs λb w hs=>⟨b,rfl,Mr ⟨Gw r (by omega),by omega,by omega⟩ hs⟩
theorem A3b{c:Int}(hs:Ab W w (GY b::M)):BB PR 106 #[pq b 0,.i c] w λv w'=>∃x:Int,v = .i x/\Ab W w' (GY b::M):=by
 refine cw ⟨mixed,Tryz.func106,rfl⟩ Anl ?_;refine Ac rfl ?_;obtain⟨r,a,t,hp,hs⟩:=Abz hs;refine Ao [blk b [.i r,.i a,.i t]] hs λw hs=>?_;refine Aa (Am ?_);refine An (DS hs _ _ _) λe w ⟨he,hs⟩=>⟨_,he,Ae hs ?_⟩;exact Az (by decide) ⟨_,rfl,Mr hp hs⟩
theorem Au3(hz:key.size<64)(hs:Ab W w (GY b::M)):BB PR 87 #[pq b 0,.s key] w λv w'=>∃x:Bool,v = .b x/\Ab W w' (GY b::M):=by
 refine cw ⟨mixed,Tryz.func87,rfl⟩ A1k ?_;refine Ac rfl ?_;obtain⟨r,a,t,hp,hs⟩:=Abz hs;refine Aa (Ag hs ?_);refine An (Jt hs (by omega) (by omega)) λe w ⟨he,hs⟩=>⟨_,he,?_⟩;refine Aa (A0 hs λw hs=>?_);refine Ao [blk b [.i r,.i (F7 a 1099511627776),.i t]] hs λw hs=>?_;refine Aa (Am ?_);refine An (Hm hs (by omega)) λe w ⟨he,hs⟩=>⟨_,he,Ae hs ?_⟩;have hS:∀{x y:Int},BB PR 123 #[.int .u64 x,.i y] w λv w'=>∃z:Bool,v = .b z/\Ab W w' (blk b [.i r,.i (F7 a 1099511627776),.i t]::M):=by
  intro x y;refine cw ⟨mixed,Tryz.func123,rfl⟩ An4 ?_;exact Az (by decide) ⟨_,rfl,hs⟩
 clear hs;refine Ai hS λv w ⟨x,hv,hs⟩=>⟨_,hv,?_⟩;have hp2:0<=F7 a 1099511627776:=Ju hp.2.1;refine Al (λ_=>⟨_,rfl,Mr ⟨hp.1,hp2,hp.2.2⟩ hs⟩) (λ_=>?_);refine Aa (Ag hs ?_);refine An (Jt hs (by omega) (by omega)) λe w ⟨he,hs⟩=>⟨_,he,?_⟩;refine Aa (A0 hs λw hs=>?_);exact⟨_,rfl,Mr ⟨hp.1,hp2,Ju hp.2.2⟩ hs⟩
theorem S5{k r:Int}(hk:0<=k/\k<5)(hs:Ab W w L):BB PR 107 #[.i k,.i r] w λv w'=>∃b,v = .tuple #[pq b 0,.i 0]/\Ab W w' (Cu b 0::L):=by
 refine cw ⟨mixed,Tryz.func107,rfl⟩ Anm ?_;refine VE hs (λh=>by omega) (λ_ _ t e w hs=>?_);refine Ac rfl ?_;refine An (A60 hs) λe_ w ⟨g,he,hs⟩=>⟨_,he,?_⟩;have hs:Ab W w (XB g 0::eg t e (Bv r) []::L):=Ab.shutE (Acy r,[]) hs;refine Ah hs λb w hs=>⟨b,rfl,J9 (t:=t) (e:=e) (g:=g) (k:=k) (c:=Bv r) (R:=[]) (x0:=0) (x1:=0) (x2:=0) (x3:=0) (x4:=0) (x5:=0) ⟨by decide,by decide,by decide,by decide,by decide,by decide⟩ (by exact Ab.fin hs)⟩
theorem As0(hb:n<600000000)(hz:key.size<64)(hs:Ab W w (XB b n::M)):BB PR 124 #[pq b 0,.s key] w λv w'=>∃x:Bool,v = .b x/\Ab W w' (XB b n::M):=by
 obtain⟨⟨r,ks⟩,hs⟩:=hs.openE;exact Calls.mono (WL (k:=key) hs (by omega) (by omega)) λe w ⟨he,hs⟩=>⟨_,he,_,rfl,Ab.shutE (r,_) hs⟩
theorem A1y(hb:n<600000000)(hz:key.size<64)(hs:Ab W w (XB b n::M)):BB PR 126 #[pq b 0,.s key] w λv w'=>∃(x:BA) (y:Bool),v = .tuple #[.s x,.b y]/\Ab W w' (XB b (n+1)::M):=by
 obtain⟨⟨r,ks⟩,hs⟩:=hs.openE;exact Calls.mono (A6z (k:=key) hs (by omega) (by omega)) λe w ⟨he,hs⟩=>⟨_,he,_,_,rfl,Ab.shutE (r,_) hs⟩
theorem Il(hb:n<600000000)(hz:key.size<64)(hs:Ab W w (Cu b n::M)):BB PR 88 #[pq b 0,.s key] w λv w'=>∃x:Bool,v = .b x/\Ab W w' (Cu b (n+1)::M):=by
 refine cw ⟨mixed,Tryz.func88,rfl⟩ A1l ?_;refine Ac rfl ?_;obtain⟨k,t,e,g,c,R,x0,x1,x2,x3,x4,x5,hp,hs⟩:=Su hs;refine Aa (FC hs ?_);have hs:Ab W w (eg t e c R::cW b k t e g x0 x1 x2 x3 x4 x5::XB g n::M):=hs.perm (List.Perm.swap _ _ _);have hok:=Anc hs;refine HR hz hs λf hf=>AP hf λv w ⟨hit,l,G,S,hv,ha,hs⟩=>⟨_,_,hv,?_⟩;have hle:=ha.acc.le1;have hGz:∀x∈G,x.size<64:=λx hx=>hok.small x (ha.acc.sub x hx);have hs:Ab W w (cW b k t e g x0 x1 x2 x3 x4 x5::eg t e c S::XB g n::recs Rec.str l G::M):=by exact Ab.fin hs
 have hll:=Bt (s:=l) (E:=Rec.str) (rows:=G) hs;have j1:∀(w:World)(back:Bool),Ab W w (cW b k t e g x0 x1 x2 x3 x4 x5::eg t e c S::XB g n::recs Rec.str l G::M)->Ae2 By (λv w'=>∃x:Bool,v = .b x/\Ab W w' (Cu b (n+1)::M)) (some ⟨b,0,none⟩) hit l back w:=by
  clear hs;intro w back hs;refine jw Ae3 ?_;refine Aa ?_;refine Ar (Am5 (i:=0+3) hs rfl rfl rfl hp.h0 hp.h1 hp.h2) λe_ w ⟨he,y0,y1,y2,hy,hs⟩=>⟨he,?_⟩;have hs:Ab W w (cW b k t e g y0 y1 y2 x3 x4 x5::eg t e c S::XB g n::recs Rec.str l G::M):=hs;refine Aa ?_;refine Ar (Am5 (i:=0+6) hs rfl rfl rfl hp.h3 hp.h4 hp.h5) λe_ w ⟨he,y3,y4,y5,hy2,hs⟩=>⟨he,?_⟩;have hs:Ab W w (cW b k t e g y0 y1 y2 y3 y4 y5::eg t e c S::XB g n::recs Rec.str l G::M):=hs;have hp2:P6 y0 y1 y2 y3 y4 y5:=⟨hy.1,hy.2.1,hy.2.2,hy2.1,hy2.2.1,hy2.2.2⟩;have hG:G=[]\/∃x,G=[x]:=by
   cases G with
   | nil=>exact .inl rfl
   | cons x t=>exact .inr ⟨x,by cases t with
    | nil=>rfl
    | cons y t=>simp at hle⟩
  rcases hG with hG|⟨x,hG⟩
  ·rw[hG] at hs hll;refine AR 1 ?_;rw[KC];refine Ac (decide_eq_false (by simp at hll;omega)) ?_
   refine jw QZ ?_;exact⟨_,rfl,GT (Nat.le_succ n) (J9 (t:=t) (e:=e) (g:=g) (k:=k) (c:=c) (R:=S) hp2 (by exact Ab.fin hs))⟩
  ·rw[hG] at hs hll hGz;have hl1:l.n=1:=by simpa using hll
   refine AR 2 ?_;rw[KC];refine Ak (decide_eq_true (by omega)) ?_;refine AB (s:=l) (E:=Rec.str) (rows:=[x]) hs λb_ o_ ha_=>?_;refine AE (s:=l) (E:=Rec.str) (rows:=[x]) ha_ hs ?_;refine Aa (Ag hs ?_);have hs:Ab W w (XB g n::cW b k t e g y0 y1 y2 y3 y4 y5::eg t e c S::recs Rec.str l [x]::M):=by exact Ab.fin hs
   refine AP (A1y (key:=x) hb (hGz x (.head _)) hs) λv w ⟨z1,z2,hv,hs⟩=>⟨_,_,hv,?_⟩;rw[KC];refine Ac (decide_eq_false ?_) ?_
   ·rw[show IntKind.wrap .i64 ((0:Int)+1)=1 from rfl];omega
   refine jw QZ ?_;exact⟨_,rfl,J9 (t:=t) (e:=e) (g:=g) (k:=k) (c:=c) (R:=S) hp2 (by exact Ab.fin hs)⟩
 refine Al (λ_=>?_) (λ_=>j1 w false hs);refine Aa (Ag hs ?_);have hs:Ab W w (XB g n::cW b k t e g x0 x1 x2 x3 x4 x5::eg t e c S::recs Rec.str l G::M):=by exact Ab.fin hs
 refine Ai (As0 hb hz hs) λv w ⟨x,hv,hs⟩=>⟨_,hv,j1 w x (by exact Ab.fin hs)⟩
theorem JA(hs:Ab W w (Cu b n::M)):BB PR 103 #[pq b 0] w λv w'=>∃x y z:Int,v = .agg #[.i x,.i y,.i z]/\Ab W w' (Cu b n::M):=by
 refine cw ⟨mixed,Tryz.func103,rfl⟩ Ani ?_;refine Ah hs λb1 w hs=>?_;refine Ac rfl ?_;have hs:Ab W w (Cu b n::blk b1 [.i (0:Int),.i (0:Int),.i (0:Int)]::M):=hs.perm (List.Perm.swap _ _ _);obtain⟨k,t,e,g,c,R,x0,x1,x2,x3,x4,x5,hp,hs⟩:=Su hs;refine Aa (Ag hs (Ag hs (Ag hs ?_)));refine Ah hs λb2 w hs=>?_
 iterate 3 refine A0 hs λw hs=>?_
 refine Aa ?_
 iterate 3 refine A0 hs λw hs=>?_
 iterate 3 refine Ag hs ?_
 iterate 3 refine A0 hs λw hs=>?_
 iterate 3 refine Ag hs ?_
 exact⟨_,_,_,rfl,J9 (t:=t) (e:=e) (g:=g) (k:=k) (c:=c) (R:=R) (x0:=0) (x1:=0) (x2:=0) ⟨by decide,by decide,by decide,hp.h3,hp.h4,hp.h5⟩ (by exact Ab.fin hs)⟩
theorem Vf(hb:n<600000000)(hz:key.size<64)(hs:Ab W w (F4 b n::M)):BB PR 52 #[pq b 0,.s key] w λv w'=>∃x:Bool,v = .b x/\Ab W w' (F4 b (n+1)::M):=by
 refine cw ⟨mixed,Tryz.func52,rfl⟩ A0k ?_;refine Ac rfl ?_;obtain⟨sb,r,l,hl,hs⟩:=Mf hs;obtain⟨q0,q1,q2,q3,q4,rfl⟩:∃a b c d e,l=[a,b,c,d,e]:=by
  match l,hl with
  | [a,b,c,d,e],_=>exact⟨a,b,c,d,e,rfl⟩
 have hs:=(show Ab W w (Ta [q0,q1,q2,q3,q4] n::blk b [pq sb 0,.i r,pq q0 0,pq q1 0,pq q2 0,pq q3 0,pq q4 0]::GY sb::M) by exact Ab.fin hs).openL;have hs:Ab W w (Cu q0 n::Cu q1 n::Cu q2 n::Cu q3 n::Cu q4 n::blk b [pq sb 0,.i r,pq q0 0,pq q1 0,pq q2 0,pq q3 0,pq q4 0]::GY sb::M):=hs;have back:∀w m,n<=m->Ab W w (Cu q0 m::Cu q1 m::Cu q2 m::Cu q3 m::Cu q4 m::blk b [pq sb 0,.i r,pq q0 0,pq q1 0,pq q2 0,pq q3 0,pq q4 0]::GY sb::M)->Ab W w (F4 b m::M):=λw m _ hs=>by
  have hs:=Ab.shutL (Ps:=[Cu q0 m,Cu q1 m,Cu q2 m,Cu q3 m,Cu q4 m]) hs;have hs:Ab W w (Ta [q0,q1,q2,q3,q4] m::blk b [pq sb 0,.i r,pq q0 0,pq q1 0,pq q2 0,pq q3 0,pq q4 0]::GY sb::M):=hs;exact Mg (l:=[q0,q1,q2,q3,q4]) (r:=r) (sb:=sb) rfl (by exact Ab.fin hs)
 refine Aa (Ag hs ?_);have hs:Ab W w (GY sb::Cu q0 n::Cu q1 n::Cu q2 n::Cu q3 n::Cu q4 n::blk b [pq sb 0,.i r,pq q0 0,pq q1 0,pq q2 0,pq q3 0,pq q4 0]::M):=by exact Ab.fin hs
 refine Ai (Au3 hz hs) λv w ⟨x,hv,hs⟩=>⟨_,hv,?_⟩;have hs:Ab W w (Cu q0 n::Cu q1 n::Cu q2 n::Cu q3 n::Cu q4 n::blk b [pq sb 0,.i r,pq q0 0,pq q1 0,pq q2 0,pq q3 0,pq q4 0]::GY sb::M):=by exact Ab.fin hs
 refine Al (λ_=>⟨_,rfl,back w (n+1) (Nat.le_succ n) ?_⟩) (λ_=>?_)
 ·have hs:=GT (Nat.le_succ n) hs;have hs:=GT (Nat.le_succ n) (show Ab W w (Cu q1 n::Cu q2 n::Cu q3 n::Cu q4 n::Cu q0 (n+1)::blk b [pq sb 0,.i r,pq q0 0,pq q1 0,pq q2 0,pq q3 0,pq q4 0]::GY sb::M) by exact Ab.fin hs);have hs:=GT (Nat.le_succ n) (show Ab W w (Cu q2 n::Cu q3 n::Cu q4 n::Cu q0 (n+1)::Cu q1 (n+1)::blk b [pq sb 0,.i r,pq q0 0,pq q1 0,pq q2 0,pq q3 0,pq q4 0]::GY sb::M) by exact Ab.fin hs)
  have hs:=GT (Nat.le_succ n) (show Ab W w (Cu q3 n::Cu q4 n::Cu q0 (n+1)::Cu q1 (n+1)::Cu q2 (n+1)::blk b [pq sb 0,.i r,pq q0 0,pq q1 0,pq q2 0,pq q3 0,pq q4 0]::GY sb::M) by exact Ab.fin hs);have hs:=GT (Nat.le_succ n) (show Ab W w (Cu q4 n::Cu q0 (n+1)::Cu q1 (n+1)::Cu q2 (n+1)::Cu q3 (n+1)::blk b [pq sb 0,.i r,pq q0 0,pq q1 0,pq q2 0,pq q3 0,pq q4 0]::GY sb::M) by exact Ab.fin hs)
  exact Ab.fin hs
 refine jw Aee ?_;refine Aa ?_
 iterate 5 refine Ag hs ?_
 refine AR 6 ?_;rw[FF];refine Ak (by decide) (Az (by decide) ⟨some ⟨q0,0,none⟩,rfl,rfl,?_⟩);have hs:Ab W w (Cu q0 n::Cu q1 n::Cu q2 n::Cu q3 n::Cu q4 n::blk b [pq sb 0,.i r,pq q0 0,pq q1 0,pq q2 0,pq q3 0,pq q4 0]::GY sb::M):=by exact Ab.fin hs
 refine Ai (Il hb hz hs) λv w ⟨x,hv,hs⟩=>⟨_,hv,?_⟩;rw[show IntKind.wrap .i64 ((0:Int)+1)=1 from rfl];rw[FF];refine Ak (by decide) (Az (by decide) ⟨some ⟨q1,0,none⟩,rfl,rfl,?_⟩);have hs:Ab W w (Cu q1 n::Cu q0 (n+1)::Cu q2 n::Cu q3 n::Cu q4 n::blk b [pq sb 0,.i r,pq q0 0,pq q1 0,pq q2 0,pq q3 0,pq q4 0]::GY sb::M):=by exact Ab.fin hs
 refine Ai (Il hb hz hs) λv w ⟨x,hv,hs⟩=>⟨_,hv,?_⟩;rw[show IntKind.wrap .i64 ((1:Int)+1)=2 from rfl];rw[FF];refine Ak (by decide) (Az (by decide) ⟨some ⟨q2,0,none⟩,rfl,rfl,?_⟩);have hs:Ab W w (Cu q2 n::Cu q0 (n+1)::Cu q1 (n+1)::Cu q3 n::Cu q4 n::blk b [pq sb 0,.i r,pq q0 0,pq q1 0,pq q2 0,pq q3 0,pq q4 0]::GY sb::M):=by exact Ab.fin hs
 refine Ai (Il hb hz hs) λv w ⟨x,hv,hs⟩=>⟨_,hv,?_⟩;rw[show IntKind.wrap .i64 ((2:Int)+1)=3 from rfl];rw[FF];refine Ak (by decide) (Az (by decide) ⟨some ⟨q3,0,none⟩,rfl,rfl,?_⟩);have hs:Ab W w (Cu q3 n::Cu q0 (n+1)::Cu q1 (n+1)::Cu q2 (n+1)::Cu q4 n::blk b [pq sb 0,.i r,pq q0 0,pq q1 0,pq q2 0,pq q3 0,pq q4 0]::GY sb::M):=by exact Ab.fin hs
 refine Ai (Il hb hz hs) λv w ⟨x,hv,hs⟩=>⟨_,hv,?_⟩;rw[show IntKind.wrap .i64 ((3:Int)+1)=4 from rfl];rw[FF];refine Ak (by decide) (Az (by decide) ⟨some ⟨q4,0,none⟩,rfl,rfl,?_⟩);have hs:Ab W w (Cu q4 n::Cu q0 (n+1)::Cu q1 (n+1)::Cu q2 (n+1)::Cu q3 (n+1)::blk b [pq sb 0,.i r,pq q0 0,pq q1 0,pq q2 0,pq q3 0,pq q4 0]::GY sb::M):=by exact Ab.fin hs
 refine Ai (Il hb hz hs) λv w ⟨x,hv,hs⟩=>⟨_,hv,?_⟩;rw[show IntKind.wrap .i64 ((4:Int)+1)=5 from rfl];rw[FF];refine Ac (by decide) ?_;refine jw Aef ?_;exact⟨_,rfl,back w (n+1) (Nat.le_succ n) (by exact Ab.fin hs)⟩
theorem Aue(hs:Ab W w (F4 b n::M)):BB PR 59 #[pq b 0] w λv w'=>∃g0 g1 g2 g3 g4 all:Int,v = .tuple #[.agg #[.i g0,.i g1,.i g2,.i g3,.i g4],.i all]/\Ab W w' (F4 b n::M):=by
 refine cw ⟨mixed,Tryz.func59,rfl⟩ A0s ?_;refine Ah hs λgb w hs=>?_;refine Ac rfl ?_;have hs:Ab W w (F4 b n::blk gb [.i (0:Int),.i (0:Int),.i (0:Int),.i (0:Int),.i (0:Int)]::M):=hs.perm (List.Perm.swap _ _ _);obtain⟨sb,r,l,hl,hs⟩:=Mf hs;obtain⟨q0,q1,q2,q3,q4,rfl⟩:∃a b c d e,l=[a,b,c,d,e]:=by
  match l,hl with
  | [a,b,c,d,e],_=>exact⟨a,b,c,d,e,rfl⟩
 have hs:=(show Ab W w (Ta [q0,q1,q2,q3,q4] n::blk gb [.i (0:Int),.i (0:Int),.i (0:Int),.i (0:Int),.i (0:Int)]::blk b [pq sb 0,.i r,pq q0 0,pq q1 0,pq q2 0,pq q3 0,pq q4 0]::GY sb::M) by exact Ab.fin hs).openL;have hs:Ab W w (Cu q0 n::Cu q1 n::Cu q2 n::Cu q3 n::Cu q4 n::blk gb [.i (0:Int),.i (0:Int),.i (0:Int),.i (0:Int),.i (0:Int)]::blk b [pq sb 0,.i r,pq q0 0,pq q1 0,pq q2 0,pq q3 0,pq q4 0]::GY sb::M):=hs
 refine Aa ?_
 iterate 5 refine Ag hs ?_
 refine AR 6 ?_;rw[FG];refine Ak (by decide) (Az (by decide) ⟨some ⟨q0,0,none⟩,rfl,rfl,?_⟩);have hs:Ab W w (Cu q0 n::Cu q1 n::Cu q2 n::Cu q3 n::Cu q4 n::blk gb [.i (0:Int),.i (0:Int),.i (0:Int),.i (0:Int),.i (0:Int)]::blk b [pq sb 0,.i r,pq q0 0,pq q1 0,pq q2 0,pq q3 0,pq q4 0]::GY sb::M):=by exact Ab.fin hs
 refine Calls.mono (JA hs) λe_ w ⟨v,he,z0,z0',y0,hv,hs⟩=>⟨z0,z0',y0,by rw[he,hv],?_⟩;refine Ah hs λnb w hs=>?_;refine A0 hs λw hs=>A0 hs λw hs=>A0 hs λw hs=>?_;refine Ao [blk nb [.i z0,.i z0',.i y0]] hs λw hs=>?_;refine Am (Am (Az (by decide) ?_));refine A0 (o:=0) hs λw hs=>Ae hs ?_;rw[show IntKind.wrap .i64 ((0:Int)+1)=1 from rfl];rw[FG];refine Ak (by decide) (Az (by decide) ⟨some ⟨q1,0,none⟩,rfl,rfl,?_⟩);have hs:Ab W w (Cu q1 n::Cu q0 n::Cu q2 n::Cu q3 n::Cu q4 n::blk gb [.i y0,.i (0:Int),.i (0:Int),.i (0:Int),.i (0:Int)]::blk b [pq sb 0,.i r,pq q0 0,pq q1 0,pq q2 0,pq q3 0,pq q4 0]::GY sb::M):=by exact Ab.fin hs
 refine Calls.mono (JA hs) λe_ w ⟨v,he,z1,z1',y1,hv,hs⟩=>⟨z1,z1',y1,by rw[he,hv],?_⟩;refine Ah hs λnb w hs=>?_;refine A0 hs λw hs=>A0 hs λw hs=>A0 hs λw hs=>?_;refine Ao [blk nb [.i z1,.i z1',.i y1]] hs λw hs=>?_;refine Am (Am (Az (by decide) ?_));refine A0 (o:=1) hs λw hs=>Ae hs ?_;rw[show IntKind.wrap .i64 ((1:Int)+1)=2 from rfl];rw[FG];refine Ak (by decide) (Az (by decide) ⟨some ⟨q2,0,none⟩,rfl,rfl,?_⟩);have hs:Ab W w (Cu q2 n::Cu q0 n::Cu q1 n::Cu q3 n::Cu q4 n::blk gb [.i y0,.i y1,.i (0:Int),.i (0:Int),.i (0:Int)]::blk b [pq sb 0,.i r,pq q0 0,pq q1 0,pq q2 0,pq q3 0,pq q4 0]::GY sb::M):=by exact Ab.fin hs
 refine Calls.mono (JA hs) λe_ w ⟨v,he,z2,z2',y2,hv,hs⟩=>⟨z2,z2',y2,by rw[he,hv],?_⟩;refine Ah hs λnb w hs=>?_;refine A0 hs λw hs=>A0 hs λw hs=>A0 hs λw hs=>?_;refine Ao [blk nb [.i z2,.i z2',.i y2]] hs λw hs=>?_;refine Am (Am (Az (by decide) ?_));refine A0 (o:=2) hs λw hs=>Ae hs ?_;rw[show IntKind.wrap .i64 ((2:Int)+1)=3 from rfl];rw[FG];refine Ak (by decide) (Az (by decide) ⟨some ⟨q3,0,none⟩,rfl,rfl,?_⟩);have hs:Ab W w (Cu q3 n::Cu q0 n::Cu q1 n::Cu q2 n::Cu q4 n::blk gb [.i y0,.i y1,.i y2,.i (0:Int),.i (0:Int)]::blk b [pq sb 0,.i r,pq q0 0,pq q1 0,pq q2 0,pq q3 0,pq q4 0]::GY sb::M):=by exact Ab.fin hs
 refine Calls.mono (JA hs) λe_ w ⟨v,he,z3,z3',y3,hv,hs⟩=>⟨z3,z3',y3,by rw[he,hv],?_⟩;refine Ah hs λnb w hs=>?_;refine A0 hs λw hs=>A0 hs λw hs=>A0 hs λw hs=>?_;refine Ao [blk nb [.i z3,.i z3',.i y3]] hs λw hs=>?_;refine Am (Am (Az (by decide) ?_));refine A0 (o:=3) hs λw hs=>Ae hs ?_;rw[show IntKind.wrap .i64 ((3:Int)+1)=4 from rfl];rw[FG];refine Ak (by decide) (Az (by decide) ⟨some ⟨q4,0,none⟩,rfl,rfl,?_⟩);have hs:Ab W w (Cu q4 n::Cu q0 n::Cu q1 n::Cu q2 n::Cu q3 n::blk gb [.i y0,.i y1,.i y2,.i y3,.i (0:Int)]::blk b [pq sb 0,.i r,pq q0 0,pq q1 0,pq q2 0,pq q3 0,pq q4 0]::GY sb::M):=by exact Ab.fin hs
 refine Calls.mono (JA hs) λe_ w ⟨v,he,z4,z4',y4,hv,hs⟩=>⟨z4,z4',y4,by rw[he,hv],?_⟩;refine Ah hs λnb w hs=>?_;refine A0 hs λw hs=>A0 hs λw hs=>A0 hs λw hs=>?_;refine Ao [blk nb [.i z4,.i z4',.i y4]] hs λw hs=>?_;refine Am (Am (Az (by decide) ?_));refine A0 (o:=4) hs λw hs=>Ae hs ?_;rw[show IntKind.wrap .i64 ((4:Int)+1)=5 from rfl];rw[FG];refine Ac (by decide) ?_;refine jw Aen ?_
 iterate 5 refine Ag hs ?_
 iterate 5 refine A0 hs λw hs=>?_
 iterate 5 refine Ag hs ?_
 have hs:=Ab.shutL (Ps:=[Cu q0 n,Cu q1 n,Cu q2 n,Cu q3 n,Cu q4 n]) (M:=blk b [pq sb 0,.i r,pq q0 0,pq q1 0,pq q2 0,pq q3 0,pq q4 0]::GY sb::M) (by exact Ab.fin hs);have hs:Ab W w (Ta [q0,q1,q2,q3,q4] n::blk b [pq sb 0,.i r,pq q0 0,pq q1 0,pq q2 0,pq q3 0,pq q4 0]::GY sb::M):=hs;exact⟨_,_,_,_,_,_,rfl,Mg (l:=[q0,q1,q2,q3,q4]) (r:=r) (sb:=sb) rfl (by exact Ab.fin hs)⟩
theorem Aiq{sb:Nat}{r c:Int}{vs:List Value}(hv5:vs.length=5)(hs:Ab W w (blk b (pq sb 0::.i r::vs)::GY sb::M)):BB PR 64 #[pq b 0,.i c] w λv w'=>v = .tuple #[]/\Ab W w' (F4 b 0::M):=by
 refine cw ⟨mixed,Tryz.func64,rfl⟩ A0x ?_;refine Ac rfl ?_;obtain⟨v0,v1,v2,v3,v4,rfl⟩:∃a b c d e,vs=[a,b,c,d,e]:=by
  match vs,hv5 with
  | [a,b,c,d,e],_=>exact⟨a,b,c,d,e,rfl⟩
 refine Aa (Ag hs ?_);have hs:Ab W w (GY sb::blk b [pq sb 0,.i r,v0,v1,v2,v3,v4]::M):=hs.perm (List.Perm.swap _ _ _);refine Ai (A3b hs) λv w ⟨x,hv,hs⟩=>⟨_,hv,?_⟩;refine Aa (A0 hs λw hs=>?_);refine AR 6 ?_;rw[FH];refine Ak (by decide) ?_;have hs:Ab W w (blk b [pq sb 0,.i x,v0,v1,v2,v3,v4]::GY sb::M):=by exact Ab.fin hs
 refine As hs λw hs=>Aa (Aa (Ag hs ?_));refine AP (S5 (by decide) hs) λv w ⟨q0,hv,hs⟩=>⟨_,_,hv,Az (by decide) ?_⟩;refine A0 (o:=2) hs λw hs=>?_;rw[show IntKind.wrap .i64 ((0:Int)+1)=1 from rfl];rw[FH];refine Ak (by decide) ?_;have hs:Ab W w (blk b [pq sb 0,.i x,pq q0 0,v1,v2,v3,v4]::Cu q0 0::GY sb::M):=by exact Ab.fin hs
 refine As hs λw hs=>Aa (Aa (Ag hs ?_));refine AP (S5 (by decide) hs) λv w ⟨q1,hv,hs⟩=>⟨_,_,hv,Az (by decide) ?_⟩;refine A0 (o:=3) hs λw hs=>?_;rw[show IntKind.wrap .i64 ((1:Int)+1)=2 from rfl];rw[FH];refine Ak (by decide) ?_;have hs:Ab W w (blk b [pq sb 0,.i x,pq q0 0,pq q1 0,v2,v3,v4]::Cu q0 0::Cu q1 0::GY sb::M):=by exact Ab.fin hs
 refine As hs λw hs=>Aa (Aa (Ag hs ?_));refine AP (S5 (by decide) hs) λv w ⟨q2,hv,hs⟩=>⟨_,_,hv,Az (by decide) ?_⟩;refine A0 (o:=4) hs λw hs=>?_;rw[show IntKind.wrap .i64 ((2:Int)+1)=3 from rfl];rw[FH];refine Ak (by decide) ?_;have hs:Ab W w (blk b [pq sb 0,.i x,pq q0 0,pq q1 0,pq q2 0,v3,v4]::Cu q0 0::Cu q1 0::Cu q2 0::GY sb::M):=by exact Ab.fin hs
 refine As hs λw hs=>Aa (Aa (Ag hs ?_));refine AP (S5 (by decide) hs) λv w ⟨q3,hv,hs⟩=>⟨_,_,hv,Az (by decide) ?_⟩;refine A0 (o:=5) hs λw hs=>?_;rw[show IntKind.wrap .i64 ((3:Int)+1)=4 from rfl];rw[FH];refine Ak (by decide) ?_;have hs:Ab W w (blk b [pq sb 0,.i x,pq q0 0,pq q1 0,pq q2 0,pq q3 0,v4]::Cu q0 0::Cu q1 0::Cu q2 0::Cu q3 0::GY sb::M):=by exact Ab.fin hs
 refine As hs λw hs=>Aa (Aa (Ag hs ?_));refine AP (S5 (by decide) hs) λv w ⟨q4,hv,hs⟩=>⟨_,_,hv,Az (by decide) ?_⟩;refine A0 (o:=6) hs λw hs=>?_;rw[show IntKind.wrap .i64 ((4:Int)+1)=5 from rfl];rw[FH];refine Ac (by decide) ?_;have hs:=Ab.shutL (Ps:=[Cu q0 0,Cu q1 0,Cu q2 0,Cu q3 0,Cu q4 0]) (M:=blk b [pq sb 0,.i x,pq q0 0,pq q1 0,pq q2 0,pq q3 0,pq q4 0]::GY sb::M) (by exact Ab.fin hs);have hs:Ab W w (Ta [q0,q1,q2,q3,q4] 0::blk b [pq sb 0,.i x,pq q0 0,pq q1 0,pq q2 0,pq q3 0,pq q4 0]::GY sb::M):=hs
 exact⟨rfl,Mg (l:=[q0,q1,q2,q3,q4]) (r:=x) (sb:=sb) rfl (by exact Ab.fin hs)⟩
theorem Ali{c:Int}(hs:Ab W w (F4 b n::M)):BB PR 64 #[pq b 0,.i c] w λv w'=>v = .tuple #[]/\Ab W w' (F4 b 0::M):=by
 obtain⟨sb,r,l,hl,hs⟩:=Mf hs;exact Aiq (r:=r) (vs:=l.map λq=>pq q 0) (by simpa using hl) (by exact Ab.fin hs)
theorem A7u{x c:Int}(hs:Ab W w L):BB PR 46 #[.i x,.i c] w λv w'=>∃b,v=pq b 0/\Ab W w' (F4 b 0::L):=by
 refine cw ⟨mixed,Tryz.func46,rfl⟩ A0e ?_;refine Ai (A79 hs) λv w ⟨sb,hv,hs⟩=>⟨_,hv,?_⟩;refine Ah hs λb w hs=>?_;refine B0 (Aiq (r:=0) (vs:=[.p none,.p none,.p none,.p none,.p none]) rfl hs) λv w ⟨hv,hs⟩=>⟨hv,b,rfl,hs⟩
end
end Go.Proofs.YtjipofkjmmpjdaaGreat
namespace Go.Proofs.YtjipofkjmmpjdaaGreat
open Go.Hb
section
variable(jn:Jn)(Q:VW)
abbrev NQ:FuncId:=170
abbrev Js:FuncId:=183
abbrev Eo:FuncId:=201
def HB:BA:=⟨#[0,1,2,2,3,3,3,3,4,4,4,4,4,4,4,4,5,5,5,5,5,5,5,5,5,5,5,5,5,5,5,5,6,6,6,6,6,6,6,6,6,6,6,6,6,6,6,6,6,6,6,6,6,6,6,6,6,6,6,6,6,6,6,6,7,7,7,7,7,7,7,7,7,7,7,7,7,7,7,7,7,7,7,7,7,7,7,7,7,7,7,7,7,7,7,7,7,7,7,7,7,7,7,7,7,7,7,7,7,7,7,7,7,7,7,7,7,7,7,7,7,7,7,7,7,7,7,7,8,8,8,8,8,8,8,8,8,8,8,8,8,8,8,8,8,8,8,8,8,8,8,8,8,8,8,8,8,8,8,8,8,8,8,8,8,8,8,8,8,8,8,8,8,8,8,8,8,8,8,8,8,8,8,8,8,8,8,8,8,8,8,8,8,8,8,8,8,8,8,8,8,8,8,8,8,8,8,8,8,8,8,8,8,8,8,8,8,8,8,8,8,8,8,8,8,8,8,8,8,8,8,8,8,8,8,8,8,8,8,8,8,8,8,8,8,8,8,8,8,8,8,8,8,8,8,8]⟩
def A7:KP:=⟨[(8,[0,1,2]),(12,[0,1,2]),(37,[2,8,9,10,11,13,14,15,16]),(38,[2,8,9,10,11,13,14,15,16]),(44,[2,8,9,10,11,13,14,15]),(51,[2,8,9,10,14,15,16,17,18]),(52,[2,8,9,10,14,15,16,17,18]),(58,[2,8,14,15,17,18])],[(6,[0,1,2,3,4,5,6,7])]⟩
def Hx(y2:Int)(s8:Int)(un014:Int)(q115:Int)(un2117:Int)(q018:Int):WP:=jn 58 (λρ=>Cj PR A7 jn (Gk (JC 18 [true]) (Bj Tryz.f170)) (BK PR Tryz.f170 Q) A6 (BK PR Tryz.f170 Q) ρ) (us 2 ((.int .u64 y2)::us 5 ((.int .u64 s8)::us 5 ((.int .u64 un014)::(.int .u64 q115)::us 1 ((.int .u64 un2117)::(.int .u64 q018)::us 116 [])))))
def Hw(m6:Nat)(y2:Int)(s8:Int)(yn19:Int)(yn010:Int)(un014:Int)(q115:Int)(rhat16:Int)(un2117:Int)(q018:Int):WP:=jn 52 (λρ=>Cj PR A7 jn (Gk (JC 18 [false,false,false,true]) (Bj Tryz.f170)) (HZ PR A7 jn (Gk (JC 18 [false,false,false]) (Bj Tryz.f170)) (A8 2 (KY PR A7 jn (Gk (JC 18 [true]) (Bj Tryz.f170)) (BK PR Tryz.f170 Q) A6 (BK PR Tryz.f170 Q)) A6) (BK PR Tryz.f170 Q) m6) (A8 2 (KY PR A7 jn (Gk (JC 18 [true]) (Bj Tryz.f170)) (BK PR Tryz.f170 Q) A6 (BK PR Tryz.f170 Q)) A6) (BK PR Tryz.f170 Q) ρ) (us 2 ((.int .u64 y2)::us 5 ((.int .u64 s8)::(.int .u64 yn19)::(.int .u64 yn010)::us 3 ((.int .u64 un014)::(.int .u64 q115)::(.int .u64 rhat16)::(.int .u64 un2117)::(.int .u64 q018)::us 116 []))))
def Hz(m6:Nat)(y2:Int)(s8:Int)(yn19:Int)(yn010:Int)(un014:Int)(q115:Int)(rhat16:Int)(un2117:Int)(q018:Int):WP:=Dp PR A7 jn (Gk (JC 18 [false,false,false]) (Bj Tryz.f170)) (A8 2 (KY PR A7 jn (Gk (JC 18 [true]) (Bj Tryz.f170)) (BK PR Tryz.f170 Q) A6 (BK PR Tryz.f170 Q)) A6) (BK PR Tryz.f170 Q) m6 (us 2 ((.int .u64 y2)::us 5 ((.int .u64 s8)::(.int .u64 yn19)::(.int .u64 yn010)::us 3 ((.int .u64 un014)::(.int .u64 q115)::(.int .u64 rhat16)::(.int .u64 un2117)::(.int .u64 q018)::us 116 []))))
def Hv(y2:Int)(s8:Int)(yn19:Int)(yn010:Int)(un3211:Int)(un113:Int)(un014:Int)(q115:Int):WP:=jn 44 (λρ=>Cj PR A7 jn (Gk (JC 14 [true]) (Bj Tryz.f170)) (BK PR Tryz.f170 Q) A6 (BK PR Tryz.f170 Q) ρ) (us 2 ((.int .u64 y2)::us 5 ((.int .u64 s8)::(.int .u64 yn19)::(.int .u64 yn010)::(.int .u64 un3211)::us 1 ((.int .u64 un113)::(.int .u64 un014)::(.int .u64 q115)::us 119 []))))
def Hu(m3:Nat)(y2:Int)(s8:Int)(yn19:Int)(yn010:Int)(un3211:Int)(un113:Int)(un014:Int)(q115:Int)(rhat16:Int):WP:=jn 38 (λρ=>Cj PR A7 jn (Gk (JC 14 [false,false,false,true]) (Bj Tryz.f170)) (HZ PR A7 jn (Gk (JC 14 [false,false,false]) (Bj Tryz.f170)) (A8 0 (KY PR A7 jn (Gk (JC 14 [true]) (Bj Tryz.f170)) (BK PR Tryz.f170 Q) A6 (BK PR Tryz.f170 Q)) A6) (BK PR Tryz.f170 Q) m3) (A8 0 (KY PR A7 jn (Gk (JC 14 [true]) (Bj Tryz.f170)) (BK PR Tryz.f170 Q) A6 (BK PR Tryz.f170 Q)) A6) (BK PR Tryz.f170 Q) ρ) (us 2 ((.int .u64 y2)::us 5 ((.int .u64 s8)::(.int .u64 yn19)::(.int .u64 yn010)::(.int .u64 un3211)::us 1 ((.int .u64 un113)::(.int .u64 un014)::(.int .u64 q115)::(.int .u64 rhat16)::us 118 []))))
def Hy(m3:Nat)(y2:Int)(s8:Int)(yn19:Int)(yn010:Int)(un3211:Int)(un113:Int)(un014:Int)(q115:Int)(rhat16:Int):WP:=Dp PR A7 jn (Gk (JC 14 [false,false,false]) (Bj Tryz.f170)) (A8 0 (KY PR A7 jn (Gk (JC 14 [true]) (Bj Tryz.f170)) (BK PR Tryz.f170 Q) A6 (BK PR Tryz.f170 Q)) A6) (BK PR Tryz.f170 Q) m3 (us 2 ((.int .u64 y2)::us 5 ((.int .u64 s8)::(.int .u64 yn19)::(.int .u64 yn010)::(.int .u64 un3211)::us 1 ((.int .u64 un113)::(.int .u64 un014)::(.int .u64 q115)::(.int .u64 rhat16)::us 118 []))))
def Ob(hi0:Int)(lo1:Int)(y2:Int):WP:=jn 12 (λρ=>Cj PR A7 jn (Gk [true,true,true] (Bj Tryz.f170)) (BK PR Tryz.f170 Q) A6 (BK PR Tryz.f170 Q) ρ) ((.int .u64 hi0)::(.int .u64 lo1)::(.int .u64 y2)::us 132 [])
def Oa(hi0:Int)(lo1:Int)(y2:Int):WP:=jn 8 (λρ=>Cj PR A7 jn (Gk [true,true] (Bj Tryz.f170)) (BK PR Tryz.f170 Q) A6 (BK PR Tryz.f170 Q) ρ) ((.int .u64 hi0)::(.int .u64 lo1)::(.int .u64 y2)::us 132 [])
def Aa9(hi0:Int)(lo1:Int)(y2:Int)(Q:VW):WP:=Au By PR A7 Tryz.f170 [.int .u64 hi0,.int .u64 lo1,.int .u64 y2] Q
def CC:KP:=⟨[(10,[0,2]),(16,[0,2]),(22,[0,2])],[]⟩
def H3(x0:Int)(n2:Int):WP:=jn 22 (λρ=>Cj PR CC jn (Gk [true,true,true,true] (Bj Tryz.f183)) (BK PR Tryz.f183 Q) A6 (BK PR Tryz.f183 Q) ρ) ((.int .u64 x0)::us 1 ((.i n2)::us 22 []))
def H2(x0:Int)(n2:Int):WP:=jn 16 (λρ=>Cj PR CC jn (Gk [true,true,true] (Bj Tryz.f183)) (BK PR Tryz.f183 Q) A6 (BK PR Tryz.f183 Q) ρ) ((.int .u64 x0)::us 1 ((.i n2)::us 22 []))
def H1(x0:Int)(n2:Int):WP:=jn 10 (λρ=>Cj PR CC jn (Gk [true,true] (Bj Tryz.f183)) (BK PR Tryz.f183 Q) A6 (BK PR Tryz.f183 Q) ρ) ((.int .u64 x0)::us 1 ((.i n2)::us 22 []))
def Aba(x0:Int)(Q:VW):WP:=Au By PR CC Tryz.f183 [.int .u64 x0] Q
def H0(x0:Int)(Q:VW):WP:=Au By PR Aw Tryz.f201 [.int .u64 x0] Q
end
theorem OE(jn:Jn)(Q:VW)(y2:Int)(s8:Int)(un014:Int)(q115:Int)(un2117:Int)(q018:Int):Cj PR A7 jn (Gk (JC 18 [true]) (Bj Tryz.f170)) (BK PR Tryz.f170 Q) A6 (BK PR Tryz.f170 Q) (us 2 ((.int .u64 y2)::us 5 ((.int .u64 s8)::us 5 ((.int .u64 un014)::(.int .u64 q115)::us 1 ((.int .u64 un2117)::(.int .u64 q018)::us 116 [])))))=(Bw ((0:Int)<=s8)<|Q (.tuple #[.int .u64 (IntKind.wrap .u64 ((IntKind.wrap .u64 (q115*4294967296))+q018)),.int .u64 (Dq .u64 (IntKind.wrap .u64 ((IntKind.wrap .u64 ((IntKind.wrap .u64 (un2117*4294967296))+un014))-(IntKind.wrap .u64 (q018*y2)))) s8)])):=by kernel_rfl
theorem OD(Q:VW)(y2:Int)(s8:Int)(un014:Int)(q115:Int)(un2117:Int)(q018:Int):Hx By Q y2 s8 un014 q115 un2117 q018=Cj PR A7 By (Gk (JC 18 [true]) (Bj Tryz.f170)) (BK PR Tryz.f170 Q) A6 (BK PR Tryz.f170 Q) (us 2 ((.int .u64 y2)::us 5 ((.int .u64 s8)::us 5 ((.int .u64 un014)::(.int .u64 q115)::us 1 ((.int .u64 un2117)::(.int .u64 q018)::us 116 []))))):=by kernel_rfl
theorem OC(jn:Jn)(Q:VW)(m6:Nat)(y2:Int)(s8:Int)(yn19:Int)(yn010:Int)(un014:Int)(q115:Int)(rhat16:Int)(un2117:Int)(q018:Int):Cj PR A7 jn (Gk (JC 18 [false,false,false,true]) (Bj Tryz.f170)) (HZ PR A7 jn (Gk (JC 18 [false,false,false]) (Bj Tryz.f170)) (A8 2 (KY PR A7 jn (Gk (JC 18 [true]) (Bj Tryz.f170)) (BK PR Tryz.f170 Q) A6 (BK PR Tryz.f170 Q)) A6) (BK PR Tryz.f170 Q) m6) (A8 2 (KY PR A7 jn (Gk (JC 18 [true]) (Bj Tryz.f170)) (BK PR Tryz.f170 Q) A6 (BK PR Tryz.f170 Q)) A6) (BK PR Tryz.f170 Q) (us 2 ((.int .u64 y2)::us 5 ((.int .u64 s8)::(.int .u64 yn19)::(.int .u64 yn010)::us 3 ((.int .u64 un014)::(.int .u64 q115)::(.int .u64 rhat16)::(.int .u64 un2117)::(.int .u64 q018)::us 116 []))))=(
 Aj (decide ((IntKind.wrap .u64 (rhat16+yn19))>=4294967296)) (Hx jn Q y2 s8 un014 q115 un2117 (IntKind.wrap .u64 (q018-1))) (Hz jn Q m6 y2 s8 yn19 yn010 un014 q115 (IntKind.wrap .u64 (rhat16+yn19)) un2117 (IntKind.wrap .u64 (q018-1)))):=by kernel_rfl
theorem OB(Q:VW)(m6:Nat)(y2:Int)(s8:Int)(yn19:Int)(yn010:Int)(un014:Int)(q115:Int)(rhat16:Int)(un2117:Int)(q018:Int):Hw By Q m6 y2 s8 yn19 yn010 un014 q115 rhat16 un2117 q018=Cj PR A7 By (Gk (JC 18 [false,false,false,true]) (Bj Tryz.f170)) (HZ PR A7 By (Gk (JC 18 [false,false,false]) (Bj Tryz.f170)) (A8 2 (KY PR A7 By (Gk (JC 18 [true]) (Bj Tryz.f170)) (BK PR Tryz.f170 Q) A6 (BK PR Tryz.f170 Q)) A6) (BK PR Tryz.f170 Q) m6) (A8 2 (KY PR A7 By (Gk (JC 18 [true]) (Bj Tryz.f170)) (BK PR Tryz.f170 Q) A6 (BK PR Tryz.f170 Q)) A6) (BK PR Tryz.f170 Q) (us 2 ((.int .u64 y2)::us 5 ((.int .u64 s8)::(.int .u64 yn19)::(.int .u64 yn010)::us 3 ((.int .u64 un014)::(.int .u64 q115)::(.int .u64 rhat16)::(.int .u64 un2117)::(.int .u64 q018)::us 116 [])))):=by kernel_rfl
theorem OG(jn:Jn)(Q:VW)(m6:Nat)(y2:Int)(s8:Int)(yn19:Int)(yn010:Int)(un014:Int)(q115:Int)(rhat16:Int)(un2117:Int)(q018:Int):Hz jn Q (m6+1) y2 s8 yn19 yn010 un014 q115 rhat16 un2117 q018=(Aj (decide (q018>=4294967296)) (Hw jn Q m6 y2 s8 yn19 yn010 un014 q115 rhat16 un2117 q018) (Aj (decide ((IntKind.wrap .u64 (q018*yn010))>(IntKind.wrap .u64 ((IntKind.wrap .u64 (4294967296*rhat16))+un014)))) (Hw jn Q m6 y2 s8 yn19 yn010 un014 q115 rhat16 un2117 q018) (Hx jn Q y2 s8 un014 q115 un2117 q018))):=by kernel_rfl
theorem O1(jn:Jn)(Q:VW)(y2:Int)(s8:Int)(yn19:Int)(yn010:Int)(un3211:Int)(un113:Int)(un014:Int)(q115:Int):Cj PR A7 jn (Gk (JC 14 [true]) (Bj Tryz.f170)) (BK PR Tryz.f170 Q) A6 (BK PR Tryz.f170 Q) (us 2 ((.int .u64 y2)::us 5 ((.int .u64 s8)::(.int .u64 yn19)::(.int .u64 yn010)::(.int .u64 un3211)::us 1 ((.int .u64 un113)::(.int .u64 un014)::(.int .u64 q115)::us 119 []))))=(Bw (yn19≠0)<|DH λm=>Hz jn Q m y2 s8 yn19 yn010 un014 q115 (IntKind.wrap .u64 ((IntKind.wrap .u64 ((IntKind.wrap .u64 ((IntKind.wrap .u64 (un3211*4294967296))+un113))-(IntKind.wrap .u64 (q115*y2))))-(IntKind.wrap .u64 ((IntKind.wrap .u64 (Int.tdiv (IntKind.wrap .u64 ((IntKind.wrap .u64 ((IntKind.wrap .u64 (un3211*4294967296))+un113))-(IntKind.wrap .u64 (q115*y2)))) yn19))*yn19)))) (IntKind.wrap .u64 ((IntKind.wrap .u64 ((IntKind.wrap .u64 (un3211*4294967296))+un113))-(IntKind.wrap .u64 (q115*y2)))) (IntKind.wrap .u64 (Int.tdiv (IntKind.wrap .u64 ((IntKind.wrap .u64 ((IntKind.wrap .u64 (un3211*4294967296))+un113))-(IntKind.wrap .u64 (q115*y2)))) yn19))):=by kernel_rfl
theorem O0(Q:VW)(y2:Int)(s8:Int)(yn19:Int)(yn010:Int)(un3211:Int)(un113:Int)(un014:Int)(q115:Int):Hv By Q y2 s8 yn19 yn010 un3211 un113 un014 q115=Cj PR A7 By (Gk (JC 14 [true]) (Bj Tryz.f170)) (BK PR Tryz.f170 Q) A6 (BK PR Tryz.f170 Q) (us 2 ((.int .u64 y2)::us 5 ((.int .u64 s8)::(.int .u64 yn19)::(.int .u64 yn010)::(.int .u64 un3211)::us 1 ((.int .u64 un113)::(.int .u64 un014)::(.int .u64 q115)::us 119 [])))):=by kernel_rfl
theorem Oz(jn:Jn)(Q:VW)(m3:Nat)(y2:Int)(s8:Int)(yn19:Int)(yn010:Int)(un3211:Int)(un113:Int)(un014:Int)(q115:Int)(rhat16:Int):Cj PR A7 jn (Gk (JC 14 [false,false,false,true]) (Bj Tryz.f170)) (HZ PR A7 jn (Gk (JC 14 [false,false,false]) (Bj Tryz.f170)) (A8 0 (KY PR A7 jn (Gk (JC 14 [true]) (Bj Tryz.f170)) (BK PR Tryz.f170 Q) A6 (BK PR Tryz.f170 Q)) A6) (BK PR Tryz.f170 Q) m3) (A8 0 (KY PR A7 jn (Gk (JC 14 [true]) (Bj Tryz.f170)) (BK PR Tryz.f170 Q) A6 (BK PR Tryz.f170 Q)) A6) (BK PR Tryz.f170 Q) (us 2 ((.int .u64 y2)::us 5 ((.int .u64 s8)::(.int .u64 yn19)::(.int .u64 yn010)::(.int .u64 un3211)::us 1 ((.int .u64 un113)::(.int .u64 un014)::(.int .u64 q115)::(.int .u64 rhat16)::us 118 []))))=(
 Aj (decide ((IntKind.wrap .u64 (rhat16+yn19))>=4294967296)) (Hv jn Q y2 s8 yn19 yn010 un3211 un113 un014 (IntKind.wrap .u64 (q115-1))) (Hy jn Q m3 y2 s8 yn19 yn010 un3211 un113 un014 (IntKind.wrap .u64 (q115-1)) (IntKind.wrap .u64 (rhat16+yn19)))):=by kernel_rfl
theorem Oy(Q:VW)(m3:Nat)(y2:Int)(s8:Int)(yn19:Int)(yn010:Int)(un3211:Int)(un113:Int)(un014:Int)(q115:Int)(rhat16:Int):Hu By Q m3 y2 s8 yn19 yn010 un3211 un113 un014 q115 rhat16=Cj PR A7 By (Gk (JC 14 [false,false,false,true]) (Bj Tryz.f170)) (HZ PR A7 By (Gk (JC 14 [false,false,false]) (Bj Tryz.f170)) (A8 0 (KY PR A7 By (Gk (JC 14 [true]) (Bj Tryz.f170)) (BK PR Tryz.f170 Q) A6 (BK PR Tryz.f170 Q)) A6) (BK PR Tryz.f170 Q) m3) (A8 0 (KY PR A7 By (Gk (JC 14 [true]) (Bj Tryz.f170)) (BK PR Tryz.f170 Q) A6 (BK PR Tryz.f170 Q)) A6) (BK PR Tryz.f170 Q) (us 2 ((.int .u64 y2)::us 5 ((.int .u64 s8)::(.int .u64 yn19)::(.int .u64 yn010)::(.int .u64 un3211)::us 1 ((.int .u64 un113)::(.int .u64 un014)::(.int .u64 q115)::(.int .u64 rhat16)::us 118 [])))):=by kernel_rfl
theorem OF(jn:Jn)(Q:VW)(m3:Nat)(y2:Int)(s8:Int)(yn19:Int)(yn010:Int)(un3211:Int)(un113:Int)(un014:Int)(q115:Int)(rhat16:Int):Hy jn Q (m3+1) y2 s8 yn19 yn010 un3211 un113 un014 q115 rhat16=(Aj (decide (q115>=4294967296)) (Hu jn Q m3 y2 s8 yn19 yn010 un3211 un113 un014 q115 rhat16) (Aj (decide ((IntKind.wrap .u64 (q115*yn010))>(IntKind.wrap .u64 ((IntKind.wrap .u64 (4294967296*rhat16))+un113)))) (Hu jn Q m3 y2 s8 yn19 yn010 un3211 un113 un014 q115 rhat16) (Hv jn Q y2 s8 yn19 yn010 un3211 un113 un014 q115))):=by kernel_rfl
theorem Ox(jn:Jn)(Q:VW)(hi0:Int)(lo1:Int)(y2:Int):Cj PR A7 jn (Gk [true,true,true] (Bj Tryz.f170)) (BK PR Tryz.f170 Q) A6 (BK PR Tryz.f170 Q) ((.int .u64 hi0)::(.int .u64 lo1)::(.int .u64 y2)::us 132 [])=(Aj (hi0==0) (A5 λS=>Bw (y2≠0)<|Bw (y2≠0)<|Q (.tuple #[.int .u64 (IntKind.wrap .u64 (Int.tdiv lo1 y2)),.int .u64 (Int.tmod lo1 y2)])) (Cc Eo [.int .u64 y2] λX5=>Bw ((0:Int)<=(IntKind.wrap .u64 X5))<|Bw ((0:Int)<=(32:Int))<|Bw ((0:Int)<=(IntKind.wrap .u64 X5))<|Bw ((0:Int)<=(IntKind.wrap .u64 ((64:Int)-(IntKind.wrap .u64 X5))))<|Bw ((0:Int)<=(IntKind.wrap .u64 X5))<|
 Bw ((0:Int)<=(32:Int))<|Bw ((Dq .u64 (HF .u64 y2 (IntKind.wrap .u64 X5)) (32:Int))≠0)<|DH λm=>Hy jn Q m (HF .u64 y2 (IntKind.wrap .u64 X5)) (IntKind.wrap .u64 X5) (Dq .u64 (HF .u64 y2 (IntKind.wrap .u64 X5)) 32) (bits .and .u64 (HF .u64 y2 (IntKind.wrap .u64 X5)) 4294967295) (bits .or .u64 (HF .u64 hi0 (IntKind.wrap .u64 X5)) (Dq .u64 lo1 (IntKind.wrap .u64 (64-(IntKind.wrap .u64 X5))))) (Dq .u64 (HF .u64 lo1 (IntKind.wrap .u64 X5)) 32) (bits .and .u64 (HF .u64 lo1 (IntKind.wrap .u64 X5)) 4294967295) (IntKind.wrap .u64 (Int.tdiv (bits .or .u64 (HF .u64 hi0 (IntKind.wrap .u64 X5)) (Dq .u64 lo1 (IntKind.wrap .u64 (64-(IntKind.wrap .u64 X5))))) (Dq .u64 (HF .u64 y2 (IntKind.wrap .u64 X5)) 32))) (IntKind.wrap .u64 ((bits .or .u64 (HF .u64 hi0 (IntKind.wrap .u64 X5)) (Dq .u64 lo1 (IntKind.wrap .u64 (64-(IntKind.wrap .u64 X5)))))-(IntKind.wrap .u64 ((IntKind.wrap .u64 (Int.tdiv (bits .or .u64 (HF .u64 hi0 (IntKind.wrap .u64 X5)) (Dq .u64 lo1 (IntKind.wrap .u64 (64-(IntKind.wrap .u64 X5))))) (Dq .u64 (HF .u64 y2 (IntKind.wrap .u64 X5)) 32)))*(Dq .u64 (HF .u64 y2 (IntKind.wrap .u64 X5)) 32))))))):=by kernel_rfl
theorem Ow(Q:VW)(hi0:Int)(lo1:Int)(y2:Int):Ob By Q hi0 lo1 y2=Cj PR A7 By (Gk [true,true,true] (Bj Tryz.f170)) (BK PR Tryz.f170 Q) A6 (BK PR Tryz.f170 Q) ((.int .u64 hi0)::(.int .u64 lo1)::(.int .u64 y2)::us 132 []):=by kernel_rfl
theorem Ov(jn:Jn)(Q:VW)(hi0:Int)(lo1:Int)(y2:Int):Cj PR A7 jn (Gk [true,true] (Bj Tryz.f170)) (BK PR Tryz.f170 Q) A6 (BK PR Tryz.f170 Q) ((.int .u64 hi0)::(.int .u64 lo1)::(.int .u64 y2)::us 132 [])=(Aj (decide (y2<=hi0)) (Ot 1 0 (Dr) λ(t_3:TypeId)(v_4:Value)=>Dr) (Ob jn Q hi0 lo1 y2)):=by kernel_rfl
theorem Ou(Q:VW)(hi0:Int)(lo1:Int)(y2:Int):Oa By Q hi0 lo1 y2=Cj PR A7 By (Gk [true,true] (Bj Tryz.f170)) (BK PR Tryz.f170 Q) A6 (BK PR Tryz.f170 Q) ((.int .u64 hi0)::(.int .u64 lo1)::(.int .u64 y2)::us 132 []):=by kernel_rfl
theorem Xd(jn:Jn)(hi0:Int)(lo1:Int)(y2:Int)(Q:VW):Au jn PR A7 Tryz.f170 [.int .u64 hi0,.int .u64 lo1,.int .u64 y2] Q=(Aj (y2==0) (Ot 0 0 (Dr) λ(t_1:TypeId)(v_2:Value)=>Dr) (Oa jn Q hi0 lo1 y2)):=by kernel_rfl
theorem Xc(hi0:Int)(lo1:Int)(y2:Int)(Q:VW):Aa9 hi0 lo1 y2 Q=Au By PR A7 Tryz.f170 [.int .u64 hi0,.int .u64 lo1,.int .u64 y2] Q:=rfl
theorem RK{hi0:Int}{lo1:Int}{y2:Int}{Q:VW}{w:World}(h:Aa9 hi0 lo1 y2 Q w):Calls PR NQ #[.int .u64 hi0,.int .u64 lo1,.int .u64 y2] w λe w'=>∃v,e = .returned v/\Q v w':=
 I6 mixed Tryz.func170 rfl h
theorem OM(jn:Jn)(Q:VW)(x0:Int)(n2:Int):Cj PR CC jn (Gk [true,true,true,true] (Bj Tryz.f183)) (BK PR Tryz.f183 Q) A6 (BK PR Tryz.f183 Q) ((.int .u64 x0)::us 1 ((.i n2)::us 22 []))=(Bw ((0:Int)<=(IntKind.wrap .u8 x0)/\(IntKind.wrap .u8 x0)<(HB.size:Int))<|Q (.i (IntKind.wrap .i64 (n2+(IntKind.wrap .i64 (AG HB ((IntKind.wrap .u8 x0)).toNat)))))):=by kernel_rfl
theorem OL(Q:VW)(x0:Int)(n2:Int):H3 By Q x0 n2=Cj PR CC By (Gk [true,true,true,true] (Bj Tryz.f183)) (BK PR Tryz.f183 Q) A6 (BK PR Tryz.f183 Q) ((.int .u64 x0)::us 1 ((.i n2)::us 22 [])):=by kernel_rfl
theorem OK(jn:Jn)(Q:VW)(x0:Int)(n2:Int):Cj PR CC jn (Gk [true,true,true] (Bj Tryz.f183)) (BK PR Tryz.f183 Q) A6 (BK PR Tryz.f183 Q) ((.int .u64 x0)::us 1 ((.i n2)::us 22 []))=(Aj (decide (x0>=256)) (Bw ((0:Int)<=(8:Int))<|H3 jn Q (Dq .u64 x0 8) (IntKind.wrap .i64 (n2+8))) (H3 jn Q x0 n2)):=by kernel_rfl
theorem OJ(Q:VW)(x0:Int)(n2:Int):H2 By Q x0 n2=Cj PR CC By (Gk [true,true,true] (Bj Tryz.f183)) (BK PR Tryz.f183 Q) A6 (BK PR Tryz.f183 Q) ((.int .u64 x0)::us 1 ((.i n2)::us 22 [])):=by kernel_rfl
theorem OI(jn:Jn)(Q:VW)(x0:Int)(n2:Int):Cj PR CC jn (Gk [true,true] (Bj Tryz.f183)) (BK PR Tryz.f183 Q) A6 (BK PR Tryz.f183 Q) ((.int .u64 x0)::us 1 ((.i n2)::us 22 []))=(Aj (decide (x0>=65536)) (Bw ((0:Int)<=(16:Int))<|H2 jn Q (Dq .u64 x0 16) (IntKind.wrap .i64 (n2+16))) (H2 jn Q x0 n2)):=by kernel_rfl
theorem OH(Q:VW)(x0:Int)(n2:Int):H1 By Q x0 n2=Cj PR CC By (Gk [true,true] (Bj Tryz.f183)) (BK PR Tryz.f183 Q) A6 (BK PR Tryz.f183 Q) ((.int .u64 x0)::us 1 ((.i n2)::us 22 [])):=by kernel_rfl
theorem Xf(jn:Jn)(x0:Int)(Q:VW):Au jn PR CC Tryz.f183 [.int .u64 x0] Q=(Aj (decide (x0>=4294967296)) (Bw ((0:Int)<=(32:Int))<|H1 jn Q (Dq .u64 x0 32) 32) (H1 jn Q x0 0)):=by kernel_rfl
theorem Xe(x0:Int)(Q:VW):Aba x0 Q=Au By PR CC Tryz.f183 [.int .u64 x0] Q:=rfl
theorem RL{x0:Int}{Q:VW}{w:World}(h:Aba x0 Q w):Calls PR Js #[.int .u64 x0] w λe w'=>∃v,e = .returned v/\Q v w':=
 I6 mixed Tryz.func183 rfl h
theorem IZ(jn:Jn)(x0:Int)(Q:VW):Au jn PR Aw Tryz.f201 [.int .u64 x0] Q=(Cc Js [.int .u64 x0] λX1=>Q (.i (IntKind.wrap .i64 (64-X1)))):=by kernel_rfl
theorem IY(x0:Int)(Q:VW):H0 x0 Q=Au By PR Aw Tryz.f201 [.int .u64 x0] Q:=rfl
theorem Ib{x0:Int}{Q:VW}{w:World}(h:H0 x0 Q w):Calls PR Eo #[.int .u64 x0] w λe w'=>∃v,e = .returned v/\Q v w':=
 I6 mixed Tryz.func201 rfl h
end Go.Proofs.YtjipofkjmmpjdaaGreat
namespace Go.Proofs.YtjipofkjmmpjdaaGreat
open Go.Hb Go.IntWalk
theorem A77(a k:Nat)(hk:k<=64):Dq .u64 (a:Int) (k:Int)=((a / 2 ^ k:Nat):Int):=by
 unfold Dq;have:min (k:Int).toNat (IntKind.bits .u64)=k:=by simp[IntKind.bits];omega
 rw[this,Int.fdiv_eq_ediv_of_nonneg _ (by exact_mod_cast Nat.zero_le _)];norm_cast
theorem Bag(a k:Nat)(hk:k<=64):HF .u64 (a:Int) (k:Int)=((a*2 ^ k % 18446744073709551616:Nat):Int):=by
 unfold HF;have:min (k:Int).toNat (IntKind.bits .u64)=k:=by simp[IntKind.bits];omega
 rw[this,<- A4n];norm_cast
section
variable{W w:World}{M:List HP}
theorem Ak2:∀x:Fin 256,x.val≠0->∃L:Nat,1<=L/\L<=8/\AG HB x.val=(L:Int)/\2 ^ (L-1)<=x.val/\x.val<2 ^ L:=by
 have key:∀x:Fin 256,x.val≠0->1<=(AG HB x.val).toNat/\(AG HB x.val).toNat<=8/\AG HB x.val=(((AG HB x.val).toNat:Nat):Int) /\
   2 ^ ((AG HB x.val).toNat-1)<=x.val/\x.val<2 ^ (AG HB x.val).toNat:=by decide +kernel
 exact λx hx=>⟨_,key x hx⟩
def Rw(x L:Nat):Prop:=1<=L/\2 ^ (L-1)<=x/\x<2 ^ L
theorem Rx{x L k:Nat}(h:Rw (x / 2 ^ k) L):Rw x (L+k):=by
 obtain⟨h0,h1,h2⟩:=h;refine⟨by omega,?_,?_⟩
 ·rw[Nat.le_div_iff_mul_le (Nat.two_pow_pos k),<- Nat.pow_add] at h1
  rwa [show L+k-1=L-1+k by omega]
 ·rw[Nat.div_lt_iff_lt_mul (Nat.two_pow_pos k),<- Nat.pow_add] at h2;exact h2
theorem Atr{Q:VW}{x n:Nat}(hx:x<256)(h0:x≠0)(hn:n<=56)(hQ:∀L:Nat,L<=8->Rw x L->Q (.i ((L+n:Nat):Int)) w):H3 By Q x n w:=by
 rw[OL,OM];have hw:IntKind.wrap .u8 (x:Int)=(x:Int):=u8_in _ (by omega);rw[hw];have hsz:HB.size=256:=by decide +kernel
 refine Az ⟨by omega,by rw[hsz];omega⟩ ?_;obtain⟨L,h1,h8,hb,ha,hc⟩:=Ak2 ⟨x,hx⟩ h0;simp only at hb ha hc;rw[Int.toNat_natCast,hb,i64_in (L:Int) (by omega),i64_in _ (by omega)];have:=hQ L h8 ⟨h1,ha,hc⟩
 rwa [show((L+n:Nat):Int)=(n:Int)+(L:Int) by omega] at this
theorem Atq{Q:VW}{x n:Nat}(hx:x<65536)(h0:x≠0)(hn:n<=48)(hQ:∀L:Nat,L<=16->Rw x L->Q (.i ((L+n:Nat):Int)) w):H2 By Q x n w:=by
 rw[OJ,OK];refine Al (λhc=>?_) (λhc=>?_) <;> simp only[decide_eq_true_eq,decide_eq_false_iff_not] at hc
 ·refine Az (by omega) ?_;rw[show(8:Int)=((8:Nat):Int) by rfl,A77 x 8 (by omega),i64_in _ (by omega),A4q];refine Atr (by omega) (by omega) (by omega) λL hL hl=>?_;have:=hQ (L+8) (by omega) (Rx hl)
  rwa [show L+8+n=L+(n+8) by omega] at this
 ·exact Atr (by omega) h0 (by omega) λL hL hl=>hQ L (by omega) hl
theorem Atp{Q:VW}{x n:Nat}(hx:x<4294967296)(h0:x≠0)(hn:n<=32)(hQ:∀L:Nat,L<=32->Rw x L->Q (.i ((L+n:Nat):Int)) w):H1 By Q x n w:=by
 rw[OH,OI];refine Al (λhc=>?_) (λhc=>?_) <;> simp only[decide_eq_true_eq,decide_eq_false_iff_not] at hc
 ·refine Az (by omega) ?_;rw[show(16:Int)=((16:Nat):Int) by rfl,A77 x 16 (by omega),i64_in _ (by omega),A4q];refine Atq (by omega) (by omega) (by omega) λL hL hl=>?_;have:=hQ (L+16) (by omega) (Rx hl)
  rwa [show L+16+n=L+(n+16) by omega] at this
 ·exact Atq (by omega) h0 (by omega) λL hL hl=>hQ L (by omega) hl
theorem Ato(h:Ab W w M){x:Nat}(hx:x<18446744073709551616)(h0:x≠0):Calls PR Js #[.int .u64 x] w λe w'=>∃L:Nat,(L<=64/\Rw x L)/\e = .returned (.i (L:Int))/\Ab W w' M:=by
 refine(RL (Q:=λv w'=>∃L:Nat,(L<=64/\Rw x L)/\v = .i (L:Int)/\Ab W w' M) ?_).mono λe w' ⟨v,he,L,hl,hv,hs⟩=>⟨L,hl,by rw[he,hv],hs⟩;rw[Xe,Xf];refine Al (λhc=>?_) (λhc=>?_) <;> simp only[decide_eq_true_eq,decide_eq_false_iff_not] at hc
 ·refine Az (by omega) ?_;rw[show(32:Int)=((32:Nat):Int) by rfl,A77 x 32 (by omega)];refine Atp (by omega) (by omega) (by omega) λL hL hl=>?_;exact⟨L+32,⟨by omega,Rx hl⟩,rfl,h⟩
 ·exact Atp (n:=0) (by omega) h0 (by omega) λL hL hl=>⟨L,⟨by omega,hl⟩,rfl,h⟩
theorem A2g(h:Ab W w M){x:Nat}(hx:x<18446744073709551616)(h0:x≠0):Calls PR Eo #[.int .u64 x] w λe w'=>
  ∃s:Nat,(s<=63/\9223372036854775808<=x*2 ^ s/\x*2 ^ s<18446744073709551616)/\e = .returned (.i (s:Int))/\Ab W w' M:=by
 refine(Ib (Q:=λv w'=>∃s:Nat,(s<=63/\9223372036854775808<=x*2 ^ s/\x*2 ^ s<18446744073709551616)/\v = .i (s:Int)/\Ab W w' M) ?_).mono λe w' ⟨v,he,L,hl,hv,hs⟩=>⟨L,hl,by rw[he,hv],hs⟩;rw[IY,IZ];refine An (Ato h hx h0) λe w ⟨L,⟨hL,h1,h2,h3⟩,he,h⟩=>⟨_,he,?_⟩;rw[i64_in _ (by omega)];refine⟨64-L,⟨by omega,?_,?_⟩,by rw[show(64:Int)-(L:Int)=((64-L:Nat):Int) by omega],h⟩
 ·have:=Nat.mul_le_mul_right (2 ^ (64-L)) h2
  rwa [<- Nat.pow_add,show L-1+(64-L)=63 by omega] at this
 ·have:=Nat.mul_lt_mul_of_pos_right h3 (Nat.two_pow_pos (64-L))
  rwa [<- Nat.pow_add,show L+(64-L)=64 by omega] at this
def HJ(x:Int):Prop:=0<=x/\x<18446744073709551616
theorem GU(x:Int):HJ (IntKind.wrap .u64 x):=by rw[IntKind.wrap_u64];unfold HJ;omega
theorem HJ.nat{x:Int}(h:HJ x):∃n:Nat,x=(n:Int)/\n<18446744073709551616:=⟨x.toNat,by have:=h.1;omega,by have:=h.1;have:=h.2;omega⟩
section
variable{Q:VW}{S:World->Prop}{y2 s8 y1 y0 u3 u1 u0 q1 u2:Int}
theorem A99(h1:1<=y1)(h2:y1<4294967296)(h8:0<=s8)(hQ:∀q r w,HJ q->S w->Q (.tuple #[.int .u64 q,.int .u64 r]) w):∀(f:Nat)(rh q:Int)(w:World),0<=rh->rh<4294967296->4294967296<=rh+f->S w->Hz By Q (f+1) y2 s8 y1 y0 u0 q1 rh u2 q w:=by
 have j8:∀q w,S w->Hx By Q y2 s8 u0 q1 u2 q w:=by
  intro q w hS;rw[OD,OE];refine Az h8 ?_;have hq:=λq r h=>hQ q r w h hS;refine hq _ _ ?_;exact GU _
 intro f
 induction f with
 | zero=>intro rh q w h3 h4 h5 hS;omega
 | succ f ih=>
  intro rh q w h3 h4 h5 hS;rw[OG];have j7:Hw By Q (f+1) y2 s8 y1 y0 u0 q1 rh u2 q w:=by
   rw[OB,OC];have e1:IntKind.wrap .u64 (rh+y1)=rh+y1:=by rw[IntKind.wrap_u64];omega
   rw[e1];generalize IntKind.wrap .u64 (q-1)=q';refine Al (λ_=>by with_reducible exact j8 q' w hS) (λh=>?_);have h:=of_decide_eq_false h;have g1:0<=rh+y1:=by omega
   have g2:rh+y1<4294967296:=by omega
   have g3:4294967296<=rh+y1+(f:Int):=by omega
   with_reducible exact ih (rh+y1) q' w g1 g2 g3 hS
  refine Al (λ_=>by with_reducible exact j7) (λ_=>?_);exact Al (λ_=>by with_reducible exact j7) (λ_=>by with_reducible exact j8 q w hS)
theorem A4h{x y:Int}(hx:HJ x)(h1:1<=y)(h2:y<4294967296):0<=IntKind.wrap .u64 (x-IntKind.wrap .u64 (IntKind.wrap .u64 (Int.tdiv x y)*y))/\IntKind.wrap .u64 (x-IntKind.wrap .u64 (IntKind.wrap .u64 (Int.tdiv x y)*y))<4294967296:=by
 obtain⟨h3,h4⟩:=hx;have e0:Int.tdiv x y=x / y:=Int.tdiv_eq_ediv_of_nonneg h3;have e1:y*(x / y)+x % y=x:=Int.mul_ediv_add_emod x y;have e2:=Int.emod_nonneg x (show y≠0 by omega);have e3:=Int.emod_lt_of_pos x (show 0<y by omega);have e4:0<=x / y:=Int.ediv_nonneg h3 (by omega);have e5:x / y<=x:=Int.ediv_le_self y h3;have e6:0<=y*(x / y):=Int.mul_nonneg (by omega) e4;rw[e0];have w1:IntKind.wrap .u64 (x / y)=x / y:=by rw[IntKind.wrap_u64];omega
 rw[w1,Int.mul_comm];generalize y*(x / y)=z at *;have w2:IntKind.wrap .u64 z=z:=by rw[IntKind.wrap_u64];omega
 rw[w2];have w3:IntKind.wrap .u64 (x-z)=x-z:=by rw[IntKind.wrap_u64];omega
 rw[w3];omega
theorem A86(h1:1<=y1)(h2:y1<4294967296)(h8:0<=s8)(hQ:∀q r w,HJ q->S w->Q (.tuple #[.int .u64 q,.int .u64 r]) w){w:World}(hS:S w):Hv By Q y2 s8 y1 y0 u3 u1 u0 q1 w:=by
 rw[O0,O1];refine Az (by omega) ?_;have h3:=GU (IntKind.wrap .u64 (IntKind.wrap .u64 (u3*4294967296)+u1)-IntKind.wrap .u64 (q1*y2));have h4:=A4h h3 h1 h2;exact AR _ (A99 h1 h2 h8 hQ 4294967296 _ _ w h4.1 h4.2 (by omega) hS)
theorem A98(h1:1<=y1)(h2:y1<4294967296)(h8:0<=s8)(hQ:∀q r w,HJ q->S w->Q (.tuple #[.int .u64 q,.int .u64 r]) w):∀(f:Nat)(rh q:Int)(w:World),0<=rh->rh<4294967296->4294967296<=rh+f->S w->Hy By Q (f+1) y2 s8 y1 y0 u3 u1 u0 q rh w:=by
 intro f
 induction f with
 | zero=>intro rh q w h3 h4 h5 hS;omega
 | succ f ih=>
  intro rh q w h3 h4 h5 hS;rw[OF];have j4:Hu By Q (f+1) y2 s8 y1 y0 u3 u1 u0 q rh w:=by
   rw[Oy,Oz];have e1:IntKind.wrap .u64 (rh+y1)=rh+y1:=by rw[IntKind.wrap_u64];omega
   rw[e1];generalize IntKind.wrap .u64 (q-1)=q';have g1:0<=rh+y1:=by omega
   have g3:4294967296<=rh+y1+(f:Int):=by omega
   refine Al (λ_=>by with_reducible exact A86 h1 h2 h8 hQ hS) (λh=>?_);have h:=of_decide_eq_false h;have g2:rh+y1<4294967296:=by omega
   with_reducible exact ih (rh+y1) q' w g1 g2 g3 hS
  refine Al (λ_=>by with_reducible exact j4) (λ_=>?_);exact Al (λ_=>by with_reducible exact j4) (λ_=>by with_reducible exact A86 h1 h2 h8 hQ hS)
end
theorem Avt(hs:Ab W w M){hi lo y:Int}(h1:HJ hi)(h2:HJ lo)(h3:HJ y)(hlt:hi<y):BB PR NQ #[.int .u64 hi,.int .u64 lo,.int .u64 y] w λv w'=>∃q r:Int,v = .tuple #[.int .u64 q,.int .u64 r]/\HJ q/\Ab W w' M:=by
 refine RK ?_;rw[Xc,Xd];have hh:=h1.1;have hy:=h3.2
 refine Ac (by simp;omega) ?_;rw[Ou,Ov];refine Ac (by simp;omega) ?_
 rw[Ow,Ox];refine Al (λhc=>?_) (λhc=>?_)
 ·refine As hs λw hs=>?_;exact Az (by omega) (Az (by omega) ⟨_,_,rfl,GU _,hs⟩)
 ·clear hy;obtain⟨y,rfl,hy⟩:=h3.nat;refine An (A2g hs hy (by omega)) λe w ⟨s,⟨h63,hs1,hs2⟩,he,hs⟩=>⟨_,he,?_⟩;have ws:IntKind.wrap .u64 (s:Int)=(s:Int):=by rw[IntKind.wrap_u64];omega
  have ws2:IntKind.wrap .u64 ((64:Int)-(s:Int))=((64-s:Nat):Int):=by rw[IntKind.wrap_u64];omega
  rw[ws,ws2,Bag y s (by omega),Nat.mod_eq_of_lt hs2];generalize y*2 ^ s=Y at *;have e1:Dq .u64 (Y:Int) (32:Int)=((Y / 4294967296:Nat):Int):=Aiw Y;rw[e1];have hy1:1<=Y / 4294967296:=by omega
  refine Az (by omega) (Az (by omega) (Az (by omega) (Az (by omega) (Az (by omega) (Az (by omega) (Az (by omega) ?_))))));have hsh:HJ (bits .or .u64 (HF .u64 hi (s:Int)) (Dq .u64 lo (((64-s:Nat):Int)))):=by
   show HJ (IntKind.wrap .u64 _);exact GU _
  have h4:=A4h hsh (show(1:Int)<=((Y / 4294967296:Nat):Int) by omega) (show((Y / 4294967296:Nat):Int)<4294967296 by omega);refine AR _ (A98 (S:=λw=>Ab W w M) (by omega) (by omega) (by omega) (λq r w hq hs=>⟨q,r,rfl,hq,hs⟩) 4294967296 _ _ w h4.1 h4.2 (by omega) hs)
theorem Aiv(hs:Ab W w M){a b c:Int}(ha:HJ a)(hb:HJ b)(hc:HJ c):BB PR 143 #[.int .u64 a,.int .u64 b,.int .u64 c] w λv w'=>∃q:Int,v = .int .u64 q/\HJ q/\Ab W w' M:=by
 refine cw ⟨mixed,Tryz.func143,rfl⟩ Aom ?_;obtain⟨a,rfl,ha'⟩:=ha.nat;obtain⟨b,rfl,hb'⟩:=hb.nat;refine AH (At2 hs ha' hb') λe w ⟨he,hs⟩=>⟨_,_,he,?_⟩;have hx:HJ ((a*b / 18446744073709551616:Nat):Int):=by
  have:a*b / 18446744073709551616<18446744073709551616:=by
   rw[Nat.div_lt_iff_lt_mul (by decide)];exact Nat.mul_lt_mul'' ha' hb'
  exact⟨by omega,by omega⟩
 have hy:HJ ((a*b % 18446744073709551616:Nat):Int):=by
  have:=Nat.mod_lt (a*b) (show 0<18446744073709551616 by decide);exact⟨by omega,by omega⟩
 refine Al (λ_=>⟨_,rfl,by unfold HJ;omega,hs⟩) (λh=>?_);have h:=of_decide_eq_false h;refine AP (Avt hs hx hy hc (by omega)) λv w ⟨q,r,hv,hq,hs⟩=>⟨_,_,hv,q,rfl,hq,hs⟩
theorem A9h(hs:Ab W w M){a b:Int}(ha:HJ a)(hb:HJ b):BB PR 139 #[.int .u64 a,.int .u64 b] w λv w'=>∃q:Int,v = .int .u64 q/\HJ q/\Ab W w' M:=by
 refine cw ⟨mixed,Tryz.func139,rfl⟩ Aoi ?_;exact Ai (Aiv hs ha hb (by unfold HJ;omega)) λv w ⟨q,hv,hq,hs⟩=>⟨_,hv,q,rfl,hq,hs⟩
end
end Go.Proofs.YtjipofkjmmpjdaaGreat
namespace Go.Hb
def CD(l:List Int):List Value:=l.map (Value.int .u64)
theorem Ff{l:List Int}{i:Nat}(h:i<l.length):(CD l)[i]? = some ((CK.int .u64).val (l.getD i 0)):=by
 unfold CD;rw[List.getElem?_map,List.getElem?_eq_getElem h,List.getD_eq_getElem?_getD,List.getElem?_eq_getElem h];rfl
theorem Kg{l:List Int}{i:Nat}{x:Int}:(CD l).set i (.int .u64 x)=CD (l.set i x):=by unfold CD;rw[List.map_set]
theorem Kf(l:List Int):(CD l).length=l.length:=by simp[CD]
def Mw(l:List Int):List Value:=l.map (Value.int .i64)
theorem As2{l:List Int}{i:Nat}(h:i<l.length):(Mw l)[i]? = some ((CK.int .i64).val (l.getD i 0)):=by
 unfold Mw;rw[List.getElem?_map,List.getElem?_eq_getElem h,List.getD_eq_getElem?_getD,List.getElem?_eq_getElem h];rfl
theorem Ass{l:List Int}(h:l.length=5):∃a b c d e,l=[a,b,c,d,e]:=by
 match l,h with
 | [a,b,c,d,e],_=>exact⟨a,b,c,d,e,rfl⟩
end Go.Hb
namespace Go.Proofs.YtjipofkjmmpjdaaGreat
open Go.Hb Go.IntWalk
structure U5(l:List Int):Prop where
 len:l.length=5
 all:∀x∈l,HJ x
theorem A4m:HJ 0:=by unfold HJ;omega
theorem U5.get{l:List Int}(h:U5 l){i:Nat}(hi:i<5):HJ (l.getD i 0):=by
 have h5:=h.len;rw[List.getD_eq_getElem?_getD,List.getElem?_eq_getElem (by omega)];exact h.all _ (List.getElem_mem _)
theorem U5.set{l:List Int}(h:U5 l){i:Nat}{x:Int}(hx:HJ x):U5 (l.set i x):=⟨by simp[h.len],λy hy=>by
 rcases List.mem_or_eq_of_mem_set hy with h1|h1
 ·exact h.all y h1
 ·exact h1 ▸ hx⟩
theorem U5.zero:U5 [0,0,0,0,0]:=⟨rfl,λx hx=>by simp at hx;subst hx;exact A4m⟩
abbrev WQ(W:World)(L:List HP):VW:=λv w'=>∃a b c d e:Int,v = .agg #[.int .u64 a,.int .u64 b,.int .u64 c,.int .u64 d,.int .u64 e]/\U5 [a,b,c,d,e]/\Ab W w' L
theorem Jr{i:Nat}(h:i<100):IntKind.wrap .i64 ((i:Int)+1)=((i+1:Nat):Int):=by rw[i64_in _ (by omega)];omega
theorem UH(i:Nat):0+((i:Int)).toNat*1=i:=by omega
section
variable{W w:World}{L M:List HP}{a b c d e:Int}
theorem Agm(hs:Ab W w L):BB PR 142 #[.agg #[.int .u64 a,.int .u64 b,.int .u64 c,.int .u64 d,.int .u64 e]] w λv w'=>∃x:Int,v = .int .u64 x/\HJ x/\Ab W w' L:=by
 refine cw ⟨mixed,Tryz.func142,rfl⟩ Aol ?_;refine Ah hs λb1 w hs=>?_
 iterate 5 refine Ag hs ?_
 have loop:∀(f i:Nat)(y:Int),i+f=5->HJ y->Pr By (λv w'=>∃x:Int,v = .int .u64 x/\HJ x/\Ab W w' L) (f+1) y a b c d e (i:Int) w:=by
  intro f
  induction f with
  | zero=>
   intro i y hi hy;rw[Nn];refine Ac (decide_eq_false (by omega)) ?_;refine jw Yw ?_;exact⟨_,rfl,hy,hs.drop⟩
  | succ f ih=>
   intro i y hi hy;rw[Nn];refine Ak (decide_eq_true (by omega)) ?_;refine Az (by omega) ?_;rw[Int.toNat_natCast,Jr (by omega)];refine⟨[a,b,c,d,e].getD i 0,Ff (l:=[a,b,c,d,e]) (show i<5 by omega),rfl,?_⟩
   with_reducible exact ih (i+1) _ (by omega) (GU _)
 exact AR _ (loop 5 0 0 (by omega) A4m)
theorem A9r(hs:Ab W w L):BB PR 138 #[.agg #[.int .u64 a,.int .u64 b,.int .u64 c,.int .u64 d,.int .u64 e]] w λv w'=>∃t,v = .b t/\Ab W w' L:=by
 refine cw ⟨mixed,Tryz.func138,rfl⟩ Aoh ?_;refine Ah hs λb1 w hs=>?_
 iterate 5 refine Ag hs ?_
 have loop:∀(f i:Nat),i+f=5->Pn By (λv w'=>∃t,v = .b t/\Ab W w' L) (f+1) b1 0 a b c d e (i:Int) w:=by
  intro f
  induction f with
  | zero=>
   intro i hi;rw[Nl];refine Ac (decide_eq_false (by omega)) ?_;refine jw Yu ?_
   iterate 5 refine Ag hs ?_
   exact Ai (Agm hs) λv w ⟨x,hv,_,hs⟩=>⟨_,hv,_,rfl,hs.drop⟩
  | succ f ih=>
   intro i hi;rw[Nl];refine Ak (decide_eq_true (by omega)) ?_;refine Az (by omega) ?_;rw[Int.toNat_natCast,Jr (by omega)];refine⟨[a,b,c,d,e].getD i 0,Ff (l:=[a,b,c,d,e]) (show i<5 by omega),rfl,?_⟩;refine Al (λ_=>⟨_,rfl,hs.drop⟩) (λ_=>?_);refine Al (λ_=>⟨_,rfl,hs.drop⟩) (λ_=>?_)
   with_reducible exact ih (i+1) (by omega)
 exact AR _ (loop 5 0 (by omega))
theorem A3x(hs:Ab W w L){x:Int}:BB PR 101 #[.agg #[.int .u64 a,.int .u64 b,.int .u64 c,.int .u64 d,.int .u64 e],.int .u32 x] w λv w'=>∃t:Int,v = .i t/\(0<=t/\t<5)/\Ab W w' L:=by
 refine cw ⟨mixed,Tryz.func101,rfl⟩ Ang ?_;refine Ah hs λb1 w hs=>?_
 iterate 5 refine Ag hs ?_
 have loop:∀(f i:Nat)(y:Int),i+f=5->OY By (λv w'=>∃t:Int,v = .i t/\(0<=t/\t<5)/\Ab W w' L) (f+1) x y a b c d e (i:Int) w:=by
  intro f
  induction f with
  | zero=>
   intro i y hi;rw[MZ];refine Ac (decide_eq_false (by omega)) ?_;refine jw XY ?_;exact⟨_,rfl,by omega,hs.drop⟩
  | succ f ih=>
   intro i y hi;rw[MZ];refine Ak (decide_eq_true (by omega)) ?_;refine Az (by omega) ?_;rw[Int.toNat_natCast,Jr (by omega)];refine⟨[a,b,c,d,e].getD i 0,Ff (l:=[a,b,c,d,e]) (show i<5 by omega),rfl,?_⟩;refine Al (λ_=>⟨_,rfl,by omega,hs.drop⟩) (λ_=>?_)
   with_reducible exact ih (i+1) _ (by omega)
 exact AR _ (loop 5 0 0 (by omega))
theorem A3v(hs:Ab W w L){k:Int}:BB PR 140 #[.i k] w λv w'=>∃x:Int,v = .int .u64 x/\HJ x/\Ab W w' L:=by
 refine cw ⟨mixed,Tryz.func140,rfl⟩ Aoj ?_;refine An (DS hs _ _ _) λe w ⟨he,hs⟩=>⟨_,he,?_⟩;have hk:=Gw k (show(0:Int)<=15 by omega);generalize Is k 0 15=n at *;have loop:∀(f i:Nat)(y:Int),(i:Int)+f=n->HJ y->Pp By (λv w'=>∃x:Int,v = .int .u64 x/\HJ x/\Ab W w' L) (f+1) y n (i:Int) w:=by
  intro f
  induction f with
  | zero=>
   intro i y hi hy;rw[Nm];refine Ac (decide_eq_false (by omega)) ?_;refine jw Yv ?_;exact⟨_,rfl,hy,hs⟩
  | succ f ih=>
   intro i y hi hy;rw[Nm];refine Ak (decide_eq_true (by omega)) ?_;refine Az (by decide) ?_;rw[Jr (by omega)]
   with_reducible exact ih (i+1) _ (by omega) (GU _)
 exact AR _ (loop n.toNat 0 _ (by omega) (by unfold HJ;omega))
theorem Agn(hs:Ab W w L){g a:Int}:BB PR 141 #[.i g,.i a] w λv w'=>∃x:Int,v = .i x/\Ab W w' L:=by
 refine cw ⟨mixed,Tryz.func141,rfl⟩ Aok ?_;refine An (DS hs _ _ _) λe w ⟨he,hs⟩=>⟨_,he,?_⟩;refine An (DS hs _ _ _) λe w ⟨he,hs⟩=>⟨_,he,?_⟩
 with_reducible refine A2 (λh1=>?_) (λh1=>?_)
 ·exact⟨_,rfl,hs⟩
 ·exact Az h1 ⟨_,rfl,hs⟩
theorem Ai5(hu:U5 [a,b,c,d,e])(hs:Ab W w L):BB PR 115 #[.agg #[.int .u64 a,.int .u64 b,.int .u64 c,.int .u64 d,.int .u64 e]] w (WQ W L):=by
 refine cw ⟨mixed,Tryz.func115,rfl⟩ Anu ?_;refine Ah hs λb1 w hs=>?_;refine Ah hs λb2 w hs=>?_;have hs:Ab W w (blk b2 (CD [0,0,0,0,0])::blk b1 (CD [a,b,c,d,e])::L):=hs;generalize [a,b,c,d,e]=xs at hs hu;have h5:=hu.len;have j2:∀(w:World)(mo:Nat),mo<5->Ab W w (blk b2 (CD [0,0,0,0,0])::blk b1 (CD xs)::L)->Ag4 By (WQ W L) b1 0 b2 0 (mo:Int) w:=by
  clear hs;intro w mo hm hs;refine jw Yf ?_;rw[UH mo];have hs:Ab W w (blk b1 (CD xs)::blk b2 (CD [0,0,0,0,0])::L):=hs.perm (List.Perm.swap _ _ _);refine Ao [blk b1 (CD xs)] hs λw hs=>?_;refine Az (by omega) ?_;refine Am ?_ (hc:=Ff (by omega));obtain⟨x0,x1,x2,x3,x4,rfl⟩:=Ass h5;refine Ag (x:=x0) hs ?_;refine Ag (x:=x1) hs ?_;refine Ag (x:=x2) hs ?_;refine Ag (x:=x3) hs ?_;refine Ag (x:=x4) hs ?_;refine Ae hs ?_;refine Ai (Agm hs) λv w ⟨z,hv,_,hs⟩=>⟨_,hv,Ae hs ?_⟩;refine Az (by omega) ?_;refine IX 0 (cs:=CD [x0,x1,x2,x3,x4]) hs rfl (by rw[Kf];omega) λw hs=>?_
  rw[Kg] at hs;have hu2:=hu.set (i:=mo) (GU ([x0,x1,x2,x3,x4].getD mo 0+IntKind.wrap .u64 (4294967296-z)));generalize [x0,x1,x2,x3,x4].set mo _=ys at hs hu2;obtain⟨y0,y1,y2,y3,y4,rfl⟩:=Ass hu2.len;have hs:Ab W w (blk b1 [.int .u64 y0,.int .u64 y1,.int .u64 y2,.int .u64 y3,.int .u64 y4]::blk b2 [.int .u64 0,.int .u64 0,.int .u64 0,.int .u64 0,.int .u64 0]::L):=hs
  iterate 5 refine Ag hs ?_
  iterate 5 refine A0 hs λw hs=>?_
  iterate 5 refine Ag hs ?_
  exact⟨_,_,_,_,_,rfl,hu2,by exact Ab.fin hs⟩
 have loop:∀(f i mo:Nat)(w:World),i+f=5->mo<5->Ab W w (blk b2 (CD [0,0,0,0,0])::blk b1 (CD xs)::L)->Ly By (WQ W L) (f+1) b1 0 b2 0 (mo:Int) (i:Int) w:=by
  clear hs;intro f
  induction f with
  | zero=>
   intro i mo w hi hm hs;rw[Ng];refine Ac (decide_eq_false (by omega)) ?_;exact j2 w mo hm hs
  | succ f ih=>
   intro i mo w hi hm hs;rw[Ng];refine Ak (decide_eq_true (by omega)) ?_;rw[UH i,UH mo,Jr (by omega)];refine Ao [blk b1 (CD xs)] hs λw hs=>?_;refine Az (by omega) ?_;refine Am ?_ (hc:=Ff (by omega));refine Az (by omega) ?_;refine Ag hs ?_ (hc:=Ff (by omega));refine Ae hs ?_;refine Al (λ_=>?_) (λ_=>?_)
   ·with_reducible exact ih (i+1) i w (by omega) (by omega) hs
   ·with_reducible exact ih (i+1) mo w (by omega) hm hs
 exact AR _ (loop 5 0 0 w (by omega) (by omega) hs)
theorem S9{f:FuncId}{args:Array Value}{K:Int->Int->Int->Int->Int->WP}(h:BB PR f args w (WQ W L))(hK:∀(a b c d e:Int) w,U5 [a,b,c,d,e]->Ab W w L->K a b c d e w) :
  Calls PR f args w λe_ w'=>∃a b c d e:Int,e_ = .returned (.agg #[.int .u64 a,.int .u64 b,.int .u64 c,.int .u64 d,.int .u64 e])/\K a b c d e w':=
 Calls.mono h λe_ w' ⟨v,he,a,b,c,d,e,hv,hu,hs⟩=>⟨a,b,c,d,e,by rw[he,hv],hK a b c d e w' hu hs⟩
theorem Acd(hs:Ab W w L):BB PR 79 #[] w (WQ W L):=by
 refine cw ⟨mixed,Tryz.func79,rfl⟩ A1c ?_;refine Ah hs λb1 w hs=>?_;refine Ah hs λb2 w hs=>?_;have loop:∀(f i:Nat)(xs:List Int)(w:World),i+f=5->U5 xs->Ab W w (blk b2 (CD xs)::blk b1 (CD [0,0,0,0,0])::L) ->
   WE By (WQ W L) (f+1) b1 0 b2 0 (i:Int) w:=by
  clear hs;intro f
  induction f with
  | zero=>
   intro i xs w hi hx hs;rw[QY];refine Ac (decide_eq_false (by omega)) ?_;refine jw Ae0 ?_;obtain⟨x0,x1,x2,x3,x4,rfl⟩:=Ass hx.len;have hs:Ab W w (blk b2 [.int .u64 x0,.int .u64 x1,.int .u64 x2,.int .u64 x3,.int .u64 x4]::blk b1 [.int .u64 0,.int .u64 0,.int .u64 0,.int .u64 0,.int .u64 0]::L):=hs
   iterate 5 refine Ag hs ?_
   refine S9 (Ai5 hx hs) λy0 y1 y2 y3 y4 w hu hs=>?_
   iterate 5 refine A0 hs λw hs=>?_
   iterate 5 refine Ag hs ?_
   exact⟨_,_,_,_,_,rfl,hu,by exact Ab.fin hs⟩
  | succ f ih=>
   intro i xs w hi hx hs;rw[QY];refine Ak (decide_eq_true (by omega)) ?_;refine Az (by omega) ?_;have h5:=hx.len;rw[UH i,Jr (by omega)];refine IX 0 (cs:=CD xs) hs rfl (by rw[Kf];omega) λw hs=>?_
   rw[Kg] at hs;have hs:Ab W w (blk b2 (CD (xs.set i 858993459))::blk b1 (CD [0,0,0,0,0])::L):=hs
   with_reducible exact ih (i+1) _ w (by omega) (hx.set (by unfold HJ;omega)) hs
 exact AR _ (loop 5 0 [0,0,0,0,0] w (by omega) U5.zero hs)
theorem A3w(hu:U5 [a,b,c,d,e])(hs:Ab W w L){g0 g1 g2 g3 g4 all:Int}:BB PR 100 #[.agg #[.int .u64 a,.int .u64 b,.int .u64 c,.int .u64 d,.int .u64 e],.agg #[.i g0,.i g1,.i g2,.i g3,.i g4],.i all] w (WQ W L):=by
 refine cw ⟨mixed,Tryz.func100,rfl⟩ Anf ?_;refine Ah hs λb1 w hs=>?_;refine Ah hs λb2 w hs=>?_;refine Ah hs λb3 w hs=>?_
 iterate 5 refine Ag hs ?_
 refine Ai (A9r hs) λv w ⟨t,hv,hs⟩=>⟨_,hv,?_⟩;refine Al (λ_=>?_) (λ_=>?_)
 ·refine S9 (Acd hs) λy0 y1 y2 y3 y4 w hu hs=>?_
  iterate 5 refine A0 hs λw hs=>?_
  iterate 5 refine Ag hs ?_
  exact⟨_,_,_,_,_,rfl,hu,by exact Ab.fin hs⟩
 have hs:Ab W w (blk b1 (CD [a,b,c,d,e])::blk b2 (Mw [g0,g1,g2,g3,g4])::blk b3 (CD [0,0,0,0,0])::L):=by
  have hs:Ab W w (blk b3 (CD [0,0,0,0,0])::blk b2 (Mw [g0,g1,g2,g3,g4])::blk b1 (CD [a,b,c,d,e])::L):=hs;exact Ab.fin hs
 have hg:[g0,g1,g2,g3,g4].length=5:=rfl;generalize [g0,g1,g2,g3,g4]=gs at hs hg;generalize [a,b,c,d,e]=ws at hs hu;have l3:∀(f i:Nat)(xs:List Int)(t:Int)(w:World),i+f=5->U5 xs->HJ t->Ab W w (blk b1 (CD xs)::blk b2 (Mw gs)::blk b3 (CD [0,0,0,0,0])::L)->OW By (WQ W L) (f+1) b1 0 b3 0 t (i:Int) w:=by
  clear hs;intro f
  induction f with
  | zero=>
   intro i xs t w hi hx ht hs;rw[MY];refine Ac (decide_eq_false (by omega)) ?_;refine jw XX ?_;obtain⟨x0,x1,x2,x3,x4,rfl⟩:=Ass hx.len;have hs:Ab W w (blk b1 [.int .u64 x0,.int .u64 x1,.int .u64 x2,.int .u64 x3,.int .u64 x4]::blk b2 (Mw gs)::blk b3 [.int .u64 0,.int .u64 0,.int .u64 0,.int .u64 0,.int .u64 0]::L):=hs
   iterate 5 refine Ag hs ?_
   refine S9 (Ai5 hx hs) λy0 y1 y2 y3 y4 w hu hs=>?_
   iterate 5 refine A0 hs λw hs=>?_
   iterate 5 refine Ag hs ?_
   exact⟨_,_,_,_,_,rfl,hu,by exact Ab.fin hs⟩
  | succ f ih=>
   intro i xs t w hi hx ht hs;rw[MY];refine Ak (decide_eq_true (by omega)) ?_;have h5:=hx.len;rw[UH i,Jr (by omega)];refine Az (by omega) ?_;refine Ag hs ?_ (hc:=Ff (by omega));refine Ai (Aiv hs (hx.get (by omega)) (by unfold HJ;omega) ht) λv w ⟨q,hv,hq,hs⟩=>⟨_,hv,?_⟩
   refine Az (by omega) ?_;refine IX 0 (cs:=CD xs) hs rfl (by rw[Kf];omega) λw hs=>?_
   rw[Kg] at hs;have hq2:HJ (if q>42949672 then q else 42949672):=by
    unfold HJ at *;split <;> omega
   generalize (if q>42949672 then q else 42949672)=q2 at hs hq2;have hs:Ab W w (blk b1 (CD (xs.set i q2))::blk b2 (Mw gs)::blk b3 (CD [0,0,0,0,0])::L):=hs
   with_reducible exact ih (i+1) _ t w (by omega) (hx.set hq2) ht hs
 have l1:∀(f i:Nat)(xs:List Int)(w:World),i+f=5->U5 xs->Ab W w (blk b1 (CD xs)::blk b2 (Mw gs)::blk b3 (CD [0,0,0,0,0])::L)->OV By (WQ W L) (f+1) all b1 0 b2 0 b3 0 (i:Int) w:=by
  clear hs;intro f
  induction f with
  | zero=>
   intro i xs w hi hx hs;rw[MX];refine Ac (decide_eq_false (by omega)) ?_;refine jw XW ?_;have hx0:=hx;obtain⟨x0,x1,x2,x3,x4,rfl⟩:=Ass hx.len;refine Ag (x:=x0) hs ?_;refine Ag (x:=x1) hs ?_;refine Ag (x:=x2) hs ?_;refine Ag (x:=x3) hs ?_;refine Ag (x:=x4) hs ?_;refine Ai (Agm hs) λv w ⟨z,hv,hz,hs⟩=>⟨_,hv,?_⟩;exact AR _ (l3 5 0 _ z w (by omega) hx0 hz hs)
  | succ f ih=>
   intro i xs w hi hx hs;rw[MX];refine Ak (decide_eq_true (by omega)) ?_;have h5:=hx.len;rw[UH i,Jr (by omega)];refine Ao [blk b1 (CD xs)] hs λw hs=>?_;refine Az (by omega) ?_;refine Am ?_ (hc:=Ff (by omega));refine Az (by omega) ?_;refine Ag hs ?_ (hc:=As2 (by omega));refine Ae hs ?_;refine Ai (Agn hs) λv w ⟨p,hv,hs⟩=>⟨_,hv,Ae hs ?_⟩;refine Ai (A3v hs) λv w ⟨y,hv,hy,hs⟩=>⟨_,hv,Ae hs ?_⟩;refine Ai (A9h hs (hx.get (by omega)) hy) λv w ⟨q,hv,hq,hs⟩=>⟨_,hv,?_⟩;refine Az (by omega) ?_
   refine IX 0 (cs:=CD xs) hs rfl (by rw[Kf];omega) λw hs=>?_;rw[Kg] at hs;have hs:Ab W w (blk b1 (CD (xs.set i q))::blk b2 (Mw gs)::blk b3 (CD [0,0,0,0,0])::L):=hs
   with_reducible exact ih (i+1) _ w (by omega) (hx.set hq) hs
 exact AR _ (l1 5 0 ws w (by omega) hu hs)
end
end Go.Proofs.YtjipofkjmmpjdaaGreat
namespace Go.Hb
open Go.Proofs.YtjipofkjmmpjdaaGreat
def tpe(b n:Nat):HP:=Ks λ(z:Sl×List Int×Int)=>F6 (0<=z.2.2/\z.2.2<=n) (AO [blk b [.l z.1.a z.1.n z.1.c,.i z.2.2],recs (Rec.int .u32) z.1 z.2.1])
abbrev cC(b:Nat)(cur hold:Int)(tb:Nat)(a0 a1 a2 a3 a4 kd nn:Int):HP:=blk b [.i cur,.i hold,pq tb 0,.int .u64 a0,.int .u64 a1,.int .u64 a2,.int .u64 a3,.int .u64 a4,.i kd,.i nn]
def Gh(b n:Nat):HP:=Ks λ(z:(Int×Int×Nat)×(Int×Int×Int×Int×Int)×(Int×Int))=>F6 (U5 [z.2.1.1,z.2.1.2.1,z.2.1.2.2.1,z.2.1.2.2.2.1,z.2.1.2.2.2.2]) (AO [cC b z.1.1 z.1.2.1 z.1.2.2 z.2.1.1 z.2.1.2.1 z.2.1.2.2.1 z.2.1.2.2.2.1 z.2.1.2.2.2.2 z.2.2.1 z.2.2.2,tpe z.1.2.2 n])
section
variable{W w:World}{M L:List HP}{b n:Nat}
theorem Ab7(h:Ab W w (tpe b n::M)):∃(s:Sl) (l:List Int) (k:Int),(0<=k/\k<=n)/\(s.n=l.length/\s.n<=s.c)/\Ab W w (blk b [.l s.a s.n s.c,.i k]::recs (Rec.int .u32) s l::M):=by
 obtain⟨⟨s,l,k⟩,h⟩:=h.openE;obtain⟨hp,h⟩:=h.openA;have h:=h.openL;have h:Ab W w (blk b [.l s.a s.n s.c,.i k]::recs (Rec.int .u32) s l::M):=h;exact⟨s,l,k,hp,BV (s:=s) h,h⟩
theorem Mt{s:Sl}{l:List Int}{k:Int}(hp:0<=k/\k<=n)(h:Ab W w (blk b [.l s.a s.n s.c,.i k]::recs (Rec.int .u32) s l::M)):Ab W w (tpe b n::M):=
 Ab.shutE (s,l,k) (Ab.shutA hp (Ab.shutL (Ps:=[_,_]) h))
theorem Q3(h:Ab W w (Gh b n::M)):∃(cur hold:Int) (tb:Nat) (a0 a1 a2 a3 a4 kd nn:Int),U5 [a0,a1,a2,a3,a4]/\Ab W w (cC b cur hold tb a0 a1 a2 a3 a4 kd nn::tpe tb n::M):=by
 obtain⟨⟨⟨cur,hold,tb⟩,⟨a0,a1,a2,a3,a4⟩,kd,nn⟩,h⟩:=h.openE;obtain⟨hp,h⟩:=h.openA;exact⟨cur,hold,tb,a0,a1,a2,a3,a4,kd,nn,hp,h.openL⟩
theorem HO{cur hold:Int}{tb:Nat}{a0 a1 a2 a3 a4 kd nn:Int}(hu:U5 [a0,a1,a2,a3,a4])(h:Ab W w (cC b cur hold tb a0 a1 a2 a3 a4 kd nn::tpe tb n::M)):Ab W w (Gh b n::M):=
 Ab.shutE ((cur,hold,tb),(a0,a1,a2,a3,a4),kd,nn) (Ab.shutA hu (Ab.shutL (Ps:=[_,_]) h))
end
end Go.Hb
namespace Go.Proofs.YtjipofkjmmpjdaaGreat
open Go.Hb Go.IntWalk
section
variable{W w:World}{L M:List HP}{b n:Nat}
instance:OkR (Rec.int .u32):=⟨λ_=>rfl⟩
theorem A3i(hb:n<1000000000000)(hs:Ab W w (tpe b n::M)):BB PR 102 #[pq b 0] w λv w'=>∃x:Int,v = .int .u32 x/\Ab W w' (tpe b (n+1)::M):=by
 refine cw ⟨mixed,Tryz.func102,rfl⟩ Anh ?_;obtain⟨s,l,k,hk,hsn,hs⟩:=Ab7 hs;refine Ac rfl ?_;refine Aa (Ag hs ?_);rw[i64_in (k+1) (by omega)];refine Aa (A0 hs λw hs=>?_);refine Ao [blk b [.l s.a s.n s.c,.i (k+1)]] hs λw hs=>?_;refine Aa (Am (Aa (Ag (x:=s) hs (Ae hs ?_))))
 with_reducible refine A2 (λh1=>?_) (λh1=>?_)
 ·exact⟨_,rfl,Mt (by omega) hs⟩
 refine Ao [blk b [.l s.a s.n s.c,.i (k+1)]] hs λw hs=>?_;refine Aa (Am (x:=s) (Aa (Ag hs (Ae hs ?_))));rw[i64_in (k+1-1) (by omega)];refine AB (s:=s) (E:=Rec.int .u32) (rows:=l) hs λb_ o_ ha_=>?_;refine AE (s:=s) (E:=Rec.int .u32) (rows:=l) ha_ hs ?_;exact⟨_,rfl,Mt (by omega) hs⟩
theorem Avr{s:Sl}{ds:List Int}[hr:IU W L s (Rec.int .u32) ds](hd:ds.length<1000000)(hs:Ab W w L):BB PR 80 #[.l s.a s.n s.c] w λv w'=>∃(t:Sl) (l:List Int),v = .l t.a t.n t.c/\Ab W w' (recs (Rec.int .u32) t l::L):=by
 refine cw ⟨mixed,Tryz.func80,rfl⟩ A1d ?_;refine Al (λ_=>⟨⟨none,0,0⟩,[],rfl,Ab.nilR _ hs⟩) (λ_=>?_);refine Ah hs λnb w hs=>?_;have hs:=Ab.blkS (b:=nb) (cs:=[]) (n:=0) (Rec.int .u32) [] hs rfl rfl;refine DK (s:=⟨some ⟨nb,0,none⟩,0,0⟩) (E:=Rec.int .u32) (new:=ds) hs (GS (s:=s) hs) (Bt (s:=s) (E:=Rec.int .u32) hs) (Cx _) rfl (by decide) (by simp;omega) λs2 w hs2 hs=>?_
 exact⟨s2,_,rfl,hs⟩
theorem A8f{s:Sl}{ds:List Int}[hr:IU W L s (Rec.int .u32) ds](hd:ds.length<1000000)(hs:Ab W w L):BB PR 49 #[.l s.a s.n s.c] w λv w'=>∃b,v=pq b 0/\Ab W w' (tpe b 0::L):=by
 refine cw ⟨mixed,Tryz.func49,rfl⟩ A0h ?_;refine Ai (Avr (s:=s) hd hs) λv w ⟨t,l,hv,hs⟩=>⟨t,hv,?_⟩;refine Ah hs λb w hs=>⟨b,rfl,Mt (s:=t) (l:=l) (k:=0) (by omega) hs⟩
theorem Th(hs:Ab W w L){k:Int}:BB PR 78 #[.i k] w λv w'=>v = .b (decide (0<=k/\k<5))/\Ab W w' L:=by
 refine cw ⟨mixed,Tryz.func78,rfl⟩ A1b ?_
 with_reducible refine A2 (λh1=>?_) (λh1=>?_)
 ·exact⟨by rw[decide_eq_decide.2 (show k<5↔(0<=k/\k<5) by omega)],hs⟩
 ·exact⟨by rw[decide_eq_false (by omega)],hs⟩
theorem A4u{k h:Int}{tb:Nat}(hs:Ab W w (tpe tb n::L)):BB PR 48 #[.i k,.i h,pq tb 0] w λv w'=>(((0<=k/\k<5)/\1<=h/\h<=256)/\∃b,v = .tuple #[pq b 0,.i 0]/\Ab W w' (Gh b n::L))\/(¬((0<=k/\k<5)/\1<=h/\h<=256)/\∃e:Int,e≠0/\v = .tuple #[.p none,.i e]/\Ab W w' L):=by
 refine cw ⟨mixed,Tryz.func48,rfl⟩ A0g ?_;refine Ai (Th hs) λv w ⟨hv,hs⟩=>⟨_,hv,?_⟩
 with_reducible refine A2 (λh1=>?_) (λh1=>?_)
 ·exact .inr ⟨λh=>h1 (by simpa using h.1),4,by decide,rfl,hs.drop⟩
 with_reducible refine A2 (λh2=>?_) (λh2=>?_)
 ·exact .inr ⟨by omega,1,by decide,rfl,hs.drop⟩
 with_reducible refine A2 (λh3=>?_) (λh3=>?_)
 ·exact .inr ⟨by omega,1,by decide,rfl,hs.drop⟩
 refine jw Aed ?_;refine S9 (Acd hs) λa0 a1 a2 a3 a4 w hu hs=>?_;refine Ah hs λb w hs=>?_;exact .inl ⟨⟨by simpa using h1,by omega,by omega⟩,b,rfl,HO hu hs⟩
theorem XK{k:Int}(hs:Ab W w (Gh b n::M)):BB PR 62 #[pq b 0,.i k] w λv w'=>∃m:Int,v = .i m/\(m=0↔(0<=k/\k<5))/\Ab W w' (Gh b n::M):=by
 refine cw ⟨mixed,Tryz.func62,rfl⟩ A0v ?_;refine Ac rfl ?_;refine Ai (Th hs) λv w ⟨hv,hs⟩=>⟨_,hv,?_⟩
 with_reducible refine A2 (λh1=>?_) (λh1=>?_)
 ·exact⟨4,rfl,by have:¬(0<=k/\k<5):=h1;omega,hs⟩
 obtain⟨cur,hold,tb,a0,a1,a2,a3,a4,kd,nn,hu,hs⟩:=Q3 hs;refine Aa (A0 hs λw hs=>?_);refine Aa (A0 hs λw hs=>?_);refine Aa (A0 hs λw hs=>?_);exact⟨0,rfl,by simpa using h1,HO hu hs⟩
theorem Am0(hb:n<1000000000000){g0 g1 g2 g3 g4 all:Int}(hs:Ab W w (Gh b n::M)):BB PR 58 #[pq b 0,.agg #[.i g0,.i g1,.i g2,.i g3,.i g4],.i all] w λv w'=>∃(k:Int) (t:Bool),v = .tuple #[.i k,.b t]/\(0<=k/\k<5)/\Ab W w' (Gh b (n+1)::M):=by
 refine cw ⟨mixed,Tryz.func58,rfl⟩ A0r ?_;refine Ah hs λb1 w hs=>?_;refine Ac rfl ?_;have hs:Ab W w (Gh b n::blk b1 [.i g0,.i g1,.i g2,.i g3,.i g4]::M):=hs.perm (List.Perm.swap _ _ _);obtain⟨cur,hold,tb,a0,a1,a2,a3,a4,kd,nn,hu,hs⟩:=Q3 hs;refine Ao [cC b cur hold tb a0 a1 a2 a3 a4 kd nn] hs λw hs=>?_;refine Aa (Am (Am (Am (Am (Am ?_)))))
 iterate 5 refine Ag hs ?_
 refine Ae hs ?_;refine S9 (A3w hu hs) λa0 a1 a2 a3 a4 w hu hs=>?_;refine Aa ?_
 iterate 5 refine A0 hs λw hs=>?_
 refine Ao [cC b cur hold tb a0 a1 a2 a3 a4 kd nn] hs λw hs=>?_;refine Aa (Am (Am (Am (Am (Am (Aa (Ag hs (Ae hs ?_))))))));have hs:Ab W w (tpe tb n::cC b cur hold tb a0 a1 a2 a3 a4 kd nn::M):=by exact Ab.fin hs
 refine Ai (A3i hb hs) λv w ⟨x,hv,hs⟩=>⟨_,hv,?_⟩;have hs:Ab W w (cC b cur hold tb a0 a1 a2 a3 a4 kd nn::tpe tb (n+1)::M):=hs.perm (List.Perm.swap _ _ _);refine Ae hs ?_;refine Ai (A3x hs) λv w ⟨t,hv,ht,hs⟩=>⟨_,hv,?_⟩;refine Aa (Ag hs ?_);have j1:∀(w:World)(nn:Int),Ab W w (cC b cur hold tb a0 a1 a2 a3 a4 t nn::tpe tb (n+1)::M)->Ael By (λv w'=>∃(k:Int) (t:Bool),v = .tuple #[.i k,.b t]/\(0<=k/\k<5)/\Ab W w' (Gh b (n+1)::M)) (some ⟨b,0,none⟩) t w:=by
  clear hs;intro w nn hs;refine jw Aem ?_;refine Ao [cC b cur hold tb a0 a1 a2 a3 a4 t nn] hs λw hs=>?_;refine Aa (Am (Aa (Ag hs (Ae hs ?_))));refine Al (λ_=>⟨t,false,rfl,ht,HO hu hs⟩) (λ_=>?_);exact Ai (XK (HO hu hs)) λv w ⟨m,hv,_,hs⟩=>⟨_,hv,t,true,rfl,ht,hs⟩
 refine Al (λ_=>?_) (λ_=>?_)
 ·refine Aa (A0 hs λw hs=>?_);refine Aa (A0 hs λw hs=>?_);exact⟨t,false,rfl,ht,HO hu hs⟩
 ·refine Aa (Ag hs ?_);refine Al (λh2=>?_) (λ_=>?_)
  ·have h2:t=kd:=by simpa using h2
   subst h2;refine Aa (Ag hs ?_);refine Aa (A0 hs λw hs=>?_);exact j1 w _ hs
  ·refine Aa (A0 hs λw hs=>?_);refine Aa (A0 hs λw hs=>?_);exact j1 w _ hs
end
end Go.Proofs.YtjipofkjmmpjdaaGreat
namespace Go.Hb
instance:Gv Rec.ptr:=⟨Nat.one_pos⟩
section
variable{α:Type}{f:α->HP}{l:List α}{i:Nat}{x:α}{W w:World}{M:List HP}
theorem Qm(hi:i<l.length)(h:Ab W w (AO (l.map f)::M)):Ab W w (f l[i]::AO ((l.eraseIdx i).map f)::M):=by
 have h1:=h.openL;have hp:(l.map f).Perm (f l[i]::(l.eraseIdx i).map f):=(((EO hi).map f).symm);have h2:=h1.perm (hp.append_right M);have h2:Ab W w (f l[i]::((l.eraseIdx i).map f++M)):=h2;have h3:=h2.perm (List.perm_middle (a:=f l[i]) (l₁:=(l.eraseIdx i).map f) (l₂:=M)).symm;have h4:=Ab.shutL h3;exact h4.perm (List.Perm.swap _ _ _)
theorem Aug(hi:i<l.length)(h:Ab W w (f x::AO ((l.eraseIdx i).map f)::M)):Ab W w (AO ((l.set i x).map f)::M):=by
 have h1:=(h.perm (List.Perm.swap _ _ _)).openL;have h2:Ab W w (f x::((l.eraseIdx i).map f++M)):=h1.perm List.perm_middle;have hs:i<(l.set i x).length:=by simpa using hi
 have hp:=(EO hs).map f;have e1:(l.set i x)[i]=x:=by simp
 have e2:(l.set i x).eraseIdx i=l.eraseIdx i:=List.eraseIdx_set_eq;rw[e1,e2] at hp;exact Ab.shutL (h2.perm (hp.append_right M))
theorem RY(hi:i<l.length)(h:Ab W w (f l[i]::AO ((l.eraseIdx i).map f)::M)):Ab W w (AO (l.map f)::M):=by
 have h1:=Aug hi h;rw[List.set_getElem_self] at h1;exact h1
theorem If(h:Ab W w (f x::AO (l.map f)::M)):Ab W w (AO ((l++[x]).map f)::M):=by
 have h1:=(h.perm (List.Perm.swap _ _ _)).openL;refine Ab.shutL ?_;rw[List.map_append,List.append_assoc];exact h1
theorem J5(h:Ab W w M):Ab W w (AO (([]:List α).map f)::M):=Ab.shutL h
end
end Go.Hb

namespace Go.Hb
open Go.ChangeShapes Go.WideShapes Go.RowKit
def Lm(W:World)(s:Sl){α:Type}(E:Rec α)(rows:List α):Prop:=s.n=rows.length/\(rows=[]\/CO W s E rows)
structure OT where
 err:Int
 hit:Bool
 val:BA
 sl:Sl
 gone:List BA
instance:Inhabited OT:=⟨⟨0,false,⟨#[]⟩,⟨none,0,0⟩,[]⟩⟩
def Ip:Rec OT:=⟨4,λa=>[.int .i64 a.err,.bool a.hit,.string a.val,.slice a.sl.a a.sl.n a.sl.c],λ_=>rfl⟩
instance:Gv Ip:=⟨by decide⟩
def stF(P:Program)(t:TypeId):List (TypeId×Nat):=match P.underlying t with
 | some (.struct fs)=>fs.toList.map λf=>(f.type,f.offset)
 | _=>[]
section
variable{H:Type}{enc:TypeId×Value->H}{P:Program}{W:World}{sp:Nat->Bool}{held:Bool}{base:Nat}
theorem Acx{a:Addr}{n:Nat}{c:List Value}(h:W.cells? base a n=some c)(hn:0<n):a.spot=none:=by
 unfold World.cells? at h;have h:(List.range n).mapM (λi=>W.cell? (Addr.add a i))=some c:=by
  by_cases hb:base<=a.block
  ·rwa [if_pos hb] at h
  ·rw[if_neg hb] at h;cases h
 obtain⟨y,hy⟩:=Aa8 h 0 (by simp[hn]);have ha:Addr.add a 0=a:=by simp[Addr.add]
 rw[ha] at hy;unfold World.cell? at hy;split at hy
 ·split at hy
  ·cases hy
  ·rename_i hs;cases hsp:a.spot <;> simp_all
 ·cases hy
theorem M0{b o j:Nat}:Addr.add ⟨b,o,none⟩ j=⟨b,o+j,none⟩:=by
 unfold Addr.add;split
 ·simp_all
 ·rfl
theorem Tg{b i n:Nat}{c:List Value}(h:W.cells? base ⟨b,i,none⟩ n=some c):c.length=n/\∀j,j<n->W.cell? ⟨b,i+j,none⟩=c[j]?:=by
 unfold World.cells? at h;have h:(List.range n).mapM (λi_1=>W.cell? (Addr.add ⟨b,i,none⟩ i_1))=some c:=by
  by_cases hb:base<=b
  ·rwa [if_pos hb] at h
  ·rw[if_neg hb] at h;cases h
 have:∀(l:List Nat)(c:List Value),l.mapM (λi_1=>W.cell? (Addr.add ⟨b,i,none⟩ i_1))=some c->c.length=l.length/\∀j (hj:j<l.length),W.cell? (Addr.add ⟨b,i,none⟩ l[j])=c[j]?:=by
  intro l
  induction l with
  | nil=>intro c h;simp only[List.mapM_nil,Option.pure_def,Option.some.injEq] at h;subst h;exact⟨rfl,λj hj=>by simp at hj⟩
  | cons x l ih=>
   intro c h;simp only[List.mapM_cons,Option.bind_eq_bind,Option.pure_def,Option.bind_eq_some_iff] at h;obtain⟨y,hy,ys,hys,hc⟩:=h;cases hc;obtain⟨h1,h2⟩:=ih ys hys;refine⟨by simp[h1],λj hj=>?_⟩;cases j with
   | zero=>simpa using hy
   | succ j=>simpa using h2 j (by simpa using hj)
 obtain⟨h1,h2⟩:=this _ _ h;refine⟨by simpa using h1,λj hj=>?_⟩;have:=h2 j (by simpa using hj);simp only[List.getElem_range] at this;rw[<- this,M0]
theorem Au2{Q:List Value->Prop}{a:Addr}{m len cap:Nat}(hpos:0<m)(hrow:∀i,i<len->∃c,W.cells? base (a.add (i*m)) m=some c/\Q c) :
  ∃rows:List (List Value),rows.length=len/\(∀x∈rows,Q x)/\(len=0\/Agq W m ⟨some a,len,cap⟩ rows.flatten):=by
 by_cases h0:len=0
 ·exact⟨[],h0.symm,λ_ h=>(by cases h),.inl h0⟩
 obtain⟨c0,hc0,_⟩:=hrow 0 (by omega);have ha:Addr.add a (0*m)=a:=by simp[Addr.add]
 rw[ha] at hc0;have hspot:=Acx hc0 hpos;obtain⟨b,o,spot⟩:=a;simp only at hspot;subst hspot;have hrow2:∀i,∃c,i<len->W.cells? base (Addr.add ⟨b,o,none⟩ (i*m)) m=some c/\Q c:=by
  intro i
  by_cases hi:i<len
  ·obtain⟨c,hc⟩:=hrow i hi;exact⟨c,λ_=>hc⟩
  ·exact⟨[],λh=>absurd h hi⟩
 let f:Nat->List Value:=λi=>Classical.choose (hrow2 i);have hf:∀i,i<len->W.cells? base (Addr.add ⟨b,o,none⟩ (i*m)) m=some (f i)/\Q (f i):=λi hi=>Classical.choose_spec (hrow2 i) hi;refine⟨(List.range len).map f,by simp,?_,.inr ⟨?_,.inr ⟨b,o,rfl,?_⟩⟩⟩
 ·intro x hx;simp only[List.mem_map,List.mem_range] at hx;obtain⟨i,hi,rfl⟩:=hx;exact(hf i hi).2
 ·simp only;have:∀(l:List (List Value)),(∀x∈l,x.length=m)->l.flatten.length=l.length*m:=by
   intro l
   induction l with
   | nil=>simp
   | cons x l ih=>intro h;simp[ih λy hy=>h y (.tail _ hy),h x (.head _),Nat.add_mul,Nat.add_comm]
  rw[this]
  ·simp
  ·intro x hx;simp only[List.mem_map,List.mem_range] at hx;obtain⟨i,hi,rfl⟩:=hx;have h1:=(hf i hi).1;rw[M0] at h1;exact(Tg h1).1
 ·have:∀(n:Nat)(g:Nat->List Value)(p:Nat),(∀i,i<n->(g i).length=m/\∀j,j<m->W.cell? ⟨b,p+i*m+j,none⟩=(g i)[j]?) ->
    ∀j,j<((List.range n).map g).flatten.length->W.cell? ⟨b,p+j,none⟩=((List.range n).map g).flatten[j]?:=by
   intro n
   induction n with
   | zero=>intro g p _ j hj;simp at hj
   | succ n ih=>
    intro g p h j hj;have hr:(List.range (n+1)).map g=g 0::(List.range n).map (g ∘ Nat.succ):=by
     rw[List.range_succ_eq_map];simp
    rw[hr] at hj ⊢;simp only[List.flatten_cons] at hj ⊢;obtain⟨h0,h0'⟩:=h 0 (by omega)
    by_cases hj0:j<m
    ·rw[List.getElem?_append_left (by omega)];simpa using h0' j hj0
    ·rw[List.getElem?_append_right (by omega)];have:=ih (g ∘ Nat.succ) (p+m) (λi hi=>by
      obtain⟨a1,a2⟩:=h (i+1) (by omega);refine⟨a1,λj hj=>?_⟩;have:=a2 j hj;show _=(g (i+1))[j]?;rw[<- this];congr 2;rw[Nat.add_mul];omega) (j-m) (by simp at hj ⊢;omega)
     rw[h0,<- this];congr 2;omega
  refine this len f o λi hi=>?_;obtain⟨h1,h2⟩:=hf i hi;rw[M0] at h1;exact Tg h1
theorem A3m{t:TypeId}{us:List Value}{x:DataW H×List MemPlace}{fuel:Nat}{fs:Array Field}(hu:P.underlying t=some (.struct fs))(hx:DataW.trod enc P W base sp held fuel t us=some x)(hlt:IT P t x.1) :
  us.length=P.cellsOf t/\∀p∈stF P t,∃fuel y,DataW.trod enc P W base sp held fuel p.1 ((us.drop p.2).take (P.cellsOf p.1))=some y/\IT P p.1 y.1:=by
 cases fuel with
 | zero=>cases hx
 | succ fuel=>
 unfold DataW.trod at hx;rw[hu] at hx;simp only at hx;split at hx
 case isFalse=>cases hx
 rename_i hlen;simp only[Option.map_eq_some_iff] at hx;obtain⟨xs,hxs,rfl⟩:=hx;have hlt':∀n∈DataW.weightsEach P (fs.toList.map (·.type)) (xs.map (·.1)),n<=reachBytes:=λn hn=>hlt n (by simp only[DataW.weights,hu];exact hn)
 refine⟨hlen,λp hp=>?_⟩;simp only[stF,hu,List.mem_map] at hp;obtain⟨f,hf,rfl⟩:=hp;obtain⟨i,hi,hfi⟩:=List.mem_iff_getElem.1 hf;obtain⟨y,hy,hfy⟩:=Mc hxs (List.getElem?_eq_getElem hi);rw[hfi] at hfy;exact⟨fuel,y,hfy,light_each hlt' (j:=i) (by rw[List.getElem?_map,List.getElem?_eq_getElem hi,hfi];rfl) (by rw[List.getElem?_map,hy];rfl)⟩
end
end Go.Hb
namespace Go.Hb
structure F1 where
 kind:Int
 key:BA
 val:BA
 n:Int
instance:Inhabited F1:=⟨⟨0,⟨#[]⟩,⟨#[]⟩,0⟩⟩
def opR:Rec F1:=⟨4,λo=>[.i o.kind,.s o.key,.s o.val,.i o.n],λ_=>rfl⟩
instance:Gv opR:=⟨by decide⟩
structure OpOk(o:F1):Prop where
 kind:okK .i64 o.kind
 key:A4e o.key
 val:A4e o.val
 n:okK .i64 o.n
theorem of_op(x:List Value)(h:E9 [.int .i64,.str,.str,.int .i64] x):∃o,x=opR.cells o/\OpOk o:=by
 obtain⟨v0,v1,v2,v3,rfl⟩:∃v0 v1 v2 v3,x=[v0,v1,v2,v3]:=by
  have hl:=MO h
  match x,hl with
  | [v0,v1,v2,v3],_=>exact⟨v0,v1,v2,v3,rfl⟩
 obtain⟨h0,h1,h2,h3,_⟩:=h;obtain⟨k0,rfl,g0⟩:=h0;obtain⟨k1,rfl,g1⟩:=h1;obtain⟨k2,rfl,g2⟩:=h2;obtain⟨k3,rfl,g3⟩:=h3;exact⟨⟨k0,k1,k2,k3⟩,rfl,g0,g1,g2,g3⟩
end Go.Hb
namespace Go.Hb
open Go.Proofs.YtjipofkjmmpjdaaGreat
noncomputable def Bl(m:Nat)(k:BA):Nat:=(FB 31 k % (m:Int)).toNat
theorem IL{m:Nat}(h:1<=m)(k:BA):Bl m k<m:=by
 unfold Bl;have h1:=Int.emod_nonneg (FB 31 k) (show(m:Int)≠0 by omega);have h2:=Int.emod_lt_of_pos (FB 31 k) (show(0:Int)<m by omega);omega
abbrev Sh:=TT×Int×Option Nat
abbrev DF(rm:Int)(n:Nat)(z:Nat×Sh):HP:=sd z.1 rm n z.2.1 z.2.2.1 z.2.2.2
abbrev cB(b:Nat)(s:Sl)(p ch:Nat)(now:Int):HP:=blk b [.l s.a s.n s.c,pq p 0,pq ch 0,.i now]
structure CI(rm now:Int)(n:Nat):Prop where
 sh1:1<=n
 sh8:n<=8
 rm1:1<=rm
 rm2:rm<=1024
 now0:0<=now
 nowM:now<=1125899906842624
def Kj(b k:Nat)(rm now:Int)(X:List Sh):HP:=Ks λ(z:Sl×Nat×Nat×List (Nat×Sh))=>F6 (CI rm now X.length/\z.2.2.2.map (·.2)=X) (AO [cB b z.1 z.2.1 z.2.2.1 now,recs Rec.ptr z.1 (z.2.2.2.map (·.1)),F4 z.2.1 k,Gh z.2.2.1 k,AO (z.2.2.2.map (DF rm (600000*k)))])
abbrev rsV(e:Int)(h:Bool)(v:BA)(s:Sl):Value:=.agg #[.i e,.b h,.s v,.l s.a s.n s.c]
abbrev rsB(b:Nat)(e:Int)(h:Bool)(v:BA)(s:Sl):HP:=blk b [.i e,.b h,.s v,.l s.a s.n s.c]
abbrev Gt(b:Nat)(o:F1):HP:=blk b [.i o.kind,.s o.key,.s o.val,.i o.n]
abbrev Lj(b:Nat):HP:=blk b [.i 0,.b false,.s ⟨#[]⟩,.l none 0 0]
def swR(k:Int)(z z':Sh):Prop:=z'.1=z.1/\z'.2.1=k/\((k=z.2.1/\z'=z)\/z'.2.2=some z.1.length)
def exR(nw:Int)(z z':Sh):Prop:=z'.1=A3 z.1 (Cq z.1 nw)/\z'.2.1=z.2.1/\K4 z'.2.2 z.2.2
def rsR(r:Int)(z:Sh)(g:BL)(z':Sh):Prop:=(g.Nodup/\∀x∈g,x∈kT z.1)/\(g=[]\/((A3 z.1 g).length:Int)=r)/\z'=(A3 z.1 g,z.2.1,none)
inductive F2 {α β:Type} (R:α->β->Prop):List α->List β->Prop
 | nil:F2 R [] []
 | cons {a b l m}:R a b->F2 R l m->F2 R (a::l) (b::m)
inductive F3 {α β γ:Type} (R:α->β->γ->Prop):List α->List β->List γ->Prop
 | nil:F3 R [] [] []
 | cons {a b c l m n}:R a b c->F3 R l m n->F3 R (a::l) (b::m) (c::n)
section
variable{α β γ:Type}{R:α->β->Prop}{S:α->β->γ->Prop}{l:List α}{m:List β}{n:List γ}{a:α}{b:β}{c:γ}{i:Nat}
theorem F2.len(h:F2 R l m):l.length=m.length:=by
 induction h with
 | nil=>rfl
 | cons _ _ ih=>simp[ih]
theorem F2.get(h:F2 R l m):∀{i:Nat}{a:α},l[i]? = some a->∃b,m[i]? = some b/\R a b:=by
 induction h with
 | nil=>intro i a h;simp at h
 | cons h _ ih=>
  intro i x hi;cases i with
  | zero=>simp at hi;subst hi;exact⟨_,rfl,h⟩
  | succ i=>simp at hi;simpa using ih hi
theorem F2.snoc(h:F2 R l m)(hr:R a b):F2 R (l++[a]) (m++[b]):=by
 induction h with
 | nil=>exact .cons hr .nil
 | cons h _ ih=>exact .cons h ih
theorem F3.snoc(h:F3 S l m n)(hr:S a b c):F3 S (l++[a]) (m++[b]) (n++[c]):=by
 induction h with
 | nil=>exact .cons hr .nil
 | cons h _ ih=>exact .cons h ih
theorem F3.len(h:F3 S l m n):l.length=m.length/\l.length=n.length:=by
 induction h with
 | nil=>exact⟨rfl,rfl⟩
 | cons _ _ ih=>simp[ih.1,<- ih.2]
theorem F3.get(h:F3 S l m n):∀{i:Nat}{a:α},l[i]? = some a->∃b c,m[i]? = some b/\n[i]? = some c/\S a b c:=by
 induction h with
 | nil=>intro i a h;simp at h
 | cons h _ ih=>
  intro i x hi;cases i with
  | zero=>simp at hi;subst hi;exact⟨_,_,rfl,rfl,h⟩
  | succ i=>simp at hi;simpa using ih hi
end
structure NoR(X:List Sh)(now:Int)(o:F1):Prop where
 n1:o.kind=1->Kk o.key now≠0
 n2:o.kind=2->E7 o.key o.val now o.n≠0
 n3:o.kind=3->Kk o.key now≠0
 n6:o.kind=6->¬(0<=o.n/\o.n<X.length)
 n8:o.kind=8->¬(0<=o.n/\o.n<5)
 n9:o.kind=9->¬(1<=o.n/\o.n<=1024)
inductive SH (rm now:Int) (X:List Sh) (o:F1):Int->Bool->BA->BL->Int->Int->List Sh->Prop
 | no {e:Int}:e≠0->NoR X now o->SH rm now X o e false ⟨#[]⟩ [] rm now X
 | get {T:TT} {kd:Int} {p q:Option Nat}:o.kind=1->Kk o.key now=0->X[Bl X.length o.key]? = some (T,kd,p)->K4 q p->SH rm now X o 0 (Dy T o.key now).2 (Dy T o.key now).1 (BS T o.key now) rm now (X.set (Bl X.length o.key) (Cb T o.key now,kd,q))
 | put {T:TT} {kd:Int} {p q:Option Nat} {g:BL}:o.kind=2->E7 o.key o.val now o.n=0->X[Bl X.length o.key]? = some (T,kd,p)->K4 q p->g.Nodup->(∀x∈g,x∈kT (Cb T o.key now))->o.key∉g->SH rm now X o 0 false ⟨#[]⟩ (BS T o.key now++g) rm now (X.set (Bl X.length o.key) (EY (A3 (Cb T o.key now) g) o.key o.val now o.n,kd,q))
 | del {T:TT} {kd:Int} {p q:Option Nat}:o.kind=3->Kk o.key now=0->X[Bl X.length o.key]? = some (T,kd,p)->K4 q p->SH rm now X o 0 (AC (Cb T o.key now) o.key).isSome ⟨#[]⟩ (BS T o.key now) rm now (X.set (Bl X.length o.key) (CY (Cb T o.key now) o.key,kd,q))
 | tick {X':List Sh}:o.kind=4->0<=o.n->now+o.n<=1125899906842624->F2 (exR (now+o.n)) X X'->SH rm now X o 0 false ⟨#[]⟩ (X.map λz=>Cq z.1 (now+o.n)).flatten rm (now+o.n) X'
 | drain {h:Bool} {i:Nat} {T:TT} {kd:Int} {p q:Option Nat}:o.kind=5->o.n=i->X[i]? = some (T,kd,p)->K4 q p->SH rm now X o 0 h ⟨#[]⟩ [] rm now (X.set i (T,kd,q))
 | step {h:Bool} {v:BA} {i:Nat} {T:TT} {kd:Int} {p q:Option Nat}:o.kind=6->o.n=i->X[i]? = some (T,kd,p)->K4 q p->(∀m,q=some m->m<=T.length)->SH rm now X o 0 h v [] rm now (X.set i (T,kd,RU q))
 | epoch {h:Bool} {v:BA} {X':List Sh} {k:Int}:o.kind=7->(0<=k/\k<5)->(X'=X\/F2 (swR k) X X')->SH rm now X o 0 h v [] rm now X'
 | force {X':List Sh}:o.kind=8->(0<=o.n/\o.n<5)->F2 (swR o.n) X X'->SH rm now X o 0 false ⟨#[]⟩ [] rm now X'
 | res {X':List Sh} {G:List BL}:o.kind=9->1<=o.n->o.n<=1024->F3 (rsR o.n) X G X'->SH rm now X o 0 false ⟨#[]⟩ G.flatten o.n now X'
abbrev Tb(b k:Nat)(rm now:Int)(X:List Sh)(o:F1)(W:World)(M:List HP):VW:=λv w'=>∃(e:Int) (h:Bool) (x:BA) (sl:Sl) (gone:BL) (rm' now':Int) (X':List Sh),v=rsV e h x sl/\SH rm now X o e h x gone rm' now' X'/\Ab W w' (Kj b (k+1) rm' now' X'::recs Rec.str sl gone::M)
theorem Q0{α:Type}{W:World}{f g:α->HP}(hfg:∀(x:α)(w:World)(M:List HP),Ab W w (f x::M)->Ab W w (g x::M)):∀{l:List α}{w:World}{M:List HP},Ab W w (AO (l.map f)::M)->Ab W w (AO (l.map g)::M)
 | [],w,M,h=>h
 | x::l,w,M,h=>by
  have h1:Ab W w (f x::(l.map f++M)):=h.openL;have h2:=hfg x w _ h1;have h3:Ab W w (l.map f++g x::M):=h2.perm List.perm_middle.symm;have h5:=Q0 hfg (l:=l) (Ab.shutL h3);have h6:Ab W w (l.map g++g x::M):=h5.openL;have h7:Ab W w (g x::(l.map g++M)):=h6.perm List.perm_middle;exact Ab.shutL h7
section
variable{W w:World}{M L:List HP}{F:HP->List HP}{b k n m:Nat}{X:List Sh}{p ch:Nat}{sl:Sl}{Ls:List (Nat×Sh)}{rm now:Int}{o:F1}
theorem Auf(hn:n<=m)(hs:Ab W w (F4 b n::M)):Ab W w (F4 b m::M):=by
 obtain⟨sb,r,l,hl,hs⟩:=Mf hs;have hs:Ab W w (Ta l n::blk b (pq sb 0::.i r::l.map λq=>pq q 0)::GY sb::M):=by exact Ab.fin hs
 have hs:Ab W w (Ta l m::blk b (pq sb 0::.i r::l.map λq=>pq q 0)::GY sb::M):=Q0 (λx w M hs=>GT hn hs) hs;exact Mg hl (by exact Ab.fin hs)
theorem Am2(hn:n<=m)(hs:Ab W w (Gh b n::M)):Ab W w (Gh b m::M):=by
 obtain⟨cur,hold,tb,a0,a1,a2,a3,a4,kd,nn,hu,hs⟩:=Q3 hs;have hs:Ab W w (tpe tb n::cC b cur hold tb a0 a1 a2 a3 a4 kd nn::M):=by exact Ab.fin hs
 obtain⟨s,l,k,hk,_,hs⟩:=Ab7 hs;have hs:Ab W w (tpe tb m::cC b cur hold tb a0 a1 a2 a3 a4 kd nn::M):=Mt (s:=s) (l:=l) (k:=k) ⟨hk.1,by omega⟩ hs;exact HO hu (by exact Ab.fin hs)
theorem Abt(hn:n<=m)(hs:Ab W w (AO (Ls.map (DF rm n))::M)):Ab W w (AO (Ls.map (DF rm m))::M):=Q0 (λx w M hs=>GB hn hs) hs
theorem Ek(h:Ab W w (Kj b k rm now X::M)):∃(sl:Sl) (p ch:Nat) (Ls:List (Nat×Sh)),CI rm now Ls.length/\Ls.map (·.2)=X/\Ls.length=X.length/\sl.n=Ls.length/\Ab W w (cB b sl p ch now::recs Rec.ptr sl (Ls.map (·.1))::F4 p k::Gh ch k::AO (Ls.map (DF rm (600000*k)))::M):=by
 obtain⟨⟨sl,p,ch,Ls⟩,h⟩:=h.openE;obtain⟨⟨hp,hX⟩,h⟩:=h.openA;have h:=h.openL;have h:Ab W w (cB b sl p ch now::recs Rec.ptr sl (Ls.map (·.1))::F4 p k::Gh ch k::AO (Ls.map (DF rm (600000*k)))::M):=h;have hl:=(BV (s:=sl) h).1;rw[List.length_map] at hl;have h2:Ls.length=X.length:=by rw[<- hX,List.length_map]
 exact⟨sl,p,ch,Ls,h2 ▸ hp,hX,h2,hl,h⟩
theorem CZ{m1 m2 m3:Nat}(hp:CI rm now Ls.length)(hX:Ls.map (·.2)=X)(h1:m1<=k:=by omega)(h2:m2<=k:=by omega)(h3:m3<=600000*k:=by omega)(hs:Ab W w (cB b sl p ch now::recs Rec.ptr sl (Ls.map (·.1))::F4 p m1::Gh ch m2::AO (Ls.map (DF rm m3))::M)):Ab W w (Kj b k rm now X::M):=by
 have hs:Ab W w (F4 p m1::cB b sl p ch now::recs Rec.ptr sl (Ls.map (·.1))::Gh ch m2::AO (Ls.map (DF rm m3))::M):=by exact Ab.fin hs
 have hs:=Auf h1 hs;have hs:Ab W w (Gh ch m2::cB b sl p ch now::recs Rec.ptr sl (Ls.map (·.1))::F4 p k::AO (Ls.map (DF rm m3))::M):=by exact Ab.fin hs
 have hs:=Am2 h2 hs;have hs:Ab W w (AO (Ls.map (DF rm m3))::cB b sl p ch now::recs Rec.ptr sl (Ls.map (·.1))::F4 p k::Gh ch k::M):=by exact Ab.fin hs
 have hs:=Abt h3 hs;have hl:X.length=Ls.length:=by rw[<- hX,List.length_map]
 exact Ab.shutE (sl,p,ch,Ls) (Ab.shutA ⟨hl.symm ▸ hp,hX⟩ (Ab.shutL (Ps:=[_,_,_,_,_]) (by exact Ab.fin hs)))
theorem Q2(h:Ab W w (Kj b k rm now X::M)):CI rm now X.length/\∀z∈X,Lo rm z.1/\(0<=z.2.1/\z.2.1<5):=by
 obtain⟨sl,p,ch,Ls,hi,rfl,hl,hn,hs⟩:=Ek h;refine⟨hl ▸ hi,λz hz=>?_⟩;obtain⟨y,hy,rfl⟩:=List.mem_map.1 hz;obtain⟨i,hil,rfl⟩:=List.mem_iff_getElem.1 hy;have hs:Ab W w (AO (Ls.map (DF rm (600000*k)))::cB b sl p ch now::recs Rec.ptr sl (Ls.map (·.1))::F4 p k::Gh ch k::M):=by exact Ab.fin hs
 have hs:=Qm hil hs;refine⟨Auw hs,?_⟩;obtain⟨l,R,evs,hi,hs⟩:=E5 hs;exact(EX hs).2.1
theorem Iv{e:Int}(he:e≠0)(hN:NoR X now o)(hs:Ab W w (Kj b (k+1) rm now X::M)):Tb b k rm now X o W M (rsV e false ⟨#[]⟩ ⟨none,0,0⟩) w:=
 ⟨e,false,⟨#[]⟩,⟨none,0,0⟩,[],rm,now,X,rfl,.no he hN,(Ab.nilR Rec.str hs).perm (List.Perm.swap _ _ _)⟩
theorem OU{h:Bool}{x:BA}{X':List Sh}(hD:SH rm now X o 0 h x [] rm now X')(hs:Ab W w (Kj b (k+1) rm now X'::M)):Tb b k rm now X o W M (rsV 0 h x ⟨none,0,0⟩) w:=
 ⟨0,h,x,⟨none,0,0⟩,[],rm,now,X',rfl,hD,(Ab.nilR Rec.str hs).perm (List.Perm.swap _ _ _)⟩
theorem IH{rb:Nat}{v0 v1 v2 v3:Value}{K:Int->Bool->BA->Sl->WP}{e:Int}{h:Bool}{x:BA}{s:Sl}(hs:Ab W w L)[hA:At L rb (blk rb [v0,v1,v2,v3]) F](hQ:∀w',Ab W w' (F (rsB rb e h x s))->K e h x s w') :
  st rb 0 (.i e) (st rb 1 (.b h) (st rb 2 (.s x) (st rb 3 (.l s.a s.n s.c) (ld (.int .i64) rb 0 λa=>ld .bool rb 1 λb=>ld .str rb 2 λc=>ld .slc rb 3 λd=>K a b c d)))) w:=by
 refine At.one (hA:=hA) hs λM hs hb=>?_;refine A0 hs λw hs=>A0 hs λw hs=>A0 hs λw hs=>A0 hs λw hs=>?_;refine Ag hs (Ag hs (Ag hs (Ag (x:=s) hs ?_)));exact hQ w (hb _ _ hs)
theorem Asw{i:Nat}(hi:i<Ls.length):(Ls.map λz:Nat×Sh=>z.1).getD i default=(Ls[i]).1:=by
 rw[List.getD_eq_getElem?_getD,List.getElem?_map,List.getElem?_eq_getElem hi];rfl
theorem UE{i:Int}{j:Nat}(e:i=(j:Int))(hi:j<Ls.length):(Rec.ptr.cells ((Ls.map λz:Nat×Sh=>z.1).getD i.toNat default))[0]? = some (CK.ptr.val (some ⟨(Ls[j]).1,0,none⟩)):=by
 subst e;rw[Int.toNat_natCast,Asw hi];rfl
theorem Rn{pre:List (Nat×Sh)}{z:Nat×Sh}{rest:List (Nat×Sh)}(e:Ls=pre++z::rest):(Rec.ptr.cells ((Ls.map λz:Nat×Sh=>z.1).getD (Int.toNat (pre.length:Int)) default))[0]? = some (CK.ptr.val (some ⟨z.1,0,none⟩)):=by
 subst e;rw[Int.toNat_natCast,List.getD_eq_getElem?_getD,List.getElem?_map,List.getElem?_append_right (Nat.le_refl _),Nat.sub_self];rfl
theorem Xj{α:Type}{f:α->HP}{x:α}{l:List α}(h:Ab W w (AO ((x::l).map f)::M)):Ab W w (f x::AO (l.map f)::M):=Qm (i:=0) (l:=x::l) (Nat.succ_pos _) h
variable{i:Nat}{y:Sh}
theorem Me(hi:i<Ls.length)(hn:n<=m)(h:Ab W w (AO (Ls.map (DF rm n))::M)):Ab W w (sd (Ls[i]).1 rm n (Ls[i]).2.1 (Ls[i]).2.2.1 (Ls[i]).2.2.2::AO ((Ls.eraseIdx i).map (DF rm m))::M):=by
 have hs:=Qm hi h;have hs:=Abt (m:=m) hn (hs.perm (List.Perm.swap _ _ _));exact hs.perm (List.Perm.swap _ _ _)
theorem RZ(hi:i<Ls.length)(hn:n<=m)(h:Ab W w (sd (Ls[i]).1 rm n y.1 y.2.1 y.2.2::AO ((Ls.eraseIdx i).map (DF rm m))::M)):Ab W w (AO ((Ls.set i ((Ls[i]).1,y)).map (DF rm m))::M):=
 Aug (f:=DF rm m) (x:=((Ls[i]).1,y)) hi (GB hn h)
theorem A29(hi:i<Ls.length):(Ls.set i ((Ls[i]).1,y)).map (λz=>z.1)=Ls.map λz=>z.1:=by
 rw[List.map_set,<- List.getElem_map (λz:Nat×Sh=>z.1) (h:=by simpa using hi),List.set_getElem_self]
theorem Lr{m1 m2:Nat}(hp:CI rm now Ls.length)(hX:Ls.map (·.2)=X)(hi:i<Ls.length)(h1:m1<=k+1:=by omega)(h2:m2<=k+1:=by omega)(hs:Ab W w (AO ((Ls.set i ((Ls[i]).1,y)).map (DF rm (600000*(k+1))))::cB b sl p ch now::recs Rec.ptr sl (Ls.map λz=>z.1)::F4 p m1::Gh ch m2::M)):Ab W w (Kj b (k+1) rm now (X.set i y)::M):=by
 refine CZ (sl:=sl) (p:=p) (ch:=ch) (m1:=m1) (m2:=m2) (m3:=600000*(k+1)) (Ls:=Ls.set i ((Ls[i]).1,y)) (by rw[List.length_set];exact hp) (by rw[List.map_set,hX]) h1 h2 (Nat.le_refl _) ?_;rw[A29 hi];exact Ab.fin hs
end
end Go.Hb
namespace Go.Proofs.YtjipofkjmmpjdaaGreat
open Go.Hb Go.IntWalk
section
variable{W w:World}{L M:List HP}{b k n:Nat}{X:List Sh}{p ch:Nat}{sl:Sl}{Ls:List (Nat×Sh)}{rm now:Int}{o:F1}{key:BA}
theorem Aur{m:Nat}(hm:1<=m)(h8:m<=8)(hz:key.size<4611686018427387904)(hs:Ab W w L):BB PR 81 #[.s key,.i (m:Int)] w λv w'=>v = .i (Bl m key:Int)/\Ab W w' L:=by
 refine cw ⟨mixed,Tryz.func81,rfl⟩ A1e ?_;refine An (Hm hs hz) λe w ⟨he,hs⟩=>⟨_,he,?_⟩;refine An (DS hs _ _ _) λe w ⟨he,hs⟩=>⟨_,he,?_⟩;have e:Is (m:Int) 1 8=(m:Int):=by unfold Is;rw[if_neg (show ¬(1:Int)>(m:Int) by omega),if_neg (by omega)]
 rw[e];have h0:0<=FB 31 key:=by exact(GJ 31 key).1
 refine An (GR hs h0 (by omega) (by omega)) λe w ⟨he,hs⟩=>⟨_,he,?_⟩;refine⟨?_,hs⟩;unfold Bl;obtain⟨a,ha⟩:=Int.eq_ofNat_of_zero_le h0;rw[ha];show Value.int .i64 (((Int.toNat (a:Int)) % m:Nat):Int)=_;rw[Int.toNat_natCast,<- Int.natCast_emod,Int.toNat_natCast]
theorem A68(hl1:1<=Ls.length)(hl8:Ls.length<=8)(hn:sl.n=Ls.length)(hz:key.size<4611686018427387904)(hs:Ab W w (cB b sl p ch now::recs Rec.ptr sl (Ls.map (·.1))::M)):BB PR 50 #[pq b 0,.s key] w λv w'=>v = .p (some ⟨(Ls[Bl Ls.length key]'(IL hl1 key)).1,0,none⟩)/\Ab W w' (cB b sl p ch now::recs Rec.ptr sl (Ls.map (·.1))::M):=by
 refine cw ⟨mixed,Tryz.func50,rfl⟩ A0i ?_;refine Ao [cB b sl p ch now] hs λw hs=>?_;refine Aa (Am (x:=sl) (Aa (Ag (x:=sl) hs (Ae hs ?_))));rw[show((sl.n:Nat):Int)=(Ls.length:Int) by omega];refine Ai (Aur hl1 hl8 hz hs) λv w ⟨hv,hs⟩=>⟨_,hv,Ae hs ?_⟩;have hlt:=IL hl1 key;have hlm:(Ls.map (·.1)).length=Ls.length:=by rw[List.length_map]
 refine AB (s:=sl) hs (λb_ o_ ha_=>?_);refine AE (s:=sl) (rows:=Ls.map λz:Nat×Sh=>z.1) ha_ hs ?_ (k:=.ptr) (x:=some ⟨(Ls[Bl Ls.length key]'hlt).1,0,none⟩) (hc:=UE rfl hlt);exact⟨rfl,hs⟩
theorem Aig{i:Int}(hn:sl.n=Ls.length)(hs:Ab W w (cB b sl p ch now::recs Rec.ptr sl (Ls.map (·.1))::M)):BB PR 19 #[pq b 0,.i i] w λv w'=>((¬(0<=i/\i<Ls.length)/\v = .p none)\/∃(j:Nat) (h:j<Ls.length),i=j/\v = .p (some ⟨(Ls[j]).1,0,none⟩))/\Ab W w' (cB b sl p ch now::recs Rec.ptr sl (Ls.map (·.1))::M):=by
 refine cw ⟨mixed,Tryz.func19,rfl⟩ Axr ?_;refine Ac rfl ?_
 with_reducible refine A2 (λh1=>?_) (λh1=>?_)
 ·exact⟨.inl ⟨by omega,rfl⟩,hs⟩
 refine Aa (Ag (x:=sl) hs ?_)
 with_reducible refine A2 (λh2=>?_) (λh2=>?_)
 ·exact⟨.inl ⟨by omega,rfl⟩,hs⟩
 obtain⟨j,hj⟩:∃j:Nat,i=(j:Int):=⟨i.toNat,by omega⟩;have hlt:j<Ls.length:=by omega
 refine jw Adl ?_;have hlm:(Ls.map (·.1)).length=Ls.length:=by rw[List.length_map]
 refine Aa (Ag (x:=sl) hs ?_);refine AB (s:=sl) hs (λb_ o_ ha_=>?_);refine AE (s:=sl) (rows:=Ls.map λz:Nat×Sh=>z.1) ha_ hs ?_ (k:=.ptr) (x:=some ⟨(Ls[j]'hlt).1,0,none⟩) (hc:=UE hj hlt);exact⟨.inr ⟨j,hlt,hj,rfl⟩,hs⟩
theorem CA{α:Type}{l:List α}{i:Nat}(h:i<l.length):l.take (i+1)=l.take i++[l[i]]:=by rw[List.take_add_one,List.getElem?_eq_getElem h];rfl
theorem R1{kd:Int}(hk:0<=kd/\kd<5)(hb:n<800000000000)(hl:Ls.length<1000)(hn:sl.n=Ls.length)(hs:Ab W w (AO (Ls.map (DF rm n))::cB b sl p ch now::recs Rec.ptr sl (Ls.map λz=>z.1)::M)) :
  BB PR 60 #[pq b 0,.i kd] w λv w'=>v = .tuple #[]/\∃Ls':List (Nat×Sh),(Ls'.map λz=>z.1)=(Ls.map λz=>z.1)/\F2 (swR kd) (Ls.map (·.2)) (Ls'.map (·.2))/\Ab W w' (AO (Ls'.map (DF rm (n+520)))::cB b sl p ch now::recs Rec.ptr sl (Ls.map λz=>z.1)::M):=by
 refine cw ⟨mixed,Tryz.func60,rfl⟩ A0t ?_;refine Aa (Ag (x:=sl) hs ?_);have hlm:(Ls.map (·.1)).length=Ls.length:=by rw[List.length_map]
 have loop:∀(pend pre pre':List (Nat×Sh))(w:World),Ls=pre++pend->(pre'.map λz=>z.1)=(pre.map λz=>z.1)->F2 (swR kd) (pre.map (·.2)) (pre'.map (·.2))->Ab W w (AO (pend.map (DF rm n))::AO (pre'.map (DF rm (n+520)))::cB b sl p ch now::recs Rec.ptr sl (Ls.map λz=>z.1)::M) ->
   WB By (λv w'=>v = .tuple #[]/\∃Ls':List (Nat×Sh),(Ls'.map λz=>z.1)=(Ls.map λz=>z.1)/\F2 (swR kd) (Ls.map (·.2)) (Ls'.map (·.2))/\Ab W w' (AO (Ls'.map (DF rm (n+520)))::cB b sl p ch now::recs Rec.ptr sl (Ls.map λz=>z.1)::M)) (pend.length+1) kd sl (sl.n:Int) (pre.length:Int) w:=by
  clear hs;intro pend
  induction pend with
  | nil=>
   intro pre pre' w e h1 h2 hs;rw[List.append_nil] at e;subst e;rw[List.length_nil,QT];refine Ac (decide_eq_false (by omega)) ?_;exact⟨rfl,pre',h1,h2,by exact Ab.fin hs⟩
  | cons z rest ih=>
   intro pre pre' w e h1 h2 hs;rw[List.length_cons,QT];have hle:Ls.length=pre.length+(rest.length+1):=by rw[e];simp
   refine Ak (decide_eq_true (by omega)) ?_;refine AB (s:=sl) hs λb_ o_ ha_=>?_;refine AE (s:=sl) (rows:=Ls.map λz:Nat×Sh=>z.1) ha_ hs ?_ (k:=.ptr) (x:=some ⟨z.1,0,none⟩) (hc:=Rn e);have hs:=Xj hs;have e1:pre++[z]++rest=Ls:=by rw[e];simp
   refine Ai (Al5 hk (by omega) hs) λv w ⟨m,hv,hs⟩=>⟨_,hv,?_⟩;rw[show IntKind.wrap .i64 ((pre.length:Int)+1)=((pre++[z]).length:Int) by rw[i64_in _ (by omega)];simp]
   rcases hs with⟨hke,hs⟩|hs
   ·have hs:=GB (n':=n+520) (by omega) hs;have hs:Ab W w (DF rm (n+520) z::AO (pre'.map (DF rm (n+520)))::AO (rest.map (DF rm n))::cB b sl p ch now::recs Rec.ptr sl (Ls.map λz=>z.1)::M):=by exact Ab.fin hs
    have hs:=If hs;refine ih (pre++[z]) (pre'++[z]) w e1.symm (by simp[h1]) ?_ (by exact Ab.fin hs);rw[List.map_append,List.map_append];exact h2.snoc ⟨rfl,hke.symm,.inl ⟨hke,rfl⟩⟩
   ·have hs:Ab W w (DF rm (n+520) (z.1,z.2.1,kd,some z.2.1.length)::AO (pre'.map (DF rm (n+520)))::AO (rest.map (DF rm n))::cB b sl p ch now::recs Rec.ptr sl (Ls.map λz=>z.1)::M):=by exact Ab.fin hs
    have hs:=If hs;refine ih (pre++[z]) (pre'++[(z.1,z.2.1,kd,some z.2.1.length)]) w e1.symm (by simp[h1]) ?_ (by exact Ab.fin hs);rw[List.map_append,List.map_append];exact h2.snoc ⟨rfl,rfl,.inr rfl⟩
 have hs:=(J5 (f:=DF rm (n+520)) hs).perm (List.Perm.swap _ _ _);exact AR _ (loop Ls [] [] w rfl rfl .nil hs)
end
end Go.Proofs.YtjipofkjmmpjdaaGreat
namespace Go.Proofs.YtjipofkjmmpjdaaGreat
open Go.Hb Go.IntWalk
section
variable{W w:World}{L M:List HP}{b k n:Nat}{X:List Sh}{p ch:Nat}{sl:Sl}{Ls:List (Nat×Sh)}{rm now:Int}{o:F1}{key:BA}
theorem RJ{i:Nat}(hi:i<Ls.length):(Ls.map (·.2))[i]? = some ((Ls[i]).2.1,(Ls[i]).2.2.1,(Ls[i]).2.2.2):=by rw[List.getElem?_map,List.getElem?_eq_getElem hi];rfl
theorem A15(hk:o.kind=5)(hb:k<1000000)(hs:Ab W w (Kj b k rm now X::M)):BB PR 32 #[pq b 0,.agg #[.i o.kind,.s o.key,.s o.val,.i o.n]] w (Tb b k rm now X o W M):=by
 refine cw ⟨mixed,Tryz.func32,rfl⟩ Ay2 ?_;refine Ah hs λb1 w hs=>Ah hs λb2 w hs=>?_;obtain⟨sl,p,ch,Ls,hi,hX,hl,hn,hs⟩:=Ek (b:=b) (k:=k) (rm:=rm) (now:=now) (X:=X) (M:=Lj b2::Gt b1 o::M) (by exact Ab.fin hs);refine Ag hs ?_;have hs:Ab W w (cB b sl p ch now::recs Rec.ptr sl (Ls.map (·.1))::AO (Ls.map (DF rm (600000*k)))::F4 p k::Gh ch k::Lj b2::Gt b1 o::M):=by exact Ab.fin hs
 refine Ai (Aig hn hs) λv w ⟨hv,hs⟩=>?_;rcases hv with⟨hno,hv⟩|⟨j,hj,hjn,hv⟩
 ·refine⟨_,hv,Ak rfl ?_⟩;refine IH (s:=⟨none,0,0⟩) hs λw hs=>?_;refine Iv (by decide) ⟨by omega,by omega,by omega,by omega,by omega,by omega⟩ ?_;exact CZ (sl:=sl) (p:=p) (ch:=ch) (m1:=k) (m2:=k) (m3:=600000*k) hi hX (by omega) (by omega) (by omega) (by exact Ab.fin hs)
 ·refine⟨_,hv,Ac rfl ?_⟩;have hs:Ab W w (AO (Ls.map (DF rm (600000*k)))::cB b sl p ch now::recs Rec.ptr sl (Ls.map λz=>z.1)::F4 p k::Gh ch k::Lj b2::Gt b1 o::M):=by exact Ab.fin hs
  have hs:=Me (m:=600000*(k+1)) hj (by omega) hs;refine Ai (Aux (by omega) hs) λv w ⟨m,hv,o',ho,hs⟩=>⟨_,hv,?_⟩;have hs:=RZ (y:=((Ls[j]).2.1,(Ls[j]).2.2.1,o')) hj (by omega) hs;refine IH (s:=⟨none,0,0⟩) hs λw hs=>?_;refine OU (.drain hk hjn (by rw[<- hX];exact RJ hj) ho) ?_
  exact Lr (m1:=k) (m2:=k) hi hX hj (by omega) (by omega) (by exact Ab.fin hs)
theorem A69(hk:o.kind=6)(hb:k<1000000)(hs:Ab W w (Kj b k rm now X::M)):BB PR 33 #[pq b 0,.agg #[.i o.kind,.s o.key,.s o.val,.i o.n]] w (Tb b k rm now X o W M):=by
 refine cw ⟨mixed,Tryz.func33,rfl⟩ Ay8 ?_;refine Ah hs λb1 w hs=>Ah hs λb2 w hs=>?_;obtain⟨sl,p,ch,Ls,hi,hX,hl,hn,hs⟩:=Ek (b:=b) (k:=k) (rm:=rm) (now:=now) (X:=X) (M:=Lj b2::Gt b1 o::M) (by exact Ab.fin hs);refine Ag hs ?_;have hs:Ab W w (cB b sl p ch now::recs Rec.ptr sl (Ls.map (·.1))::AO (Ls.map (DF rm (600000*k)))::F4 p k::Gh ch k::Lj b2::Gt b1 o::M):=by exact Ab.fin hs
 refine Ai (Aig hn hs) λv w ⟨hv,hs⟩=>?_;rcases hv with⟨hno,hv⟩|⟨j,hj,hjn,hv⟩
 ·refine⟨_,hv,Ak rfl ?_⟩;refine IH (s:=⟨none,0,0⟩) hs λw hs=>?_;refine Iv (by decide) ⟨by omega,by omega,by omega,λ_=>by omega,by omega,by omega⟩ ?_;exact CZ (sl:=sl) (p:=p) (ch:=ch) (m1:=k) (m2:=k) (m3:=600000*k) hi hX (by omega) (by omega) (by omega) (by exact Ab.fin hs)
 ·refine⟨_,hv,Ac rfl ?_⟩;have hs:Ab W w (AO (Ls.map (DF rm (600000*k)))::cB b sl p ch now::recs Rec.ptr sl (Ls.map λz=>z.1)::F4 p k::Gh ch k::Lj b2::Gt b1 o::M):=by exact Ab.fin hs
  have hs:=Me (m:=600000*(k+1)) hj (by omega) hs;refine AP (A3a (by omega) hs) λv w ⟨x,t,o',hv,ho,hle,hs⟩=>⟨_,_,hv,?_⟩;have hs:=RZ (y:=((Ls[j]).2.1,(Ls[j]).2.2.1,RU o')) hj (by omega) hs;refine A0 hs λw hs=>A0 hs λw hs=>?_;refine Ag hs (Ag hs (Ag hs (Ag (k:=.slc) (x:=(⟨none,0,0⟩:Sl)) hs ?_)));refine IH (s:=⟨none,0,0⟩) hs λw hs=>?_;refine OU (.step hk hjn (by rw[<- hX];exact RJ hj) ho hle) ?_
  exact Lr (m1:=k) (m2:=k) hi hX hj (by omega) (by omega) (by exact Ab.fin hs)
theorem Avy{kd:Int}(hs:Ab W w L):BB PR 61 #[.i kd] w λv w'=>∃x:BA,v = .s x/\Ab W w' L:=by
 refine cw ⟨mixed,Tryz.func61,rfl⟩ A0u ?_;refine Al (λ_=>⟨_,rfl,hs⟩) λ_=>?_;refine Al (λ_=>⟨_,rfl,hs⟩) λ_=>?_;refine Al (λ_=>⟨_,rfl,hs⟩) λ_=>?_;refine Al (λ_=>⟨_,rfl,hs⟩) λ_=>?_;refine Al (λ_=>⟨_,rfl,hs⟩) λ_=>⟨_,rfl,hs⟩
theorem A16(hk:o.kind=7)(hb:k<1000000)(hs:Ab W w (Kj b k rm now X::M)):BB PR 34 #[pq b 0,.agg #[.i o.kind,.s o.key,.s o.val,.i o.n]] w (Tb b k rm now X o W M):=by
 refine cw ⟨mixed,Tryz.func34,rfl⟩ Azf ?_;refine Ah hs λb1 w hs=>Ah hs λb2 w hs=>?_;obtain⟨sl,p,ch,Ls,hi,hX,hl,hn,hs⟩:=Ek (b:=b) (k:=k) (rm:=rm) (now:=now) (X:=X) (M:=Lj b2::Gt b1 o::M) (by exact Ab.fin hs);have h8:=hi.sh8;refine Ao [cB b sl p ch now] hs λw hs=>?_;refine Aa (Am (Aa (Ag hs (Ae hs ?_))));have hs:Ab W w (F4 p k::cB b sl p ch now::recs Rec.ptr sl (Ls.map (·.1))::AO (Ls.map (DF rm (600000*k)))::Gh ch k::Lj b2::Gt b1 o::M):=by exact Ab.fin hs
 refine Calls.mono (Aue hs) λe_ w ⟨v,he,x0,x1,x2,x3,x4,a,hv,hs⟩=>⟨x0,x1,x2,x3,x4,a,by rw[he,hv],Ae hs ?_⟩;have hs:Ab W w (Gh ch k::cB b sl p ch now::recs Rec.ptr sl (Ls.map λz=>z.1)::F4 p k::AO (Ls.map (DF rm (600000*k)))::Lj b2::Gt b1 o::M):=by exact Ab.fin hs
 refine AP (Am0 (by omega) hs) λv w ⟨kd,t,hv,hkd,hs⟩=>⟨_,_,hv,?_⟩;have j1:∀(w:World)(X':List Sh),(X'=X\/F2 (swR kd) X X')->Ab W w (Lj b2::Kj b (k+1) rm now X'::Gt b1 o::M)->Ads By (Tb b k rm now X o W M) b2 0 kd t w:=by
  clear hs;intro w X' hX' hs;refine jw Adt ?_;refine Ai (Avy hs) λv w ⟨x,hv,hs⟩=>⟨_,hv,?_⟩;refine IH (s:=⟨none,0,0⟩) hs λw hs=>?_;exact OU (.epoch hk hkd hX') (by exact Ab.fin hs)
 refine Al (λ_=>?_) (λ_=>?_)
 ·have hs:Ab W w (AO (Ls.map (DF rm (600000*k)))::cB b sl p ch now::recs Rec.ptr sl (Ls.map λz=>z.1)::F4 p k::Gh ch (k+1)::Lj b2::Gt b1 o::M):=by exact Ab.fin hs
  refine B0 (R1 hkd (by omega) (by omega) hn hs) λv w ⟨hv,Ls',h1,h2,hs⟩=>⟨hv,?_⟩;have hl':Ls'.length=Ls.length:=by have:=congrArg List.length h1;simpa using this
  rw[hX] at h2;refine j1 w (Ls'.map (·.2)) (.inr h2) ?_;have hs:=CZ (k:=k+1) (sl:=sl) (p:=p) (ch:=ch) (m1:=k) (m2:=k+1) (m3:=600000*k+520) (Ls:=Ls') (b:=b) (now:=now) (rm:=rm) (X:=Ls'.map (·.2)) (M:=Lj b2::Gt b1 o::M) (hl' ▸ hi) rfl (by omega) (by omega) (by omega) (by rw[h1];exact Ab.fin hs)
  exact Ab.fin hs
 ·refine j1 w X (.inl rfl) ?_;have hs:=CZ (k:=k+1) (sl:=sl) (p:=p) (ch:=ch) (m1:=k) (m2:=k+1) (m3:=600000*k) (Ls:=Ls) (b:=b) (now:=now) (rm:=rm) (X:=X) (M:=Lj b2::Gt b1 o::M) hi hX (by omega) (by omega) (by omega) (by exact Ab.fin hs);exact Ab.fin hs
theorem A17(hk:o.kind=8)(hb:k<1000000)(hs:Ab W w (Kj b k rm now X::M)):BB PR 35 #[pq b 0,.agg #[.i o.kind,.s o.key,.s o.val,.i o.n]] w (Tb b k rm now X o W M):=by
 refine cw ⟨mixed,Tryz.func35,rfl⟩ Azt ?_;refine Ah hs λb1 w hs=>Ah hs λb2 w hs=>?_;obtain⟨sl,p,ch,Ls,hi,hX,hl,hn,hs⟩:=Ek (b:=b) (k:=k) (rm:=rm) (now:=now) (X:=X) (M:=Lj b2::Gt b1 o::M) (by exact Ab.fin hs);have h8:=hi.sh8;refine Ao [cB b sl p ch now] hs λw hs=>?_;refine Aa (Am (Ag hs (Ae hs ?_)));have hs:Ab W w (Gh ch k::cB b sl p ch now::recs Rec.ptr sl (Ls.map λz=>z.1)::F4 p k::AO (Ls.map (DF rm (600000*k)))::Lj b2::Gt b1 o::M):=by exact Ab.fin hs
 refine Ai (XK hs) λv w ⟨m,hv,hm,hs⟩=>⟨_,hv,?_⟩
 with_reducible refine A2 (λh0=>?_) (λh0=>?_)
 ·refine Ag hs ?_;have hkd:=hm.1 h0;have hs:Ab W w (AO (Ls.map (DF rm (600000*k)))::cB b sl p ch now::recs Rec.ptr sl (Ls.map λz=>z.1)::F4 p k::Gh ch k::Lj b2::Gt b1 o::M):=by exact Ab.fin hs
  refine B0 (R1 hkd (by omega) (by omega) hn hs) λv w ⟨hv,Ls',h1,h2,hs⟩=>⟨hv,?_⟩;have hl':Ls'.length=Ls.length:=by have:=congrArg List.length h1;simpa using this
  rw[hX] at h2;refine IH (s:=⟨none,0,0⟩) hs λw hs=>?_;rw[h0];refine OU (.force hk hkd h2) ?_;exact CZ (k:=k+1) (sl:=sl) (p:=p) (ch:=ch) (m1:=k) (m2:=k) (m3:=600000*k+520) (Ls:=Ls') (hl' ▸ hi) rfl (by omega) (by omega) (by omega) (by rw[h1];exact Ab.fin hs)
 ·refine IH (s:=⟨none,0,0⟩) hs λw hs=>?_;refine Iv h0 ⟨by omega,by omega,by omega,by omega,λ_ h=>h0 (hm.2 h),by omega⟩ ?_;exact CZ (sl:=sl) (p:=p) (ch:=ch) (m1:=k) (m2:=k) (m3:=600000*k) hi hX (by omega) (by omega) (by omega) (by exact Ab.fin hs)
end
end Go.Proofs.YtjipofkjmmpjdaaGreat
namespace Go.Proofs.YtjipofkjmmpjdaaGreat
open Go.Hb Go.IntWalk
section
variable{W w:World}{L M:List HP}{b k n:Nat}{X:List Sh}{p ch:Nat}{sl:Sl}{Ls:List (Nat×Sh)}{rm now:Int}{o:F1}{key:BA}
theorem Anb{T:TT}:(Cq T now).length<=T.length:=by
 unfold Cq;rw[List.length_map];exact List.length_filter_le _ _
theorem Hr{α:Type}{c:Nat}:∀{L:List (List α)},(∀l∈L,l.length<=c)->L.flatten.length<=L.length*c
 | [],_=>by simp
 | l::L,h=>by
  have h1:=h l (by simp);have h2:=Hr (L:=L) (c:=c) λx hx=>h x (by simp[hx]);simp only[List.flatten_cons,List.length_append,List.length_cons];rw[Nat.succ_mul];omega
theorem A7a(hk:o.kind=4)(hb:k<1000000)(hs:Ab W w (Kj b k rm now X::M)):BB PR 31 #[pq b 0,.agg #[.i o.kind,.s o.key,.s o.val,.i o.n]] w (Tb b k rm now X o W M):=by
 refine cw ⟨mixed,Tryz.func31,rfl⟩ Ayu ?_;have hok:=Q2 hs;refine Ah hs λb1 w hs=>Ah hs λb2 w hs=>?_;obtain⟨sl,p,ch,Ls,hi,hX,hl,hn,hs⟩:=Ek (b:=b) (k:=k) (rm:=rm) (now:=now) (X:=X) (M:=Lj b2::Gt b1 o::M) (by exact Ab.fin hs);have h8:=hi.sh8;have hn0:=hi.now0;have hnM:=hi.nowM
 have hS:∀z∈Ls,z.2.1.length<=1024:=λz hz=>by
  have h:=(hok.2 z.2 (by rw[<- hX];exact List.mem_map_of_mem hz)).1;have h1:=h.len;have h2:=h.c2
  omega
 have j1:∀(w:World)(t:Bool),(t=false->0<=o.n/\now+o.n<=1125899906842624)->Ab W w (cB b sl p ch now::recs Rec.ptr sl (Ls.map λz=>z.1)::F4 p k::Gh ch k::AO (Ls.map (DF rm (600000*k)))::Lj b2::Gt b1 o::M) ->
   Ado By (Tb b k rm now X o W M) (some ⟨b,0,none⟩) b1 0 b2 0 t w:=by
  clear hs;intro w t ht hs;refine jw Adp ?_;cases t with
  | true=>
   refine Ak rfl ?_;refine IH (s:=⟨none,0,0⟩) hs λw hs=>?_;refine Iv (by decide) ⟨by omega,by omega,by omega,by omega,by omega,by omega⟩ ?_;exact CZ (sl:=sl) (p:=p) (ch:=ch) (m1:=k) (m2:=k) (m3:=600000*k) hi hX (by omega) (by omega) (by omega) (by exact Ab.fin hs)
  | false=>
   refine Ac rfl ?_;obtain⟨h0,h1⟩:=ht rfl;refine jw Adq ?_;refine Ao [cB b sl p ch now] hs λw hs=>?_;refine Aa (Am (Ag hs (Ae hs ?_)));refine Aa (A0 hs λw hs=>?_);rw[i64_in _ (by omega)] at hs;refine Aa (Ag (x:=sl) hs ?_);have hD:∀{X':List Sh},F2 (exR (now+o.n)) X X'->SH rm now X o 0 false ⟨#[]⟩ (X.map λz=>Cq z.1 (now+o.n)).flatten rm (now+o.n) X':=λh=>.tick hk h0 h1 h;have hn1:0<=now+o.n:=by omega
   generalize now+o.n=nw at hD hs h1 hn1;have hs:=Ab.nilR Rec.str hs;have hi':CI rm nw Ls.length:=⟨hi.sh1,hi.sh8,hi.rm1,hi.rm2,hn1,h1⟩;have loop:∀(pend pre pre':List (Nat×Sh))(w:World)(gs:Sl),Ls=pre++pend->(pre'.map λz=>z.1)=(pre.map λz=>z.1)->F2 (exR nw) (pre.map (·.2)) (pre'.map (·.2)) ->
     Ab W w (recs Rec.str gs (pre.map λz=>Cq z.2.1 nw).flatten::rsB b2 0 false ⟨#[]⟩ gs::Gt b1 o::cB b sl p ch nw::recs Rec.ptr sl (Ls.map λz=>z.1)::F4 p k::Gh ch k::AO (pre'.map (DF rm (600000*(k+1))))::AO (pend.map (DF rm (600000*k)))::M) ->
     Ws By (Tb b k rm now X o W M) (pend.length+1) (some ⟨b,0,none⟩) b2 0 sl (sl.n:Int) (pre.length:Int) w:=by
    clear hs;intro pend
    induction pend with
    | nil=>
     intro pre pre' w gs e g1 g2 hs;rw[List.append_nil] at e;rw[<- e] at g1 g2 hs;rw[<- e,List.length_nil,QL];refine Ac (decide_eq_false (by omega)) ?_;refine jw Adr ?_;refine Ag hs (Ag hs (Ag hs (Ag (x:=gs) hs ?_)));refine IH (s:=gs) hs λw hs=>?_;have hl':pre'.length=Ls.length:=by have:=congrArg List.length g1;simpa using this
     rw[hX] at g2;have e3:(X.map λz=>Cq z.1 nw)=Ls.map λz=>Cq z.2.1 nw:=by rw[<- hX,List.map_map];rfl
     refine⟨0,false,⟨#[]⟩,gs,(X.map λz=>Cq z.1 nw).flatten,rm,nw,pre'.map (·.2),rfl,hD g2,?_⟩;refine CZ (k:=k+1) (sl:=sl) (p:=p) (ch:=ch) (m1:=k) (m2:=k) (m3:=600000*(k+1)) (Ls:=pre') (hl' ▸ hi') rfl (by omega) (by omega) (by omega) ?_;rw[g1,e3];exact Ab.fin hs
    | cons z rest ih=>
     intro pre pre' w gs e g1 g2 hs;rw[List.length_cons,QL];have hle:Ls.length=pre.length+(rest.length+1):=by rw[e];simp
     have hlm:(Ls.map (·.1)).length=Ls.length:=by rw[List.length_map]
     refine Ak (decide_eq_true (by omega)) ?_;refine AB (s:=sl) hs λb_ o_ ha_=>?_;refine AE (s:=sl) (rows:=Ls.map λz:Nat×Sh=>z.1) ha_ hs ?_ (k:=.ptr) (x:=some ⟨z.1,0,none⟩) (hc:=Rn e);refine Ao [rsB b2 0 false ⟨#[]⟩ gs,cB b sl p ch nw] hs λw hs=>?_;refine Am (x:=gs) (Aa (Ag hs (Ae hs ?_)));have hs:Ab W w (AO ((z::rest).map (DF rm (600000*k)))::recs Rec.str gs (pre.map λz=>Cq z.2.1 nw).flatten::rsB b2 0 false ⟨#[]⟩ gs::Gt b1 o::cB b sl p ch nw::recs Rec.ptr sl (Ls.map λz=>z.1)::F4 p k::Gh ch k::AO (pre'.map (DF rm (600000*(k+1))))::M):=by exact Ab.fin hs
     have hs:=Xj hs;refine Ai (Al3 hn1 h1 (by omega) hs) λv w ⟨sg,hv,o',ho,hs⟩=>⟨_,hv,Ae hs ?_⟩;have hz:=hS z (by rw[e];simp)
     have hd:=Anb (T:=z.2.1) (now:=nw);have hfl:(pre.map λz=>Cq z.2.1 nw).flatten.length<=(pre.map λz=>Cq z.2.1 nw).length*1024:=Hr λl hl=>by
      obtain⟨y,hy,rfl⟩:=List.mem_map.1 hl;have:=hS y (by rw[e];simp[hy])
      have:=Anb (T:=y.2.1) (now:=nw);omega
     rw[List.length_map] at hfl;refine DK (s:=gs) (new:=Cq z.2.1 nw) hs (GS (s:=sg) (E:=Rec.str) (rows:=Cq z.2.1 nw) hs) (Bt (s:=sg) (E:=Rec.str) (rows:=Cq z.2.1 nw) hs) (Cx _) rfl (by decide) (by omega) λgs2 w hg2 hs=>?_;refine A0 hs λw hs=>?_;have hs:Ab W w (sd z.1 rm (600000*k+600000) (A3 z.2.1 (Cq z.2.1 nw)) z.2.2.1 o'::AO (pre'.map (DF rm (600000*(k+1))))::recs Rec.str gs2 ((pre.map λz=>Cq z.2.1 nw).flatten++Cq z.2.1 nw)::rsB b2 0 false ⟨#[]⟩ gs2::Gt b1 o::cB b sl p ch nw::recs Rec.ptr sl (Ls.map λz=>z.1)::F4 p k::Gh ch k::AO (rest.map (DF rm (600000*k)))::M):=by exact Ab.fin hs
     have hs:=GB (n':=600000*(k+1)) (by omega) hs;have hs:Ab W w (DF rm (600000*(k+1)) (z.1,A3 z.2.1 (Cq z.2.1 nw),z.2.2.1,o')::AO (pre'.map (DF rm (600000*(k+1))))::recs Rec.str gs2 ((pre.map λz=>Cq z.2.1 nw).flatten++Cq z.2.1 nw)::rsB b2 0 false ⟨#[]⟩ gs2::Gt b1 o::cB b sl p ch nw::recs Rec.ptr sl (Ls.map λz=>z.1)::F4 p k::Gh ch k::AO (rest.map (DF rm (600000*k)))::M):=hs;have hs:=If hs;have e1:(pre.map λz=>Cq z.2.1 nw).flatten++Cq z.2.1 nw=((pre++[z]).map λz=>Cq z.2.1 nw).flatten:=by simp
     rw[e1] at hs;rw[show IntKind.wrap .i64 ((pre.length:Int)+1)=((pre++[z]).length:Int) by rw[i64_in _ (by omega)];simp]
     refine ih (pre++[z]) (pre'++[(z.1,A3 z.2.1 (Cq z.2.1 nw),z.2.2.1,o')]) w gs2 (by rw[e];simp) (by simp[g1]) ?_ (by exact Ab.fin hs);rw[List.map_append,List.map_append];exact g2.snoc ⟨rfl,rfl,ho⟩
   refine AR _ (loop Ls [] [] w ⟨none,0,0⟩ rfl rfl .nil ?_);have hs:=J5 (f:=DF rm (600000*(k+1))) hs;exact(by exact Ab.fin hs:Ab W w (recs Rec.str ⟨none,0,0⟩ []::rsB b2 0 false ⟨#[]⟩ ⟨none,0,0⟩::Gt b1 o::cB b sl p ch nw::recs Rec.ptr sl (Ls.map λz=>z.1)::F4 p k::Gh ch k::AO (([]:List (Nat×Sh)).map (DF rm (600000*(k+1))))::AO (Ls.map (DF rm (600000*k)))::M))
 refine Ao [cB b sl p ch now,Gt b1 o] hs λw hs=>?_;refine Ag hs (Ae hs ?_);refine Al (λh1=>?_) (λh1=>?_)
 ·exact Ae hs (j1 w true (λh=>by cases h) hs)
 ·refine Am (Aa (Ag hs (Ae hs ?_)));refine j1 w _ (λh=>?_) hs;have h1:=of_decide_eq_false h1;have h2:=of_decide_eq_false h;rw[i64_in _ (by omega)] at h2;omega
theorem Atf(hk:o.kind=9)(hb:k<1000000)(hs:Ab W w (Kj b k rm now X::M)):BB PR 36 #[pq b 0,.agg #[.i o.kind,.s o.key,.s o.val,.i o.n]] w (Tb b k rm now X o W M):=by
 refine cw ⟨mixed,Tryz.func36,rfl⟩ Azw ?_;have hok:=Q2 hs;refine Ah hs λb1 w hs=>Ah hs λb2 w hs=>?_;obtain⟨sl,p,ch,Ls,hi,hX,hl,hn,hs⟩:=Ek (b:=b) (k:=k) (rm:=rm) (now:=now) (X:=X) (M:=Lj b2::Gt b1 o::M) (by exact Ab.fin hs);have h8:=hi.sh8;have hn0:=hi.now0;have hnM:=hi.nowM
 have hS:∀z∈Ls,z.2.1.length<=1024:=λz hz=>by
  have h:=(hok.2 z.2 (by rw[<- hX];exact List.mem_map_of_mem hz)).1;have h1:=h.len;have h2:=h.c2
  omega
 have j1:∀(w:World)(t:Bool),(t=true->¬(1<=o.n/\o.n<=1024))->(t=false->1<=o.n/\o.n<=1024)->Ab W w (cB b sl p ch now::recs Rec.ptr sl (Ls.map λz=>z.1)::F4 p k::Gh ch k::AO (Ls.map (DF rm (600000*k)))::Lj b2::Gt b1 o::M) ->
   Adu By (Tb b k rm now X o W M) (some ⟨b,0,none⟩) b1 0 b2 0 t w:=by
  clear hs;intro w t htt ht hs;refine jw Adv ?_;cases t with
  | true=>
   refine Ak rfl ?_;refine IH (s:=⟨none,0,0⟩) hs λw hs=>?_;refine Iv (by decide) ⟨by omega,by omega,by omega,by omega,by omega,λ_=>htt rfl⟩ ?_;exact CZ (sl:=sl) (p:=p) (ch:=ch) (m1:=k) (m2:=k) (m3:=600000*k) hi hX (by omega) (by omega) (by omega) (by exact Ab.fin hs)
  | false=>
   refine Ac rfl ?_;obtain⟨h0,h1⟩:=ht rfl;refine jw Adw ?_;refine Aa (Ag (x:=sl) hs ?_);have hs:=Ab.nilR Rec.str hs;have hi':CI o.n now Ls.length:=⟨hi.sh1,hi.sh8,h0,h1,hi.now0,hi.nowM⟩;have loop:∀(pend pre pre':List (Nat×Sh))(G:List BL)(w:World)(gs:Sl),Ls=pre++pend->(pre'.map λz=>z.1)=(pre.map λz=>z.1)->F3 (rsR o.n) (pre.map (·.2)) G (pre'.map (·.2))->G.flatten.length<=pre.length*1024 ->
     Ab W w (recs Rec.str gs G.flatten::rsB b2 0 false ⟨#[]⟩ gs::Gt b1 o::cB b sl p ch now::recs Rec.ptr sl (Ls.map λz=>z.1)::F4 p k::Gh ch k::AO (pre'.map (DF o.n (600000*(k+1))))::AO (pend.map (DF rm (600000*k)))::M) ->
     Wz By (Tb b k rm now X o W M) (pend.length+1) (some ⟨b,0,none⟩) b1 0 b2 0 sl (sl.n:Int) (pre.length:Int) w:=by
    clear hs;intro pend
    induction pend with
    | nil=>
     intro pre pre' G w gs e g1 g2 hfl hs;rw[List.append_nil] at e;rw[<- e] at g1 g2;rw[<- e,List.length_nil,QM];refine Ac (decide_eq_false (by omega)) ?_;refine jw Adx ?_;refine Ao [cB b sl p ch now,Gt b1 o] hs λw hs=>?_;refine Aa (Am (Am (Aa (Ag (x:=sl) hs (Ae hs ?_)))));have hs:Ab W w (F4 p k::recs Rec.str gs G.flatten::rsB b2 0 false ⟨#[]⟩ gs::Gt b1 o::cB b sl p ch now::recs Rec.ptr sl (Ls.map λz=>z.1)::Gh ch k::AO (pre'.map (DF o.n (600000*(k+1))))::M):=by exact Ab.fin hs
     refine B0 (Ali hs) λv w ⟨hv,hs⟩=>⟨hv,?_⟩;refine Ag hs (Ag hs (Ag hs (Ag (x:=gs) hs ?_)));refine IH (s:=gs) hs λw hs=>?_;have hl':pre'.length=Ls.length:=by have:=congrArg List.length g1;simpa using this
     rw[hX] at g2;refine⟨0,false,⟨#[]⟩,gs,G.flatten,o.n,now,pre'.map (·.2),rfl,.res hk h0 h1 g2,?_⟩;refine CZ (k:=k+1) (sl:=sl) (p:=p) (ch:=ch) (m1:=0) (m2:=k) (m3:=600000*(k+1)) (Ls:=pre') (hl' ▸ hi') rfl (by omega) (by omega) (by omega) ?_;rw[g1];exact Ab.fin hs
    | cons z rest ih=>
     intro pre pre' G w gs e g1 g2 hfl hs;rw[List.length_cons,QM];have hle:Ls.length=pre.length+(rest.length+1):=by rw[e];simp
     have hlm:(Ls.map (·.1)).length=Ls.length:=by rw[List.length_map]
     refine Ak (decide_eq_true (by omega)) ?_;refine AB (s:=sl) hs λb_ o_ ha_=>?_;refine AE (s:=sl) (rows:=Ls.map λz:Nat×Sh=>z.1) ha_ hs ?_ (k:=.ptr) (x:=some ⟨z.1,0,none⟩) (hc:=Rn e);refine Ag hs ?_;have hs:Ab W w (AO ((z::rest).map (DF rm (600000*k)))::recs Rec.str gs G.flatten::rsB b2 0 false ⟨#[]⟩ gs::Gt b1 o::cB b sl p ch now::recs Rec.ptr sl (Ls.map λz=>z.1)::F4 p k::Gh ch k::AO (pre'.map (DF o.n (600000*(k+1))))::M):=by exact Ab.fin hs
     have hs:=Xj hs;refine AP (Al4 h0 h1 (by omega) hs) λv w ⟨sg,g,hv,hnd,hsub,hfull,hs⟩=>⟨_,_,hv,?_⟩;have hz:=hS z (by rw[e];simp)
     have hgl:g.length<=1024:=by
      have:=Di hnd hsub;unfold kT at this;rw[List.length_map] at this;omega
     refine Ag (x:=gs) hs ?_;refine DK (s:=gs) (new:=g) hs (GS (s:=sg) (E:=Rec.str) (rows:=g) hs) (Bt (s:=sg) (E:=Rec.str) (rows:=g) hs) (Cx _) rfl (by decide) (by omega) λgs2 w hg2 hs=>?_;refine A0 hs λw hs=>?_;have hs:=GB (n':=600000*(k+1)) (by omega) hs;have hs:Ab W w (DF o.n (600000*(k+1)) (z.1,A3 z.2.1 g,z.2.2.1,none)::AO (pre'.map (DF o.n (600000*(k+1))))::recs Rec.str gs2 (G.flatten++g)::rsB b2 0 false ⟨#[]⟩ gs2::Gt b1 o::cB b sl p ch now::recs Rec.ptr sl (Ls.map λz=>z.1)::F4 p k::Gh ch k::AO (rest.map (DF rm (600000*k)))::M):=by exact Ab.fin hs
     have hs:=If hs;have e1:G.flatten++g=(G++[g]).flatten:=by simp
     rw[e1] at hs;rw[show IntKind.wrap .i64 ((pre.length:Int)+1)=((pre++[z]).length:Int) by rw[i64_in _ (by omega)];simp]
     refine ih (pre++[z]) (pre'++[(z.1,A3 z.2.1 g,z.2.2.1,none)]) (G++[g]) w gs2 (by rw[e];simp) (by simp[g1]) ?_ (by rw[<- e1,List.length_append,List.length_append,List.length_singleton];omega) (by exact Ab.fin hs);rw[List.map_append,List.map_append];exact g2.snoc ⟨⟨hnd,hsub⟩,hfull,rfl⟩
   refine AR _ (loop Ls [] [] [] w ⟨none,0,0⟩ rfl rfl .nil (by simp) ?_);have hs:=J5 (f:=DF o.n (600000*(k+1))) hs;exact(by exact Ab.fin hs:Ab W w (recs Rec.str ⟨none,0,0⟩ []::rsB b2 0 false ⟨#[]⟩ ⟨none,0,0⟩::Gt b1 o::cB b sl p ch now::recs Rec.ptr sl (Ls.map λz=>z.1)::F4 p k::Gh ch k::AO (([]:List (Nat×Sh)).map (DF o.n (600000*(k+1))))::AO (Ls.map (DF rm (600000*k)))::M))
 refine Ag hs ?_;refine Al (λh1=>?_) (λh1=>?_)
 ·have h1:=of_decide_eq_true h1;exact j1 w true (λ_=>by omega) (λh=>by cases h) hs
 ·refine Ag hs ?_;have h1:=of_decide_eq_false h1;refine j1 w _ (λh=>?_) (λh=>?_) hs
  ·have h2:=of_decide_eq_true h;omega
  ·have h2:=of_decide_eq_false h;omega
end
end Go.Proofs.YtjipofkjmmpjdaaGreat
namespace Go.Proofs.YtjipofkjmmpjdaaGreat
open Go.Hb Go.IntWalk
section
variable{W w:World}{L M:List HP}{b k n:Nat}{X:List Sh}{p ch:Nat}{sl:Sl}{Ls:List (Nat×Sh)}{rm now:Int}{o:F1}{key:BA}
theorem LZ{W w:World}{L:List HP}{F:HP->List HP}{b o i:Nat}{cs:List Value}{f:FuncId}{N K:WP}{l:List (FuncId×WP)}(h:Ab W w L)[hA:At L b (Hb.blk b cs) F](hl:l[i]? = some (f,K))(hc:cs[o]? = some (.func (.func f) #[] #[]))(hK:K w):ldV b o N l w:=
 At.one (hA:=hA) h λ_ h _=>by unfold ldV;rw[(h.cell (q:=0) rfl).trans hc];exact⟨rfl,rfl,_,List.mem_of_getElem? hl,rfl,hK⟩
theorem A7e{W w:World}{L:List HP}{F:HP->List HP}{b o:Nat}{cs:List Value}{N:WP}{l:List (FuncId×WP)}(h:Ab W w L)[hA:At L b (Hb.blk b cs) F](hc:cs[o]? = some .nilFunc)(hN:N w):ldV b o N l w:=
 At.one (hA:=hA) h λ_ h _=>by unfold ldV;rw[(h.cell (q:=0) rfl).trans hc];exact hN
theorem ID{W w:World}{L:List HP}{F:HP->List HP}{b o i:Nat}{cs:List Value}{f:FuncId}{N K:WP}{l:List (FuncId×WP)}[hA:At L b (Hb.blk b cs) F](hl:l[i]? = some (f,K))(hc:cs[o]? = some (.func (.func f) #[] #[]))(hK:K w):A7f (λw'=>Ab W w' L) b o N l w:=
 .inr ⟨(f,K),List.mem_of_getElem? hl,λw' h=>At.one (hA:=hA) h λ_ h _=>(h.cell (q:=0) rfl).trans hc,hK⟩
abbrev fnB(b:Nat):HP:=blk b [.nilFunc,.func (.func 28) #[] #[],.func (.func 29) #[] #[],.func (.func 30) #[] #[],.func (.func 31) #[] #[],.func (.func 32) #[] #[],.func (.func 33) #[] #[],.func (.func 34) #[] #[],.func (.func 35) #[] #[],.func (.func 36) #[] #[]]
theorem A88(hk:o.kind=1)(hz:o.key.size<4611686018427387904)(hb:k<1000000)(hs:Ab W w (Kj b k rm now X::M)):BB PR 28 #[pq b 0,.agg #[.i o.kind,.s o.key,.s o.val,.i o.n]] w (Tb b k rm now X o W M):=by
 refine cw ⟨mixed,Tryz.func28,rfl⟩ Ayf ?_;refine Ah hs λb1 w hs=>Ah hs λb2 w hs=>?_;obtain⟨sl,p,ch,Ls,hi,hX,hl,hn,hs⟩:=Ek (b:=b) (k:=k) (rm:=rm) (now:=now) (X:=X) (M:=Lj b2::Gt b1 o::M) (by exact Ab.fin hs);refine Ao [cB b sl p ch now,Gt b1 o] hs λw hs=>?_;refine Am (Am (Aa (Am ?_)));refine Ai (A68 hi.sh1 hi.sh8 hn hz hs) λv w ⟨hv,hs⟩=>⟨_,hv,Ae hs ?_⟩;have hj:=IL hi.sh1 o.key;have hat:X[Bl X.length o.key]? = some ((Ls[Bl Ls.length o.key]).2.1,(Ls[Bl Ls.length o.key]).2.2.1,(Ls[Bl Ls.length o.key]).2.2.2):=by rw[<- hl];have:=RJ hj;rw[hX] at this;exact this
 have hs:Ab W w (AO (Ls.map (DF rm (600000*k)))::cB b sl p ch now::recs Rec.ptr sl (Ls.map λz=>z.1)::F4 p k::Gh ch k::Lj b2::Gt b1 o::M):=by exact Ab.fin hs
 have hs:=Me (m:=600000*(k+1)) hj (by omega) hs;refine Calls.mono (A74 (key:=o.key) (now:=now) (by omega) hs) λe_ w ⟨v,he,h⟩=>?_;rcases h with⟨hne,hv,hs⟩|⟨h0,sg,hv,o',ho,hs⟩
 ·refine⟨_,_,⟨none,0,0⟩,_,by rw[he,hv],?_⟩;refine A0 hs λw hs=>A0 hs λw hs=>A0 hs λw hs=>A0 hs λw hs=>Ag hs ?_;refine Ac (by simpa using hne) ?_;refine Ag hs (Ag hs (Ag hs (Ag (k:=.slc) (x:=(⟨none,0,0⟩:Sl)) hs ?_)));refine IH (s:=⟨none,0,0⟩) hs λw hs=>?_;have hs:=RY (f:=DF rm (600000*(k+1))) hj (GB (n':=600000*(k+1)) (by omega) (show Ab W w (sd (Ls[Bl Ls.length o.key]).1 rm (600000*k) (Ls[Bl Ls.length o.key]).2.1 (Ls[Bl Ls.length o.key]).2.2.1 (Ls[Bl Ls.length o.key]).2.2.2::AO ((Ls.eraseIdx (Bl Ls.length o.key)).map (DF rm (600000*(k+1))))::cB b sl p ch now::recs Rec.ptr sl (Ls.map λz=>z.1)::F4 p k::Gh ch k::M) by exact Ab.fin hs))
  refine Iv hne ⟨λ_=>hne,by omega,by omega,by omega,by omega,by omega⟩ ?_;exact CZ (sl:=sl) (p:=p) (ch:=ch) (m1:=k) (m2:=k) (m3:=600000*(k+1)) hi hX (by omega) (by omega) (by omega) (by exact Ab.fin hs)
 ·refine⟨_,_,sg,_,by rw[he,hv],?_⟩;refine A0 hs λw hs=>A0 hs λw hs=>A0 hs λw hs=>A0 hs λw hs=>Ag hs ?_;refine Ak rfl ?_;have hs:Ab W w (sd (Ls[Bl Ls.length o.key]).1 rm (600000*k+520) (Cb (Ls[Bl Ls.length o.key]).2.1 o.key now) (Ls[Bl Ls.length o.key]).2.2.1 o'::AO ((Ls.eraseIdx (Bl Ls.length o.key)).map (DF rm (600000*(k+1))))::cB b sl p ch now::recs Rec.ptr sl (Ls.map λz=>z.1)::F4 p k::Gh ch k::recs Rec.str sg (BS (Ls[Bl Ls.length o.key]).2.1 o.key now)::rsB b2 0 (Dy (Ls[Bl Ls.length o.key]).2.1 o.key now).2 (Dy (Ls[Bl Ls.length o.key]).2.1 o.key now).1 sg::Gt b1 o::M):=by exact Ab.fin hs
  have hs:=RZ (y:=(Cb (Ls[Bl Ls.length o.key]).2.1 o.key now,(Ls[Bl Ls.length o.key]).2.2.1,o')) hj (by omega) hs;refine Ao [cB b sl p ch now] hs λw hs=>?_;refine Aa (Am (Ag hs (Ae hs ?_)));have hk2:=Ep (Xb h0).1;have hs:Ab W w (F4 p k::AO ((Ls.set (Bl Ls.length o.key) ((Ls[Bl Ls.length o.key]).1,(Cb (Ls[Bl Ls.length o.key]).2.1 o.key now,(Ls[Bl Ls.length o.key]).2.2.1,o'))).map (DF rm (600000*(k+1))))::cB b sl p ch now::recs Rec.ptr sl (Ls.map λz=>z.1)::Gh ch k::recs Rec.str sg (BS (Ls[Bl Ls.length o.key]).2.1 o.key now)::rsB b2 0 (Dy (Ls[Bl Ls.length o.key]).2.1 o.key now).2 (Dy (Ls[Bl Ls.length o.key]).2.1 o.key now).1 sg::Gt b1 o::M):=by exact Ab.fin hs
  refine Ai (Vf (by omega) (by omega) hs) λv w ⟨x,hv,hs⟩=>⟨_,hv,?_⟩;refine Ag hs (Ag hs (Ag hs (Ag (k:=.slc) (x:=sg) hs ?_)));refine IH (s:=sg) hs λw hs=>?_;refine⟨0,_,_,sg,_,rm,now,_,rfl,.get hk h0 hat ho,?_⟩;rw[<- hl];exact Lr (m1:=k+1) (m2:=k) (sl:=sl) (p:=p) (ch:=ch) hi hX hj (by omega) (by omega) (by exact Ab.fin hs)
theorem A89(hk:o.kind=2)(hz:o.key.size<4611686018427387904)(hb:k<1000000)(hs:Ab W w (Kj b k rm now X::M)):BB PR 29 #[pq b 0,.agg #[.i o.kind,.s o.key,.s o.val,.i o.n]] w (Tb b k rm now X o W M):=by
 refine cw ⟨mixed,Tryz.func29,rfl⟩ Ayj ?_;refine Ah hs λb1 w hs=>Ah hs λb2 w hs=>?_;obtain⟨sl,p,ch,Ls,hi,hX,hl,hn,hs⟩:=Ek (b:=b) (k:=k) (rm:=rm) (now:=now) (X:=X) (M:=Lj b2::Gt b1 o::M) (by exact Ab.fin hs);refine Ao [cB b sl p ch now,Gt b1 o] hs λw hs=>?_;refine Am (Am (Am (Aa (Am (Am ?_)))));refine Ai (A68 hi.sh1 hi.sh8 hn hz hs) λv w ⟨hv,hs⟩=>⟨_,hv,Ae hs ?_⟩;have hj:=IL hi.sh1 o.key;have hat:X[Bl X.length o.key]? = some ((Ls[Bl Ls.length o.key]).2.1,(Ls[Bl Ls.length o.key]).2.2.1,(Ls[Bl Ls.length o.key]).2.2.2):=by rw[<- hl];have:=RJ hj;rw[hX] at this;exact this
 have hs:Ab W w (AO (Ls.map (DF rm (600000*k)))::cB b sl p ch now::recs Rec.ptr sl (Ls.map λz=>z.1)::F4 p k::Gh ch k::Lj b2::Gt b1 o::M):=by exact Ab.fin hs
 have hs:=Me (m:=600000*(k+1)) hj (by omega) hs;refine AP (A76 (key:=o.key) (val:=o.val) (now:=now) (life:=o.n) (by omega) hs) λv w h=>?_;rcases h with⟨hne,hv,hs⟩|⟨h0,sg,g,hv,hnd,hsub,hng,o',ho,hs⟩
 ·refine⟨⟨none,0,0⟩,_,hv,?_⟩;refine A0 hs λw hs=>A0 hs λw hs=>Ag hs ?_;refine Ac (by simpa using hne) ?_;refine Ag hs (Ag hs (Ag hs (Ag (k:=.slc) (x:=(⟨none,0,0⟩:Sl)) hs ?_)));refine IH (s:=⟨none,0,0⟩) hs λw hs=>?_;have hs:=RY (f:=DF rm (600000*(k+1))) hj (GB (n':=600000*(k+1)) (by omega) (show Ab W w (sd (Ls[Bl Ls.length o.key]).1 rm (600000*k) (Ls[Bl Ls.length o.key]).2.1 (Ls[Bl Ls.length o.key]).2.2.1 (Ls[Bl Ls.length o.key]).2.2.2::AO ((Ls.eraseIdx (Bl Ls.length o.key)).map (DF rm (600000*(k+1))))::cB b sl p ch now::recs Rec.ptr sl (Ls.map λz=>z.1)::F4 p k::Gh ch k::M) by exact Ab.fin hs))
  refine Iv hne ⟨by omega,λ_=>hne,by omega,by omega,by omega,by omega⟩ ?_;exact CZ (sl:=sl) (p:=p) (ch:=ch) (m1:=k) (m2:=k) (m3:=600000*(k+1)) hi hX (by omega) (by omega) (by omega) (by exact Ab.fin hs)
 ·refine⟨sg,_,hv,?_⟩;refine A0 hs λw hs=>A0 hs λw hs=>Ag hs ?_;refine Ak rfl ?_;have hs:Ab W w (sd (Ls[Bl Ls.length o.key]).1 rm (600000*k+1561) (EY (A3 (Cb (Ls[Bl Ls.length o.key]).2.1 o.key now) g) o.key o.val now o.n) (Ls[Bl Ls.length o.key]).2.2.1 o'::AO ((Ls.eraseIdx (Bl Ls.length o.key)).map (DF rm (600000*(k+1))))::cB b sl p ch now::recs Rec.ptr sl (Ls.map λz=>z.1)::F4 p k::Gh ch k::recs Rec.str sg (BS (Ls[Bl Ls.length o.key]).2.1 o.key now++g)::rsB b2 0 false ⟨#[]⟩ sg::Gt b1 o::M):=by exact Ab.fin hs
  have hs:=RZ (y:=(EY (A3 (Cb (Ls[Bl Ls.length o.key]).2.1 o.key now) g) o.key o.val now o.n,(Ls[Bl Ls.length o.key]).2.2.1,o')) hj (by omega) hs;refine Ao [cB b sl p ch now] hs λw hs=>?_;refine Aa (Am (Ag hs (Ae hs ?_)));have hk2:=Ep (Ms h0).1;have hs:Ab W w (F4 p k::AO ((Ls.set (Bl Ls.length o.key) ((Ls[Bl Ls.length o.key]).1,(EY (A3 (Cb (Ls[Bl Ls.length o.key]).2.1 o.key now) g) o.key o.val now o.n,(Ls[Bl Ls.length o.key]).2.2.1,o'))).map (DF rm (600000*(k+1))))::cB b sl p ch now::recs Rec.ptr sl (Ls.map λz=>z.1)::Gh ch k::recs Rec.str sg (BS (Ls[Bl Ls.length o.key]).2.1 o.key now++g)::rsB b2 0 false ⟨#[]⟩ sg::Gt b1 o::M):=by exact Ab.fin hs
  refine Ai (Vf (by omega) (by omega) hs) λv w ⟨x,hv,hs⟩=>⟨_,hv,?_⟩;refine Ag hs (Ag hs (Ag hs (Ag (k:=.slc) (x:=sg) hs ?_)));refine IH (s:=sg) hs λw hs=>?_;refine⟨0,_,_,sg,_,rm,now,_,rfl,.put hk h0 hat ho hnd hsub hng,?_⟩;rw[<- hl];exact Lr (m1:=k+1) (m2:=k) (sl:=sl) (p:=p) (ch:=ch) hi hX hj (by omega) (by omega) (by exact Ab.fin hs)
theorem Ate(hk:o.kind=3)(hz:o.key.size<4611686018427387904)(hb:k<1000000)(hs:Ab W w (Kj b k rm now X::M)):BB PR 30 #[pq b 0,.agg #[.i o.kind,.s o.key,.s o.val,.i o.n]] w (Tb b k rm now X o W M):=by
 refine cw ⟨mixed,Tryz.func30,rfl⟩ Ayo ?_;refine Ah hs λb1 w hs=>Ah hs λb2 w hs=>?_;obtain⟨sl,p,ch,Ls,hi,hX,hl,hn,hs⟩:=Ek (b:=b) (k:=k) (rm:=rm) (now:=now) (X:=X) (M:=Lj b2::Gt b1 o::M) (by exact Ab.fin hs);refine Ao [cB b sl p ch now,Gt b1 o] hs λw hs=>?_;refine Am (Am (Aa (Am ?_)));refine Ai (A68 hi.sh1 hi.sh8 hn hz hs) λv w ⟨hv,hs⟩=>⟨_,hv,Ae hs ?_⟩;have hj:=IL hi.sh1 o.key;have hat:X[Bl X.length o.key]? = some ((Ls[Bl Ls.length o.key]).2.1,(Ls[Bl Ls.length o.key]).2.2.1,(Ls[Bl Ls.length o.key]).2.2.2):=by rw[<- hl];have:=RJ hj;rw[hX] at this;exact this
 have hs:Ab W w (AO (Ls.map (DF rm (600000*k)))::cB b sl p ch now::recs Rec.ptr sl (Ls.map λz=>z.1)::F4 p k::Gh ch k::Lj b2::Gt b1 o::M):=by exact Ab.fin hs
 have hs:=Me (m:=600000*(k+1)) hj (by omega) hs;refine Calls.mono (Al2 (key:=o.key) (now:=now) (by omega) hs) λe_ w ⟨v,he,h⟩=>?_;rcases h with⟨hne,hv,hs⟩|⟨h0,sg,hv,o',ho,hs⟩
 ·refine⟨_,⟨none,0,0⟩,_,by rw[he,hv];rfl,?_⟩;refine A0 hs λw hs=>A0 hs λw hs=>A0 hs λw hs=>?_;refine Ag hs (Ag hs (Ag hs (Ag (k:=.slc) (x:=(⟨none,0,0⟩:Sl)) hs ?_)));refine IH (s:=⟨none,0,0⟩) hs λw hs=>?_;have hs:=RY (f:=DF rm (600000*(k+1))) hj (GB (n':=600000*(k+1)) (by omega) (show Ab W w (sd (Ls[Bl Ls.length o.key]).1 rm (600000*k) (Ls[Bl Ls.length o.key]).2.1 (Ls[Bl Ls.length o.key]).2.2.1 (Ls[Bl Ls.length o.key]).2.2.2::AO ((Ls.eraseIdx (Bl Ls.length o.key)).map (DF rm (600000*(k+1))))::cB b sl p ch now::recs Rec.ptr sl (Ls.map λz=>z.1)::F4 p k::Gh ch k::M) by exact Ab.fin hs))
  refine Iv hne ⟨by omega,by omega,λ_=>hne,by omega,by omega,by omega⟩ ?_;exact CZ (sl:=sl) (p:=p) (ch:=ch) (m1:=k) (m2:=k) (m3:=600000*(k+1)) hi hX (by omega) (by omega) (by omega) (by exact Ab.fin hs)
 ·refine⟨_,sg,_,by rw[he,hv];rfl,?_⟩;refine A0 hs λw hs=>A0 hs λw hs=>A0 hs λw hs=>?_;refine Ag hs (Ag hs (Ag hs (Ag (k:=.slc) (x:=sg) hs ?_)));refine IH (s:=sg) hs λw hs=>?_;have hs:Ab W w (sd (Ls[Bl Ls.length o.key]).1 rm (600000*k+1040) (CY (Cb (Ls[Bl Ls.length o.key]).2.1 o.key now) o.key) (Ls[Bl Ls.length o.key]).2.2.1 o'::AO ((Ls.eraseIdx (Bl Ls.length o.key)).map (DF rm (600000*(k+1))))::cB b sl p ch now::recs Rec.ptr sl (Ls.map λz=>z.1)::F4 p k::Gh ch k::recs Rec.str sg (BS (Ls[Bl Ls.length o.key]).2.1 o.key now)::M):=by exact Ab.fin hs
  have hs:=RZ (y:=(CY (Cb (Ls[Bl Ls.length o.key]).2.1 o.key now) o.key,(Ls[Bl Ls.length o.key]).2.2.1,o')) hj (by omega) hs;refine⟨0,_,_,sg,_,rm,now,_,rfl,.del hk h0 hat ho,?_⟩;rw[<- hl];exact Lr (m1:=k) (m2:=k) (sl:=sl) (p:=p) (ch:=ch) hi hX hj (by omega) (by omega) (by exact Ab.fin hs)
theorem Mj{P:Program}{f:FuncId}{args:Array Value}{rb:Nat}{v0 v1 v2 v3:Value}(hC:BB P f args w (Tb b k rm now X o W (blk rb [v0,v1,v2,v3]::L))){K:Int->Bool->BA->Sl->WP}
  (hK:∀(e:Int)(h:Bool)(x:BA)(sl:Sl)(gone:BL)(rm' now':Int)(X':List Sh)(w':World),SH rm now X o e h x gone rm' now' X'->Ab W w' (Kj b (k+1) rm' now' X'::recs Rec.str sl gone::L)->K e h x sl w') :
  Calls P f args w λe w'=>∃(x:Int) (y:Bool) (z:BA) (t:Sl),e = .returned (.agg #[.i x,.b y,.s z,.l t.a t.n t.c])/\(st rb 0 (.i x) (st rb 1 (.b y) (st rb 2 (.s z) (st rb 3 (.l t.a t.n t.c) (ld (.int .i64) rb 0 λa=>ld .bool rb 1 λb=>ld .str rb 2 λc=>ld .slc rb 3 λd=>K a b c d)))) w'):=by
 refine Calls.mono hC λe_ w ⟨v,he,e,h,x,sl,gone,rm',now',X',hv,hD,hs⟩=>⟨e,h,x,sl,by rw[he,hv],?_⟩;exact IH hs λw hs=>hK e h x sl gone rm' now' X' w hD (by exact Ab.fin hs)
theorem A4z{b1 b2 b3:Nat}(hk:o.kind<=0\/10<=o.kind)(hs:Ab W w (fnB b3::Lj b2::Gt b1 o::Kj b k rm now X::M)):EP By (Tb b k rm now X o W M) (some ⟨b,0,none⟩) b1 0 b2 0 b3 0 true w:=by
 refine jw QF ?_;refine Ak rfl ?_;refine IH (s:=⟨none,0,0⟩) hs λw hs=>?_;refine Iv (by decide) ⟨by omega,by omega,by omega,by omega,by omega,by omega⟩ ?_;obtain⟨sl,p,ch,Ls,hi,hX,hl,hn,hs⟩:=Ek (b:=b) (k:=k) (rm:=rm) (now:=now) (X:=X) (M:=M) (by exact Ab.fin hs);exact CZ (sl:=sl) (p:=p) (ch:=ch) (m1:=k) (m2:=k) (m3:=600000*k) hi hX (by omega) (by omega) (by omega) hs
theorem VA{b1 b2 b3:Nat}(hk:1<=o.kind/\o.kind<=9)(hz:o.key.size<4611686018427387904)(hb:k<1000000)(hs:Ab W w (fnB b3::Lj b2::Gt b1 o::Kj b k rm now X::M)):EP By (Tb b k rm now X o W M) (some ⟨b,0,none⟩) b1 0 b2 0 b3 0 false w:=by
 refine jw QF ?_;refine Ac rfl ?_;refine jw Adc ?_;refine Ao [Gt b1 o,fnB b3] hs λw hs=>?_;refine Am (x:=o.kind) ?_;refine Az (by omega) ?_;have hs:Ab W w (Kj b k rm now X::Lj b2::fnB b3::Gt b1 o::M):=by exact Ab.fin hs
 have hc:o.kind=1\/o.kind=2\/o.kind=3\/o.kind=4\/o.kind=5\/o.kind=6\/o.kind=7\/o.kind=8\/o.kind=9:=by omega
 rcases hc with h|h|h|h|h|h|h|h|h
 ·refine ID (i:=1) rfl (by rw[h];rfl) ?_;refine Ag hs (Ag hs (Ag hs (Ag hs (Ae hs ?_))));exact Mj (A88 h hz hb hs) λe h x sl gone rm' now' X' w hD hs=>⟨e,h,x,sl,gone,rm',now',X',rfl,hD,by exact Ab.fin hs⟩
 ·refine ID (i:=2) rfl (by rw[h];rfl) ?_;refine Ag hs (Ag hs (Ag hs (Ag hs (Ae hs ?_))));exact Mj (A89 h hz hb hs) λe h x sl gone rm' now' X' w hD hs=>⟨e,h,x,sl,gone,rm',now',X',rfl,hD,by exact Ab.fin hs⟩
 ·refine ID (i:=3) rfl (by rw[h];rfl) ?_;refine Ag hs (Ag hs (Ag hs (Ag hs (Ae hs ?_))));exact Mj (Ate h hz hb hs) λe h x sl gone rm' now' X' w hD hs=>⟨e,h,x,sl,gone,rm',now',X',rfl,hD,by exact Ab.fin hs⟩
 ·refine ID (i:=4) rfl (by rw[h];rfl) ?_;refine Ag hs (Ag hs (Ag hs (Ag hs (Ae hs ?_))));exact Mj (A7a h hb hs) λe h x sl gone rm' now' X' w hD hs=>⟨e,h,x,sl,gone,rm',now',X',rfl,hD,by exact Ab.fin hs⟩
 ·refine ID (i:=5) rfl (by rw[h];rfl) ?_;refine Ag hs (Ag hs (Ag hs (Ag hs (Ae hs ?_))));exact Mj (A15 h hb hs) λe h x sl gone rm' now' X' w hD hs=>⟨e,h,x,sl,gone,rm',now',X',rfl,hD,by exact Ab.fin hs⟩
 ·refine ID (i:=6) rfl (by rw[h];rfl) ?_;refine Ag hs (Ag hs (Ag hs (Ag hs (Ae hs ?_))));exact Mj (A69 h hb hs) λe h x sl gone rm' now' X' w hD hs=>⟨e,h,x,sl,gone,rm',now',X',rfl,hD,by exact Ab.fin hs⟩
 ·refine ID (i:=7) rfl (by rw[h];rfl) ?_;refine Ag hs (Ag hs (Ag hs (Ag hs (Ae hs ?_))));exact Mj (A16 h hb hs) λe h x sl gone rm' now' X' w hD hs=>⟨e,h,x,sl,gone,rm',now',X',rfl,hD,by exact Ab.fin hs⟩
 ·refine ID (i:=8) rfl (by rw[h];rfl) ?_;refine Ag hs (Ag hs (Ag hs (Ag hs (Ae hs ?_))));exact Mj (A17 h hb hs) λe h x sl gone rm' now' X' w hD hs=>⟨e,h,x,sl,gone,rm',now',X',rfl,hD,by exact Ab.fin hs⟩
 ·refine ID (i:=9) rfl (by rw[h];rfl) ?_;refine Ag hs (Ag hs (Ag hs (Ag hs (Ae hs ?_))));exact Mj (Atf h hb hs) λe h x sl gone rm' now' X' w hD hs=>⟨e,h,x,sl,gone,rm',now',X',rfl,hD,by exact Ab.fin hs⟩
theorem A67(hz:o.key.size<4611686018427387904)(hb:k<1000000)(hs:Ab W w (Kj b k rm now X::M)):BB PR 15 #[pq b 0,.agg #[.i o.kind,.s o.key,.s o.val,.i o.n]] w (Tb b k rm now X o W M):=by
 refine cw ⟨mixed,Tryz.func15,rfl⟩ Aw7 ?_;refine Ah hs λb1 w hs=>Ah hs λb2 w hs=>?_;refine Ac rfl ?_;refine Ah hs λb3 w hs=>?_
 iterate 10 refine A0 hs λw hs=>?_
 have hs:Ab W w (fnB b3::Lj b2::Gt b1 o::Kj b k rm now X::M):=hs;refine Ag hs ?_
 with_reducible refine A2 (λh1=>?_) (λh1=>?_)
 ·exact A4z (.inl (by omega)) hs
 refine Ag hs ?_
 with_reducible refine A2 (λh2=>?_) (λh2=>?_)
 ·exact A4z (.inr (by omega)) hs
 refine Ag (x:=o.kind) hs ?_;refine Az (by omega) ?_;have hc:o.kind=0\/o.kind=1\/o.kind=2\/o.kind=3\/o.kind=4\/o.kind=5\/o.kind=6\/o.kind=7\/o.kind=8\/o.kind=9:=by omega
 rcases hc with h|h|h|h|h|h|h|h|h|h
 ·exact A7e hs (by rw[h];rfl) (A4z (.inl (by omega)) hs)
 ·exact LZ (i:=1) hs rfl (by rw[h];rfl) (VA (by omega) hz hb hs)
 ·exact LZ (i:=2) hs rfl (by rw[h];rfl) (VA (by omega) hz hb hs)
 ·exact LZ (i:=3) hs rfl (by rw[h];rfl) (VA (by omega) hz hb hs)
 ·exact LZ (i:=4) hs rfl (by rw[h];rfl) (VA (by omega) hz hb hs)
 ·exact LZ (i:=5) hs rfl (by rw[h];rfl) (VA (by omega) hz hb hs)
 ·exact LZ (i:=6) hs rfl (by rw[h];rfl) (VA (by omega) hz hb hs)
 ·exact LZ (i:=7) hs rfl (by rw[h];rfl) (VA (by omega) hz hb hs)
 ·exact LZ (i:=8) hs rfl (by rw[h];rfl) (VA (by omega) hz hb hs)
 ·exact LZ (i:=9) hs rfl (by rw[h];rfl) (VA (by omega) hz hb hs)
end
end Go.Proofs.YtjipofkjmmpjdaaGreat
namespace Go.Hb
inductive SJ (rm now:Int) (X:List Sh):List F1->List OT->Int->Int->List Sh->Prop
 | nil:SJ rm now X [] [] rm now X
 | snoc {os:List F1} {rs:List OT} {rm1 now1 rm2 now2:Int} {X1 X2:List Sh} {o:F1} {a:OT}:SJ rm now X os rs rm1 now1 X1->SH rm1 now1 X1 o a.err a.hit a.val a.gone rm2 now2 X2->(∀z∈X2,Go.Proofs.YtjipofkjmmpjdaaGreat.Lo rm2 z.1)->SJ rm now X (os++[o]) (rs++[a]) rm2 now2 X2
abbrev gsl(a:OT):HP:=recs Rec.str a.sl a.gone
theorem SJ.len{rm now:Int}{X:List Sh}{os:List F1}{rs:List OT}{rm1 now1:Int}{X1:List Sh}(h:SJ rm now X os rs rm1 now1 X1):rs.length=os.length:=by
 induction h with
 | nil=>rfl
 | snoc _ _ _ ih=>simp[ih]
end Go.Hb
namespace Go.Proofs.YtjipofkjmmpjdaaGreat
open Go.Hb Go.IntWalk
section
variable{W w:World}{L M:List HP}{b k n sh:Nat}{X:List Sh}{p ch:Nat}{sl:Sl}{Ls:List (Nat×Sh)}{rm now:Int}{o:F1}{key:BA}{c0 c1 c2 c3 c4 c5 c6:Int}{tp:Sl}{tape:List Int}
abbrev cfB(b:Nat)(c0 c1 c2 c3 c4 c5 c6:Int)(tp:Sl):HP:=blk b [.i c0,.i c1,.i c2,.i c3,.i c4,.i c5,.i c6,.l tp.a tp.n tp.c]
def Avh(c0 c1 c2 c3 c4 c5 c6:Int):Prop:=(1<=c0/\c0<=8)/\(1<=c1/\c1<=1024)/\(0<=c2/\c2<=256/\1<=c3/\c3<=256)/\(0<=c4/\c4<=16777216)/\(1<=c5/\c5<=256)/\0<=c6/\c6<5
abbrev Avj(c0 c1 c2 c3 c4 c5 c6:Int)(W:World)(L:List HP):VW:=λv w'=>(∃(b sh:Nat),c0=(sh:Int)/\v = .tuple #[pq b 0,.i 0]/\Ab W w' (Kj b 0 c1 0 (List.replicate sh ([],c6,none))::L))\/(¬Avh c0 c1 c2 c3 c4 c5 c6/\∃e:Int,e≠0/\v = .tuple #[.p none,.i e]/\Ab W w' L)
theorem A7o[hr:IU W L tp (Rec.int .u32) tape](ht:tape.length<=1000){b1 cb:Nat}(hsh:c0=(sh:Int))(h1:1<=sh)(h8:sh<=8)(hr1:1<=c1)(hr2:c1<=1024)(hT:Ls.map (·.2)=List.replicate sh ([],c6,none))(hs:Ab W w (blk cb [.l sl.a sl.n sl.c,pq p 0,.p none,.i 0]::F4 p 0::recs Rec.ptr sl (Ls.map λz=>z.1)::AO (Ls.map (DF c1 0))::cfB b1 c0 c1 c2 c3 c4 c5 c6 tp::L)) :
  Aqa By (Avj c0 c1 c2 c3 c4 c5 c6 W L) b1 0 cb 0 w:=by
 refine jw Adn ?_;refine Ao [cfB b1 c0 c1 c2 c3 c4 c5 c6 tp] hs λw hs=>?_;refine Am (Am (Ag (x:=tp) hs (Ae hs ?_)));refine Ai (A8f (s:=tp) (ds:=tape) (by omega) hs) λv w ⟨tb,hv,hs⟩=>⟨_,hv,Ae hs ?_⟩;refine AP (A4u hs) λv w h=>?_;rcases h with⟨hok,q,hv,hs⟩|⟨hno,e,he,hv,hs⟩
 ·refine⟨_,_,hv,Ac rfl ?_⟩;refine Aa (A0 hs λw hs=>?_);have hl:Ls.length=sh:=by have:=congrArg List.length hT;simpa using this
  exact .inl ⟨cb,sh,hsh,rfl,CZ (sl:=sl) (p:=p) (ch:=q) (m1:=0) (m2:=0) (m3:=0) ⟨by omega,by omega,hr1,hr2,by omega,by omega⟩ hT (by omega) (by omega) (by omega) (by exact Ab.fin hs)⟩
 ·exact⟨_,_,hv,Ak (by simpa using he) (.inr ⟨λh=>hno ⟨h.2.2.2.2.2,h.2.2.2.2.1⟩,e,he,rfl,by exact Ab.fin hs⟩)⟩
theorem A4a[hr:IU W L tp (Rec.int .u32) tape](ht:tape.length<=1000)(hs:Ab W w L):BB PR 27 #[.agg #[.i c0,.i c1,.i c2,.i c3,.i c4,.i c5,.i c6,.l tp.a tp.n tp.c]] w (Avj c0 c1 c2 c3 c4 c5 c6 W L):=by
 refine cw ⟨mixed,Tryz.func27,rfl⟩ Aya ?_;refine Ah hs λb1 w hs=>?_;have bad:¬Avh c0 c1 c2 c3 c4 c5 c6->∀w:World,Ab W w (cfB b1 c0 c1 c2 c3 c4 c5 c6 tp::L)->Avj c0 c1 c2 c3 c4 c5 c6 W L (.tuple #[.p none,.i 1]) w:=λhn w hs=>.inr ⟨hn,1,by decide,rfl,hs.drop⟩;unfold Avh at bad;refine Ag hs ?_
 with_reducible refine A2 (λh1=>?_) (λh1=>?_)
 ·exact bad (by omega) w hs
 refine Ag hs ?_
 with_reducible refine A2 (λh2=>?_) (λh2=>?_)
 ·exact bad (by omega) w hs
 refine Ag hs ?_
 with_reducible refine A2 (λh3=>?_) (λh3=>?_)
 ·exact bad (by omega) w hs
 refine Ag hs ?_
 with_reducible refine A2 (λh4=>?_) (λh4=>?_)
 ·exact bad (by omega) w hs
 refine Ag hs ?_
 with_reducible refine A2 (λh5=>?_) (λh5=>?_)
 ·exact bad (by omega) w hs
 refine Ag hs ?_
 with_reducible refine A2 (λh6=>?_) (λh6=>?_)
 ·exact bad (by omega) w hs
 obtain⟨sh,hsh⟩:∃sh:Nat,c0=(sh:Int):=⟨c0.toNat,by omega⟩;refine jw Adm ?_;refine Ag hs (Ag hs (Ag hs ?_));refine Ai (A7u hs) λv w ⟨p,hv,hs⟩=>⟨_,hv,?_⟩;refine Ah hs λcb w hs=>?_;refine Ag hs ?_;have loop:∀(f i:Nat)(Ls:List (Nat×Sh))(sl:Sl)(w:World),i+f=sh->Ls.map (·.2)=List.replicate i ([],c6,none)->Ab W w (blk cb [.l sl.a sl.n sl.c,pq p 0,.p none,.i 0]::F4 p 0::recs Rec.ptr sl (Ls.map λz=>z.1)::AO (Ls.map (DF c1 0))::cfB b1 c0 c1 c2 c3 c4 c5 c6 tp::L) ->
   Wk By (Avj c0 c1 c2 c3 c4 c5 c6 W L) (f+1) b1 0 cb 0 c0 (i:Int) w:=by
  clear hs;intro f
  induction f with
  | zero=>
   intro i Ls sl w hi hT hs;rw[QK];refine Ac (decide_eq_false (by omega)) ?_;have hi:i=sh:=by omega
   subst hi;exact A7o ht hsh (by omega) (by omega) (by omega) (by omega) hT hs
  | succ f ih=>
   intro i Ls sl w hi hT hs;rw[QK];refine Ak (decide_eq_true (by omega)) ?_
   iterate 4 refine Ag hs ?_
   refine AP (A75 hs) λv w h=>?_;rcases h with⟨hok,q,hv,hs⟩|⟨hno,e,he,hv,hs⟩
   ·refine⟨_,_,hv,Ac rfl ?_⟩;have hlen:Ls.length=i:=by have:=congrArg List.length hT;simpa using this
    refine Aa (Ag (x:=sl) hs ?_);refine Ah hs λnb w hs=>?_;refine Cf (s:=sl) (a:=q) hs rfl rfl rfl rfl (by decide) (by rw[List.length_map];omega) λs5 w hs5 hs=>?_
    refine Aa (A0 hs λw hs=>?_);have hs:Ab W w (DF c1 0 (q,[],c6,none)::AO (Ls.map (DF c1 0))::blk cb [.l s5.a s5.n s5.c,pq p 0,.p none,.i 0]::F4 p 0::recs Rec.ptr s5 ((Ls.map λz=>z.1)++[q])::cfB b1 c0 c1 c2 c3 c4 c5 c6 tp::L):=by exact Ab.fin hs
    have hs:=If hs;rw[show(Ls.map λz=>z.1)++[q]=(Ls++[(q,(([]:TT),c6,(none:Option Nat)))]).map λz=>z.1 by simp] at hs;rw[show IntKind.wrap .i64 ((i:Int)+1)=((i+1:Nat):Int) by rw[i64_in _ (by omega)];omega]
    exact ih (i+1) (Ls++[(q,(([]:TT),c6,(none:Option Nat)))]) s5 w (by omega) (by rw[List.map_append,hT,List.replicate_succ'];rfl) (by exact Ab.fin hs)
   ·exact⟨_,_,hv,Ak (by simpa using he) (.inr ⟨λh=>hno ⟨h.2.1,h.2.2.1,h.2.2.2.2.2⟩,e,he,rfl,by exact Ab.fin hs⟩)⟩
 have hs:=Ab.nilR Rec.ptr hs;have hs:=J5 (f:=DF c1 0) hs;exact AR _ (loop sh 0 [] ⟨none,0,0⟩ w (by omega) rfl (by exact Ab.fin hs))
theorem A87{ops:List F1}[hr:IU W M sl opR ops](hz:∀o∈ops,o.key.size<4611686018427387904)(hk:k+ops.length<900000)(hs:Ab W w (Kj b k rm now X::M)):BB PR 14 #[pq b 0,.l sl.a sl.n sl.c] w λv w'=>∃(r9:Sl) (rs:List OT) (rm' now':Int) (X':List Sh),v = .l r9.a r9.n r9.c/\SJ rm now X ops rs rm' now' X'/\Ab W w' (Kj b (k+ops.length) rm' now' X'::recs Ip r9 rs::AO (rs.map gsl)::M):=by
 refine cw ⟨mixed,Tryz.func14,rfl⟩ Aw5 ?_;have e0:sl.n=ops.length:=Bt (L:=M) (rows:=ops) hs.drop;have loop:∀(f i:Nat)(rs:List OT)(r9:Sl)(rm' now':Int)(X':List Sh)(w:World),i+f=ops.length->SJ rm now X (ops.take i) rs rm' now' X'->Ab W w (Kj b (k+i) rm' now' X'::recs Ip r9 rs::AO (rs.map gsl)::M) ->
   VN By (λv w'=>∃(r9:Sl) (rs:List OT) (rm' now':Int) (X':List Sh),v = .l r9.a r9.n r9.c/\SJ rm now X ops rs rm' now' X'/\Ab W w' (Kj b (k+ops.length) rm' now' X'::recs Ip r9 rs::AO (rs.map gsl)::M)) (f+1) (some ⟨b,0,none⟩) r9 sl (sl.n:Int) (i:Int) w:=by
  clear hs;intro f
  induction f with
  | zero=>
   intro i rs r9 rm' now' X' w hi hR hs;rw[QE];refine Ac (decide_eq_false (by omega)) ?_;refine jw Adb ?_;have hi:i=ops.length:=by omega
   subst hi;rw[List.take_length] at hR;exact⟨r9,rs,rm',now',X',rfl,hR,hs⟩
  | succ f ih=>
   intro i rs r9 rm' now' X' w hi hR hs;rw[QE];refine Ak (decide_eq_true (by omega)) ?_;refine AB (s:=sl) (E:=opR) (rows:=ops) hs λb_ o_ ha_=>?_;refine AE (s:=sl) (E:=opR) (rows:=ops) ha_ hs (BD (s:=sl) (E:=opR) (rows:=ops) ha_ hs (BI (s:=sl) (E:=opR) (rows:=ops) ha_ hs (BJ (s:=sl) (E:=opR) (rows:=ops) ha_ hs ?_ (hc:=rfl)) (hc:=rfl)) (hc:=rfl)) (hc:=rfl);rw[Int.toNat_natCast];refine Ah hs λb7 w hs=>?_;refine A0 hs λw hs=>A0 hs λw hs=>A0 hs λw hs=>A0 hs λw hs=>?_;refine Ag hs (Ag hs (Ag hs (Ag hs ?_)));have hil:i<ops.length:=by omega
   have hmem:ops.getD i default∈ops:=by rw[List.getD_eq_getElem?_getD,List.getElem?_eq_getElem hil];exact List.getElem_mem hil
   have hs:Ab W w (Kj b (k+i) rm' now' X'::recs Ip r9 rs::AO (rs.map gsl)::M):=by exact Ab.fin hs
   refine Calls.mono (A67 (o:=ops.getD i default) (hz _ hmem) (by omega) hs) λe_ w ⟨v,he,e,h,x,sg,gone,rm2,now2,X2,hv,hD,hs⟩=>⟨e,h,x,sg,by rw[he,hv],?_⟩;have hok2:=Q2 hs;refine Ah hs λnb w hs=>?_
   have hlen:=hR.len;rw[List.length_take] at hlen;refine Cf (s:=r9) (a:=(⟨e,h,x,sg,gone⟩:OT)) hs rfl rfl rfl rfl (by decide) (by omega) λs5 w hs5 hs=>?_;have hs:Ab W w (gsl ⟨e,h,x,sg,gone⟩::AO (rs.map gsl)::Kj b (k+i+1) rm2 now2 X2::recs Ip s5 (rs++[⟨e,h,x,sg,gone⟩])::M):=by exact Ab.fin hs
   have hs:=If hs;rw[show IntKind.wrap .i64 ((i:Int)+1)=((i+1:Nat):Int) by rw[i64_in _ (by omega)];omega]
   refine ih (i+1) _ s5 rm2 now2 X2 w (by omega) ?_ (by exact Ab.fin hs);rw[CA hil];have e1:ops.getD i default=ops[i]:=by rw[List.getD_eq_getElem?_getD,List.getElem?_eq_getElem hil];rfl
   rw[<- e1];exact .snoc hR hD λz hz=>(hok2.2 z hz).1
 have hs:Ab W w (recs Ip ⟨none,0,0⟩ []::Kj b k rm now X::M):=Ab.nilR Ip hs;have hs:=J5 (f:=gsl) hs;exact AR _ (loop ops.length 0 [] ⟨none,0,0⟩ rm now X w (by omega) .nil (by exact Ab.fin hs))
end
end Go.Proofs.YtjipofkjmmpjdaaGreat
namespace Go.Hb
def Aas(kind:Int):Bool:=decide (kind=1\/kind=2\/kind=3\/kind=4\/kind=9)
def LO(kind:Int):Bool:=decide (kind=1\/kind=3\/kind=4)
def jOk(T:TT)(now kind:Int)(g:BA):Bool:=Aas kind && !(LO kind && (Dy T g now).2) && (AC T g).isSome
def Agp(T:TT)(now kind:Int)(l:List BA):Prop:=(∀i k,k<i->i<l.length->l.getD i default≠l.getD k default)/\∀i,i<l.length->jOk T now kind (l.getD i default)=true
noncomputable def HU(T:TT)(now kind:Int)(l:List BA):Bool:=@decide (Agp T now kind l) (Classical.propDecidable _)
theorem KG{T:TT}{now kind:Int}{l:List BA}(h:Agp T now kind l):HU T now kind l=true:=@decide_eq_true _ (Classical.propDecidable _) h
theorem NS{T:TT}{now kind:Int}{l:List BA}(h:¬Agp T now kind l):HU T now kind l=false:=@decide_eq_false _ (Classical.propDecidable _) h
theorem Ro{T:TT}{now kind:Int}{l:List BA}{i:Nat}(hi:i<l.length)(h:jOk T now kind (l.getD i default)=false):HU T now kind l=false:=
 NS λhg=>by rw[hg.2 i hi] at h;cases h
theorem Asz{T:TT}{now kind:Int}{l:List BA}{i k:Nat}(hk:k<i)(hi:i<l.length)(h:l.getD i default=l.getD k default):HU T now kind l=false:=
 NS λhg=>hg.1 i k hk hi h
theorem A12{T:TT}{now kind:Int}{g:BA}(h:Aas kind=false):jOk T now kind g=false:=by unfold jOk;rw[h];rfl
theorem As8{T:TT}{now kind:Int}{g:BA}(h:(LO kind && (Dy T g now).2)=true):jOk T now kind g=false:=by unfold jOk;rw[h];simp
theorem A11{T:TT}{now kind:Int}{g:BA}(h:(AC T g).isSome=false):jOk T now kind g=false:=by unfold jOk;rw[h];simp
theorem R0{T:TT}{now kind:Int}{g:BA}(h1:Aas kind=true)(h2:(LO kind && (Dy T g now).2)=false)(h3:(AC T g).isSome=true):jOk T now kind g=true:=by unfold jOk;rw[h1,h2,h3];rfl
def Fu(T:TT)(now kind:Int)(key:BA)(hit:Bool)(val:BA):Bool:=
 if kind=1 then (hit==(Dy T key now).2) && Vr val (Dy T key now).1 else if kind=3 then hit==(Dy T key now).2 else true
def Ft(T:TT)(now:Int)(o:F1)(gone:List BA):TT:=
 if o.kind=2 then EY (gone.foldl CY T) o.key o.val now o.n else if o.kind=3 then CY (gone.foldl CY T) o.key else gone.foldl CY T
def UI(T:TT)(sh room:Int):Bool:=if sh<0\/1048576<sh\/room<0\/1048576<room then true else decide ((T.length:Int)<=sh*room)
structure JS where
 T:TT
 now:Int
 room:Int
def Du(now:Int)(o:F1):Int:=if o.kind=4/\0<o.n then now+min o.n (1125899906842624-now) else now
def IW(room:Int)(o:F1):Int:=if o.kind=9 then o.n else room
def Dc(s:JS)(o:F1)(err:Int)(gone:List BA):JS:=if err≠0 then s else ⟨Ft s.T (Du s.now o) o gone,Du s.now o,IW s.room o⟩
noncomputable def E8(sh:Int)(s:JS)(o:F1)(err:Int)(hit:Bool)(val:BA)(gone:List BA):Bool:=
 if err≠0 then !hit && decide (val=⟨#[]⟩) && decide (gone.length=0)
 else (Fu s.T (Du s.now o) o.kind o.key hit val && HU s.T (Du s.now o) o.kind gone) && UI (Ft s.T (Du s.now o) o gone) sh (IW s.room o)
structure JOk(s:JS):Prop where
 tok:IV s.T
 now0:0<=s.now
 nowM:s.now<=1125899906842624
 room:okK .i64 s.room
theorem Rp{T:TT}(h:IV T):∀(l:List BA),IV (l.foldl CY T)/\(l.foldl CY T).length<=T.length:=by
 intro l
 induction l generalizing T with
 | nil=>exact⟨h,Nat.le_refl _⟩
 | cons g l ih=>
  obtain⟨h1,h2⟩:=ih (h.del g);exact⟨h1,Nat.le_trans h2 (Ig h g)⟩
theorem Akn{T:TT}{l:List BA}{i:Nat}(hi:i<l.length):(l.take (i+1)).foldl CY T=CY ((l.take i).foldl CY T) (l.getD i default):=by
 rw[List.take_add_one,List.foldl_append,List.getD_eq_getElem?_getD,List.getElem?_eq_getElem hi];rfl
theorem Afi{T:TT}(h:IV T)(now:Int)(o:F1)(gone:List BA):IV (Ft T now o gone)/\(Ft T now o gone).length<=T.length+1:=by
 obtain⟨h1,h2⟩:=Rp h gone;unfold Ft;split
 ·exact⟨h1.put _ _ _ _,Nat.le_trans (Au8 h1 _ _ _ _) (by omega)⟩
 ·split
  ·exact⟨h1.del _,Nat.le_trans (Ig h1 _) (by omega)⟩
  ·exact⟨h1,by omega⟩
theorem Aid{now:Int}{o:F1}(h0:0<=now)(h1:now<=1125899906842624):0<=Du now o/\Du now o<=1125899906842624:=by
 unfold Du;split <;> omega
theorem JOk.next{s:JS}(h:JOk s){o:F1}(ho:okK .i64 o.n)(err:Int)(gone:List BA):JOk (Dc s o err gone)/\(Dc s o err gone).T.length<=s.T.length+1:=by
 unfold Dc;split
 ·exact⟨h,by omega⟩
 ·obtain⟨h1,h2⟩:=Afi h.tok (Du s.now o) o gone;obtain⟨h3,h4⟩:=Aid (o:=o) h.now0 h.nowM;refine⟨⟨h1,h3,h4,?_⟩,h2⟩;show okK .i64 (IW s.room o);unfold IW;split
  ·exact ho
  ·exact h.room
noncomputable def FJ(sh:Int):Nat->JS->List F1->List OT->Int
 | i,s,o::os,a::rs=>if E8 sh s o a.err a.hit a.val a.gone then FJ sh (i+1) (Dc s o a.err a.gone) os rs else (i:Int)
 | _,_,_,_=>-1
end Go.Hb
namespace Go.Hb
open Go.Proofs.YtjipofkjmmpjdaaGreat
structure JR(sh:Nat)(Ts:List TT)(s:JS):Prop where
 len:Ts.length=sh
 sh1:1<=sh
 sh8:sh<=8
 tok:IV s.T
 tabs:∀T∈Ts,Lo s.room T
 home:∀(i:Nat)(T:TT),Ts[i]? = some T->∀k∈kT T,Bl sh k=i
 same:∀k,AC s.T k=AC (Ts.getD (Bl sh k) []) k
 now0:0<=s.now
 nowM:s.now<=1125899906842624
section
variable{sh:Nat}{Ts:List TT}{s:JS}{T:TT}{i:Nat}{k key:BA}{g:BL}{now:Int}
theorem JR.at_(h:JR sh Ts s)(k:BA):∃T,Ts[Bl sh k]? = some T/\AC s.T k=AC T k:=by
 have hl:=IL h.sh1 k;rw[<- h.len] at hl;refine⟨Ts[Bl Ts.length k]'(by rw[h.len] at hl ⊢;exact hl),?_,?_⟩
 ·have e:=h.len;subst e;exact List.getElem?_eq_getElem hl
 ·rw[h.same];have e:=h.len;subst e;rw[List.getD_eq_getElem?_getD,List.getElem?_eq_getElem hl];rfl
theorem JR.of_home(h:JR sh Ts s)(hT:Ts[i]? = some T)(hk:Bl sh k=i):AC s.T k=AC T k:=by
 obtain⟨T',h1,h2⟩:=h.at_ k;rw[hk,hT] at h1;cases h1;exact h2
theorem Kx{α:Type}:∀{L:List (List α)},(∀l∈L,l.Nodup)->(∀(i j:Nat)(a b:List α),L[i]? = some a->L[j]? = some b->i≠j->∀x∈a,x∉b)->L.flatten.Nodup
 | [],_,_=>by simp
 | l::L,h1,h2=>by
  rw[List.flatten_cons,List.nodup_append];refine⟨h1 l (.head _),Kx (λl hl=>h1 l (.tail _ hl)) (λi j a b ha hb hij=>h2 (i+1) (j+1) a b ha hb (by omega)),λx hx y hy e=>?_⟩;obtain⟨b,hb,hyb⟩:=List.mem_flatten.1 hy;obtain⟨j,hj⟩:=List.mem_iff_getElem?.1 hb;exact h2 0 (j+1) l b rfl hj (by omega) x hx (e ▸ hyb)
theorem JR.fits(h:JR sh Ts s):UI s.T sh s.room=true:=by
 have hsub:∀k∈kT s.T,k∈(Ts.map kT).flatten:=λk hk=>by
  obtain⟨T,h1,h2⟩:=h.at_ k;refine List.mem_flatten.2 ⟨kT T,List.mem_map_of_mem (List.mem_of_getElem? h1),?_⟩;rw[Dx,<- h2];exact Dx.1 hk
 have h1:=Di h.tok.rise.nodup hsub;unfold UI;split
 ·rfl
 ·rename_i hn;have hr:0<=s.room:=by omega
  have h2:(Ts.map kT).flatten.length<=(Ts.map kT).length*s.room.toNat:=Hr λl hl=>by
   obtain⟨T,hT,rfl⟩:=List.mem_map.1 hl;have:=(h.tabs T hT).len;unfold kT;rw[List.length_map];omega
  rw[List.length_map,h.len] at h2;have e:(kT s.T).length=s.T.length:=by unfold kT;rw[List.length_map]
  have e':(s.T.map (·.1)).length=s.T.length:=by rw[List.length_map]
  have e2:((sh*s.room.toNat:Nat):Int)=(sh:Int)*s.room:=by rw[Int.natCast_mul,Int.toNat_of_nonneg hr]
  apply decide_eq_true;rw[<- e2];omega
theorem JR.dels{gs:List BL}{now room:Int}(h:JR sh Ts s)(hg:gs.length=sh)(hsub:∀(i:Nat)(T:TT)(g:BL),Ts[i]? = some T->gs[i]? = some g->∀x∈g,x∈kT T)
  (hok:∀(i:Nat)(T:TT)(g:BL),Ts[i]? = some T->gs[i]? = some g->Lo room (A3 T g)) (h0:0<=now) (h1:now<=1125899906842624):JR sh (List.zipWith A3 Ts gs) ⟨A3 s.T gs.flatten,now,room⟩:=by
 have hz:∀(i:Nat)(T':TT),(List.zipWith A3 Ts gs)[i]? = some T'->∃(T:TT) (g:BL),Ts[i]? = some T/\gs[i]? = some g/\T'=A3 T g:=by
  intro i T' hT';rw[List.getElem?_zipWith] at hT';cases ha:Ts[i]? with
  | none=>rw[ha] at hT';cases hT'
  | some T=>
   cases hb:gs[i]? with
   | none=>rw[ha,hb] at hT';cases hT'
   | some g=>
    rw[ha,hb] at hT';cases hT';exact⟨T,g,rfl,rfl,rfl⟩
 refine⟨by rw[List.length_zipWith,h.len,hg,Nat.min_self],h.sh1,h.sh8,CJ h.tok,λT' hT'=>?_,λi T' hT' k hk=>?_,λk=>?_,h0,h1⟩
 ·obtain⟨i,hi⟩:=List.mem_iff_getElem?.1 hT';obtain⟨T,g,ha,hb,rfl⟩:=hz i T' hi;exact hok i T g ha hb
 ·obtain⟨T,g,ha,hb,rfl⟩:=hz i T' hT';exact h.home i T ha k ((FK (h.tabs T (List.mem_of_getElem? ha)).tok.rise).1 hk).1
 ·obtain⟨T,ha,hs⟩:=h.at_ k;have hil:=(List.getElem?_eq_some_iff.1 ha).1;obtain⟨g,hb⟩:∃g,gs[Bl sh k]? = some g:=⟨_,List.getElem?_eq_getElem (by rw[hg];exact IL h.sh1 k)⟩
  have e:(List.zipWith A3 Ts gs).getD (Bl sh k) []=A3 T g:=by
   rw[List.getD_eq_getElem?_getD,List.getElem?_zipWith,ha,hb];rfl
  rw[e];have hT:=(h.tabs T (List.mem_of_getElem? ha)).tok.rise;have hmem:k∈gs.flatten↔k∈g:=by
   constructor
   ·intro hk;obtain⟨g',hg',hk'⟩:=List.mem_flatten.1 hk;obtain⟨j,hj⟩:=List.mem_iff_getElem?.1 hg';obtain⟨T',hT'⟩:∃T',Ts[j]? = some T':=⟨_,List.getElem?_eq_getElem (by rw[h.len,<- hg];exact(List.getElem?_eq_some_iff.1 hj).1)⟩
    have hhome:=h.home j T' hT' k (hsub j T' g' hT' hj k hk');rw[hhome,hj] at hb;cases hb;exact hk'
   ·intro hk;exact List.mem_flatten.2 ⟨g,List.mem_of_getElem? hb,hk⟩
  by_cases hk:k∈g
  ·rw[(BC h.tok.rise).1 (hmem.2 hk),(BC hT).1 hk]
  ·rw[(BC h.tok.rise).2 (λh=>hk (hmem.1 h)),(BC hT).2 hk,hs]
theorem JR.one{T':TT}{J':TT}(h:JR sh Ts s)(hT:Ts[i]? = some T)(hok:Lo s.room T')(hJ:IV J')(hh:∀k∈kT T',Bl sh k=i)
  (hs:∀k,(Bl sh k=i->AC J' k=AC T' k)/\(Bl sh k≠i->AC J' k=AC s.T k)):JR sh (Ts.set i T') ⟨J',s.now,s.room⟩:=by
 have hil:=(List.getElem?_eq_some_iff.1 hT).1;refine⟨by rw[List.length_set];exact h.len,h.sh1,h.sh8,hJ,λT2 hT2=>?_,λj T2 hT2 k hk=>?_,λk=>?_,h.now0,h.nowM⟩
 ·rcases List.mem_or_eq_of_mem_set hT2 with h1|h1
  ·exact h.tabs T2 h1
  ·exact h1 ▸ hok
 ·by_cases hij:i=j
  ·subst hij;rw[List.getElem?_set_self hil] at hT2;cases hT2;exact hh k hk
  ·rw[List.getElem?_set_ne hij] at hT2;exact h.home j T2 hT2 k hk
 ·show AC J' k=_
  by_cases hk:Bl sh k=i
  ·rw[(hs k).1 hk,hk,List.getD_eq_getElem?_getD,List.getElem?_set_self hil];rfl
  ·rw[(hs k).2 hk,List.getD_eq_getElem?_getD,List.getElem?_set_ne (λe=>hk e.symm),<- List.getD_eq_getElem?_getD];exact h.same k
theorem Asy{kind:Int}{l:BL}{J:TT}(hn:l.Nodup)(h:∀x∈l,jOk J now kind x=true):HU J now kind l=true:=by
 refine KG ⟨λi k hki hi e=>?_,λi hi=>h _ (GI hi)⟩;have hk:k<l.length:=by omega
 rw[List.getD_eq_getElem?_getD,List.getD_eq_getElem?_getD,List.getElem?_eq_getElem hi,List.getElem?_eq_getElem hk,Option.getD_some,Option.getD_some] at e;exact List.pairwise_iff_getElem.1 (List.nodup_iff_pairwise_ne.1 hn) k i hk hi hki e.symm
theorem Abs{c:Int}{g:BL}(h:Lo c T):Lo c (A3 T g):=⟨CJ h.tok,Gy (P:=λk=>k.size<=40) h.tok.rise h.small,by have:=Iu (g:=g) h.tok;have:=h.len;omega,h.c1,h.c2⟩
theorem JR.over(h:JR sh Ts s)(hT:Ts[Bl sh key]? = some T):JR sh (Ts.set (Bl sh key) (Cb T key s.now)) ⟨A3 s.T (BS T key s.now),s.now,s.room⟩:=by
 have hS:=h.tabs T (List.mem_of_getElem? hT);rw[Fe];refine h.one hT (Abs hS) (CJ h.tok) (λk hk=>?_) (λk=>⟨λhk=>?_,λhk=>?_⟩)
 ·exact h.home _ T hT k ((FK hS.tok.rise).1 hk).1
 ·by_cases hg:k∈BS T key s.now
  ·rw[(BC h.tok.rise).1 hg,(BC hS.tok.rise).1 hg]
  ·rw[(BC h.tok.rise).2 hg,(BC hS.tok.rise).2 hg,h.of_home hT hk]
 ·refine(BC h.tok.rise).2 λhg=>?_;exact hk (by rw[(HT hg).1])
theorem Jq:(BS T key now).Nodup:=by unfold BS;split <;> simp
theorem JR.goes_over{kind:Int}(h:JR sh Ts s)(hT:Ts[Bl sh key]? = some T)(hm:Aas kind=true):∀x∈BS T key s.now,jOk s.T s.now kind x=true:=by
 intro x hx;obtain⟨rfl,ho⟩:=HT hx;have hg:=h.of_home hT rfl (k:=x);have ho2:OS s.T x s.now=true:=by rw[Vx hg];exact ho
 unfold OS at ho2;rw[Bool.and_eq_true,Bool.not_eq_true'] at ho2;exact R0 hm (by rw[ho2.2];simp) ho2.1
theorem Auc(hr:Ci T):(AC (Cb T key now) key).isSome=(Dy T key now).2:=by
 unfold Cb
 by_cases ho:OS T key now=true
 ·rw[if_pos ho,LK hr,if_pos rfl];unfold OS at ho;rw[Bool.and_eq_true,Bool.not_eq_true'] at ho;rw[ho.2];rfl
 ·rw[if_neg ho];unfold OS at ho;cases hg:(AC T key).isSome with
  | false=>
   cases h2:(Dy T key now).2 with
   | false=>rfl
   | true=>rw[Au7 h2] at hg;cases hg
  | true=>
   rw[hg,Bool.true_and,Bool.not_eq_true'] at ho;cases h2:(Dy T key now).2 with
   | true=>rfl
   | false=>exact absurd h2 ho
theorem Ho{o:F1}(h2:o.kind≠2)(h3:o.kind≠3):Ft s.T now o g=A3 s.T g:=by unfold Ft;rw[if_neg h2,if_neg h3];rfl
end
end Go.Hb
