import Derived.Shelf.Small.Strs
import Derived.Shelf.Strings.Search1
import Derived.Test.YtmefopmnjncdbaaGreatProg
import Derived.Test.YtmefopmnjncdbaaGreatMn18
set_option linter.unusedVariables false
set_option linter.unusedSimpArgs false
set_option linter.unnecessarySimpa false
set_option linter.unusedSectionVars false
set_option maxRecDepth 100000
namespace Go.Hb
abbrev Ev:=Int × ByteArray
def evR:Rec Ev:=⟨2,fun e=>[.int .i64 e.1,.string e.2],fun _=>rfl⟩
instance:PosR evR:=⟨by decide⟩
abbrev cF (b:Nat) (s:Sl) (r k rd wr lo:Int):HP:=blk b [.slice s.a s.n s.c,.int .i64 r,.int .i64 k,.int .i64 rd,.int .i64 wr,.int .i64 lo]
def fd (b:Nat) (wr k:Int) (l:List Ev):HP:=exH fun (z:Sl × Int × Int × Int)=>allH [cF b z.1 z.2.1 k z.2.2.1 wr z.2.2.2,recs evR z.1 l]
def empH:HP:=fun _=>True
def oldE:Option Nat -> Int -> BL -> HP
 | none,_,_=>empH
 | some q,c,R=>eng q c R
structure MRows (c:Int) (R:BL) (o:Option Nat) (A B:BL):Prop where
 eq:R = A ++ B
 ok:EOk c R
 no:o = none -> B = []
def ptrO (o:Option Nat):Option Addr:=o.map fun q=>⟨q,0,none⟩
def mvR (b:Nat) (c:Int) (R:BL):HP:=exH fun (z:Nat × Option Nat × BL × BL)=>andH (MRows c R z.2.1 z.2.2.1 z.2.2.2) (allH [blk b [.pointer (some ⟨z.1,0,none⟩),.pointer (ptrO z.2.1)],eng z.1 c z.2.2.1,oldE z.2.1 c z.2.2.2])
section
variable {W w:World} {M L:List HP} {b e q:Nat} {c:Int} {R A B S:BL} {k:ByteArray}
theorem fd_open {wr n:Int} {l:List Ev} (h:Sat W w (fd b wr n l::M)):∃ (s:Sl) (r rd lo:Int),(s.n = l.length /\ s.n <= s.c) /\ Sat W w (cF b s r n rd wr lo::recs evR s l::M):=by
 obtain ⟨⟨s,r,rd,lo⟩,h⟩:=h.openE
 have h:=h.openL
 have h:Sat W w (cF b s r n rd wr lo::recs evR s l::M):=h
 exact ⟨s,r,rd,lo,recs_len (s:=s) h,h⟩
theorem fd_shut {wr n:Int} {l:List Ev} {s:Sl} {r rd lo:Int} (h:Sat W w (cF b s r n rd wr lo::recs evR s l::M)):Sat W w (fd b wr n l::M):=Sat.shutE (s,r,rd,lo) (Sat.shutL (Ps:=[_,_]) h)
theorem mv_cases (h:Sat W w (mvR b c R::M)) {C:Prop} (h0:∀ e,EOk c R -> Sat W w (blk b [.pointer (some ⟨e,0,none⟩),.pointer none]::eng e c R::M) -> C)
  (h1:∀ e q A B,R = A ++ B -> EOk c R -> Sat W w (blk b [.pointer (some ⟨e,0,none⟩),.pointer (some ⟨q,0,none⟩)]::eng e c A::eng q c B::M) -> C):C:=by
 obtain ⟨⟨e,o,A,B⟩,h⟩:=h.openE
 obtain ⟨hp,h⟩:=h.openA
 have h:=h.openL
 cases o with
 | none=>
  have hB:B = []:=hp.no rfl
  have hR:R = A:=by rw [hp.eq]; show A ++ B = A; rw [hB,List.append_nil]
  subst hR
  have h:Sat W w (blk b [.pointer (some ⟨e,0,none⟩),.pointer none]::eng e c R::empH::M):=h
  exact h0 e hp.ok (by have hs:=h; exact Sat.fin hs)
 | some q=>exact h1 e q A B hp.eq hp.ok h
theorem mv_shut0 (hk:EOk c R) (h:Sat W w (blk b [.pointer (some ⟨e,0,none⟩),.pointer none]::eng e c R::M)):Sat W w (mvR b c R::M):=by
 refine Sat.shutE (e,none,R,[]) (Sat.shutA ⟨by simp,hk,fun _=>rfl⟩ (Sat.shutL (Ps:=[_,_,_]) ?_))
 have h2:Sat W w (empH::blk b [.pointer (some ⟨e,0,none⟩),.pointer none]::eng e c R::M):=by
  refine ⟨h.os,h.out,?_⟩
  exact ⟨fun _=>none,heapOf w,(fun _ _ h=>by cases h),subH.refl _,(fun _=>Or.inl rfl),trivial,h.st⟩
 show Sat W w (blk b [.pointer (some ⟨e,0,none⟩),.pointer none]::eng e c R::empH::M)
 have hs:=h2
 exact Sat.fin hs
theorem mv_shut1 (hR:R = A ++ B) (hk:EOk c R) (h:Sat W w (blk b [.pointer (some ⟨e,0,none⟩),.pointer (some ⟨q,0,none⟩)]::eng e c A::eng q c B::M)):Sat W w (mvR b c R::M):=
 Sat.shutE (e,some q,A,B) (Sat.shutA ⟨hR,hk,fun h=>by cases h⟩ (Sat.shutL (Ps:=[_,_,_]) h))
theorem mv_ok (h:Sat W w (mvR b c R::M)):EOk c R:=mv_cases h (fun e hk _=>hk) (fun e q A B _ hk _=>hk)
theorem EOk.same (h:EOk c R) (hn:S.Nodup) (hm:∀ x,x ∈ S ↔ x ∈ R):EOk c S:=h.perm (perm_of_mem hn h.nd hm)
theorem same_len (h:EOk c R) (hn:S.Nodup) (hm:∀ x,x ∈ S ↔ x ∈ R):S.length = R.length:=(perm_of_mem hn h.nd hm).length_eq
def EvS (c:Int) (R:BL) (e:Ev) (K:BL):Prop:=EOk c K /\ ∀ x,x ∈ K ↔ (if e.1 = 2 then x ∈ R \/ x = e.2 else if e.1 = 3 then x ∈ R /\ x ≠ e.2 else x ∈ R)
structure InsR (c:Int) (R:BL) (k:ByteArray) (g S:BL):Prop where
 ok:EOk c S
 has:k ∈ R -> g = [] /\ ∀ x,x ∈ S ↔ x ∈ R
 sub:∀ x ∈ g,x ∈ R
 nd:g.Nodup
 no:k ∉ g
 mem:∀ x,x ∈ S ↔ (x ∈ R /\ x ∉ g) \/ x = k
 calm:(R.length:Int) < c -> g = []
theorem nd_le1 {g:BL} (h:g.length <= 1):g.Nodup:=by
 match g,h with
 | [],_=>simp
 | [x],_=>simp
theorem nd_app (hA:A.Nodup) (hB:B.Nodup) (hd:∀ x ∈ A,x ∉ B):(A ++ B).Nodup:=List.nodup_append.2 ⟨hA,hB,fun a ha b hb e=>hd a ha (e ▸ hb)⟩
theorem AccR.ins {hit:Bool} {g:BL} (h:AccR c R k hit g S):InsR c R k g S:=
 ⟨h.ok,fun hk=>by
  have hg:g = []:=h.acc.calm (by rw [h.acc.hits]; exact decide_eq_true hk)
  refine ⟨hg,fun x=>?_⟩
  rw [h.acc.mem,hg]
  constructor
  ·rintro (h | rfl)
   ·exact h.1
   ·exact hk
  ·exact fun h=>.inl ⟨h,by simp⟩,h.acc.sub,nd_le1 h.acc.le1,h.acc.no,h.acc.mem,h.calm⟩
end
end Go.Hb
namespace Go.Proofs.YtmefopmnjncdbaaGreat
open Go.Hb Go.IntWalk
section
variable {W w:World} {L M:List HP} {b:Nat} {c:Int} {R:BL} {key:ByteArray} {wr n:Int} {l:List Ev}
theorem q22_New (hs:Sat W w L) {r k:Int}:Rts Tryz.prog 26 #[.int .i64 r,.int .i64 k] w fun v w'=>(1 <= k /\ ∃ b,v = .tuple #[.pointer (some ⟨b,0,none⟩),.int .i64 0] /\ Sat W w' (fd b k 0 []::L)) \/ (v = .tuple #[.pointer none,.int .i64 1] /\ Sat W w' L):=by
 refine cw f26_ok f26_raw ?_
 refine ite_cases (fun _=>.inr ⟨rfl,hs⟩) (fun _=>?_)
 refine ite_cases (fun _=>.inr ⟨rfl,hs⟩) (fun _=>?_)
 with_reducible refine ite_by (fun h1=>?_) (fun h1=>?_)
 ·exact .inr ⟨rfl,hs⟩
 refine ite_cases (fun _=>.inr ⟨rfl,hs⟩) (fun _=>?_)
 refine newB_at hs fun b w hs=>?_
 have hs:=Sat.nilR evR hs
 exact .inl ⟨by omega,b,rfl,fd_shut (s:=⟨none,0,0⟩) (r:=0) (rd:=r) (lo:=0) (by exact Sat.fin hs)⟩
theorem q22_Read (hl:l.length < 1000000) (hs:Sat W w (fd b wr n l::M)):Rts Tryz.prog 41 #[.pointer (some ⟨b,0,none⟩),.string key] w fun v w'=>∃ (t:Bool),v = .bool t /\ Sat W w' (fd b wr n (if t then l ++ [((1:Int),key)] else l)::M):=by
 refine cw f41_ok f41_raw ?_
 obtain ⟨s,r,rd,lo,hsn,hs⟩:=fd_open hs
 refine drawW_only [cF b s r n rd wr lo] hs fun w hs=>?_
 refine nilck_some (ldS_b (nilck_some (ld_b hs (keep_imp hs ?_))))
 refine ite_cases (fun _=>?_) (fun _=>?_)
 ·refine nilck_some (ld_b hs ?_)
  refine nilck_some (st_b hs fun w hs=>?_)
  exact ⟨false,rfl,fd_shut hs⟩
 ·refine nilck_some (ld_b hs ?_)
  refine nilck_some (st_b hs fun w hs=>?_)
  refine nilck_some (ld_b (x:=s) hs ?_)
  refine newB_at hs fun nb w hs=>?_
  refine app_one (s:=s) (a:=(((1:Int),key):Ev)) hs rfl rfl rfl rfl (by decide) (by omega) fun s5 w hs5 hs=>?_
  refine nilck_some (st_b hs fun w hs=>?_)
  exact ⟨true,rfl,fd_shut (s:=s5) (by exact Sat.fin hs)⟩
theorem q22_Write {kd:Int} (hkd:kd = 2 \/ kd = 3) (hl:l.length < 1000000) (hs:Sat W w (fd b wr n l::M)):Rts Tryz.prog 81 #[.pointer (some ⟨b,0,none⟩),.int .i64 kd,.string key] w fun v w'=>(n < wr /\ v = .bool true /\ ∃ n',Sat W w' (fd b wr n' (l ++ [(kd,key)])::M)) \/ (wr <= n /\ v = .bool false /\ Sat W w' (fd b wr n l::M)):=by
 refine cw f81_ok f81_raw ?_
 obtain ⟨s,r,rd,lo,hsn,hs⟩:=fd_open hs
 have j1:∀ (w:World),n < wr -> Sat W w (cF b s r n rd wr lo::recs evR s l::M) -> f81_j1 idJ (fun v w'=>(n < wr /\ v = .bool true /\ ∃ n',Sat W w' (fd b wr n' (l ++ [(kd,key)])::M)) \/ (wr <= n /\ v = .bool false /\ Sat W w' (fd b wr n l::M))) (some ⟨b,0,none⟩) kd key w:=by
  clear hs
  intro w hlt hs
  refine jw f81_j1_raw ?_
  refine nilck_some (ld_b hs ?_)
  refine nilck_some (st_b hs fun w hs=>?_)
  refine nilck_some (ld_b (x:=s) hs ?_)
  refine newB_at hs fun nb w hs=>?_
  refine app_one (s:=s) (a:=((kd,key):Ev)) hs rfl rfl rfl rfl (by decide) (by omega) fun s5 w hs5 hs=>?_
  refine nilck_some (st_b hs fun w hs=>?_)
  exact .inl ⟨hlt,rfl,_,fd_shut (s:=s5) (by exact Sat.fin hs)⟩
 refine drawW_only [cF b s r n rd wr lo] hs fun w hs=>?_
 with_reducible refine ite_by (fun h1=>?_) (fun h1=>?_)
 ·with_reducible refine ite_by (fun h2=>?_) (fun h2=>?_)
  ·omega
  ·refine nilck_some (ldS_b (nilck_some (ld_b hs (keep_imp hs ?_))))
   with_reducible refine ite_by (fun h3=>?_) (fun h3=>?_)
   ·exact .inr ⟨h3,rfl,fd_shut hs⟩
   ·exact j1 w (by omega) hs
 ·refine nilck_some (ldS_b (nilck_some (ld_b hs (keep_imp hs ?_))))
  with_reducible refine ite_by (fun h3=>?_) (fun h3=>?_)
  ·exact .inr ⟨h3,rfl,fd_shut hs⟩
  ·exact j1 w (by omega) hs
theorem q22_Drain (hs:Sat W w (fd b wr n l::M)):Rts Tryz.prog 82 #[.pointer (some ⟨b,0,none⟩)] w fun v w'=>∃ s:Sl,v = .slice s.a s.n s.c /\ Sat W w' (recs evR s l::fd b wr 0 []::M):=by
 refine cw f82_ok f82_raw ?_
 obtain ⟨s,r,rd,lo,hsn,hs⟩:=fd_open hs
 refine nilck_some (ld_b (x:=s) hs ?_)
 refine nilck_some (st_b hs fun w hs=>?_)
 refine nilck_some (st_b hs fun w hs=>?_)
 refine nilck_some (st_b hs fun w hs=>?_)
 have hs:=Sat.nilR evR hs
 have hs:Sat W w (fd b wr 0 []::recs evR s l::M):=fd_shut (s:=⟨none,0,0⟩) (r:=0) (rd:=rd) (lo:=lo) (by exact Sat.fin hs)
 exact ⟨s,rfl,by exact Sat.fin hs⟩
theorem q23_New (hs:Sat W w L) {k r:Int}:Rts Tryz.prog 27 #[.int .i64 k,.int .i64 r] w fun v w'=>(∃ b,v = .tuple #[.pointer (some ⟨b,0,none⟩),.int .i64 0] /\ Sat W w' (mvR b (roomR r) []::L)) \/ (v = .tuple #[.pointer none,.int .i64 4] /\ Sat W w' L):=by
 refine cw f27_ok f27_raw ?_
 refine call2_ret (q15_New hs) fun v w hN=>?_
 have hr:=roomR_in r
 rcases hN with ⟨_,e,hv,hs⟩ | ⟨_,hv,hs⟩
 ·refine ⟨_,_,hv,?_⟩
  refine ite_false rfl ?_
  refine newB_at hs fun b w hs=>?_
  exact .inl ⟨b,rfl,mv_shut0 (e:=e) (EOk.nil hr.1 hr.2) hs⟩
 ·refine ⟨_,_,hv,?_⟩
  exact ite_true rfl (.inr ⟨rfl,hs⟩)
theorem q23_Has (hs:Sat W w (mvR b c R::M)):Rts Tryz.prog 84 #[.pointer (some ⟨b,0,none⟩),.string key] w fun v w'=>v = .bool (decide (key ∈ R)) /\ Sat W w' (mvR b c R::M):=by
 refine cw f84_ok f84_raw ?_
 refine mv_cases hs (fun e hk hs=>?_) (fun e q A B hR hk hs=>?_)
 ·refine nilck_some (ld_b hs ?_)
  have hs:Sat W w (eng e c R::blk b [.pointer (some ⟨e,0,none⟩),.pointer none]::M):=by exact Sat.fin hs
  refine call1_ret (q15_Has hs) fun v w ⟨hv,hs⟩=>⟨_,hv,?_⟩
  with_reducible refine ite_by (fun h1=>?_) (fun h1=>?_)
  ·rw [decide_eq_true h1]; exact ⟨rfl,mv_shut0 hk (by exact Sat.fin hs)⟩
  refine nilck_some (ld_b hs ?_)
  refine ite_false rfl ?_
  rw [decide_eq_false h1]; exact ⟨rfl,mv_shut0 hk (by exact Sat.fin hs)⟩
 ·refine nilck_some (ld_b hs ?_)
  have hs:Sat W w (eng e c A::blk b [.pointer (some ⟨e,0,none⟩),.pointer (some ⟨q,0,none⟩)]::eng q c B::M):=by exact Sat.fin hs
  refine call1_ret (q15_Has hs) fun v w ⟨hv,hs⟩=>⟨_,hv,?_⟩
  with_reducible refine ite_by (fun h1=>?_) (fun h1=>?_)
  ·rw [decide_eq_true (show key ∈ R by rw [hR]; exact List.mem_append_left _ h1)]; exact ⟨rfl,mv_shut1 hR hk (by exact Sat.fin hs)⟩
  refine nilck_some (ld_b hs ?_)
  refine ite_true rfl ?_
  refine nilck_some (ld_b hs ?_)
  have hs:Sat W w (eng q c B::blk b [.pointer (some ⟨e,0,none⟩),.pointer (some ⟨q,0,none⟩)]::eng e c A::M):=by exact Sat.fin hs
  refine call1_ret (q15_Has hs) fun v w ⟨hv,hs⟩=>⟨_,hv,?_⟩
  refine ⟨?_,mv_shut1 hR hk (by exact Sat.fin hs)⟩
  rw [show decide (key ∈ B) = decide (key ∈ R) by rw [decide_eq_decide,hR,List.mem_append]; exact ⟨.inr,fun h=>h.elim (fun h=>absurd h h1) id⟩]
theorem q23_read (hk:key ∈ R) (hz:key.size < 64) (hs:Sat W w (mvR b c R::M)):Rts Tryz.prog 85 #[.pointer (some ⟨b,0,none⟩),.string key] w fun v w'=>∃ (l:Sl) (S:BL),v = .slice l.a l.n l.c /\ (∀ x,x ∈ S ↔ x ∈ R) /\ Sat W w' (mvR b c S::recs Rec.str l []::M):=by
 refine cw f85_ok f85_raw ?_
 refine mv_cases hs (fun e hkR hs=>?_) (fun e q A B hR hkR hs=>?_)
 ·refine nilck_some (ld_b hs ?_)
  refine ite_false rfl ?_
  refine jw f85_j1_raw ?_
  refine ite_false rfl ?_
  refine jw f85_j2_raw ?_
  refine nilck_some (ld_b hs ?_)
  have hs:Sat W w (eng e c R::blk b [.pointer (some ⟨e,0,none⟩),.pointer none]::M):=by exact Sat.fin hs
  refine call2_ret (q15_Access hs hz) fun v w ⟨hit,l,g,S,hv,ha,hs⟩=>⟨_,_,hv,?_⟩
  obtain ⟨hg,hm⟩:=ha.ins.has hk
  subst hg
  exact ⟨l,S,rfl,hm,mv_shut0 ha.ok (by exact Sat.fin hs)⟩
 ·have hnR:=hR ▸ hkR.nd
  have hnB:=(List.nodup_append.1 hnR).2.1
  have hdis:∀ x ∈ A,x ∉ B:=fun x h1 h2=>(List.nodup_append.1 hnR).2.2 x h1 x h2 rfl
  have hrm:=hkR.room
  have hll:R.length = A.length + B.length:=by rw [hR]; simp
  have last:∀ (w:World) (A B:BL),key ∈ A -> (∀ x ∈ A,x ∉ B) -> B.Nodup -> (∀ x,x ∈ A ++ B ↔ x ∈ R) -> Sat W w (eng e c A::blk b [.pointer (some ⟨e,0,none⟩),.pointer (some ⟨q,0,none⟩)]::eng q c B::M) ->
    f85_j2 idJ (fun v w'=>∃ (l:Sl) (S:BL),v = .slice l.a l.n l.c /\ (∀ x,x ∈ S ↔ x ∈ R) /\ Sat W w' (mvR b c S::recs Rec.str l []::M)) (some ⟨b,0,none⟩) key w:=by
   clear hs hdis hnB hnR hR hll
   intro w A B hkA hd hnB hm hs
   refine jw f85_j2_raw ?_
   refine nilck_some (ld_b hs ?_)
   refine call2_ret (q15_Access hs hz) fun v w ⟨hit,l,g,S,hv,ha,hs⟩=>⟨_,_,hv,?_⟩
   obtain ⟨hg,hmS⟩:=ha.ins.has hkA
   subst hg
   have hm2:∀ x,x ∈ S ++ B ↔ x ∈ R:=fun x=>by rw [<- hm,List.mem_append,List.mem_append,hmS]
   have hk2:=hkR.same (nd_app ha.ok.nd hnB fun x h=>hd x ((hmS x).1 h)) hm2
   exact ⟨l,S ++ B,rfl,hm2,mv_shut1 rfl hk2 (by exact Sat.fin hs)⟩
  refine nilck_some (ld_b hs ?_)
  refine ite_true rfl ?_
  refine nilck_some (ld_b hs ?_)
  have hs:Sat W w (eng q c B::blk b [.pointer (some ⟨e,0,none⟩),.pointer (some ⟨q,0,none⟩)]::eng e c A::M):=by exact Sat.fin hs
  refine call1_ret (q15_Has hs) fun v w ⟨hv,hs⟩=>⟨_,hv,?_⟩
  refine jw f85_j1_raw ?_
  with_reducible refine ite_by (fun h1=>?_) (fun h1=>?_)
  ·refine nilck_some (ld_b hs ?_)
   refine call1_ret (q15_Remove hs) fun v w ⟨yes,B',hv,hr,hs⟩=>⟨_,hv,?_⟩
   refine nilck_some (ld_b hs ?_)
   have hs:Sat W w (eng e c A::blk b [.pointer (some ⟨e,0,none⟩),.pointer (some ⟨q,0,none⟩)]::eng q c B'::M):=by exact Sat.fin hs
   refine call1_ret (q15_Load hs hz) fun v w ⟨yes2,A',hv,hl,hs⟩=>⟨_,hv,?_⟩
   have hkA:key ∉ A:=fun h=>hdis key h h1
   have hpos:=List.length_pos_of_mem h1
   have hy2:yes2 = true:=by rw [hl.says]; exact decide_eq_true ⟨hkA,by omega⟩
   have hmA:∀ x,x ∈ A' ↔ x ∈ A \/ x = key:=fun x=>by rw [hl.mem,hy2]; simp
   refine last w A' B' ((hmA key).2 (.inr rfl)) (fun x h2 h3=>?_) hr.ok.nd (fun x=>?_) hs
   ·rcases (hmA x).1 h2 with h4 | h4
    ·exact hdis x h4 ((hr.mem x).1 h3).1
    ·exact ((hr.mem x).1 h3).2 h4
   ·rw [List.mem_append,hmA,hr.mem,hR,List.mem_append]
    constructor
    ·rintro ((h | rfl) | h)
     ·exact .inl h
     ·exact .inr h1
     ·exact .inr h.1
    ·rintro (h | h)
     ·exact .inl (.inl h)
     ·by_cases hx:x = key
      ·exact .inl (.inr hx)
      ·exact .inr ⟨h,hx⟩
  ·refine last w A B ?_ hdis hnB (fun x=>by rw [hR]) (by exact Sat.fin hs)
   rw [hR,List.mem_append] at hk
   exact hk.elim id fun h=>absurd h h1
section
variable {e q:Nat} {A B:BL}
theorem q23_Left0 (hs:Sat W w (blk b [.pointer (some ⟨e,0,none⟩),.pointer none]::M)):Rts Tryz.prog 87 #[.pointer (some ⟨b,0,none⟩)] w fun v w'=>v = .int .i64 0 /\ Sat W w' (blk b [.pointer (some ⟨e,0,none⟩),.pointer none]::M):=by
 refine cw f87_ok f87_raw ?_
 refine nilck_some (ld_b hs ?_)
 exact ite_true rfl ⟨rfl,hs⟩
theorem q23_Left1 (hs:Sat W w (blk b [.pointer (some ⟨e,0,none⟩),.pointer (some ⟨q,0,none⟩)]::eng e c A::eng q c B::M)):Rts Tryz.prog 87 #[.pointer (some ⟨b,0,none⟩)] w fun v w'=>v = .int .i64 (B.length:Int) /\ Sat W w' (blk b [.pointer (some ⟨e,0,none⟩),.pointer (some ⟨q,0,none⟩)]::eng e c A::eng q c B::M):=by
 refine cw f87_ok f87_raw ?_
 refine nilck_some (ld_b hs ?_)
 refine ite_false rfl ?_
 refine nilck_some (ld_b hs ?_)
 have hs:Sat W w (eng q c B::blk b [.pointer (some ⟨e,0,none⟩),.pointer (some ⟨q,0,none⟩)]::eng e c A::M):=by exact Sat.fin hs
 exact call1_ret (q15_Len hs) fun v w ⟨hv,hs⟩=>⟨_,hv,rfl,by exact Sat.fin hs⟩
theorem q23_Len0 (hl:A.length <= 5000) (hs:Sat W w (blk b [.pointer (some ⟨e,0,none⟩),.pointer none]::eng e c A::M)):Rts Tryz.prog 86 #[.pointer (some ⟨b,0,none⟩)] w fun v w'=>v = .int .i64 (A.length:Int) /\ Sat W w' (blk b [.pointer (some ⟨e,0,none⟩),.pointer none]::eng e c A::M):=by
 refine cw f86_ok f86_raw ?_
 refine nilck_some (ld_b hs ?_)
 have hs:Sat W w (eng e c A::blk b [.pointer (some ⟨e,0,none⟩),.pointer none]::M):=by exact Sat.fin hs
 refine call1_ret (q15_Len hs) fun v w ⟨hv,hs⟩=>⟨_,hv,?_⟩
 have hs:Sat W w (blk b [.pointer (some ⟨e,0,none⟩),.pointer none]::eng e c A::M):=by exact Sat.fin hs
 refine call1_ret (q23_Left0 hs) fun v w ⟨hv,hs⟩=>⟨_,hv,?_⟩
 rw [i64_in _ (by omega)]
 exact ⟨by rw [Int.add_zero],hs⟩
theorem q23_Len1 (hl:A.length + B.length <= 5000) (hs:Sat W w (blk b [.pointer (some ⟨e,0,none⟩),.pointer (some ⟨q,0,none⟩)]::eng e c A::eng q c B::M)):Rts Tryz.prog 86 #[.pointer (some ⟨b,0,none⟩)] w fun v w'=>v = .int .i64 ((A.length:Int) + B.length) /\ Sat W w' (blk b [.pointer (some ⟨e,0,none⟩),.pointer (some ⟨q,0,none⟩)]::eng e c A::eng q c B::M):=by
 refine cw f86_ok f86_raw ?_
 refine nilck_some (ld_b hs ?_)
 have hs:Sat W w (eng e c A::blk b [.pointer (some ⟨e,0,none⟩),.pointer (some ⟨q,0,none⟩)]::eng q c B::M):=by exact Sat.fin hs
 refine call1_ret (q15_Len hs) fun v w ⟨hv,hs⟩=>⟨_,hv,?_⟩
 have hs:Sat W w (blk b [.pointer (some ⟨e,0,none⟩),.pointer (some ⟨q,0,none⟩)]::eng e c A::eng q c B::M):=by exact Sat.fin hs
 refine call1_ret (q23_Left1 hs) fun v w ⟨hv,hs⟩=>⟨_,hv,?_⟩
 rw [i64_in _ (by omega)]
 exact ⟨rfl,hs⟩
end
theorem ins_new {A B g0 g A':BL} {hit:Bool} (hR:EOk c R) (hno:key ∉ R) (hA:A.Nodup) (hB:B.Nodup) (hd:∀ x ∈ A,x ∉ B) (hsub:∀ x ∈ g0,x ∈ R) (hmem:∀ x,x ∈ A ++ B ↔ x ∈ R /\ x ∉ g0) (hg1:g0.length <= 1)
  (hcalm:(R.length:Int) < c -> g0 = []) (hroom:(A.length:Int) + B.length < c \/ (B = [] /\ g0 = [])) (ha:AccR c A key hit g A'):InsR c R key (g0 ++ g) (A' ++ B):=by
 have hkA:key ∉ A:=fun h=>hno ((hmem key).1 (List.mem_append_left _ h)).1
 have hkB:key ∉ B:=fun h=>hno ((hmem key).1 (List.mem_append_right _ h)).1
 have hdA':∀ x ∈ A',x ∉ B:=fun x h1 h2=>by
  rcases (ha.acc.mem x).1 h1 with h3 | h3
  ·exact hd x h3.1 h2
  ·exact hkB (h3 ▸ h2)
 have hnd:=nd_app ha.ok.nd hB hdA'
 rcases hroom with hlt | ⟨rfl,rfl⟩
 ·have hg:g = []:=ha.calm (by omega)
  subst hg
  have hlA:A'.length <= A.length + 1:=by
   have hs:∀ x ∈ A',x ∈ key::A:=fun x hx=>by
    rcases (ha.acc.mem x).1 hx with h | h
    ·exact .tail _ h.1
    ·exact h ▸ .head _
   have:=nodup_sub_len ha.ok.nd hs
   simpa using this
  have hk2:EOk c (A' ++ B):=⟨hnd,fun x hx=>by
   rcases List.mem_append.1 hx with h | h
   ·exact ha.ok.small x h
   ·exact hR.small x ((hmem x).1 (List.mem_append_right _ h)).1,by simp only [List.length_append]; omega,hR.c1,hR.c2⟩
  rw [List.append_nil]
  refine ⟨hk2,fun h=>absurd h hno,hsub,nd_le1 hg1,fun h=>hno (hsub _ h),fun x=>?_,hcalm⟩
  rw [List.mem_append,ha.acc.mem]
  have:=hmem x
  rw [List.mem_append] at this
  constructor
  ·rintro ((h | h) | h)
   ·exact .inl (this.1 (.inl h.1))
   ·exact .inr h
   ·exact .inl (this.1 (.inr h))
  ·rintro (h | h)
   ·rcases this.2 h with h | h
    ·exact .inl (.inl ⟨h,by simp⟩)
    ·exact .inr h
   ·exact .inl (.inr h)
 ·rw [List.append_nil,List.nil_append]
  have hm:∀ x,x ∈ A ↔ x ∈ R:=fun x=>by have:=hmem x; rw [List.append_nil] at this; rw [this]; simp
  have hin:=ha.ins
  have hl:A.length = R.length:=same_len hR hA hm
  refine ⟨ha.ok,fun h=>absurd h hno,fun x hx=>(hm x).1 (hin.sub x hx),hin.nd,hin.no,fun x=>?_,fun h=>ha.calm (by omega)⟩
  rw [ha.acc.mem,hm]
theorem q23_Insert (hz:key.size < 64) (hs:Sat W w (mvR b c R::M)):Rts Tryz.prog 48 #[.pointer (some ⟨b,0,none⟩),.string key] w fun v w'=>∃ (l:Sl) (g S:BL),v = .slice l.a l.n l.c /\ InsR c R key g S /\ Sat W w' (mvR b c S::recs Rec.str l g::M):=by
 refine cw f48_ok f48_raw ?_
 refine call1_ret (q23_Has hs) fun v w ⟨hv,hs⟩=>⟨_,hv,?_⟩
 have hkR:=mv_ok hs
 have hrm:=hkR.room; have hc2:=hkR.c2
 with_reducible refine ite_by (fun h0=>?_) (fun h0=>?_)
 ·refine call1_ret (q23_read h0 hz hs) fun v w ⟨l,S,hv,hm,hs⟩=>⟨_,hv,?_⟩
  have hk2:=mv_ok hs
  exact ⟨l,[],S,rfl,⟨hk2,fun _=>⟨rfl,hm⟩,by simp,by simp,by simp,fun x=>by
   rw [hm]
   constructor
   ·exact fun h=>.inl ⟨h,by simp⟩
   ·rintro (h | rfl)
    ·exact h.1
    ·exact h0,fun _=>rfl⟩,hs⟩
 refine mv_cases hs (fun e hk hs=>?_) (fun e q A B hR hk hs=>?_)
 ·have hs:=Sat.nilR Rec.str hs
  have j3:∀ (w:World),Sat W w (blk b [.pointer (some ⟨e,0,none⟩),.pointer none]::eng e c R::recs Rec.str ⟨none,0,0⟩ []::M) -> f48_j3 idJ (fun v w'=>∃ (l:Sl) (g S:BL),v = .slice l.a l.n l.c /\ InsR c R key g S /\ Sat W w' (mvR b c S::recs Rec.str l g::M)) (some ⟨b,0,none⟩) key ⟨none,0,0⟩ w:=by
   clear hs
   intro w hs
   refine jw f48_j3_raw ?_
   refine nilck_some (ld_b hs ?_)
   have hs:Sat W w (eng e c R::blk b [.pointer (some ⟨e,0,none⟩),.pointer none]::recs Rec.str ⟨none,0,0⟩ []::M):=by exact Sat.fin hs
   refine call2_ret (q15_Access hs hz) fun v w ⟨hit,l,g,S,hv,ha,hs⟩=>⟨_,_,hv,?_⟩
   have hle:=ha.acc.le1
   have hs:Sat W w (recs Rec.str ⟨none,0,0⟩ []::recs Rec.str l g::eng e c S::blk b [.pointer (some ⟨e,0,none⟩),.pointer none]::M):=by exact Sat.fin hs
   refine app_by (s:=⟨none,0,0⟩) (new:=g) hs (rd_rdb (s:=l) hs) (rdb_len (s:=l) hs) (okC_flat _) rfl (by decide) (by simp; omega) fun s6 w hs6 hs=>?_
   have hs:Sat W w (recs Rec.str s6 g::recs Rec.str l g::eng e c S::blk b [.pointer (some ⟨e,0,none⟩),.pointer none]::M):=hs
   exact ⟨s6,g,S,rfl,ha.ins,mv_shut0 (e:=e) ha.ok (by exact Sat.fin hs)⟩
  refine exM_of 1 ?_
  rw [f48_l1_raw]
  have hs:Sat W w (blk b [.pointer (some ⟨e,0,none⟩),.pointer none]::eng e c R::recs Rec.str ⟨none,0,0⟩ []::M):=by exact Sat.fin hs
  refine drawW_only [blk b [.pointer (some ⟨e,0,none⟩),.pointer none]] hs fun w hs=>?_
  refine nilck_some (ldS_b ?_)
  refine call1_ret (q23_Len0 (by omega) hs) fun v w ⟨hv,hs⟩=>⟨_,hv,keep_imp hs ?_⟩
  have hs:Sat W w (eng e c R::blk b [.pointer (some ⟨e,0,none⟩),.pointer none]::recs Rec.str ⟨none,0,0⟩ []::M):=by exact Sat.fin hs
  refine call1_ret (q15_Room hs) fun v w ⟨hv,hs⟩=>⟨_,hv,?_⟩
  have hs:Sat W w (blk b [.pointer (some ⟨e,0,none⟩),.pointer none]::eng e c R::recs Rec.str ⟨none,0,0⟩ []::M):=by exact Sat.fin hs
  refine ite_cases (fun _=>?_) (fun _=>j3 w hs)
  refine call1_ret (q23_Left0 hs) fun v w ⟨hv,hs⟩=>⟨_,hv,?_⟩
  exact ite_false rfl (j3 w hs)
 ·have hnR:=hR ▸ hk.nd
  have hnA:=(List.nodup_append.1 hnR).1
  have hnB:=(List.nodup_append.1 hnR).2.1
  have hdis:∀ x ∈ A,x ∉ B:=fun x h1 h2=>(List.nodup_append.1 hnR).2.2 x h1 x h2 rfl
  have hll:R.length = A.length + B.length:=by rw [hR]; simp
  have j3:∀ (w:World) (l0:Sl) (g0 B:BL),B.Nodup -> (∀ x ∈ A,x ∉ B) -> (∀ x ∈ g0,x ∈ R) -> (∀ x,x ∈ A ++ B ↔ x ∈ R /\ x ∉ g0) -> g0.length <= 1 -> ((R.length:Int) < c -> g0 = []) -> ((A.length:Int) + B.length < c \/ (B = [] /\ g0 = [])) ->
    Sat W w (blk b [.pointer (some ⟨e,0,none⟩),.pointer (some ⟨q,0,none⟩)]::eng e c A::eng q c B::recs Rec.str l0 g0::M) -> f48_j3 idJ (fun v w'=>∃ (l:Sl) (g S:BL),v = .slice l.a l.n l.c /\ InsR c R key g S /\ Sat W w' (mvR b c S::recs Rec.str l g::M)) (some ⟨b,0,none⟩) key l0 w:=by
   clear hs hdis hnB hnR hR hll
   intro w l0 g0 B hnB hdis hsub hmem hg1 hcalm hroom hs
   refine jw f48_j3_raw ?_
   refine nilck_some (ld_b hs ?_)
   have hs:Sat W w (eng e c A::blk b [.pointer (some ⟨e,0,none⟩),.pointer (some ⟨q,0,none⟩)]::eng q c B::recs Rec.str l0 g0::M):=by exact Sat.fin hs
   refine call2_ret (q15_Access hs hz) fun v w ⟨hit,l,g,S,hv,ha,hs⟩=>⟨_,_,hv,?_⟩
   have hle:=ha.acc.le1
   have hin:=ins_new hk h0 hnA hnB hdis hsub hmem hg1 hcalm hroom ha
   have hs:Sat W w (recs Rec.str l0 g0::recs Rec.str l g::eng e c S::blk b [.pointer (some ⟨e,0,none⟩),.pointer (some ⟨q,0,none⟩)]::eng q c B::M):=by exact Sat.fin hs
   refine app_by (s:=l0) (new:=g) hs (rd_rdb (s:=l) hs) (rdb_len (s:=l) hs) (okC_flat _) rfl (by decide) (by omega) fun s6 w hs6 hs=>?_
   have hs:Sat W w (recs Rec.str s6 (g0 ++ g)::recs Rec.str l g::eng e c S::blk b [.pointer (some ⟨e,0,none⟩),.pointer (some ⟨q,0,none⟩)]::eng q c B::M):=hs
   exact ⟨s6,g0 ++ g,S ++ B,rfl,hin,mv_shut1 (e:=e) (q:=q) rfl hin.ok (by exact Sat.fin hs)⟩
  have hs:=Sat.nilR Rec.str hs
  have hs:Sat W w (blk b [.pointer (some ⟨e,0,none⟩),.pointer (some ⟨q,0,none⟩)]::eng e c A::eng q c B::recs Rec.str ⟨none,0,0⟩ []::M):=by exact Sat.fin hs
  have test:∀ (w:World) (f:Nat) (l0:Sl) (g0 B:BL),A.length + B.length <= 5000 -> Sat W w (blk b [.pointer (some ⟨e,0,none⟩),.pointer (some ⟨q,0,none⟩)]::eng e c A::eng q c B::recs Rec.str l0 g0::M) ->
    ((A.length:Int) + B.length >= c -> B.length > 0 -> ∀ w,Sat W w (blk b [.pointer (some ⟨e,0,none⟩),.pointer (some ⟨q,0,none⟩)]::eng e c A::eng q c B::recs Rec.str l0 g0::M) -> f48_j2 idJ (fun v w'=>∃ (l:Sl) (g S:BL),v = .slice l.a l.n l.c /\ InsR c R key g S /\ Sat W w' (mvR b c S::recs Rec.str l g::M)) f (some ⟨b,0,none⟩) key l0 w) ->
    ((A.length:Int) + B.length < c \/ B.length = 0 -> ∀ w,Sat W w (blk b [.pointer (some ⟨e,0,none⟩),.pointer (some ⟨q,0,none⟩)]::eng e c A::eng q c B::recs Rec.str l0 g0::M) -> f48_j3 idJ (fun v w'=>∃ (l:Sl) (g S:BL),v = .slice l.a l.n l.c /\ InsR c R key g S /\ Sat W w' (mvR b c S::recs Rec.str l g::M)) (some ⟨b,0,none⟩) key l0 w) ->
    f48_l1 idJ (fun v w'=>∃ (l:Sl) (g S:BL),v = .slice l.a l.n l.c /\ InsR c R key g S /\ Sat W w' (mvR b c S::recs Rec.str l g::M)) (f + 1) (some ⟨b,0,none⟩) key l0 w:=by
   clear hs hdis hnB hnR hR hll j3
   intro w f l0 g0 B hl hs h2 h3
   rw [f48_l1_raw]
   refine drawW_only [blk b [.pointer (some ⟨e,0,none⟩),.pointer (some ⟨q,0,none⟩)]] hs fun w hs=>?_
   refine nilck_some (ldS_b ?_)
   refine call1_ret (q23_Len1 hl hs) fun v w ⟨hv,hs⟩=>⟨_,hv,keep_imp hs ?_⟩
   have hs:Sat W w (eng e c A::blk b [.pointer (some ⟨e,0,none⟩),.pointer (some ⟨q,0,none⟩)]::eng q c B::recs Rec.str l0 g0::M):=by exact Sat.fin hs
   refine call1_ret (q15_Room hs) fun v w ⟨hv,hs⟩=>⟨_,hv,?_⟩
   have hs:Sat W w (blk b [.pointer (some ⟨e,0,none⟩),.pointer (some ⟨q,0,none⟩)]::eng e c A::eng q c B::recs Rec.str l0 g0::M):=by exact Sat.fin hs
   with_reducible refine ite_by (fun h4=>?_) (fun h4=>?_)
   ·refine call1_ret (q23_Left1 hs) fun v w ⟨hv,hs⟩=>⟨_,hv,?_⟩
    with_reducible refine ite_by (fun h5=>?_) (fun h5=>?_)
    ·exact h2 h4 (by omega) w hs
    ·exact h3 (.inr (by omega)) w hs
   ·exact h3 (.inl (by omega)) w hs
  refine exM_of 2 ?_
  refine test w 1 _ [] B (by omega) hs (fun h4 h5 w hs=>?_) (fun h4 w hs=>?_)
  ·refine jw f48_j2_raw ?_
   refine nilck_some (ld_b hs ?_)
   have hs:Sat W w (eng q c B::blk b [.pointer (some ⟨e,0,none⟩),.pointer (some ⟨q,0,none⟩)]::eng e c A::recs Rec.str ⟨none,0,0⟩ []::M):=by exact Sat.fin hs
   refine call2_ret (q15_Evict hs) fun v w ⟨x,yes,B',hv,hev,hs⟩=>⟨_,_,hv,?_⟩
   have hy:yes = true:=by rw [hev.says]; exact decide_eq_true h5
   subst hy
   have hxB:=hev.of rfl
   have hpl:B.length = B'.length + 1:=by
    have hp:=perm_minus hnB hev.ok.nd hxB hev.mem'
    simpa using hp.length_eq
   refine newB_at hs fun nb w hs=>?_
   have hs:Sat W w (recs Rec.str ⟨none,0,0⟩ []::blk nb [.string x]::blk b [.pointer (some ⟨e,0,none⟩),.pointer (some ⟨q,0,none⟩)]::eng e c A::eng q c B'::M):=by exact Sat.fin hs
   refine app_one (s:=⟨none,0,0⟩) (a:=x) hs rfl rfl rfl rfl (by decide) (by simp) fun s5 w hs5 hs=>?_
   have hs:Sat W w (recs Rec.str s5 [x]::blk nb [.string x]::blk b [.pointer (some ⟨e,0,none⟩),.pointer (some ⟨q,0,none⟩)]::eng e c A::eng q c B'::M):=hs
   have hs:Sat W w (blk b [.pointer (some ⟨e,0,none⟩),.pointer (some ⟨q,0,none⟩)]::eng e c A::eng q c B'::recs Rec.str s5 [x]::M):=by exact Sat.fin hs
   refine test w 0 s5 [x] B' (by omega) hs (fun h6 _ w hs=>by omega) (fun _ w hs=>?_)
   refine j3 w s5 [x] B' hev.ok.nd (fun y h1 h2=>hdis y h1 ((hev.mem' y).1 h2).1) (fun y hy=>by rw [List.mem_singleton] at hy; subst hy; rw [hR]; exact List.mem_append_right _ hxB) (fun y=>?_) (by simp) (fun h=>by omega) (.inl (by omega)) hs
   rw [List.mem_append,hev.mem',hR,List.mem_append,List.mem_singleton]
   constructor
   ·rintro (h | h)
    ·exact ⟨.inl h,fun e=>hdis y h (e ▸ hxB)⟩
    ·exact ⟨.inr h.1,h.2⟩
   ·rintro ⟨h | h,h2⟩
    ·exact .inl h
    ·exact .inr ⟨h,h2⟩
  ·exact j3 w _ [] B hnB hdis (by simp) (fun y=>by rw [hR]; simp) (by simp) (fun _=>rfl) (by
    rcases h4 with h4 | h4
    ·exact .inl h4
    ·exact .inr ⟨List.length_eq_zero_iff.1 h4,rfl⟩) hs
theorem q23_Apply {ev:Ev} {K:BL} (hz:ev.2.size < 64) (hev:EvS c R ev K) (hs:Sat W w (mvR b c R::M)):Rts Tryz.prog 83 #[.pointer (some ⟨b,0,none⟩),.agg #[.int .i64 ev.1,.string ev.2]] w fun v w'=>∃ (l:Sl) (S:BL),v = .slice l.a l.n l.c /\ (∀ x,x ∈ S ↔ x ∈ K) /\ Sat W w' (mvR b c S::recs Rec.str l []::M):=by
 obtain ⟨kd,key⟩:=ev
 obtain ⟨hkK,hmK⟩:=hev
 refine cw f83_ok f83_raw ?_
 have hkR:=mv_ok hs
 refine newB_at hs fun nb w hs=>?_
 have hs:Sat W w (mvR b c R::blk nb [.int .i64 kd,.string key]::M):=by exact Sat.fin hs
 refine ld_b hs ?_
 with_reducible refine ite_by (fun h1=>?_) (fun h1=>?_)
 ·have hmK:∀ x,x ∈ K ↔ x ∈ R:=fun x=>by have:=hmK x; rw [if_neg (by omega),if_neg (by omega)] at this; exact this
  refine ld_b hs ?_
  refine call1_ret (q23_Has hs) fun v w ⟨hv,hs⟩=>⟨_,hv,?_⟩
  with_reducible refine ite_by (fun h2=>?_) (fun h2=>?_)
  ·refine ld_b hs ?_
   refine call1_ret (q23_read h2 hz hs) fun v w ⟨l,S,hv,hm,hs⟩=>⟨_,hv,?_⟩
   exact ⟨l,S,rfl,fun x=>by rw [hm,hmK],by exact Sat.fin hs⟩
  ·have hs:=Sat.nilR Rec.str hs
   exact ⟨⟨none,0,0⟩,R,rfl,fun x=>(hmK x).symm,by exact Sat.fin hs⟩
 with_reducible refine ite_by (fun h2=>?_) (fun h2=>?_)
 ·have hmK:∀ x,x ∈ K ↔ x ∈ R \/ x = key:=fun x=>by have:=hmK x; rw [if_pos h2] at this; exact this
  refine ld_b hs ?_
  refine call1_ret (q23_Insert hz hs) fun v w ⟨l,g,S,hv,hin,hs⟩=>⟨_,hv,?_⟩
  by_cases hk:key ∈ R
  ·obtain ⟨rfl,hm⟩:=hin.has hk
   refine ⟨l,S,rfl,fun x=>?_,by exact Sat.fin hs⟩
   rw [hm,hmK]
   exact ⟨.inl,fun h=>h.elim id fun h=>h ▸ hk⟩
  ·have hlt:(R.length:Int) < c:=by
    have hsub:∀ x ∈ key::R,x ∈ K:=fun x hx=>(hmK x).2 (by
     rcases List.mem_cons.1 hx with h | h
     ·exact .inr h
     ·exact .inl h)
    have:=nodup_sub_len (List.nodup_cons.2 ⟨hk,hkR.nd⟩) hsub
    have hr:=hkK.room
    simp only [List.length_cons] at this
    omega
   have hg:=hin.calm hlt
   subst hg
   refine ⟨l,S,rfl,fun x=>?_,by exact Sat.fin hs⟩
   rw [hin.mem,hmK]
   simp
 with_reducible refine ite_by (fun h3=>?_) (fun h3=>?_)
 ·have hmK:∀ x,x ∈ K ↔ x ∈ R /\ x ≠ key:=fun x=>by have:=hmK x; rw [if_neg h2,if_pos h3] at this; exact this
  refine mv_cases hs (fun e hk hs=>?_) (fun e q A B hR hk hs=>?_)
  ·refine drawW_only [blk b [.pointer (some ⟨e,0,none⟩),.pointer none],blk nb [.int .i64 kd,.string key]] hs fun w hs=>?_
   refine nilck_some (ldS_b (ld_b hs (keep_imp hs ?_)))
   have hs:Sat W w (eng e c R::blk b [.pointer (some ⟨e,0,none⟩),.pointer none]::M):=by exact Sat.fin hs
   refine call1_ret (q15_Remove hs) fun v w ⟨yes,S,hv,hr,hs⟩=>⟨_,hv,?_⟩
   refine nilck_some (ld_b hs ?_)
   refine ite_false rfl ?_
   have hs:=Sat.nilR Rec.str hs
   exact ⟨⟨none,0,0⟩,S,rfl,fun x=>by rw [hr.mem,hmK],mv_shut0 (e:=e) hr.ok (by exact Sat.fin hs)⟩
  ·have hnR:=hR ▸ hk.nd
   have hdis:∀ x ∈ A,x ∉ B:=fun x h1 h2=>(List.nodup_append.1 hnR).2.2 x h1 x h2 rfl
   refine drawW_only [blk b [.pointer (some ⟨e,0,none⟩),.pointer (some ⟨q,0,none⟩)],blk nb [.int .i64 kd,.string key]] hs fun w hs=>?_
   refine nilck_some (ldS_b (ld_b hs (keep_imp hs ?_)))
   have hs:Sat W w (eng e c A::blk b [.pointer (some ⟨e,0,none⟩),.pointer (some ⟨q,0,none⟩)]::eng q c B::blk nb [.int .i64 kd,.string key]::M):=by exact Sat.fin hs
   refine call1_ret (q15_Remove hs) fun v w ⟨yes,A',hv,hr,hs⟩=>⟨_,hv,?_⟩
   refine nilck_some (ld_b hs ?_)
   refine ite_true rfl ?_
   refine drawW_only [blk b [.pointer (some ⟨e,0,none⟩),.pointer (some ⟨q,0,none⟩)],blk nb [.int .i64 kd,.string key]] hs fun w hs=>?_
   refine nilck_some (ldS_b (ld_b hs (keep_imp hs ?_)))
   have hs:Sat W w (eng q c B::blk b [.pointer (some ⟨e,0,none⟩),.pointer (some ⟨q,0,none⟩)]::eng e c A'::M):=by exact Sat.fin hs
   refine call1_ret (q15_Remove hs) fun v w ⟨yes2,B',hv,hr2,hs⟩=>⟨_,hv,?_⟩
   have hs:=Sat.nilR Rec.str hs
   have hm:∀ x,x ∈ A' ++ B' ↔ x ∈ K:=fun x=>by
    rw [List.mem_append,hr.mem,hr2.mem,hmK,hR,List.mem_append]
    constructor
    ·rintro (h | h)
     ·exact ⟨.inl h.1,h.2⟩
     ·exact ⟨.inr h.1,h.2⟩
    ·rintro ⟨h | h,h2⟩
     ·exact .inl ⟨h,h2⟩
     ·exact .inr ⟨h,h2⟩
   have hk2:=hkK.same (nd_app hr.ok.nd hr2.ok.nd fun x h1 h2=>hdis x ((hr.mem x).1 h1).1 ((hr2.mem x).1 h2).1) hm
   exact ⟨⟨none,0,0⟩,A' ++ B',rfl,hm,mv_shut1 (e:=e) (q:=q) rfl hk2 (by exact Sat.fin hs)⟩
 ·have hmK:∀ x,x ∈ K ↔ x ∈ R:=fun x=>by have:=hmK x; rw [if_neg h2,if_neg h3] at this; exact this
  have hs:=Sat.nilR Rec.str hs
  exact ⟨⟨none,0,0⟩,R,rfl,fun x=>(hmK x).symm,by exact Sat.fin hs⟩
theorem q23_Step1 {e q:Nat} {A B:BL} (hk:EOk c (A ++ B)) (hs:Sat W w (blk b [.pointer (some ⟨e,0,none⟩),.pointer (some ⟨q,0,none⟩)]::eng e c A::eng q c B::M)):Rts Tryz.prog 91 #[.pointer (some ⟨b,0,none⟩)] w fun v w'=>
  (v = .tuple #[.string ⟨#[]⟩,.bool false] /\ B = [] /\ Sat W w' (blk b [.pointer (some ⟨e,0,none⟩),.pointer none]::eng e c A::M)) \/ (∃ (k:ByteArray) (A' B':BL),v = .tuple #[.string k,.bool true] /\ B'.length + 1 = B.length /\ (∀ x,x ∈ A' ++ B' ↔ x ∈ A ++ B) /\ EOk c (A' ++ B') /\ Sat W w' (blk b [.pointer (some ⟨e,0,none⟩),.pointer (some ⟨q,0,none⟩)]::eng e c A'::eng q c B'::M)):=by
 refine cw f91_ok f91_raw ?_
 have hnA:=(List.nodup_append.1 hk.nd).1
 have hnB:=(List.nodup_append.1 hk.nd).2.1
 have hdis:∀ x ∈ A,x ∉ B:=fun x h1 h2=>(List.nodup_append.1 hk.nd).2.2 x h1 x h2 rfl
 have hrm:=hk.room
 simp only [List.length_append] at hrm
 refine nilck_some (ld_b hs ?_)
 refine ite_false rfl ?_
 refine nilck_some (ld_b hs ?_)
 have hs:Sat W w (eng q c B::blk b [.pointer (some ⟨e,0,none⟩),.pointer (some ⟨q,0,none⟩)]::eng e c A::M):=by exact Sat.fin hs
 refine call1_ret (q15_Keys hs) fun v w ⟨l,hv,hs⟩=>⟨_,hv,?_⟩
 have hln:=rdb_len (s:=l) hs
 with_reducible refine ite_by (fun h1=>?_) (fun h1=>?_)
 ·refine nilck_some (st_b hs fun w hs=>?_)
  have hB:B = []:=List.length_eq_zero_iff.1 (by omega)
  exact .inl ⟨rfl,hB,by exact Sat.fin hs⟩
 have h0:0 < B.length:=by omega
 have hin:hd0 B ∈ B:=by rw [<- hd_getD h0]; exact getD_mem h0
 have hz:(hd0 B).size < 64:=hk.small _ (List.mem_append_right _ hin)
 refine drawW_only [blk b [.pointer (some ⟨e,0,none⟩),.pointer (some ⟨q,0,none⟩)],recs Rec.str l B] hs fun w hs=>?_
 refine nilck_some (ldS_b ?_)
 refine idx_rd (s:=l) hs fun b_ o_ ha_=>?_
 refine ld_rd0 ha_ hs ?_
 rw [hd_getD h0]
 refine keep_imp hs ?_
 have hs:Sat W w (eng q c B::blk b [.pointer (some ⟨e,0,none⟩),.pointer (some ⟨q,0,none⟩)]::eng e c A::recs Rec.str l B::M):=by exact Sat.fin hs
 refine call1_ret (q15_Remove hs) fun v w ⟨yes,B',hv,hr,hs⟩=>⟨_,hv,?_⟩
 refine drawW_only [blk b [.pointer (some ⟨e,0,none⟩),.pointer (some ⟨q,0,none⟩)],recs Rec.str l B] hs fun w hs=>?_
 refine nilck_some (ldS_b ?_)
 refine idx_rd (s:=l) hs fun b_ o_ ha_=>?_
 refine ld_rd0 ha_ hs ?_
 rw [hd_getD h0]
 refine keep_imp hs ?_
 have hs:Sat W w (eng e c A::blk b [.pointer (some ⟨e,0,none⟩),.pointer (some ⟨q,0,none⟩)]::eng q c B'::recs Rec.str l B::M):=by exact Sat.fin hs
 refine call1_ret (q15_Load hs hz) fun v w ⟨yes2,A',hv,hl,hs⟩=>⟨_,hv,?_⟩
 refine idx_rd (s:=l) hs fun b_ o_ ha_=>?_
 refine ld_rd0 ha_ hs ?_
 rw [hd_getD h0]
 have hkA:hd0 B ∉ A:=fun h=>hdis _ h hin
 have hy2:yes2 = true:=by rw [hl.says]; exact decide_eq_true ⟨hkA,by omega⟩
 have hmA:∀ x,x ∈ A' ↔ x ∈ A \/ x = hd0 B:=fun x=>by rw [hl.mem,hy2]; simp
 have hm:∀ x,x ∈ A' ++ B' ↔ x ∈ A ++ B:=fun x=>by
  rw [List.mem_append,hmA,hr.mem,List.mem_append]
  constructor
  ·rintro ((h | h) | h)
   ·exact .inl h
   ·exact .inr (h ▸ hin)
   ·exact .inr h.1
  ·rintro (h | h)
   ·exact .inl (.inl h)
   ·by_cases hx:x = hd0 B
    ·exact .inl (.inr hx)
    ·exact .inr ⟨h,hx⟩
 have hd2:∀ x ∈ A',x ∉ B':=fun x h2 h3=>by
  rcases (hmA x).1 h2 with h4 | h4
  ·exact hdis x h4 ((hr.mem x).1 h3).1
  ·exact ((hr.mem x).1 h3).2 h4
 have hpl:=(perm_minus hnB hr.ok.nd hin hr.mem).length_eq
 simp only [List.length_cons] at hpl
 exact .inr ⟨hd0 B,A',B',rfl,by omega,hm,hk.same (nd_app hl.ok.nd hr.ok.nd hd2) hm,by exact Sat.fin hs⟩
theorem q23_Step (hs:Sat W w (mvR b c R::M)):Rts Tryz.prog 91 #[.pointer (some ⟨b,0,none⟩)] w fun v w'=>∃ (k:ByteArray) (t:Bool) (S:BL),v = .tuple #[.string k,.bool t] /\ (∀ x,x ∈ S ↔ x ∈ R) /\ Sat W w' (mvR b c S::M):=by
 refine mv_cases hs (fun e hk hs=>?_) (fun e q A B hR hk hs=>?_)
 ·refine cw f91_ok f91_raw ?_
  refine nilck_some (ld_b hs ?_)
  refine ite_true rfl ?_
  exact ⟨_,_,R,rfl,fun _=>Iff.rfl,mv_shut0 hk hs⟩
 ·rw [hR] at hk
  refine (q23_Step1 hk hs).mono fun v w' h=>?_
  rcases h with ⟨hv,hB,hs⟩ | ⟨k,A',B',hv,_,hm,hk2,hs⟩
  ·have hA:A ++ B = A:=by rw [hB,List.append_nil]
   rw [hA] at hk
   exact ⟨_,_,A,hv,fun x=>by rw [hR,hA],mv_shut0 hk hs⟩
  ·exact ⟨k,true,A' ++ B',hv,fun x=>by rw [hm,hR],mv_shut1 rfl hk2 hs⟩
theorem q23_Finish (hs:Sat W w (mvR b c R::M)):Rts Tryz.prog 136 #[.pointer (some ⟨b,0,none⟩)] w fun v w'=>∃ (n:Int) (e:Nat) (S:BL),v = .int .i64 n /\ (∀ x,x ∈ S ↔ x ∈ R) /\ EOk c S /\ Sat W w' (blk b [.pointer (some ⟨e,0,none⟩),.pointer none]::eng e c S::M):=by
 refine cw f136_ok f136_raw ?_
 have done:∀ (f:Nat) (w:World) (e:Nat) (S:BL) (n:Int),(∀ x,x ∈ S ↔ x ∈ R) -> EOk c S -> Sat W w (blk b [.pointer (some ⟨e,0,none⟩),.pointer none]::eng e c S::M) ->
   f136_l1 idJ (fun v w'=>∃ (n:Int) (e:Nat) (S:BL),v = .int .i64 n /\ (∀ x,x ∈ S ↔ x ∈ R) /\ EOk c S /\ Sat W w' (blk b [.pointer (some ⟨e,0,none⟩),.pointer none]::eng e c S::M)) (f + 1) (some ⟨b,0,none⟩) n w:=by
  clear hs
  intro f w e S n hm hk hs
  rw [f136_l1_raw]
  refine nilck_some (ld_b hs ?_)
  refine ite_false rfl ?_
  refine jw f136_j2_raw ?_
  exact ⟨n,e,S,rfl,hm,hk,hs⟩
 refine mv_cases hs (fun e hk hs=>?_) (fun e q A B hR hk hs=>?_)
 ·exact exM_of 1 (done 0 w e R 0 (fun _=>Iff.rfl) hk hs)
 ·have loop:∀ (f:Nat) (w:World) (A B:BL) (n:Int),B.length <= f -> (∀ x,x ∈ A ++ B ↔ x ∈ R) -> EOk c (A ++ B) -> Sat W w (blk b [.pointer (some ⟨e,0,none⟩),.pointer (some ⟨q,0,none⟩)]::eng e c A::eng q c B::M) ->
    f136_l1 idJ (fun v w'=>∃ (n:Int) (e:Nat) (S:BL),v = .int .i64 n /\ (∀ x,x ∈ S ↔ x ∈ R) /\ EOk c S /\ Sat W w' (blk b [.pointer (some ⟨e,0,none⟩),.pointer none]::eng e c S::M)) (f + 2) (some ⟨b,0,none⟩) n w:=by
   clear hs hk hR
   intro f
   induction f with
   | zero=>
    intro w A B n hf hm hk hs
    rw [f136_l1_raw]
    refine nilck_some (ld_b hs ?_)
    refine ite_true rfl ?_
    refine call2_ret (q23_Step1 hk hs) fun v w h=>?_
    rcases h with ⟨hv,hB,hs⟩ | ⟨k,A',B',hv,hl,_⟩
    ·refine ⟨_,_,hv,ite_false rfl ?_⟩
     simp only [hB,List.append_nil] at hk hm
     exact done 0 w e A n hm hk hs
    ·omega
   | succ f ih=>
    intro w A B n hf hm hk hs
    rw [f136_l1_raw]
    refine nilck_some (ld_b hs ?_)
    refine ite_true rfl ?_
    refine call2_ret (q23_Step1 hk hs) fun v w h=>?_
    rcases h with ⟨hv,hB,hs⟩ | ⟨k,A',B',hv,hl,hm2,hk2,hs⟩
    ·refine ⟨_,_,hv,ite_false rfl ?_⟩
     simp only [hB,List.append_nil] at hk hm
     exact done _ w e A n hm hk hs
    ·refine ⟨_,_,hv,ite_true rfl ?_⟩
     exact ih w A' B' _ (by omega) (fun x=>by rw [hm2,hm]) hk2 hs
  exact exM_of _ (loop B.length w A B 0 (Nat.le_refl _) (fun x=>by rw [hR]) (hR ▸ hk) hs)
theorem roomR_id (h:EOk c R):roomR c = c:=by have:=h.c1; have:=h.c2; unfold roomR; omega
theorem q23_Begin {k:Int} (hs:Sat W w (mvR b c R::M)):Rts Tryz.prog 96 #[.pointer (some ⟨b,0,none⟩),.int .i64 k] w fun v w'=>∃ (n:Int) (S:BL),v = .int .i64 n /\ (∀ x,x ∈ S ↔ x ∈ R) /\ Sat W w' (mvR b c S::M):=by
 refine cw f96_ok f96_raw ?_
 have hk0:=mv_ok hs
 have hrc:=roomR_id hk0
 have rest:∀ (w:World),Sat W w (mvR b c R::M) -> call2 .ptr (.int .i64) Tryz.prog 58 [.int .i64 k,.int .i64 c] (fun (x_5:Option Addr) (x_6:Int)=>
 ite2 (x_6 != (0:Int)) (
 fun w'=>∃ (n:Int) (S:BL),Value.int .i64 x_6 = .int .i64 n /\ (∀ x,x ∈ S ↔ x ∈ R) /\ Sat W w' (mvR b c S::M)) (
 call1 (.int .i64) Tryz.prog 136 [.pointer (some ⟨b,0,none⟩)] fun (x_7:Int)=>
 nilck (some ⟨b,0,none⟩) fun b_8 o_9=>
 ld .ptr b_8 o_9 fun (x_10:Option Addr)=>
 nilck (some ⟨b,0,none⟩) fun b_11 o_12=>
 st b_11 (o_12 + 1) (.pointer x_10) <|
 nilck (some ⟨b,0,none⟩) fun b_13 o_14=>
 st b_13 o_14 (.pointer x_5) <|
 fun w'=>∃ (n:Int) (S:BL),Value.int .i64 (0:Int) = .int .i64 n /\ (∀ x,x ∈ S ↔ x ∈ R) /\ Sat W w' (mvR b c S::M))) w:=by
  clear hs
  intro w hs
  refine call2_ret (q15_New hs) fun v w hN=>?_
  rcases hN with ⟨_,q,hv,hs⟩ | ⟨_,hv,hs⟩
  ·refine ⟨_,_,hv,ite_false rfl ?_⟩
   rw [hrc] at hs
   have hs:Sat W w (mvR b c R::eng q c []::M):=by exact Sat.fin hs
   refine call1_ret (q23_Finish hs) fun v w ⟨n,e,S,hv,hm,hk,hs⟩=>⟨_,hv,?_⟩
   refine nilck_some (ld_b hs ?_)
   refine nilck_some (st_b hs fun w hs=>?_)
   refine nilck_some (st_b hs fun w hs=>?_)
   exact ⟨0,S,rfl,hm,mv_shut1 (e:=q) (q:=e) (A:=[]) (B:=S) rfl hk (by exact Sat.fin hs)⟩
  ·refine ⟨_,_,hv,ite_true rfl ?_⟩
   exact ⟨4,R,rfl,fun _=>Iff.rfl,hs⟩
 refine mv_cases hs (fun e hk hs=>?_) (fun e q A B hR hk hs=>?_)
 ·refine nilck_some (ld_b hs ?_)
  have hs:Sat W w (eng e c R::blk b [.pointer (some ⟨e,0,none⟩),.pointer none]::M):=by exact Sat.fin hs
  refine call1_ret (q15_Room hs) fun v w ⟨hv,hs⟩=>⟨_,hv,?_⟩
  exact rest w (mv_shut0 (e:=e) hk (by exact Sat.fin hs))
 ·refine nilck_some (ld_b hs ?_)
  have hs:Sat W w (eng e c A::blk b [.pointer (some ⟨e,0,none⟩),.pointer (some ⟨q,0,none⟩)]::eng q c B::M):=by exact Sat.fin hs
  refine call1_ret (q15_Room hs) fun v w ⟨hv,hs⟩=>⟨_,hv,?_⟩
  exact rest w (mv_shut1 (e:=e) (q:=q) hR hk (by exact Sat.fin hs))
theorem roomR2 (r:Int):roomR (roomR r) = roomR r:=by unfold roomR; omega
theorem q23_Evict0 {e:Nat} (hs:Sat W w (blk b [.pointer (some ⟨e,0,none⟩),.pointer none]::eng e c R::M)):Rts Tryz.prog 137 #[.pointer (some ⟨b,0,none⟩)] w fun v w'=>∃ x yes S,v = .tuple #[.string x,.bool yes] /\ EvR c R x yes S /\ Sat W w' (blk b [.pointer (some ⟨e,0,none⟩),.pointer none]::eng e c S::M):=by
 refine cw f137_ok f137_raw ?_
 refine call1_ret (q23_Left0 hs) fun v w ⟨hv,hs⟩=>⟨_,hv,?_⟩
 refine ite_false rfl ?_
 refine nilck_some (ld_b hs ?_)
 have hs:Sat W w (eng e c R::blk b [.pointer (some ⟨e,0,none⟩),.pointer none]::M):=by exact Sat.fin hs
 refine call2_ret (q15_Evict hs) fun v w ⟨x,yes,S,hv,hev,hs⟩=>⟨_,_,hv,?_⟩
 exact ⟨x,yes,S,rfl,hev,by exact Sat.fin hs⟩
theorem q23_Resize {r:Int} (hs:Sat W w (mvR b c R::M)):Rts Tryz.prog 97 #[.pointer (some ⟨b,0,none⟩),.int .i64 r] w fun v w'=>∃ (l:Sl) (g S:BL),v = .slice l.a l.n l.c /\ (∀ x ∈ g,x ∈ R) /\ g.Nodup /\ (∀ x,x ∈ S ↔ x ∈ R /\ x ∉ g) /\ Sat W w' (mvR b (roomR r) S::recs Rec.str l g::M):=by
 refine cw f97_ok f97_raw ?_
 rw [room_eq]
 have hr:=roomR_in r
 have hr2:=roomR2 r
 generalize roomR r = rm at *
 refine call1_ret (q23_Finish hs) fun v w ⟨n,e,S0,hv,hm0,hk0,hs⟩=>⟨_,hv,?_⟩
 have hs:=Sat.nilR Rec.str hs
 have hs:Sat W w (blk b [.pointer (some ⟨e,0,none⟩),.pointer none]::eng e c S0::recs Rec.str ⟨none,0,0⟩ []::M):=by exact Sat.fin hs
 have j2:∀ (w:World) (l:Sl) (g S:BL),(∀ x ∈ g,x ∈ R) -> g.Nodup -> (∀ x,x ∈ S ↔ x ∈ R /\ x ∉ g) -> (S.length:Int) <= rm -> EOk c S -> Sat W w (blk b [.pointer (some ⟨e,0,none⟩),.pointer none]::eng e c S::recs Rec.str l g::M) ->
   f97_j2 idJ (fun v w'=>∃ (l:Sl) (g S:BL),v = .slice l.a l.n l.c /\ (∀ x ∈ g,x ∈ R) /\ g.Nodup /\ (∀ x,x ∈ S ↔ x ∈ R /\ x ∉ g) /\ Sat W w' (mvR b rm S::recs Rec.str l g::M)) (some ⟨b,0,none⟩) rm l w:=by
  clear hs
  intro w l g S hsub hnd hm hl hk hs
  refine jw f97_j2_raw ?_
  have hs:Sat W w (eng e c S::blk b [.pointer (some ⟨e,0,none⟩),.pointer none]::recs Rec.str l g::M):=by exact Sat.fin hs
  obtain ⟨k,x,hk5,hs⟩:=eng_raw hs
  obtain ⟨cs,hcs⟩:∃ cs,gC k x = .int .i64 (k:Int)::cs:=by
   have h5:k = 0 \/ k = 1 \/ k = 2 \/ k = 3 \/ k = 4:=by omega
   rcases h5 with rfl | rfl | rfl | rfl | rfl <;> exact ⟨_,rfl⟩
  have hcell:(gC k x)[0]? = some ((CK.int .i64).val (k:Int)):=by rw [hcs]; rfl
  refine drawW_only [blk b [.pointer (some ⟨e,0,none⟩),.pointer none],blk e (gC k x)] hs fun w hs=>?_
  refine nilck_some (ldS_b (nilck_some ?_))
  refine ldS_b ?_ (hc:=hcell)
  refine nilck_some (ld_b hs (keep_imp hs ?_))
  refine call1_ret (q15_KeysK hk5 hs) fun v w ⟨l2,hv,hs⟩=>⟨_,hv,keep_imp hs ?_⟩
  have hs:Sat W w (recs Rec.str l2 S::blk b [.pointer (some ⟨e,0,none⟩),.pointer none]::recs Rec.str l g::M):=by exact Sat.fin hs
  refine call2_ret (q15_From (k:=(k:Int)) (r:=rm) (s0:=l2) (ks:=S) (by omega) hs hk.nd hk.small (by rw [hr2]; exact hl)) fun v w ⟨e2,S2,hv,hm2,hs⟩=>⟨_,_,hv,?_⟩
  rw [hr2] at hs
  have hok:=eng_ok hs
  refine nilck_some (st_b hs fun w hs=>?_)
  exact ⟨l,g,S2,rfl,hsub,hnd,fun x=>by rw [hm2,hm],mv_shut0 (e:=e2) hok (by exact Sat.fin hs)⟩
 have loop:∀ (f:Nat) (w:World) (l:Sl) (g S:BL),S.length <= f -> g.length + S.length <= 1024 -> (∀ x ∈ g,x ∈ R) -> g.Nodup -> (∀ x,x ∈ S ↔ x ∈ R /\ x ∉ g) -> EOk c S -> Sat W w (blk b [.pointer (some ⟨e,0,none⟩),.pointer none]::eng e c S::recs Rec.str l g::M) ->
   f97_l1 idJ (fun v w'=>∃ (l:Sl) (g S:BL),v = .slice l.a l.n l.c /\ (∀ x ∈ g,x ∈ R) /\ g.Nodup /\ (∀ x,x ∈ S ↔ x ∈ R /\ x ∉ g) /\ Sat W w' (mvR b rm S::recs Rec.str l g::M)) (f + 1) (some ⟨b,0,none⟩) rm l w:=by
  clear hs
  intro f
  induction f with
  | zero=>
   intro w l g S hf hgl hsub hnd hm hk hs
   rw [f97_l1_raw]
   refine call1_ret (q23_Len0 (by omega) hs) fun v w ⟨hv,hs⟩=>⟨_,hv,?_⟩
   refine ite_false (decide_eq_false (by omega)) ?_
   exact j2 w l g S hsub hnd hm (by omega) hk hs
  | succ f ih=>
   intro w l g S hf hgl hsub hnd hm hk hs
   rw [f97_l1_raw]
   refine call1_ret (q23_Len0 (by omega) hs) fun v w ⟨hv,hs⟩=>⟨_,hv,?_⟩
   with_reducible refine ite_by (fun h1=>?_) (fun h1=>?_)
   ·refine call2_ret (q23_Evict0 hs) fun v w ⟨x,yes,S',hv,hev,hs⟩=>⟨_,_,hv,?_⟩
    have hy:yes = true:=by rw [hev.says]; exact decide_eq_true (by omega)
    subst hy
    have hpl:=(hev.perm hk).length_eq
    simp only [List.length_cons] at hpl
    have hxS:=hev.of rfl
    have hxR:=(hm x).1 hxS
    refine newB_at hs fun nb w hs=>?_
    refine app_one (s:=l) (a:=x) hs rfl rfl rfl rfl (by decide) (by omega) fun s5 w hs5 hs=>?_
    refine ih w s5 (g ++ [x]) S' (by omega) (by simp; omega) (fun y hy=>?_) ?_ (fun y=>?_) hev.ok (by exact Sat.fin hs)
    ·rcases List.mem_append.1 hy with h | h
     ·exact hsub y h
     ·rw [List.mem_singleton] at h; exact h ▸ hxR.1
    ·rw [List.nodup_append]
     exact ⟨hnd,by simp,fun a ha b hb=>by rw [List.mem_singleton] at hb; subst hb; exact fun e=>hxR.2 (e ▸ ha)⟩
    ·rw [hev.mem',hm,List.mem_append,List.mem_singleton]
     constructor
     ·rintro ⟨⟨h2,h3⟩,h4⟩; exact ⟨h2,fun h=>h.elim h3 h4⟩
     ·rintro ⟨h2,h3⟩; exact ⟨⟨h2,fun h=>h3 (.inl h)⟩,fun h=>h3 (.inr h)⟩
   ·exact j2 w l g S hsub hnd hm (by omega) hk hs
 have hrm:=hk0.room; have hc2:=hk0.c2
 exact exM_of _ (loop S0.length w ⟨none,0,0⟩ [] S0 (Nat.le_refl _) (by simp; omega) (by simp) (by simp) (fun x=>by rw [hm0]; simp) hk0 hs)
end
end Go.Proofs.YtmefopmnjncdbaaGreat
namespace Go.Proofs
open Go.Shelf
def Tryz.lays137_ren:Go.Shelf.Ren:=⟨fun | 137=>142 | 217=>204 | 266=>215 | n=>n,fun | 9=>9 | 5=>5 | 3=>3 | n=>n,fun | n=>n⟩
theorem Tryz.lays137:Go.Proofs.Lays.n137 Tryz.prog Tryz.lays137_ren:={
 mixed:=by kernel_rfl
 f137:=Tryz.func142.trans (congrArg some (by kernel_rfl))
 f217:=Tryz.func204.trans (congrArg some (by kernel_rfl))
 f266:=Tryz.func215.trans (congrArg some (by kernel_rfl))
 t3:=Tryz.underlying3
 a3:=Tryz.isAgg3
 z3:=Tryz.sizeOf3
 v3:=Tryz.zeroValue3
 t5:=Tryz.underlying5
 a5:=Tryz.isAgg5
 z5:=Tryz.sizeOf5
 v5:=Tryz.zeroValue5
 t9:=Tryz.underlying9
 a9:=Tryz.isAgg9
 z9:=Tryz.sizeOf9
 v9:=Tryz.zeroValue9 }
open Go.RowKit in
theorem Tryz.strings_IndexByte (s:ByteArray) (c:Int) (w:World) :
  Calls Tryz.prog 142 #[.string s,.int .u8 c] w fun e w'=>e = .returned (.int .i64 (Lib.indexByte s.data.toList c.toNat.toUInt8)) /\ w' = w:=Any.strings_IndexByte Tryz.lays137 s c w
end Go.Proofs
namespace Go.Proofs.YtmefopmnjncdbaaGreat
open Go.Hb Go.IntWalk
section
variable {W w:World} {L:List HP}
theorem mix_at (hs:Sat W w L) {x:Int}:Calls Tryz.prog 214 #[.int .u64 x] w fun e w'=>e = .returned (.int .u64 (mixV x)) /\ Sat W w' L:=by
 refine c1 (cw f214_ok f214_raw ?_)
 exact ⟨by decide,by decide,by decide,rfl,hs⟩
theorem hash_at (hs:Sat W w L) {seed:Int} {s:ByteArray} (hz:s.size < 4611686018427387904):Calls Tryz.prog 203 #[.int .u64 seed,.string s] w fun e w'=>e = .returned (.int .u64 (hashV seed s)) /\ Sat W w' L:=by
 refine c1 (cw f203_ok f203_raw ?_)
 refine call1_of (mix_at hs) fun e w ⟨he,hs⟩=>⟨_,he,?_⟩
 have loop:∀ (m i:Nat) (h:Int) (w:World),i + m = s.size -> Sat W w L -> f203_l1 idJ (fun v w'=>v = .int .u64 (hashGo s m i h) /\ Sat W w' L) (m + 1) s h (s.size:Int) (i:Int) w:=by
  intro m
  induction m with
  | zero=>
   intro i h w hi hs
   rw [f203_l1_raw]
   refine ite_false (decide_eq_false (by omega)) ?_
   refine jw f203_j2_raw ?_
   exact ⟨rfl,hs⟩
  | succ m ih=>
   intro i h w hi hs
   rw [f203_l1_raw]
   refine ite_true (decide_eq_true (by omega)) (when_of (by omega) ?_)
   refine call1_of (mix_at hs) fun e w ⟨he,hs⟩=>⟨_,he,?_⟩
   rw [i64_in _ (by omega)]
   exact ih (i + 1) _ w (by omega) hs
 rw [hashV_eq]
 refine ⟨s.size + 1,?_⟩
 exact loop s.size 0 _ w (by omega) hs
theorem place_at (hs:Sat W w L) {h:Int} {n:Nat} (h0:0 <= h) (hn:0 < n) (hb:n < 4611686018427387904):Calls Tryz.prog 202 #[.int .u64 h,.int .i64 (n:Int)] w fun e w'=>e = .returned (.int .i64 ((h.toNat % n:Nat):Int)) /\ Sat W w' L:=by
 refine c1 (cw f202_ok f202_raw ?_)
 refine ite_false (decide_eq_false (by omega)) ?_
 rw [u64_in _ (by omega)]
 refine when_of (by omega) ⟨?_,hs⟩
 rw [Int.tmod_eq_emod_of_nonneg h0]
 have e1:h % (n:Int) = ((h.toNat % n:Nat):Int):=by
  rw [Int.natCast_emod,Int.toNat_of_nonneg h0]
 have:=Nat.mod_lt h.toNat hn
 rw [e1,i64_in _ (by omega)]
end
end Go.Proofs.YtmefopmnjncdbaaGreat
