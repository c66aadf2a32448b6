import Derived.Test.YtmefopmnjncdbaaGreatMn17
set_option linter.unusedVariables false
set_option linter.unusedSimpArgs false
set_option linter.unnecessarySimpa false
set_option linter.unusedSectionVars false
set_option maxRecDepth 100000
namespace Go.Hb
def gC:Nat -> Nat -> List Value
 | 0,e=>[.int .i64 0,.pointer (some ⟨e,0,none⟩),.pointer none,.pointer none,.pointer none,.pointer none]
 | 1,e=>[.int .i64 1,.pointer none,.pointer (some ⟨e,0,none⟩),.pointer none,.pointer none,.pointer none]
 | 2,e=>[.int .i64 2,.pointer none,.pointer none,.pointer (some ⟨e,0,none⟩),.pointer none,.pointer none]
 | 3,e=>[.int .i64 3,.pointer none,.pointer none,.pointer none,.pointer (some ⟨e,0,none⟩),.pointer none]
 | 4,e=>[.int .i64 4,.pointer none,.pointer none,.pointer none,.pointer none,.pointer (some ⟨e,0,none⟩)]
 | _,_=>[]
def gE:Nat -> Nat -> Int -> BL -> HP
 | 0,e,c,R=>e10 e c R
 | 1,e,c,R=>e13 e c R
 | 2,e,c,R=>e11 e c R
 | 3,e,c,R=>e14 e c R
 | 4,e,c,R=>e12 e c R
 | _,_,_,_=>fun _=>False
def eng (b:Nat) (c:Int) (R:BL):HP:=exH fun (z:Nat × Nat)=>andH (z.1 < 5) (allH [blk b (gC z.1 z.2),gE z.1 z.2 c R])
section
variable {W w:World} {M L:List HP} {b e:Nat} {c:Int} {R:BL}
theorem eng_cases (h:Sat W w (eng b c R::M)) {C:Prop} (h0:∀ e,Sat W w (blk b [.int .i64 0,.pointer (some ⟨e,0,none⟩),.pointer none,.pointer none,.pointer none,.pointer none]::e10 e c R::M) -> C) (h1:∀ e,Sat W w (blk b [.int .i64 1,.pointer none,.pointer (some ⟨e,0,none⟩),.pointer none,.pointer none,.pointer none]::e13 e c R::M) -> C) (h2:∀ e,Sat W w (blk b [.int .i64 2,.pointer none,.pointer none,.pointer (some ⟨e,0,none⟩),.pointer none,.pointer none]::e11 e c R::M) -> C) (h3:∀ e,Sat W w (blk b [.int .i64 3,.pointer none,.pointer none,.pointer none,.pointer (some ⟨e,0,none⟩),.pointer none]::e14 e c R::M) -> C) (h4:∀ e,Sat W w (blk b [.int .i64 4,.pointer none,.pointer none,.pointer none,.pointer none,.pointer (some ⟨e,0,none⟩)]::e12 e c R::M) -> C):C:=by
 obtain ⟨⟨k,e⟩,h⟩:=h.openE
 obtain ⟨hk,h⟩:=h.openA
 have h:=h.openL
 have h5:k = 0 \/ k = 1 \/ k = 2 \/ k = 3 \/ k = 4:=by omega
 rcases h5 with rfl | rfl | rfl | rfl | rfl
 ·exact h0 e h
 ·exact h1 e h
 ·exact h2 e h
 ·exact h3 e h
 ·exact h4 e h
theorem eng_shut0 (h:Sat W w (blk b [.int .i64 0,.pointer (some ⟨e,0,none⟩),.pointer none,.pointer none,.pointer none,.pointer none]::e10 e c R::M)):Sat W w (eng b c R::M):=Sat.shutE (0,e) (Sat.shutA (show 0 < 5 by decide) (Sat.shutL (Ps:=[_,_]) h))
theorem eng_shut1 (h:Sat W w (blk b [.int .i64 1,.pointer none,.pointer (some ⟨e,0,none⟩),.pointer none,.pointer none,.pointer none]::e13 e c R::M)):Sat W w (eng b c R::M):=Sat.shutE (1,e) (Sat.shutA (show 1 < 5 by decide) (Sat.shutL (Ps:=[_,_]) h))
theorem eng_shut2 (h:Sat W w (blk b [.int .i64 2,.pointer none,.pointer none,.pointer (some ⟨e,0,none⟩),.pointer none,.pointer none]::e11 e c R::M)):Sat W w (eng b c R::M):=Sat.shutE (2,e) (Sat.shutA (show 2 < 5 by decide) (Sat.shutL (Ps:=[_,_]) h))
theorem eng_shut3 (h:Sat W w (blk b [.int .i64 3,.pointer none,.pointer none,.pointer none,.pointer (some ⟨e,0,none⟩),.pointer none]::e14 e c R::M)):Sat W w (eng b c R::M):=Sat.shutE (3,e) (Sat.shutA (show 3 < 5 by decide) (Sat.shutL (Ps:=[_,_]) h))
theorem eng_shut4 (h:Sat W w (blk b [.int .i64 4,.pointer none,.pointer none,.pointer none,.pointer none,.pointer (some ⟨e,0,none⟩)]::e12 e c R::M)):Sat W w (eng b c R::M):=Sat.shutE (4,e) (Sat.shutA (show 4 < 5 by decide) (Sat.shutL (Ps:=[_,_]) h))
theorem eng_ok (h:Sat W w (eng b c R::M)):EOk c R:=by
 refine eng_cases h (fun e h=>?_) (fun e h=>?_) (fun e h=>?_) (fun e h=>?_) (fun e h=>?_)
 ·exact (ArcOk.eok (c:=c) (e10_open (h.perm (List.Perm.swap _ _ _))).choose_spec.2.1 |> fun h2=>(e10_open (h.perm (List.Perm.swap _ _ _))).choose_spec.1 ▸ h2)
 ·exact (LOk.eok (c:=c) (e13_open (h.perm (List.Perm.swap _ _ _))).choose_spec.2.1 |> fun h2=>(e13_open (h.perm (List.Perm.swap _ _ _))).choose_spec.1 ▸ h2)
 ·exact (e11_ok (h.perm (List.Perm.swap _ _ _)))
 ·exact (e14_ok (h.perm (List.Perm.swap _ _ _)))
 ·exact (e12_ok (h.perm (List.Perm.swap _ _ _)))
theorem eng_kind (h:Sat W w (eng b c R::M)):∃ (k:Int) (cs:List Value) (p:HP),(0 <= k /\ k < 5) /\ Sat W w (blk b (.int .i64 k::cs)::p::M) /\ ∀ w' M',Sat W w' (blk b (.int .i64 k::cs)::p::M') -> Sat W w' (eng b c R::M'):=by
 refine eng_cases h (fun e h=>?_) (fun e h=>?_) (fun e h=>?_) (fun e h=>?_) (fun e h=>?_)
 ·exact ⟨0,_,_,by decide,h,fun w' M' h=>eng_shut0 h⟩
 ·exact ⟨1,_,_,by decide,h,fun w' M' h=>eng_shut1 h⟩
 ·exact ⟨2,_,_,by decide,h,fun w' M' h=>eng_shut2 h⟩
 ·exact ⟨3,_,_,by decide,h,fun w' M' h=>eng_shut3 h⟩
 ·exact ⟨4,_,_,by decide,h,fun w' M' h=>eng_shut4 h⟩
end
end Go.Hb
namespace Go.Proofs.YtmefopmnjncdbaaGreat
open Go.Hb Go.IntWalk
section
variable {W w:World} {L M:List HP} {b:Nat} {c:Int} {R:BL} {key:ByteArray}
theorem q15_New (hs:Sat W w L) {k r:Int}:Rts Tryz.prog 58 #[.int .i64 k,.int .i64 r] w fun v w'=>((0 <= k /\ k < 5) /\ ∃ b,v = .tuple #[.pointer (some ⟨b,0,none⟩),.int .i64 0] /\ Sat W w' (eng b (roomR r) []::L)) \/ (¬ (0 <= k /\ k < 5) /\ v = .tuple #[.pointer none,.int .i64 4] /\ Sat W w' L):=by
 refine cw f58_ok f58_raw ?_
 refine newB_at hs fun b w hs=>?_
 with_reducible refine ite_by (fun h0=>?_) (fun h0=>?_)
 ·subst h0
  refine call1_ret (q10_New hs) fun v w ⟨e,hv,hs⟩=>⟨_,hv,?_⟩
  refine nilck_some (st_b hs fun w hs=>?_)
  exact .inl ⟨by decide,b,rfl,eng_shut0 (by exact Sat.fin hs)⟩
 with_reducible refine ite_by (fun h1=>?_) (fun h1=>?_)
 ·subst h1
  refine call1_ret (q13_New hs) fun v w ⟨e,hv,hs⟩=>⟨_,hv,?_⟩
  refine nilck_some (st_b hs fun w hs=>?_)
  exact .inl ⟨by decide,b,rfl,eng_shut1 (by exact Sat.fin hs)⟩
 with_reducible refine ite_by (fun h2=>?_) (fun h2=>?_)
 ·subst h2
  refine call1_ret (q11_New hs) fun v w ⟨e,hv,hs⟩=>⟨_,hv,?_⟩
  refine nilck_some (st_b hs fun w hs=>?_)
  exact .inl ⟨by decide,b,rfl,eng_shut2 (by exact Sat.fin hs)⟩
 with_reducible refine ite_by (fun h3=>?_) (fun h3=>?_)
 ·subst h3
  refine call1_ret (q14_New hs) fun v w ⟨e,hv,hs⟩=>⟨_,hv,?_⟩
  refine nilck_some (st_b hs fun w hs=>?_)
  exact .inl ⟨by decide,b,rfl,eng_shut3 (by exact Sat.fin hs)⟩
 with_reducible refine ite_by (fun h4=>?_) (fun h4=>?_)
 ·subst h4
  refine call1_ret (q12_New hs) fun v w ⟨e,hv,hs⟩=>⟨_,hv,?_⟩
  refine nilck_some (st_b hs fun w hs=>?_)
  exact .inl ⟨by decide,b,rfl,eng_shut4 (by exact Sat.fin hs)⟩
 exact .inr ⟨by omega,rfl,hs.drop⟩
theorem q15_Access (hs:Sat W w (eng b c R::M)) (hz:key.size < 64):Rts Tryz.prog 89 #[.pointer (some ⟨b,0,none⟩),.string key] w fun v w'=>∃ (hit:Bool) (l:Sl) (g S:BL),v = .tuple #[.bool hit,.slice l.a l.n l.c] /\ AccR c R key hit g S /\ Sat W w' (recs Rec.str l g::eng b c S::M):=by
 refine cw f89_ok f89_raw ?_
 refine eng_cases hs (fun e hs=>?_) (fun e hs=>?_) (fun e hs=>?_) (fun e hs=>?_) (fun e hs=>?_)
 ·refine nilck_some (ld_b hs ?_)
  refine ite_true rfl ?_
  refine nilck_some (ld_b hs ?_)
  have hs:Sat W w (e10 e c R::blk b [.int .i64 0,.pointer (some ⟨e,0,none⟩),.pointer none,.pointer none,.pointer none,.pointer none]::M):=by exact Sat.fin hs
  refine call2_ret (q10_Access hs hz) fun v w ⟨hit,l,g,S,hv,ha,hs⟩=>⟨_,_,hv,hit,l,g,S,rfl,ha,?_⟩
  have hs:=eng_shut0 (b:=b) (e:=e) (c:=c) (R:=S) (M:=recs Rec.str l g::M) (by exact Sat.fin hs)
  exact Sat.fin hs
 ·refine nilck_some (ld_b hs ?_)
  refine ite_false rfl ?_
  refine ite_true rfl ?_
  refine nilck_some (ld_b hs ?_)
  have hs:Sat W w (e13 e c R::blk b [.int .i64 1,.pointer none,.pointer (some ⟨e,0,none⟩),.pointer none,.pointer none,.pointer none]::M):=by exact Sat.fin hs
  refine call2_ret (q13_Access hs hz) fun v w ⟨hit,l,g,S,hv,ha,hs⟩=>⟨_,_,hv,hit,l,g,S,rfl,ha,?_⟩
  have hs:=eng_shut1 (b:=b) (e:=e) (c:=c) (R:=S) (M:=recs Rec.str l g::M) (by exact Sat.fin hs)
  exact Sat.fin hs
 ·refine nilck_some (ld_b hs ?_)
  refine ite_false rfl ?_
  refine ite_false rfl ?_
  refine ite_true rfl ?_
  refine nilck_some (ld_b hs ?_)
  have hs:Sat W w (e11 e c R::blk b [.int .i64 2,.pointer none,.pointer none,.pointer (some ⟨e,0,none⟩),.pointer none,.pointer none]::M):=by exact Sat.fin hs
  refine call2_ret (q11_Access hs hz) fun v w ⟨hit,l,g,S,hv,ha,hs⟩=>⟨_,_,hv,hit,l,g,S,rfl,ha,?_⟩
  have hs:=eng_shut2 (b:=b) (e:=e) (c:=c) (R:=S) (M:=recs Rec.str l g::M) (by exact Sat.fin hs)
  exact Sat.fin hs
 ·refine nilck_some (ld_b hs ?_)
  refine ite_false rfl ?_
  refine ite_false rfl ?_
  refine ite_false rfl ?_
  refine ite_true rfl ?_
  refine nilck_some (ld_b hs ?_)
  have hs:Sat W w (e14 e c R::blk b [.int .i64 3,.pointer none,.pointer none,.pointer none,.pointer (some ⟨e,0,none⟩),.pointer none]::M):=by exact Sat.fin hs
  refine call2_ret (q14_Access hs hz) fun v w ⟨hit,l,g,S,hv,ha,hs⟩=>⟨_,_,hv,hit,l,g,S,rfl,ha,?_⟩
  have hs:=eng_shut3 (b:=b) (e:=e) (c:=c) (R:=S) (M:=recs Rec.str l g::M) (by exact Sat.fin hs)
  exact Sat.fin hs
 ·refine nilck_some (ld_b hs ?_)
  refine ite_false rfl ?_
  refine ite_false rfl ?_
  refine ite_false rfl ?_
  refine ite_false rfl ?_
  refine nilck_some (ld_b hs ?_)
  have hs:Sat W w (e12 e c R::blk b [.int .i64 4,.pointer none,.pointer none,.pointer none,.pointer none,.pointer (some ⟨e,0,none⟩)]::M):=by exact Sat.fin hs
  refine call2_ret (q12_Access hs hz) fun v w ⟨hit,l,g,S,hv,ha,hs⟩=>⟨_,_,hv,hit,l,g,S,rfl,ha,?_⟩
  have hs:=eng_shut4 (b:=b) (e:=e) (c:=c) (R:=S) (M:=recs Rec.str l g::M) (by exact Sat.fin hs)
  exact Sat.fin hs
theorem q15_Load (hs:Sat W w (eng b c R::M)) (hz:key.size < 64):Rts Tryz.prog 117 #[.pointer (some ⟨b,0,none⟩),.string key] w fun v w'=>∃ (yes:Bool) (S:BL),v = .bool yes /\ LoadR c R key yes S /\ Sat W w' (eng b c S::M):=by
 refine cw f117_ok f117_raw ?_
 refine eng_cases hs (fun e hs=>?_) (fun e hs=>?_) (fun e hs=>?_) (fun e hs=>?_) (fun e hs=>?_)
 ·refine nilck_some (ld_b hs ?_)
  refine ite_true rfl ?_
  refine nilck_some (ld_b hs ?_)
  have hs:Sat W w (e10 e c R::blk b [.int .i64 0,.pointer (some ⟨e,0,none⟩),.pointer none,.pointer none,.pointer none,.pointer none]::M):=by exact Sat.fin hs
  refine call1_ret (q10_Load hs hz) fun v w ⟨yes,S,hv,ha,hs⟩=>⟨_,hv,yes,S,rfl,ha,?_⟩
  exact eng_shut0 (by exact Sat.fin hs)
 ·refine nilck_some (ld_b hs ?_)
  refine ite_false rfl ?_
  refine ite_true rfl ?_
  refine nilck_some (ld_b hs ?_)
  have hs:Sat W w (e13 e c R::blk b [.int .i64 1,.pointer none,.pointer (some ⟨e,0,none⟩),.pointer none,.pointer none,.pointer none]::M):=by exact Sat.fin hs
  refine call1_ret (q13_Load hs hz) fun v w ⟨yes,S,hv,ha,hs⟩=>⟨_,hv,yes,S,rfl,ha,?_⟩
  exact eng_shut1 (by exact Sat.fin hs)
 ·refine nilck_some (ld_b hs ?_)
  refine ite_false rfl ?_
  refine ite_false rfl ?_
  refine ite_true rfl ?_
  refine nilck_some (ld_b hs ?_)
  have hs:Sat W w (e11 e c R::blk b [.int .i64 2,.pointer none,.pointer none,.pointer (some ⟨e,0,none⟩),.pointer none,.pointer none]::M):=by exact Sat.fin hs
  refine call1_ret (q11_Load hs hz) fun v w ⟨yes,S,hv,ha,hs⟩=>⟨_,hv,yes,S,rfl,ha,?_⟩
  exact eng_shut2 (by exact Sat.fin hs)
 ·refine nilck_some (ld_b hs ?_)
  refine ite_false rfl ?_
  refine ite_false rfl ?_
  refine ite_false rfl ?_
  refine ite_true rfl ?_
  refine nilck_some (ld_b hs ?_)
  have hs:Sat W w (e14 e c R::blk b [.int .i64 3,.pointer none,.pointer none,.pointer none,.pointer (some ⟨e,0,none⟩),.pointer none]::M):=by exact Sat.fin hs
  refine call1_ret (q14_Load hs hz) fun v w ⟨yes,S,hv,ha,hs⟩=>⟨_,hv,yes,S,rfl,ha,?_⟩
  exact eng_shut3 (by exact Sat.fin hs)
 ·refine nilck_some (ld_b hs ?_)
  refine ite_false rfl ?_
  refine ite_false rfl ?_
  refine ite_false rfl ?_
  refine ite_false rfl ?_
  refine nilck_some (ld_b hs ?_)
  have hs:Sat W w (e12 e c R::blk b [.int .i64 4,.pointer none,.pointer none,.pointer none,.pointer none,.pointer (some ⟨e,0,none⟩)]::M):=by exact Sat.fin hs
  refine call1_ret (q12_Load hs hz) fun v w ⟨yes,S,hv,ha,hs⟩=>⟨_,hv,yes,S,rfl,ha,?_⟩
  exact eng_shut4 (by exact Sat.fin hs)
theorem q15_Remove (hs:Sat W w (eng b c R::M)):Rts Tryz.prog 115 #[.pointer (some ⟨b,0,none⟩),.string key] w fun v w'=>∃ (yes:Bool) (S:BL),v = .bool yes /\ RemR c R key yes S /\ Sat W w' (eng b c S::M):=by
 refine cw f115_ok f115_raw ?_
 refine eng_cases hs (fun e hs=>?_) (fun e hs=>?_) (fun e hs=>?_) (fun e hs=>?_) (fun e hs=>?_)
 ·refine nilck_some (ld_b hs ?_)
  refine ite_true rfl ?_
  refine nilck_some (ld_b hs ?_)
  have hs:Sat W w (e10 e c R::blk b [.int .i64 0,.pointer (some ⟨e,0,none⟩),.pointer none,.pointer none,.pointer none,.pointer none]::M):=by exact Sat.fin hs
  refine call1_ret (q10_Remove hs) fun v w ⟨yes,S,hv,ha,hs⟩=>⟨_,hv,yes,S,rfl,ha,?_⟩
  exact eng_shut0 (by exact Sat.fin hs)
 ·refine nilck_some (ld_b hs ?_)
  refine ite_false rfl ?_
  refine ite_true rfl ?_
  refine nilck_some (ld_b hs ?_)
  have hs:Sat W w (e13 e c R::blk b [.int .i64 1,.pointer none,.pointer (some ⟨e,0,none⟩),.pointer none,.pointer none,.pointer none]::M):=by exact Sat.fin hs
  refine call1_ret (q13_Remove hs) fun v w ⟨yes,S,hv,ha,hs⟩=>⟨_,hv,yes,S,rfl,ha,?_⟩
  exact eng_shut1 (by exact Sat.fin hs)
 ·refine nilck_some (ld_b hs ?_)
  refine ite_false rfl ?_
  refine ite_false rfl ?_
  refine ite_true rfl ?_
  refine nilck_some (ld_b hs ?_)
  have hs:Sat W w (e11 e c R::blk b [.int .i64 2,.pointer none,.pointer none,.pointer (some ⟨e,0,none⟩),.pointer none,.pointer none]::M):=by exact Sat.fin hs
  refine call1_ret (q11_Remove hs) fun v w ⟨yes,S,hv,ha,hs⟩=>⟨_,hv,yes,S,rfl,ha,?_⟩
  exact eng_shut2 (by exact Sat.fin hs)
 ·refine nilck_some (ld_b hs ?_)
  refine ite_false rfl ?_
  refine ite_false rfl ?_
  refine ite_false rfl ?_
  refine ite_true rfl ?_
  refine nilck_some (ld_b hs ?_)
  have hs:Sat W w (e14 e c R::blk b [.int .i64 3,.pointer none,.pointer none,.pointer none,.pointer (some ⟨e,0,none⟩),.pointer none]::M):=by exact Sat.fin hs
  refine call1_ret (q14_Remove hs) fun v w ⟨yes,S,hv,ha,hs⟩=>⟨_,hv,yes,S,rfl,ha,?_⟩
  exact eng_shut3 (by exact Sat.fin hs)
 ·refine nilck_some (ld_b hs ?_)
  refine ite_false rfl ?_
  refine ite_false rfl ?_
  refine ite_false rfl ?_
  refine ite_false rfl ?_
  refine nilck_some (ld_b hs ?_)
  have hs:Sat W w (e12 e c R::blk b [.int .i64 4,.pointer none,.pointer none,.pointer none,.pointer none,.pointer (some ⟨e,0,none⟩)]::M):=by exact Sat.fin hs
  refine call1_ret (q12_Remove hs) fun v w ⟨yes,S,hv,ha,hs⟩=>⟨_,hv,yes,S,rfl,ha,?_⟩
  exact eng_shut4 (by exact Sat.fin hs)
theorem q15_Has (hs:Sat W w (eng b c R::M)):Rts Tryz.prog 116 #[.pointer (some ⟨b,0,none⟩),.string key] w fun v w'=>v = .bool (decide (key ∈ R)) /\ Sat W w' (eng b c R::M):=by
 refine cw f116_ok f116_raw ?_
 refine eng_cases hs (fun e hs=>?_) (fun e hs=>?_) (fun e hs=>?_) (fun e hs=>?_) (fun e hs=>?_)
 ·refine nilck_some (ld_b hs ?_)
  refine ite_true rfl ?_
  refine nilck_some (ld_b hs ?_)
  have hs:Sat W w (e10 e c R::blk b [.int .i64 0,.pointer (some ⟨e,0,none⟩),.pointer none,.pointer none,.pointer none,.pointer none]::M):=by exact Sat.fin hs
  refine call1_ret (q10_Has hs) fun v w ⟨hv,hs⟩=>⟨_,hv,rfl,?_⟩
  exact eng_shut0 (by exact Sat.fin hs)
 ·refine nilck_some (ld_b hs ?_)
  refine ite_false rfl ?_
  refine ite_true rfl ?_
  refine nilck_some (ld_b hs ?_)
  have hs:Sat W w (e13 e c R::blk b [.int .i64 1,.pointer none,.pointer (some ⟨e,0,none⟩),.pointer none,.pointer none,.pointer none]::M):=by exact Sat.fin hs
  refine call1_ret (q13_Has hs) fun v w ⟨hv,hs⟩=>⟨_,hv,rfl,?_⟩
  exact eng_shut1 (by exact Sat.fin hs)
 ·refine nilck_some (ld_b hs ?_)
  refine ite_false rfl ?_
  refine ite_false rfl ?_
  refine ite_true rfl ?_
  refine nilck_some (ld_b hs ?_)
  have hs:Sat W w (e11 e c R::blk b [.int .i64 2,.pointer none,.pointer none,.pointer (some ⟨e,0,none⟩),.pointer none,.pointer none]::M):=by exact Sat.fin hs
  refine call1_ret (q11_Has hs) fun v w ⟨hv,hs⟩=>⟨_,hv,rfl,?_⟩
  exact eng_shut2 (by exact Sat.fin hs)
 ·refine nilck_some (ld_b hs ?_)
  refine ite_false rfl ?_
  refine ite_false rfl ?_
  refine ite_false rfl ?_
  refine ite_true rfl ?_
  refine nilck_some (ld_b hs ?_)
  have hs:Sat W w (e14 e c R::blk b [.int .i64 3,.pointer none,.pointer none,.pointer none,.pointer (some ⟨e,0,none⟩),.pointer none]::M):=by exact Sat.fin hs
  refine call1_ret (q14_Has hs) fun v w ⟨hv,hs⟩=>⟨_,hv,rfl,?_⟩
  exact eng_shut3 (by exact Sat.fin hs)
 ·refine nilck_some (ld_b hs ?_)
  refine ite_false rfl ?_
  refine ite_false rfl ?_
  refine ite_false rfl ?_
  refine ite_false rfl ?_
  refine nilck_some (ld_b hs ?_)
  have hs:Sat W w (e12 e c R::blk b [.int .i64 4,.pointer none,.pointer none,.pointer none,.pointer none,.pointer (some ⟨e,0,none⟩)]::M):=by exact Sat.fin hs
  refine call1_ret (q12_Has hs) fun v w ⟨hv,hs⟩=>⟨_,hv,rfl,?_⟩
  exact eng_shut4 (by exact Sat.fin hs)
theorem q15_Evict (hs:Sat W w (eng b c R::M)):Rts Tryz.prog 88 #[.pointer (some ⟨b,0,none⟩)] w fun v w'=>∃ x yes S,v = .tuple #[.string x,.bool yes] /\ EvR c R x yes S /\ Sat W w' (eng b c S::M):=by
 refine cw f88_ok f88_raw ?_
 refine eng_cases hs (fun e hs=>?_) (fun e hs=>?_) (fun e hs=>?_) (fun e hs=>?_) (fun e hs=>?_)
 ·refine nilck_some (ld_b hs ?_)
  refine ite_true rfl ?_
  refine nilck_some (ld_b hs ?_)
  have hs:Sat W w (e10 e c R::blk b [.int .i64 0,.pointer (some ⟨e,0,none⟩),.pointer none,.pointer none,.pointer none,.pointer none]::M):=by exact Sat.fin hs
  refine call2_ret (q10_Evict hs) fun v w ⟨x,yes,S,hv,ha,hs⟩=>⟨_,_,hv,x,yes,S,rfl,ha,?_⟩
  exact eng_shut0 (by exact Sat.fin hs)
 ·refine nilck_some (ld_b hs ?_)
  refine ite_false rfl ?_
  refine ite_true rfl ?_
  refine nilck_some (ld_b hs ?_)
  have hs:Sat W w (e13 e c R::blk b [.int .i64 1,.pointer none,.pointer (some ⟨e,0,none⟩),.pointer none,.pointer none,.pointer none]::M):=by exact Sat.fin hs
  refine call2_ret (q13_Evict hs) fun v w ⟨x,yes,S,hv,ha,hs⟩=>⟨_,_,hv,x,yes,S,rfl,ha,?_⟩
  exact eng_shut1 (by exact Sat.fin hs)
 ·refine nilck_some (ld_b hs ?_)
  refine ite_false rfl ?_
  refine ite_false rfl ?_
  refine ite_true rfl ?_
  refine nilck_some (ld_b hs ?_)
  have hs:Sat W w (e11 e c R::blk b [.int .i64 2,.pointer none,.pointer none,.pointer (some ⟨e,0,none⟩),.pointer none,.pointer none]::M):=by exact Sat.fin hs
  refine call2_ret (q11_Evict hs) fun v w ⟨x,yes,S,hv,ha,hs⟩=>⟨_,_,hv,x,yes,S,rfl,ha,?_⟩
  exact eng_shut2 (by exact Sat.fin hs)
 ·refine nilck_some (ld_b hs ?_)
  refine ite_false rfl ?_
  refine ite_false rfl ?_
  refine ite_false rfl ?_
  refine ite_true rfl ?_
  refine nilck_some (ld_b hs ?_)
  have hs:Sat W w (e14 e c R::blk b [.int .i64 3,.pointer none,.pointer none,.pointer none,.pointer (some ⟨e,0,none⟩),.pointer none]::M):=by exact Sat.fin hs
  refine call2_ret (q14_Evict hs) fun v w ⟨x,yes,S,hv,ha,hs⟩=>⟨_,_,hv,x,yes,S,rfl,ha,?_⟩
  exact eng_shut3 (by exact Sat.fin hs)
 ·refine nilck_some (ld_b hs ?_)
  refine ite_false rfl ?_
  refine ite_false rfl ?_
  refine ite_false rfl ?_
  refine ite_false rfl ?_
  refine nilck_some (ld_b hs ?_)
  have hs:Sat W w (e12 e c R::blk b [.int .i64 4,.pointer none,.pointer none,.pointer none,.pointer none,.pointer (some ⟨e,0,none⟩)]::M):=by exact Sat.fin hs
  refine call2_ret (q12_Evict hs) fun v w ⟨x,yes,S,hv,ha,hs⟩=>⟨_,_,hv,x,yes,S,rfl,ha,?_⟩
  exact eng_shut4 (by exact Sat.fin hs)
theorem q15_Keys (hs:Sat W w (eng b c R::M)):Rts Tryz.prog 129 #[.pointer (some ⟨b,0,none⟩)] w fun v w'=>∃ l:Sl,v = .slice l.a l.n l.c /\ Sat W w' (recs Rec.str l R::eng b c R::M):=by
 refine cw f129_ok f129_raw ?_
 refine eng_cases hs (fun e hs=>?_) (fun e hs=>?_) (fun e hs=>?_) (fun e hs=>?_) (fun e hs=>?_)
 ·refine nilck_some (ld_b hs ?_)
  refine ite_true rfl ?_
  refine nilck_some (ld_b hs ?_)
  have hs:Sat W w (e10 e c R::blk b [.int .i64 0,.pointer (some ⟨e,0,none⟩),.pointer none,.pointer none,.pointer none,.pointer none]::M):=by exact Sat.fin hs
  refine call1_ret (q10_Keys hs) fun v w ⟨l,hv,hs⟩=>⟨_,hv,l,rfl,?_⟩
  have hs:=eng_shut0 (b:=b) (e:=e) (c:=c) (R:=R) (M:=recs Rec.str l R::M) (by exact Sat.fin hs)
  exact Sat.fin hs
 ·refine nilck_some (ld_b hs ?_)
  refine ite_false rfl ?_
  refine ite_true rfl ?_
  refine nilck_some (ld_b hs ?_)
  have hs:Sat W w (e13 e c R::blk b [.int .i64 1,.pointer none,.pointer (some ⟨e,0,none⟩),.pointer none,.pointer none,.pointer none]::M):=by exact Sat.fin hs
  refine call1_ret (q13_Keys hs) fun v w ⟨l,hv,hs⟩=>⟨_,hv,l,rfl,?_⟩
  have hs:=eng_shut1 (b:=b) (e:=e) (c:=c) (R:=R) (M:=recs Rec.str l R::M) (by exact Sat.fin hs)
  exact Sat.fin hs
 ·refine nilck_some (ld_b hs ?_)
  refine ite_false rfl ?_
  refine ite_false rfl ?_
  refine ite_true rfl ?_
  refine nilck_some (ld_b hs ?_)
  have hs:Sat W w (e11 e c R::blk b [.int .i64 2,.pointer none,.pointer none,.pointer (some ⟨e,0,none⟩),.pointer none,.pointer none]::M):=by exact Sat.fin hs
  refine call1_ret (q11_Keys hs) fun v w ⟨l,hv,hs⟩=>⟨_,hv,l,rfl,?_⟩
  have hs:=eng_shut2 (b:=b) (e:=e) (c:=c) (R:=R) (M:=recs Rec.str l R::M) (by exact Sat.fin hs)
  exact Sat.fin hs
 ·refine nilck_some (ld_b hs ?_)
  refine ite_false rfl ?_
  refine ite_false rfl ?_
  refine ite_false rfl ?_
  refine ite_true rfl ?_
  refine nilck_some (ld_b hs ?_)
  have hs:Sat W w (e14 e c R::blk b [.int .i64 3,.pointer none,.pointer none,.pointer none,.pointer (some ⟨e,0,none⟩),.pointer none]::M):=by exact Sat.fin hs
  refine call1_ret (q14_Keys hs) fun v w ⟨l,hv,hs⟩=>⟨_,hv,l,rfl,?_⟩
  have hs:=eng_shut3 (b:=b) (e:=e) (c:=c) (R:=R) (M:=recs Rec.str l R::M) (by exact Sat.fin hs)
  exact Sat.fin hs
 ·refine nilck_some (ld_b hs ?_)
  refine ite_false rfl ?_
  refine ite_false rfl ?_
  refine ite_false rfl ?_
  refine ite_false rfl ?_
  refine nilck_some (ld_b hs ?_)
  have hs:Sat W w (e12 e c R::blk b [.int .i64 4,.pointer none,.pointer none,.pointer none,.pointer none,.pointer (some ⟨e,0,none⟩)]::M):=by exact Sat.fin hs
  refine call1_ret (q12_Keys hs) fun v w ⟨l,hv,hs⟩=>⟨_,hv,l,rfl,?_⟩
  have hs:=eng_shut4 (b:=b) (e:=e) (c:=c) (R:=R) (M:=recs Rec.str l R::M) (by exact Sat.fin hs)
  exact Sat.fin hs
theorem q15_Room (hs:Sat W w (eng b c R::M)):Rts Tryz.prog 45 #[.pointer (some ⟨b,0,none⟩)] w fun v w'=>v = .int .i64 c /\ Sat W w' (eng b c R::M):=by
 refine cw f45_ok f45_raw ?_
 refine eng_cases hs (fun e hs=>?_) (fun e hs=>?_) (fun e hs=>?_) (fun e hs=>?_) (fun e hs=>?_)
 ·refine nilck_some (ld_b hs ?_)
  refine ite_true rfl ?_
  refine nilck_some (ld_b hs ?_)
  have hs:Sat W w (e10 e c R::blk b [.int .i64 0,.pointer (some ⟨e,0,none⟩),.pointer none,.pointer none,.pointer none,.pointer none]::M):=by exact Sat.fin hs
  refine call1_ret (q10_Room hs) fun v w ⟨hv,hs⟩=>⟨_,hv,rfl,?_⟩
  exact eng_shut0 (by exact Sat.fin hs)
 ·refine nilck_some (ld_b hs ?_)
  refine ite_false rfl ?_
  refine ite_true rfl ?_
  refine nilck_some (ld_b hs ?_)
  have hs:Sat W w (e13 e c R::blk b [.int .i64 1,.pointer none,.pointer (some ⟨e,0,none⟩),.pointer none,.pointer none,.pointer none]::M):=by exact Sat.fin hs
  refine call1_ret (q13_Room hs) fun v w ⟨hv,hs⟩=>⟨_,hv,rfl,?_⟩
  exact eng_shut1 (by exact Sat.fin hs)
 ·refine nilck_some (ld_b hs ?_)
  refine ite_false rfl ?_
  refine ite_false rfl ?_
  refine ite_true rfl ?_
  refine nilck_some (ld_b hs ?_)
  have hs:Sat W w (e11 e c R::blk b [.int .i64 2,.pointer none,.pointer none,.pointer (some ⟨e,0,none⟩),.pointer none,.pointer none]::M):=by exact Sat.fin hs
  refine call1_ret (q11_Room hs) fun v w ⟨hv,hs⟩=>⟨_,hv,rfl,?_⟩
  exact eng_shut2 (by exact Sat.fin hs)
 ·refine nilck_some (ld_b hs ?_)
  refine ite_false rfl ?_
  refine ite_false rfl ?_
  refine ite_false rfl ?_
  refine ite_true rfl ?_
  refine nilck_some (ld_b hs ?_)
  have hs:Sat W w (e14 e c R::blk b [.int .i64 3,.pointer none,.pointer none,.pointer none,.pointer (some ⟨e,0,none⟩),.pointer none]::M):=by exact Sat.fin hs
  refine call1_ret (q14_Room hs) fun v w ⟨hv,hs⟩=>⟨_,hv,rfl,?_⟩
  exact eng_shut3 (by exact Sat.fin hs)
 ·refine nilck_some (ld_b hs ?_)
  refine ite_false rfl ?_
  refine ite_false rfl ?_
  refine ite_false rfl ?_
  refine ite_false rfl ?_
  refine nilck_some (ld_b hs ?_)
  have hs:Sat W w (e12 e c R::blk b [.int .i64 4,.pointer none,.pointer none,.pointer none,.pointer none,.pointer (some ⟨e,0,none⟩)]::M):=by exact Sat.fin hs
  refine call1_ret (q12_Room hs) fun v w ⟨hv,hs⟩=>⟨_,hv,rfl,?_⟩
  exact eng_shut4 (by exact Sat.fin hs)
theorem eng_raw (h:Sat W w (eng b c R::M)):∃ k e,k < 5 /\ Sat W w (blk b (gC k e)::gE k e c R::M):=by
 obtain ⟨⟨k,e⟩,h⟩:=h.openE
 obtain ⟨hk,h⟩:=h.openA
 exact ⟨k,e,hk,h.openL⟩
theorem q15_KeysK {k e:Nat} (hk:k < 5) (hs:Sat W w (blk b (gC k e)::gE k e c R::M)):Rts Tryz.prog 129 #[.pointer (some ⟨b,0,none⟩)] w fun v w'=>∃ l:Sl,v = .slice l.a l.n l.c /\ Sat W w' (blk b (gC k e)::gE k e c R::recs Rec.str l R::M):=by
 refine cw f129_ok f129_raw ?_
 have h5:k = 0 \/ k = 1 \/ k = 2 \/ k = 3 \/ k = 4:=by omega
 rcases h5 with rfl | rfl | rfl | rfl | rfl
 ·have hs:Sat W w (blk b [.int .i64 0,.pointer (some ⟨e,0,none⟩),.pointer none,.pointer none,.pointer none,.pointer none]::e10 e c R::M):=hs
  refine nilck_some (ld_b hs ?_)
  refine ite_true rfl ?_
  refine nilck_some (ld_b hs ?_)
  have hs:Sat W w (e10 e c R::blk b [.int .i64 0,.pointer (some ⟨e,0,none⟩),.pointer none,.pointer none,.pointer none,.pointer none]::M):=by exact Sat.fin hs
  refine call1_ret (q10_Keys hs) fun v w ⟨l,hv,hs⟩=>⟨_,hv,l,rfl,?_⟩
  have hs:Sat W w (blk b [.int .i64 0,.pointer (some ⟨e,0,none⟩),.pointer none,.pointer none,.pointer none,.pointer none]::e10 e c R::recs Rec.str l R::M):=by exact Sat.fin hs
  exact hs
 ·have hs:Sat W w (blk b [.int .i64 1,.pointer none,.pointer (some ⟨e,0,none⟩),.pointer none,.pointer none,.pointer none]::e13 e c R::M):=hs
  refine nilck_some (ld_b hs ?_)
  refine ite_false rfl ?_
  refine ite_true rfl ?_
  refine nilck_some (ld_b hs ?_)
  have hs:Sat W w (e13 e c R::blk b [.int .i64 1,.pointer none,.pointer (some ⟨e,0,none⟩),.pointer none,.pointer none,.pointer none]::M):=by exact Sat.fin hs
  refine call1_ret (q13_Keys hs) fun v w ⟨l,hv,hs⟩=>⟨_,hv,l,rfl,?_⟩
  have hs:Sat W w (blk b [.int .i64 1,.pointer none,.pointer (some ⟨e,0,none⟩),.pointer none,.pointer none,.pointer none]::e13 e c R::recs Rec.str l R::M):=by exact Sat.fin hs
  exact hs
 ·have hs:Sat W w (blk b [.int .i64 2,.pointer none,.pointer none,.pointer (some ⟨e,0,none⟩),.pointer none,.pointer none]::e11 e c R::M):=hs
  refine nilck_some (ld_b hs ?_)
  refine ite_false rfl ?_
  refine ite_false rfl ?_
  refine ite_true rfl ?_
  refine nilck_some (ld_b hs ?_)
  have hs:Sat W w (e11 e c R::blk b [.int .i64 2,.pointer none,.pointer none,.pointer (some ⟨e,0,none⟩),.pointer none,.pointer none]::M):=by exact Sat.fin hs
  refine call1_ret (q11_Keys hs) fun v w ⟨l,hv,hs⟩=>⟨_,hv,l,rfl,?_⟩
  have hs:Sat W w (blk b [.int .i64 2,.pointer none,.pointer none,.pointer (some ⟨e,0,none⟩),.pointer none,.pointer none]::e11 e c R::recs Rec.str l R::M):=by exact Sat.fin hs
  exact hs
 ·have hs:Sat W w (blk b [.int .i64 3,.pointer none,.pointer none,.pointer none,.pointer (some ⟨e,0,none⟩),.pointer none]::e14 e c R::M):=hs
  refine nilck_some (ld_b hs ?_)
  refine ite_false rfl ?_
  refine ite_false rfl ?_
  refine ite_false rfl ?_
  refine ite_true rfl ?_
  refine nilck_some (ld_b hs ?_)
  have hs:Sat W w (e14 e c R::blk b [.int .i64 3,.pointer none,.pointer none,.pointer none,.pointer (some ⟨e,0,none⟩),.pointer none]::M):=by exact Sat.fin hs
  refine call1_ret (q14_Keys hs) fun v w ⟨l,hv,hs⟩=>⟨_,hv,l,rfl,?_⟩
  have hs:Sat W w (blk b [.int .i64 3,.pointer none,.pointer none,.pointer none,.pointer (some ⟨e,0,none⟩),.pointer none]::e14 e c R::recs Rec.str l R::M):=by exact Sat.fin hs
  exact hs
 ·have hs:Sat W w (blk b [.int .i64 4,.pointer none,.pointer none,.pointer none,.pointer none,.pointer (some ⟨e,0,none⟩)]::e12 e c R::M):=hs
  refine nilck_some (ld_b hs ?_)
  refine ite_false rfl ?_
  refine ite_false rfl ?_
  refine ite_false rfl ?_
  refine ite_false rfl ?_
  refine nilck_some (ld_b hs ?_)
  have hs:Sat W w (e12 e c R::blk b [.int .i64 4,.pointer none,.pointer none,.pointer none,.pointer none,.pointer (some ⟨e,0,none⟩)]::M):=by exact Sat.fin hs
  refine call1_ret (q12_Keys hs) fun v w ⟨l,hv,hs⟩=>⟨_,hv,l,rfl,?_⟩
  have hs:Sat W w (blk b [.int .i64 4,.pointer none,.pointer none,.pointer none,.pointer none,.pointer (some ⟨e,0,none⟩)]::e12 e c R::recs Rec.str l R::M):=by exact Sat.fin hs
  exact hs
theorem q15_Len (hs:Sat W w (eng b c R::M)):Rts Tryz.prog 118 #[.pointer (some ⟨b,0,none⟩)] w fun v w'=>v = .int .i64 (R.length:Int) /\ Sat W w' (eng b c R::M):=by
 refine cw f118_ok f118_raw ?_
 refine call1_ret (q15_Keys hs) fun v w ⟨l,hv,hs⟩=>⟨_,hv,?_⟩
 have hn:=(recs_len (s:=l) hs).1
 exact ⟨by rw [hn],hs.drop⟩
theorem q15_Name (hs:Sat W w L) {k:Int}:Rts Tryz.prog 55 #[.int .i64 k] w fun v w'=>∃ s,v = .string s /\ Sat W w' L:=by
 refine cw f55_ok f55_raw ?_
 iterate 5
  refine ite_cases (fun _=>⟨_,rfl,hs⟩) (fun _=>?_)
 exact ⟨_,rfl,hs⟩
theorem q15_From {k r:Int} (hk:0 <= k /\ k < 5) {s0:Sl} {ks:BL} [hr:Rdb W L s0 Rec.str ks] (hs:Sat W w L) (hn:ks.Nodup) (hz:∀ x ∈ ks,x.size < 64) (hl:(ks.length:Int) <= roomR r) :
  Rts Tryz.prog 138 #[.int .i64 k,.int .i64 r,.slice s0.a s0.n s0.c] w fun v w'=>∃ b S,v = .tuple #[.pointer (some ⟨b,0,none⟩),.int .i64 0] /\ (∀ x,x ∈ S ↔ x ∈ ks) /\ Sat W w' (eng b (roomR r) S::L):=by
 refine cw f138_ok f138_raw ?_
 refine call2_ret (q15_New hs) fun v w hN=>?_
 rcases hN with ⟨_,b,hv,hs⟩ | ⟨h1,_⟩
 ·refine ⟨_,_,hv,?_⟩
  refine ite_false rfl ?_
  have hsn:=rdb_len (s:=s0) hs
  have hrm:=roomR_in r
  have loop:∀ (f i:Nat) (w:World) (S:BL),i + f = ks.length -> (∀ x,x ∈ S ↔ x ∈ ks.take i) -> Sat W w (eng b (roomR r) S::L) ->
    f138_l1 idJ (fun v w'=>∃ b S,v = .tuple #[.pointer (some ⟨b,0,none⟩),.int .i64 0] /\ (∀ x,x ∈ S ↔ x ∈ ks) /\ Sat W w' (eng b (roomR r) S::L)) (f + 1) s0 (some ⟨b,0,none⟩) (i:Int) w:=by
   clear hs
   intro f
   induction f with
   | zero=>
    intro i w S hi hS hs
    rw [f138_l1_raw]
    refine ite_false (decide_eq_false (by omega)) ?_
    refine jw f138_j2_raw ?_
    rw [List.take_of_length_le (by omega)] at hS
    exact ⟨b,S,rfl,hS,hs⟩
   | succ f ih=>
    intro i w S hi hS hs
    rw [f138_l1_raw]
    refine ite_true (decide_eq_true (by omega)) ?_
    refine idx_rd (s:=s0) hs fun b_ o_ ha_=>?_
    refine ld_rd0 ha_ hs ?_
    rw [Int.toNat_natCast]
    have hm:ks.getD i default ∈ ks:=getD_mem (by omega)
    have hk:=eng_ok hs
    have hpl:S.length = i:=by
     have hp:=perm_of_mem hk.nd (hn.sublist (List.take_sublist i ks)) hS
     rw [hp.length_eq,List.length_take]; omega
    have hno:ks.getD i default ∉ ks.take i:=by
     intro hin
     have h2:=hn
     rw [<- List.take_append_drop i ks,List.nodup_append] at h2
     have hd:ks.getD i default ∈ ks.drop i:=by
      rw [List.getD_eq_getElem?_getD,List.getElem?_eq_getElem (show i < ks.length by omega)]
      rw [List.drop_eq_getElem_cons (show i < ks.length by omega)]
      exact .head _
     exact h2.2.2 _ hin _ hd rfl
    refine call1_ret (q15_Load hs (hz _ hm)) fun v w ⟨yes,S',hv,ha,hs⟩=>⟨_,hv,?_⟩
    rw [show IntKind.wrap .i64 ((i:Int) + 1) = ((i + 1:Nat):Int) by rw [i64_in _ (by have:=rdb_len (s:=s0) hs; omega)]; omega]
    refine ih (i + 1) w S' (by omega) (fun x=>?_) hs
    have hy:yes = true:=by rw [ha.says]; exact decide_eq_true ⟨fun h=>hno ((hS _).1 h),by omega⟩
    rw [ha.mem,take_snoc (by omega),List.mem_append,List.mem_singleton,hS,hy]
    simp
  exact exM_of _ (loop ks.length 0 w [] (by omega) (by simp) hs)
 ·exact absurd hk h1
end
end Go.Proofs.YtmefopmnjncdbaaGreat
namespace Go.Hb
instance:PosR Rec.ptr:=⟨Nat.one_pos⟩
section
variable {α:Type} {f:α -> HP} {l:List α} {i:Nat} {x:α} {W w:World} {M:List HP}
theorem pick_at (hi:i < l.length) (h:Sat W w (allH (l.map f)::M)):Sat W w (f l[i]::allH ((l.eraseIdx i).map f)::M):=by
 have h1:=h.openL
 have hp:(l.map f).Perm (f l[i]::(l.eraseIdx i).map f):=(((erase_perm hi).map f).symm)
 have h2:=h1.perm (hp.append_right M)
 have h2:Sat W w (f l[i]::((l.eraseIdx i).map f ++ M)):=h2
 have h3:=h2.perm (List.perm_middle (a:=f l[i]) (l₁:=(l.eraseIdx i).map f) (l₂:=M)).symm
 have h4:=Sat.shutL h3
 exact h4.perm (List.Perm.swap _ _ _)
theorem put_at (hi:i < l.length) (h:Sat W w (f x::allH ((l.eraseIdx i).map f)::M)):Sat W w (allH ((l.set i x).map f)::M):=by
 have h1:=(h.perm (List.Perm.swap _ _ _)).openL
 have h2:Sat W w (f x::((l.eraseIdx i).map f ++ M)):=h1.perm List.perm_middle
 have hs:i < (l.set i x).length:=by simpa using hi
 have hp:=(erase_perm hs).map f
 have e1:(l.set i x)[i] = x:=by simp
 have e2:(l.set i x).eraseIdx i = l.eraseIdx i:=List.eraseIdx_set_eq
 rw [e1,e2] at hp
 exact Sat.shutL (h2.perm (hp.append_right M))
theorem put_same (hi:i < l.length) (h:Sat W w (f l[i]::allH ((l.eraseIdx i).map f)::M)):Sat W w (allH (l.map f)::M):=by
 have h1:=put_at hi h
 rw [List.set_getElem_self] at h1
 exact h1
theorem put_snoc (h:Sat W w (f x::allH (l.map f)::M)):Sat W w (allH ((l ++ [x]).map f)::M):=by
 have h1:=(h.perm (List.Perm.swap _ _ _)).openL
 refine Sat.shutL ?_
 rw [List.map_append,List.append_assoc]
 exact h1
theorem pick_nil (h:Sat W w M):Sat W w (allH (([]:List α).map f)::M):=Sat.shutL h
end
end Go.Hb
