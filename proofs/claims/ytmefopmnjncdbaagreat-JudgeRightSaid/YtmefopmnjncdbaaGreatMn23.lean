import Derived.Maps.OwnSet
import Derived.Maps.Views
import Derived.StringKeys
import Derived.Test.YtmefopmnjncdbaaGreatMn22
set_option linter.unusedVariables false
set_option linter.unusedSimpArgs false
set_option linter.unnecessarySimpa false
set_option linter.unusedSectionVars false
set_option maxRecDepth 100000
namespace Go.Hb
abbrev cD (b tb fb mb:Nat) (x0 x1 x2 x3 x4 x5:Int) (s:Sl):HP:=blk b [.pointer (some ⟨tb,0,none⟩),.pointer (some ⟨fb,0,none⟩),.pointer (some ⟨mb,0,none⟩),.int .i64 x0,.int .i64 x1,.int .i64 x2,.int .i64 x3,.int .i64 x4,.int .i64 x5,.slice s.a s.n s.c]
structure Cnt6 (x0 x1 x2 x3 x4 x5:Int):Prop where
 h0:cnt x0
 h1:cnt x1
 h2:cnt x2
 h3:cnt x3
 h4:cnt x4
 h5:cnt x5
def sdK (b:Nat) (c:Int) (T:TT) (l:List Ev) (wr k:Int) (R:BL) (evs:List Ev):HP:=exH fun (z:(Nat × Nat × Nat × Sl) × (Int × Int × Int × Int × Int × Int))=>andH (Cnt6 z.2.1 z.2.2.1 z.2.2.2.1 z.2.2.2.2.1 z.2.2.2.2.2.1 z.2.2.2.2.2.2)
 (allH [cD b z.1.1 z.1.2.1 z.1.2.2.1 z.2.1 z.2.2.1 z.2.2.2.1 z.2.2.2.2.1 z.2.2.2.2.2.1 z.2.2.2.2.2.2 z.1.2.2.2,rtR z.1.1 T,fd z.1.2.1 wr k l,mvR z.1.2.2.1 c R,recs evR z.1.2.2.2 evs])
def sd (b:Nat) (c:Int) (n:Nat) (T:TT):HP:=exH fun (z:List Ev × Int × Int × BL × List Ev)=>andH (SInv c n T z.1 z.2.1 z.2.2.2.1 z.2.2.2.2) (sdK b c T z.1 z.2.1 z.2.2.1 z.2.2.2.1 z.2.2.2.2)
section
variable {W w:World} {M L:List HP} {b:Nat} {c:Int} {T:TT} {l evs:List Ev} {wr k:Int} {R:BL} {n:Nat}
theorem sdK_open (h:Sat W w (sdK b c T l wr k R evs::M)):∃ (tb fb mb:Nat) (s:Sl) (x0 x1 x2 x3 x4 x5:Int),Cnt6 x0 x1 x2 x3 x4 x5 /\ Sat W w (cD b tb fb mb x0 x1 x2 x3 x4 x5 s::rtR tb T::fd fb wr k l::mvR mb c R::recs evR s evs::M):=by
 obtain ⟨⟨⟨tb,fb,mb,s⟩,⟨x0,x1,x2,x3,x4,x5⟩⟩,h⟩:=h.openE
 obtain ⟨hp,h⟩:=h.openA
 exact ⟨tb,fb,mb,s,x0,x1,x2,x3,x4,x5,hp,h.openL⟩
theorem sdK_shut {tb fb mb:Nat} {s:Sl} {x0 x1 x2 x3 x4 x5:Int} (hc:Cnt6 x0 x1 x2 x3 x4 x5) (h:Sat W w (cD b tb fb mb x0 x1 x2 x3 x4 x5 s::rtR tb T::fd fb wr k l::mvR mb c R::recs evR s evs::M)):Sat W w (sdK b c T l wr k R evs::M):=
 Sat.shutE ((tb,fb,mb,s),(x0,x1,x2,x3,x4,x5)) (Sat.shutA hc (Sat.shutL (Ps:=[_,_,_,_,_]) h))
theorem sdK_ok (h:Sat W w (sdK b c T l wr k R evs::M)):EOk c R:=by
 obtain ⟨tb,fb,mb,s,x0,x1,x2,x3,x4,x5,_,hs⟩:=sdK_open h
 have hs:Sat W w (mvR mb c R::M):=by exact Sat.fin hs
 exact mv_ok hs
theorem sd_open (h:Sat W w (sd b c n T::M)):∃ (l:List Ev) (wr k:Int) (R:BL) (evs:List Ev),SInv c n T l wr R evs /\ Sat W w (sdK b c T l wr k R evs::M):=by
 obtain ⟨⟨l,wr,k,R,evs⟩,h⟩:=h.openE
 obtain ⟨hp,h⟩:=h.openA
 exact ⟨l,wr,k,R,evs,hp,h⟩
theorem sd_shut (hi:SInv c n T l wr R evs) (h:Sat W w (sdK b c T l wr k R evs::M)):Sat W w (sd b c n T::M):=Sat.shutE (l,wr,k,R,evs) (Sat.shutA hi h)
end
end Go.Hb
namespace Go.Proofs.YtmefopmnjncdbaaGreat
open Go.Hb Go.IntWalk
section
variable {W w:World} {L M:List HP} {b:Nat} {c:Int} {T:TT} {l evs:List Ev} {wr k:Int} {R:BL} {n:Nat} {key:ByteArray} {now:Int}
theorem q24_inc (hs:Sat W w L) {a:Int} (ha:cnt a):Rts Tryz.prog 40 #[.int .i64 a] w fun v w'=>∃ x:Int,v = .int .i64 x /\ cnt x /\ Sat W w' L:=by
 refine cw f40_ok f40_raw ?_
 exact call1_ret (q2_Inc hs ha) fun v w ⟨x,hv,hx,hs⟩=>⟨_,hv,x,rfl,hx,hs⟩
theorem q24_gone {sg:Sl} {g:BL} (ht:TOk T) (hl:T.length < 1000000) (hg:g.length < 1000000) (hs:Sat W w (sdK b c T l wr k R evs::recs Rec.str sg g::M)) :
  Rts Tryz.prog 49 #[.pointer (some ⟨b,0,none⟩),.slice sg.a sg.n sg.c] w fun v w'=>v = .tuple #[] /\ Sat W w' (sdK b c (delAll T g) l wr k R evs::recs Rec.str sg g::M):=by
 refine cw f49_ok f49_raw ?_
 have hn:=rdb_len (s:=sg) (E:=Rec.str) (rows:=g) hs
 have loop:∀ (f i:Nat) (w:World),i + f = g.length -> Sat W w (sdK b c (delAll T (g.take i)) l wr k R evs::recs Rec.str sg g::M) ->
   f49_l1 idJ (fun v w'=>v = .tuple #[] /\ Sat W w' (sdK b c (delAll T g) l wr k R evs::recs Rec.str sg g::M)) (f + 1) (some ⟨b,0,none⟩) sg (i:Int) w:=by
  clear hs
  intro f
  induction f with
  | zero=>
   intro i w hi hs
   rw [f49_l1_raw]
   refine ite_false (decide_eq_false (by omega)) ?_
   rw [List.take_of_length_le (by omega)] at hs
   exact ⟨rfl,hs⟩
  | succ f ih=>
   intro i w hi hs
   rw [f49_l1_raw]
   refine ite_true (decide_eq_true (by omega)) ?_
   obtain ⟨tb,fb,mb,s,x0,x1,x2,x3,x4,x5,hc,hs⟩:=sdK_open hs
   refine drawW_only [cD b tb fb mb x0 x1 x2 x3 x4 x5 s] hs fun w hs=>?_
   refine nilck_some (ldS_b ?_)
   refine idx_rd (s:=sg) (E:=Rec.str) (rows:=g) hs fun b_ o_ ha_=>?_
   refine ld_rd0 (s:=sg) (E:=Rec.str) (rows:=g) ha_ hs ?_
   rw [Int.toNat_natCast]
   refine keep_imp hs ?_
   have ht2:TOk (delAll T (g.take i)):=delAll_tok ht
   have hl2:=delAll_len (g:=g.take i) ht
   have e1:delAll T (g.take (i + 1)) = rDel (delAll T (g.take i)) (g.getD i default):=by
    unfold delAll
    rw [take_snoc (by omega),List.foldl_append]; rfl
   refine call1_of (r21_Delete (k:=g.getD i default) hs ht2.rise (by omega)) fun e w ⟨he,hs⟩=>⟨_,he,?_⟩
   rw [<- e1] at hs
   rw [show IntKind.wrap .i64 ((i:Int) + 1) = ((i + 1:Nat):Int) by rw [i64_in _ (by omega)]; omega]
   refine ite_cases (fun _=>?_) (fun _=>?_)
   ·refine nilck_some (ld_b hs ?_)
    refine call1_ret (q24_inc hs hc.h3) fun v w ⟨x3',hv,hx3,hs⟩=>⟨_,hv,?_⟩
    refine nilck_some (st_b hs fun w hs=>?_)
    exact ih (i + 1) w (by omega) (sdK_shut ⟨hc.h0,hc.h1,hc.h2,hx3,hc.h4,hc.h5⟩ hs)
   ·exact ih (i + 1) w (by omega) (sdK_shut hc hs)
 exact exM_of _ (loop g.length 0 w (by omega) hs)
theorem q24_Drain {K:BL} (ht:TOk T) (hl:T.length < 1000000) (hn:evs.length + l.length < 900000) (hsim:Sim c R l K) (hs:Sat W w (sdK b c T l wr k R evs::M)) :
  Rts Tryz.prog 47 #[.pointer (some ⟨b,0,none⟩)] w fun v w'=>∃ (m:Int) (S:BL),v = .int .i64 m /\ (∀ x,x ∈ S ↔ x ∈ K) /\ Sat W w' (sdK b c T [] wr 0 S (evs ++ l)::M):=by
 refine cw f47_ok f47_raw ?_
 obtain ⟨tb,fb,mb,s,x0,x1,x2,x3,x4,x5,hc,hs⟩:=sdK_open hs
 refine nilck_some (ld_b hs ?_)
 have hs:Sat W w (fd fb wr k l::cD b tb fb mb x0 x1 x2 x3 x4 x5 s::rtR tb T::mvR mb c R::recs evR s evs::M):=by exact Sat.fin hs
 refine call1_ret (q22_Drain hs) fun v w ⟨sl,hv,hs⟩=>⟨_,hv,?_⟩
 have hs:Sat W w (cD b tb fb mb x0 x1 x2 x3 x4 x5 s::rtR tb T::fd fb wr 0 []::mvR mb c R::recs evR s evs::recs evR sl l::M):=by exact Sat.fin hs
 have hs:=sdK_shut hc hs
 have hsn:=rdb_len (s:=sl) (E:=evR) (rows:=l) hs
 have loop:∀ (f i:Nat) (w:World) (S:BL),i + f = l.length -> Sim c S (l.drop i) K -> Sat W w (sdK b c T [] wr 0 S (evs ++ l.take i)::recs evR sl l::M) ->
   f47_l1 idJ (fun v w'=>∃ (m:Int) (S:BL),v = .int .i64 m /\ (∀ x,x ∈ S ↔ x ∈ K) /\ Sat W w' (sdK b c T [] wr 0 S (evs ++ l)::M)) (f + 1) (some ⟨b,0,none⟩) sl (i:Int) w:=by
  clear hs
  intro f
  induction f with
  | zero=>
   intro i w S hi hsim hs
   rw [f47_l1_raw]
   refine ite_false (decide_eq_false (by omega)) ?_
   refine jw f47_j2_raw ?_
   rw [List.take_of_length_le (by omega)] at hs
   rw [List.drop_eq_nil_of_le (by omega)] at hsim
   exact ⟨_,S,rfl,hsim,by exact Sat.fin hs⟩
  | succ f ih=>
   intro i w S hi hsim hs
   rw [f47_l1_raw]
   refine ite_true (decide_eq_true (by omega)) ?_
   have hil:i < l.length:=by omega
   have hd:l.drop i = l.getD i default::l.drop (i + 1):=by
    rw [List.drop_eq_getElem_cons hil,List.getD_eq_getElem?_getD,List.getElem?_eq_getElem hil]; rfl
   rw [hd] at hsim
   obtain ⟨hz,R',hev,hsim2⟩:=hsim
   obtain ⟨tb,fb,mb,s,x0,x1,x2,x3,x4,x5,hc,hs⟩:=sdK_open hs
   refine drawW_only [cD b tb fb mb x0 x1 x2 x3 x4 x5 s,recs evR sl l] hs fun w hs=>?_
   refine nilck_some (ldS_b ?_)
   refine idx_rd (s:=sl) (E:=evR) (rows:=l) hs fun b_ o_ ha_=>?_
   refine ld_rd0 (s:=sl) (E:=evR) (rows:=l) ha_ hs (ld_rd1 (s:=sl) (E:=evR) (rows:=l) ha_ hs ?_ (hc:=rfl)) (hc:=rfl)
   rw [Int.toNat_natCast]
   refine keep_imp hs ?_
   have hs:Sat W w (mvR mb c S::cD b tb fb mb x0 x1 x2 x3 x4 x5 s::rtR tb T::fd fb wr 0 []::recs evR s (evs ++ l.take i)::recs evR sl l::M):=by exact Sat.fin hs
   refine call1_ret (q23_Apply hz hev hs) fun v w ⟨ge,S2,hv,hm,hs⟩=>⟨_,hv,?_⟩
   have hs:Sat W w (cD b tb fb mb x0 x1 x2 x3 x4 x5 s::rtR tb T::fd fb wr 0 []::mvR mb c S2::recs evR s (evs ++ l.take i)::recs Rec.str ge []::recs evR sl l::M):=by exact Sat.fin hs
   have hs:=sdK_shut hc hs
   refine call0_ret (q24_gone ht hl (by simp) hs) fun v w ⟨hv,hs⟩=>⟨hv,?_⟩
   have hs:Sat W w (sdK b c T [] wr 0 S2 (evs ++ l.take i)::recs Rec.str ge []::recs evR sl l::M):=hs
   clear hc
   obtain ⟨tb,fb,mb,s,x0,x1,x2,x3,x4,x5,hc,hs⟩:=sdK_open hs
   have hev1:=(recs_len (s:=s) hs)
   refine drawW_only [cD b tb fb mb x0 x1 x2 x3 x4 x5 s,recs evR sl l] hs fun w hs=>?_
   refine nilck_some (ldS_b (x:=s) ?_)
   refine idx_rd (s:=sl) (E:=evR) (rows:=l) hs fun b_ o_ ha_=>?_
   refine ld_rd0 (s:=sl) (E:=evR) (rows:=l) ha_ hs (ld_rd1 (s:=sl) (E:=evR) (rows:=l) ha_ hs ?_ (hc:=rfl)) (hc:=rfl)
   refine keep_imp hs ?_
   refine newB_at hs fun nb w hs=>keep_imp hs ?_
   have hlen:(evs ++ l.take i).length <= 900000:=by simp; omega
   refine app_one (s:=s) (a:=l.getD i default) hs rfl rfl rfl rfl (by decide) (by omega) fun s5 w hs5 hs=>?_
   refine nilck_some (st_b hs fun w hs=>?_)
   rw [List.append_assoc,<- take_snoc hil] at hs
   rw [show IntKind.wrap .i64 ((i:Int) + 1) = ((i + 1:Nat):Int) by rw [i64_in _ (by omega)]; omega]
   exact ih (i + 1) w S2 (by omega) (hsim2.left fun x=>(hm x).symm) (sdK_shut hc (by exact Sat.fin hs))
 refine exM_of _ (loop l.length 0 w R (by omega) hsim ?_)
 rw [List.take_zero,List.append_nil]
 exact hs
theorem q24_waits {kd:Int} (hkd:kd = 2 \/ kd = 3) {K:BL} (ht:TOk T) (hl:T.length < 1000000) (hn:evs.length + l.length < 900000) (hwr:1 <= wr) (hz:key.size < 64) (hsim:Sim c R l K) (hev:EvS c K (kd,key) (kT T)) (hs:Sat W w (sdK b c T l wr k R evs::M)) :
  Rts Tryz.prog 46 #[.pointer (some ⟨b,0,none⟩),.int .i64 kd,.string key] w fun v w'=>v = .tuple #[] /\ ∃ (l':List Ev) (k':Int) (S:BL) (evs':List Ev),evs'.length + l'.length = evs.length + l.length + 1 /\ Sim c S l' (kT T) /\ Sat W w' (sdK b c T l' wr k' S evs'::M):=by
 refine cw f46_ok f46_raw ?_
 obtain ⟨tb,fb,mb,s,x0,x1,x2,x3,x4,x5,hc,hs⟩:=sdK_open hs
 refine nilck_some (ld_b hs ?_)
 have hs:Sat W w (fd fb wr k l::cD b tb fb mb x0 x1 x2 x3 x4 x5 s::rtR tb T::mvR mb c R::recs evR s evs::M):=by exact Sat.fin hs
 refine call1_ret (q22_Write hkd (by omega) hs) fun v w h=>?_
 rcases h with ⟨_,hv,k',hs⟩ | ⟨_,hv,hs⟩
 ·refine ⟨_,hv,ite_false rfl ?_⟩
  exact ⟨rfl,l ++ [(kd,key)],k',R,evs,by simp; omega,hsim.snoc hz hev,sdK_shut hc (by exact Sat.fin hs)⟩
 ·refine ⟨_,hv,ite_true rfl ?_⟩
  have hs:Sat W w (sdK b c T l wr k R evs::M):=sdK_shut hc (by exact Sat.fin hs)
  refine call1_ret (q24_Drain ht hl hn hsim hs) fun v w ⟨m,S,hv,hm,hs⟩=>⟨_,hv,?_⟩
  clear hc
  obtain ⟨tb,fb,mb,s,x0,x1,x2,x3,x4,x5,hc,hs⟩:=sdK_open hs
  refine nilck_some (ld_b hs ?_)
  have hs:Sat W w (fd fb wr 0 []::cD b tb fb mb x0 x1 x2 x3 x4 x5 s::rtR tb T::mvR mb c S::recs evR s (evs ++ l)::M):=by exact Sat.fin hs
  refine call1_ret (q22_Write hkd (by simp) hs) fun v w h=>?_
  rcases h with ⟨_,hv,k',hs⟩ | ⟨h1,hv,hs⟩
  ·refine ⟨_,hv,rfl,[(kd,key)],k',S,evs ++ l,by simp,?_,sdK_shut hc (by exact Sat.fin hs)⟩
   exact ⟨hz,kT T,hev.congr fun x=>(hm x).symm,fun _=>Iff.rfl⟩
  ·omega
theorem delAll_one:delAll T [key] = rDel T key:=rfl
theorem over_no {tb fb mb:Nat} {s:Sl} {x0 x1 x2 x3 x4 x5:Int} (hi:SInv c n T l wr R evs) (hc:Cnt6 x0 x1 x2 x3 x4 x5) (h:tOv T key now = false) (hs:Sat W w (cD b tb fb mb x0 x1 x2 x3 x4 x5 s::rtR tb T::fd fb wr k l::mvR mb c R::recs evR s evs::M)) :
  ∃ s:Sl,Value.slice none 0 0 = .slice s.a s.n s.c /\ Sat W w (sd b c (n + 1) (sOver T key now)::recs Rec.str s (gOver T key now)::M):=by
 have e1:sOver T key now = T:=by unfold sOver; rw [h]; rfl
 have e2:gOver T key now = []:=by unfold gOver; rw [h]; rfl
 rw [e1,e2]
 have hnn:=hi.n
 have hs:=sd_shut (n:=n + 1) ⟨hi.tok,hi.small,hi.len,hi.wr,by omega,hi.sim⟩ (sdK_shut hc hs)
 have hs:=Sat.nilR Rec.str hs
 exact ⟨⟨none,0,0⟩,rfl,by exact Sat.fin hs⟩
theorem over_j1 (hi:SInv c n T l wr R evs) (hn:n < 800000) (hkz:key.size <= 40) (hov:tOv T key now = true) (hs:Sat W w (sdK b c T l wr k R evs::M)) :
  f38_j1 idJ (fun v w'=>∃ s:Sl,v = .slice s.a s.n s.c /\ Sat W w' (sd b c (n + 1) (sOver T key now)::recs Rec.str s (gOver T key now)::M)) (some ⟨b,0,none⟩) key w:=by
 have hkR:=sdK_ok hs
 have hc1:=hkR.c1; have hc2:=hkR.c2; have hTl:=hi.len; have hnn:=hi.n
 refine jw f38_j1_raw ?_
 have e1:sOver T key now = rDel T key:=by unfold sOver; rw [hov]; rfl
 have e2:gOver T key now = [key]:=by unfold gOver; rw [hov]; rfl
 rw [e1,e2]
 refine newB_at hs fun nb w hs=>?_
 have hs:=Sat.blkS (b:=nb) (cs:=[.string key]) (n:=1) Rec.str [key] hs rfl rfl
 have hs:Sat W w (sdK b c T l wr k R evs::recs Rec.str ⟨some ⟨nb,0,none⟩,1,1⟩ [key]::M):=by exact Sat.fin hs
 refine call0_ret (q24_gone (sg:=⟨some ⟨nb,0,none⟩,1,1⟩) (g:=[key]) hi.tok (by omega) (by simp) hs) fun v w ⟨hv,hs⟩=>⟨hv,?_⟩
 rw [delAll_one] at hs
 have hdl:=rDel_len hi.tok key
 have hsm:∀ e ∈ rDel T key,e.1.size <= 40:=fun e he=>by rw [rDel_eq hi.tok.rise] at he; exact mDel_sub (P:=fun k=>k.size <= 40) hi.small e he
 have htk:=hi.tok.del key
 have hev:=EvS.del (key:=key) hi.tok hi.small hi.len hc1 hc2
 generalize rDel T key = T' at *
 refine call0_ret (q24_waits (.inr rfl) htk (by omega) (by omega) hi.wr (by omega) hi.sim hev hs) fun v w ⟨hv,l',k',S,evs',hlen,hsim,hs⟩=>⟨hv,?_⟩
 refine newB_at hs fun nb2 w hs=>?_
 have hs:=Sat.blkS (b:=nb2) (cs:=[.string key]) (n:=1) Rec.str [key] hs rfl rfl
 have hs:Sat W w (sdK b c T' l' wr k' S evs'::recs Rec.str ⟨some ⟨nb2,0,none⟩,1,1⟩ [key]::M):=by exact Sat.fin hs
 have hs:=sd_shut (n:=n + 1) ⟨htk,hsm,by omega,hi.wr,by omega,hsim⟩ hs
 exact ⟨⟨some ⟨nb2,0,none⟩,1,1⟩,rfl,hs⟩
theorem q24_over (hn:n < 800000) (hkz:key.size <= 40) (hs:Sat W w (sd b c n T::M)):Rts Tryz.prog 38 #[.pointer (some ⟨b,0,none⟩),.string key,.int .i64 now] w fun v w'=>∃ s:Sl,v = .slice s.a s.n s.c /\ Sat W w' (sd b c (n + 1) (sOver T key now)::recs Rec.str s (gOver T key now)::M):=by
 refine cw f38_ok f38_raw ?_
 obtain ⟨l,wr,k,R,evs,hi,hs⟩:=sd_open hs
 have hkR:=sdK_ok hs
 have hc2:=hkR.c2; have hTl:=hi.len
 obtain ⟨tb,fb,mb,s,x0,x1,x2,x3,x4,x5,hc,hs⟩:=sdK_open hs
 refine nilck_some (ld_b hs ?_)
 refine call2_of (r21_Get (k:=key) (now:=now) hs hi.tok (by omega)) fun e w ⟨he,hs⟩=>⟨_,_,he,?_⟩
 refine ite_cases (fun h1=>?_) (fun h1=>?_)
 ·exact over_no hi hc (by unfold tOv; rw [h1]; simp) hs
 refine nilck_some (ld_b hs ?_)
 refine call1_of (r21_Has (k:=key) hs hi.tok.rise (by omega)) fun e w ⟨he,hs⟩=>⟨_,he,?_⟩
 refine ite_cases (fun h2=>?_) (fun h2=>?_)
 ·exact over_no hi hc (by unfold tOv; rw [Bool.not_eq_true'] at h2; rw [h2]; rfl) hs
 exact over_j1 hi hn hkz (by unfold tOv; rw [h1]; simpa using h2) (sdK_shut hc hs)
def mayE (key:ByteArray) (now:Int):Int:=if isKey key = false then 2 else if now < 0 \/ 1125899906842624 < now then 1 else 0
theorem q24_may (hs:Sat W w L):Rts Tryz.prog 37 #[.string key,.int .i64 now] w fun v w'=>v = .int .i64 (mayE key now) /\ Sat W w' L:=by
 refine cw f37_ok f37_raw ?_
 refine call1_of (rkey_at (k:=key) hs) fun e w ⟨he,hs⟩=>⟨_,he,?_⟩
 unfold mayE
 cases hk:isKey key with
 | false=>exact ite_true rfl ⟨rfl,hs⟩
 | true=>
  refine ite_false rfl ?_
  rw [if_neg (by simp)]
  with_reducible refine ite_by (fun h1=>?_) (fun h1=>?_)
  ·rw [if_pos (.inl h1)]; exact ⟨rfl,hs⟩
  with_reducible refine ite_by (fun h2=>?_) (fun h2=>?_)
  ·rw [if_pos (.inr h2)]; exact ⟨rfl,hs⟩
  ·rw [if_neg (by omega)]; exact ⟨rfl,hs⟩
theorem mayE_ok (h:mayE key now = 0):isKey key = true /\ 0 <= now /\ now <= 1125899906842624:=by
 unfold mayE at h
 split at h
 ·omega
 ·rename_i h1
  split at h
  ·omega
  ·exact ⟨by simpa using h1,by omega,by omega⟩
theorem inv_more {n':Nat} (h:SInv c n T l wr R evs) (hn:n <= n'):SInv c n' T l wr R evs:=⟨h.tok,h.small,h.len,h.wr,by have:=h.n; omega,h.sim⟩
theorem sd_more {n':Nat} (hn:n <= n') (h:Sat W w (sd b c n T::M)):Sat W w (sd b c n' T::M):=by
 obtain ⟨l,wr,k,R,evs,hi,hs⟩:=sd_open h
 exact sd_shut (inv_more hi hn) hs
structure SdOk (c:Int) (T:TT):Prop where
 tok:TOk T
 small:∀ e ∈ T,e.1.size <= 40
 len:(T.length:Int) <= c
 c1:1 <= c
 c2:c <= 1024
theorem sd_ok (h:Sat W w (sd b c n T::M)):SdOk c T:=by
 obtain ⟨l,wr,k,R,evs,hi,hs⟩:=sd_open h
 have hk:=sdK_ok hs
 exact ⟨hi.tok,hi.small,hi.len,hk.c1,hk.c2⟩
theorem q24_Get (hn:n < 700000) (hs:Sat W w (sd b c n T::M)):Rts Tryz.prog 16 #[.pointer (some ⟨b,0,none⟩),.string key,.int .i64 now] w fun v w'=>
  (mayE key now ≠ 0 /\ v = .tuple #[.string ⟨#[]⟩,.bool false,.slice none 0 0,.int .i64 (mayE key now)] /\ Sat W w' (sd b c n T::M)) \/
  (mayE key now = 0 /\ ∃ s:Sl,v = .tuple #[.string (tGet T key now).1,.bool (tGet T key now).2,.slice s.a s.n s.c,.int .i64 0] /\ Sat W w' (sd b c (n + 2) (sOver T key now)::recs Rec.str s (gOver T key now)::M)):=by
 refine cw f16_ok f16_raw ?_
 refine call1_ret (q24_may hs) fun v w ⟨hv,hs⟩=>⟨_,hv,?_⟩
 with_reducible refine ite_by (fun h0=>?_) (fun h0=>?_)
 ·exact .inl ⟨h0,rfl,hs⟩
 obtain ⟨hkey,hn0,hn1⟩:=mayE_ok h0
 have hkz:=isKey_size hkey
 have hg:=sOver_get (k:=key) (now:=now) (sd_ok hs).tok.rise
 refine call1_ret (q24_over (by omega) (by omega) hs) fun v w ⟨sg,hv,hs⟩=>⟨_,hv,?_⟩
 generalize gOver T key now = gg at hs ⊢
 generalize sOver T key now = T1 at hs hg ⊢
 obtain ⟨l,wr,k,R,evs,hi,hs⟩:=sd_open hs
 have hkR:=sdK_ok hs
 have hc2:=hkR.c2; have hc1:=hkR.c1; have hTl:=hi.len; have hnn:=hi.n
 obtain ⟨tb,fb,mb,s,x0,x1,x2,x3,x4,x5,hc,hs⟩:=sdK_open hs
 refine nilck_some (ld_b hs ?_)
 refine call2_of (r21_Get (k:=key) (now:=now) hs hi.tok (by omega)) fun e w ⟨he,hs⟩=>⟨_,_,he,?_⟩
 rw [hg]
 refine nilck_some (ld_b hs ?_)
 refine call1_ret (q24_inc hs hc.h0) fun v w ⟨y0,hv,hy0,hs⟩=>⟨_,hv,?_⟩
 refine nilck_some (st_b hs fun w hs=>?_)
 refine ite_cases (fun _=>?_) (fun _=>?_)
 ·refine nilck_some (ld_b hs ?_)
  refine call1_ret (q24_inc hs hc.h1) fun v w ⟨y1,hv,hy1,hs⟩=>⟨_,hv,?_⟩
  refine nilck_some (st_b hs fun w hs=>?_)
  refine nilck_some (ld_b hs ?_)
  have hs:Sat W w (fd fb wr k l::cD b tb fb mb y0 y1 x2 x3 x4 x5 s::rtR tb T1::mvR mb c R::recs evR s evs::recs Rec.str sg gg::M):=by exact Sat.fin hs
  refine call1_ret (q22_Read (key:=key) (by omega) hs) fun v w ⟨t,hv,hs⟩=>⟨_,hv,?_⟩
  have hok:=kT_ok hi.tok.rise hi.small hi.len hc1 hc2
  have hi2:SInv c (n + 2) T1 (if t = true then l ++ [((1:Int),key)] else l) wr R evs:=by
   refine ⟨hi.tok,hi.small,hi.len,hi.wr,?_,?_⟩
   ·cases t with
    | true=>simp; omega
    | false=>simp; omega
   ·cases t with
    | true=>exact hi.sim.read hok (by omega)
    | false=>exact hi.sim
  generalize (if t = true then l ++ [((1:Int),key)] else l) = l2 at hs hi2
  refine ite_cases (fun _=>?_) (fun _=>?_)
  ·refine nilck_some (ld_b hs ?_)
   refine call1_ret (q24_inc hs hc.h4) fun v w ⟨y4,hv,hy4,hs⟩=>⟨_,hv,?_⟩
   refine nilck_some (st_b hs fun w hs=>?_)
   exact .inr ⟨h0,sg,rfl,sd_shut hi2 (sdK_shut ⟨hy0,hy1,hc.h2,hc.h3,hy4,hc.h5⟩ (by exact Sat.fin hs))⟩
  ·exact .inr ⟨h0,sg,rfl,sd_shut hi2 (sdK_shut ⟨hy0,hy1,hc.h2,hc.h3,hc.h4,hc.h5⟩ (by exact Sat.fin hs))⟩
 ·exact .inr ⟨h0,sg,rfl,sd_shut (inv_more hi (by omega)) (sdK_shut ⟨hy0,hc.h1,hc.h2,hc.h3,hc.h4,hc.h5⟩ hs)⟩
theorem q24_Delete (hn:n < 700000) (hs:Sat W w (sd b c n T::M)):Rts Tryz.prog 19 #[.pointer (some ⟨b,0,none⟩),.string key,.int .i64 now] w fun v w'=>
  (mayE key now ≠ 0 /\ v = .tuple #[.bool false,.slice none 0 0,.int .i64 (mayE key now)] /\ Sat W w' (sd b c n T::M)) \/
  (mayE key now = 0 /\ ∃ s:Sl,v = .tuple #[.bool (mGet (sOver T key now) key).isSome,.slice s.a s.n s.c,.int .i64 0] /\ Sat W w' (sd b c (n + 2) (rDel (sOver T key now) key)::recs Rec.str s (gOver T key now)::M)):=by
 refine cw f19_ok f19_raw ?_
 refine call1_ret (q24_may hs) fun v w ⟨hv,hs⟩=>⟨_,hv,?_⟩
 with_reducible refine ite_by (fun h0=>?_) (fun h0=>?_)
 ·exact .inl ⟨h0,rfl,hs⟩
 obtain ⟨hkey,hn0,hn1⟩:=mayE_ok h0
 have hkz:=isKey_size hkey
 refine call1_ret (q24_over (by omega) (by omega) hs) fun v w ⟨sg,hv,hs⟩=>⟨_,hv,?_⟩
 generalize gOver T key now = gg at hs ⊢
 generalize sOver T key now = T1 at hs ⊢
 obtain ⟨l,wr,k,R,evs,hi,hs⟩:=sd_open hs
 have hkR:=sdK_ok hs
 have hc2:=hkR.c2; have hc1:=hkR.c1; have hTl:=hi.len; have hnn:=hi.n
 obtain ⟨tb,fb,mb,s,x0,x1,x2,x3,x4,x5,hc,hs⟩:=sdK_open hs
 refine nilck_some (ld_b hs ?_)
 refine call1_of (r21_Delete (k:=key) hs hi.tok.rise (by omega)) fun e w ⟨he,hs⟩=>⟨_,he,?_⟩
 have hdl:=rDel_len hi.tok key
 have hsm:∀ e ∈ rDel T1 key,e.1.size <= 40:=fun e he=>by rw [rDel_eq hi.tok.rise] at he; exact mDel_sub (P:=fun k=>k.size <= 40) hi.small e he
 have htk:=hi.tok.del key
 have hev:=EvS.del (key:=key) hi.tok hi.small hi.len hc1 hc2
 refine ite_cases (fun hp=>?_) (fun hp=>?_)
 ·generalize rDel T1 key = T' at *
  have hs:=sdK_shut hc hs
  refine call0_ret (q24_waits (.inr rfl) htk (by omega) (by omega) hi.wr (by omega) hi.sim hev hs) fun v w ⟨hv,l',k',S,evs',hlen,hsim,hs⟩=>⟨hv,?_⟩
  exact .inr ⟨h0,sg,rfl,sd_shut ⟨htk,hsm,by omega,hi.wr,by omega,hsim⟩ hs⟩
 ·have hno:key ∉ kT T1:=fun h=>by rw [kT_mem.1 h] at hp; cases hp
  have hsim:Sim c R l (kT (rDel T1 key)):=hi.sim.right fun x=>by
   rw [kT_del hi.tok.rise]
   exact ⟨fun h=>⟨h,fun e=>hno (e ▸ h)⟩,fun h=>h.1⟩
  exact .inr ⟨h0,sg,rfl,sd_shut ⟨htk,hsm,by omega,hi.wr,by omega,hsim⟩ (sdK_shut hc hs)⟩
theorem q24_Step (hn:n < 700000) (hs:Sat W w (sd b c n T::M)):Rts Tryz.prog 52 #[.pointer (some ⟨b,0,none⟩)] w fun v w'=>∃ (x:ByteArray) (t:Bool),v = .tuple #[.string x,.bool t] /\ Sat W w' (sd b c n T::M):=by
 refine cw f52_ok f52_raw ?_
 obtain ⟨l,wr,k,R,evs,hi,hs⟩:=sd_open hs
 have hkR:=sdK_ok hs
 have hc2:=hkR.c2; have hTl:=hi.len; have hnn:=hi.n
 refine call1_ret (q24_Drain hi.tok (by omega) (by omega) hi.sim hs) fun v w ⟨m,S,hv,hm,hs⟩=>⟨_,hv,?_⟩
 obtain ⟨tb,fb,mb,s,x0,x1,x2,x3,x4,x5,hc,hs⟩:=sdK_open hs
 refine nilck_some (ld_b hs ?_)
 have hs:Sat W w (mvR mb c S::cD b tb fb mb x0 x1 x2 x3 x4 x5 s::rtR tb T::fd fb wr 0 []::recs evR s (evs ++ l)::M):=by exact Sat.fin hs
 refine call2_ret (q23_Step hs) fun v w ⟨x,t,S2,hv,hm2,hs⟩=>⟨_,_,hv,?_⟩
 have hi2:SInv c n T [] wr S2 (evs ++ l):=⟨hi.tok,hi.small,hi.len,hi.wr,by simp; omega,fun x=>by rw [hm2,hm]⟩
 refine ite_cases (fun _=>?_) (fun _=>?_)
 ·refine nilck_some (ld_b hs ?_)
  refine call1_ret (q24_inc hs hc.h5) fun v w ⟨y,hv,hy,hs⟩=>⟨_,hv,?_⟩
  refine nilck_some (st_b hs fun w hs=>?_)
  exact ⟨x,t,rfl,sd_shut hi2 (sdK_shut ⟨hc.h0,hc.h1,hc.h2,hc.h3,hc.h4,hy⟩ (by exact Sat.fin hs))⟩
 ·exact ⟨x,t,rfl,sd_shut hi2 (sdK_shut hc (by exact Sat.fin hs))⟩
theorem q24_DrainS (hn:n < 700000) (hs:Sat W w (sd b c n T::M)):Rts Tryz.prog 47 #[.pointer (some ⟨b,0,none⟩)] w fun v w'=>∃ m:Int,v = .int .i64 m /\ Sat W w' (sd b c n T::M):=by
 obtain ⟨l,wr,k,R,evs,hi,hs⟩:=sd_open hs
 have hkR:=sdK_ok hs
 have hc2:=hkR.c2; have hTl:=hi.len; have hnn:=hi.n
 refine (q24_Drain hi.tok (by omega) (by omega) hi.sim hs).mono fun v w ⟨m,S,hv,hm,hs⟩=>⟨m,hv,?_⟩
 have hi2:SInv c n T [] wr S (evs ++ l):=⟨hi.tok,hi.small,hi.len,hi.wr,by simp; omega,hm⟩
 exact sd_shut hi2 hs
theorem q24_Switch {kd:Int} (hn:n < 700000) (hs:Sat W w (sd b c n T::M)):Rts Tryz.prog 56 #[.pointer (some ⟨b,0,none⟩),.int .i64 kd] w fun v w'=>∃ m:Int,v = .int .i64 m /\ Sat W w' (sd b c n T::M):=by
 refine cw f56_ok f56_raw ?_
 have j2:∀ (w:World),Sat W w (sd b c n T::M) -> f56_j2 idJ (fun v w'=>∃ m:Int,v = .int .i64 m /\ Sat W w' (sd b c n T::M)) (some ⟨b,0,none⟩) kd w:=by
  clear hs
  intro w hs
  refine jw f56_j2_raw ?_
  obtain ⟨l,wr,k,R,evs,hi,hs⟩:=sd_open hs
  have hkR:=sdK_ok hs
  have hc2:=hkR.c2; have hTl:=hi.len; have hnn:=hi.n
  refine call1_ret (q24_Drain hi.tok (by omega) (by omega) hi.sim hs) fun v w ⟨m,S,hv,hm,hs⟩=>⟨_,hv,?_⟩
  obtain ⟨tb,fb,mb,s,x0,x1,x2,x3,x4,x5,hc,hs⟩:=sdK_open hs
  refine nilck_some (ld_b hs ?_)
  have hs:Sat W w (mvR mb c S::cD b tb fb mb x0 x1 x2 x3 x4 x5 s::rtR tb T::fd fb wr 0 []::recs evR s (evs ++ l)::M):=by exact Sat.fin hs
  refine call1_ret (q23_Begin hs) fun v w ⟨m2,S2,hv,hm2,hs⟩=>⟨_,hv,?_⟩
  have hi2:SInv c n T [] wr S2 (evs ++ l):=⟨hi.tok,hi.small,hi.len,hi.wr,by simp; omega,fun x=>by rw [hm2,hm]⟩
  exact ⟨m2,rfl,sd_shut hi2 (sdK_shut hc (by exact Sat.fin hs))⟩
 have j1:∀ t:Bool,f56_j1 idJ (fun v w'=>∃ m:Int,v = .int .i64 m /\ Sat W w' (sd b c n T::M)) (some ⟨b,0,none⟩) kd t w:=by
  intro t
  refine jw f56_j1_raw ?_
  refine ite_cases (fun _=>⟨4,rfl,hs⟩) (fun _=>?_)
  obtain ⟨l,wr,k,R,evs,hi,hs⟩:=sd_open hs
  obtain ⟨tb,fb,mb,s,x0,x1,x2,x3,x4,x5,hc,hs⟩:=sdK_open hs
  refine nilck_some (ld_b hs (nilck_some ?_))
  have hs:Sat W w (mvR mb c R::cD b tb fb mb x0 x1 x2 x3 x4 x5 s::rtR tb T::fd fb wr k l::recs evR s evs::M):=by exact Sat.fin hs
  refine mv_cases hs (fun e hk hs=>?_) (fun e q A B hR hk hs=>?_)
  ·refine ld_b hs (nilck_some ?_)
   have hs:Sat W w (eng e c R::blk mb [.pointer (some ⟨e,0,none⟩),.pointer none]::cD b tb fb mb x0 x1 x2 x3 x4 x5 s::rtR tb T::fd fb wr k l::recs evR s evs::M):=by exact Sat.fin hs
   obtain ⟨kk,cs,p,_,hs,hback⟩:=eng_kind hs
   refine ld_b hs ?_
   have hs:=hback _ _ hs
   have hs:Sat W w (mvR mb c R::cD b tb fb mb x0 x1 x2 x3 x4 x5 s::rtR tb T::fd fb wr k l::recs evR s evs::M):=mv_shut0 (e:=e) hk (by exact Sat.fin hs)
   have hs:Sat W w (sd b c n T::M):=sd_shut hi (sdK_shut hc (by exact Sat.fin hs))
   exact ite_cases (fun _=>⟨8,rfl,hs⟩) (fun _=>j2 w hs)
  ·refine ld_b hs (nilck_some ?_)
   have hs:Sat W w (eng e c A::blk mb [.pointer (some ⟨e,0,none⟩),.pointer (some ⟨q,0,none⟩)]::eng q c B::cD b tb fb mb x0 x1 x2 x3 x4 x5 s::rtR tb T::fd fb wr k l::recs evR s evs::M):=by exact Sat.fin hs
   obtain ⟨kk,cs,p,_,hs,hback⟩:=eng_kind hs
   refine ld_b hs ?_
   have hs:=hback _ _ hs
   have hs:Sat W w (mvR mb c R::cD b tb fb mb x0 x1 x2 x3 x4 x5 s::rtR tb T::fd fb wr k l::recs evR s evs::M):=mv_shut1 (e:=e) (q:=q) hR hk (by exact Sat.fin hs)
   have hs:Sat W w (sd b c n T::M):=sd_shut hi (sdK_shut hc (by exact Sat.fin hs))
   exact ite_cases (fun _=>⟨8,rfl,hs⟩) (fun _=>j2 w hs)
 refine ite_cases (fun _=>?_) (fun _=>?_)
 ·exact j1 true
 ·exact j1 _
theorem q24_New {r k1 k2 k3:Int} (hs:Sat W w L):Rts Tryz.prog 10 #[.int .i64 r,.int .i64 k1,.int .i64 k2,.int .i64 k3] w fun v w'=>(∃ b,v = .tuple #[.pointer (some ⟨b,0,none⟩),.int .i64 0] /\ Sat W w' (sd b r 0 []::L)) \/ (∃ e:Int,e ≠ 0 /\ v = .tuple #[.pointer none,.int .i64 e] /\ Sat W w' L):=by
 refine cw f10_ok f10_raw ?_
 with_reducible refine ite_by (fun h1=>?_) (fun h1=>?_)
 ·exact .inr ⟨1,by decide,rfl,hs⟩
 with_reducible refine ite_by (fun h2=>?_) (fun h2=>?_)
 ·exact .inr ⟨1,by decide,rfl,hs⟩
 have hr:roomR r = r:=by unfold roomR; omega
 refine jw f10_j1_raw ?_
 refine call2_ret (q22_New hs) fun v w h=>?_
 rcases h with ⟨hwr,fb,hv,hs⟩ | ⟨hv,hs⟩
 ·refine ⟨_,_,hv,ite_false rfl ?_⟩
  refine call2_ret (q23_New hs) fun v w h=>?_
  rcases h with ⟨mb,hv,hs⟩ | ⟨hv,hs⟩
  ·refine ⟨_,_,hv,ite_false rfl ?_⟩
   rw [hr] at hs
   have hs:=Sat.nilR entR hs
   have hs:Sat W w (recs entR ⟨none,0,0⟩ []::mvR mb r []::fd fb k2 0 []::L):=hs
   refine newB_at hs fun tb w hs=>?_
   have hs:Sat W w (rtR tb []::mvR mb r []::fd fb k2 0 []::L):=rt_shut ⟨none,0,0⟩ (by exact Sat.fin hs)
   have hs:=Sat.nilR evR hs
   refine newB_at hs fun b w hs=>?_
   have hi:SInv r 0 [] [] k2 [] []:=⟨⟨by simp [RiseM,Rising],by simp,by simp⟩,by simp,by simp; omega,hwr,by simp,fun x=>by simp [kT]⟩
   exact .inl ⟨b,rfl,sd_shut hi (sdK_shut (tb:=tb) (fb:=fb) (mb:=mb) (s:=⟨none,0,0⟩) (x0:=0) (x1:=0) (x2:=0) (x3:=0) (x4:=0) (x5:=0) ⟨cnt0,cnt0,cnt0,cnt0,cnt0,cnt0⟩ (by exact Sat.fin hs))⟩
  ·exact ⟨_,_,hv,ite_true rfl (.inr ⟨4,by decide,rfl,hs.drop⟩)⟩
 ·exact ⟨_,_,hv,ite_true rfl (.inr ⟨1,by decide,rfl,hs⟩)⟩
theorem q24_Resize {r:Int} (hr1:1 <= r) (hr2:r <= 1024) (hn:n < 700000) (hs:Sat W w (sd b c n T::M)):Rts Tryz.prog 57 #[.pointer (some ⟨b,0,none⟩),.int .i64 r] w fun v w'=>∃ (sl:Sl) (g:BL),v = .tuple #[.slice sl.a sl.n sl.c,.int .i64 0] /\ g.Nodup /\ (∀ x ∈ g,x ∈ kT T) /\ Sat W w' (sd b r n (delAll T g)::recs Rec.str sl g::M):=by
 refine cw f57_ok f57_raw ?_
 refine ite_false (decide_eq_false (by omega)) (ite_false (decide_eq_false (by omega)) ?_)
 refine jw f57_j1_raw ?_
 obtain ⟨l,wr,k,R,evs,hi,hs⟩:=sd_open hs
 have hkR:=sdK_ok hs
 have hc2:=hkR.c2; have hc1:=hkR.c1; have hTl:=hi.len; have hnn:=hi.n
 have hrr:roomR r = r:=by unfold roomR; omega
 refine call1_ret (q24_Drain hi.tok (by omega) (by omega) hi.sim hs) fun v w ⟨m,S,hv,hm,hs⟩=>⟨_,hv,?_⟩
 have hKok:=kT_ok hi.tok.rise hi.small hi.len hc1 hc2
 obtain ⟨tb,fb,mb,s,x0,x1,x2,x3,x4,x5,hc,hs⟩:=sdK_open hs
 refine nilck_some (ld_b hs ?_)
 have hs:Sat W w (mvR mb c S::cD b tb fb mb x0 x1 x2 x3 x4 x5 s::rtR tb T::fd fb wr 0 []::recs evR s (evs ++ l)::M):=by exact Sat.fin hs
 refine call1_ret (q23_Resize hs) fun v w ⟨sl,g,S2,hv,hsub,hnd,hm2,hs⟩=>⟨_,hv,?_⟩
 rw [hrr] at hs
 have hok2:=mv_ok hs
 have hs:Sat W w (sdK b r T [] wr 0 S2 (evs ++ l)::recs Rec.str sl g::M):=sdK_shut hc (by exact Sat.fin hs)
 have hgT:∀ x ∈ g,x ∈ kT T:=fun x hx=>(hm x).1 (hsub x hx)
 have hgl:g.length <= T.length:=by
  have:=nodup_sub_len hnd hgT
  unfold kT at this
  simpa using this
 refine call0_ret (q24_gone hi.tok (by omega) (by omega) hs) fun v w ⟨hv,hs⟩=>⟨hv,?_⟩
 have hmT:∀ x,x ∈ S2 ↔ x ∈ kT (delAll T g):=fun x=>by rw [hm2,hm,kT_delAll hi.tok.rise]
 have htk:=delAll_tok (g:=g) hi.tok
 have hlen:((delAll T g).length:Int) <= r:=by
  have h1:=(perm_of_mem hok2.nd htk.rise.nodup hmT).length_eq
  have h2:=hok2.room
  simp only [List.length_map] at h1
  omega
 have hi2:SInv r n (delAll T g) [] wr S2 (evs ++ l):=⟨htk,delAll_small (P:=fun k=>k.size <= 40) hi.tok.rise hi.small,hlen,hi.wr,by simp; omega,hmT⟩
 exact ⟨sl,g,rfl,hnd,hgT,sd_shut hi2 hs⟩
theorem tDue_mem {T:TT} (ht:RiseM T) {x:ByteArray} (h:x ∈ tDue T now):tOv T x now = true:=by
 unfold tDue at h
 obtain ⟨e,he,rfl⟩:=List.mem_map.1 h
 obtain ⟨h1,h2⟩:=List.mem_filter.1 he
 have hg:mGet T e.1 = some e.2:=(mGet_some ht.nodup).2 h1
 unfold tOv tGet
 rw [hg]
 dsimp only
 rw [h2]; rfl
theorem tDue_nodup {T:TT} (ht:RiseM T):(tDue T now).Nodup:=by
 unfold tDue
 exact ht.nodup.sublist ((List.filter_sublist).map _)
theorem tOv_congr {T S:TT} {x:ByteArray} (h:mGet T x = mGet S x):tOv T x now = tOv S x now:=by unfold tOv; rw [h,tGet_congr h]
theorem q24_Expire (h0:0 <= now) (h1:now <= 1125899906842624) (hn:n < 600000) (hs:Sat W w (sd b c n T::M)):Rts Tryz.prog 51 #[.pointer (some ⟨b,0,none⟩),.int .i64 now] w fun v w'=>∃ sl:Sl,v = .slice sl.a sl.n sl.c /\ Sat W w' (sd b c (n + 1024) (delAll T (tDue T now))::recs Rec.str sl (tDue T now)::M):=by
 refine cw f51_ok f51_raw ?_
 refine ite_false (decide_eq_false (by omega)) (ite_false (decide_eq_false (by omega)) ?_)
 refine jw f51_j1_raw ?_
 have hok:=sd_ok hs
 have hTl:=hok.len; have hc2:=hok.c2
 obtain ⟨l,wr,k,R,evs,hi,hs⟩:=sd_open hs
 obtain ⟨tb,fb,mb,s,x0,x1,x2,x3,x4,x5,hc,hs⟩:=sdK_open hs
 refine nilck_some (ld_b hs ?_)
 refine Calls.mono (r21_Due (now:=now) hs hi.tok (by omega)) fun e w ⟨sl,he,hs⟩=>⟨sl,he,?_⟩
 have hs:Sat W w (cD b tb fb mb x0 x1 x2 x3 x4 x5 s::rtR tb T::fd fb wr k l::mvR mb c R::recs evR s evs::recs Rec.str sl (tDue T now)::M):=by exact Sat.fin hs
 have hs:=sd_shut hi (sdK_shut hc hs)
 have hnd:=tDue_nodup (now:=now) hok.tok.rise
 have hov:∀ x ∈ tDue T now,tOv T x now = true:=fun x hx=>tDue_mem hok.tok.rise hx
 have hdl:(tDue T now).length <= T.length:=by unfold tDue; rw [List.length_map]; exact List.length_filter_le _ _
 have hdz:∀ x ∈ tDue T now,x.size <= 40:=fun x hx=>by
  unfold tDue at hx
  obtain ⟨e,he,rfl⟩:=List.mem_map.1 hx
  exact hok.small e (List.mem_filter.1 he).1
 generalize tDue T now = D at *
 have hsn:=rdb_len (s:=sl) (E:=Rec.str) (rows:=D) hs
 have loop:∀ (f i:Nat) (w:World),i + f = D.length -> Sat W w (sd b c (n + i) (delAll T (D.take i))::recs Rec.str sl D::M) ->
   f51_l2 idJ (fun v w'=>∃ sl:Sl,v = .slice sl.a sl.n sl.c /\ Sat W w' (sd b c (n + 1024) (delAll T D)::recs Rec.str sl D::M)) (f + 1) (some ⟨b,0,none⟩) now sl (i:Int) w:=by
  clear hs
  intro f
  induction f with
  | zero=>
   intro i w hi hs
   rw [f51_l2_raw]
   refine ite_false (decide_eq_false (by omega)) ?_
   refine jw f51_j3_raw ?_
   rw [List.take_of_length_le (by omega)] at hs
   exact ⟨sl,rfl,sd_more (by omega) hs⟩
  | succ f ih=>
   intro i w hi hs
   rw [f51_l2_raw]
   refine ite_true (decide_eq_true (by omega)) ?_
   have hil:i < D.length:=by omega
   refine idx_rd (s:=sl) (E:=Rec.str) (rows:=D) hs fun b_ o_ ha_=>?_
   refine ld_rd0 (s:=sl) (E:=Rec.str) (rows:=D) ha_ hs ?_
   rw [Int.toNat_natCast]
   have hm:D.getD i default ∈ D:=getD_mem hil
   have hno:D.getD i default ∉ D.take i:=by
    intro hin
    have h2:=hnd
    rw [<- List.take_append_drop i D,List.nodup_append] at h2
    have hd:D.getD i default ∈ D.drop i:=by
     rw [List.getD_eq_getElem?_getD,List.getElem?_eq_getElem hil,List.drop_eq_getElem_cons hil]
     exact .head _
    exact h2.2.2 _ hin _ hd rfl
   have hg:mGet (delAll T (D.take i)) (D.getD i default) = mGet T (D.getD i default):=(get_delAll hok.tok.rise).2 hno
   have ho:tOv (delAll T (D.take i)) (D.getD i default) now = true:=by rw [tOv_congr hg]; exact hov _ hm
   refine call1_ret (q24_over (by omega) (hdz _ hm) hs) fun v w ⟨s2,hv,hs⟩=>⟨_,hv,?_⟩
   have e1:sOver (delAll T (D.take i)) (D.getD i default) now = delAll T (D.take (i + 1)):=by
    unfold sOver
    rw [ho,take_snoc hil]
    unfold delAll
    rw [List.foldl_append]; rfl
   rw [e1] at hs
   rw [show IntKind.wrap .i64 ((i:Int) + 1) = ((i + 1:Nat):Int) by rw [i64_in _ (by omega)]; omega]
   exact ih (i + 1) w (by omega) (by exact Sat.fin hs)
 exact exM_of _ (loop D.length 0 w (by omega) hs)
end
end Go.Proofs.YtmefopmnjncdbaaGreat
namespace Go.Proofs.YtmefopmnjncdbaaGreat
open Go.Hb Go.IntWalk
section
variable {W w:World} {M:List HP} {b:Nat} {m:TT} {k:ByteArray}
theorem r21_atO {s:Sl} (hs:Sat W w (blk b [.slice s.a s.n s.c]::recs entR s m::M)) (hm:m.length < 1000000000):Calls Tryz.prog 71 #[.pointer (some ⟨b,0,none⟩),.string k] w fun e w'=>e = .returned (.tuple #[.int .i64 ((atR m k).1:Int),.bool (atR m k).2]) /\ Sat W w' (blk b [.slice s.a s.n s.c]::recs entR s m::M):=by
 have hn:=(recs_len (s:=s) hs).1
 refine c1 (cw f71_ok f71_raw ?_)
 have loop:∀ (f i:Nat) (w:World),i + f = m.length -> i + (atR (m.drop i) k).1 = (atR m k).1 -> (atR (m.drop i) k).2 = (atR m k).2 -> Sat W w (blk b [.slice s.a s.n s.c]::recs entR s m::M) ->
   f71_l1 idJ (fun v w'=>v = .tuple #[.int .i64 ((atR m k).1:Int),.bool (atR m k).2] /\ Sat W w' (blk b [.slice s.a s.n s.c]::recs entR s m::M)) (f + 1) (some ⟨b,0,none⟩) k (i:Int) w:=by
  intro f
  induction f with
  | zero=>
   intro i w hi h1 h2 hs
   rw [f71_l1_raw]
   repeat (first | with_reducible refine nilck_some ?_ | ((with_reducible refine atLd ?_); first | refine ld_b hs ?_ | fail) | fail)
   refine ite_false (decide_eq_false (by omega)) ?_
   refine jw f71_j2_raw ?_
   repeat (first | with_reducible refine nilck_some ?_ | ((with_reducible refine atLd ?_); first | refine ld_b hs ?_ | fail) | ((with_reducible refine isDraw ?_); first | refine drawW_sat hs fun w hs=>?_ | fail) | fail)
   refine ite_false (decide_eq_false (by omega)) ?_
   rw [List.drop_of_length_le (by omega)] at h1 h2
   rw [<- h1,<- h2]
   exact ⟨rfl,hs⟩
  | succ f ih=>
   intro i w hi h1 h2 hs
   have hil:i < m.length:=by omega
   rw [atR_drop hil] at h1 h2
   rw [f71_l1_raw]
   repeat (first | with_reducible refine nilck_some ?_ | ((with_reducible refine atLd ?_); first | refine ld_b hs ?_ | fail) | fail)
   refine ite_true (decide_eq_true (by omega)) ?_
   repeat (first | with_reducible refine nilck_some ?_ | ((with_reducible refine atLd ?_); first | refine ld_b hs ?_ | refine ld_r0 hs ?_ | fail) | ((with_reducible refine isIdx ?_); first | refine idx_s hs fun b_ o_ hs=>?_ | fail) | fail)
   rw [Int.toNat_natCast]
   rw [atR_cons] at h1 h2
   refine ite_cases (fun h3=>?_) (fun h3=>?_)
   ·rw [if_pos h3] at h1 h2
    rw [i64_in _ (by omega)]
    refine ih (i + 1) w (by omega) (by simp only [] at h1; omega) (by simpa using h2) (by exact Sat.fin hs)
   ·rw [if_neg (by rw [h3]; simp)] at h1 h2
    refine jw f71_j2_raw ?_
    repeat (first | with_reducible refine nilck_some ?_ | ((with_reducible refine atLd ?_); first | refine ld_b hs ?_ | fail) | ((with_reducible refine isDraw ?_); first | refine drawW_sat hs fun w hs=>?_ | fail) | fail)
    refine ite_true (decide_eq_true (by omega)) ?_
    repeat (first | with_reducible refine nilck_some ?_ | ((with_reducible refine atLd ?_); first | refine ld_b hs ?_ | refine ld_r0 hs ?_ | fail) | ((with_reducible refine isIdx ?_); first | refine idx_a hs ?_ | fail) | fail)
    rw [Int.toNat_natCast,sEq_eq]
    simp only [] at h1 h2
    rw [<- h1,<- h2]
    exact ⟨rfl,by exact Sat.fin hs⟩
 refine ⟨m.length + 1,?_⟩
 exact loop m.length 0 w (by omega) (by simp) (by simp) hs
theorem r21_HasO {s:Sl} (hs:Sat W w (blk b [.slice s.a s.n s.c]::recs entR s m::M)) (hr:RiseM m) (hm:m.length < 1000000000):Calls Tryz.prog 44 #[.pointer (some ⟨b,0,none⟩),.string k] w fun e w'=>e = .returned (.bool (mGet m k).isSome) /\ Sat W w' (blk b [.slice s.a s.n s.c]::recs entR s m::M):=by
 refine c1 (cw f44_ok f44_raw ?_)
 rw [mGet_at hr]
 refine call2_of (r21_atO hs hm) fun e w ⟨he,hs⟩=>⟨_,_,he,?_⟩
 refine ⟨?_,hs⟩
 cases h1:(atR m k).2 with
 | false=>rfl
 | true=>
  obtain ⟨v,hv⟩:=atR_true h1
  rw [hv]; rfl
end
section
variable {W w:World} {L M:List HP} {b:Nat} {c:Int} {T:TT} {l evs:List Ev} {wr k:Int} {R:BL} {n:Nat} {key val:ByteArray} {now life:Int}
theorem tPut_eq (h:tErr key val now life = 0):tPut T key val now life = rPut T key (val,tEnd now life):=if_pos h
abbrev PutQ (b:Nat) (c:Int) (n:Nat) (T1:TT) (g0:BL) (key val:ByteArray) (now life:Int) (W:World) (M:List HP):Value -> WP:=fun v w'=>
 ∃ (sl:Sl) (g:BL),v = .tuple #[.slice sl.a sl.n sl.c,.int .i64 0] /\ g.Nodup /\ (∀ x ∈ g,x ∈ kT T1) /\ key ∉ g /\ Sat W w' (sd b c n (tPut (delAll T1 g) key val now life)::recs Rec.str sl (g0 ++ g)::M)
theorem put_j1 {T1:TT} {g0:BL} {s0:Sl} {Q:Value -> WP} (hQ:∀ v w,PutQ b c (n + 2) T1 g0 key val now life W M v w -> Q v w) (he:tErr key val now life = 0) (hn:n < 600000) (hg0:g0.length <= 1) (t:Bool) (ht:t = true -> key ∈ kT T1 \/ (T1.length:Int) < c) (hf:t = false -> key ∉ kT T1 /\ c <= (T1.length:Int)) (hs:Sat W w (sd b c n T1::recs Rec.str s0 g0::M)) :
  f18_j1 idJ Q (some ⟨b,0,none⟩) key val now life s0 t w:=by
 obtain ⟨hkey,hv,hn0,hn1,hl0,hl1⟩:=tErr_ok he
 have hkz:=isKey_size hkey
 refine jw f18_j1_raw ?_
 obtain ⟨l,wr,k,R,evs,hi,hs⟩:=sd_open hs
 have hkR:=sdK_ok hs
 have hc2:=hkR.c2; have hc1:=hkR.c1; have hTl:=hi.len; have hnn:=hi.n
 cases t with
 | true=>
  refine ite_true rfl ?_
  obtain ⟨tb,fb,mb,s,x0,x1,x2,x3,x4,x5,hc,hs⟩:=sdK_open hs
  refine nilck_some (ld_b hs ?_)
  refine call2_of (r21_Put (k:=key) (v:=val) (now:=now) (life:=life) hs hi.tok.rise (by omega)) fun e w ⟨he2,hs⟩=>⟨_,_,he2,?_⟩
  have htp:=tPut_eq (T:=T1) he
  have hlen:((rPut T1 key (val,tEnd now life)).length:Int) <= c:=by
   rw [rPut_len2 hi.tok]
   rcases ht rfl with h | h
   ·rw [if_pos h]; omega
   ·split <;> omega
  have hev:EvS c (kT T1) ((2:Int),key) (kT (rPut T1 key (val,tEnd now life))):=EvS.put hi.tok hi.small (by omega) hlen hc1 hc2
  have htk:=hi.tok.put key val now life
  have hsm:=rPut_small (v:=(val,tEnd now life)) hi.tok.rise hi.small (key:=key) (by omega)
  rw [<- htp] at hev hlen hsm
  have hdel:delAll T1 [] = T1:=rfl
  unfold PutQ at hQ
  generalize hT2:tPut T1 key val now life = T2 at *
  have hs:=sdK_shut hc hs
  refine call0_ret (q24_waits (.inl rfl) htk (by omega) (by omega) hi.wr (by omega) hi.sim hev hs) fun v w ⟨hv,l',k',S,evs',hlen2,hsim,hs⟩=>⟨hv,?_⟩
  have hi2:SInv c (n + 2) T2 l' wr S evs':=⟨htk,hsm,hlen,hi.wr,by omega,hsim⟩
  refine hQ _ _ ⟨s0,[],rfl,by simp,by simp,by simp,?_⟩
  rw [List.append_nil,hdel,hT2]
  exact sd_shut hi2 hs
 | false=>
  refine ite_false rfl ?_
  obtain ⟨hno,hfull⟩:=hf rfl
  refine jw f18_j2_raw ?_
  refine call1_ret (q24_Drain hi.tok (by omega) (by omega) hi.sim hs) fun v w ⟨m,S,hv,hm,hs⟩=>⟨_,hv,?_⟩
  obtain ⟨tb,fb,mb,s,x0,x1,x2,x3,x4,x5,hc,hs⟩:=sdK_open hs
  refine nilck_some (ld_b hs ?_)
  have hs:Sat W w (mvR mb c S::cD b tb fb mb x0 x1 x2 x3 x4 x5 s::rtR tb T1::fd fb wr 0 []::recs evR s (evs ++ l)::recs Rec.str s0 g0::M):=by exact Sat.fin hs
  refine call1_ret (q23_Insert (key:=key) (by omega) hs) fun v w ⟨sg,g,S2,hv,hin,hs⟩=>⟨_,hv,?_⟩
  have hgT:∀ x ∈ g,x ∈ kT T1:=fun x hx=>(hm x).1 (hin.sub x hx)
  have hgl:g.length <= T1.length:=by
   have:=nodup_sub_len hin.nd hgT
   unfold kT at this
   simpa using this
  refine nilck_some (ld_b (x:=s) hs ?_)
  refine newB_at hs fun nb w hs=>?_
  have hel:(evs ++ l).length <= 700000:=by simp; omega
  refine app_one (s:=s) (a:=(((2:Int),key):Ev)) hs rfl rfl rfl rfl (by decide) (by omega) fun s5 w hs5 hs=>?_
  refine nilck_some (st_b hs fun w hs=>?_)
  have hs:Sat W w (sdK b c T1 [] wr 0 S2 ((evs ++ l) ++ [((2:Int),key)])::recs Rec.str sg g::recs Rec.str s0 g0::M):=sdK_shut hc (by exact Sat.fin hs)
  refine call0_ret (q24_gone hi.tok (by omega) (by omega) hs) fun v w ⟨hv,hs⟩=>⟨hv,?_⟩
  have htk:=delAll_tok (g:=g) hi.tok
  have hdl:=delAll_len (g:=g) hi.tok
  have hsm:=delAll_small (P:=fun k=>k.size <= 40) (g:=g) hi.tok.rise hi.small
  have hkd:∀ x,x ∈ kT (delAll T1 g) ↔ x ∈ kT T1 /\ x ∉ g:=fun x=>kT_delAll hi.tok.rise
  clear hc
  obtain ⟨tb,fb,mb,s,x0,x1,x2,x3,x4,x5,hc,hs⟩:=sdK_open hs
  refine nilck_some (ld_b hs ?_)
  refine call2_of (r21_Put (k:=key) (v:=val) (now:=now) (life:=life) hs htk.rise (by omega)) fun e w ⟨he2,hs⟩=>⟨_,_,he2,?_⟩
  have htp:=tPut_eq (T:=delAll T1 g) he
  have htk2:=htk.put key val now life
  have hsm2:=rPut_small (v:=(val,tEnd now life)) htk.rise hsm (key:=key) (by omega)
  have hmS:∀ x,x ∈ S2 ↔ x ∈ kT (rPut (delAll T1 g) key (val,tEnd now life)):=fun x=>by
   rw [kT_put htk.rise,hkd,hin.mem,hm]
  have hlen2:((rPut (delAll T1 g) key (val,tEnd now life)).length:Int) <= c:=by
   have h1:=(perm_of_mem hin.ok.nd (rPut_rise htk.rise).nodup hmS).length_eq
   have h2:=hin.ok.room
   simp only [List.length_map] at h1
   omega
  rw [<- htp] at hmS hlen2 hsm2
  unfold PutQ at hQ
  generalize hT2:tPut (delAll T1 g) key val now life = T2 at *
  have hs:=sdK_shut hc hs
  have hi2:SInv c (n + 2) T2 [] wr S2 ((evs ++ l) ++ [((2:Int),key)]):=⟨htk2,hsm2,hlen2,hi.wr,by simp; omega,hmS⟩
  have hs:=sd_shut hi2 hs
  have hs:Sat W w (recs Rec.str s0 g0::recs Rec.str sg g::sd b c (n + 2) T2::M):=by exact Sat.fin hs
  refine app_by (s:=s0) (new:=g) hs (rd_rdb (s:=sg) (E:=Rec.str) (rows:=g) hs) (rdb_len (s:=sg) (E:=Rec.str) (rows:=g) hs) (okC_flat _) rfl (by decide) (by omega) fun s6 w hs6 hs=>?_
  have hs:Sat W w (recs Rec.str s6 (g0 ++ g)::recs Rec.str sg g::sd b c (n + 2) T2::M):=hs
  refine hQ _ _ ⟨s6,g,rfl,hin.nd,hgT,hin.no,?_⟩
  rw [hT2]
  exact Sat.fin hs
theorem q24_Put (hn:n < 500000) (hs:Sat W w (sd b c n T::M)):Rts Tryz.prog 18 #[.pointer (some ⟨b,0,none⟩),.string key,.string val,.int .i64 now,.int .i64 life] w fun v w'=>
  (tErr key val now life ≠ 0 /\ v = .tuple #[.slice none 0 0,.int .i64 (tErr key val now life)] /\ Sat W w' (sd b c n T::M)) \/
  (tErr key val now life = 0 /\ PutQ b c (n + 3) (sOver T key now) (gOver T key now) key val now life W M v w'):=by
 refine cw f18_ok f18_raw ?_
 refine newB_at hs fun tb0 w hs=>?_
 have hs:=Sat.nilR entR hs
 have hs:Sat W w (recs entR ⟨none,0,0⟩ []::blk tb0 [.slice none 0 0]::sd b c n T::M):=hs
 have hs:Sat W w (rtR tb0 []::sd b c n T::M):=rt_shut ⟨none,0,0⟩ (by exact Sat.fin hs)
 refine call2_of (r21_Put (k:=key) (v:=val) (now:=now) (life:=life) hs (by simp [RiseM,Rising]) (by simp)) fun e w ⟨he2,hs⟩=>⟨_,_,he2,?_⟩
 have hs:Sat W w (sd b c n T::M):=hs.drop
 with_reducible refine ite_neI (fun he=>?_) (fun he=>?_)
 ·exact .inl ⟨he,rfl,hs⟩
 obtain ⟨hkey,_⟩:=tErr_ok he
 have hkz:=isKey_size hkey
 refine call1_ret (q24_over (now:=now) (by omega) (by omega) hs) fun v w ⟨sg,hv,hs⟩=>⟨_,hv,?_⟩
 have hg1:(gOver T key now).length <= 1:=by unfold gOver; split <;> simp
 generalize gOver T key now = gg at hs hg1 ⊢
 generalize sOver T key now = T1 at hs ⊢
 obtain ⟨l,wr,k,R,evs,hi,hs⟩:=sd_open hs
 have hkR:=sdK_ok hs
 have hc2:=hkR.c2; have hTl:=hi.len
 obtain ⟨tb,fb,mb,s,x0,x1,x2,x3,x4,x5,hc,hs⟩:=sdK_open hs
 refine nilck_some (ld_b hs ?_)
 refine call1_ret (q24_inc hs hc.h2) fun v w ⟨y2,hv,hy2,hs⟩=>⟨_,hv,?_⟩
 refine nilck_some (st_b hs fun w hs=>?_)
 have hc':Cnt6 x0 x1 y2 x3 x4 x5:=⟨hc.h0,hc.h1,hy2,hc.h3,hc.h4,hc.h5⟩
 have hs:Sat W w (rtR tb T1::cD b tb fb mb x0 x1 y2 x3 x4 x5 s::fd fb wr k l::mvR mb c R::recs evR s evs::recs Rec.str sg gg::M):=by exact Sat.fin hs
 obtain ⟨st0,hst,hs⟩:=rt_open hs
 have back:∀ w:World,Sat W w (blk tb [.slice st0.a st0.n st0.c]::recs entR st0 T1::cD b tb fb mb x0 x1 y2 x3 x4 x5 s::fd fb wr k l::mvR mb c R::recs evR s evs::recs Rec.str sg gg::M) -> Sat W w (sd b c (n + 1) T1::recs Rec.str sg gg::M):=by
  clear hs
  intro w hs
  have hs:=rt_shut st0 hs
  exact sd_shut hi (sdK_shut hc' (by exact Sat.fin hs))
 have fin:∀ (w:World) (t:Bool),(t = true -> key ∈ kT T1 \/ (T1.length:Int) < c) -> (t = false -> key ∉ kT T1 /\ c <= (T1.length:Int)) -> Sat W w (sd b c (n + 1) T1::recs Rec.str sg gg::M) ->
   f18_j1 idJ (fun v w'=>(tErr key val now life ≠ 0 /\ v = .tuple #[.slice none 0 0,.int .i64 (tErr key val now life)] /\ Sat W w' (sd b c n T::M)) \/ (tErr key val now life = 0 /\ PutQ b c (n + 3) T1 gg key val now life W M v w')) (some ⟨b,0,none⟩) key val now life sg t w:=by
  clear hs back
  intro w t h1 h2 hs
  exact put_j1 (n:=n + 1) (fun v w h=>.inr ⟨he,h⟩) he (by omega) hg1 t h1 h2 hs
 refine drawW_only [cD b tb fb mb x0 x1 y2 x3 x4 x5 s,blk tb [.slice st0.a st0.n st0.c]] hs fun w hs=>?_
 refine nilck_some (ld_b hs (keep_imp hs ?_))
 refine call1_of (r21_HasO (k:=key) hs hi.tok.rise (by omega)) fun e w ⟨he2,hs⟩=>⟨_,he2,keep_imp hs ?_⟩
 refine ite_cases (fun h1=>?_) (fun h1=>?_)
 ·refine keep_imp hs (keep_imp hs (keep_imp hs ?_))
  exact fin w true (fun _=>.inl (kT_mem.2 h1)) (fun h=>by cases h) (back w hs)
 ·have hno:key ∉ kT T1:=fun h=>by rw [kT_mem.1 h] at h1; cases h1
  refine nilck_some (ldS_b (k:=.ptr) (x:=some ⟨tb,0,none⟩) ?_)
  refine nilck_some (ldS_b (x:=st0) ?_)
  refine nilck_some (ld_b hs (keep_imp hs (nilck_some ?_)))
  have hs:Sat W w (mvR mb c R::blk tb [.slice st0.a st0.n st0.c]::recs entR st0 T1::cD b tb fb mb x0 x1 y2 x3 x4 x5 s::fd fb wr k l::recs evR s evs::recs Rec.str sg gg::M):=by exact Sat.fin hs
  have ends:∀ w:World,Sat W w (mvR mb c R::blk tb [.slice st0.a st0.n st0.c]::recs entR st0 T1::cD b tb fb mb x0 x1 y2 x3 x4 x5 s::fd fb wr k l::recs evR s evs::recs Rec.str sg gg::M) ->
    f18_j1 idJ (fun v w'=>(tErr key val now life ≠ 0 /\ v = .tuple #[.slice none 0 0,.int .i64 (tErr key val now life)] /\ Sat W w' (sd b c n T::M)) \/ (tErr key val now life = 0 /\ PutQ b c (n + 3) T1 gg key val now life W M v w')) (some ⟨b,0,none⟩) key val now life sg (decide ((st0.n:Int) < c)) w:=by
   clear hs
   intro w hs
   refine fin w _ (fun h=>?_) (fun h=>?_) (back w (by exact Sat.fin hs))
   ·exact .inr (by have:=of_decide_eq_true h; omega)
   ·exact ⟨hno,by have:=of_decide_eq_false h; omega⟩
  refine mv_cases hs (fun e hk hs=>?_) (fun e q A B hR hk hs=>?_)
  ·refine ld_b hs (keep_imp hs ?_)
   have hs:Sat W w (eng e c R::blk mb [.pointer (some ⟨e,0,none⟩),.pointer none]::blk tb [.slice st0.a st0.n st0.c]::recs entR st0 T1::cD b tb fb mb x0 x1 y2 x3 x4 x5 s::fd fb wr k l::recs evR s evs::recs Rec.str sg gg::M):=by exact Sat.fin hs
   refine call1_ret (q15_Room hs) fun v w ⟨hv,hs⟩=>⟨_,hv,keep_imp hs ?_⟩
   exact ends w (mv_shut0 (e:=e) hk (by exact Sat.fin hs))
  ·refine ld_b hs (keep_imp hs ?_)
   have hs:Sat W w (eng e c A::blk mb [.pointer (some ⟨e,0,none⟩),.pointer (some ⟨q,0,none⟩)]::eng q c B::blk tb [.slice st0.a st0.n st0.c]::recs entR st0 T1::cD b tb fb mb x0 x1 y2 x3 x4 x5 s::fd fb wr k l::recs evR s evs::recs Rec.str sg gg::M):=by exact Sat.fin hs
   refine call1_ret (q15_Room hs) fun v w ⟨hv,hs⟩=>⟨_,hv,keep_imp hs ?_⟩
   exact ends w (mv_shut1 (e:=e) (q:=q) hR hk (by exact Sat.fin hs))
end
end Go.Proofs.YtmefopmnjncdbaaGreat
namespace Go.Hb
open Go.Maps Go.WideElems Go.WideMaps Go.MapKept
def sHas (ks:List ByteArray) (q:ByteArray):Bool:=ks.any fun k=>decide (k = q)
theorem sHas_iff {ks:List ByteArray} {q:ByteArray}:sHas ks q = true ↔ q ∈ ks:=by simp [sHas]
def cellC (b:Nat) (o:Obj):HP:=fun h=>h b = some o
section
variable {W0 w:World} {L M:List HP} {b:Nat} {P:Program} {kt et:TypeId} {ks:List ByteArray}
structure SetIs (P:Program) (kt et:TypeId) (es:Array MapEntry) (clock:Nat) (ks:List ByteArray):Prop where
 fit:Fit P kt (plainElem (H:=Unit) P et) es clock
 size:es.size <= ks.length
 at_:∀ q:ByteArray,q.size <= maxLen -> (DataW.map ((es.toList.map (rg P kt (plainElem (H:=Unit) P et))).foldr DataW.insert [])).atKey (.string q.data.toList) (.lit (.bool false)) = .lit (.bool (sHas ks q))
def setC (P:Program) (kt et:TypeId) (b:Nat) (ks:List ByteArray):HP:=fun h=>∃ es clock,h b = some (.map es clock) /\ SetIs P kt et es clock ks
instance At.setC:At (setC P kt et b ks::L) b (setC P kt et b ks) (fun x=>x::L):=⟨here_pos⟩
theorem set_open (h:Sat W0 w (setC P kt et b ks::M)):∃ es clock,SetIs P kt et es clock ks /\ w.heap[b]? = some (.map es clock) /\ Sat W0 w (cellC b (.map es clock)::M):=by
 obtain ⟨es,h⟩:=Sat.ex (q:=0) (p:=fun es=>fun h:Heap=>∃ clock,h b = some (.map es clock) /\ SetIs P kt et es clock ks) h rfl
 obtain ⟨clock,h⟩:=Sat.ex (q:=0) (p:=fun clock=>fun h:Heap=>h b = some (.map es clock) /\ SetIs P kt et es clock ks) h rfl
 have h1:SetIs P kt et es clock ks:=h.pure (q:=0) rfl fun _ hg=>hg.2
 have h2:Sat W0 w (cellC b (.map es clock)::M):=h.turn (q:=0) rfl fun _ hg=>hg.1
 obtain ⟨g,hg,hb⟩:=h2.get (q:=0) rfl
 exact ⟨es,clock,h1,hg _ _ hb,h2⟩
theorem set_shut {es:Array MapEntry} {clock:Nat} (hi:SetIs P kt et es clock ks) (h:Sat W0 w (cellC b (.map es clock)::M)):Sat W0 w (setC P kt et b ks::M):=
 h.turn (q:=0) rfl fun _ hg=>⟨es,clock,hg,hi⟩
theorem Sat.swapC {w':World} {o o':Obj} (h:Sat W0 w (cellC b o::L)) (ho:w'.os = w.os) (hu:w'.output = w.output) (hb:w'.heap[b]? = some o') (hk:∀ x y,x ≠ b -> w.heap[x]? = some y -> w'.heap[x]? = some y) :
  Sat W0 w' (cellC b o'::L):=by
 obtain ⟨h1,h2,ha,hb2,hc,hd,he⟩:=h.st
 refine ⟨ho.trans h.os,hu.trans h.out,fun x=>if x = b then some o' else none,h2,fun x y hx=>?_,fun x y hx=>?_,fun x=>?_,by simp [cellC],he⟩
 ·simp only at hx
  split at hx
  ·rename_i hxb; subst hxb; cases hx; exact hb
  ·cases hx
 ·have hxb:x ≠ b:=by
   intro hxb; subst hxb
   rcases hc x with h' | h'
   ·have hd:h1 x = some o:=hd
    rw [hd] at h'; cases h'
   ·rw [hx] at h'; cases h'
  exact hk x y hxb (hb2 _ _ hx)
 ·simp only
  by_cases hxb:x = b
  ·subst hxb
   rcases hc x with h' | h'
   ·have hd:h1 x = some o:=hd
    rw [hd] at h'; cases h'
   ·exact .inr h'
  ·left; rw [if_neg hxb]
theorem Sat.allocC {o:Obj} (h:Sat W0 w L):Sat W0 (w.alloc o) (cellC w.heap.size o::L):=by
 have hold:subH (heapOf w) (heapOf (w.alloc o)):=by
  intro x y hx
  simp only [heapOf,World.alloc,Array.getElem?_push] at hx ⊢
  have hlt:x < w.heap.size:=(Array.getElem?_eq_some_iff.1 hx).1
  rw [if_neg (by omega)]
  exact hx
 refine ⟨h.os,h.out,fun x=>if x = w.heap.size then some o else none,heapOf w,fun x y hx=>?_,hold,fun x=>?_,by simp [cellC],h.st⟩
 ·simp only at hx
  split at hx
  ·rename_i hxb; subst hxb; cases hx; show (w.heap.push _)[w.heap.size]? = _; simp
  ·cases hx
 ·simp only
  by_cases hxb:x = w.heap.size
  ·right
   subst hxb
   simp [heapOf]
  ·left; rw [if_neg hxb]
theorem boolElem_inv {v:Value} {x:Bool} {ps:List MemPlace} (he:P.underlying et = some .bool) (h:plainElem (H:=Unit) P et v = some (.lit (.bool x),ps)):v = .bool x:=by
 unfold plainElem at h
 rw [he] at h
 cases v with
 | bool y=>simp only [Option.some.injEq,Prod.mk.injEq] at h; have h1:=h.1; injection h1 with h1; injection h1 with h1; rw [h1]
 | _=>simp at h
theorem newM_at {K:Nat -> WP} (h:Sat W0 w L) (hK:∀ b w',Sat W0 w' (setC P kt et b []::L) -> K b w'):newM K w:=
 hK _ _ (set_shut ⟨⟨by simp,stamped_empty 0,by simp⟩,Nat.le_refl _,fun q _=>by simp [DataW.atKey,sHas]⟩ h.allocC)
theorem mLook_at {t:TypeId} {F:HP -> List HP} {q:ByteArray} {K:Bool -> WP} (ht:P.underlying t = some (.map kt et)) (hk:P.underlying kt = some .string) (he:P.underlying et = some .bool) (hz:∀ w:World,(zeroValue et).run P w = .ok (.bool false) w)
  (h:Sat W0 w L) [hA:At L b (setC P kt et b ks) F] (hq:q.size <= maxLen) (hK:K (sHas ks q) w):mLook P t (.map (some b)) (.string q) .bool K w:=by
 refine At.one (hA:=hA) h fun M hs _=>?_
 obtain ⟨es,clock,hi,hb,_⟩:=set_open hs
 have hown:w.ownsMap P kt (plainElem (H:=Unit) P et) b ks.length _:=⟨es,clock,hb,hi.fit,hi.size,rfl⟩
 obtain ⟨v,ps,hrun,hv⟩:=hown.lookup (string_keyed hk) ht (hz w) (plainElem_bool he false) (keyOf_string_mk hk hq)
 rw [hi.at_ q hq] at hv
 have hv2:=boolElem_inv he hv
 subst hv2
 exact ⟨_,hrun,hK⟩
theorem mUp_at {t:TypeId} {F:HP -> List HP} {q:ByteArray} {K:WP} (ht:P.underlying t = some (.map kt et)) (hk:P.underlying kt = some .string) (he:P.underlying et = some .bool)
  (h:Sat W0 w L) [hA:At L b (setC P kt et b ks) F] (hq:q.size <= maxLen) (hn:ks.length < maxLen) (hK:∀ w',Sat W0 w' (F (setC P kt et b (q::ks))) -> K w'):mUp P t (.map (some b)) (.string q) (.bool true) K w:=by
 refine At.one (hA:=hA) h fun M hs hb=>?_
 obtain ⟨es,clock,hi,hbl,hs2⟩:=set_open hs
 have hown:w.ownsMap P kt (plainElem (H:=Unit) P et) b ks.length _:=⟨es,clock,hbl,hi.fit,hi.size,rfl⟩
 obtain ⟨w',hrun,⟨es2,clock2,hb2,hf2,hs3,hD⟩,hg⟩:=hown.update (string_keyed hk) ht hn (keyOf_string_mk hk hq) (plainElem_bool (H:=Unit) he true)
 refine ⟨w',hrun,hK _ (hb _ _ (set_shut (es:=es2) (clock:=clock2) ⟨hf2,hs3,fun p hp=>?_⟩ (hs2.swapC hg.os hg.output hb2 fun x y hx hy=>?_)))⟩
 ·rw [<- hD]
  by_cases hpq:p = q
  ·subst hpq
   rw [atKey_put_same ⟨_,rfl⟩ (by simp [WideAt.IsKeyLit])]
   simp [sHas]
  ·rw [atKey_put_other (by
    intro h
    simp only [Lit.string.injEq] at h
    apply hpq
    cases p with | mk p=>cases q with | mk q=>simp only [ByteArray.mk.injEq]; exact Array.toList_inj.1 h),hi.at_ p hp]
   congr 2
   simp [sHas,Ne.symm hpq]
 ·have hlt:x < w.heap.size:=(Array.getElem?_eq_some_iff.1 hy).1
  rw [hg.block x hlt (by simpa using hx)]; exact hy
end
end Go.Hb

