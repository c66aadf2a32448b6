import Derived.Test.YtmefopmnjncdbaaGreatMn13
set_option linter.unusedVariables false
set_option linter.unusedSimpArgs false
set_option linter.unnecessarySimpa false
set_option linter.unusedSectionVars false
set_option maxRecDepth 100000
namespace Go.Proofs.YtmefopmnjncdbaaGreat
open Go.Hb Go.IntWalk
section
variable {W w:World} {L M:List HP} {F:HP -> List HP} {b:Nat} {c:Int} {x y:LirsS} {key:ByteArray} {s q:Sl}
theorem r13_Load (h:Sat W w L) [hA:At L b (liR b c x) F] (hx:LOk c x):Calls Tryz.prog 157 #[.pointer (some ⟨b,0,none⟩),.string key] w fun e w'=>e = .returned (.bool (lLoad c x key).1) /\ Sat W w' (F (liR b c (lLoad c x key).2)):=by
 refine At.call1 (hA:=hA) h fun M hs=>?_
 clear h hA
 refine c1 (cw f157_ok f157_raw ?_)
 have hsm:=hx.small
 have hc1:=hx.c1
 have hc2:=hx.c2
 have hw:=hx.w
 have hlen:=hx.len
 refine drawW_only [liR b c x] hs fun w hs=>?_
 refine call1_of (r13_Has hs hw (by omega) (by omega)) fun e w ⟨he,hs⟩=>⟨_,he,?_⟩
 refine keep_imp hs ?_
 by_cases hk:key ∈ lRes x
 ·rw [decide_eq_true hk]
  refine ite_true rfl ?_
  refine keep_imp hs ?_
  have hcond:lIs x.s key = 1 \/ key ∈ x.q \/ (lLen x:Int) = c:=by
   rcases mem_lRes.1 hk with h | h
   ·exact .inr (.inl h)
   ·exact .inl ((lIs_iff hw.sn (by decide)).2 h)
  have e1:lLoad c x key = (false,x):=if_pos hcond
  rw [e1]
  exact ⟨rfl,hs⟩
 ·rw [decide_eq_false hk]
  have hno:(key,(1:Int)) ∉ x.s:=fun h=>hk (mem_lRes.2 (.inr h))
  have hq:key ∉ x.q:=fun h=>hk (mem_lRes.2 (.inl h))
  with_reducible refine ite_false rfl ?_
  refine nilck_some ?_
  refine ldS_by (k:=.int .i64) c (fun w' h=>by rw [Nat.zero_add]; exact li_cap h) ?_
  refine call1_of (r13_Len hs (by omega) (by omega)) fun e w ⟨he,hs⟩=>⟨_,he,?_⟩
  refine keep_imp hs ?_
  with_reducible refine ite_by (fun h3=>?_) (fun h3=>?_)
  ·have e1:lLoad c x key = (false,x):=if_pos (.inr (.inr (by omega)))
   rw [e1]
   exact ⟨rfl,hs⟩
  ·have e1:lLoad c x key = (true,lPr (if (lCnt x.s 1:Int) < lMost c then lHeats c x key else lChills x key)):=if_neg (fun h=>h.elim (fun h=>hno ((lIs_iff hw.sn (by decide)).1 h)) fun h=>h.elim hq (by omega))
   rw [e1]
   refine jw f157_j1_raw ?_
   refine call1_of (r13_count hs (fun _=>kB_hot) (by omega)) fun e w ⟨he,hs⟩=>⟨_,he,?_⟩
   refine call1_of (r13_most hs hc1 hc2) fun e w ⟨he,hs⟩=>⟨_,he,?_⟩
   have hl1:=lTop_len x.s key 1
   have hl2:=lTop_len x.s key 2
   with_reducible refine ite_by (fun h2=>?_) (fun h2=>?_)
   ·rw [if_pos h2,heats_new hw hq hno h2]
    refine call0_of (r13_top (i:=1) hs rfl (by omega)) fun e w ⟨he,hs⟩=>⟨he,?_⟩
    refine call0_of (r13_prune hs (by simp only; omega)) fun e w ⟨he,hs⟩=>⟨he,?_⟩
    exact ⟨rfl,hs⟩
   ·rw [if_neg h2,chills_new hq]
    refine call0_of (r13_top (i:=2) hs rfl (by omega)) fun e w ⟨he,hs⟩=>⟨he,?_⟩
    obtain ⟨s,q,hs1,hq1,hs⟩:=li_open hs
    simp only at hq1
    repeat (first | with_reducible refine nilck_some ?_ | ((with_reducible refine atLd ?_); first | refine ld_b hs ?_ | fail) | with_reducible refine newB_at hs fun b_ w hs=>?_ | fail)
    refine app_one (s:=q) (a:=key) hs rfl rfl rfl rfl (by decide) (by simp only; omega) fun s2 w hs2 hs=>?_
    repeat (first | with_reducible refine nilck_some ?_ | ((with_reducible refine isSt ?_); first | refine st_b hs fun w hs=>?_ | fail) | fail)
    have hs:Sat W w (liR b c ⟨lTop x.s key 2,x.q ++ [key]⟩::M):=li_shut s s2 (by exact Sat.fin hs)
    refine call0_of (r13_prune hs (by simp only; omega)) fun e w ⟨he,hs⟩=>⟨he,?_⟩
    exact ⟨rfl,hs⟩
theorem r13_Remove (h:Sat W w L) [hA:At L b (liR b c x) F] (hx:LOk c x):Calls Tryz.prog 147 #[.pointer (some ⟨b,0,none⟩),.string key] w fun e w'=>e = .returned (.bool (lRem x key).1) /\ Sat W w' (F (liR b c (lRem x key).2)):=by
 refine At.call1 (hA:=hA) h fun M hs=>?_
 clear h hA
 refine c1 (cw f147_ok f147_raw ?_)
 have hsm:=hx.small
 have hw:=hx.w
 have hHas:=lHas hw (k:=key)
 refine call1_of (r13_Has hs hw (by omega) (by omega)) fun e w ⟨he,hs⟩=>⟨_,he,?_⟩
 by_cases hk:key ∈ lRes x
 ·rw [decide_eq_true hk] at hHas ⊢
  have hcond:lIs x.s key = 1 \/ key ∈ x.q:=by simpa using hHas
  have e1:lRem x key = (true,lPr ⟨lOut x.s key,gTake x.q key⟩):=if_pos hcond
  rw [e1]
  with_reducible refine ite_false rfl ?_
  have hl:=lOut_len x.s key
  refine call0_of (r13_out hs (by omega)) fun e w ⟨he,hs⟩=>⟨he,?_⟩
  refine call0_of (r13_leave hs (by simp only; omega)) fun e w ⟨he,hs⟩=>⟨he,?_⟩
  refine call0_of (r13_prune hs (by simp only; omega)) fun e w ⟨he,hs⟩=>⟨he,?_⟩
  exact ⟨rfl,hs⟩
 ·rw [decide_eq_false hk] at hHas ⊢
  have hcond:¬ (lIs x.s key = 1 \/ key ∈ x.q):=by simpa using hHas
  have e1:lRem x key = (false,x):=if_neg hcond
  rw [e1]
  with_reducible refine ite_true rfl ?_
  exact ⟨rfl,hs⟩
theorem r13_Keys (h:Sat W w L) [hA:At L b (liR b c x) F] (hz:x.s.length < 1000000) (hzq:x.q.length < 1000000):Calls Tryz.prog 196 #[.pointer (some ⟨b,0,none⟩)] w fun e w'=>∃ l:Sl,e = .returned (.slice l.a l.n l.c) /\ Sat W w' (recs Rec.str l (lRes x)::F (liR b c x)):=by
 refine At.oneX (hA:=hA) h fun M hs hb=>?_
 refine (cw f196_ok f196_raw (Q:=fun v w'=>∃ l:Sl,v = .slice l.a l.n l.c /\ Sat W w' (liR b c x::recs Rec.str l (lRes x)::M)) ?_).mono fun e w' ⟨v,he,l,hv,hs⟩=>⟨l,by rw [he,hv],hb _ _ [recs Rec.str l (lRes x)] hs⟩
 clear hb hA h
 obtain ⟨s,q,hs1,hq1,hs⟩:=li_open hs
 refine newB_at hs fun b0 w hs=>?_
 repeat (first | with_reducible refine nilck_some ?_ | ((with_reducible refine atLd ?_); first | refine ld_b hs ?_ | fail) | fail)
 refine app_own hs Rec.str (rows:=[]) rfl rfl (rd_rdb (s:=q) hs) hq1.1 (okC_flat _) rfl (by decide) (by simp; omega) fun s0 w hs0 hs=>?_
 rw [List.nil_append] at hs
 have loop:∀ (f j:Nat) (w:World) (acc:Sl),j + f = x.s.length -> Sat W w (recs Rec.str acc (x.q ++ lThose (x.s.take j) 1)::rB b c s q::recs lcR s x.s::recs Rec.str q x.q::M) ->
   f196_l1 idJ (fun v w'=>∃ l:Sl,v = .slice l.a l.n l.c /\ Sat W w' (liR b c x::recs Rec.str l (lRes x)::M)) (f + 1) (some ⟨b,0,none⟩) acc (j:Int) w:=by
  clear hs
  intro f
  induction f with
  | zero=>
   intro j w acc hif hs
   rw [f196_l1_raw]
   repeat (first | with_reducible refine nilck_some ?_ | ((with_reducible refine atLd ?_); first | refine ld_b hs ?_ | fail) | fail)
   refine ite_false (decide_eq_false (by omega)) ?_
   refine jw f196_j2_raw ?_
   rw [List.take_of_length_le (by omega)] at hs
   exact ⟨acc,rfl,li_shut s q (by exact Sat.fin hs)⟩
  | succ f ih=>
   intro j w acc hif hs
   rw [f196_l1_raw]
   repeat (first | with_reducible refine nilck_some ?_ | ((with_reducible refine atLd ?_); first | refine ld_b hs ?_ | fail) | fail)
   refine ite_true (decide_eq_true (by omega)) ?_
   repeat (first | with_reducible refine nilck_some ?_ | ((with_reducible refine atLd ?_); first | refine ld_b hs ?_ | refine ld_r1 hs ?_ | fail) | ((with_reducible refine isIdx ?_); first | refine idx_s hs fun b_ o_ hs=>?_ | fail) | fail)
   rw [Int.toNat_natCast]
   have hdl:=lThose_tk x.s 1 j
   have hds:=lThose_snoc (i:=1) (S:=x.s) (j:=j) (by omega)
   have hw:IntKind.wrap .i64 ((j:Int) + 1) = ((j + 1:Nat):Int):=by rw [i64_in _ (by omega)]; omega
   with_reducible refine ite_by (fun h1=>?_) (fun h1=>?_)
   ·rw [if_pos (kB_hot.1 h1)] at hds
    repeat (first | with_reducible refine nilck_some ?_ | ((with_reducible refine atLd ?_); first | refine ld_b hs ?_ | refine ld_rd0 ha_ hs ?_ | fail) | ((with_reducible refine isIdx ?_); first | refine idx_rd hs fun b_ o_ ha_=>?_ | fail) | with_reducible refine newB_at hs fun b_ w hs=>?_ | fail)
    refine app_one (s:=acc) (a:=(x.s.getD j default).1) hs rfl rfl rfl rfl (by decide) (by simp; omega) fun s2 w hs2 hs=>?_
    rw [List.append_assoc,<- hds] at hs
    rw [hw]
    exact ih (j + 1) w s2 (by omega) (by exact Sat.fin hs)
   ·rw [if_neg (fun h=>h1 (kB_hot.2 h)),List.append_nil] at hds
    rw [<- hds] at hs
    rw [hw]
    exact ih (j + 1) w acc (by omega) (by exact Sat.fin hs)
 refine exM_of (x.s.length + 1) ?_
 refine loop x.s.length 0 w s0 (by omega) ?_
 have:x.q ++ lThose (x.s.take 0) 1 = x.q:=by simp [lThose]
 rw [this]
 exact Sat.fin hs
theorem r13_New (hs:Sat W w L) {r:Int}:Calls Tryz.prog 99 #[.int .i64 r] w fun e w'=>∃ b,e = .returned (.pointer (some ⟨b,0,none⟩)) /\ Sat W w' (liR b (roomR r) lirs0::L):=by
 refine (cw f99_ok f99_raw (Q:=fun v w'=>∃ b,v = .pointer (some ⟨b,0,none⟩) /\ Sat W w' (liR b (roomR r) lirs0::L)) ?_).mono fun e w' ⟨v,he,b,hv,hs⟩=>⟨b,by rw [he,hv],hs⟩
 have e0:(if (1024:Int) < (if (1:Int) > r then (1:Int) else r) then (1024:Int) else (if (1:Int) > r then (1:Int) else r)) = roomR r:=by unfold roomR; split <;> split <;> omega
 rw [e0]
 refine newB_at hs fun b w hs=>?_
 have hs:=Sat.nilR lcR hs
 have hs:=Sat.nilR Rec.str hs
 exact ⟨b,rfl,li_shut ⟨none,0,0⟩ ⟨none,0,0⟩ (by exact Sat.fin hs)⟩
end
end Go.Proofs.YtmefopmnjncdbaaGreat
namespace Go.Hb
def e10 (b:Nat) (c:Int) (R:BL):HP:=exH fun (x:ArcS)=>andH (R = aRes x /\ ArcOk c x) (arR b c x)
def e13 (b:Nat) (c:Int) (R:BL):HP:=exH fun (x:LirsS)=>andH (R = lRes x /\ LOk c x) (liR b c x)
section
variable {W w:World} {M L:List HP} {b:Nat} {c:Int} {R:BL} {k:ByteArray}
theorem e10_open (h:Sat W w (e10 b c R::M)):∃ x:ArcS,R = aRes x /\ ArcOk c x /\ Sat W w (arR b c x::M):=by
 obtain ⟨x,h⟩:=h.openE
 obtain ⟨hp,h⟩:=h.openA
 exact ⟨x,hp.1,hp.2,h⟩
theorem e10_shut {x:ArcS} (hx:ArcOk c x) (h:Sat W w (arR b c x::M)):Sat W w (e10 b c (aRes x)::M):=Sat.shutE x (Sat.shutA ⟨rfl,hx⟩ h)
theorem e13_open (h:Sat W w (e13 b c R::M)):∃ x:LirsS,R = lRes x /\ LOk c x /\ Sat W w (liR b c x::M):=by
 obtain ⟨x,h⟩:=h.openE
 obtain ⟨hp,h⟩:=h.openA
 exact ⟨x,hp.1,hp.2,h⟩
theorem e13_shut {x:LirsS} (hx:LOk c x) (h:Sat W w (liR b c x::M)):Sat W w (e13 b c (lRes x)::M):=Sat.shutE x (Sat.shutA ⟨rfl,hx⟩ h)
theorem ArcOk.eok {x:ArcS} (h:ArcOk c x):EOk c (aRes x):=⟨h.w.res_nd,fun k hk=>aRes_small h.w hk,h.res_nd.2.2.2.1,h.c1,h.c2⟩
theorem LOk.eok {x:LirsS} (h:LOk c x):EOk c (lRes x):=⟨h.w.res_nd,fun k hk=>by
 rcases List.mem_append.1 hk with h1 | h1
 ·exact h.w.qsm k h1
 ·unfold lThose at h1
  obtain ⟨e,he,rfl⟩:=List.mem_map.1 h1
  exact h.w.ssm e (List.mem_filter.1 he).1,by rw [lRes_len]; exact h.len,h.c1,h.c2⟩
theorem lAcc_calm {x:LirsS} (h:(lLen x:Int) < c):(lAcc c x k).1.2 = []:=by
 have e:(lRoom c x).1 = []:=by unfold lRoom; rw [if_neg (by omega)]
 unfold lAcc
 split
 ·rfl
 ·split
  ·rfl
  ·exact e
theorem lEvict_all {x:LirsS} (hx:LOk c x):LOk c (lEvict c x).2 /\ EvR c (lRes x) (lEvict c x).1.1 (lEvict c x).1.2 (lRes (lEvict c x).2):=by
 by_cases h0:lLen x = 0
 ·have e:lEvict c x = ((⟨#[]⟩,false),x):=if_pos h0
  rw [e]
  exact ⟨hx,EvR.none hx.eok (by rw [lRes_len]; exact h0)⟩
 ·obtain ⟨h1,h2⟩:=lEvict_ok hx h0
  refine ⟨h2.ok,?_⟩
  rw [h1]
  exact ⟨(decide_eq_true (List.length_pos_of_mem h2.sub)).symm,fun _=>h2.sub,fun z=>by rw [h2.mem]; simp,h2.ok.eok⟩
end
end Go.Hb
namespace Go.Proofs.YtmefopmnjncdbaaGreat
open Go.Hb Go.IntWalk
section
variable {W w:World} {L M:List HP} {b:Nat} {c:Int} {R:BL} {key:ByteArray}
theorem q10_New (hs:Sat W w L) {r:Int}:Rts Tryz.prog 98 #[.int .i64 r] w fun v w'=>∃ b,v = .pointer (some ⟨b,0,none⟩) /\ Sat W w' (e10 b (roomR r) []::L):=by
 refine Calls.mono (r10_New (r:=r) hs) fun e w' ⟨b,he,hs⟩=>⟨_,he,b,rfl,?_⟩
 have hr:=roomR_in r
 exact e10_shut (x:=arc0) (ArcOk.ok0 hr.1 hr.2) hs
theorem q10_Room (hs:Sat W w (e10 b c R::M)):Rts Tryz.prog 76 #[.pointer (some ⟨b,0,none⟩)] w fun v w'=>v = .int .i64 c /\ Sat W w' (e10 b c R::M):=by
 obtain ⟨x,rfl,hx,hs⟩:=e10_open hs
 exact Calls.mono (r10_Room hs) fun e w' ⟨he,hs⟩=>⟨_,he,rfl,e10_shut hx hs⟩
theorem q10_Has (hs:Sat W w (e10 b c R::M)):Rts Tryz.prog 151 #[.pointer (some ⟨b,0,none⟩),.string key] w fun v w'=>v = .bool (decide (key ∈ R)) /\ Sat W w' (e10 b c R::M):=by
 obtain ⟨x,rfl,hx,hs⟩:=e10_open hs
 have hll:=hx.lens
 exact Calls.mono (r10_Has hs hx) fun e w' ⟨he,hs⟩=>⟨_,he,rfl,e10_shut hx hs⟩
theorem q10_Keys (hs:Sat W w (e10 b c R::M)):Rts Tryz.prog 195 #[.pointer (some ⟨b,0,none⟩)] w fun v w'=>∃ l:Sl,v = .slice l.a l.n l.c /\ Sat W w' (recs Rec.str l R::e10 b c R::M):=by
 obtain ⟨x,rfl,hx,hs⟩:=e10_open hs
 have hll:=hx.lens
 refine Calls.mono (r10_Keys hs hx) fun e w' ⟨l,he,hs⟩=>⟨_,he,l,rfl,?_⟩
 have hs:Sat W w' (arR b c x::recs Rec.str l (aRes x)::M):=by exact Sat.fin hs
 have hs:=e10_shut hx hs
 exact Sat.fin hs
theorem q10_Access (hs:Sat W w (e10 b c R::M)) (hz:key.size < 64):Rts Tryz.prog 124 #[.pointer (some ⟨b,0,none⟩),.string key] w fun v w'=>∃ (hit:Bool) (l:Sl) (g S:BL),v = .tuple #[.bool hit,.slice l.a l.n l.c] /\ AccR c R key hit g S /\ Sat W w' (recs Rec.str l g::e10 b c S::M):=by
 obtain ⟨x,rfl,hx,hs⟩:=e10_open hs
 refine Calls.mono (r10_Access (key:=key) hs hx) fun e w' ⟨l,he,hs⟩=>⟨_,he,_,l,(aAcc c x key).1.2,aRes (aAcc c x key).2,rfl,?_,?_⟩
 ·exact ⟨aAcc_eacc hx hz,(aAcc_law hx hz).ok.eok,fun h=>aAcc_calm (.inr (by rw [<- aRes_len]; exact h))⟩
 ·have hs:Sat W w' (arR b c (aAcc c x key).2::recs Rec.str l (aAcc c x key).1.2::M):=by exact Sat.fin hs
  have hs:=e10_shut (aAcc_law hx hz).ok hs
  exact Sat.fin hs
theorem q10_Load (hs:Sat W w (e10 b c R::M)) (hz:key.size < 64):Rts Tryz.prog 156 #[.pointer (some ⟨b,0,none⟩),.string key] w fun v w'=>∃ (yes:Bool) (S:BL),v = .bool yes /\ LoadR c R key yes S /\ Sat W w' (e10 b c S::M):=by
 obtain ⟨x,rfl,hx,hs⟩:=e10_open hs
 refine Calls.mono (r10_Load hs hx) fun e w' ⟨he,hs⟩=>⟨_,he,_,aRes (aLoad c x key).2,rfl,?_,e10_shut (aLoad_law hx hz).inv hs⟩
 have h:=aLoad_law hx hz
 refine ⟨h.oks,fun z=>?_,h.inv.eok⟩
 cases ho:(aLoad c x key).1 with
 | true=>rw [<- aRes_eq,(h.res.1 ho).mem_iff,List.mem_cons]; simp [or_comm,aRes_eq]
 | false=>rw [h.res.2 ho]; simp
theorem q10_Remove (hs:Sat W w (e10 b c R::M)):Rts Tryz.prog 146 #[.pointer (some ⟨b,0,none⟩),.string key] w fun v w'=>∃ (yes:Bool) (S:BL),v = .bool yes /\ RemR c R key yes S /\ Sat W w' (e10 b c S::M):=by
 obtain ⟨x,rfl,hx,hs⟩:=e10_open hs
 refine Calls.mono (r10_Remove hs hx) fun e w' ⟨he,hs⟩=>⟨_,he,_,aRes (aRem x key).2,rfl,?_,e10_shut (aRem_law hx).1 hs⟩
 obtain ⟨h1,h2,h3,h4⟩:=aRem_law (k:=key) hx
 refine ⟨h2,fun z=>?_,h1.eok⟩
 cases ho:(aRem x key).1 with
 | true=>
  obtain ⟨hp,hno,_⟩:=h3 ho
  have hp:(aRes x).Perm (key::aRes (aRem x key).2):=hp
  rw [hp.mem_iff,List.mem_cons]
  constructor
  ·intro h; exact ⟨.inr h,fun e=>hno (e ▸ h)⟩
  ·rintro ⟨h | h,h5⟩
   ·exact absurd h h5
   ·exact h
 | false=>
  rw [ho] at h2
  have hno:key ∉ aRes x:=of_decide_eq_false h2.symm
  rw [h4 ho]
  exact ⟨fun h=>⟨h,fun e=>hno (e ▸ h)⟩,fun h=>h.1⟩
theorem q10_Evict (hs:Sat W w (e10 b c R::M)):Rts Tryz.prog 119 #[.pointer (some ⟨b,0,none⟩)] w fun v w'=>∃ x yes S,v = .tuple #[.string x,.bool yes] /\ EvR c R x yes S /\ Sat W w' (e10 b c S::M):=by
 obtain ⟨x,rfl,hx,hs⟩:=e10_open hs
 refine Calls.mono (r10_Evict hs hx) fun e w' ⟨he,hs⟩=>⟨_,he,_,_,aRes (aEvict x).2,rfl,?_,e10_shut (aEvict_law hx).1 hs⟩
 obtain ⟨h1,h2,h3,h4⟩:=aEvict_law hx
 cases ho:(aEvict x).1.2 with
 | true=>exact EvR.of_perm hx.eok (h3 ho)
 | false=>
  rw [ho] at h2
  rw [(h4 ho).1]
  exact EvR.none hx.eok (by have:=of_decide_eq_false h2.symm; rw [<- aRes_eq]; omega)
theorem q13_New (hs:Sat W w L) {r:Int}:Rts Tryz.prog 99 #[.int .i64 r] w fun v w'=>∃ b,v = .pointer (some ⟨b,0,none⟩) /\ Sat W w' (e13 b (roomR r) []::L):=by
 refine Calls.mono (r13_New (r:=r) hs) fun e w' ⟨b,he,hs⟩=>⟨_,he,b,rfl,?_⟩
 have hr:=roomR_in r
 exact e13_shut (x:=lirs0) (lOk0 hr.1 hr.2) hs
theorem q13_Room (hs:Sat W w (e13 b c R::M)):Rts Tryz.prog 77 #[.pointer (some ⟨b,0,none⟩)] w fun v w'=>v = .int .i64 c /\ Sat W w' (e13 b c R::M):=by
 obtain ⟨x,rfl,hx,hs⟩:=e13_open hs
 exact Calls.mono (r13_Room hs) fun e w' ⟨he,hs⟩=>⟨_,he,rfl,e13_shut hx hs⟩
theorem q13_Has (hs:Sat W w (e13 b c R::M)):Rts Tryz.prog 152 #[.pointer (some ⟨b,0,none⟩),.string key] w fun v w'=>v = .bool (decide (key ∈ R)) /\ Sat W w' (e13 b c R::M):=by
 obtain ⟨x,rfl,hx,hs⟩:=e13_open hs
 have hll:=hx.small
 exact Calls.mono (r13_Has hs hx.w (by omega) (by omega)) fun e w' ⟨he,hs⟩=>⟨_,he,rfl,e13_shut hx hs⟩
theorem q13_Keys (hs:Sat W w (e13 b c R::M)):Rts Tryz.prog 196 #[.pointer (some ⟨b,0,none⟩)] w fun v w'=>∃ l:Sl,v = .slice l.a l.n l.c /\ Sat W w' (recs Rec.str l R::e13 b c R::M):=by
 obtain ⟨x,rfl,hx,hs⟩:=e13_open hs
 have hll:=hx.small
 refine Calls.mono (r13_Keys hs (by omega) (by omega)) fun e w' ⟨l,he,hs⟩=>⟨_,he,l,rfl,?_⟩
 have hs:Sat W w' (liR b c x::recs Rec.str l (lRes x)::M):=by exact Sat.fin hs
 have hs:=e13_shut hx hs
 exact Sat.fin hs
theorem q13_Access (hs:Sat W w (e13 b c R::M)) (hz:key.size < 64):Rts Tryz.prog 125 #[.pointer (some ⟨b,0,none⟩),.string key] w fun v w'=>∃ (hit:Bool) (l:Sl) (g S:BL),v = .tuple #[.bool hit,.slice l.a l.n l.c] /\ AccR c R key hit g S /\ Sat W w' (recs Rec.str l g::e13 b c S::M):=by
 obtain ⟨x,rfl,hx,hs⟩:=e13_open hs
 refine Calls.mono (r13_Access (key:=key) hs hx hz) fun e w' ⟨l,he,hs⟩=>⟨_,he,_,l,(lAcc c x key).1.2,lRes (lAcc c x key).2,rfl,?_,?_⟩
 ·exact ⟨(lAcc_law hx hz).2,(lAcc_law hx hz).1.eok,fun h=>lAcc_calm (by rw [<- lRes_len]; exact h)⟩
 ·have hs:Sat W w' (liR b c (lAcc c x key).2::recs Rec.str l (lAcc c x key).1.2::M):=by exact Sat.fin hs
  have hs:=e13_shut (lAcc_law hx hz).1 hs
  exact Sat.fin hs
theorem q13_Load (hs:Sat W w (e13 b c R::M)) (hz:key.size < 64):Rts Tryz.prog 157 #[.pointer (some ⟨b,0,none⟩),.string key] w fun v w'=>∃ (yes:Bool) (S:BL),v = .bool yes /\ LoadR c R key yes S /\ Sat W w' (e13 b c S::M):=by
 obtain ⟨x,rfl,hx,hs⟩:=e13_open hs
 refine Calls.mono (r13_Load hs hx) fun e w' ⟨he,hs⟩=>⟨_,he,_,lRes (lLoad c x key).2,rfl,?_,e13_shut (lLoad_law hx hz).1 hs⟩
 obtain ⟨h1,h2,h3,h4⟩:=lLoad_law (k:=key) hx hz
 refine ⟨h2,fun z=>?_,h1.eok⟩
 cases ho:(lLoad c x key).1 with
 | true=>rw [h3 ho]; simp
 | false=>rw [h4 ho]; simp
theorem q13_Remove (hs:Sat W w (e13 b c R::M)):Rts Tryz.prog 147 #[.pointer (some ⟨b,0,none⟩),.string key] w fun v w'=>∃ (yes:Bool) (S:BL),v = .bool yes /\ RemR c R key yes S /\ Sat W w' (e13 b c S::M):=by
 obtain ⟨x,rfl,hx,hs⟩:=e13_open hs
 refine Calls.mono (r13_Remove hs hx) fun e w' ⟨he,hs⟩=>⟨_,he,_,lRes (lRem x key).2,rfl,?_,e13_shut (lRem_law hx).1 hs⟩
 obtain ⟨h1,h2,h3,h4⟩:=lRem_law (k:=key) hx
 refine ⟨h2,fun z=>?_,h1.eok⟩
 cases ho:(lRem x key).1 with
 | true=>exact (h3 ho).1 z
 | false=>
  rw [ho] at h2
  have hno:key ∉ lRes x:=of_decide_eq_false h2.symm
  rw [h4 ho]
  exact ⟨fun h=>⟨h,fun e=>hno (e ▸ h)⟩,fun h=>h.1⟩
theorem q13_Evict (hs:Sat W w (e13 b c R::M)):Rts Tryz.prog 120 #[.pointer (some ⟨b,0,none⟩)] w fun v w'=>∃ x yes S,v = .tuple #[.string x,.bool yes] /\ EvR c R x yes S /\ Sat W w' (e13 b c S::M):=by
 obtain ⟨x,rfl,hx,hs⟩:=e13_open hs
 refine Calls.mono (r13_Evict hs hx) fun e w' ⟨he,hs⟩=>⟨_,he,_,_,lRes (lEvict c x).2,rfl,?_,e13_shut (lEvict_all hx).1 hs⟩
 exact (lEvict_all hx).2
end
end Go.Proofs.YtmefopmnjncdbaaGreat
namespace Go.Hb
abbrev cQ (b:Nat) (s1 s2 s3:Sl) (c:Int):HP:=blk b [.slice s1.a s1.n s1.c,.slice s2.a s2.n s2.c,.slice s3.a s3.n s3.c,.int .i64 c]
def e11 (b:Nat) (c:Int) (R:BL):HP:=exH fun (z:(Sl × Sl × Sl) × (BL × BL × BL))=>andH (R = z.2.1 ++ z.2.2.2 /\ EOk c R /\ z.2.2.1.length <= 1024)
 (allH [cQ b z.1.1 z.1.2.1 z.1.2.2 c,recs Rec.str z.1.1 z.2.1,recs Rec.str z.1.2.1 z.2.2.1,recs Rec.str z.1.2.2 z.2.2.2])
section
variable {W w:World} {M L:List HP} {b:Nat} {c:Int} {R:BL}
theorem e11_open (h:Sat W w (e11 b c R::M)):∃ (s1 s2 s3:Sl) (i o a:BL),(R = i ++ a /\ EOk c R /\ o.length <= 1024) /\ ((s1.n = i.length /\ s1.n <= s1.c) /\ (s2.n = o.length /\ s2.n <= s2.c) /\ (s3.n = a.length /\ s3.n <= s3.c)) /\
  Sat W w (cQ b s1 s2 s3 c::recs Rec.str s1 i::recs Rec.str s2 o::recs Rec.str s3 a::M):=by
 obtain ⟨⟨⟨s1,s2,s3⟩,⟨i,o,a⟩⟩,h⟩:=h.openE
 obtain ⟨hp,h⟩:=h.openA
 have h:=h.openL
 have h:Sat W w (cQ b s1 s2 s3 c::recs Rec.str s1 i::recs Rec.str s2 o::recs Rec.str s3 a::M):=h
 exact ⟨s1,s2,s3,i,o,a,hp,⟨recs_len (s:=s1) h,recs_len (s:=s2) h,recs_len (s:=s3) h⟩,h⟩
theorem e11_shut (s1 s2 s3:Sl) {i o a:BL} (hR:R = i ++ a) (hk:EOk c R) (ho:o.length <= 1024) (h:Sat W w (cQ b s1 s2 s3 c::recs Rec.str s1 i::recs Rec.str s2 o::recs Rec.str s3 a::M)):Sat W w (e11 b c R::M):=
 Sat.shutE ((s1,s2,s3),(i,o,a)) (Sat.shutA ⟨hR,hk,ho⟩ (Sat.shutL (Ps:=[_,_,_,_]) h))
theorem e11_cap (h:Sat W w (e11 b c R::M)):w.cell? ⟨b,3,none⟩ = some (.int .i64 c):=by
 obtain ⟨s1,s2,s3,i,o,a,_,_,h⟩:=e11_open h
 exact h.cell (q:=0) rfl
theorem e11_ok (h:Sat W w (e11 b c R::M)):EOk c R:=by
 obtain ⟨s1,s2,s3,i,o,a,h,_,_⟩:=e11_open h
 exact h.2.1
end
end Go.Hb
namespace Go.Proofs.YtmefopmnjncdbaaGreat
open Go.Hb Go.IntWalk
section
variable {W w:World} {L M:List HP} {b:Nat} {c:Int} {R:BL} {key:ByteArray}
theorem q11_New (hs:Sat W w L) {r:Int}:Rts Tryz.prog 100 #[.int .i64 r] w fun v w'=>∃ b,v = .pointer (some ⟨b,0,none⟩) /\ Sat W w' (e11 b (roomR r) []::L):=by
 refine cw f100_ok f100_raw ?_
 refine newB_at hs fun b w hs=>⟨b,rfl,?_⟩
 rw [room_eq] at hs
 have hs:=Sat.nilR Rec.str hs
 have hs:=Sat.nilR Rec.str hs
 have hs:=Sat.nilR Rec.str hs
 exact e11_shut ⟨none,0,0⟩ ⟨none,0,0⟩ ⟨none,0,0⟩ (i:=[]) (o:=[]) (a:=[]) rfl (EOk.nil (roomR_in r).1 (roomR_in r).2) (by simp) (by exact Sat.fin hs)
theorem q11_Room (hs:Sat W w (e11 b c R::M)):Rts Tryz.prog 78 #[.pointer (some ⟨b,0,none⟩)] w fun v w'=>v = .int .i64 c /\ Sat W w' (e11 b c R::M):=by
 refine cw f78_ok f78_raw ?_
 obtain ⟨s1,s2,s3,i,o,a,⟨hR,hk,ho⟩,hl,hs⟩:=e11_open hs
 repeat (first | with_reducible refine nilck_some ?_ | ((with_reducible refine atLd ?_); first | refine ld_b hs ?_ | refine ld_b (x:=⟨_,_,_⟩) hs ?_ | refine ld_r0 hs ?_ | refine ld_r1 hs ?_ | refine ld_rd0 ha_ hs ?_ | refine ld_rd1 ha_ hs ?_) | ((with_reducible refine isSt ?_); first | refine st_b hs fun w hs=>?_ | refine st_r0 hs fun w hs=>?_ | refine st_r1 hs fun w hs=>?_) | ((with_reducible refine isIdx ?_); first | refine idx_s hs fun b_ o_ hs=>?_ | refine idx_rd hs fun b_ o_ ha_=>?_) | with_reducible refine newB_at hs fun b_ w hs=>?_ | ((with_reducible refine isLdS ?_); first | refine ldS_b ?_ | refine ldS_b (x:=⟨_,_,_⟩) ?_ | refine ldS_rs0 hs ?_ | refine ldS_rd0 ha_ ?_) | ((with_reducible refine isKeep ?_); first | refine keep_of hs ?_ | refine keep_imp hs ?_) | with_reducible refine when_om ?_ | with_reducible refine drawW_sat hs fun w hs=>?_)
 exact ⟨rfl,e11_shut s1 s2 s3 hR hk ho (by exact Sat.fin hs)⟩
theorem q11_Len (hs:Sat W w (e11 b c R::M)):Rts Tryz.prog 168 #[.pointer (some ⟨b,0,none⟩)] w fun v w'=>v = .int .i64 (R.length:Int) /\ Sat W w' (e11 b c R::M):=by
 refine cw f168_ok f168_raw ?_
 obtain ⟨s1,s2,s3,i,o,a,⟨hR,hk,ho⟩,hl,hs⟩:=e11_open hs
 have hr:=hk.room; have hc2:=hk.c2
 have hll:R.length = i.length + a.length:=by rw [hR]; simp
 refine drawW_only [cQ b s1 s2 s3 c] hs fun w hs=>?_
 refine nilck_some (ldS_b (x:=s1) (nilck_some (ld_b (x:=s3) hs ?_)))
 refine keep_imp hs ?_
 rw [i64_in _ (by omega)]
 exact ⟨by rw [hl.1.1,hl.2.2.1,hll]; rfl,e11_shut s1 s2 s3 hR hk ho (by exact Sat.fin hs)⟩
theorem q11_Has (hs:Sat W w (e11 b c R::M)):Rts Tryz.prog 153 #[.pointer (some ⟨b,0,none⟩),.string key] w fun v w'=>v = .bool (decide (key ∈ R)) /\ Sat W w' (e11 b c R::M):=by
 refine cw f153_ok f153_raw ?_
 obtain ⟨s1,s2,s3,i,o,a,⟨hR,hk,ho⟩,hl,hs⟩:=e11_open hs
 have hr:=hk.room; have hc2:=hk.c2
 have hll:R.length = i.length + a.length:=by rw [hR]; simp
 refine nilck_some (ld_b (x:=s1) hs ?_)
 refine call1_ret (r11_has (s0:=s1) (xs:=i) hs (by omega)) fun v w ⟨j,hv,hj,hs⟩=>⟨j,hv,?_⟩
 rw [hj]
 with_reducible refine ite_by (fun h1=>?_) (fun h1=>?_)
 ·rw [decide_eq_true (show key ∈ R by rw [hR]; exact List.mem_append_left _ h1)]
  exact ⟨rfl,e11_shut s1 s2 s3 hR hk ho (by exact Sat.fin hs)⟩
 ·refine nilck_some (ld_b (x:=s3) hs ?_)
  refine call1_ret (r11_has (s0:=s3) (xs:=a) hs (by omega)) fun v w ⟨j,hv,hj,hs⟩=>⟨j,hv,?_⟩
  rw [hj]
  have:decide (key ∈ a) = decide (key ∈ R):=by
   rw [decide_eq_decide,hR,List.mem_append]
   exact ⟨.inr,fun h=>h.elim (fun h=>absurd h h1) id⟩
  rw [this]
  exact ⟨rfl,e11_shut s1 s2 s3 hR hk ho (by exact Sat.fin hs)⟩
theorem q11_Evict (hs:Sat W w (e11 b c R::M)):Rts Tryz.prog 121 #[.pointer (some ⟨b,0,none⟩)] w fun v w'=>∃ x yes S,v = .tuple #[.string x,.bool yes] /\ EvR c R x yes S /\ Sat W w' (e11 b c S::M):=by
 refine cw f121_ok f121_raw ?_
 refine call1_ret (q11_Len hs) fun v w ⟨hv,hs⟩=>⟨_,hv,?_⟩
 obtain ⟨s1,s2,s3,i,o,a,⟨hR,hk,ho⟩,hl,hs⟩:=e11_open hs
 have hr:=hk.room; have hc2:=hk.c2; have hc1:=hk.c1
 have hll:R.length = i.length + a.length:=by rw [hR]; simp
 have hni:i.Nodup:=(List.nodup_append.1 (hR ▸ hk.nd)).1
 have hna:a.Nodup:=(List.nodup_append.1 (hR ▸ hk.nd)).2.1
 with_reducible refine ite_by (fun h0=>?_) (fun h0=>?_)
 ·exact ⟨_,_,_,rfl,EvR.none hk (by omega),e11_shut s1 s2 s3 hR hk ho (by exact Sat.fin hs)⟩
 have fin:∀ (w:World) (t:Bool),(t = true -> 0 < i.length) -> (t = false -> 0 < a.length) -> Sat W w (cQ b s1 s2 s3 c::recs Rec.str s1 i::recs Rec.str s2 o::recs Rec.str s3 a::M) ->
   f121_j1 idJ (fun v w'=>∃ x yes S,v = .tuple #[.string x,.bool yes] /\ EvR c R x yes S /\ Sat W w' (e11 b c S::M)) (some ⟨b,0,none⟩) t w:=by
  clear hs
  intro w t ht hf hs
  refine jw f121_j1_raw ?_
  cases t with
  | true=>
   have h0:=ht rfl
   refine ite_true rfl ?_
   refine nilck_some (ld_b (x:=s1) hs ?_)
   refine idx_s hs fun b_ o_ hs=>?_
   refine ld_r0 hs ?_
   rw [hd_getD h0]
   refine nilck_some (ld_b (x:=s1) hs ?_)
   refine call1_ret (r11_cut (s0:=s1) (xs:=i) hs (by omega)) fun v w ⟨l,hv,hs⟩=>⟨_,hv,?_⟩
   rw [gTake_hd hni h0] at hs
   refine nilck_some (st_b hs fun w hs=>?_)
   refine nilck_some (ld_b (x:=s2) hs ?_)
   refine newB_at hs fun nb w hs=>?_
   refine app_one (s:=s2) (a:=hd0 i) hs rfl rfl rfl rfl (by decide) (by omega) fun s5 w hs5 hs=>?_
   refine nilck_some (st_b hs fun w hs=>?_)
   have hp:R.Perm (hd0 i::(i.drop 1 ++ a)):=by
    rw [hR]
    cases i with
    | nil=>simp at h0
    | cons x t=>exact List.Perm.refl _
   have hev:=EvR.of_perm hk hp
   have loop:∀ (m:Nat) (w:World) (s:Sl) (o:BL),o.length <= m + 1 -> o.length <= 1025 -> Sat W w (cQ b l s s3 c::recs Rec.str l (i.drop 1)::recs Rec.str s o::recs Rec.str s3 a::M) ->
     f121_l2 idJ (fun v w'=>∃ x yes S,v = .tuple #[.string x,.bool yes] /\ EvR c R x yes S /\ Sat W w' (e11 b c S::M)) (m + 1) (some ⟨b,0,none⟩) (hd0 i) w:=by
    clear hs
    intro m
    induction m with
    | zero=>
     intro w s o hm ho hs
     rw [f121_l2_raw]
     have hn:=(recs_len (s:=s) hs).1
     refine drawW_only [cQ b l s s3 c] hs fun w hs=>?_
     refine nilck_some (ldS_b (x:=s) (nilck_some (ld_b hs ?_)))
     refine keep_imp hs (when_of (by decide) ?_)
     refine ite_false (decide_eq_false (by split <;> omega)) ?_
     refine jw f121_j3_raw ?_
     exact ⟨_,_,_,rfl,hev,e11_shut l s s3 rfl hev.ok (by omega) hs⟩
    | succ m ih=>
     intro w s o hm ho hs
     rw [f121_l2_raw]
     have hn:=(recs_len (s:=s) hs).1
     refine drawW_only [cQ b l s s3 c] hs fun w hs=>?_
     refine nilck_some (ldS_b (x:=s) (nilck_some (ld_b hs ?_)))
     refine keep_imp hs (when_of (by decide) ?_)
     have hd:0 <= Int.tdiv c 2 /\ Int.tdiv c 2 <= 512:=by rw [Int.tdiv_eq_ediv_of_nonneg (by omega)]; omega
     rw [i64_in _ (by omega)]
     with_reducible refine ite_by (fun h1=>?_) (fun h1=>?_)
     ·have h2:1 < o.length:=by split at h1 <;> omega
      refine nilck_some (ld_b (x:=s) hs ?_)
      refine when_of (by omega) ?_
      refine nilck_some (st_b hs fun w hs=>?_)
      have hs:=cut1 (s:=s) hs (by omega)
      exact ih w ⟨subA s.a (((1:Int)).toNat) s.c 1,s.n - ((1:Int)).toNat,s.c - ((1:Int)).toNat⟩ (o.drop 1) (by simp; omega) (by simp; omega) (by exact Sat.fin hs)
     ·refine jw f121_j3_raw ?_
      exact ⟨_,_,_,rfl,hev,e11_shut l s s3 rfl hev.ok (by split at h1 <;> omega) hs⟩
   exact exM_of _ (loop (o ++ [hd0 i]).length w s5 (o ++ [hd0 i]) (by omega) (by simp; omega) (by exact Sat.fin hs))
  | false=>
   have h0:=hf rfl
   refine ite_false rfl ?_
   refine jw f121_j4_raw ?_
   refine nilck_some (ld_b (x:=s3) hs ?_)
   refine idx_s hs fun b_ o_ hs=>?_
   refine ld_r0 hs ?_
   rw [hd_getD h0]
   refine nilck_some (ld_b (x:=s3) hs ?_)
   refine call1_ret (r11_cut (s0:=s3) (xs:=a) hs (by omega)) fun v w ⟨l,hv,hs⟩=>⟨_,hv,?_⟩
   rw [gTake_hd hna h0] at hs
   refine nilck_some (st_b hs fun w hs=>?_)
   have hp:R.Perm (hd0 a::(i ++ a.drop 1)):=by
    rw [hR]
    cases a with
    | nil=>simp at h0
    | cons x t=>exact List.perm_middle
   have hev:=EvR.of_perm hk hp
   exact ⟨_,_,_,rfl,hev,e11_shut s1 s2 l rfl hev.ok ho (by exact Sat.fin hs)⟩
 refine drawW_only [cQ b s1 s2 s3 c] hs fun w hs=>?_
 refine nilck_some (ldS_b (x:=s1) (nilck_some (ld_b hs ?_)))
 refine keep_imp hs (when_of (by decide) ?_)
 with_reducible refine ite_by (fun h1=>?_) (fun h1=>?_)
 ·exact fin w true (fun _=>by split at h1 <;> omega) (fun h=>by cases h) hs
 ·refine nilck_some (ld_b (x:=s3) hs ?_)
  refine fin w _ (fun h=>?_) (fun h=>?_) hs
  ·rw [beq_iff_eq] at h; omega
  ·rw [beq_eq_false_iff_ne] at h; omega
theorem q11_reclaim (hs:Sat W w (e11 b c R::M)):Rts Tryz.prog 186 #[.pointer (some ⟨b,0,none⟩)] w fun v w'=>∃ (l:Sl) (g S:BL),v = .slice l.a l.n l.c /\ RecR c R g S /\ Sat W w' (recs Rec.str l g::e11 b c S::M):=by
 refine cw f186_ok f186_raw ?_
 refine drawW_only [e11 b c R] hs fun w hs=>?_
 refine nilck_some ?_
 refine ldS_by (k:=.int .i64) c (fun w' h=>by obtain ⟨s1,s2,s3,i,o,a,_,_,h⟩:=e11_open h; exact h.cell (q:=0) rfl) ?_
 refine call1_ret (q11_Len hs) fun v w ⟨hv,hs⟩=>⟨_,hv,keep_imp hs ?_⟩
 with_reducible refine ite_by (fun h1=>?_) (fun h1=>?_)
 ·exact ⟨⟨none,0,0⟩,[],R,rfl,.inl ⟨rfl,rfl,h1⟩,Sat.nilR Rec.str hs⟩
 ·have hk:EOk c R:=by obtain ⟨s1,s2,s3,i,o,a,h,_,_⟩:=e11_open hs; exact h.2.1
  have hc1:=hk.c1
  refine call2_ret (q11_Evict hs) fun v w ⟨x,yes,S,hv,he,hs⟩=>⟨_,_,hv,?_⟩
  refine newB_at hs fun nb w hs=>?_
  have hs:=Sat.blkS (b:=nb) (cs:=[.string x]) (n:=1) Rec.str [x] hs rfl rfl
  have hy:yes = true:=by rw [he.says]; exact decide_eq_true (by omega)
  exact ⟨⟨some ⟨nb,0,none⟩,1,1⟩,[x],S,rfl,.inr ⟨x,rfl,hy ▸ he,h1⟩,hs⟩
theorem q11_Access (hs:Sat W w (e11 b c R::M)) (hz:key.size < 64):Rts Tryz.prog 126 #[.pointer (some ⟨b,0,none⟩),.string key] w fun v w'=>∃ (hit:Bool) (l:Sl) (g S:BL),v = .tuple #[.bool hit,.slice l.a l.n l.c] /\ AccR c R key hit g S /\ Sat W w' (recs Rec.str l g::e11 b c S::M):=by
 refine cw f126_ok f126_raw ?_
 obtain ⟨s1,s2,s3,i,o,a,⟨hR,hk,ho⟩,hl,hs⟩:=e11_open hs
 have hr:=hk.room; have hc2:=hk.c2; have hc1:=hk.c1
 have hll:R.length = i.length + a.length:=by rw [hR]; simp
 have hna:a.Nodup:=(List.nodup_append.1 (hR ▸ hk.nd)).2.1
 have g0:=gTake_len a key
 refine nilck_some (ld_b (x:=s3) hs ?_)
 refine call1_ret (r11_has (s0:=s3) (xs:=a) hs (by omega)) fun v w ⟨j,hv,hj,hs⟩=>⟨j,hv,?_⟩
 rw [hj]
 with_reducible refine ite_by (fun h1=>?_) (fun h1=>?_)
 ·refine nilck_some (ld_b (x:=s3) hs ?_)
  refine call1_ret (r11_cut (s0:=s3) (xs:=a) hs (by omega)) fun v w ⟨l,hv,hs⟩=>⟨_,hv,?_⟩
  refine newB_at hs fun nb w hs=>?_
  refine app_one (s:=l) (a:=key) hs rfl rfl rfl rfl (by decide) (by omega) fun s5 w hs5 hs=>?_
  refine nilck_some (st_b hs fun w hs=>?_)
  have hp:(i ++ (gTake a key ++ [key])).Perm R:=by
   rw [hR]; exact List.Perm.append_left _ (List.perm_append_comm.trans (gTake_perm1 hna h1).symm)
  have ha:=AccR.same hk (by rw [hR]; exact List.mem_append_right _ h1) hp
  have hs:=e11_shut s1 s2 s5 (R:=i ++ (gTake a key ++ [key])) (i:=i) (o:=o) (a:=gTake a key ++ [key]) rfl ha.ok ho (M:=M) (by exact Sat.fin hs)
  exact ⟨true,⟨none,0,0⟩,[],_,rfl,ha,Sat.nilR Rec.str hs⟩
 refine nilck_some (ld_b (x:=s1) hs ?_)
 refine call1_ret (r11_has (s0:=s1) (xs:=i) hs (by omega)) fun v w ⟨j,hv,hj,hs⟩=>⟨j,hv,?_⟩
 rw [hj]
 with_reducible refine ite_by (fun h2=>?_) (fun h2=>?_)
 ·have ha:=AccR.same hk (by rw [hR]; exact List.mem_append_left _ h2) (List.Perm.refl R)
  have hs:=e11_shut s1 s2 s3 hR hk ho (M:=M) (by exact Sat.fin hs)
  exact ⟨true,⟨none,0,0⟩,[],_,rfl,ha,Sat.nilR Rec.str hs⟩
 have hno:key ∉ R:=by rw [hR,List.mem_append]; exact fun h=>h.elim h2 h1
 refine nilck_some (ld_b (x:=s2) hs ?_)
 refine call1_ret (r11_has (s0:=s2) (xs:=o) hs (by omega)) fun v w ⟨j,hv,hj,hs⟩=>⟨j,hv,?_⟩
 rw [hj]
 with_reducible refine ite_by (fun h3=>?_) (fun h3=>?_)
 ·have g1:=gTake_len o key
  refine nilck_some (ld_b (x:=s2) hs ?_)
  refine call1_ret (r11_cut (s0:=s2) (xs:=o) hs (by omega)) fun v w ⟨l,hv,hs⟩=>⟨_,hv,?_⟩
  refine nilck_some (st_b hs fun w hs=>?_)
  have hs:=e11_shut s1 l s3 hR hk (o:=gTake o key) (by omega) (M:=M) (by exact Sat.fin hs)
  refine call1_ret (q11_reclaim hs) fun v w ⟨l,g,S,hv,hrec,hs⟩=>⟨_,hv,?_⟩
  have hs:Sat W w (e11 b c S::recs Rec.str l g::M):=by exact Sat.fin hs
  obtain ⟨s1,s2,s3,i,o,a,⟨hR,hkS,ho⟩,hl,hs⟩:=e11_open hs
  have hr:=hkS.room; have hc2:=hkS.c2
  have hll:S.length = i.length + a.length:=by rw [hR]; simp
  refine nilck_some (ld_b (x:=s3) hs ?_)
  refine newB_at hs fun nb w hs=>?_
  refine app_one (s:=s3) (a:=key) hs rfl rfl rfl rfl (by decide) (by omega) fun s5 w hs5 hs=>?_
  refine nilck_some (st_b hs fun w hs=>?_)
  have ha:=AccR.miss hk hno hz hrec (T:=i ++ (a ++ [key])) (by rw [hR]; exact perm_snoc2)
  have hs:=e11_shut s1 s2 s5 (R:=i ++ (a ++ [key])) (i:=i) (o:=o) (a:=a ++ [key]) rfl ha.ok ho (M:=recs Rec.str l g::M) (by exact Sat.fin hs)
  exact ⟨false,l,g,_,rfl,ha,by exact Sat.fin hs⟩
 ·have hs:=e11_shut s1 s2 s3 hR hk ho (M:=M) (by exact Sat.fin hs)
  refine call1_ret (q11_reclaim hs) fun v w ⟨l,g,S,hv,hrec,hs⟩=>⟨_,hv,?_⟩
  have hs:Sat W w (e11 b c S::recs Rec.str l g::M):=by exact Sat.fin hs
  obtain ⟨s1,s2,s3,i,o,a,⟨hR,hkS,ho⟩,hl,hs⟩:=e11_open hs
  have hr:=hkS.room; have hc2:=hkS.c2
  have hll:S.length = i.length + a.length:=by rw [hR]; simp
  refine nilck_some (ld_b (x:=s1) hs ?_)
  refine newB_at hs fun nb w hs=>?_
  refine app_one (s:=s1) (a:=key) hs rfl rfl rfl rfl (by decide) (by omega) fun s5 w hs5 hs=>?_
  refine nilck_some (st_b hs fun w hs=>?_)
  have ha:=AccR.miss hk hno hz hrec (T:=(i ++ [key]) ++ a) (by rw [hR]; exact perm_snoc1)
  have hs:=e11_shut s5 s2 s3 (R:=(i ++ [key]) ++ a) (i:=i ++ [key]) (o:=o) (a:=a) rfl ha.ok ho (M:=recs Rec.str l g::M) (by exact Sat.fin hs)
  exact ⟨false,l,g,_,rfl,ha,by exact Sat.fin hs⟩
theorem q11_Load (hs:Sat W w (e11 b c R::M)) (hz:key.size < 64):Rts Tryz.prog 158 #[.pointer (some ⟨b,0,none⟩),.string key] w fun v w'=>∃ (yes:Bool) (S:BL),v = .bool yes /\ LoadR c R key yes S /\ Sat W w' (e11 b c S::M):=by
 refine cw f158_ok f158_raw ?_
 have hk:=e11_ok hs
 refine drawW_only [e11 b c R] hs fun w hs=>?_
 refine call1_ret (q11_Has hs) fun v w ⟨hv,hs⟩=>⟨_,hv,keep_imp hs ?_⟩
 with_reducible refine ite_by (fun h1=>?_) (fun h1=>?_)
 ·exact keep_imp hs ⟨false,R,rfl,LoadR.no hk (fun h=>h.1 h1),hs⟩
 refine nilck_some ?_
 refine ldS_by (k:=.int .i64) c (fun w' h=>e11_cap h) ?_
 refine call1_ret (q11_Len hs) fun v w ⟨hv,hs⟩=>⟨_,hv,keep_imp hs ?_⟩
 with_reducible refine ite_by (fun h2=>?_) (fun h2=>?_)
 ·exact ⟨false,R,rfl,LoadR.no hk (fun h=>by have:=h.2; omega),hs⟩
 refine jw f158_j1_raw ?_
 obtain ⟨s1,s2,s3,i,o,a,⟨hR,_,ho⟩,hl,hs⟩:=e11_open hs
 have hr:=hk.room; have hc2:=hk.c2
 have hll:R.length = i.length + a.length:=by rw [hR]; simp
 have g1:=gTake_len o key
 refine nilck_some (ld_b (x:=s2) hs ?_)
 refine call1_ret (r11_cut (s0:=s2) (xs:=o) hs (by omega)) fun v w ⟨l,hv,hs⟩=>⟨_,hv,?_⟩
 refine nilck_some (st_b hs fun w hs=>?_)
 refine nilck_some (ld_b (x:=s3) hs ?_)
 refine newB_at hs fun nb w hs=>?_
 refine app_one (s:=s3) (a:=key) hs rfl rfl rfl rfl (by decide) (by omega) fun s5 w hs5 hs=>?_
 refine nilck_some (st_b hs fun w hs=>?_)
 have ha:=LoadR.yes hk hz h1 (by omega) (S:=i ++ (a ++ [key])) (by rw [hR]; exact perm_snoc2)
 exact ⟨true,_,rfl,ha,e11_shut s1 l s5 (i:=i) (o:=gTake o key) (a:=a ++ [key]) rfl ha.ok (by omega) (by exact Sat.fin hs)⟩
theorem q11_Remove (hs:Sat W w (e11 b c R::M)):Rts Tryz.prog 148 #[.pointer (some ⟨b,0,none⟩),.string key] w fun v w'=>∃ (yes:Bool) (S:BL),v = .bool yes /\ RemR c R key yes S /\ Sat W w' (e11 b c S::M):=by
 refine cw f148_ok f148_raw ?_
 have hk:=e11_ok hs
 refine call1_ret (q11_Has hs) fun v w ⟨hv,hs⟩=>⟨_,hv,?_⟩
 with_reducible refine ite_by (fun h1=>?_) (fun h1=>?_)
 ·exact ⟨false,R,rfl,RemR.no hk h1,hs⟩
 obtain ⟨s1,s2,s3,i,o,a,⟨hR,_,ho⟩,hl,hs⟩:=e11_open hs
 have hr:=hk.room; have hc2:=hk.c2
 have hll:R.length = i.length + a.length:=by rw [hR]; simp
 refine drawW_only [cQ b s1 s2 s3 c] hs fun w hs=>?_
 refine nilck_some (ldS_b (x:=s1) (nilck_some (ldS_b (x:=s3) ?_)))
 refine call1_ret (r11_cut (s0:=s1) (xs:=i) hs (by omega)) fun v w ⟨k1,hv,hs⟩=>⟨_,hv,keep_imp hs ?_⟩
 refine call1_ret (r11_cut (s0:=s3) (xs:=a) hs (by omega)) fun v w ⟨k3,hv,hs⟩=>⟨_,hv,?_⟩
 refine nilck_some (st_b hs fun w hs=>?_)
 refine nilck_some (st_b hs fun w hs=>?_)
 have ha:RemR c R key true (gTake i key ++ gTake a key):=by subst hR; exact RemR.cut2 hk h1
 exact ⟨true,_,rfl,ha,e11_shut k1 s2 k3 rfl ha.ok ho (by exact Sat.fin hs)⟩
theorem q11_Keys (hs:Sat W w (e11 b c R::M)):Rts Tryz.prog 197 #[.pointer (some ⟨b,0,none⟩)] w fun v w'=>∃ l:Sl,v = .slice l.a l.n l.c /\ Sat W w' (recs Rec.str l R::e11 b c R::M):=by
 refine cw f197_ok f197_raw ?_
 obtain ⟨s1,s2,s3,i,o,a,⟨hR,hk,ho⟩,hl,hs⟩:=e11_open hs
 have hr:=hk.room; have hc2:=hk.c2
 have hll:R.length = i.length + a.length:=by rw [hR]; simp
 refine drawW_only [cQ b s1 s2 s3 c] hs fun w hs=>?_
 refine nilck_some (ldS_b (x:=s1) (nilck_some (ldS_b (x:=s3) ?_)))
 refine newB_at hs fun nb w hs=>keep_imp hs ?_
 refine app_own (b:=nb) (cs:=[]) (rows:=[]) (new:=i) hs Rec.str rfl rfl (rd_rdb (s:=s1) hs) hl.1.1 (okC_flat _) rfl (by decide) (by simp; omega) fun s5 w h5 hs=>?_
 have hs:Sat W w (recs Rec.str s5 i::cQ b s1 s2 s3 c::recs Rec.str s1 i::recs Rec.str s2 o::recs Rec.str s3 a::M):=hs
 refine keep_imp hs ?_
 refine app_by (s:=s5) (new:=a) hs (rd_rdb (s:=s3) hs) hl.2.2.1 (okC_flat _) rfl (by decide) (by omega) fun s6 w hs6 hs=>?_
 have hs:Sat W w (recs Rec.str s6 R::cQ b s1 s2 s3 c::recs Rec.str s1 i::recs Rec.str s2 o::recs Rec.str s3 a::M):=by rw [hR]; exact hs
 have hs:=e11_shut s1 s2 s3 hR hk ho (M:=recs Rec.str s6 R::M) (by exact Sat.fin hs)
 exact ⟨s6,rfl,by exact Sat.fin hs⟩
end
end Go.Proofs.YtmefopmnjncdbaaGreat
