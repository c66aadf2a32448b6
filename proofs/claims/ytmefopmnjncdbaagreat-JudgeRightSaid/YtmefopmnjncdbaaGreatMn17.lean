import Derived.Test.YtmefopmnjncdbaaGreatMn16
set_option linter.unusedVariables false
set_option linter.unusedSimpArgs false
set_option linter.unnecessarySimpa false
set_option linter.unusedSectionVars false
set_option maxRecDepth 100000
namespace Go.Hb
abbrev cT (b:Nat) (s1 s2 s3:Sl) (kb db:Nat) (c:Int):HP:=blk b [.slice s1.a s1.n s1.c,.slice s2.a s2.n s2.c,.slice s3.a s3.n s3.c,.pointer (some ⟨kb,0,none⟩),.pointer (some ⟨db,0,none⟩),.int .i64 c]
def t14 (b:Nat) (c:Int) (w a p:BL):HP:=exH fun (z:Sl × Sl × Sl × Nat × Nat)=>allH [cT b z.1 z.2.1 z.2.2.1 z.2.2.2.1 z.2.2.2.2 c,recs Rec.str z.1 w,recs Rec.str z.2.1 a,recs Rec.str z.2.2.1 p,skR z.2.2.2.1,doR z.2.2.2.2]
def tWin (c:Int):Int:=max 1 (c / 8)
def tMain (c:Int):Int:=c - tWin c
structure TRows (c:Int) (R w a p:BL):Prop where
 eq:R = w ++ (a ++ p)
 ok:EOk c R
 win:(w.length:Int) <= tWin c
 main:(a.length:Int) + p.length <= tMain c
def e14 (b:Nat) (c:Int) (R:BL):HP:=exH fun (z:BL × BL × BL)=>andH (TRows c R z.1 z.2.1 z.2.2) (t14 b c z.1 z.2.1 z.2.2)
theorem tWin_in {c:Int} (h1:1 <= c) (h2:c <= 1024):1 <= tWin c /\ tWin c <= c /\ 0 <= tMain c /\ tMain c <= 1024 /\ tWin c + tMain c = c:=by unfold tMain tWin; omega
section
variable {W w0:World} {M L:List HP} {b:Nat} {c:Int} {R w a p:BL}
theorem t14_open (h:Sat W w0 (t14 b c w a p::M)):∃ (s1 s2 s3:Sl) (kb db:Nat),((s1.n = w.length /\ s1.n <= s1.c) /\ (s2.n = a.length /\ s2.n <= s2.c) /\ (s3.n = p.length /\ s3.n <= s3.c)) /\
  Sat W w0 (cT b s1 s2 s3 kb db c::recs Rec.str s1 w::recs Rec.str s2 a::recs Rec.str s3 p::skR kb::doR db::M):=by
 obtain ⟨⟨s1,s2,s3,kb,db⟩,h⟩:=h.openE
 have h:=h.openL
 have h:Sat W w0 (cT b s1 s2 s3 kb db c::recs Rec.str s1 w::recs Rec.str s2 a::recs Rec.str s3 p::skR kb::doR db::M):=h
 exact ⟨s1,s2,s3,kb,db,⟨recs_len (s:=s1) h,recs_len (s:=s2) h,recs_len (s:=s3) h⟩,h⟩
theorem t14_shut (s1 s2 s3:Sl) {kb db:Nat} (h:Sat W w0 (cT b s1 s2 s3 kb db c::recs Rec.str s1 w::recs Rec.str s2 a::recs Rec.str s3 p::skR kb::doR db::M)):Sat W w0 (t14 b c w a p::M):=
 Sat.shutE (s1,s2,s3,kb,db) (Sat.shutL (Ps:=[_,_,_,_,_,_]) h)
theorem e14_open (h:Sat W w0 (e14 b c R::M)):∃ w a p,TRows c R w a p /\ Sat W w0 (t14 b c w a p::M):=by
 obtain ⟨⟨w,a,p⟩,h⟩:=h.openE
 obtain ⟨hp,h⟩:=h.openA
 exact ⟨w,a,p,hp,h⟩
theorem e14_shut (ht:TRows c R w a p) (h:Sat W w0 (t14 b c w a p::M)):Sat W w0 (e14 b c R::M):=Sat.shutE (w,a,p) (Sat.shutA ht h)
theorem TRows.len (h:TRows c R w a p):R.length = w.length + (a.length + p.length):=by rw [h.eq]; simp
theorem t14_cap (h:Sat W w0 (t14 b c w a p::M)):w0.cell? ⟨b,5,none⟩ = some (.int .i64 c):=by
 obtain ⟨s1,s2,s3,kb,db,_,h⟩:=t14_open h
 exact h.cell (q:=0) rfl
theorem e14_cap (h:Sat W w0 (e14 b c R::M)):w0.cell? ⟨b,5,none⟩ = some (.int .i64 c):=by
 obtain ⟨w,a,p,_,h⟩:=e14_open h
 exact t14_cap h
theorem e14_ok (h:Sat W w0 (e14 b c R::M)):EOk c R:=by
 obtain ⟨w,a,p,ht,h⟩:=e14_open h
 exact ht.ok
end
end Go.Hb
namespace Go.Proofs.YtmefopmnjncdbaaGreat
open Go.Hb Go.IntWalk
section
variable {W w0:World} {L M:List HP} {b:Nat} {c:Int} {R w a p:BL} {key:ByteArray}
theorem q14_New (hs:Sat W w0 L) {r:Int}:Rts Tryz.prog 101 #[.int .i64 r] w0 fun v w'=>∃ b,v = .pointer (some ⟨b,0,none⟩) /\ Sat W w' (e14 b (roomR r) []::L):=by
 refine cw f101_ok f101_raw ?_
 rw [room_eq]
 refine call1_ret (r7_New hs) fun v w0 ⟨kb,hv,hs⟩=>⟨_,hv,?_⟩
 refine call1_ret (r8_New hs) fun v w0 ⟨db,hv,hs⟩=>⟨_,hv,?_⟩
 refine newB_at hs fun b w0 hs=>⟨b,rfl,?_⟩
 have hs:=Sat.nilR Rec.str hs
 have hs:=Sat.nilR Rec.str hs
 have hs:=Sat.nilR Rec.str hs
 have hr:=roomR_in r
 have hw:=tWin_in hr.1 hr.2
 exact e14_shut (w:=[]) (a:=[]) (p:=[]) ⟨rfl,EOk.nil hr.1 hr.2,by simp; omega,by simp; omega⟩ (t14_shut ⟨none,0,0⟩ ⟨none,0,0⟩ ⟨none,0,0⟩ (kb:=kb) (db:=db) (by exact Sat.fin hs))
theorem q14_Room (hs:Sat W w0 (e14 b c R::M)):Rts Tryz.prog 79 #[.pointer (some ⟨b,0,none⟩)] w0 fun v w'=>v = .int .i64 c /\ Sat W w' (e14 b c R::M):=by
 refine cw f79_ok f79_raw ?_
 obtain ⟨w,a,p,ht,hs⟩:=e14_open hs
 obtain ⟨s1,s2,s3,kb,db,hl,hs⟩:=t14_open hs
 repeat (first | with_reducible refine nilck_some ?_ | ((with_reducible refine atLd ?_); first | refine ld_b hs ?_ | refine ld_b (x:=⟨_,_,_⟩) hs ?_ | refine ld_r0 hs ?_ | refine ld_r1 hs ?_ | refine ld_rd0 ha_ hs ?_ | refine ld_rd1 ha_ hs ?_) | ((with_reducible refine isSt ?_); first | refine st_b hs fun w hs=>?_ | refine st_r0 hs fun w hs=>?_ | refine st_r1 hs fun w hs=>?_) | ((with_reducible refine isIdx ?_); first | refine idx_s hs fun b_ o_ hs=>?_ | refine idx_rd hs fun b_ o_ ha_=>?_) | with_reducible refine newB_at hs fun b_ w hs=>?_ | ((with_reducible refine isLdS ?_); first | refine ldS_b ?_ | refine ldS_b (x:=⟨_,_,_⟩) ?_ | refine ldS_rs0 hs ?_ | refine ldS_rd0 ha_ ?_) | ((with_reducible refine isKeep ?_); first | refine keep_of hs ?_ | refine keep_imp hs ?_) | with_reducible refine when_om ?_ | with_reducible refine drawW_sat hs fun w hs=>?_)
 exact ⟨rfl,e14_shut ht (t14_shut s1 s2 s3 (by exact Sat.fin hs))⟩
theorem q14_Len (hs:Sat W w0 (e14 b c R::M)):Rts Tryz.prog 207 #[.pointer (some ⟨b,0,none⟩)] w0 fun v w'=>v = .int .i64 (R.length:Int) /\ Sat W w' (e14 b c R::M):=by
 refine cw f207_ok f207_raw ?_
 obtain ⟨w,a,p,ht,hs⟩:=e14_open hs
 obtain ⟨s1,s2,s3,kb,db,hl,hs⟩:=t14_open hs
 have hr:=ht.ok.room; have hc2:=ht.ok.c2; have hll:=ht.len
 refine drawW_only [cT b s1 s2 s3 kb db c] hs fun w0 hs=>?_
 refine nilck_some (ldS_b (x:=s1) (nilck_some (ldS_b (x:=s2) (nilck_some (ld_b (x:=s3) hs ?_)))))
 refine keep_imp hs ?_
 rw [i64_in ((s1.n:Int) + s2.n) (by omega),i64_in _ (by omega)]
 exact ⟨by rw [hl.1.1,hl.2.1.1,hl.2.2.1,hll]; congr 1; omega,e14_shut ht (t14_shut s1 s2 s3 (by exact Sat.fin hs))⟩
theorem q14_Has (hs:Sat W w0 (e14 b c R::M)):Rts Tryz.prog 154 #[.pointer (some ⟨b,0,none⟩),.string key] w0 fun v w'=>v = .bool (decide (key ∈ R)) /\ Sat W w' (e14 b c R::M):=by
 refine cw f154_ok f154_raw ?_
 obtain ⟨w,a,p,ht,hs⟩:=e14_open hs
 obtain ⟨s1,s2,s3,kb,db,hl,hs⟩:=t14_open hs
 have hr:=ht.ok.room; have hc2:=ht.ok.c2; have hll:=ht.len
 have hR:=ht.eq
 refine nilck_some (ld_b (x:=s1) hs ?_)
 refine call1_ret (r14_has (s0:=s1) (xs:=w) hs (by omega)) fun v w0 ⟨j,hv,hj,hs⟩=>⟨j,hv,?_⟩
 rw [hj]
 with_reducible refine ite_by (fun h1=>?_) (fun h1=>?_)
 ·rw [decide_eq_true (show key ∈ R by rw [hR]; exact List.mem_append_left _ h1)]
  exact ⟨rfl,e14_shut ht (t14_shut s1 s2 s3 (by exact Sat.fin hs))⟩
 refine nilck_some (ld_b (x:=s2) hs ?_)
 refine call1_ret (r14_has (s0:=s2) (xs:=a) hs (by omega)) fun v w0 ⟨j,hv,hj,hs⟩=>⟨j,hv,?_⟩
 rw [hj]
 with_reducible refine ite_by (fun h2=>?_) (fun h2=>?_)
 ·rw [decide_eq_true (show key ∈ R by rw [hR]; exact List.mem_append_right _ (List.mem_append_left _ h2))]
  exact ⟨rfl,e14_shut ht (t14_shut s1 s2 s3 (by exact Sat.fin hs))⟩
 refine nilck_some (ld_b (x:=s3) hs ?_)
 refine call1_ret (r14_has (s0:=s3) (xs:=p) hs (by omega)) fun v w0 ⟨j,hv,hj,hs⟩=>⟨j,hv,?_⟩
 rw [hj]
 have:decide (key ∈ p) = decide (key ∈ R):=by
  rw [decide_eq_decide,hR,List.mem_append,List.mem_append]
  exact ⟨fun h=>.inr (.inr h),fun h=>h.elim (fun h=>absurd h h1) fun h=>h.elim (fun h=>absurd h h2) id⟩
 rw [this]
 exact ⟨rfl,e14_shut ht (t14_shut s1 s2 s3 (by exact Sat.fin hs))⟩
theorem q14_window {s1 s2 s3:Sl} {kb db:Nat} (hc1:1 <= c) (hc2:c <= 1024) (hs:Sat W w0 (cT b s1 s2 s3 kb db c::M)):Rts Tryz.prog 191 #[.pointer (some ⟨b,0,none⟩)] w0 fun v w'=>v = .int .i64 (tWin c) /\ Sat W w' (cT b s1 s2 s3 kb db c::M):=by
 refine cw f191_ok f191_raw ?_
 refine nilck_some (ld_b hs ?_)
 refine when_of (by decide) ?_
 rw [Int.tdiv_eq_ediv_of_nonneg (by omega),i64_in _ (by omega)]
 refine ⟨?_,hs⟩
 congr 1
 unfold tWin
 split <;> omega
theorem q14_main {s1 s2 s3:Sl} {kb db:Nat} (hc1:1 <= c) (hc2:c <= 1024) (hs:Sat W w0 (cT b s1 s2 s3 kb db c::M)):Rts Tryz.prog 208 #[.pointer (some ⟨b,0,none⟩)] w0 fun v w'=>v = .int .i64 (tMain c) /\ Sat W w' (cT b s1 s2 s3 kb db c::M):=by
 refine cw f208_ok f208_raw ?_
 have hw:=tWin_in hc1 hc2
 refine drawW_only [cT b s1 s2 s3 kb db c] hs fun w0 hs=>?_
 refine nilck_some (ldS_b ?_)
 refine call1_ret (q14_window hc1 hc2 hs) fun v w0 ⟨hv,hs⟩=>⟨_,hv,keep_imp hs ?_⟩
 rw [i64_in _ (by omega)]
 exact ⟨rfl,hs⟩
theorem q14_note (hs:Sat W w0 (t14 b c w a p::M)) (hz:key.size < 64):Rts Tryz.prog 187 #[.pointer (some ⟨b,0,none⟩),.string key] w0 fun v w'=>v = .tuple #[] /\ Sat W w' (t14 b c w a p::M):=by
 refine cw f187_ok f187_raw ?_
 obtain ⟨s1,s2,s3,kb,db,hl,hs⟩:=t14_open hs
 refine nilck_some (ld_b hs ?_)
 have hs:Sat W w0 (doR db::cT b s1 s2 s3 kb db c::recs Rec.str s1 w::recs Rec.str s2 a::recs Rec.str s3 p::skR kb::M):=by exact Sat.fin hs
 refine call1_ret (r8_Add hs hz) fun v w0 ⟨t,hv,hs⟩=>⟨_,hv,?_⟩
 refine ite_cases (fun _=>?_) (fun _=>?_)
 ·exact ⟨rfl,t14_shut s1 s2 s3 (kb:=kb) (db:=db) (by exact Sat.fin hs)⟩
 refine nilck_some (ld_b hs ?_)
 have hs:Sat W w0 (skR kb::cT b s1 s2 s3 kb db c::recs Rec.str s1 w::recs Rec.str s2 a::recs Rec.str s3 p::doR db::M):=by exact Sat.fin hs
 obtain ⟨s,l,n,m,hl',hsn,hs⟩:=sk_open hs
 refine nilck_some (ld_b hs ?_)
 refine nilck_some (ld_b hs ?_)
 have hs:=sk_shut hl' hs
 refine call0_ret (r7_Add hs hz) fun v w0 ⟨hv,hs⟩=>⟨hv,?_⟩
 refine nilck_some (ld_b hs ?_)
 obtain ⟨s,l,n,m,hl',hsn,hs⟩:=sk_open hs
 refine nilck_some (ld_b hs ?_)
 have hs:=sk_shut hl' hs
 refine ite_cases (fun _=>?_) (fun _=>?_)
 ·refine nilck_some (ld_b hs ?_)
  have hs:Sat W w0 (doR db::cT b s1 s2 s3 kb db c::recs Rec.str s1 w::recs Rec.str s2 a::recs Rec.str s3 p::skR kb::M):=by exact Sat.fin hs
  refine call0_ret (r8_Clear hs) fun v w0 ⟨hv,hs⟩=>⟨hv,rfl,?_⟩
  exact t14_shut s1 s2 s3 (kb:=kb) (db:=db) (by exact Sat.fin hs)
 ·exact ⟨rfl,t14_shut s1 s2 s3 (kb:=kb) (db:=db) (by exact Sat.fin hs)⟩
theorem q14_often (hs:Sat W w0 (t14 b c w a p::M)) (hz:key.size < 64):Rts Tryz.prog 213 #[.pointer (some ⟨b,0,none⟩),.string key] w0 fun v w'=>∃ n:Int,v = .int .i64 n /\ Sat W w' (t14 b c w a p::M):=by
 refine cw f213_ok f213_raw ?_
 obtain ⟨s1,s2,s3,kb,db,hl,hs⟩:=t14_open hs
 refine nilck_some (ld_b hs ?_)
 have hs:Sat W w0 (skR kb::cT b s1 s2 s3 kb db c::recs Rec.str s1 w::recs Rec.str s2 a::recs Rec.str s3 p::doR db::M):=by exact Sat.fin hs
 obtain ⟨s,l,n,m,hl',hsn,hs⟩:=sk_open hs
 refine call1_ret (r7_Count hl' hsn.1 hs hz) fun v w0 ⟨x,hv,hs⟩=>⟨_,hv,?_⟩
 have hs:=sk_shut hl' hs
 refine nilck_some (ld_b hs ?_)
 have hs:Sat W w0 (doR db::cT b s1 s2 s3 kb db c::recs Rec.str s1 w::recs Rec.str s2 a::recs Rec.str s3 p::skR kb::M):=by exact Sat.fin hs
 refine call1_ret (r8_Has hs hz) fun v w0 ⟨t,hv,hs⟩=>⟨_,hv,?_⟩
 refine ite_cases (fun _=>?_) (fun _=>?_)
 ·exact ⟨_,rfl,t14_shut s1 s2 s3 (kb:=kb) (db:=db) (by exact Sat.fin hs)⟩
 ·exact ⟨_,rfl,t14_shut s1 s2 s3 (kb:=kb) (db:=db) (by exact Sat.fin hs)⟩
theorem perm_main (h0:0 < p.length):((a ++ [hd0 p]) ++ p.drop 1).Perm (a ++ p):=by
 cases p with
 | nil=>simp at h0
 | cons x t=>rw [List.append_assoc]; exact List.Perm.refl _
theorem q14_promote (hc1:1 <= c) (hc2:c <= 1024) (hk:key ∈ a) (hn:(a ++ p).Nodup) (hl0:a.length + p.length <= 1024) (hs:Sat W w0 (t14 b c w a p::M)):Rts Tryz.prog 190 #[.pointer (some ⟨b,0,none⟩),.string key] w0 fun v w'=>v = .tuple #[] /\ ∃ a' p',(a' ++ p').Perm (a ++ p) /\ Sat W w' (t14 b c w a' p'::M):=by
 refine cw f190_ok f190_raw ?_
 obtain ⟨s1,s2,s3,kb,db,hl,hs⟩:=t14_open hs
 have hw:=tWin_in hc1 hc2
 refine nilck_some (ld_b (x:=s2) hs ?_)
 refine call1_ret (r14_cut (s0:=s2) (xs:=a) hs (by omega)) fun v w0 ⟨l,hv,hs⟩=>⟨_,hv,?_⟩
 refine nilck_some (st_b hs fun w0 hs=>?_)
 refine nilck_some (ld_b (x:=s3) hs ?_)
 refine newB_at hs fun nb w0 hs=>?_
 refine app_one (s:=s3) (a:=key) hs rfl rfl rfl rfl (by decide) (by omega) fun s5 w0 hs5 hs=>?_
 refine nilck_some (st_b hs fun w0 hs=>?_)
 have hs:Sat W w0 (t14 b c w (gTake a key) (p ++ [key])::M):=t14_shut s1 l s5 (kb:=kb) (db:=db) (by exact Sat.fin hs)
 have hna:a.Nodup:=(List.nodup_append.1 hn).1
 have hp0:(gTake a key ++ (p ++ [key])).Perm (a ++ p):=by
  have h1:=gTake_perm1 hna hk
  exact (perm_snoc2 (k:=key) (i:=gTake a key) (a:=p)).trans (h1.append_right p).symm
 have loop:∀ (m:Nat) (w0:World) (a' p':BL),p'.length <= m -> (a' ++ p').Perm (a ++ p) -> Sat W w0 (t14 b c w a' p'::M) ->
   f190_l1 idJ (fun v w'=>v = .tuple #[] /\ ∃ a' p',(a' ++ p').Perm (a ++ p) /\ Sat W w' (t14 b c w a' p'::M)) (m + 1) (some ⟨b,0,none⟩) w0:=by
  clear hs hl
  intro m
  induction m with
  | zero=>
   intro w0 a' p' hm hp hs
   rw [f190_l1_raw]
   obtain ⟨s1,s2,s3,kb,db,hl,hs⟩:=t14_open hs
   refine drawW_only [cT b s1 s2 s3 kb db c] hs fun w0 hs=>?_
   refine nilck_some (ldS_b (x:=s3) ?_)
   refine call1_ret (q14_main hc1 hc2 hs) fun v w0 ⟨hv,hs⟩=>⟨_,hv,keep_imp hs (when_of (by decide) ?_)⟩
   rw [i64_in (tMain c * 4) (by omega),Int.tdiv_eq_ediv_of_nonneg (by omega),i64_in _ (by omega)]
   refine ite_false (decide_eq_false (by omega)) ?_
   exact ⟨rfl,a',p',hp,t14_shut s1 s2 s3 hs⟩
  | succ m ih=>
   intro w0 a' p' hm hp hs
   rw [f190_l1_raw]
   obtain ⟨s1,s2,s3,kb,db,hl,hs⟩:=t14_open hs
   have hpl:=hp.length_eq
   simp only [List.length_append] at hpl
   refine drawW_only [cT b s1 s2 s3 kb db c] hs fun w0 hs=>?_
   refine nilck_some (ldS_b (x:=s3) ?_)
   refine call1_ret (q14_main hc1 hc2 hs) fun v w0 ⟨hv,hs⟩=>⟨_,hv,keep_imp hs (when_of (by decide) ?_)⟩
   rw [i64_in (tMain c * 4) (by omega),Int.tdiv_eq_ediv_of_nonneg (by omega),i64_in _ (by omega)]
   with_reducible refine ite_by (fun h1=>?_) (fun h1=>?_)
   ·have h0:0 < p'.length:=by omega
    have hnp:p'.Nodup:=(List.nodup_append.1 (hp.nodup_iff.2 hn)).2.1
    refine nilck_some (ld_b (x:=s3) hs ?_)
    refine idx_s hs fun b_ o_ hs=>?_
    refine ld_r0 hs ?_
    rw [hd_getD h0]
    refine nilck_some (ld_b (x:=s3) hs ?_)
    refine call1_ret (r14_cut (s0:=s3) (xs:=p') hs (by omega)) fun v w0 ⟨l,hv,hs⟩=>⟨_,hv,?_⟩
    rw [gTake_hd hnp h0] at hs
    refine nilck_some (st_b hs fun w0 hs=>?_)
    refine nilck_some (ld_b (x:=s2) hs ?_)
    refine newB_at hs fun nb w0 hs=>?_
    refine app_one (s:=s2) (a:=hd0 p') hs rfl rfl rfl rfl (by decide) (by omega) fun s5 w0 hs5 hs=>?_
    refine nilck_some (st_b hs fun w0 hs=>?_)
    exact ih w0 (a' ++ [hd0 p']) (p'.drop 1) (by simp; omega) ((perm_main h0).trans hp) (t14_shut s1 s5 l (kb:=kb) (db:=db) (by exact Sat.fin hs))
   ·exact ⟨rfl,a',p',hp,t14_shut s1 s2 s3 hs⟩
 exact exM_of _ (loop _ w0 _ _ (Nat.le_refl _) hp0 hs)
def AdmR (c:Int) (w a p g a' p':BL):Prop:=
 (g = [] /\ a' = a ++ [hd0 w] /\ p' = p /\ (a.length:Int) + p.length < tMain c) \/ (¬ (a.length:Int) + p.length < tMain c /\ ∃ v,g = [v] /\ (v::(a' ++ p')).Perm (hd0 w::(a ++ p)) /\ (v = hd0 w \/ v ∈ a ++ p))
theorem perm_out {x y:ByteArray} {a p:BL} (hn:(a ++ p).Nodup) (hy:y ∈ a ++ p):(y::((gTake a y ++ [x]) ++ gTake p y)).Perm (x::(a ++ p)):=by
 have h1:=gTake_perm1 hn hy
 rw [gTake_app] at h1
 exact (((perm_snoc1 (k:=x) (i:=gTake a y) (a:=gTake p y)).cons y).trans (List.Perm.swap x y _)).trans (h1.symm.cons x)
set_option maxRecDepth 100000 in
theorem q14_admit (hc1:1 <= c) (hc2:c <= 1024) (hw0:0 < w.length) (hn:(w ++ (a ++ p)).Nodup) (hsm:∀ k ∈ w ++ (a ++ p),k.size < 64) (hlw:w.length <= 2000) (hl0:(a.length:Int) + p.length <= tMain c) (hs:Sat W w0 (t14 b c w a p::M)) :
  Rts Tryz.prog 192 #[.pointer (some ⟨b,0,none⟩)] w0 fun v w'=>∃ (l:Sl) (g a' p':BL),v = .slice l.a l.n l.c /\ AdmR c w a p g a' p' /\ Sat W w' (t14 b c (w.drop 1) a' p'::recs Rec.str l g::M):=by
 refine cw f192_ok f192_raw ?_
 have hw:=tWin_in hc1 hc2
 have hnw:w.Nodup:=(List.nodup_append.1 hn).1
 have hnap:(a ++ p).Nodup:=(List.nodup_append.1 hn).2.1
 obtain ⟨s1,s2,s3,kb,db,hl,hs⟩:=t14_open hs
 refine nilck_some (ld_b (x:=s1) hs ?_)
 refine idx_s hs fun b_ o_ hs=>?_
 refine ld_r0 hs ?_
 rw [hd_getD hw0]
 refine nilck_some (ld_b (x:=s1) hs ?_)
 refine call1_ret (r14_cut (s0:=s1) (xs:=w) hs (by omega)) fun v w0 ⟨k1,hv,hs⟩=>⟨_,hv,?_⟩
 rw [gTake_hd hnw hw0] at hs
 refine nilck_some (st_b hs fun w0 hs=>?_)
 have hs:Sat W w0 (cT b k1 s2 s3 kb db c::recs Rec.str k1 (w.drop 1)::recs Rec.str s2 a::recs Rec.str s3 p::skR kb::doR db::M):=by exact Sat.fin hs
 refine drawW_only [cT b k1 s2 s3 kb db c] hs fun w0 hs=>?_
 refine nilck_some (ldS_b (x:=s2) (nilck_some (ldS_b (x:=s3) ?_)))
 refine call1_ret (q14_main hc1 hc2 hs) fun v w0 ⟨hv,hs⟩=>⟨_,hv,keep_imp hs ?_⟩
 rw [i64_in ((s2.n:Int) + s3.n) (by omega)]
 with_reducible refine ite_by (fun h1=>?_) (fun h1=>?_)
 ·refine nilck_some (ld_b (x:=s2) hs ?_)
  refine newB_at hs fun nb w0 hs=>?_
  refine app_one (s:=s2) (a:=hd0 w) hs rfl rfl rfl rfl (by decide) (by omega) fun s5 w0 hs5 hs=>?_
  refine nilck_some (st_b hs fun w0 hs=>?_)
  have hs:=Sat.nilR Rec.str hs
  exact ⟨⟨none,0,0⟩,[],a ++ [hd0 w],p,rfl,.inl ⟨rfl,rfl,rfl,by omega⟩,t14_shut k1 s5 s3 (kb:=kb) (db:=db) (by exact Sat.fin hs)⟩
 have hno:¬ (a.length:Int) + p.length < tMain c:=by omega
 refine drawW_only [cT b k1 s2 s3 kb db c] hs fun w0 hs=>?_
 refine nilck_some (ldS_b (x:=s2) (nilck_some (ld_b (x:=s3) hs ?_)))
 refine keep_imp hs ?_
 rw [i64_in ((s2.n:Int) + s3.n) (by omega)]
 have self:∀ (w0:World),Sat W w0 (t14 b c (w.drop 1) a p::M) -> newB [.string (hd0 w)] 9 (fun b_33 w'=>∃ (l:Sl) (g a' p':BL),Value.slice (some ⟨b_33,0,none⟩) 1 1 = .slice l.a l.n l.c /\ AdmR c w a p g a' p' /\ Sat W w' (t14 b c (w.drop 1) a' p'::recs Rec.str l g::M)) w0:=by
  clear hs
  intro w0 hs
  refine newB_at hs fun nb w0 hs=>?_
  have hs:=Sat.blkS (b:=nb) (cs:=[.string (hd0 w)]) (n:=1) Rec.str [hd0 w] hs rfl rfl
  exact ⟨⟨some ⟨nb,0,none⟩,1,1⟩,[hd0 w],a,p,rfl,.inr ⟨hno,hd0 w,rfl,List.Perm.refl _,.inl rfl⟩,by exact Sat.fin hs⟩
 with_reducible refine ite_by (fun h2=>?_) (fun h2=>?_)
 ·exact self w0 (t14_shut k1 s2 s3 hs)
 have j1:∀ (w0:World) (s:Sl) (row:BL),0 < row.length -> (∀ x ∈ row,x ∈ a ++ p) -> (row = a /\ s = s2 \/ row = p /\ s = s3) -> Sat W w0 (cT b k1 s2 s3 kb db c::recs Rec.str k1 (w.drop 1)::recs Rec.str s2 a::recs Rec.str s3 p::skR kb::doR db::M) ->
   f192_j1 idJ (fun v w'=>∃ (l:Sl) (g a' p':BL),v = .slice l.a l.n l.c /\ AdmR c w a p g a' p' /\ Sat W w' (t14 b c (w.drop 1) a' p'::recs Rec.str l g::M)) (some ⟨b,0,none⟩) (hd0 w) s w0:=by
  clear hs
  intro w0 s row hr0 hrow hsr hs
  refine jw f192_j1_raw ?_
  have hy:hd0 row ∈ a ++ p:=hrow _ (by rw [<- hd_getD hr0]; exact getD_mem hr0)
  have step:∀ K:ByteArray -> WP,(Sat W w0 (cT b k1 s2 s3 kb db c::recs Rec.str k1 (w.drop 1)::recs Rec.str s2 a::recs Rec.str s3 p::skR kb::doR db::M) -> K (hd0 row) w0) -> idx s.a s.n (0:Int) (fun b_ o_=>ld .str b_ (o_ + ((0:Int)).toNat * 1) K) w0:=by
   intro K hK
   rcases hsr with ⟨rfl,rfl⟩ | ⟨rfl,rfl⟩
   ·refine idx_rd hs fun b_ o_ ha_=>?_
    refine ld_rd0 ha_ hs ?_
    rw [hd_getD hr0]; exact hK hs
   ·refine idx_rd hs fun b_ o_ ha_=>?_
    refine ld_rd0 ha_ hs ?_
    rw [hd_getD hr0]; exact hK hs
  refine step _ fun hs=>?_
  clear step
  have hs:=t14_shut k1 s2 s3 hs
  have hz1:(hd0 w).size < 64:=hsm _ (List.mem_append_left _ (by rw [<- hd_getD hw0]; exact getD_mem hw0))
  have hz2:(hd0 row).size < 64:=hsm _ (List.mem_append_right _ hy)
  refine call1_ret (q14_often hs hz1) fun v w0 ⟨n1,hv,hs⟩=>⟨_,hv,?_⟩
  refine call1_ret (q14_often hs hz2) fun v w0 ⟨n2,hv,hs⟩=>⟨_,hv,?_⟩
  refine ite_cases (fun _=>?_) (fun _=>?_)
  ·exact self w0 hs
  obtain ⟨s1,s2,s3,kb,db,hl,hs⟩:=t14_open hs
  have g1:=gTake_len a (hd0 row)
  refine drawW_only [cT b s1 s2 s3 kb db c] hs fun w0 hs=>?_
  refine nilck_some (ldS_b (x:=s2) (nilck_some (ldS_b (x:=s3) ?_)))
  have fin:∀ (w0:World) (q2 q3:Sl),Sat W w0 (cT b s1 q2 q3 kb db c::recs Rec.str s1 (w.drop 1)::recs Rec.str q2 (gTake a (hd0 row) ++ [hd0 w])::recs Rec.str q3 (gTake p (hd0 row))::skR kb::doR db::M) ->
    newB [.string (hd0 row)] 9 (fun b_60 w'=>∃ (l:Sl) (g a' p':BL),Value.slice (some ⟨b_60,0,none⟩) 1 1 = .slice l.a l.n l.c /\ AdmR c w a p g a' p' /\ Sat W w' (t14 b c (w.drop 1) a' p'::recs Rec.str l g::M)) w0:=by
   clear hs
   intro w0 q2 q3 hs
   have hs:=t14_shut s1 q2 q3 hs
   refine newB_at hs fun nb w0 hs=>?_
   have hs:=Sat.blkS (b:=nb) (cs:=[.string (hd0 row)]) (n:=1) Rec.str [hd0 row] hs rfl rfl
   exact ⟨⟨some ⟨nb,0,none⟩,1,1⟩,[hd0 row],_,_,rfl,.inr ⟨hno,hd0 row,rfl,perm_out hnap hy,.inr hy⟩,by exact Sat.fin hs⟩
  refine ⟨?_,?_⟩
  ·refine call1_ret (r14_cut (s0:=s2) (xs:=a) hs (by omega)) fun v w0 ⟨q2,hv,hs⟩=>⟨_,hv,keep_imp hs ?_⟩
   refine newB_at hs fun nb w0 hs=>keep_imp hs ?_
   refine app_one (s:=q2) (a:=hd0 w) hs rfl rfl rfl rfl (by decide) (by omega) fun q2' w0 hs5 hs=>keep_imp hs ?_
   refine call1_ret (r14_cut (s0:=s3) (xs:=p) hs (by omega)) fun v w0 ⟨q3,hv,hs⟩=>⟨_,hv,?_⟩
   refine nilck_some (st_b hs fun w0 hs=>?_)
   refine nilck_some (st_b hs fun w0 hs=>?_)
   exact fin w0 q2' q3 (by exact Sat.fin hs)
  ·refine newB_at hs fun nb w0 hs=>keep_imp hs ?_
   refine call1_ret (r14_cut (s0:=s2) (xs:=a) hs (by omega)) fun v w0 ⟨q2,hv,hs⟩=>⟨_,hv,keep_imp hs ?_⟩
   refine app_one (s:=q2) (a:=hd0 w) hs rfl rfl rfl rfl (by decide) (by omega) fun q2' w0 hs5 hs=>keep_imp hs ?_
   refine call1_ret (r14_cut (s0:=s3) (xs:=p) hs (by omega)) fun v w0 ⟨q3,hv,hs⟩=>⟨_,hv,?_⟩
   refine nilck_some (st_b hs fun w0 hs=>?_)
   refine nilck_some (st_b hs fun w0 hs=>?_)
   exact fin w0 q2' q3 (by exact Sat.fin hs)
 refine nilck_some (ld_b (x:=s2) hs ?_)
 with_reducible refine ite_by (fun h3=>?_) (fun h3=>?_)
 ·refine nilck_some (ld_b (x:=s3) hs ?_)
  exact j1 w0 s3 p (by omega) (fun x hx=>List.mem_append_right _ hx) (.inr ⟨rfl,rfl⟩) hs
 ·exact j1 w0 s2 a (by omega) (fun x hx=>List.mem_append_left _ hx) (.inl ⟨rfl,rfl⟩) hs
theorem hd_cons {l:BL} (h:0 < l.length):l = hd0 l::l.drop 1:=by
 cases l with
 | nil=>simp at h
 | cons x t=>rfl
theorem drop1_app {l:BL} {k:ByteArray} (h:0 < l.length):(l ++ [k]).drop 1 = l.drop 1 ++ [k]:=by
 cases l with
 | nil=>simp at h
 | cons x t=>rfl
theorem hd_app {l:BL} {k:ByteArray} (h:0 < l.length):hd0 (l ++ [k]) = hd0 l:=by
 cases l with
 | nil=>simp at h
 | cons x t=>rfl
theorem TRows.miss (ht:TRows c R w a p) (hk:key ∉ R) (hz:key.size < 64) (hfull:(w.length:Int) = tWin c) {g a' p':BL} (h:AdmR c (w ++ [key]) a p g a' p') :
  ∃ T,TRows c T (w.drop 1 ++ [key]) a' p' /\ AccR c R key false g T:=by
 have hw:=tWin_in ht.ok.c1 ht.ok.c2
 have hw0:0 < w.length:=by omega
 have hll:=ht.len
 have hm:=ht.main
 unfold AdmR at h
 rw [hd_app hw0] at h
 have hc:=hd_cons hw0
 have hdl:(w.drop 1).length + 1 = w.length:=by simp; omega
 obtain ⟨x,t,rfl⟩:∃ x t,w = x::t:=⟨_,_,hc⟩
 have e1:(x::t).drop 1 = t:=rfl
 have e2:hd0 (x::t) = x:=rfl
 rw [e1] at *
 rw [e2] at h
 have hR:=ht.eq
 have hT:∀ {S:BL},RecR c R g S -> (t ++ (a' ++ p')).Perm S -> (a'.length:Int) + p'.length <= tMain c -> TRows c ((t ++ [key]) ++ (a' ++ p')) (t ++ [key]) a' p' /\ AccR c R key false g ((t ++ [key]) ++ (a' ++ p')):=by
  intro S hr hp hl
  have ha:=AccR.miss ht.ok hk hz hr (T:=(t ++ [key]) ++ (a' ++ p')) (perm_snoc1.trans (hp.cons _))
  exact ⟨⟨rfl,ha.ok,by simp at hfull ⊢; omega,hl⟩,ha⟩
 rcases h with ⟨rfl,rfl,rfl,hlt⟩ | ⟨hno,v,rfl,hp,hv⟩
 ·refine ⟨_,hT (S:=R) (.inl ⟨rfl,rfl,by simp at hfull; simp at hll; omega⟩) ?_ (by simp; omega)⟩
  rw [hR]
  have h1:(t ++ ((a ++ [x]) ++ p')).Perm (t ++ (x::(a ++ p'))):=List.Perm.append_left t perm_snoc1
  exact h1.trans List.perm_middle
 ·have hpl:=hp.length_eq
  simp only [List.length_cons,List.length_append] at hpl
  have hev:EvR c R v true (t ++ (a' ++ p')):=by
   refine EvR.of_perm ht.ok ?_
   rw [hR]
   have h1:(t ++ (x::(a ++ p))).Perm (t ++ (v::(a' ++ p'))):=List.Perm.append_left t hp.symm
   exact (List.perm_middle.symm.trans h1).trans List.perm_middle
  exact ⟨_,hT (.inr ⟨v,rfl,hev,by simp at hfull; simp at hll; omega⟩) (List.Perm.refl _) (by omega)⟩
set_option maxRecDepth 100000 in
theorem q14_Access (hs:Sat W w0 (e14 b c R::M)) (hz:key.size < 64):Rts Tryz.prog 127 #[.pointer (some ⟨b,0,none⟩),.string key] w0 fun v w'=>∃ (hit:Bool) (l:Sl) (g S:BL),v = .tuple #[.bool hit,.slice l.a l.n l.c] /\ AccR c R key hit g S /\ Sat W w' (recs Rec.str l g::e14 b c S::M):=by
 refine cw f127_ok f127_raw ?_
 obtain ⟨w,a,p,ht,hs⟩:=e14_open hs
 refine call0_ret (q14_note hs hz) fun v w0 ⟨hv,hs⟩=>⟨hv,?_⟩
 obtain ⟨s1,s2,s3,kb,db,hl,hs⟩:=t14_open hs
 have hk:=ht.ok; have hr:=hk.room; have hc2:=hk.c2; have hc1:=hk.c1; have hll:=ht.len
 have hw:=tWin_in hc1 hc2
 have hR:=ht.eq
 have hn:=hR ▸ hk.nd
 have hnw:w.Nodup:=(List.nodup_append.1 hn).1
 have hnap:(a ++ p).Nodup:=(List.nodup_append.1 hn).2.1
 have hnp:p.Nodup:=(List.nodup_append.1 hnap).2.1
 have htw:=ht.win; have htm:=ht.main
 refine nilck_some (ld_b (x:=s1) hs ?_)
 refine call1_ret (r14_has (s0:=s1) (xs:=w) hs (by omega)) fun v w0 ⟨j,hv,hj,hs⟩=>⟨j,hv,?_⟩
 rw [hj]
 with_reducible refine ite_by (fun h1=>?_) (fun h1=>?_)
 ·have g0:=gTake_len w key
  refine nilck_some (ld_b (x:=s1) hs ?_)
  refine call1_ret (r14_cut (s0:=s1) (xs:=w) hs (by omega)) fun v w0 ⟨l,hv,hs⟩=>⟨_,hv,?_⟩
  refine newB_at hs fun nb w0 hs=>?_
  refine app_one (s:=l) (a:=key) hs rfl rfl rfl rfl (by decide) (by omega) fun s5 w0 hs5 hs=>?_
  refine nilck_some (st_b hs fun w0 hs=>?_)
  have hp1:=List.perm_append_comm.trans (gTake_perm1 hnw h1).symm (l₁:=gTake w key ++ [key])
  have hp:((gTake w key ++ [key]) ++ (a ++ p)).Perm R:=by rw [hR]; exact hp1.append_right _
  have hpl:=hp1.length_eq
  have ha:=AccR.same hk (by rw [hR]; exact List.mem_append_left _ h1) hp
  have hs:=e14_shut (R:=(gTake w key ++ [key]) ++ (a ++ p)) ⟨rfl,ha.ok,by rw [hpl]; exact htw,htm⟩ (t14_shut s5 s2 s3 (kb:=kb) (db:=db) (M:=M) (by exact Sat.fin hs))
  exact ⟨true,⟨none,0,0⟩,[],_,rfl,ha,Sat.nilR Rec.str hs⟩
 refine nilck_some (ld_b (x:=s3) hs ?_)
 refine call1_ret (r14_has (s0:=s3) (xs:=p) hs (by omega)) fun v w0 ⟨j,hv,hj,hs⟩=>⟨j,hv,?_⟩
 rw [hj]
 with_reducible refine ite_by (fun h2=>?_) (fun h2=>?_)
 ·have g0:=gTake_len p key
  refine nilck_some (ld_b (x:=s3) hs ?_)
  refine call1_ret (r14_cut (s0:=s3) (xs:=p) hs (by omega)) fun v w0 ⟨l,hv,hs⟩=>⟨_,hv,?_⟩
  refine newB_at hs fun nb w0 hs=>?_
  refine app_one (s:=l) (a:=key) hs rfl rfl rfl rfl (by decide) (by omega) fun s5 w0 hs5 hs=>?_
  refine nilck_some (st_b hs fun w0 hs=>?_)
  have hp1:=List.perm_append_comm.trans (gTake_perm1 hnp h2).symm (l₁:=gTake p key ++ [key])
  have hp:(w ++ (a ++ (gTake p key ++ [key]))).Perm R:=by rw [hR]; exact (hp1.append_left a).append_left w
  have hpl:=hp1.length_eq
  have ha:=AccR.same hk (by rw [hR]; exact List.mem_append_right _ (List.mem_append_right _ h2)) hp
  have hs:=e14_shut (R:=w ++ (a ++ (gTake p key ++ [key]))) ⟨rfl,ha.ok,htw,by rw [hpl]; exact htm⟩ (t14_shut s1 s2 s5 (kb:=kb) (db:=db) (M:=M) (by exact Sat.fin hs))
  exact ⟨true,⟨none,0,0⟩,[],_,rfl,ha,Sat.nilR Rec.str hs⟩
 refine nilck_some (ld_b (x:=s2) hs ?_)
 refine call1_ret (r14_has (s0:=s2) (xs:=a) hs (by omega)) fun v w0 ⟨j,hv,hj,hs⟩=>⟨j,hv,?_⟩
 rw [hj]
 with_reducible refine ite_by (fun h3=>?_) (fun h3=>?_)
 ·refine call0_ret (q14_promote hc1 hc2 h3 hnap (by omega) (t14_shut s1 s2 s3 hs)) fun v w0 ⟨hv,a',p',hp,hs⟩=>⟨hv,?_⟩
  have hp2:(w ++ (a' ++ p')).Perm R:=by rw [hR]; exact hp.append_left w
  have hpl:=hp.length_eq
  simp only [List.length_append] at hpl
  have ha:=AccR.same hk (by rw [hR]; exact List.mem_append_right _ (List.mem_append_left _ h3)) hp2
  have hs:=e14_shut (R:=w ++ (a' ++ p')) ⟨rfl,ha.ok,htw,by omega⟩ hs
  exact ⟨true,⟨none,0,0⟩,[],_,rfl,ha,Sat.nilR Rec.str hs⟩
 have hno:key ∉ R:=by rw [hR,List.mem_append,List.mem_append]; exact fun h=>h.elim h1 fun h=>h.elim h3 h2
 refine nilck_some (ld_b (x:=s1) hs ?_)
 refine newB_at hs fun nb w0 hs=>?_
 refine app_one (s:=s1) (a:=key) hs rfl rfl rfl rfl (by decide) (by omega) fun s5 w0 hs5 hs=>?_
 refine nilck_some (st_b hs fun w0 hs=>?_)
 have hs:=Sat.nilR Rec.str hs
 have hs:Sat W w0 (cT b s5 s2 s3 kb db c::recs Rec.str s5 (w ++ [key])::recs Rec.str s2 a::recs Rec.str s3 p::skR kb::doR db::recs Rec.str ⟨none,0,0⟩ []::M):=by exact Sat.fin hs
 have last:∀ (w0:World) (s1 s2 s3:Sl) (kb db:Nat) (l:Sl) (g w a p S:BL) (f:Nat),s1.n = w.length -> (w.length:Int) <= tWin c -> TRows c S w a p -> AccR c R key false g S -> Sat W w0 (cT b s1 s2 s3 kb db c::recs Rec.str s1 w::recs Rec.str s2 a::recs Rec.str s3 p::skR kb::doR db::recs Rec.str l g::M) ->
   f127_l1 idJ (fun v w'=>∃ (hit:Bool) (l:Sl) (g S:BL),v = .tuple #[.bool hit,.slice l.a l.n l.c] /\ AccR c R key hit g S /\ Sat W w' (recs Rec.str l g::e14 b c S::M)) (f + 1) (some ⟨b,0,none⟩) l w0:=by
  clear hs hl
  intro w0 s1 s2 s3 kb db l g w a p S f hn1 hle ht ha hs
  rw [f127_l1_raw]
  refine drawW_only [cT b s1 s2 s3 kb db c] hs fun w0 hs=>?_
  refine nilck_some (ldS_b (x:=s1) ?_)
  refine call1_ret (q14_window hc1 hc2 hs) fun v w0 ⟨hv,hs⟩=>⟨_,hv,keep_imp hs ?_⟩
  refine ite_false (decide_eq_false (by omega)) ?_
  refine jw f127_j2_raw ?_
  have hs:=e14_shut ht (t14_shut s1 s2 s3 (kb:=kb) (db:=db) hs)
  exact ⟨false,l,g,S,rfl,ha,by exact Sat.fin hs⟩
 have hn5:=(recs_len (s:=s5) hs).1
 simp only [List.length_append,List.length_cons,List.length_nil] at hn5
 by_cases hfull:(w.length:Int) = tWin c
 ·refine exM_of 2 ?_
  rw [f127_l1_raw]
  refine drawW_only [cT b s5 s2 s3 kb db c] hs fun w0 hs=>?_
  refine nilck_some (ldS_b (x:=s5) ?_)
  refine call1_ret (q14_window hc1 hc2 hs) fun v w0 ⟨hv,hs⟩=>⟨_,hv,keep_imp hs ?_⟩
  refine ite_true (decide_eq_true (by omega)) ?_
  have hs:=t14_shut s5 s2 s3 hs
  have hpm:((w ++ [key]) ++ (a ++ p)).Perm (key::R):=by rw [hR]; exact perm_snoc1
  refine call1_ret (q14_admit hc1 hc2 (by simp) (hpm.nodup_iff.2 (List.nodup_cons.2 ⟨hno,hk.nd⟩)) (fun x hx=>by
   rcases List.mem_cons.1 (hpm.mem_iff.1 hx) with h | h
   ·exact h ▸ hz
   ·exact hk.small x h) (by simp; omega) htm hs) fun v w0 ⟨l,g,a',p',hv,had,hs⟩=>⟨_,hv,?_⟩
  obtain ⟨T,hT,hacc⟩:=TRows.miss ht hno hz hfull had
  rw [drop1_app (by omega)] at hs
  have hgl:=hacc.acc.le1
  have hs:Sat W w0 (recs Rec.str ⟨none,0,0⟩ []::recs Rec.str l g::t14 b c (w.drop 1 ++ [key]) a' p'::M):=by exact Sat.fin hs
  refine app_by (s:=⟨none,0,0⟩) (new:=g) hs (rd_rdb (s:=l) hs) (rdb_len (s:=l) hs) (okC_flat _) rfl (by decide) (by simp; omega) fun s6 w0 hs6 hs=>?_
  have hs:Sat W w0 (t14 b c (w.drop 1 ++ [key]) a' p'::recs Rec.str s6 g::M):=by
   have hs:Sat W w0 (recs Rec.str s6 g::recs Rec.str l g::t14 b c (w.drop 1 ++ [key]) a' p'::M):=hs
   exact Sat.fin hs
  obtain ⟨k1,k2,k3,kb,db,hl,hs⟩:=t14_open hs
  exact last w0 k1 k2 k3 kb db s6 g _ a' p' T 0 hl.1.1 hT.win hT hacc hs
 ·refine exM_of 1 ?_
  have ha:=AccR.miss hk hno hz (g:=[]) (S:=R) (.inl ⟨rfl,rfl,by omega⟩) (T:=(w ++ [key]) ++ (a ++ p)) (by rw [hR]; exact perm_snoc1)
  exact last w0 s5 s2 s3 kb db ⟨none,0,0⟩ [] (w ++ [key]) a p _ 0 (by simp; omega) (by simp; omega) ⟨rfl,ha.ok,by simp; omega,htm⟩ ha hs
set_option maxRecDepth 100000 in
theorem q14_Load (hs:Sat W w0 (e14 b c R::M)) (hz:key.size < 64):Rts Tryz.prog 159 #[.pointer (some ⟨b,0,none⟩),.string key] w0 fun v w'=>∃ (yes:Bool) (S:BL),v = .bool yes /\ LoadR c R key yes S /\ Sat W w' (e14 b c S::M):=by
 refine cw f159_ok f159_raw ?_
 have hk:=e14_ok hs
 refine drawW_only [e14 b c R] hs fun w0 hs=>?_
 refine call1_ret (q14_Has hs) fun v w0 ⟨hv,hs⟩=>⟨_,hv,keep_imp hs ?_⟩
 with_reducible refine ite_by (fun h1=>?_) (fun h1=>?_)
 ·exact keep_imp hs ⟨false,R,rfl,LoadR.no hk (fun h=>h.1 h1),hs⟩
 refine nilck_some ?_
 refine ldS_by (k:=.int .i64) c (fun w' h=>e14_cap h) ?_
 refine call1_ret (q14_Len hs) fun v w0 ⟨hv,hs⟩=>⟨_,hv,keep_imp hs ?_⟩
 with_reducible refine ite_by (fun h2=>?_) (fun h2=>?_)
 ·exact ⟨false,R,rfl,LoadR.no hk (fun h=>by have:=h.2; omega),hs⟩
 refine jw f159_j1_raw ?_
 obtain ⟨w,a,p,ht,hs⟩:=e14_open hs
 obtain ⟨s1,s2,s3,kb,db,hl,hs⟩:=t14_open hs
 have hr:=hk.room; have hc2:=hk.c2; have hc1:=hk.c1; have hll:=ht.len
 have hw:=tWin_in hc1 hc2
 have hR:=ht.eq; have htw:=ht.win; have htm:=ht.main
 refine drawW_only [cT b s1 s2 s3 kb db c] hs fun w0 hs=>?_
 refine nilck_some (ldS_b (x:=s2) (nilck_some (ldS_b (x:=s3) ?_)))
 refine call1_ret (q14_main hc1 hc2 hs) fun v w0 ⟨hv,hs⟩=>⟨_,hv,keep_imp hs ?_⟩
 rw [i64_in ((s2.n:Int) + s3.n) (by omega)]
 with_reducible refine ite_by (fun h3=>?_) (fun h3=>?_)
 ·refine nilck_some (ld_b (x:=s2) hs ?_)
  refine newB_at hs fun nb w0 hs=>?_
  refine app_one (s:=s2) (a:=key) hs rfl rfl rfl rfl (by decide) (by omega) fun s5 w0 hs5 hs=>?_
  refine nilck_some (st_b hs fun w0 hs=>?_)
  have hp:(w ++ ((a ++ [key]) ++ p)).Perm (key::R):=by
   rw [hR]
   exact (List.Perm.append_left w (perm_snoc1 (k:=key) (i:=a) (a:=p))).trans List.perm_middle
  have ha:=LoadR.yes hk hz h1 (by omega) hp
  exact ⟨true,_,rfl,ha,e14_shut ⟨rfl,ha.ok,htw,by simp; omega⟩ (t14_shut s1 s5 s3 (kb:=kb) (db:=db) (by exact Sat.fin hs))⟩
 ·refine nilck_some (ld_b (x:=s1) hs ?_)
  refine newB_at hs fun nb w0 hs=>?_
  refine app_one (s:=s1) (a:=key) hs rfl rfl rfl rfl (by decide) (by omega) fun s5 w0 hs5 hs=>?_
  refine nilck_some (st_b hs fun w0 hs=>?_)
  have hp:((w ++ [key]) ++ (a ++ p)).Perm (key::R):=by rw [hR]; exact perm_snoc1
  have ha:=LoadR.yes hk hz h1 (by omega) hp
  exact ⟨true,_,rfl,ha,e14_shut ⟨rfl,ha.ok,by simp; omega,htm⟩ (t14_shut s5 s2 s3 (kb:=kb) (db:=db) (by exact Sat.fin hs))⟩
set_option maxRecDepth 100000 in
theorem q14_Remove (hs:Sat W w0 (e14 b c R::M)):Rts Tryz.prog 149 #[.pointer (some ⟨b,0,none⟩),.string key] w0 fun v w'=>∃ (yes:Bool) (S:BL),v = .bool yes /\ RemR c R key yes S /\ Sat W w' (e14 b c S::M):=by
 refine cw f149_ok f149_raw ?_
 have hk:=e14_ok hs
 refine call1_ret (q14_Has hs) fun v w0 ⟨hv,hs⟩=>⟨_,hv,?_⟩
 with_reducible refine ite_by (fun h1=>?_) (fun h1=>?_)
 ·exact ⟨false,R,rfl,RemR.no hk h1,hs⟩
 obtain ⟨w,a,p,ht,hs⟩:=e14_open hs
 obtain ⟨s1,s2,s3,kb,db,hl,hs⟩:=t14_open hs
 have hr:=hk.room; have hc2:=hk.c2; have hll:=ht.len
 have hR:=ht.eq; have htw:=ht.win; have htm:=ht.main
 have g1:=gTake_len w key; have g2:=gTake_len a key; have g3:=gTake_len p key
 refine drawW_only [cT b s1 s2 s3 kb db c] hs fun w0 hs=>?_
 refine nilck_some (ldS_b (x:=s1) (nilck_some (ldS_b (x:=s2) (nilck_some (ldS_b (x:=s3) ?_)))))
 refine call1_ret (r14_cut (s0:=s1) (xs:=w) hs (by omega)) fun v w0 ⟨k1,hv,hs⟩=>⟨_,hv,keep_imp hs ?_⟩
 refine call1_ret (r14_cut (s0:=s2) (xs:=a) hs (by omega)) fun v w0 ⟨k2,hv,hs⟩=>⟨_,hv,keep_imp hs ?_⟩
 refine call1_ret (r14_cut (s0:=s3) (xs:=p) hs (by omega)) fun v w0 ⟨k3,hv,hs⟩=>⟨_,hv,?_⟩
 refine nilck_some (st_b hs fun w0 hs=>?_)
 refine nilck_some (st_b hs fun w0 hs=>?_)
 refine nilck_some (st_b hs fun w0 hs=>?_)
 have ha:RemR c R key true (gTake w key ++ (gTake a key ++ gTake p key)):=by rw [hR] at hk h1 ⊢; exact RemR.cut3 hk h1
 exact ⟨true,_,rfl,ha,e14_shut ⟨rfl,ha.ok,by omega,by omega⟩ (t14_shut k1 k2 k3 (kb:=kb) (db:=db) (by exact Sat.fin hs))⟩
theorem RemR.evR {x:ByteArray} {S:BL} (h:RemR c R x true S):EvR c R x true S:=by
 have hx:x ∈ R:=by have:=h.says; exact of_decide_eq_true this.symm
 exact ⟨(decide_eq_true (List.length_pos_of_mem hx)).symm,fun _=>hx,fun y=>by rw [h.mem]; simp,h.ok⟩
set_option maxRecDepth 100000 in
theorem q14_Evict (hs:Sat W w0 (e14 b c R::M)):Rts Tryz.prog 122 #[.pointer (some ⟨b,0,none⟩)] w0 fun v w'=>∃ x yes S,v = .tuple #[.string x,.bool yes] /\ EvR c R x yes S /\ Sat W w' (e14 b c S::M):=by
 refine cw f122_ok f122_raw ?_
 have hk:=e14_ok hs
 obtain ⟨w,a,p,ht,hs⟩:=e14_open hs
 obtain ⟨s1,s2,s3,kb,db,hl,hs⟩:=t14_open hs
 have hr:=hk.room; have hc2:=hk.c2; have hll:=ht.len
 have hR:=ht.eq; have htw:=ht.win; have htm:=ht.main
 have j2:∀ (s:Sl) (row:BL) (w0:World),(∀ x ∈ row,x ∈ R) -> (row.length = 0 -> R.length = 0) -> (row = a /\ s = s2 \/ row = p /\ s = s3 \/ row = w /\ s = s1) -> Sat W w0 (cT b s1 s2 s3 kb db c::recs Rec.str s1 w::recs Rec.str s2 a::recs Rec.str s3 p::skR kb::doR db::M) ->
   f122_j2 idJ (fun v w'=>∃ x yes S,v = .tuple #[.string x,.bool yes] /\ EvR c R x yes S /\ Sat W w' (e14 b c S::M)) (some ⟨b,0,none⟩) s w0:=by
  clear hs
  intro s row w0 hrow hnil hsr hs
  refine jw f122_j2_raw ?_
  have hsn:s.n = row.length:=by rcases hsr with ⟨rfl,rfl⟩ | ⟨rfl,rfl⟩ | ⟨rfl,rfl⟩ <;> omega
  with_reducible refine ite_by (fun h1=>?_) (fun h1=>?_)
  ·exact ⟨_,_,_,rfl,EvR.none hk (hnil (by omega)),e14_shut ht (t14_shut s1 s2 s3 hs)⟩
  have hr0:0 < row.length:=by omega
  have hy:hd0 row ∈ R:=hrow _ (by rw [<- hd_getD hr0]; exact getD_mem hr0)
  have step:∀ K:ByteArray -> WP,(Sat W w0 (cT b s1 s2 s3 kb db c::recs Rec.str s1 w::recs Rec.str s2 a::recs Rec.str s3 p::skR kb::doR db::M) -> K (hd0 row) w0) -> idx s.a s.n (0:Int) (fun b_ o_=>ld .str b_ (o_ + ((0:Int)).toNat * 1) K) w0:=by
   intro K hK
   rcases hsr with ⟨rfl,rfl⟩ | ⟨rfl,rfl⟩ | ⟨rfl,rfl⟩
   all_goals
    refine idx_rd hs fun b_ o_ ha_=>?_
    refine ld_rd0 ha_ hs ?_
    rw [hd_getD hr0]; exact hK hs
  refine step _ fun hs=>?_
  refine call1_ret (q14_Remove (e14_shut ht (t14_shut s1 s2 s3 hs))) fun v w0 ⟨yes,S,hv,hrem,hs⟩=>⟨_,hv,?_⟩
  have hyes:yes = true:=by rw [hrem.says]; exact decide_eq_true hy
  subst hyes
  exact ⟨_,_,_,rfl,RemR.evR hrem,hs⟩
 refine nilck_some (ld_b (x:=s2) hs ?_)
 with_reducible refine ite_by (fun h1=>?_) (fun h1=>?_)
 ·refine nilck_some (ld_b (x:=s3) hs ?_)
  refine jw f122_j1_raw ?_
  with_reducible refine ite_by (fun h2=>?_) (fun h2=>?_)
  ·refine nilck_some (ld_b (x:=s1) hs ?_)
   exact j2 s1 w w0 (fun x hx=>by rw [hR]; exact List.mem_append_left _ hx) (by omega) (.inr (.inr ⟨rfl,rfl⟩)) hs
  ·exact j2 s3 p w0 (fun x hx=>by rw [hR]; exact List.mem_append_right _ (List.mem_append_right _ hx)) (by omega) (.inr (.inl ⟨rfl,rfl⟩)) hs
 ·refine jw f122_j1_raw ?_
  refine ite_false (by simp; omega) ?_
  exact j2 s2 a w0 (fun x hx=>by rw [hR]; exact List.mem_append_right _ (List.mem_append_left _ hx)) (by omega) (.inl ⟨rfl,rfl⟩) hs
theorem q14_Keys (hs:Sat W w0 (e14 b c R::M)):Rts Tryz.prog 198 #[.pointer (some ⟨b,0,none⟩)] w0 fun v w'=>∃ l:Sl,v = .slice l.a l.n l.c /\ Sat W w' (recs Rec.str l R::e14 b c R::M):=by
 refine cw f198_ok f198_raw ?_
 obtain ⟨w,a,p,ht,hs⟩:=e14_open hs
 obtain ⟨s1,s2,s3,kb,db,hl,hs⟩:=t14_open hs
 have hr:=ht.ok.room; have hc2:=ht.ok.c2; have hll:=ht.len
 refine drawW_only [cT b s1 s2 s3 kb db c] hs fun w0 hs=>?_
 refine nilck_some (ldS_b (x:=s1) (nilck_some (ldS_b (x:=s2) (nilck_some (ldS_b (x:=s3) ?_)))))
 refine newB_at hs fun nb w0 hs=>keep_imp hs ?_
 refine app_own (b:=nb) (cs:=[]) (rows:=[]) (new:=w) hs Rec.str rfl rfl (rd_rdb (s:=s1) hs) hl.1.1 (okC_flat _) rfl (by decide) (by simp; omega) fun s5 w0 h5 hs=>?_
 have hs:Sat W w0 (recs Rec.str s5 w::cT b s1 s2 s3 kb db c::recs Rec.str s1 w::recs Rec.str s2 a::recs Rec.str s3 p::skR kb::doR db::M):=hs
 refine keep_imp hs ?_
 refine app_by (s:=s5) (new:=a) hs (rd_rdb (s:=s2) hs) hl.2.1.1 (okC_flat _) rfl (by decide) (by omega) fun s6 w0 hs6 hs=>?_
 have hs:Sat W w0 (recs Rec.str s6 (w ++ a)::cT b s1 s2 s3 kb db c::recs Rec.str s1 w::recs Rec.str s2 a::recs Rec.str s3 p::skR kb::doR db::M):=hs
 refine keep_imp hs ?_
 refine app_by (s:=s6) (new:=p) hs (rd_rdb (s:=s3) hs) hl.2.2.1 (okC_flat _) rfl (by decide) (by simp; omega) fun s7 w0 hs7 hs=>?_
 have hs:Sat W w0 (recs Rec.str s7 R::cT b s1 s2 s3 kb db c::recs Rec.str s1 w::recs Rec.str s2 a::recs Rec.str s3 p::skR kb::doR db::M):=by rw [ht.eq,<- List.append_assoc]; exact hs
 have hs:=e14_shut ht (t14_shut s1 s2 s3 (kb:=kb) (db:=db) (M:=recs Rec.str s7 R::M) (by exact Sat.fin hs))
 exact ⟨s7,rfl,by exact Sat.fin hs⟩
end
end Go.Proofs.YtmefopmnjncdbaaGreat
