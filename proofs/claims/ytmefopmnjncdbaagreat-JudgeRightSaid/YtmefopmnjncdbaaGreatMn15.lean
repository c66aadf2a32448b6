import Derived.Test.YtmefopmnjncdbaaGreatMn14
set_option linter.unusedVariables false
set_option linter.unusedSimpArgs false
set_option linter.unnecessarySimpa false
set_option linter.unusedSectionVars false
set_option maxRecDepth 100000
namespace Go.Hb
abbrev PL:=List (ByteArray × Int)
def pcR:Rec (ByteArray × Int):=⟨2,fun e=>[.string e.1,.int .i64 e.2],fun _=>rfl⟩
instance:OkR pcR:=⟨fun _=>rfl⟩
instance:PosR pcR:=⟨by decide⟩
instance {e:ByteArray × Int} {n:Int}:SetR pcR e 1 (.int .i64 n) (e.1,n):=⟨rfl,by decide⟩
def pk (l:PL):BL:=l.map (·.1)
abbrev cP (b:Nat) (s1 s2 s3:Sl) (c:Int):HP:=blk b [.slice s1.a s1.n s1.c,.slice s2.a s2.n s2.c,.slice s3.a s3.n s3.c,.int .i64 c]
def t12 (b:Nat) (c:Int) (s m:PL) (g:BL):HP:=exH fun (z:Sl × Sl × Sl)=>allH [cP b z.1 z.2.1 z.2.2 c,recs pcR z.1 s,recs pcR z.2.1 m,recs Rec.str z.2.2 g]
structure PRows (c:Int) (R:BL) (s m:PL) (g:BL):Prop where
 eq:R = pk s ++ pk m
 ok:EOk c R
 gh:g.length <= 1024
 cs:∀ e ∈ s,0 <= e.2 /\ e.2 <= 3
 cm:∀ e ∈ m,0 <= e.2 /\ e.2 <= 3
def e12 (b:Nat) (c:Int) (R:BL):HP:=exH fun (z:PL × PL × BL)=>andH (PRows c R z.1 z.2.1 z.2.2) (t12 b c z.1 z.2.1 z.2.2)
def pSmall (c:Int):Int:=max 1 (c / 10)
theorem pk_len (l:PL):(pk l).length = l.length:=by simp [pk]
theorem pk_app (a b:PL):pk (a ++ b) = pk a ++ pk b:=by simp [pk]
theorem pk_erase {l:PL} {i:Nat} (h:i < l.length):(pk l).Perm ((l.getD i default).1::pk (l.eraseIdx i)):=by
 have h1:=(erase_perm h).map (·.1)
 have e:l.getD i default = l[i]:=by rw [List.getD_eq_getElem?_getD,List.getElem?_eq_getElem h]; rfl
 rw [e]
 exact h1.symm
theorem pk_set {l:PL} {i:Nat} {n:Int} (h:i < l.length):pk (l.set i ((l.getD i default).1,n)) = pk l:=by
 unfold pk
 rw [List.map_set]
 have e:l.getD i default = l[i]:=by rw [List.getD_eq_getElem?_getD,List.getElem?_eq_getElem h]; rfl
 have h2:(l[i]).1 = (l.map (·.1))[i]'(by simpa using h):=by simp
 rw [e]
 show (l.map (·.1)).set i (l[i]).1 = _
 rw [h2,List.set_getElem_self]
theorem PRows.len {c:Int} {R:BL} {s m:PL} {g:BL} (h:PRows c R s m g):R.length = s.length + m.length:=by rw [h.eq]; simp [pk]
section
variable {W w:World} {M L:List HP} {b:Nat} {c:Int} {R g:BL} {s m:PL}
theorem t12_open (h:Sat W w (t12 b c s m g::M)):∃ s1 s2 s3:Sl,((s1.n = s.length /\ s1.n <= s1.c) /\ (s2.n = m.length /\ s2.n <= s2.c) /\ (s3.n = g.length /\ s3.n <= s3.c)) /\
  Sat W w (cP b s1 s2 s3 c::recs pcR s1 s::recs pcR s2 m::recs Rec.str s3 g::M):=by
 obtain ⟨⟨s1,s2,s3⟩,h⟩:=h.openE
 have h:=h.openL
 have h:Sat W w (cP b s1 s2 s3 c::recs pcR s1 s::recs pcR s2 m::recs Rec.str s3 g::M):=h
 exact ⟨s1,s2,s3,⟨recs_len (s:=s1) h,recs_len (s:=s2) h,recs_len (s:=s3) h⟩,h⟩
theorem t12_shut (s1 s2 s3:Sl) (h:Sat W w (cP b s1 s2 s3 c::recs pcR s1 s::recs pcR s2 m::recs Rec.str s3 g::M)):Sat W w (t12 b c s m g::M):=
 Sat.shutE (s1,s2,s3) (Sat.shutL (Ps:=[_,_,_,_]) h)
theorem e12_open (h:Sat W w (e12 b c R::M)):∃ s m g,PRows c R s m g /\ Sat W w (t12 b c s m g::M):=by
 obtain ⟨⟨s,m,g⟩,h⟩:=h.openE
 obtain ⟨hp,h⟩:=h.openA
 exact ⟨s,m,g,hp,h⟩
theorem e12_shut (ht:PRows c R s m g) (h:Sat W w (t12 b c s m g::M)):Sat W w (e12 b c R::M):=Sat.shutE (s,m,g) (Sat.shutA ht h)
theorem e12_cap (h:Sat W w (e12 b c R::M)):w.cell? ⟨b,3,none⟩ = some (.int .i64 c):=by
 obtain ⟨s,m,g,_,h⟩:=e12_open h
 obtain ⟨s1,s2,s3,_,h⟩:=t12_open h
 exact h.cell (q:=0) rfl
theorem e12_ok (h:Sat W w (e12 b c R::M)):EOk c R:=by
 obtain ⟨s,m,g,ht,h⟩:=e12_open h
 exact ht.ok
end
end Go.Hb
namespace Go.Proofs.YtmefopmnjncdbaaGreat
open Go.Hb Go.IntWalk
section
variable {W w:World} {L M:List HP} {b:Nat} {c:Int} {R g:BL} {s m:PL} {key:ByteArray} {xs:PL}
set_option maxRecDepth 100000 in
theorem q12_at {s0:Sl} [hr:Rdb W L s0 pcR xs] (hs:Sat W w L) (hz:xs.length < 1000000):Rts Tryz.prog 193 #[.slice s0.a s0.n s0.c,.string key] w fun v w'=>∃ i:Int,v = .int .i64 i /\ ((i = -1 /\ key ∉ pk xs) \/ ∃ j:Nat,i = (j:Int) /\ j < xs.length /\ (xs.getD j default).1 = key) /\ Sat W w' L:=by
 refine cw f193_ok f193_raw ?_
 have hn:=rdb_len (s:=s0) hs
 have loop:∀ (f i:Nat) (w:World),i + f = xs.length -> key ∉ pk (xs.take i) -> Sat W w L -> f193_l1 idJ (fun v w'=>∃ i:Int,v = .int .i64 i /\ ((i = -1 /\ key ∉ pk xs) \/ ∃ j:Nat,i = (j:Int) /\ j < xs.length /\ (xs.getD j default).1 = key) /\ Sat W w' L) (f + 1) s0 key (i:Int) w:=by
  intro f
  induction f with
  | zero=>
   intro i w hi hp hs
   rw [f193_l1_raw]
   refine ite_false (decide_eq_false (by omega)) ?_
   refine jw f193_j2_raw ?_
   rw [List.take_of_length_le (by omega)] at hp
   exact ⟨-1,rfl,.inl ⟨rfl,hp⟩,hs⟩
  | succ f ih=>
   intro i w hi hp hs
   rw [f193_l1_raw]
   refine ite_true (decide_eq_true (by omega)) ?_
   repeat (first | with_reducible refine nilck_some ?_ | ((with_reducible refine atLd ?_); first | refine ld_b hs ?_ | refine ld_b (x:=⟨_,_,_⟩) hs ?_ | refine ld_r0 hs ?_ | refine ld_r1 hs ?_ | refine ld_rd0 ha_ hs ?_ | refine ld_rd1 ha_ hs ?_) | ((with_reducible refine isSt ?_); first | refine st_b hs fun w hs=>?_ | refine st_r0 hs fun w hs=>?_ | refine st_r1 hs fun w hs=>?_) | ((with_reducible refine isIdx ?_); first | refine idx_s hs fun b_ o_ hs=>?_ | refine idx_rd hs fun b_ o_ ha_=>?_) | with_reducible refine newB_at hs fun b_ w hs=>?_ | ((with_reducible refine isLdS ?_); first | refine ldS_b ?_ | refine ldS_b (x:=⟨_,_,_⟩) ?_ | refine ldS_rs0 hs ?_ | refine ldS_rd0 ha_ ?_) | ((with_reducible refine isKeep ?_); first | refine keep_of hs ?_ | refine keep_imp hs ?_) | with_reducible refine when_om ?_ | with_reducible refine drawW_sat hs fun w hs=>?_)
   rw [Int.toNat_natCast]
   with_reducible refine ite_by (fun h3=>?_) (fun h3=>?_)
   ·exact ⟨i,rfl,.inr ⟨i,rfl,by omega,h3⟩,hs⟩
   ·rw [show IntKind.wrap .i64 ((i:Int) + 1) = ((i + 1:Nat):Int) by rw [i64_in _ (by omega)]; omega]
    refine ih (i + 1) w (by omega) ?_ hs
    rw [take_snoc (by omega),pk_app,List.mem_append]
    rintro (hk | hk)
    ·exact hp hk
    ·exact h3 (List.mem_singleton.1 (show key ∈ [(xs.getD i default).1] from hk)).symm
 refine exM_of (xs.length + 1) ?_
 exact loop xs.length 0 w (by omega) (by simp [pk]) hs
set_option maxRecDepth 100000 in
theorem q12_without {s0:Sl} [hr:Rdb W L s0 pcR xs] (hs:Sat W w L) (hz:xs.length < 1000000) {j:Nat} (hj:j < xs.length) (hc:s0.n <= s0.c):Rts Tryz.prog 172 #[.slice s0.a s0.n s0.c,.int .i64 (j:Int)] w fun v w'=>∃ l:Sl,v = .slice l.a l.n l.c /\ Sat W w' (recs pcR l (xs.eraseIdx j)::L):=by
 refine cw f172_ok f172_raw ?_
 have hn:=rdb_len (s:=s0) hs
 rw [i64_in _ (by omega)]
 refine drawW_sat hs fun w hs=>?_
 refine when_of (by omega) (when_of (by omega) ?_)
 refine newB_at hs fun nb w hs=>?_
 have e1:((j:Int)).toNat - 0 = j:=by omega
 have e2:((j:Int) + 1).toNat = j + 1:=by omega
 rw [e1,e2]
 refine app_own (b:=nb) (cs:=[]) (rows:=[]) (new:=xs.take j) hs pcR rfl rfl ((rd_sub (s:=s0) (E:=pcR) (rows:=xs) (lo:=0) (c:=s0.c) (k:=j) (n:=j * 2) hs (by omega) (by omega) rfl).trans (by rw [List.drop_zero])) (by simp; omega) (okC_flat _) rfl (by decide) (by simp; omega) fun s5 w h5 hs=>?_
 have hs:Sat W w (recs pcR s5 (xs.take j)::L):=hs
 refine app_by (s:=s5) (new:=xs.drop (j + 1)) hs ((rd_sub (s:=s0) (E:=pcR) (rows:=xs) (lo:=j + 1) (c:=s0.c) (k:=s0.n - (j + 1)) (n:=(s0.n - (j + 1)) * 2) hs (by omega) (by omega) rfl).trans (by rw [List.take_of_length_le (by simp; omega)])) (by simp [hn]) (okC_flat _) rfl (by decide) (by simp; omega) fun s6 w hs6 hs=>?_
 refine ⟨s6,rfl,?_⟩
 rw [List.eraseIdx_eq_take_drop_succ]
 exact hs
theorem q12_New (hs:Sat W w L) {r:Int}:Rts Tryz.prog 102 #[.int .i64 r] w fun v w'=>∃ b,v = .pointer (some ⟨b,0,none⟩) /\ Sat W w' (e12 b (roomR r) []::L):=by
 refine cw f102_ok f102_raw ?_
 rw [room_eq]
 refine newB_at hs fun b w hs=>⟨b,rfl,?_⟩
 have hs:=Sat.nilR pcR hs
 have hs:=Sat.nilR pcR hs
 have hs:=Sat.nilR Rec.str hs
 have hr:=roomR_in r
 exact e12_shut (s:=[]) (m:=[]) (g:=[]) ⟨rfl,EOk.nil hr.1 hr.2,by simp,by simp,by simp⟩ (t12_shut ⟨none,0,0⟩ ⟨none,0,0⟩ ⟨none,0,0⟩ (by exact Sat.fin hs))
theorem q12_Room (hs:Sat W w (e12 b c R::M)):Rts Tryz.prog 80 #[.pointer (some ⟨b,0,none⟩)] w fun v w'=>v = .int .i64 c /\ Sat W w' (e12 b c R::M):=by
 refine cw f80_ok f80_raw ?_
 obtain ⟨s,m,g,ht,hs⟩:=e12_open hs
 obtain ⟨s1,s2,s3,hl,hs⟩:=t12_open hs
 repeat (first | with_reducible refine nilck_some ?_ | ((with_reducible refine atLd ?_); first | refine ld_b hs ?_ | refine ld_b (x:=⟨_,_,_⟩) hs ?_ | refine ld_r0 hs ?_ | refine ld_r1 hs ?_ | refine ld_rd0 ha_ hs ?_ | refine ld_rd1 ha_ hs ?_) | ((with_reducible refine isSt ?_); first | refine st_b hs fun w hs=>?_ | refine st_r0 hs fun w hs=>?_ | refine st_r1 hs fun w hs=>?_) | ((with_reducible refine isIdx ?_); first | refine idx_s hs fun b_ o_ hs=>?_ | refine idx_rd hs fun b_ o_ ha_=>?_) | with_reducible refine newB_at hs fun b_ w hs=>?_ | ((with_reducible refine isLdS ?_); first | refine ldS_b ?_ | refine ldS_b (x:=⟨_,_,_⟩) ?_ | refine ldS_rs0 hs ?_ | refine ldS_rd0 ha_ ?_) | ((with_reducible refine isKeep ?_); first | refine keep_of hs ?_ | refine keep_imp hs ?_) | with_reducible refine when_om ?_ | with_reducible refine drawW_sat hs fun w hs=>?_)
 exact ⟨rfl,e12_shut ht (t12_shut s1 s2 s3 (by exact Sat.fin hs))⟩
theorem q12_Len0 {s1 s2 s3:Sl} (hl:s1.n + s2.n <= 100000) (hs:Sat W w (cP b s1 s2 s3 c::M)):Rts Tryz.prog 170 #[.pointer (some ⟨b,0,none⟩)] w fun v w'=>v = .int .i64 ((s1.n:Int) + s2.n) /\ Sat W w' (cP b s1 s2 s3 c::M):=by
 refine cw f170_ok f170_raw ?_
 refine drawW_only [cP b s1 s2 s3 c] hs fun w hs=>?_
 refine nilck_some (ldS_b (x:=s1) (nilck_some (ld_b (x:=s2) hs ?_)))
 refine keep_imp hs ?_
 rw [i64_in _ (by omega)]
 exact ⟨rfl,hs⟩
theorem q12_Len (hs:Sat W w (e12 b c R::M)):Rts Tryz.prog 170 #[.pointer (some ⟨b,0,none⟩)] w fun v w'=>v = .int .i64 (R.length:Int) /\ Sat W w' (e12 b c R::M):=by
 obtain ⟨s,m,g,ht,hs⟩:=e12_open hs
 obtain ⟨s1,s2,s3,hl,hs⟩:=t12_open hs
 have hr:=ht.ok.room; have hc2:=ht.ok.c2; have hll:=ht.len
 refine (q12_Len0 (by omega) hs).mono fun v w ⟨hv,hs⟩=>⟨?_,e12_shut ht (t12_shut s1 s2 s3 hs)⟩
 rw [hv,hl.1.1,hl.2.1.1,hll]; congr 1
theorem q12_Has (hs:Sat W w (e12 b c R::M)):Rts Tryz.prog 155 #[.pointer (some ⟨b,0,none⟩),.string key] w fun v w'=>v = .bool (decide (key ∈ R)) /\ Sat W w' (e12 b c R::M):=by
 refine cw f155_ok f155_raw ?_
 obtain ⟨s,m,g,ht,hs⟩:=e12_open hs
 obtain ⟨s1,s2,s3,hl,hs⟩:=t12_open hs
 have hr:=ht.ok.room; have hc2:=ht.ok.c2; have hll:=ht.len
 have hR:=ht.eq
 have mem:∀ {l:PL} {j:Nat},j < l.length -> (l.getD j default).1 = key -> key ∈ pk l:=fun hj he=>he ▸ List.mem_map_of_mem (getD_mem hj)
 refine nilck_some (ld_b (x:=s1) hs ?_)
 refine call1_ret (q12_at (s0:=s1) (xs:=s) hs (by omega)) fun v w ⟨i,hv,hi,hs⟩=>⟨i,hv,?_⟩
 rcases hi with ⟨rfl,h1⟩ | ⟨j,rfl,hj,he⟩
 ·refine ite_false rfl ?_
  refine nilck_some (ld_b (x:=s2) hs ?_)
  refine call1_ret (q12_at (s0:=s2) (xs:=m) hs (by omega)) fun v w ⟨i,hv,hi,hs⟩=>⟨i,hv,?_⟩
  refine ⟨?_,e12_shut ht (t12_shut s1 s2 s3 (by exact Sat.fin hs))⟩
  rcases hi with ⟨rfl,h2⟩ | ⟨j,rfl,hj,he⟩
  ·rw [decide_eq_false (show key ∉ R by rw [hR,List.mem_append]; exact fun h=>h.elim h1 h2)]; rfl
  ·rw [decide_eq_true (show key ∈ R by rw [hR]; exact List.mem_append_right _ (mem hj he)),decide_eq_true (by omega)]
 ·refine ite_true (decide_eq_true (by omega)) ?_
  refine ⟨?_,e12_shut ht (t12_shut s1 s2 s3 (by exact Sat.fin hs))⟩
  rw [decide_eq_true (show key ∈ R by rw [hR]; exact List.mem_append_left _ (mem hj he))]
theorem pSmall_in (hc1:1 <= c) (hc2:c <= 1024):1 <= pSmall c /\ pSmall c <= 1024:=by unfold pSmall; omega
theorem q12_small {s1 s2 s3:Sl} (hc1:1 <= c) (hc2:c <= 1024) (hs:Sat W w (cP b s1 s2 s3 c::M)):Rts Tryz.prog 171 #[.pointer (some ⟨b,0,none⟩)] w fun v w'=>v = .int .i64 (pSmall c) /\ Sat W w' (cP b s1 s2 s3 c::M):=by
 refine cw f171_ok f171_raw ?_
 refine nilck_some (ld_b hs ?_)
 refine when_of (by decide) ?_
 rw [Int.tdiv_eq_ediv_of_nonneg (by omega),i64_in _ (by omega)]
 refine ⟨?_,hs⟩
 congr 1
 unfold pSmall
 split <;> omega
theorem q12_ghost (hc1:1 <= c) (hc2:c <= 1024) (hg:g.length <= 1024) (hs:Sat W w (t12 b c s m g::M)):Rts Tryz.prog 173 #[.pointer (some ⟨b,0,none⟩),.string key] w fun v w'=>v = .tuple #[] /\ ∃ g',g'.length <= 1024 /\ Sat W w' (t12 b c s m g'::M):=by
 refine cw f173_ok f173_raw ?_
 obtain ⟨s1,s2,s3,hl,hs⟩:=t12_open hs
 have hsm:=pSmall_in hc1 hc2
 refine newB_at hs fun nb w hs=>?_
 refine nilck_some (ld_b (x:=s3) hs ?_)
 refine app_own (b:=nb) (cs:=[]) (rows:=[]) (new:=g) hs Rec.str rfl rfl (rd_rdb (s:=s3) hs) hl.2.2.1 (okC_flat _) rfl (by decide) (by simp; omega) fun s5 w h5 hs=>?_
 have hs:Sat W w (recs Rec.str s5 g::cP b s1 s2 s3 c::recs pcR s1 s::recs pcR s2 m::recs Rec.str s3 g::M):=hs
 refine newB_at hs fun nb2 w hs=>?_
 refine app_one (s:=s5) (a:=key) hs rfl rfl rfl rfl (by decide) (by omega) fun s6 w hs6 hs=>?_
 refine nilck_some (st_b hs fun w hs=>?_)
 have hs:Sat W w (cP b s1 s2 s6 c::recs pcR s1 s::recs pcR s2 m::recs Rec.str s6 (g ++ [key])::M):=by exact Sat.fin hs
 have loop:∀ (f:Nat) (w:World) (s3:Sl) (g:BL),g.length <= f + 1 -> g.length <= 1025 -> Sat W w (cP b s1 s2 s3 c::recs pcR s1 s::recs pcR s2 m::recs Rec.str s3 g::M) ->
   f173_l1 idJ (fun v w'=>v = .tuple #[] /\ ∃ g',g'.length <= 1024 /\ Sat W w' (t12 b c s m g'::M)) (f + 1) (some ⟨b,0,none⟩) w:=by
  clear hs hl
  intro f
  induction f with
  | zero=>
   intro w s3 g hf hg hs
   rw [f173_l1_raw]
   have hn:=(recs_len (s:=s3) hs).1
   refine drawW_only [cP b s1 s2 s3 c] hs fun w hs=>?_
   refine nilck_some (ldS_b (x:=s3) (nilck_some (ldS_b ?_)))
   refine call1_ret (q12_small hc1 hc2 hs) fun v w ⟨hv,hs⟩=>⟨_,hv,keep_imp hs ?_⟩
   rw [i64_in _ (by omega)]
   refine ite_false (decide_eq_false (by split <;> omega)) ?_
   exact ⟨rfl,g,by omega,t12_shut s1 s2 s3 hs⟩
  | succ f ih=>
   intro w s3 g hf hg hs
   rw [f173_l1_raw]
   have hn:=(recs_len (s:=s3) hs).1
   refine drawW_only [cP b s1 s2 s3 c] hs fun w hs=>?_
   refine nilck_some (ldS_b (x:=s3) (nilck_some (ldS_b ?_)))
   refine call1_ret (q12_small hc1 hc2 hs) fun v w ⟨hv,hs⟩=>⟨_,hv,keep_imp hs ?_⟩
   rw [i64_in _ (by omega)]
   with_reducible refine ite_by (fun h1=>?_) (fun h1=>?_)
   ·have h2:1 < g.length:=by split at h1 <;> omega
    refine nilck_some (ld_b (x:=s3) hs ?_)
    refine when_of (by omega) ?_
    refine nilck_some (st_b hs fun w hs=>?_)
    have hs:=cut1 (s:=s3) hs (by omega)
    exact ih w ⟨subA s3.a (((1:Int)).toNat) s3.c 1,s3.n - ((1:Int)).toNat,s3.c - ((1:Int)).toNat⟩ (g.drop 1) (by simp; omega) (by simp; omega) (by exact Sat.fin hs)
   ·exact ⟨rfl,g,by split at h1 <;> omega,t12_shut s1 s2 s3 hs⟩
 exact exM_of _ (loop (g ++ [key]).length w s6 (g ++ [key]) (by omega) (by simp; omega) hs)
def pSum (m:PL):Nat:=(m.map fun e=>e.2.toNat).sum
set_option maxRecDepth 100000 in
theorem q12_fromM (hm0:0 < m.length) (hm1:m.length <= 1024) (hcm:∀ e ∈ m,0 <= e.2 /\ e.2 <= 3) (hs:Sat W w (t12 b c s m g::M)):Rts Tryz.prog 174 #[.pointer (some ⟨b,0,none⟩)] w fun v w'=>∃ (x:ByteArray) (m':PL),v = .string x /\ (pk m).Perm (x::pk m') /\ (∀ e ∈ m',0 <= e.2 /\ e.2 <= 3) /\ Sat W w' (t12 b c s m' g::M):=by
 refine cw f174_ok f174_raw ?_
 have loop:∀ (f:Nat) (w:World) (q:PL),pSum q <= f -> q.length = m.length -> (pk q).Perm (pk m) -> (∀ e ∈ q,0 <= e.2 /\ e.2 <= 3) -> Sat W w (t12 b c s q g::M) ->
   f174_l1 idJ (fun v w'=>∃ (x:ByteArray) (m':PL),v = .string x /\ (pk m).Perm (x::pk m') /\ (∀ e ∈ m',0 <= e.2 /\ e.2 <= 3) /\ Sat W w' (t12 b c s m' g::M)) (f + 1) (some ⟨b,0,none⟩) w:=by
  clear hs
  intro f
  induction f with
  | zero=>
   intro w q hf hl hp hc hs
   rw [f174_l1_raw]
   obtain ⟨s1,s2,s3,hsl,hs⟩:=t12_open hs
   obtain ⟨e,t,rfl⟩:∃ e t,q = e::t:=by
    cases q with
    | nil=>simp at hl; omega
    | cons e t=>exact ⟨e,t,rfl⟩
   refine nilck_some (ld_b (x:=s2) hs ?_)
   refine idx_rd hs fun b_ o_ ha_=>?_
   refine ld_rd0 ha_ hs (ld_rd1 ha_ hs ?_ (hc:=rfl)) (hc:=rfl)
   refine newB_at hs fun nb w hs=>?_
   refine st_b hs fun w hs=>?_
   refine st_b hs fun w hs=>?_
   refine nilck_some (ld_b (x:=s2) hs ?_)
   refine call1_ret (q12_without (s0:=s2) (xs:=e::t) (j:=0) hs (by omega) (by simp) hsl.2.1.2) fun v w ⟨l,hv,hs⟩=>⟨_,hv,?_⟩
   refine nilck_some (st_b hs fun w hs=>?_)
   refine ld_b hs ?_
   have h0:e.2 = 0:=by
    have h1:=hc e (.head _)
    unfold pSum at hf
    simp only [List.map_cons,List.sum_cons] at hf
    omega
   have e1:((e::t).getD (Int.toNat 0) default) = e:=rfl
   rw [e1]
   refine ite_true (by rw [h0]; rfl) ?_
   refine ld_b hs ?_
   exact ⟨e.1,t,rfl,hp.symm,fun x hx=>hc x (.tail _ hx),t12_shut s1 l s3 (m:=t) (by have e2:(e::t).eraseIdx 0 = t:=rfl; rw [e2] at hs; exact Sat.fin hs)⟩
  | succ f ih=>
   intro w q hf hl hp hc hs
   rw [f174_l1_raw]
   obtain ⟨s1,s2,s3,hsl,hs⟩:=t12_open hs
   obtain ⟨e,t,rfl⟩:∃ e t,q = e::t:=by
    cases q with
    | nil=>simp at hl; omega
    | cons e t=>exact ⟨e,t,rfl⟩
   refine nilck_some (ld_b (x:=s2) hs ?_)
   refine idx_rd hs fun b_ o_ ha_=>?_
   refine ld_rd0 ha_ hs (ld_rd1 ha_ hs ?_ (hc:=rfl)) (hc:=rfl)
   refine newB_at hs fun nb w hs=>?_
   refine st_b hs fun w hs=>?_
   refine st_b hs fun w hs=>?_
   refine nilck_some (ld_b (x:=s2) hs ?_)
   refine call1_ret (q12_without (s0:=s2) (xs:=e::t) (j:=0) hs (by omega) (by simp) hsl.2.1.2) fun v w ⟨l,hv,hs⟩=>⟨_,hv,?_⟩
   refine nilck_some (st_b hs fun w hs=>?_)
   refine ld_b hs ?_
   have e1:((e::t).getD (Int.toNat 0) default) = e:=rfl
   rw [e1] at hs ⊢
   have e2:(e::t).eraseIdx 0 = t:=rfl
   rw [e2] at hs
   with_reducible refine ite_by (fun h0=>?_) (fun h0=>?_)
   ·refine ld_b hs ?_
    exact ⟨e.1,t,rfl,hp.symm,fun x hx=>hc x (.tail _ hx),t12_shut s1 l s3 (m:=t) (by exact Sat.fin hs)⟩
   ·have h1:=hc e (.head _)
    have hlt:t.length + 1 = m.length:=by simpa using hl
    refine drawW_only [cP b s1 l s3 c,blk nb [.string e.1,.int .i64 e.2]] hs fun w hs=>?_
    refine nilck_some (ldS_b (x:=l) (ldS_b (ld_b hs (keep_imp hs ?_))))
    refine newB_at hs fun nb2 w hs=>keep_imp hs ?_
    rw [i64_in (e.2 - 1) (by omega)] at hs
    refine app_one (s:=l) (a:=((e.1,e.2 - 1):ByteArray × Int)) hs rfl rfl rfl rfl (by decide) (by omega) fun s5 w hs5 hs=>?_
    refine nilck_some (st_b hs fun w hs=>?_)
    refine ih w (t ++ [(e.1,e.2 - 1)]) ?_ (by simpa using hl) ?_ ?_ (t12_shut s1 s5 s3 (by exact Sat.fin hs))
    ·unfold pSum at hf ⊢
     simp only [List.map_cons,List.sum_cons,List.map_append,List.sum_append,List.map_nil,List.sum_nil] at hf ⊢
     omega
    ·rw [pk_app]
     exact List.perm_append_comm.trans hp
    ·intro x hx
     rcases List.mem_append.1 hx with hx | hx
     ·exact hc x (.tail _ hx)
     ·rw [List.mem_singleton] at hx; subst hx; simp only; omega
 exact exM_of _ (loop (pSum m) w m (Nat.le_refl _) rfl (List.Perm.refl _) hcm hs)
set_option maxRecDepth 100000 in
theorem q12_Evict (hs:Sat W w (e12 b c R::M)):Rts Tryz.prog 123 #[.pointer (some ⟨b,0,none⟩)] w fun v w'=>∃ x yes S,v = .tuple #[.string x,.bool yes] /\ EvR c R x yes S /\ Sat W w' (e12 b c S::M):=by
 refine cw f123_ok f123_raw ?_
 refine call1_ret (q12_Len hs) fun v w ⟨hv,hs⟩=>⟨_,hv,?_⟩
 have hk:=e12_ok hs
 have hr:=hk.room; have hc2:=hk.c2; have hc1:=hk.c1
 have hsm:=pSmall_in hc1 hc2
 with_reducible refine ite_by (fun h0=>?_) (fun h0=>?_)
 ·exact ⟨_,_,_,rfl,EvR.none hk (by omega),hs⟩
 obtain ⟨s,m,g,ht,hs⟩:=e12_open hs
 have hll:=ht.len
 have j3:∀ (w:World) (s m:PL) (g:BL),(pk s ++ pk m).Perm R -> g.length <= 1024 -> (∀ e ∈ s,0 <= e.2 /\ e.2 <= 3) -> (∀ e ∈ m,0 <= e.2 /\ e.2 <= 3) -> 0 < m.length -> Sat W w (t12 b c s m g::M) ->
   f123_j3 idJ (fun v w'=>∃ x yes S,v = .tuple #[.string x,.bool yes] /\ EvR c R x yes S /\ Sat W w' (e12 b c S::M)) (some ⟨b,0,none⟩) w:=by
  clear hs ht hll
  intro w s m g hp hg hcs hcm hm0 hs
  refine jw f123_j3_raw ?_
  have hpl:=hp.length_eq
  simp only [List.length_append,pk_len] at hpl
  refine call1_ret (q12_fromM hm0 (by omega) hcm hs) fun v w ⟨x,m',hv,hpx,hcm',hs⟩=>⟨_,hv,?_⟩
  have hev:EvR c R x true (pk s ++ pk m'):=EvR.of_perm hk (hp.symm.trans ((hpx.append_left (pk s)).trans List.perm_middle))
  exact ⟨_,_,_,rfl,hev,e12_shut ⟨rfl,hev.ok,hg,hcs,hcm'⟩ hs⟩
 have loop:∀ (f:Nat) (w:World) (s m:PL),s.length = f -> (pk s ++ pk m).Perm R -> (∀ e ∈ s,0 <= e.2 /\ e.2 <= 3) -> (∀ e ∈ m,0 <= e.2 /\ e.2 <= 3) -> Sat W w (t12 b c s m g::M) ->
   f123_l2 idJ (fun v w'=>∃ x yes S,v = .tuple #[.string x,.bool yes] /\ EvR c R x yes S /\ Sat W w' (e12 b c S::M)) (f + 1) (some ⟨b,0,none⟩) w:=by
  clear hs
  have hg:=ht.gh
  clear ht hll
  intro f
  induction f with
  | zero=>
   intro w s m hf hp hcs hcm hs
   rw [f123_l2_raw]
   have hpl:=hp.length_eq
   simp only [List.length_append,pk_len] at hpl
   obtain ⟨s1,s2,s3,hsl,hs⟩:=t12_open hs
   refine nilck_some (ld_b (x:=s1) hs ?_)
   refine ite_false (decide_eq_false (by omega)) ?_
   exact j3 w s m g hp hg hcs hcm (by omega) (t12_shut s1 s2 s3 hs)
  | succ f ih=>
   intro w s m hf hp hcs hcm hs
   rw [f123_l2_raw]
   have hpl:=hp.length_eq
   simp only [List.length_append,pk_len] at hpl
   obtain ⟨s1,s2,s3,hsl,hs⟩:=t12_open hs
   obtain ⟨e,t,rfl⟩:∃ e t,s = e::t:=by
    cases s with
    | nil=>simp at hf
    | cons e t=>exact ⟨e,t,rfl⟩
   refine nilck_some (ld_b (x:=s1) hs ?_)
   refine ite_true (decide_eq_true (by omega)) ?_
   refine nilck_some (ld_b (x:=s1) hs ?_)
   refine idx_rd hs fun b_ o_ ha_=>?_
   refine ld_rd0 ha_ hs (ld_rd1 ha_ hs ?_ (hc:=rfl)) (hc:=rfl)
   refine newB_at hs fun nb w hs=>?_
   refine st_b hs fun w hs=>?_
   refine st_b hs fun w hs=>?_
   refine nilck_some (ld_b (x:=s1) hs ?_)
   refine call1_ret (q12_without (s0:=s1) (xs:=e::t) (j:=0) hs (by omega) (by simp) hsl.1.2) fun v w ⟨l,hv,hs⟩=>⟨_,hv,?_⟩
   refine nilck_some (st_b hs fun w hs=>?_)
   refine ld_b hs ?_
   have e1:((e::t).getD (Int.toNat 0) default) = e:=rfl
   rw [e1] at hs ⊢
   have e2:(e::t).eraseIdx 0 = t:=rfl
   rw [e2] at hs
   have hct:∀ x ∈ t,0 <= x.2 /\ x.2 <= 3:=fun x hx=>hcs x (.tail _ hx)
   with_reducible refine ite_by (fun h0=>?_) (fun h0=>?_)
   ·refine ld_b hs ?_
    have hs:Sat W w (t12 b c t m g::blk nb [.string e.1,.int .i64 e.2]::M):=t12_shut l s2 s3 (by exact Sat.fin hs)
    refine call0_ret (q12_ghost hc1 hc2 hg hs) fun v w ⟨hv,g',hg',hs⟩=>⟨hv,?_⟩
    refine ld_b hs ?_
    have hev:EvR c R e.1 true (pk t ++ pk m):=EvR.of_perm hk hp.symm
    exact ⟨_,_,_,rfl,hev,e12_shut ⟨rfl,hev.ok,hg',hct,hcm⟩ (by exact Sat.fin hs)⟩
   ·refine drawW_only [cP b l s2 s3 c] hs fun w hs=>?_
    refine nilck_some (ldS_b (x:=s2) (ld_b hs (keep_imp hs ?_)))
    refine newB_at hs fun nb2 w hs=>keep_imp hs ?_
    refine app_one (s:=s2) (a:=((e.1,0):ByteArray × Int)) hs rfl rfl rfl rfl (by decide) (by omega) fun s5 w hs5 hs=>?_
    refine nilck_some (st_b hs fun w hs=>?_)
    refine ih w t (m ++ [(e.1,0)]) (by simpa using hf) ?_ hct ?_ (t12_shut l s5 s3 (by exact Sat.fin hs))
    ·rw [pk_app]
     exact (perm_snoc2 (k:=e.1) (i:=pk t) (a:=pk m)).trans hp
    ·intro x hx
     rcases List.mem_append.1 hx with hx | hx
     ·exact hcm x hx
     ·rw [List.mem_singleton] at hx; subst hx; simp only; omega
 have hp:(pk s ++ pk m).Perm R:=by rw [ht.eq]
 have fin:∀ (w:World) (t:Bool),(t = false -> 0 < m.length) -> Sat W w (t12 b c s m g::M) -> f123_j1 idJ (fun v w'=>∃ x yes S,v = .tuple #[.string x,.bool yes] /\ EvR c R x yes S /\ Sat W w' (e12 b c S::M)) (some ⟨b,0,none⟩) t w:=by
  clear hs
  intro w t h1 hs
  refine jw f123_j1_raw ?_
  cases t with
  | true=>exact ite_true rfl (exM_of _ (loop _ w s m rfl hp ht.cs ht.cm hs))
  | false=>exact ite_false rfl (j3 w s m g hp ht.gh ht.cs ht.cm (h1 rfl) hs)
 obtain ⟨s1,s2,s3,hsl,hs⟩:=t12_open hs
 refine drawW_only [cP b s1 s2 s3 c] hs fun w hs=>?_
 refine nilck_some (ldS_b (x:=s1) ?_)
 refine call1_ret (q12_small hc1 hc2 hs) fun v w ⟨hv,hs⟩=>⟨_,hv,keep_imp hs ?_⟩
 with_reducible refine ite_by (fun h1=>?_) (fun h1=>?_)
 ·exact fin w true (fun h=>by cases h) (t12_shut s1 s2 s3 hs)
 ·refine nilck_some (ld_b (x:=s2) hs ?_)
  refine fin w _ (fun h=>?_) (t12_shut s1 s2 s3 hs)
  rw [beq_eq_false_iff_ne] at h; omega
set_option maxRecDepth 100000 in
theorem q12_known (hg:g.length <= 1024) (hs:Sat W w (t12 b c s m g::M)):Rts Tryz.prog 194 #[.pointer (some ⟨b,0,none⟩),.string key] w fun v w'=>∃ (t:Bool) (g':BL),v = .bool t /\ g'.length <= 1024 /\ Sat W w' (t12 b c s m g'::M):=by
 refine cw f194_ok f194_raw ?_
 obtain ⟨s1,s2,s3,hsl,hs⟩:=t12_open hs
 have hs:=Sat.nilR Rec.str hs
 have loop:∀ (f i:Nat) (w:World) (acc:Sl) (r:BL),i + f = g.length -> r.length <= i -> Sat W w (recs Rec.str acc r::cP b s1 s2 s3 c::recs pcR s1 s::recs pcR s2 m::recs Rec.str s3 g::M) ->
   f194_l1 idJ (fun v w'=>∃ (t:Bool) (g':BL),v = .bool t /\ g'.length <= 1024 /\ Sat W w' (t12 b c s m g'::M)) (f + 1) (some ⟨b,0,none⟩) key acc (i:Int) w:=by
  clear hs
  intro f
  induction f with
  | zero=>
   intro i w acc r hi hr hs
   rw [f194_l1_raw]
   refine nilck_some (ld_b (x:=s3) hs ?_)
   refine ite_false (decide_eq_false (by omega)) ?_
   refine jw f194_j2_raw ?_
   refine nilck_some (ld_b (x:=s3) hs ?_)
   refine nilck_some (st_b hs fun w hs=>?_)
   exact ⟨_,r,rfl,by omega,t12_shut s1 s2 acc (by exact Sat.fin hs)⟩
  | succ f ih=>
   intro i w acc r hi hr hs
   rw [f194_l1_raw]
   refine nilck_some (ld_b (x:=s3) hs ?_)
   refine ite_true (decide_eq_true (by omega)) ?_
   refine nilck_some (ld_b (x:=s3) hs ?_)
   refine idx_rd (s:=s3) hs fun b_ o_ ha_=>?_
   refine ld_rd0 ha_ hs ?_
   have hw:IntKind.wrap .i64 ((i:Int) + 1) = ((i + 1:Nat):Int):=by rw [i64_in _ (by omega)]; omega
   refine ite_cases (fun _=>?_) (fun _=>?_)
   ·refine nilck_some (ld_b (x:=s3) hs ?_)
    refine idx_rd (s:=s3) hs fun b_ o_ ha_=>?_
    refine ld_rd0 ha_ hs ?_
    refine newB_at hs fun nb w hs=>?_
    refine app_one (s:=acc) (a:=g.getD ((i:Int)).toNat default) hs rfl rfl rfl rfl (by decide) (by omega) fun s5 w hs5 hs=>?_
    rw [hw]
    exact ih (i + 1) w s5 (r ++ [g.getD ((i:Int)).toNat default]) (by omega) (by simp; omega) (by exact Sat.fin hs)
   ·rw [hw]
    exact ih (i + 1) w acc r (by omega) (by omega) hs
 exact exM_of _ (loop g.length 0 w ⟨none,0,0⟩ [] (by omega) (by simp) hs)
theorem pc_app {m:PL} (h:∀ e ∈ m,0 <= e.2 /\ e.2 <= 3):∀ e ∈ m ++ [(key,(0:Int))],0 <= e.2 /\ e.2 <= 3:=by
 intro x hx
 rcases List.mem_append.1 hx with hx | hx
 ·exact h x hx
 ·rw [List.mem_singleton] at hx; subst hx; simp only; omega
set_option maxRecDepth 100000 in
theorem q12_fresh (hR:EOk c R) (hno:key ∉ R) (hz:key.size < 64) {l:Sl} {gn S:BL} (hrec:RecR c R gn S) (hs:Sat W w (recs Rec.str l gn::e12 b c S::M)):f128_j2 idJ (fun v w'=>∃ (hit:Bool) (l:Sl) (g S:BL),v = .tuple #[.bool hit,.slice l.a l.n l.c] /\ AccR c R key hit g S /\ Sat W w' (recs Rec.str l g::e12 b c S::M)) (some ⟨b,0,none⟩) key l w:=by
 refine jw f128_j2_raw ?_
 have hs:Sat W w (e12 b c S::recs Rec.str l gn::M):=by exact Sat.fin hs
 obtain ⟨s,m,g,ht,hs⟩:=e12_open hs
 have hr:=ht.ok.room; have hc2:=ht.ok.c2; have hll:=ht.len
 refine call1_ret (q12_known ht.gh hs) fun v w ⟨t,g',hv,hg',hs⟩=>⟨_,hv,?_⟩
 obtain ⟨s1,s2,s3,hsl,hs⟩:=t12_open hs
 refine ite_cases (fun _=>?_) (fun _=>?_)
 ·refine nilck_some (ld_b (x:=s2) hs ?_)
  refine newB_at hs fun nb w hs=>?_
  refine app_one (s:=s2) (a:=((key,0):ByteArray × Int)) hs rfl rfl rfl rfl (by decide) (by omega) fun s5 w hs5 hs=>?_
  refine nilck_some (st_b hs fun w hs=>?_)
  have ha:=AccR.miss hR hno hz hrec (T:=pk s ++ pk (m ++ [(key,0)])) (by rw [ht.eq,pk_app]; exact perm_snoc2)
  have hs:=e12_shut (s:=s) (m:=m ++ [(key,0)]) (g:=g') ⟨rfl,ha.ok,hg',ht.cs,pc_app ht.cm⟩ (t12_shut s1 s5 s3 (M:=recs Rec.str l gn::M) (by exact Sat.fin hs))
  exact ⟨false,l,gn,_,rfl,ha,by exact Sat.fin hs⟩
 ·refine nilck_some (ld_b (x:=s1) hs ?_)
  refine newB_at hs fun nb w hs=>?_
  refine app_one (s:=s1) (a:=((key,0):ByteArray × Int)) hs rfl rfl rfl rfl (by decide) (by omega) fun s5 w hs5 hs=>?_
  refine nilck_some (st_b hs fun w hs=>?_)
  have ha:=AccR.miss hR hno hz hrec (T:=pk (s ++ [(key,0)]) ++ pk m) (by rw [ht.eq,pk_app]; exact perm_snoc1)
  have hs:=e12_shut (s:=s ++ [(key,0)]) (m:=m) (g:=g') ⟨rfl,ha.ok,hg',pc_app ht.cs,ht.cm⟩ (t12_shut s5 s2 s3 (M:=recs Rec.str l gn::M) (by exact Sat.fin hs))
  exact ⟨false,l,gn,_,rfl,ha,by exact Sat.fin hs⟩
theorem pc_set {m:PL} {i:Nat} {k:ByteArray} {n:Int} (h:∀ e ∈ m,0 <= e.2 /\ e.2 <= 3) (hn:0 <= n /\ n <= 3):∀ e ∈ m.set i (k,n),0 <= e.2 /\ e.2 <= 3:=by
 intro x hx
 rcases List.mem_or_eq_of_mem_set hx with hx | hx
 ·exact h x hx
 ·subst hx; exact hn
set_option maxRecDepth 100000 in
theorem q12_Access (hs:Sat W w (e12 b c R::M)) (hz:key.size < 64):Rts Tryz.prog 128 #[.pointer (some ⟨b,0,none⟩),.string key] w fun v w'=>∃ (hit:Bool) (l:Sl) (g S:BL),v = .tuple #[.bool hit,.slice l.a l.n l.c] /\ AccR c R key hit g S /\ Sat W w' (recs Rec.str l g::e12 b c S::M):=by
 refine cw f128_ok f128_raw ?_
 obtain ⟨s,m,g,ht,hs⟩:=e12_open hs
 obtain ⟨s1,s2,s3,hl,hs⟩:=t12_open hs
 have hk:=ht.ok; have hr:=hk.room; have hc2:=hk.c2; have hc1:=hk.c1; have hll:=ht.len
 have hR:=ht.eq
 have mem:∀ {l:PL} {j:Nat},j < l.length -> (l.getD j default).1 = key -> key ∈ pk l:=fun hj he=>he ▸ List.mem_map_of_mem (getD_mem hj)
 refine drawW_only [cP b s1 s2 s3 c] hs fun w hs=>?_
 refine nilck_some (ldS_b (x:=s1) (nilck_some (ldS_b (x:=s2) ?_)))
 refine call1_ret (q12_at (s0:=s1) (xs:=s) hs (by omega)) fun v w ⟨i,hv,hi,hs⟩=>⟨i,hv,keep_imp hs ?_⟩
 refine call1_ret (q12_at (s0:=s2) (xs:=m) hs (by omega)) fun v w ⟨k,hv,hk2,hs⟩=>⟨k,hv,?_⟩
 rcases hi with ⟨rfl,h1⟩ | ⟨j,rfl,hj,he⟩
 ·refine ite_false rfl ?_
  rcases hk2 with ⟨rfl,h2⟩ | ⟨j,rfl,hj,he⟩
  ·refine ite_false rfl ?_
   have hno:key ∉ R:=by rw [hR,List.mem_append]; exact fun h=>h.elim h1 h2
   have hs:=Sat.nilR Rec.str hs
   have hs:Sat W w (cP b s1 s2 s3 c::recs pcR s1 s::recs pcR s2 m::recs Rec.str s3 g::recs Rec.str ⟨none,0,0⟩ []::M):=by exact Sat.fin hs
   have last:∀ (w:World) (l:Sl) (gn S:BL) (f:Nat),RecR c R gn S -> (S.length:Int) < c -> Sat W w (e12 b c S::recs Rec.str l gn::M) ->
     f128_l1 idJ (fun v w'=>∃ (hit:Bool) (l:Sl) (g S:BL),v = .tuple #[.bool hit,.slice l.a l.n l.c] /\ AccR c R key hit g S /\ Sat W w' (recs Rec.str l g::e12 b c S::M)) (f + 1) (some ⟨b,0,none⟩) key l w:=by
    clear hs
    intro w l gn S f hrec hlt hs
    rw [f128_l1_raw]
    refine drawW_only [e12 b c S] hs fun w hs=>?_
    refine nilck_some (ldS_by (k:=.int .i64) c (fun w' h=>e12_cap h) ?_)
    refine call1_ret (q12_Len hs) fun v w ⟨hv,hs⟩=>⟨_,hv,keep_imp hs ?_⟩
    refine ite_false (decide_eq_false (by omega)) ?_
    exact q12_fresh hk hno hz hrec (by exact Sat.fin hs)
   have hs:=e12_shut ht (t12_shut s1 s2 s3 hs)
   by_cases hfull:(R.length:Int) < c
   ·exact exM_of 1 (last w _ [] R 0 (.inl ⟨rfl,rfl,hfull⟩) hfull hs)
   ·refine exM_of 2 ?_
    rw [f128_l1_raw]
    refine drawW_only [e12 b c R] hs fun w hs=>?_
    refine nilck_some (ldS_by (k:=.int .i64) c (fun w' h=>e12_cap h) ?_)
    refine call1_ret (q12_Len hs) fun v w ⟨hv,hs⟩=>⟨_,hv,keep_imp hs ?_⟩
    refine ite_true (decide_eq_true (by omega)) ?_
    refine call2_ret (q12_Evict hs) fun v w ⟨x,yes,S,hv,hev,hs⟩=>⟨_,_,hv,?_⟩
    have hy:yes = true:=by rw [hev.says]; exact decide_eq_true (by omega)
    subst hy
    have hpl:=(hev.perm hk).length_eq
    simp only [List.length_cons] at hpl
    refine newB_at hs fun nb w hs=>?_
    have hs:Sat W w (recs Rec.str ⟨none,0,0⟩ []::blk nb [.string x]::e12 b c S::M):=by exact Sat.fin hs
    refine app_one (s:=⟨none,0,0⟩) (a:=x) hs rfl rfl rfl rfl (by decide) (by simp) fun s5 w hs5 hs=>?_
    have hs:Sat W w (recs Rec.str s5 [x]::blk nb [.string x]::e12 b c S::M):=hs
    exact last w s5 [x] S 0 (.inr ⟨x,rfl,hev,hfull⟩) (by omega) (by exact Sat.fin hs)
  ·refine ite_true (decide_eq_true (by omega)) ?_
   refine drawW_only [cP b s1 s2 s3 c] hs fun w hs=>?_
   refine nilck_some (ldS_b (x:=s2) (nilck_some (ld_b (x:=s2) hs (keep_imp hs ?_))))
   refine idx_s hs fun b_ o_ hs=>?_
   refine ld_r1 hs (keep_imp hs ?_)
   refine idx_a hs ?_
   refine st_r1 hs fun w hs=>?_
   have hs:=Sat.shut s2 hs
   rw [Int.toNat_natCast] at hs
   have hb:=ht.cm _ (getD_mem (d:=default) hj)
   have hq:0 <= (if IntKind.wrap .i64 ((m.getD j default).2 + 1) < 3 then IntKind.wrap .i64 ((m.getD j default).2 + 1) else 3) /\ (if IntKind.wrap .i64 ((m.getD j default).2 + 1) < 3 then IntKind.wrap .i64 ((m.getD j default).2 + 1) else 3) <= 3:=by rw [i64_in _ (by omega)]; split <;> omega
   generalize (if IntKind.wrap .i64 ((m.getD j default).2 + 1) < 3 then IntKind.wrap .i64 ((m.getD j default).2 + 1) else 3) = n at hs hq
   have ha:=AccR.same hk (by rw [hR]; exact List.mem_append_right _ (mem hj he)) (List.Perm.refl R)
   have hs:=e12_shut (R:=R) (s:=s) (m:=m.set j ((m.getD j default).1,n)) (g:=g) ⟨by rw [hR,pk_set hj],hk,ht.gh,ht.cs,pc_set ht.cm hq⟩ (t12_shut s1 s2 s3 (M:=M) (by exact Sat.fin hs))
   exact ⟨true,⟨none,0,0⟩,[],_,rfl,ha,Sat.nilR Rec.str hs⟩
 ·refine ite_true (decide_eq_true (by omega)) ?_
  refine drawW_only [cP b s1 s2 s3 c] hs fun w hs=>?_
  refine nilck_some (ldS_b (x:=s1) (nilck_some (ld_b (x:=s1) hs (keep_imp hs ?_))))
  refine idx_s hs fun b_ o_ hs=>?_
  refine ld_r1 hs (keep_imp hs ?_)
  refine idx_a hs ?_
  refine st_r1 hs fun w hs=>?_
  have hs:=Sat.shut s1 hs
  rw [Int.toNat_natCast] at hs
  have hb:=ht.cs _ (getD_mem (d:=default) hj)
  have hq:0 <= (if IntKind.wrap .i64 ((s.getD j default).2 + 1) < 3 then IntKind.wrap .i64 ((s.getD j default).2 + 1) else 3) /\ (if IntKind.wrap .i64 ((s.getD j default).2 + 1) < 3 then IntKind.wrap .i64 ((s.getD j default).2 + 1) else 3) <= 3:=by rw [i64_in _ (by omega)]; split <;> omega
  generalize (if IntKind.wrap .i64 ((s.getD j default).2 + 1) < 3 then IntKind.wrap .i64 ((s.getD j default).2 + 1) else 3) = n at hs hq
  have ha:=AccR.same hk (by rw [hR]; exact List.mem_append_left _ (mem hj he)) (List.Perm.refl R)
  have hs:=e12_shut (R:=R) (s:=s.set j ((s.getD j default).1,n)) (m:=m) (g:=g) ⟨by rw [hR,pk_set hj],hk,ht.gh,pc_set ht.cs hq,ht.cm⟩ (t12_shut s1 s2 s3 (M:=M) (by exact Sat.fin hs))
  exact ⟨true,⟨none,0,0⟩,[],_,rfl,ha,Sat.nilR Rec.str hs⟩
set_option maxRecDepth 100000 in
theorem q12_Load (hs:Sat W w (e12 b c R::M)) (hz:key.size < 64):Rts Tryz.prog 160 #[.pointer (some ⟨b,0,none⟩),.string key] w fun v w'=>∃ (yes:Bool) (S:BL),v = .bool yes /\ LoadR c R key yes S /\ Sat W w' (e12 b c S::M):=by
 refine cw f160_ok f160_raw ?_
 have hk:=e12_ok hs
 refine drawW_only [e12 b c R] hs fun w hs=>?_
 refine call1_ret (q12_Has hs) fun v w ⟨hv,hs⟩=>⟨_,hv,keep_imp hs ?_⟩
 with_reducible refine ite_by (fun h1=>?_) (fun h1=>?_)
 ·exact keep_imp hs ⟨false,R,rfl,LoadR.no hk (fun h=>h.1 h1),hs⟩
 refine nilck_some ?_
 refine ldS_by (k:=.int .i64) c (fun w' h=>e12_cap h) ?_
 refine call1_ret (q12_Len hs) fun v w ⟨hv,hs⟩=>⟨_,hv,keep_imp hs ?_⟩
 with_reducible refine ite_by (fun h2=>?_) (fun h2=>?_)
 ·exact ⟨false,R,rfl,LoadR.no hk (fun h=>by have:=h.2; omega),hs⟩
 refine jw f160_j1_raw ?_
 obtain ⟨s,m,g,ht,hs⟩:=e12_open hs
 have hr:=hk.room; have hc2:=hk.c2; have hll:=ht.len
 refine call1_ret (q12_known ht.gh hs) fun v w ⟨t,g',hv,hg',hs⟩=>⟨_,hv,?_⟩
 obtain ⟨s1,s2,s3,hsl,hs⟩:=t12_open hs
 refine nilck_some (ld_b (x:=s2) hs ?_)
 refine newB_at hs fun nb w hs=>?_
 refine app_one (s:=s2) (a:=((key,0):ByteArray × Int)) hs rfl rfl rfl rfl (by decide) (by omega) fun s5 w hs5 hs=>?_
 refine nilck_some (st_b hs fun w hs=>?_)
 have ha:=LoadR.yes hk hz h1 (by omega) (S:=pk s ++ pk (m ++ [(key,0)])) (by rw [ht.eq,pk_app]; exact perm_snoc2)
 exact ⟨true,_,rfl,ha,e12_shut ⟨rfl,ha.ok,hg',ht.cs,pc_app ht.cm⟩ (t12_shut s1 s5 s3 (by exact Sat.fin hs))⟩
theorem pc_erase {m:PL} {i:Nat} (h:∀ e ∈ m,0 <= e.2 /\ e.2 <= 3):∀ e ∈ m.eraseIdx i,0 <= e.2 /\ e.2 <= 3:=fun x hx=>h x (List.mem_of_mem_eraseIdx hx)
set_option maxRecDepth 100000 in
theorem q12_Remove (hs:Sat W w (e12 b c R::M)):Rts Tryz.prog 150 #[.pointer (some ⟨b,0,none⟩),.string key] w fun v w'=>∃ (yes:Bool) (S:BL),v = .bool yes /\ RemR c R key yes S /\ Sat W w' (e12 b c S::M):=by
 refine cw f150_ok f150_raw ?_
 obtain ⟨s,m,g,ht,hs⟩:=e12_open hs
 obtain ⟨s1,s2,s3,hl,hs⟩:=t12_open hs
 have hk:=ht.ok; have hr:=hk.room; have hc2:=hk.c2; have hc1:=hk.c1; have hll:=ht.len
 have hR:=ht.eq
 have mem:∀ {l:PL} {j:Nat},j < l.length -> (l.getD j default).1 = key -> key ∈ pk l:=fun hj he=>he ▸ List.mem_map_of_mem (getD_mem hj)
 refine drawW_only [cP b s1 s2 s3 c] hs fun w hs=>?_
 refine nilck_some (ldS_b (x:=s1) (nilck_some (ldS_b (x:=s2) ?_)))
 refine call1_ret (q12_at (s0:=s1) (xs:=s) hs (by omega)) fun v w ⟨i,hv,hi,hs⟩=>⟨i,hv,keep_imp hs ?_⟩
 refine call1_ret (q12_at (s0:=s2) (xs:=m) hs (by omega)) fun v w ⟨k,hv,hk2,hs⟩=>⟨k,hv,?_⟩
 rcases hi with ⟨rfl,h1⟩ | ⟨j,rfl,hj,he⟩
 ·refine ite_false rfl ?_
  refine jw f150_j1_raw ?_
  rcases hk2 with ⟨rfl,h2⟩ | ⟨j,rfl,hj,he⟩
  ·refine ite_false rfl ?_
   refine jw f150_j2_raw ?_
   refine ite_false rfl ?_
   have hno:key ∉ R:=by rw [hR,List.mem_append]; exact fun h=>h.elim h1 h2
   exact ⟨false,R,rfl,RemR.no hk hno,e12_shut ht (t12_shut s1 s2 s3 hs)⟩
  ·refine ite_true (decide_eq_true (by omega)) ?_
   refine nilck_some (ld_b (x:=s2) hs ?_)
   refine call1_ret (q12_without (s0:=s2) (xs:=m) (j:=j) hs (by omega) hj hl.2.1.2) fun v w ⟨l,hv,hs⟩=>⟨_,hv,?_⟩
   refine nilck_some (st_b hs fun w hs=>?_)
   refine jw f150_j2_raw ?_
   refine ite_false rfl ?_
   have hp:R.Perm (key::(pk s ++ pk (m.eraseIdx j))):=by
    rw [hR]
    have h3:=pk_erase hj
    rw [he] at h3
    exact (h3.append_left (pk s)).trans List.perm_middle
   have ha:=RemR.yes hk (by rw [hR]; exact List.mem_append_right _ (mem hj he)) hp
   exact ⟨true,_,by rw [decide_eq_true (show (j:Int) >= 0 by omega)],ha,e12_shut ⟨rfl,ha.ok,ht.gh,ht.cs,pc_erase ht.cm⟩ (t12_shut s1 l s3 (by exact Sat.fin hs))⟩
 ·refine ite_true (decide_eq_true (by omega)) ?_
  refine nilck_some (ld_b (x:=s1) hs ?_)
  refine call1_ret (q12_without (s0:=s1) (xs:=s) (j:=j) hs (by omega) hj hl.1.2) fun v w ⟨l,hv,hs⟩=>⟨_,hv,?_⟩
  refine nilck_some (st_b hs fun w hs=>?_)
  refine jw f150_j1_raw ?_
  have hn:=hR ▸ hk.nd
  have h2:k = -1:=by
   rcases hk2 with ⟨rfl,_⟩ | ⟨j2,rfl,hj2,he2⟩
   ·rfl
   ·exact absurd rfl ((List.nodup_append.1 hn).2.2 _ (mem hj he) _ (mem hj2 he2))
  refine ite_false (decide_eq_false (by omega)) ?_
  refine jw f150_j2_raw ?_
  refine ite_true (decide_eq_true (by omega)) ?_
  have hp:R.Perm (key::(pk (s.eraseIdx j) ++ pk m)):=by
   rw [hR]
   have h3:=pk_erase hj
   rw [he] at h3
   exact h3.append_right (pk m)
  have ha:=RemR.yes hk (by rw [hR]; exact List.mem_append_left _ (mem hj he)) hp
  exact ⟨true,_,rfl,ha,e12_shut ⟨rfl,ha.ok,ht.gh,pc_erase ht.cs,ht.cm⟩ (t12_shut l s2 s3 (by exact Sat.fin hs))⟩
theorem pk_snoc {l:PL} {i:Nat} (h:i < l.length):pk (l.take (i + 1)) = pk (l.take i) ++ [(l.getD i default).1]:=by
 rw [take_snoc h,pk_app]; rfl
set_option maxRecDepth 100000 in
theorem q12_Keys (hs:Sat W w (e12 b c R::M)):Rts Tryz.prog 199 #[.pointer (some ⟨b,0,none⟩)] w fun v w'=>∃ l:Sl,v = .slice l.a l.n l.c /\ Sat W w' (recs Rec.str l R::e12 b c R::M):=by
 refine cw f199_ok f199_raw ?_
 obtain ⟨s,m,g,ht,hs⟩:=e12_open hs
 obtain ⟨s1,s2,s3,hl,hs⟩:=t12_open hs
 have hr:=ht.ok.room; have hc2:=ht.ok.c2; have hll:=ht.len
 have hs:=Sat.nilR Rec.str hs
 have loop2:∀ (f i:Nat) (w:World) (acc:Sl),i + f = m.length -> Sat W w (recs Rec.str acc (pk s ++ pk (m.take i))::cP b s1 s2 s3 c::recs pcR s1 s::recs pcR s2 m::recs Rec.str s3 g::M) ->
   f199_l3 idJ (fun v w'=>∃ l:Sl,v = .slice l.a l.n l.c /\ Sat W w' (recs Rec.str l R::e12 b c R::M)) (f + 1) (some ⟨b,0,none⟩) acc (i:Int) w:=by
  clear hs
  intro f
  induction f with
  | zero=>
   intro i w acc hi hs
   rw [f199_l3_raw]
   refine nilck_some (ld_b (x:=s2) hs ?_)
   refine ite_false (decide_eq_false (by omega)) ?_
   refine jw f199_j4_raw ?_
   rw [List.take_of_length_le (by omega),<- ht.eq] at hs
   have hs:=e12_shut ht (t12_shut s1 s2 s3 (M:=recs Rec.str acc R::M) (by exact Sat.fin hs))
   exact ⟨acc,rfl,by exact Sat.fin hs⟩
  | succ f ih=>
   intro i w acc hi hs
   rw [f199_l3_raw]
   refine nilck_some (ld_b (x:=s2) hs ?_)
   refine ite_true (decide_eq_true (by omega)) ?_
   refine nilck_some (ld_b (x:=s2) hs ?_)
   refine idx_rd (s:=s2) hs fun b_ o_ ha_=>?_
   refine ld_rd0 ha_ hs ?_ (hc:=rfl)
   refine newB_at hs fun nb w hs=>?_
   have hlen:(pk s ++ pk (m.take i)).length <= 2000:=by simp [pk]; omega
   refine app_one (s:=acc) (a:=(m.getD ((i:Int)).toNat default).1) hs rfl rfl rfl rfl (by decide) (by omega) fun s5 w hs5 hs=>?_
   rw [Int.toNat_natCast,List.append_assoc,<- pk_snoc (by omega)] at hs
   rw [show IntKind.wrap .i64 ((i:Int) + 1) = ((i + 1:Nat):Int) by rw [i64_in _ (by omega)]; omega]
   exact ih (i + 1) w s5 (by omega) (by exact Sat.fin hs)
 have loop1:∀ (f i:Nat) (w:World) (acc:Sl),i + f = s.length -> Sat W w (recs Rec.str acc (pk (s.take i))::cP b s1 s2 s3 c::recs pcR s1 s::recs pcR s2 m::recs Rec.str s3 g::M) ->
   f199_l1 idJ (fun v w'=>∃ l:Sl,v = .slice l.a l.n l.c /\ Sat W w' (recs Rec.str l R::e12 b c R::M)) (f + 1) (some ⟨b,0,none⟩) acc (i:Int) w:=by
  clear hs
  intro f
  induction f with
  | zero=>
   intro i w acc hi hs
   rw [f199_l1_raw]
   refine nilck_some (ld_b (x:=s1) hs ?_)
   refine ite_false (decide_eq_false (by omega)) ?_
   refine jw f199_j2_raw ?_
   rw [List.take_of_length_le (by omega)] at hs
   refine exM_of _ (loop2 m.length 0 w acc (by omega) ?_)
   have e:pk s ++ pk (m.take 0) = pk s:=by simp [pk]
   rw [e]; exact hs
  | succ f ih=>
   intro i w acc hi hs
   rw [f199_l1_raw]
   refine nilck_some (ld_b (x:=s1) hs ?_)
   refine ite_true (decide_eq_true (by omega)) ?_
   refine nilck_some (ld_b (x:=s1) hs ?_)
   refine idx_rd (s:=s1) hs fun b_ o_ ha_=>?_
   refine ld_rd0 ha_ hs ?_ (hc:=rfl)
   refine newB_at hs fun nb w hs=>?_
   have hlen:(pk (s.take i)).length <= 2000:=by simp [pk]; omega
   refine app_one (s:=acc) (a:=(s.getD ((i:Int)).toNat default).1) hs rfl rfl rfl rfl (by decide) (by omega) fun s5 w hs5 hs=>?_
   rw [Int.toNat_natCast,<- pk_snoc (by omega)] at hs
   rw [show IntKind.wrap .i64 ((i:Int) + 1) = ((i + 1:Nat):Int) by rw [i64_in _ (by omega)]; omega]
   exact ih (i + 1) w s5 (by omega) (by exact Sat.fin hs)
 exact exM_of _ (loop1 s.length 0 w ⟨none,0,0⟩ (by omega) hs)
end
end Go.Proofs.YtmefopmnjncdbaaGreat
