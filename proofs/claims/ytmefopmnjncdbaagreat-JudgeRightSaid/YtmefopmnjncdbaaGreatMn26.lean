import Derived.Test.YtmefopmnjncdbaaGreatMn25
set_option linter.unusedVariables false
set_option linter.unusedSimpArgs false
set_option linter.unnecessarySimpa false
set_option linter.unusedSectionVars false
set_option maxRecDepth 100000
namespace Go.Hb
open Go.Proofs.YtmefopmnjncdbaaGreat
abbrev cB (b:Nat) (s:Sl) (p ch:Nat) (now:Int):HP:=blk b [.slice s.a s.n s.c,.pointer (some ⟨p,0,none⟩),.pointer (some ⟨ch,0,none⟩),.int .i64 now]
abbrev sdL (rm:Int) (n:Nat) (z:Nat × TT):HP:=sd z.1 rm n z.2
def cch (b sh n:Nat) (s:JS):HP:=exH fun (z:Sl × Nat × Nat × List (Nat × TT))=>andH (JR sh (z.2.2.2.map (·.2)) s) (allH [cB b z.1 z.2.1 z.2.2.1 s.now,recs Rec.ptr z.1 (z.2.2.2.map (·.1)),pnlK z.2.1 5,chs z.2.2.1 n,allH (z.2.2.2.map (sdL s.room n))])
abbrev rsV (e:Int) (h:Bool) (v:ByteArray) (s:Sl):Value:=.agg #[.int .i64 e,.bool h,.string v,.slice s.a s.n s.c]
abbrev rsB (b:Nat) (e:Int) (h:Bool) (v:ByteArray) (s:Sl):HP:=blk b [.int .i64 e,.bool h,.string v,.slice s.a s.n s.c]
abbrev DoQ (b sh n:Nat) (s:JS) (o:OpV) (W:World) (M:List HP):Value -> WP:=fun v w'=>∃ (e:Int) (h:Bool) (x:ByteArray) (sl:Sl) (gone:BL),v = rsV e h x sl /\ jSays sh s o e h x gone = true /\ Sat W w' (cch b sh (n + 1024) (jNext s o e gone)::recs Rec.str sl gone::M)
theorem all_more {α:Type} {W:World} {f g:α -> HP} (hfg:∀ (x:α) (w:World) (M:List HP),Sat W w (f x::M) -> Sat W w (g x::M)):∀ {l:List α} {w:World} {M:List HP},Sat W w (allH (l.map f)::M) -> Sat W w (allH (l.map g)::M)
 | [],w,M,h=>h
 | x::l,w,M,h=>by
  have h1:Sat W w (f x::(l.map f ++ M)):=h.openL
  have h2:=hfg x w _ h1
  have h3:Sat W w (l.map f ++ g x::M):=h2.perm List.perm_middle.symm
  have h5:=all_more hfg (l:=l) (Sat.shutL h3)
  have h6:Sat W w (l.map g ++ g x::M):=h5.openL
  have h7:Sat W w (g x::(l.map g ++ M)):=h6.perm List.perm_middle
  exact Sat.shutL h7
section
variable {W w:World} {M L:List HP} {F:HP -> List HP} {b sh n m:Nat} {s:JS} {p ch:Nat} {sl:Sl} {Ls:List (Nat × TT)} {rm:Int}
theorem cch_open (h:Sat W w (cch b sh n s::M)):∃ (sl:Sl) (p ch:Nat) (Ls:List (Nat × TT)),JR sh (Ls.map (·.2)) s /\ Ls.length = sh /\ sl.n = sh /\ Sat W w (cB b sl p ch s.now::recs Rec.ptr sl (Ls.map (·.1))::pnlK p 5::chs ch n::allH (Ls.map (sdL s.room n))::M):=by
 obtain ⟨⟨sl,p,ch,Ls⟩,h⟩:=h.openE
 obtain ⟨hp,h⟩:=h.openA
 have h:=h.openL
 have h:Sat W w (cB b sl p ch s.now::recs Rec.ptr sl (Ls.map (·.1))::pnlK p 5::chs ch n::allH (Ls.map (sdL s.room n))::M):=h
 have hl:=(recs_len (s:=sl) h).1
 rw [List.length_map] at hl
 have h2:Ls.length = sh:=by simpa using hp.len
 exact ⟨sl,p,ch,Ls,hp,h2,by omega,h⟩
theorem cch_shut (hp:JR sh (Ls.map (·.2)) s) (h:Sat W w (cB b sl p ch s.now::recs Rec.ptr sl (Ls.map (·.1))::pnlK p 5::chs ch n::allH (Ls.map (sdL s.room n))::M)):Sat W w (cch b sh n s::M):=
 Sat.shutE (sl,p,ch,Ls) (Sat.shutA hp (Sat.shutL (Ps:=[_,_,_,_,_]) h))
theorem chs_more (hn:n <= m) (hs:Sat W w (chs b n::M)):Sat W w (chs b m::M):=by
 obtain ⟨cur,a0,a1,a2,a3,a4,kd,nn,hold,tb,hs⟩:=chs_open hs
 have hs:Sat W w (tpe tb n::cC b cur a0 a1 a2 a3 a4 kd nn hold tb::M):=by exact Sat.fin hs
 obtain ⟨s,l,k,hk,_,hs⟩:=tpe_open hs
 have hs:Sat W w (tpe tb m::cC b cur a0 a1 a2 a3 a4 kd nn hold tb::M):=tpe_shut (s:=s) (l:=l) (k:=k) ⟨hk.1,by omega⟩ hs
 exact chs_shut (by exact Sat.fin hs)
theorem sds_more (hn:n <= m) (hs:Sat W w (allH (Ls.map (sdL rm n))::M)):Sat W w (allH (Ls.map (sdL rm m))::M):=all_more (fun x w M hs=>sd_more hn hs) hs
theorem cch_shut_more (hn:n <= m) (hp:JR sh (Ls.map (·.2)) s) (hs:Sat W w (cB b sl p ch s.now::recs Rec.ptr sl (Ls.map (·.1))::pnlK p 5::chs ch n::allH (Ls.map (sdL s.room n))::M)):Sat W w (cch b sh m s::M):=by
 have hs:Sat W w (chs ch n::cB b sl p ch s.now::recs Rec.ptr sl (Ls.map (·.1))::pnlK p 5::allH (Ls.map (sdL s.room n))::M):=by exact Sat.fin hs
 have hs:=chs_more hn hs
 have hs:Sat W w (allH (Ls.map (sdL s.room n))::chs ch m::cB b sl p ch s.now::recs Rec.ptr sl (Ls.map (·.1))::pnlK p 5::M):=by exact Sat.fin hs
 have hs:=sds_more hn hs
 exact cch_shut hp (by exact Sat.fin hs)
theorem cch_more (hn:n <= m) (hs:Sat W w (cch b sh n s::M)):Sat W w (cch b sh m s::M):=by
 obtain ⟨sl,p,ch,Ls,hp,_,_,hs⟩:=cch_open hs
 exact cch_shut_more hn hp hs
theorem doq_nil {o:OpV} {e:Int} {h:Bool} {x:ByteArray} (h1:jSays sh s o e h x [] = true /\ jNext s o e [] = s) (hs:Sat W w (cch b sh (n + 1024) s::M)):DoQ b sh n s o W M (rsV e h x ⟨none,0,0⟩) w:=by
 refine ⟨e,h,x,⟨none,0,0⟩,[],rfl,h1.1,?_⟩
 rw [h1.2]
 exact (Sat.nilR Rec.str hs).perm (List.Perm.swap _ _ _)
theorem res4 {rb:Nat} {v0 v1 v2 v3:Value} {K:Int -> Bool -> ByteArray -> Sl -> WP} {e:Int} {h:Bool} {x:ByteArray} {s:Sl} (hs:Sat W w L) [hA:At L rb (blk rb [v0,v1,v2,v3]) F] (hQ:∀ w',Sat W w' (F (rsB rb e h x s)) -> K e h x s w') :
  st rb 0 (.int .i64 e) (st rb 1 (.bool h) (st rb 2 (.string x) (st rb 3 (.slice s.a s.n s.c) (ld (.int .i64) rb 0 fun a=>ld .bool rb 1 fun b=>ld .str rb 2 fun c=>ld .slc rb 3 fun d=>K a b c d)))) w:=by
 refine At.one (hA:=hA) hs fun M hs hb=>?_
 refine st_b hs fun w hs=>st_b hs fun w hs=>st_b hs fun w hs=>st_b hs fun w hs=>?_
 refine ld_b hs (ld_b hs (ld_b hs (ld_b (x:=s) hs ?_)))
 exact hQ w (hb _ _ hs)
end
end Go.Hb
namespace Go.Proofs.YtmefopmnjncdbaaGreat
open Go.Hb Go.IntWalk
section
variable {W w:World} {L M:List HP} {b sh n:Nat} {s:JS} {o:OpV} {p ch:Nat} {sl:Sl} {Ls:List (Nat × TT)} {key:ByteArray} {now rm:Int}
theorem q25_Shard {m:Nat} (hm:1 <= m) (h8:m <= 8) (hz:key.size < 4611686018427387904) (hs:Sat W w L):Rts Tryz.prog 36 #[.string key,.int .i64 (m:Int)] w fun v w'=>v = .int .i64 (shIx m key:Int) /\ Sat W w' L:=by
 refine cw f36_ok f36_raw ?_
 refine call1_ret (r1_hash hs hz) fun v w ⟨hv,hs⟩=>⟨_,hv,?_⟩
 have e:(if (8:Int) < (if (1:Int) > (m:Int) then (1:Int) else (m:Int)) then (8:Int) else (if (1:Int) > (m:Int) then (1:Int) else (m:Int))) = (m:Int):=by
  rw [if_neg (show ¬ (1:Int) > (m:Int) by omega),if_neg (by omega)]
 rw [e]
 have h0:0 <= hashV 31 key:=by exact (hashV_in 31 key).1
 refine call1_ret (r1_place hs h0 (by omega) (by omega)) fun v w ⟨hv,hr,hs⟩=>⟨_,hv,?_⟩
 refine ⟨?_,hs⟩
 unfold shIx
 rw [Int.toNat_of_nonneg hr.1]
theorem q26_of (h1:1 <= sh) (h8:sh <= 8) (hl:Ls.length = sh) (hn:sl.n = sh) (hz:key.size < 4611686018427387904) (hs:Sat W w (cB b sl p ch now::recs Rec.ptr sl (Ls.map (·.1))::M)):Rts Tryz.prog 15 #[.pointer (some ⟨b,0,none⟩),.string key] w fun v w'=>v = .pointer (some ⟨(Ls[shIx sh key]'(by rw [hl]; exact shIx_lt h1 key)).1,0,none⟩) /\ Sat W w' (cB b sl p ch now::recs Rec.ptr sl (Ls.map (·.1))::M):=by
 refine cw f15_ok f15_raw ?_
 refine drawW_only [cB b sl p ch now] hs fun w hs=>?_
 refine nilck_some (ldS_b (x:=sl) (nilck_some (ld_b (x:=sl) hs (keep_imp hs ?_))))
 rw [show ((sl.n:Nat):Int) = (sh:Int) by omega]
 refine call1_ret (q25_Shard h1 h8 hz hs) fun v w ⟨hv,hs⟩=>⟨_,hv,keep_imp hs ?_⟩
 have hlt:=shIx_lt h1 key
 have hlt2:shIx sh key < Ls.length:=by omega
 have hlm:(Ls.map (·.1)).length = sh:=by rw [List.length_map]; exact hl
 have hn2:sl.n = (Ls.map (·.1)).length:=by omega
 refine idx_rd (s:=sl) hs (fun b_ o_ ha_=>?_)
 refine ld_rd0 (s:=sl) (rows:=Ls.map fun z:Nat × TT=>z.1) ha_ hs ?_ (k:=.ptr) (x:=some ⟨(Ls[shIx sh key]'(by rw [hl]; exact hlt)).1,0,none⟩) (hc:=?_)
 ·exact ⟨rfl,hs⟩
 ·rw [Int.toNat_natCast,List.getD_eq_getElem?_getD,List.getElem?_map,List.getElem?_eq_getElem hlt2]; rfl
theorem q26_used {r0 e:Int} {hit:Bool} {val:ByteArray} {rs:Sl} (hz:e = 0 -> o.key.size < 64) (hs:Sat W w (pnlK p 5::cB b sl p ch now::M)) :
  Rts Tryz.prog 17 #[.pointer (some ⟨b,0,none⟩),.agg #[.int .i64 o.kind,.string o.key,.string o.val,.int .i64 o.n],.agg #[.int .i64 r0,.bool hit,.string val,.slice rs.a rs.n rs.c],.int .i64 e] w fun v w'=>
   v = (if e ≠ 0 then rsV e false ⟨#[]⟩ ⟨none,0,0⟩ else rsV r0 hit val rs) /\ Sat W w' (pnlK p 5::cB b sl p ch now::M):=by
 refine cw f17_ok f17_raw ?_
 refine newB_at hs fun b1 w hs=>newB_at hs fun b2 w hs=>newB_at hs fun b3 w hs=>?_
 with_reducible refine ite_by (fun he=>?_) (fun he=>?_)
 ·rw [if_pos he]
  exact res4 (s:=⟨none,0,0⟩) hs fun w hs=>⟨rfl,by exact Sat.fin hs⟩
 rw [if_neg (by omega)]
 refine drawW_only [cB b sl p ch now] hs fun w hs=>?_
 refine nilck_some (ldS_b (ld_b hs (keep_imp hs ?_)))
 have hs:Sat W w (pnlK p 5::cB b sl p ch now::blk b2 [.int .i64 r0,.bool hit,.string val,.slice rs.a rs.n rs.c]::blk b3 [.int .i64 0,.bool false,.string ⟨#[]⟩,.slice none 0 0]::M):=by exact Sat.fin hs
 refine call1_ret (q18_Access hs (hz he)) fun v w ⟨t,hv,hs⟩=>⟨_,hv,?_⟩
 refine ld_b hs (ld_b hs (ld_b hs (ld_b (x:=rs) hs ?_)))
 exact res4 (s:=rs) hs fun w hs=>⟨rfl,by exact Sat.fin hs⟩
end
end Go.Proofs.YtmefopmnjncdbaaGreat
namespace Go.Proofs.YtmefopmnjncdbaaGreat
open Go.Hb Go.IntWalk
section
variable {W w:World} {L M:List HP} {b sh n:Nat} {s:JS} {o:OpV} {p ch:Nat} {sl:Sl} {Ls:List (Nat × TT)} {key:ByteArray} {now rm:Int}
theorem getD_fst {i:Nat} (hi:i < Ls.length):(Ls.map fun z:Nat × TT=>z.1).getD i default = (Ls[i]).1:=by
 rw [List.getD_eq_getElem?_getD,List.getElem?_map,List.getElem?_eq_getElem hi]; rfl
theorem getD_fst2 {i:Int} {j:Nat} (e:i = (j:Int)) (hi:j < Ls.length):(Rec.ptr.cells ((Ls.map fun z:Nat × TT=>z.1).getD i.toNat default))[0]? = some (CK.ptr.val (some ⟨(Ls[j]).1,0,none⟩)):=by
 subst e
 rw [Int.toNat_natCast,getD_fst hi]; rfl
theorem q26_turn {kd:Int} (hb:n < 700000) (hl:Ls.length < 1000) (hn:sl.n = Ls.length) (hs:Sat W w (allH (Ls.map (sdL rm n))::cB b sl p ch now::recs Rec.ptr sl (Ls.map fun z=>z.1)::M)) :
  Rts Tryz.prog 24 #[.pointer (some ⟨b,0,none⟩),.int .i64 kd] w fun v w'=>v = .tuple #[] /\ Sat W w' (allH (Ls.map (sdL rm n))::cB b sl p ch now::recs Rec.ptr sl (Ls.map fun z=>z.1)::M):=by
 refine cw f24_ok f24_raw ?_
 have loop:∀ (f i:Nat) (w:World),i + f = Ls.length -> Sat W w (allH (Ls.map (sdL rm n))::cB b sl p ch now::recs Rec.ptr sl (Ls.map fun z=>z.1)::M) ->
   f24_l1 idJ (fun v w'=>v = .tuple #[] /\ Sat W w' (allH (Ls.map (sdL rm n))::cB b sl p ch now::recs Rec.ptr sl (Ls.map fun z=>z.1)::M)) (f + 1) (some ⟨b,0,none⟩) kd (i:Int) w:=by
  clear hs
  intro f
  induction f with
  | zero=>
   intro i w hi hs
   rw [f24_l1_raw]
   refine nilck_some (ld_b (x:=sl) hs ?_)
   refine ite_false (decide_eq_false (by omega)) ?_
   exact ⟨rfl,hs⟩
  | succ f ih=>
   intro i w hi hs
   rw [f24_l1_raw]
   have hil:i < Ls.length:=by omega
   refine nilck_some (ld_b (x:=sl) hs ?_)
   refine ite_true (decide_eq_true (by omega)) ?_
   refine nilck_some (ld_b (x:=sl) hs ?_)
   refine idx_rd (s:=sl) hs fun b_ o_ ha_=>?_
   refine ld_rd0 (s:=sl) (rows:=Ls.map fun z:Nat × TT=>z.1) ha_ hs ?_ (k:=.ptr) (x:=some ⟨(Ls[i]).1,0,none⟩) (hi:=by rw [List.length_map]; omega) (hc:=getD_fst2 rfl hil)
   have hs:=pick_at hil hs
   refine call1_ret (q24_Switch hb hs) fun v w ⟨m,hv,hs⟩=>⟨_,hv,?_⟩
   have hs:=put_same (f:=sdL rm n) hil hs
   rw [show IntKind.wrap .i64 ((i:Int) + 1) = ((i + 1:Nat):Int) by rw [i64_in _ (by omega)]; omega]
   exact ih (i + 1) w (by omega) hs
 exact exM_of _ (loop Ls.length 0 w (by omega) hs)
theorem q26_one (hk:o.kind = 5 \/ o.kind = 6) (hb:n < 400000) (hs:Sat W w (cch b sh n s::M)):Rts Tryz.prog 21 #[.pointer (some ⟨b,0,none⟩),.agg #[.int .i64 o.kind,.string o.key,.string o.val,.int .i64 o.n]] w (DoQ b sh n s o W M):=by
 refine cw f21_ok f21_raw ?_
 have hm:=cch_more (m:=n + 1024) (by omega) hs
 refine newB_at hs fun b1 w hs=>newB_at hs fun b2 w hs=>?_
 obtain ⟨sl,p,ch,Ls,hJ,hl,hn,hs⟩:=cch_open (b:=b) (sh:=sh) (n:=n) (s:=s) (M:=blk b2 [.int .i64 0,.bool false,.string ⟨#[]⟩,.slice none 0 0]::blk b1 [.int .i64 o.kind,.string o.key,.string o.val,.int .i64 o.n]::M) (by exact Sat.fin hs)
 have h8:=hJ.sh8
 have j1:∀ (w:World) (t:Bool),(t = false -> 0 <= o.n /\ o.n < sh) -> Sat W w (cB b sl p ch s.now::recs Rec.ptr sl (Ls.map fun z=>z.1)::pnlK p 5::chs ch n::allH (Ls.map (sdL s.room n))::blk b2 [.int .i64 0,.bool false,.string ⟨#[]⟩,.slice none 0 0]::blk b1 [.int .i64 o.kind,.string o.key,.string o.val,.int .i64 o.n]::M) ->
   f21_j1 idJ (DoQ b sh n s o W M) (some ⟨b,0,none⟩) b1 0 b2 0 t w:=by
  clear hs hm
  intro w t ht hs
  refine jw f21_j1_raw ?_
  cases t with
  | true=>
   refine ite_true rfl ?_
   refine res4 (s:=⟨none,0,0⟩) hs fun w hs=>?_
   have hs:=cch_shut_more (m:=n + 1024) (by omega) hJ hs
   exact doq_nil (saysE (e:=1) (by decide)) (by exact Sat.fin hs)
  | false=>
   refine ite_false rfl ?_
   obtain ⟨h0,h1⟩:=ht rfl
   refine jw f21_j2_raw ?_
   obtain ⟨i,hi⟩:∃ i:Nat,o.n = (i:Int):=⟨o.n.toNat,by omega⟩
   have hil:i < Ls.length:=by omega
   refine ld_b hs ?_
   with_reducible refine ite_by (fun hk5=>?_) (fun hk5=>?_)
   ·refine drawW_only [cB b sl p ch s.now] hs fun w hs=>?_
    refine nilck_some (ldS_b (x:=sl) (ld_b hs (keep_imp hs ?_)))
    refine idx_rd (s:=sl) hs fun b_ o_ ha_=>?_
    refine ld_rd0 (s:=sl) (rows:=Ls.map fun z:Nat × TT=>z.1) ha_ hs ?_ (k:=.ptr) (x:=some ⟨(Ls[i]).1,0,none⟩) (hi:=by rw [List.length_map]; omega) (hc:=getD_fst2 hi hil)
    have hs:Sat W w (allH (Ls.map (sdL s.room n))::cB b sl p ch s.now::recs Rec.ptr sl (Ls.map fun z=>z.1)::pnlK p 5::chs ch n::blk b2 [.int .i64 0,.bool false,.string ⟨#[]⟩,.slice none 0 0]::blk b1 [.int .i64 o.kind,.string o.key,.string o.val,.int .i64 o.n]::M):=by exact Sat.fin hs
    have hs:=pick_at hil hs
    refine call1_ret (q24_DrainS (by omega) hs) fun v w ⟨m,hv,hs⟩=>⟨_,hv,?_⟩
    have hs:=put_same (f:=sdL s.room n) hil hs
    refine res4 (s:=⟨none,0,0⟩) hs fun w hs=>?_
    have h1:=saysN (o:=o) (hit:=decide (m > 0)) (val:=⟨#[]⟩) hJ (by omega) (by omega) (by omega) (by omega) (by omega)
    have hs:=cch_shut_more (b:=b) (sl:=sl) (p:=p) (ch:=ch) (n:=n) (m:=n + 1024) (M:=M) (by omega) hJ (by exact Sat.fin hs)
    exact doq_nil h1 hs
   ·refine drawW_only [cB b sl p ch s.now] hs fun w hs=>?_
    refine nilck_some (ldS_b (x:=sl) (ld_b hs (keep_imp hs ?_)))
    refine idx_rd (s:=sl) hs fun b_ o_ ha_=>?_
    refine ld_rd0 (s:=sl) (rows:=Ls.map fun z:Nat × TT=>z.1) ha_ hs ?_ (k:=.ptr) (x:=some ⟨(Ls[i]).1,0,none⟩) (hi:=by rw [List.length_map]; omega) (hc:=getD_fst2 hi hil)
    have hs:Sat W w (allH (Ls.map (sdL s.room n))::cB b sl p ch s.now::recs Rec.ptr sl (Ls.map fun z=>z.1)::pnlK p 5::chs ch n::blk b2 [.int .i64 0,.bool false,.string ⟨#[]⟩,.slice none 0 0]::blk b1 [.int .i64 o.kind,.string o.key,.string o.val,.int .i64 o.n]::M):=by exact Sat.fin hs
    have hs:=pick_at hil hs
    refine call2_ret (q24_Step (by omega) hs) fun v w ⟨x,t,hv,hs⟩=>⟨_,_,hv,?_⟩
    have hs:=put_same (f:=sdL s.room n) hil hs
    refine res4 (s:=⟨none,0,0⟩) hs fun w hs=>?_
    have h1:=saysN (o:=o) (hit:=t) (val:=x) hJ (by omega) (by omega) (by omega) (by omega) (by omega)
    have hs:=cch_shut_more (b:=b) (sl:=sl) (p:=p) (ch:=ch) (n:=n) (m:=n + 1024) (M:=M) (by omega) hJ (by exact Sat.fin hs)
    exact doq_nil h1 hs
 refine drawW_only [cB b sl p ch s.now,blk b1 [.int .i64 o.kind,.string o.key,.string o.val,.int .i64 o.n]] hs fun w hs=>?_
 refine ld_b hs (keep_imp hs ?_)
 refine ite_cases (fun h1=>?_) (fun h1=>?_)
 ·exact keep_imp hs (j1 w true (fun h=>by cases h) hs)
 ·refine ldS_b (nilck_some (ld_b (x:=sl) hs (keep_imp hs ?_)))
  refine j1 w _ (fun h=>?_) hs
  have h1:=of_decide_eq_false h1
  have h2:=of_decide_eq_false h
  omega
end
end Go.Proofs.YtmefopmnjncdbaaGreat
namespace Go.Proofs.YtmefopmnjncdbaaGreat
open Go.Hb Go.IntWalk
section
variable {W w:World} {L M:List HP} {b sh n:Nat} {s:JS} {o:OpV} {p ch:Nat} {sl:Sl} {Ls:List (Nat × TT)} {key:ByteArray} {now rm:Int}
theorem q26_epoch (hk:o.kind = 7) (hb:n < 400000) (hs:Sat W w (cch b sh n s::M)):Rts Tryz.prog 22 #[.pointer (some ⟨b,0,none⟩)] w (DoQ b sh n s o W M):=by
 refine cw f22_ok f22_raw ?_
 obtain ⟨sl,p,ch,Ls,hJ,hl,hn,hs⟩:=cch_open hs
 have h8:=hJ.sh8
 refine newB_at hs fun b1 w hs=>?_
 refine nilck_some (ld_b hs ?_)
 have hs:Sat W w (pnlK p 5::cB b sl p ch s.now::recs Rec.ptr sl (Ls.map fun z=>z.1)::chs ch n::allH (Ls.map (sdL s.room n))::blk b1 [.int .i64 0,.bool false,.string ⟨#[]⟩,.slice none 0 0]::M):=by exact Sat.fin hs
 refine Calls.mono (q18_Epoch hs) fun e_ w ⟨v,he,x0,x1,x2,x3,x4,a,hv,hs⟩=>⟨x0,x1,x2,x3,x4,a,by rw [he,hv],?_⟩
 refine newB_at hs fun b2 w hs=>?_
 refine st_b hs fun w hs=>st_b hs fun w hs=>st_b hs fun w hs=>st_b hs fun w hs=>st_b hs fun w hs=>?_
 refine drawW_only [cB b sl p ch s.now] hs fun w hs=>?_
 refine nilck_some (ldS_b ?_)
 iterate 5 refine ld_b hs ?_
 refine keep_imp hs ?_
 have hs:Sat W w (chs ch n::cB b sl p ch s.now::recs Rec.ptr sl (Ls.map fun z=>z.1)::pnlK p 5::allH (Ls.map (sdL s.room n))::blk b1 [.int .i64 0,.bool false,.string ⟨#[]⟩,.slice none 0 0]::M):=by exact Sat.fin hs
 refine call2_ret (q20_Epoch (by omega) hs) fun v w ⟨k,t,hv,hs⟩=>⟨_,_,hv,?_⟩
 have j1:∀ w:World,Sat W w (allH (Ls.map (sdL s.room n))::cB b sl p ch s.now::recs Rec.ptr sl (Ls.map fun z=>z.1)::pnlK p 5::chs ch (n + 1)::blk b1 [.int .i64 0,.bool false,.string ⟨#[]⟩,.slice none 0 0]::M) -> f22_j1 idJ (DoQ b sh n s o W M) b1 0 k t w:=by
  clear hs
  intro w hs
  refine jw f22_j1_raw ?_
  refine call1_ret (q15_Name hs) fun v w ⟨x,hv,hs⟩=>⟨_,hv,?_⟩
  refine res4 (s:=⟨none,0,0⟩) hs fun w hs=>?_
  have h1:=saysN (o:=o) (hit:=t) (val:=x) hJ (by omega) (by omega) (by omega) (by omega) (by omega)
  have hs:Sat W w (allH (Ls.map (sdL s.room n))::cB b sl p ch s.now::recs Rec.ptr sl (Ls.map fun z=>z.1)::pnlK p 5::chs ch (n + 1)::M):=by exact Sat.fin hs
  have hs:=sds_more (m:=n + 1) (by omega) hs
  have hs:=cch_shut_more (b:=b) (sl:=sl) (p:=p) (ch:=ch) (n:=n + 1) (m:=n + 1024) (M:=M) (by omega) hJ (by exact Sat.fin hs)
  exact doq_nil h1 hs
 refine ite_cases (fun _=>?_) (fun _=>?_)
 ·have hs:Sat W w (allH (Ls.map (sdL s.room n))::cB b sl p ch s.now::recs Rec.ptr sl (Ls.map fun z=>z.1)::pnlK p 5::chs ch (n + 1)::blk b1 [.int .i64 0,.bool false,.string ⟨#[]⟩,.slice none 0 0]::M):=by exact Sat.fin hs
  refine call0_ret (q26_turn (by omega) (by omega) (by omega) hs) fun v w ⟨hv,hs⟩=>⟨hv,?_⟩
  exact j1 w hs
 ·exact j1 w (by exact Sat.fin hs)
theorem getD_mid {pre:List (Nat × TT)} {z:Nat × TT} {rest:List (Nat × TT)} (e:Ls = pre ++ z::rest):(Rec.ptr.cells ((Ls.map fun z:Nat × TT=>z.1).getD (Int.toNat (pre.length:Int)) default))[0]? = some (CK.ptr.val (some ⟨z.1,0,none⟩)):=by
 subst e
 rw [Int.toNat_natCast,List.getD_eq_getElem?_getD,List.getElem?_map,List.getElem?_append_right (Nat.le_refl _),Nat.sub_self]; rfl
theorem pick_hd {α:Type} {f:α -> HP} {x:α} {l:List α} (h:Sat W w (allH ((x::l).map f)::M)):Sat W w (f x::allH (l.map f)::M):=pick_at (i:=0) (l:=x::l) (Nat.succ_pos _) h
theorem due_le {T:TT}:(tDue T now).length <= T.length:=by
 unfold tDue
 rw [List.length_map]
 exact List.length_filter_le _ _
theorem q26_tick (hk:o.kind = 4) (hb:n < 400000) (hs:Sat W w (cch b sh n s::M)):Rts Tryz.prog 20 #[.pointer (some ⟨b,0,none⟩),.int .i64 o.n] w (DoQ b sh n s o W M):=by
 refine cw f20_ok f20_raw ?_
 obtain ⟨sl,p,ch,Ls,hJ,hl,hn,hs⟩:=cch_open hs
 have h8:=hJ.sh8; have hn0:=hJ.now0; have hnM:=hJ.nowM
 refine newB_at hs fun b1 w hs=>?_
 have j1:∀ (w:World) (t:Bool),(t = false -> 0 <= o.n /\ s.now + o.n <= 1125899906842624) -> Sat W w (blk b1 [.int .i64 0,.bool false,.string ⟨#[]⟩,.slice none 0 0]::cB b sl p ch s.now::recs Rec.ptr sl (Ls.map fun z=>z.1)::pnlK p 5::chs ch n::allH (Ls.map (sdL s.room n))::M) ->
   f20_j1 idJ (DoQ b sh n s o W M) (some ⟨b,0,none⟩) o.n b1 0 t w:=by
  clear hs
  intro w t ht hs
  refine jw f20_j1_raw ?_
  cases t with
  | true=>
   refine ite_true rfl ?_
   refine res4 (s:=⟨none,0,0⟩) hs fun w hs=>?_
   have hs:=cch_shut_more (b:=b) (sl:=sl) (p:=p) (ch:=ch) (n:=n) (m:=n + 1024) (M:=M) (by omega) hJ (by exact Sat.fin hs)
   exact doq_nil (saysE (e:=1) (by decide)) hs
  | false=>
   refine ite_false rfl ?_
   obtain ⟨h0,h1⟩:=ht rfl
   refine jw f20_j2_raw ?_
   refine nilck_some (ld_b hs ?_)
   refine nilck_some (st_b hs fun w hs=>?_)
   rw [i64_in _ (by omega)] at hs
   refine newB_at hs fun rb w hs=>?_
   have hsay:=saysTick hJ hk h0 h1
   have hS:∀ z ∈ Ls,z.2.length <= 1024:=fun z hz=>by
    have h:=hJ.tabs z.2 (List.mem_map_of_mem hz)
    have h1:=h.len; have h2:=h.c2
    omega
   have hn1:0 <= s.now + o.n:=by omega
   generalize s.now + o.n = nw at hsay hs h1 hn1
   have hs:=Sat.nilR Rec.str hs
   have loop:∀ (pend pre:List (Nat × TT)) (w:World) (gs:Sl),Ls = pre ++ pend -> Sat W w (recs Rec.str gs (pre.map fun z=>tDue z.2 nw).flatten::rsB rb 0 false ⟨#[]⟩ gs::blk b1 [.int .i64 0,.bool false,.string ⟨#[]⟩,.slice none 0 0]::cB b sl p ch nw::recs Rec.ptr sl (Ls.map fun z=>z.1)::pnlK p 5::chs ch n::allH ((pre.map fun z=>(z.1,delAll z.2 (tDue z.2 nw))).map (sdL s.room (n + 1024)))::allH (pend.map (sdL s.room n))::M) ->
     f20_l3 idJ (DoQ b sh n s o W M) (pend.length + 1) (some ⟨b,0,none⟩) b1 0 rb 0 (pre.length:Int) w:=by
    clear hs
    intro pend
    induction pend with
    | nil=>
     intro pre w gs e hs
     rw [List.append_nil] at e
     subst e
     rw [List.length_nil,f20_l3_raw]
     refine nilck_some (ld_b (x:=sl) hs ?_)
     refine ite_false (decide_eq_false (by omega)) ?_
     refine jw f20_j4_raw ?_
     refine ld_b hs (ld_b hs (ld_b hs (ld_b (x:=gs) hs ?_)))
     refine res4 (s:=gs) hs fun w hs=>?_
     obtain ⟨hnow,hsay,hJ2⟩:=hsay
     rw [List.map_map] at hsay hJ2
     have hJ3:JR sh ((Ls.map fun z=>(z.1,delAll z.2 (tDue z.2 nw))).map (·.2)) (jNext s o 0 (Ls.map fun z=>tDue z.2 nw).flatten):=by
      rw [List.map_map]; rw [List.map_map] at hJ2; exact hJ2
     have e1:(Ls.map fun z=>(z.1,delAll z.2 (tDue z.2 nw))).map (·.1) = Ls.map fun z=>z.1:=by rw [List.map_map]; rfl
     have e2:(jNext s o 0 (Ls.map fun z=>tDue z.2 nw).flatten).now = nw:=by rw [jNext0]; exact hnow
     have e3:(jNext s o 0 (Ls.map fun z=>tDue z.2 nw).flatten).room = s.room:=by rw [jNext0]; exact jRoom_same (by omega)
     have hs:Sat W w (chs ch n::cB b sl p ch nw::recs Rec.ptr sl (Ls.map fun z=>z.1)::pnlK p 5::allH ((Ls.map fun z=>(z.1,delAll z.2 (tDue z.2 nw))).map (sdL s.room (n + 1024)))::recs Rec.str gs (Ls.map fun z=>tDue z.2 nw).flatten::M):=by exact Sat.fin hs
     have hs:=chs_more (m:=n + 1024) (by omega) hs
     refine ⟨0,false,⟨#[]⟩,gs,(Ls.map fun z:Nat × TT=>tDue z.2 nw).flatten,rfl,hsay,cch_shut (sl:=sl) (p:=p) (ch:=ch) hJ3 ?_⟩
     rw [e1,e2,e3]
     exact Sat.fin hs
    | cons z rest ih=>
     intro pre w gs e hs
     rw [List.length_cons,f20_l3_raw]
     have hle:Ls.length = pre.length + (rest.length + 1):=by rw [e]; simp
     refine nilck_some (ld_b (x:=sl) hs ?_)
     refine ite_true (decide_eq_true (by omega)) ?_
     refine drawW_only [rsB rb 0 false ⟨#[]⟩ gs,cB b sl p ch nw,recs Rec.ptr sl (Ls.map fun z=>z.1)] hs fun w hs=>?_
     refine ldS_b (x:=gs) (nilck_some (ldS_b (x:=sl) ?_))
     refine idx_rd (s:=sl) hs fun b_ o_ ha_=>?_
     refine ldS_rd0 (s:=sl) (rows:=Ls.map fun z:Nat × TT=>z.1) ha_ ?_ (k:=.ptr) (x:=some ⟨z.1,0,none⟩) (hi:=by rw [List.length_map]; omega) (hc:=getD_mid e)
     refine nilck_some (ld_b hs (keep_imp hs ?_))
     have hs:Sat W w (allH ((z::rest).map (sdL s.room n))::recs Rec.str gs (pre.map fun z=>tDue z.2 nw).flatten::rsB rb 0 false ⟨#[]⟩ gs::blk b1 [.int .i64 0,.bool false,.string ⟨#[]⟩,.slice none 0 0]::cB b sl p ch nw::recs Rec.ptr sl (Ls.map fun z=>z.1)::pnlK p 5::chs ch n::allH ((pre.map fun z=>(z.1,delAll z.2 (tDue z.2 nw))).map (sdL s.room (n + 1024)))::M):=by exact Sat.fin hs
     have hs:=pick_hd hs
     refine call1_ret (q24_Expire hn1 h1 (by omega) hs) fun v w ⟨sg,hv,hs⟩=>⟨_,hv,keep_imp hs ?_⟩
     have hz:=hS z (by rw [e]; simp)
     have hd:=due_le (T:=z.2) (now:=nw)
     have hfl:(pre.map fun z=>tDue z.2 nw).flatten.length <= (pre.map fun z=>tDue z.2 nw).length * 1024:=len_flatten fun l hl=>by
      obtain ⟨y,hy,rfl⟩:=List.mem_map.1 hl
      have:=hS y (by rw [e]; simp [hy])
      have:=due_le (T:=y.2) (now:=nw)
      omega
     rw [List.length_map] at hfl
     refine app_by (s:=gs) (new:=tDue z.2 nw) hs (rd_rdb (s:=sg) (E:=Rec.str) (rows:=tDue z.2 nw) hs) (rdb_len (s:=sg) (E:=Rec.str) (rows:=tDue z.2 nw) hs) (okC_flat _) rfl (by decide) (by omega) fun gs2 w hg2 hs=>?_
     refine st_b hs fun w hs=>?_
     have hs:Sat W w (sdL s.room (n + 1024) (z.1,delAll z.2 (tDue z.2 nw))::allH ((pre.map fun z=>(z.1,delAll z.2 (tDue z.2 nw))).map (sdL s.room (n + 1024)))::recs Rec.str gs2 ((pre.map fun z=>tDue z.2 nw).flatten ++ tDue z.2 nw)::rsB rb 0 false ⟨#[]⟩ gs2::blk b1 [.int .i64 0,.bool false,.string ⟨#[]⟩,.slice none 0 0]::cB b sl p ch nw::recs Rec.ptr sl (Ls.map fun z=>z.1)::pnlK p 5::chs ch n::allH (rest.map (sdL s.room n))::M):=by exact Sat.fin hs
     have hs:=put_snoc hs
     have e1:(pre.map fun z=>tDue z.2 nw).flatten ++ tDue z.2 nw = ((pre ++ [z]).map fun z=>tDue z.2 nw).flatten:=by simp
     have e2:(pre.map fun z=>(z.1,delAll z.2 (tDue z.2 nw))) ++ [(z.1,delAll z.2 (tDue z.2 nw))] = (pre ++ [z]).map fun z=>(z.1,delAll z.2 (tDue z.2 nw)):=by simp
     rw [e1,e2] at hs
     rw [show IntKind.wrap .i64 ((pre.length:Int) + 1) = ((pre ++ [z]).length:Int) by rw [i64_in _ (by omega)]; simp]
     exact ih (pre ++ [z]) w gs2 (by rw [e]; simp) (by exact Sat.fin hs)
   refine exM_of _ (loop Ls [] w ⟨none,0,0⟩ rfl ?_)
   have hs:=pick_nil (f:=sdL s.room (n + 1024)) hs
   exact (by exact Sat.fin hs:Sat W w (recs Rec.str ⟨none,0,0⟩ []::rsB rb 0 false ⟨#[]⟩ ⟨none,0,0⟩::blk b1 [.int .i64 0,.bool false,.string ⟨#[]⟩,.slice none 0 0]::cB b sl p ch nw::recs Rec.ptr sl (Ls.map fun z=>z.1)::pnlK p 5::chs ch n::allH (([]:List (Nat × TT)).map (sdL s.room (n + 1024)))::allH (Ls.map (sdL s.room n))::M))
 refine ite_cases (fun h1=>?_) (fun h1=>?_)
 ·exact j1 w true (fun h=>by cases h) hs
 ·refine nilck_some (ld_b hs ?_)
  refine j1 w _ (fun h=>?_) hs
  have h1:=of_decide_eq_false h1
  have h2:=of_decide_eq_false h
  rw [i64_in _ (by omega)] at h2
  omega
end
end Go.Proofs.YtmefopmnjncdbaaGreat
namespace Go.Proofs.YtmefopmnjncdbaaGreat
open Go.Hb Go.IntWalk
section
variable {W w:World} {L M:List HP} {b sh n:Nat} {s:JS} {o:OpV} {p ch:Nat} {sl:Sl} {Ls:List (Nat × TT)} {key:ByteArray} {now rm:Int}
def cut2 (Ls:List (Nat × TT)) (gs:List BL):List (Nat × TT):=List.zipWith (fun z g=>(z.1,delAll z.2 g)) Ls gs
theorem cut2_snd:∀ {Ls:List (Nat × TT)} {gs:List BL},(cut2 Ls gs).map (·.2) = List.zipWith delAll (Ls.map (·.2)) gs
 | [],gs=>by simp [cut2]
 | z::Ls,[]=>by simp [cut2]
 | z::Ls,g::gs=>by
  have h:=cut2_snd (Ls:=Ls) (gs:=gs)
  unfold cut2 at h ⊢
  rw [List.zipWith_cons_cons,List.map_cons,h]; rfl
theorem cut2_fst:∀ {Ls:List (Nat × TT)} {gs:List BL},gs.length = Ls.length -> (cut2 Ls gs).map (fun z=>z.1) = Ls.map fun z=>z.1
 | [],gs,_=>by simp [cut2]
 | z::Ls,[],h=>by simp at h
 | z::Ls,g::gs,h=>by
  have h:=cut2_fst (Ls:=Ls) (gs:=gs) (by simpa using h)
  unfold cut2 at h ⊢
  rw [List.zipWith_cons_cons,List.map_cons,h]; rfl
theorem cut2_snoc {z:Nat × TT} {g:BL} {Ls:List (Nat × TT)} {gs:List BL} (h:gs.length = Ls.length):cut2 (Ls ++ [z]) (gs ++ [g]) = cut2 Ls gs ++ [(z.1,delAll z.2 g)]:=by
 unfold cut2
 rw [List.zipWith_append h.symm]; rfl
theorem q26_resize (hk:o.kind = 9) (hb:n < 400000) (hs:Sat W w (cch b sh n s::M)):Rts Tryz.prog 25 #[.pointer (some ⟨b,0,none⟩),.int .i64 o.n] w (DoQ b sh n s o W M):=by
 refine cw f25_ok f25_raw ?_
 obtain ⟨sl,p,ch,Ls,hJ,hl,hn,hs⟩:=cch_open hs
 have h8:=hJ.sh8; have hn0:=hJ.now0; have hnM:=hJ.nowM
 refine newB_at hs fun b1 w hs=>?_
 have j1:∀ (w:World) (t:Bool),(t = false -> 1 <= o.n /\ o.n <= 1024) -> Sat W w (blk b1 [.int .i64 0,.bool false,.string ⟨#[]⟩,.slice none 0 0]::cB b sl p ch s.now::recs Rec.ptr sl (Ls.map fun z=>z.1)::pnlK p 5::chs ch n::allH (Ls.map (sdL s.room n))::M) ->
   f25_j1 idJ (DoQ b sh n s o W M) (some ⟨b,0,none⟩) o.n b1 0 t w:=by
  clear hs
  intro w t ht hs
  refine jw f25_j1_raw ?_
  cases t with
  | true=>
   refine ite_true rfl ?_
   refine res4 (s:=⟨none,0,0⟩) hs fun w hs=>?_
   have hs:=cch_shut_more (b:=b) (sl:=sl) (p:=p) (ch:=ch) (n:=n) (m:=n + 1024) (M:=M) (by omega) hJ (by exact Sat.fin hs)
   exact doq_nil (saysE (e:=1) (by decide)) hs
  | false=>
   refine ite_false rfl ?_
   obtain ⟨h0,h1⟩:=ht rfl
   refine jw f25_j2_raw ?_
   refine newB_at hs fun rb w hs=>?_
   have hS:∀ z ∈ Ls,z.2.length <= 1024:=fun z hz=>by
    have h:=hJ.tabs z.2 (List.mem_map_of_mem hz)
    have h1:=h.len; have h2:=h.c2
    omega
   have hs:=Sat.nilR Rec.str hs
   have loop:∀ (pend pre:List (Nat × TT)) (G:List BL) (w:World) (gs:Sl),Ls = pre ++ pend -> G.length = pre.length ->
     (∀ (i:Nat) (z:Nat × TT) (g:BL),pre[i]? = some z -> G[i]? = some g -> ((∀ x ∈ g,x ∈ kT z.2) /\ g.Nodup) /\ SdOk o.n (delAll z.2 g)) -> G.flatten.length <= pre.length * 1024 ->
     Sat W w (recs Rec.str gs G.flatten::rsB rb 0 false ⟨#[]⟩ gs::blk b1 [.int .i64 0,.bool false,.string ⟨#[]⟩,.slice none 0 0]::cB b sl p ch s.now::recs Rec.ptr sl (Ls.map fun z=>z.1)::pnlK p 5::chs ch n::allH ((cut2 pre G).map (sdL o.n n))::allH (pend.map (sdL s.room n))::M) ->
     f25_l3 idJ (DoQ b sh n s o W M) (pend.length + 1) (some ⟨b,0,none⟩) o.n b1 0 rb 0 (pre.length:Int) w:=by
    clear hs
    intro pend
    induction pend with
    | nil=>
     intro pre G w gs e hG hr hfl hs
     rw [List.append_nil] at e
     subst e
     rw [List.length_nil,f25_l3_raw]
     refine nilck_some (ld_b (x:=sl) hs ?_)
     refine ite_false (decide_eq_false (by omega)) ?_
     refine jw f25_j4_raw ?_
     refine drawW_only [cB b sl p ch s.now] hs fun w hs=>?_
     refine nilck_some (ldS_b (nilck_some (ld_b (x:=sl) hs (keep_imp hs ?_))))
     have hs:Sat W w (pnlK p 5::recs Rec.str gs G.flatten::rsB rb 0 false ⟨#[]⟩ gs::blk b1 [.int .i64 0,.bool false,.string ⟨#[]⟩,.slice none 0 0]::cB b sl p ch s.now::recs Rec.ptr sl (Ls.map fun z=>z.1)::chs ch n::allH ((cut2 Ls G).map (sdL o.n n))::M):=by exact Sat.fin hs
     refine call0_ret (q18_Resize hs) fun v w ⟨hv,hs⟩=>⟨hv,?_⟩
     refine ld_b hs (ld_b hs (ld_b hs (ld_b (x:=gs) hs ?_)))
     refine res4 (s:=gs) hs fun w hs=>?_
     have hr2:∀ (i:Nat) (T:TT) (g:BL),(Ls.map (·.2))[i]? = some T -> G[i]? = some g -> ((∀ x ∈ g,x ∈ kT T) /\ g.Nodup) /\ SdOk o.n (delAll T g):=by
      intro i T g hT hg
      rw [List.getElem?_map] at hT
      cases hz:Ls[i]? with
      | none=>rw [hz] at hT; cases hT
      | some z=>
       rw [hz] at hT
       cases hT
       exact hr i z g hz hg
     obtain ⟨hsay,hJ2⟩:=saysRes hJ hk (by omega) (fun i T g h1 h2=>(hr2 i T g h1 h2).1) (fun i T g h1 h2=>(hr2 i T g h1 h2).2)
     rw [<- cut2_snd] at hJ2
     have e1:=cut2_fst (Ls:=Ls) (gs:=G) hG
     have e2:(jNext s o 0 G.flatten).now = s.now:=by rw [jNext0]; exact jNow_same (by omega)
     have e3:(jNext s o 0 G.flatten).room = o.n:=by rw [jNext0]; exact if_pos hk
     refine ⟨0,false,⟨#[]⟩,gs,G.flatten,rfl,hsay,cch_shut_more (n:=n) (m:=n + 1024) (sl:=sl) (p:=p) (ch:=ch) (by omega) hJ2 ?_⟩
     rw [e1,e2,e3]
     exact Sat.fin hs
    | cons z rest ih=>
     intro pre G w gs e hG hr hfl hs
     rw [List.length_cons,f25_l3_raw]
     have hle:Ls.length = pre.length + (rest.length + 1):=by rw [e]; simp
     refine nilck_some (ld_b (x:=sl) hs ?_)
     refine ite_true (decide_eq_true (by omega)) ?_
     refine nilck_some (ld_b (x:=sl) hs ?_)
     refine idx_rd (s:=sl) hs fun b_ o_ ha_=>?_
     refine ld_rd0 (s:=sl) (rows:=Ls.map fun z:Nat × TT=>z.1) ha_ hs ?_ (k:=.ptr) (x:=some ⟨z.1,0,none⟩) (hi:=by rw [List.length_map]; omega) (hc:=getD_mid e)
     have hs:Sat W w (allH ((z::rest).map (sdL s.room n))::recs Rec.str gs G.flatten::rsB rb 0 false ⟨#[]⟩ gs::blk b1 [.int .i64 0,.bool false,.string ⟨#[]⟩,.slice none 0 0]::cB b sl p ch s.now::recs Rec.ptr sl (Ls.map fun z=>z.1)::pnlK p 5::chs ch n::allH ((cut2 pre G).map (sdL o.n n))::M):=by exact Sat.fin hs
     have hs:=pick_hd hs
     refine call2_ret (q24_Resize h0 h1 (by omega) hs) fun v w ⟨sg,g,hv,hnd,hsub,hs⟩=>⟨_,_,hv,?_⟩
     have hok:=sd_ok hs
     have hz:=hS z (by rw [e]; simp)
     have hgl:g.length <= 1024:=by
      have:=nodup_sub_len hnd hsub
      unfold kT at this
      rw [List.length_map] at this
      omega
     refine ld_b (x:=gs) hs ?_
     refine app_by (s:=gs) (new:=g) hs (rd_rdb (s:=sg) (E:=Rec.str) (rows:=g) hs) (rdb_len (s:=sg) (E:=Rec.str) (rows:=g) hs) (okC_flat _) rfl (by decide) (by omega) fun gs2 w hg2 hs=>?_
     refine st_b hs fun w hs=>?_
     have hs:Sat W w (sdL o.n n (z.1,delAll z.2 g)::allH ((cut2 pre G).map (sdL o.n n))::recs Rec.str gs2 (G.flatten ++ g)::rsB rb 0 false ⟨#[]⟩ gs2::blk b1 [.int .i64 0,.bool false,.string ⟨#[]⟩,.slice none 0 0]::cB b sl p ch s.now::recs Rec.ptr sl (Ls.map fun z=>z.1)::pnlK p 5::chs ch n::allH (rest.map (sdL s.room n))::M):=by exact Sat.fin hs
     have hs:=put_snoc hs
     have e1:G.flatten ++ g = (G ++ [g]).flatten:=by simp
     rw [e1,<- cut2_snoc hG] at hs
     rw [show IntKind.wrap .i64 ((pre.length:Int) + 1) = ((pre ++ [z]).length:Int) by rw [i64_in _ (by omega)]; simp]
     refine ih (pre ++ [z]) (G ++ [g]) w gs2 (by rw [e]; simp) (by simp [hG]) (fun i y g' h1 h2=>?_) (by rw [<- e1,List.length_append,List.length_append,List.length_singleton]; omega) (by exact Sat.fin hs)
     by_cases hi:i < pre.length
     ·rw [List.getElem?_append_left hi] at h1
      rw [List.getElem?_append_left (by omega)] at h2
      exact hr i y g' h1 h2
     ·have hil:=(List.getElem?_eq_some_iff.1 h1).1
      rw [List.length_append,List.length_singleton] at hil
      have hie:i = pre.length:=by omega
      subst hie
      rw [List.getElem?_append_right (Nat.le_refl _),Nat.sub_self] at h1
      rw [List.getElem?_append_right (by omega),hG,Nat.sub_self] at h2
      cases h1; cases h2
      exact ⟨⟨hsub,hnd⟩,hok⟩
   refine exM_of _ (loop Ls [] [] w ⟨none,0,0⟩ rfl rfl (fun i z g h=>by simp at h) (by simp) ?_)
   have hs:=pick_nil (f:=sdL o.n n) hs
   exact (by exact Sat.fin hs:Sat W w (recs Rec.str ⟨none,0,0⟩ []::rsB rb 0 false ⟨#[]⟩ ⟨none,0,0⟩::blk b1 [.int .i64 0,.bool false,.string ⟨#[]⟩,.slice none 0 0]::cB b sl p ch s.now::recs Rec.ptr sl (Ls.map fun z=>z.1)::pnlK p 5::chs ch n::allH (([]:List (Nat × TT)).map (sdL o.n n))::allH (Ls.map (sdL s.room n))::M))
 refine ite_cases (fun h1=>?_) (fun h1=>?_)
 ·exact j1 w true (fun h=>by cases h) hs
 ·refine j1 w _ (fun h=>?_) hs
  have h1:=of_decide_eq_false h1
  have h2:=of_decide_eq_false h
  omega
end
end Go.Proofs.YtmefopmnjncdbaaGreat
namespace Go.Proofs.YtmefopmnjncdbaaGreat
open Go.Hb Go.IntWalk
section
variable {W w:World} {L M:List HP} {b sh n:Nat} {s:JS} {o:OpV} {p ch:Nat} {sl:Sl} {Ls:List (Nat × TT)} {key:ByteArray} {now rm:Int} {i:Nat} {T':TT}
abbrev opB (b:Nat) (o:OpV):HP:=blk b [.int .i64 o.kind,.string o.key,.string o.val,.int .i64 o.n]
abbrev rs0 (b:Nat):HP:=blk b [.int .i64 0,.bool false,.string ⟨#[]⟩,.slice none 0 0]
theorem relay {P:Program} {f:FuncId} {args:Array Value} {rb:Nat} {v0 v1 v2 v3:Value} (hC:Rts P f args w (DoQ b sh n s o W (blk rb [v0,v1,v2,v3]::L))) {K:Int -> Bool -> ByteArray -> Sl -> WP}
  (hK:∀ (e:Int) (h:Bool) (x:ByteArray) (sl:Sl) (gone:BL) (w':World),jSays sh s o e h x gone = true -> Sat W w' (cch b sh (n + 1024) (jNext s o e gone)::recs Rec.str sl gone::L) -> K e h x sl w') :
  Calls P f args w fun e w'=>∃ (x:Int) (y:Bool) (z:ByteArray) (t:Sl),e = .returned (.agg #[.int .i64 x,.bool y,.string z,.slice t.a t.n t.c]) /\ (st rb 0 (.int .i64 x) (st rb 1 (.bool y) (st rb 2 (.string z) (st rb 3 (.slice t.a t.n t.c) (ld (.int .i64) rb 0 fun a=>ld .bool rb 1 fun b=>ld .str rb 2 fun c=>ld .slc rb 3 fun d=>K a b c d))))) w':=by
 refine Calls.mono hC fun e_ w ⟨v,he,e,h,x,sl,gone,hv,hsay,hs⟩=>⟨e,h,x,sl,by rw [he,hv],?_⟩
 exact res4 hs fun w hs=>hK e h x sl gone w hsay (by exact Sat.fin hs)
theorem pick_up (hi:i < Ls.length) (h:Sat W w (allH (Ls.map (sdL rm n))::M)):Sat W w (sd (Ls[i]).1 rm n (Ls[i]).2::allH ((Ls.eraseIdx i).map (sdL rm (n + 4)))::M):=by
 have hs:=pick_at hi h
 have hs:=sds_more (m:=n + 4) (by omega) (hs.perm (List.Perm.swap _ _ _))
 exact hs.perm (List.Perm.swap _ _ _)
theorem put_up {m:Nat} (hi:i < Ls.length) (hm:m <= n + 4) (h:Sat W w (sd (Ls[i]).1 rm m T'::allH ((Ls.eraseIdx i).map (sdL rm (n + 4)))::M)):Sat W w (allH ((Ls.set i ((Ls[i]).1,T')).map (sdL rm (n + 4)))::M):=
 put_at (f:=sdL rm (n + 4)) (x:=((Ls[i]).1,T')) hi (sd_more hm h)
theorem set_fst (hi:i < Ls.length):(Ls.set i ((Ls[i]).1,T')).map (fun z=>z.1) = Ls.map fun z=>z.1:=by
 rw [List.map_set,<- List.getElem_map (fun z:Nat × TT=>z.1) (h:=by simpa using hi),List.set_getElem_self]
theorem do_close {gone:BL} {hi:i < Ls.length} (hk:o.kind = 1 \/ o.kind = 2 \/ o.kind = 3) (hJ:JR sh ((Ls.map (·.2)).set i T') (jNext s o 0 gone)) (hs:Sat W w (allH ((Ls.set i ((Ls[i]).1,T')).map (sdL s.room (n + 4)))::cB b sl p ch s.now::recs Rec.ptr sl (Ls.map fun z=>z.1)::pnlK p 5::chs ch n::M)):Sat W w (cch b sh (n + 1024) (jNext s o 0 gone)::M):=by
 have e2:(jNext s o 0 gone).now = s.now:=by rw [jNext0]; exact jNow_same (by omega)
 have e3:(jNext s o 0 gone).room = s.room:=by rw [jNext0]; exact jRoom_same (by omega)
 have hJ:JR sh ((Ls.set i ((Ls[i]).1,T')).map (·.2)) (jNext s o 0 gone):=by rw [List.map_set]; exact hJ
 have hs:Sat W w (chs ch n::allH ((Ls.set i ((Ls[i]).1,T')).map (sdL s.room (n + 4)))::cB b sl p ch s.now::recs Rec.ptr sl (Ls.map fun z=>z.1)::pnlK p 5::M):=by exact Sat.fin hs
 have hs:=chs_more (m:=n + 4) (by omega) hs
 refine cch_shut_more (n:=n + 4) (sl:=sl) (p:=p) (ch:=ch) (by omega) hJ ?_
 rw [set_fst hi,e2,e3]
 exact Sat.fin hs
theorem do_same {sl2:Sl} {p ch:Nat} (hJ:JR sh (Ls.map (·.2)) s) {hi:i < Ls.length} (hs:Sat W w (sd (Ls[i]).1 s.room n (Ls[i]).2::allH ((Ls.eraseIdx i).map (sdL s.room (n + 4)))::cB b sl2 p ch s.now::recs Rec.ptr sl2 (Ls.map fun z=>z.1)::pnlK p 5::chs ch n::M)):Sat W w (cch b sh (n + 1024) s::M):=by
 have hs:=put_same (f:=sdL s.room (n + 4)) hi (sd_more (n':=n + 4) (by omega) hs)
 have hs:Sat W w (chs ch n::allH (Ls.map (sdL s.room (n + 4)))::cB b sl2 p ch s.now::recs Rec.ptr sl2 (Ls.map fun z=>z.1)::pnlK p 5::M):=by exact Sat.fin hs
 have hs:=chs_more (m:=n + 4) (by omega) hs
 exact cch_shut_more (n:=n + 4) (sl:=sl2) (p:=p) (ch:=ch) (by omega) hJ (by exact Sat.fin hs)
theorem do_j1 (h4:o.kind ≠ 1 /\ o.kind ≠ 2 /\ o.kind ≠ 3 /\ o.kind ≠ 4) (hb:n < 400000) {b1 b2:Nat} (t:Bool) (ht:t = true -> o.kind = 5 \/ o.kind = 6) (hf:t = false -> o.kind ≠ 5 /\ o.kind ≠ 6) (hs:Sat W w (cch b sh n s::rs0 b2::opB b1 o::M)) :
  f8_j1 idJ (DoQ b sh n s o W M) (some ⟨b,0,none⟩) b1 0 b2 0 o.kind t w:=by
 refine jw f8_j1_raw ?_
 cases t with
 | true=>
  refine ite_true rfl ?_
  iterate 4 refine ld_b hs ?_
  exact relay (q26_one (ht rfl) hb hs) fun e h x sl gone w hsay hs=>⟨e,h,x,sl,gone,rfl,hsay,by exact Sat.fin hs⟩
 | false=>
  refine ite_false rfl ?_
  obtain ⟨h5,h6⟩:=hf rfl
  with_reducible refine ite_by (fun h7=>?_) (fun h7=>?_)
  ·exact relay (q26_epoch h7 hb hs) fun e h x sl gone w hsay hs=>⟨e,h,x,sl,gone,rfl,hsay,by exact Sat.fin hs⟩
  with_reducible refine ite_by (fun h8=>?_) (fun h8=>?_)
  ·obtain ⟨sl,p,ch,Ls,hJ,hl,hn,hs⟩:=cch_open hs
   have h8:=hJ.sh8
   refine drawW_only [cB b sl p ch s.now] hs fun w hs=>?_
   refine nilck_some (ldS_b (ld_b hs (keep_imp hs ?_)))
   have hs:Sat W w (chs ch n::allH (Ls.map (sdL s.room n))::cB b sl p ch s.now::recs Rec.ptr sl (Ls.map fun z=>z.1)::pnlK p 5::rs0 b2::opB b1 o::M):=by exact Sat.fin hs
   refine call1_ret (q20_Force hs) fun v w ⟨hv,hs⟩=>?_
   rcases hv with hv | hv
   ·refine ⟨_,hv,ite_false rfl ?_⟩
    refine ld_b hs ?_
    have hs:Sat W w (allH (Ls.map (sdL s.room n))::cB b sl p ch s.now::recs Rec.ptr sl (Ls.map fun z=>z.1)::chs ch n::pnlK p 5::rs0 b2::opB b1 o::M):=by exact Sat.fin hs
    refine call0_ret (q26_turn (by omega) (by omega) (by omega) hs) fun v w ⟨hv,hs⟩=>⟨hv,?_⟩
    refine res4 (s:=⟨none,0,0⟩) hs fun w hs=>?_
    have hs:=cch_shut_more (b:=b) (sl:=sl) (p:=p) (ch:=ch) (n:=n) (m:=n + 1024) (M:=M) (by omega) hJ (by exact Sat.fin hs)
    exact doq_nil (saysN hJ (by omega) (by omega) (by omega) (by omega) (by omega)) hs
   ·refine ⟨_,hv,ite_true rfl ?_⟩
    refine res4 (s:=⟨none,0,0⟩) hs fun w hs=>?_
    have hs:=cch_shut_more (b:=b) (sl:=sl) (p:=p) (ch:=ch) (n:=n) (m:=n + 1024) (M:=M) (by omega) hJ (by exact Sat.fin hs)
    exact doq_nil (saysE (e:=4) (by decide)) hs
  with_reducible refine ite_by (fun h9=>?_) (fun h9=>?_)
  ·refine ld_b hs ?_
   exact relay (q26_resize h9 hb hs) fun e h x sl gone w hsay hs=>⟨e,h,x,sl,gone,rfl,hsay,by exact Sat.fin hs⟩
  ·refine res4 (s:=⟨none,0,0⟩) hs fun w hs=>?_
   exact doq_nil (saysE (e:=7) (by decide)) (cch_more (n:=n) (m:=n + 1024) (by omega) (by exact Sat.fin hs))
theorem q26_Do (hb:n < 400000) (hz:o.key.size <= 40) (hs:Sat W w (cch b sh n s::M)):Rts Tryz.prog 8 #[.pointer (some ⟨b,0,none⟩),.agg #[.int .i64 o.kind,.string o.key,.string o.val,.int .i64 o.n]] w (DoQ b sh n s o W M):=by
 refine cw f8_ok f8_raw ?_
 refine newB_at hs fun b1 w hs=>newB_at hs fun b2 w hs=>?_
 have hs:Sat W w (cch b sh n s::rs0 b2::opB b1 o::M):=by exact Sat.fin hs
 refine ld_b hs ?_
 have start:∃ (sl:Sl) (p ch:Nat) (Ls:List (Nat × TT)) (hi:shIx sh o.key < Ls.length),JR sh (Ls.map (·.2)) s /\ Ls.length = sh /\ sl.n = sh /\ (Ls.map (·.2))[shIx sh o.key]? = some (Ls[shIx sh o.key]).2 /\ Sat W w (cB b sl p ch s.now::recs Rec.ptr sl (Ls.map fun z=>z.1)::pnlK p 5::chs ch n::allH (Ls.map (sdL s.room n))::rs0 b2::opB b1 o::M):=by
  obtain ⟨sl,p,ch,Ls,hJ,hl,hn,hs⟩:=cch_open hs
  have hi:shIx sh o.key < Ls.length:=by rw [hl]; exact shIx_lt hJ.sh1 _
  exact ⟨sl,p,ch,Ls,hi,hJ,hl,hn,by rw [List.getElem?_map,List.getElem?_eq_getElem hi]; rfl,hs⟩
 with_reducible refine ite_by (fun h1=>?_) (fun h1=>?_)
 ·obtain ⟨sl,p,ch,Ls,hi,hJ,hl,hn,hT,hs⟩:=start
  refine drawW_only [cB b sl p ch s.now,opB b1 o] hs fun w hs=>?_
  refine ldS_b (ldS_b (nilck_some (ldS_b ?_)))
  refine call1_ret (q26_of hJ.sh1 hJ.sh8 hl hn (by omega) hs) fun v w ⟨hv,hs⟩=>⟨_,hv,keep_imp hs ?_⟩
  have hs:Sat W w (allH (Ls.map (sdL s.room n))::cB b sl p ch s.now::recs Rec.ptr sl (Ls.map fun z=>z.1)::pnlK p 5::chs ch n::rs0 b2::opB b1 o::M):=by exact Sat.fin hs
  have hs:=pick_up hi hs
  refine Calls.mono (q24_Get (key:=o.key) (now:=s.now) (by omega) hs) fun e_ w ⟨v,he,h⟩=>?_
  rcases h with ⟨hne,hv,hs⟩ | ⟨h0,sg,hv,hs⟩
  ·refine ⟨_,_,⟨none,0,0⟩,_,by rw [he,hv],?_⟩
   iterate 4 refine ld_b hs ?_
   have hs:=do_same (hi:=hi) hJ hs
   have hs:Sat W w (cch b sh (n + 1024) s::rs0 b2::opB b1 o::M):=hs
   obtain ⟨sl,p,ch,Ls,hJ,hl,hn,hs⟩:=cch_open hs
   have hs:Sat W w (pnlK p 5::cB b sl p ch s.now::recs Rec.ptr sl (Ls.map fun z=>z.1)::chs ch (n + 1024)::allH (Ls.map (sdL s.room (n + 1024)))::rs0 b2::opB b1 o::M):=by exact Sat.fin hs
   refine Calls.mono (q26_used (o:=o) (rs:=⟨none,0,0⟩) (fun h=>absurd h hne) hs) fun e_ w ⟨v,he,hv,hs⟩=>?_
   rw [if_pos hne] at hv
   refine ⟨_,_,_,⟨none,0,0⟩,by rw [he,hv],?_⟩
   refine res4 (s:=⟨none,0,0⟩) hs fun w hs=>?_
   exact doq_nil (saysE hne) (cch_shut (sl:=sl) (p:=p) (ch:=ch) hJ (by exact Sat.fin hs))
  ·refine ⟨_,_,sg,_,by rw [he,hv],?_⟩
   iterate 4 refine ld_b hs ?_
   obtain ⟨hsay,hJ2⟩:=saysGet hJ h1 hT
   have hs:=put_up (n:=n) hi (by omega) (hs.perm (List.Perm.cons _ (List.Perm.swap _ _ _)))
   have hs:Sat W w (pnlK p 5::cB b sl p ch s.now::recs Rec.ptr sl (Ls.map fun z=>z.1)::chs ch n::allH ((Ls.set (shIx sh o.key) ((Ls[shIx sh o.key]).1,sOver (Ls[shIx sh o.key]).2 o.key s.now)).map (sdL s.room (n + 4)))::recs Rec.str sg (gOver (Ls[shIx sh o.key]).2 o.key s.now)::rs0 b2::opB b1 o::M):=by exact Sat.fin hs
   refine Calls.mono (q26_used (o:=o) (rs:=sg) (fun h=>by omega) hs) fun e_ w ⟨v,he,hv,hs⟩=>?_
   rw [if_neg (by simp)] at hv
   refine ⟨_,_,_,sg,by rw [he,hv],?_⟩
   refine res4 (s:=sg) hs fun w hs=>?_
   exact ⟨0,_,_,sg,_,rfl,hsay,do_close (sl:=sl) (p:=p) (ch:=ch) (hi:=hi) (.inl h1) hJ2 (by exact Sat.fin hs)⟩
 with_reducible refine ite_by (fun h2=>?_) (fun h2=>?_)
 ·obtain ⟨sl,p,ch,Ls,hi,hJ,hl,hn,hT,hs⟩:=start
  refine drawW_only [cB b sl p ch s.now,opB b1 o] hs fun w hs=>?_
  refine ldS_b (ldS_b (ldS_b (nilck_some (ldS_b (ldS_b ?_)))))
  refine call1_ret (q26_of hJ.sh1 hJ.sh8 hl hn (by omega) hs) fun v w ⟨hv,hs⟩=>⟨_,hv,keep_imp hs ?_⟩
  have hs:Sat W w (allH (Ls.map (sdL s.room n))::cB b sl p ch s.now::recs Rec.ptr sl (Ls.map fun z=>z.1)::pnlK p 5::chs ch n::rs0 b2::opB b1 o::M):=by exact Sat.fin hs
  have hs:=pick_up hi hs
  refine call2_ret (q24_Put (key:=o.key) (val:=o.val) (now:=s.now) (life:=o.n) (by omega) hs) fun v w h=>?_
  rcases h with ⟨hne,hv,hs⟩ | ⟨h0,sg,g,hv,hnd,hgT,hgk,hs⟩
  ·refine ⟨⟨none,0,0⟩,_,hv,?_⟩
   iterate 4 refine ld_b hs ?_
   have hs:=do_same (hi:=hi) hJ hs
   have hs:Sat W w (cch b sh (n + 1024) s::rs0 b2::opB b1 o::M):=hs
   obtain ⟨sl,p,ch,Ls,hJ,hl,hn,hs⟩:=cch_open hs
   have hs:Sat W w (pnlK p 5::cB b sl p ch s.now::recs Rec.ptr sl (Ls.map fun z=>z.1)::chs ch (n + 1024)::allH (Ls.map (sdL s.room (n + 1024)))::rs0 b2::opB b1 o::M):=by exact Sat.fin hs
   refine Calls.mono (q26_used (o:=o) (rs:=⟨none,0,0⟩) (fun h=>absurd h hne) hs) fun e_ w ⟨v,he,hv,hs⟩=>?_
   rw [if_pos hne] at hv
   refine ⟨_,_,_,⟨none,0,0⟩,by rw [he,hv],?_⟩
   refine res4 (s:=⟨none,0,0⟩) hs fun w hs=>?_
   exact doq_nil (saysE hne) (cch_shut (sl:=sl) (p:=p) (ch:=ch) hJ (by exact Sat.fin hs))
  ·refine ⟨sg,_,hv,?_⟩
   iterate 4 refine ld_b hs ?_
   obtain ⟨hsay,hJ2⟩:=saysPut hJ h2 hT h0 hnd hgT hgk (sd_ok hs)
   have hs:=put_up (n:=n) hi (by omega) (hs.perm (List.Perm.cons _ (List.Perm.swap _ _ _)))
   have hs:Sat W w (pnlK p 5::cB b sl p ch s.now::recs Rec.ptr sl (Ls.map fun z=>z.1)::chs ch n::allH ((Ls.set (shIx sh o.key) ((Ls[shIx sh o.key]).1,tPut (delAll (sOver (Ls[shIx sh o.key]).2 o.key s.now) g) o.key o.val s.now o.n)).map (sdL s.room (n + 4)))::recs Rec.str sg (gOver (Ls[shIx sh o.key]).2 o.key s.now ++ g)::rs0 b2::opB b1 o::M):=by exact Sat.fin hs
   refine Calls.mono (q26_used (o:=o) (rs:=sg) (fun h=>by omega) hs) fun e_ w ⟨v,he,hv,hs⟩=>?_
   rw [if_neg (by simp)] at hv
   refine ⟨_,_,_,sg,by rw [he,hv],?_⟩
   refine res4 (s:=sg) hs fun w hs=>?_
   exact ⟨0,_,_,sg,_,rfl,hsay,do_close (sl:=sl) (p:=p) (ch:=ch) (hi:=hi) (.inr (.inl h2)) hJ2 (by exact Sat.fin hs)⟩
 with_reducible refine ite_by (fun h3=>?_) (fun h3=>?_)
 ·obtain ⟨sl,p,ch,Ls,hi,hJ,hl,hn,hT,hs⟩:=start
  refine drawW_only [cB b sl p ch s.now,opB b1 o] hs fun w hs=>?_
  refine ldS_b (ldS_b (nilck_some (ldS_b ?_)))
  refine call1_ret (q26_of hJ.sh1 hJ.sh8 hl hn (by omega) hs) fun v w ⟨hv,hs⟩=>⟨_,hv,keep_imp hs ?_⟩
  have hs:Sat W w (allH (Ls.map (sdL s.room n))::cB b sl p ch s.now::recs Rec.ptr sl (Ls.map fun z=>z.1)::pnlK p 5::chs ch n::rs0 b2::opB b1 o::M):=by exact Sat.fin hs
  have hs:=pick_up hi hs
  refine Calls.mono (q24_Delete (key:=o.key) (now:=s.now) (by omega) hs) fun e_ w ⟨v,he,h⟩=>?_
  rcases h with ⟨hne,hv,hs⟩ | ⟨h0,sg,hv,hs⟩
  ·refine ⟨_,⟨none,0,0⟩,_,by rw [he,hv]; rfl,?_⟩
   refine ite_true (by simpa using hne) ?_
   refine res4 (s:=⟨none,0,0⟩) hs fun w hs=>?_
   exact doq_nil (saysE hne) (do_same (hi:=hi) hJ (by exact Sat.fin hs))
  ·refine ⟨_,sg,_,by rw [he,hv]; rfl,?_⟩
   refine ite_false rfl ?_
   obtain ⟨hsay,hJ2⟩:=saysDel hJ h3 hT (sd_ok hs)
   have hs:=put_up (n:=n) hi (by omega) (hs.perm (List.Perm.cons _ (List.Perm.swap _ _ _)))
   refine res4 (s:=sg) hs fun w hs=>?_
   exact ⟨0,_,_,sg,_,rfl,hsay,do_close (sl:=sl) (p:=p) (ch:=ch) (hi:=hi) (.inr (.inr h3)) hJ2 (by exact Sat.fin hs)⟩
 clear start
 with_reducible refine ite_by (fun h4=>?_) (fun h4=>?_)
 ·refine ld_b hs ?_
  exact relay (q26_tick h4 hb hs) fun e h x sl gone w hsay hs=>⟨e,h,x,sl,gone,rfl,hsay,by exact Sat.fin hs⟩
 with_reducible refine ite_by (fun h5=>?_) (fun h5=>?_)
 ·rw [show (o.kind == 5) = true by simpa using h5]
  exact do_j1 ⟨h1,h2,h3,h4⟩ hb true (fun _=>.inl h5) (fun h=>by cases h) hs
 ·exact do_j1 ⟨h1,h2,h3,h4⟩ hb _ (fun h=>.inr (by simpa using h)) (fun h=>⟨h5,by simpa using h⟩) hs
end
end Go.Proofs.YtmefopmnjncdbaaGreat
namespace Go.Proofs.YtmefopmnjncdbaaGreat
open Go.Hb Go.IntWalk
section
variable {W w:World} {L M:List HP} {b sh n:Nat} {Ls:List (Nat × TT)} {c0 c1 c2 c3 c4 c5 c6:Int} {tp:Sl} {tape:List Int}
abbrev cfB (b:Nat) (c0 c1 c2 c3 c4 c5 c6:Int) (tp:Sl):HP:=blk b [.int .i64 c0,.int .i64 c1,.int .i64 c2,.int .i64 c3,.int .i64 c4,.int .i64 c5,.int .i64 c6,.slice tp.a tp.n tp.c]
abbrev NewQ (c0 c1:Int) (W:World) (L:List HP):Value -> WP:=fun v w'=>(∃ (b sh:Nat),c0 = (sh:Int) /\ v = .tuple #[.pointer (some ⟨b,0,none⟩),.int .i64 0] /\ Sat W w' (cch b sh 1 ⟨[],0,c1⟩::L)) \/ (∃ e:Int,e ≠ 0 /\ v = .tuple #[.pointer none,.int .i64 e] /\ Sat W w' L)
theorem new_j3 [hO:AtO L W] [hr:ReadsR W tp (Rec.int .u32) tape] (ht:tape.length <= 1000) {b1 cb:Nat} {sl:Sl} (hsh:c0 = (sh:Int)) (h1:1 <= sh) (h8:sh <= 8) (hr1:1 <= c1) (hr2:c1 <= 1024) (hT:Ls.map (·.2) = List.replicate sh []) (hs:Sat W w (blk cb [.slice sl.a sl.n sl.c,.pointer none,.pointer none,.int .i64 0]::recs Rec.ptr sl (Ls.map fun z=>z.1)::allH (Ls.map (sdL c1 0))::cfB b1 c0 c1 c2 c3 c4 c5 c6 tp::L)) :
  f6_j3 idJ (NewQ c0 c1 W L) b1 0 cb 0 w:=by
 refine jw f6_j3_raw ?_
 refine drawW_only [cfB b1 c0 c1 c2 c3 c4 c5 c6 tp] hs fun w hs=>?_
 refine ldS_b (ldS_b (ldS_b (x:=tp) ?_))
 refine newB_at hs fun tb w hs=>keep_imp hs ?_
 have hs:=Sat.blkS (b:=tb) (cs:=[]) (n:=0) (Rec.int .u32) [] hs rfl rfl
 have hs:Sat W w (recs (Rec.int .u32) ⟨some ⟨tb,0,none⟩,0,0⟩ []::blk cb [.slice sl.a sl.n sl.c,.pointer none,.pointer none,.int .i64 0]::recs Rec.ptr sl (Ls.map fun z=>z.1)::allH (Ls.map (sdL c1 0))::cfB b1 c0 c1 c2 c3 c4 c5 c6 tp::L):=by exact Sat.fin hs
 refine app_by (s:=⟨some ⟨tb,0,none⟩,0,0⟩) (new:=tape) hs (rd_rdb (s:=tp) (E:=Rec.int .u32) (rows:=tape) hs) (rdb_len (s:=tp) (E:=Rec.int .u32) (rows:=tape) hs) (okC_flat _) rfl (by decide) (by simp; omega) fun s2 w hs2 hs=>?_
 refine keep_imp hs ?_
 refine newB_at hs fun t2 w hs=>keep_imp hs ?_
 have hs:Sat W w (blk t2 [.slice s2.a s2.n s2.c,.int .i64 0]::recs (Rec.int .u32) s2 tape::blk cb [.slice sl.a sl.n sl.c,.pointer none,.pointer none,.int .i64 0]::recs Rec.ptr sl (Ls.map fun z=>z.1)::allH (Ls.map (sdL c1 0))::cfB b1 c0 c1 c2 c3 c4 c5 c6 tp::L):=by exact Sat.fin hs
 have hs:=tpe_shut (n:=0) (s:=s2) (l:=tape) (k:=0) ⟨Int.le_refl 0,Int.le_refl 0⟩ hs
 refine call2_ret (q20_New hs) fun v w h=>?_
 rcases h with ⟨q,hv,hs⟩ | ⟨e,he,hv,hs⟩
 ·refine ⟨_,_,hv,ite_false rfl ?_⟩
  iterate 3 refine ld_b hs ?_
  refine call1_ret (q18_New hs) fun v w ⟨p,hv,hs⟩=>⟨_,hv,?_⟩
  refine nilck_some (st_b hs fun w hs=>?_)
  refine nilck_some (st_b hs fun w hs=>?_)
  have hJ:JR sh (Ls.map (·.2)) ⟨[],0,c1⟩:=by rw [hT]; exact JR.new h1 h8 hr1 hr2
  exact .inl ⟨cb,sh,hsh,rfl,cch_shut_more (n:=0) (sl:=sl) (p:=p) (ch:=q) (by omega) hJ (by exact Sat.fin hs)⟩
 ·exact ⟨_,_,hv,ite_true (by simpa using he) (.inr ⟨e,he,rfl,by exact Sat.fin hs⟩)⟩
theorem q26_New [hO:AtO L W] [hr:ReadsR W tp (Rec.int .u32) tape] (ht:tape.length <= 1000) (hs:Sat W w L):Rts Tryz.prog 6 #[.agg #[.int .i64 c0,.int .i64 c1,.int .i64 c2,.int .i64 c3,.int .i64 c4,.int .i64 c5,.int .i64 c6,.slice tp.a tp.n tp.c]] w (NewQ c0 c1 W L):=by
 refine cw f6_ok f6_raw ?_
 refine newB_at hs fun b1 w hs=>?_
 have bad:∀ w:World,Sat W w (cfB b1 c0 c1 c2 c3 c4 c5 c6 tp::L) -> NewQ c0 c1 W L (.tuple #[.pointer none,.int .i64 1]) w:=fun w hs=>.inr ⟨1,by decide,rfl,hs.drop⟩
 refine ld_b hs ?_
 with_reducible refine ite_by (fun h1=>?_) (fun h1=>?_)
 ·exact bad w hs
 refine ld_b hs ?_
 with_reducible refine ite_by (fun h2=>?_) (fun h2=>?_)
 ·exact bad w hs
 refine ld_b hs ?_
 with_reducible refine ite_by (fun h3=>?_) (fun h3=>?_)
 ·exact bad w hs
 refine ld_b hs ?_
 with_reducible refine ite_by (fun h4=>?_) (fun h4=>?_)
 ·exact bad w hs
 refine ld_b hs ?_
 with_reducible refine ite_by (fun h5=>?_) (fun h5=>?_)
 ·exact bad w hs
 refine ld_b hs ?_
 with_reducible refine ite_by (fun h6=>?_) (fun h6=>?_)
 ·exact bad w hs
 obtain ⟨sh,hsh⟩:∃ sh:Nat,c0 = (sh:Int):=⟨c0.toNat,by omega⟩
 refine jw f6_j1_raw ?_
 refine newB_at hs fun cb w hs=>?_
 have loop:∀ (f i:Nat) (Ls:List (Nat × TT)) (sl:Sl) (w:World),i + f = sh -> Ls.map (·.2) = List.replicate i [] -> Sat W w (blk cb [.slice sl.a sl.n sl.c,.pointer none,.pointer none,.int .i64 0]::recs Rec.ptr sl (Ls.map fun z=>z.1)::allH (Ls.map (sdL c1 0))::cfB b1 c0 c1 c2 c3 c4 c5 c6 tp::L) ->
   f6_l2 idJ (NewQ c0 c1 W L) (f + 1) b1 0 cb 0 (i:Int) w:=by
  clear hs
  intro f
  induction f with
  | zero=>
   intro i Ls sl w hi hT hs
   rw [f6_l2_raw]
   refine ld_b hs ?_
   refine ite_false (decide_eq_false (by omega)) ?_
   have hi:i = sh:=by omega
   subst hi
   exact new_j3 ht hsh (by omega) (by omega) (by omega) (by omega) hT hs
  | succ f ih=>
   intro i Ls sl w hi hT hs
   rw [f6_l2_raw]
   refine ld_b hs ?_
   refine ite_true (decide_eq_true (by omega)) ?_
   iterate 4 refine ld_b hs ?_
   refine call2_ret (q24_New hs) fun v w h=>?_
   rcases h with ⟨q,hv,hs⟩ | ⟨e,he,hv,hs⟩
   ·refine ⟨_,_,hv,ite_false rfl ?_⟩
    have hlen:Ls.length = i:=by have:=congrArg List.length hT; simpa using this
    refine nilck_some (ld_b (x:=sl) hs ?_)
    refine newB_at hs fun nb w hs=>?_
    refine app_one (s:=sl) (a:=q) hs rfl rfl rfl rfl (by decide) (by rw [List.length_map]; omega) fun s5 w hs5 hs=>?_
    refine nilck_some (st_b hs fun w hs=>?_)
    have hs:Sat W w (sdL c1 0 (q,[])::allH (Ls.map (sdL c1 0))::blk cb [.slice s5.a s5.n s5.c,.pointer none,.pointer none,.int .i64 0]::recs Rec.ptr s5 ((Ls.map fun z=>z.1) ++ [q])::cfB b1 c0 c1 c2 c3 c4 c5 c6 tp::L):=by exact Sat.fin hs
    have hs:=put_snoc hs
    rw [show (Ls.map fun z=>z.1) ++ [q] = (Ls ++ [(q,([]:TT))]).map fun z=>z.1 by simp] at hs
    rw [show IntKind.wrap .i64 ((i:Int) + 1) = ((i + 1:Nat):Int) by rw [i64_in _ (by omega)]; omega]
    exact ih (i + 1) (Ls ++ [(q,([]:TT))]) s5 w (by omega) (by rw [List.map_append,hT,List.replicate_succ']; rfl) (by exact Sat.fin hs)
   ·exact ⟨_,_,hv,ite_true (by simpa using he) (.inr ⟨e,he,rfl,by exact Sat.fin hs⟩)⟩
 have hs:=Sat.nilR Rec.ptr hs
 have hs:=pick_nil (f:=sdL c1 0) hs
 exact exM_of _ (loop sh 0 [] ⟨none,0,0⟩ w (by omega) rfl (by exact Sat.fin hs))
end
end Go.Proofs.YtmefopmnjncdbaaGreat
