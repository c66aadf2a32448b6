import Derived.Test.YtmefopmnjncdbaaGreatMn10
set_option linter.unusedVariables false
set_option linter.unusedSimpArgs false
set_option linter.unnecessarySimpa false
set_option linter.unusedSectionVars false
set_option maxRecDepth 100000
namespace Go.Hb
abbrev cR (b:Nat) (s1 s2 s3 s4:Sl) (p c:Int):HP:=blk b [.slice s1.a s1.n s1.c,.slice s2.a s2.n s2.c,.slice s3.a s3.n s3.c,.slice s4.a s4.n s4.c,.int .i64 p,.int .i64 c]
def arR (b:Nat) (c:Int) (x:ArcS):HP:=exH fun (z:Sl × Sl × Sl × Sl)=>allH [cR b z.1 z.2.1 z.2.2.1 z.2.2.2 x.p c,recs Rec.str z.1 x.t1,recs Rec.str z.2.1 x.t2,recs Rec.str z.2.2.1 x.b1,recs Rec.str z.2.2.2 x.b2]
section
variable {W w:World} {M L:List HP} {b:Nat} {c:Int} {x:ArcS}
instance At.arR:At (arR b c x::L) b (arR b c x) (fun x=>x::L):=⟨here_pos⟩
theorem ar_open (h:Sat W w (arR b c x::M)):∃ s1 s2 s3 s4:Sl,((s1.n = x.t1.length /\ s1.n <= s1.c) /\ (s2.n = x.t2.length /\ s2.n <= s2.c) /\ (s3.n = x.b1.length /\ s3.n <= s3.c) /\ (s4.n = x.b2.length /\ s4.n <= s4.c)) /\
  Sat W w (cR b s1 s2 s3 s4 x.p c::recs Rec.str s1 x.t1::recs Rec.str s2 x.t2::recs Rec.str s3 x.b1::recs Rec.str s4 x.b2::M):=by
 obtain ⟨⟨s1,s2,s3,s4⟩,h⟩:=h.openE
 have h:=h.openL
 have h:Sat W w (cR b s1 s2 s3 s4 x.p c::recs Rec.str s1 x.t1::recs Rec.str s2 x.t2::recs Rec.str s3 x.b1::recs Rec.str s4 x.b2::M):=h
 exact ⟨s1,s2,s3,s4,⟨recs_len (s:=s1) h,recs_len (s:=s2) h,recs_len (s:=s3) h,recs_len (s:=s4) h⟩,h⟩
theorem ar_shut (s1 s2 s3 s4:Sl) {p:Int} {l1 l2 l3 l4:List ByteArray} (h:Sat W w (cR b s1 s2 s3 s4 p c::recs Rec.str s1 l1::recs Rec.str s2 l2::recs Rec.str s3 l3::recs Rec.str s4 l4::M)) (h1:l1 = x.t1) (h2:l2 = x.t2) (h3:l3 = x.b1) (h4:l4 = x.b2) (hp:p = x.p):Sat W w (arR b c x::M):=by
 subst h1 h2 h3 h4 hp
 exact Sat.shutE (s1,s2,s3,s4) (Sat.shutL (Ps:=[_,_,_,_,_]) h)
theorem ar_cap (h:Sat W w (arR b c x::M)):w.cell? ⟨b,5,none⟩ = some (.int .i64 c):=by
 obtain ⟨s1,s2,s3,s4,_,h⟩:=ar_open h
 exact h.cell (q:=0) rfl
end
section
variable {c:Int} {x y:ArcS} {k:ByteArray}
theorem ArcOk.lens (h:ArcOk c x):x.t1.length <= 2048 /\ x.t2.length <= 2048 /\ x.b1.length <= 2048 /\ x.b2.length <= 2048:=by
 have h1:=h.c2; have h2:=h.tot
 omega
theorem aRep_b1 {again:Bool} (h:k ∈ x.b1):k ∈ (aRep c x again).2.b1:=by
 unfold aRep
 split
 ·exact h
 ·unfold aGoes
  split
  ·exact List.mem_append_left _ h
  ·exact h
theorem aRep_b2 {again:Bool} (h:k ∈ x.b2):k ∈ (aRep c x again).2.b2:=by
 unfold aRep
 split
 ·exact h
 ·unfold aGoes
  split
  ·exact h
  ·exact List.mem_append_left _ h
theorem push2_b1 (h:AW y) (hk:k ∈ y.b1):aPush2 y k = ⟨y.t1,y.t2 ++ [k],gTake y.b1 k,y.b2,y.p⟩:=by
 obtain ⟨_,a,b,d⟩:=h.four
 unfold aPush2 aCut
 rw [gTake_not fun h=>(a _ h).2.1 hk,gTake_not fun h=>(b _ h).1 hk,gTake_not (d _ hk)]
theorem push2_b2 (h:AW y) (hk:k ∈ y.b2):aPush2 y k = ⟨y.t1,y.t2 ++ [k],y.b1,gTake y.b2 k,y.p⟩:=by
 obtain ⟨_,a,b,d⟩:=h.four
 unfold aPush2 aCut
 rw [gTake_not fun h=>(a _ h).2.2 hk,gTake_not fun h=>(b _ h).2 hk,gTake_not fun h=>d _ h hk]
theorem push2_res (h:AW y) (hk:k ∈ aRes y):aPush2 y k = ⟨gTake y.t1 k,gTake y.t2 k ++ [k],y.b1,y.b2,y.p⟩:=by
 obtain ⟨_,a,b,d⟩:=h.four
 have h1:k ∉ y.b1:=by
  rcases mem_aRes.1 hk with h | h
  ·exact (a _ h).2.1
  ·exact (b _ h).1
 have h2:k ∉ y.b2:=by
  rcases mem_aRes.1 hk with h | h
  ·exact (a _ h).2.2
  ·exact (b _ h).2
 unfold aPush2 aCut
 rw [gTake_not h1,gTake_not h2]
theorem cut_res (h:AW y) (hk:k ∈ aRes y):aCut y k = ⟨gTake y.t1 k,gTake y.t2 k,y.b1,y.b2,y.p⟩:=by
 obtain ⟨_,a,b,d⟩:=h.four
 have h1:k ∉ y.b1:=by
  rcases mem_aRes.1 hk with h | h
  ·exact (a _ h).2.1
  ·exact (b _ h).1
 have h2:k ∉ y.b2:=by
  rcases mem_aRes.1 hk with h | h
  ·exact (a _ h).2.2
  ·exact (b _ h).2
 unfold aCut
 rw [gTake_not h1,gTake_not h2]
theorem push1_not (hk:k ∉ y.t1 ++ (y.t2 ++ (y.b1 ++ y.b2))):aPush1 y k = ⟨y.t1 ++ [k],y.t2,y.b1,y.b2,y.p⟩:=by
 simp only [List.mem_append,not_or] at hk
 unfold aPush1 aCut
 rw [gTake_not hk.1,gTake_not hk.2.1,gTake_not hk.2.2.1,gTake_not hk.2.2.2]
theorem push1_res (hk:k ∉ aRes y):aPush1 y k = ⟨y.t1 ++ [k],y.t2,gTake y.b1 k,gTake y.b2 k,y.p⟩:=by
 rw [mem_aRes,not_or] at hk
 unfold aPush1 aCut
 rw [gTake_not hk.1,gTake_not hk.2]
end
end Go.Hb
namespace Go.Proofs.YtmefopmnjncdbaaGreat
open Go.Hb Go.IntWalk
section
variable {W w:World} {L M:List HP} {F:HP -> List HP} {b:Nat} {c:Int} {x y:ArcS} {key:ByteArray} {xs:List ByteArray}
set_option maxRecDepth 100000 in
theorem r10_has {s0:Sl} [hr:Rdb W L s0 Rec.str xs] (hs:Sat W w L) (hz:xs.length < 1000000):Calls Tryz.prog 176 #[.slice s0.a s0.n s0.c,.string key] w fun e w'=>∃ i:Int,e = .returned (.int .i64 i) /\ (decide (i >= 0) = decide (key ∈ xs)) /\ Sat W w' L:=by
 refine (cw f176_ok f176_raw (Q:=fun v w'=>∃ i:Int,v = .int .i64 i /\ (decide (i >= 0) = decide (key ∈ xs)) /\ Sat W w' L) ?_).mono fun e w' ⟨v,he,i,hv,hs⟩=>⟨i,by rw [he,hv],hs⟩
 have hn:=rdb_len (s:=s0) hs
 have loop:∀ (m i:Nat) (w:World),i + m = xs.length -> key ∉ xs.take i -> Sat W w L -> f176_l1 idJ (fun v w'=>∃ i:Int,v = .int .i64 i /\ (decide (i >= 0) = decide (key ∈ xs)) /\ Sat W w' L) (m + 1) s0 key (i:Int) w:=by
  intro m
  induction m with
  | zero=>
   intro i w hi hp hs
   rw [f176_l1_raw]
   refine ite_false (decide_eq_false (by omega)) ?_
   refine jw f176_j2_raw ?_
   rw [List.take_of_length_le (by omega)] at hp
   exact ⟨-1,rfl,by rw [decide_eq_false hp]; rfl,hs⟩
  | succ m ih=>
   intro i w hi hp hs
   rw [f176_l1_raw]
   refine ite_true (decide_eq_true (by omega)) ?_
   repeat (first | with_reducible refine nilck_some ?_ | ((with_reducible refine atLd ?_); first | refine ld_b hs ?_ | refine ld_b (x:=⟨_,_,_⟩) hs ?_ | refine ld_r0 hs ?_ | refine ld_r1 hs ?_ | refine ld_rd0 ha_ hs ?_ | refine ld_rd1 ha_ hs ?_) | ((with_reducible refine isSt ?_); first | refine st_b hs fun w hs=>?_ | refine st_r0 hs fun w hs=>?_ | refine st_r1 hs fun w hs=>?_) | ((with_reducible refine isIdx ?_); first | refine idx_s hs fun b_ o_ hs=>?_ | refine idx_rd hs fun b_ o_ ha_=>?_) | with_reducible refine newB_at hs fun b_ w hs=>?_ | ((with_reducible refine isLdS ?_); first | refine ldS_b ?_ | refine ldS_b (x:=⟨_,_,_⟩) ?_ | refine ldS_rs0 hs ?_ | refine ldS_rd0 ha_ ?_) | ((with_reducible refine isKeep ?_); first | refine keep_of hs ?_ | refine keep_imp hs ?_) | with_reducible refine when_om ?_ | with_reducible refine drawW_sat hs fun w hs=>?_)
   rw [Int.toNat_natCast]
   with_reducible refine ite_by (fun h3=>?_) (fun h3=>?_)
   ·have:key ∈ xs:=h3 ▸ getD_mem (by omega)
    exact ⟨i,rfl,by rw [decide_eq_true this,decide_eq_true (by omega)],hs⟩
   ·rw [show IntKind.wrap .i64 ((i:Int) + 1) = ((i + 1:Nat):Int) by rw [i64_in _ (by omega)]; omega]
    refine ih (i + 1) w (by omega) ?_ hs
    rw [take_snoc (by omega),List.mem_append,List.mem_singleton]
    rintro (hk | hk)
    ·exact hp hk
    ·exact h3 hk.symm
 refine exM_of (xs.length + 1) ?_
 exact loop xs.length 0 w (by omega) (by simp) hs
set_option maxRecDepth 100000 in
theorem r10_cut {s0:Sl} [hr:Rdb W L s0 Rec.str xs] (hs:Sat W w L) (hz:xs.length < 1000000):Calls Tryz.prog 175 #[.slice s0.a s0.n s0.c,.string key] w fun e w'=>∃ l:Sl,e = .returned (.slice l.a l.n l.c) /\ Sat W w' (recs Rec.str l (gTake xs key)::L):=by
 refine (cw f175_ok f175_raw (Q:=fun v w'=>∃ l:Sl,v = .slice l.a l.n l.c /\ Sat W w' (recs Rec.str l (gTake xs key)::L)) ?_).mono fun e w' ⟨v,he,l,hv,hs⟩=>⟨l,by rw [he,hv],hs⟩
 have hn:=rdb_len (s:=s0) hs
 have hs:=Sat.nilR Rec.str hs
 have loop:∀ (m i:Nat) (w:World) (acc:Sl),i + m = xs.length -> Sat W w (recs Rec.str acc (gTake (xs.take i) key)::L) -> f175_l1 idJ (fun v w'=>∃ l:Sl,v = .slice l.a l.n l.c /\ Sat W w' (recs Rec.str l (gTake xs key)::L)) (m + 1) s0 key acc (i:Int) w:=by
  clear hs
  intro m
  induction m with
  | zero=>
   intro i w acc hi hs
   rw [f175_l1_raw]
   refine ite_false (decide_eq_false (by omega)) ?_
   refine jw f175_j2_raw ?_
   rw [List.take_of_length_le (by omega)] at hs
   exact ⟨acc,rfl,hs⟩
  | succ m ih=>
   intro i w acc hi hs
   rw [f175_l1_raw]
   refine ite_true (decide_eq_true (by omega)) ?_
   repeat (first | with_reducible refine nilck_some ?_ | ((with_reducible refine atLd ?_); first | refine ld_b hs ?_ | refine ld_b (x:=⟨_,_,_⟩) hs ?_ | refine ld_r0 hs ?_ | refine ld_r1 hs ?_ | refine ld_rd0 ha_ hs ?_ | refine ld_rd1 ha_ hs ?_) | ((with_reducible refine isSt ?_); first | refine st_b hs fun w hs=>?_ | refine st_r0 hs fun w hs=>?_ | refine st_r1 hs fun w hs=>?_) | ((with_reducible refine isIdx ?_); first | refine idx_s hs fun b_ o_ hs=>?_ | refine idx_rd hs fun b_ o_ ha_=>?_) | with_reducible refine newB_at hs fun b_ w hs=>?_ | ((with_reducible refine isLdS ?_); first | refine ldS_b ?_ | refine ldS_b (x:=⟨_,_,_⟩) ?_ | refine ldS_rs0 hs ?_ | refine ldS_rd0 ha_ ?_) | ((with_reducible refine isKeep ?_); first | refine keep_of hs ?_ | refine keep_imp hs ?_) | with_reducible refine when_om ?_ | with_reducible refine drawW_sat hs fun w hs=>?_)
   rw [Int.toNat_natCast]
   have hsn:=gTake_snoc (q:=xs) (k:=key) (j:=i) (by omega)
   have hln:=gTake_len (xs.take i) key
   rw [List.length_take] at hln
   with_reducible refine ite_by (fun h3=>?_) (fun h3=>?_)
   ·rw [if_neg h3] at hsn
    repeat (first | with_reducible refine nilck_some ?_ | ((with_reducible refine atLd ?_); first | refine ld_b hs ?_ | refine ld_b (x:=⟨_,_,_⟩) hs ?_ | refine ld_r0 hs ?_ | refine ld_r1 hs ?_ | refine ld_rd0 ha_ hs ?_ | refine ld_rd1 ha_ hs ?_) | ((with_reducible refine isSt ?_); first | refine st_b hs fun w hs=>?_ | refine st_r0 hs fun w hs=>?_ | refine st_r1 hs fun w hs=>?_) | ((with_reducible refine isIdx ?_); first | refine idx_s hs fun b_ o_ hs=>?_ | refine idx_rd hs fun b_ o_ ha_=>?_) | with_reducible refine newB_at hs fun b_ w hs=>?_ | ((with_reducible refine isLdS ?_); first | refine ldS_b ?_ | refine ldS_b (x:=⟨_,_,_⟩) ?_ | refine ldS_rs0 hs ?_ | refine ldS_rd0 ha_ ?_) | ((with_reducible refine isKeep ?_); first | refine keep_of hs ?_ | refine keep_imp hs ?_) | with_reducible refine when_om ?_ | with_reducible refine drawW_sat hs fun w hs=>?_)
    refine app_one (s:=acc) (a:=xs.getD i default) hs rfl rfl rfl rfl (by decide) (by omega) fun s2 w hs2 hs=>?_
    rw [<- hsn] at hs
    rw [show IntKind.wrap .i64 ((i:Int) + 1) = ((i + 1:Nat):Int) by rw [i64_in _ (by omega)]; omega]
    exact ih (i + 1) w s2 (by omega) (by exact Sat.fin hs)
   ·rw [if_pos h3,List.append_nil] at hsn
    rw [<- hsn] at hs
    rw [show IntKind.wrap .i64 ((i:Int) + 1) = ((i + 1:Nat):Int) by rw [i64_in _ (by omega)]; omega]
    exact ih (i + 1) w acc (by omega) hs
 refine exM_of (xs.length + 1) ?_
 exact loop xs.length 0 w ⟨none,0,0⟩ (by omega) hs
theorem r10_New (hs:Sat W w L) {r:Int}:Calls Tryz.prog 98 #[.int .i64 r] w fun e w'=>∃ b,e = .returned (.pointer (some ⟨b,0,none⟩)) /\ Sat W w' (arR b (roomR r) arc0::L):=by
 refine (cw f98_ok f98_raw (Q:=fun v w'=>∃ b,v = .pointer (some ⟨b,0,none⟩) /\ Sat W w' (arR b (roomR r) arc0::L)) ?_).mono fun e w' ⟨v,he,b,hv,hs⟩=>⟨b,by rw [he,hv],hs⟩
 refine newB_at hs fun b w hs=>⟨b,rfl,?_⟩
 have e0:(if (1024:Int) < (if (1:Int) > r then (1:Int) else r) then (1024:Int) else (if (1:Int) > r then (1:Int) else r)) = roomR r:=by unfold roomR; split <;> split <;> omega
 rw [e0] at hs
 have hs:=Sat.nilR Rec.str hs
 have hs:=Sat.nilR Rec.str hs
 have hs:=Sat.nilR Rec.str hs
 have hs:=Sat.nilR Rec.str hs
 exact ar_shut (x:=arc0) ⟨none,0,0⟩ ⟨none,0,0⟩ ⟨none,0,0⟩ ⟨none,0,0⟩ (p:=0) (l1:=[]) (l2:=[]) (l3:=[]) (l4:=[]) (by exact Sat.fin hs) rfl rfl rfl rfl rfl
theorem r10_Room (hs:Sat W w L) [hA:At L b (arR b c x) F]:Calls Tryz.prog 76 #[.pointer (some ⟨b,0,none⟩)] w fun e w'=>e = .returned (.int .i64 c) /\ Sat W w' (F (arR b c x)):=by
 refine At.call1 (hA:=hA) hs fun M hs=>?_
 clear hA
 refine c1 (cw f76_ok f76_raw ?_)
 obtain ⟨s1,s2,s3,s4,hl,hs⟩:=ar_open hs
 repeat (first | with_reducible refine nilck_some ?_ | ((with_reducible refine atLd ?_); first | refine ld_b hs ?_ | refine ld_b (x:=⟨_,_,_⟩) hs ?_ | refine ld_r0 hs ?_ | refine ld_r1 hs ?_ | refine ld_rd0 ha_ hs ?_ | refine ld_rd1 ha_ hs ?_) | ((with_reducible refine isSt ?_); first | refine st_b hs fun w hs=>?_ | refine st_r0 hs fun w hs=>?_ | refine st_r1 hs fun w hs=>?_) | ((with_reducible refine isIdx ?_); first | refine idx_s hs fun b_ o_ hs=>?_ | refine idx_rd hs fun b_ o_ ha_=>?_) | with_reducible refine newB_at hs fun b_ w hs=>?_ | ((with_reducible refine isLdS ?_); first | refine ldS_b ?_ | refine ldS_b (x:=⟨_,_,_⟩) ?_ | refine ldS_rs0 hs ?_ | refine ldS_rd0 ha_ ?_) | ((with_reducible refine isKeep ?_); first | refine keep_of hs ?_ | refine keep_imp hs ?_) | with_reducible refine when_om ?_ | with_reducible refine drawW_sat hs fun w hs=>?_)
 exact ⟨rfl,ar_shut s1 s2 s3 s4 (by exact Sat.fin hs) rfl rfl rfl rfl rfl⟩
theorem r10_Len (hs:Sat W w L) [hA:At L b (arR b c x) F] (hx:ArcOk c x):Calls Tryz.prog 161 #[.pointer (some ⟨b,0,none⟩)] w fun e w'=>e = .returned (.int .i64 (aLen x:Int)) /\ Sat W w' (F (arR b c x)):=by
 refine At.call1 (hA:=hA) hs fun M hs=>?_
 clear hA
 refine c1 (cw f161_ok f161_raw ?_)
 obtain ⟨s1,s2,s3,s4,hl,hs⟩:=ar_open hs
 have hll:=hx.lens
 refine drawW_only [cR b s1 s2 s3 s4 x.p c] hs fun w hs=>?_
 refine nilck_some (ldS_b (x:=s1) (nilck_some (ld_b (x:=s2) hs ?_)))
 refine keep_imp hs ?_
 rw [i64_in _ (by omega)]
 exact ⟨by unfold aLen; rw [hl.1.1,hl.2.1.1]; rfl,ar_shut s1 s2 s3 s4 (by exact Sat.fin hs) rfl rfl rfl rfl rfl⟩
theorem r10_Has (hs:Sat W w L) [hA:At L b (arR b c x) F] (hx:ArcOk c x):Calls Tryz.prog 151 #[.pointer (some ⟨b,0,none⟩),.string key] w fun e w'=>e = .returned (.bool (decide (key ∈ aRes x))) /\ Sat W w' (F (arR b c x)):=by
 refine At.call1 (hA:=hA) hs fun M hs=>?_
 clear hA
 refine c1 (cw f151_ok f151_raw ?_)
 obtain ⟨s1,s2,s3,s4,hl,hs⟩:=ar_open hs
 have hll:=hx.lens
 refine nilck_some (ld_b (x:=s1) hs ?_)
 refine call1_of (r10_has (s0:=s1) (xs:=x.t1) hs (by omega)) fun e w ⟨i,he,hi,hs⟩=>⟨_,he,?_⟩
 rw [hi]
 with_reducible refine ite_by (fun h1=>?_) (fun h1=>?_)
 ·rw [decide_eq_true (mem_aRes.2 (.inl h1))]
  exact ⟨rfl,ar_shut s1 s2 s3 s4 (by exact Sat.fin hs) rfl rfl rfl rfl rfl⟩
 ·refine nilck_some (ld_b (x:=s2) hs ?_)
  refine call1_of (r10_has (s0:=s2) (xs:=x.t2) hs (by omega)) fun e w ⟨i,he,hi,hs⟩=>⟨_,he,?_⟩
  rw [hi]
  have:decide (key ∈ x.t2) = decide (key ∈ aRes x):=by
   rw [decide_eq_decide,mem_aRes]
   exact ⟨.inr,fun h=>h.elim (fun h=>absurd h h1) id⟩
  rw [this]
  exact ⟨rfl,ar_shut s1 s2 s3 s4 (by exact Sat.fin hs) rfl rfl rfl rfl rfl⟩
theorem r10_goes (hs:Sat W w (arR b c x::M)) {first:Bool} (hx:ArcOk c x) (hf:first = true -> 0 < x.t1.length) (hf2:first = false -> 0 < x.t2.length):Calls Tryz.prog 162 #[.pointer (some ⟨b,0,none⟩),.bool first] w fun e w'=>e = .returned (.string (aGoes x first).1) /\
  Sat W w' (arR b c (aGoes x first).2::M):=by
 refine c1 (cw f162_ok f162_raw ?_)
 have hll:=hx.lens
 obtain ⟨⟨n1,n2,n3,n4⟩,_⟩:=hx.w.four
 obtain ⟨s1,s2,s3,s4,hl,hs⟩:=ar_open hs
 cases first with
 | true=>
  have h0:=hf rfl
  refine ite_true rfl ?_
  refine nilck_some (ld_b (x:=s1) hs ?_)
  refine idx_s hs fun b_ o_ hs=>?_
  refine ld_r0 hs ?_
  rw [hd_getD h0]
  refine nilck_some (ld_b (x:=s1) hs ?_)
  refine call1_of (r10_cut (s0:=s1) (xs:=x.t1) hs (by omega)) fun e w ⟨l,he,hs⟩=>⟨_,he,?_⟩
  rw [gTake_hd n1 h0] at hs
  refine nilck_some (st_b hs fun w hs=>?_)
  refine nilck_some (ld_b (x:=s3) hs ?_)
  refine newB_at hs fun nb w hs=>?_
  refine app_one (s:=s3) (a:=hd0 x.t1) hs rfl rfl rfl rfl (by decide) (by omega) fun s5 w hs5 hs=>?_
  refine nilck_some (st_b hs fun w hs=>?_)
  exact ⟨rfl,ar_shut (x:=(aGoes x true).2) l s2 s5 s4 (p:=x.p) (l1:=x.t1.drop 1) (l2:=x.t2) (l3:=x.b1 ++ [hd0 x.t1]) (l4:=x.b2) (by exact Sat.fin hs) rfl rfl rfl rfl rfl⟩
 | false=>
  have h0:=hf2 rfl
  refine ite_false rfl ?_
  refine nilck_some (ld_b (x:=s2) hs ?_)
  refine idx_s hs fun b_ o_ hs=>?_
  refine ld_r0 hs ?_
  rw [hd_getD h0]
  refine nilck_some (ld_b (x:=s2) hs ?_)
  refine call1_of (r10_cut (s0:=s2) (xs:=x.t2) hs (by omega)) fun e w ⟨l,he,hs⟩=>⟨_,he,?_⟩
  rw [gTake_hd n2 h0] at hs
  refine nilck_some (st_b hs fun w hs=>?_)
  refine nilck_some (ld_b (x:=s4) hs ?_)
  refine newB_at hs fun nb w hs=>?_
  refine app_one (s:=s4) (a:=hd0 x.t2) hs rfl rfl rfl rfl (by decide) (by omega) fun s5 w hs5 hs=>?_
  refine nilck_some (st_b hs fun w hs=>?_)
  exact ⟨rfl,ar_shut (x:=(aGoes x false).2) s1 l s3 s5 (p:=x.p) (l1:=x.t1) (l2:=x.t2.drop 1) (l3:=x.b1) (l4:=x.b2 ++ [hd0 x.t2]) (by exact Sat.fin hs) rfl rfl rfl rfl rfl⟩
theorem r10_replace (hs:Sat W w (arR b c x::M)) (hx:ArcOk c x) {again:Bool} (ha:again = decide (key ∈ x.b2)):Calls Tryz.prog 209 #[.pointer (some ⟨b,0,none⟩),.string key] w fun e w'=>∃ l:Sl,e = .returned (.slice l.a l.n l.c) /\
  Sat W w' (recs Rec.str l (aRep c x again).1::arR b c (aRep c x again).2::M):=by
 refine (cw f209_ok f209_raw (Q:=fun v w'=>∃ l:Sl,v = .slice l.a l.n l.c /\ Sat W w' (recs Rec.str l (aRep c x again).1::arR b c (aRep c x again).2::M)) ?_).mono fun e w' ⟨v,he,l,hv,hs⟩=>⟨l,by rw [he,hv],hs⟩
 have hll:=hx.lens
 have hc1:=hx.c1
 have hal:(aLen x:Int) = x.t1.length + x.t2.length:=by unfold aLen; omega
 refine drawW_only [arR b c x] hs fun w hs=>?_
 refine nilck_some ?_
 refine ldS_by (k:=.int .i64) c (fun w' h=>ar_cap h) ?_
 refine call1_of (r10_Len hs hx) fun e w ⟨he,hs⟩=>⟨_,he,?_⟩
 refine keep_imp hs ?_
 with_reducible refine ite_by (fun h1=>?_) (fun h1=>?_)
 ·have e1:aRep c x again = ([],x):=if_pos (by omega)
  rw [e1]
  have hs:=Sat.nilR Rec.str hs
  exact ⟨⟨none,0,0⟩,rfl,hs⟩
 ·have e1:aRep c x again = ([(aGoes x (aFirst x again)).1],(aGoes x (aFirst x again)).2):=if_neg (by omega)
  rw [e1]
  have fin:∀ (w:World) (f:Bool),f = aFirst x again -> Sat W w (arR b c x::M) -> call1 .str Tryz.prog 162 [.pointer (some ⟨b,0,none⟩),.bool f] (fun y=>newB [.string y] 9 fun b_12 w'=>∃ l:Sl,Value.slice (some ⟨b_12,0,none⟩) 1 1 = .slice l.a l.n l.c /\ Sat W w' (recs Rec.str l [(aGoes x (aFirst x again)).1]::arR b c (aGoes x (aFirst x again)).2::M)) w:=by
   intro w f hf hs
   subst hf
   refine call1_of (r10_goes hs hx aFirst_t1 (fun h=>aFirst_t2 h (by omega))) fun e w ⟨he,hs⟩=>⟨_,he,?_⟩
   refine newB_at hs fun nb w hs=>?_
   have hs:=Sat.blkS (b:=nb) (cs:=[.string (aGoes x (aFirst x again)).1]) (n:=1) Rec.str [(aGoes x (aFirst x again)).1] hs rfl rfl
   exact ⟨⟨some ⟨nb,0,none⟩,1,1⟩,rfl,hs⟩
  clear e1
  obtain ⟨s1,s2,s3,s4,hl,hs⟩:=ar_open hs
  refine nilck_some (ld_b (x:=s1) hs ?_)
  with_reducible refine ite_by (fun h2=>?_) (fun h2=>?_)
  ·refine nilck_some (ld_b hs ?_)
   with_reducible refine ite_by (fun h3=>?_) (fun h3=>?_)
   ·refine fin w true ?_ (ar_shut s1 s2 s3 s4 hs rfl rfl rfl rfl rfl)
    unfold aFirst
    simp only [decide_eq_true (show 0 < x.t1.length by omega),decide_eq_true (show x.p < (x.t1.length:Int) by omega),Bool.true_or,Bool.and_true]
   ·refine nilck_some (ld_b hs ?_)
    with_reducible refine ite_by (fun h4=>?_) (fun h4=>?_)
    ·refine nilck_some (ld_b (x:=s4) hs ?_)
     refine call1_of (r10_has (s0:=s4) (xs:=x.b2) hs (by omega)) fun e w ⟨i,he,hi,hs⟩=>⟨_,he,?_⟩
     rw [hi,<- ha]
     refine ite_cases (fun h5=>?_) (fun h5=>?_)
     ·refine fin w true ?_ (ar_shut s1 s2 s3 s4 hs rfl rfl rfl rfl rfl)
      unfold aFirst
      simp only [decide_eq_true (show 0 < x.t1.length by omega),decide_eq_true (show (x.t1.length:Int) = x.p by omega),h5,Bool.true_or,Bool.and_true,Bool.or_true]
     ·refine nilck_some (ld_b (x:=s2) hs ?_)
      refine fin w _ ?_ (ar_shut s1 s2 s3 s4 hs rfl rfl rfl rfl rfl)
      unfold aFirst
      rw [h5,decide_eq_true (show 0 < x.t1.length by omega),decide_eq_false (show ¬ x.p < (x.t1.length:Int) by omega),Bool.and_false,Bool.false_or,Bool.false_or,Bool.true_and,Bool.eq_iff_iff,beq_iff_eq,decide_eq_true_eq]
      omega
    ·refine nilck_some (ld_b (x:=s2) hs ?_)
     refine fin w _ ?_ (ar_shut s1 s2 s3 s4 hs rfl rfl rfl rfl rfl)
     unfold aFirst
     rw [decide_eq_true (show 0 < x.t1.length by omega),decide_eq_false (show ¬ x.p < (x.t1.length:Int) by omega),decide_eq_false (show ¬ (x.t1.length:Int) = x.p by omega),Bool.false_and,Bool.false_or,Bool.false_or,Bool.true_and,Bool.eq_iff_iff,beq_iff_eq,decide_eq_true_eq]
     omega
  ·refine fin w false ?_ (ar_shut s1 s2 s3 s4 hs rfl rfl rfl rfl rfl)
   unfold aFirst
   rw [decide_eq_false (show ¬ 0 < x.t1.length by omega),Bool.false_and]
end
open Go.Hb Go.IntWalk
section
variable {W w:World} {L M:List HP} {F:HP -> List HP} {b:Nat} {c:Int} {x y:ArcS} {key:ByteArray} {xs:List ByteArray}
theorem known_tail {g:List ByteArray} {l:Sl} (hy:ArcOk c y) (hs:Sat W w (recs Rec.str l g::arR b c y::M)) (hk:key ∈ y.b1) :
  (nilck (some ⟨b,0,none⟩) fun b_20 o_21=>
 ld .slc b_20 (o_21 + 2) fun (x_22:Sl)=>
 call1 .slc Tryz.prog 175 [.slice x_22.a x_22.n x_22.c,.string key] fun (x_23:Sl)=>
 nilck (some ⟨b,0,none⟩) fun b_24 o_25=>
 st b_24 (o_25 + 2) (.slice x_23.a x_23.n x_23.c) <|
 nilck (some ⟨b,0,none⟩) fun b_26 o_27=>
 ld .slc b_26 (o_27 + 1) fun (x_28:Sl)=>
 newB [.string key] 9 fun b_29=>
 appendC 9 1 16 [.string str_empty] ⟨x_28.a,x_28.n,x_28.c⟩ 1 (fun w=>rdA w (some ⟨b_29,0,none⟩) (1 * 1)) fun s_30=>
 nilck (some ⟨b,0,none⟩) fun b_31 o_32=>
 st b_31 (o_32 + 1) (.slice s_30.a s_30.n s_30.c) fun w'=>∃ l':Sl,Value.slice l.a l.n l.c = .slice l'.a l'.n l'.c /\ Sat W w' (recs Rec.str l' g::arR b c (aPush2 y key)::M)) w:=by
 have hll:=hy.lens
 have hs:Sat W w (arR b c y::recs Rec.str l g::M):=by exact Sat.fin hs
 obtain ⟨s1,s2,s3,s4,hl,hs⟩:=ar_open hs
 refine nilck_some (ld_b (x:=s3) hs ?_)
 refine call1_of (r10_cut (s0:=s3) (xs:=y.b1) hs (by omega)) fun e w ⟨k2,he,hs⟩=>⟨_,he,?_⟩
 refine nilck_some (st_b hs fun w hs=>?_)
 refine nilck_some (ld_b (x:=s2) hs ?_)
 refine newB_at hs fun nb w hs=>?_
 refine app_one (s:=s2) (a:=key) hs rfl rfl rfl rfl (by decide) (by omega) fun s5 w hs5 hs=>?_
 refine nilck_some (st_b hs fun w hs=>?_)
 rw [push2_b1 hy.w hk]
 have hs:Sat W w (cR b s1 s5 k2 s4 y.p c::recs Rec.str s1 y.t1::recs Rec.str s5 (y.t2 ++ [key])::recs Rec.str k2 (gTake y.b1 key)::recs Rec.str s4 y.b2::recs Rec.str l g::M):=by exact Sat.fin hs
 have hs:=ar_shut (x:=⟨y.t1,y.t2 ++ [key],gTake y.b1 key,y.b2,y.p⟩) s1 s5 k2 s4 hs rfl rfl rfl rfl rfl
 exact ⟨l,rfl,by exact Sat.fin hs⟩
theorem known_tail2 {g:List ByteArray} {l:Sl} (hy:ArcOk c y) (hs:Sat W w (recs Rec.str l g::arR b c y::M)) (hk:key ∈ y.b2) :
  (nilck (some ⟨b,0,none⟩) fun b_20 o_21=>
 ld .slc b_20 (o_21 + 3) fun (x_22:Sl)=>
 call1 .slc Tryz.prog 175 [.slice x_22.a x_22.n x_22.c,.string key] fun (x_23:Sl)=>
 nilck (some ⟨b,0,none⟩) fun b_24 o_25=>
 st b_24 (o_25 + 3) (.slice x_23.a x_23.n x_23.c) <|
 nilck (some ⟨b,0,none⟩) fun b_26 o_27=>
 ld .slc b_26 (o_27 + 1) fun (x_28:Sl)=>
 newB [.string key] 9 fun b_29=>
 appendC 9 1 16 [.string str_empty] ⟨x_28.a,x_28.n,x_28.c⟩ 1 (fun w=>rdA w (some ⟨b_29,0,none⟩) (1 * 1)) fun s_30=>
 nilck (some ⟨b,0,none⟩) fun b_31 o_32=>
 st b_31 (o_32 + 1) (.slice s_30.a s_30.n s_30.c) fun w'=>∃ l':Sl,Value.slice l.a l.n l.c = .slice l'.a l'.n l'.c /\ Sat W w' (recs Rec.str l' g::arR b c (aPush2 y key)::M)) w:=by
 have hll:=hy.lens
 have hs:Sat W w (arR b c y::recs Rec.str l g::M):=by exact Sat.fin hs
 obtain ⟨s1,s2,s3,s4,hl,hs⟩:=ar_open hs
 refine nilck_some (ld_b (x:=s4) hs ?_)
 refine call1_of (r10_cut (s0:=s4) (xs:=y.b2) hs (by omega)) fun e w ⟨k2,he,hs⟩=>⟨_,he,?_⟩
 refine nilck_some (st_b hs fun w hs=>?_)
 refine nilck_some (ld_b (x:=s2) hs ?_)
 refine newB_at hs fun nb w hs=>?_
 refine app_one (s:=s2) (a:=key) hs rfl rfl rfl rfl (by decide) (by omega) fun s5 w hs5 hs=>?_
 refine nilck_some (st_b hs fun w hs=>?_)
 rw [push2_b2 hy.w hk]
 have hs:Sat W w (cR b s1 s5 s3 k2 y.p c::recs Rec.str s1 y.t1::recs Rec.str s5 (y.t2 ++ [key])::recs Rec.str s3 y.b1::recs Rec.str k2 (gTake y.b2 key)::recs Rec.str l g::M):=by exact Sat.fin hs
 have hs:=ar_shut (x:=⟨y.t1,y.t2 ++ [key],y.b1,gTake y.b2 key,y.p⟩) s1 s5 s3 k2 hs rfl rfl rfl rfl rfl
 exact ⟨l,rfl,by exact Sat.fin hs⟩
theorem r10_known (hs:Sat W w (arR b c x::M)) (hx:ArcOk c x) (hk:key ∈ x.b1 \/ key ∈ x.b2):Calls Tryz.prog 177 #[.pointer (some ⟨b,0,none⟩),.string key] w fun e w'=>∃ l:Sl,e = .returned (.slice l.a l.n l.c) /\
  Sat W w' (recs Rec.str l (aAcc c x key).1.2::arR b c (aAcc c x key).2::M):=by
 refine (cw f177_ok f177_raw (Q:=fun v w'=>∃ l:Sl,v = .slice l.a l.n l.c /\ Sat W w' (recs Rec.str l (aAcc c x key).1.2::arR b c (aAcc c x key).2::M)) ?_).mono fun e w' ⟨v,he,l,hv,hs⟩=>⟨l,by rw [he,hv],hs⟩
 have hll:=hx.lens
 have hp0:=hx.p0
 have hp1:=hx.p1
 have hc2:=hx.c2
 obtain ⟨_,a1,a2,a3⟩:=hx.w.four
 have h1:¬ (key ∈ x.t1 \/ key ∈ x.t2):=by
  rintro (h | h) <;> rcases hk with hk | hk
  ·exact (a1 _ h).2.1 hk
  ·exact (a1 _ h).2.2 hk
  ·exact (a2 _ h).1 hk
  ·exact (a2 _ h).2 hk
 obtain ⟨s1,s2,s3,s4,hl,hs⟩:=ar_open hs
 refine nilck_some (ld_b (x:=s3) hs ?_)
 refine call1_of (r10_has (s0:=s3) (xs:=x.b1) hs (by omega)) fun e w ⟨i,he,hi,hs⟩=>⟨_,he,?_⟩
 rw [hi]
 with_reducible refine ite_by (fun h2=>?_) (fun h2=>?_)
 ·have e1:aAcc c x key = ((false,(aRep c (aUp c x) false).1),aPush2 (aRep c (aUp c x) false).2 key):=by unfold aAcc; rw [if_neg h1,if_pos h2]
  rw [e1]
  have h0:0 < x.b1.length:=by
   cases hb:x.b1 with
   | nil=>rw [hb] at h2; simp at h2
   | cons a l=>simp
  refine drawW_only [cR b s1 s2 s3 s4 x.p c] hs fun w hs=>?_
  refine nilck_some (ldS_b (nilck_some (ldS_b (nilck_some (ldS_b (x:=s4) (nilck_some (ld_b (x:=s3) hs ?_)))))))
  refine keep_imp hs ?_
  refine when_of (by omega) ?_
  rw [hl.2.2.2.1,hl.2.2.1.1,up_eq (N:=2048) (by omega) (by omega) (by omega)]
  refine nilck_some (st_b hs fun w hs=>?_)
  have hs:=ar_shut (x:=aUp c x) s1 s2 s3 s4 hs rfl rfl rfl rfl rfl
  have hu:ArcOk c (aUp c x):=hx.upd_p (by omega) (by omega)
  have hag:false = decide (key ∈ (aUp c x).b2):=by symm; rw [decide_eq_false_iff_not]; exact a3 _ h2
  obtain ⟨hy,_⟩:=aRep_ok hu false
  refine call1_of (r10_replace hs hu hag) fun e w ⟨l,he,hs⟩=>⟨l,he,?_⟩
  exact known_tail hy hs (aRep_b1 h2)
 ·have h3:key ∈ x.b2:=hk.elim (fun h=>absurd h h2) id
  have e1:aAcc c x key = ((false,(aRep c (aDown x) true).1),aPush2 (aRep c (aDown x) true).2 key):=by unfold aAcc; rw [if_neg h1,if_neg h2,if_pos h3]
  rw [e1]
  have h0:0 < x.b2.length:=by
   cases hb:x.b2 with
   | nil=>rw [hb] at h3; simp at h3
   | cons a l=>simp
  refine drawW_only [cR b s1 s2 s3 s4 x.p c] hs fun w hs=>?_
  refine nilck_some (ldS_b (nilck_some (ldS_b (x:=s3) (nilck_some (ld_b (x:=s4) hs ?_)))))
  refine keep_imp hs ?_
  refine when_of (by omega) ?_
  rw [hl.2.2.2.1,hl.2.2.1.1,down_eq (N:=2048) (by omega) (by omega) (by omega)]
  refine nilck_some (st_b hs fun w hs=>?_)
  have hs:=ar_shut (x:=aDown x) s1 s2 s3 s4 hs rfl rfl rfl rfl rfl
  have hu:ArcOk c (aDown x):=hx.upd_p (by omega) (by omega)
  have hag:true = decide (key ∈ (aDown x).b2):=by symm; rw [decide_eq_true_eq]; exact h3
  obtain ⟨hy,_⟩:=aRep_ok hu true
  refine call1_of (r10_replace hs hu hag) fun e w ⟨l,he,hs⟩=>⟨l,he,?_⟩
  exact known_tail2 hy hs (aRep_b2 h3)
theorem fresh_tail {g:List ByteArray} {l:Sl} (hy:ArcOk c y) (hs:Sat W w (recs Rec.str l g::arR b c y::M)) (hk:key ∉ y.t1 ++ (y.t2 ++ (y.b1 ++ y.b2))) :
  f178_j2 idJ (fun v w'=>∃ l:Sl,v = .slice l.a l.n l.c /\ Sat W w' (recs Rec.str l g::arR b c (aPush1 y key)::M)) (some ⟨b,0,none⟩) key l w:=by
 refine jw f178_j2_raw ?_
 have hll:=hy.lens
 have hs:Sat W w (arR b c y::recs Rec.str l g::M):=by exact Sat.fin hs
 obtain ⟨s1,s2,s3,s4,hl,hs⟩:=ar_open hs
 refine newB_at hs fun nb w hs=>?_
 refine nilck_some (ld_b (x:=s1) hs ?_)
 refine app_own (b:=nb) (cs:=[]) (rows:=[]) (new:=y.t1) hs Rec.str rfl rfl (rd_rdb (s:=s1) hs) hl.1.1 (okC_flat _) rfl (by decide) (by simp; omega) fun s5 w h5 hs=>?_
 have hs:Sat W w (recs Rec.str s5 y.t1::cR b s1 s2 s3 s4 y.p c::recs Rec.str s1 y.t1::recs Rec.str s2 y.t2::recs Rec.str s3 y.b1::recs Rec.str s4 y.b2::recs Rec.str l g::M):=hs
 refine newB_at hs fun nb2 w hs=>?_
 refine app_one (s:=s5) (a:=key) hs rfl rfl rfl rfl (by decide) (by omega) fun s6 w hs6 hs=>?_
 refine nilck_some (st_b hs fun w hs=>?_)
 rw [push1_not hk]
 have hs:Sat W w (cR b s6 s2 s3 s4 y.p c::recs Rec.str s6 (y.t1 ++ [key])::recs Rec.str s2 y.t2::recs Rec.str s3 y.b1::recs Rec.str s4 y.b2::recs Rec.str l g::M):=by exact Sat.fin hs
 have hs:=ar_shut (x:=⟨y.t1 ++ [key],y.t2,y.b1,y.b2,y.p⟩) s6 s2 s3 s4 hs rfl rfl rfl rfl rfl
 exact ⟨l,rfl,by exact Sat.fin hs⟩
theorem r10_fresh (hs:Sat W w (arR b c x::M)) (hx:ArcOk c x) (hk:key ∉ x.t1 ++ (x.t2 ++ (x.b1 ++ x.b2))):Calls Tryz.prog 178 #[.pointer (some ⟨b,0,none⟩),.string key] w fun e w'=>∃ l:Sl,e = .returned (.slice l.a l.n l.c) /\
  Sat W w' (recs Rec.str l (aComes c x).1::arR b c (aPush1 (aComes c x).2 key)::M):=by
 refine (cw f178_ok f178_raw (Q:=fun v w'=>∃ l:Sl,v = .slice l.a l.n l.c /\ Sat W w' (recs Rec.str l (aComes c x).1::arR b c (aPush1 (aComes c x).2 key)::M)) ?_).mono fun e w' ⟨v,he,l,hv,hs⟩=>⟨l,by rw [he,hv],hs⟩
 have hll:=hx.lens
 have c1_:=hx.c1; have c2_:=hx.c2; have l_:=hx.len; have l1_:=hx.l1; have tot_:=hx.tot
 have hw:=hx.w
 obtain ⟨hy,hwent,_⟩:=aComes_ok hx
 obtain ⟨A,hA⟩:∃ A,A = aComes c x:=⟨_,rfl⟩
 rw [<- hA] at hy hwent ⊢
 have hky:key ∉ A.2.t1 ++ (A.2.t2 ++ (A.2.b1 ++ A.2.b2)):=fun h=>hk (hwent.all _ h)
 have hkb2:key ∉ x.b2:=fun h=>hk (List.mem_append_right _ (List.mem_append_right _ (List.mem_append_right _ h)))
 have fin:∀ (w:World) (l:Sl),Sat W w (recs Rec.str l A.1::arR b c A.2::M) -> f178_j2 idJ (fun v w'=>∃ l:Sl,v = .slice l.a l.n l.c /\ Sat W w' (recs Rec.str l A.1::arR b c (aPush1 A.2 key)::M)) (some ⟨b,0,none⟩) key l w:=by
  intro w l hs
  with_reducible refine fresh_tail (y:=A.2) (g:=A.1) hy ?_ hky
  exact hs
 have hag:∀ l:List ByteArray,l = x.b2 \/ l = x.b2.drop 1 -> false = decide (key ∈ l):=by
  intro l h
  symm; rw [decide_eq_false_iff_not]
  rcases h with rfl | rfl
  ·exact hkb2
  ·exact fun h=>hkb2 (List.mem_of_mem_drop h)
 have hal:(aLen x:Int) = x.t1.length + x.t2.length:=by unfold aLen; omega
 have j1:∀ (w:World) (all:Int) (t:Bool),all = (x.t1.length:Int) + x.t2.length + x.b1.length + x.b2.length -> t = decide (c <= (x.t1.length:Int) + x.b1.length /\ (x.t1.length:Int) < c) -> Sat W w (arR b c x::M) ->
   f178_j1 idJ (fun v w'=>∃ l:Sl,v = .slice l.a l.n l.c /\ Sat W w' (recs Rec.str l A.1::arR b c (aPush1 A.2 key)::M)) (some ⟨b,0,none⟩) key ⟨none,0,0⟩ all t w:=by
  clear hs
  intro w all t hall ht hs
  subst ht hall
  refine jw f178_j1_raw ?_
  obtain ⟨s1,s2,s3,s4,hl,hs⟩:=ar_open hs
  with_reducible refine ite_by (fun h1=>?_) (fun h1=>?_)
  ·have e1:A = aRep c { x with b1:=x.b1.drop 1 } false:=by rw [hA]; unfold aComes; rw [if_pos h1]
   clear hy hky
   have h0:0 < x.b1.length:=by omega
   refine nilck_some (ld_b (x:=s3) hs ?_)
   refine when_of (by omega) ?_
   refine nilck_some (st_b hs fun w hs=>?_)
   have hs:=cut1 (s:=s3) hs h0
   have hs:=ar_shut (x:={ x with b1:=x.b1.drop 1 }) s1 s2 ⟨subA s3.a (((1:Int)).toNat) s3.c 1,s3.n - ((1:Int)).toNat,s3.c - ((1:Int)).toNat⟩ s4 hs rfl rfl rfl rfl rfl
   exact call1_of (r10_replace hs (aDropB1 hx 1) (hag _ (.inl rfl))) fun e w ⟨l,he,hs⟩=>⟨l,he,by rw [<- e1] at hs; with_reducible exact fin w l hs⟩
  ·refine drawW_only [cR b s1 s2 s3 s4 x.p c] hs fun w hs=>?_
   refine nilck_some (ldS_b (x:=s1) (nilck_some (ldS_b (x:=s3) (nilck_some (ld_b hs ?_)))))
   refine keep_imp hs ?_
   rw [i64_in _ (by omega)]
   with_reducible refine ite_by (fun h2=>?_) (fun h2=>?_)
   ·have e1:A = ([hd0 x.t1],{ x with t1:=x.t1.drop 1 }):=by rw [hA]; unfold aComes; rw [if_neg h1,if_pos (by omega)]
    clear hy hky
    have h0:0 < x.t1.length:=by omega
    refine nilck_some (ld_b (x:=s1) hs ?_)
    refine idx_s hs fun b_ o_ hs=>?_
    refine ld_r0 hs ?_
    rw [hd_getD h0]
    refine newB_at hs fun nb w hs=>?_
    have hs:=Sat.blkS (b:=nb) (cs:=[.string (hd0 x.t1)]) (n:=1) Rec.str [hd0 x.t1] hs rfl rfl
    have hs:Sat W w (cR b s1 s2 s3 s4 x.p c::recs Rec.str s1 x.t1::recs Rec.str s2 x.t2::recs Rec.str s3 x.b1::recs Rec.str s4 x.b2::recs Rec.str ⟨some ⟨nb,0,none⟩,1,1⟩ [hd0 x.t1]::M):=by exact Sat.fin hs
    refine nilck_some (ld_b (x:=s1) hs ?_)
    refine when_of (by omega) ?_
    refine nilck_some (st_b hs fun w hs=>?_)
    have hs:=cut1 (s:=s1) hs h0
    have hs:=ar_shut (x:={ x with t1:=x.t1.drop 1 }) ⟨subA s1.a (((1:Int)).toNat) s1.c 1,s1.n - ((1:Int)).toNat,s1.c - ((1:Int)).toNat⟩ s2 s3 s4 hs rfl rfl rfl rfl rfl
    have hs:Sat W w (recs Rec.str ⟨some ⟨nb,0,none⟩,1,1⟩ ([hd0 x.t1],({ x with t1:=x.t1.drop 1 }:ArcS)).1::arR b c ([hd0 x.t1],({ x with t1:=x.t1.drop 1 }:ArcS)).2::M):=by exact Sat.fin hs
    rw [<- e1] at hs
    with_reducible exact fin w _ hs
   ·refine nilck_some (ld_b hs ?_)
    with_reducible refine ite_by (fun h3=>?_) (fun h3=>?_)
    ·refine nilck_some (ld_b hs ?_)
     rw [i64_in (2 * c) (by omega)]
     with_reducible refine ite_by (fun h4=>?_) (fun h4=>?_)
     ·have e1:A = aRep c { x with b2:=x.b2.drop 1 } false:=by rw [hA]; unfold aComes; rw [if_neg h1,if_neg (by omega),if_neg (by omega),if_pos (by omega)]
      clear hy hky
      have h0:0 < x.b2.length:=by omega
      refine nilck_some (ld_b (x:=s4) hs ?_)
      refine when_of (by omega) ?_
      refine nilck_some (st_b hs fun w hs=>?_)
      have hs:=cut1 (s:=s4) hs h0
      have hs:=ar_shut (x:={ x with b2:=x.b2.drop 1 }) s1 s2 s3 ⟨subA s4.a (((1:Int)).toNat) s4.c 1,s4.n - ((1:Int)).toNat,s4.c - ((1:Int)).toNat⟩ hs rfl rfl rfl rfl rfl
      exact call1_of (r10_replace hs (aDropB2 hx 1) (hag _ (.inr rfl))) fun e w ⟨l,he,hs⟩=>⟨l,he,by rw [<- e1] at hs; with_reducible exact fin w l hs⟩
     ·have e1:A = aRep c x false:=by rw [hA]; unfold aComes; rw [if_neg h1,if_neg (by omega),if_neg (by omega),if_neg (by omega)]
      clear hy hky
      exact call1_of (r10_replace (ar_shut s1 s2 s3 s4 hs rfl rfl rfl rfl rfl) hx (hag _ (.inl rfl))) fun e w ⟨l,he,hs⟩=>⟨l,he,by rw [<- e1] at hs; with_reducible exact fin w l hs⟩
    ·have e1:A = ([],x):=by rw [hA]; unfold aComes; rw [if_neg h1,if_neg (by omega),if_pos (by omega)]
     clear hy hky
     have hs:=ar_shut (x:=x) s1 s2 s3 s4 hs rfl rfl rfl rfl rfl
     have hs:=Sat.nilR Rec.str hs
     have hs:Sat W w (recs Rec.str ⟨none,0,0⟩ (([],x):List ByteArray × ArcS).1::arR b c (([],x):List ByteArray × ArcS).2::M):=hs
     rw [<- e1] at hs
     with_reducible exact fin w _ hs
 obtain ⟨s1,s2,s3,s4,hl,hs⟩:=ar_open hs
 have hLen:∀ w,Sat W w (cR b s1 s2 s3 s4 x.p c::recs Rec.str s1 x.t1::recs Rec.str s2 x.t2::recs Rec.str s3 x.b1::recs Rec.str s4 x.b2::M) -> Calls Tryz.prog 161 #[.pointer (some ⟨b,0,none⟩)] w fun e w'=>e = .returned (.int .i64 (aLen x:Int)) /\ Sat W w' (cR b s1 s2 s3 s4 x.p c::recs Rec.str s1 x.t1::recs Rec.str s2 x.t2::recs Rec.str s3 x.b1::recs Rec.str s4 x.b2::M):=by
  intro w hs
  refine c1 (cw f161_ok f161_raw ?_)
  refine drawW_only [cR b s1 s2 s3 s4 x.p c] hs fun w hs=>?_
  refine nilck_some (ldS_b (x:=s1) (nilck_some (ld_b (x:=s2) hs ?_)))
  refine keep_imp hs ?_
  rw [i64_in _ (by omega)]
  exact ⟨by unfold aLen; rw [hl.1.1,hl.2.1.1]; rfl,by exact Sat.fin hs⟩
 refine drawW_only [cR b s1 s2 s3 s4 x.p c] hs fun w hs=>?_
 refine nilck_some (ldS_b (x:=s3) (nilck_some (ldS_b (x:=s4) ?_)))
 refine call1_of (hLen w hs) fun e w ⟨he,hs⟩=>⟨_,he,?_⟩
 refine keep_imp hs ?_
 have hall:IntKind.wrap .i64 ((IntKind.wrap .i64 ((aLen x:Int) + (s3.n:Int))) + (s4.n:Int)) = (x.t1.length:Int) + x.t2.length + x.b1.length + x.b2.length:=by
  rw [i64_in ((aLen x:Int) + (s3.n:Int)) (by omega),i64_in _ (by omega)]; omega
 rw [hall]
 refine drawW_only [cR b s1 s2 s3 s4 x.p c] hs fun w hs=>?_
 refine nilck_some (ldS_b (x:=s1) (nilck_some (ldS_b (x:=s3) (nilck_some (ld_b hs ?_)))))
 refine keep_imp hs ?_
 rw [i64_in _ (by omega)]
 with_reducible refine ite_by (fun h1=>?_) (fun h1=>?_)
 ·refine nilck_some (ldS_b (x:=s1) (nilck_some (ld_b hs ?_)))
  refine keep_imp hs ?_
  have hs:=ar_shut (x:=x) s1 s2 s3 s4 hs rfl rfl rfl rfl rfl
  with_reducible refine j1 w _ _ rfl ?_ hs
  rw [Bool.eq_iff_iff,decide_eq_true_eq,decide_eq_true_eq]
  omega
 ·refine keep_imp hs ?_
  have hs:=ar_shut (x:=x) s1 s2 s3 s4 hs rfl rfl rfl rfl rfl
  with_reducible refine j1 w _ _ rfl ?_ hs
  symm
  rw [decide_eq_false_iff_not]
  omega
end
open Go.Hb Go.IntWalk
section
variable {W w:World} {L M:List HP} {F:HP -> List HP} {b:Nat} {c:Int} {x y:ArcS} {key:ByteArray} {xs:List ByteArray}
theorem r10_Access_in (hs:Sat W w (arR b c x::M)) (hx:ArcOk c x):Calls Tryz.prog 124 #[.pointer (some ⟨b,0,none⟩),.string key] w fun e w'=>∃ l:Sl,e = .returned (.tuple #[.bool (aAcc c x key).1.1,.slice l.a l.n l.c]) /\
  Sat W w' (recs Rec.str l (aAcc c x key).1.2::arR b c (aAcc c x key).2::M):=by
 refine (cw f124_ok f124_raw (Q:=fun v w'=>∃ l:Sl,v = .tuple #[.bool (aAcc c x key).1.1,.slice l.a l.n l.c] /\ Sat W w' (recs Rec.str l (aAcc c x key).1.2::arR b c (aAcc c x key).2::M)) ?_).mono fun e w' ⟨v,he,l,hv,hs⟩=>⟨l,by rw [he,hv],hs⟩
 have hll:=hx.lens
 have hw:=hx.w
 refine call1_of (r10_Has hs hx) fun e w ⟨he,hs⟩=>⟨_,he,?_⟩
 with_reducible refine ite_by (fun h1=>?_) (fun h1=>?_)
 ·have e1:aAcc c x key = ((true,[]),aPush2 x key):=if_pos (mem_aRes.1 h1)
  rw [e1,push2_res hw h1]
  have g1:=gTake_len x.t1 key
  have g2:=gTake_len x.t2 key
  obtain ⟨s1,s2,s3,s4,hl,hs⟩:=ar_open hs
  have fin:∀ (w:World) (k1 k2:Sl),Sat W w (cR b k1 k2 s3 s4 x.p c::recs Rec.str k1 (gTake x.t1 key)::recs Rec.str k2 (gTake x.t2 key ++ [key])::recs Rec.str s3 x.b1::recs Rec.str s4 x.b2::M) ->
    ∃ l:Sl,Value.tuple #[.bool true,.slice none 0 0] = Value.tuple #[.bool true,.slice l.a l.n l.c] /\ Sat W w (recs Rec.str l []::arR b c ⟨gTake x.t1 key,gTake x.t2 key ++ [key],x.b1,x.b2,x.p⟩::M):=by
   intro w k1 k2 hs
   have hs:=ar_shut (x:=⟨gTake x.t1 key,gTake x.t2 key ++ [key],x.b1,x.b2,x.p⟩) k1 k2 s3 s4 hs rfl rfl rfl rfl rfl
   have hs:=Sat.nilR Rec.str hs
   exact ⟨⟨none,0,0⟩,rfl,hs⟩
  refine drawW_only [cR b s1 s2 s3 s4 x.p c] hs fun w hs=>?_
  refine nilck_some (ldS_b (x:=s1) (nilck_some (ldS_b (x:=s2) ?_)))
  refine ⟨?_,?_⟩
  ·refine call1_of (r10_cut (s0:=s1) (xs:=x.t1) hs (by omega)) fun e w ⟨k1,he,hs⟩=>⟨_,he,keep_imp hs ?_⟩
   refine ⟨?_,?_⟩
   ·refine call1_of (r10_cut (s0:=s2) (xs:=x.t2) hs (by omega)) fun e w ⟨k2,he,hs⟩=>⟨_,he,?_⟩
    refine newB_at hs fun nb w hs=>keep_imp hs ?_
    refine app_one (s:=k2) (a:=key) hs rfl rfl rfl rfl (by decide) (by omega) fun k3 w hs5 hs=>?_
    refine nilck_some (st_b hs fun w hs=>?_)
    refine nilck_some (st_b hs fun w hs=>?_)
    exact fin w k1 k3 (by exact Sat.fin hs)
   ·refine newB_at hs fun nb w hs=>keep_imp hs ?_
    refine call1_of (r10_cut (s0:=s2) (xs:=x.t2) hs (by omega)) fun e w ⟨k2,he,hs⟩=>⟨_,he,?_⟩
    refine app_one (s:=k2) (a:=key) hs rfl rfl rfl rfl (by decide) (by omega) fun k3 w hs5 hs=>?_
    refine nilck_some (st_b hs fun w hs=>?_)
    refine nilck_some (st_b hs fun w hs=>?_)
    exact fin w k1 k3 (by exact Sat.fin hs)
  ·refine newB_at hs fun nb w hs=>keep_imp hs ?_
   refine call1_of (r10_cut (s0:=s1) (xs:=x.t1) hs (by omega)) fun e w ⟨k1,he,hs⟩=>⟨_,he,keep_imp hs ?_⟩
   refine call1_of (r10_cut (s0:=s2) (xs:=x.t2) hs (by omega)) fun e w ⟨k2,he,hs⟩=>⟨_,he,?_⟩
   refine app_one (s:=k2) (a:=key) hs rfl rfl rfl rfl (by decide) (by omega) fun k3 w hs5 hs=>?_
   refine nilck_some (st_b hs fun w hs=>?_)
   refine nilck_some (st_b hs fun w hs=>?_)
   exact fin w k1 k3 (by exact Sat.fin hs)
 ·have h1':¬ (key ∈ x.t1 \/ key ∈ x.t2):=fun h=>h1 (mem_aRes.2 h)
  obtain ⟨s1,s2,s3,s4,hl,hs⟩:=ar_open hs
  refine nilck_some (ld_b (x:=s3) hs ?_)
  refine call1_of (r10_has (s0:=s3) (xs:=x.b1) hs (by omega)) fun e w ⟨i,he,hi,hs⟩=>⟨_,he,?_⟩
  rw [hi]
  with_reducible refine ite_by (fun h2=>?_) (fun h2=>?_)
  ·have e1:(aAcc c x key).1.1 = false:=by unfold aAcc; rw [if_neg h1',if_pos h2]
   rw [e1]
   have hs:=ar_shut (x:=x) s1 s2 s3 s4 hs rfl rfl rfl rfl rfl
   exact call1_of (r10_known hs hx (.inl h2)) fun e w ⟨l,he,hs⟩=>⟨l,he,l,rfl,hs⟩
  ·refine nilck_some (ld_b (x:=s4) hs ?_)
   refine call1_of (r10_has (s0:=s4) (xs:=x.b2) hs (by omega)) fun e w ⟨i,he,hi,hs⟩=>⟨_,he,?_⟩
   rw [hi]
   have hs:=ar_shut (x:=x) s1 s2 s3 s4 hs rfl rfl rfl rfl rfl
   with_reducible refine ite_by (fun h3=>?_) (fun h3=>?_)
   ·have e1:(aAcc c x key).1.1 = false:=by unfold aAcc; rw [if_neg h1',if_neg h2,if_pos h3]
    rw [e1]
    exact call1_of (r10_known hs hx (.inr h3)) fun e w ⟨l,he,hs⟩=>⟨l,he,l,rfl,hs⟩
   ·have e1:aAcc c x key = ((false,(aComes c x).1),aPush1 (aComes c x).2 key):=by unfold aAcc; rw [if_neg h1',if_neg h2,if_neg h3]
    have hk:key ∉ x.t1 ++ (x.t2 ++ (x.b1 ++ x.b2)):=by
     simp only [List.mem_append,not_or]
     exact ⟨fun h=>h1' (.inl h),fun h=>h1' (.inr h),h2,h3⟩
    rw [e1]
    exact call1_of (r10_fresh hs hx hk) fun e w ⟨l,he,hs⟩=>⟨l,he,l,rfl,hs⟩
theorem r10_Access (hs:Sat W w L) [hA:At L b (arR b c x) F] (hx:ArcOk c x):Calls Tryz.prog 124 #[.pointer (some ⟨b,0,none⟩),.string key] w fun e w'=>∃ l:Sl,e = .returned (.tuple #[.bool (aAcc c x key).1.1,.slice l.a l.n l.c]) /\
  Sat W w' (recs Rec.str l (aAcc c x key).1.2::F (arR b c (aAcc c x key).2)):=by
 refine At.oneX (hA:=hA) hs fun M hs hb=>?_
 refine (r10_Access_in hs hx).mono fun e w' ⟨l,he,hs⟩=>⟨l,he,?_⟩
 have hs:Sat W w' (arR b c (aAcc c x key).2::recs Rec.str l (aAcc c x key).1.2::M):=by exact Sat.fin hs
 exact hb _ _ [recs Rec.str l (aAcc c x key).1.2] hs
theorem r10_Remove (hs:Sat W w L) [hA:At L b (arR b c x) F] (hx:ArcOk c x):Calls Tryz.prog 146 #[.pointer (some ⟨b,0,none⟩),.string key] w fun e w'=>e = .returned (.bool (aRem x key).1) /\ Sat W w' (F (arR b c (aRem x key).2)):=by
 refine At.call1 (hA:=hA) hs fun M hs=>?_
 clear hA
 refine c1 (cw f146_ok f146_raw ?_)
 have hll:=hx.lens
 refine call1_of (r10_Has hs hx) fun e w ⟨he,hs⟩=>⟨_,he,?_⟩
 by_cases hk:key ∈ aRes x
 ·rw [decide_eq_true hk]
  have e1:aRem x key = (true,aCut x key):=if_pos (mem_aRes.1 hk)
  rw [e1,cut_res hx.w hk]
  refine ite_false rfl ?_
  obtain ⟨s1,s2,s3,s4,hl,hs⟩:=ar_open hs
  refine drawW_only [cR b s1 s2 s3 s4 x.p c] hs fun w hs=>?_
  refine nilck_some (ldS_b (x:=s1) (nilck_some (ldS_b (x:=s2) ?_)))
  refine call1_of (r10_cut (s0:=s1) (xs:=x.t1) hs (by omega)) fun e w ⟨k1,he,hs⟩=>⟨_,he,keep_imp hs ?_⟩
  refine call1_of (r10_cut (s0:=s2) (xs:=x.t2) hs (by omega)) fun e w ⟨k2,he,hs⟩=>⟨_,he,?_⟩
  refine nilck_some (st_b hs fun w hs=>?_)
  refine nilck_some (st_b hs fun w hs=>?_)
  exact ⟨rfl,ar_shut (x:=⟨gTake x.t1 key,gTake x.t2 key,x.b1,x.b2,x.p⟩) k1 k2 s3 s4 (p:=x.p) (l1:=gTake x.t1 key) (l2:=gTake x.t2 key) (l3:=x.b1) (l4:=x.b2) (by exact Sat.fin hs) rfl rfl rfl rfl rfl⟩
 ·rw [decide_eq_false hk]
  have e1:aRem x key = (false,x):=if_neg (fun h=>hk (mem_aRes.2 h))
  rw [e1]
  exact ite_true rfl ⟨rfl,hs⟩
theorem r10_Evict (hs:Sat W w L) [hA:At L b (arR b c x) F] (hx:ArcOk c x):Calls Tryz.prog 119 #[.pointer (some ⟨b,0,none⟩)] w fun e w'=>e = .returned (.tuple #[.string (aEvict x).1.1,.bool (aEvict x).1.2]) /\ Sat W w' (F (arR b c (aEvict x).2)):=by
 refine At.call1 (hA:=hA) hs fun M hs=>?_
 clear hA
 refine c1 (cw f119_ok f119_raw ?_)
 have hll:=hx.lens
 refine call1_of (r10_Len hs hx) fun e w ⟨he,hs⟩=>⟨_,he,?_⟩
 with_reducible refine ite_by (fun h0=>?_) (fun h0=>?_)
 ·have e1:aEvict x = ((⟨#[]⟩,false),x):=if_pos (by unfold aLen at h0; omega)
  rw [e1]
  exact ⟨rfl,hs⟩
 ·have h00:¬ (x.t1.length + x.t2.length = 0):=by unfold aLen at h0; omega
  obtain ⟨g,hg⟩:∃ g,g = (decide (0 < x.t1.length) && (decide (x.p < (x.t1.length:Int)) || decide (x.t2.length = 0))):=⟨_,rfl⟩
  have e1:aEvict x = (((aGoes x g).1,true),(aGoes x g).2):=by rw [hg]; exact if_neg h00
  rw [e1]
  have g1:g = true -> 0 < x.t1.length:=fun h=>by rw [hg,Bool.and_eq_true,decide_eq_true_eq] at h; exact h.1
  have g2:g = false -> 0 < x.t2.length:=fun h=>aEv_t2 (by rw [<- hg]; exact h) (by omega)
  have fin:∀ (w:World) (f:Bool),f = g -> Sat W w (arR b c x::M) -> call1 .str Tryz.prog 162 [.pointer (some ⟨b,0,none⟩),.bool f] (fun y w'=>Value.tuple #[.string y,.bool true] = Value.tuple #[.string (aGoes x g).1,.bool true] /\ Sat W w' (arR b c (aGoes x g).2::M)) w:=by
   intro w f hf hs
   subst hf
   exact call1_of (r10_goes hs hx g1 g2) fun e w ⟨he,hs⟩=>⟨_,he,rfl,hs⟩
  clear e1
  obtain ⟨s1,s2,s3,s4,hl,hs⟩:=ar_open hs
  refine drawW_only [cR b s1 s2 s3 s4 x.p c] hs fun w hs=>?_
  refine nilck_some (ld_b (x:=s1) hs ?_)
  refine keep_imp hs ?_
  with_reducible refine ite_by (fun h2=>?_) (fun h2=>?_)
  ·refine nilck_some (ldS_b (x:=s1) (nilck_some (ld_b hs ?_)))
   refine keep_imp hs ?_
   with_reducible refine ite_by (fun h3=>?_) (fun h3=>?_)
   ·refine fin w true ?_ (ar_shut s1 s2 s3 s4 hs rfl rfl rfl rfl rfl)
    rw [hg]
    simp only [decide_eq_true (show 0 < x.t1.length by omega),decide_eq_true (show x.p < (x.t1.length:Int) by omega),Bool.true_or,Bool.and_true]
   ·refine nilck_some (ld_b (x:=s2) hs ?_)
    refine fin w _ ?_ (ar_shut s1 s2 s3 s4 hs rfl rfl rfl rfl rfl)
    rw [hg,decide_eq_true (show 0 < x.t1.length by omega),decide_eq_false (show ¬ x.p < (x.t1.length:Int) by omega),Bool.false_or,Bool.true_and,Bool.eq_iff_iff,beq_iff_eq,decide_eq_true_eq]
    omega
  ·refine keep_imp hs ?_
   refine fin w false ?_ (ar_shut s1 s2 s3 s4 hs rfl rfl rfl rfl rfl)
   rw [hg,decide_eq_false (show ¬ 0 < x.t1.length by omega),Bool.false_and]
theorem r10_Keys (h:Sat W w L) [hA:At L b (arR b c x) F] (hx:ArcOk c x):Calls Tryz.prog 195 #[.pointer (some ⟨b,0,none⟩)] w fun e w'=>∃ l:Sl,e = .returned (.slice l.a l.n l.c) /\ Sat W w' (recs Rec.str l (aRes x)::F (arR b c x)):=by
 refine At.oneX (hA:=hA) h fun M hs hb=>?_
 refine (cw f195_ok f195_raw (Q:=fun v w'=>∃ l:Sl,v = .slice l.a l.n l.c /\ Sat W w' (arR b c x::recs Rec.str l (aRes x)::M)) ?_).mono fun e w' ⟨v,he,l,hv,hs⟩=>⟨l,by rw [he,hv],hb _ _ [recs Rec.str l (aRes x)] hs⟩
 clear hb hA
 have hll:=hx.lens
 obtain ⟨s1,s2,s3,s4,hl,hs⟩:=ar_open hs
 refine drawW_only [cR b s1 s2 s3 s4 x.p c] hs fun w hs=>?_
 refine nilck_some (ldS_b (x:=s1) (nilck_some (ldS_b (x:=s2) ?_)))
 refine newB_at hs fun nb w hs=>keep_imp hs ?_
 refine app_own (b:=nb) (cs:=[]) (rows:=[]) (new:=x.t1) hs Rec.str rfl rfl (rd_rdb (s:=s1) hs) hl.1.1 (okC_flat _) rfl (by decide) (by simp; omega) fun s5 w h5 hs=>?_
 have hs:Sat W w (recs Rec.str s5 x.t1::cR b s1 s2 s3 s4 x.p c::recs Rec.str s1 x.t1::recs Rec.str s2 x.t2::recs Rec.str s3 x.b1::recs Rec.str s4 x.b2::M):=hs
 refine keep_imp hs ?_
 refine app_by (s:=s5) (new:=x.t2) hs (rd_rdb (s:=s2) hs) hl.2.1.1 (okC_flat _) rfl (by decide) (by omega) fun s6 w hs6 hs=>?_
 have hs:Sat W w (cR b s1 s2 s3 s4 x.p c::recs Rec.str s1 x.t1::recs Rec.str s2 x.t2::recs Rec.str s3 x.b1::recs Rec.str s4 x.b2::recs Rec.str s6 (aRes x)::M):=by
  have hs:Sat W w (recs Rec.str s6 (aRes x)::cR b s1 s2 s3 s4 x.p c::recs Rec.str s1 x.t1::recs Rec.str s2 x.t2::recs Rec.str s3 x.b1::recs Rec.str s4 x.b2::M):=hs
  exact Sat.fin hs
 exact ⟨s6,rfl,ar_shut s1 s2 s3 s4 hs rfl rfl rfl rfl rfl⟩
theorem r10_Load_in (hs:Sat W w (arR b c x::M)) (hx:ArcOk c x):Calls Tryz.prog 156 #[.pointer (some ⟨b,0,none⟩),.string key] w fun e w'=>e = .returned (.bool (aLoad c x key).1) /\
  Sat W w' (arR b c (aLoad c x key).2::M):=by
 refine c1 (cw f156_ok f156_raw ?_)
 have hll:=hx.lens
 have hc1:=hx.c1
 have hc2:=hx.c2
 have hlen:=hx.len
 have hal:(aLen x:Int) = x.t1.length + x.t2.length:=by unfold aLen; omega
 refine drawW_only [arR b c x] hs fun w hs=>?_
 refine call1_of (r10_Has hs hx) fun e w ⟨he,hs⟩=>⟨_,he,?_⟩
 refine keep_imp hs ?_
 with_reducible refine ite_by (fun hk=>?_) (fun hk=>?_)
 ·have e1:aLoad c x key = (false,x):=if_pos ((mem_aRes.1 hk).elim .inl fun h=>.inr (.inl h))
  rw [e1]
  refine keep_imp hs ?_
  exact ⟨rfl,hs⟩
 refine nilck_some ?_
 refine ldS_by (k:=.int .i64) c (fun w' h=>ar_cap h) ?_
 refine call1_of (r10_Len hs hx) fun e w ⟨he,hs⟩=>⟨_,he,?_⟩
 refine keep_imp hs ?_
 with_reducible refine ite_by (fun h2=>?_) (fun h2=>?_)
 ·have e1:aLoad c x key = (false,x):=if_pos (.inr (.inr (by omega)))
  rw [e1]
  exact ⟨rfl,hs⟩
 have e1:aLoad c x key = (true,aLoad.aTrim2 c (aLoad.aTrim1 c (aPush1 x key))):=if_neg fun h=>h.elim (fun h=>hk (mem_aRes.2 (.inl h))) fun h=>h.elim (fun h=>hk (mem_aRes.2 (.inr h))) fun h=>h2 (by omega)
 rw [e1,push1_res hk]
 refine jw f156_j1_raw ?_
 obtain ⟨s1,s2,s3,s4,hl,hs⟩:=ar_open hs
 have g1:=gTake_len x.b1 key
 have g2:=gTake_len x.b2 key
 refine drawW_only [cR b s1 s2 s3 s4 x.p c] hs fun w hs=>?_
 refine nilck_some (ldS_b (x:=s3) (nilck_some (ldS_b (x:=s4) ?_)))
 refine call1_of (r10_cut (s0:=s3) (xs:=x.b1) hs (by omega)) fun e w ⟨k3,he,hs⟩=>⟨_,he,keep_imp hs ?_⟩
 refine call1_of (r10_cut (s0:=s4) (xs:=x.b2) hs (by omega)) fun e w ⟨k4,he,hs⟩=>⟨_,he,?_⟩
 refine nilck_some (st_b hs fun w hs=>?_)
 refine nilck_some (st_b hs fun w hs=>?_)
 refine newB_at hs fun nb w hs=>?_
 refine nilck_some (ld_b (x:=s1) hs ?_)
 refine app_own (b:=nb) (cs:=[]) (rows:=[]) (new:=x.t1) hs Rec.str rfl rfl (rd_rdb (s:=s1) hs) hl.1.1 (okC_flat _) rfl (by decide) (by simp; omega) fun s5 w h5 hs=>?_
 have hs:Sat W w (recs Rec.str s5 x.t1::cR b s1 s2 k3 k4 x.p c::recs Rec.str s2 x.t2::recs Rec.str k3 (gTake x.b1 key)::recs Rec.str k4 (gTake x.b2 key)::M):=by
  have hs:Sat W w (recs Rec.str s5 x.t1::_):=hs
  exact Sat.fin hs
 refine newB_at hs fun nb2 w hs=>?_
 refine app_one (s:=s5) (a:=key) hs rfl rfl rfl rfl (by decide) (by omega) fun s6 w hs6 hs=>?_
 refine nilck_some (st_b hs fun w hs=>?_)
 have hs:Sat W w (cR b s6 s2 k3 k4 x.p c::recs Rec.str s6 (x.t1 ++ [key])::recs Rec.str s2 x.t2::recs Rec.str k3 (gTake x.b1 key)::recs Rec.str k4 (gTake x.b2 key)::M):=by exact Sat.fin hs
 have hs:=ar_shut (x:=⟨x.t1 ++ [key],x.t2,gTake x.b1 key,gTake x.b2 key,x.p⟩) s6 s2 k3 k4 hs rfl rfl rfl rfl rfl
 have hlt:(((x.t1 ++ [key]).length:Nat):Int) + x.t2.length <= c:=by simp only [List.length_append,List.length_cons,List.length_nil]; omega
 have hbd:(gTake x.b1 key).length <= 2048 /\ (gTake x.b2 key).length <= 2048:=⟨by omega,by omega⟩
 have loop2:∀ (f:Nat) (w:World) (y:ArcS),((y.t1.length:Int) + y.t2.length + y.b1.length + y.b2.length - 2 * c).toNat = f -> ((y.t1.length:Int) + y.t2.length <= c) -> ((y.t1.length:Int) + y.b1.length <= c) -> (y.b1.length <= 2048 /\ y.b2.length <= 2048) -> Sat W w (arR b c y::M) ->
   f156_l4 idJ (fun v w'=>v = .bool true /\ Sat W w' (arR b c (aLoad.aTrim2 c y)::M)) (f + 1) (some ⟨b,0,none⟩) w:=by
  clear hs
  intro f
  have hLen:∀ w (y:ArcS) (s1 s2 s3 s4:Sl),s1.n = y.t1.length -> s2.n = y.t2.length -> ((y.t1.length:Int) + y.t2.length <= c) -> Sat W w (cR b s1 s2 s3 s4 y.p c::recs Rec.str s1 y.t1::recs Rec.str s2 y.t2::recs Rec.str s3 y.b1::recs Rec.str s4 y.b2::M) -> Calls Tryz.prog 161 #[.pointer (some ⟨b,0,none⟩)] w fun e w'=>e = .returned (.int .i64 ((y.t1.length:Int) + y.t2.length)) /\ Sat W w' (cR b s1 s2 s3 s4 y.p c::recs Rec.str s1 y.t1::recs Rec.str s2 y.t2::recs Rec.str s3 y.b1::recs Rec.str s4 y.b2::M):=by
   intro w y s1 s2 s3 s4 h1 h2 h3 hs
   refine c1 (cw f161_ok f161_raw ?_)
   refine drawW_only [cR b s1 s2 s3 s4 y.p c] hs fun w hs=>?_
   refine nilck_some (ldS_b (x:=s1) (nilck_some (ld_b (x:=s2) hs ?_)))
   refine keep_imp hs ?_
   rw [i64_in _ (by omega),h1,h2]
   exact ⟨rfl,by exact Sat.fin hs⟩
  induction f with
  | zero=>
   intro w y hf hl hl1 hb hs
   rw [f156_l4_raw]
   obtain ⟨s1,s2,s3,s4,hsl,hs⟩:=ar_open hs
   refine drawW_only [cR b s1 s2 s3 s4 y.p c] hs fun w hs=>?_
   refine nilck_some (ldS_b (x:=s3) (nilck_some (ldS_b (x:=s4) (nilck_some (ldS_b ?_)))))
   refine call1_of (hLen w y s1 s2 s3 s4 hsl.1.1 hsl.2.1.1 hl hs) fun e w ⟨he,hs⟩=>⟨_,he,?_⟩
   refine keep_imp hs ?_
   rw [i64_in (_ + (s3.n:Int)) (by omega),i64_in _ (by omega),i64_in (2 * c) (by omega)]
   refine ite_false (decide_eq_false (by omega)) ?_
   refine jw f156_j5_raw ?_
   rw [trim2_le (by omega)]
   exact ⟨rfl,ar_shut s1 s2 s3 s4 hs rfl rfl rfl rfl rfl⟩
  | succ f ih=>
   intro w y hf hl hl1 hb hs
   rw [f156_l4_raw]
   have h0:0 < y.b2.length:=by omega
   obtain ⟨s1,s2,s3,s4,hsl,hs⟩:=ar_open hs
   refine drawW_only [cR b s1 s2 s3 s4 y.p c] hs fun w hs=>?_
   refine nilck_some (ldS_b (x:=s3) (nilck_some (ldS_b (x:=s4) (nilck_some (ldS_b ?_)))))
   refine call1_of (hLen w y s1 s2 s3 s4 hsl.1.1 hsl.2.1.1 hl hs) fun e w ⟨he,hs⟩=>⟨_,he,?_⟩
   refine keep_imp hs ?_
   rw [i64_in (_ + (s3.n:Int)) (by omega),i64_in _ (by omega),i64_in (2 * c) (by omega)]
   refine ite_true (decide_eq_true (by omega)) ?_
   refine nilck_some (ld_b (x:=s4) hs ?_)
   refine when_of (by omega) ?_
   refine nilck_some (st_b hs fun w hs=>?_)
   have hs:=cut1 (s:=s4) hs h0
   have hs:=ar_shut (x:={ y with b2:=y.b2.drop 1 }) s1 s2 s3 ⟨subA s4.a (((1:Int)).toNat) s4.c 1,s4.n - ((1:Int)).toNat,s4.c - ((1:Int)).toNat⟩ hs rfl rfl rfl rfl rfl
   rw [<- trim2_step (c:=c) (y:=y) (by omega) h0]
   exact ih w _ (by simp only [List.length_drop]; omega) hl hl1 (by simp only [List.length_drop]; omega) hs
 have loop1:∀ (f:Nat) (w:World) (y:ArcS),((y.t1.length:Int) + y.b1.length - c).toNat = f -> ((y.t1.length:Int) + y.t2.length <= c) -> (y.b1.length <= 2048 /\ y.b2.length <= 2048) -> Sat W w (arR b c y::M) ->
   f156_l2 idJ (fun v w'=>v = .bool true /\ Sat W w' (arR b c (aLoad.aTrim2 c (aLoad.aTrim1 c y))::M)) (f + 1) (some ⟨b,0,none⟩) w:=by
  clear hs
  intro f
  induction f with
  | zero=>
   intro w y hf hl hb hs
   rw [f156_l2_raw]
   obtain ⟨s1,s2,s3,s4,hsl,hs⟩:=ar_open hs
   refine drawW_only [cR b s1 s2 s3 s4 y.p c] hs fun w hs=>?_
   refine nilck_some (ldS_b (x:=s1) (nilck_some (ldS_b (x:=s3) (nilck_some (ld_b hs ?_)))))
   refine keep_imp hs ?_
   rw [i64_in _ (by omega)]
   refine ite_false (decide_eq_false (by omega)) ?_
   refine jw f156_j3_raw ?_
   rw [trim1_le (by omega)]
   exact exM_of _ (loop2 _ w y rfl hl (by omega) hb (ar_shut s1 s2 s3 s4 hs rfl rfl rfl rfl rfl))
  | succ f ih=>
   intro w y hf hl hb hs
   rw [f156_l2_raw]
   have h0:0 < y.b1.length:=by omega
   obtain ⟨s1,s2,s3,s4,hsl,hs⟩:=ar_open hs
   refine drawW_only [cR b s1 s2 s3 s4 y.p c] hs fun w hs=>?_
   refine nilck_some (ldS_b (x:=s1) (nilck_some (ldS_b (x:=s3) (nilck_some (ld_b hs ?_)))))
   refine keep_imp hs ?_
   rw [i64_in _ (by omega)]
   refine ite_true (decide_eq_true (by omega)) ?_
   refine nilck_some (ld_b (x:=s3) hs ?_)
   refine when_of (by omega) ?_
   refine nilck_some (st_b hs fun w hs=>?_)
   have hs:=cut1 (s:=s3) hs h0
   have hs:=ar_shut (x:={ y with b1:=y.b1.drop 1 }) s1 s2 ⟨subA s3.a (((1:Int)).toNat) s3.c 1,s3.n - ((1:Int)).toNat,s3.c - ((1:Int)).toNat⟩ s4 hs rfl rfl rfl rfl rfl
   rw [<- trim1_step (c:=c) (y:=y) (by omega) h0]
   exact ih w _ (by simp only [List.length_drop]; omega) hl (by simp only [List.length_drop]; omega) hs
 exact exM_of _ (loop1 _ w _ rfl hlt hbd hs)
theorem r10_Load (hs:Sat W w L) [hA:At L b (arR b c x) F] (hx:ArcOk c x):Calls Tryz.prog 156 #[.pointer (some ⟨b,0,none⟩),.string key] w fun e w'=>e = .returned (.bool (aLoad c x key).1) /\ Sat W w' (F (arR b c (aLoad c x key).2)):=by
 refine At.call1 (hA:=hA) hs fun M hs=>?_
 exact r10_Load_in hs hx
end
end Go.Proofs.YtmefopmnjncdbaaGreat
namespace Go.Hb
theorem aAcc_calm {c:Int} {x:ArcS} {k:ByteArray} (h:k ∈ aRes x \/ (aLen x:Int) < c):(aAcc c x k).1.2 = []:=by
 have hl:(aLen x:Int) = x.t1.length + x.t2.length:=by unfold aLen; omega
 have hr:∀ (y:ArcS) (again:Bool),y.t1 = x.t1 -> y.t2 = x.t2 -> (aLen x:Int) < c -> (aRep c y again).1 = []:=by
  intro y again h1 h2 h3
  unfold aRep
  rw [h1,h2,if_pos (by omega)]
 by_cases hk:k ∈ aRes x
 ·have e1:aAcc c x k = ((true,[]),aPush2 x k):=if_pos (mem_aRes.1 hk)
  rw [e1]
 ·have h:=h.elim (fun h=>absurd h hk) id
  unfold aAcc
  split
  ·rfl
  ·split
   ·exact hr _ _ rfl rfl h
   ·split
    ·exact hr _ _ rfl rfl h
    ·unfold aComes
     split
     ·exact hr _ _ rfl rfl h
     ·split
      ·omega
      ·split
       ·rfl
       ·split
        ·exact hr _ _ rfl rfl h
        ·exact hr _ _ rfl rfl h
end Go.Hb
