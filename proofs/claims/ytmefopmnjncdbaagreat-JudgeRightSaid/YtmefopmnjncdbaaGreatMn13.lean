import Derived.Test.YtmefopmnjncdbaaGreatMn12
set_option linter.unusedVariables false
set_option linter.unusedSimpArgs false
set_option linter.unnecessarySimpa false
set_option linter.unusedSectionVars false
set_option maxRecDepth 100000
namespace Go.Hb
def kB (i:Int):Int:=if i = 1 then 104 else if i = 3 then 103 else 99
theorem kB_hot {i:Int}:kB i = 104 ↔ i = 1:=by
 unfold kB
 split
 ·simp_all
 ·split <;> simp_all
theorem kB_gh {i:Int}:kB i = 103 ↔ i = 3:=by
 unfold kB
 split
 ·rename_i h; subst h; simp
 ·split
  ·simp_all
  ·simp_all
def lcR:Rec (ByteArray × Int):=⟨2,fun e=>[.string e.1,.int .u8 (kB e.2)],fun _=>rfl⟩
instance:OkR lcR:=⟨fun _=>rfl⟩
instance:PosR lcR:=⟨by decide⟩
def liR (b:Nat) (c:Int) (x:LirsS):HP:=exH fun (z:Sl × Sl)=>allH [blk b [.slice z.1.a z.1.n z.1.c,.slice z.2.a z.2.n z.2.c,.int .i64 c],recs lcR z.1 x.s,recs Rec.str z.2 x.q]
section
variable {W w:World} {M L:List HP} {b:Nat} {c:Int} {x:LirsS}
instance At.liR:At (liR b c x::L) b (liR b c x) (fun x=>x::L):=⟨here_pos⟩
theorem li_open (h:Sat W w (liR b c x::M)):∃ s q:Sl,(s.n = x.s.length /\ s.n <= s.c) /\ (q.n = x.q.length /\ q.n <= q.c) /\ Sat W w (blk b [.slice s.a s.n s.c,.slice q.a q.n q.c,.int .i64 c]::recs lcR s x.s::recs Rec.str q x.q::M):=by
 obtain ⟨⟨s,q⟩,h⟩:=h.openE
 have h:=h.openL
 have h:Sat W w (blk b [.slice s.a s.n s.c,.slice q.a q.n q.c,.int .i64 c]::recs lcR s x.s::recs Rec.str q x.q::M):=h
 exact ⟨s,q,recs_len (s:=s) h,recs_len (s:=q) h,h⟩
theorem li_shut (s q:Sl) (h:Sat W w (blk b [.slice s.a s.n s.c,.slice q.a q.n q.c,.int .i64 c]::recs lcR s x.s::recs Rec.str q x.q::M)):Sat W w (liR b c x::M):=Sat.shutE (s,q) (Sat.shutL (Ps:=[_,_,_]) h)
theorem li_cap (h:Sat W w (liR b c x::M)):w.cell? ⟨b,2,none⟩ = some (.int .i64 c):=by
 obtain ⟨s,q,_,_,h⟩:=li_open h
 exact h.cell (q:=0) rfl
end
theorem lCnt_snoc {S:SL} {i:Int} {j:Nat} (hj:j < S.length):lCnt (S.take (j + 1)) i = lCnt (S.take j) i + (if (S.getD j default).2 = i then 1 else 0):=by
 unfold lCnt
 rw [take_snoc hj,List.countP_append,List.countP_cons]
 simp
theorem lOut_snoc {S:SL} {k:ByteArray} {j:Nat} (hj:j < S.length):lOut (S.take (j + 1)) k = lOut (S.take j) k ++ (if (S.getD j default).1 = k then [] else [S.getD j default]):=by
 unfold lOut
 rw [take_snoc hj,List.filter_append]
 congr 1
 rw [List.filter_cons]
 split <;> split <;> simp_all
theorem lOut_len (S:SL) (k:ByteArray):(lOut S k).length <= S.length:=List.length_filter_le _ _
theorem lTop_len (S:SL) (k:ByteArray) (i:Int):(lTop S k i).length <= S.length + 1:=by have:=lOut_len S k; unfold lTop; simp; omega
theorem lPrune_len (S:SL):(lPrune S).length <= S.length:=(lPrune_sub S).length_le
theorem lFirst_drop {S:SL} {i:Int} {j:Nat} (hj:j < S.length):lFirst (S.drop j) i = if (S.getD j default).2 = i then some (S.getD j default).1 else lFirst (S.drop (j + 1)) i:=by
 have hd:S.getD j default = S[j]:=by rw [List.getD_eq_getElem?_getD,List.getElem?_eq_getElem hj]; rfl
 rw [hd,List.drop_eq_getElem_cons hj]
 unfold lFirst
 by_cases h:S[j].2 = i
 ·rw [if_pos h,List.find?_cons_of_pos (by simpa using h)]; rfl
 ·rw [if_neg h,List.find?_cons_of_neg (by simpa using h)]
end Go.Hb
namespace Go.Proofs.YtmefopmnjncdbaaGreat
open Go.Hb Go.IntWalk
section
variable {W w:World} {L M:List HP} {F:HP -> List HP} {b:Nat} {c:Int} {x y:LirsS} {key:ByteArray} {s q:Sl}
theorem r13_out (h:Sat W w L) [hA:At L b (liR b c x) F] (hz:x.s.length < 1000000):Calls Tryz.prog 205 #[.pointer (some ⟨b,0,none⟩),.string key] w fun e w'=>e = .returned (.tuple #[]) /\ Sat W w' (F (liR b c ⟨lOut x.s key,x.q⟩)):=by
 refine At.call1 (hA:=hA) h fun M hs=>?_
 clear h hA
 refine c1 (cw f205_ok f205_raw ?_)
 obtain ⟨s,q,hs1,hq1,hs⟩:=li_open hs
 have hs:=Sat.nilR lcR hs
 have loop:∀ (f j:Nat) (w:World) (acc:Sl),j + f = x.s.length -> Sat W w (recs lcR acc (lOut (x.s.take j) key)::rB b c s q::recs lcR s x.s::recs Rec.str q x.q::M) ->
   f205_l1 idJ (fun v w'=>v = .tuple #[] /\ Sat W w' (liR b c ⟨lOut x.s key,x.q⟩::M)) (f + 1) (some ⟨b,0,none⟩) key acc (j:Int) w:=by
  clear hs
  intro f
  induction f with
  | zero=>
   intro j w acc hif hs
   rw [f205_l1_raw]
   repeat (first | with_reducible refine nilck_some ?_ | ((with_reducible refine atLd ?_); first | refine ld_b hs ?_ | fail) | fail)
   refine ite_false (decide_eq_false (by omega)) ?_
   refine jw f205_j2_raw ?_
   rw [List.take_of_length_le (by omega)] at hs
   repeat (first | with_reducible refine nilck_some ?_ | ((with_reducible refine isSt ?_); first | refine st_b hs fun w hs=>?_ | fail) | fail)
   exact ⟨rfl,li_shut acc q (by exact Sat.fin hs)⟩
  | succ f ih=>
   intro j w acc hif hs
   rw [f205_l1_raw]
   repeat (first | with_reducible refine nilck_some ?_ | ((with_reducible refine atLd ?_); first | refine ld_b hs ?_ | fail) | fail)
   refine ite_true (decide_eq_true (by omega)) ?_
   repeat (first | with_reducible refine nilck_some ?_ | ((with_reducible refine atLd ?_); first | refine ld_b hs ?_ | refine ld_r0 hs ?_ | fail) | ((with_reducible refine isIdx ?_); first | refine idx_s hs fun b_ o_ hs=>?_ | fail) | fail)
   rw [Int.toNat_natCast]
   have hsn:=lOut_snoc (S:=x.s) (k:=key) (j:=j) (by omega)
   have hln:=lOut_len (x.s.take j) key
   have hw:IntKind.wrap .i64 ((j:Int) + 1) = ((j + 1:Nat):Int):=by rw [i64_in _ (by omega)]; omega
   rw [List.length_take] at hln
   with_reducible refine ite_by (fun h1=>?_) (fun h1=>?_)
   ·rw [if_neg h1] at hsn
    repeat (first | with_reducible refine nilck_some ?_ | ((with_reducible refine atLd ?_); first | refine ld_b hs ?_ | refine ld_rd0 ha_ hs ?_ | refine ld_rd1 ha_ hs ?_ | fail) | ((with_reducible refine isIdx ?_); first | refine idx_rd hs fun b_ o_ ha_=>?_ | fail) | with_reducible refine newB_at hs fun b_ w hs=>?_ | fail)
    refine app_one (s:=acc) (a:=x.s.getD j default) hs rfl rfl rfl rfl (by decide) (by omega) fun s2 w hs2 hs=>?_
    rw [<- hsn] at hs
    rw [hw]
    exact ih (j + 1) w s2 (by omega) (by exact Sat.fin hs)
   ·rw [if_pos h1,List.append_nil] at hsn
    rw [<- hsn] at hs
    rw [hw]
    exact ih (j + 1) w acc (by omega) (by exact Sat.fin hs)
 refine exM_of (x.s.length + 1) ?_
 exact loop x.s.length 0 w ⟨none,0,0⟩ (by omega) (by exact Sat.fin hs)
theorem r13_leave (h:Sat W w L) [hA:At L b (liR b c x) F] (hz:x.q.length < 1000000):Calls Tryz.prog 165 #[.pointer (some ⟨b,0,none⟩),.string key] w fun e w'=>e = .returned (.tuple #[]) /\ Sat W w' (F (liR b c ⟨x.s,gTake x.q key⟩)):=by
 refine At.call1 (hA:=hA) h fun M hs=>?_
 clear h hA
 refine c1 (cw f165_ok f165_raw ?_)
 obtain ⟨s,q,hs1,hq1,hs⟩:=li_open hs
 have hs:=Sat.nilR Rec.str hs
 have loop:∀ (f j:Nat) (w:World) (acc:Sl),j + f = x.q.length -> Sat W w (recs Rec.str acc (gTake (x.q.take j) key)::rB b c s q::recs lcR s x.s::recs Rec.str q x.q::M) ->
   f165_l1 idJ (fun v w'=>v = .tuple #[] /\ Sat W w' (liR b c ⟨x.s,gTake x.q key⟩::M)) (f + 1) (some ⟨b,0,none⟩) key acc (j:Int) w:=by
  clear hs
  intro f
  induction f with
  | zero=>
   intro j w acc hif hs
   rw [f165_l1_raw]
   repeat (first | with_reducible refine nilck_some ?_ | ((with_reducible refine atLd ?_); first | refine ld_b hs ?_ | fail) | fail)
   refine ite_false (decide_eq_false (by omega)) ?_
   refine jw f165_j2_raw ?_
   rw [List.take_of_length_le (by omega)] at hs
   repeat (first | with_reducible refine nilck_some ?_ | ((with_reducible refine isSt ?_); first | refine st_b hs fun w hs=>?_ | fail) | fail)
   exact ⟨rfl,li_shut s acc (by exact Sat.fin hs)⟩
  | succ f ih=>
   intro j w acc hif hs
   rw [f165_l1_raw]
   repeat (first | with_reducible refine nilck_some ?_ | ((with_reducible refine atLd ?_); first | refine ld_b hs ?_ | fail) | fail)
   refine ite_true (decide_eq_true (by omega)) ?_
   repeat (first | with_reducible refine nilck_some ?_ | ((with_reducible refine atLd ?_); first | refine ld_b hs ?_ | refine ld_r0 hs ?_ | fail) | ((with_reducible refine isIdx ?_); first | refine idx_s hs fun b_ o_ hs=>?_ | fail) | fail)
   rw [Int.toNat_natCast]
   have hsn:=gTake_snoc (q:=x.q) (k:=key) (j:=j) (by omega)
   have hln:=gTake_len (x.q.take j) key
   have hw:IntKind.wrap .i64 ((j:Int) + 1) = ((j + 1:Nat):Int):=by rw [i64_in _ (by omega)]; omega
   rw [List.length_take] at hln
   with_reducible refine ite_by (fun h1=>?_) (fun h1=>?_)
   ·rw [if_neg h1] at hsn
    repeat (first | with_reducible refine nilck_some ?_ | ((with_reducible refine atLd ?_); first | refine ld_b hs ?_ | refine ld_rd0 ha_ hs ?_ | fail) | ((with_reducible refine isIdx ?_); first | refine idx_rd hs fun b_ o_ ha_=>?_ | fail) | with_reducible refine newB_at hs fun b_ w hs=>?_ | fail)
    refine app_one (s:=acc) (a:=x.q.getD j default) hs rfl rfl rfl rfl (by decide) (by omega) fun s2 w hs2 hs=>?_
    rw [<- hsn] at hs
    rw [hw]
    exact ih (j + 1) w s2 (by omega) (by exact Sat.fin hs)
   ·rw [if_pos h1,List.append_nil] at hsn
    rw [<- hsn] at hs
    rw [hw]
    exact ih (j + 1) w acc (by omega) (by exact Sat.fin hs)
 refine exM_of (x.q.length + 1) ?_
 exact loop x.q.length 0 w ⟨none,0,0⟩ (by omega) (by exact Sat.fin hs)
theorem r13_count_at {i:Int} {is:Int} (hi:∀ j,kB j = is ↔ j = i) (hz:x.s.length < 1000000) (hs1:s.n = x.s.length /\ s.n <= s.c) (hs:Sat W w (rB b c s q::recs lcR s x.s::recs Rec.str q x.q::M)) :
  Calls Tryz.prog 182 #[.pointer (some ⟨b,0,none⟩),.int .u8 is] w fun e w'=>e = .returned (.int .i64 (lCnt x.s i:Int)) /\ Sat W w' (rB b c s q::recs lcR s x.s::recs Rec.str q x.q::M):=by
 refine c1 (cw f182_ok f182_raw ?_)
 have loop:∀ (f j:Nat) (w:World),j + f = x.s.length -> Sat W w (rB b c s q::recs lcR s x.s::recs Rec.str q x.q::M) ->
   f182_l1 idJ (fun v w'=>v = .int .i64 (lCnt x.s i:Int) /\ Sat W w' (rB b c s q::recs lcR s x.s::recs Rec.str q x.q::M)) (f + 1) (some ⟨b,0,none⟩) is (lCnt (x.s.take j) i:Int) (j:Int) w:=by
  clear hs
  intro f
  induction f with
  | zero=>
   intro j w hif hs
   rw [f182_l1_raw]
   repeat (first | with_reducible refine nilck_some ?_ | ((with_reducible refine atLd ?_); first | refine ld_b hs ?_ | fail) | fail)
   refine ite_false (decide_eq_false (by omega)) ?_
   refine jw f182_j2_raw ?_
   rw [List.take_of_length_le (by omega)]
   exact ⟨rfl,by exact Sat.fin hs⟩
  | succ f ih=>
   intro j w hif hs
   rw [f182_l1_raw]
   repeat (first | with_reducible refine nilck_some ?_ | ((with_reducible refine atLd ?_); first | refine ld_b hs ?_ | fail) | fail)
   refine ite_true (decide_eq_true (by omega)) ?_
   repeat (first | with_reducible refine nilck_some ?_ | ((with_reducible refine atLd ?_); first | refine ld_b hs ?_ | refine ld_r1 hs ?_ | fail) | ((with_reducible refine isIdx ?_); first | refine idx_s hs fun b_ o_ hs=>?_ | fail) | fail)
   rw [Int.toNat_natCast]
   have hsn:=lCnt_snoc (S:=x.s) (i:=i) (j:=j) (by omega)
   have hln:=lCnt_le (x.s.take j) i
   have hw:IntKind.wrap .i64 ((j:Int) + 1) = ((j + 1:Nat):Int):=by rw [i64_in _ (by omega)]; omega
   rw [List.length_take] at hln
   with_reducible refine ite_by (fun h1=>?_) (fun h1=>?_)
   ·rw [if_pos ((hi _).1 h1)] at hsn
    rw [hw,show IntKind.wrap .i64 ((lCnt (x.s.take j) i:Int) + 1) = (lCnt (x.s.take (j + 1)) i:Int) by rw [i64_in _ (by omega)]; omega]
    exact ih (j + 1) w (by omega) (by exact Sat.fin hs)
   ·rw [if_neg (fun h=>h1 ((hi _).2 h))] at hsn
    rw [hw,show (lCnt (x.s.take j) i:Int) = (lCnt (x.s.take (j + 1)) i:Int) by omega]
    exact ih (j + 1) w (by omega) (by exact Sat.fin hs)
 refine exM_of (x.s.length + 1) ?_
 have:=loop x.s.length 0 w (by omega) (by exact Sat.fin hs)
 exact this
theorem r13_count {i:Int} {is:Int} (h:Sat W w L) [hA:At L b (liR b c x) F] (hi:∀ j,kB j = is ↔ j = i) (hz:x.s.length < 1000000):Calls Tryz.prog 182 #[.pointer (some ⟨b,0,none⟩),.int .u8 is] w fun e w'=>e = .returned (.int .i64 (lCnt x.s i:Int)) /\ Sat W w' (F (liR b c x)):=by
 refine At.call1 (hA:=hA) h fun M hs=>?_
 obtain ⟨s,q,hs1,hq1,hs⟩:=li_open hs
 exact (r13_count_at hi hz hs1 hs).mono fun e w ⟨he,hs⟩=>⟨he,li_shut s q hs⟩
theorem r13_at (h:Sat W w L) [hA:At L b (liR b c x) F] (hz:x.s.length < 1000000):Calls Tryz.prog 166 #[.pointer (some ⟨b,0,none⟩),.string key] w fun e w'=>∃ v:Int,(e = .returned (.int .i64 v) /\ ((v = -1 /\ key ∉ lKeys x.s) \/ ∃ i:Nat,v = (i:Int) /\ i < x.s.length /\ (x.s.getD i default).1 = key)) /\ Sat W w' (F (liR b c x)):=by
 refine At.one (hA:=hA) h fun M hs hb=>?_
 clear h hA
 refine (cw f166_ok f166_raw (Q:=fun v w'=>∃ u:Int,(v = .int .i64 u /\ ((u = -1 /\ key ∉ lKeys x.s) \/ ∃ i:Nat,u = (i:Int) /\ i < x.s.length /\ (x.s.getD i default).1 = key)) /\ Sat W w' (liR b c x::M)) ?_).mono fun e w' ⟨v,he,u,⟨hv,hu⟩,hs⟩=>⟨u,⟨by rw [he,hv],hu⟩,hb _ _ hs⟩
 clear hb
 obtain ⟨s,q,hs1,hq1,hs⟩:=li_open hs
 have loop:∀ (f j:Nat) (w:World),j + f = x.s.length -> key ∉ lKeys (x.s.take j) -> Sat W w (rB b c s q::recs lcR s x.s::recs Rec.str q x.q::M) ->
   f166_l1 idJ (fun v w'=>∃ u:Int,(v = .int .i64 u /\ ((u = -1 /\ key ∉ lKeys x.s) \/ ∃ i:Nat,u = (i:Int) /\ i < x.s.length /\ (x.s.getD i default).1 = key)) /\ Sat W w' (liR b c x::M)) (f + 1) (some ⟨b,0,none⟩) key (j:Int) w:=by
  clear hs
  intro f
  induction f with
  | zero=>
   intro j w hif hno hs
   rw [f166_l1_raw]
   repeat (first | with_reducible refine nilck_some ?_ | ((with_reducible refine atLd ?_); first | refine ld_b hs ?_ | fail) | fail)
   refine ite_false (decide_eq_false (by omega)) ?_
   refine jw f166_j2_raw ?_
   rw [List.take_of_length_le (by omega)] at hno
   exact ⟨-1,⟨rfl,.inl ⟨rfl,hno⟩⟩,li_shut s q (by exact Sat.fin hs)⟩
  | succ f ih=>
   intro j w hif hno hs
   rw [f166_l1_raw]
   repeat (first | with_reducible refine nilck_some ?_ | ((with_reducible refine atLd ?_); first | refine ld_b hs ?_ | fail) | fail)
   refine ite_true (decide_eq_true (by omega)) ?_
   repeat (first | with_reducible refine nilck_some ?_ | ((with_reducible refine atLd ?_); first | refine ld_b hs ?_ | refine ld_r0 hs ?_ | fail) | ((with_reducible refine isIdx ?_); first | refine idx_s hs fun b_ o_ hs=>?_ | fail) | fail)
   rw [Int.toNat_natCast]
   have hw:IntKind.wrap .i64 ((j:Int) + 1) = ((j + 1:Nat):Int):=by rw [i64_in _ (by omega)]; omega
   with_reducible refine ite_by (fun h1=>?_) (fun h1=>?_)
   ·exact ⟨_,⟨rfl,.inr ⟨j,rfl,by omega,h1⟩⟩,li_shut s q (by exact Sat.fin hs)⟩
   ·rw [hw]
    refine ih (j + 1) w (by omega) ?_ (by exact Sat.fin hs)
    unfold lKeys at hno ⊢
    rw [take_snoc (by omega),List.map_append,List.mem_append]
    rintro (h | h)
    ·exact hno h
    ·simp at h; exact h1 h.symm
 refine exM_of (x.s.length + 1) ?_
 exact loop x.s.length 0 w (by omega) (by simp [lKeys]) (by exact Sat.fin hs)
theorem r13_inQ (h:Sat W w L) [hA:At L b (liR b c x) F] (hz:x.q.length < 1000000):Calls Tryz.prog 206 #[.pointer (some ⟨b,0,none⟩),.string key] w fun e w'=>e = .returned (.bool (decide (key ∈ x.q))) /\ Sat W w' (F (liR b c x)):=by
 refine At.call1 (hA:=hA) h fun M hs=>?_
 clear h hA
 refine c1 (cw f206_ok f206_raw ?_)
 obtain ⟨s,q,hs1,hq1,hs⟩:=li_open hs
 have loop:∀ (f j:Nat) (w:World),j + f = x.q.length -> key ∉ x.q.take j -> Sat W w (rB b c s q::recs lcR s x.s::recs Rec.str q x.q::M) ->
   f206_l1 idJ (fun v w'=>v = .bool (decide (key ∈ x.q)) /\ Sat W w' (liR b c x::M)) (f + 1) (some ⟨b,0,none⟩) key (j:Int) w:=by
  clear hs
  intro f
  induction f with
  | zero=>
   intro j w hif hno hs
   rw [f206_l1_raw]
   repeat (first | with_reducible refine nilck_some ?_ | ((with_reducible refine atLd ?_); first | refine ld_b hs ?_ | fail) | fail)
   refine ite_false (decide_eq_false (by omega)) ?_
   refine jw f206_j2_raw ?_
   rw [List.take_of_length_le (by omega)] at hno
   exact ⟨by rw [decide_eq_false hno],li_shut s q (by exact Sat.fin hs)⟩
  | succ f ih=>
   intro j w hif hno hs
   rw [f206_l1_raw]
   repeat (first | with_reducible refine nilck_some ?_ | ((with_reducible refine atLd ?_); first | refine ld_b hs ?_ | fail) | fail)
   refine ite_true (decide_eq_true (by omega)) ?_
   repeat (first | with_reducible refine nilck_some ?_ | ((with_reducible refine atLd ?_); first | refine ld_b hs ?_ | refine ld_r0 hs ?_ | fail) | ((with_reducible refine isIdx ?_); first | refine idx_s hs fun b_ o_ hs=>?_ | fail) | fail)
   rw [Int.toNat_natCast]
   have hw:IntKind.wrap .i64 ((j:Int) + 1) = ((j + 1:Nat):Int):=by rw [i64_in _ (by omega)]; omega
   with_reducible refine ite_by (fun h1=>?_) (fun h1=>?_)
   ·have:key ∈ x.q:=h1 ▸ getD_mem (by omega)
    exact ⟨by rw [decide_eq_true this],li_shut s q (by exact Sat.fin hs)⟩
   ·rw [hw]
    refine ih (j + 1) w (by omega) ?_ (by exact Sat.fin hs)
    rw [take_snoc (by omega),List.mem_append]
    rintro (h | h)
    ·exact hno h
    ·simp at h; exact h1 h.symm
 refine exM_of (x.q.length + 1) ?_
 exact loop x.q.length 0 w (by omega) (by simp) (by exact Sat.fin hs)
def lIsB (S:SL) (k:ByteArray):Int:=if k ∈ lKeys S then kB (lIs S k) else 0
theorem r13_is (h:Sat W w L) [hA:At L b (liR b c x) F] (hw:LW x) (hz:x.s.length < 1000000):Calls Tryz.prog 179 #[.pointer (some ⟨b,0,none⟩),.string key] w fun e w'=>e = .returned (.int .u8 (lIsB x.s key)) /\ Sat W w' (F (liR b c x)):=by
 refine At.call1 (hA:=hA) h fun M hs=>?_
 clear h hA
 refine c1 (cw f179_ok f179_raw ?_)
 refine (r13_at hs hz).mono fun e w ⟨v,⟨he,hv⟩,hs⟩=>⟨v,he,?_⟩
 rcases hv with ⟨rfl,hno⟩ | ⟨i,rfl,hi,hk⟩
 ·refine ite_true rfl ?_
  unfold lIsB
  rw [if_neg hno]
  exact ⟨rfl,hs⟩
 ·refine ite_false (decide_eq_false (by omega)) ?_
  obtain ⟨s,q,hs1,hq1,hs⟩:=li_open hs
  repeat (first | with_reducible refine nilck_some ?_ | ((with_reducible refine atLd ?_); first | refine ld_b hs ?_ | refine ld_r1 hs ?_ | fail) | ((with_reducible refine isIdx ?_); first | refine idx_s hs fun b_ o_ hs=>?_ | fail) | fail)
  rw [Int.toNat_natCast]
  have hm:x.s.getD i default ∈ x.s:=getD_mem hi
  have h1:key ∈ lKeys x.s:=List.mem_map.2 ⟨_,hm,hk⟩
  have h2:lIs x.s key = (x.s.getD i default).2:=by rw [<- hk]; exact (lIs_iff hw.sn (by rcases hw.kinds _ hm with h | h | h <;> omega)).2 hm
  unfold lIsB
  rw [if_pos h1,h2]
  exact ⟨rfl,li_shut s q (by exact Sat.fin hs)⟩
theorem r13_Has (h:Sat W w L) [hA:At L b (liR b c x) F] (hw:LW x) (hz:x.s.length < 1000000) (hzq:x.q.length < 1000000):Calls Tryz.prog 152 #[.pointer (some ⟨b,0,none⟩),.string key] w fun e w'=>e = .returned (.bool (decide (key ∈ lRes x))) /\ Sat W w' (F (liR b c x)):=by
 refine At.call1 (hA:=hA) h fun M hs=>?_
 clear h hA
 refine c1 (cw f152_ok f152_raw ?_)
 refine call1_of (r13_is hs hw hz) fun e w ⟨he,hs⟩=>⟨_,he,?_⟩
 with_reducible refine ite_by (fun h1=>?_) (fun h1=>?_)
 ·have:key ∈ lRes x:=by
   unfold lIsB at h1
   split at h1
   ·exact mem_lRes.2 (.inr ((lIs_iff hw.sn (by decide)).1 (kB_hot.1 h1)))
   ·omega
  exact ⟨by rw [decide_eq_true this],hs⟩
 ·refine call1_of (r13_inQ hs hzq) fun e w ⟨he,hs⟩=>⟨_,he,?_⟩
  have:decide (key ∈ x.q) = decide (key ∈ lRes x):=by
   rw [Bool.eq_iff_iff,decide_eq_true_eq,decide_eq_true_eq,mem_lRes]
   refine ⟨.inl,fun h=>h.elim id fun h=>absurd ?_ h1⟩
   unfold lIsB
   have hm:key ∈ lKeys x.s:=List.mem_map.2 ⟨_,h,rfl⟩
   rw [if_pos hm,(lIs_iff hw.sn (by decide)).2 h]; rfl
  exact ⟨by rw [this],hs⟩
theorem r13_most (h:Sat W w L) [hA:At L b (liR b c x) F] (h1:1 <= c) (h2:c <= 1024):Calls Tryz.prog 183 #[.pointer (some ⟨b,0,none⟩)] w fun e w'=>e = .returned (.int .i64 (lMost c)) /\ Sat W w' (F (liR b c x)):=by
 refine At.call1 (hA:=hA) h fun M hs=>?_
 clear h hA
 refine c1 (cw f183_ok f183_raw ?_)
 obtain ⟨s,q,hs1,hq1,hs⟩:=li_open hs
 repeat (first | with_reducible refine nilck_some ?_ | ((with_reducible refine atLd ?_); first | refine ld_b hs ?_ | fail) | ((with_reducible refine isLdS ?_); first | refine ldS_b ?_ | fail) | ((with_reducible refine isKeep ?_); first | refine keep_of hs ?_ | fail) | with_reducible refine when_om ?_ | with_reducible refine drawW_sat hs fun w hs=>?_ | fail)
 have e1:Int.tdiv c 10 = c / 10:=by rw [Int.tdiv_eq_ediv_of_nonneg (by omega)]
 have e2:IntKind.wrap .i64 (c - (if (IntKind.wrap .i64 (Int.tdiv c (10:Int))) > (1:Int) then (IntKind.wrap .i64 (Int.tdiv c (10:Int))) else (1:Int))) = lMost c:=by
  rw [e1,i64_in (c / 10) (by omega),i64_in _ (by split <;> omega)]
  unfold lMost; split <;> omega
 rw [e2]
 exact ⟨rfl,li_shut s q (by exact Sat.fin hs)⟩
theorem r13_Room (h:Sat W w L) [hA:At L b (liR b c x) F]:Calls Tryz.prog 77 #[.pointer (some ⟨b,0,none⟩)] w fun e w'=>e = .returned (.int .i64 c) /\ Sat W w' (F (liR b c x)):=by
 refine At.call1 (hA:=hA) h fun M hs=>?_
 clear h hA
 refine c1 (cw f77_ok f77_raw ?_)
 obtain ⟨s,q,hs1,hq1,hs⟩:=li_open hs
 repeat (first | with_reducible refine nilck_some ?_ | ((with_reducible refine atLd ?_); first | refine ld_b hs ?_ | fail) | fail)
 exact ⟨rfl,li_shut s q (by exact Sat.fin hs)⟩
theorem r13_Len (h:Sat W w L) [hA:At L b (liR b c x) F] (hz:x.s.length < 1000000) (hzq:x.q.length < 1000000):Calls Tryz.prog 163 #[.pointer (some ⟨b,0,none⟩)] w fun e w'=>e = .returned (.int .i64 (lLen x:Int)) /\ Sat W w' (F (liR b c x)):=by
 refine At.call1 (hA:=hA) h fun M hs=>?_
 clear h hA
 refine c1 (cw f163_ok f163_raw ?_)
 have hl:=lCnt_le x.s 1
 obtain ⟨s,q,hs1,hq1,hs⟩:=li_open hs
 refine drawW_only [rB b c s q] hs fun w hs=>?_
 repeat (first | with_reducible refine nilck_some ?_ | ((with_reducible refine isLdS ?_); first | refine ldS_b ?_ | fail) | fail)
 refine call1_of (r13_count_at (fun _=>kB_hot) hz hs1 hs) fun e w ⟨he,hs⟩=>⟨_,he,?_⟩
 repeat (first | ((with_reducible refine isKeep ?_); first | refine keep_imp hs ?_ | fail) | fail)
 rw [i64_in _ (by omega),hq1.1]
 exact ⟨by unfold lLen; simp,li_shut s q (by exact Sat.fin hs)⟩
theorem r13_top {i is:Int} (h:Sat W w L) [hA:At L b (liR b c x) F] (hi:kB i = is) (hz:x.s.length < 1000000):Calls Tryz.prog 180 #[.pointer (some ⟨b,0,none⟩),.string key,.int .u8 is] w fun e w'=>e = .returned (.tuple #[]) /\ Sat W w' (F (liR b c ⟨lTop x.s key i,x.q⟩)):=by
 refine At.call1 (hA:=hA) h fun M hs=>?_
 clear h hA
 refine c1 (cw f180_ok f180_raw ?_)
 refine call0_of (r13_out hs hz) fun e w ⟨he,hs⟩=>⟨he,?_⟩
 have hl:=lOut_len x.s key
 obtain ⟨s,q,hs1,hq1,hs⟩:=li_open hs
 simp only at hs1
 subst hi
 repeat (first | with_reducible refine nilck_some ?_ | ((with_reducible refine atLd ?_); first | refine ld_b hs ?_ | fail) | with_reducible refine newB_at hs fun b_ w hs=>?_ | fail)
 refine app_one (s:=s) (a:=(key,i)) hs rfl rfl rfl rfl (by decide) (by simp only; omega) fun s2 w hs2 hs=>?_
 repeat (first | with_reducible refine nilck_some ?_ | ((with_reducible refine isSt ?_); first | refine st_b hs fun w hs=>?_ | fail) | fail)
 exact ⟨rfl,li_shut s2 q (by exact Sat.fin hs)⟩
theorem lPrune_cons_hot {a:ByteArray × Int} {t:SL} (h:a.2 = 1):lPrune (a::t) = a::t:=by unfold lPrune; rw [List.dropWhile_cons,if_neg (by simp [h])]
theorem lPrune_cons_not {a:ByteArray × Int} {t:SL} (h:a.2 ≠ 1):lPrune (a::t) = lPrune t:=by unfold lPrune; rw [List.dropWhile_cons,if_pos (by simp [h])]
theorem r13_prune (h:Sat W w L) [hA:At L b (liR b c x) F] (hz:x.s.length < 1000000):Calls Tryz.prog 184 #[.pointer (some ⟨b,0,none⟩)] w fun e w'=>e = .returned (.tuple #[]) /\ Sat W w' (F (liR b c (lPr x))):=by
 refine At.call1 (hA:=hA) h fun M hs=>?_
 clear h hA
 refine c1 (cw f184_ok f184_raw ?_)
 have loop:∀ (f:Nat) (S:SL) (w:World),S.length = f -> f < 1000000 -> Sat W w (liR b c ⟨S,x.q⟩::M) ->
   f184_l1 idJ (fun v w'=>v = .tuple #[] /\ Sat W w' (liR b c ⟨lPrune S,x.q⟩::M)) (f + 1) (some ⟨b,0,none⟩) w:=by
  clear hs
  intro f
  induction f with
  | zero=>
   intro S w hf hz hs
   have hS:S = []:=List.length_eq_zero_iff.1 hf
   subst hS
   rw [f184_l1_raw]
   obtain ⟨s,q,hs1,hq1,hs⟩:=li_open hs
   simp only [List.length_nil] at hs1
   repeat (first | with_reducible refine nilck_some ?_ | ((with_reducible refine atLd ?_); first | refine ld_b hs ?_ | fail) | fail)
   refine ite_false (decide_eq_false (by omega)) ?_
   exact ⟨rfl,li_shut s q (by exact Sat.fin hs)⟩
  | succ f ih=>
   intro S w hf hz hs
   obtain ⟨a,t,rfl⟩:∃ a t,S = a::t:=by
    cases S with
    | nil=>simp at hf
    | cons a t=>exact ⟨a,t,rfl⟩
   rw [f184_l1_raw]
   obtain ⟨s,q,hs1,hq1,hs⟩:=li_open hs
   simp only [List.length_cons] at hs1 hf
   repeat (first | with_reducible refine nilck_some ?_ | ((with_reducible refine atLd ?_); first | refine ld_b hs ?_ | fail) | fail)
   refine ite_true (decide_eq_true (by omega)) ?_
   repeat (first | with_reducible refine nilck_some ?_ | ((with_reducible refine atLd ?_); first | refine ld_b hs ?_ | refine ld_r1 hs ?_ | fail) | ((with_reducible refine isIdx ?_); first | refine idx_s hs fun b_ o_ hs=>?_ | fail) | fail)
   have hg:((a::t).getD (Int.toNat 0) default) = a:=rfl
   rw [hg]
   with_reducible refine ite_by (fun h1=>?_) (fun h1=>?_)
   ·have h1:a.2 ≠ 1:=fun h=>h1 (kB_hot.2 h)
    rw [lPrune_cons_not h1]
    refine jw f184_j2_raw ?_
    repeat (first | with_reducible refine nilck_some ?_ | ((with_reducible refine atLd ?_); first | refine ld_b hs ?_ | fail) | with_reducible refine newB_at hs fun b_ w hs=>?_ | with_reducible refine when_om ?_ | fail)
    refine app_own hs lcR (rows:=[]) rfl rfl (new:=t) (rd_sub (s:=s) (E:=lcR) (rows:=a::t) (lo:=1) (c:=s.c) hs (k:=t.length) (by simp; omega) (by simp; omega) (by rw [hs1.1]; simp [lcR]) |>.trans (by simp)) (by simp; omega) (okC_flat _) rfl (by decide) (by simp; omega) fun s2 w hs2 hs=>?_
    rw [List.nil_append] at hs
    repeat (first | with_reducible refine nilck_some ?_ | ((with_reducible refine isSt ?_); first | refine st_b hs fun w hs=>?_ | fail) | fail)
    exact ih t w (by omega) (by omega) (li_shut s2 q (by exact Sat.fin hs))
   ·have h1:a.2 = 1:=kB_hot.1 h1
    rw [lPrune_cons_hot h1]
    exact ⟨rfl,li_shut s q (by exact Sat.fin hs)⟩
 refine exM_of (x.s.length + 1) ?_
 exact loop x.s.length x.s w rfl hz hs
theorem r13_cools (h:Sat W w L) [hA:At L b (liR b c x) F] (hz:x.s.length < 1000000) (hzq:x.q.length < 1000000):Calls Tryz.prog 164 #[.pointer (some ⟨b,0,none⟩)] w fun e w'=>e = .returned (.tuple #[]) /\ Sat W w' (F (liR b c (lCools x))):=by
 refine At.call1 (hA:=hA) h fun M hs=>?_
 clear h hA
 refine c1 (cw f164_ok f164_raw ?_)
 have loop:∀ (f j:Nat) (w:World),j + f = x.s.length -> lFirst (x.s.drop j) 1 = lFirst x.s 1 -> Sat W w (liR b c x::M) ->
   f164_l1 idJ (fun v w'=>v = .tuple #[] /\ Sat W w' (liR b c (lCools x)::M)) (f + 1) (some ⟨b,0,none⟩) (j:Int) w:=by
  clear hs
  intro f
  induction f with
  | zero=>
   intro j w hif hno hs
   rw [f164_l1_raw]
   obtain ⟨s,q,hs1,hq1,hs⟩:=li_open hs
   repeat (first | with_reducible refine nilck_some ?_ | ((with_reducible refine atLd ?_); first | refine ld_b hs ?_ | fail) | fail)
   refine ite_false (decide_eq_false (by omega)) ?_
   refine jw f164_j2_raw ?_
   refine call0_of (r13_prune (x:=x) (li_shut s q hs) hz) fun e w ⟨he,hs⟩=>⟨he,?_⟩
   rw [List.drop_eq_nil_of_le (by omega)] at hno
   have e1:lCools x = lPr x:=by unfold lCools lCool0 lPr; rw [<- hno]; rfl
   rw [e1]
   exact ⟨rfl,hs⟩
  | succ f ih=>
   intro j w hif hno hs
   rw [f164_l1_raw]
   obtain ⟨s,q,hs1,hq1,hs⟩:=li_open hs
   repeat (first | with_reducible refine nilck_some ?_ | ((with_reducible refine atLd ?_); first | refine ld_b hs ?_ | fail) | fail)
   refine ite_true (decide_eq_true (by omega)) ?_
   repeat (first | with_reducible refine nilck_some ?_ | ((with_reducible refine atLd ?_); first | refine ld_b hs ?_ | refine ld_r1 hs ?_ | fail) | ((with_reducible refine isIdx ?_); first | refine idx_s hs fun b_ o_ hs=>?_ | fail) | fail)
   rw [Int.toNat_natCast]
   have hw:IntKind.wrap .i64 ((j:Int) + 1) = ((j + 1:Nat):Int):=by rw [i64_in _ (by omega)]; omega
   have hd:=lFirst_drop (S:=x.s) (i:=1) (j:=j) (by omega)
   with_reducible refine ite_by (fun h1=>?_) (fun h1=>?_)
   ·rw [if_pos (kB_hot.1 h1)] at hd
    rw [hd] at hno
    repeat (first | with_reducible refine nilck_some ?_ | ((with_reducible refine atLd ?_); first | refine ld_b hs ?_ | refine ld_rd0 ha_ hs ?_ | fail) | ((with_reducible refine isIdx ?_); first | refine idx_rd hs fun b_ o_ ha_=>?_ | fail) | fail)
    have e1:lCool0 x = ⟨lOut x.s (x.s.getD j default).1,x.q ++ [(x.s.getD j default).1]⟩:=by unfold lCool0; rw [<- hno]
    have hs:Sat W w (liR b c x::M):=li_shut s q (by exact Sat.fin hs)
    refine call0_of (r13_out hs hz) fun e w ⟨he,hs⟩=>⟨he,?_⟩
    obtain ⟨s,q,hs1,hq1,hs⟩:=li_open hs
    simp only at hq1
    repeat (first | with_reducible refine nilck_some ?_ | ((with_reducible refine atLd ?_); first | refine ld_b hs ?_ | fail) | with_reducible refine newB_at hs fun b_ w hs=>?_ | fail)
    refine app_one (s:=q) (a:=(x.s.getD j default).1) hs rfl rfl rfl rfl (by decide) (by simp only; omega) fun s2 w hs2 hs=>?_
    repeat (first | with_reducible refine nilck_some ?_ | ((with_reducible refine isSt ?_); first | refine st_b hs fun w hs=>?_ | fail) | fail)
    refine jw f164_j2_raw ?_
    have hl:=lOut_len x.s (x.s.getD j default).1
    have hs:Sat W w (liR b c (lCool0 x)::M):=by rw [e1]; exact li_shut s s2 (by exact Sat.fin hs)
    refine call0_of (r13_prune hs (by rw [e1]; simp only; omega)) fun e w ⟨he,hs⟩=>⟨he,?_⟩
    exact ⟨rfl,hs⟩
   ·rw [if_neg (fun h=>h1 (kB_hot.2 h))] at hd
    rw [hw]
    exact ih (j + 1) w (by omega) (by rw [<- hd,hno]) (li_shut s q (by exact Sat.fin hs))
 refine exM_of (x.s.length + 1) ?_
 exact loop x.s.length 0 w (by omega) rfl hs
end
end Go.Proofs.YtmefopmnjncdbaaGreat
namespace Go.Hb
theorem lPrune_idem (S:SL):lPrune (lPrune S) = lPrune S:=by
 induction S with
 | nil=>rfl
 | cons a t ih=>
  by_cases h:a.2 = 1
  ·have e:lPrune (a::t) = a::t:=by unfold lPrune; rw [List.dropWhile_cons,if_neg (by simp [h])]
   rw [e,e]
  ·have e:lPrune (a::t) = lPrune t:=by unfold lPrune; rw [List.dropWhile_cons,if_pos (by simp [h])]
   rw [e,ih]
theorem lPr_fp (c:Int) (x:LirsS):lPr (lFp c x) = lFp c x:=by unfold lPr lFp; simp only; rw [lPrune_idem]
theorem lForgetN_len:∀ (n:Nat) (S:SL),(lForgetN S n).length <= S.length
 | 0,S=>Nat.le_refl _
 | n + 1,S=>by
  rw [lForgetN]
  split
  ·have:=lForgetN_len n (lOut S ‹ByteArray›)
   have h2:(lOut S ‹ByteArray›).length <= S.length:=List.length_filter_le _ _
   omega
  ·exact Nat.le_refl _
section
variable {c:Int} {x:LirsS} {k:ByteArray}
theorem LOk.small (h:LOk c x):x.s.length <= 4096 /\ x.q.length <= 1024:=by
 have h1:=h.len; have h2:=h.ghs; have h3:=h.hots; have h4:=h.c2
 have hq:(x.q.length:Int) <= c:=by unfold lLen at h1; omega
 have hcold:lCnt x.s 2 <= x.q.length:=by
  have:((x.s.filter fun e=>decide (e.2 = 2)).map (·.1)).length <= x.q.length:=by
   refine nodup_sub_len (h.w.sn.sublist (List.filter_sublist.map _)) fun k hk=>?_
   obtain ⟨e,he,rfl⟩:=List.mem_map.1 hk
   obtain ⟨h1,h2⟩:=List.mem_filter.1 he
   exact h.w.coldq e h1 (by simpa using h2)
  rw [List.length_map,<- List.countP_eq_length_filter] at this
  exact this
 have hall:x.s.length <= lCnt x.s 1 + lCnt x.s 2 + lCnt x.s 3:=by
  have:∀ S:SL,(∀ e ∈ S,e.2 = 1 \/ e.2 = 2 \/ e.2 = 3) -> S.length <= lCnt S 1 + lCnt S 2 + lCnt S 3:=by
   intro S
   unfold lCnt
   induction S with
   | nil=>intro _; simp
   | cons a t ih=>
    intro hk
    have h1:=ih fun e he=>hk e (.tail _ he)
    simp only [List.countP_cons,List.length_cons]
    rcases hk a (.head _) with h | h | h <;> simp [h] <;> omega
  exact this x.s h.w.kinds
 have h5:=lMost_pos h.c1
 unfold lLen at h1
 omega
theorem heats_hot (h:LOk c x) (hk:(k,(1:Int)) ∈ x.s):lHeats c x k = ⟨lTop x.s k 1,x.q⟩:=by
 have e0:lHeat0 x k = ⟨lTop x.s k 1,x.q⟩:=by unfold lHeat0; rw [gTake_not (h.w.hotq _ hk rfl)]
 have h2:=(lHeat0_res h.w (k:=k)).2.1
 rw [if_pos hk] at h2
 have h3:=h.hots
 unfold lHeats
 rw [if_neg (by omega),e0]
theorem heats_new (hw:LW x) (hq:k ∉ x.q) (hno:(k,(1:Int)) ∉ x.s) (hlt:(lCnt x.s 1:Int) < lMost c):lHeats c x k = ⟨lTop x.s k 1,x.q⟩:=by
 have e0:lHeat0 x k = ⟨lTop x.s k 1,x.q⟩:=by unfold lHeat0; rw [gTake_not hq]
 have h2:=(lHeat0_res hw (k:=k)).2.1
 rw [if_neg hno] at h2
 unfold lHeats
 rw [if_neg (by omega),e0]
theorem chills_new (hq:k ∉ x.q):lChills x k = ⟨lTop x.s k 2,x.q ++ [k]⟩:=by unfold lChills; rw [gTake_not hq]
theorem lGhost_not {S:SL} (h:k ∉ lKeys S):lGhost S k = S:=by
 unfold lGhost
 conv=>rhs; rw [<- List.map_id S]
 refine List.map_congr_left fun e he=>?_
 rw [if_neg fun hk=>h (List.mem_map.2 ⟨e,he,hk⟩)]; rfl
theorem lGhost_set {S:SL} (hn:(lKeys S).Nodup) {i:Nat} (hi:i < S.length) (hk:(S.getD i default).1 = k):S.set i ((S.getD i default).1,3) = lGhost S k:=by
 induction S generalizing i with
 | nil=>simp at hi
 | cons a t ih=>
  unfold lKeys at hn
  rw [List.map_cons,List.nodup_cons] at hn
  cases i with
  | zero=>
   have hk:a.1 = k:=hk
   have h1:lGhost t k = t:=lGhost_not (by rw [<- hk]; exact hn.1)
   show (a.1,3)::t = _
   have:lGhost (a::t) k = (k,3)::lGhost t k:=by unfold lGhost; rw [List.map_cons,if_pos hk]
   rw [this,h1,hk]
  | succ i=>
   have hi':i < t.length:=by simpa using hi
   have hk':(t.getD i default).1 = k:=hk
   have hne:a.1 ≠ k:=fun ha=>hn.1 (by rw [ha,<- hk']; exact List.mem_map.2 ⟨_,getD_mem hi',rfl⟩)
   have:lGhost (a::t) k = a::lGhost t k:=by unfold lGhost; rw [List.map_cons,if_neg hne]
   rw [this,<- ih hn.2 hi' hk']; rfl
end
instance {e:ByteArray × Int}:SetR lcR e 1 (.int .u8 103) (e.1,3):=⟨rfl,by decide⟩
end Go.Hb
namespace Go.Proofs.YtmefopmnjncdbaaGreat
open Go.Hb Go.IntWalk
section
variable {W w:World} {L M:List HP} {F:HP -> List HP} {b:Nat} {c:Int} {x y:LirsS} {key:ByteArray} {s q:Sl}
theorem r13_forget (h:Sat W w L) [hA:At L b (liR b c x) F] (hc:0 <= c) (hn:(lKeys x.s).Nodup) (hz:x.s.length < 1000000):Calls Tryz.prog 167 #[.pointer (some ⟨b,0,none⟩)] w fun e w'=>e = .returned (.tuple #[]) /\ Sat W w' (F (liR b c (lFp c x))):=by
 refine At.call1 (hA:=hA) h fun M hs=>?_
 clear h hA
 refine c1 (cw f167_ok f167_raw ?_)
 have inner:∀ (S:SL) (m1:Nat) (k:ByteArray),S.length < 1000000 -> lFirst S 3 = some k -> (∀ w,Sat W w (liR b c ⟨lOut S k,x.q⟩::M) -> f167_l1 idJ (fun v w'=>v = .tuple #[] /\ Sat W w' (liR b c (lFp c x)::M)) m1 (some ⟨b,0,none⟩) w) ->
   ∀ (f j:Nat) (w:World),j + f = S.length -> lFirst (S.drop j) 3 = lFirst S 3 -> Sat W w (liR b c ⟨S,x.q⟩::M) ->
   f167_l2 idJ (fun v w'=>v = .tuple #[] /\ Sat W w' (liR b c (lFp c x)::M)) m1 (f + 1) (some ⟨b,0,none⟩) (j:Int) w:=by
  clear hs
  intro S m1 k hz hk hnext f
  induction f with
  | zero=>
   intro j w hif hno hs
   rw [List.drop_eq_nil_of_le (by omega),hk] at hno
   cases hno
  | succ f ih=>
   intro j w hif hno hs
   rw [f167_l2_raw]
   obtain ⟨s,q,hs1,hq1,hs⟩:=li_open hs
   simp only at hs1
   repeat (first | with_reducible refine nilck_some ?_ | ((with_reducible refine atLd ?_); first | refine ld_b hs ?_ | fail) | fail)
   refine ite_true (decide_eq_true (by omega)) ?_
   repeat (first | with_reducible refine nilck_some ?_ | ((with_reducible refine atLd ?_); first | refine ld_b hs ?_ | refine ld_r1 hs ?_ | fail) | ((with_reducible refine isIdx ?_); first | refine idx_s hs fun b_ o_ hs=>?_ | fail) | fail)
   rw [Int.toNat_natCast]
   have hw:IntKind.wrap .i64 ((j:Int) + 1) = ((j + 1:Nat):Int):=by rw [i64_in _ (by omega)]; omega
   have hd:=lFirst_drop (S:=S) (i:=3) (j:=j) (by omega)
   with_reducible refine ite_by (fun h1=>?_) (fun h1=>?_)
   ·rw [if_pos (kB_gh.1 h1),hno,hk] at hd
    have hkk:k = (S.getD j default).1:=Option.some.inj hd
    repeat (first | with_reducible refine nilck_some ?_ | ((with_reducible refine atLd ?_); first | refine ld_b hs ?_ | refine ld_rd0 ha_ hs ?_ | fail) | ((with_reducible refine isIdx ?_); first | refine idx_rd hs fun b_ o_ ha_=>?_ | fail) | fail)
    have hs:Sat W w (liR b c ⟨S,x.q⟩::M):=li_shut s q (by exact Sat.fin hs)
    refine call0_of (r13_out hs hz) fun e w ⟨he,hs⟩=>⟨he,?_⟩
    refine hnext w ?_
    rw [hkk]; exact hs
   ·rw [if_neg (fun h=>h1 (kB_gh.2 h))] at hd
    rw [hw]
    exact ih (j + 1) w (by omega) (by rw [<- hd,hno]) (li_shut s q (by exact Sat.fin hs))
 have loop:∀ (f:Nat) (S:SL) (w:World),((lCnt S 3:Int) - c).toNat = f -> (lKeys S).Nodup -> S.length < 1000000 -> lForgetN S f = lForget c x.s -> Sat W w (liR b c ⟨S,x.q⟩::M) ->
   f167_l1 idJ (fun v w'=>v = .tuple #[] /\ Sat W w' (liR b c (lFp c x)::M)) (f + 1) (some ⟨b,0,none⟩) w:=by
  clear hs
  intro f
  induction f with
  | zero=>
   intro S w hf hn hz hfe hs
   rw [f167_l1_raw]
   refine drawW_only [liR b c ⟨S,x.q⟩] hs fun w hs=>?_
   refine nilck_some ?_
   refine ldS_by (k:=.int .i64) c (fun w' h=>by rw [Nat.zero_add]; exact li_cap h) ?_
   refine call1_of (r13_count hs (fun _=>kB_gh) hz) fun e w ⟨he,hs⟩=>⟨_,he,?_⟩
   refine keep_imp hs ?_
   refine ite_false (decide_eq_false (by simp only; omega)) ?_
   refine jw f167_j3_raw ?_
   refine call0_of (r13_prune hs hz) fun e w ⟨he,hs⟩=>⟨he,?_⟩
   have e1:lFp c x = lPr ⟨S,x.q⟩:=by unfold lFp lPr; rw [<- hfe]; rfl
   rw [e1]
   exact ⟨rfl,hs⟩
  | succ f ih=>
   intro S w hf hn hz hfe hs
   rw [f167_l1_raw]
   refine drawW_only [liR b c ⟨S,x.q⟩] hs fun w hs=>?_
   refine nilck_some ?_
   refine ldS_by (k:=.int .i64) c (fun w' h=>by rw [Nat.zero_add]; exact li_cap h) ?_
   refine call1_of (r13_count hs (fun _=>kB_gh) hz) fun e w ⟨he,hs⟩=>⟨_,he,?_⟩
   refine keep_imp hs ?_
   refine ite_true (decide_eq_true (by simp only; omega)) ?_
   refine exM_of (S.length + 1) ?_
   cases hk:lFirst S 3 with
   | none=>have:=lFirst_none.1 hk; omega
   | some k=>
    have hm:=lFirst_mem hk
    have h3:=lCnt_out (k:=k) hn 3
    rw [if_pos hm] at h3
    have hln:=lOut_len S k
    refine inner S (f + 1) k hz hk (fun w hs=>ih (lOut S k) w (by omega) (lOut_nodup hn) (by omega) ?_ hs) S.length 0 w (by omega) rfl hs
    rw [<- hfe,lForgetN,hk]
 refine exM_of (((lCnt x.s 3:Int) - c).toNat + 1) ?_
 exact loop _ x.s w rfl hn hz rfl hs
theorem r13_warm (h:Sat W w L) [hA:At L b (liR b c x) F] (h1:1 <= c) (h2:c <= 1024) (hz:x.s.length < 900000) (hzq:x.q.length < 900000):Calls Tryz.prog 181 #[.pointer (some ⟨b,0,none⟩),.string key] w fun e w'=>e = .returned (.tuple #[]) /\ Sat W w' (F (liR b c (lHeats c x key))):=by
 refine At.call1 (hA:=hA) h fun M hs=>?_
 clear h hA
 refine c1 (cw f181_ok f181_raw ?_)
 refine call0_of (r13_leave hs (by omega)) fun e w ⟨he,hs⟩=>⟨he,?_⟩
 refine call0_of (r13_top (i:=1) hs rfl (by simp only; omega)) fun e w ⟨he,hs⟩=>⟨he,?_⟩
 have hs:Sat W w (liR b c (lHeat0 x key)::M):=hs
 have hl:=lTop_len x.s key 1
 have hl2:=gTake_len x.q key
 have hz1:(lHeat0 x key).s.length < 1000000:=by unfold lHeat0; simp only; omega
 have hz2:(lHeat0 x key).q.length < 1000000:=by unfold lHeat0; simp only; omega
 refine call1_of (r13_count hs (fun _=>kB_hot) hz1) fun e w ⟨he,hs⟩=>⟨_,he,?_⟩
 refine call1_of (r13_most hs h1 h2) fun e w ⟨he,hs⟩=>⟨_,he,?_⟩
 unfold lHeats
 with_reducible refine ite_by (fun h3=>?_) (fun h3=>?_)
 ·rw [if_pos (by omega)]
  refine call0_of (r13_cools hs hz1 hz2) fun e w ⟨he,hs⟩=>⟨he,?_⟩
  exact ⟨rfl,hs⟩
 ·rw [if_neg (by omega)]
  exact ⟨rfl,hs⟩
theorem r13_Evict_j1 {q1:ByteArray} {t:List ByteArray} (hx:LW x) (hq:x.q = q1::t) (hc:0 <= c) (hz:x.s.length < 900000) (hzq:x.q.length < 900000) (hs:Sat W w (liR b c x::M)) :
  f120_j1 idJ (fun v w'=>v = .tuple #[.string q1,.bool true] /\ Sat W w' (liR b c (lFp c ⟨lGhost x.s q1,t⟩)::M)) (some ⟨b,0,none⟩) w:=by
 refine jw f120_j1_raw ?_
 obtain ⟨s,q,hs1,hq1,hs⟩:=li_open hs
 have hql:0 < x.q.length:=by rw [hq]; simp
 repeat (first | with_reducible refine nilck_some ?_ | ((with_reducible refine atLd ?_); first | refine ld_b hs ?_ | refine ld_r0 hs ?_ | fail) | ((with_reducible refine isIdx ?_); first | refine idx_s hs fun b_ o_ hs=>?_ | fail) | fail)
 have hg:x.q.getD (Int.toNat 0) default = q1:=by rw [hq]; rfl
 rw [hg]
 have hs:Sat W w (liR b c x::M):=li_shut s q (by exact Sat.fin hs)
 refine call0_of (r13_leave hs (by omega)) fun e w ⟨he,hs⟩=>⟨he,?_⟩
 have ht:gTake x.q q1 = t:=by rw [hq]; exact gTake_head (by rw [<- hq]; exact hx.qn)
 rw [ht] at hs
 have hlg:(lGhost x.s q1).length = x.s.length:=by unfold lGhost; simp
 have hng:(lKeys (lGhost x.s q1)).Nodup:=by rw [lKeys_ghost]; exact hx.sn
 refine (r13_at hs (by simp only; omega)).mono fun e w ⟨v,⟨he,hv⟩,hs⟩=>⟨v,he,?_⟩
 rcases hv with ⟨rfl,hno⟩ | ⟨i,rfl,hi,hk⟩
 ·refine ite_false rfl ?_
  rw [lGhost_not hno] at hng ⊢
  refine call0_of (r13_forget hs hc hng (by simp only; omega)) fun e w ⟨he,hs⟩=>⟨he,?_⟩
  exact ⟨rfl,hs⟩
 ·refine ite_true (decide_eq_true (by omega)) ?_
  obtain ⟨s,q,hs1,hq1,hs⟩:=li_open hs
  simp only at hs1 hi hk hq1
  rw [Int.toNat_natCast]
  repeat (first | with_reducible refine nilck_some ?_ | ((with_reducible refine atLd ?_); first | refine ld_b hs ?_ | fail) | ((with_reducible refine isSt ?_); first | refine st_r1 hs fun w hs=>?_ | fail) | ((with_reducible refine isIdx ?_); first | refine idx_s hs fun b_ o_ hs=>?_ | fail) | fail)
  have hset:=lGhost_set hx.sn hi hk
  simp only at hs
  rw [hset] at hs
  have hs:Sat W w (liR b c ⟨lGhost x.s q1,t⟩::M):=li_shut s q (by exact Sat.fin hs)
  refine call0_of (r13_forget hs hc hng (by simp only; omega)) fun e w ⟨he,hs⟩=>⟨he,?_⟩
  exact ⟨rfl,hs⟩
theorem r13_Evict (h:Sat W w L) [hA:At L b (liR b c x) F] (hx:LOk c x):Calls Tryz.prog 120 #[.pointer (some ⟨b,0,none⟩)] w fun e w'=>e = .returned (.tuple #[.string (lEvict c x).1.1,.bool (lEvict c x).1.2]) /\ Sat W w' (F (liR b c (lEvict c x).2)):=by
 refine At.call1 (hA:=hA) h fun M hs=>?_
 clear h hA
 refine c1 (cw f120_ok f120_raw ?_)
 have hsm:=hx.small
 have hc1:=hx.c1
 have hw:=hx.w
 refine call1_of (r13_Len hs (by omega) (by omega)) fun e w ⟨he,hs⟩=>⟨_,he,?_⟩
 with_reducible refine ite_by (fun h0=>?_) (fun h0=>?_)
 ·have e1:lEvict c x = ((⟨#[]⟩,false),x):=by unfold lEvict; rw [if_pos (by omega)]
  rw [e1]
  exact ⟨rfl,hs⟩
 ·have e1:lEvict c x = (((lEv0 x).q.headD ⟨#[]⟩,true),lFp c ⟨lGhost (lEv0 x).s ((lEv0 x).q.headD ⟨#[]⟩),(lEv0 x).q.drop 1⟩):=by unfold lEvict; rw [if_neg (by omega)]
  obtain ⟨s,q,hs1,hq1,hs⟩:=li_open hs
  repeat (first | with_reducible refine nilck_some ?_ | ((with_reducible refine atLd ?_); first | refine ld_b hs ?_ | fail) | fail)
  rw [e1]
  with_reducible refine ite_by (fun hq0=>?_) (fun hq0=>?_)
  ·have hqn:x.q = []:=List.length_eq_zero_iff.1 (by omega)
   have hp:0 < lCnt x.s 1:=by unfold lLen at h0; rw [hqn] at h0; simp at h0; omega
   have hs:Sat W w (liR b c x::M):=li_shut s q (by exact Sat.fin hs)
   refine call0_of (r13_cools hs (by omega) (by omega)) fun e w ⟨he,hs⟩=>⟨he,?_⟩
   have e2:lEv0 x = lCools x:=if_pos hqn
   obtain ⟨k,hk,e3,hw2,_⟩:=lCools_ok hw hp
   have e4:(lCools x).q = k::[]:=by unfold lCools; rw [e3,hqn]; rfl
   have hl1:(lCools x).s.length <= x.s.length:=by unfold lCools; rw [e3]; exact Nat.le_trans (lPrune_len _) (lOut_len _ _)
   have:=r13_Evict_j1 hw2 e4 (by omega) (by omega) (by rw [e4]; simp) hs
   rw [e2,e4]
   exact this
  ·have hqn:x.q ≠ []:=fun h=>hq0 (by rw [hq1.1,h]; rfl)
   obtain ⟨k,t,hk⟩:∃ k t,x.q = k::t:=by
    cases hh:x.q with
    | nil=>exact absurd hh hqn
    | cons k t=>exact ⟨k,t,rfl⟩
   have e2:lEv0 x = x:=if_neg hqn
   have hs:Sat W w (liR b c x::M):=li_shut s q (by exact Sat.fin hs)
   have:=r13_Evict_j1 (W:=W) (M:=M) (b:=b) hw hk (by omega) (by omega) (by omega) hs
   rw [e2,hk]
   exact this
theorem r13_Access_j3 {was:Bool} {l:Sl} {Q:Value -> WP} (hc:0 <= c) (hn:(lKeys x.s).Nodup) (hz:x.s.length < 1000000) (hQ:∀ w,Sat W w (liR b c (if was then lPr x else lFp c x)::M) -> Q (.tuple #[.bool was,.slice l.a l.n l.c]) w) (hs:Sat W w (liR b c x::M)) :
  f125_j3 idJ Q (some ⟨b,0,none⟩) was l w:=by
 refine jw f125_j3_raw ?_
 cases was with
 | true=>
  refine ite_false rfl ?_
  refine call0_of (r13_prune hs hz) fun e w ⟨he,hs⟩=>⟨he,?_⟩
  exact hQ w hs
 | false=>
  refine ite_true rfl ?_
  refine call0_of (r13_forget hs hc hn hz) fun e w ⟨he,hs⟩=>⟨he,?_⟩
  have hl:(lFp c x).s.length < 1000000:=by
   have h1:=lPrune_len (lForget c x.s)
   have h2:=lForgetN_len ((lCnt x.s 3:Int) - c).toNat x.s
   unfold lFp lForget at *
   simp only
   omega
  refine call0_of (r13_prune hs hl) fun e w ⟨he,hs⟩=>⟨he,?_⟩
  rw [lPr_fp] at hs
  exact hQ w hs
theorem lIsB_hot {x:LirsS} {k:ByteArray} (hw:LW x):lIsB x.s k = 104 ↔ (k,(1:Int)) ∈ x.s:=by
 unfold lIsB
 constructor
 ·intro h
  split at h
  ·exact (lIs_iff hw.sn (by decide)).1 (kB_hot.1 h)
  ·omega
 ·intro h
  rw [if_pos (show k ∈ lKeys x.s from List.mem_map.2 ⟨_,h,rfl⟩),(lIs_iff hw.sn (by decide)).2 h]; rfl
theorem lIsB_gh {x:LirsS} {k:ByteArray} (hw:LW x):lIsB x.s k = 103 ↔ lIs x.s k = 3:=by
 rw [lIs_iff hw.sn (by decide)]
 unfold lIsB
 constructor
 ·intro h
  split at h
  ·exact (lIs_iff hw.sn (by decide)).1 (kB_gh.1 h)
  ·omega
 ·intro h
  rw [if_pos (show k ∈ lKeys x.s from List.mem_map.2 ⟨_,h,rfl⟩),(lIs_iff hw.sn (by decide)).2 h]; rfl
theorem lIsB_cold {x:LirsS} {k:ByteArray} (hw:LW x):lIsB x.s k = 99 ↔ lIs x.s k = 2:=by
 rw [lIs_iff hw.sn (by decide)]
 unfold lIsB
 constructor
 ·intro h
  split at h
  ·rename_i hk
   obtain ⟨e,he,rfl⟩:=List.mem_map.1 hk
   have h1:lIs x.s e.1 = e.2:=(lIs_iff hw.sn (by rcases hw.kinds e he with h | h | h <;> omega)).2 he
   rw [h1] at h
   rcases hw.kinds e he with h2 | h2 | h2
   ·rw [h2] at h; exact absurd h (by decide)
   ·rw [<- h2]; exact he
   ·rw [h2] at h; exact absurd h (by decide)
  ·omega
 ·intro h
  rw [if_pos (show k ∈ lKeys x.s from List.mem_map.2 ⟨_,h,rfl⟩),(lIs_iff hw.sn (by decide)).2 h]; rfl
theorem r13_Access (h:Sat W w L) [hA:At L b (liR b c x) F] (hx:LOk c x) (hkz:key.size < 64):Calls Tryz.prog 125 #[.pointer (some ⟨b,0,none⟩),.string key] w fun e w'=>∃ l:Sl,e = .returned (.tuple #[.bool (lAcc c x key).1.1,.slice l.a l.n l.c]) /\ Sat W w' (recs Rec.str l (lAcc c x key).1.2::F (liR b c (lAcc c x key).2)):=by
 refine At.oneX (hA:=hA) h fun M hs hb2=>?_
 refine (cw f125_ok f125_raw (Q:=fun v w'=>∃ l:Sl,v = .tuple #[.bool (lAcc c x key).1.1,.slice l.a l.n l.c] /\ Sat W w' (liR b c (lAcc c x key).2::recs Rec.str l (lAcc c x key).1.2::M)) ?_).mono fun e w' ⟨v,he,l,hv,hs⟩=>⟨l,by rw [he,hv],hb2 _ _ [recs Rec.str l (lAcc c x key).1.2] hs⟩
 clear hb2 hA h
 have hsm:=hx.small
 have hc1:=hx.c1
 have hc2:=hx.c2
 have hw:=hx.w
 refine call1_of (r13_Has hs hw (by omega) (by omega)) fun e w ⟨he,hs⟩=>⟨_,he,?_⟩
 refine drawW_only [liR b c x] hs fun w hs=>?_
 by_cases hk:key ∈ lRes x
 ·rw [decide_eq_true hk]
  refine ite_false rfl ?_
  refine keep_imp hs ?_
  refine jw f125_j1_raw ?_
  refine ite_false rfl ?_
  refine jw f125_j2_raw ?_
  have hs:=(Sat.nilR Rec.str hs).perm (List.Perm.swap _ _ _)
  refine call1_of (r13_is hs hw (by omega)) fun e w ⟨he,hs⟩=>⟨_,he,?_⟩
  with_reducible refine ite_by (fun h1=>?_) (fun h1=>?_)
  ·have hm:=(lIsB_hot hw).1 h1
   have h1':lIs x.s key = 1:=(lIs_iff hw.sn (by decide)).2 hm
   have e1:lAcc c x key = ((true,[]),lPr (lHeats c x key)):=if_pos (.inl h1')
   have e2:=heats_hot hx hm
   refine call0_of (r13_top (i:=1) hs rfl (by omega)) fun e w ⟨he,hs⟩=>⟨he,?_⟩
   have hl:=lTop_len x.s key 1
   with_reducible refine r13_Access_j3 (x:=⟨lTop x.s key 1,x.q⟩) (c:=c) (b:=b) (was:=true) (l:=⟨none,0,0⟩) (W:=W) (M:=recs Rec.str ⟨none,0,0⟩ []::M) (by omega) (lTop_nodup hw.sn) (by simp only; omega) (fun w hs=>?_) ?_
   rotate_left
   ·exact hs
   rw [e1,e2]
   exact ⟨_,rfl,hs⟩
  ·refine ite_true rfl ?_
   have hno:(key,(1:Int)) ∉ x.s:=fun h=>h1 ((lIsB_hot hw).2 h)
   have hq:key ∈ x.q:=(mem_lRes.1 hk).elim id fun h=>absurd h hno
   refine call1_of (r13_is hs hw (by omega)) fun e w ⟨he,hs⟩=>⟨_,he,?_⟩
   refine jw f125_j4_raw ?_
   with_reducible refine ite_by (fun h2=>?_) (fun h2=>?_)
   ·have h2':=(lIsB_cold hw).1 h2
    have e1:lAcc c x key = ((true,[]),lPr (lHeats c x key)):=if_pos (.inr ⟨hq,h2'⟩)
    refine call0_of (r13_warm hs hc1 hc2 (by omega) (by omega)) fun e w ⟨he,hs⟩=>⟨he,?_⟩
    have hok:=lHeats_ok hw hkz (c:=c) (lMost_pos hc1).1 hx.hots
    have hl:(lHeats c x key).s.length <= x.s.length + 1:=by
     have hl:=lTop_len x.s key 1
     have h5:(lCools (lHeat0 x key)).s.length <= (lHeat0 x key).s.length:=by
      unfold lCools lCool0
      split
      ·exact Nat.le_trans (lPrune_len _) (lOut_len _ _)
      ·exact lPrune_len _
     unfold lHeats
     split
     ·exact Nat.le_trans h5 hl
     ·exact hl
    with_reducible refine r13_Access_j3 (x:=lHeats c x key) (c:=c) (b:=b) (was:=true) (l:=⟨none,0,0⟩) (W:=W) (M:=recs Rec.str ⟨none,0,0⟩ []::M) (by omega) hok.1.sn (by omega) (fun w hs=>?_) ?_
    rotate_left
    ·exact hs
    rw [e1]
    exact ⟨_,rfl,hs⟩
   ·have h2':¬ lIs x.s key = 2:=fun h=>h2 ((lIsB_cold hw).2 h)
    have e1:lAcc c x key = ((true,[]),lPr (lChills x key)):=by
     unfold lAcc
     rw [if_neg (fun h=>h.elim (fun h=>hno ((lIs_iff hw.sn (by decide)).1 h)) fun h=>h2' h.2),if_pos hq]
    refine ite_true rfl ?_
    refine call0_of (r13_leave hs (by omega)) fun e w ⟨he,hs⟩=>⟨he,?_⟩
    have hgl:=gTake_len x.q key
    obtain ⟨s,q,hs1,hq1,hs⟩:=li_open hs
    simp only at hq1
    repeat (first | with_reducible refine nilck_some ?_ | ((with_reducible refine atLd ?_); first | refine ld_b hs ?_ | fail) | with_reducible refine newB_at hs fun b_ w hs=>?_ | fail)
    refine app_one (s:=q) (a:=key) hs rfl rfl rfl rfl (by decide) (by simp only; omega) fun s2 w hs2 hs=>?_
    repeat (first | with_reducible refine nilck_some ?_ | ((with_reducible refine isSt ?_); first | refine st_b hs fun w hs=>?_ | fail) | fail)
    have hs:Sat W w (liR b c ⟨x.s,gTake x.q key ++ [key]⟩::recs Rec.str ⟨none,0,0⟩ []::M):=li_shut s s2 (by exact Sat.fin hs)
    refine call0_of (r13_top (i:=2) hs rfl (by simp only; omega)) fun e w ⟨he,hs⟩=>⟨he,?_⟩
    have hl:=lTop_len x.s key 2
    with_reducible refine r13_Access_j3 (x:=⟨lTop x.s key 2,gTake x.q key ++ [key]⟩) (c:=c) (b:=b) (was:=true) (l:=⟨none,0,0⟩) (W:=W) (M:=recs Rec.str ⟨none,0,0⟩ []::M) (by omega) (lTop_nodup hw.sn) (by simp only; omega) (fun w hs=>?_) ?_
    rotate_left
    ·exact hs
    rw [e1]
    exact ⟨_,rfl,hs⟩
 ·rw [decide_eq_false hk]
  refine ite_true rfl ?_
  have hno:(key,(1:Int)) ∉ x.s:=fun h=>hk (mem_lRes.2 (.inr h))
  have hq:key ∉ x.q:=fun h=>hk (mem_lRes.2 (.inl h))
  have e1:lAcc c x key = ((false,(lRoom c x).1),lFp c (lNew c (lRoom c x).2 key)):=by
   unfold lAcc
   rw [if_neg (fun h=>h.elim (fun h=>hno ((lIs_iff hw.sn (by decide)).1 h)) fun h=>hq h.1),if_neg hq]
  rw [e1]
  refine nilck_some ?_
  refine ldS_by (k:=.int .i64) c (fun w' h=>by rw [Nat.zero_add]; exact li_cap h) ?_
  refine call1_of (r13_Len hs (by omega) (by omega)) fun e w ⟨he,hs⟩=>⟨_,he,?_⟩
  refine keep_imp hs ?_
  have hj2:∀ (g:List ByteArray) (y:LirsS) (l:Sl) (w:World),LOk c y -> key ∉ lRes y -> Sat W w (liR b c y::recs Rec.str l g::M) ->
    f125_j2 idJ (fun v w'=>∃ l:Sl,v = .tuple #[.bool false,.slice l.a l.n l.c] /\ Sat W w' (liR b c (lFp c (lNew c y key))::recs Rec.str l g::M)) (some ⟨b,0,none⟩) key false l w:=by
   clear hs
   intro g y l w hy hky hs
   have hsm:=hy.small
   have hw:=hy.w
   have hno:(key,(1:Int)) ∉ y.s:=fun h=>hky (mem_lRes.2 (.inr h))
   have hq:key ∉ y.q:=fun h=>hky (mem_lRes.2 (.inl h))
   refine jw f125_j2_raw ?_
   refine call1_of (r13_is hs hw (by omega)) fun e w ⟨he,hs⟩=>⟨_,he,?_⟩
   with_reducible refine ite_by (fun h1=>?_) (fun h1=>?_)
   ·exact absurd ((lIsB_hot hw).1 h1) hno
   ·with_reducible refine ite_false rfl ?_
    refine jw f125_j4_raw ?_
    with_reducible refine ite_false rfl ?_
    with_reducible refine ite_false rfl ?_
    refine call1_of (r13_count hs (fun _=>kB_hot) (by omega)) fun e w ⟨he,hs⟩=>⟨_,he,?_⟩
    refine call1_of (r13_most hs hc1 hc2) fun e w ⟨he,hs⟩=>⟨_,he,?_⟩
    have hl1:=lTop_len y.s key 1
    have hl2:=lTop_len y.s key 2
    with_reducible refine ite_by (fun h2=>?_) (fun h2=>?_)
    ·have e2:lNew c y key = ⟨lTop y.s key 1,y.q⟩:=by unfold lNew; rw [if_pos (.inl h2),heats_new hw hq hno h2]
     rw [e2]
     refine call0_of (r13_top (i:=1) hs rfl (by omega)) fun e w ⟨he,hs⟩=>⟨he,?_⟩
     with_reducible refine r13_Access_j3 (x:=⟨lTop y.s key 1,y.q⟩) (c:=c) (b:=b) (was:=false) (l:=l) (W:=W) (M:=recs Rec.str l g::M) (by omega) (lTop_nodup hw.sn) (by simp only; omega) (fun w hs=>?_) ?_
     ·exact ⟨_,rfl,hs⟩
     ·exact hs
    ·refine call1_of (r13_is hs hw (by omega)) fun e w ⟨he,hs⟩=>⟨_,he,?_⟩
     with_reducible refine ite_by (fun h3=>?_) (fun h3=>?_)
     ·have e2:lNew c y key = lHeats c y key:=if_pos (.inr ((lIsB_gh hw).1 h3))
      rw [e2]
      refine call0_of (r13_warm hs hc1 hc2 (by omega) (by omega)) fun e w ⟨he,hs⟩=>⟨he,?_⟩
      have hok:=lHeats_ok hw hkz (c:=c) (lMost_pos hc1).1 hy.hots
      have hl:(lHeats c y key).s.length <= y.s.length + 1:=by
       have h5:(lCools (lHeat0 y key)).s.length <= (lHeat0 y key).s.length:=by
        unfold lCools lCool0
        split
        ·exact Nat.le_trans (lPrune_len _) (lOut_len _ _)
        ·exact lPrune_len _
       unfold lHeats
       split
       ·exact Nat.le_trans h5 hl1
       ·exact hl1
      with_reducible refine r13_Access_j3 (x:=lHeats c y key) (c:=c) (b:=b) (was:=false) (l:=l) (W:=W) (M:=recs Rec.str l g::M) (by omega) hok.1.sn (by omega) (fun w hs=>?_) ?_
      ·exact ⟨_,rfl,hs⟩
      ·exact hs
     ·have e2:lNew c y key = lChills y key:=if_neg (fun h=>h.elim h2 fun h=>h3 ((lIsB_gh hw).2 h))
      rw [e2,chills_new hq]
      refine call0_of (r13_top (i:=2) hs rfl (by omega)) fun e w ⟨he,hs⟩=>⟨he,?_⟩
      obtain ⟨s,q,hs1,hq1,hs⟩:=li_open hs
      simp only at hq1
      repeat (first | with_reducible refine nilck_some ?_ | ((with_reducible refine atLd ?_); first | refine ld_b hs ?_ | fail) | with_reducible refine newB_at hs fun b_ w hs=>?_ | fail)
      refine app_one (s:=q) (a:=key) hs rfl rfl rfl rfl (by decide) (by simp only; omega) fun s2 w hs2 hs=>?_
      repeat (first | with_reducible refine nilck_some ?_ | ((with_reducible refine isSt ?_); first | refine st_b hs fun w hs=>?_ | fail) | fail)
      have hs:Sat W w (liR b c ⟨lTop y.s key 2,y.q ++ [key]⟩::recs Rec.str l g::M):=li_shut s s2 (by exact Sat.fin hs)
      with_reducible refine r13_Access_j3 (x:=⟨lTop y.s key 2,y.q ++ [key]⟩) (c:=c) (b:=b) (was:=false) (l:=l) (W:=W) (M:=recs Rec.str l g::M) (by omega) (lTop_nodup hw.sn) (by simp only; omega) (fun w hs=>?_) ?_
      ·exact ⟨_,rfl,hs⟩
      ·exact hs
  refine jw f125_j1_raw ?_
  with_reducible refine ite_by (fun h3=>?_) (fun h3=>?_)
  ·have e2:lRoom c x = ([(lEvict c x).1.1],(lEvict c x).2):=if_pos (by omega)
   obtain ⟨_,hev⟩:=lEvict_ok hx (by omega)
   rw [e2]
   refine call2_of (r13_Evict hs hx) fun e w ⟨he,hs⟩=>⟨_,_,he,?_⟩
   repeat (first | with_reducible refine newB_at hs fun b_ w hs=>?_ | fail)
   have hs:=Sat.nilR Rec.str hs
   refine app_one (s:=⟨none,0,0⟩) (a:=(lEvict c x).1.1) hs rfl rfl rfl rfl (by decide) (by simp) fun s4 w hs4 hs=>?_
   have hky:key ∉ lRes (lEvict c x).2:=fun h=>hk ((hev.mem _).1 h).1
   with_reducible refine hj2 [(lEvict c x).1.1] (lEvict c x).2 s4 w hev.ok hky ?_
   exact Sat.fin hs
  ·have e2:lRoom c x = ([],x):=if_neg (by omega)
   rw [e2]
   with_reducible refine hj2 [] x ⟨none,0,0⟩ w hx hk ?_
   exact (Sat.nilR Rec.str hs).perm (List.Perm.swap _ _ _)
end
end Go.Proofs.YtmefopmnjncdbaaGreat
