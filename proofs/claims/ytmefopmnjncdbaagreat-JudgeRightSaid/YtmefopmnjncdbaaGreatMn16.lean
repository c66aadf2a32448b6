import Derived.IntWalk
import Derived.Test.YtmefopmnjncdbaaGreatMn15
set_option linter.unusedVariables false
set_option linter.unusedSimpArgs false
set_option linter.unnecessarySimpa false
set_option linter.unusedSectionVars false
set_option maxRecDepth 100000
namespace Go.Hb
def ints (l:List Int):List Value:=l.map (Value.int .i64)
theorem ints_get {l:List Int} {i:Nat} (h:i < l.length):(ints l)[i]? = some ((CK.int .i64).val (l.getD i 0)):=by
 unfold ints
 rw [List.getElem?_map,List.getElem?_eq_getElem h,List.getD_eq_getElem?_getD,List.getElem?_eq_getElem h]; rfl
theorem ints_set {l:List Int} {i:Nat} {x:Int}:(ints l).set i (.int .i64 x) = ints (l.set i x):=by unfold ints; rw [List.map_set]
theorem zrow_ints:∀ n,zrow [.int .i64 (0:Int)] n = (Rec.int .i64).flat (List.replicate n 0)
 | 0=>rfl
 | n + 1=>by
  rw [List.replicate_succ]
  show _ = Value.int .i64 0::(Rec.int .i64).flat (List.replicate n 0)
  rw [<- zrow_ints n]; rfl
theorem zrow_bools:∀ n,zrow [.bool false] n = Rec.bool.flat (List.replicate n false)
 | 0=>rfl
 | n + 1=>by
  rw [List.replicate_succ]
  show _ = Value.bool false::Rec.bool.flat (List.replicate n false)
  rw [<- zrow_bools n]; rfl
def skR (b:Nat):HP:=exH fun (z:Sl × List Int × Int × Int)=>andH ((z.2.1.length:Int) = 4 * z.2.2.1 /\ 1 <= z.2.2.1 /\ z.2.2.1 <= 4096) (allH [blk b [.slice z.1.a z.1.n z.1.c,.int .i64 z.2.2.1,.int .i64 z.2.2.2],recs (Rec.int .i64) z.1 z.2.1])
def doR (b:Nat):HP:=exH fun (z:Sl × List Bool)=>andH (1 <= z.2.length /\ z.2.length <= 100000) (allH [blk b [.slice z.1.a z.1.n z.1.c],recs Rec.bool z.1 z.2])
section
variable {W w:World} {M L:List HP} {b:Nat}
theorem sk_open (h:Sat W w (skR b::M)):∃ (s:Sl) (l:List Int) (n m:Int),((l.length:Int) = 4 * n /\ 1 <= n /\ n <= 4096) /\ (s.n = l.length /\ s.n <= s.c) /\ Sat W w (blk b [.slice s.a s.n s.c,.int .i64 n,.int .i64 m]::recs (Rec.int .i64) s l::M):=by
 obtain ⟨⟨s,l,n,m⟩,h⟩:=h.openE
 obtain ⟨hp,h⟩:=h.openA
 have h:=h.openL
 have h:Sat W w (blk b [.slice s.a s.n s.c,.int .i64 n,.int .i64 m]::recs (Rec.int .i64) s l::M):=h
 exact ⟨s,l,n,m,hp,recs_len (s:=s) h,h⟩
theorem sk_shut {s:Sl} {l:List Int} {n m:Int} (hp:(l.length:Int) = 4 * n /\ 1 <= n /\ n <= 4096) (h:Sat W w (blk b [.slice s.a s.n s.c,.int .i64 n,.int .i64 m]::recs (Rec.int .i64) s l::M)):Sat W w (skR b::M):=
 Sat.shutE (s,l,n,m) (Sat.shutA hp (Sat.shutL (Ps:=[_,_]) h))
theorem do_open (h:Sat W w (doR b::M)):∃ (s:Sl) (l:List Bool),(1 <= l.length /\ l.length <= 100000) /\ (s.n = l.length /\ s.n <= s.c) /\ Sat W w (blk b [.slice s.a s.n s.c]::recs Rec.bool s l::M):=by
 obtain ⟨⟨s,l⟩,h⟩:=h.openE
 obtain ⟨hp,h⟩:=h.openA
 have h:=h.openL
 have h:Sat W w (blk b [.slice s.a s.n s.c]::recs Rec.bool s l::M):=h
 exact ⟨s,l,hp,recs_len (s:=s) h,h⟩
theorem do_shut {s:Sl} {l:List Bool} (hp:1 <= l.length /\ l.length <= 100000) (h:Sat W w (blk b [.slice s.a s.n s.c]::recs Rec.bool s l::M)):Sat W w (doR b::M):=
 Sat.shutE (s,l) (Sat.shutA hp (Sat.shutL (Ps:=[_,_]) h))
end
end Go.Hb
namespace Go.Proofs.YtmefopmnjncdbaaGreat
open Go.Hb Go.IntWalk
section
variable {W w:World} {L M:List HP} {b:Nat} {key:ByteArray}
theorem r1_mix (hs:Sat W w L) {x:Int}:Rts Tryz.prog 110 #[.int .u64 x] w fun v w'=>v = .int .u64 (mixV x) /\ Sat W w' L:=by
 refine cw f110_ok f110_raw ?_
 exact ⟨by decide,by decide,by decide,rfl,hs⟩
set_option maxRecDepth 1000000 in
theorem r1_hash (hs:Sat W w L) {seed:Int} {s:ByteArray} (hz:s.size < 4611686018427387904):Rts Tryz.prog 69 #[.int .u64 seed,.string s] w fun v w'=>v = .int .u64 (hashV seed s) /\ Sat W w' L:=by
 refine cw f69_ok f69_raw ?_
 refine call1_ret (r1_mix hs) fun v w ⟨hv,hs⟩=>⟨_,hv,?_⟩
 have loop:∀ (m i:Nat) (h:Int) (w:World),i + m = s.size -> Sat W w L -> f69_l1 idJ (fun v w'=>v = .int .u64 (hashGo s m i h) /\ Sat W w' L) (m + 1) s h (i:Int) w:=by
  intro m
  induction m with
  | zero=>
   intro i h w hi hs
   rw [f69_l1_raw]
   refine ite_false (decide_eq_false (by omega)) ?_
   refine jw f69_j2_raw ?_
   exact ⟨rfl,hs⟩
  | succ m ih=>
   intro i h w hi hs
   rw [f69_l1_raw]
   refine ite_true (decide_eq_true (by omega)) (when_of (by omega) ?_)
   refine call1_ret (r1_mix hs) fun v w ⟨hv,hs⟩=>⟨_,hv,?_⟩
   rw [i64_in _ (by omega)]
   exact ih (i + 1) _ w (by omega) hs
 rw [hashV_eq]
 exact ⟨s.size + 1,loop s.size 0 _ w (by omega) hs⟩
theorem r1_place (hs:Sat W w L) {h n:Int} (h0:0 <= h) (hn:1 <= n) (hb:n <= 1000000000):Rts Tryz.prog 68 #[.int .u64 h,.int .i64 n] w fun v w'=>v = .int .i64 (h % n) /\ (0 <= h % n /\ h % n < n) /\ Sat W w' L:=by
 refine cw f68_ok f68_raw ?_
 refine ite_false (decide_eq_false (by omega)) ?_
 rw [u64_in _ (by omega)]
 have h1:=Int.emod_nonneg h (show n ≠ 0 by omega)
 have h2:=Int.emod_lt_of_pos h (show 0 < n by omega)
 refine when_of (by omega) ⟨?_,⟨h1,h2⟩,hs⟩
 rw [Int.tmod_eq_emod_of_nonneg h0,i64_in _ (by omega)]
theorem r1_sampled (hs:Sat W w L) {h rate:Int}:Rts Tryz.prog 111 #[.int .u64 h,.int .i64 rate] w fun v w'=>∃ t,v = .bool t /\ Sat W w' L:=by
 refine cw f111_ok f111_raw ?_
 exact ⟨_,rfl,hs⟩
theorem r7_Power (hs:Sat W w L) {r lo:Int} (hlo:lo <= 64):Rts Tryz.prog 201 #[.int .i64 r,.int .i64 lo] w fun v w'=>∃ n:Int,v = .int .i64 n /\ (1 <= n /\ n <= 2048) /\ Sat W w' L:=by
 refine cw f201_ok f201_raw ?_
 have loop:∀ (m:Nat) (n:Int),1 <= n -> n <= 2048 -> (1024 - n).toNat <= m -> f201_l1 idJ (fun v w'=>∃ n:Int,v = .int .i64 n /\ (1 <= n /\ n <= 2048) /\ Sat W w' L) (m + 1) r lo n w:=by
  intro m
  induction m with
  | zero=>
   intro n h1 h2 hm
   rw [f201_l1_raw,room_eq]
   have:=roomR_in r
   refine ite_false (decide_eq_false (by omega)) ?_
   refine ite_false (decide_eq_false (by omega)) ?_
   refine jw f201_j2_raw ?_
   exact ⟨n,rfl,⟨h1,h2⟩,hs⟩
  | succ m ih=>
   intro n h1 h2 hm
   rw [f201_l1_raw,room_eq]
   have:=roomR_in r
   with_reducible refine ite_by (fun h3=>?_) (fun h3=>?_)
   ·rw [i64_in _ (by omega)]
    exact ih _ (by omega) (by omega) (by omega)
   with_reducible refine ite_by (fun h4=>?_) (fun h4=>?_)
   ·rw [i64_in _ (by omega)]
    exact ih _ (by omega) (by omega) (by omega)
   ·refine jw f201_j2_raw ?_
    exact ⟨n,rfl,⟨h1,h2⟩,hs⟩
 exact exM_of (1023 + 1) (loop 1023 1 (by omega) (by omega) (by omega))
theorem r7_New (hs:Sat W w L) {r:Int}:Rts Tryz.prog 139 #[.int .i64 r] w fun v w'=>∃ b,v = .pointer (some ⟨b,0,none⟩) /\ Sat W w' (skR b::L):=by
 refine cw f139_ok f139_raw ?_
 refine call1_ret (r7_Power hs (by omega)) fun v w ⟨n,hv,hn,hs⟩=>⟨_,hv,?_⟩
 rw [i64_in _ (by omega)]
 refine make_at (sz:=1) hs rfl (by omega) (by omega) (by omega) (by omega) fun s w hn2 _ _ hs=>?_
 rw [zrow_ints] at hs
 have hs:Sat W w (recs (Rec.int .i64) s (List.replicate (4 * n).toNat 0)::L):=hs
 refine newB_at hs fun b w hs=>?_
 exact ⟨b,rfl,sk_shut (by simp; omega) hs⟩
set_option maxRecDepth 1000000 in
theorem r7_cells {s:Sl} {l:List Int} {n m:Int} (hl:(l.length:Int) = 4 * n /\ 1 <= n /\ n <= 4096) (hs:Sat W w (blk b [.slice s.a s.n s.c,.int .i64 n,.int .i64 m]::recs (Rec.int .i64) s l::M)) (hz:key.size < 64):Rts Tryz.prog 218 #[.pointer (some ⟨b,0,none⟩),.string key] w fun v w'=>∃ x y z u:Int,v = .agg #[.int .i64 x,.int .i64 y,.int .i64 z,.int .i64 u] /\
  ((0 <= x /\ x < l.length) /\ (0 <= y /\ y < l.length) /\ (0 <= z /\ z < l.length) /\ (0 <= u /\ u < l.length)) /\ Sat W w' (blk b [.slice s.a s.n s.c,.int .i64 n,.int .i64 m]::recs (Rec.int .i64) s l::M):=by
 refine cw f218_ok f218_raw ?_
 refine newB_at hs fun tb w hs=>?_
 refine newB_at hs fun lb w hs=>?_
 have loop:∀ (f i:Nat) (xs:List Int) (w:World),i + f = 4 -> xs.length = 4 -> (∀ x ∈ xs,0 <= x /\ x < l.length) -> Sat W w (blk lb (ints xs)::blk tb (ints [0,0,0,0])::blk b [.slice s.a s.n s.c,.int .i64 n,.int .i64 m]::recs (Rec.int .i64) s l::M) ->
   f218_l1 idJ (fun v w'=>∃ x y z u:Int,v = .agg #[.int .i64 x,.int .i64 y,.int .i64 z,.int .i64 u] /\
  ((0 <= x /\ x < l.length) /\ (0 <= y /\ y < l.length) /\ (0 <= z /\ z < l.length) /\ (0 <= u /\ u < l.length)) /\ Sat W w' (blk b [.slice s.a s.n s.c,.int .i64 n,.int .i64 m]::recs (Rec.int .i64) s l::M)) (f + 1) (some ⟨b,0,none⟩) key tb 0 lb 0 (i:Int) w:=by
  clear hs
  intro f
  induction f with
  | zero=>
   intro i xs w hi hx hb hs
   rw [f218_l1_raw]
   refine ite_false (decide_eq_false (by omega)) ?_
   refine jw f218_j2_raw ?_
   obtain ⟨x,y,z,u,rfl⟩:∃ x y z u,xs = [x,y,z,u]:=by
    match xs,hx with
    | [x,y,z,u],_=>exact ⟨x,y,z,u,rfl⟩
   have hs:Sat W w (blk lb [.int .i64 x,.int .i64 y,.int .i64 z,.int .i64 u]::blk tb [.int .i64 0,.int .i64 0,.int .i64 0,.int .i64 0]::blk b [.slice s.a s.n s.c,.int .i64 n,.int .i64 m]::recs (Rec.int .i64) s l::M):=hs
   repeat (first | with_reducible refine nilck_some ?_ | ((with_reducible refine atLd ?_); first | refine ld_b hs ?_ | refine ld_b (x:=⟨_,_,_⟩) hs ?_ | refine ld_r0 hs ?_ | refine ld_r1 hs ?_ | refine ld_rd0 ha_ hs ?_ | refine ld_rd1 ha_ hs ?_) | ((with_reducible refine isSt ?_); first | refine st_b hs fun w hs=>?_ | refine st_r0 hs fun w hs=>?_ | refine st_r1 hs fun w hs=>?_) | ((with_reducible refine isIdx ?_); first | refine idx_s hs fun b_ o_ hs=>?_ | refine idx_rd hs fun b_ o_ ha_=>?_) | with_reducible refine newB_at hs fun b_ w hs=>?_ | ((with_reducible refine isLdS ?_); first | refine ldS_b ?_ | refine ldS_b (x:=⟨_,_,_⟩) ?_ | refine ldS_rs0 hs ?_ | refine ldS_rd0 ha_ ?_) | ((with_reducible refine isKeep ?_); first | refine keep_of hs ?_ | refine keep_imp hs ?_) | with_reducible refine when_om ?_ | with_reducible refine drawW_sat hs fun w hs=>?_)
   exact ⟨x,y,z,u,rfl,⟨hb x (by simp),hb y (by simp),hb z (by simp),hb u (by simp)⟩,by exact Sat.fin hs⟩
  | succ f ih=>
   intro i xs w hi hx hb hs
   rw [f218_l1_raw]
   refine ite_true (decide_eq_true (by omega)) ?_
   refine drawW_only [blk b [.slice s.a s.n s.c,.int .i64 n,.int .i64 m]] hs fun w hs=>?_
   refine nilck_some (ldS_b (nilck_some (ldS_b ?_)))
   refine call1_ret (r1_hash hs (by omega)) fun v w ⟨hv,hs⟩=>⟨_,hv,keep_imp hs ?_⟩
   refine call1_ret (r1_place hs (hashV_in _ _).1 hl.2.1 (by omega)) fun v w ⟨hv,hr,hs⟩=>⟨_,hv,keep_imp hs ?_⟩
   refine when_of (by omega) ?_
   generalize hashV _ key % n = r at hr
   have h4:i = 0 \/ i = 1 \/ i = 2 \/ i = 3:=by omega
   have hm:0 <= (i:Int) * n /\ (i:Int) * n <= 3 * n:=by rcases h4 with rfl | rfl | rfl | rfl <;> omega
   rw [i64_in ((i:Int) * n) (by omega),i64_in _ (by omega),i64_in ((i:Int) + 1) (by omega)]
   refine st_at 0 (cs:=ints xs) hs rfl (by unfold ints; simp; omega) fun w hs=>?_
   have e:0 + ((i:Int)).toNat * 1 = i:=by omega
   rw [e,ints_set] at hs
   refine ih (i + 1) (xs.set i ((i:Int) * n + r)) w (by omega) (by simpa using hx) (fun x hx2=>?_) hs
   rcases List.mem_or_eq_of_mem_set hx2 with h | h
   ·exact hb x h
   ·subst h; omega
 exact exM_of _ (loop 4 0 [0,0,0,0] w (by omega) rfl (by simp; omega) (by exact Sat.fin hs))
theorem r7_Count {s:Sl} {l:List Int} {n m:Int} (hl:(l.length:Int) = 4 * n /\ 1 <= n /\ n <= 4096) (hsn:s.n = l.length) (hs:Sat W w (blk b [.slice s.a s.n s.c,.int .i64 n,.int .i64 m]::recs (Rec.int .i64) s l::M)) (hz:key.size < 64):Rts Tryz.prog 219 #[.pointer (some ⟨b,0,none⟩),.string key] w fun v w'=>∃ x:Int,v = .int .i64 x /\ Sat W w' (blk b [.slice s.a s.n s.c,.int .i64 n,.int .i64 m]::recs (Rec.int .i64) s l::M):=by
 refine cw f219_ok f219_raw ?_
 refine Calls.mono (r7_cells hl hs hz) fun e w ⟨v,he,x,y,z,u,hv,⟨hx,hy,hz,hu⟩,hs⟩=>⟨x,y,z,u,by rw [he,hv],?_⟩
 refine newB_at hs fun lb w hs=>?_
 repeat (first | with_reducible refine nilck_some ?_ | ((with_reducible refine atLd ?_); first | refine ld_b hs ?_ | refine ld_b (x:=⟨_,_,_⟩) hs ?_ | refine ld_r0 hs ?_ | refine ld_r1 hs ?_ | refine ld_rd0 ha_ hs ?_ | refine ld_rd1 ha_ hs ?_) | ((with_reducible refine isSt ?_); first | refine st_b hs fun w hs=>?_ | refine st_r0 hs fun w hs=>?_ | refine st_r1 hs fun w hs=>?_) | ((with_reducible refine isIdx ?_); first | refine idx_s hs fun b_ o_ hs=>?_ | refine idx_rd hs fun b_ o_ ha_=>?_) | with_reducible refine newB_at hs fun b_ w hs=>?_ | ((with_reducible refine isLdS ?_); first | refine ldS_b ?_ | refine ldS_b (x:=⟨_,_,_⟩) ?_ | refine ldS_rs0 hs ?_ | refine ldS_rd0 ha_ ?_) | ((with_reducible refine isKeep ?_); first | refine keep_of hs ?_ | refine keep_imp hs ?_) | with_reducible refine when_om ?_ | with_reducible refine drawW_sat hs fun w hs=>?_)
 exact ⟨_,rfl,by exact Sat.fin hs⟩
set_option maxRecDepth 100000 in
theorem r7_Halve (hs:Sat W w (skR b::M)):Rts Tryz.prog 220 #[.pointer (some ⟨b,0,none⟩)] w fun v w'=>v = .tuple #[] /\ Sat W w' (skR b::M):=by
 refine cw f220_ok f220_raw ?_
 obtain ⟨s,l,n,m,hl,hsn,hs⟩:=sk_open hs
 have loop:∀ (f i:Nat) (l:List Int) (w:World),i + f = l.length -> ((l.length:Int) = 4 * n /\ 1 <= n /\ n <= 4096) -> s.n = l.length -> Sat W w (blk b [.slice s.a s.n s.c,.int .i64 n,.int .i64 m]::recs (Rec.int .i64) s l::M) ->
   f220_l1 idJ (fun v w'=>v = .tuple #[] /\ Sat W w' (skR b::M)) (f + 1) (some ⟨b,0,none⟩) (i:Int) w:=by
  clear hs hl hsn
  intro f
  induction f with
  | zero=>
   intro i l w hi hl hsn hs
   rw [f220_l1_raw]
   refine nilck_some (ld_b (x:=s) hs ?_)
   refine ite_false (decide_eq_false (by omega)) ?_
   refine jw f220_j2_raw ?_
   repeat (first | with_reducible refine nilck_some ?_ | ((with_reducible refine atLd ?_); first | refine ld_b hs ?_ | refine ld_b (x:=⟨_,_,_⟩) hs ?_ | refine ld_r0 hs ?_ | refine ld_r1 hs ?_ | refine ld_rd0 ha_ hs ?_ | refine ld_rd1 ha_ hs ?_) | ((with_reducible refine isSt ?_); first | refine st_b hs fun w hs=>?_ | refine st_r0 hs fun w hs=>?_ | refine st_r1 hs fun w hs=>?_) | ((with_reducible refine isIdx ?_); first | refine idx_s hs fun b_ o_ hs=>?_ | refine idx_rd hs fun b_ o_ ha_=>?_) | with_reducible refine newB_at hs fun b_ w hs=>?_ | ((with_reducible refine isLdS ?_); first | refine ldS_b ?_ | refine ldS_b (x:=⟨_,_,_⟩) ?_ | refine ldS_rs0 hs ?_ | refine ldS_rd0 ha_ ?_) | ((with_reducible refine isKeep ?_); first | refine keep_of hs ?_ | refine keep_imp hs ?_) | with_reducible refine when_om ?_ | with_reducible refine drawW_sat hs fun w hs=>?_)
   exact ⟨rfl,sk_shut hl (by exact Sat.fin hs)⟩
  | succ f ih=>
   intro i l w hi hl hsn hs
   rw [f220_l1_raw]
   refine nilck_some (ld_b (x:=s) hs ?_)
   refine ite_true (decide_eq_true (by omega)) ?_
   refine drawW_only [blk b [.slice s.a s.n s.c,.int .i64 n,.int .i64 m]] hs fun w hs=>?_
   refine nilck_some (ldS_b (x:=s) (nilck_some (ld_b (x:=s) hs ?_)))
   refine keep_imp hs ?_
   refine idx_s hs fun b_ o_ hs=>?_
   refine ld_r0 hs (keep_imp hs (when_of (by decide) ?_))
   refine idx_a hs ?_
   refine st_r0 hs fun w hs=>?_
   rw [i64_in ((i:Int) + 1) (by omega)]
   have hs:=Sat.shut s hs
   exact ih (i + 1) _ w (by simp; omega) (by simpa using hl) (by simpa using hsn) hs
 exact exM_of _ (loop l.length 0 l w (by omega) hl hsn.1 hs)
set_option maxRecDepth 100000 in
theorem r7_Add (hs:Sat W w (skR b::M)) (hz:key.size < 64):Rts Tryz.prog 211 #[.pointer (some ⟨b,0,none⟩),.string key] w fun v w'=>v = .tuple #[] /\ Sat W w' (skR b::M):=by
 refine cw f211_ok f211_raw ?_
 obtain ⟨s,l,n,m,hl,hsn,hs⟩:=sk_open hs
 refine Calls.mono (r7_cells hl hs hz) fun e w ⟨v,he,x,y,z,u,hv,⟨hx,hy,hz',hu⟩,hs⟩=>⟨x,y,z,u,by rw [he,hv],?_⟩
 refine newB_at hs fun lb w hs=>?_
 iterate 4 refine st_b hs fun w hs=>?_
 have hs:Sat W w (blk b [.slice s.a s.n s.c,.int .i64 n,.int .i64 m]::recs (Rec.int .i64) s l::blk lb (ints [x,y,z,u])::M):=by
  have hs:Sat W w (blk lb (ints [x,y,z,u])::blk b [.slice s.a s.n s.c,.int .i64 n,.int .i64 m]::recs (Rec.int .i64) s l::M):=hs
  exact Sat.fin hs
 refine call1_ret (r7_Count hl hsn.1 hs hz) fun v w ⟨low,hv,hs⟩=>⟨_,hv,?_⟩
 have hin:∀ q ∈ [x,y,z,u],0 <= q /\ q < l.length:=by
  intro a ha
  simp only [List.mem_cons,List.not_mem_nil,or_false] at ha
  rcases ha with rfl | rfl | rfl | rfl <;> assumption
 have hxs:[x,y,z,u].length = 4:=rfl
 generalize [x,y,z,u] = xs at hin hxs hs
 have loop:∀ (f i:Nat) (l:List Int) (w:World),i + f = 4 -> ((l.length:Int) = 4 * n /\ 1 <= n /\ n <= 4096) -> s.n = l.length -> (∀ x ∈ xs,0 <= x /\ x < l.length) -> Sat W w (blk b [.slice s.a s.n s.c,.int .i64 n,.int .i64 m]::recs (Rec.int .i64) s l::blk lb (ints xs)::M) ->
   f211_l1 idJ (fun v w'=>v = .tuple #[] /\ Sat W w' (skR b::M)) (f + 1) (some ⟨b,0,none⟩) lb 0 low (i:Int) w:=by
  clear hs hin hl hsn
  intro f
  induction f with
  | zero=>
   intro i l w hi hl hsn hin hs
   rw [f211_l1_raw]
   refine ite_false (decide_eq_false (by omega)) ?_
   refine jw f211_j3_raw ?_
   have fin:∀ (w:World) (m:Int),Sat W w (blk b [.slice s.a s.n s.c,.int .i64 n,.int .i64 m]::recs (Rec.int .i64) s l::M) -> f211_j4 idJ (fun v w'=>v = .tuple #[] /\ Sat W w' (skR b::M)) (some ⟨b,0,none⟩) w:=by
    intro w m hs
    refine jw f211_j4_raw ?_
    refine drawW_only [blk b [.slice s.a s.n s.c,.int .i64 n,.int .i64 m]] hs fun w hs=>?_
    refine nilck_some (ldS_b (nilck_some (ld_b hs (keep_imp hs ?_))))
    refine ite_cases (fun _=>?_) (fun _=>?_)
    ·exact call0_ret (r7_Halve (sk_shut hl hs)) fun v w ⟨hv,hs⟩=>⟨hv,rfl,hs⟩
    ·exact ⟨rfl,sk_shut hl hs⟩
   refine ite_cases (fun _=>?_) (fun _=>?_)
   ·refine nilck_some (ld_b hs ?_)
    refine nilck_some (st_b hs fun w hs=>?_)
    exact fin w _ (by exact Sat.fin hs)
   ·exact fin w m (by exact Sat.fin hs)
  | succ f ih=>
   intro i l w hi hl hsn hin hs
   rw [f211_l1_raw]
   refine ite_true (decide_eq_true (by omega)) ?_
   have hil:i < xs.length:=by omega
   have hx:=hin (xs.getD i 0) (getD_mem hil)
   have e:0 + ((i:Int)).toNat * 1 = i:=by omega
   have next:∀ (l:List Int) (w:World),((l.length:Int) = 4 * n /\ 1 <= n /\ n <= 4096) -> s.n = l.length -> (∀ x ∈ xs,0 <= x /\ x < l.length) -> Sat W w (blk b [.slice s.a s.n s.c,.int .i64 n,.int .i64 m]::recs (Rec.int .i64) s l::blk lb (ints xs)::M) ->
     f211_l1 idJ (fun v w'=>v = .tuple #[] /\ Sat W w' (skR b::M)) (f + 1) (some ⟨b,0,none⟩) lb 0 low (IntKind.wrap .i64 ((i:Int) + (1:Int))) w:=by
    intro l w hl hsn hin hs
    rw [i64_in ((i:Int) + 1) (by omega)]
    exact ih (i + 1) l w (by omega) hl hsn hin hs
   have j2:∀ (t:Bool) (l:List Int) (w:World),((l.length:Int) = 4 * n /\ 1 <= n /\ n <= 4096) -> s.n = l.length -> (∀ x ∈ xs,0 <= x /\ x < l.length) -> Sat W w (blk b [.slice s.a s.n s.c,.int .i64 n,.int .i64 m]::recs (Rec.int .i64) s l::blk lb (ints xs)::M) ->
     f211_j2 idJ (fun v w'=>v = .tuple #[] /\ Sat W w' (skR b::M)) (f + 1) (some ⟨b,0,none⟩) lb 0 low (i:Int) t w:=by
    intro t l w hl hsn hin hs
    have hx:=hin (xs.getD i 0) (getD_mem hil)
    refine jw f211_j2_raw ?_
    cases t with
    | true=>
     refine ite_true rfl ?_
     refine drawW_only [blk b [.slice s.a s.n s.c,.int .i64 n,.int .i64 m]] hs fun w hs=>?_
     refine nilck_some (ldS_b (x:=s) ?_)
     refine when_of (by omega) ?_
     rw [e]
     refine ld_b hs ?_ (hc:=ints_get hil)
     refine keep_imp hs ?_
     refine idx_s hs fun b_ o_ hs=>?_
     refine st_r0 hs fun w hs=>?_
     have hs:=Sat.shut s hs
     exact next _ w (by simpa using hl) (by simpa using hsn) (by simpa using hin) hs
    | false=>exact ite_false rfl (next l w hl hsn hin hs)
   refine drawW_only [blk b [.slice s.a s.n s.c,.int .i64 n,.int .i64 m]] hs fun w hs=>?_
   refine nilck_some (ldS_b (x:=s) ?_)
   refine when_of (by omega) ?_
   rw [e]
   refine ld_b hs ?_ (hc:=ints_get hil)
   refine keep_imp hs ?_
   refine idx_rd hs fun b_ o_ ha_=>?_
   refine ld_rd0 ha_ hs ?_
   refine ite_cases (fun _=>?_) (fun _=>?_)
   ·exact j2 _ l w hl hsn hin hs
   ·exact j2 false l w hl hsn hin hs
 exact exM_of _ (loop 4 0 l w (by omega) hl hsn.1 hin hs)
theorem r8_New (hs:Sat W w L) {r:Int}:Rts Tryz.prog 140 #[.int .i64 r] w fun v w'=>∃ b,v = .pointer (some ⟨b,0,none⟩) /\ Sat W w' (doR b::L):=by
 refine cw f140_ok f140_raw ?_
 refine call1_ret (r7_Power hs (by omega)) fun v w ⟨n,hv,hn,hs⟩=>⟨_,hv,?_⟩
 rw [i64_in _ (by omega)]
 obtain ⟨k,hk,hk1⟩:∃ k:Int,(if 8 * n > 64 then 8 * n else 64) = k /\ 1 <= k /\ k <= 16384:=⟨_,rfl,by split <;> omega⟩
 rw [hk]
 refine make_at (sz:=1) hs rfl (by omega) (by omega) (by omega) (by omega) fun s w hn2 _ _ hs=>?_
 rw [zrow_bools] at hs
 have hs:Sat W w (recs Rec.bool s (List.replicate k.toNat false)::L):=hs
 refine newB_at hs fun b w hs=>?_
 exact ⟨b,rfl,do_shut (by simp; omega) hs⟩
theorem r8_bit {s:Sl} {l:List Bool} {i:Int} (hz:key.size < 64) (hl:1 <= l.length /\ l.length <= 100000) (hsn:s.n = l.length) (hs:Sat W w (blk b [.slice s.a s.n s.c]::recs Rec.bool s l::M)):Rts Tryz.prog 217 #[.pointer (some ⟨b,0,none⟩),.int .i64 i,.string key] w fun v w'=>∃ x:Int,v = .int .i64 x /\ (0 <= x /\ x < l.length) /\ Sat W w' (blk b [.slice s.a s.n s.c]::recs Rec.bool s l::M):=by
 refine cw f217_ok f217_raw ?_
 refine drawW_only [blk b [.slice s.a s.n s.c]] hs fun w hs=>?_
 refine nilck_some (ldS_b (x:=s) ?_)
 refine call1_ret (r1_hash hs (by omega)) fun v w ⟨hv,hs⟩=>⟨_,hv,keep_imp hs ?_⟩
 refine call1_ret (r1_place hs (hashV_in _ _).1 (n:=(s.n:Int)) (by omega) (by omega)) fun v w ⟨hv,hr,hs⟩=>⟨_,hv,?_⟩
 rw [hsn] at hr ⊢
 exact ⟨_,rfl,hr,by rw [hsn] at hs; exact hs⟩
set_option maxRecDepth 100000 in
theorem r8_Has (hs:Sat W w (doR b::M)) (hz:key.size < 64):Rts Tryz.prog 216 #[.pointer (some ⟨b,0,none⟩),.string key] w fun v w'=>∃ t,v = .bool t /\ Sat W w' (doR b::M):=by
 refine cw f216_ok f216_raw ?_
 obtain ⟨s,l,hl,hsn,hs⟩:=do_open hs
 refine drawW_only [blk b [.slice s.a s.n s.c],recs Rec.bool s l] hs fun w hs=>?_
 refine nilck_some (ldS_b (x:=s) ?_)
 refine call1_ret (r8_bit (l:=l) hz hl hsn.1 hs) fun v w ⟨x,hv,hx,hs⟩=>⟨_,hv,keep_imp hs ?_⟩
 refine idx_rd hs fun b_ o_ ha_=>?_
 refine ld_rd0 ha_ hs ?_
 refine keep_imp hs ?_
 refine ite_cases (fun _=>?_) (fun _=>?_)
 ·refine nilck_some (ldS_b (x:=s) ?_)
  refine call1_ret (r8_bit (l:=l) hz hl hsn.1 hs) fun v w ⟨x,hv,hx,hs⟩=>⟨_,hv,keep_imp hs ?_⟩
  refine idx_rd hs fun b_ o_ ha_=>?_
  refine ld_rd0 ha_ hs ?_
  refine keep_imp hs ?_
  refine ite_cases (fun _=>?_) (fun _=>?_)
  ·refine nilck_some (ldS_b (x:=s) ?_)
   refine call1_ret (r8_bit (l:=l) hz hl hsn.1 hs) fun v w ⟨x,hv,hx,hs⟩=>⟨_,hv,keep_imp hs ?_⟩
   refine idx_rd hs fun b_ o_ ha_=>?_
   refine ld_rd0 ha_ hs ?_
   exact ⟨_,rfl,do_shut hl hs⟩
  ·exact keep_imp hs ⟨_,rfl,do_shut hl hs⟩
 ·exact keep_imp hs (keep_imp hs (keep_imp hs ⟨_,rfl,do_shut hl hs⟩))
set_option maxRecDepth 100000 in
theorem r8_Add (hs:Sat W w (doR b::M)) (hz:key.size < 64):Rts Tryz.prog 210 #[.pointer (some ⟨b,0,none⟩),.string key] w fun v w'=>∃ t,v = .bool t /\ Sat W w' (doR b::M):=by
 refine cw f210_ok f210_raw ?_
 refine call1_ret (r8_Has hs hz) fun v w ⟨t,hv,hs⟩=>⟨_,hv,?_⟩
 have loop:∀ (f i:Nat) (w:World),i + f = 3 -> Sat W w (doR b::M) -> f210_l1 idJ (fun v w'=>∃ t,v = .bool t /\ Sat W w' (doR b::M)) (f + 1) (some ⟨b,0,none⟩) key t (i:Int) w:=by
  clear hs
  intro f
  induction f with
  | zero=>
   intro i w hi hs
   rw [f210_l1_raw]
   refine ite_false (decide_eq_false (by omega)) ?_
   refine jw f210_j2_raw ?_
   exact ⟨t,rfl,hs⟩
  | succ f ih=>
   intro i w hi hs
   rw [f210_l1_raw]
   refine ite_true (decide_eq_true (by omega)) ?_
   obtain ⟨s,l,hl,hsn,hs⟩:=do_open hs
   refine drawW_only [blk b [.slice s.a s.n s.c]] hs fun w hs=>?_
   refine nilck_some (ldS_b (x:=s) ?_)
   refine call1_ret (r8_bit (l:=l) hz hl hsn.1 hs) fun v w ⟨x,hv,hx,hs⟩=>⟨_,hv,keep_imp hs ?_⟩
   refine idx_s hs fun b_ o_ hs=>?_
   refine st_r0 (a':=true) (hS:=⟨rfl,by decide⟩) hs fun w hs=>?_
   rw [i64_in ((i:Int) + 1) (by omega)]
   have hs:=Sat.shut s hs
   exact ih (i + 1) w (by omega) (do_shut (l:=l.set x.toNat true) (by simpa using hl) (by exact Sat.fin hs))
 exact exM_of _ (loop 3 0 w (by omega) hs)
theorem r8_Clear (hs:Sat W w (doR b::M)):Rts Tryz.prog 212 #[.pointer (some ⟨b,0,none⟩)] w fun v w'=>v = .tuple #[] /\ Sat W w' (doR b::M):=by
 refine cw f212_ok f212_raw ?_
 obtain ⟨s,l,hl,hsn,hs⟩:=do_open hs
 refine nilck_some (ld_b (x:=s) hs ?_)
 refine make_at (sz:=1) hs rfl (by omega) (by omega) (by omega) (by omega) fun s2 w hn2 _ _ hs=>?_
 rw [zrow_bools] at hs
 have hs:Sat W w (recs Rec.bool s2 (List.replicate ((s.n:Int)).toNat false)::blk b [.slice s.a s.n s.c]::recs Rec.bool s l::M):=hs
 refine nilck_some (st_b hs fun w hs=>?_)
 exact ⟨rfl,do_shut (s:=s2) (l:=List.replicate ((s.n:Int)).toNat false) (by simp; omega) (by exact Sat.fin hs)⟩
end
end Go.Proofs.YtmefopmnjncdbaaGreat
