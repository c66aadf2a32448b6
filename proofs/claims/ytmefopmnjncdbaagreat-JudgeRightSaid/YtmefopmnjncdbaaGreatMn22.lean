import Derived.IntWalk
import Derived.Test.YtmefopmnjncdbaaGreatMn21
set_option linter.unusedVariables false
set_option linter.unusedSimpArgs false
set_option linter.unnecessarySimpa false
set_option linter.unusedSectionVars false
set_option maxRecDepth 100000
namespace Go.Proofs.YtmefopmnjncdbaaGreat
open Go.Hb Go.IntWalk
section
variable {W w:World} {L M:List HP} {F:HP -> List HP} {b:Nat} {room:Int} {N:Nat} {ks:List ByteArray} {k:ByteArray}
section
variable {s:Sl}
theorem r16_New (hs:Sat W w L) {r:Int}:Calls Tryz.prog 103 #[.int .i64 r] w fun e w'=>∃ b,e = .returned (.pointer (some ⟨b,0,none⟩)) /\ Sat W w' (blk b [.slice none 0 0,.int .i64 (clampR r)]::recs Rec.str ⟨none,0,0⟩ []::L):=by
 refine (cw f103_ok f103_raw (Q:=fun v w'=>∃ b,v = .pointer (some ⟨b,0,none⟩) /\ Sat W w' (blk b [.slice none 0 0,.int .i64 (clampR r)]::recs Rec.str ⟨none,0,0⟩ []::L)) ?_).mono fun e w' ⟨v,he,b,hv,hs⟩=>⟨b,by rw [he,hv],hs⟩
 have hs:=Sat.nilR Rec.str hs
 repeat (first | ((with_reducible refine isNew ?_); first | refine newB_at hs fun b_ w hs=>?_ | fail) | fail)
 exact ⟨_,rfl,by exact Sat.fin hs⟩
theorem r16_Has (hs:Sat W w (blk b [.slice s.a s.n s.c,.int .i64 room]::recs Rec.str s ks::M)) (hk:ks.length < 1000000000):Calls Tryz.prog 145 #[.pointer (some ⟨b,0,none⟩),.string k] w fun e w'=>e = .returned (.bool (gHas ks k)) /\ Sat W w' (blk b [.slice s.a s.n s.c,.int .i64 room]::recs Rec.str s ks::M):=by
 refine c1 (cw f145_ok f145_raw ?_)
 have hn:=rdb_len (s:=s) hs
 have loop:∀ (f i:Nat) (w:World),i + f = ks.length -> k ∉ ks.take i -> Sat W w (blk b [.slice s.a s.n s.c,.int .i64 room]::recs Rec.str s ks::M) ->
   f145_l1 idJ (fun v w'=>v = .bool (gHas ks k) /\ Sat W w' (blk b [.slice s.a s.n s.c,.int .i64 room]::recs Rec.str s ks::M)) (f + 1) (some ⟨b,0,none⟩) k (i:Int) w:=by
  intro f
  induction f with
  | zero=>
   intro i w hi hno hs
   rw [f145_l1_raw]
   repeat (first | with_reducible refine nilck_some ?_ | ((with_reducible refine atLd ?_); first | refine ld_b hs ?_ | fail) | fail)
   refine ite_false (decide_eq_false (by omega)) ?_
   refine jw f145_j2_raw ?_
   rw [List.take_of_length_le (by omega)] at hno
   exact ⟨by rw [gHas_not.2 hno],by exact Sat.fin hs⟩
  | succ f ih=>
   intro i w hi hno hs
   rw [f145_l1_raw]
   repeat (first | with_reducible refine nilck_some ?_ | ((with_reducible refine atLd ?_); first | refine ld_b hs ?_ | fail) | fail)
   refine ite_true (decide_eq_true (by omega)) ?_
   repeat (first | with_reducible refine nilck_some ?_ | ((with_reducible refine atLd ?_); first | refine ld_b hs ?_ | refine ld_r0 hs ?_ | fail) | ((with_reducible refine isIdx ?_); first | refine idx_s hs fun b_ o_ hs=>?_ | fail) | fail)
   rw [sEq_eq,Int.toNat_natCast]
   have e1:ks.take (i + 1) = ks.take i ++ [ks.getD i default]:=take_snoc (by omega)
   refine ite_cases (fun h1=>?_) (fun h1=>?_)
   ·have h1:=of_decide_eq_true h1
    have hin:k ∈ ks:=by
     have:k ∈ ks.take (i + 1):=by rw [e1,<- h1]; simp
     exact List.mem_of_mem_take this
    exact ⟨by rw [gHas_iff.2 hin],by exact Sat.fin hs⟩
   ·have h1:=of_decide_eq_false h1
    rw [i64_in _ (by omega)]
    refine ih (i + 1) w (by omega) ?_ (by exact Sat.fin hs)
    rw [e1,List.mem_append,List.mem_singleton]
    rintro (h | h)
    ·exact hno h
    ·exact h1 h.symm
 exact ⟨ks.length + 1,loop ks.length 0 w (by omega) (by simp) hs⟩
theorem r16_Take (hs:Sat W w (blk b [.slice s.a s.n s.c,.int .i64 room]::recs Rec.str s ks::M)) (hk:ks.length < 1000000000):Calls Tryz.prog 112 #[.pointer (some ⟨b,0,none⟩),.string k] w fun e w'=>e = .returned (.bool (gHas ks k)) /\ ∃ s':Sl,Sat W w' (blk b [.slice s'.a s'.n s'.c,.int .i64 room]::recs Rec.str s' (gTake ks k)::M):=by
 refine c1 (cw f112_ok f112_raw ?_)
 refine call1_of (r16_Has hs hk) fun e w ⟨he,hs⟩=>⟨_,he,?_⟩
 have hn:=rdb_len (s:=s) hs
 have loop:∀ (f i:Nat) (w:World) (l:Sl),i + f = ks.length -> Sat W w (recs Rec.str l (gTake (ks.take i) k)::blk b [.slice s.a s.n s.c,.int .i64 room]::recs Rec.str s ks::M) ->
   f112_l1 idJ (fun v w'=>v = .bool (gHas ks k) /\ ∃ s':Sl,Sat W w' (blk b [.slice s'.a s'.n s'.c,.int .i64 room]::recs Rec.str s' (gTake ks k)::M)) (f + 1) (some ⟨b,0,none⟩) k (gHas ks k) l (i:Int) w:=by
  intro f
  induction f with
  | zero=>
   intro i w l hi hs
   rw [f112_l1_raw]
   repeat (first | with_reducible refine nilck_some ?_ | ((with_reducible refine atLd ?_); first | refine ld_b hs ?_ | fail) | fail)
   refine ite_false (decide_eq_false (by omega)) ?_
   refine jw f112_j2_raw ?_
   rw [List.take_of_length_le (by omega)] at hs
   repeat (first | with_reducible refine nilck_some ?_ | ((with_reducible refine isSt ?_); first | refine st_b hs fun w hs=>?_ | fail) | fail)
   exact ⟨rfl,l,by exact Sat.fin hs⟩
  | succ f ih=>
   intro i w l hi hs
   rw [f112_l1_raw]
   repeat (first | with_reducible refine nilck_some ?_ | ((with_reducible refine atLd ?_); first | refine ld_b hs ?_ | fail) | fail)
   refine ite_true (decide_eq_true (by omega)) ?_
   repeat (first | with_reducible refine nilck_some ?_ | ((with_reducible refine atLd ?_); first | refine ld_b hs ?_ | refine ld_r0 hs ?_ | fail) | ((with_reducible refine isIdx ?_); first | refine idx_s hs fun b_ o_ hs=>?_ | fail) | fail)
   rw [sEq_eq,Int.toNat_natCast]
   have e1:ks.take (i + 1) = ks.take i ++ [ks.getD i default]:=take_snoc (by omega)
   have hlen:=gTake_len (ks.take i) k
   rw [List.length_take] at hlen
   refine ite_cases (fun h1=>?_) (fun h1=>?_)
   ·have h1:ks.getD i default ≠ k:=by simpa using h1
    repeat (first | with_reducible refine nilck_some ?_ | ((with_reducible refine atLd ?_); first | refine ld_b hs ?_ | refine ld_r0 hs ?_ | fail) | ((with_reducible refine isIdx ?_); first | refine idx_a hs ?_ | fail) | ((with_reducible refine isNew ?_); first | refine newB_at hs fun b_ w hs=>?_ | fail) | fail)
    refine app_one (s:=l) (a:=ks.getD i default) hs rfl rfl rfl rfl (by decide) (by omega) fun s2 w hs2 hs=>?_
    rw [i64_in _ (by omega)]
    refine ih (i + 1) w s2 (by omega) ?_
    have e2:gTake (ks.take (i + 1)) k = gTake (ks.take i) k ++ [ks.getD i default]:=by rw [e1]; exact gTake_ne h1
    rw [e2]
    exact Sat.fin hs
   ·have h1:ks.getD i default = k:=by simpa using h1
    rw [i64_in _ (by omega)]
    refine ih (i + 1) w l (by omega) ?_
    have e2:gTake (ks.take (i + 1)) k = gTake (ks.take i) k:=by rw [e1]; exact gTake_eq h1
    rw [e2]
    exact Sat.fin hs
 refine ⟨ks.length + 1,loop ks.length 0 w ⟨none,0,0⟩ (by omega) ?_⟩
 exact Sat.nilR Rec.str hs
theorem r16_Add (hs:Sat W w (blk b [.slice s.a s.n s.c,.int .i64 room]::recs Rec.str s ks::M)) (hk:ks.length < 900000000):Calls Tryz.prog 114 #[.pointer (some ⟨b,0,none⟩),.string k] w fun e w'=>e = .returned (.tuple #[.string (gGone room ks k),.bool (gFull room ks k)]) /\ ∃ s':Sl,Sat W w' (blk b [.slice s'.a s'.n s'.c,.int .i64 room]::recs Rec.str s' (gAdd room ks k)::M):=by
 refine c1 (cw f114_ok f114_raw ?_)
 refine call1_of (r16_Take hs (by omega)) fun e w ⟨he,s,hs⟩=>⟨_,he,?_⟩
 have hlen:=gTake_len ks k
 repeat (first | with_reducible refine nilck_some ?_ | ((with_reducible refine atLd ?_); first | refine ld_b hs ?_ | fail) | ((with_reducible refine isNew ?_); first | refine newB_at hs fun b_ w hs=>?_ | fail) | fail)
 refine app_one (s:=s) (a:=k) hs rfl rfl rfl rfl (by decide) (by omega) fun s2 w hs2 hs=>?_
 repeat (first | with_reducible refine nilck_some ?_ | ((with_reducible refine atLd ?_); first | refine ld_b hs ?_ | fail) | ((with_reducible refine isSt ?_); first | refine st_b hs fun w hs=>?_ | fail) | ((with_reducible refine isLdS ?_); first | refine ldS_b ?_ | fail) | ((with_reducible refine isKeep ?_); first | refine keep_of hs ?_ | fail) | ((with_reducible refine isDraw ?_); first | refine drawW_sat hs fun w hs=>?_ | fail) | fail)
 have hn:=rdb_len (s:=s2) hs
 rw [hn]
 refine ite_cases (fun h1=>?_) (fun h1=>?_)
 ·have h1:¬ ((gTake ks k ++ [k]).length:Int) <= room:=by have:=of_decide_eq_true h1; omega
  obtain ⟨x,t,hx⟩:∃ x t,gTake ks k ++ [k] = x::t:=by
   cases hc:gTake ks k ++ [k] with
   | nil=>simp at hc
   | cons x t=>exact ⟨x,t,rfl⟩
  have e1:gAdd room ks k = t:=by unfold gAdd; rw [if_neg h1,hx]; rfl
  have e2:gGone room ks k = x:=by unfold gGone; rw [if_neg h1,hx]; rfl
  have e3:gFull room ks k = true:=by unfold gFull; rw [decide_eq_false h1]; rfl
  have hxl:(x::t).length <= 900000000:=by rw [<- hx]; simp; omega
  rw [e1,e2,e3]
  rw [hx] at hs hn
  have hcc:=recs_len (s:=s2) (E:=Rec.str) (rows:=x::t) hs
  rw [List.length_cons] at hn hxl
  repeat (first | with_reducible refine nilck_some ?_ | ((with_reducible refine atLd ?_); first | refine ld_b hs ?_ | refine ld_r0 hs ?_ | fail) | ((with_reducible refine isIdx ?_); first | refine idx_s hs fun b_ o_ hs=>?_ | fail) | ((with_reducible refine isNew ?_); first | refine newB_at hs fun b_ w hs=>?_ | fail) | ((with_reducible refine isWhen ?_); first | refine when_om ?_ | fail) | fail)
  rw [show s2.n - Int.toNat 1 = t.length by have:Int.toNat 1 = 1:=rfl; omega]
  have hxt:(x::t).length = t.length + 1:=List.length_cons
  refine app_own hs Rec.str (rows:=[]) rfl rfl (new:=t) (rd_sub (s:=s2) (E:=Rec.str) (rows:=x::t) (lo:=1) (c:=s2.c) hs (k:=t.length) (by omega) (by omega) rfl |>.trans (by simp)) (by omega) (okC_flat _) rfl (by decide) (by simp; omega) fun s3 w hs3 hs=>?_
  repeat (first | with_reducible refine nilck_some ?_ | ((with_reducible refine isSt ?_); first | refine st_b hs fun w hs=>?_ | fail) | fail)
  exact ⟨rfl,s3,by exact Sat.fin hs⟩
 ·have h1:((gTake ks k ++ [k]).length:Int) <= room:=by have:=of_decide_eq_false h1; omega
  have e1:gAdd room ks k = gTake ks k ++ [k]:=if_pos h1
  have e2:gGone room ks k = str_empty:=if_pos h1
  have e3:gFull room ks k = false:=by unfold gFull; rw [decide_eq_true h1]; rfl
  rw [e1,e2,e3]
  exact ⟨rfl,s2,by exact Sat.fin hs⟩
end
end
end Go.Proofs.YtmefopmnjncdbaaGreat
namespace Go.Proofs.YtmefopmnjncdbaaGreat
open Go.Hb Go.IntWalk
def clampZ (n lo hi:Int):Int:=if hi < (if lo > n then lo else n) then hi else (if lo > n then lo else n)
def incZ (n most:Int):Int:=if n >= most then n else n + 1
section
variable {W w:World} {M:List HP}
theorem rclamp_at (h:Sat W w M) (n lo hi:Int):Calls Tryz.prog 59 #[.int .i64 n,.int .i64 lo,.int .i64 hi] w fun e w'=>e = .returned (.int .i64 (clampZ n lo hi)) /\ Sat W w' M:=by
 refine c1 (cw f59_ok f59_raw ?_)
 exact ⟨rfl,h⟩
theorem rinc_at (h:Sat W w M) {a b:Int} (hb:b <= 9223372036854775807) (ha:-9223372036854775808 <= a):Calls Tryz.prog 73 #[.int .i64 a,.int .i64 b] w fun e w'=>e = .returned (.int .i64 (incZ a b)) /\ Sat W w' M:=by
 refine c1 (cw f73_ok f73_raw ?_)
 unfold incZ
 refine ite_cases (fun hc=>?_) (fun hc=>?_) <;> simp only [decide_eq_true_eq,decide_eq_false_iff_not] at hc
 ·rw [if_pos hc]; exact ⟨rfl,h⟩
 ·rw [if_neg hc,i64_in _ (by omega)]; exact ⟨rfl,h⟩
end
end Go.Proofs.YtmefopmnjncdbaaGreat
namespace Go.Hb
def cnt (x:Int):Prop:=0 <= x /\ x <= 1099511627776
theorem cnt0:cnt 0:=⟨by decide,by decide⟩
theorem cnt3:cnt 0 /\ cnt 0 /\ cnt 0:=⟨cnt0,cnt0,cnt0⟩
def smp (b:Nat):HP:=exH fun (z:Int × Int × Int)=>andH (cnt z.2.1 /\ cnt z.2.2) (blk b [.int .i64 z.1,.int .i64 z.2.1,.int .i64 z.2.2])
def g16 (b:Nat):HP:=exH fun (z:Sl × BL × Int)=>andH ((z.2.1.length:Int) <= z.2.2 /\ 1 <= z.2.2 /\ z.2.2 <= 1024) (allH [blk b [.slice z.1.a z.1.n z.1.c,.int .i64 z.2.2],recs Rec.str z.1 z.2.1])
abbrev cS (b e g:Nat) (x y z u v t:Int):HP:=blk b [.pointer (some ⟨e,0,none⟩),.pointer (some ⟨g,0,none⟩),.int .i64 x,.int .i64 y,.int .i64 z,.int .i64 u,.int .i64 v,.int .i64 t]
def shw (b:Nat):HP:=exH fun (z:(Nat × Nat × Int × BL) × (Int × Int × Int × Int × Int × Int))=>andH ((cnt z.2.1 /\ cnt z.2.2.1 /\ cnt z.2.2.2.1) /\ (cnt z.2.2.2.2.1 /\ cnt z.2.2.2.2.2.1 /\ cnt z.2.2.2.2.2.2))
 (allH [cS b z.1.1 z.1.2.1 z.2.1 z.2.2.1 z.2.2.2.1 z.2.2.2.2.1 z.2.2.2.2.2.1 z.2.2.2.2.2.2,eng z.1.1 z.1.2.2.1 z.1.2.2.2,g16 z.1.2.1])
def pnlK (b:Nat) (n:Nat):HP:=exH fun (z:Nat × Int × Sl × List Nat)=>andH (z.2.2.2.length = n) (allH [blk b [.pointer (some ⟨z.1,0,none⟩),.int .i64 z.2.1,.slice z.2.2.1.a z.2.2.1.n z.2.2.1.c],smp z.1,recs Rec.ptr z.2.2.1 z.2.2.2,allH (z.2.2.2.map shw)])
section
variable {W w:World} {M L:List HP} {b:Nat}
theorem smp_open (h:Sat W w (smp b::M)):∃ x y z:Int,(cnt y /\ cnt z) /\ Sat W w (blk b [.int .i64 x,.int .i64 y,.int .i64 z]::M):=by
 obtain ⟨⟨x,y,z⟩,h⟩:=h.openE
 obtain ⟨hp,h⟩:=h.openA
 exact ⟨x,y,z,hp,h⟩
theorem smp_shut {x y z:Int} (hy:cnt y) (hz:cnt z) (h:Sat W w (blk b [.int .i64 x,.int .i64 y,.int .i64 z]::M)):Sat W w (smp b::M):=Sat.shutE (x,y,z) (Sat.shutA ⟨hy,hz⟩ h)
theorem g16_open (h:Sat W w (g16 b::M)):∃ (s:Sl) (ks:BL) (r:Int),((ks.length:Int) <= r /\ 1 <= r /\ r <= 1024) /\ Sat W w (blk b [.slice s.a s.n s.c,.int .i64 r]::recs Rec.str s ks::M):=by
 obtain ⟨⟨s,ks,r⟩,h⟩:=h.openE
 obtain ⟨hp,h⟩:=h.openA
 exact ⟨s,ks,r,hp,h.openL⟩
theorem g16_shut {s:Sl} {ks:BL} {r:Int} (hp:(ks.length:Int) <= r /\ 1 <= r /\ r <= 1024) (h:Sat W w (blk b [.slice s.a s.n s.c,.int .i64 r]::recs Rec.str s ks::M)):Sat W w (g16 b::M):=
 Sat.shutE (s,ks,r) (Sat.shutA hp (Sat.shutL (Ps:=[_,_]) h))
theorem shw_open (h:Sat W w (shw b::M)):∃ (e g:Nat) (c:Int) (R:BL) (x y z u v t:Int),((cnt x /\ cnt y /\ cnt z) /\ (cnt u /\ cnt v /\ cnt t)) /\ Sat W w (cS b e g x y z u v t::eng e c R::g16 g::M):=by
 obtain ⟨⟨⟨e,g,c,R⟩,⟨x,y,z,u,v,t⟩⟩,h⟩:=h.openE
 obtain ⟨hp,h⟩:=h.openA
 exact ⟨e,g,c,R,x,y,z,u,v,t,hp,h.openL⟩
theorem shw_shut {e g:Nat} {c:Int} {R:BL} {x y z u v t:Int} (h1:cnt x /\ cnt y /\ cnt z) (h2:cnt u /\ cnt v /\ cnt t) (h:Sat W w (cS b e g x y z u v t::eng e c R::g16 g::M)):Sat W w (shw b::M):=
 Sat.shutE ((e,g,c,R),(x,y,z,u,v,t)) (Sat.shutA ⟨h1,h2⟩ (Sat.shutL (Ps:=[_,_,_]) h))
theorem pnl_open {n:Nat} (h:Sat W w (pnlK b n::M)):∃ (p:Nat) (r:Int) (s:Sl) (l:List Nat),l.length = n /\ (s.n = l.length /\ s.n <= s.c) /\ Sat W w (blk b [.pointer (some ⟨p,0,none⟩),.int .i64 r,.slice s.a s.n s.c]::smp p::recs Rec.ptr s l::allH (l.map shw)::M):=by
 obtain ⟨⟨p,r,s,l⟩,h⟩:=h.openE
 obtain ⟨hp,h⟩:=h.openA
 have h:=h.openL
 have h:Sat W w (blk b [.pointer (some ⟨p,0,none⟩),.int .i64 r,.slice s.a s.n s.c]::smp p::recs Rec.ptr s l::allH (l.map shw)::M):=h
 exact ⟨p,r,s,l,hp,recs_len (s:=s) h,h⟩
theorem pnl_shut {n p:Nat} {r:Int} {s:Sl} {l:List Nat} (hl:l.length = n) (h:Sat W w (blk b [.pointer (some ⟨p,0,none⟩),.int .i64 r,.slice s.a s.n s.c]::smp p::recs Rec.ptr s l::allH (l.map shw)::M)):Sat W w (pnlK b n::M):=
 Sat.shutE (p,r,s,l) (Sat.shutA hl (Sat.shutL (Ps:=[_,_,_,_]) h))
end
end Go.Hb
namespace Go.Proofs.YtmefopmnjncdbaaGreat
open Go.Hb Go.IntWalk
section
variable {W w:World} {L M:List HP} {b:Nat} {key:ByteArray}
theorem q2_Inc (hs:Sat W w L) {a:Int} (ha:cnt a):Rts Tryz.prog 73 #[.int .i64 a,.int .i64 1099511627776] w fun v w'=>∃ x:Int,v = .int .i64 x /\ cnt x /\ Sat W w' L:=by
 unfold cnt at ha
 refine Calls.mono (rinc_at hs (a:=a) (b:=1099511627776) (by omega) (by omega)) fun e w' ⟨he,hs⟩=>⟨_,he,_,rfl,?_,hs⟩
 unfold incZ cnt
 split <;> omega
theorem q2_Clamp (hs:Sat W w L) (n lo hi:Int):Rts Tryz.prog 59 #[.int .i64 n,.int .i64 lo,.int .i64 hi] w fun v w'=>v = .int .i64 (clampZ n lo hi) /\ Sat W w' L:=
 Calls.mono (rclamp_at hs n lo hi) fun e w' ⟨he,hs⟩=>⟨_,he,rfl,hs⟩
theorem q9_New (hs:Sat W w L) {r:Int}:Rts Tryz.prog 29 #[.int .i64 r] w fun v w'=>∃ b,v = .pointer (some ⟨b,0,none⟩) /\ Sat W w' (smp b::L):=by
 refine cw f29_ok f29_raw ?_
 refine call1_ret (q2_Clamp hs _ _ _) fun v w ⟨hv,hs⟩=>⟨_,hv,?_⟩
 refine newB_at hs fun b w hs=>⟨b,rfl,smp_shut cnt0 cnt0 hs⟩
theorem q9_Takes (hs:Sat W w (smp b::M)) (hz:key.size < 64):Rts Tryz.prog 74 #[.pointer (some ⟨b,0,none⟩),.string key] w fun v w'=>∃ t,v = .bool t /\ Sat W w' (smp b::M):=by
 refine cw f74_ok f74_raw ?_
 obtain ⟨x,y,z,⟨hy,hz2⟩,hs⟩:=smp_open hs
 refine drawW_only [blk b [.int .i64 x,.int .i64 y,.int .i64 z]] hs fun w hs=>?_
 refine nilck_some (ldS_b ?_)
 refine call1_ret (r1_hash hs (by omega)) fun v w ⟨hv,hs⟩=>⟨_,hv,keep_imp hs ?_⟩
 refine call1_ret (r1_sampled hs) fun v w ⟨t,hv,hs⟩=>⟨_,hv,?_⟩
 refine nilck_some (ld_b hs ?_)
 refine call1_ret (q2_Inc hs hy) fun v w ⟨y',hv,hy',hs⟩=>⟨_,hv,?_⟩
 refine nilck_some (st_b hs fun w hs=>?_)
 refine ite_cases (fun _=>?_) (fun _=>?_)
 ·refine nilck_some (ld_b hs ?_)
  refine call1_ret (q2_Inc hs hz2) fun v w ⟨z',hv,hz',hs⟩=>⟨_,hv,?_⟩
  refine nilck_some (st_b hs fun w hs=>?_)
  exact ⟨_,rfl,smp_shut hy' hz' hs⟩
 ·exact ⟨_,rfl,smp_shut hy' hz2 hs⟩
theorem q9_Room (hs:Sat W w (smp b::M)) {c:Int}:Rts Tryz.prog 60 #[.pointer (some ⟨b,0,none⟩),.int .i64 c] w fun v w'=>∃ r:Int,v = .int .i64 r /\ Sat W w' (smp b::M):=by
 refine cw f60_ok f60_raw ?_
 obtain ⟨x,y,z,⟨hy,hz2⟩,hs⟩:=smp_open hs
 refine drawW_only [blk b [.int .i64 x,.int .i64 y,.int .i64 z]] hs fun w hs=>?_
 refine nilck_some (ldS_b ?_)
 refine call1_ret (q2_Clamp hs _ _ _) fun v w ⟨hv,hs⟩=>⟨_,hv,keep_imp hs (when_of (by decide) ?_)⟩
 exact ⟨_,rfl,smp_shut hy hz2 hs⟩
theorem q16_New (hs:Sat W w L) {r:Int}:Rts Tryz.prog 103 #[.int .i64 r] w fun v w'=>∃ b,v = .pointer (some ⟨b,0,none⟩) /\ Sat W w' (g16 b::L):=by
 refine Calls.mono (r16_New (r:=r) hs) fun e w' ⟨b,he,hs⟩=>⟨_,he,b,rfl,?_⟩
 have h:1 <= clampR r /\ clampR r <= 1024:=by unfold clampR; split <;> split <;> omega
 exact g16_shut (s:=⟨none,0,0⟩) (ks:=[]) (r:=clampR r) ⟨by simp; omega,h.1,h.2⟩ hs
theorem q16_Take (hs:Sat W w (g16 b::M)):Rts Tryz.prog 112 #[.pointer (some ⟨b,0,none⟩),.string key] w fun v w'=>∃ t,v = .bool t /\ Sat W w' (g16 b::M):=by
 obtain ⟨s,ks,r,hp,hs⟩:=g16_open hs
 refine Calls.mono (r16_Take (k:=key) hs (by omega)) fun e w' ⟨he,s',hs⟩=>⟨_,he,_,rfl,g16_shut ?_ hs⟩
 have:=gTake_len ks key
 omega
theorem q16_Add (hs:Sat W w (g16 b::M)):Rts Tryz.prog 114 #[.pointer (some ⟨b,0,none⟩),.string key] w fun v w'=>∃ x t,v = .tuple #[.string x,.bool t] /\ Sat W w' (g16 b::M):=by
 obtain ⟨s,ks,r,hp,hs⟩:=g16_open hs
 refine Calls.mono (r16_Add (k:=key) hs (by omega)) fun e w' ⟨he,s',hs⟩=>⟨_,he,_,_,rfl,g16_shut ?_ hs⟩
 have:=gTake_len ks key
 refine ⟨?_,hp.2⟩
 unfold gAdd
 split
 ·assumption
 ·simp only [List.length_drop,List.length_append,List.length_cons,List.length_nil]; omega
theorem q17_New (hs:Sat W w L) {k r:Int} (hk:0 <= k /\ k < 5):Rts Tryz.prog 61 #[.int .i64 k,.int .i64 r] w fun v w'=>∃ b,v = .tuple #[.pointer (some ⟨b,0,none⟩),.int .i64 0] /\ Sat W w' (shw b::L):=by
 refine cw f61_ok f61_raw ?_
 refine call2_ret (q15_New hs) fun v w hN=>?_
 rcases hN with ⟨_,e,hv,hs⟩ | ⟨h1,_⟩
 ·refine ⟨_,_,hv,?_⟩
  refine ite_false rfl ?_
  refine call1_ret (q16_New hs) fun v w ⟨g,hv,hs⟩=>⟨_,hv,?_⟩
  refine newB_at hs fun b w hs=>⟨b,rfl,?_⟩
  exact shw_shut (e:=e) (g:=g) (x:=0) (y:=0) (z:=0) (u:=0) (v:=0) (t:=0) cnt3 cnt3 (by exact Sat.fin hs)
 ·exact absurd hk h1
theorem q17_count (hs:Sat W w L) {x y z:Int} {t u:Bool} (hx:cnt x /\ cnt y /\ cnt z):Rts Tryz.prog 113 #[.agg #[.int .i64 x,.int .i64 y,.int .i64 z],.bool t,.bool u] w fun v w'=>∃ x' y' z':Int,v = .agg #[.int .i64 x',.int .i64 y',.int .i64 z'] /\ (cnt x' /\ cnt y' /\ cnt z') /\ Sat W w' L:=by
 refine cw f113_ok f113_raw ?_
 refine newB_at hs fun b1 w hs=>?_
 refine newB_at hs fun b2 w hs=>?_
 refine ld_b hs ?_
 refine call1_ret (q2_Inc hs hx.1) fun v w ⟨x',hv,hx',hs⟩=>⟨_,hv,?_⟩
 refine st_b hs fun w hs=>?_
 have j1:∀ (w:World) (y:Int),cnt y -> Sat W w (blk b2 [.int .i64 0,.int .i64 0,.int .i64 0]::blk b1 [.int .i64 x',.int .i64 y,.int .i64 z]::L) ->
   f113_j1 idJ (fun v w'=>∃ x' y' z':Int,v = .agg #[.int .i64 x',.int .i64 y',.int .i64 z'] /\ (cnt x' /\ cnt y' /\ cnt z') /\ Sat W w' L) u b1 0 b2 0 w:=by
  clear hs
  intro w y hy hs
  refine jw f113_j1_raw ?_
  refine ite_cases (fun _=>?_) (fun _=>?_)
  ·refine ld_b hs ?_
   refine call1_ret (q2_Inc hs hx.2.2) fun v w ⟨z',hv,hz',hs⟩=>⟨_,hv,?_⟩
   refine st_b hs fun w hs=>?_
   repeat (first | with_reducible refine nilck_some ?_ | ((with_reducible refine atLd ?_); first | refine ld_b hs ?_ | refine ld_b (x:=⟨_,_,_⟩) hs ?_ | refine ld_r0 hs ?_ | refine ld_r1 hs ?_ | refine ld_rd0 ha_ hs ?_ | refine ld_rd1 ha_ hs ?_) | ((with_reducible refine isSt ?_); first | refine st_b hs fun w hs=>?_ | refine st_r0 hs fun w hs=>?_ | refine st_r1 hs fun w hs=>?_) | ((with_reducible refine isIdx ?_); first | refine idx_s hs fun b_ o_ hs=>?_ | refine idx_rd hs fun b_ o_ ha_=>?_) | with_reducible refine newB_at hs fun b_ w hs=>?_ | ((with_reducible refine isLdS ?_); first | refine ldS_b ?_ | refine ldS_b (x:=⟨_,_,_⟩) ?_ | refine ldS_rs0 hs ?_ | refine ldS_rd0 ha_ ?_) | ((with_reducible refine isKeep ?_); first | refine keep_of hs ?_ | refine keep_imp hs ?_) | with_reducible refine when_om ?_ | with_reducible refine drawW_sat hs fun w hs=>?_)
   exact ⟨_,_,_,rfl,⟨hx',hy,hz'⟩,by exact Sat.fin hs⟩
  ·repeat (first | with_reducible refine nilck_some ?_ | ((with_reducible refine atLd ?_); first | refine ld_b hs ?_ | refine ld_b (x:=⟨_,_,_⟩) hs ?_ | refine ld_r0 hs ?_ | refine ld_r1 hs ?_ | refine ld_rd0 ha_ hs ?_ | refine ld_rd1 ha_ hs ?_) | ((with_reducible refine isSt ?_); first | refine st_b hs fun w hs=>?_ | refine st_r0 hs fun w hs=>?_ | refine st_r1 hs fun w hs=>?_) | ((with_reducible refine isIdx ?_); first | refine idx_s hs fun b_ o_ hs=>?_ | refine idx_rd hs fun b_ o_ ha_=>?_) | with_reducible refine newB_at hs fun b_ w hs=>?_ | ((with_reducible refine isLdS ?_); first | refine ldS_b ?_ | refine ldS_b (x:=⟨_,_,_⟩) ?_ | refine ldS_rs0 hs ?_ | refine ldS_rd0 ha_ ?_) | ((with_reducible refine isKeep ?_); first | refine keep_of hs ?_ | refine keep_imp hs ?_) | with_reducible refine when_om ?_ | with_reducible refine drawW_sat hs fun w hs=>?_)
   exact ⟨_,_,_,rfl,⟨hx',hy,hx.2.2⟩,by exact Sat.fin hs⟩
 refine ite_cases (fun _=>?_) (fun _=>?_)
 ·refine ld_b hs ?_
  refine call1_ret (q2_Inc hs hx.2.1) fun v w ⟨y',hv,hy',hs⟩=>⟨_,hv,?_⟩
  refine st_b hs fun w hs=>?_
  exact j1 w y' hy' hs
 ·exact j1 w y hx.2.1 hs
theorem q17_Access (hs:Sat W w (shw b::M)) (hz:key.size < 64):Rts Tryz.prog 75 #[.pointer (some ⟨b,0,none⟩),.string key] w fun v w'=>∃ t,v = .bool t /\ Sat W w' (shw b::M):=by
 refine cw f75_ok f75_raw ?_
 obtain ⟨e,g,c,R,x,y,z,u,v,t,⟨h1,h2⟩,hs⟩:=shw_open hs
 refine nilck_some (ld_b hs ?_)
 have hs:Sat W w (eng e c R::cS b e g x y z u v t::g16 g::M):=by exact Sat.fin hs
 refine call2_ret (q15_Access hs hz) fun v_ w ⟨hit,l,gn,S,hv,ha,hs⟩=>⟨_,_,hv,?_⟩
 have hs:Sat W w (g16 g::cS b e g x y z u v t::eng e c S::recs Rec.str l gn::M):=by exact Sat.fin hs
 have hle:=ha.acc.le1
 have j1:∀ (w:World) (q:Bool),Sat W w (g16 g::cS b e g x y z u v t::eng e c S::recs Rec.str l gn::M) ->
   f75_j1 idJ (fun v w'=>∃ t,v = .bool t /\ Sat W w' (shw b::M)) (some ⟨b,0,none⟩) hit l q w:=by
  clear hs
  intro w q hs
  refine jw f75_j1_raw ?_
  refine drawW_only [cS b e g x y z u v t] hs fun w hs=>?_
  refine nilck_some (ldS_b (ldS_b (ldS_b (nilck_some (ldS_b (ldS_b (ldS_b ?_)))))))
  refine Calls.mono (q17_count hs h1) fun e_ w ⟨v_,he,x',y',z',hv,h1',hs⟩=>⟨x',y',z',by rw [he,hv],keep_imp hs ?_⟩
  refine Calls.mono (q17_count hs h2) fun e_ w ⟨v_,he,u',v',t',hv,h2',hs⟩=>⟨u',v',t',by rw [he,hv],?_⟩
  refine nilck_some (st_b hs fun w hs=>st_b hs fun w hs=>st_b hs fun w hs=>?_)
  refine nilck_some (st_b hs fun w hs=>st_b hs fun w hs=>st_b hs fun w hs=>?_)
  have hs:Sat W w (g16 g::cS b e g x' y' z' u' v' t'::eng e c S::recs Rec.str l gn::M):=by exact Sat.fin hs
  have loop:∀ (f i:Nat) (w:World),i + f = gn.length -> Sat W w (g16 g::cS b e g x' y' z' u' v' t'::eng e c S::recs Rec.str l gn::M) ->
    f75_l2 idJ (fun v w'=>∃ t,v = .bool t /\ Sat W w' (shw b::M)) (f + 1) (some ⟨b,0,none⟩) hit l (i:Int) w:=by
   clear hs
   intro f
   induction f with
   | zero=>
    intro i w hi hs
    have hn:=rdb_len (s:=l) hs
    rw [f75_l2_raw]
    refine ite_false (decide_eq_false (by omega)) ?_
    refine jw f75_j3_raw ?_
    exact ⟨_,rfl,shw_shut (e:=e) (g:=g) (c:=c) (R:=S) h1' h2' (by exact Sat.fin hs)⟩
   | succ f ih=>
    intro i w hi hs
    have hn:=rdb_len (s:=l) hs
    rw [f75_l2_raw]
    refine ite_true (decide_eq_true (by omega)) ?_
    refine drawW_only [cS b e g x' y' z' u' v' t'] hs fun w hs=>?_
    refine nilck_some (ldS_b ?_)
    refine idx_rd (s:=l) hs fun b_ o_ ha_=>?_
    refine ld_rd0 ha_ hs ?_
    refine keep_imp hs ?_
    refine call2_ret (q16_Add hs) fun v w ⟨x_,t_,hv,hs⟩=>⟨_,_,hv,?_⟩
    rw [show IntKind.wrap .i64 ((i:Int) + 1) = ((i + 1:Nat):Int) by rw [i64_in _ (by omega)]; omega]
    exact ih (i + 1) w (by omega) hs
  exact exM_of _ (loop gn.length 0 w (by omega) hs)
 refine ite_cases (fun _=>?_) (fun _=>?_)
 ·refine nilck_some (ld_b hs ?_)
  refine call1_ret (q16_Take hs) fun v w ⟨q,hv,hs⟩=>⟨_,hv,?_⟩
  exact j1 w q hs
 ·exact j1 w false hs
theorem q17_Epoch (hs:Sat W w (shw b::M)):Rts Tryz.prog 92 #[.pointer (some ⟨b,0,none⟩)] w fun v w'=>∃ x y z:Int,v = .agg #[.int .i64 x,.int .i64 y,.int .i64 z] /\ (cnt x /\ cnt y /\ cnt z) /\ Sat W w' (shw b::M):=by
 refine cw f92_ok f92_raw ?_
 obtain ⟨e,g,c,R,x,y,z,u,v,t,⟨h1,h2⟩,hs⟩:=shw_open hs
 refine newB_at hs fun b1 w hs=>?_
 repeat (first | with_reducible refine nilck_some ?_ | ((with_reducible refine atLd ?_); first | refine ld_b hs ?_ | refine ld_b (x:=⟨_,_,_⟩) hs ?_ | refine ld_r0 hs ?_ | refine ld_r1 hs ?_ | refine ld_rd0 ha_ hs ?_ | refine ld_rd1 ha_ hs ?_) | ((with_reducible refine isSt ?_); first | refine st_b hs fun w hs=>?_ | refine st_r0 hs fun w hs=>?_ | refine st_r1 hs fun w hs=>?_) | ((with_reducible refine isIdx ?_); first | refine idx_s hs fun b_ o_ hs=>?_ | refine idx_rd hs fun b_ o_ ha_=>?_) | with_reducible refine newB_at hs fun b_ w hs=>?_ | ((with_reducible refine isLdS ?_); first | refine ldS_b ?_ | refine ldS_b (x:=⟨_,_,_⟩) ?_ | refine ldS_rs0 hs ?_ | refine ldS_rd0 ha_ ?_) | ((with_reducible refine isKeep ?_); first | refine keep_of hs ?_ | refine keep_imp hs ?_) | with_reducible refine when_om ?_ | with_reducible refine drawW_sat hs fun w hs=>?_)
 exact ⟨_,_,_,rfl,h1,shw_shut (e:=e) (g:=g) (c:=c) (R:=R) (x:=0) (y:=0) (z:=0) cnt3 h2 (by exact Sat.fin hs)⟩
theorem q18_Resize {n:Nat} (hs:Sat W w (pnlK b n::M)) {r:Int}:Rts Tryz.prog 30 #[.pointer (some ⟨b,0,none⟩),.int .i64 r] w fun v w'=>v = .tuple #[] /\ Sat W w' (pnlK b 5::M):=by
 refine cw f30_ok f30_raw ?_
 obtain ⟨p,rm,s,l,hl,hsn,hs⟩:=pnl_open hs
 refine nilck_some (ld_b hs ?_)
 have hs:Sat W w (smp p::blk b [.pointer (some ⟨p,0,none⟩),.int .i64 rm,.slice s.a s.n s.c]::M):=by exact Sat.fin hs
 refine call1_ret (q9_Room hs) fun v w ⟨rm',hv,hs⟩=>⟨_,hv,?_⟩
 refine nilck_some (st_b hs fun w hs=>?_)
 refine nilck_some (st_b hs fun w hs=>?_)
 have hs:=Sat.nilR Rec.ptr hs
 have hs:=pick_nil (f:=shw) hs
 have loop:∀ (f i:Nat) (w:World) (s:Sl) (l:List Nat),i + f = 5 -> l.length = i -> Sat W w (allH (l.map shw)::recs Rec.ptr s l::smp p::blk b [.pointer (some ⟨p,0,none⟩),.int .i64 rm',.slice s.a s.n s.c]::M) ->
   f30_l1 idJ (fun v w'=>v = .tuple #[] /\ Sat W w' (pnlK b 5::M)) (f + 1) (some ⟨b,0,none⟩) (i:Int) w:=by
  clear hs
  intro f
  induction f with
  | zero=>
   intro i w s l hi hl hs
   rw [f30_l1_raw]
   refine ite_false (decide_eq_false (by omega)) ?_
   exact ⟨rfl,pnl_shut (l:=l) (by omega) (by exact Sat.fin hs)⟩
  | succ f ih=>
   intro i w s l hi hl hs
   rw [f30_l1_raw]
   refine ite_true (decide_eq_true (by omega)) ?_
   refine nilck_some (ld_b hs ?_)
   refine call2_ret (q17_New hs (by omega)) fun v w ⟨nb,hv,hs⟩=>⟨_,_,hv,?_⟩
   have hs:=put_snoc hs
   refine nilck_some (ld_b (x:=s) hs ?_)
   refine newB_at hs fun tb w hs=>?_
   refine app_one (s:=s) (a:=nb) hs rfl rfl rfl rfl (by decide) (by omega) fun s2 w hs2 hs=>?_
   refine nilck_some (st_b hs fun w hs=>?_)
   rw [show IntKind.wrap .i64 ((i:Int) + 1) = ((i + 1:Nat):Int) by rw [i64_in _ (by omega)]; omega]
   exact ih (i + 1) w s2 (l ++ [nb]) (by omega) (by simp; omega) (by exact Sat.fin hs)
 exact exM_of _ (loop 5 0 w ⟨none,0,0⟩ [] (by omega) rfl (by exact Sat.fin hs))
theorem q18_New (hs:Sat W w L) {rate r:Int}:Rts Tryz.prog 12 #[.int .i64 rate,.int .i64 r] w fun v w'=>∃ b,v = .pointer (some ⟨b,0,none⟩) /\ Sat W w' (pnlK b 5::L):=by
 refine cw f12_ok f12_raw ?_
 refine call1_ret (q9_New hs) fun v w ⟨p,hv,hs⟩=>⟨_,hv,?_⟩
 refine newB_at hs fun b w hs=>?_
 have hs:=Sat.nilR Rec.ptr hs
 have hs:=pick_nil (f:=shw) hs
 have hs:Sat W w (pnlK b 0::L):=pnl_shut (p:=p) (r:=0) (s:=⟨none,0,0⟩) (l:=[]) rfl (by exact Sat.fin hs)
 exact call0_ret (q18_Resize hs) fun v w ⟨hv,hs⟩=>⟨hv,b,rfl,hs⟩
theorem q18_Access (hs:Sat W w (pnlK b 5::M)) (hz:key.size < 64):Rts Tryz.prog 42 #[.pointer (some ⟨b,0,none⟩),.string key] w fun v w'=>∃ t,v = .bool t /\ Sat W w' (pnlK b 5::M):=by
 refine cw f42_ok f42_raw ?_
 obtain ⟨p,rm,s,l,hl,hsn,hs⟩:=pnl_open hs
 refine nilck_some (ld_b hs ?_)
 have hs:Sat W w (smp p::blk b [.pointer (some ⟨p,0,none⟩),.int .i64 rm,.slice s.a s.n s.c]::recs Rec.ptr s l::allH (l.map shw)::M):=by exact Sat.fin hs
 refine call1_ret (q9_Takes hs hz) fun v w ⟨t,hv,hs⟩=>⟨_,hv,?_⟩
 have hs:Sat W w (allH (l.map shw)::blk b [.pointer (some ⟨p,0,none⟩),.int .i64 rm,.slice s.a s.n s.c]::recs Rec.ptr s l::smp p::M):=by exact Sat.fin hs
 refine ite_cases (fun _=>?_) (fun _=>?_)
 ·exact ⟨_,rfl,pnl_shut hl (by exact Sat.fin hs)⟩
 have loop:∀ (f i:Nat) (w:World),i + f = 5 -> Sat W w (allH (l.map shw)::blk b [.pointer (some ⟨p,0,none⟩),.int .i64 rm,.slice s.a s.n s.c]::recs Rec.ptr s l::smp p::M) ->
   f42_l1 idJ (fun v w'=>∃ t,v = .bool t /\ Sat W w' (pnlK b 5::M)) (f + 1) (some ⟨b,0,none⟩) key (i:Int) w:=by
  clear hs
  intro f
  induction f with
  | zero=>
   intro i w hi hs
   rw [f42_l1_raw]
   refine nilck_some (ld_b (x:=s) hs ?_)
   refine ite_false (decide_eq_false (by omega)) ?_
   refine jw f42_j2_raw ?_
   exact ⟨_,rfl,pnl_shut hl (by exact Sat.fin hs)⟩
  | succ f ih=>
   intro i w hi hs
   rw [f42_l1_raw]
   refine nilck_some (ld_b (x:=s) hs ?_)
   refine ite_true (decide_eq_true (by omega)) ?_
   refine nilck_some (ld_b (x:=s) hs ?_)
   refine idx_rd (s:=s) hs fun b_ o_ ha_=>?_
   refine ld_rd0 ha_ hs ?_
   have hil:i < l.length:=by omega
   have e:l.getD ((i:Int)).toNat default = l[i]:=by rw [Int.toNat_natCast,List.getD_eq_getElem?_getD,List.getElem?_eq_getElem hil]; rfl
   rw [e]
   have hs:=pick_at hil hs
   refine call1_ret (q17_Access hs hz) fun v w ⟨t,hv,hs⟩=>⟨_,hv,?_⟩
   have hs:=put_same hil hs
   rw [show IntKind.wrap .i64 ((i:Int) + 1) = ((i + 1:Nat):Int) by rw [i64_in _ (by omega)]; omega]
   exact ih (i + 1) w (by omega) hs
 exact exM_of _ (loop 5 0 w (by omega) hs)
theorem q18_Epoch (hs:Sat W w (pnlK b 5::M)):Rts Tryz.prog 53 #[.pointer (some ⟨b,0,none⟩)] w fun v w'=>∃ x0 x1 x2 x3 x4 a:Int,v = .tuple #[.agg #[.int .i64 x0,.int .i64 x1,.int .i64 x2,.int .i64 x3,.int .i64 x4],.int .i64 a] /\ Sat W w' (pnlK b 5::M):=by
 refine cw f53_ok f53_raw ?_
 obtain ⟨p,rm,s,l,hl,hsn,hs⟩:=pnl_open hs
 refine newB_at hs fun tb w hs=>?_
 refine newB_at hs fun gb w hs=>?_
 have hs:Sat W w (allH (l.map shw)::blk gb (ints [0,0,0,0,0])::blk tb (ints [0,0,0,0,0])::blk b [.pointer (some ⟨p,0,none⟩),.int .i64 rm,.slice s.a s.n s.c]::recs Rec.ptr s l::smp p::M):=by
  have hs:Sat W w (blk gb (ints [0,0,0,0,0])::blk tb (ints [0,0,0,0,0])::_):=hs
  exact Sat.fin hs
 have loop:∀ (f i:Nat) (w:World) (a:Int) (xs:List Int),i + f = 5 -> xs.length = 5 -> Sat W w (allH (l.map shw)::blk gb (ints xs)::blk tb (ints [0,0,0,0,0])::blk b [.pointer (some ⟨p,0,none⟩),.int .i64 rm,.slice s.a s.n s.c]::recs Rec.ptr s l::smp p::M) ->
   f53_l1 idJ (fun v w'=>∃ x0 x1 x2 x3 x4 a:Int,v = .tuple #[.agg #[.int .i64 x0,.int .i64 x1,.int .i64 x2,.int .i64 x3,.int .i64 x4],.int .i64 a] /\ Sat W w' (pnlK b 5::M)) (f + 1) (some ⟨b,0,none⟩) tb 0 gb 0 a (i:Int) w:=by
  clear hs
  intro f
  induction f with
  | zero=>
   intro i w a xs hi hx hs
   rw [f53_l1_raw]
   refine nilck_some (ld_b (x:=s) hs ?_)
   refine ite_false (decide_eq_false (by omega)) ?_
   refine jw f53_j2_raw ?_
   obtain ⟨x0,x1,x2,x3,x4,rfl⟩:∃ x0 x1 x2 x3 x4,xs = [x0,x1,x2,x3,x4]:=by
    match xs,hx with
    | [x0,x1,x2,x3,x4],_=>exact ⟨x0,x1,x2,x3,x4,rfl⟩
   have hs:Sat W w (allH (l.map shw)::blk gb [.int .i64 x0,.int .i64 x1,.int .i64 x2,.int .i64 x3,.int .i64 x4]::blk tb [.int .i64 0,.int .i64 0,.int .i64 0,.int .i64 0,.int .i64 0]::blk b [.pointer (some ⟨p,0,none⟩),.int .i64 rm,.slice s.a s.n s.c]::recs Rec.ptr s l::smp p::M):=hs
   repeat (first | with_reducible refine nilck_some ?_ | ((with_reducible refine atLd ?_); first | refine ld_b hs ?_ | refine ld_b (x:=⟨_,_,_⟩) hs ?_ | refine ld_r0 hs ?_ | refine ld_r1 hs ?_ | refine ld_rd0 ha_ hs ?_ | refine ld_rd1 ha_ hs ?_) | ((with_reducible refine isSt ?_); first | refine st_b hs fun w hs=>?_ | refine st_r0 hs fun w hs=>?_ | refine st_r1 hs fun w hs=>?_) | ((with_reducible refine isIdx ?_); first | refine idx_s hs fun b_ o_ hs=>?_ | refine idx_rd hs fun b_ o_ ha_=>?_) | with_reducible refine newB_at hs fun b_ w hs=>?_ | ((with_reducible refine isLdS ?_); first | refine ldS_b ?_ | refine ldS_b (x:=⟨_,_,_⟩) ?_ | refine ldS_rs0 hs ?_ | refine ldS_rd0 ha_ ?_) | ((with_reducible refine isKeep ?_); first | refine keep_of hs ?_ | refine keep_imp hs ?_) | with_reducible refine when_om ?_ | with_reducible refine drawW_sat hs fun w hs=>?_)
   exact ⟨_,_,_,_,_,_,rfl,pnl_shut hl (by exact Sat.fin hs)⟩
  | succ f ih=>
   intro i w a xs hi hx hs
   rw [f53_l1_raw]
   refine nilck_some (ld_b (x:=s) hs ?_)
   refine ite_true (decide_eq_true (by omega)) ?_
   refine nilck_some (ld_b (x:=s) hs ?_)
   refine idx_rd (s:=s) hs fun b_ o_ ha_=>?_
   refine ld_rd0 ha_ hs ?_
   have hil:i < l.length:=by omega
   have e:l.getD ((i:Int)).toNat default = l[i]:=by rw [Int.toNat_natCast,List.getD_eq_getElem?_getD,List.getElem?_eq_getElem hil]; rfl
   rw [e]
   have hs:=pick_at hil hs
   refine Calls.mono (q17_Epoch hs) fun e_ w ⟨v,he,x,y,z,hv,hc,hs⟩=>⟨x,y,z,by rw [he,hv],?_⟩
   have hs:=put_same hil hs
   refine newB_at hs fun cb w hs=>?_
   iterate 3 refine st_b hs fun w hs=>?_
   refine drawW_only [blk cb [.int .i64 x,.int .i64 y,.int .i64 z]] hs fun w hs=>?_
   refine ldS_b (ldS_b (when_of (by omega) ?_))
   refine st_at 2 (cs:=ints xs) hs rfl (by unfold ints; simp; omega) fun w hs=>?_
   have e2:0 + ((i:Int)).toNat * 1 = i:=by omega
   rw [e2,ints_set] at hs
   have hs:Sat W w (blk cb [.int .i64 x,.int .i64 y,.int .i64 z]::allH (l.map shw)::blk gb (ints (xs.set i z))::blk tb (ints [0,0,0,0,0])::blk b [.pointer (some ⟨p,0,none⟩),.int .i64 rm,.slice s.a s.n s.c]::recs Rec.ptr s l::smp p::M):=hs
   refine keep_imp hs ?_
   rw [show IntKind.wrap .i64 ((i:Int) + 1) = ((i + 1:Nat):Int) by rw [i64_in _ (by omega)]; omega]
   exact ih (i + 1) w x (xs.set i z) (by omega) (by simpa using hx) hs.drop
 exact exM_of _ (loop 5 0 w 0 [0,0,0,0,0] (by omega) rfl hs)
end
end Go.Proofs.YtmefopmnjncdbaaGreat
