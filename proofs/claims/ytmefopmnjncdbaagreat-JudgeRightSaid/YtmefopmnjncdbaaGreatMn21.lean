import Derived.Test.YtmefopmnjncdbaaGreatMn20
set_option linter.unusedVariables false
set_option linter.unusedSimpArgs false
set_option linter.unnecessarySimpa false
set_option linter.unusedSectionVars false
set_option maxRecDepth 100000
namespace Go.Hb
def okB (c:Int):Prop:=(97 <= c /\ c <= 122) \/ (65 <= c /\ c <= 90) \/ (48 <= c /\ c <= 57) \/ c = 95 \/ c = 45 \/ c = 46 \/ c = 47 \/ c = 58
instance {c:Int}:Decidable (okB c):=by unfold okB; infer_instance
def isKey (s:ByteArray):Bool:=decide (1 <= s.size /\ s.size <= 24 /\ ∀ j,j < s.size -> okB (byteAt s j))
theorem isKey_size {s:ByteArray} (h:isKey s = true):s.size <= 24:=(of_decide_eq_true h).2.1
abbrev TT:=List (ByteArray × (ByteArray × Int))
def entR:Rec (ByteArray × (ByteArray × Int)):=⟨3,fun e=>[.string e.1,.string e.2.1,.int .i64 e.2.2],fun _=>rfl⟩
instance:OkR entR:=⟨fun _=>rfl⟩
instance:PosR entR:=⟨by decide⟩
instance {k v:ByteArray} {e:Int}:RecOf entR [.string k,.string v,.int .i64 e] (k,(v,e)):=⟨rfl⟩
structure TOk (r:TT):Prop where
 rise:RiseM r
 small:∀ e ∈ r,e.1.size < 4611686018427387904
 ends:∀ e ∈ r,0 <= e.2.2
def tOver (e now:Int):Bool:=decide (e ≠ 0 /\ e <= now)
def tGet (r:TT) (k:ByteArray) (now:Int):ByteArray × Bool:=match mGet r k with
 | some v=>if tOver v.2 now then (⟨#[]⟩,false) else (v.1,true)
 | none=>(⟨#[]⟩,false)
def tDue (r:TT) (now:Int):List ByteArray:=(r.filter fun e=>tOver e.2.2 now).map (·.1)
def tErr (k v:ByteArray) (now life:Int):Int:=if isKey k = false then 2 else if 64 < (v.size:Int) then 3 else if now < 0 \/ 1125899906842624 < now \/ life < 0 \/ 1099511627776 < life then 1 else 0
def tEnd (now life:Int):Int:=if 0 < life then now + life else 0
def tPut (r:TT) (k v:ByteArray) (now life:Int):TT:=if tErr k v now life = 0 then rPut r k (v,tEnd now life) else r
def tFresh (r:TT) (k v:ByteArray) (now life:Int):Bool:=decide (tErr k v now life = 0) && (mGet r k).isNone
theorem tErr_ok {k v:ByteArray} {now life:Int} (h:tErr k v now life = 0):isKey k = true /\ (v.size:Int) <= 64 /\ 0 <= now /\ now <= 1125899906842624 /\ 0 <= life /\ life <= 1099511627776:=by
 unfold tErr at h
 split at h
 ·omega
 ·rename_i h1
  split at h
  ·omega
  ·split at h
   ·omega
   ·exact ⟨by simpa using h1,by omega,by omega,by omega,by omega,by omega⟩
theorem rPut_mem {r:TT} {k:ByteArray} {v:ByteArray × Int} {e:ByteArray × (ByteArray × Int)} (hr:RiseM r) (h:e ∈ rPut r k v):e ∈ r \/ e = (k,v):=by
 have h2:=(rPut_perm (v:=v) hr).mem_iff.1 h
 unfold mPut at h2
 split at h2
 ·unfold mSet at h2
  obtain ⟨a,ha,h3⟩:=List.mem_map.1 h2
  split at h3
  ·exact .inr h3.symm
  ·exact .inl (h3 ▸ ha)
 ·rcases List.mem_cons.1 h2 with h3 | h3
  ·exact .inr h3
  ·exact .inl h3
theorem rPut_len {r:TT} {k:ByteArray} {v:ByteArray × Int} (hr:RiseM r):(rPut r k v).length <= r.length + 1:=by
 rw [(rPut_perm (v:=v) hr).length_eq]; exact mPut_len _ _ _
theorem TOk.put {r:TT} (h:TOk r) (k v:ByteArray) (now life:Int):TOk (tPut r k v now life):=by
 unfold tPut
 split
 ·rename_i he
  obtain ⟨h1,h2,h3,h4,h5,h6⟩:=tErr_ok he
  have hk:=isKey_size h1
  have hend:0 <= tEnd now life:=by unfold tEnd; split <;> omega
  refine ⟨rPut_rise h.rise,fun e he=>?_,fun e he=>?_⟩
  ·rcases rPut_mem h.rise he with he | rfl
   ·exact h.small e he
   ·simp only; omega
  ·rcases rPut_mem h.rise he with he | rfl
   ·exact h.ends e he
   ·exact hend
 ·exact h
theorem tPut_len {r:TT} (h:TOk r) (k v:ByteArray) (now life:Int):(tPut r k v now life).length <= r.length + 1:=by
 unfold tPut
 split
 ·exact rPut_len h.rise
 ·omega
theorem TOk.del {r:TT} (h:TOk r) (k:ByteArray):TOk (rDel r k):=by
 refine ⟨rDel_rise h.rise,fun e he=>?_,fun e he=>?_⟩
 ·rw [rDel_eq h.rise] at he; exact h.small e (List.mem_filter.1 he).1
 ·rw [rDel_eq h.rise] at he; exact h.ends e (List.mem_filter.1 he).1
theorem rDel_len {r:TT} (h:TOk r) (k:ByteArray):(rDel r k).length <= r.length:=by rw [rDel_eq h.rise]; exact mDel_le _ _
theorem ref_over {e now:Int} (h:0 <= e):(decide (e > 0) && decide (e <= now)) = tOver e now:=by
 unfold tOver
 rw [Bool.eq_iff_iff]
 simp only [Bool.and_eq_true,decide_eq_true_eq]
 omega
def tabR (b:Nat) (r:TT):HP:=exH fun (xb:Nat)=>andH (TOk r) (allH [blk b [.pointer (some ⟨xb,0,none⟩)],ixr Rec.si xb 0 r])
def rtR (b:Nat) (r:TT):HP:=exH fun (s:Sl)=>allH [blk b [.slice s.a s.n s.c],recs entR s r]
section
variable {b:Nat} {m r:TT} {W w:World} {M L:List HP}
instance At.tabR:At (tabR b r::L) b (tabR b r) (fun x=>x::L):=⟨here_pos⟩
instance At.rtR:At (rtR b r::L) b (rtR b r) (fun x=>x::L):=⟨here_pos⟩
theorem rt_open (h:Sat W w (rtR b m::M)):∃ s:Sl,(s.n = m.length /\ s.n <= s.c) /\ Sat W w (blk b [.slice s.a s.n s.c]::recs entR s m::M):=by
 obtain ⟨s,h⟩:=h.openE
 have h:=h.openL
 have h:Sat W w (blk b [.slice s.a s.n s.c]::recs entR s m::M):=h
 exact ⟨s,recs_len (s:=s) h,h⟩
theorem rt_shut (s:Sl) (h:Sat W w (blk b [.slice s.a s.n s.c]::recs entR s m::M)):Sat W w (rtR b m::M):=Sat.shutE s (Sat.shutL (Ps:=[_,_]) h)
theorem tab_open (h:Sat W w (tabR b r::M)):∃ xb,TOk r /\ Sat W w (blk b [.pointer (some ⟨xb,0,none⟩)]::ixr Rec.si xb 0 r::M):=by
 obtain ⟨xb,h⟩:=h.openE
 obtain ⟨hi,h⟩:=h.openA
 exact ⟨xb,hi,h.openL⟩
theorem tab_shut {xb:Nat} (hi:TOk r) (h:Sat W w (blk b [.pointer (some ⟨xb,0,none⟩)]::ixr Rec.si xb 0 r::M)):Sat W w (tabR b r::M):=Sat.shutE xb (Sat.shutA hi (Sat.shutL (Ps:=[_,_]) h))
end
end Go.Hb
namespace Go.Proofs.YtmefopmnjncdbaaGreat
open Go.Hb Go.IntWalk
section
variable {W w:World} {L M:List HP} {F:HP -> List HP} {b:Nat} {m r:TT} {k v:ByteArray} {now life:Int}
theorem indexByte_signs (c:Nat) (hc:c < 256):(Lib.indexByte str______.data.toList ((c:Int)).toNat.toUInt8 < 0) ↔ ¬ ((c:Int) = 95 \/ (c:Int) = 45 \/ (c:Int) = 46 \/ (c:Int) = 47 \/ (c:Int) = 58):=by
 have h:∀ c:Fin 256,(Lib.indexByte str______.data.toList (((c.val:Nat):Int)).toNat.toUInt8 < 0) ↔ ¬ (((c.val:Nat):Int) = 95 \/ ((c.val:Nat):Int) = 45 \/ ((c.val:Nat):Int) = 46 \/ ((c.val:Nat):Int) = 47 \/ ((c.val:Nat):Int) = 58):=by decide +kernel
 exact h ⟨c,hc⟩
theorem byteAt_lt (s:ByteArray) (i:Nat):∃ c:Nat,c < 256 /\ byteAt s i = (c:Int):=⟨((s.data.toList[i]?).getD 0).toNat,UInt8.toNat_lt _,rfl⟩
theorem ixb_at (hs:Sat W w L) {c:Int} {s:ByteArray}:Calls Tryz.prog 142 #[.string s,.int .u8 c] w fun e w'=>e = .returned (.int .i64 (Lib.indexByte s.data.toList c.toNat.toUInt8)) /\ Sat W w' L:=by
 refine (Tryz.strings_IndexByte s c w).mono fun e w' h=>?_
 exact ⟨h.1,by rw [h.2]; exact hs⟩
theorem mkey_at (hs:Sat W w L):Calls Tryz.prog 107 #[.string k] w fun e w'=>e = .returned (.bool (isKey k)) /\ Sat W w' L:=by
 refine c1 (cw f107_ok f107_raw ?_)
 with_reducible refine ite_ltI (fun h1=>?_) (fun h1=>?_)
 ·have:isKey k = false:=decide_eq_false fun h=>by omega
  exact ⟨by rw [this],hs⟩
 with_reducible refine ite_ltI (fun h2=>?_) (fun h2=>?_)
 ·have:isKey k = false:=decide_eq_false fun h=>by omega
  exact ⟨by rw [this],hs⟩
 refine jw f107_j1_raw ?_
 have loop:∀ (f i:Nat) (w:World),i + f = k.size -> (∀ j,j < i -> okB (byteAt k j)) -> Sat W w L -> f107_l2 idJ (fun v w'=>v = .bool (isKey k) /\ Sat W w' L) (f + 1) k (k.size:Int) (i:Int) w:=by
  intro f
  induction f with
  | zero=>
   intro i w hi hok hs
   rw [f107_l2_raw]
   refine ite_false (decide_eq_false (by omega)) ?_
   refine jw f107_j3_raw ?_
   have:isKey k = true:=decide_eq_true ⟨by omega,by omega,fun j hj=>hok j (by omega)⟩
   exact ⟨by rw [this],hs⟩
  | succ f ih=>
   intro i w hi hok hs
   rw [f107_l2_raw]
   refine ite_true (decide_eq_true (by omega)) (when_of (by omega) ?_)
   rw [Int.toNat_natCast]
   have next:∀ w,okB (byteAt k i) -> Sat W w L -> f107_l2 idJ (fun v w'=>v = .bool (isKey k) /\ Sat W w' L) (f + 1) k (k.size:Int) (IntKind.wrap .i64 ((i:Int) + 1)) w:=by
    intro w h hs
    rw [i64_in _ (by omega)]
    refine ih (i + 1) w (by omega) (fun j hj=>?_) hs
    by_cases hji:j = i
    ·subst hji; exact h
    ·exact hok j (by omega)
   have bad:¬ okB (byteAt k i) -> isKey k = false:=fun h=>decide_eq_false fun h2=>h (h2.2.2 i (by omega))
   have look:∀ (K1 K2:WP),K1 = (fun w'=>Value.bool false = .bool (isKey k) /\ Sat W w' L) -> K2 = (f107_l2 idJ (fun v w'=>v = .bool (isKey k) /\ Sat W w' L) (f + 1) k (k.size:Int) (IntKind.wrap .i64 ((i:Int) + 1))) ->
     ¬ (97 <= byteAt k i /\ byteAt k i <= 122) -> ¬ (65 <= byteAt k i /\ byteAt k i <= 90) -> ¬ (48 <= byteAt k i /\ byteAt k i <= 57) -> call1 (.int .i64) Tryz.prog 142 [.string str______,.int .u8 (byteAt k i)] (fun (x_1:Int)=>ite2 (decide (x_1 < (0:Int))) K1 K2) w:=by
    intro K1 K2 e1 e2 n1 n2 n3
    subst e1 e2
    refine call1_of (ixb_at hs) fun e w ⟨he,hs⟩=>⟨_,he,?_⟩
    obtain ⟨c,hc,hb⟩:=byteAt_lt k i
    have hx:=indexByte_signs c hc
    rw [<- hb] at hx
    with_reducible refine ite_ltI (fun h5=>?_) (fun h5=>?_)
    ·have h6:=hx.1 h5
     refine ⟨by rw [bad (by unfold okB; omega)],hs⟩
    ·refine next w ?_ hs
     have h6:¬ ¬ _:=fun h=>h5 (hx.2 h)
     unfold okB; omega
   generalize hbt:byteAt k i = c at *
   have look:=fun n1 n2 n3=>look _ _ rfl rfl n1 n2 n3
   have next:=next w
   repeat' first
    | with_reducible refine ite_ltI (fun h9=>?_) (fun h9=>?_)
    | with_reducible refine ite_gtI (fun h9=>?_) (fun h9=>?_)
   all_goals first
    | (with_reducible exact look (by omega) (by omega) (by omega))
    | (with_reducible exact next (by unfold okB; omega) hs)
 exact ⟨k.size + 1,loop k.size 0 w (by omega) (fun j hj=>by omega) hs⟩
set_option maxHeartbeats 1000000 in
set_option maxRecDepth 100000 in
theorem rkey_at (hs:Sat W w L):Calls Tryz.prog 70 #[.string k] w fun e w'=>e = .returned (.bool (isKey k)) /\ Sat W w' L:=by
 refine c1 (cw f70_ok f70_raw ?_)
 have fin:∀ w,(k.size <= 24 -> ∀ j,j < k.size -> okB (byteAt k j)) -> Sat W w L -> f70_j4 idJ (fun v w'=>v = .bool (isKey k) /\ Sat W w' L) k w:=by
  intro w h hs
  refine jw f70_j4_raw ?_
  with_reducible refine ite_leI (fun h1=>?_) (fun h1=>?_)
  ·refine ⟨?_,hs⟩
   congr 1
   unfold isKey
   rw [Bool.eq_iff_iff,decide_eq_true_eq,decide_eq_true_eq]
   constructor
   ·intro h2; exact ⟨by omega,by omega,h (by omega)⟩
   ·intro h2; omega
  ·have:isKey k = false:=decide_eq_false fun h=>by omega
   exact ⟨by rw [this],hs⟩
 obtain ⟨N,hN⟩:∃ N:Nat,N = 25:=⟨_,rfl⟩
 have loop:∀ (f i:Nat) (w:World),i + f = N -> (∀ j,j < i -> j < k.size -> okB (byteAt k j)) -> Sat W w L -> f70_l1 idJ (fun v w'=>v = .bool (isKey k) /\ Sat W w' L) (f + 1) k (i:Int) w:=by
  intro f
  induction f with
  | zero=>
   intro i w hi hok hs
   rw [f70_l1_raw]
   with_reducible refine ite_ltI (fun h1=>?_) (fun h1=>?_)
   ·with_reducible refine ite_leI (fun h2=>absurd h2 (by omega)) (fun h2=>?_)
    with_reducible exact fin w (fun h j hj=>by omega) hs
   ·with_reducible exact fin w (fun h j hj=>hok j (by omega) hj) hs
  | succ f ih=>
   intro i w hi hok hs
   rw [f70_l1_raw]
   with_reducible refine ite_ltI (fun h1=>?_) (fun h1=>?_)
   ·with_reducible refine ite_leI (fun h2=>?_) (fun h2=>?_)
    ·refine jw f70_j2_raw ?_
     refine when_of (by omega) ?_
     rw [Int.toNat_natCast]
     have next:∀ w,okB (byteAt k i) -> Sat W w L -> f70_l1 idJ (fun v w'=>v = .bool (isKey k) /\ Sat W w' L) (f + 1) k (IntKind.wrap .i64 ((i:Int) + 1)) w:=by
      intro w h hs
      rw [i64_in _ (by omega)]
      refine ih (i + 1) w (by omega) (fun j hj hj2=>?_) hs
      by_cases hji:j = i
      ·subst hji; exact h
      ·exact hok j (by omega) hj2
     have bad:¬ okB (byteAt k i) -> isKey k = false:=fun h=>decide_eq_false fun h2=>h (h2.2.2 i (by omega))
     generalize hbt:byteAt k i = c at *
     have j3:∀ (t:Bool),t = decide ((97 <= c /\ c <= 122) \/ (65 <= c /\ c <= 90) \/ (48 <= c /\ c <= 57)) -> f70_j3 idJ (fun v w'=>v = .bool (isKey k) /\ Sat W w' L) (f + 1) k (i:Int) c t w:=by
      intro t ht
      refine jw f70_j3_raw ?_
      rw [ht]
      have next:=next w
      with_reducible refine ite_ndec (fun h3=>?_) (fun h3=>?_)
      ·repeat' first
        | with_reducible refine ite_neI (fun h9=>?_) (fun h9=>?_)
       all_goals first
        | (with_reducible exact next (by unfold okB; omega) hs)
        | exact ⟨by rw [bad (by unfold okB; omega)],hs⟩
      ·with_reducible exact next (by unfold okB; omega) hs
     repeat' first
      | with_reducible refine ite_geI (fun h9=>?_) (fun h9=>?_)
      | with_reducible refine ite_leI (fun h9=>?_) (fun h9=>?_)
     all_goals
      with_reducible refine j3 _ ?_
      symm
      first
       | (rw [decide_eq_true_eq]; omega)
       | (rw [decide_eq_false_iff_not]; omega)
       | (rw [Bool.eq_iff_iff,decide_eq_true_eq,decide_eq_true_eq]; omega)
    ·with_reducible exact fin w (fun h j hj=>hok j (by omega) hj) hs
   ·with_reducible exact fin w (fun h j hj=>hok j (by omega) hj) hs
 exact ⟨N + 1,loop N 0 w (by omega) (fun j hj=>by omega) hs⟩
theorem tab_New (hs:Sat W w L):Calls Tryz.prog 31 #[] w fun e w'=>∃ b,e = .returned (.pointer (some ⟨b,0,none⟩)) /\ Sat W w' (tabR b []::L):=by
 refine (cw f31_ok f31_raw (Q:=fun v w'=>∃ b,v = .pointer (some ⟨b,0,none⟩) /\ Sat W w' (tabR b []::L)) ?_).mono fun e w' ⟨v,he,b,hv,hs⟩=>⟨b,by rw [he,hv],hs⟩
 refine (value_New hs).mono fun e w ⟨xb,he,hs⟩=>⟨_,he,?_⟩
 repeat (first | ((with_reducible refine isNew ?_); first | refine newB_at hs fun b_ w hs=>?_ | fail) | fail)
 exact ⟨_,rfl,tab_shut (xb:=xb) ⟨by simp [RiseM,Rising],by simp,by simp⟩ hs⟩
set_option maxRecDepth 100000 in
theorem tab_Put (h:Sat W w L) [hA:At L b (tabR b r) F] (hm:r.length < 800000000):Calls Tryz.prog 66 #[.pointer (some ⟨b,0,none⟩),.string k,.string v,.int .i64 now,.int .i64 life] w fun e w'=>e = .returned (.tuple #[.bool (tFresh r k v now life),.int .i64 (tErr k v now life)]) /\ Sat W w' (F (tabR b (tPut r k v now life))):=by
 refine At.call1 (hA:=hA) h fun M hs=>?_
 clear h hA
 refine c1 (cw f66_ok f66_raw ?_)
 refine ite_false rfl ?_
 have bad:∀ (e:Int),e ≠ 0 -> tErr k v now life = e -> tFresh r k v now life = false /\ tPut r k v now life = r:=fun e he h=>by
  unfold tFresh tPut
  rw [h,if_neg he,decide_eq_false he]; exact ⟨rfl,rfl⟩
 refine call1_of (mkey_at hs) fun e w ⟨he,hs⟩=>⟨_,he,?_⟩
 refine ite_cases (fun h1=>?_) (fun h1=>?_)
 ·have h1:isKey k = false:=by simpa using h1
  have e1:tErr k v now life = 2:=if_pos h1
  obtain ⟨b1,b2⟩:=bad 2 (by omega) e1
  rw [b1,b2,e1]; exact ⟨rfl,hs⟩
 have h1:¬ isKey k = false:=by simpa using h1
 with_reducible refine ite_ltI (fun h2=>?_) (fun h2=>?_)
 ·have e1:tErr k v now life = 3:=by unfold tErr; rw [if_neg h1,if_pos (by omega)]
  obtain ⟨b1,b2⟩:=bad 3 (by omega) e1
  rw [b1,b2,e1]; exact ⟨rfl,hs⟩
 have e1:tErr k v now life = if now < 0 \/ 1125899906842624 < now \/ life < 0 \/ 1099511627776 < life then 1 else 0:=by unfold tErr; rw [if_neg h1,if_neg (by omega)]
 have one:(now < 0 \/ 1125899906842624 < now \/ life < 0 \/ 1099511627776 < life) -> (Value.tuple #[.bool false,.int .i64 1] = .tuple #[.bool (tFresh r k v now life),.int .i64 (tErr k v now life)]) /\ Sat W w (tabR b (tPut r k v now life)::M):=by
  intro h
  rw [if_pos h] at e1
  obtain ⟨b1,b2⟩:=bad 1 (by omega) e1
  rw [b1,b2,e1]; exact ⟨rfl,hs⟩
 with_reducible refine ite_ltI (fun h3=>?_) (fun h3=>?_)
 ·exact one (.inl h3)
 with_reducible refine ite_ltI (fun h4=>?_) (fun h4=>?_)
 ·exact one (.inr (.inl h4))
 with_reducible refine ite_ltI (fun h5=>?_) (fun h5=>?_)
 ·exact one (.inr (.inr (.inl h5)))
 with_reducible refine ite_ltI (fun h6=>?_) (fun h6=>?_)
 ·exact one (.inr (.inr (.inr h6)))
 rw [if_neg (by omega)] at e1
 have hkz:=isKey_size (s:=k) (by simpa using h1)
 have hok:=(tab_open hs)
 obtain ⟨xb,hi,hs⟩:=hok
 have hput:=hi.put k v now life
 have e2:tPut r k v now life = rPut r k (v,tEnd now life):=if_pos e1
 have e3:tFresh r k v now life = (mGet r k).isNone:=by unfold tFresh; rw [e1]; rfl
 rw [e2] at hput ⊢
 rw [e3,e1]
 refine jw f66_j1_raw ?_
 have j2:∀ (vb:Nat) (w:World),Sat W w (blk vb [.string v,.int .i64 (tEnd now life)]::blk b [.pointer (some ⟨xb,0,none⟩)]::ixr Rec.si xb 0 r::M) -> f66_j2 idJ (fun v' w'=>v' = .tuple #[.bool (mGet r k).isNone,.int .i64 0] /\ Sat W w' (tabR b (rPut r k (v,tEnd now life))::M)) (some ⟨b,0,none⟩) k vb 0 w:=by
  intro vb w hs
  refine jw f66_j2_raw ?_
  repeat (first | with_reducible refine nilck_some ?_ | ((with_reducible refine atLd ?_); first | refine ld_b hs ?_ | fail) | ((with_reducible refine isLdS ?_); first | refine ldS_b ?_ | fail) | ((with_reducible refine isKeep ?_); first | refine keep_of hs ?_ | fail) | ((with_reducible refine isDraw ?_); first | refine drawW_sat hs fun w hs=>?_ | fail) | fail)
  refine call1_of (value_Put (v:=(v,tEnd now life)) hs (by omega) hi.small (by omega)) fun e w ⟨he,hs⟩=>⟨_,he,?_⟩
  have hs:Sat W w (ixr Rec.si xb 0 (mPut r k (v,tEnd now life))::blk b [.pointer (some ⟨xb,0,none⟩)]::M):=by exact Sat.fin hs
  have hs:=ixr_perm (rPut_perm (v:=(v,tEnd now life)) hi.rise).symm hs
  exact ⟨rfl,tab_shut hput (by exact Sat.fin hs)⟩
 unfold tEnd at j2 ⊢
 repeat (first | ((with_reducible refine isSt ?_); first | refine st_b hs fun w hs=>?_ | fail) | ((with_reducible refine isNew ?_); first | refine newB_at hs fun b_ w hs=>?_ | fail) | fail)
 with_reducible refine ite_ltI (fun h7=>?_) (fun h7=>?_)
 ·repeat (first | ((with_reducible refine isSt ?_); first | refine st_b hs fun w hs=>?_ | fail) | fail)
  rw [i64_in _ (by omega)] at hs
  rw [if_pos h7] at j2 ⊢
  exact j2 _ w hs
 ·rw [if_neg h7] at j2 ⊢
  exact j2 _ w hs
theorem over_at (hs:Sat W w L) {e0:Int}:Calls Tryz.prog 105 #[.agg #[.string v,.int .i64 e0],.int .i64 now] w fun e w'=>e = .returned (.bool (tOver e0 now)) /\ Sat W w' L:=by
 refine c1 (cw f105_ok f105_raw ?_)
 repeat (first | ((with_reducible refine atLd ?_); first | refine ld_b hs ?_ | fail) | ((with_reducible refine isNew ?_); first | refine newB_at hs fun b_ w hs=>?_ | fail) | fail)
 with_reducible refine ite_neI (fun h1=>?_) (fun h1=>?_)
 ·repeat (first | ((with_reducible refine atLd ?_); first | refine ld_b hs ?_ | fail) | fail)
  refine ⟨?_,by exact Sat.fin hs⟩
  congr 1
  unfold tOver
  rw [Bool.eq_iff_iff,decide_eq_true_eq,decide_eq_true_eq]
  constructor
  ·intro h; exact ⟨h1,h⟩
  ·intro h; exact h.2
 ·refine ⟨?_,by exact Sat.fin hs⟩
  congr 1
  symm
  unfold tOver
  rw [decide_eq_false_iff_not]; omega
theorem tab_Get (h:Sat W w L) [hA:At L b (tabR b r) F] (hz:k.size < 4611686018427387904):Calls Tryz.prog 63 #[.pointer (some ⟨b,0,none⟩),.string k,.int .i64 now] w fun e w'=>e = .returned (.tuple #[.string (tGet r k now).1,.bool (tGet r k now).2]) /\ Sat W w' (F (tabR b r)):=by
 refine At.call1 (hA:=hA) h fun M hs=>?_
 clear h hA
 refine c1 (cw f63_ok f63_raw ?_)
 obtain ⟨xb,hi,hs⟩:=tab_open hs
 refine ite_false rfl ?_
 repeat (first | with_reducible refine nilck_some ?_ | ((with_reducible refine atLd ?_); first | refine ld_b hs ?_ | fail) | fail)
 refine (value_Get hs hz).mono fun e w ⟨he,hs⟩=>⟨_,_,_,he,?_⟩
 repeat (first | ((with_reducible refine isSt ?_); first | refine st_b hs fun w hs=>?_ | fail) | ((with_reducible refine isNew ?_); first | refine newB_at hs fun b_ w hs=>?_ | fail) | fail)
 unfold tGet
 cases hg:mGet r k with
 | none=>
  rw [hg] at hs
  exact ite_true rfl ⟨rfl,tab_shut hi (by exact Sat.fin hs)⟩
 | some x=>
  rw [hg] at hs
  refine ite_false rfl ?_
  simp only [Option.getD_some] at hs
  repeat (first | ((with_reducible refine atLd ?_); first | refine ld_b hs ?_ | fail) | fail)
  refine call1_of (over_at hs) fun e w ⟨he,hs⟩=>⟨_,he,?_⟩
  refine ite_cases (fun h1=>?_) (fun h1=>?_)
  ·simp only [h1,if_true]
   exact ⟨rfl,tab_shut hi (by exact Sat.fin hs)⟩
  ·repeat (first | ((with_reducible refine atLd ?_); first | refine ld_b hs ?_ | fail) | fail)
   simp only [h1,Bool.false_eq_true,if_false]
   exact ⟨trivial,tab_shut hi (by exact Sat.fin hs)⟩
theorem tab_Has (h:Sat W w L) [hA:At L b (tabR b r) F] (hz:k.size < 4611686018427387904):Calls Tryz.prog 64 #[.pointer (some ⟨b,0,none⟩),.string k] w fun e w'=>e = .returned (.bool (mGet r k).isSome) /\ Sat W w' (F (tabR b r)):=by
 refine At.call1 (hA:=hA) h fun M hs=>?_
 clear h hA
 refine c1 (cw f64_ok f64_raw ?_)
 obtain ⟨xb,hi,hs⟩:=tab_open hs
 refine ite_false rfl ?_
 repeat (first | with_reducible refine nilck_some ?_ | ((with_reducible refine atLd ?_); first | refine ld_b hs ?_ | fail) | fail)
 refine (value_Get hs hz).mono fun e w ⟨he,hs⟩=>⟨_,_,_,he,?_⟩
 repeat (first | ((with_reducible refine isSt ?_); first | refine st_b hs fun w hs=>?_ | fail) | ((with_reducible refine isNew ?_); first | refine newB_at hs fun b_ w hs=>?_ | fail) | fail)
 exact ⟨rfl,tab_shut hi (by exact Sat.fin hs)⟩
theorem tab_Delete (h:Sat W w L) [hA:At L b (tabR b r) F] (hz:k.size < 4611686018427387904) (hm:r.length < 800000000):Calls Tryz.prog 65 #[.pointer (some ⟨b,0,none⟩),.string k] w fun e w'=>e = .returned (.bool (mGet r k).isSome) /\ Sat W w' (F (tabR b (rDel r k))):=by
 refine At.call1 (hA:=hA) h fun M hs=>?_
 clear h hA
 refine c1 (cw f65_ok f65_raw ?_)
 obtain ⟨xb,hi,hs⟩:=tab_open hs
 refine ite_false rfl ?_
 repeat (first | with_reducible refine nilck_some ?_ | ((with_reducible refine atLd ?_); first | refine ld_b hs ?_ | fail) | fail)
 refine (value_Delete hs hz (by omega)).mono fun e w ⟨he,hs⟩=>⟨_,_,_,he,?_⟩
 repeat (first | ((with_reducible refine isSt ?_); first | refine st_b hs fun w hs=>?_ | fail) | ((with_reducible refine isNew ?_); first | refine newB_at hs fun b_ w hs=>?_ | fail) | fail)
 rw [<- rDel_eq hi.rise] at hs
 exact ⟨rfl,tab_shut (hi.del k) (by exact Sat.fin hs)⟩
theorem tab_Len (h:Sat W w L) [hA:At L b (tabR b r) F]:Calls Tryz.prog 67 #[.pointer (some ⟨b,0,none⟩)] w fun e w'=>e = .returned (.int .i64 (r.length:Int)) /\ Sat W w' (F (tabR b r)):=by
 refine At.call1 (hA:=hA) h fun M hs=>?_
 clear h hA
 refine c1 (cw f67_ok f67_raw ?_)
 obtain ⟨xb,hi,hs⟩:=tab_open hs
 refine ite_false rfl ?_
 repeat (first | with_reducible refine nilck_some ?_ | ((with_reducible refine atLd ?_); first | refine ld_b hs ?_ | fail) | fail)
 refine call1_of (value_Len hs) fun e w ⟨he,hs⟩=>⟨_,he,?_⟩
 exact ⟨rfl,tab_shut hi (by exact Sat.fin hs)⟩
theorem tDue_snoc {r:TT} {i:Nat} (hi:i < r.length):tDue (r.take (i + 1)) now = tDue (r.take i) now ++ (if tOver (r.getD i default).2.2 now then [(r.getD i default).1] else []):=by
 unfold tDue
 rw [take_snoc hi,List.filter_append,List.map_append]
 congr 1
 rw [List.filter_cons]
 split <;> rfl
theorem tDue_len (r:TT) (i:Nat):(tDue (r.take i) now).length <= i:=by
 unfold tDue
 rw [List.length_map]
 exact Nat.le_trans (List.length_filter_le _ _) (by simp; omega)
theorem atR_drop {V:Type} [Inhabited V] {m:List (ByteArray × V)} {i:Nat} (h:i < m.length):m.drop i = m.getD i default::m.drop (i + 1):=by
 rw [List.getD_eq_getElem?_getD,List.getElem?_eq_getElem h]; simp
theorem r21_at (h:Sat W w L) [hA:At L b (rtR b m) F] (hm:m.length < 1000000000):Calls Tryz.prog 71 #[.pointer (some ⟨b,0,none⟩),.string k] w fun e w'=>e = .returned (.tuple #[.int .i64 ((atR m k).1:Int),.bool (atR m k).2]) /\ Sat W w' (F (rtR b m)):=by
 refine At.call1 (hA:=hA) h fun M hs=>?_
 clear h hA
 refine c1 (cw f71_ok f71_raw ?_)
 obtain ⟨s,⟨hn,hc⟩,hs⟩:=rt_open hs
 have loop:∀ (f i:Nat) (w:World),i + f = m.length -> i + (atR (m.drop i) k).1 = (atR m k).1 -> (atR (m.drop i) k).2 = (atR m k).2 -> Sat W w (blk b [.slice s.a s.n s.c]::recs entR s m::M) ->
   f71_l1 idJ (fun v w'=>v = .tuple #[.int .i64 ((atR m k).1:Int),.bool (atR m k).2] /\ Sat W w' (rtR b m::M)) (f + 1) (some ⟨b,0,none⟩) k (i:Int) w:=by
  intro f
  induction f with
  | zero=>
   intro i w hi h1 h2 hs
   rw [f71_l1_raw]
   repeat (first | with_reducible refine nilck_some ?_ | ((with_reducible refine atLd ?_); first | refine ld_b hs ?_ | fail) | fail)
   refine ite_false (decide_eq_false (by omega)) ?_
   refine jw f71_j2_raw ?_
   repeat (first | with_reducible refine nilck_some ?_ | ((with_reducible refine atLd ?_); first | refine ld_b hs ?_ | fail) | ((with_reducible refine isDraw ?_); first | refine drawW_sat hs fun w hs=>?_ | fail) | fail)
   refine ite_false (decide_eq_false (by omega)) ?_
   rw [List.drop_of_length_le (by omega)] at h1 h2
   rw [<- h1,<- h2]
   exact ⟨rfl,rt_shut s hs⟩
  | succ f ih=>
   intro i w hi h1 h2 hs
   have hil:i < m.length:=by omega
   rw [atR_drop hil] at h1 h2
   rw [f71_l1_raw]
   repeat (first | with_reducible refine nilck_some ?_ | ((with_reducible refine atLd ?_); first | refine ld_b hs ?_ | fail) | fail)
   refine ite_true (decide_eq_true (by omega)) ?_
   repeat (first | with_reducible refine nilck_some ?_ | ((with_reducible refine atLd ?_); first | refine ld_b hs ?_ | refine ld_r0 hs ?_ | fail) | ((with_reducible refine isIdx ?_); first | refine idx_s hs fun b_ o_ hs=>?_ | fail) | fail)
   rw [Int.toNat_natCast]
   rw [atR_cons] at h1 h2
   refine ite_cases (fun h3=>?_) (fun h3=>?_)
   ·rw [if_pos h3] at h1 h2
    rw [i64_in _ (by omega)]
    refine ih (i + 1) w (by omega) (by simp only [] at h1; omega) (by simpa using h2) (by exact Sat.fin hs)
   ·rw [if_neg (by rw [h3]; simp)] at h1 h2
    refine jw f71_j2_raw ?_
    repeat (first | with_reducible refine nilck_some ?_ | ((with_reducible refine atLd ?_); first | refine ld_b hs ?_ | fail) | ((with_reducible refine isDraw ?_); first | refine drawW_sat hs fun w hs=>?_ | fail) | fail)
    refine ite_true (decide_eq_true (by omega)) ?_
    repeat (first | with_reducible refine nilck_some ?_ | ((with_reducible refine atLd ?_); first | refine ld_b hs ?_ | refine ld_r0 hs ?_ | fail) | ((with_reducible refine isIdx ?_); first | refine idx_a hs ?_ | fail) | fail)
    rw [Int.toNat_natCast,sEq_eq]
    simp only [] at h1 h2
    rw [<- h1,<- h2]
    exact ⟨rfl,rt_shut s (by exact Sat.fin hs)⟩
 refine ⟨m.length + 1,?_⟩
 exact loop m.length 0 w (by omega) (by simp) (by simp) hs
theorem rover_at (hs:Sat W w L) {e0:Int} (h0:0 <= e0):Calls Tryz.prog 72 #[.agg #[.string k,.string v,.int .i64 e0],.int .i64 now] w fun e w'=>e = .returned (.bool (tOver e0 now)) /\ Sat W w' L:=by
 refine c1 (cw f72_ok f72_raw ?_)
 rw [<- ref_over h0]
 repeat (first | ((with_reducible refine atLd ?_); first | refine ld_b hs ?_ | fail) | ((with_reducible refine isNew ?_); first | refine newB_at hs fun b_ w hs=>?_ | fail) | fail)
 with_reducible refine ite_ltI (fun h1=>?_) (fun h1=>?_)
 ·repeat (first | ((with_reducible refine atLd ?_); first | refine ld_b hs ?_ | fail) | fail)
  rw [decide_eq_true h1]
  exact ⟨rfl,by exact Sat.fin hs⟩
 ·rw [decide_eq_false h1]
  exact ⟨rfl,by exact Sat.fin hs⟩
theorem r21_Has (h:Sat W w L) [hA:At L b (rtR b m) F] (hr:RiseM m) (hm:m.length < 1000000000):Calls Tryz.prog 44 #[.pointer (some ⟨b,0,none⟩),.string k] w fun e w'=>e = .returned (.bool (mGet m k).isSome) /\ Sat W w' (F (rtR b m)):=by
 refine At.call1 (hA:=hA) h fun M hs=>?_
 clear h hA
 refine c1 (cw f44_ok f44_raw ?_)
 rw [mGet_at hr]
 refine call2_of (r21_at hs hm) fun e w ⟨he,hs⟩=>⟨_,_,he,?_⟩
 refine ⟨?_,hs⟩
 cases h1:(atR m k).2 with
 | false=>rfl
 | true=>
  obtain ⟨v,hv⟩:=atR_true h1
  rw [hv]; rfl
theorem r21_Get (h:Sat W w L) [hA:At L b (rtR b m) F] (hi:TOk m) (hm:m.length < 1000000000):Calls Tryz.prog 39 #[.pointer (some ⟨b,0,none⟩),.string k,.int .i64 now] w fun e w'=>e = .returned (.tuple #[.string (tGet m k now).1,.bool (tGet m k now).2]) /\ Sat W w' (F (rtR b m)):=by
 refine At.call1 (hA:=hA) h fun M hs=>?_
 clear h hA
 refine c1 (cw f39_ok f39_raw ?_)
 unfold tGet
 rw [mGet_at hi.rise]
 refine call2_of (r21_at hs hm) fun e w ⟨he,hs⟩=>⟨_,_,he,?_⟩
 refine ite_cases (fun h1=>?_) (fun h1=>?_)
 ·simp only [Bool.not_eq_true'] at h1
  rw [h1]
  exact ⟨rfl,hs⟩
 ·simp only [Bool.not_eq_false'] at h1
  rw [h1]
  obtain ⟨v,hv⟩:=atR_true h1
  have hlt:=(List.getElem?_eq_some_iff.1 hv).1
  have hmem:(k,v) ∈ m:=List.mem_of_getElem? hv
  have hgd:m.getD (atR m k).1 default = (k,v):=by rw [List.getD_eq_getElem?_getD,hv]; rfl
  generalize (atR m k).1 = i at *
  obtain ⟨s,⟨hn,hc⟩,hs⟩:=rt_open hs
  repeat (first | with_reducible refine nilck_some ?_ | ((with_reducible refine atLd ?_); first | refine ld_b hs ?_ | refine ld_r0 hs ?_ | refine ld_r1 hs ?_ | refine ld_r2 hs ?_ | fail) | ((with_reducible refine isIdx ?_); first | refine idx_s hs fun b_ o_ hs=>?_ | fail) | fail)
  rw [Int.toNat_natCast,hgd]
  refine call1_of (rover_at hs (hi.ends _ hmem)) fun e w ⟨he,hs⟩=>⟨_,he,?_⟩
  rw [hv]
  simp only [if_true,Option.map_some]
  refine ite_cases (fun h1=>?_) (fun h1=>?_)
  ·simp only [h1,if_true]
   exact ⟨rfl,rt_shut s (by exact Sat.fin hs)⟩
  ·refine jw f39_j1_raw ?_
   repeat (first | with_reducible refine nilck_some ?_ | ((with_reducible refine atLd ?_); first | refine ld_b hs ?_ | refine ld_r1 hs ?_ | fail) | ((with_reducible refine isIdx ?_); first | refine idx_a hs ?_ | fail) | fail)
   simp only [h1,Bool.false_eq_true,if_false]
   rw [Int.toNat_natCast,hgd]
   exact ⟨rfl,rt_shut s (by exact Sat.fin hs)⟩
theorem r21_Delete (h:Sat W w L) [hA:At L b (rtR b m) F] (hr:RiseM m) (hm:m.length < 1000000000):Calls Tryz.prog 50 #[.pointer (some ⟨b,0,none⟩),.string k] w fun e w'=>e = .returned (.bool (mGet m k).isSome) /\ Sat W w' (F (rtR b (rDel m k))):=by
 refine At.call1 (hA:=hA) h fun M hs=>?_
 clear h hA
 refine c1 (cw f50_ok f50_raw ?_)
 rw [mGet_at hr]
 unfold rDel
 refine call2_of (r21_at hs hm) fun e w ⟨he,hs⟩=>⟨_,_,he,?_⟩
 have hle:=atR_le m k
 refine ite_cases (fun h1=>?_) (fun h1=>?_)
 ·rw [h1]
  obtain ⟨u,hu⟩:=atR_true h1
  have hlt:=(List.getElem?_eq_some_iff.1 hu).1
  have hg:(m.getD (atR m k).1 default) = (k,u):=by rw [List.getD_eq_getElem?_getD,hu]; rfl
  generalize (atR m k).1 = i at *
  obtain ⟨s,⟨hn,hc⟩,hs⟩:=rt_open hs
  have hwr:IntKind.wrap .i64 ((i:Int) + 1) = ((i + 1:Nat):Int):=by rw [i64_in _ (by omega)]; omega
  repeat (first | with_reducible refine nilck_some ?_ | ((with_reducible refine isNew ?_); first | refine newB_at hs fun b_ w hs=>?_ | fail) | ((with_reducible refine isLdS ?_); first | refine ldS_b ?_ | fail) | ((with_reducible refine isKeep ?_); first | refine keep_imp hs ?_ | fail) | ((with_reducible refine isWhen ?_); first | refine when_om ?_ | fail) | ((with_reducible refine isDraw ?_); first | refine drawW_sat hs fun w hs=>?_ | fail) | fail)
  simp only [hwr,Int.toNat_natCast]
  skip
  refine app_own hs entR (rows:=[]) rfl rfl (new:=m.take i) (rd_sub (s:=s) (E:=entR) (rows:=m) (lo:=0) (c:=s.c) hs (k:=i) (by omega) (by omega) rfl) (by simp; omega) (okC_flat _) rfl (by decide) (by simp; omega) fun s2 w hs2 hs=>?_
  simp only [List.nil_append,List.length_nil,List.length_take,Nat.zero_add] at hs2 hs
  repeat (first | ((with_reducible refine isKeep ?_); first | refine keep_imp hs ?_ | fail) | fail)
  refine app_by (s:=s2) (new:=(m.drop (i + 1)).take (m.length - (i + 1))) hs (rd_sub (s:=s) (E:=entR) (rows:=m) (lo:=i + 1) (c:=s.c) hs (k:=m.length - (i + 1)) (by omega) (by omega) (by rw [hn]; rfl)) (by simp; omega) (okC_flat _) rfl (by decide) (by simp; omega) fun s3 w hs3 hs=>?_
  repeat (first | with_reducible refine nilck_some ?_ | ((with_reducible refine isSt ?_); first | refine st_b hs fun w hs=>?_ | fail) | fail)
  have e:m.take i ++ (m.drop (i + 1)).take (m.length - (i + 1)) = m.eraseIdx i:=by
   rw [List.eraseIdx_eq_take_drop_succ]; congr 1; exact List.take_of_length_le (by simp)
  rw [e] at hs
  refine ⟨by rw [hu]; simp,rt_shut s3 (by exact Sat.fin hs)⟩
 ·rw [h1]
  exact ⟨rfl,hs⟩
set_option maxRecDepth 100000 in
theorem r21_Put (h:Sat W w L) [hA:At L b (rtR b m) F] (hr:RiseM m) (hm:m.length < 800000000):Calls Tryz.prog 43 #[.pointer (some ⟨b,0,none⟩),.string k,.string v,.int .i64 now,.int .i64 life] w fun e w'=>e = .returned (.tuple #[.bool (tFresh m k v now life),.int .i64 (tErr k v now life)]) /\ Sat W w' (F (rtR b (tPut m k v now life))):=by
 refine At.call1 (hA:=hA) h fun M hs=>?_
 clear h hA
 refine c1 (cw f43_ok f43_raw ?_)
 have bad:∀ (e:Int),e ≠ 0 -> tErr k v now life = e -> tFresh m k v now life = false /\ tPut m k v now life = m:=fun e he h=>by
  unfold tFresh tPut
  rw [h,if_neg he,decide_eq_false he]; exact ⟨rfl,rfl⟩
 refine call1_of (rkey_at hs) fun e w ⟨he,hs⟩=>⟨_,he,?_⟩
 refine ite_cases (fun h1=>?_) (fun h1=>?_)
 ·have h1:isKey k = false:=by simpa using h1
  have e1:tErr k v now life = 2:=if_pos h1
  obtain ⟨b1,b2⟩:=bad 2 (by omega) e1
  rw [b1,b2,e1]; exact ⟨rfl,hs⟩
 have h1:¬ isKey k = false:=by simpa using h1
 with_reducible refine ite_ltI (fun h2=>?_) (fun h2=>?_)
 ·have e1:tErr k v now life = 3:=by unfold tErr; rw [if_neg h1,if_pos (by omega)]
  obtain ⟨b1,b2⟩:=bad 3 (by omega) e1
  rw [b1,b2,e1]; exact ⟨rfl,hs⟩
 have e1:tErr k v now life = if now < 0 \/ 1125899906842624 < now \/ life < 0 \/ 1099511627776 < life then 1 else 0:=by unfold tErr; rw [if_neg h1,if_neg (by omega)]
 have one:(now < 0 \/ 1125899906842624 < now \/ life < 0 \/ 1099511627776 < life) -> (Value.tuple #[.bool false,.int .i64 1] = .tuple #[.bool (tFresh m k v now life),.int .i64 (tErr k v now life)]) /\ Sat W w (rtR b (tPut m k v now life)::M):=by
  intro h
  rw [if_pos h] at e1
  obtain ⟨b1,b2⟩:=bad 1 (by omega) e1
  rw [b1,b2,e1]; exact ⟨rfl,hs⟩
 with_reducible refine ite_ltI (fun h3=>?_) (fun h3=>?_)
 ·exact one (.inl h3)
 with_reducible refine ite_ltI (fun h4=>?_) (fun h4=>?_)
 ·exact one (.inr (.inl h4))
 with_reducible refine ite_ltI (fun h5=>?_) (fun h5=>?_)
 ·exact one (.inr (.inr (.inl h5)))
 with_reducible refine ite_ltI (fun h6=>?_) (fun h6=>?_)
 ·exact one (.inr (.inr (.inr h6)))
 rw [if_neg (by omega)] at e1
 have e2:tPut m k v now life = rPut m k (v,tEnd now life):=if_pos e1
 have e3:tFresh m k v now life = (mGet m k).isNone:=by unfold tFresh; rw [e1]; rfl
 rw [e2,e3,e1]
 clear bad one e2 e3
 refine jw f43_j1_raw ?_
 have j2:∀ (eb:Nat) (e0:Int) (w:World),Sat W w (rtR b m::blk eb [.string k,.string v,.int .i64 e0]::M) -> f43_j2 idJ (fun v' w'=>v' = .tuple #[.bool (mGet m k).isNone,.int .i64 0] /\ Sat W w' (rtR b (rPut m k (v,e0))::M)) (some ⟨b,0,none⟩) k eb 0 w:=by
  intro eb e0 w hs
  refine jw f43_j2_raw ?_
  rw [mGet_at hr]
  unfold rPut
  refine call2_of (r21_at hs (by omega)) fun e w ⟨he,hs⟩=>⟨_,_,he,?_⟩
  have hle:=atR_le m k
  refine ite_cases (fun h1=>?_) (fun h1=>?_)
  ·rw [h1]
   obtain ⟨u,hu⟩:=atR_true h1
   have hlt:=(List.getElem?_eq_some_iff.1 hu).1
   obtain ⟨s,⟨hn,hc⟩,hs⟩:=rt_open hs
   repeat (first | with_reducible refine nilck_some ?_ | ((with_reducible refine atLd ?_); first | refine ld_b hs ?_ | fail) | ((with_reducible refine isSt ?_); first | refine st_rec3 hs fun w hs=>?_ | fail) | ((with_reducible refine isIdx ?_); first | refine idx_s hs fun b_ o_ hs=>?_ | fail) | ((with_reducible refine isLdS ?_); first | refine ldS_b ?_ | fail) | ((with_reducible refine isKeep ?_); first | refine keep_of hs ?_ | fail) | ((with_reducible refine isDraw ?_); first | refine drawW_sat hs fun w hs=>?_ | fail) | fail)
   simp only [Int.toNat_natCast] at hs
   refine ⟨by rw [hu]; rfl,rt_shut s (by exact Sat.fin hs)⟩
  ·rw [h1]
   generalize (atR m k).1 = i at *
   obtain ⟨s,⟨hn,hc⟩,hs⟩:=rt_open hs
   have e3:m.take i ++ [(k,(v,e0))] ++ (m.drop i).take (m.length - i) = m.take i ++ (k,(v,e0))::m.drop i:=by
    rw [List.take_of_length_le (l:=m.drop i) (by simp)]; simp
   repeat (first | with_reducible refine nilck_some ?_ | ((with_reducible refine isLdS ?_); first | refine ldS_b ?_ | fail) | ((with_reducible refine isWhen ?_); first | refine when_om ?_ | fail) | ((with_reducible refine isDraw ?_); first | refine drawW_sat hs fun w hs=>?_ | fail) | fail)
   simp only [Int.toNat_natCast]
   refine ⟨?_,?_⟩
   ·refine newB_at hs fun b19 w hs=>?_
    repeat (first | ((with_reducible refine isKeep ?_); first | refine keep_imp hs ?_ | fail) | fail)
    refine ⟨?_,?_⟩
    ·have hs:=Sat.blkS (b:=b19) (n:=0) entR [] hs rfl rfl
     refine app_by (s:=⟨some ⟨b19,0,none⟩,0,0⟩) (new:=m.take i) hs (rd_sub (s:=s) (E:=entR) (rows:=m) (lo:=0) (c:=s.c) hs (k:=i) (by omega) (by omega) rfl) (by simp; omega) (okC_flat _) rfl (by decide) (by simp; omega) fun s2 w hs2 hs=>?_
     simp only [List.nil_append,List.length_nil,List.length_take,Nat.zero_add] at hs2 hs
     repeat (first | ((with_reducible refine isNew ?_); first | refine newB_at hs fun b_ w hs=>?_ | fail) | ((with_reducible refine isKeep ?_); first | refine keep_imp hs ?_ | fail) | fail)
     refine app_one (s:=s2) (a:=(k,(v,e0))) hs rfl rfl rfl rfl (by decide) (by simp; omega) fun s3 w hs3 hs=>?_
     repeat (first | with_reducible refine nilck_some ?_ | ((with_reducible refine atLd ?_); first | refine ld_b hs ?_ | fail) | ((with_reducible refine isWhen ?_); first | refine when_om ?_ | fail) | fail)
     refine app_by (s:=s3) (new:=(m.drop i).take (m.length - i)) hs (rd_sub (s:=s) (E:=entR) (rows:=m) (lo:=i) (c:=s.c) hs (k:=m.length - i) (by omega) (by omega) (by rw [hn]; rfl)) (by simp; omega) (okC_flat _) rfl (by decide) (by simp; omega) fun s9 w hs9 hs=>?_
     repeat (first | with_reducible refine nilck_some ?_ | ((with_reducible refine isSt ?_); first | refine st_b hs fun w hs=>?_ | fail) | fail)
     rw [e3] at hs
     exact ⟨rfl,rt_shut s9 (by exact Sat.fin hs)⟩
    ·refine newB_at hs fun b29 w hs=>?_
     repeat (first | ((with_reducible refine isKeep ?_); first | refine keep_imp hs ?_ | fail) | fail)
     have hs:=Sat.blkS (b:=b19) (n:=0) entR [] hs rfl rfl
     refine app_by (s:=⟨some ⟨b19,0,none⟩,0,0⟩) (new:=m.take i) hs (rd_sub (s:=s) (E:=entR) (rows:=m) (lo:=0) (c:=s.c) hs (k:=i) (by omega) (by omega) rfl) (by simp; omega) (okC_flat _) rfl (by decide) (by simp; omega) fun s2 w hs2 hs=>?_
     simp only [List.nil_append,List.length_nil,List.length_take,Nat.zero_add] at hs2 hs
     repeat (first | ((with_reducible refine isKeep ?_); first | refine keep_imp hs ?_ | fail) | fail)
     refine app_one (s:=s2) (a:=(k,(v,e0))) (b:=b29) hs rfl rfl rfl rfl (by decide) (by simp; omega) fun s3 w hs3 hs=>?_
     repeat (first | with_reducible refine nilck_some ?_ | ((with_reducible refine atLd ?_); first | refine ld_b hs ?_ | fail) | ((with_reducible refine isWhen ?_); first | refine when_om ?_ | fail) | fail)
     refine app_by (s:=s3) (new:=(m.drop i).take (m.length - i)) hs (rd_sub (s:=s) (E:=entR) (rows:=m) (lo:=i) (c:=s.c) hs (k:=m.length - i) (by omega) (by omega) (by rw [hn]; rfl)) (by simp; omega) (okC_flat _) rfl (by decide) (by simp; omega) fun s9 w hs9 hs=>?_
     repeat (first | with_reducible refine nilck_some ?_ | ((with_reducible refine isSt ?_); first | refine st_b hs fun w hs=>?_ | fail) | fail)
     rw [e3] at hs
     exact ⟨rfl,rt_shut s9 (by exact Sat.fin hs)⟩
   ·refine newB_at hs fun b38 w hs=>?_
    iterate 1 (first | ((with_reducible refine isKeep ?_); first | refine keep_imp hs ?_ | fail) | fail)
    refine newB_at hs fun b39 w hs=>?_
    repeat (first | ((with_reducible refine isKeep ?_); first | refine keep_imp hs ?_ | fail) | fail)
    have hs:=Sat.blkS (b:=b39) (n:=0) entR [] hs rfl rfl
    refine app_by (s:=⟨some ⟨b39,0,none⟩,0,0⟩) (new:=m.take i) hs (rd_sub (s:=s) (E:=entR) (rows:=m) (lo:=0) (c:=s.c) hs (k:=i) (by omega) (by omega) rfl) (by simp; omega) (okC_flat _) rfl (by decide) (by simp; omega) fun s2 w hs2 hs=>?_
    simp only [List.nil_append,List.length_nil,List.length_take,Nat.zero_add] at hs2 hs
    repeat (first | ((with_reducible refine isKeep ?_); first | refine keep_imp hs ?_ | fail) | fail)
    refine app_one (s:=s2) (a:=(k,(v,e0))) (b:=b38) hs rfl rfl rfl rfl (by decide) (by simp; omega) fun s3 w hs3 hs=>?_
    repeat (first | with_reducible refine nilck_some ?_ | ((with_reducible refine atLd ?_); first | refine ld_b hs ?_ | fail) | ((with_reducible refine isWhen ?_); first | refine when_om ?_ | fail) | fail)
    refine app_by (s:=s3) (new:=(m.drop i).take (m.length - i)) hs (rd_sub (s:=s) (E:=entR) (rows:=m) (lo:=i) (c:=s.c) hs (k:=m.length - i) (by omega) (by omega) (by rw [hn]; rfl)) (by simp; omega) (okC_flat _) rfl (by decide) (by simp; omega) fun s9 w hs9 hs=>?_
    repeat (first | with_reducible refine nilck_some ?_ | ((with_reducible refine isSt ?_); first | refine st_b hs fun w hs=>?_ | fail) | fail)
    rw [e3] at hs
    exact ⟨rfl,rt_shut s9 (by exact Sat.fin hs)⟩
 unfold tEnd
 repeat (first | ((with_reducible refine isSt ?_); first | refine st_b hs fun w hs=>?_ | fail) | ((with_reducible refine isNew ?_); first | refine newB_at hs fun b_ w hs=>?_ | fail) | fail)
 with_reducible refine ite_ltI (fun h7=>?_) (fun h7=>?_)
 ·repeat (first | ((with_reducible refine isSt ?_); first | refine st_b hs fun w hs=>?_ | fail) | fail)
  rw [i64_in _ (by omega)] at hs
  rw [if_pos h7]
  exact j2 _ _ w (by exact Sat.fin hs)
 ·rw [if_neg h7]
  exact j2 _ _ w (by exact Sat.fin hs)
theorem r21_Due (h:Sat W w L) [hA:At L b (rtR b m) F] (hi:TOk m) (hm:m.length < 800000000):Calls Tryz.prog 90 #[.pointer (some ⟨b,0,none⟩),.int .i64 now] w fun e w'=>∃ l:Sl,e = .returned (.slice l.a l.n l.c) /\ Sat W w' (recs Rec.str l (tDue m now)::F (rtR b m)):=by
 refine At.oneX (hA:=hA) h fun M hs hb=>?_
 refine (cw f90_ok f90_raw (Q:=fun v w'=>∃ l:Sl,v = .slice l.a l.n l.c /\ Sat W w' (rtR b m::recs Rec.str l (tDue m now)::M)) ?_).mono fun e w' ⟨v,he,l,hv,hs⟩=>⟨l,by rw [he,hv],?_⟩
 ·skip
  obtain ⟨s,⟨hn,hc⟩,hs⟩:=rt_open hs
  have hs:=Sat.nilR Rec.str hs
  have loop:∀ (f i:Nat) (w:World) (acc:Sl),i + f = m.length -> Sat W w (recs Rec.str acc (tDue (m.take i) now)::blk b [.slice s.a s.n s.c]::recs entR s m::M) ->
    f90_l1 idJ (fun v w'=>∃ l:Sl,v = .slice l.a l.n l.c /\ Sat W w' (rtR b m::recs Rec.str l (tDue m now)::M)) (f + 1) (some ⟨b,0,none⟩) now acc (i:Int) w:=by
   intro f
   induction f with
   | zero=>
    intro i w acc hif hs
    rw [f90_l1_raw]
    repeat (first | with_reducible refine nilck_some ?_ | ((with_reducible refine atLd ?_); first | refine ld_b hs ?_ | fail) | fail)
    refine ite_false (decide_eq_false (by omega)) ?_
    refine jw f90_j2_raw ?_
    rw [List.take_of_length_le (by omega)] at hs
    exact ⟨acc,rfl,rt_shut s (by exact Sat.fin hs)⟩
   | succ f ih=>
    intro i w acc hif hs
    rw [f90_l1_raw]
    repeat (first | with_reducible refine nilck_some ?_ | ((with_reducible refine atLd ?_); first | refine ld_b hs ?_ | fail) | fail)
    refine ite_true (decide_eq_true (by omega)) ?_
    have hdl:=tDue_len (now:=now) m i
    have hds:=tDue_snoc (now:=now) (r:=m) (i:=i) (by omega)
    have hmem:m.getD i default ∈ m:=by rw [List.getD_eq_getElem?_getD,List.getElem?_eq_getElem (by omega)]; exact List.getElem_mem _
    repeat (first | with_reducible refine nilck_some ?_ | ((with_reducible refine atLd ?_); first | refine ld_b hs ?_ | refine ld_r0 hs ?_ | refine ld_r1 hs ?_ | refine ld_r2 hs ?_ | fail) | ((with_reducible refine isIdx ?_); first | refine idx_s hs fun b_ o_ hs=>?_ | fail) | fail)
    rw [Int.toNat_natCast]
    refine call1_of (rover_at hs (hi.ends _ hmem)) fun e w ⟨he,hs⟩=>⟨_,he,?_⟩
    refine ite_cases (fun h1=>?_) (fun h1=>?_)
    ·repeat (first | with_reducible refine nilck_some ?_ | ((with_reducible refine atLd ?_); first | refine ld_b hs ?_ | refine ld_r0 hs ?_ | fail) | ((with_reducible refine isIdx ?_); first | refine idx_a hs ?_ | fail) | ((with_reducible refine isNew ?_); first | refine newB_at hs fun b_ w hs=>?_ | fail) | fail)
     refine app_one (s:=acc) (a:=(m.getD i default).1) hs rfl rfl rfl rfl (by decide) (by omega) fun s4 w hs4 hs=>?_
     rw [i64_in _ (by omega)]
     refine ih (i + 1) w s4 (by omega) ?_
     rw [hds,h1]
     exact Sat.fin hs
    ·rw [i64_in _ (by omega)]
     refine ih (i + 1) w acc (by omega) ?_
     rw [hds,h1]
     simp only [Bool.false_eq_true,if_false,List.append_nil]
     exact Sat.fin hs
  refine ⟨m.length + 1,?_⟩
  exact loop m.length 0 w ⟨none,0,0⟩ (by omega) hs
 ·exact hb _ _ [recs Rec.str l (tDue m now)] hs
end
end Go.Proofs.YtmefopmnjncdbaaGreat
namespace Go.Hb
theorem sGet_cons {V:Type} (e:ByteArray × V) (m:List (ByteArray × V)) (k:ByteArray):mGet (e::m) k = if e.1 = k then some e.2 else mGet m k:=by
 unfold mGet
 by_cases h:e.1 = k
 ·simp [List.find?,h]
 ·simp [List.find?,h]
theorem sGet_mSet {V:Type} (m:List (ByteArray × V)) (k k':ByteArray) (v:V):mGet (mSet m k v) k' = if k = k' then (mGet m k').map fun _=>v else mGet m k':=by
 induction m with
 | nil=>simp [mSet,mGet]
 | cons e m ih=>
  have e1:mSet (e::m) k v = (if e.1 = k then (k,v) else e)::mSet m k v:=rfl
  rw [e1,sGet_cons,ih,sGet_cons]
  by_cases h1:e.1 = k
  ·by_cases h2:k = k'
   ·simp [h1,h2]
   ·simp [h1,h2]
  ·by_cases h2:k = k'
   ·have h3:e.1 ≠ k':=fun h=>h1 (h.trans h2.symm)
    simp [h2,h3]
   ·simp [h1,h2]
theorem sGet_mPut {V:Type} (m:List (ByteArray × V)) (k k':ByteArray) (v:V):mGet (mPut m k v) k' = if k = k' then some v else mGet m k':=by
 unfold mPut
 split
 ·rename_i u hu
  rw [sGet_mSet]
  by_cases h:k = k'
  ·subst h; simp [hu]
  ·simp [h]
 ·rw [sGet_cons]
theorem sGet_mDel {V:Type} (m:List (ByteArray × V)) (k x:ByteArray):mGet (mDel m k) x = if k = x then none else mGet m x:=by
 induction m with
 | nil=>simp [mDel,mGet]
 | cons e m ih=>
  by_cases h1:e.1 = k
  ·have e1:mDel (e::m) k = mDel m k:=by simp [mDel,h1]
   rw [e1,ih,sGet_cons]
   by_cases h2:k = x
   ·simp [h2]
   ·have h3:e.1 ≠ x:=fun h=>h2 (h1.symm.trans h)
    simp [h2,h3]
  ·have e1:mDel (e::m) k = e::mDel m k:=by simp [mDel,h1]
   rw [e1,sGet_cons,ih,sGet_cons]
   by_cases h2:k = x
   ·have h3:e.1 ≠ x:=fun h=>h1 (h.trans h2.symm)
    simp [h2,h3]
   ·simp [h2]
end Go.Hb
namespace Go.Hb
def kT (T:TT):BL:=T.map (·.1)
def delAll (T:TT) (g:BL):TT:=g.foldl rDel T
section
variable {T:TT} {k x:ByteArray} {v:ByteArray × Int} {g:BL} {now:Int}
theorem kT_not:k ∉ kT T ↔ mGet T k = none:=by
 rw [mGet_none]
 unfold kT
 rw [List.mem_map]
 constructor
 ·intro h e he hk; exact h ⟨e,he,hk⟩
 ·rintro h ⟨e,he,hk⟩; exact h e he hk
theorem kT_mem:k ∈ kT T ↔ (mGet T k).isSome = true:=by
 by_cases hk:k ∈ kT T
 ·refine ⟨fun _=>?_,fun _=>hk⟩
  cases hg:mGet T k with
  | none=>exact absurd hk (kT_not.2 hg)
  | some v=>rfl
 ·rw [kT_not.1 hk]
  exact ⟨fun h=>absurd h hk,fun h=>by cases h⟩
theorem get_del (h:RiseM T):mGet (rDel T k) x = if k = x then none else mGet T x:=by rw [rDel_eq h,sGet_mDel]
theorem get_put (h:RiseM T):mGet (rPut T k v) x = if k = x then some v else mGet T x:=by
 have hn:((rPut T k v).map (·.1)).Nodup:=(rPut_rise h).nodup
 rw [mGet_perm hn (rPut_perm h),sGet_mPut]
theorem kT_del (h:RiseM T):x ∈ kT (rDel T k) ↔ x ∈ kT T /\ x ≠ k:=by
 rw [kT_mem,kT_mem,get_del h]
 by_cases hx:k = x
 ·subst hx; simp
 ·rw [if_neg hx]; exact ⟨fun h=>⟨h,fun e=>hx e.symm⟩,fun h=>h.1⟩
theorem kT_put (h:RiseM T):x ∈ kT (rPut T k v) ↔ x ∈ kT T \/ x = k:=by
 rw [kT_mem,kT_mem,get_put h]
 by_cases hx:k = x
 ·subst hx; simp
 ·rw [if_neg hx]; exact ⟨.inl,fun h=>h.elim id fun e=>absurd e.symm hx⟩
theorem delAll_tok:∀ {g:BL} {T:TT},TOk T -> TOk (delAll T g)
 | [],T,h=>h
 | k::g,T,h=>delAll_tok (g:=g) (h.del k)
theorem delAll_len:∀ {g:BL} {T:TT},TOk T -> (delAll T g).length <= T.length
 | [],T,h=>Nat.le_refl _
 | k::g,T,h=>Nat.le_trans (delAll_len (g:=g) (h.del k)) (rDel_len h k)
theorem get_delAll:∀ {g:BL} {T:TT},RiseM T -> (x ∈ g -> mGet (delAll T g) x = none) /\ (x ∉ g -> mGet (delAll T g) x = mGet T x)
 | [],T,h=>⟨by simp,fun _=>rfl⟩
 | k::g,T,h=>by
  obtain ⟨h1,h2⟩:=get_delAll (g:=g) (T:=rDel T k) (rDel_rise h)
  have e:delAll T (k::g) = delAll (rDel T k) g:=rfl
  rw [e]
  refine ⟨fun hx=>?_,fun hx=>?_⟩
  ·by_cases hg:x ∈ g
   ·exact h1 hg
   ·rw [h2 hg,get_del h,if_pos]
    rcases List.mem_cons.1 hx with hx | hx
    ·exact hx.symm
    ·exact absurd hx hg
  ·rw [List.mem_cons,not_or] at hx
   rw [h2 hx.2,get_del h,if_neg fun e=>hx.1 e.symm]
theorem kT_delAll (h:RiseM T):x ∈ kT (delAll T g) ↔ x ∈ kT T /\ x ∉ g:=by
 obtain ⟨h1,h2⟩:=get_delAll (x:=x) (g:=g) h
 rw [kT_mem,kT_mem]
 constructor
 ·intro hx
  have hg:x ∉ g:=fun hg=>by rw [h1 hg] at hx; cases hx
  exact ⟨by rw [h2 hg] at hx; exact hx,hg⟩
 ·rintro ⟨hx,hg⟩; rw [h2 hg]; exact hx
theorem delAll_small {P:ByteArray -> Prop}:∀ {g:BL} {T:TT},RiseM T -> (∀ e ∈ T,P e.1) -> ∀ e ∈ delAll T g,P e.1
 | [],T,_,h=>h
 | k::g,T,hr,h=>delAll_small (g:=g) (rDel_rise hr) fun e he=>by
  rw [rDel_eq hr] at he
  exact mDel_sub h e he
theorem tGet_congr {T S:TT} (h:mGet T k = mGet S k):tGet T k now = tGet S k now:=by unfold tGet; rw [h]
theorem tGet_has (h:(tGet T k now).2 = true):(mGet T k).isSome = true:=by
 unfold tGet at h
 cases hg:mGet T k with
 | none=>rw [hg] at h; cases h
 | some v=>rfl
def tOv (T:TT) (k:ByteArray) (now:Int):Bool:=(mGet T k).isSome && !(tGet T k now).2
def sOver (T:TT) (k:ByteArray) (now:Int):TT:=if tOv T k now then rDel T k else T
def gOver (T:TT) (k:ByteArray) (now:Int):BL:=if tOv T k now then [k] else []
theorem sOver_all (T:TT) (k:ByteArray) (now:Int):sOver T k now = delAll T (gOver T k now):=by unfold sOver gOver; split <;> rfl
theorem gOver_mem (h:x ∈ gOver T k now):x = k /\ tOv T k now = true:=by
 unfold gOver at h
 split at h
 ·rename_i h2; rw [List.mem_singleton] at h; exact ⟨h,h2⟩
 ·simp at h
theorem sOver_get (h:RiseM T):tGet (sOver T k now) k now = tGet T k now:=by
 unfold sOver
 split
 ·rename_i h2
  unfold tOv at h2
  rw [Bool.and_eq_true,Bool.not_eq_true'] at h2
  have e1:mGet (rDel T k) k = none:=by rw [get_del h,if_pos rfl]
  have e2:tGet (rDel T k) k now = (⟨#[]⟩,false):=by unfold tGet; rw [e1]
  rw [e2]
  have h3:=h2.2
  unfold tGet at h3 ⊢
  cases hg:mGet T k with
  | none=>rfl
  | some v=>
   rw [hg] at h3
   dsimp only at h3 ⊢
   split
   ·rfl
   ·rename_i h4; rw [if_neg h4] at h3; cases h3
 ·rfl
end
def Sim (c:Int):BL -> List Ev -> BL -> Prop
 | R,[],K=>∀ x,x ∈ R ↔ x ∈ K
 | R,e::l,K=>e.2.size < 64 /\ ∃ R',EvS c R e R' /\ Sim c R' l K
section
variable {c:Int} {R S K K':BL} {e:Ev} {l:List Ev} {T:TT} {key:ByteArray}
theorem EvS.congr (h:∀ x,x ∈ R ↔ x ∈ S) (hs:EvS c R e K):EvS c S e K:=by
 refine ⟨hs.1,fun x=>?_⟩
 rw [hs.2]
 split
 ·rw [h]
 ·split
  ·rw [h]
  ·exact h x
theorem Sim.left (h:∀ x,x ∈ R ↔ x ∈ S) (hs:Sim c R l K):Sim c S l K:=by
 cases l with
 | nil=>exact fun x=>by rw [<- h]; exact hs x
 | cons e l=>
  obtain ⟨hz,R',h1,h2⟩:=hs
  exact ⟨hz,R',h1.congr h,h2⟩
theorem Sim.right (h:∀ x,x ∈ K ↔ x ∈ K'):∀ {l:List Ev} {R:BL},Sim c R l K -> Sim c R l K'
 | [],R,hs=>fun x=>by rw [<- h]; exact hs x
 | e::l,R,⟨hz,R',h1,h2⟩=>⟨hz,R',h1,Sim.right h h2⟩
theorem Sim.snoc (hz:e.2.size < 64) (he:EvS c K e K'):∀ {l:List Ev} {R:BL},Sim c R l K -> Sim c R (l ++ [e]) K'
 | [],R,hs=>⟨hz,K',he.congr fun x=>(hs x).symm,fun _=>Iff.rfl⟩
 | _::l,R,⟨hz2,R',h1,h2⟩=>⟨hz2,R',h1,Sim.snoc hz he h2⟩
theorem Sim.read (hk:EOk c K) (hz:key.size < 64) (hs:Sim c R l K):Sim c R (l ++ [((1:Int),key)]) K:=hs.snoc hz ⟨hk,fun x=>by simp⟩
structure SInv (c:Int) (n:Nat) (T:TT) (l:List Ev) (wr:Int) (R:BL) (evs:List Ev):Prop where
 tok:TOk T
 small:∀ e ∈ T,e.1.size <= 40
 len:(T.length:Int) <= c
 wr:1 <= wr
 n:evs.length + l.length <= n
 sim:Sim c R l (kT T)
theorem kT_ok (ht:RiseM T) (hz:∀ e ∈ T,e.1.size <= 40) (hl:(T.length:Int) <= c) (h1:1 <= c) (h2:c <= 1024):EOk c (kT T):=
 ⟨ht.nodup,fun k hk=>by
  obtain ⟨e,he,rfl⟩:=List.mem_map.1 hk
  have:=hz e he; omega,by unfold kT; rw [List.length_map]; exact hl,h1,h2⟩
theorem EvS.del (ht:TOk T) (hz:∀ e ∈ T,e.1.size <= 40) (hl:(T.length:Int) <= c) (h1:1 <= c) (h2:c <= 1024):EvS c (kT T) ((3:Int),key) (kT (rDel T key)):=
 ⟨kT_ok (ht.del key).rise (fun e he=>by rw [rDel_eq ht.rise] at he; exact mDel_sub (P:=fun k=>k.size <= 40) hz e he) (by have:=rDel_len ht key; omega) h1 h2,fun x=>by
  rw [kT_del ht.rise]; simp⟩
theorem rPut_small {v:ByteArray × Int} (hr:RiseM T) (hz:∀ e ∈ T,e.1.size <= 40) (hk:key.size <= 40):∀ e ∈ rPut T key v,e.1.size <= 40:=fun e he=>by
 rcases rPut_mem hr he with h | h
 ·exact hz e h
 ·subst h; exact hk
theorem EvS.put {v:ByteArray × Int} (ht:TOk T) (hz:∀ e ∈ T,e.1.size <= 40) (hk:key.size <= 40) (hl:((rPut T key v).length:Int) <= c) (h1:1 <= c) (h2:c <= 1024):EvS c (kT T) ((2:Int),key) (kT (rPut T key v)):=
 ⟨kT_ok (rPut_rise ht.rise) (rPut_small ht.rise hz hk) hl h1 h2,fun x=>by rw [kT_put ht.rise]; simp⟩
theorem rPut_len2 {v:ByteArray × Int} (ht:TOk T):(rPut T key v).length = T.length + (if key ∈ kT T then 0 else 1):=by
 have hp:=(rPut_perm (v:=v) (k:=key) ht.rise).length_eq
 rw [hp]
 unfold mPut
 cases hg:mGet T key with
 | none=>
  have:key ∉ kT T:=kT_not.2 hg
  rw [if_neg this]; simp
 | some u=>
  have:key ∈ kT T:=kT_mem.2 (by rw [hg]; rfl)
  rw [if_pos this]
  unfold mSet
  simp
end
end Go.Hb
