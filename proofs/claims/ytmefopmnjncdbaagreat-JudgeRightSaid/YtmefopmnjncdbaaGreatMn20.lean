import Derived.Test.YtmefopmnjncdbaaGreatMn19
set_option linter.unusedVariables false
set_option linter.unusedSimpArgs false
set_option linter.unnecessarySimpa false
set_option linter.unusedSectionVars false
set_option maxRecDepth 100000
namespace Go.Hb
instance {s:Int} {k:ByteArray} {x0:ByteArray} {x1:Int}:RecOf (plR Rec.si) [.int .i64 s,.string k,.string x0,.int .i64 x1] ⟨s,k,(x0,x1)⟩:=⟨rfl⟩
end Go.Hb
namespace Go.Proofs.YtmefopmnjncdbaaGreat
open Go.Hb Go.IntWalk
section
variable {W w:World} {L M:List HP} {F:HP -> List HP} {b:Nat} {seed:Int} {m:List (ByteArray × (ByteArray × Int))} {s:Sl} {ps:List (Pl (ByteArray × Int))} {n1 u1:Int}
theorem value_find_in {st:ByteArray -> Nat} {k:ByteArray} (hst:st = startV seed ps.length) (hz:k.size < 4611686018427387904) (hl:0 < ps.length /\ ps.length < 4611686018427387904) (hstop:∃ e,e < ps.length /\ isAt ps ((st k + e) % ps.length) = 0)
  (hs:Sat W w (blk b [.int .u64 seed,.slice s.a s.n s.c,.int .i64 n1,.int .i64 u1]::recs (plR Rec.si) s ps::M)) :
  Calls Tryz.prog 141 #[.pointer (some ⟨b,0,none⟩),.string k] w fun e w'=>e = .returned (.tuple #[.int .i64 ((findI st ps k).1:Int),.bool (findI st ps k).2]) /\ Sat W w' (blk b [.int .u64 seed,.slice s.a s.n s.c,.int .i64 n1,.int .i64 u1]::recs (plR Rec.si) s ps::M):=by
 refine c1 (cw f141_ok f141_raw ?_)
 have hn:=(recs_len (s:=s) hs PosR.pos).1
 refine drawW_only [blk b [.int .u64 seed,.slice s.a s.n s.c,.int .i64 n1,.int .i64 u1]] hs fun w hs=>?_
 repeat (first | with_reducible refine nilck_some ?_ | ((with_reducible refine isLdS ?_); first | refine ldS_b ?_ | fail) | fail)
 refine call1_of (hash_at hs hz) fun e w ⟨he,hs⟩=>⟨_,he,?_⟩
 repeat (first | ((with_reducible refine isKeep ?_); first | refine keep_imp hs ?_ | fail) | fail)
 refine call1_of (place_at (n:=s.n) hs (hashV_in _ _).1 (by omega) (by omega)) fun e w ⟨he,hs⟩=>⟨_,he,?_⟩
 have e9:(hashV seed k).toNat % s.n = startV seed ps.length k:=by rw [hn,startV_eq]
 rw [e9]
 have loop:∀ (f:Nat) (free:Option Nat) (i:Nat) (w:World),i < ps.length -> (∃ e,e < f /\ isAt ps ((i + e) % ps.length) = 0) -> Sat W w (blk b [.int .u64 seed,.slice s.a s.n s.c,.int .i64 n1,.int .i64 u1]::recs (plR Rec.si) s ps::M) ->
   f141_l1 idJ (fun v w'=>v = .tuple #[.int .i64 ((findP ps k f free i).1:Int),.bool (findP ps k f free i).2] /\ Sat W w' (blk b [.int .u64 seed,.slice s.a s.n s.c,.int .i64 n1,.int .i64 u1]::recs (plR Rec.si) s ps::M)) f (some ⟨b,0,none⟩) k (frI free) (i:Int) w:=by
  intro f
  induction f with
  | zero=>intro free i w hi ⟨e,he,_⟩; omega
  | succ f ih=>
   intro free i w hi hstop hs
   have hm:(i + 1) % ps.length < ps.length:=Nat.mod_lt _ hl.1
   have next:isAt ps i ≠ 0 -> ∃ e',e' < f /\ isAt ps (((i + 1) % ps.length + e') % ps.length) = 0:=by
    obtain ⟨e,he,hz0⟩:=hstop
    intro hne
    cases e with
    | zero=>rw [Nat.add_zero,Nat.mod_eq_of_lt hi] at hz0; exact absurd hz0 hne
    | succ e=>exact ⟨e,by omega,by rw [step_mod]; exact hz0⟩
   have hwr:Int.tmod (IntKind.wrap .i64 ((i:Int) + 1)) (s.n:Int) = (((i + 1) % ps.length:Nat):Int):=by
    rw [i64_in _ (by omega),hn,Int.tmod_eq_emod_of_nonneg (by omega)]; simp
   have j4:∀ (free':Option Nat) (w:World),isAt ps i ≠ 0 -> Sat W w (blk b [.int .u64 seed,.slice s.a s.n s.c,.int .i64 n1,.int .i64 u1]::recs (plR Rec.si) s ps::M) -> findP ps k (f + 1) free i = findP ps k f free' ((i + 1) % ps.length) ->
     f141_j4 idJ (fun v w'=>v = .tuple #[.int .i64 ((findP ps k (f + 1) free i).1:Int),.bool (findP ps k (f + 1) free i).2] /\ Sat W w' (blk b [.int .u64 seed,.slice s.a s.n s.c,.int .i64 n1,.int .i64 u1]::recs (plR Rec.si) s ps::M)) f (some ⟨b,0,none⟩) k (frI free') (i:Int) w:=by
    intro free' w hne hs he
    refine jw f141_j4_raw ?_
    rw [he]
    repeat (first | with_reducible refine nilck_some ?_ | ((with_reducible refine atLd ?_); first | refine ld_b hs ?_ | fail) | ((with_reducible refine isWhen ?_); first | refine when_om ?_ | fail) | fail)
    rw [hwr]
    exact ih free' _ w hm (next hne) hs
   rw [f141_l1_raw]
   have hcast:((i:Int)).toNat = i:=Int.toNat_natCast i
   repeat (first | with_reducible refine nilck_some ?_ | ((with_reducible refine atLd ?_); first | refine ld_b hs ?_ | refine ld_r0 hs ?_ | fail) | ((with_reducible refine isIdx ?_); first | refine idx_s hs fun b_ o_ hs=>?_ | fail) | fail)
   rw [hcast]
   have ei:(ps.getD i default).is_ = isAt ps i:=rfl
   have ek:(ps.getD i default).key = keyAt ps i:=rfl
   rw [ei]
   have j2:∀ (t:Bool) (w:World) (b1 o1:Nat),t = decide (isAt ps i = 2 /\ keyAt ps i = k) -> Sat W w (blk b [.int .u64 seed,.slice s.a s.n s.c,.int .i64 n1,.int .i64 u1]::reca (plR Rec.si) b1 o1 s ps::M) ->
     f141_j2 idJ (fun v w'=>v = .tuple #[.int .i64 ((findP ps k (f + 1) free i).1:Int),.bool (findP ps k (f + 1) free i).2] /\ Sat W w' (blk b [.int .u64 seed,.slice s.a s.n s.c,.int .i64 n1,.int .i64 u1]::recs (plR Rec.si) s ps::M)) f (some ⟨b,0,none⟩) k (frI free) (i:Int) b1 (o1 + i * 4) t w:=by
    intro t w b1 o1 ht hs
    refine jw f141_j2_raw ?_
    rw [ht]
    with_reducible refine ite_dec (fun h1=>?_) (fun h1=>?_)
    ·have e1:findP ps k (f + 1) free i = (i,true):=by rw [findP,if_pos h1]
     rw [e1]
     exact ⟨rfl,by exact Sat.fin hs⟩
    ·repeat (first | with_reducible refine nilck_some ?_ | ((with_reducible refine atLd ?_); first | refine ld_r0 hs ?_ | fail) | fail)
     rw [ei]
     have j3:∀ (t:Bool) (w:World),t = decide (isAt ps i = 1 /\ free = none) -> Sat W w (blk b [.int .u64 seed,.slice s.a s.n s.c,.int .i64 n1,.int .i64 u1]::reca (plR Rec.si) b1 o1 s ps::M) ->
       f141_j3 idJ (fun v w'=>v = .tuple #[.int .i64 ((findP ps k (f + 1) free i).1:Int),.bool (findP ps k (f + 1) free i).2] /\ Sat W w' (blk b [.int .u64 seed,.slice s.a s.n s.c,.int .i64 n1,.int .i64 u1]::recs (plR Rec.si) s ps::M)) f (some ⟨b,0,none⟩) k (frI free) (i:Int) b1 (o1 + i * 4) t w:=by
      intro t w ht hs
      refine jw f141_j3_raw ?_
      rw [ht]
      with_reducible refine ite_dec (fun h2=>?_) (fun h2=>?_)
      ·exact j4 (some i) w (by rw [h2.1]; decide) (by exact Sat.fin hs) (by rw [findP,if_neg h1,if_pos h2])
      ·repeat (first | with_reducible refine nilck_some ?_ | ((with_reducible refine atLd ?_); first | refine ld_r0 hs ?_ | fail) | fail)
       rw [ei]
       have j5:∀ (t:Bool) (w:World),t = decide (isAt ps i = 0 /\ free = none) -> Sat W w (blk b [.int .u64 seed,.slice s.a s.n s.c,.int .i64 n1,.int .i64 u1]::reca (plR Rec.si) b1 o1 s ps::M) ->
         f141_j5 idJ (fun v w'=>v = .tuple #[.int .i64 ((findP ps k (f + 1) free i).1:Int),.bool (findP ps k (f + 1) free i).2] /\ Sat W w' (blk b [.int .u64 seed,.slice s.a s.n s.c,.int .i64 n1,.int .i64 u1]::recs (plR Rec.si) s ps::M)) f (some ⟨b,0,none⟩) k (frI free) (i:Int) b1 (o1 + i * 4) t w:=by
        intro t w ht hs
        refine jw f141_j5_raw ?_
        rw [ht]
        with_reducible refine ite_dec (fun h3=>?_) (fun h3=>?_)
        ·have e1:findP ps k (f + 1) free i = (i,false):=by rw [findP,if_neg h1,if_neg h2,if_pos h3.1,h3.2]; rfl
         rw [e1]
         exact ⟨rfl,by exact Sat.fin hs⟩
        ·repeat (first | with_reducible refine nilck_some ?_ | ((with_reducible refine atLd ?_); first | refine ld_r0 hs ?_ | fail) | fail)
         rw [ei]
         with_reducible refine ite_eqI (fun h4=>?_) (fun h4=>?_)
         ·have e1:findP ps k (f + 1) free i = (free.getD i,false):=by rw [findP,if_neg h1,if_neg h2,if_pos h4]
          rw [e1]
          cases free with
          | none=>exact absurd ⟨h4,rfl⟩ h3
          | some j=>exact ⟨rfl,by exact Sat.fin hs⟩
         ·exact j4 free w h4 (by exact Sat.fin hs) (by rw [findP,if_neg h1,if_neg h2,if_neg h4])
       with_reducible refine ite_eqI (fun h3=>?_) (fun h3=>?_)
       ·exact j5 _ w (by simp [h3,frI_neg]) (by exact Sat.fin hs)
       ·exact j5 _ w (by simp [h3]) (by exact Sat.fin hs)
     with_reducible refine ite_eqI (fun h2=>?_) (fun h2=>?_)
     ·exact j3 _ w (by simp [h2,frI_neg]) (by exact Sat.fin hs)
     ·exact j3 _ w (by simp [h2]) (by exact Sat.fin hs)
   with_reducible refine ite_eqI (fun h1=>?_) (fun h1=>?_)
   ·repeat (first | with_reducible refine nilck_some ?_ | ((with_reducible refine atLd ?_); first | refine ld_r1 hs ?_ | fail) | fail)
    rw [ek]
    refine j2 _ w _ _ ?_ (by exact Sat.fin hs)
    rw [sEq_eq]; simp [h1]
   ·refine j2 _ w _ _ ?_ (by exact Sat.fin hs)
    simp [h1]
 subst hst
 have hl2:=loop ps.length none (startV seed ps.length k) w (startV_lt hl.1 k) hstop hs
 rw [show frI none = -1 from rfl] at hl2
 unfold findI
 refine ⟨ps.length,?_⟩
 exact hl2
theorem value_lays_in {k:ByteArray} {v:(ByteArray × Int)} {j:Nat} (hj:j < ps.length) (hb:ps.length < 4611686018427387904) (hu:u1 = (usedP ps:Int)) (hn1:0 <= n1 /\ n1 < 4611686018427387904) (hs:Sat W w (blk b [.int .u64 seed,.slice s.a s.n s.c,.int .i64 n1,.int .i64 u1]::recs (plR Rec.si) s ps::M)) :
  Calls Tryz.prog 143 #[.pointer (some ⟨b,0,none⟩),.int .i64 (j:Int),.string k,.agg #[.string (v).1,.int .i64 (v).2]] w fun e w'=>e = .returned (.tuple #[]) /\ Sat W w' (blk b [.int .u64 seed,.slice s.a s.n s.c,.int .i64 (n1 + 1),.int .i64 (usedP (ps.set j ⟨2,k,v⟩):Int)]::recs (plR Rec.si) s (ps.set j ⟨2,k,v⟩)::M):=by
 refine c1 (cw f143_ok f143_raw ?_)
 refine newB_at hs fun bv w hs=>?_
 have hn:=(recs_len (s:=s) hs PosR.pos).1
 have hle:usedP ps <= ps.length:=List.countP_le_length
 rw [usedP_set hj _ (by show (2:Int) ≠ 0; decide)]
 repeat (first | with_reducible refine nilck_some ?_ | ((with_reducible refine atLd ?_); first | refine ld_b hs ?_ | refine ld_r0 hs ?_ | fail) | ((with_reducible refine isIdx ?_); first | refine idx_s hs fun b_ o_ hs=>?_ | fail) | fail)
 simp only [Int.toNat_natCast]
 have ei:(ps.getD j default).is_ = isAt ps j:=rfl
 rw [ei]
 with_reducible refine ite_eqI (fun h1=>?_) (fun h1=>?_)
 ·repeat (first | with_reducible refine nilck_some ?_ | ((with_reducible refine atLd ?_); first | refine ld_b hs ?_ | fail) | ((with_reducible refine isSt ?_); first | refine st_b hs fun w hs=>?_ | fail) | fail)
  refine jw f143_j1_raw ?_
  repeat (first | with_reducible refine nilck_some ?_ | ((with_reducible refine atLd ?_); first | refine ld_b hs ?_ | fail) | ((with_reducible refine isSt ?_); first | refine st_b hs fun w hs=>?_ | refine st_rec4 hs fun w hs=>?_ | fail) | ((with_reducible refine isIdx ?_); first | refine idx_a hs ?_ | fail) | ((with_reducible refine isLdS ?_); first | refine ldS_b ?_ | fail) | ((with_reducible refine isKeep ?_); first | refine keep_of hs ?_ | fail) | ((with_reducible refine isDraw ?_); first | refine drawW_sat hs fun w hs=>?_ | fail) | fail)
  rw [i64_in (n1 + 1) (by omega),hu,i64_in _ (by omega)] at hs
  simp only [Int.toNat_natCast] at hs
  rw [if_pos h1]
  exact ⟨rfl,by exact Sat.fin hs⟩
 ·refine jw f143_j1_raw ?_
  repeat (first | with_reducible refine nilck_some ?_ | ((with_reducible refine atLd ?_); first | refine ld_b hs ?_ | fail) | ((with_reducible refine isSt ?_); first | refine st_b hs fun w hs=>?_ | refine st_rec4 hs fun w hs=>?_ | fail) | ((with_reducible refine isIdx ?_); first | refine idx_a hs ?_ | fail) | ((with_reducible refine isLdS ?_); first | refine ldS_b ?_ | fail) | ((with_reducible refine isKeep ?_); first | refine keep_of hs ?_ | fail) | ((with_reducible refine isDraw ?_); first | refine drawW_sat hs fun w hs=>?_ | fail) | fail)
  rw [i64_in (n1 + 1) (by omega),hu] at hs
  simp only [Int.toNat_natCast] at hs
  rw [if_neg h1,Nat.add_zero]
  exact ⟨rfl,by exact Sat.fin hs⟩
theorem value_grows_in {st:ByteArray -> Nat} (hi:IxInv st ps m) (hkz:∀ e ∈ m,e.1.size < 4611686018427387904) (hm:m.length < 1000000000) (hs:Sat W w (blk b [.int .u64 seed,.slice s.a s.n s.c,.int .i64 (m.length:Int),.int .i64 u1]::recs (plR Rec.si) s ps::M)) :
  Calls Tryz.prog 144 #[.pointer (some ⟨b,0,none⟩)] w fun e w'=>e = .returned (.tuple #[]) /\ Sat W w' (ixr Rec.si b seed m::M):=by
 refine c1 (cw f144_ok f144_raw ?_)
 have hn:=(recs_len (s:=s) hs PosR.pos).1
 have hsmall:=hi.small
 obtain ⟨N,hN⟩:∃ N:Nat,N = max 8 (4 * (m.length + 1)):=⟨_,rfl⟩
 have e1:(if (IntKind.wrap .i64 ((4:Int) * (IntKind.wrap .i64 ((m.length:Int) + (1:Int))))) > (8:Int) then (IntKind.wrap .i64 ((4:Int) * (IntKind.wrap .i64 ((m.length:Int) + (1:Int))))) else (8:Int)) = (N:Int):=by
  rw [i64_in ((m.length:Int) + 1) (by omega),i64_in _ (by omega)]; split <;> omega
 repeat (first | with_reducible refine nilck_some ?_ | ((with_reducible refine atLd ?_); first | refine ld_b hs ?_ | fail) | fail)
 rw [e1]
 refine make_at (sz:=4) hs rfl (by omega) (by omega) (by omega) (by omega) fun s2 w hn2 _ _ hs=>?_
 rw [Int.toNat_natCast] at hs hn2
 have hs:Sat W w (recs (plR Rec.si) s2 (List.replicate N ⟨0,str_empty,((str_empty,0):ByteArray × Int)⟩)::blk b [.int .u64 seed,.slice s.a s.n s.c,.int .i64 (m.length:Int),.int .i64 u1]::recs (plR Rec.si) s ps::M):=by
  have e:=zrow_replicate (plR Rec.si) ⟨0,str_empty,((str_empty,0):ByteArray × Int)⟩ N
  unfold recs
  rw [<- e]; exact hs
 repeat (first | with_reducible refine nilck_some ?_ | ((with_reducible refine isSt ?_); first | refine st_b hs fun w hs=>?_ | fail) | fail)
 have hinv:=IxInv.new (st:=startV seed N) (n:=N) (z:=(⟨0,str_empty,((str_empty,0):ByteArray × Int)⟩:Pl (ByteArray × Int))) rfl (by omega) (by omega) (startV_lt (by omega))
 have hdist:(fullP ps).map (·.1) |>.Nodup:=(hi.perm.map (·.1)).nodup_iff.2 hi.nodup
 have hlen:(fullP ps).length = m.length:=hi.perm.length_eq
 have loop:∀ (f i:Nat) (w:World) (ps2:List (Pl (ByteArray × Int))) (mi:List (ByteArray × (ByteArray × Int))),i + f = ps.length -> ps2.length = N -> IxInv (startV seed N) ps2 mi -> mi.Perm (fullP (ps.take i)) -> usedP ps2 <= mi.length ->
   Sat W w (blk b [.int .u64 seed,.slice s2.a s2.n s2.c,.int .i64 (mi.length:Int),.int .i64 (usedP ps2:Int)]::recs (plR Rec.si) s2 ps2::recs (plR Rec.si) s ps::M) ->
   f144_l1 idJ (fun v w'=>v = .tuple #[] /\ Sat W w' (ixr Rec.si b seed m::M)) (f + 1) (some ⟨b,0,none⟩) s (s.n:Int) (i:Int) w:=by
  intro f
  induction f with
  | zero=>
   intro i w ps2 mi hif hpl hiv hp hu hs
   rw [f144_l1_raw]
   refine ite_false (decide_eq_false (by omega)) ⟨rfl,?_⟩
   rw [List.take_of_length_le (by omega)] at hp
   have hpm:=hp.trans hi.perm
   refine ixr_shut s2 (ps:=ps2) (n:=(mi.length:Int)) ?_ ?_ (by rw [hpm.length_eq]) rfl (by exact Sat.fin hs)
   ·rw [hpl]; exact hiv.perm' hpm
   ·rw [hpl]; have:=hpm.length_eq; omega
  | succ f ih=>
   intro i w ps2 mi hif hpl hiv hp hu hs
   rw [f144_l1_raw]
   refine ite_true (decide_eq_true (by omega)) ?_
   repeat (first | ((with_reducible refine atLd ?_); first | refine ld_b hs ?_ | refine ld_r0 hs ?_ | refine ld_r1 hs ?_ | refine ld_r2 hs ?_ | refine ld_r3 hs ?_ | fail) | ((with_reducible refine isSt ?_); first | refine st_b hs fun w hs=>?_ | fail) | ((with_reducible refine isIdx ?_); first | refine idx_s hs fun b_ o_ hs=>?_ | fail) | ((with_reducible refine isNew ?_); first | refine newB_at hs fun b_ w hs=>?_ | fail) | fail)
   simp only [Int.toNat_natCast] at hs ⊢
   have hil:i < ps.length:=by omega
   have hft:fullP (ps.take (i + 1)) = fullP (ps.take i) ++ optP (ps.getD i default):=by
    rw [take_snoc hil,fullP_append]; simp [fullP]
   with_reducible refine ite_eqI (fun h1=>?_) (fun h1=>?_)
   ·have hop:optP (ps.getD i default) = [((ps.getD i default).key,(ps.getD i default).v)]:=optP_pos h1
    rw [hop] at hft
    have hsub:(fullP (ps.take (i + 1))).Sublist (fullP ps):=by
     conv=>rhs; rw [<- List.take_append_drop (i + 1) ps,fullP_append]
     exact List.sublist_append_left _ _
    have hmem:((ps.getD i default).key,(ps.getD i default).v) ∈ m:=hi.perm.subset (hsub.subset (by rw [hft]; simp))
    have hnd:=hdist.sublist (hsub.map (·.1))
    rw [hft,List.map_append] at hnd
    have hno:mGet mi (ps.getD i default).key = none:=by
     rw [mGet_none]
     intro e he hk
     rw [List.nodup_append] at hnd
     exact hnd.2.2 _ (List.mem_map_of_mem (f:=(·.1)) (hp.subset he)) _ (by simp) hk
    have hlt:mi.length + 1 <= m.length:=by
     have:=hsub.length_le
     rw [hft,List.length_append,<- hp.length_eq] at this
     simp only [List.length_cons,List.length_nil] at this; omega
    repeat (first | ((with_reducible refine atLd ?_); first | refine ld_b hs ?_ | fail) | fail)
    have hs:Sat W w (blk b [.int .u64 seed,.slice s2.a s2.n s2.c,.int .i64 (mi.length:Int),.int .i64 (usedP ps2:Int)]::recs (plR Rec.si) s2 ps2::blk b_ [.int .i64 (ps.getD i default).is_,.string (ps.getD i default).key,.string (ps.getD i default).v.1,.int .i64 (ps.getD i default).v.2]::recs (plR Rec.si) s ps::M):=by exact Sat.fin hs
    refine call2_of (value_find_in (st:=startV seed N) (by rw [hpl]) (hkz _ hmem) (by omega) (hiv.stop _) hs) fun e w ⟨he,hs⟩=>⟨_,_,he,?_⟩
    have hfm:(findI (startV seed N) ps2 (ps.getD i default).key).2 = false:=by
     cases hb:(findI (startV seed N) ps2 (ps.getD i default).key).2 with
     | false=>rfl
     | true=>have:=(hiv.hit hb).2.2; rw [hno] at this; cases this
    obtain ⟨hj,hj2,_,hjr⟩:=hiv.miss hfm
    repeat (first | ((with_reducible refine atLd ?_); first | refine ld_b hs ?_ | fail) | fail)
    refine call0_of (value_lays_in (v:=(ps.getD i default).v) hj (by omega) rfl (by omega) hs) fun e w ⟨he,hs⟩=>⟨he,?_⟩
    rw [i64_in _ (by omega)]
    have hus:=usedP_set hj (⟨2,(ps.getD i default).key,(ps.getD i default).v⟩:Pl (ByteArray × Int)) (by show (2:Int) ≠ 0; decide)
    have hus2:usedP (ps2.set (findI (startV seed N) ps2 (ps.getD i default).key).1 ⟨2,(ps.getD i default).key,(ps.getD i default).v⟩) <= usedP ps2 + 1:=by rw [hus]; split <;> omega
    refine ih (i + 1) w _ (((ps.getD i default).key,(ps.getD i default).v)::mi) (by omega) (by rw [List.length_set]; exact hpl) (hiv.add hj hj2 hno hjr (by omega)) ?_ (by simp only [List.length_cons]; omega) ?_
    ·rw [hft]
     exact ((List.Perm.cons _ hp).trans (List.perm_append_comm (l₁:=[_])))
    ·simp only [List.length_cons,Int.natCast_add]
     exact Sat.fin hs
   ·have hop:optP (ps.getD i default) = []:=optP_neg h1
    rw [hop,List.append_nil] at hft
    rw [i64_in _ (by omega)]
    exact ih (i + 1) w ps2 mi (by omega) hpl hiv (by rw [hft]; exact hp) hu (by exact Sat.fin hs)
 refine ⟨ps.length + 1,?_⟩
 refine loop ps.length 0 w (List.replicate N ⟨0,str_empty,((str_empty,0):ByteArray × Int)⟩) [] (by omega) (by simp) hinv (by simp [fullP]) ?_ ?_
 ·have:usedP (List.replicate N (⟨0,str_empty,((str_empty,0):ByteArray × Int)⟩:Pl (ByteArray × Int))) = 0:=by
   unfold usedP; rw [List.countP_eq_zero]; intro a ha; rw [List.eq_of_mem_replicate ha]; simp
  rw [this]; exact Nat.zero_le _
 ·have:usedP (List.replicate N (⟨0,str_empty,((str_empty,0):ByteArray × Int)⟩:Pl (ByteArray × Int))) = 0:=by
   unfold usedP; rw [List.countP_eq_zero]; intro a ha; rw [List.eq_of_mem_replicate ha]; simp
  rw [this]
  exact Sat.fin hs
end
section
variable {W w:World} {L M:List HP} {F:HP -> List HP} {b:Nat} {seed:Int} {m:List (ByteArray × (ByteArray × Int))} {k:ByteArray}
theorem value_New (hs:Sat W w L):Calls Tryz.prog 62 #[.int .u64 seed] w fun e w'=>∃ b,e = .returned (.pointer (some ⟨b,0,none⟩)) /\ Sat W w' (ixr Rec.si b seed []::L):=by
 refine (cw f62_ok f62_raw (Q:=fun v w'=>∃ b,v = .pointer (some ⟨b,0,none⟩) /\ Sat W w' (ixr Rec.si b seed []::L)) ?_).mono fun e w' ⟨v,he,b,hv,hs⟩=>⟨b,by rw [he,hv],hs⟩
 refine make_at (sz:=4) hs rfl (by omega) (by omega) (by omega) (by omega) fun s2 w hn2 _ _ hs=>?_
 have hs:Sat W w (recs (plR Rec.si) s2 (List.replicate 8 ⟨0,str_empty,((str_empty,0):ByteArray × Int)⟩)::L):=hs
 repeat (first | ((with_reducible refine isNew ?_); first | refine newB_at hs fun b_ w hs=>?_ | fail) | fail)
 refine ⟨_,rfl,ixr_shut s2 (ps:=List.replicate 8 ⟨0,str_empty,((str_empty,0):ByteArray × Int)⟩) (n:=0) (u:=0) (IxInv.new (n:=8) rfl (by omega) (by omega) (startV_lt (by simp))) (by decide +revert) rfl rfl (by exact Sat.fin hs)⟩
theorem value_Get (h:Sat W w L) [hA:At L b (ixr Rec.si b seed m) F] (hz:k.size < 4611686018427387904):Calls Tryz.prog 104 #[.pointer (some ⟨b,0,none⟩),.string k] w fun e w'=>e = .returned (.tuple #[.agg #[.string ((mGet m k).getD ((str_empty,0):ByteArray × Int)).1,.int .i64 ((mGet m k).getD ((str_empty,0):ByteArray × Int)).2],.bool (mGet m k).isSome]) /\ Sat W w' (F (ixr Rec.si b seed m)):=by
 refine At.call1 (hA:=hA) h fun M hs=>?_
 clear h hA
 refine c1 (cw f104_ok f104_raw ?_)
 refine newB_at hs fun bz w hs=>?_
 have hs:Sat W w (ixr Rec.si b seed m::blk bz [.string str_empty,.int .i64 (0:Int)]::M):=by exact Sat.fin hs
 refine ite_true rfl ?_
 obtain ⟨s,ps,hi,h2,hn,hs⟩:=ixr_open hs
 have hsm:=hi.small
 have hbg:=hi.big
 refine call2_of (value_find_in (st:=startV seed ps.length) rfl hz (by omega) (hi.stop _) hs) fun e w ⟨he,hs⟩=>⟨_,_,he,?_⟩
 refine ite_cases (fun hb=>?_) (fun hb=>?_)
 ·obtain ⟨hj,_,hg⟩:=hi.hit hb
  rw [hg]
  repeat (first | with_reducible refine nilck_some ?_ | ((with_reducible refine atLd ?_); first | refine ld_b hs ?_ | refine ld_r1 hs ?_ | refine ld_r2 hs ?_ | fail) | ((with_reducible refine isSt ?_); first | refine st_b hs fun w hs=>?_ | fail) | ((with_reducible refine isIdx ?_); first | refine idx_s hs fun b_ o_ hs=>?_ | fail) | fail)
  simp only [Int.toNat_natCast]
  exact ⟨rfl,ixr_shut s hi h2 rfl rfl (by exact Sat.fin hs)⟩
 ·rw [(hi.miss hb).2.2.1]
  refine jw f104_j1_raw ?_
  repeat (first | ((with_reducible refine atLd ?_); first | refine ld_b hs ?_ | fail) | ((with_reducible refine isSt ?_); first | refine st_b hs fun w hs=>?_ | fail) | ((with_reducible refine isNew ?_); first | refine newB_at hs fun b_ w hs=>?_ | fail) | fail)
  exact ⟨rfl,ixr_shut s hi h2 rfl rfl (by exact Sat.fin hs)⟩
theorem value_Len (h:Sat W w L) [hA:At L b (ixr Rec.si b seed m) F]:Calls Tryz.prog 109 #[.pointer (some ⟨b,0,none⟩)] w fun e w'=>e = .returned (.int .i64 (m.length:Int)) /\ Sat W w' (F (ixr Rec.si b seed m)):=by
 refine At.call1 (hA:=hA) h fun M hs=>?_
 clear h hA
 refine c1 (cw f109_ok f109_raw ?_)
 refine ite_false rfl ?_
 obtain ⟨s,ps,hi,h2,hn,hs⟩:=ixr_open hs
 repeat (first | with_reducible refine nilck_some ?_ | ((with_reducible refine atLd ?_); first | refine ld_b hs ?_ | fail) | fail)
 exact ⟨rfl,ixr_shut s hi h2 rfl rfl hs⟩
theorem value_Put (h:Sat W w L) [hA:At L b (ixr Rec.si b seed m) F] {v:(ByteArray × Int)} (hz:k.size < 4611686018427387904) (hkz:∀ e ∈ m,e.1.size < 4611686018427387904) (hm:m.length < 900000000):Calls Tryz.prog 108 #[.pointer (some ⟨b,0,none⟩),.string k,.agg #[.string (v).1,.int .i64 (v).2]] w fun e w'=>e = .returned (.bool (mGet m k).isNone) /\ Sat W w' (F (ixr Rec.si b seed (mPut m k v))):=by
 refine At.call1 (hA:=hA) h fun M hs=>?_
 clear h hA
 refine c1 (cw f108_ok f108_raw ?_)
 refine newB_at hs fun bv w hs=>?_
 have hs:Sat W w (ixr Rec.si b seed m::blk bv [.string v.1,.int .i64 v.2]::M):=by exact Sat.fin hs
 refine ite_false rfl ?_
 obtain ⟨s,ps,hi,h2,hn,hs⟩:=ixr_open hs
 have hsm:=hi.small
 have hbg:=hi.big
 refine call2_of (value_find_in (st:=startV seed ps.length) rfl hz (by omega) (hi.stop _) hs) fun e w ⟨he,hs⟩=>⟨_,_,he,?_⟩
 refine ite_cases (fun hb=>?_) (fun hb=>?_)
 ·obtain ⟨hj,hit,hg⟩:=hi.hit hb
  have hp:mPut m k v = mSet m k v:=by unfold mPut; rw [hg]
  rw [hg,hp]
  repeat (first | with_reducible refine nilck_some ?_ | ((with_reducible refine atLd ?_); first | refine ld_b hs ?_ | fail) | ((with_reducible refine isIdx ?_); first | refine idx_s hs fun b_ o_ hs=>?_ | fail) | ((with_reducible refine isLdS ?_); first | refine ldS_b ?_ | fail) | ((with_reducible refine isKeep ?_); first | refine keep_of hs ?_ | fail) | ((with_reducible refine isDraw ?_); first | refine drawW_sat hs fun w hs=>?_ | fail) | fail)
  simp only [Int.toNat_natCast]
  refine sts_sub (vs:=[.string v.1,.int .i64 v.2]) (pre:=[.int .i64 (ps.getD (findI (startV seed ps.length) ps k).1 default).is_,.string (ps.getD (findI (startV seed ps.length) ps k).1 default).key]) (mid:=[.string (ps.getD (findI (startV seed ps.length) ps k).1 default).v.1,.int .i64 (ps.getD (findI (startV seed ps.length) ps k).1 default).v.2]) (tl:=[]) (a':={ ps.getD (findI (startV seed ps.length) ps k).1 default with v:=v }) (i:=(findI (startV seed ps.length) ps k).1) (j:=2) (n:=4) hs rfl hj rfl rfl rfl rfl fun w hs=>?_
  have hset:=hi.set (v:=v) hj hit
  have hus:usedP (ps.set (findI (startV seed ps.length) ps k).1 { ps.getD (findI (startV seed ps.length) ps k).1 default with v:=v }) = usedP ps:=by
   rw [usedP_set hj _ (by show isAt ps _ ≠ 0; rw [hit.1]; decide),if_neg (by rw [hit.1]; decide)]; rfl
  refine ⟨rfl,ixr_shut s (n:=(m.length:Int)) (u:=(usedP ps:Int)) (by rw [List.length_set]; exact hset) (by rw [hus,List.length_set]; exact h2) (by simp [mSet]) (by rw [hus]) (by exact Sat.fin hs)⟩
 ·obtain ⟨hj,hj2,hg,hr⟩:=hi.miss hb
  have hp:mPut m k v = (k,v)::m:=by unfold mPut; rw [hg]
  rw [hg,hp]
  repeat (first | ((with_reducible refine atLd ?_); first | refine ld_b hs ?_ | fail) | fail)
  refine call0_of (value_lays_in (v:=v) hj (by omega) rfl (by omega) hs) fun e w ⟨he,hs⟩=>⟨he,?_⟩
  have hus:=usedP_set hj (⟨2,k,v⟩:Pl (ByteArray × Int)) (by show (2:Int) ≠ 0; decide)
  have hus2:usedP (ps.set (findI (startV seed ps.length) ps k).1 ⟨2,k,v⟩) <= usedP ps + 1:=by rw [hus]; split <;> omega
  have hadd:=hi.add (v:=v) hj hj2 hg hr (by omega)
  have hsl:(ps.set (findI (startV seed ps.length) ps k).1 ⟨2,k,v⟩).length = ps.length:=by simp
  generalize hps2:ps.set (findI (startV seed ps.length) ps k).1 ⟨2,k,v⟩ = ps2 at hs hus2 hadd hsl
  repeat (first | with_reducible refine nilck_some ?_ | ((with_reducible refine atLd ?_); first | refine ld_b hs ?_ | fail) | ((with_reducible refine isLdS ?_); first | refine ldS_b ?_ | fail) | ((with_reducible refine isKeep ?_); first | refine keep_of hs ?_ | fail) | ((with_reducible refine isDraw ?_); first | refine drawW_sat hs fun w hs=>?_ | fail) | fail)
  rw [i64_in _ (by omega),hn]
  with_reducible refine ite_ltI (fun h9=>?_) (fun h9=>?_)
  ·have hkz2:∀ e ∈ (k,v)::m,e.1.size < 4611686018427387904:=by
    intro e he
    rcases List.mem_cons.1 he with rfl | he
    ·exact hz
    ·exact hkz e he
   have hs2:Sat W w (blk b [.int .u64 seed,.slice s.a s.n s.c,.int .i64 (((k,v)::m).length:Int),.int .i64 (usedP ps2:Int)]::recs (plR Rec.si) s ps2::M):=by
    simp only [List.length_cons,Int.natCast_add]; exact Sat.fin hs
   refine call0_of (value_grows_in hadd hkz2 (by simp; omega) hs2) fun e w ⟨he,hs⟩=>⟨he,?_⟩
   exact ⟨rfl,hs⟩
  ·exact ⟨rfl,ixr_shut s (n:=(m.length:Int) + 1) (by rw [hsl]; exact hadd) (by omega) (by simp) rfl (by exact Sat.fin hs)⟩
theorem value_Delete (h:Sat W w L) [hA:At L b (ixr Rec.si b seed m) F] (hz:k.size < 4611686018427387904) (hm:m.length < 900000000):Calls Tryz.prog 106 #[.pointer (some ⟨b,0,none⟩),.string k] w fun e w'=>e = .returned (.tuple #[.agg #[.string ((mGet m k).getD ((str_empty,0):ByteArray × Int)).1,.int .i64 ((mGet m k).getD ((str_empty,0):ByteArray × Int)).2],.bool (mGet m k).isSome]) /\ Sat W w' (F (ixr Rec.si b seed (mDel m k))):=by
 refine At.call1 (hA:=hA) h fun M hs=>?_
 clear h hA
 refine c1 (cw f106_ok f106_raw ?_)
 refine newB_at hs fun b1 w hs=>?_
 refine (value_Get hs hz).mono fun e w ⟨he,hs⟩=>⟨_,_,_,he,?_⟩
 repeat (first | ((with_reducible refine isSt ?_); first | refine st_b hs fun w hs=>?_ | fail) | ((with_reducible refine isNew ?_); first | refine newB_at hs fun b_ w hs=>?_ | fail) | fail)
 have hs:Sat W w (ixr Rec.si b seed m::blk b_ [.string ((mGet m k).getD ((str_empty,0):ByteArray × Int)).1,.int .i64 ((mGet m k).getD ((str_empty,0):ByteArray × Int)).2]::blk b1 [.string str_empty,.int .i64 (0:Int)]::M):=by exact Sat.fin hs
 refine ite_some (fun v hg=>?_) (fun hg=>?_)
 ·obtain ⟨s,ps,hi,h2,hn,hs⟩:=ixr_open hs
  have hsm:=hi.small
  have hbg:=hi.big
  refine call2_of (value_find_in (st:=startV seed ps.length) rfl hz (by omega) (hi.stop _) hs) fun e w ⟨he,hs⟩=>⟨_,_,he,?_⟩
  have hb:(findI (startV seed ps.length) ps k).2 = true:=by
   cases hb:(findI (startV seed ps.length) ps k).2 with
   | true=>rfl
   | false=>have:=(hi.miss hb).2.2.1; rw [hg] at this; cases this
  obtain ⟨hj,hit,_⟩:=hi.hit hb
  repeat (first | with_reducible refine nilck_some ?_ | ((with_reducible refine atLd ?_); first | refine ld_b hs ?_ | fail) | ((with_reducible refine isSt ?_); first | refine st_b hs fun w hs=>?_ | refine st_rec4 hs fun w hs=>?_ | fail) | ((with_reducible refine isIdx ?_); first | refine idx_s hs fun b_ o_ hs=>?_ | fail) | fail)
  rw [i64_in _ (by omega)] at hs
  simp only [Int.toNat_natCast] at hs
  have hdel:=hi.del (z:=(⟨1,str_empty,((str_empty,0):ByteArray × Int)⟩:Pl (ByteArray × Int))) hj hit rfl
  have hus:usedP (ps.set (findI (startV seed ps.length) ps k).1 (⟨1,str_empty,((str_empty,0):ByteArray × Int)⟩:Pl (ByteArray × Int))) = usedP ps:=by
   rw [usedP_set hj _ (by show (1:Int) ≠ 0; decide),if_neg (by rw [hit.1]; decide)]; rfl
  have hl:=mDel_len hi.nodup hg
  refine ⟨by trivial,ixr_shut s (n:=(m.length:Int) - 1) (u:=(usedP ps:Int)) (by rw [List.length_set]; exact hdel) (by rw [hus,List.length_set]; exact h2) (by omega) (by rw [hus]) (by exact Sat.fin hs)⟩
 ·have:mDel m k = m:=by
   unfold mDel
   rw [List.filter_eq_self]
   intro e he
   simpa using mGet_none.1 hg e he
  rw [this]
  repeat (first | ((with_reducible refine atLd ?_); first | refine ld_b hs ?_ | fail) | ((with_reducible refine isSt ?_); first | refine st_b hs fun w hs=>?_ | fail) | fail)
  exact ⟨by trivial,by exact Sat.fin hs⟩
end
end Go.Proofs.YtmefopmnjncdbaaGreat
