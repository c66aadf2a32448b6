import Derived.Test.YtmefopmnjncdbaaGreatMn24
set_option linter.unusedVariables false
set_option linter.unusedSimpArgs false
set_option linter.unnecessarySimpa false
set_option linter.unusedSectionVars false
set_option maxRecDepth 100000
namespace Go.Proofs.YtmefopmnjncdbaaGreat
open Go.Hb Go.IntWalk
noncomputable def mkt:TypeId × TypeId:=mapKT Tryz.prog 144
section
variable {W w:World} {L M:List HP} {F:HP -> List HP} {b sb:Nat} {sh room err kind:Int} {s:JS} {hit:Bool} {val k q:ByteArray} {o:OpV} {sl:Sl} {gone ks:List ByteArray}
theorem mlook {K:Bool -> WP} (h:Sat W w L) [hA:At L sb (setC Tryz.prog mkt.1 mkt.2 sb ks) F] (hq:q.size <= maxLen) (hK:K (sHas ks q) w):mLook Tryz.prog 144 (.map (some sb)) (.string q) .bool K w:=
 mLook_at (P:=Tryz.prog) (kt:=mkt.1) (et:=mkt.2) (by kernel_rfl) (by kernel_rfl) (by kernel_rfl) (fun w=>by kernel_rfl) h (hA:=hA) hq hK
theorem mup {K:WP} (h:Sat W w L) [hA:At L sb (setC Tryz.prog mkt.1 mkt.2 sb ks) F] (hq:q.size <= maxLen) (hn:ks.length < maxLen) (hK:∀ w',Sat W w' (F (setC Tryz.prog mkt.1 mkt.2 sb (q::ks))) -> K w'):mUp Tryz.prog 144 (.map (some sb)) (.string q) (.bool true) K w:=
 mUp_at (P:=Tryz.prog) (kt:=mkt.1) (et:=mkt.2) (by kernel_rfl) (by kernel_rfl) (by kernel_rfl) h (hA:=hA) hq hn hK
theorem maxLen_big:(10000:Nat) <= maxLen:=by decide
theorem may_of (kind:Int):(jMay kind = true /\ ((kind = 1 \/ kind = 3 \/ kind = 4) /\ jSoft kind = true \/ (kind = 2 \/ kind = 9) /\ jSoft kind = false)) \/ (jMay kind = false /\ kind ≠ 1 /\ kind ≠ 2 /\ kind ≠ 3 /\ kind ≠ 4 /\ kind ≠ 9):=by
 unfold jMay jSoft
 by_cases h:kind = 1 \/ kind = 3 \/ kind = 4
 ·left; exact ⟨decide_eq_true (by omega),.inl ⟨h,decide_eq_true h⟩⟩
 ·by_cases h2:kind = 2 \/ kind = 9
  ·left; exact ⟨decide_eq_true (by omega),.inr ⟨h2,decide_eq_false h⟩⟩
  ·right; exact ⟨decide_eq_false (by omega),by omega,by omega,by omega,by omega,by omega⟩
theorem jg_goes [hO:AtO L W] (hs:Sat W w (jgR b sh s::L)) (hr:ReadsR0 W sl Rec.str gone) (hg:∀ g ∈ gone,g.size <= 40) (hn:gone.length <= 9000) :
  Calls Tryz.prog 33 #[.pointer (some ⟨b,0,none⟩),.int .i64 kind,.slice sl.a sl.n sl.c] w fun e w'=>e = .returned (.bool (jGoes s.T s.now kind gone)) /\ Sat W w' (jgR b sh s::L):=by
 refine c1 (cw f33_ok f33_raw ?_)
 refine newM_at (P:=Tryz.prog) (kt:=mkt.1) (et:=mkt.2) hs fun sb w hs=>?_
 have hlen:=hr.1
 have hbig:=maxLen_big
 have loop:∀ (f i:Nat) (w:World) (ks:List ByteArray),i + f = gone.length -> (∀ q,sHas ks q = true ↔ ∃ k,k < i /\ gone.getD k default = q) -> ks.length <= i -> (∀ a c,c < a -> a < i -> gone.getD a default ≠ gone.getD c default) ->
   (∀ a,a < i -> jOk s.T s.now kind (gone.getD a default) = true) -> Sat W w (setC Tryz.prog mkt.1 mkt.2 sb ks::jgR b sh s::L) ->
   f33_l1 idJ (fun v w'=>v = .bool (jGoes s.T s.now kind gone) /\ Sat W w' (jgR b sh s::L)) (f + 1) (some ⟨b,0,none⟩) kind (some sb) sl (sl.n:Int) (i:Int) w:=by
  intro f
  induction f with
  | zero=>
   intro i w ks hi hks hkl hdis hok hs
   rw [f33_l1_raw]
   refine ite_false (decide_eq_false (by omega)) ?_
   refine jw f33_j4_raw ?_
   exact ⟨by rw [jGoes_true ⟨fun a c h1 h2=>hdis a c h1 (by omega),fun a h1=>hok a (by omega)⟩],by exact Sat.fin hs⟩
  | succ f ih=>
   intro i w ks hi hks hkl hdis hok hs
   rw [f33_l1_raw]
   refine ite_true (decide_eq_true (by omega)) ?_
   have hil:i < gone.length:=by omega
   haveI hR:=reads0 hr hil
   have hsz:=hg (gone.getD i default) (by rw [List.getD_eq_getElem?_getD,List.getElem?_eq_getElem hil]; exact List.getElem_mem hil)
   have hs:Sat W w (jgR b sh s::setC Tryz.prog mkt.1 mkt.2 sb ks::L):=by exact Sat.fin hs
   obtain ⟨tb,hs⟩:=jg_open hs
   repeat (first | with_reducible refine nilck_some ?_ | ((with_reducible refine atLd ?_); first | refine ld_b hs ?_ | refine ld_rd0 ha_ hs ?_ | fail) | ((with_reducible refine isIdx ?_); first | refine idx_rd hs fun b_ o_ ha_=>?_ | fail) | ((with_reducible refine isLdS ?_); first | refine ldS_b ?_ | fail) | ((with_reducible refine isKeep ?_); first | refine keep_of hs ?_ | fail) | ((with_reducible refine isDraw ?_); first | refine drawW_sat hs fun w hs=>?_ | fail) | fail)
   simp only [Int.toNat_natCast]
   refine call2_of (tab_Get hs (by omega)) fun e w ⟨he,hs⟩=>⟨_,_,he,?_⟩
   have bad:∀ w,Sat W w (blk b [.pointer (some ⟨tb,0,none⟩),.int .i64 sh,.int .i64 s.room,.int .i64 s.now]::tabR tb s.T::setC Tryz.prog mkt.1 mkt.2 sb ks::L) -> jGoes s.T s.now kind gone = false -> (Value.bool false = .bool (jGoes s.T s.now kind gone) /\ Sat W w (jgR b sh s::L)):=by
    intro w hs hf
    have hs:=jg_shut tb hs
    exact ⟨by rw [hf],by exact Sat.fin hs⟩
   have j3:∀ (al:Bool) (w:World),al = (jSoft kind && (tGet s.T (gone.getD i default) s.now).2) -> jMay kind = true ->
     Sat W w (blk b [.pointer (some ⟨tb,0,none⟩),.int .i64 sh,.int .i64 s.room,.int .i64 s.now]::tabR tb s.T::setC Tryz.prog mkt.1 mkt.2 sb ks::L) ->
     f33_j3 idJ (fun v w'=>v = .bool (jGoes s.T s.now kind gone) /\ Sat W w' (jgR b sh s::L)) (f + 1) (some ⟨b,0,none⟩) kind (some sb) (gone.getD i default) al sl (sl.n:Int) (i:Int) w:=by
    intro al w hal hmay hs
    refine jw f33_j3_raw ?_
    refine ite_cases (fun h1=>?_) (fun h1=>?_)
    ·exact bad w hs (goes_bad hil (jOk_soft (hal.symm.trans h1)))
    refine mlook hs (by omega) ?_
    refine ite_cases (fun h2=>?_) (fun h2=>?_)
    ·obtain ⟨k,hk,hkq⟩:=(hks _).1 h2
     exact bad w hs (goes_dup hk hil hkq.symm)
    repeat (first | with_reducible refine nilck_some ?_ | ((with_reducible refine atLd ?_); first | refine ld_b hs ?_ | fail) | fail)
    refine call1_of (tab_Has hs (by omega)) fun e w ⟨he,hs⟩=>⟨_,he,?_⟩
    refine ite_cases (fun h3=>?_) (fun h3=>?_)
    ·exact bad w hs (goes_bad hil (jOk_has (by simpa using h3)))
    refine mup hs (by omega) (by omega) fun w hs=>?_
    rw [i64_in _ (by omega)]
    have hs:=jg_shut tb hs
    refine ih (i + 1) w (gone.getD i default::ks) (by omega) (fun q=>?_) (Nat.succ_le_succ hkl) (fun a c h4 h5=>?_) (fun a h4=>?_) (by exact Sat.fin hs)
    ·rw [sHas_iff,List.mem_cons,<- sHas_iff,hks q]
     constructor
     ·rintro (h | ⟨k,h5,h6⟩)
      ·exact ⟨i,by omega,h.symm⟩
      ·exact ⟨k,by omega,h6⟩
     ·rintro ⟨k,h5,h6⟩
      by_cases hki:k = i
      ·subst hki; exact .inl h6.symm
      ·exact .inr ⟨k,by omega,h6⟩
    ·by_cases hai:a = i
     ·subst hai
      intro h6
      rw [(hks _).2 ⟨c,h4,h6.symm⟩] at h2
      cases h2
     ·exact hdis a c h4 (by omega)
    ·by_cases hai:a = i
     ·subst hai
      exact jOk_ok hmay (hal.symm.trans h1) (by simpa using h3)
     ·exact hok a (by omega)
   have j2:∀ (t:Bool),(t = true -> jSoft kind = true /\ jMay kind = true) -> (t = false -> jSoft kind = false) -> f33_j2 idJ (fun v w'=>v = .bool (jGoes s.T s.now kind gone) /\ Sat W w' (jgR b sh s::L)) (f + 1) (some ⟨b,0,none⟩) kind (some sb) (gone.getD i default) (tGet s.T (gone.getD i default) s.now).2 sl (sl.n:Int) (i:Int) kind t w:=by
    intro t h1 h2
    refine jw f33_j2_raw ?_
    refine ite_cases (fun h=>?_) (fun h=>?_)
    ·exact j3 _ w (by rw [(h1 h).1,Bool.true_and]) (h1 h).2 hs
    have h2:=h2 h
    have hno:kind ≠ 2 -> kind ≠ 9 -> jMay kind = false:=fun e1 e2=>by
     rcases may_of kind with ⟨_,⟨_,h3⟩ | ⟨h3,_⟩⟩ | ⟨h3,_⟩
     ·rw [h2] at h3; cases h3
     ·omega
     ·exact h3
    have hyes:kind = 2 \/ kind = 9 -> jMay kind = true:=fun h=>decide_eq_true (by omega)
    with_reducible refine ite_eqI (fun h3=>?_) (fun h3=>?_)
    ·refine ite_true (by simpa using h3) ?_
     with_reducible refine j3 _ w ?_ (hyes (.inl h3)) hs
     rw [h2,Bool.false_and]
    with_reducible refine ite_eqI (fun h4=>?_) (fun h4=>?_)
    ·with_reducible refine j3 _ w ?_ (hyes (.inr h4)) hs
     rw [h2,Bool.false_and]
    ·exact bad w hs (goes_bad hil (jOk_may (hno h3 h4)))
   have yes:kind = 1 \/ kind = 3 \/ kind = 4 -> jSoft kind = true /\ jMay kind = true:=fun h=>⟨decide_eq_true h,decide_eq_true (by omega)⟩
   have no:kind ≠ 1 -> kind ≠ 3 -> kind ≠ 4 -> jSoft kind = false:=fun h1 h2 h3=>decide_eq_false (by omega)
   with_reducible refine ite_eqI (fun h1=>?_) (fun h1=>?_)
   ·exact j2 _ (fun _=>yes (.inl h1)) (fun h=>absurd h1 (by simpa using h))
   with_reducible refine ite_eqI (fun h2=>?_) (fun h2=>?_)
   ·exact j2 _ (fun _=>yes (.inr (.inl h2))) (fun h=>absurd h2 (by simpa using h))
   ·exact j2 _ (fun h=>yes (.inr (.inr (by simpa using h)))) (fun h=>no h1 h2 (by simpa using h))
 exact ⟨gone.length + 1,loop gone.length 0 w [] (by omega) (fun q=>by simp [sHas]) (by simp) (fun a c _ h=>by omega) (fun a h=>by omega) hs⟩
theorem jg_notes [hO:AtO L W] (hs:Sat W w (jgR b sh s::L)) (hi:TOk s.T) (hl:s.T.length < 700000000) (hr:ReadsR0 W sl Rec.str gone) (hg:∀ g ∈ gone,g.size <= 40) (hn:gone.length <= 9000) (hz:o.key.size <= 40) :
  Calls Tryz.prog 34 #[.pointer (some ⟨b,0,none⟩),.agg #[.int .i64 o.kind,.string o.key,.string o.val,.int .i64 o.n],.slice sl.a sl.n sl.c] w fun e w'=>e = .returned (.tuple #[]) /\ Sat W w' (jgR b sh ⟨jNotes s.T s.now o gone,s.now,jRoom s.room o⟩::L):=by
 refine c1 (cw f34_ok f34_raw ?_)
 refine newB_at hs fun ob w hs=>?_
 have hlen:=hr.1
 have hgl:=gone_tok hi gone
 have hm:(gone.foldl rDel s.T).length < 800000000:=by omega
 have fin:∀ (w:World),Sat W w (blk ob [.int .i64 o.kind,.string o.key,.string o.val,.int .i64 o.n]::jgR b sh ⟨gone.foldl rDel s.T,s.now,s.room⟩::L) ->
   f34_j2 idJ (fun v w'=>v = .tuple #[] /\ Sat W w' (jgR b sh ⟨jNotes s.T s.now o gone,s.now,jRoom s.room o⟩::L)) (some ⟨b,0,none⟩) ob 0 w:=by
  intro w hs
  refine jw f34_j2_raw ?_
  have hs:Sat W w (jgR b sh ⟨gone.foldl rDel s.T,s.now,s.room⟩::blk ob [.int .i64 o.kind,.string o.key,.string o.val,.int .i64 o.n]::L):=by exact Sat.fin hs
  obtain ⟨tb,hs⟩:=jg_open hs
  unfold jNotes jRoom
  repeat (first | ((with_reducible refine atLd ?_); first | refine ld_b hs ?_ | fail) | fail)
  with_reducible refine ite_eqI (fun h1=>?_) (fun h1=>?_)
  ·repeat (first | with_reducible refine nilck_some ?_ | ((with_reducible refine atLd ?_); first | refine ld_b hs ?_ | fail) | ((with_reducible refine isLdS ?_); first | refine ldS_b ?_ | fail) | ((with_reducible refine isKeep ?_); first | refine keep_of hs ?_ | fail) | ((with_reducible refine isDraw ?_); first | refine drawW_sat hs fun w hs=>?_ | fail) | fail)
   refine call2_of (tab_Put hs hm) fun e w ⟨he,hs⟩=>⟨_,_,he,?_⟩
   rw [if_pos h1,if_neg (by omega)]
   have hs:=jg_shut tb hs
   exact ⟨rfl,by exact Sat.fin hs⟩
  rw [if_neg h1]
  with_reducible refine ite_eqI (fun h2=>?_) (fun h2=>?_)
  ·repeat (first | with_reducible refine nilck_some ?_ | ((with_reducible refine atLd ?_); first | refine ld_b hs ?_ | fail) | ((with_reducible refine isLdS ?_); first | refine ldS_b ?_ | fail) | ((with_reducible refine isKeep ?_); first | refine keep_of hs ?_ | fail) | ((with_reducible refine isDraw ?_); first | refine drawW_sat hs fun w hs=>?_ | fail) | fail)
   refine call1_of (tab_Delete hs (by omega) hm) fun e w ⟨he,hs⟩=>⟨_,he,?_⟩
   rw [if_pos h2,if_neg (by omega)]
   have hs:=jg_shut tb hs
   exact ⟨rfl,by exact Sat.fin hs⟩
  rw [if_neg h2]
  with_reducible refine ite_eqI (fun h3=>?_) (fun h3=>?_)
  ·repeat (first | with_reducible refine nilck_some ?_ | ((with_reducible refine atLd ?_); first | refine ld_b hs ?_ | fail) | ((with_reducible refine isSt ?_); first | refine st_b hs fun w hs=>?_ | fail) | fail)
   rw [if_pos h3]
   have hs:=jg_shut tb hs
   exact ⟨rfl,by exact Sat.fin hs⟩
  ·rw [if_neg h3]
   have hs:=jg_shut tb hs
   exact ⟨rfl,by exact Sat.fin hs⟩
 have loop:∀ (f i:Nat) (w:World),i + f = gone.length -> Sat W w (blk ob [.int .i64 o.kind,.string o.key,.string o.val,.int .i64 o.n]::jgR b sh ⟨(gone.take i).foldl rDel s.T,s.now,s.room⟩::L) ->
   f34_l1 idJ (fun v w'=>v = .tuple #[] /\ Sat W w' (jgR b sh ⟨jNotes s.T s.now o gone,s.now,jRoom s.room o⟩::L)) (f + 1) (some ⟨b,0,none⟩) ob 0 sl (sl.n:Int) (i:Int) w:=by
  intro f
  induction f with
  | zero=>
   intro i w hi hs
   rw [f34_l1_raw]
   refine ite_false (decide_eq_false (by omega)) ?_
   rw [List.take_of_length_le (by omega)] at hs
   exact fin w hs
  | succ f ih=>
   intro i w hi2 hs
   rw [f34_l1_raw]
   refine ite_true (decide_eq_true (by omega)) ?_
   have hil:i < gone.length:=by omega
   haveI hR:=reads0 hr hil
   have hsz:=hg (gone.getD i default) (by rw [List.getD_eq_getElem?_getD,List.getElem?_eq_getElem hil]; exact List.getElem_mem hil)
   have hgi:=gone_tok hi (gone.take i)
   have hmi:((gone.take i).foldl rDel s.T).length < 800000000:=by omega
   have hs:Sat W w (jgR b sh ⟨(gone.take i).foldl rDel s.T,s.now,s.room⟩::blk ob [.int .i64 o.kind,.string o.key,.string o.val,.int .i64 o.n]::L):=by exact Sat.fin hs
   obtain ⟨tb,hs⟩:=jg_open hs
   repeat (first | with_reducible refine nilck_some ?_ | ((with_reducible refine atLd ?_); first | refine ld_b hs ?_ | refine ld_rd0 ha_ hs ?_ | fail) | ((with_reducible refine isIdx ?_); first | refine idx_rd hs fun b_ o_ ha_=>?_ | fail) | fail)
   simp only [Int.toNat_natCast]
   refine call1_of (tab_Delete hs (by omega) hmi) fun e w ⟨he,hs⟩=>⟨_,he,?_⟩
   rw [i64_in _ (by omega)]
   rw [<- gone_snoc hil] at hs
   have hs:=jg_shut tb hs
   exact ih (i + 1) w (by omega) (by exact Sat.fin hs)
 exact ⟨gone.length + 1,loop gone.length 0 w (by omega) hs⟩
theorem jg_See [hO:AtO L W] (hs:Sat W w (jgR b sh s::L)) (hj:JOk s) (hl:s.T.length < 700000000) (hn0:okK .i64 o.n) (hr:ReadsR0 W sl Rec.str gone) (hg:∀ g ∈ gone,g.size <= 40) (hn:gone.length <= 9000) (hz:o.key.size <= 40) :
  Calls Tryz.prog 14 #[.pointer (some ⟨b,0,none⟩),.agg #[.int .i64 o.kind,.string o.key,.string o.val,.int .i64 o.n],.agg #[.int .i64 err,.bool hit,.string val,.slice sl.a sl.n sl.c]] w fun e w'=>
   e = .returned (.bool (jSays sh s o err hit val gone)) /\ Sat W w' (jgR b sh (jNext s o err gone)::L):=by
 refine c1 (cw f14_ok f14_raw ?_)
 have hlen:=hr.1
 refine newB_at hs fun ob w hs=>?_
 refine newB_at hs fun rb w hs=>?_
 refine ite_false rfl ?_
 unfold jSays jNext
 repeat (first | ((with_reducible refine atLd ?_); first | refine ld_b hs ?_ | fail) | fail)
 with_reducible refine ite_neI (fun he=>?_) (fun he=>?_)
 ·rw [if_pos he,if_pos he]
  repeat (first | ((with_reducible refine atLd ?_); first | refine ld_b hs ?_ | fail) | fail)
  have hj0:(⟨s.T,s.now,s.room⟩:JS) = s:=rfl
  cases hit with
  | true=>exact ⟨by simp,by exact Sat.fin hs⟩
  | false=>
   refine ite_true rfl ?_
   repeat (first | ((with_reducible refine atLd ?_); first | refine ld_b hs ?_ | fail) | fail)
   cases hv:sEq val str_empty with
   | false=>
    refine ite_false rfl ⟨?_,by exact Sat.fin hs⟩
    rw [sEq_eq] at hv
    have:(decide (val = ⟨#[]⟩)) = false:=hv
    rw [this]; simp
   | true=>
    refine ite_true rfl ?_
    repeat (first | ((with_reducible refine atLd ?_); first | refine ld_b hs ?_ | fail) | fail)
    refine ⟨?_,by exact Sat.fin hs⟩
    rw [sEq_eq] at hv
    have:(decide (val = ⟨#[]⟩)) = true:=hv
    rw [this,hlen]
    congr 1
    rw [Bool.eq_iff_iff]
    simp
 have he:¬ err ≠ 0:=fun h=>h he
 rw [if_neg he,if_neg he]
 have hnow:=jNow_in (o:=o) hj.now0 hj.nowM
 have j3:∀ (ok:Bool) (w:World),ok = (jRight s.T (jNow s.now o) o.kind o.key hit val && jGoes s.T (jNow s.now o) o.kind gone) ->
   Sat W w (blk rb [.int .i64 err,.bool hit,.string val,.slice sl.a sl.n sl.c]::blk ob [.int .i64 o.kind,.string o.key,.string o.val,.int .i64 o.n]::jgR b sh ⟨s.T,jNow s.now o,s.room⟩::L) ->
   f14_j3 idJ (fun v w'=>v = .bool ((jRight s.T (jNow s.now o) o.kind o.key hit val && jGoes s.T (jNow s.now o) o.kind gone) && jFits (jNotes s.T (jNow s.now o) o gone) sh (jRoom s.room o)) /\ Sat W w' (jgR b sh ⟨jNotes s.T (jNow s.now o) o gone,jNow s.now o,jRoom s.room o⟩::L)) (some ⟨b,0,none⟩) ob 0 rb 0 ok w:=by
  intro ok w hok hs
  refine jw f14_j3_raw ?_
  rw [<- hok]
  repeat (first | ((with_reducible refine atLd ?_); first | refine ld_b hs ?_ | fail) | fail)
  have hs:Sat W w (jgR b sh ⟨s.T,jNow s.now o,s.room⟩::blk rb [.int .i64 err,.bool hit,.string val,.slice sl.a sl.n sl.c]::blk ob [.int .i64 o.kind,.string o.key,.string o.val,.int .i64 o.n]::L):=by exact Sat.fin hs
  refine call0_of (jg_notes hs hj.tok hl hr hg hn hz) fun e w ⟨he,hs⟩=>⟨he,?_⟩
  refine ite_cases (fun h=>?_) (fun h=>?_)
  ·refine call1_of (jg_fits hs) fun e w ⟨he,hs⟩=>⟨_,he,?_⟩
   exact ⟨by rw [h]; rfl,by exact Sat.fin hs⟩
  ·exact ⟨by rw [h]; rfl,by exact Sat.fin hs⟩
 have j2:∀ (w:World),Sat W w (blk rb [.int .i64 err,.bool hit,.string val,.slice sl.a sl.n sl.c]::blk ob [.int .i64 o.kind,.string o.key,.string o.val,.int .i64 o.n]::jgR b sh ⟨s.T,jNow s.now o,s.room⟩::L) ->
   f14_j2 idJ (fun v w'=>v = .bool ((jRight s.T (jNow s.now o) o.kind o.key hit val && jGoes s.T (jNow s.now o) o.kind gone) && jFits (jNotes s.T (jNow s.now o) o gone) sh (jRoom s.room o)) /\ Sat W w' (jgR b sh ⟨jNotes s.T (jNow s.now o) o gone,jNow s.now o,jRoom s.room o⟩::L)) (some ⟨b,0,none⟩) ob 0 rb 0 w:=by
  intro w hs
  refine jw f14_j2_raw ?_
  repeat (first | ((with_reducible refine atLd ?_); first | refine ld_b hs ?_ | fail) | fail)
  refine call1_of (jg_tells (err:=err) (hit:=hit) (val:=val) (sl:=sl) hs (by omega)) fun e w ⟨he,hs⟩=>⟨_,he,?_⟩
  refine ite_cases (fun h=>?_) (fun h=>?_)
  ·have h:jRight s.T (jNow s.now o) o.kind o.key hit val = true:=h
   repeat (first | ((with_reducible refine atLd ?_); first | refine ld_b hs ?_ | fail) | fail)
   have hs:Sat W w (jgR b sh ⟨s.T,jNow s.now o,s.room⟩::blk rb [.int .i64 err,.bool hit,.string val,.slice sl.a sl.n sl.c]::blk ob [.int .i64 o.kind,.string o.key,.string o.val,.int .i64 o.n]::L):=by exact Sat.fin hs
   refine call1_of (jg_goes (kind:=o.kind) hs hr hg hn) fun e w ⟨he,hs⟩=>⟨_,he,?_⟩
   with_reducible refine j3 _ w ?_ (by exact Sat.fin hs)
   rw [h,Bool.true_and]
  ·have h:jRight s.T (jNow s.now o) o.kind o.key hit val = false:=h
   with_reducible refine j3 _ w ?_ hs
   rw [h,Bool.false_and]
 have j1:∀ (t:Bool) (w:World),(t = true ↔ (o.kind = 4 /\ 0 < o.n)) -> Sat W w (blk rb [.int .i64 err,.bool hit,.string val,.slice sl.a sl.n sl.c]::blk ob [.int .i64 o.kind,.string o.key,.string o.val,.int .i64 o.n]::jgR b sh s::L) ->
   f14_j1 idJ (fun v w'=>v = .bool ((jRight s.T (jNow s.now o) o.kind o.key hit val && jGoes s.T (jNow s.now o) o.kind gone) && jFits (jNotes s.T (jNow s.now o) o gone) sh (jRoom s.room o)) /\ Sat W w' (jgR b sh ⟨jNotes s.T (jNow s.now o) o gone,jNow s.now o,jRoom s.room o⟩::L)) (some ⟨b,0,none⟩) ob 0 rb 0 t w:=by
  intro t w ht hs
  refine jw f14_j1_raw ?_
  refine ite_cases (fun h=>?_) (fun h=>?_)
  ·have hk:=ht.1 h
   have hs:Sat W w (jgR b sh s::blk rb [.int .i64 err,.bool hit,.string val,.slice sl.a sl.n sl.c]::blk ob [.int .i64 o.kind,.string o.key,.string o.val,.int .i64 o.n]::L):=by exact Sat.fin hs
   obtain ⟨tb,hs⟩:=jg_open hs
   have h0:=hj.now0
   have h1:=hj.nowM
   repeat (first | with_reducible refine nilck_some ?_ | ((with_reducible refine atLd ?_); first | refine ld_b hs ?_ | fail) | ((with_reducible refine isSt ?_); first | refine st_b hs fun w hs=>?_ | fail) | ((with_reducible refine isLdS ?_); first | refine ldS_b ?_ | fail) | ((with_reducible refine isKeep ?_); first | refine keep_of hs ?_ | fail) | ((with_reducible refine isDraw ?_); first | refine drawW_sat hs fun w hs=>?_ | fail) | fail)
   have hs:=jg_shut tb hs
   refine j2 w ?_
   have e:IntKind.wrap .i64 (s.now + (if (IntKind.wrap .i64 ((1125899906842624:Int) - s.now)) < o.n then (IntKind.wrap .i64 ((1125899906842624:Int) - s.now)) else o.n)) = jNow s.now o:=by
    rw [i64_in (1125899906842624 - s.now) (by omega)]
    unfold jNow
    rw [if_pos hk]
    split
    ·rw [i64_in _ (by omega)]; omega
    ·rw [i64_in _ (by omega)]; omega
   rw [e] at hs
   exact Sat.fin hs
  ·have hk:¬ (o.kind = 4 /\ 0 < o.n):=fun hk=>by rw [ht.2 hk] at h; cases h
   have e:jNow s.now o = s.now:=by unfold jNow; rw [if_neg hk]
   refine j2 w ?_
   rw [e]
   exact hs
 repeat (first | ((with_reducible refine atLd ?_); first | refine ld_b hs ?_ | fail) | fail)
 with_reducible refine ite_eqI (fun h1=>?_) (fun h1=>?_)
 ·repeat (first | ((with_reducible refine atLd ?_); first | refine ld_b hs ?_ | fail) | fail)
  with_reducible refine j1 _ w ?_ hs
  rw [decide_eq_true_eq]
  constructor
  ·intro h; exact ⟨h1,h⟩
  ·intro h; exact h.2
 ·with_reducible refine j1 _ w ?_ hs
  constructor
  ·intro h; cases h
  ·intro h; exact absurd h.1 h1
end
end Go.Proofs.YtmefopmnjncdbaaGreat

namespace Go.Hb
structure InOk (W:World) (ops:List OpV) (rs:List Ans):Prop where
 key:∀ i,i < ops.length -> i < 120 -> (ops.getD i default).key.size <= 40
 opn:∀ i,i < ops.length -> okK .i64 (ops.getD i default).n
 len:∀ i,i < rs.length -> i < 120 -> (rs.getD i default).gone.length <= 9000
 gone:∀ i,i < rs.length -> i < 120 -> ∀ g ∈ (rs.getD i default).gone,g.size <= 40
 rd:∀ i,i < rs.length -> ReadsR0 W (rs.getD i default).sl Rec.str (rs.getD i default).gone
theorem drop_getD {α:Type} [Inhabited α] {l:List α} {i:Nat} (h:i < l.length):l.drop i = l.getD i default::l.drop (i + 1):=by
 rw [List.drop_eq_getElem_cons h,List.getD_eq_getElem?_getD,List.getElem?_eq_getElem h]; rfl
theorem jWrong_step {sh:Int} {s:JS} {ops:List OpV} {rs:List Ans} {i:Nat} (h1:i < ops.length) (h2:i < rs.length):jWrong sh i s (ops.drop i) (rs.drop i) =
  if jSays sh s (ops.getD i default) (rs.getD i default).err (rs.getD i default).hit (rs.getD i default).val (rs.getD i default).gone then jWrong sh (i + 1) (jNext s (ops.getD i default) (rs.getD i default).err (rs.getD i default).gone) (ops.drop (i + 1)) (rs.drop (i + 1)) else (i:Int):=by
 rw [drop_getD h1,drop_getD h2,jWrong]
theorem jWrong_end {sh:Int} {s:JS} {ops:List OpV} {rs:List Ans} {i:Nat} (h:ops.length <= i \/ rs.length <= i):jWrong sh i s (ops.drop i) (rs.drop i) = -1:=by
 rcases h with h | h
 ·rw [List.drop_eq_nil_of_le h]; unfold jWrong; rfl
 ·rw [List.drop_eq_nil_of_le h]; cases ops.drop i <;> (unfold jWrong; rfl)
theorem JOk.new {room:Int} (h:okK .i64 room):JOk ⟨[],0,room⟩:=⟨⟨by simp [RiseM,Rising],by simp,by simp⟩,Int.le_refl 0,(by show (0:Int) <= 1125899906842624; decide),h⟩
end Go.Hb
namespace Go.Proofs.YtmefopmnjncdbaaGreat
open Go.Hb Go.IntWalk
section
variable {W w:World} {L M:List HP} {F:HP -> List HP} {b sb:Nat} {sh room err kind:Int} {s:JS} {hit:Bool} {val k q:ByteArray} {o:OpV} {sl s0 s1:Sl} {gone ks:List ByteArray} {ops:List OpV} {rs:List Ans}
theorem heavy27 [hr:Rdb W L s0 opR ops] (hs:Sat W w L):Calls Tryz.prog 4 #[.slice s0.a s0.n s0.c] w fun e w'=>∃ b:Bool,e = .returned (.bool b) /\ (b = false -> ∀ i,i < ops.length -> i < 120 -> (ops.getD i default).key.size <= 40) /\ Sat W w' L:=by
 refine (cw f4_ok f4_raw (Q:=fun v w'=>∃ b:Bool,v = .bool b /\ (b = false -> ∀ i,i < ops.length -> i < 120 -> (ops.getD i default).key.size <= 40) /\ Sat W w' L) ?_).mono fun e w' ⟨v,he,b,hv,hs⟩=>⟨b,by rw [he,hv],hs⟩
 obtain ⟨N,hN⟩:∃ N:Nat,N = 121:=⟨_,rfl⟩
 have loop:∀ (m i:Nat) (w:World),i + m = N -> (∀ j,j < i -> j < ops.length -> (ops.getD j default).key.size <= 40) -> Sat W w L -> f4_l1 idJ (fun v w'=>∃ b:Bool,v = .bool b /\ (b = false -> ∀ i,i < ops.length -> i < 120 -> (ops.getD i default).key.size <= 40) /\ Sat W w' L) (m + 1) s0 (i:Int) w:=by
  intro m
  induction m with
  | zero=>
   intro i w hi hp hs
   have hn:=rdb_len (s:=s0) hs
   rw [f4_l1_raw]
   with_reducible refine ite_ltI (fun h1=>?_) (fun h1=>?_)
   ·with_reducible refine ite_ltI (fun h2=>absurd h2 (by omega)) (fun h2=>?_)
    refine jw f4_j3_raw ?_
    exact ⟨_,rfl,fun _ j hj hj2=>hp j (by omega) hj,hs⟩
   ·refine jw f4_j3_raw ?_
    exact ⟨_,rfl,fun _ j hj hj2=>hp j (by omega) hj,hs⟩
  | succ m ih=>
   intro i w hi hp hs
   have hn:=rdb_len (s:=s0) hs
   rw [f4_l1_raw]
   with_reducible refine ite_ltI (fun h1=>?_) (fun h1=>?_)
   ·with_reducible refine ite_ltI (fun h2=>?_) (fun h2=>?_)
    ·refine jw f4_j2_raw ?_
     repeat (first | ((with_reducible refine atLd ?_); first | refine ld_rd1 ha_ hs ?_ | fail) | ((with_reducible refine isIdx ?_); first | refine idx_rd hs fun b_ o_ ha_=>?_ | fail) | fail)
     rw [Int.toNat_natCast]
     with_reducible refine ite_ltI (fun h3=>?_) (fun h3=>?_)
     ·exact ⟨_,rfl,(fun h=>by cases h),hs⟩
     ·repeat (first | ((with_reducible refine atLd ?_); first | refine ld_rd1 ha_ hs ?_ | fail) | ((with_reducible refine isIdx ?_); first | refine idx_rd hs fun b_ o_ ha_=>?_ | fail) | fail)
      with_reducible refine ite_ltI (fun h4=>?_) (fun h4=>?_)
      ·exact ⟨_,rfl,(fun h=>by cases h),hs⟩
      rw [i64_in _ (by omega)]
      refine ih (i + 1) w (by omega) (fun j hj hj2=>?_) hs
      by_cases hji:j = i
      ·subst hji; omega
      ·exact hp j (by omega) hj2
    ·refine jw f4_j3_raw ?_
     exact ⟨_,rfl,fun _ j hj hj2=>hp j (by omega) hj,hs⟩
   ·refine jw f4_j3_raw ?_
    exact ⟨_,rfl,fun _ j hj hj2=>hp j (by omega) hj,hs⟩
 refine ⟨N + 1,?_⟩
 exact loop N 0 w (by omega) (fun j hj=>by omega) hs
theorem known27 [hO:AtO L W] (hs:Sat W w L):Calls Tryz.prog 7 #[] w fun e w'=>e = .returned (.bool true) /\ Sat W w' L:=by
 refine c1 (cw f7_ok f7_raw ?_)
 refine call1_of (jg_New hs) fun e w ⟨b,he,hs⟩=>⟨_,he,?_⟩
 refine ite_true rfl ?_
 have hj:JOk ⟨[],0,1⟩:=JOk.new rfl
 refine call1_of (jg_See (o:=⟨1,str_a,str_empty,0⟩) (err:=0) (hit:=true) (val:=str_x) (sl:=⟨none,0,0⟩) (gone:=[]) hs hj (by simp) rfl ⟨rfl,.inl rfl⟩ (by simp) (by simp) (by decide)) fun e w ⟨he,hs⟩=>⟨_,he,?_⟩
 have hsay:jSays 1 ⟨[],0,1⟩ ⟨1,str_a,str_empty,0⟩ 0 true str_x [] = false:=by
  unfold jSays jRight
  have:(tGet ([]:TT) str_a (jNow 0 ⟨1,str_a,str_empty,0⟩)).2 = false:=rfl
  simp [this]
 exact ⟨by rw [hsay]; rfl,by exact Sat.fin hs⟩
set_option maxRecDepth 100000 in
theorem jg_Wrong [hO:AtO L W] [hr0:ReadsR W s0 opR ops] [hr1:ReadsR W s1 ansR rs] (hs:Sat W w L) (hin:InOk W ops rs) (hl0:ops.length <= 120) (hl1:rs.length <= 120) (hroom:okK .i64 room) :
  Calls Tryz.prog 9 #[.int .i64 sh,.int .i64 room,.slice s0.a s0.n s0.c,.slice s1.a s1.n s1.c] w fun e w'=>e = .returned (.int .i64 (jWrong sh 0 ⟨[],0,room⟩ ops rs)) /\ Sat W w' L:=by
 refine c1 (cw f9_ok f9_raw ?_)
 have e0:=hr0.len
 have e1:=hr1.len
 refine call1_of (jg_New hs) fun e w ⟨b,he,hs⟩=>⟨_,he,?_⟩
 obtain ⟨t,ht⟩:∃ t:Nat,(t:Int) = (if (s1.n:Int) < (s0.n:Int) then (s1.n:Int) else (s0.n:Int)):=⟨if s1.n < s0.n then s1.n else s0.n,by split <;> split <;> omega⟩
 have ht2:t <= ops.length /\ t <= rs.length /\ (ops.length <= t \/ rs.length <= t):=by split at ht <;> omega
 rw [<- ht]
 have loop:∀ (f i:Nat) (s:JS) (w:World),i + f = t -> JOk s -> s.T.length <= i -> Sat W w (jgR b sh s::L) ->
   f9_l1 idJ (fun v w'=>v = .int .i64 (jWrong sh i s (ops.drop i) (rs.drop i)) /\ Sat W w' L) (f + 1) s0 s1 (some ⟨b,0,none⟩) (t:Int) (i:Int) w:=by
  intro f
  induction f with
  | zero=>
   intro i s w hi hj hl hs
   rw [f9_l1_raw]
   refine ite_false (decide_eq_false (by omega)) ?_
   refine jw f9_j2_raw ?_
   exact ⟨by rw [jWrong_end (by omega)],by exact Sat.fin hs⟩
  | succ f ih=>
   intro i s w hi hj hl hs
   rw [f9_l1_raw]
   refine ite_true (decide_eq_true (by omega)) ?_
   have h0:i < ops.length:=by omega
   have h1:i < rs.length:=by omega
   with_reducible refine drawW_sat hs fun w hs=>?_
   with_reducible refine idx_rd hs fun b1 o1 ha1=>?_
   refine ldS_rd0 ha1 ?_
   refine ldS_rd1 ha1 ?_
   refine ldS_rd2 ha1 ?_
   refine ldS_rd3 ha1 ?_
   with_reducible refine idx_rd hs fun b2 o2 ha2=>?_
   refine ld_rd0 ha2 hs ?_
   refine ld_rd1 ha2 hs ?_
   refine ld_rd2 ha2 hs ?_
   refine ld_rd3 ha2 hs ?_
   with_reducible refine keep_of hs ?_
   simp only [Int.toNat_natCast]
   refine call1_of (jg_See (o:=ops.getD i default) (err:=(rs.getD i default).err) (hit:=(rs.getD i default).hit) (val:=(rs.getD i default).val) (sl:=(rs.getD i default).sl) hs hj (by omega) (hin.opn i h0) (hin.rd i h1) (hin.gone i h1 (by omega)) (hin.len i h1 (by omega)) (hin.key i h0 (by omega))) fun e w ⟨he,hs⟩=>⟨_,he,?_⟩
   rw [jWrong_step h0 h1]
   obtain ⟨hj2,hl2⟩:=hj.next (hin.opn i h0) (rs.getD i default).err (rs.getD i default).gone
   refine ite_cases (fun h2=>?_) (fun h2=>?_)
   ·have h2:jSays sh s (ops.getD i default) (rs.getD i default).err (rs.getD i default).hit (rs.getD i default).val (rs.getD i default).gone = false:=by simpa using h2
    exact ⟨by rw [h2]; rfl,by exact Sat.fin hs⟩
   ·have h2:jSays sh s (ops.getD i default) (rs.getD i default).err (rs.getD i default).hit (rs.getD i default).val (rs.getD i default).gone = true:=by simpa using h2
    rw [h2,i64_in _ (by omega)]
    exact ih (i + 1) _ w (by omega) hj2 (by omega) hs
 have:=loop t 0 ⟨[],0,room⟩ w (by omega) (JOk.new hroom) (by simp) hs
 exact ⟨t + 1,this⟩
end
end Go.Proofs.YtmefopmnjncdbaaGreat
namespace Go.Hb
def jRun:JS -> List OpV -> List Ans -> JS
 | s,o::os,a::rs=>jRun (jNext s o a.err a.gone) os rs
 | s,_,_=>s
def jAll (sh:Int):JS -> List OpV -> List Ans -> Prop
 | s,o::os,a::rs=>jSays sh s o a.err a.hit a.val a.gone = true /\ jAll sh (jNext s o a.err a.gone) os rs
 | _,_,_=>True
def flip (a:Ans):Ans:=⟨a.err,!a.hit,a.val,a.sl,a.gone⟩
section
variable {sh:Int}
theorem jAll_nil {s:JS} {ops:List OpV}:jAll sh s ops []:=by cases ops <;> exact trivial
theorem jRun_nil {s:JS} {ops:List OpV}:jRun s ops [] = s:=by cases ops <;> rfl
theorem jAll_snoc {a:Ans}:∀ {rs:List Ans} {ops:List OpV} {s:JS},rs.length < ops.length -> jAll sh s ops rs -> jSays sh (jRun s ops rs) (ops.getD rs.length default) a.err a.hit a.val a.gone = true ->
  jAll sh s ops (rs ++ [a]) /\ jRun s ops (rs ++ [a]) = jNext (jRun s ops rs) (ops.getD rs.length default) a.err a.gone
 | _,[],s,h,_,_=>by simp at h
 | [],o::os,s,h,h1,h2=>⟨⟨h2,jAll_nil⟩,jRun_nil⟩
 | r::rs,o::os,s,h,h1,h2=>by
  obtain ⟨h3,h4⟩:=jAll_snoc (rs:=rs) (ops:=os) (s:=jNext s o r.err r.gone) (by simpa using h) h1.2 h2
  exact ⟨⟨h1.1,h3⟩,h4⟩
theorem jAll_wrong:∀ {rs:List Ans} {ops:List OpV} {s:JS} (i:Nat),jAll sh s ops rs -> jWrong sh i s ops rs = -1
 | [],ops,s,i,_=>by cases ops <;> rfl
 | r::rs,[],s,i,_=>rfl
 | r::rs,o::os,s,i,h=>by
  rw [jWrong,if_pos h.1]
  exact jAll_wrong (i + 1) h.2
theorem jSays_flip {s:JS} {o:OpV} {hit:Bool} {val:ByteArray} {gone:BL} (hk:o.kind = 1) (h:jSays sh s o 0 hit val gone = true):jSays sh s o 0 (!hit) val gone = false:=by
 unfold jSays at h ⊢
 rw [if_neg (by simp),Bool.and_eq_true,Bool.and_eq_true] at h
 rw [if_neg (by simp)]
 have h1:=h.1.1
 unfold jRight at h1 ⊢
 rw [if_pos hk,Bool.and_eq_true] at h1
 rw [if_pos hk]
 have h2:hit = (tGet s.T o.key (jNow s.now o)).2:=by simpa using h1.1
 rw [<- h2]
 cases hit <;> simp
theorem jFlip:∀ {rs:List Ans} {ops:List OpV} {s:JS} (i k:Nat) (hk:k < rs.length),k < ops.length -> (ops.getD k default).kind = 1 -> (rs.getD k default).err = 0 -> jAll sh s ops rs -> jWrong sh i s ops (rs.set k (flip (rs.getD k default))) = ((i + k:Nat):Int)
 | [],ops,s,i,k,hk,_,_,_,_=>by simp at hk
 | r::rs,[],s,i,k,_,hk,_,_,_=>by simp at hk
 | r::rs,o::os,s,i,0,_,_,h1,h2,h=>by
  have h1:o.kind = 1:=h1
  have h2:r.err = 0:=h2
  have h3:=h.1
  rw [h2] at h3
  show jWrong sh i s (o::os) (flip r::rs) = _
  rw [jWrong]
  have e:jSays sh s o (flip r).err (flip r).hit (flip r).val (flip r).gone = false:=by
   show jSays sh s o r.err (!r.hit) r.val r.gone = false
   rw [h2]; exact jSays_flip h1 h3
  rw [if_neg (by rw [e]; simp)]
  simp
 | r::rs,o::os,s,i,k + 1,hk,hk2,h1,h2,h=>by
  show jWrong sh i s (o::os) (r::rs.set k (flip (rs.getD k default))) = _
  rw [jWrong,if_pos h.1,jFlip (i + 1) k (by simpa using hk) (by simpa using hk2) h1 h2 h.2]
  omega
end
theorem Sat.again {W w w':World} {L:List HP} (h:Sat W w L) (h2:Sat w w' [old w]):Sat W w' L:=by
 refine ⟨h2.os.trans h.os,h2.out.trans h.out,?_⟩
 obtain ⟨h1,_,ha,_,_,hd,_⟩:=h2.st
 exact stars_mono h.st (hd.trans ha)
end Go.Hb
namespace Go.Hb
def uints (l:List Int):List Value:=l.map (Value.int .u64)
theorem uints_get {l:List Int} {i:Nat} (h:i < l.length):(uints l)[i]? = some ((CK.int .u64).val (l.getD i 0)):=by
 unfold uints
 rw [List.getElem?_map,List.getElem?_eq_getElem h,List.getD_eq_getElem?_getD,List.getElem?_eq_getElem h]; rfl
theorem uints_set {l:List Int} {i:Nat} {x:Int}:(uints l).set i (.int .u64 x) = uints (l.set i x):=by unfold uints; rw [List.map_set]
theorem uints_len (l:List Int):(uints l).length = l.length:=by simp [uints]
theorem five {l:List Int} (h:l.length = 5):∃ a b c d e,l = [a,b,c,d,e]:=by
 match l,h with
 | [a,b,c,d,e],_=>exact ⟨a,b,c,d,e,rfl⟩
def tpe (b n:Nat):HP:=exH fun (z:Sl × List Int × Int)=>andH (0 <= z.2.2 /\ z.2.2 <= n) (allH [blk b [.slice z.1.a z.1.n z.1.c,.int .i64 z.2.2],recs (Rec.int .u32) z.1 z.2.1])
abbrev cC (b:Nat) (cur a0 a1 a2 a3 a4 kd nn hold:Int) (tb:Nat):HP:=blk b [.int .i64 cur,.int .u64 a0,.int .u64 a1,.int .u64 a2,.int .u64 a3,.int .u64 a4,.int .i64 kd,.int .i64 nn,.int .i64 hold,.pointer (some ⟨tb,0,none⟩)]
def chs (b n:Nat):HP:=exH fun (z:(Int × Int × Int × Int × Int × Int) × (Int × Int × Int × Nat))=>allH [cC b z.1.1 z.1.2.1 z.1.2.2.1 z.1.2.2.2.1 z.1.2.2.2.2.1 z.1.2.2.2.2.2 z.2.1 z.2.2.1 z.2.2.2.1 z.2.2.2.2,tpe z.2.2.2.2 n]
section
variable {W w:World} {M L:List HP} {b n:Nat}
theorem tpe_open (h:Sat W w (tpe b n::M)):∃ (s:Sl) (l:List Int) (k:Int),(0 <= k /\ k <= n) /\ (s.n = l.length /\ s.n <= s.c) /\ Sat W w (blk b [.slice s.a s.n s.c,.int .i64 k]::recs (Rec.int .u32) s l::M):=by
 obtain ⟨⟨s,l,k⟩,h⟩:=h.openE
 obtain ⟨hp,h⟩:=h.openA
 have h:=h.openL
 have h:Sat W w (blk b [.slice s.a s.n s.c,.int .i64 k]::recs (Rec.int .u32) s l::M):=h
 exact ⟨s,l,k,hp,recs_len (s:=s) h,h⟩
theorem tpe_shut {s:Sl} {l:List Int} {k:Int} (hp:0 <= k /\ k <= n) (h:Sat W w (blk b [.slice s.a s.n s.c,.int .i64 k]::recs (Rec.int .u32) s l::M)):Sat W w (tpe b n::M):=
 Sat.shutE (s,l,k) (Sat.shutA hp (Sat.shutL (Ps:=[_,_]) h))
theorem chs_open (h:Sat W w (chs b n::M)):∃ (cur a0 a1 a2 a3 a4 kd nn hold:Int) (tb:Nat),Sat W w (cC b cur a0 a1 a2 a3 a4 kd nn hold tb::tpe tb n::M):=by
 obtain ⟨⟨⟨cur,a0,a1,a2,a3,a4⟩,⟨kd,nn,hold,tb⟩⟩,h⟩:=h.openE
 exact ⟨cur,a0,a1,a2,a3,a4,kd,nn,hold,tb,h.openL⟩
theorem chs_shut {cur a0 a1 a2 a3 a4 kd nn hold:Int} {tb:Nat} (h:Sat W w (cC b cur a0 a1 a2 a3 a4 kd nn hold tb::tpe tb n::M)):Sat W w (chs b n::M):=
 Sat.shutE ((cur,a0,a1,a2,a3,a4),(kd,nn,hold,tb)) (Sat.shutL (Ps:=[_,_]) h)
end
end Go.Hb
namespace Go.Proofs.YtmefopmnjncdbaaGreat
open Go.Hb Go.IntWalk
section
variable {W w:World} {L M:List HP} {b n:Nat} {key:ByteArray}
theorem wu_pos (x:Int):0 <= IntKind.wrap .u64 x:=by rw [IntKind.wrap_u64]; omega
theorem q3_Next (hb:n < 1000000000) (hs:Sat W w (tpe b n::M)):Rts Tryz.prog 95 #[.pointer (some ⟨b,0,none⟩)] w fun v w'=>∃ x:Int,v = .int .u32 x /\ Sat W w' (tpe b (n + 1)::M):=by
 refine cw f95_ok f95_raw ?_
 obtain ⟨s,l,k,hk,hsn,hs⟩:=tpe_open hs
 refine nilck_some (ld_b hs ?_)
 rw [i64_in (k + 1) (by omega)]
 refine nilck_some (st_b hs fun w hs=>?_)
 refine drawW_only [blk b [.slice s.a s.n s.c,.int .i64 (k + 1)]] hs fun w hs=>?_
 refine nilck_some (ldS_b (nilck_some (ld_b (x:=s) hs (keep_imp hs ?_))))
 with_reducible refine ite_by (fun h1=>?_) (fun h1=>?_)
 ·exact ⟨_,rfl,tpe_shut (by omega) hs⟩
 refine drawW_only [blk b [.slice s.a s.n s.c,.int .i64 (k + 1)]] hs fun w hs=>?_
 refine nilck_some (ldS_b (x:=s) (nilck_some (ld_b hs (keep_imp hs ?_))))
 rw [i64_in (k + 1 - 1) (by omega)]
 refine idx_rd (s:=s) hs fun b_ o_ ha_=>?_
 refine ld_rd0 ha_ hs ?_
 exact ⟨_,rfl,tpe_shut (by omega) hs⟩
theorem q19_Start (hs:Sat W w L):Rts Tryz.prog 28 #[] w fun v w'=>∃ a b c d e:Int,v = .agg #[.int .u64 a,.int .u64 b,.int .u64 c,.int .u64 d,.int .u64 e] /\ Sat W w' L:=by
 refine cw f28_ok f28_raw ?_
 refine newB_at hs fun b1 w hs=>?_
 refine newB_at hs fun b2 w hs=>?_
 have loop:∀ (f i:Nat) (xs:List Int) (w:World),i + f = 5 -> xs.length = 5 -> Sat W w (blk b2 (uints xs)::blk b1 (uints [0,0,0,0,0])::L) ->
   f28_l1 idJ (fun v w'=>∃ a b c d e:Int,v = .agg #[.int .u64 a,.int .u64 b,.int .u64 c,.int .u64 d,.int .u64 e] /\ Sat W w' L) (f + 1) b1 0 b2 0 (i:Int) w:=by
  clear hs
  intro f
  induction f with
  | zero=>
   intro i xs w hi hx hs
   rw [f28_l1_raw]
   refine ite_false (decide_eq_false (by omega)) ?_
   refine jw f28_j2_raw ?_
   obtain ⟨x0,x1,x2,x3,x4,rfl⟩:=five hx
   have hs:Sat W w (blk b2 [.int .u64 x0,.int .u64 x1,.int .u64 x2,.int .u64 x3,.int .u64 x4]::blk b1 [.int .u64 0,.int .u64 0,.int .u64 0,.int .u64 0,.int .u64 0]::L):=hs
   refine when_of (by decide) ?_
   refine ld_b (o:=0) (x:=x0) hs ?_
   refine when_of (by decide) ?_
   refine st_b (o:=0) hs fun w hs=>?_
   repeat (first | with_reducible refine nilck_some ?_ | ((with_reducible refine atLd ?_); first | refine ld_b hs ?_ | refine ld_b (x:=⟨_,_,_⟩) hs ?_ | refine ld_r0 hs ?_ | refine ld_r1 hs ?_ | refine ld_rd0 ha_ hs ?_ | refine ld_rd1 ha_ hs ?_) | ((with_reducible refine isSt ?_); first | refine st_b hs fun w hs=>?_ | refine st_r0 hs fun w hs=>?_ | refine st_r1 hs fun w hs=>?_) | ((with_reducible refine isIdx ?_); first | refine idx_s hs fun b_ o_ hs=>?_ | refine idx_rd hs fun b_ o_ ha_=>?_) | with_reducible refine newB_at hs fun b_ w hs=>?_ | ((with_reducible refine isLdS ?_); first | refine ldS_b ?_ | refine ldS_b (x:=⟨_,_,_⟩) ?_ | refine ldS_rs0 hs ?_ | refine ldS_rd0 ha_ ?_) | ((with_reducible refine isKeep ?_); first | refine keep_of hs ?_ | refine keep_imp hs ?_) | with_reducible refine when_om ?_ | with_reducible refine drawW_sat hs fun w hs=>?_)
   exact ⟨_,_,_,_,_,rfl,by exact Sat.fin hs⟩
  | succ f ih=>
   intro i xs w hi hx hs
   rw [f28_l1_raw]
   refine ite_true (decide_eq_true (by omega)) ?_
   refine when_of (by omega) ?_
   refine st_at 0 (cs:=uints xs) hs rfl (by rw [uints_len]; omega) fun w hs=>?_
   have e2:0 + ((i:Int)).toNat * 1 = i:=by omega
   rw [e2,uints_set] at hs
   rw [show IntKind.wrap .i64 ((i:Int) + 1) = ((i + 1:Nat):Int) by rw [i64_in _ (by omega)]; omega]
   exact ih (i + 1) _ w (by omega) (by simpa using hx) hs
 exact exM_of _ (loop 5 0 [0,0,0,0,0] w (by omega) rfl hs)
theorem q19_Sum (hs:Sat W w L) {a b c d e:Int}:Rts Tryz.prog 134 #[.agg #[.int .u64 a,.int .u64 b,.int .u64 c,.int .u64 d,.int .u64 e]] w fun v w'=>∃ x:Int,v = .int .u64 x /\ Sat W w' L:=by
 refine cw f134_ok f134_raw ?_
 refine newB_at hs fun b1 w hs=>?_
 have hs:Sat W w (blk b1 (uints [a,b,c,d,e])::L):=hs
 have hx:[a,b,c,d,e].length = 5:=rfl
 generalize [a,b,c,d,e] = xs at hs hx
 have loop:∀ (f i:Nat) (y:Int) (w:World),i + f = 5 -> Sat W w (blk b1 (uints xs)::L) ->
   f134_l1 idJ (fun v w'=>∃ x:Int,v = .int .u64 x /\ Sat W w' L) (f + 1) b1 0 y (i:Int) w:=by
  clear hs
  intro f
  induction f with
  | zero=>
   intro i y w hi hs
   rw [f134_l1_raw]
   refine ite_false (decide_eq_false (by omega)) ?_
   refine jw f134_j2_raw ?_
   exact ⟨_,rfl,hs.drop⟩
  | succ f ih=>
   intro i y w hi hs
   rw [f134_l1_raw]
   refine ite_true (decide_eq_true (by omega)) ?_
   refine when_of (by omega) ?_
   have e2:0 + ((i:Int)).toNat * 1 = i:=by omega
   rw [e2]
   refine ld_b hs ?_ (hc:=uints_get (by omega))
   rw [show IntKind.wrap .i64 ((i:Int) + 1) = ((i + 1:Nat):Int) by rw [i64_in _ (by omega)]; omega]
   exact ih (i + 1) _ w (by omega) hs
 exact exM_of _ (loop 5 0 0 w (by omega) hs)
theorem q19_Is (hs:Sat W w L) {a b c d e:Int}:Rts Tryz.prog 130 #[.agg #[.int .u64 a,.int .u64 b,.int .u64 c,.int .u64 d,.int .u64 e]] w fun v w'=>∃ t,v = .bool t /\ Sat W w' L:=by
 refine cw f130_ok f130_raw ?_
 refine newB_at hs fun b1 w hs=>?_
 have hs:Sat W w (blk b1 (uints [a,b,c,d,e])::L):=hs
 have hx:[a,b,c,d,e].length = 5:=rfl
 generalize [a,b,c,d,e] = xs at hs hx
 have loop:∀ (f i:Nat) (w:World),i + f = 5 -> Sat W w (blk b1 (uints xs)::L) ->
   f130_l1 idJ (fun v w'=>∃ t,v = .bool t /\ Sat W w' L) (f + 1) b1 0 (i:Int) w:=by
  clear hs
  intro f
  induction f with
  | zero=>
   intro i w hi hs
   rw [f130_l1_raw]
   refine ite_false (decide_eq_false (by omega)) ?_
   refine jw f130_j2_raw ?_
   obtain ⟨x0,x1,x2,x3,x4,rfl⟩:=five hx
   have hs:Sat W w (blk b1 [.int .u64 x0,.int .u64 x1,.int .u64 x2,.int .u64 x3,.int .u64 x4]::L):=hs
   iterate 5 refine ld_b hs ?_
   refine call1_ret (q19_Sum hs) fun v w ⟨x,hv,hs⟩=>⟨_,hv,_,rfl,hs.drop⟩
  | succ f ih=>
   intro i w hi hs
   rw [f130_l1_raw]
   refine ite_true (decide_eq_true (by omega)) ?_
   refine when_of (by omega) ?_
   have e2:0 + ((i:Int)).toNat * 1 = i:=by omega
   rw [e2]
   refine ld_b hs ?_ (hc:=uints_get (by omega))
   refine ite_cases (fun _=>⟨_,rfl,hs.drop⟩) (fun _=>?_)
   refine when_of (by omega) ?_
   refine ld_b hs ?_ (hc:=uints_get (by omega))
   refine ite_cases (fun _=>⟨_,rfl,hs.drop⟩) (fun _=>?_)
   rw [show IntKind.wrap .i64 ((i:Int) + 1) = ((i + 1:Nat):Int) by rw [i64_in _ (by omega)]; omega]
   exact ih (i + 1) w (by omega) hs
 exact exM_of _ (loop 5 0 w (by omega) hs)
theorem q19_Pick (hs:Sat W w L) {a b c d e x:Int}:Rts Tryz.prog 94 #[.agg #[.int .u64 a,.int .u64 b,.int .u64 c,.int .u64 d,.int .u64 e],.int .u32 x] w fun v w'=>∃ t:Int,v = .int .i64 t /\ Sat W w' L:=by
 refine cw f94_ok f94_raw ?_
 refine newB_at hs fun b1 w hs=>?_
 have hs:Sat W w (blk b1 (uints [a,b,c,d,e])::L):=hs
 have hx:[a,b,c,d,e].length = 5:=rfl
 generalize [a,b,c,d,e] = xs at hs hx
 have loop:∀ (f i:Nat) (y:Int) (w:World),i + f = 5 -> Sat W w (blk b1 (uints xs)::L) ->
   f94_l1 idJ (fun v w'=>∃ t:Int,v = .int .i64 t /\ Sat W w' L) (f + 1) x b1 0 y (i:Int) w:=by
  clear hs
  intro f
  induction f with
  | zero=>
   intro i y w hi hs
   rw [f94_l1_raw]
   refine ite_false (decide_eq_false (by omega)) ?_
   refine jw f94_j2_raw ?_
   exact ⟨_,rfl,hs.drop⟩
  | succ f ih=>
   intro i y w hi hs
   rw [f94_l1_raw]
   refine ite_true (decide_eq_true (by omega)) ?_
   refine when_of (by omega) ?_
   have e2:0 + ((i:Int)).toNat * 1 = i:=by omega
   rw [e2]
   refine ld_b hs ?_ (hc:=uints_get (by omega))
   refine ite_cases (fun _=>⟨_,rfl,hs.drop⟩) (fun _=>?_)
   rw [show IntKind.wrap .i64 ((i:Int) + 1) = ((i + 1:Nat):Int) by rw [i64_in _ (by omega)]; omega]
   exact ih (i + 1) _ w (by omega) hs
 exact exM_of _ (loop 5 0 0 w (by omega) hs)
theorem q19_Keep (hs:Sat W w L) {k:Int}:Rts Tryz.prog 132 #[.int .i64 k] w fun v w'=>∃ x:Int,v = .int .u64 x /\ Sat W w' L:=by
 refine cw f132_ok f132_raw ?_
 have hk:clampZ k 0 15 <= 15:=by unfold clampZ; split <;> omega
 have loop:∀ (f i:Nat) (y:Int) (w:World),i + f = 15 -> Sat W w L -> f132_l1 idJ (fun v w'=>∃ x:Int,v = .int .u64 x /\ Sat W w' L) (f + 1) k y (i:Int) w:=by
  clear hs
  intro f
  induction f with
  | zero=>
   intro i y w hi hs
   rw [f132_l1_raw]
   refine call1_ret (q2_Clamp hs _ _ _) fun v w ⟨hv,hs⟩=>⟨_,hv,?_⟩
   refine ite_false (decide_eq_false (by omega)) ?_
   refine jw f132_j2_raw ?_
   exact ⟨_,rfl,hs⟩
  | succ f ih=>
   intro i y w hi hs
   rw [f132_l1_raw]
   refine call1_ret (q2_Clamp hs _ _ _) fun v w ⟨hv,hs⟩=>⟨_,hv,?_⟩
   refine ite_cases (fun _=>?_) (fun _=>?_)
   ·refine when_of (by decide) ?_
    rw [show IntKind.wrap .i64 ((i:Int) + 1) = ((i + 1:Nat):Int) by rw [i64_in _ (by omega)]; omega]
    exact ih (i + 1) _ w (by omega) hs
   ·refine jw f132_j2_raw ?_
    exact ⟨_,rfl,hs⟩
 exact exM_of _ (loop 15 0 _ w (by omega) hs)
theorem q19_loss (hs:Sat W w L) {g a:Int}:Rts Tryz.prog 133 #[.int .i64 g,.int .i64 a] w fun v w'=>∃ x:Int,v = .int .i64 x /\ Sat W w' L:=by
 refine cw f133_ok f133_raw ?_
 refine call1_ret (q2_Clamp hs _ _ _) fun v w ⟨hv,hs⟩=>⟨_,hv,?_⟩
 refine call1_ret (q2_Clamp hs _ _ _) fun v w ⟨hv,hs⟩=>⟨_,hv,?_⟩
 with_reducible refine ite_by (fun h1=>?_) (fun h1=>?_)
 ·exact ⟨_,rfl,hs⟩
 ·exact when_of h1 ⟨_,rfl,hs⟩
theorem q2_times (hs:Sat W w L) {x y:Int}:Rts Tryz.prog 200 #[.int .u64 x,.int .u64 y] w fun v w'=>∃ h l:Int,v = .tuple #[.int .u64 h,.int .u64 l] /\ Sat W w' L:=by
 refine cw f200_ok f200_raw ?_
 iterate 6 refine when_of (by decide) ?_
 exact ⟨_,_,rfl,hs⟩
theorem q2_Mul (hs:Sat W w L) {x y:Int}:Rts Tryz.prog 131 #[.int .u64 x,.int .u64 y] w fun v w'=>∃ z:Int,v = .int .u64 z /\ Sat W w' L:=by
 refine cw f131_ok f131_raw ?_
 refine call2_ret (q2_times hs) fun v w ⟨h,l,hv,hs⟩=>⟨_,_,hv,?_⟩
 refine when_of (by decide) ?_
 refine ite_cases (fun _=>⟨_,rfl,hs⟩) (fun _=>?_)
 exact when_of (by decide) (when_of (by decide) ⟨_,rfl,hs⟩)
theorem q2_Scale (hs:Sat W w L) {x y z:Int}:Rts Tryz.prog 135 #[.int .u64 x,.int .u64 y,.int .u64 z] w fun v w'=>∃ t:Int,v = .int .u64 t /\ Sat W w' L:=by
 refine cw f135_ok f135_raw ?_
 refine ite_cases (fun _=>⟨_,rfl,hs⟩) (fun _=>?_)
 refine call2_ret (q2_times hs) fun v w ⟨h,l,hv,hs⟩=>⟨_,_,hv,?_⟩
 have loop:∀ (f:Nat) (q r:Int),f <= 128 -> f135_l1 idJ (fun v w'=>∃ t:Int,v = .int .u64 t /\ Sat W w' L) (f + 1) z h l q r ((f:Int) - 1) w:=by
  intro f
  induction f with
  | zero=>
   intro q r hf
   rw [f135_l1_raw]
   refine ite_false (decide_eq_false (by omega)) ?_
   refine jw f135_j4_raw ?_
   exact ⟨_,rfl,hs⟩
  | succ f ih=>
   intro q r hf
   have e:(((f + 1:Nat):Int) - 1) = (f:Int):=by omega
   rw [e,f135_l1_raw]
   have j3:∀ (q r:Int) (t:Bool),f135_j3 idJ (fun v w'=>∃ t:Int,v = .int .u64 t /\ Sat W w' L) (f + 1) z h l q r (f:Int) t w:=by
    intro q r t
    refine jw f135_j3_raw ?_
    rw [i64_in ((f:Int) - 1) (by omega)]
    exact ite_cases (fun _=>ih _ _ (by omega)) (fun _=>ih _ _ (by omega))
   have j2:∀ (q r t:Int),f135_j2 idJ (fun v w'=>∃ t:Int,v = .int .u64 t /\ Sat W w' L) (f + 1) z h l q r (f:Int) t w:=by
    intro q r t
    refine jw f135_j2_raw ?_
    generalize shlV .u64 q (1:Int) = q2
    generalize bits .or .u64 (shlV .u64 r (1:Int)) t = r2
    generalize shrV .u64 q (63:Int) = q3
    generalize shrV .u64 r (63:Int) = r3
    refine when_of (by decide) ?_
    refine ite_cases (fun _=>⟨_,rfl,hs⟩) (fun _=>?_)
    refine when_of (by decide) (when_of (by decide) (when_of (by decide) ?_))
    refine ite_cases (fun _=>?_) (fun _=>?_)
    ·with_reducible exact j3 q2 r2 true
    ·with_reducible exact j3 q2 r2 _
   refine ite_true (decide_eq_true (by omega)) ?_
   refine when_of (wu_pos _) ?_
   refine ite_cases (fun _=>?_) (fun _=>?_)
   ·refine when_of (wu_pos _) ?_
    with_reducible exact j2 q r _
   ·with_reducible exact j2 q r _
 have:=loop 128 0 0 (by omega)
 exact exM_of _ this
theorem q19_Next (hs:Sat W w L) {a b c d e g0 g1 g2 g3 g4 all:Int}:Rts Tryz.prog 93 #[.agg #[.int .u64 a,.int .u64 b,.int .u64 c,.int .u64 d,.int .u64 e],.agg #[.int .i64 g0,.int .i64 g1,.int .i64 g2,.int .i64 g3,.int .i64 g4],.int .i64 all] w fun v w'=>∃ a b c d e:Int,v = .agg #[.int .u64 a,.int .u64 b,.int .u64 c,.int .u64 d,.int .u64 e] /\ Sat W w' L:=by
 refine cw f93_ok f93_raw ?_
 refine newB_at hs fun b1 w hs=>?_
 refine newB_at hs fun b2 w hs=>?_
 refine newB_at hs fun b3 w hs=>?_
 iterate 5 refine ld_b hs ?_
 refine call1_ret (q19_Is hs) fun v w ⟨t,hv,hs⟩=>⟨_,hv,?_⟩
 refine ite_cases (fun _=>?_) (fun _=>?_)
 ·refine Calls.mono (q19_Start hs) fun e_ w ⟨v,he,x0,x1,x2,x3,x4,hv,hs⟩=>⟨x0,x1,x2,x3,x4,by rw [he,hv],?_⟩
  repeat (first | with_reducible refine nilck_some ?_ | ((with_reducible refine atLd ?_); first | refine ld_b hs ?_ | refine ld_b (x:=⟨_,_,_⟩) hs ?_ | refine ld_r0 hs ?_ | refine ld_r1 hs ?_ | refine ld_rd0 ha_ hs ?_ | refine ld_rd1 ha_ hs ?_) | ((with_reducible refine isSt ?_); first | refine st_b hs fun w hs=>?_ | refine st_r0 hs fun w hs=>?_ | refine st_r1 hs fun w hs=>?_) | ((with_reducible refine isIdx ?_); first | refine idx_s hs fun b_ o_ hs=>?_ | refine idx_rd hs fun b_ o_ ha_=>?_) | with_reducible refine newB_at hs fun b_ w hs=>?_ | ((with_reducible refine isLdS ?_); first | refine ldS_b ?_ | refine ldS_b (x:=⟨_,_,_⟩) ?_ | refine ldS_rs0 hs ?_ | refine ldS_rd0 ha_ ?_) | ((with_reducible refine isKeep ?_); first | refine keep_of hs ?_ | refine keep_imp hs ?_) | with_reducible refine when_om ?_ | with_reducible refine drawW_sat hs fun w hs=>?_)
  exact ⟨_,_,_,_,_,rfl,by exact Sat.fin hs⟩
 refine newB_at hs fun b4 w hs=>?_
 have hs:Sat W w (blk b4 (uints [0,0,0,0,0])::blk b3 (uints [0,0,0,0,0])::blk b2 (ints [g0,g1,g2,g3,g4])::blk b1 (uints [a,b,c,d,e])::L):=hs
 have hg:[g0,g1,g2,g3,g4].length = 5:=rfl
 have hw:[a,b,c,d,e].length = 5:=rfl
 generalize [g0,g1,g2,g3,g4] = gs at hs hg
 generalize [a,b,c,d,e] = ws at hs hw
 have e2:∀ i:Nat,0 + ((i:Int)).toNat * 1 = i:=fun i=>by omega
 have e3:∀ i:Nat,i < 5 -> IntKind.wrap .i64 ((i:Int) + 1) = ((i + 1:Nat):Int):=fun i h=>by rw [i64_in _ (by omega)]; omega
 have j6:∀ (w:World) (xs:List Int) (mo:Nat),xs.length = 5 -> mo < 5 -> Sat W w (blk b4 (uints xs)::blk b3 (uints [0,0,0,0,0])::L) -> f93_j6 idJ (fun v w'=>∃ a b c d e:Int,v = .agg #[.int .u64 a,.int .u64 b,.int .u64 c,.int .u64 d,.int .u64 e] /\ Sat W w' L) b3 0 b4 0 (mo:Int) w:=by
  clear hs
  intro w xs mo hx hm hs
  refine jw f93_j6_raw ?_
  rw [e2 mo]
  refine drawW_only [blk b4 (uints xs)] hs fun w hs=>?_
  refine when_of (by omega) ?_
  refine ldS_b ?_ (hc:=uints_get (by omega))
  obtain ⟨x0,x1,x2,x3,x4,rfl⟩:=five hx
  refine ld_b (x:=x0) hs ?_
  refine ld_b (x:=x1) hs ?_
  refine ld_b (x:=x2) hs ?_
  refine ld_b (x:=x3) hs ?_
  refine ld_b (x:=x4) hs ?_
  refine keep_imp hs ?_
  refine call1_ret (q19_Sum hs) fun v w ⟨z,hv,hs⟩=>⟨_,hv,keep_imp hs ?_⟩
  refine when_of (by omega) ?_
  refine st_at 0 (cs:=uints [x0,x1,x2,x3,x4]) hs rfl (by rw [uints_len]; omega) fun w hs=>?_
  rw [uints_set] at hs
  have hx5:([x0,x1,x2,x3,x4].set mo (IntKind.wrap .u64 (IntKind.wrap .u64 ([x0,x1,x2,x3,x4].getD mo 0 + 4294967296) - z))).length = 5:=by simp
  generalize [x0,x1,x2,x3,x4].set mo _ = ys at hs hx5
  obtain ⟨y0,y1,y2,y3,y4,rfl⟩:=five hx5
  have hs:Sat W w (blk b4 [.int .u64 y0,.int .u64 y1,.int .u64 y2,.int .u64 y3,.int .u64 y4]::blk b3 [.int .u64 0,.int .u64 0,.int .u64 0,.int .u64 0,.int .u64 0]::L):=hs
  repeat (first | with_reducible refine nilck_some ?_ | ((with_reducible refine atLd ?_); first | refine ld_b hs ?_ | refine ld_b (x:=⟨_,_,_⟩) hs ?_ | refine ld_r0 hs ?_ | refine ld_r1 hs ?_ | refine ld_rd0 ha_ hs ?_ | refine ld_rd1 ha_ hs ?_) | ((with_reducible refine isSt ?_); first | refine st_b hs fun w hs=>?_ | refine st_r0 hs fun w hs=>?_ | refine st_r1 hs fun w hs=>?_) | ((with_reducible refine isIdx ?_); first | refine idx_s hs fun b_ o_ hs=>?_ | refine idx_rd hs fun b_ o_ ha_=>?_) | with_reducible refine newB_at hs fun b_ w hs=>?_ | ((with_reducible refine isLdS ?_); first | refine ldS_b ?_ | refine ldS_b (x:=⟨_,_,_⟩) ?_ | refine ldS_rs0 hs ?_ | refine ldS_rd0 ha_ ?_) | ((with_reducible refine isKeep ?_); first | refine keep_of hs ?_ | refine keep_imp hs ?_) | with_reducible refine when_om ?_ | with_reducible refine drawW_sat hs fun w hs=>?_)
  exact ⟨_,_,_,_,_,rfl,by exact Sat.fin hs⟩
 have l5:∀ (f i mo:Nat) (xs:List Int) (w:World),i + f = 5 -> xs.length = 5 -> mo < 5 -> Sat W w (blk b4 (uints xs)::blk b3 (uints [0,0,0,0,0])::L) -> f93_l5 idJ (fun v w'=>∃ a b c d e:Int,v = .agg #[.int .u64 a,.int .u64 b,.int .u64 c,.int .u64 d,.int .u64 e] /\ Sat W w' L) (f + 1) b3 0 b4 0 (mo:Int) (i:Int) w:=by
  clear hs
  intro f
  induction f with
  | zero=>
   intro i mo xs w hi hx hm hs
   rw [f93_l5_raw]
   refine ite_false (decide_eq_false (by omega)) ?_
   exact j6 w xs mo hx hm hs
  | succ f ih=>
   intro i mo xs w hi hx hm hs
   rw [f93_l5_raw]
   refine ite_true (decide_eq_true (by omega)) ?_
   rw [e2 i,e2 mo,e3 i (by omega)]
   refine drawW_only [blk b4 (uints xs)] hs fun w hs=>?_
   refine when_of (by omega) ?_
   refine ldS_b ?_ (hc:=uints_get (by omega))
   refine when_of (by omega) ?_
   refine ld_b hs ?_ (hc:=uints_get (by omega))
   refine keep_imp hs ?_
   refine ite_cases (fun _=>?_) (fun _=>?_)
   ·exact ih (i + 1) i xs w (by omega) hx (by omega) hs
   ·exact ih (i + 1) mo xs w (by omega) hx hm hs
 have l3:∀ (f i:Nat) (t:Int) (xs:List Int) (w:World),i + f = 5 -> xs.length = 5 -> Sat W w (blk b4 (uints xs)::blk b3 (uints [0,0,0,0,0])::L) -> f93_l3 idJ (fun v w'=>∃ a b c d e:Int,v = .agg #[.int .u64 a,.int .u64 b,.int .u64 c,.int .u64 d,.int .u64 e] /\ Sat W w' L) (f + 1) b3 0 b4 0 t ((0:Nat):Int) (i:Int) w:=by
  clear hs
  intro f
  induction f with
  | zero=>
   intro i t xs w hi hx hs
   rw [f93_l3_raw]
   refine ite_false (decide_eq_false (by omega)) ?_
   refine jw f93_j4_raw ?_
   exact exM_of _ (l5 4 1 0 xs w (by omega) hx (by omega) hs)
  | succ f ih=>
   intro i t xs w hi hx hs
   rw [f93_l3_raw]
   refine ite_true (decide_eq_true (by omega)) ?_
   rw [e2 i,e3 i (by omega)]
   refine when_of (by omega) ?_
   refine ld_b hs ?_ (hc:=uints_get (by omega))
   refine call1_ret (q2_Scale hs) fun v w ⟨z,hv,hs⟩=>⟨_,hv,?_⟩
   refine when_of (by omega) ?_
   refine st_at 0 (cs:=uints xs) hs rfl (by rw [uints_len]; omega) fun w hs=>?_
   rw [uints_set] at hs
   exact ih (i + 1) t _ w (by omega) (by simpa using hx) hs
 have l1:∀ (f i:Nat) (xs:List Int) (w:World),i + f = 5 -> xs.length = 5 -> Sat W w (blk b4 (uints xs)::blk b3 (uints [0,0,0,0,0])::blk b2 (ints gs)::blk b1 (uints ws)::L) -> f93_l1 idJ (fun v w'=>∃ a b c d e:Int,v = .agg #[.int .u64 a,.int .u64 b,.int .u64 c,.int .u64 d,.int .u64 e] /\ Sat W w' L) (f + 1) all b1 0 b2 0 b3 0 b4 0 (i:Int) w:=by
  clear hs
  intro f
  induction f with
  | zero=>
   intro i xs w hi hx hs
   rw [f93_l1_raw]
   refine ite_false (decide_eq_false (by omega)) ?_
   refine jw f93_j2_raw ?_
   obtain ⟨x0,x1,x2,x3,x4,rfl⟩:=five hx
   refine ld_b (x:=x0) hs ?_
   refine ld_b (x:=x1) hs ?_
   refine ld_b (x:=x2) hs ?_
   refine ld_b (x:=x3) hs ?_
   refine ld_b (x:=x4) hs ?_
   refine call1_ret (q19_Sum hs) fun v w ⟨z,hv,hs⟩=>⟨_,hv,?_⟩
   exact exM_of _ (l3 5 0 z _ w (by omega) hx (by exact Sat.fin hs))
  | succ f ih=>
   intro i xs w hi hx hs
   rw [f93_l1_raw]
   refine ite_true (decide_eq_true (by omega)) ?_
   rw [e2 i,e3 i (by omega)]
   refine drawW_only [blk b1 (uints ws)] hs fun w hs=>?_
   refine when_of (by omega) ?_
   refine ldS_b ?_ (hc:=uints_get (by omega))
   refine when_of (by omega) ?_
   refine ld_b hs ?_ (hc:=ints_get (by omega))
   refine keep_imp hs ?_
   refine call1_ret (q19_loss hs) fun v w ⟨z,hv,hs⟩=>⟨_,hv,keep_imp hs ?_⟩
   refine call1_ret (q19_Keep hs) fun v w ⟨z2,hv,hs⟩=>⟨_,hv,keep_imp hs ?_⟩
   refine call1_ret (q2_Mul hs) fun v w ⟨z3,hv,hs⟩=>⟨_,hv,?_⟩
   refine when_of (by omega) ?_
   refine st_at 0 (cs:=uints xs) hs rfl (by rw [uints_len]; omega) fun w hs=>?_
   rw [uints_set] at hs
   exact ih (i + 1) _ w (by omega) (by simpa using hx) hs
 exact exM_of _ (l1 5 0 [0,0,0,0,0] w (by omega) rfl hs)
theorem q20_New {tb:Nat} (hs:Sat W w (tpe tb n::L)) {k h:Int}:Rts Tryz.prog 11 #[.int .i64 k,.int .i64 h,.pointer (some ⟨tb,0,none⟩)] w fun v w'=>(∃ b,v = .tuple #[.pointer (some ⟨b,0,none⟩),.int .i64 0] /\ Sat W w' (chs b n::L)) \/ (∃ e:Int,e ≠ 0 /\ v = .tuple #[.pointer none,.int .i64 e] /\ Sat W w' L):=by
 refine cw f11_ok f11_raw ?_
 have j1:∀ t:Bool,f11_j1 idJ (fun v w'=>(∃ b,v = .tuple #[.pointer (some ⟨b,0,none⟩),.int .i64 0] /\ Sat W w' (chs b n::L)) \/ (∃ e:Int,e ≠ 0 /\ v = .tuple #[.pointer none,.int .i64 e] /\ Sat W w' L)) k h (some ⟨tb,0,none⟩) t w:=by
  intro t
  refine jw f11_j1_raw ?_
  refine ite_cases (fun _=>.inr ⟨4,by decide,rfl,hs.drop⟩) (fun _=>?_)
  refine ite_cases (fun _=>.inr ⟨1,by decide,rfl,hs.drop⟩) (fun _=>?_)
  refine ite_cases (fun _=>.inr ⟨1,by decide,rfl,hs.drop⟩) (fun _=>?_)
  refine jw f11_j2_raw ?_
  refine Calls.mono (q19_Start hs) fun e_ w ⟨v,he,x0,x1,x2,x3,x4,hv,hs⟩=>⟨x0,x1,x2,x3,x4,by rw [he,hv],?_⟩
  refine newB_at hs fun b w hs=>?_
  exact .inl ⟨b,rfl,chs_shut hs⟩
 refine ite_cases (fun _=>?_) (fun _=>?_)
 ·exact j1 true
 ·exact j1 _
theorem q20_Force (hs:Sat W w (chs b n::M)) {k:Int}:Rts Tryz.prog 23 #[.pointer (some ⟨b,0,none⟩),.int .i64 k] w fun v w'=>(v = .int .i64 0 \/ v = .int .i64 4) /\ Sat W w' (chs b n::M):=by
 refine cw f23_ok f23_raw ?_
 refine ite_cases (fun _=>⟨.inr rfl,hs⟩) (fun _=>?_)
 refine ite_cases (fun _=>⟨.inr rfl,hs⟩) (fun _=>?_)
 refine jw f23_j1_raw ?_
 obtain ⟨cur,a0,a1,a2,a3,a4,kd,nn,hold,tb,hs⟩:=chs_open hs
 refine nilck_some (st_b hs fun w hs=>?_)
 refine nilck_some (st_b hs fun w hs=>?_)
 refine nilck_some (st_b hs fun w hs=>?_)
 exact ⟨.inl rfl,chs_shut hs⟩
theorem q20_Epoch (hb:n < 1000000000) (hs:Sat W w (chs b n::M)) {g0 g1 g2 g3 g4 all:Int}:Rts Tryz.prog 54 #[.pointer (some ⟨b,0,none⟩),.agg #[.int .i64 g0,.int .i64 g1,.int .i64 g2,.int .i64 g3,.int .i64 g4],.int .i64 all] w fun v w'=>∃ (k:Int) (t:Bool),v = .tuple #[.int .i64 k,.bool t] /\ Sat W w' (chs b (n + 1)::M):=by
 refine cw f54_ok f54_raw ?_
 obtain ⟨cur,a0,a1,a2,a3,a4,kd,nn,hold,tb,hs⟩:=chs_open hs
 refine newB_at hs fun gb w hs=>?_
 refine drawW_only [cC b cur a0 a1 a2 a3 a4 kd nn hold tb] hs fun w hs=>?_
 refine nilck_some (ldS_b (ldS_b (ldS_b (ldS_b (ldS_b ?_)))))
 iterate 5 refine ld_b hs ?_
 refine keep_imp hs ?_
 refine Calls.mono (q19_Next hs) fun e_ w ⟨v,he,x0,x1,x2,x3,x4,hv,hs⟩=>⟨x0,x1,x2,x3,x4,by rw [he,hv],?_⟩
 refine nilck_some (st_b hs fun w hs=>st_b hs fun w hs=>st_b hs fun w hs=>st_b hs fun w hs=>st_b hs fun w hs=>?_)
 refine drawW_only [cC b cur x0 x1 x2 x3 x4 kd nn hold tb] hs fun w hs=>?_
 refine nilck_some (ldS_b (ldS_b (ldS_b (ldS_b (ldS_b (nilck_some (ld_b hs (keep_imp hs ?_))))))))
 have hs:Sat W w (tpe tb n::cC b cur x0 x1 x2 x3 x4 kd nn hold tb::M):=by exact Sat.fin hs
 refine call1_ret (q3_Next hb hs) fun v w ⟨d,hv,hs⟩=>⟨_,hv,keep_imp hs ?_⟩
 refine call1_ret (q19_Pick hs) fun v w ⟨k,hv,hs⟩=>⟨_,hv,?_⟩
 refine nilck_some (ld_b hs ?_)
 have j1:∀ (w:World) (kd nn:Int),Sat W w (tpe tb (n + 1)::cC b cur x0 x1 x2 x3 x4 kd nn hold tb::M) -> f54_j1 idJ (fun v w'=>∃ (k:Int) (t:Bool),v = .tuple #[.int .i64 k,.bool t] /\ Sat W w' (chs b (n + 1)::M)) (some ⟨b,0,none⟩) k w:=by
  clear hs
  intro w kd nn hs
  refine jw f54_j1_raw ?_
  refine drawW_only [cC b cur x0 x1 x2 x3 x4 kd nn hold tb] hs fun w hs=>?_
  refine nilck_some (ldS_b (nilck_some (ld_b hs (keep_imp hs ?_))))
  refine ite_cases (fun _=>⟨_,_,rfl,chs_shut (by exact Sat.fin hs)⟩) (fun _=>?_)
  refine nilck_some (st_b hs fun w hs=>?_)
  refine nilck_some (st_b hs fun w hs=>?_)
  exact ⟨_,_,rfl,chs_shut (by exact Sat.fin hs)⟩
 refine ite_cases (fun _=>?_) (fun _=>?_)
 ·refine nilck_some (st_b hs fun w hs=>?_)
  refine nilck_some (st_b hs fun w hs=>?_)
  exact ⟨_,_,rfl,chs_shut (by exact Sat.fin hs)⟩
 refine nilck_some (ld_b hs ?_)
 refine ite_cases (fun _=>?_) (fun _=>?_)
 ·refine nilck_some (ld_b hs ?_)
  refine nilck_some (st_b hs fun w hs=>?_)
  exact j1 w _ _ hs
 ·refine nilck_some (st_b hs fun w hs=>?_)
  refine nilck_some (st_b hs fun w hs=>?_)
  exact j1 w _ _ hs
end
end Go.Proofs.YtmefopmnjncdbaaGreat
