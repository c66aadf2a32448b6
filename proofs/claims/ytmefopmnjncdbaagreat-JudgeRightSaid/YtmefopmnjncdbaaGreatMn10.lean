import Derived.IntWalk
import Derived.Test.YtmefopmnjncdbaaGreatMn9
set_option linter.unusedVariables false
set_option linter.unusedSimpArgs false
set_option linter.unnecessarySimpa false
set_option linter.unusedSectionVars false
set_option maxRecDepth 100000
namespace Go.Proofs.YtmefopmnjncdbaaGreat
open Go.Hb Go.IntWalk
section
variable {W w:World} {L:List HP} {key:ByteArray} {xs:BL}
set_option maxRecDepth 100000 in
theorem r11_has {s0:Sl} [hr:Rdb W L s0 Rec.str xs] (hs:Sat W w L) (hz:xs.length < 1000000):Rts Tryz.prog 185 #[.slice s0.a s0.n s0.c,.string key] w fun v w'=>∃ i:Int,v = .int .i64 i /\ decide (i >= 0) = decide (key ∈ xs) /\ Sat W w' L:=by
 refine cw f185_ok f185_raw ?_
 have hn:=rdb_len (s:=s0) hs
 have loop:∀ (m i:Nat) (w:World),i + m = xs.length -> key ∉ xs.take i -> Sat W w L -> f185_l1 idJ (fun v w'=>∃ i:Int,v = .int .i64 i /\ decide (i >= 0) = decide (key ∈ xs) /\ Sat W w' L) (m + 1) s0 key (i:Int) w:=by
  intro m
  induction m with
  | zero=>
   intro i w hi hp hs
   rw [f185_l1_raw]
   refine ite_false (decide_eq_false (by omega)) ?_
   refine jw f185_j2_raw ?_
   rw [List.take_of_length_le (by omega)] at hp
   exact ⟨-1,rfl,by rw [decide_eq_false hp]; rfl,hs⟩
  | succ m ih=>
   intro i w hi hp hs
   rw [f185_l1_raw]
   refine ite_true (decide_eq_true (by omega)) ?_
   repeat (first | ((with_reducible refine atLd ?_); first | refine ld_rd0 ha_ hs ?_ | fail) | ((with_reducible refine isIdx ?_); first | refine idx_rd hs fun b_ o_ ha_=>?_ | fail) | fail)
   rw [Int.toNat_natCast]
   with_reducible refine ite_by (fun h3=>?_) (fun h3=>?_)
   ·have:key ∈ xs:=h3 ▸ getD_mem (by omega)
    exact ⟨i,rfl,by rw [decide_eq_true this,decide_eq_true (by omega)],hs⟩
   ·rw [show IntKind.wrap .i64 ((i:Int) + 1) = ((i + 1:Nat):Int) by rw [i64_in _ (by omega)]; omega]
    refine ih (i + 1) w (by omega) ?_ hs
    rw [take_snoc (by omega),List.mem_append,List.mem_singleton]
    rintro (hk | hk)
    ·exact hp hk
    ·exact h3 hk.symm
 refine exM_of (xs.length + 1) ?_
 exact loop xs.length 0 w (by omega) (by simp) hs
set_option maxRecDepth 100000 in
theorem r11_cut {s0:Sl} [hr:Rdb W L s0 Rec.str xs] (hs:Sat W w L) (hz:xs.length < 1000000):Rts Tryz.prog 169 #[.slice s0.a s0.n s0.c,.string key] w fun v w'=>∃ l:Sl,v = .slice l.a l.n l.c /\ Sat W w' (recs Rec.str l (gTake xs key)::L):=by
 refine cw f169_ok f169_raw ?_
 have hn:=rdb_len (s:=s0) hs
 have hs:=Sat.nilR Rec.str hs
 have loop:∀ (m i:Nat) (w:World) (acc:Sl),i + m = xs.length -> Sat W w (recs Rec.str acc (gTake (xs.take i) key)::L) -> f169_l1 idJ (fun v w'=>∃ l:Sl,v = .slice l.a l.n l.c /\ Sat W w' (recs Rec.str l (gTake xs key)::L)) (m + 1) s0 key acc (i:Int) w:=by
  clear hs
  intro m
  induction m with
  | zero=>
   intro i w acc hi hs
   rw [f169_l1_raw]
   refine ite_false (decide_eq_false (by omega)) ?_
   refine jw f169_j2_raw ?_
   rw [List.take_of_length_le (by omega)] at hs
   exact ⟨acc,rfl,hs⟩
  | succ m ih=>
   intro i w acc hi hs
   rw [f169_l1_raw]
   refine ite_true (decide_eq_true (by omega)) ?_
   repeat (first | ((with_reducible refine atLd ?_); first | refine ld_rd0 ha_ hs ?_ | fail) | ((with_reducible refine isIdx ?_); first | refine idx_rd hs fun b_ o_ ha_=>?_ | fail) | fail)
   rw [Int.toNat_natCast]
   have hsn:=gTake_snoc (q:=xs) (k:=key) (j:=i) (by omega)
   have hln:=gTake_len (xs.take i) key
   rw [List.length_take] at hln
   with_reducible refine ite_by (fun h3=>?_) (fun h3=>?_)
   ·rw [if_neg h3] at hsn
    repeat (first | ((with_reducible refine atLd ?_); first | refine ld_rd0 ha_ hs ?_ | fail) | ((with_reducible refine isIdx ?_); first | refine idx_rd hs fun b_ o_ ha_=>?_ | fail) | with_reducible refine newB_at hs fun b_ w hs=>?_ | fail)
    refine app_one (s:=acc) (a:=xs.getD i default) hs rfl rfl rfl rfl (by decide) (by omega) fun s2 w hs2 hs=>?_
    rw [<- hsn] at hs
    rw [show IntKind.wrap .i64 ((i:Int) + 1) = ((i + 1:Nat):Int) by rw [i64_in _ (by omega)]; omega]
    exact ih (i + 1) w s2 (by omega) (by exact Sat.fin hs)
   ·rw [if_pos h3,List.append_nil] at hsn
    rw [<- hsn] at hs
    rw [show IntKind.wrap .i64 ((i:Int) + 1) = ((i + 1:Nat):Int) by rw [i64_in _ (by omega)]; omega]
    exact ih (i + 1) w acc (by omega) hs
 refine exM_of (xs.length + 1) ?_
 exact loop xs.length 0 w ⟨none,0,0⟩ (by omega) hs
set_option maxRecDepth 100000 in
theorem r14_has {s0:Sl} [hr:Rdb W L s0 Rec.str xs] (hs:Sat W w L) (hz:xs.length < 1000000):Rts Tryz.prog 188 #[.slice s0.a s0.n s0.c,.string key] w fun v w'=>∃ i:Int,v = .int .i64 i /\ decide (i >= 0) = decide (key ∈ xs) /\ Sat W w' L:=by
 refine cw f188_ok f188_raw ?_
 have hn:=rdb_len (s:=s0) hs
 have loop:∀ (m i:Nat) (w:World),i + m = xs.length -> key ∉ xs.take i -> Sat W w L -> f188_l1 idJ (fun v w'=>∃ i:Int,v = .int .i64 i /\ decide (i >= 0) = decide (key ∈ xs) /\ Sat W w' L) (m + 1) s0 key (i:Int) w:=by
  intro m
  induction m with
  | zero=>
   intro i w hi hp hs
   rw [f188_l1_raw]
   refine ite_false (decide_eq_false (by omega)) ?_
   refine jw f188_j2_raw ?_
   rw [List.take_of_length_le (by omega)] at hp
   exact ⟨-1,rfl,by rw [decide_eq_false hp]; rfl,hs⟩
  | succ m ih=>
   intro i w hi hp hs
   rw [f188_l1_raw]
   refine ite_true (decide_eq_true (by omega)) ?_
   repeat (first | ((with_reducible refine atLd ?_); first | refine ld_rd0 ha_ hs ?_ | fail) | ((with_reducible refine isIdx ?_); first | refine idx_rd hs fun b_ o_ ha_=>?_ | fail) | fail)
   rw [Int.toNat_natCast]
   with_reducible refine ite_by (fun h3=>?_) (fun h3=>?_)
   ·have:key ∈ xs:=h3 ▸ getD_mem (by omega)
    exact ⟨i,rfl,by rw [decide_eq_true this,decide_eq_true (by omega)],hs⟩
   ·rw [show IntKind.wrap .i64 ((i:Int) + 1) = ((i + 1:Nat):Int) by rw [i64_in _ (by omega)]; omega]
    refine ih (i + 1) w (by omega) ?_ hs
    rw [take_snoc (by omega),List.mem_append,List.mem_singleton]
    rintro (hk | hk)
    ·exact hp hk
    ·exact h3 hk.symm
 refine exM_of (xs.length + 1) ?_
 exact loop xs.length 0 w (by omega) (by simp) hs
set_option maxRecDepth 100000 in
theorem r14_cut {s0:Sl} [hr:Rdb W L s0 Rec.str xs] (hs:Sat W w L) (hz:xs.length < 1000000):Rts Tryz.prog 189 #[.slice s0.a s0.n s0.c,.string key] w fun v w'=>∃ l:Sl,v = .slice l.a l.n l.c /\ Sat W w' (recs Rec.str l (gTake xs key)::L):=by
 refine cw f189_ok f189_raw ?_
 have hn:=rdb_len (s:=s0) hs
 have hs:=Sat.nilR Rec.str hs
 have loop:∀ (m i:Nat) (w:World) (acc:Sl),i + m = xs.length -> Sat W w (recs Rec.str acc (gTake (xs.take i) key)::L) -> f189_l1 idJ (fun v w'=>∃ l:Sl,v = .slice l.a l.n l.c /\ Sat W w' (recs Rec.str l (gTake xs key)::L)) (m + 1) s0 key acc (i:Int) w:=by
  clear hs
  intro m
  induction m with
  | zero=>
   intro i w acc hi hs
   rw [f189_l1_raw]
   refine ite_false (decide_eq_false (by omega)) ?_
   refine jw f189_j2_raw ?_
   rw [List.take_of_length_le (by omega)] at hs
   exact ⟨acc,rfl,hs⟩
  | succ m ih=>
   intro i w acc hi hs
   rw [f189_l1_raw]
   refine ite_true (decide_eq_true (by omega)) ?_
   repeat (first | ((with_reducible refine atLd ?_); first | refine ld_rd0 ha_ hs ?_ | fail) | ((with_reducible refine isIdx ?_); first | refine idx_rd hs fun b_ o_ ha_=>?_ | fail) | fail)
   rw [Int.toNat_natCast]
   have hsn:=gTake_snoc (q:=xs) (k:=key) (j:=i) (by omega)
   have hln:=gTake_len (xs.take i) key
   rw [List.length_take] at hln
   with_reducible refine ite_by (fun h3=>?_) (fun h3=>?_)
   ·rw [if_neg h3] at hsn
    repeat (first | ((with_reducible refine atLd ?_); first | refine ld_rd0 ha_ hs ?_ | fail) | ((with_reducible refine isIdx ?_); first | refine idx_rd hs fun b_ o_ ha_=>?_ | fail) | with_reducible refine newB_at hs fun b_ w hs=>?_ | fail)
    refine app_one (s:=acc) (a:=xs.getD i default) hs rfl rfl rfl rfl (by decide) (by omega) fun s2 w hs2 hs=>?_
    rw [<- hsn] at hs
    rw [show IntKind.wrap .i64 ((i:Int) + 1) = ((i + 1:Nat):Int) by rw [i64_in _ (by omega)]; omega]
    exact ih (i + 1) w s2 (by omega) (by exact Sat.fin hs)
   ·rw [if_pos h3,List.append_nil] at hsn
    rw [<- hsn] at hs
    rw [show IntKind.wrap .i64 ((i:Int) + 1) = ((i + 1:Nat):Int) by rw [i64_in _ (by omega)]; omega]
    exact ih (i + 1) w acc (by omega) hs
 refine exM_of (xs.length + 1) ?_
 exact loop xs.length 0 w ⟨none,0,0⟩ (by omega) hs
end
end Go.Proofs.YtmefopmnjncdbaaGreat
namespace Go.Proofs.YtmefopmnjncdbaaGreat
open Go.Hb
theorem c1 {P:Program} {f:FuncId} {args:Array Value} {w:World} {v0:Value} {S:World -> Prop} (h:Calls P f args w fun e w'=>∃ v,e = .returned v /\ (v = v0 /\ S w')) :
  Calls P f args w fun e w'=>e = .returned v0 /\ S w':=h.mono fun _ _ ⟨_,he,hv,hs⟩=>⟨by rw [he,hv],hs⟩
end Go.Proofs.YtmefopmnjncdbaaGreat
