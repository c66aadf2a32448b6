import Derived.Test.YtmefopmnjncdbaaGreatRows
import Derived.Test.YtmefopmnjncdbaaGreatMn26
set_option linter.unusedVariables false
set_option linter.unusedSimpArgs false
set_option linter.unnecessarySimpa false
set_option linter.unusedSectionVars false
set_option maxRecDepth 100000
namespace Go.Proofs.YtmefopmnjncdbaaGreat
open Go.Hb
def f3_kp:KP:=⟨[(8,[1,2,3]),(19,[1,2,3,7,9,10]),(24,[1,2,3,9]),(31,[1,2,3,9,11]),(38,[1,2,3,9,11,12,82]),(42,[])],[]⟩
noncomputable def f3_b (l:List Nat):Code:=cAtN l (bodyOf Tryz.f3)
def f3_r (Q:Value -> WP):Env -> WP:=retK Tryz.prog Tryz.f3 Q
def f3_e9 (jn:Jn) (Q:Value -> WP):Env -> WP:=seqK Tryz.prog f3_kp jn (f3_b [1,1,1,1,1,1]) (f3_r Q) noX (f3_r Q)
def f3_e19 (jn:Jn) (Q:Value -> WP):Env -> WP:=seqK Tryz.prog f3_kp jn (f3_b [1,1,1,1,1,1,1,1]) (f3_r Q) noX (f3_r Q)
def f3_e21 (jn:Jn) (Q:Value -> WP) (m4:Nat):Env -> WP:=lopK Tryz.prog f3_kp jn (f3_b [1,1,1,1,1,1,1,0,1,0,0]) (blkX 2 (f3_e19 jn Q) noX) (f3_r Q) m4
def f3_e24 (jn:Jn) (Q:Value -> WP) (m4:Nat):Env -> WP:=seqK Tryz.prog f3_kp jn (f3_b [1,1,1,1,1,1,1,0,1,0,0,1,1]) (f3_e21 jn Q m4) (blkX 2 (f3_e19 jn Q) noX) (f3_r Q)
def f3_e25 (jn:Jn) (Q:Value -> WP) (m4:Nat):Nat -> Env -> WP:=blkX 3 (f3_e24 jn Q m4) (blkX 2 (f3_e19 jn Q) noX)
def f3_j5_c (jn:Jn) (Q:Value -> WP) (m4:Nat):Env -> WP:=codeI Tryz.prog f3_kp jn (f3_b [1,1,1,1,1,1,1,0,1,0,0,1,0,0,1,1]) (f3_e24 jn Q m4) (f3_e25 jn Q m4) (f3_r Q)
def f3_j5 (jn:Jn) (Q:Value -> WP) (m4:Nat) (l1:Sl) (pick2:Int) (v3_b v3_o:Nat) (r9:Sl) (i11 k12:Int) (t82:Bool):WP:=jn 38 (f3_j5_c jn Q m4) (us 1 ((.slice l1.a l1.n l1.c)::(.int .i64 pick2)::(.pointer (some ⟨v3_b,v3_o,none⟩))::us 5 ((.slice r9.a r9.n r9.c)::us 1 ((.int .i64 i11)::(.int .i64 k12)::us 69 ((.bool t82)::us 23 [])))))
def f3_j6_c (jn:Jn) (Q:Value -> WP):Env -> WP:=codeI Tryz.prog f3_kp jn (f3_b [1,1,1,1,1,1,1,1]) (f3_r Q) noX (f3_r Q)
def f3_j6 (jn:Jn) (Q:Value -> WP):WP:=jn 42 (f3_j6_c jn Q ) (us 106 [])
def f3_l4 (jn:Jn) (Q:Value -> WP) (m4:Nat) (l1:Sl) (pick2:Int) (v3_b v3_o:Nat) (r9:Sl) (i11:Int):WP:=lop Tryz.prog f3_kp jn (f3_b [1,1,1,1,1,1,1,0,1,0,0]) (blkX 2 (f3_e19 jn Q) noX) (f3_r Q) m4 (us 1 ((.slice l1.a l1.n l1.c)::(.int .i64 pick2)::(.pointer (some ⟨v3_b,v3_o,none⟩))::us 5 ((.slice r9.a r9.n r9.c)::us 1 ((.int .i64 i11)::us 94 []))))
def f3_j3_c (jn:Jn) (Q:Value -> WP):Env -> WP:=codeI Tryz.prog f3_kp jn (f3_b [1,1,1,1,1,1]) (f3_r Q) noX (f3_r Q)
def f3_j3 (jn:Jn) (Q:Value -> WP) (l1:Sl) (pick2:Int) (v3_b v3_o:Nat) (r9:Sl):WP:=jn 24 (f3_j3_c jn Q ) (us 1 ((.slice l1.a l1.n l1.c)::(.int .i64 pick2)::(.pointer (some ⟨v3_b,v3_o,none⟩))::us 5 ((.slice r9.a r9.n r9.c)::us 96 [])))
def f3_l2 (jn:Jn) (Q:Value -> WP) (m2:Nat) (l1:Sl) (pick2:Int) (v3_b v3_o:Nat) (x7:Option Addr) (r9:Sl) (i10:Int):WP:=lop Tryz.prog f3_kp jn (f3_b [1,1,1,1,1,0,1,0,0]) (blkX 0 (f3_e9 jn Q) noX) (f3_r Q) m2 (us 1 ((.slice l1.a l1.n l1.c)::(.int .i64 pick2)::(.pointer (some ⟨v3_b,v3_o,none⟩))::us 3 ((.pointer x7)::us 1 ((.slice r9.a r9.n r9.c)::(.int .i64 i10)::us 95 []))))
def f3_j1_c (jn:Jn) (Q:Value -> WP):Env -> WP:=codeI Tryz.prog f3_kp jn (f3_b [1,1]) (f3_r Q) noX (f3_r Q)
def f3_j1 (jn:Jn) (Q:Value -> WP) (l1:Sl) (pick2:Int) (v3_b v3_o:Nat):WP:=jn 8 (f3_j1_c jn Q ) (us 1 ((.slice l1.a l1.n l1.c)::(.int .i64 pick2)::(.pointer (some ⟨v3_b,v3_o,none⟩))::us 102 []))
theorem f3_j5_raw {jn:Jn} {Q:Value -> WP} {m4:Nat} {l1:Sl} {pick2:Int} {v3_b v3_o:Nat} {r9:Sl} {i11 k12:Int} {t82:Bool}:f3_j5_c jn Q m4 (us 1 ((.slice l1.a l1.n l1.c)::(.int .i64 pick2)::(.pointer (some ⟨v3_b,v3_o,none⟩))::us 5 ((.slice r9.a r9.n r9.c)::us 1 ((.int .i64 i11)::(.int .i64 k12)::us 69 ((.bool t82)::us 23 []))))) = (
 ite2 t82 (
 idx r9.a r9.n k12 fun b_44 o_45=>
 ld .bool b_44 ((o_45 + (k12).toNat * 4) + 1) fun (x_46:Bool)=>
 idx r9.a r9.n k12 fun b_47 o_48=>
 st b_47 ((o_48 + (k12).toNat * 4) + 1) (.bool (!x_46)) <|
 ld (.int .i64) v3_b v3_o fun (x_49:Int)=>
 ld (.int .i64) v3_b (v3_o + 1) fun (x_50:Int)=>
 call1 (.int .i64) Tryz.prog 9 [.int .i64 x_49,.int .i64 x_50,.slice l1.a l1.n l1.c,.slice r9.a r9.n r9.c] fun (x_51:Int)=>
 ite2 (x_51 == k12) (
 call1 .bool Tryz.prog 7 [] fun (x_52:Bool)=>
 Q (.bool x_52)) (
 Q (.bool false))) (
 f3_l4 jn Q  m4 l1 pick2 v3_b v3_o r9 (IntKind.wrap .i64 (i11 + 1)))):=by kernel_rfl
theorem f3_j6_raw {jn:Jn} {Q:Value -> WP}:f3_j6_c jn Q  (us 106 []) = (
 call1 .bool Tryz.prog 7 [] fun (x_53:Bool)=>
 Q (.bool x_53)):=by kernel_rfl
theorem f3_l4_raw {jn:Jn} {Q:Value -> WP} {m4:Nat} {l1:Sl} {pick2:Int} {v3_b v3_o:Nat} {r9:Sl} {i11:Int}:f3_l4 jn Q  (m4 + 1) l1 pick2 v3_b v3_o r9 i11 = (
 ite2 (decide (i11 < (l1.n:Int))) (
 when ((l1.n:Int) ≠ 0) <|
 idx l1.a l1.n (Int.tmod (IntKind.wrap .i64 (i11 + (bits .and .i64 pick2 1023))) (l1.n:Int)) fun b_38 o_39=>
 ld (.int .i64) b_38 (o_39 + ((Int.tmod (IntKind.wrap .i64 (i11 + (bits .and .i64 pick2 1023))) (l1.n:Int))).toNat * 4) fun (x_40:Int)=>
 ite2 (x_40 == 1) (
 idx r9.a r9.n (Int.tmod (IntKind.wrap .i64 (i11 + (bits .and .i64 pick2 1023))) (l1.n:Int)) fun b_41 o_42=>
 ld (.int .i64) b_41 (o_42 + ((Int.tmod (IntKind.wrap .i64 (i11 + (bits .and .i64 pick2 1023))) (l1.n:Int))).toNat * 4) fun (x_43:Int)=>
 f3_j5 jn Q m4 l1 pick2 v3_b v3_o r9 i11 (Int.tmod (IntKind.wrap .i64 (i11 + (bits .and .i64 pick2 1023))) (l1.n:Int)) (x_43 == 0)) (
 f3_j5 jn Q m4 l1 pick2 v3_b v3_o r9 i11 (Int.tmod (IntKind.wrap .i64 (i11 + (bits .and .i64 pick2 1023))) (l1.n:Int)) false)) (
 f3_j6 jn Q  )):=by kernel_rfl
theorem f3_j3_raw {jn:Jn} {Q:Value -> WP} {l1:Sl} {pick2:Int} {v3_b v3_o:Nat} {r9:Sl}:f3_j3_c jn Q  (us 1 ((.slice l1.a l1.n l1.c)::(.int .i64 pick2)::(.pointer (some ⟨v3_b,v3_o,none⟩))::us 5 ((.slice r9.a r9.n r9.c)::us 96 []))) = (
 ld (.int .i64) v3_b v3_o fun (x_35:Int)=>
 ld (.int .i64) v3_b (v3_o + 1) fun (x_36:Int)=>
 call1 (.int .i64) Tryz.prog 9 [.int .i64 x_35,.int .i64 x_36,.slice l1.a l1.n l1.c,.slice r9.a r9.n r9.c] fun (x_37:Int)=>
 ite2 (x_37 != (-1)) (
 Q (.bool false)) (
 exM fun m=>f3_l4 jn Q  m l1 pick2 v3_b v3_o r9 0)):=by kernel_rfl
theorem f3_l2_raw {jn:Jn} {Q:Value -> WP} {m2:Nat} {l1:Sl} {pick2:Int} {v3_b v3_o:Nat} {x7:Option Addr} {r9:Sl} {i10:Int}:f3_l2 jn Q  (m2 + 1) l1 pick2 v3_b v3_o x7 r9 i10 = (
 ite2 (decide (i10 < (l1.n:Int))) (
 idx l1.a l1.n i10 fun b_23 o_24=>
 ld (.int .i64) b_23 (o_24 + (i10).toNat * 4) fun (x_25:Int)=>
 ld .str b_23 ((o_24 + (i10).toNat * 4) + 1) fun (x_26:ByteArray)=>
 ld .str b_23 (((o_24 + (i10).toNat * 4) + 1) + 1) fun (x_27:ByteArray)=>
 ld (.int .i64) b_23 ((((o_24 + (i10).toNat * 4) + 1) + 1) + 1) fun (x_28:Int)=>
 fun w=>Calls Tryz.prog 8 #[.pointer x7,.agg #[.int .i64 x_25,.string x_26,.string x_27,.int .i64 x_28]] w fun e w'=>∃ x_29:Int,∃ x_30:Bool,∃ x_31:ByteArray,∃ x_32:Sl,e = .returned (.agg #[.int .i64 x_29,.bool x_30,.string x_31,.slice x_32.a x_32.n x_32.c]) /\ (
 newB [.int .i64 x_29,.bool x_30,.string x_31,.slice x_32.a x_32.n x_32.c] 36 fun b_33=>
 appendC 36 4 56 [.int .i64 0,.bool false,.string str_empty,.slice none 0 0] ⟨r9.a,r9.n,r9.c⟩ 1 (fun w=>rdA w (some ⟨b_33,0,none⟩) (1 * 4)) fun s_34=>
 f3_l2 jn Q  m2 l1 pick2 v3_b v3_o x7 s_34 (IntKind.wrap .i64 (i10 + 1))) w') (
 f3_j3 jn Q  l1 pick2 v3_b v3_o r9)):=by kernel_rfl
theorem f3_j1_raw {jn:Jn} {Q:Value -> WP} {l1:Sl} {pick2:Int} {v3_b v3_o:Nat}:f3_j1_c jn Q  (us 1 ((.slice l1.a l1.n l1.c)::(.int .i64 pick2)::(.pointer (some ⟨v3_b,v3_o,none⟩))::us 102 [])) = (
 ld (.int .i64) v3_b v3_o fun (x_12:Int)=>
 ld (.int .i64) v3_b (v3_o + 1) fun (x_13:Int)=>
 ld (.int .i64) v3_b ((v3_o + 1) + 1) fun (x_14:Int)=>
 ld (.int .i64) v3_b (((v3_o + 1) + 1) + 1) fun (x_15:Int)=>
 ld (.int .i64) v3_b ((((v3_o + 1) + 1) + 1) + 1) fun (x_16:Int)=>
 ld (.int .i64) v3_b (((((v3_o + 1) + 1) + 1) + 1) + 1) fun (x_17:Int)=>
 ld (.int .i64) v3_b ((((((v3_o + 1) + 1) + 1) + 1) + 1) + 1) fun (x_18:Int)=>
 ld .slc v3_b (((((((v3_o + 1) + 1) + 1) + 1) + 1) + 1) + 1) fun (x_19:Sl)=>
 call2 .ptr (.int .i64) Tryz.prog 6 [.agg #[.int .i64 x_12,.int .i64 x_13,.int .i64 x_14,.int .i64 x_15,.int .i64 x_16,.int .i64 x_17,.int .i64 x_18,.slice x_19.a x_19.n x_19.c]] fun (x_20:Option Addr) (x_21:Int)=>
 ite2 (x_21 != 0) (
 call1 .bool Tryz.prog 7 [] fun (x_22:Bool)=>
 Q (.bool x_22)) (
 exM fun m=>f3_l2 jn Q  m l1 pick2 v3_b v3_o x_20 ⟨none,0,0⟩ 0)):=by kernel_rfl
theorem f3_raw {jn:Jn} {f0_0 f0_1 f0_2 f0_3 f0_4 f0_5 f0_6:Int} {f0_7 l1:Sl} {pick2:Int} {Q:Value -> WP}:funJ jn Tryz.prog f3_kp Tryz.f3 [.agg #[.int .i64 f0_0,.int .i64 f0_1,.int .i64 f0_2,.int .i64 f0_3,.int .i64 f0_4,.int .i64 f0_5,.int .i64 f0_6,.slice f0_7.a f0_7.n f0_7.c],.slice l1.a l1.n l1.c,.int .i64 pick2] Q = (
 newB [.int .i64 f0_0,.int .i64 f0_1,.int .i64 f0_2,.int .i64 f0_3,.int .i64 f0_4,.int .i64 f0_5,.int .i64 f0_6,.slice f0_7.a f0_7.n f0_7.c] 24 fun b_1=>
 call1 .bool Tryz.prog 4 [.slice l1.a l1.n l1.c] fun (x_2:Bool)=>
 ite2 x_2 (
 Q (.bool true)) (
 ld (.int .i64) b_1 0 fun (x_3:Int)=>
 ld (.int .i64) b_1 1 fun (x_4:Int)=>
 ld (.int .i64) b_1 2 fun (x_5:Int)=>
 ld (.int .i64) b_1 3 fun (x_6:Int)=>
 ld (.int .i64) b_1 4 fun (x_7:Int)=>
 ld (.int .i64) b_1 5 fun (x_8:Int)=>
 ld (.int .i64) b_1 6 fun (x_9:Int)=>
 ld .slc b_1 7 fun (x_10:Sl)=>
 call1 .bool Tryz.prog 5 [.agg #[.int .i64 x_3,.int .i64 x_4,.int .i64 x_5,.int .i64 x_6,.int .i64 x_7,.int .i64 x_8,.int .i64 x_9,.slice x_10.a x_10.n x_10.c]] fun (x_11:Bool)=>
 ite2 (!x_11) (
 Q (.bool true)) (
 ite2 (decide ((l1.n:Int) > 120)) (
 Q (.bool true)) (
 f3_j1 jn Q  l1 pick2 b_1 0)))):=by kernel_rfl
theorem f3_ok:FnOk Tryz.prog 3 Tryz.f3:=⟨mixed,Tryz.func3,rfl⟩
end Go.Proofs.YtmefopmnjncdbaaGreat
namespace Go.Proofs.YtmefopmnjncdbaaGreat
open Go.Hb Go.IntWalk
section
variable {W w:World} {L M:List HP} {s0 r9 tp:Sl} {ops:List OpV} {rs:List Ans} {tape:List Int} {c0 c1 c2 c3 c4 c5 c6:Int} {b sh n:Nat} {pick:Int}
theorem and_low (x:Int):∃ y:Nat,bits .and .i64 x 1023 = (y:Int) /\ y <= 1023:=by
 have h2:(BitVec.ofInt 64 (1023:Int)).toNat = 1023:=rfl
 have hle:(BitVec.ofInt 64 x &&& BitVec.ofInt 64 1023).toNat <= 1023:=by
  rw [BitVec.toNat_and,h2]
  exact Nat.and_le_right
 refine ⟨(BitVec.ofInt 64 x &&& BitVec.ofInt 64 1023).toNat,?_,hle⟩
 show IntKind.i64.wrap ((BitVec.ofInt 64 x &&& BitVec.ofInt 64 1023).toNat:Int) = _
 exact i64_in _ (by omega)
theorem small27 (hs:Sat W w L):Rts Tryz.prog 5 #[.agg #[.int .i64 c0,.int .i64 c1,.int .i64 c2,.int .i64 c3,.int .i64 c4,.int .i64 c5,.int .i64 c6,.slice tp.a tp.n tp.c]] w fun v w'=>∃ t:Bool,v = .bool t /\ (t = true -> tp.n <= 100) /\ Sat W w' L:=by
 refine cw f5_ok f5_raw ?_
 refine newB_at hs fun b1 w hs=>?_
 refine ld_b hs ?_
 with_reducible refine ite_by (fun h1=>?_) (fun h1=>?_)
 rotate_left
 ·exact ⟨false,rfl,(fun h=>by cases h),hs.drop⟩
 refine ld_b hs ?_
 with_reducible refine ite_by (fun h2=>?_) (fun h2=>?_)
 rotate_left
 ·exact ⟨false,rfl,(fun h=>by cases h),hs.drop⟩
 refine ld_b hs ?_
 with_reducible refine ite_by (fun h3=>?_) (fun h3=>?_)
 rotate_left
 ·exact ⟨false,rfl,(fun h=>by cases h),hs.drop⟩
 refine ld_b (x:=tp) hs ?_
 exact ⟨_,rfl,fun h=>by have:=of_decide_eq_true h; omega,hs.drop⟩
abbrev gsl (a:Ans):HP:=recs Rec.str a.sl a.gone
structure RsOk (rs:List Ans):Prop where
 small:∀ a ∈ rs,(∀ g ∈ a.gone,g.size <= 40) /\ a.gone.length <= 9000
theorem RsOk.set {k:Nat} (h:RsOk rs) (hk:k < rs.length):RsOk (rs.set k (flip (rs.getD k default))):=⟨fun a ha=>by
 rcases List.mem_or_eq_of_mem_set ha with h1 | rfl
 ·exact h.small a h1
 ·exact h.small (rs.getD k default) (getD_mem hk)⟩
theorem flip_gsl {k:Nat} (hk:k < rs.length):(rs.set k (flip (rs.getD k default))).map gsl = rs.map gsl:=by
 rw [List.map_set]
 have e:gsl (flip (rs.getD k default)) = (rs.map gsl)[k]'(by simpa using hk):=by
  rw [List.getElem_map,List.getD_eq_getElem?_getD,List.getElem?_eq_getElem hk]; rfl
 rw [e,List.set_getElem_self]
theorem wrong_fresh [hO:AtO L W] [hr0:ReadsR W s0 opR ops] (hk:∀ i,i < ops.length -> i < 120 -> (ops.getD i default).key.size <= 40) (hop:∀ o ∈ ops,OpOk o) (hl0:ops.length <= 120) (hl1:rs.length <= 120) (hroom:okK .i64 c1) (hok:RsOk rs) (hs:Sat W w (recs ansR r9 rs::allH (rs.map gsl)::L)) :
  Rts Tryz.prog 9 #[.int .i64 c0,.int .i64 c1,.slice s0.a s0.n s0.c,.slice r9.a r9.n r9.c] w fun v w'=>v = .int .i64 (jWrong c0 0 ⟨[],0,c1⟩ ops rs) /\ Sat W w' (recs ansR r9 rs::allH (rs.map gsl)::L):=by
 have hR0:ReadsR w s0 opR ops:=(inferInstance:Rdb W (recs ansR r9 rs::allH (rs.map gsl)::L) s0 opR ops).rd w hs
 have hR1:ReadsR w r9 ansR rs:=(inferInstance:Rdb W (recs ansR r9 rs::allH (rs.map gsl)::L) r9 ansR rs).rd w hs
 have hin:InOk w ops rs:=by
  refine ⟨hk,fun i hi=>(hop _ (getD_mem hi)).n,fun i hi _=>(hok.small _ (getD_mem hi)).2,fun i hi _=>(hok.small _ (getD_mem hi)).1,fun i hi=>?_⟩
  have hs2:Sat W w (allH (rs.map gsl)::recs ansR r9 rs::L):=hs.perm (List.Perm.swap _ _ _)
  have hs3:=pick_at hi hs2
  have e:rs.getD i default = rs[i]:=by rw [List.getD_eq_getElem?_getD,List.getElem?_eq_getElem hi]; rfl
  rw [e]
  have hr:ReadsR w (rs[i]).sl Rec.str (rs[i]).gone:=(inferInstance:Rdb W (recs Rec.str (rs[i]).sl (rs[i]).gone::allH ((rs.eraseIdx i).map gsl)::recs ansR r9 rs::L) (rs[i]).sl Rec.str (rs[i]).gone).rd w hs3
  exact ⟨hr.len,.inr hr⟩
 have hb:=Sat.begin w
 refine Calls.mono (jg_Wrong (s0:=s0) (s1:=r9) (sh:=c0) hb hin hl0 hl1 hroom) fun e w' ⟨he,h2⟩=>⟨_,he,rfl,hs.again h2⟩
theorem right_l4 [hO:AtO L W] [hr0:ReadsR W s0 opR ops] {b1:Nat} (hk:∀ i,i < ops.length -> i < 120 -> (ops.getD i default).key.size <= 40) (hop:∀ o ∈ ops,OpOk o) (hl0:ops.length <= 120) (hlen:rs.length = ops.length) (hroom:okK .i64 c1) (hok:RsOk rs) (hall:jAll c0 ⟨[],0,c1⟩ ops rs) :
  ∀ (f i:Nat) (w:World),i + f = ops.length -> Sat W w (recs ansR r9 rs::allH (rs.map gsl)::cfB b1 c0 c1 c2 c3 c4 c5 c6 tp::L) ->
   f3_l4 idJ (fun v w'=>v = .bool true /\ Sat W w' L) (f + 1) s0 pick b1 0 r9 (i:Int) w:=by
 have e0:=hr0.len
 intro f
 induction f with
 | zero=>
  intro i w hi hs
  rw [f3_l4_raw]
  refine ite_false (decide_eq_false (by omega)) ?_
  refine jw f3_j6_raw ?_
  exact call1_of (known27 hs) fun e w ⟨he,hs⟩=>⟨_,he,rfl,by exact Sat.fin hs⟩
 | succ f ih=>
  intro i w hi hs
  rw [f3_l4_raw]
  refine ite_true (decide_eq_true (by omega)) ?_
  have hb:∃ x:Nat,bits .and .i64 pick 1023 = (x:Int) /\ x <= 1023:=and_low pick
  obtain ⟨x,hx,hx2⟩:=hb
  have hm:Int.tmod (IntKind.wrap .i64 ((i:Int) + bits .and .i64 pick 1023)) (s0.n:Int) = (((i + x) % ops.length:Nat):Int):=by
   rw [hx,i64_in _ (by omega),e0]
   rfl
  rw [hm]
  have hlt:(i + x) % ops.length < ops.length:=Nat.mod_lt _ (by omega)
  generalize (i + x) % ops.length = k at hlt
  have next:∀ w:World,Sat W w (recs ansR r9 rs::allH (rs.map gsl)::cfB b1 c0 c1 c2 c3 c4 c5 c6 tp::L) -> f3_l4 idJ (fun v w'=>v = .bool true /\ Sat W w' L) (f + 1) s0 pick b1 0 r9 (IntKind.wrap .i64 ((i:Int) + 1)) w:=by
   intro w hs
   rw [show IntKind.wrap .i64 ((i:Int) + 1) = ((i + 1:Nat):Int) by rw [i64_in _ (by omega)]; omega]
   exact ih (i + 1) w (by omega) hs
  have hn9:=rdb_len (s:=r9) (E:=ansR) (rows:=rs) hs
  have j5:∀ (w:World) (t:Bool),(t = true -> (ops.getD k default).kind = 1 /\ (rs.getD k default).err = 0) -> Sat W w (recs ansR r9 rs::allH (rs.map gsl)::cfB b1 c0 c1 c2 c3 c4 c5 c6 tp::L) ->
    f3_j5 idJ (fun v w'=>v = .bool true /\ Sat W w' L) (f + 1) s0 pick b1 0 r9 (i:Int) (k:Int) t w:=by
   intro w t ht hs
   refine jw f3_j5_raw ?_
   cases t with
   | false=>exact ite_false rfl (next w hs)
   | true=>
    refine ite_true rfl ?_
    obtain ⟨h1,h2⟩:=ht rfl
    refine idx_rd (s:=r9) (E:=ansR) (rows:=rs) hs fun b_ o_ ha_=>?_
    refine ld_rd1 (s:=r9) (E:=ansR) (rows:=rs) ha_ hs ?_ (hc:=rfl)
    rw [Int.toNat_natCast]
    refine idx_s (s:=r9) hs fun b2 o2 hs=>?_
    refine st_r1 (a':=flip (rs.getD k default)) hs (hS:=⟨rfl,by simp [ansR]⟩) fun w hs=>?_
    have hs:=hs.shut r9
    rw [<- flip_gsl (rs:=rs) (k:=k) (by omega)] at hs
    have hk2:k < rs.length:=by omega
    iterate 2 refine ld_b hs ?_
    have hset:=hok.set hk2
    have hj:=jFlip (sh:=c0) (s:=⟨[],0,c1⟩) 0 k hk2 (by omega) h1 h2 hall
    have hl2:(rs.set k (flip (rs.getD k default))).length <= 120:=by rw [List.length_set]; omega
    generalize rs.set k (flip (rs.getD k default)) = rs2 at *
    refine call1_ret (wrong_fresh hk hop hl0 hl2 hroom hset hs) fun v w ⟨hv,hs⟩=>⟨_,hv,?_⟩
    refine ite_true (by rw [hj]; simp) ?_
    exact call1_of (known27 hs) fun e w ⟨he,hs⟩=>⟨_,he,rfl,by exact Sat.fin hs⟩
  refine when_of (by omega) ?_
  refine idx_rd (s:=s0) (E:=opR) (rows:=ops) hs fun b_ o_ ha_=>?_
  refine ld_rd0 (s:=s0) (E:=opR) (rows:=ops) ha_ hs ?_ (hc:=rfl)
  rw [Int.toNat_natCast]
  refine ite_cases (fun h1=>?_) (fun h1=>?_)
  ·refine idx_rd (s:=r9) (E:=ansR) (rows:=rs) hs fun b_ o_ ha_=>?_
   refine ld_rd0 (s:=r9) (E:=ansR) (rows:=rs) ha_ hs ?_ (hc:=rfl)
   exact j5 w _ (fun h=>⟨by simpa using h1,by simpa using h⟩) hs
  ·exact j5 w false (fun h=>by cases h) hs
theorem right_j3 [hO:AtO L W] [hr0:ReadsR W s0 opR ops] {b1:Nat} (hk:∀ i,i < ops.length -> i < 120 -> (ops.getD i default).key.size <= 40) (hop:∀ o ∈ ops,OpOk o) (hl0:ops.length <= 120) (hlen:rs.length = ops.length) (hroom:okK .i64 c1) (hok:RsOk rs) (hall:jAll c0 ⟨[],0,c1⟩ ops rs)
  (hs:Sat W w (recs ansR r9 rs::allH (rs.map gsl)::cfB b1 c0 c1 c2 c3 c4 c5 c6 tp::L)):f3_j3 idJ (fun v w'=>v = .bool true /\ Sat W w' L) s0 pick b1 0 r9 w:=by
 refine jw f3_j3_raw ?_
 iterate 2 refine ld_b hs ?_
 refine call1_ret (wrong_fresh hk hop hl0 (by omega) hroom hok hs) fun v w ⟨hv,hs⟩=>⟨_,hv,?_⟩
 rw [jAll_wrong 0 hall]
 refine ite_false rfl ?_
 exact exM_of _ (right_l4 hk hop hl0 hlen hroom hok hall ops.length 0 w (by omega) hs)
theorem right_l2 [hO:AtO L W] [hr0:ReadsR W s0 opR ops] {b1:Nat} (hsh:c0 = (sh:Int)) (hk:∀ i,i < ops.length -> i < 120 -> (ops.getD i default).key.size <= 40) (hop:∀ o ∈ ops,OpOk o) (hl0:ops.length <= 120) (hroom:okK .i64 c1) :
  ∀ (f i:Nat) (w:World) (rs:List Ans) (r9:Sl),i + f = ops.length -> rs.length = i -> RsOk rs -> jAll c0 ⟨[],0,c1⟩ ops rs -> Sat W w (cch b sh (1 + 1024 * i) (jRun ⟨[],0,c1⟩ ops rs)::recs ansR r9 rs::allH (rs.map gsl)::cfB b1 c0 c1 c2 c3 c4 c5 c6 tp::L) ->
   f3_l2 idJ (fun v w'=>v = .bool true /\ Sat W w' L) (f + 1) s0 pick b1 0 (some ⟨b,0,none⟩) r9 (i:Int) w:=by
 have e0:=hr0.len
 intro f
 induction f with
 | zero=>
  intro i w rs r9 hi hri hok hall hs
  rw [f3_l2_raw]
  refine ite_false (decide_eq_false (by omega)) ?_
  exact right_j3 hk hop hl0 (by omega) hroom hok hall hs.drop
 | succ f ih=>
  intro i w rs r9 hi hri hok hall hs
  rw [f3_l2_raw]
  refine ite_true (decide_eq_true (by omega)) ?_
  refine idx_rd (s:=s0) (E:=opR) (rows:=ops) hs fun b_ o_ ha_=>?_
  refine ld_rd0 (s:=s0) (E:=opR) (rows:=ops) ha_ hs (ld_rd1 (s:=s0) (E:=opR) (rows:=ops) ha_ hs (ld_rd2 (s:=s0) (E:=opR) (rows:=ops) ha_ hs (ld_rd3 (s:=s0) (E:=opR) (rows:=ops) ha_ hs ?_ (hc:=rfl)) (hc:=rfl)) (hc:=rfl)) (hc:=rfl)
  rw [Int.toNat_natCast]
  have hJ:∃ Ts,JR sh Ts (jRun ⟨[],0,c1⟩ ops rs):=by
   obtain ⟨sl,p,ch,Ls,hJ,_⟩:=cch_open hs
   exact ⟨_,hJ⟩
  obtain ⟨Ts,hJ⟩:=hJ
  refine Calls.mono (q26_Do (o:=ops.getD i default) (by omega) (hk i (by omega) (by omega)) hs) fun e_ w ⟨v,he,e,h,x,sl,gone,hv,hsay,hs⟩=>⟨e,h,x,sl,by rw [he,hv],?_⟩
  have hgo:=hJ.gone_in hsay
  refine newB_at hs fun nb w hs=>?_
  refine app_one (s:=r9) (a:=(⟨e,h,x,sl,gone⟩:Ans)) hs rfl rfl rfl rfl (by decide) (by omega) fun s5 w hs5 hs=>?_
  subst hri
  obtain ⟨h3,h4⟩:=jAll_snoc (a:=⟨e,h,x,sl,gone⟩) (by omega) hall (by rw [hsh]; exact hsay)
  have hs:Sat W w (gsl ⟨e,h,x,sl,gone⟩::allH (rs.map gsl)::cch b sh (1 + 1024 * rs.length + 1024) (jNext (jRun ⟨[],0,c1⟩ ops rs) (ops.getD rs.length default) e gone)::recs ansR s5 (rs ++ [⟨e,h,x,sl,gone⟩])::cfB b1 c0 c1 c2 c3 c4 c5 c6 tp::L):=by exact Sat.fin hs
  have hs:=put_snoc hs
  have e5:jNext (jRun ⟨[],0,c1⟩ ops rs) (ops.getD rs.length default) e gone = jRun ⟨[],0,c1⟩ ops (rs ++ [⟨e,h,x,sl,gone⟩]):=h4.symm
  rw [e5] at hs
  rw [show IntKind.wrap .i64 ((rs.length:Int) + 1) = ((rs.length + 1:Nat):Int) by rw [i64_in _ (by omega)]; omega]
  have hl:1 + 1024 * (rs.length + 1) = 1 + 1024 * rs.length + 1024:=by omega
  refine ih (rs.length + 1) w (rs ++ [⟨e,h,x,sl,gone⟩]) s5 (by omega) (by simp) ⟨fun a ha=>?_⟩ h3 (by rw [hl]; exact Sat.fin hs)
  rcases List.mem_append.1 ha with ha | ha
  ·exact hok.small a ha
  ·rw [List.mem_singleton] at ha
   subst ha
   exact hgo
theorem jright_walk [hr0:ReadsR W s0 opR ops] [hrt:ReadsR W tp (Rec.int .u32) tape] (hop:∀ o ∈ ops,OpOk o) (hroom:okK .i64 c1) :
  Calls Tryz.prog 3 #[.agg #[.int .i64 c0,.int .i64 c1,.int .i64 c2,.int .i64 c3,.int .i64 c4,.int .i64 c5,.int .i64 c6,.slice tp.a tp.n tp.c],.slice s0.a s0.n s0.c,.int .i64 pick] W fun e w'=>e = .returned (.bool true) /\ KeptH W w':=by
 have hs:=Sat.begin W
 refine law_of (cw f3_ok f3_raw ?_)
 have e0:=hr0.len
 have et:=hrt.len
 refine newB_at hs fun b1 w hs=>?_
 refine call1_of (heavy27 (s0:=s0) hs) fun e w ⟨hv,he,hsz,hs⟩=>⟨_,he,?_⟩
 refine ite_cases (fun h3=>⟨rfl,hs.drop⟩) (fun h3=>?_)
 iterate 7 refine ld_b hs ?_
 refine ld_b (x:=tp) hs ?_
 refine call1_ret (small27 hs) fun v w ⟨t,hv,ht,hs⟩=>⟨_,hv,?_⟩
 refine ite_cases (fun h4=>⟨rfl,hs.drop⟩) (fun h4=>?_)
 with_reducible refine ite_by (fun h5=>?_) (fun h5=>?_)
 ·exact ⟨rfl,hs.drop⟩
 refine jw f3_j1_raw ?_
 iterate 7 refine ld_b hs ?_
 refine ld_b (x:=tp) hs ?_
 have htp:=ht (by simpa using h4)
 refine call2_ret (q26_New (tape:=tape) (by omega) hs) fun v w h=>?_
 rcases h with ⟨b,sh,hsh,hv,hs⟩ | ⟨e,he,hv,hs⟩
 ·refine ⟨_,_,hv,ite_false rfl ?_⟩
  have hs:=Sat.nilR ansR hs
  have hs:=pick_nil (f:=gsl) hs
  refine exM_of _ (right_l2 (tp:=tp) (c2:=c2) (c3:=c3) (c4:=c4) (c5:=c5) (c6:=c6) (b1:=b1) hsh (hsz h3) hop (by omega) hroom ops.length 0 w [] ⟨none,0,0⟩ (by omega) rfl ⟨by simp⟩ jAll_nil ?_)
  rw [jRun_nil]
  exact Sat.fin hs
 ·refine ⟨_,_,hv,ite_true (by simpa using he) ?_⟩
  exact call1_of (known27 hs) fun e w ⟨he,hs⟩=>⟨_,he,rfl,by exact Sat.fin hs⟩
end
end Go.Proofs.YtmefopmnjncdbaaGreat
namespace Go.Hb
open Go.ChangeShapes Go.WideShapes Go.RowKit
section
variable {H:Type} {enc:TypeId × Value -> H} {P:Program} {W:World} {sp:Nat -> Bool} {held:Bool} {base:Nat}
theorem trod_int {t e:TypeId} {k:IntKind} {cs:List Value} {x:DataW H × List MemPlace} {fuel:Nat} {v:Value} {r:Reach} {b0:Nat} (hcs:cs = [v]) (hok:Cell.okWide P W r b0 t v) (ht:P.underlying t = some (.slice e)) (he:P.underlying e = some (.int k)) (h1:P.cellsOf e = 1) (hx:DataW.trod enc P W base sp held fuel t cs = some x) (hlt:Light P t x.1) :
  ∃ (s:Sl) (l:List Int),v = .slice s.a s.n s.c /\ ReadsR W s (Rec.int k) l:=by
 rcases DataW.trod_slice ht hx with ⟨h,_⟩ | ⟨a',len',cap',elems,rest,n,rfl,h,hd',_,hlc,hcm,hel,hcell,_,_⟩
 ·rw [hcs] at h
  simp only [List.cons.injEq,and_true] at h
  exact ⟨⟨none,0,0⟩,[],h,⟨rfl,.inl ⟨rfl,rfl⟩⟩⟩
 ·subst hd'
  rw [hcs] at h
  simp only [List.cons.injEq,and_true] at h
  subst h
  have hspot:a'.spot = none:=by
   simp only [ht,Cell.okWide,Cell.ok] at hok
   exact hok.2.2.2.1
  have hle:∀ y ∈ elems,Light P e y.1:=fun y hy=>light_all (P:=P) (e:=e) (ds:=elems.map (·.1)) (fun n hn=>hlt n (by simp only [DataW.weights,ht,List.mem_cons,List.mem_append]; exact .inr (.inl hn))) (List.mem_map.2 ⟨y,hy,rfl⟩)
  obtain ⟨rows,hr1,hr2,hr3⟩:=slc_rows (W:=W) (base:=base) (Q:=okRow [.int k]) (a:=a') (m:=1) (len:=len') (cap:=cap') Nat.one_pos fun i hi=>by
   have h2:=hcell i hi
   rw [List.getElem?_eq_getElem (by omega)] at h2
   simp only [Option.bind_eq_some_iff] at h2
   obtain ⟨c,hc,hx⟩:=h2
   rw [h1] at hc
   exact ⟨c,hc,flatT_ok 9 e _ c (by unfold flatT; rw [he]) ⟨_,_,hx,hle _ (List.getElem_mem _)⟩⟩
  obtain ⟨l,h3,h4,h5⟩:=rows_rec (Rec.int k) (okK k) of_ik hr2
  refine ⟨⟨some a',len',cap'⟩,l,rfl,?_⟩
  rcases hr3 with h6 | h6
  ·have:l = []:=List.length_eq_zero_iff.1 (by omega)
   subst this
   obtain ⟨b,o,spot⟩:=a'
   simp only at hspot
   subst hspot
   exact ⟨h6,.inr ⟨b,o,rfl,fun i j a ha=>by simp at ha⟩⟩
  ·exact ReadsR.of Nat.one_pos (by rw [<- h3]; exact h6)
theorem open_cfg {t t0 t7 e7:TypeId} {v:Value} {d:DataW H} {ps:List MemPlace} {r:Reach} {b0:Nat} (ht:isStT P t = true) (hfs:stF P t = [(t0,0),(t0,1),(t0,2),(t0,3),(t0,4),(t0,5),(t0,6),(t7,7)])
  (h0:P.underlying t0 = some (.int .i64)) (h7:P.underlying t7 = some (.slice e7)) (he:P.underlying e7 = some (.int .u32)) (hce:P.cellsOf e7 = 1) (hc0:P.cellsOf t0 = 1) (hc7:P.cellsOf t7 = 1) (hct:P.cellsOf t = 8) (hcell:P.cellTypes P.depth t = some [t0,t0,t0,t0,t0,t0,t0,t7])
  (hval:Value.okWide P W r b0 t v) (hd:DataW.Trod enc P W base sp held t v d ps) (hlt:Light P t d) :
  ∃ (c0 c1 c2 c3 c4 c5 c6:Int) (s:Sl) (l:List Int),v = .agg #[.int .i64 c0,.int .i64 c1,.int .i64 c2,.int .i64 c3,.int .i64 c4,.int .i64 c5,.int .i64 c6,.slice s.a s.n s.c] /\ okK .i64 c1 /\ ReadsR W s (Rec.int .u32) l:=by
 obtain ⟨fs,hu⟩:∃ fs,P.underlying t = some (.struct fs):=by
  unfold isStT at ht
  split at ht
  ·exact ⟨_,by assumption⟩
  ·cases ht
 simp only [Value.okWide,hu] at hval
 obtain ⟨cs,rfl,hsz,ts,hts,_,hcs⟩:=hval
 rw [hcell] at hts
 cases hts
 obtain ⟨fuel,hf⟩:=hd
 obtain ⟨hl,hp⟩:=trod_st hu hf hlt
 rw [hct] at hl hsz
 rw [hfs] at hp
 obtain ⟨l,rfl⟩:∃ l:List Value,cs = l.toArray:=⟨cs.toList,by simp⟩
 have hl:l.length = 8:=by simpa using hsz
 match l,hl with
 | [v0,v1,v2,v3,v4,v5,v6,v7],_=>
  obtain ⟨f0,x0,e0,g0⟩:=hp (t0,0) (by simp)
  obtain ⟨f1,x1,e1,g1⟩:=hp (t0,1) (by simp)
  obtain ⟨f2,x2,e2,g2⟩:=hp (t0,2) (by simp)
  obtain ⟨f3,x3,e3,g3⟩:=hp (t0,3) (by simp)
  obtain ⟨f4,x4,e4,g4⟩:=hp (t0,4) (by simp)
  obtain ⟨f5,x5,e5,g5⟩:=hp (t0,5) (by simp)
  obtain ⟨f6,x6,e6,g6⟩:=hp (t0,6) (by simp)
  obtain ⟨f7,x7,e7',g7⟩:=hp (t7,7) (by simp)
  simp only [Value.cells,hc0,hc7,List.drop_zero,List.drop_succ_cons,List.take_succ_cons,List.take_zero] at e0 e1 e2 e3 e4 e5 e6 e7'
  obtain ⟨n0,k0,_,w0⟩:=DataW.trod_int h0 e0
  obtain ⟨n1,k1,_,w1⟩:=DataW.trod_int h0 e1
  obtain ⟨n2,k2,_,w2⟩:=DataW.trod_int h0 e2
  obtain ⟨n3,k3,_,w3⟩:=DataW.trod_int h0 e3
  obtain ⟨n4,k4,_,w4⟩:=DataW.trod_int h0 e4
  obtain ⟨n5,k5,_,w5⟩:=DataW.trod_int h0 e5
  obtain ⟨n6,k6,_,w6⟩:=DataW.trod_int h0 e6
  obtain ⟨u,hu7,hok⟩:=hcs 7 v7 (by simp)
  have hu7:t7 = u:=by simpa using hu7
  subst hu7
  obtain ⟨s,l,hv,hr⟩:=trod_int rfl hok h7 he hce e7' g7
  simp only [List.cons.injEq,and_true] at k0 k1 k2 k3 k4 k5 k6
  subst k0 k1 k2 k3 k4 k5 k6 hv
  exact ⟨n0,n1,n2,n3,n4,n5,n6,s,l,rfl,w1,hr⟩
end
end Go.Hb
namespace Go.Proofs.YtmefopmnjncdbaaGreat
open Go.ChangeShapes Go.WideShapes Go.RowKit Go.ChangeMaps Go.Hb
set_option maxRecDepth 100000 in
theorem judgeRight_lifted (os:Os) (started:os.Started) (H:Type) (enc:TypeId × Value -> H) :
  ReturnsInHanded {} Tryz.checked os 3 .any (Rows.judgeRightSpec.pre6 enc Tryz.prog Tryz.f3 Rows.judgeRightRow.domain false) (Rows.judgeRightSpec.post enc Tryz.prog Tryz.f3 false true false false):=by
 refine law_lifted (C:=Tryz.checked) (by kernel_rfl) started (by kernel_rfl) Tryz.func3
  (ChangeSpec.witness6 (enc:=enc) (C:=Tryz.checked) (s:=Rows.judgeRightSpec) false ⟨#[],#[.agg #[.int .i64 0,.int .i64 0,.int .i64 0,.int .i64 0,.int .i64 0,.int .i64 0,.int .i64 0,.slice none 0 0],.slice none 0 0,.int .i64 0],[]⟩ 8 (by kernel_rfl) (by kernel_rfl) (by kernel_rfl) (by kernel_rfl)) rfl rfl (by kernel_rfl) (by kernel_rfl) ?_
 intro W base args ds p hval hA hwt
 obtain ⟨v0,vs0,d0,ds0,p0,q0,hargs,rfl,rfl,h0,r0⟩:=trodAll_cons (ts:=[_,_]) hA
 obtain ⟨v1,vs1,d1,ds1,p1,q1,rfl,rfl,rfl,h1,r1⟩:=trodAll_cons r0
 obtain ⟨v2,vs2,d2,ds2,p2,q2,rfl,rfl,rfl,h2,r2⟩:=trodAll_cons r1
 obtain ⟨rfl,rfl,rfl⟩:=trodAll_nil r2
 obtain rfl:args = #[v0,v1,v2]:=by cases args; simp_all
 obtain ⟨c0_0,c0_1,c0_2,c0_3,c0_4,c0_5,c0_6,s0,l0,rfl,w0,hr0⟩:=open_cfg (t0:=3) (t7:=22) (e7:=171) (by kernel_rfl) (by kernel_rfl) (by kernel_rfl) (by kernel_rfl) (by kernel_rfl) (by kernel_rfl) (by kernel_rfl) (by kernel_rfl) (by kernel_rfl) (by kernel_rfl) (hval 0 _ v0 rfl rfl) h0 (light_each hwt (j:=0) rfl rfl)
 obtain ⟨s1,rows1,rfl,hn1,hm1,hr1,ho1⟩:=open_slc (e:=39) (ks:=[.int .i64,.str,.str,.int .i64]) (by kernel_rfl) (by kernel_rfl) (by kernel_rfl) (by decide) (hval 1 _ v1 rfl rfl) h1 (light_each hwt (j:=1) rfl rfl)
 obtain ⟨l1,hr1,hl1,hw1⟩:=arg_rec opR OpOk of_op (by decide) (by decide) hr1 ho1
 have hc1:l1.length * 48 <= reachBytes:=by rw [hl1,<- hn1]; have e:Tryz.checked.prog.bytesOf 39 = 48:=(by kernel_rfl); rw [e] at hm1; exact hm1
 obtain ⟨a2,rfl,rfl,rfl,w2⟩:=open_int (k:=.i64) (by kernel_rfl) (hval 2 _ v2 rfl rfl) h2
 exact ⟨⟨rfl,rfl,rfl⟩,jright_walk (ops:=l1) (tape:=l0) hw1 w0⟩
theorem judgeRight:Rows.JudgeRightSaid:=
 OpenClaim.holds_of_wide 3 Tryz.f3 rfl rfl rfl rfl rfl rfl rfl ⟨rfl,rfl,rfl,rfl,rfl⟩ rfl rfl rfl rfl rfl (by kernel_rfl) Tryz.func3 (by kernel_rfl)
  (of_decide_eq_true (by kernel_rfl)) (by unfold Func.isWrapper; first | (rw [if_pos (by decide +kernel)]; kernel_rfl) | (rw [if_neg (by decide +kernel)]; exact ⟨rfl,rfl⟩))
  (fun os started H enc _=>judgeRight_lifted os started H enc)
end Go.Proofs.YtmefopmnjncdbaaGreat
